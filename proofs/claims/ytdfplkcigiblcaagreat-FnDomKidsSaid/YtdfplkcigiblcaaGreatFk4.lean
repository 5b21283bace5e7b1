/-
  Contracts and lemmas that the card needs, part 4.
-/
import Derived.Test.YtdfplkcigiblcaaGreatFk3
import Derived.Test.YtdfplkcigiblcaaGreatRows
namespace Go.Proofs.YtdfplkcigiblcaaGreat
open Go Go.Aw
set_option maxRecDepth 100000
abbrev cR:FuncId:=54
abbrev bv:FuncId:=104
abbrev be:FuncId:=105
abbrev im:FuncId:=95
abbrev eX:FuncId:=168
abbrev cP:FuncId:=169
abbrev iE:FuncId:=153
abbrev fh:FuncId:=154
abbrev iG:FuncId:=141
abbrev cS:FuncId:=96
abbrev dk:FuncId:=125
abbrev dC:FuncId:=152
abbrev iL:FuncId:=140
abbrev dW:FuncId:=124
abbrev iQ:FuncId:=118
abbrev bx:FuncId:=179
abbrev eW:FuncId:=183
abbrev bf:FuncId:=172
abbrev dM:FuncId:=162
abbrev dz:FuncId:=189
abbrev cd:FuncId:=180
abbrev cG:FuncId:=181
abbrev dX:FuncId:=182
abbrev en:FuncId:=171
abbrev aN:FuncId:=161
abbrev du:FuncId:=143
abbrev gb:FuncId:=194
abbrev gG:FuncId:=190
abbrev jK:FuncId:=184
abbrev dr:FuncId:=191
abbrev jF:FuncId:=185
abbrev bD:FuncId:=173
abbrev eS:FuncId:=192
abbrev eR:FuncId:=197
abbrev dm:FuncId:=195
abbrev eb:FuncId:=196
abbrev cV:FuncId:=193
abbrev eP:FuncId:=186
abbrev bp:FuncId:=174
abbrev lg:FuncId:=163
abbrev cN:FuncId:=175
abbrev jP:FuncId:=164
abbrev dh:FuncId:=144
abbrev eZ:FuncId:=127
abbrev gC:FuncId:=76
abbrev dq:FuncId:=155
abbrev bJ:FuncId:=156
abbrev bh:FuncId:=160
abbrev bm:FuncId:=159
abbrev bF:FuncId:=158
abbrev cW:FuncId:=178
abbrev eM:FuncId:=187
abbrev lz:FuncId:=188
abbrev aV:FuncId:=177
abbrev dK:FuncId:=176
abbrev dV:FuncId:=170
abbrev aY:FuncId:=157
abbrev iy:FuncId:=142
abbrev fb:FuncId:=126
abbrev eT:FuncId:=166
abbrev jL:FuncId:=165
abbrev gw:FuncId:=145
abbrev eI:FuncId:=128
abbrev gf:FuncId:=119
abbrev gn:FuncId:=90
abbrev ed:FuncId:=53
abbrev br:FuncId:=120
abbrev bi:FuncId:=91
abbrev cn:FuncId:=121
abbrev bM:FuncId:=93
abbrev eU:FuncId:=61
abbrev dE:FuncId:=94
abbrev cX:FuncId:=92
abbrev cJ:FuncId:=55
abbrev cw:FuncId:=100
abbrev nu:FuncId:=101
abbrev lu:FuncId:=102
abbrev ll:FuncId:=64
abbrev gU:FuncId:=98
abbrev dS:FuncId:=57
abbrev cx:FuncId:=97
abbrev ja:FuncId:=59
abbrev fX:FuncId:=19
abbrev cz:FuncId:=99
abbrev iZ:FuncId:=20
abbrev eD:FuncId:=23
abbrev eO:FuncId:=66
abbrev fu:FuncId:=26
abbrev aL:FuncId:=106
abbrev bU:FuncId:=67
abbrev cy:FuncId:=74
abbrev cD:FuncId:=68
abbrev eG:FuncId:=27
abbrev jS:FuncId:=69
abbrev dN:FuncId:=70
abbrev di:FuncId:=107
abbrev cr:FuncId:=108
abbrev da:FuncId:=72
abbrev gk:FuncId:=33
abbrev fB:FuncId:=73
abbrev fS:FuncId:=34
abbrev dg:FuncId:=35
abbrev dG:FuncId:=38
abbrev eL:FuncId:=77
abbrev ee:FuncId:=39
abbrev fR:FuncId:=78
abbrev gM:FuncId:=40
abbrev jt:FuncId:=10
@[reducible] def qa(a:Nat)(b:Option (Nat × Bool))(c:AI):CO:=⟨some a,b,c⟩
@[reducible] def qb(a:Nat)(b:AI):CO:=qa a none b
@[reducible] def qc(a:Nat)(b:AOp):CO:=qb a (.mov b)
@[reducible] def qd(a:IntKind)(b:Int):AV:= .p (.int a b)
@[reducible] def qe(a:List CO)(b:AK):AK:= .seq (.reg a) b
@[reducible] def qf(a b:Nat):CO:=qc a (.t b)
@[reducible] def qg(a:Int):AV:=qd .i64 a
@[reducible] def qh(a b:Nat):AI:= .fldA a (.t b)
@[reducible] def qi(a:Nat)(b:Nat × Bool)(c:AI):CO:=qa a (some b) c
@[reducible] def qj(a:Int):AOp:= .c (qg a)
@[reducible] def qk(a:Option Nat)(b:Nat):AI:= .ld a (.t b)
@[reducible] def ql(a:BinOp)(b:Nat)(c:AOp):AI:= .bin a (.t b) c
@[reducible] def qm(a:Nat):AI:=qk none a
@[reducible] def qn(a:Nat)(b:FuncId)(c:List AOp):CO:=qb a (.call b c)
@[reducible] def qo(a:Option (Nat × Bool))(b:AI):CO:=⟨none,a,b⟩
@[reducible] def qp(a b c:Nat):CO:=qb a (qh b c)
@[reducible] def qt(a b:Nat):CO:=qb a (qm b)
@[reducible] def qu(a:Nat)(b c:AK):AK:= .cond (.t a) b c
@[reducible] def qv(a:AI):CO:=qo none a
@[reducible] def qw(a:Bool):AV:= .p (.bool a)
@[reducible] def qx:AV:=qg 0
@[reducible] def qy(a:Nat)(b:BinOp)(c:Nat)(d:AOp):CO:=qb a (ql b c d)
@[reducible] def qz(a:Nat):AI:= .nilck (.t a)
@[reducible] def qA(a:Option Nat)(b c:Nat):CO:=qv (.chk a b c)
@[reducible] def qB:AV:=qw false
@[reducible] def qC(a:List CO)(b c:AK):AK:= .seq (qe a b) c
@[reducible] def qD(a:Nat)(b:BinOp)(c:Nat)(d:Int):CO:=qy a b c (qj d)
@[reducible] def qF(a b:Nat)(c:AOp):AI:= .idxS a (.t b) c
@[reducible] def qG(a:AOp):AI:= .len false a
@[reducible] def qH(a:List CO):AK:=qe a .ret
@[reducible] def qI(a b:Nat)(c:Bool)(d:AI):CO:=qi a (b,c) d
@[reducible] def qJ(a b:Nat)(c:AI):CO:=qI a b false c
@[reducible] def qK(a b:Nat)(c:AI):CO:=qI a b true c
@[reducible] def qL(a b:Nat)(c:List AV)(d:Nat)(e:List (Nat × Nat × AOp)):CO:=qb a (.bsl b c d e)
@[reducible] def qM(a:Nat)(b c:AOp):CO:=qv (.st a b c)
@[reducible] def qN(a:Nat)(b c:AOp):AI:= .pick (.t a) b c
@[reducible] def qO(a:List UInt8):AV:= .p (.str a)
@[reducible] def qP(a b:Nat):CO:=qA none a b
@[reducible] def qQ:AOp:=qj 0
@[reducible] def qR(a b:Nat)(c:AOp):CO:=qM a (.t b) c
@[reducible] def qS(a:Nat):AI:= .mov (.t a)
@[reducible] def qT(a b c:Nat):CO:=qR a b (.t c)
@[reducible] def qU(a b:Nat):AI:=qk (some a) b
@[reducible] def qV(a:Nat)(b:AK):AK:= .blk a (.loop b)
@[reducible] def qW:AOp:= .c qB
@[reducible] def qX(a:Nat):AI:=qG (.t a)
@[reducible] def qY(a b:List CO)(c:AK):AK:=qe a (qe b c)
@[reducible] def qZ(a b:Nat):CO:=qb a (qz b)
@[reducible] def wa(a:Nat)(b:List AV):CO:=qb a (.alloc b)
@[reducible] def wb(a:Nat)(b:AK):AK:=qu a b .skip
@[reducible] def wd(a:Nat)(b c:AK):AK:= .seq (.blk a b) c
@[reducible] def we(a b c:Nat):AI:=qF a b (.t c)
@[reducible] def wg(a:Nat):CO:=qf a 0
@[reducible] def wh(a b:Nat):CO:=qb a (qX b)
@[reducible] def wi(a:Nat)(b:List AOp):CO:=qn a bv b
@[reducible] def wj(a:List CO)(b c:OT):OT:= .alt (.one a b) c
@[reducible] def wl(a:Nat)(b:AK)(c:Nat):AK:=qu a b (.exit c)
@[reducible] def wm:AV:=qO []
@[reducible] def wn(a:Nat)(b:BinOp)(c d:Nat):CO:=qy a b c (.t d)
@[reducible] def wo(a b c d:Nat):CO:=qb a (we b c d)
@[reducible] def wq(a b c:Nat):CO:=qb a (qU b c)
@[reducible] def wt(a b c:Nat):Nat × Nat × AOp:=(a,b,.t c)
@[reducible] def wu(a:Nat)(b:AK)(c:List CO):AK:=wd a b (.reg c)
@[reducible] def wv:AV:=qw true
@[reducible] def ww(a:Nat)(b:List AV)(c:List (Nat × Nat × AOp)):CO:=qb a (.bld b c)
@[reducible] def wx(a b:Nat)(c d:AOp):CO:=qb a (qN b c d)
@[reducible] def wy(a b:Nat):AK:=wl a .skip b
@[reducible] def wz(a:Nat)(b:List CO):AK:=wb a (qH b)
@[reducible] def wA(a:Nat):AI:= .not (.t a)
@[reducible] def wB(a:Nat)(b:List AOp):CO:=qn a be b
@[reducible] def wC(a b c:Nat)(d:AOp):AI:= .app a b (.t c) d
@[reducible] def wD(a b:Nat):AI:= .box a (.t b)
@[reducible] def wE(a:Nat)(b:AOp):List CO:=[qc a b]
@[reducible] def wF(a b:Nat):Nat × Nat × AOp:=wt a 1 b
@[reducible] def wG(a b:Nat)(c:Int):CO:=qD a .add b c
@[reducible] def wH:AOp:= .c wv
@[reducible] def wI(a:List CO)(b:AK)(c:List CO):AK:=qC a b (qH c)
@[reducible] def wJ(a b c:Nat):CO:=wn a .lss b c
@[reducible] def wK:AOp:=qj 1
@[reducible] def wL(a b:Nat)(c:Int):CO:=qD a .eql b c
@[reducible] def wM(a:Nat)(b:AOp):List AOp:=[.t a,b]
@[reducible] def wN(a b:Nat):List AOp:=wM a (.t b)
@[reducible] def wO(a b c:Nat):CO:=qK a b (qm c)
@[reducible] def wP(a b c d:Nat):AI:=wC a b c (.t d)
@[reducible] def wQ(a b c:Nat):CO:=qb a (wD b c)
@[reducible] def wR(a b c:Nat):CO:=qJ a b (qS c)
@[reducible] def wS(a b c:Nat):CO:=qK a b (qS c)
@[reducible] def wT(a b c d e:Nat):CO:=qb a (wP b c d e)
@[reducible] def wU(a:Nat)(b:FuncId)(c d:Nat):CO:=qn a b (wN c d)
@[reducible] def wV(a b:Nat)(c:AOp):AK:=wz a (wE b c)
@[reducible] def wW(a:Nat)(b:List CO)(c d:AK):AK:=qV a (qC b c d)
@[reducible] def wX(a:List CO)(b:OT):OT:=wj a b .tru
@[reducible] def wY(a:Nat)(b:List CO)(c d:Nat)(e:AK):AK:=wW a b (wy c d) e
@[reducible] def wZ(a:Nat):CO:=qf a 5
@[reducible] def xa(a:Nat):List CO:=wE a qQ
@[reducible] def xb(a:Nat)(b:List CO)(c d e:Nat)(f:AK)(g:List CO):AK:=wY a b c d (wu e f g)
@[reducible] def xc(a b:Nat)(c:AOp)(d:Nat):CO:=wx a b c (.t d)
@[reducible] def xd(a b c:Nat):CO:=qJ a b (qm c)
@[reducible] def xe(a:Nat)(b:List AOp):CO:=qn a bF b
@[reducible] def xf(a:List AOp):AI:= .call im a
@[reducible] def xg:AOp:= .c .nils
@[reducible] def xh(a:Nat):List AOp:=[.t a]
@[reducible] def xi(a:Nat)(b:FuncId)(c:Nat):CO:=qn a b (xh c)
@[reducible] def xj(a b c:Nat)(d:AOp):CO:=wx a b (.t c) d
@[reducible] def xk(a:Nat):CO:=qf a 6
@[reducible] def xl(a b:Nat)(c:Int):Nat × Nat × AOp:=(a,b,qj c)
@[reducible] def xm(a:Nat)(b:Int):Nat × Nat × AOp:=xl a 1 b
@[reducible] def xo(a b:Nat):CO:=qp a 0 b
@[reducible] def xp(a b c d:Nat):CO:=qK a b (qh c d)
@[reducible] def xq(a b:Nat)(c:Int):CO:=qD a .sub b c
@[reducible] def xr(a:CO)(b c:Nat):List CO:=[a,qf b c]
@[reducible] def xt(a b:Nat):CO:=qp a 2 b
@[reducible] def xu(a b:Nat):CO:=xi a bJ b
@[reducible] def xv(a b c d:Nat):CO:=qJ a b (qh c d)
@[reducible] def xx(a b:Nat)(c:BinOp)(d:Nat)(e:AOp):CO:=qK a b (ql c d e)
@[reducible] def xy(a:Nat):CO:=qf a 4
@[reducible] def xz(a:Nat)(b:List AOp):CO:=qn a bh b
@[reducible] def xA(a b:Nat):RV:= .c a (some b)
@[reducible] def xB(a:Nat):List RV:=[.t a]
@[reducible] def xC(a b:Nat):CO:=qT 1 a b
@[reducible] def xD(a:Nat)(b:Int):List AOp:=wM a (qj b)
@[reducible] def xE:List AV:=[qx]
@[reducible] def xF(a b c:Nat)(d:List (Nat × Nat × AOp)):CO:=qL a b xE c d
@[reducible] def xG(a b:Nat):CO:=qp a 1 b
@[reducible] def xH(a:CO)(b c:Nat)(d:AK):AK:=qe (xr a b c) d
@[reducible] def xI(a:Nat):CO:=qf a 1
@[reducible] def xJ:List RV:=xB 4
@[reducible] def xK(a:List CO)(b c:AK):AK:= .cut (qe a b) c
@[reducible] def xL(a b:List CO)(c:AK)(d:List CO):AK:=qe a (wI b c d)
@[reducible] def xM(a b:List CO):AK:=qe a (qH b)
@[reducible] def xN(a b:Nat):CO:=qb a (wA b)
@[reducible] def xO:List RV:=xB 2
@[reducible] def xP:List AV:=[.nils]
@[reducible] def xQ(a b:Nat):CO:=xi a bm b
@[reducible] def xR(a b:CO)(c d:Nat):List CO:=[a,b,qf c d]
@[reducible] def xS(a:Nat)(b:List CO)(c d e:Nat)(f:AK)(g h:CO)(i j:Nat):AK:=xb a b c d e f (xR g h i j)
@[reducible] def xT(a:Nat)(b:List CO)(c d e:Nat)(f:AK)(g:CO)(h i:Nat)(j:Int)(k l:Nat):AK:=xS a b c d e f g (wG h i j) k l
@[reducible] def xU(a:List AOp):AI:= .call bv a
@[reducible] def xV(a:Nat):Nat × Nat × AOp:=wF 0 a
@[reducible] def xW(a b c:Nat):CO:=xc a b wH c
@[reducible] def xX(a:Nat)(b:List AOp):CO:=qn a dM b
@[reducible] def xY(a:Nat)(b:List AOp):CO:=qn a im b
@[reducible] def xZ(a:Nat)(b:List CO):AK:=wb a (.reg b)
@[reducible] def x9(a b:Nat)(c:List AV)(d:Nat)(e:List (Nat × Nat × AOp)):CO:=qb a (.bslP b c d e)
@[reducible] def ya(a b:Nat)(c:BinOp)(d:Nat)(e:AOp):CO:=qJ a b (ql c d e)
@[reducible] def yb(a b c:Nat):CO:=xj a b c qW
@[reducible] def yc(a b:Nat)(c:List (Nat × Nat × AOp)):CO:=xF a 1 b c
@[reducible] def ye(a:Nat):CO:=qf a 7
@[reducible] def yf(a:Nat):CO:=qf a 3
@[reducible] def yg(a b:Nat):AK:=wV a b qW
@[reducible] def yh(a:Nat):CO:=qP a 10
@[reducible] def yi:CO:=yh 9
@[reducible] def yj(a:Nat):CO:=qP 11 a
@[reducible] def yk:CO:=yj 12
@[reducible] def yl(a b:Nat)(c:Int)(d e:Nat)(f:AK):AK:=xH (wL a b c) d e f
@[reducible] def ym(a b:AV):List AV:=[a,b,.nils]
@[reducible] def yn(a:Nat)(b c:AV):CO:=wa a (ym b c)
@[reducible] def yp(a b c:Nat):CO:=wB a (wN b c)
@[reducible] def yq(a:Nat):CO:=qc a qQ
@[reducible] def yr(a:List UInt8):AOp:= .c (qO a)
def kV:FK:=⟨11,xO,xL (wE 2 (.c .nilp)) [wg 3,wh 4 3,qD 5 .gtr 4 2000] (xZ 5 (xR (wg 6) (qb 7 (.slS 1 (.t 6) none (some (qj 2000)))) 0 7)) [wg 8,ww 9 [.nils,qx] [xV 8],wQ 10 2 9,qf 2 10]⟩
theorem rF:aq Tryz.prog cR=some kV:=by kernel_rfl
def cH:FK:=⟨99,xJ,qY (xa 4) [wg 7,wg 8,qZ 9 8,xG 10 9,qt 11 10,wG 12 11 1,qZ 13 7,xG 14 13,xC 14 12] (qC [xI 15,qD 16 .lss 15 1,qf 17 16,wR 18 17 0,qJ 19 17 (qz 18),xv 20 17 0 19,xd 21 17 20,qJ 22 17 (qX 21),ya 23 17 .eql 22 qQ,xW 24 17 23] (wV 24 4 qQ) (qe [wg 25,qZ 26 25,xG 27 26,qt 28 27,xq 29 28 1,qf 5 29] (qC [wZ 30,wg 31,qZ 32 31,xo 33 32,qt 34 33,wh 35 34,wJ 36 30 35] (wz 36 [wg 37,qZ 38 37,xo 39 38,qt 40 39,wZ 41,wo 42 1 40 41,qt 43 42,qb 44 (.conv .i64 (.t 43)),xI 45,wn 46 .rem 44 45,qf 4 46]) (qY [wg 47,qZ 48 47,xo 49 48,wZ 51,wg 52,qZ 53 52,xo 54 53,wg 62,qZ 63 62,xo 64 63,wZ 66,qD 67 .mul 66 7,wG 68 67 3,wg 69,qZ 70 69,xo 71 70,wZ 80,qD 81 .mul 80 29,wZ 83,wg 84,qZ 85 84,xo 86 85,qt 50 49,qt 55 54,wh 56 55,wn 57 .rem 51 56,wo 58 1 50 57,qt 59 58,qb 60 (.conv .i64 (.t 59)),qD 61 .mul 60 131,qt 65 64,qt 72 71,wh 73 72,wn 74 .rem 68 73,wo 75 1 65 74,qt 76 75,qb 77 (.conv .i64 (.t 76)),qD 78 .mul 77 1117,wn 79 .add 61 78,wn 82 .add 79 81,qt 87 86,wh 88 87,wn 89 .quo 83 88,qD 90 .mul 89 53,wn 91 .add 82 90,qf 6 91] [xk 92,xk 93,qD 94 .quo 93 64,wn 95 .xor 92 94,qf 6 95] (qH [xk 96,xI 97,wn 98 .rem 96 97,qf 4 98])))))⟩
theorem oF:aq Tryz.prog bv=some cH:=by kernel_rfl
def cY:FK:=⟨12,xJ,xM (xa 4) [xI 5,wg 6,xI 7,wh 8 7,wi 9 (wN 6 8),wo 10 1 5 9,qt 11 10,qf 4 11]⟩
theorem ey:aq Tryz.prog be=some cY:=by kernel_rfl
def kG:FK:=⟨15,xB 6,xM (wE 6 qW) [wg 7,xI 8,wn 9 .geq 7 8,qf 10 9,wS 11 10 0,wS 12 10 2,xx 13 10 .leq 11 (.t 12),yb 14 10 13,qf 6 14]⟩
theorem zW:aq Tryz.prog im=some kG:=by kernel_rfl
def bW:FK:=⟨28,xO,qe (xa 2) (wd 0 (qe [wg 4,wL 5 4 1,wZ 3] (qu 3 (qH (xa 2)) (qe [wg 7,wL 8 7 2,qf 9 8,wR 10 9 0,ya 11 9 .eql 10 (qj 10),xW 12 9 11,qf 13 12,wR 14 13 0,ya 15 13 .eql 14 (qj 11),xW 16 13 15,qf 17 16,wR 18 17 0,ya 19 17 .eql 18 (qj 13),xW 20 17 19,qf 6 20] (qu 6 (qH (wE 2 wK)) (qe [wg 22,xY 23 [.t 22,qj 3,qj 9],qf 24 23,wR 25 24 0,ya 26 24 .eql 25 (qj 12),xW 27 24 26,qf 21 27] (wV 21 2 (qj 2))))))) (qH (wE 2 (qj (-1)))))⟩
theorem tZ:aq Tryz.prog eX=some bW:=by kernel_rfl
def kK:FK:=⟨13,xO,xM (wE 2 qW) [wg 3,xY 4 [.t 3,wK,qj 14],xy 5,wS 6 5 0,xx 7 5 .neq 6 (qj 12),yb 8 5 7,qf 9 8,wS 10 9 0,xx 11 9 .neq 10 (qj 13),yb 12 9 11,qf 2 12]⟩
theorem tz:aq Tryz.prog cP=some kK:=by kernel_rfl
def iB:AK:=qY [wQ 4 1 1,wa 6 [qx,qx,.nils,qx]] [wg 11,yc 12 16 [(0,1,wK),(1,1,wK),xm 2 2,xm 3 3,xm 4 4,xm 5 5,xm 6 8,xm 7 9,xm 8 10,xm 9 13,xm 10 3,xm 11 6,xm 12 7,xm 13 11,xm 14 12,xm 15 14],yp 13 11 12,qf 7 13] (qY [ye 14,wg 15,qf 16 2,wi 17 (wN 15 16),ww 18 [qx,qx,.nils,qx] [xV 14,wF 1 17],wa 8 [qx,qx,.nils,qx],qT 4 8 18] (xR (ye 19) (xi 20 eX 19) 9 20) (xK [ye 21,wL 22 21 14] (wb 22 (qC [xo 23 4,qt 24 23,wh 25 24,wL 26 25 0] (wz 26 [wg 27,qf 28 2,wi 29 (wN 27 28),yc 30 1 [xV 29],ww 31 [qx,qx,.nils,qx] [xm 0 13,xm 1 (-1),wF 2 30],qT 4 6 31]) (qe [wg 32,xo 33 4,qt 34 33,wh 35 34,wi 36 (wN 32 35),qp 37 3 8,xC 37 36] (.reg [xo 38 4,qt 39 38,qp 40 3 8,qt 41 40,wo 42 3 39 41,xo 43 42,qt 44 43,qf 9 44])))) (xK [ye 45,wL 46 45 1] (xZ 46 [wg 47,yc 48 7 [(0,1,qQ),(1,1,wK),xm 2 2,xm 3 3,xm 4 15,xm 5 16,xm 6 255],yp 49 47 48,qp 50 3 8,xC 50 49]) (xK [ye 51,xi 52 cP 51,xN 53 52] (xZ 53 [xG 54 8,qR 1 54 (qj (-1))]) (wI (xa 10) (xT 0 [qf 55 10,qf 56 9,wJ 57 55 56] 57 0 1 (.reg [xt 60 8,wg 62,qf 63 2,qt 61 60,wi 64 (wN 62 63),qP 60 61,x9 65 1 xE 1 [xV 64],wT 66 1 8 61 65,xt 67 8,xC 67 66]) (qf 58 10) 59 58 1 10 59) [wq 68 4 8,qT 4 6 68])))))
def iU:FK:=⟨69,[xA 6 4],(AK.whole iB)⟩
theorem ul:aq Tryz.prog iE=some iU:=by kernel_rfl
def kC:FK:=⟨30,xB 6,xL (xa 6) [xI 7,qf 8 2,xq 9 8 1,wJ 10 7 9,qf 11 10,wS 12 11 0,qK 13 11 (xU (xD 12 4)),xx 14 11 .gtr 13 qQ,yb 15 11 14] (wz 15 [xI 16,wG 17 16 1,wg 18,qf 19 2,xq 20 19 1,xI 21,wn 22 .sub 20 21,wi 23 (wN 18 22),wn 24 .add 17 23,qf 6 24]) [wg 25,qf 26 2,xq 27 26 1,wi 28 (wN 25 27),qb 29 (.bin .add wK (.t 28)),qf 6 29]⟩
theorem At:aq Tryz.prog fh=some kC:=by kernel_rfl
def iC:AK:=qY [wQ 3 1 1,yn 4 qx qx] [wg 10,yc 11 4 [(0,1,wK),(1,1,qQ),xm 2 2,xm 3 3],yp 12 10 11,ww 13 (ym qx qx) [xV 12],yn 5 qx qx,qT 3 5 13] (qY [xo 14 5,wg 17,qt 15 14,wG 16 15 2,wi 18 (xD 17 5),qP 14 15,wn 19 .add 16 18,xG 20 5,xC 20 19] [wg 21,yc 22 6 [xm 0 3,xm 1 5,xm 2 2,(3,1,wK),xm 4 7,xm 5 4],yp 23 21 22,qf 6 23] (wI (xa 7) (xT 0 [ye 24,xk 25,wJ 26 24 25] 26 0 1 (qe [ww 29 [.nils,.nils,qx,qx,.nils] [],wa 8 [.nils,.nils,qx,qx,.nils],qT 5 8 29] (xK [wg 30,yc 31 5 [(0,1,wK),xm 1 2,(2,1,qQ),xm 3 3,xm 4 4],yp 32 30 31,qf 9 32] (xS 2 [qf 33 9,qD 34 .gtr 33 0] 34 2 3 (.reg [xG 37 8,wg 39,xG 41 5,qt 38 37,wq 40 1 3,qt 42 41,qn 43 iE [.t 39,.t 40,.t 42],qP 37 38,qL 44 4 [qx,qx,.nils,qx] 1 [wt 0 4 43],qP 37 38,wT 45 4 48 38 44,xG 46 8,xC 46 45]) (qf 35 9) (xq 36 35 1) 9 36) (qY [wg 47,xG 48 5,qt 49 48,wi 50 (wN 47 49),qp 51 3 8,xC 51 50] [wg 52,yc 53 5 [xm 0 2,(1,1,wK),xm 2 2,(3,1,wK),xm 4 3],yp 54 52 53,xt 55 8,xC 55 54] (xK [xk 56,wL 57 56 1,qf 58 57,wR 59 58 7,wR 60 58 6,ya 61 58 .sub 60 wK,ya 62 58 .eql 59 (.t 61),wR 63 58 62,wS 64 63 0,qK 65 63 (xU (xD 64 3)),xx 66 63 .gtr 65 qQ,qJ 67 58 (qN 63 (.t 66) qW),xW 68 58 67] (xZ 68 [xt 69 8,qR 1 69 (qj 3)]) (xK [xt 70 8,qt 71 70] (.blk 4 (yl 73 71 1 72 73 (qu 72 (qe [qp 74 3 8,qR 1 74 qQ] (.reg [wg 75,ye 76,xk 77,qn 78 fh [.t 75,.t 76,.t 77],yc 79 1 [xV 78],qp 80 4 8,xC 80 79])) (yl 82 71 2 81 82 (xZ 81 [wg 83,ye 84,xk 85,qn 86 fh [.t 83,.t 84,.t 85],wg 87,ye 88,xk 89,qn 90 fh [.t 87,.t 88,.t 89],yc 91 2 [xV 86,wF 1 90],qp 92 4 8,xC 92 91]))))) (.reg [xt 93 5,qt 94 93,wq 95 5 8,qL 96 5 [.nils,.nils,qx,qx,.nils] 1 [wt 0 5 95],wT 97 5 88 94 96,xt 98 5,xC 98 97])))))) (ye 27) 28 27 1 7 28) [wq 99 3 5,qT 3 4 99]))
def iJ:FK:=⟨100,[xA 4 3],(AK.whole iC)⟩
theorem uj:aq Tryz.prog iG=some iJ:=by kernel_rfl
def lB:FK:=⟨43,xJ,qY [wQ 2 3 0,qc 4 xg] (xr (yc 8 0 []) 5 8) (wI (xa 6) (xT 0 [xk 9,xt 10 2,qt 11 10,wh 12 11,wJ 13 9 12] 13 0 1 (qe (xa 7) (xT 2 [ye 16,xt 17 2,qt 18 17,xk 19,wo 20 5 18 19,qp 21 4 20,qt 22 21,wh 23 22,wJ 24 16 23] 24 2 3 (qe [xt 27 2,qt 28 27,xk 29,wo 30 5 28 29,qp 31 4 30,qt 32 31,ye 33,wo 34 1 32 33,qt 35 34,xI 36,wn 37 .eql 35 36] (wb 37 (qe [wZ 38,xk 39,yc 40 1 [xV 39],wT 41 1 8 38 40,qf 5 41] (.exit 2)))) (ye 25) 26 25 1 7 26)) (xk 14) 15 14 1 6 15) (xr (wZ 42) 4 42))⟩
theorem sP:aq Tryz.prog cS=some lB:=by kernel_rfl
def iS:AK:=qY [wa 2 xP] [ww 9 xP [],wa 3 xP,xC 3 9] (xK [wg 10,yc 11 4 [(0,1,wK),xm 1 2,(2,1,wK),xm 3 3],yp 12 10 11,qf 4 12] (xS 0 [xy 13,qD 14 .gtr 13 0] 14 0 1 (.reg [xo 17 3,wg 19,qt 18 17,wq 20 1 3,wU 21 iG 19 20,qP 17 18,qL 22 3 (ym qx qx) 1 [wt 0 3 21],qP 17 18,wT 23 3 40 18 22,xo 24 3,xC 24 23]) (xy 15) (xq 16 15 1) 4 16) (wI [wg 25,yc 26 4 [(0,1,qQ),(1,1,qQ),(2,1,wK),xm 3 3],yp 27 25 26,qf 5 27] (xS 2 [wZ 28,qD 29 .gtr 28 0] 29 2 3 (qY [xo 32 3,wg 34,xo 35 3,qt 33 32,qt 36 35,wh 37 36,wi 38 (wN 34 37),qP 32 33,wo 39 3 33 38,qf 6 39] [wg 40,xk 41,qZ 42 41,xt 43 42,qt 44 43,wh 45 44,wi 46 (wN 40 45),qf 7 46] (qe [wg 47,xk 48,qZ 49 48,xG 50 49,qt 51 50,wi 52 (wN 47 51),ww 53 [qx,.nils] [xV 52],wa 8 [qx,.nils],qT 2 8 53] (xK [xk 54,qZ 55 54,wq 56 3 55,ye 57,wU 58 cS 56 57,wh 59 58,yq 60] (qV 4 (qe [wJ 61 60 59] (.seq (wy 61 4) (wu 5 (.reg [xG 62 8,wg 64,xk 65,qZ 66 65,xG 67 66,qt 63 62,qt 68 67,wi 69 (wN 64 68),qP 62 63,x9 70 1 xE 1 [xV 69],wT 71 1 8 63 70,xG 72 8,xC 72 71]) (xr (wG 73 60 1) 60 73))))) (qe [ye 74,qD 75 .gtr 74 0] (xZ 75 [xk 76,qZ 77 76,xt 78 77,ye 80,xk 81,qZ 82 81,xt 83 82,ye 85,qt 79 78,qt 84 83,wo 86 5 84 85,xo 87 86,qt 88 87,wq 89 2 8,qL 90 2 [qx,.nils] 1 [wt 0 2 89],qP 78 79,qP 83 84,qP 87 88,wT 91 2 32 88 90,qP 78 79,wo 92 5 79 80,xo 93 92,xC 93 91]))))) (wZ 30) (xq 31 30 1) 5 31) [wq 94 1 3,xC 2 94]))
def iT:FK:=⟨95,[xA 2 1],(AK.whole iS)⟩
theorem uc:aq Tryz.prog dk=some iT:=by kernel_rfl
def dB:AK:=qe [wQ 1 5 0,wa 2 [.nils,.nils,qx,qx,.nils]] (.cut (.ot (.one (wE 3 (.c .any)) (.one [xt 9 1] (.one [qp 11 3 1] (.one [qp 14 4 1] (.one [qt 10 9] (.one [qt 12 11] (.one [qt 15 14] (wj [qL 7 2 [qx,.nils] 0 [],yi,yk,qP 14 15] (wj [qL 8 4 [qx,qx,.nils,qx] 0 [],yi,yk,qP 14 15] (wX [yc 13 0 [],yi,yk,qP 14 15] (wX [wT 16 1 8 13 15,yi,yk] (.one [ww 17 [.nils,.nils,qx,qx,.nils] [xV 7,wF 1 8,wF 2 10,wF 3 12,wF 4 16]] (wX [wa 3 [.nils,.nils,qx,qx,.nils]] (wX [qT 5 3 17] .done))))) (wX [yc 13 0 [],yi,yk,qP 14 15] (wj [qL 8 4 [qx,qx,.nils,qx] 0 [],yi,yk,qP 14 15] (wX [wT 16 1 8 13 15,yi,yk] (.one [ww 17 [.nils,.nils,qx,qx,.nils] [xV 7,wF 1 8,wF 2 10,wF 3 12,wF 4 16]] (wX [wa 3 [.nils,.nils,qx,qx,.nils]] (wX [qT 5 3 17] .done)))) (wX [wT 16 1 8 13 15,yi,yk] (wX [qL 8 4 [qx,qx,.nils,qx] 0 [],yi,yk,qP 14 15] (.one [ww 17 [.nils,.nils,qx,qx,.nils] [xV 7,wF 1 8,wF 2 10,wF 3 12,wF 4 16]] (wX [wa 3 [.nils,.nils,qx,qx,.nils]] (wX [qT 5 3 17] .done)))))))) (wj [qL 8 4 [qx,qx,.nils,qx] 0 [],yi,yk,qP 14 15] (wj [qL 7 2 [qx,.nils] 0 [],yi,yk,qP 14 15] (wX [yc 13 0 [],yi,yk,qP 14 15] (wX [wT 16 1 8 13 15,yi,yk] (.one [ww 17 [.nils,.nils,qx,qx,.nils] [xV 7,wF 1 8,wF 2 10,wF 3 12,wF 4 16]] (wX [wa 3 [.nils,.nils,qx,qx,.nils]] (wX [qT 5 3 17] .done))))) (wX [yc 13 0 [],yi,yk,qP 14 15] (wj [qL 7 2 [qx,.nils] 0 [],yi,yk,qP 14 15] (wX [wT 16 1 8 13 15,yi,yk] (.one [ww 17 [.nils,.nils,qx,qx,.nils] [xV 7,wF 1 8,wF 2 10,wF 3 12,wF 4 16]] (wX [wa 3 [.nils,.nils,qx,qx,.nils]] (wX [qT 5 3 17] .done)))) (wX [wT 16 1 8 13 15,yi,yk] (wX [qL 7 2 [qx,.nils] 0 [],yi,yk,qP 14 15] (.one [ww 17 [.nils,.nils,qx,qx,.nils] [xV 7,wF 1 8,wF 2 10,wF 3 12,wF 4 16]] (wX [wa 3 [.nils,.nils,qx,qx,.nils]] (wX [qT 5 3 17] .done)))))))) (wX [yc 13 0 [],yi,yk,qP 14 15] (wj [qL 7 2 [qx,.nils] 0 [],yi,yk,qP 14 15] (wj [qL 8 4 [qx,qx,.nils,qx] 0 [],yi,yk,qP 14 15] (wX [wT 16 1 8 13 15,yi,yk] (.one [ww 17 [.nils,.nils,qx,qx,.nils] [xV 7,wF 1 8,wF 2 10,wF 3 12,wF 4 16]] (wX [wa 3 [.nils,.nils,qx,qx,.nils]] (wX [qT 5 3 17] .done)))) (wX [wT 16 1 8 13 15,yi,yk] (wX [qL 8 4 [qx,qx,.nils,qx] 0 [],yi,yk,qP 14 15] (.one [ww 17 [.nils,.nils,qx,qx,.nils] [xV 7,wF 1 8,wF 2 10,wF 3 12,wF 4 16]] (wX [wa 3 [.nils,.nils,qx,qx,.nils]] (wX [qT 5 3 17] .done)))))) (wj [qL 8 4 [qx,qx,.nils,qx] 0 [],yi,yk,qP 14 15] (wj [qL 7 2 [qx,.nils] 0 [],yi,yk,qP 14 15] (wX [wT 16 1 8 13 15,yi,yk] (.one [ww 17 [.nils,.nils,qx,qx,.nils] [xV 7,wF 1 8,wF 2 10,wF 3 12,wF 4 16]] (wX [wa 3 [.nils,.nils,qx,qx,.nils]] (wX [qT 5 3 17] .done)))) (wX [wT 16 1 8 13 15,yi,yk] (wX [qL 7 2 [qx,.nils] 0 [],yi,yk,qP 14 15] (.one [ww 17 [.nils,.nils,qx,qx,.nils] [xV 7,wF 1 8,wF 2 10,wF 3 12,wF 4 16]] (wX [wa 3 [.nils,.nils,qx,qx,.nils]] (wX [qT 5 3 17] .done)))))) (wX [wT 16 1 8 13 15,yi,yk] (wj [qL 7 2 [qx,.nils] 0 [],yi,yk,qP 14 15] (wX [qL 8 4 [qx,qx,.nils,qx] 0 [],yi,yk,qP 14 15] (.one [ww 17 [.nils,.nils,qx,qx,.nils] [xV 7,wF 1 8,wF 2 10,wF 3 12,wF 4 16]] (wX [wa 3 [.nils,.nils,qx,qx,.nils]] (wX [qT 5 3 17] .done)))) (wX [qL 8 4 [qx,qx,.nils,qx] 0 [],yi,yk,qP 14 15] (wX [qL 7 2 [qx,.nils] 0 [],yi,yk,qP 14 15] (.one [ww 17 [.nils,.nils,qx,qx,.nils] [xV 7,wF 1 8,wF 2 10,wF 3 12,wF 4 16]] (wX [wa 3 [.nils,.nils,qx,qx,.nils]] (wX [qT 5 3 17] .done)))))))))))))))))))) (xK (xa 4) (xT 0 [xy 18,xo 19 1,qt 20 19,wh 21 20,wJ 22 18 21] 22 0 1 (.reg [xo 25 3,xo 27 1,xy 29,xo 34 1,xy 36,qt 26 25,qt 28 27,wo 30 2 28 29,xo 31 30,qt 32 31,qt 35 34,wo 37 2 35 36,xG 38 37,qt 39 38,yc 33 0 [],qP 25 26,qP 27 28,qP 31 32,qP 34 35,qP 38 39,wT 40 1 8 33 39,qP 25 26,qP 27 28,qP 31 32,ww 41 [qx,.nils] [xV 32,wF 1 40],qL 42 2 [qx,.nils] 1 [wt 0 2 41],qP 25 26,wT 43 2 32 26 42,xo 44 3,xC 44 43]) (xy 23) 24 23 1 4 24) (wI (xa 5) (xT 2 [wZ 45,xG 46 1,qt 47 46,wh 48 47,wJ 49 45 48] 49 2 3 (qe [xG 52 1,qt 53 52,wZ 54,wo 55 4 53 54,wq 56 4 55,wa 6 [qx,qx,.nils,qx],qT 4 6 56] (.reg [xG 57 3,xo 59 6,xG 61 6,xt 64 6,qp 67 3 6,qt 58 57,qt 60 59,qt 62 61,qt 65 64,qt 68 67,yc 63 0 [],qP 57 58,qP 59 60,qP 61 62,qP 64 65,qP 67 68,wT 66 1 8 63 65,qP 57 58,qP 59 60,qP 61 62,qP 67 68,ww 69 [qx,qx,.nils,qx] [xV 60,wF 1 62,wF 2 66,wF 3 68],qL 70 4 [qx,qx,.nils,qx] 1 [wt 0 4 69],qP 57 58,wT 71 4 48 58 70,xG 72 3,xC 72 71])) (wZ 50) 51 50 1 5 51) [wq 73 5 3,qT 5 2 73])))
def dx:FK:=⟨74,[xA 2 5],(AK.whole dB)⟩
theorem mD:aq Tryz.prog dC=some dx:=by kernel_rfl
def lV:FK:=⟨29,[xA 2 3],qY [wQ 1 3 0,yn 2 qx qx] [xo 5 1,qt 6 5,xG 7 1,qt 8 7,ww 9 (ym qx qx) [xV 6,wF 1 8],yn 3 qx qx,qT 3 3 9] (wI (xa 4) (xT 0 [xy 10,xt 11 1,qt 12 11,wh 13 12,wJ 14 10 13] 14 0 1 (.reg [xt 17 3,xt 19 1,xy 21,qt 18 17,qt 20 19,wo 22 5 20 21,wq 23 5 22,xi 24 dC 23,qP 17 18,qL 25 5 [.nils,.nils,qx,qx,.nils] 1 [wt 0 5 24],qP 17 18,wT 26 5 88 18 25,xt 27 3,xC 27 26]) (xy 15) 16 15 1 4 16) [wq 28 3 3,qT 3 2 28])⟩
theorem tP:aq Tryz.prog iL=some lV:=by kernel_rfl
def iv:FK:=⟨25,[xA 2 1],qY [wQ 1 1 0,wa 2 xP] [ww 5 xP [],wa 3 xP,xC 3 5] (wI (xa 4) (xT 0 [xy 6,xo 7 1,qt 8 7,wh 9 8,wJ 10 6 9] 10 0 1 (.reg [xo 13 3,xo 15 1,xy 17,qt 14 13,qt 16 15,wo 18 3 16 17,wq 19 3 18,xi 20 iL 19,qP 13 14,qL 21 3 (ym qx qx) 1 [wt 0 3 20],qP 13 14,wT 22 3 40 14 21,xo 23 3,xC 23 22]) (xy 11) 12 11 1 4 12) [wq 24 1 3,xC 2 24])⟩
theorem oB:aq Tryz.prog dW=some iv:=by kernel_rfl
def iI:AK:=qY [wa 2 xP] [wg 7,xi 8 dk 7,xi 9 dW 8,wa 3 xP,xC 3 9] (qY [xo 10 3,wg 12,xo 13 3,qt 11 10,qt 14 13,wh 15 14,wi 16 (wN 12 15),qP 10 11,wo 17 3 11 16,qf 4 17] [xy 18,qZ 19 18,xt 20 19,wg 22,xy 23,qZ 24 23,xt 25 24,qt 21 20,qt 26 25,wh 27 26,wi 28 (wN 22 27),qP 20 21,wo 29 5 21 28,qf 5 29] (qe [wg 30,xy 31,qZ 32 31,xG 33 32,xy 35,qZ 36 35,xt 37 36,qt 34 33,qt 38 37,wh 39 38,yc 40 5 [xm 0 (-1),wF 1 34,wF 2 39,(3,1,qQ),(4,1,wK)],yp 41 30 40,qf 6 41] (xK [wg 42,wi 43 (xD 42 32)] (.blk 0 (yl 45 43 0 44 45 (qu 44 (.reg [wZ 46,wg 47,wi 48 (xD 47 5),qZ 49 46,xt 50 49,xC 50 48]) (yl 52 43 1 51 52 (qu 51 (qe [wZ 53,qZ 54 53,qp 55 4 54,qt 56 55,wh 57 56,qD 58 .gtr 57 0] (xZ 58 [wZ 59,qZ 60 59,qp 61 4 60,qt 62 61,xk 63,qb 64 (qF 1 62 qQ),xC 64 63])) (yl 66 43 2 65 66 (qu 65 (.reg [wZ 67,xk 68,qZ 69 67,qp 70 3 69,xC 70 68]) (yl 72 43 3 71 72 (qu 71 (qe [wZ 73,qZ 74 73,xG 75 74,qt 76 75,wh 77 76,qD 78 .gtr 77 0] (xZ 78 [wZ 79,qZ 80 79,xG 81 80,qt 82 81,xk 83,qb 84 (qF 4 82 qQ),xG 85 84,xC 85 83])) (yl 87 43 4 86 87 (qu 86 (qe [wZ 88,qZ 89 88,xG 90 89,qt 91 90,wh 92 91,qD 93 .gtr 92 0] (xZ 93 [wZ 94,qZ 95 94,xG 96 95,wZ 98,qZ 99 98,xG 100 99,xk 105,x9 106 1 xE 1 [xV 105],qt 97 96,qt 101 100,qb 102 (qF 4 101 qQ),xt 103 102,qt 104 103,wT 107 1 8 104 106,qP 96 97,qb 108 (qF 4 97 qQ),xt 109 108,xC 109 107])) (yl 111 43 5 110 111 (qu 110 (.reg [wZ 112,wZ 113,qZ 114 113,xo 115 114,qt 116 115,xk 117,yc 118 1 [xV 117],ww 119 [qx,.nils] [(0,1,qQ),wF 1 118],qL 120 2 [qx,.nils] 1 [wt 0 2 119],wT 121 2 32 116 120,qZ 122 112,xo 123 122,xC 123 121]) (yl 125 43 6 124 125 (qu 124 (.reg [xy 126,xy 127,qZ 128 127,xo 129 128,wg 131,qt 130 129,wi 132 (xD 131 2),qP 129 130,wn 133 .add 130 132,qZ 134 126,xG 135 134,xC 135 133]) (yl 137 43 7 136 137 (wb 136 (qe [wZ 138,qZ 139 138,xG 140 139,qt 141 140,wh 142 141,qD 143 .gtr 142 0] (xZ 143 [wZ 144,qZ 145 144,xG 146 145,wg 148,x9 149 1 xE 3 [xm 0 256,xm 1 (-1),(2,1,wK)],qt 147 146,yp 150 148 149,qP 146 147,qb 151 (qF 4 147 qQ),qp 152 3 151,xC 152 150]))))))))))))))))))) (qH [wq 153 1 3,xC 2 153]))))
def iF:FK:=⟨154,[xA 2 1],(AK.whole iI)⟩
theorem tX:aq Tryz.prog iQ=some iF:=by kernel_rfl
def fx:FK:=⟨12,xJ,xM (wE 4 (.c wm)) [xI 5,wg 6,xI 7,wh 8 7,wi 9 (wN 6 8),wo 10 1 5 9,qt 11 10,qf 4 11]⟩
theorem jY:aq Tryz.prog bx=some fx:=by kernel_rfl
def iO:FK:=⟨21,[xA 4 4],xL [wa 4 [qx,qx,wm,.nils]] [xI 5,wh 6 5,wL 7 6 0,ye 8,wR 9 8 0,qJ 10 8 (xU (xD 9 3)),ya 11 8 .eql 10 qQ,xW 12 8 11] (wz 12 [wg 13,yc 14 10 [(0,1,qQ),(1,1,wK),xm 2 2,xm 3 3,xm 4 5,xm 5 7,xm 6 15,xm 7 16,xm 8 100,xm 9 255],yp 15 13 14,ww 16 [qx,qx,wm,.nils] [(0,1,wK),wF 1 15],qT 4 4 16]) [wg 17,xI 18,wU 19 bx 17 18,ww 20 [qx,qx,wm,.nils] [xm 0 2,wF 2 19],qT 4 4 20]⟩
theorem tM:aq Tryz.prog eW=some iO:=by kernel_rfl
def fc:FK:=⟨47,[xA 6 4],qe [wa 6 [qx,qx,wm,.nils]] (qC [qf 8 2,qD 9 .lss 8 2,qf 10 9,wR 11 10 0,qJ 12 10 (xU (xD 11 4)),ya 13 10 .eql 12 qQ,xW 14 10 13] (wz 14 [wg 15,xI 16,wU 17 eW 15 16,qT 4 6 17]) (qC [wg 18,wi 19 (xD 18 7),wL 20 19 0] (wz 20 [wg 21,yc 22 3 [xm 0 11,xm 1 12,xm 2 11],yp 23 21 22,wg 24,xI 25,qf 26 2,xq 27 26 1,qn 28 bf [.t 24,.t 25,.t 27],qL 29 4 [qx,qx,wm,.nils] 1 [wt 0 4 28],ww 30 [qx,qx,wm,.nils] [xV 23,wF 3 29],qT 4 6 30]) (xM [wg 31,yc 32 9 [xm 0 3,xm 1 3,xm 2 4,xm 3 5,xm 4 6,xm 5 7,xm 6 8,xm 7 9,xm 8 10],yp 33 31 32,qf 7 33] [ye 34,wg 35,xI 36,qf 37 2,xq 38 37 1,qn 39 bf [.t 35,.t 36,.t 38],wg 40,xI 41,qf 42 2,xq 43 42 1,qn 44 bf [.t 40,.t 41,.t 43],qL 45 4 [qx,qx,wm,.nils] 2 [wt 0 4 39,wt 4 4 44],ww 46 [qx,qx,wm,.nils] [xV 34,wF 3 45],qT 4 6 46])))⟩
theorem mb:aq Tryz.prog bf=some fc:=by kernel_rfl
def ii:FK:=⟨99,[xA 4 4],qY [wa 4 [qx,qx,wm,.nils]] [qc 5 (.c .any),wg 9,qZ 10 9,xo 11 10,wg 13,qZ 14 13,xt 15 14,xI 17,qt 12 11,qt 16 15,qn 18 bf [.t 12,.t 16,.t 17],wa 5 [qx,qx,wm,.nils],qT 4 5 18] (qC [wg 19,qZ 20 19,xG 21 20,qt 22 21,wh 23 22,wL 24 23 0,qf 25 24,wR 26 25 0,qJ 27 25 (qz 26),xv 28 25 0 27,xd 29 25 28,qJ 30 25 (xU (xD 29 4)),ya 31 25 .gtr 30 qQ,xW 32 25 31] (wz 32 [wq 33 4 5,qT 4 4 33]) (qY [qc 6 (.c .any),wg 34,qZ 35 34,xG 36 35,wg 38,qZ 39 38,xo 40 39,wg 42,qZ 43 42,xG 44 43,qt 37 36,qt 41 40,qt 45 44,wh 46 45,wi 47 (wN 41 46),qP 36 37,wo 48 3 37 47,wq 49 3 48,yn 6 wm .nils,qT 3 6 49] [xo 50 6,qt 51 50,ww 52 [qx,qx,wm,.nils] [xm 0 13,wF 2 51],wa 7 [qx,qx,wm,.nils],qT 4 7 52] (qC (xa 8) (xT 0 [qf 53 8,xG 54 6,qt 55 54,wh 56 55,wJ 57 53 56] 57 0 1 (.reg [qp 60 3 7,wg 62,qZ 63 62,xo 64 63,wg 66,qZ 67 66,xt 68 67,qt 61 60,qt 65 64,qt 69 68,qn 70 bf [.t 65,.t 69,qj 2],qP 60 61,x9 71 4 [qx,qx,wm,.nils] 1 [wt 0 4 70],wT 72 4 56 61 71,qp 73 3 7,xC 73 72]) (qf 58 8) 59 58 1 8 59) (wI [wg 74,qZ 75 74,xo 76 75,qt 77 76,wi 78 (xD 77 2),wL 79 78 0] (wz 79 [wq 80 4 7,qT 4 4 80]) [wg 81,qZ 82 81,xo 83 82,x9 85 1 xE 4 [xm 0 3,xm 1 4,xm 2 8,xm 3 10],wg 88,qZ 89 88,xo 90 89,wg 92,qZ 93 92,xt 94 93,qt 84 83,wq 87 4 7,qt 91 90,qt 95 94,yp 86 84 85,qA (some 4) 7 87,qP 90 91,qP 94 95,qn 96 bf [.t 91,.t 95,qj 2],qA (some 4) 7 87,qL 97 4 [qx,qx,wm,.nils] 2 [wt 0 4 87,wt 4 4 96],ww 98 [qx,qx,wm,.nils] [xV 86,wF 3 97],qT 4 4 98]))))⟩
theorem od:aq Tryz.prog dM=some ii:=by kernel_rfl
def gx:FK:=⟨46,xO,qY (wE 2 (.c wm)) [wg 3,wg 4,qZ 5 4,qp 6 3 5,qt 7 6,wG 8 7 1,qZ 9 3,qp 10 3 9,xC 10 8] (wI [wg 11,qZ 12 11,xo 13 12,qt 14 13,wi 15 (xD 14 9),wL 16 15 0,qf 17 16,wS 18 17 0,qK 19 17 (qz 18),xp 20 17 2 19,wO 21 17 20,qK 22 17 (qX 21),xx 23 17 .gtr 22 qQ,yb 24 17 23] (wz 24 [wg 25,qZ 26 25,xo 27 26,wg 29,qZ 30 29,xt 31 30,qt 28 27,qt 32 31,wU 33 bx 28 32,qf 2 33]) [wg 34,qZ 35 34,qp 36 3 35,wg 39,qZ 40 39,qp 41 3 40,qt 37 36,qD 38 .rem 37 24,qt 42 41,qD 43 .rem 42 24,wG 44 43 1,qb 45 (.slStr (yr [97,98,99,100,101,103,104,105,106,107,108,109,110,112,113,114,115,116,117,118,119,120,121,122]) (some (.t 38)) (some (.t 44))),qf 2 45])⟩
theorem nh:aq Tryz.prog dz=some gx:=by kernel_rfl
def eE:FK:=⟨24,[xA 4 5],qY [wQ 3 4 1,wa 4 [qx,wm,.nils,.nils,.nils]] (xR (wg 6) (xi 7 dz 6) 5 7) (xM [wg 8,qL 9 1 [wm] 0 [],wg 10,qZ 11 10,xt 12 11,qt 13 12,wT 14 1 16 9 13,wZ 15,qL 16 1 [wm] 1 [xV 15],wT 17 1 16 14 16,qZ 18 8,xt 19 18,xC 19 17] [wZ 20,wq 21 4 3,qL 22 4 [qx,qx,wm,.nils] 1 [wt 0 4 21],ww 23 [qx,wm,.nils,.nils,.nils] [(0,1,wK),wF 1 20,wF 2 22],qT 5 4 23])⟩
theorem jA:aq Tryz.prog cd=some eE:=by kernel_rfl
def ic:FK:=⟨14,[xA 2 4],xM [wa 2 [qx,qx,wm,.nils]] [wg 3,wg 5,qZ 6 5,xo 7 6,x9 9 1 xE 6 [xm 0 16,xm 1 16,xm 2 16,xm 3 8,xm 4 17,(5,1,qQ)],qt 8 7,xX 4 (xD 3 2),qP 7 8,yp 10 8 9,ww 11 [qx,qx,wm,.nils] [(0,1,wK),wF 1 10],qL 12 4 [qx,qx,wm,.nils] 2 [wt 0 4 4,wt 4 4 11],ww 13 [qx,qx,wm,.nils] [xm 0 7,wF 3 12],qT 4 2 13]⟩
theorem nN:aq Tryz.prog cG=some ic:=by kernel_rfl
def ec:AK:=qY (wE 4 xg) [wg 9,wg 10,qZ 11 10,xo 12 11,qt 13 12,yc 14 5 [xm 0 2,xm 1 3,(2,1,wK),(3,1,qQ),xm 4 5],yp 15 13 14,ww 16 [qx,qx,wm,.nils] [(0,1,wK),wF 1 15],wU 17 cd 9 16,wa 5 [qx,wm,.nils,.nils,.nils],qT 5 5 17] (qY [xG 18 5,qt 19 18,ww 20 [qx,qx,wm,.nils] [xm 0 2,wF 2 19],wa 6 [qx,qx,wm,.nils],qT 4 6 20] [wg 21,xI 22,xq 23 22 1,wU 24 aN 21 23,qf 7 24] (qe [xG 25 5,qt 26 25,wq 27 4 6,ww 28 [qx,qx,wm,.nils] [(0,1,wK),(1,1,wK)],qL 29 4 [qx,qx,wm,.nils] 2 [wt 0 4 27,wt 4 4 28],ww 30 [qx,qx,wm,.nils] [xm 0 4,wF 3 29],qL 31 4 [qx,qx,wm,.nils] 1 [wt 0 4 30],ww 32 [qx,wm,.nils,.nils,.nils] [xm 0 2,wF 1 26,wF 2 31],wa 8 [qx,wm,.nils,.nils,.nils],qT 5 8 32] (.cut (.reg [wg 33,wg 34,qZ 35 34,qp 36 4 35,qt 37 36,xq 38 37 2,qZ 39 33,qp 40 4 39,xC 40 38]) (qH [ye 44,wq 41 5 5,wq 42 4 6,x9 43 4 [qx,qx,wm,.nils] 1 [wt 0 4 42],wq 45 5 8,x9 46 5 [qx,wm,.nils,.nils,.nils] 1 [wt 0 5 45],wT 47 5 96 44 46,qA (some 5) 5 41,qA (some 4) 6 42,ww 48 [qx,wm,.nils,.nils,.nils] [xm 0 6,wF 2 43,wF 3 47],qL 49 5 [qx,wm,.nils,.nils,.nils] 2 [wt 0 5 41,wt 5 5 48],qf 4 49]))))
def eg:FK:=⟨50,xJ,(AK.whole ec)⟩
theorem nQ:aq Tryz.prog dX=some eg:=by kernel_rfl
def il:FK:=⟨128,xJ,qY (wE 4 xg) [wg 7,wg 8,qZ 9 8,qp 10 4 9,qt 11 10,xq 12 11 1,qZ 13 7,qp 14 4 13,xC 14 12] (qe [wg 15,qZ 16 15,xo 17 16,qt 18 17,wi 19 (xD 18 13),qf 5 19] (wd 0 (qe [wZ 21,qD 22 .lss 21 3,qf 23 22,wS 24 23 0,qK 25 23 (qz 24),xp 26 23 2 25,wO 27 23 26,qK 28 23 (qX 27),xx 29 23 .gtr 28 qQ,yb 30 23 29,qf 20 30] (qu 20 (qH [wg 31,qZ 32 31,xo 33 32,wg 35,qZ 36 35,xt 37 36,wg 40,qt 34 33,qt 38 37,wU 39 bx 34 38,xX 41 (xD 40 3),qL 42 4 [qx,qx,wm,.nils] 1 [wt 0 4 41],ww 43 [qx,wm,.nils,.nils,.nils] [xm 0 2,wF 1 39,wF 2 42],qL 44 5 [qx,wm,.nils,.nils,.nils] 1 [wt 0 5 43],qf 4 44]) (qe (xR (wZ 46) (qD 47 .lss 46 5) 45 47) (qu 45 (qH [wg 48,wg 49,xX 50 (xD 49 3),wU 51 cd 48 50,qL 52 5 [qx,wm,.nils,.nils,.nils] 1 [wt 0 5 51],qf 4 52]) (qe [wZ 54,qD 55 .lss 54 7,qf 56 55,wR 57 56 1,ya 58 56 .lss 57 (qj 2),xW 59 56 58,qf 53 59] (qu 53 (qH [wg 60,xX 61 (xD 60 3),qL 62 4 [qx,qx,wm,.nils] 1 [wt 0 4 61],ww 63 [qx,wm,.nils,.nils,.nils] [xm 0 3,wF 2 62],qL 64 5 [qx,wm,.nils,.nils,.nils] 1 [wt 0 5 63],qf 4 64]) (qe (xR (wZ 66) (wL 67 66 7) 65 67) (qu 65 (qH [wg 68,xi 69 cG 68,wg 70,xX 71 (xD 70 2),qL 72 4 [qx,qx,wm,.nils] 2 [wt 0 4 69,wt 4 4 71],ww 73 [qx,wm,.nils,.nils,.nils] [xm 0 4,wF 2 72],qL 74 5 [qx,wm,.nils,.nils,.nils] 1 [wt 0 5 73],qf 4 74]) (qe (xR (wZ 76) (wL 77 76 8) 75 77) (qu 75 (qH [wg 78,xi 79 cG 78,qL 80 4 [qx,qx,wm,.nils] 1 [wt 0 4 79],ww 81 [qx,qx,wm,.nils] [xm 0 12,wF 3 80],qL 82 4 [qx,qx,wm,.nils] 1 [wt 0 4 81],ww 83 [qx,wm,.nils,.nils,.nils] [xm 0 3,wF 2 82],qL 84 5 [qx,wm,.nils,.nils,.nils] 1 [wt 0 5 83],qf 4 84]) (qe (xR (wZ 86) (qD 87 .lss 86 11) 85 87) (qu 85 (xL [wg 88,xX 89 (xD 88 3),qL 90 4 [qx,qx,wm,.nils] 1 [wt 0 4 89],wg 91,xI 92,xq 93 92 1,wU 94 aN 91 93,ww 95 [qx,wm,.nils,.nils,.nils] [xm 0 5,wF 2 90,wF 3 94],wa 6 [qx,wm,.nils,.nils,.nils],qT 5 6 95] [wg 96,qZ 97 96,xo 98 97,qt 99 98,wi 100 (xD 99 2),wL 101 100 0] (xZ 101 [wg 102,xI 103,xq 104 103 1,wU 105 aN 102 104,qp 106 4 6,xC 106 105]) (xR (wq 107 5 6) (qL 108 5 [qx,wm,.nils,.nils,.nils] 1 [wt 0 5 107]) 4 108)) (qe [wZ 110,wL 111 110 11,qf 112 111,wS 113 112 0,qK 114 112 (qz 113),xp 115 112 0 114,wO 116 112 115,qK 117 112 (xU (xD 116 3)),xx 118 112 .eql 117 qQ,yb 119 112 118,qf 109 119] (wz 109 [wg 120,xX 121 (xD 120 2),qL 122 4 [qx,qx,wm,.nils] 1 [wt 0 4 121],ww 123 [qx,wm,.nils,.nils,.nils] [xm 0 7,wF 2 122],qL 124 5 [qx,wm,.nils,.nils,.nils] 1 [wt 0 5 123],qf 4 124])))))))))))))) (qH [wg 125,xI 126,wU 127 dX 125 126,qf 4 127])))⟩
theorem nU:aq Tryz.prog en=some il:=by kernel_rfl
def gv:FK:=⟨40,xJ,qY (wE 4 xg) [wg 8,qZ 9 8,xt 10 9,qt 11 10,qf 5 11] (xH (qL 12 5 [qx,wm,.nils,.nils,.nils] 0 []) 6 12 (qC [wg 13,qZ 14 13,xo 15 14,qt 16 15,yc 17 4 [xm 0 2,xm 1 3,(2,1,wK),xm 3 4],yp 18 16 17,qf 7 18] (xS 0 [ye 19,qD 20 .gtr 19 0,qf 21 20,wS 22 21 0,qK 23 21 (qz 22),xp 24 21 4 23,wO 25 21 24,xx 26 21 .gtr 25 qQ,yb 27 21 26] 27 0 1 (.reg [xk 30,wg 31,xI 32,wU 33 en 31 32,wT 34 5 96 30 33,qf 6 34]) (ye 28) (xq 29 28 1) 7 29) (xM [wg 35,wZ 36,qZ 37 35,xt 38 37,xC 38 36] (xr (xk 39) 4 39))))⟩
theorem mT:aq Tryz.prog aN=some gv:=by kernel_rfl
def fy:AK:=qY [yn 6 wm .nils] [wg 8,qL 9 1 [wm] 3 [(0,1,yr [97]),(1,1,yr [98]),(2,1,yr [99])],qf 10 2,qb 11 (.slS 1 (.t 9) none (some (.t 10))),qZ 12 8,xt 13 12,xC 13 11] (qe [wg 14,qf 15 2,xq 16 15 1,qZ 17 14,qp 18 3 17,xC 18 16] (.cut (.reg [xI 19,qL 20 1 [wm] 0 [],wg 21,qZ 22 21,xt 23 22,qt 24 23,wT 25 1 16 20 24,ww 26 (ym wm .nils) [xV 19,wF 1 25],yn 7 wm .nils,qT 3 7 26]) (xL [wg 27,qn 28 aN (xD 27 3),xt 29 7,xC 29 28] [wg 30,qZ 31 30,qp 32 4 31,qt 33 32,qD 34 .gtr 33 0,qf 35 34,wS 36 35 0,qK 37 35 (qz 36),xp 38 35 0 37,wO 39 35 38,qK 40 35 (xU (xD 39 4)),xx 41 35 .gtr 40 qQ,yb 42 35 41] (wb 42 (qe [wg 43,wg 44,qZ 45 44,qp 46 4 45,qt 47 46,xq 48 47 1,qZ 49 43,qp 50 4 49,xC 50 48] (.reg [xt 51 7,wg 53,qt 52 51,xX 54 (xD 53 2),qP 51 52,x9 55 4 [qx,qx,wm,.nils] 1 [wt 0 4 54],ww 56 [qx,wm,.nils,.nils,.nils] [xm 0 7,wF 2 55],x9 57 5 [qx,wm,.nils,.nils,.nils] 1 [wt 0 5 56],wT 58 5 96 52 57,xt 59 7,xC 59 58]))) [wq 60 3 7,qT 3 6 60])))
def fz:FK:=⟨61,[xA 6 3],(AK.whole fy)⟩
theorem ra:aq Tryz.prog du=some fz:=by kernel_rfl
def kO:FK:=⟨18,xJ,xL (xa 4) (xa 5) (xT 0 [wZ 6,wg 7,qb 8 (.len true (.t 7)),wJ 9 6 8] 9 0 1 (qe [wg 12,wZ 13,qb 14 (.idxStr (.t 12) (.t 13)),xI 15,wn 16 .eql 14 15] (wz 16 (xr (wZ 17) 4 17))) (wZ 10) 11 10 1 5 11) (wE 4 (qj (-1)))⟩
theorem sr:aq Tryz.prog gb=some kO:=by kernel_rfl
def kw:FK:=⟨28,xO,qe (xa 2) (wd 0 (qe [wg 4,qy 5 .geq 4 (.c (qd .u8 97)),wZ 6,wS 7 6 0,xx 8 6 .leq 7 (.c (qd .u8 122)),yb 9 6 8,qf 3 9] (qu 3 (qH (wE 2 wK)) (qe [wg 11,qy 12 .geq 11 (.c (qd .u8 48)),qf 13 12,wS 14 13 0,xx 15 13 .leq 14 (.c (qd .u8 57)),yb 16 13 15,qf 10 16] (qu 10 (qH (wE 2 (qj 2))) (qe [wg 18,qn 19 gb [yr [40,41,123,125,59,44,43,45,42,47,37,60,61,38,33,64],.t 18],qD 20 .geq 19 0,qf 17 20] (qu 17 (qH (wE 2 (qj 3))) (qe [wg 22,qy 23 .eql 22 (.c (qd .u8 32)),qf 24 23,wR 25 24 0,ya 26 24 .eql 25 (.c (qd .u8 10)),xW 27 24 26,qf 21 27] (wV 21 2 (qj 4))))))))) (qH (xa 2)))⟩
theorem sQ:aq Tryz.prog gG=some kw:=by kernel_rfl
def nZ:FK:=⟨21,xJ,xL (wE 4 qW) (xa 5) (xT 0 [wZ 6,wg 7,qb 8 (.len true (.t 7)),wJ 9 6 8] 9 0 1 (qe [wg 12,wZ 13,qb 14 (.idxStr (.t 12) (.t 13)),xi 15 gG 14,xI 16,wn 17 .neq 15 16] (yg 17 4)) (wZ 10) 11 10 1 5 11) [wg 18,qb 19 (.len true (.t 18)),qD 20 .gtr 19 0,qf 4 20]⟩
theorem yy:aq Tryz.prog jK=some nZ:=by kernel_rfl
def ke:FK:=⟨2,xB 0,xM (wE 0 xg) (xr (qL 1 1 [wm] 9 [(0,1,yr [102,110]),(1,1,yr [108,101,116]),(2,1,yr [115,97,121]),(3,1,yr [112,117,116]),(4,1,yr [105,102]),(5,1,yr [101,108,115,101]),(6,1,yr [108,111,111,112]),(7,1,yr [98,97,99,107]),(8,1,yr [100,111])]) 0 1)⟩
theorem rj:aq Tryz.prog dr=some ke:=by kernel_rfl
def og:FK:=⟨18,xO,qY (wE 2 qW) [qn 5 dr [],wZ 3] (wI (xa 4) (xT 0 [xy 6,yf 7,wh 8 7,wJ 9 6 8] 9 0 1 (qe [yf 12,xy 13,wo 14 1 12 13,qt 15 14,wg 16,qb 17 (.bins .eql (.t 15) (.t 16))] (wV 17 2 wH)) (xy 10) 11 10 1 4 11) (wE 2 qW))⟩
theorem vA:aq Tryz.prog jF=some og:=by kernel_rfl
def mi:FK:=⟨15,xO,xM (wE 2 qW) [wg 3,qn 4 jK (wM 3 wK),xy 5,wS 6 5 0,qK 7 5 (.len true (.t 6)),xx 8 5 .leq 7 (qj 4),yb 9 5 8,qf 10 9,wS 11 10 0,qK 12 10 (.call jF (xh 11)),qK 13 10 (wA 12),yb 14 10 13,qf 2 14]⟩
theorem tO:aq Tryz.prog bD=some mi:=by kernel_rfl
def iN:FK:=⟨5,xO,xL (xa 2) [wg 3,wL 4 3 4] (wV 4 2 (qj 2)) (wE 2 wK)⟩
theorem tT:aq Tryz.prog eS=some iN:=by kernel_rfl
def bV:FK:=⟨13,[.t 2,.t 3],xL [yq 2,yq 3] [wg 4] (.blk 0 (qC [wL 6 4 1,xk 5] (qu 5 .skip (.reg (xr (wL 7 4 2) 5 7))) (qu 5 (qH [yq 2,yq 3]) (qC (xr (wL 9 4 11) 8 9) (qu 8 .skip (.reg (xr (wL 10 4 12) 8 10))) (qu 8 (qH [qc 2 wK,qc 3 wK]) (yl 12 4 13 11 12 (wz 11 [yq 2,qc 3 (qj 3)]))))))) [qc 2 (qj 2),qc 3 (qj 2)]⟩
theorem ui:aq Tryz.prog eR=some bV:=by kernel_rfl
def eY:FK:=⟨86,xJ,qY [wQ 2 4 0,qc 4 qW] [xo 10 2,qt 11 10,xi 12 eR 11,qf 9 12,qb 13 (.ext 0 (.t 9)),qb 14 (.ext 1 (.t 9)),qf 5 13,qf 6 14] (qC [xI 15,qD 16 .lss 15 1,qf 17 16,xv 18 17 0 2,xd 19 17 18,qJ 20 17 (xf [.t 19,wK,qj 13]),qJ 21 17 (wA 20),xW 22 17 21,qf 23 22,xv 24 23 3 2,xd 25 23 24,qJ 26 23 (qX 25),wR 27 23 5,wR 28 23 6,qJ 29 23 (xf [.t 26,.t 27,.t 28]),qJ 30 23 (wA 29),xW 31 23 30] (yg 31 4) (qe [xo 32 2,qt 33 32,wL 34 33 2,qf 35 34,xv 36 35 0 2,xd 37 35 36,ya 38 35 .eql 37 (qj 13),xW 39 35 38,qf 7 39] (qC [ye 40,xt 41 2,qt 42 41,xi 43 bD 42,qb 44 (.beq true (.t 40) (.t 43)),qf 45 44,wR 46 45 7,qJ 47 45 (wA 46),wR 48 45 47,xp 49 48 2 2,wO 50 48 49,qK 51 48 (.bins .neq (.t 50) (.c wm)),qJ 52 45 (qN 48 (.t 51) qW),xW 53 45 52,qf 54 53,xv 55 54 1 2,xd 56 54 55,qJ 57 54 (xf [.t 56,qQ,qj 255]),qJ 58 54 (wA 57),xW 59 54 58,qf 60 59,xv 61 60 0 2,xd 62 60 61,ya 63 60 .neq 62 wK,wR 64 60 63,xp 65 64 1 2,wO 66 64 65,xx 67 64 .neq 66 qQ,qJ 68 60 (qN 64 (.t 67) qW),xW 69 60 68] (yg 69 4) (wI (xa 8) (xT 0 [qf 70 8,qp 71 3 2,qt 72 71,wh 73 72,wJ 74 70 73] 74 0 1 (qe [qp 77 3 2,qt 78 77,qf 79 8,wo 80 4 78 79,wq 81 4 80,xI 82,xq 83 82 1,wU 84 dm 81 83,xN 85 84] (yg 85 4)) (qf 75 8) 76 75 1 8 76) (wE 4 wH)))))⟩
theorem mo:aq Tryz.prog dm=some eY:=by kernel_rfl
def kR:FK:=⟨21,xO,qY [wQ 1 4 0,yq 2] (wE 3 wK) (wI (xa 4) (xT 0 [xy 5,qp 6 3 1,qt 7 6,wh 8 7,wJ 9 5 8] 9 0 1 (.reg [yf 12,qp 13 3 1,qt 14 13,xy 15,wo 16 4 14 15,wq 17 4 16,xi 18 eb 17,wn 19 .add 12 18,qf 3 19]) (xy 10) 11 10 1 4 11) (xr (yf 20) 2 20))⟩
theorem sX:aq Tryz.prog eb=some kR:=by kernel_rfl
def ju:FK:=⟨10,xO,xM [wQ 1 4 0,qc 2 qW] [wq 3 4 1,qn 4 dm (xD 3 6),xy 5,qK 6 5 (qU 4 1),qK 7 5 (.call eb (xh 6)),xx 8 5 .leq 7 (qj 30),yb 9 5 8,qf 2 9]⟩
theorem oM:aq Tryz.prog cV=some ju:=by kernel_rfl
def fe:FK:=⟨108,xJ,qe [wQ 2 5 0,qc 4 qW] (qC [xI 7,qD 8 .lss 7 1,qf 9 8,xv 10 9 0 2,xd 11 9 10,qJ 12 9 (xf [.t 11,wK,qj 8]),qJ 13 9 (wA 12),xW 14 9 13,qf 15 14,xv 16 15 2 2,xv 19 15 0 2,xd 17 15 16,qJ 18 15 (qX 17),xd 20 15 19,qJ 21 15 (.qcall eS (xh 20)),ya 22 15 .neq 18 (.t 21),xW 23 15 22] (yg 23 4) (qe [xo 24 2,qt 25 24,wL 26 25 1,qf 27 26,xv 28 27 0 2,xd 29 27 28,ya 30 27 .eql 29 (qj 2),xW 31 27 30,qf 5 31] (qC [wZ 32,xG 33 2,qt 34 33,xi 35 bD 34,qb 36 (.beq true (.t 32) (.t 35)),qf 37 36,wR 38 37 5,qJ 39 37 (wA 38),wR 40 37 39,xp 41 40 1 2,wO 42 40 41,qK 43 40 (.bins .neq (.t 42) (.c wm)),qJ 44 37 (qN 40 (.t 43) qW),xW 45 37 44] (yg 45 4) (qC (xa 6) (xT 0 [xk 46,xt 47 2,qt 48 47,wh 49 48,wJ 50 46 49] 50 0 1 (qe [xt 53 2,qt 54 53,xk 55,wo 56 4 54 55,wq 57 4 56,xi 58 cV 57,xN 59 58] (yg 59 4)) (xk 51) 52 51 1 6 52) (qC [xo 60 2,qt 61 60,wL 62 61 8,qf 63 62,xp 64 63 2 2,wO 65 63 64,qK 66 63 (qF 4 65 qQ),xp 67 63 0 66,wO 68 63 67,xx 69 63 .neq 68 (qj 13),yb 70 63 69] (yg 70 4) (wI [qp 71 4 2,qt 72 71,wh 73 72,qD 74 .gtr 73 0,qf 75 74,xp 76 75 0 2,wO 77 75 76,xx 78 75 .neq 77 (qj 5),yb 79 75 78,qf 80 79,xv 81 80 3 2,xd 82 80 81,qJ 83 80 (qX 82),ya 84 80 .gtr 83 qQ,wR 85 80 84,xp 86 85 0 2,wO 87 85 86,xx 88 85 .neq 87 (qj 5),qJ 89 80 (qN 85 (.t 88) qW),wR 90 80 89,xp 91 90 0 2,wO 92 90 91,xx 93 90 .neq 92 (qj 6),qJ 94 80 (qN 90 (.t 93) qW),xW 95 80 94] (yg 95 4) [qp 96 3 2,qt 97 96,xI 98,xq 99 98 1,wU 100 bp 97 99,qf 101 100,xp 102 101 4 2,wO 103 101 102,wS 104 101 1,xx 105 101 .sub 104 wK,qK 106 101 (.call bp (wN 103 105)),yb 107 101 106,qf 4 107]))))))⟩
theorem mj:aq Tryz.prog eP=some fe:=by kernel_rfl
def lc:FK:=⟨19,xJ,xL (wE 4 qW) (xa 5) (xT 0 [wZ 6,wg 7,wh 8 7,wJ 9 6 8] 9 0 1 (qe [wg 12,wZ 13,wo 14 5 12 13,wq 15 5 14,xI 16,wU 17 eP 15 16,xN 18 17] (yg 18 4)) (wZ 10) 11 10 1 5 11) (wE 4 wH)⟩
theorem sk:aq Tryz.prog bp=some lc:=by kernel_rfl
def pV:FK:=⟨32,xO,xL [wQ 1 3 0,qc 2 qW] (xa 3) (xT 0 [yf 4,xG 5 1,qt 6 5,wh 7 6,wJ 8 4 7] 8 0 1 (qe [xG 11 1,qt 12 11,yf 13,wo 14 1 12 13,qt 15 14,xi 16 bD 15,xN 17 16] (yg 17 2)) (yf 9) 10 9 1 3 10) [xo 18 1,qt 19 18,xi 20 bD 19,qf 21 20,xp 22 21 1 1,wO 23 21 22,qK 24 21 (qX 23),xx 25 21 .leq 24 (qj 3),yb 26 21 25,qf 27 26,xp 28 27 2 1,wO 29 27 28,qK 30 27 (.call bp (xD 29 4)),yb 31 27 30,qf 2 31]⟩
theorem Aq:aq Tryz.prog lg=some pV:=by kernel_rfl
def gi:FK:=⟨29,xO,qY (xa 2) [wg 5,wh 6 5,xk 3] (wI (xa 4) (xT 0 [xy 7,wg 8,wh 9 8,wJ 10 7 9] 10 0 1 (.reg [yf 13,wg 14,xy 15,wo 16 5 14 15,qp 17 3 16,wg 21,xy 22,wo 23 5 21 22,qp 24 4 23,qt 18 17,qt 25 24,xi 19 cN 18,qP 24 25,wn 20 .add 13 19,xi 26 cN 25,wn 27 .add 20 26,qf 3 27]) (xy 11) 12 11 1 4 12) (xr (yf 28) 2 28))⟩
theorem kS:aq Tryz.prog cN=some gi:=by kernel_rfl
def nA:FK:=⟨22,xO,qY [wQ 1 1 0,yq 2] (xa 3) (wI (xa 4) (xT 0 [xy 5,xo 6 1,qt 7 6,wh 8 7,wJ 9 5 8] 9 0 1 (.reg [yf 12,xo 13 1,qt 14 13,xy 15,wo 16 3 14 15,xt 17 16,qt 18 17,xi 19 cN 18,wn 20 .add 12 19,qf 3 20]) (xy 10) 11 10 1 4 11) (xr (yf 21) 2 21))⟩
theorem vZ:aq Tryz.prog jP=some nA:=by kernel_rfl
def fE:FK:=⟨26,xO,qe [wQ 1 1 0,qc 2 qW] (qC [xo 4 1,qt 5 4,wh 6 5,xY 7 [.t 6,wK,qj 4],xN 8 7] (yg 8 2) (wI (xa 3) (xT 0 [yf 9,xo 10 1,qt 11 10,wh 12 11,wJ 13 9 12] 13 0 1 (qe [xo 16 1,qt 17 16,yf 18,wo 19 3 17 18,wq 20 3 19,xi 21 lg 20,xN 22 21] (yg 22 2)) (yf 14) 15 14 1 3 15) [wq 23 1 1,xi 24 jP 23,qD 25 .leq 24 40,qf 2 25]))⟩
theorem lT:aq Tryz.prog dh=some fE:=by kernel_rfl
def lX:FK:=⟨69,[xA 2 1],qY [wa 2 xP] [wg 8,wg 9,yc 10 4 [xm 0 14,xm 1 20,xm 2 8,xm 3 26],yp 11 9 10,ww 12 [.nilp,.nils,.nils,qx,qx] [xV 8,wF 4 11],wQ 13 5 12,qf 3 13] (qC [wg 14,yc 15 4 [(0,1,qQ),(1,1,wK),(2,1,wK),xm 3 2],yp 16 14 15,qf 4 16] (xS 0 [xy 17,qD 18 .gtr 17 0] 18 0 1 (qe [qc 5 (.c .any),yf 21,x9 22 1 [wm] 3 [(0,1,yr [102]),(1,1,yr [103]),(2,1,yr [104])],yf 23,qZ 24 23,xG 25 24,wg 30,qt 26 25,wh 27 26,wo 28 1 22 27,qt 29 28,wi 31 (xD 30 3),qP 25 26,qP 28 29,qn 32 du [.t 21,.t 29,.t 31],yn 5 wm .nils,qT 3 5 32] (.reg [yf 33,yf 34,qZ 35 34,xG 36 35,qt 37 36,wq 38 3 5,x9 39 3 (ym wm .nils) 1 [wt 0 3 38],wT 40 3 64 37 39,qZ 41 33,xG 42 41,xC 42 40])) (xy 19) (xq 20 19 1) 4 20) (qY [yf 43,wg 44,yc 45 4 [(0,1,qQ),(1,1,wK),xm 2 2,(3,1,wK)],yp 46 44 45,qn 47 du [.t 43,yr [109],.t 46],yn 6 wm .nils,qT 3 6 47] [qc 7 (.c .any),yf 49,qZ 50 49,xG 51 50,qt 52 51,wq 54 3 6,x9 55 3 (ym wm .nils) 1 [wt 0 3 54],qL 48 3 (ym wm .nils) 0 [],qP 51 52,qA (some 3) 6 54,wT 53 3 64 48 52,qA (some 3) 6 54,wT 56 3 64 53 55,ww 57 xP [xV 56],wa 7 xP,xC 7 57] (wI [wq 58 1 7,xi 59 dh 58,xN 60 59] (wz 60 [ww 61 [qx,qx,wm,.nils] [(0,1,wK),(1,1,wK)],qL 62 4 [qx,qx,wm,.nils] 1 [wt 0 4 61],ww 63 [qx,wm,.nils,.nils,.nils] [xm 0 3,wF 2 62],qL 64 5 [qx,wm,.nils,.nils,.nils] 1 [wt 0 5 63],ww 65 (ym wm .nils) [(0,1,yr [109]),wF 2 64],qL 66 3 (ym wm .nils) 1 [wt 0 3 65],ww 67 xP [xV 66],xC 2 67]) [wq 68 1 7,xC 2 68])))⟩
theorem ug:aq Tryz.prog eZ=some lX:=by kernel_rfl
def kB:FK:=⟨4,xO,xL (xa 2) [wg 3] (wV 3 2 wK) (xa 2)⟩
theorem sV:aq Tryz.prog gC=some kB:=by kernel_rfl
def iP:FK:=⟨35,xO,qY (xa 2) (xa 3) (wI (xa 4) (xT 0 [xy 5,wg 6,wh 7 6,wJ 8 5 7] 8 0 1 (.reg [yf 11,wg 12,xy 13,wo 14 5 12 13,xo 15 14,wg 20,xy 21,wo 22 5 20 21,qp 23 3 22,wg 27,xy 28,wo 29 5 27 28,qp 30 4 29,qt 16 15,wL 17 16 1,qt 24 23,qt 31 30,xi 18 gC 17,qP 23 24,qP 30 31,wn 19 .add 11 18,xi 25 dq 24,qP 30 31,wn 26 .add 19 25,xi 32 dq 31,wn 33 .add 26 32,qf 3 33]) (xy 9) 10 9 1 4 10) (xr (yf 34) 2 34))⟩
theorem mu:aq Tryz.prog dq=some iP:=by kernel_rfl
def dy:FK:=⟨25,xO,qY (xa 2) [wg 3,wg 4,qZ 5 4,xG 6 5,xt 7 6,qt 8 7,qL 9 2 [qx,.nils] 0 [],qL 10 4 [qx,qx,.nils,qx] 0 [],yc 11 0 [],ww 12 [.nils,.nils,qx,qx,.nils] [xV 9,wF 1 10,wF 4 11],qL 13 5 [.nils,.nils,qx,qx,.nils] 1 [wt 0 5 12],wT 14 5 88 8 13,qZ 15 3,xG 16 15,xt 17 16,xC 17 14] (qH [wg 18,qZ 19 18,xG 20 19,xt 21 20,qt 22 21,wh 23 22,xq 24 23 1,qf 2 24])⟩
theorem gR:aq Tryz.prog bJ=some dy:=by kernel_rfl
def iz:FK:=⟨37,[],qY [wg 11,qZ 12 11,xG 13 12,xt 14 13,wg 16,qZ 17 16,qp 18 4 17,qt 15 14,qt 19 18,wo 20 5 15 19,qf 10 20] [qf 21 10,xI 22,qZ 23 21,xt 24 23,xC 24 22] (qY [qf 25 10,qf 26 2,qZ 27 25,qp 28 3 27,xC 28 26] [qf 29 10,yf 30,qZ 31 29,qp 32 4 31,xC 32 30] (.reg [wg 33,xy 34,qZ 35 33,qp 36 4 35,xC 36 34]))⟩
theorem nG:aq Tryz.prog bh=some iz:=by kernel_rfl
def gt:FK:=⟨19,xO,qY (xa 2) [wg 3,wg 4,qZ 5 4,xG 6 5,xG 7 6,qt 8 7,wG 9 8 1,qZ 10 3,xG 11 10,xG 12 11,xC 12 9] (qH [wg 13,qZ 14 13,xG 15 14,xG 16 15,qt 17 16,xq 18 17 1,qf 2 18])⟩
theorem mS:aq Tryz.prog bm=some gt:=by kernel_rfl
def eB:FK:=⟨37,xB 10,qY (xa 10) [wg 12,qZ 13 12,xG 14 13,xt 15 14,wg 17,qZ 18 17,qp 19 4 18,qt 16 15,qt 20 19,wo 21 5 16 20,qf 11 21] (xM [qf 22 11,qf 23 11,qZ 24 23,xG 25 24,qt 26 25,xI 27,qf 28 2,xy 29,yf 30,ww 31 [qx,qx,.nils,qx] [xV 27,wF 1 28,wF 2 29,wF 3 30],qL 32 4 [qx,qx,.nils,qx] 1 [wt 0 4 31],wT 33 4 48 26 32,qZ 34 22,xG 35 34,xC 35 33] (xr (qf 36 2) 10 36))⟩
theorem oR:aq Tryz.prog bF=some eB:=by kernel_rfl
def eC:FK:=⟨34,xJ,xL (xa 4) [wg 6,qZ 7 6,qp 8 5 7,qt 9 8,wh 10 9,xq 11 10 1,qf 5 11] (xS 0 [wZ 12,qD 13 .geq 12 0] 13 0 1 (qe [wg 16,qZ 17 16,qp 18 5 17,qt 19 18,wZ 20,wo 21 3 19 20,xo 22 21,qt 23 22,xI 24,qb 25 (.bins .eql (.t 23) (.t 24))] (wz 25 [wg 26,qZ 27 26,qp 28 5 27,qt 29 28,wZ 30,wo 31 3 29 30,xG 32 31,qt 33 32,qf 4 33])) (wZ 14) (xq 15 14 1) 5 15) (wE 4 (qj (-1)))⟩
theorem pt:aq Tryz.prog cW=some eC:=by kernel_rfl
def jn:FK:=⟨56,xJ,qY [wQ 3 4 1,yq 4] [wg 11,qp 12 3 3,qt 13 12,qb 14 (qF 4 13 qQ),wq 15 4 14,wU 16 aV 11 15,qf 5 16] (qY [wg 17,wg 18,xQ 19 18,yc 20 0 [],xe 21 [.t 17,wK,.t 19,qQ,.t 20],qf 6 21] (xR (wg 22) (xu 23 22) 7 23) (qY (xR (wg 24) (xu 25 24) 8 25) [wg 26,wZ 27,ye 28,qf 29 8,yc 30 2 [xV 28,wF 1 29],ye 31,xz 32 [.t 26,qj 2,.t 27,.t 30,.t 31]] (qY [wg 33,qp 34 3 3,qt 35 34,qb 36 (qF 4 35 wK),wq 37 4 36,wU 38 aV 33 37,qf 9 38] [wg 39,wg 40,xQ 41 40,qf 42 9,yc 43 1 [xV 42],xe 44 [.t 39,qj 10,.t 41,qQ,.t 43],qf 10 44] (qY [wg 45,xk 46,qf 47 10,yc 48 1 [xV 47],xe 49 [.t 45,qj 10,.t 46,qQ,.t 48]] [wg 50,qf 51 8,yc 52 1 [xV 51],qf 53 8,xz 54 [.t 50,wK,qQ,.t 52,.t 53]] (qH (xr (xk 55) 4 55))))))⟩
theorem pA:aq Tryz.prog eM=some jn:=by kernel_rfl
def pN:FK:=⟨22,xJ,xL [wQ 2 1 0,yq 4] (xa 5) (xT 0 [wZ 6,xo 7 2,qt 8 7,wh 9 8,wJ 10 6 9] 10 0 1 (qe [xo 13 2,qt 14 13,wZ 15,wo 16 3 14 15,xo 17 16,qt 18 17,xI 19,qb 20 (.bins .eql (.t 18) (.t 19))] (wz 20 (xr (wZ 21) 4 21))) (wZ 11) 12 11 1 5 12) (wE 4 (qj (-1)))⟩
theorem zC:aq Tryz.prog lz=some pN:=by kernel_rfl
def bQ:FK:=⟨84,xJ,qe [wQ 3 4 1,yq 4] (qC [xo 7 3,qt 8 7] (.blk 0 (yl 10 8 1 9 10 (qu 9 (qH [wg 11,wg 12,xG 14 3,x9 16 1 xE 0 [],qt 15 14,xQ 13 12,qP 14 15,xe 17 [.t 11,wK,.t 13,.t 15,.t 16],qf 4 17]) (yl 19 8 2 18 19 (qu 18 (qH [wg 20,xt 21 3,qt 22 21,wU 23 cW 20 22,qf 4 23]) (yl 25 8 10 24 25 (wz 24 [wg 26,wq 27 4 3,wU 28 eM 26 27,qf 4 28]))))))) (xH (yc 29 0 []) 5 29 (qC (xa 6) (xT 1 [xk 30,qp 31 3 3,qt 32 31,wh 33 32,wJ 34 30 33] 34 1 2 (.reg [wZ 37,wg 38,qp 39 3 3,qt 40 39,xk 41,wo 42 4 40 41,wq 43 4 42,wU 44 aV 38 43,yc 45 1 [xV 44],wT 46 1 8 37 45,qf 5 46]) (xk 35) 36 35 1 6 36) (wI [xo 47 3,qt 48 47] (.blk 3 (yl 50 48 11 49 50 (qu 49 (qH [wg 51,wg 52,xQ 53 52,wZ 54,xe 55 [.t 51,qj 10,.t 53,qQ,.t 54],qf 4 55]) (yl 57 48 12 56 57 (qu 56 (qH [wg 58,wg 59,xQ 60 59,wZ 61,xe 62 [.t 58,qj 11,.t 60,qQ,.t 61],qf 4 62]) (yl 64 48 13 63 64 (wz 63 [wg 65,wg 66,wg 68,qZ 69 68,xo 70 69,xt 72 3,wZ 75,wq 71 1 70,qt 73 72,xQ 67 66,qA (some 1) 70 71,qP 72 73,wU 74 lz 71 73,xe 76 [.t 65,qj 14,.t 67,.t 74,.t 75],qf 4 76]))))))) [wg 77,xo 78 3,wg 80,wZ 82,qt 79 78,xQ 81 80,qP 78 79,xe 83 [.t 77,.t 79,.t 81,qQ,.t 82],qf 4 83]))))⟩
theorem ow:aq Tryz.prog aV=some bQ:=by kernel_rfl
def iw:FK:=⟨41,[],qY [wQ 3 5 1] (xR (wg 8) (xu 9 8) 4 9) (qY (xR (wg 10) (xu 11 10) 5 11) (xR (wg 12) (xu 13 12) 6 13) (qY [wg 14,xy 15,yc 16 1 [xV 15],xy 17,xz 18 [.t 14,wK,qQ,.t 16,.t 17]] [wg 19,xt 20 3,qt 21 20,qb 22 (qF 4 21 qQ),wq 23 4 22,wU 24 aV 19 23,qf 7 24] (qY [wg 25,ye 26,wZ 27,xk 28,yc 29 2 [xV 27,wF 1 28],wZ 30,xz 31 [.t 25,qj 2,.t 26,.t 29,.t 30]] [wg 32,qp 33 3 3,qt 34 33,wU 35 aY 32 34] (.reg [wg 36,xy 37,yc 38 1 [xV 37],xk 39,xz 40 [.t 36,wK,qQ,.t 38,.t 39]]))))⟩
theorem nF:aq Tryz.prog dK=some iw:=by kernel_rfl
def dL:FK:=⟨132,[],qe [wQ 3 5 1] (qC [xo 9 3,qt 10 9,wL 11 10 6] (wz 11 [wg 12,wq 13 5 3,wU 14 dK 12 13]) (xH (yc 15 0 []) 4 15 (qC (xa 5) (xT 0 [wZ 16,xt 17 3,qt 18 17,wh 19 18,wJ 20 16 19] 20 0 1 (.reg [xy 23,wg 24,xt 25 3,qt 26 25,wZ 27,wo 28 4 26 27,wq 29 4 28,wU 30 aV 24 29,yc 31 1 [xV 30],wT 32 1 8 23 31,qf 4 32]) (wZ 21) 22 21 1 5 22) (qe [xo 33 3,qt 34 33] (.blk 2 (yl 36 34 1 35 36 (qu 35 (qY [wg 37,wg 38,qZ 39 38,qp 40 6 39,qt 41 40,xy 42,xe 43 [.t 37,qj 2,.t 41,qQ,.t 42]] [wg 44,wg 45,qZ 46 45,qp 47 5 46,xG 49 3,wg 51,qZ 52 51,qp 53 6 52,qt 48 47,qt 50 49,qt 54 53,ww 55 [wm,qx,qx] [xV 50,wF 1 54,(2,1,qQ)],x9 56 3 [wm,qx,qx] 1 [wt 0 3 55],wT 57 3 32 48 56,qZ 58 44,qp 59 5 58,xC 59 57] (.reg [wg 60,wg 61,qZ 62 61,qp 63 6 62,qt 64 63,wG 65 64 1,qZ 66 60,qp 67 6 66,xC 67 65])) (yl 69 34 2 68 69 (qu 68 (.reg [wg 70,wg 71,xG 72 3,qt 73 72,wU 74 cW 71 73,xy 75,xe 76 [.t 70,qj 2,.t 74,qQ,.t 75]]) (yl 78 34 3 77 78 (qu 77 (.reg [wg 79,xy 80,xe 81 [.t 79,qj 13,qj (-1),qQ,.t 80]]) (yl 83 34 4 82 83 (qu 82 (.reg [wg 84,xy 85,xe 86 [.t 84,qj 12,qj (-1),qQ,.t 85]]) (yl 88 34 7 87 88 (qu 87 (.reg [wg 89,xy 90,qb 91 (qF 1 90 qQ),x9 93 1 xE 0 [],wg 94,qt 92 91,xu 95 94,qP 91 92,xz 96 [.t 89,qj 3,.t 92,.t 93,.t 95]]) (yl 98 34 5 97 98 (wb 97 (qY (xR (wg 99) (xu 100 99) 6 100) (xR (wg 101) (xu 102 101) 7 102) (qY (xR (wg 103) (xu 104 103) 8 104) [wg 105,xy 106,qb 107 (qF 1 106 qQ),qt 108 107,xk 109,ye 110,yc 111 2 [xV 109,wF 1 110],xk 112,xz 113 [.t 105,qj 2,.t 108,.t 111,.t 112]] (qY [wg 114,qp 115 3 3,qt 116 115,wU 117 aY 114 116] [wg 118,qf 119 8,yc 120 1 [xV 119],ye 121,xz 122 [.t 118,wK,qQ,.t 120,.t 121]] (qe [wg 123,qp 124 4 3,qt 125 124,wU 126 aY 123 125] (.reg [wg 127,qf 128 8,yc 129 1 [xV 128],qf 130 8,xz 131 [.t 127,wK,qQ,.t 129,.t 130]]))))))))))))))))))))))⟩
theorem nD:aq Tryz.prog dV=some dL:=by kernel_rfl
def dA:FK:=⟨32,[],qe [wg 6,qZ 7 6,qp 8 5 7,qt 9 8,wh 10 9,qf 4 10] (qC (xa 5) (xT 0 [wZ 11,xI 12,wh 13 12,wJ 14 11 13] 14 0 1 (.reg [wg 17,xI 18,wZ 19,wo 20 5 18 19,wq 21 5 20,wU 22 dV 17 21]) (wZ 15) 16 15 1 5 16) (.reg [wg 23,wg 24,qZ 25 24,qp 26 5 25,qt 27 26,xy 28,qb 29 (.slS 3 (.t 27) none (some (.t 28))),qZ 30 23,qp 31 5 30,xC 31 29]))⟩
theorem mK:aq Tryz.prog aY=some dA:=by kernel_rfl
def pS:FK:=⟨80,[xA 4 3],qY [wQ 2 1 0,yn 4 qx qx] [xo 9 2,qt 10 9,xI 11,wo 12 3 10 11,wq 13 3 12,yn 5 wm .nils,qT 3 5 13] (qY [wq 14 1 2,xG 15 5,qt 16 15,wh 17 16,ww 18 [.nils,qx,qx,.nils,qx,.nils,qx,.nils] [xV 14,wF 6 17],wQ 19 8 18,qf 6 19] [xk 20,xG 21 5,qt 22 21,wh 23 22,qZ 24 20,xG 25 24,xo 26 25,xC 26 23] (qe [xk 27,xG 28 5,xt 31 5,qt 29 28,wh 30 29,qt 32 31,xi 33 dq 32,qP 28 29,wn 34 .add 30 33,qZ 35 27,xG 36 35,xG 37 36,xC 37 34] (qC (xa 7) (xT 0 [ye 38,xG 39 5,qt 40 39,wh 41 40,wJ 42 38 41] 42 0 1 (.reg [xk 45,xk 46,qZ 47 46,qp 48 5 47,xG 50 5,ye 52,ye 55,qt 49 48,qt 51 50,wo 53 1 51 52,qt 54 53,ww 56 [wm,qx,qx] [xV 54,wF 1 55,(2,1,qQ)],x9 57 3 [wm,qx,qx] 1 [wt 0 3 56],wT 58 3 32 49 57,qZ 59 45,qp 60 5 59,xC 60 58]) (ye 43) 44 43 1 7 44) (qY [xk 61,xu 62 61] [xk 63,xt 64 5,qt 65 64,wU 66 aY 63 65] (qY [xk 67,xk 68,xQ 69 68,yc 70 0 [],xe 71 [.t 67,wK,.t 69,qQ,.t 70],qf 8 71] [xk 72,qf 73 8,yc 74 0 [],xz 75 [.t 72,qj 3,.t 73,.t 74,qQ]] (qH [xk 76,qZ 77 76,xG 78 77,wq 79 3 78,qT 3 4 79]))))))⟩
theorem Aa:aq Tryz.prog iy=some pS:=by kernel_rfl
def mg:FK:=⟨22,[xA 2 1],qY [wQ 1 1 0,wa 2 xP] [ww 5 xP [],wa 3 xP,xC 3 5] (wI (xa 4) (xT 0 [xy 6,xo 7 1,qt 8 7,wh 9 8,wJ 10 6 9] 10 0 1 (.reg [xo 13 3,xy 16,qt 14 13,wq 15 1 1,wU 17 iy 15 16,qP 13 14,qL 18 3 (ym qx qx) 1 [wt 0 3 17],qP 13 14,wT 19 3 40 14 18,xo 20 3,xC 20 19]) (xy 11) 12 11 1 4 12) [wq 21 1 3,xC 2 21])⟩
theorem tR:aq Tryz.prog fb=some mg:=by kernel_rfl
def ma:FK:=⟨21,xJ,xL [wQ 2 3 0,qc 4 qW] (xa 5) (xT 0 [wZ 6,xI 7,wh 8 7,wJ 9 6 8] 9 0 1 (qe [xI 12,wZ 13,wo 14 1 12 13,xG 16 2,qt 15 14,qt 17 16,xq 18 17 1,xY 19 [.t 15,qQ,.t 18],xN 20 19] (yg 20 4)) (wZ 10) 11 10 1 5 11) (wE 4 wH)⟩
theorem tK:aq Tryz.prog eT=some ma:=by kernel_rfl
def nM:FK:=⟨88,xB 6,qY [wQ 3 1 0,wQ 5 4 2,qc 6 qW] [xo 8 3,qt 9 8,xI 10,wo 11 3 9 10,wq 12 3 11,yn 7 qx qx,qT 3 7 12] (qC [xo 13 5,qt 14 13,xY 15 [.t 14,wK,qj 14],xN 16 15,qf 17 16,qJ 18 17 (qU 3 7),xv 19 17 2 5,xd 20 17 19,qJ 21 17 (.call eT (wN 18 20)),qJ 22 17 (wA 21),xW 23 17 22] (yg 23 6) (qC [xo 24 5,xG 27 5,xG 29 7,qt 25 24,qt 28 27,qt 30 29,xq 31 30 1,xi 26 cP 25,qP 27 28,qP 29 30,xY 32 [.t 28,qQ,.t 31],qb 33 (.beq true (.t 26) (.t 32)),qf 34 33,xv 35 34 0 5,xd 36 34 35,qJ 37 34 (.call cP (xh 36)),qJ 38 34 (wA 37),wR 39 34 38,xp 40 39 1 5,wO 41 39 40,xx 42 39 .neq 41 (qj (-1)),qJ 43 34 (qN 39 (.t 42) qW),xW 44 34 43] (yg 44 6) (wI [xo 45 5,qt 46 45,wL 47 46 14] (wz 47 [qp 48 3 5,xI 50,xq 51 50 1,qt 49 48,xY 52 [.t 49,qQ,.t 51],qf 53 52,xp 54 53 2 5,xp 57 53 0 3,xp 59 53 3 5,wO 55 53 54,qK 56 53 (qX 55),wO 58 53 57,wO 60 53 59,qK 61 53 (we 3 58 60),xp 62 53 0 61,wO 63 53 62,xx 64 53 .eql 56 (.t 63),yb 65 53 64,qf 6 65]) [xt 66 5,xo 69 5,qt 67 66,wh 68 67,qt 70 69,xi 71 eX 70,qP 66 67,wn 72 .eql 68 71,qf 73 72,xp 74 73 3 5,wO 75 73 74,qK 76 73 (xf [.t 75,qQ,qj 255]),yb 77 73 76,qf 78 77,xp 79 78 3 5,wO 80 78 79,xx 81 78 .eql 80 qQ,wS 82 78 81,xv 83 82 0 5,xd 84 82 83,ya 85 82 .eql 84 wK,qK 86 78 (qN 82 wH (.t 85)),yb 87 78 86,qf 6 87])))⟩
theorem vU:aq Tryz.prog jL=some nM:=by kernel_rfl
def gJ:AK:=qY [wQ 3 1 0,qc 6 qW] [xo 14 3,qt 15 14,xI 16,wo 17 3 15 16,wq 18 3 17,yn 7 qx qx,qT 3 7 18] (qY [xt 19 7,qt 20 19,qf 21 2,wo 22 5 20 21,wq 23 5 22,wa 8 [.nils,.nils,qx,qx,.nils],qT 5 8 23] (wE 9 wK) (xK [xt 24 8,qt 25 24] (.blk 0 (yl 27 25 1 26 27 (qu 26 (qe [qp 28 3 8,qt 29 28,qD 30 .neq 29 0] (yg 30 6)) (yl 32 25 2 31 32 (qu 31 (.reg (wE 9 (qj 2))) (yl 34 25 3 33 34 (qu 33 (.reg (xa 9)) (qH (wE 6 qW))))))))) (xK [qp 35 4 8,qt 36 35,wh 37 36,qf 38 9,wn 39 .neq 37 38,qf 40 39,xv 41 40 2 8,xd 42 40 41,ya 43 40 .neq 42 wK,wR 44 40 43,xp 45 44 3 8,wO 46 44 45,xp 47 44 1 7,wO 48 44 47,xx 49 44 .sub 48 wK,qK 50 44 (xf [.t 46,qQ,.t 49]),qK 51 44 (wA 50),qJ 52 40 (qN 44 (.t 51) qW),xW 53 40 52] (yg 53 6) (xK (xa 10) (xT 1 [qf 54 10,qp 55 4 8,qt 56 55,wh 57 56,wJ 58 54 57] 58 1 2 (qe [qp 61 4 8,qf 63 10,xt 66 7,qt 62 61,wo 64 1 62 63,qt 65 64,qt 67 66,wh 68 67,xq 69 68 1,xY 70 [.t 65,wK,.t 69],xN 71 70] (yg 71 6)) (qf 59 10) 60 59 1 10 60) (xK (xa 11) (xT 3 [qf 72 11,xG 73 8,qt 74 73,wh 75 74,wJ 76 72 75] 76 3 4 (qe [xI 80,xG 81 8,qf 83 11,wq 79 1 3,qt 82 81,wo 84 4 82 83,wq 85 4 84,qn 86 jL [.t 79,.t 80,.t 85],xN 87 86] (yg 87 6)) (qf 77 11) 78 77 1 11 78) (qe [wq 88 3 7,qf 89 2,wU 90 cS 88 89,qf 12 90] (xK (xa 13) (xT 5 [qf 91 13,xo 92 8,qt 93 92,wh 94 93,wJ 95 91 94] 95 5 6 (qe [qf 98 2,wL 99 98 0,qf 100 99,xv 101 100 0 8,wR 103 100 13,wR 108 100 12,qJ 109 100 (qX 108),xd 102 100 101,qJ 104 100 (we 2 102 103),xv 105 100 1 104,xd 106 100 105,qJ 107 100 (qX 106),ya 110 100 .neq 107 (.t 109),xW 111 100 110,qf 112 111,xv 114 112 0 8,wR 116 112 13,qJ 113 112 (qU 3 7),xd 115 112 114,qJ 117 112 (we 2 115 116),xv 118 112 1 117,xd 119 112 118,qJ 120 112 (.call eT (wN 113 119)),qJ 121 112 (wA 120),xW 122 112 121,qf 123 122,xv 124 123 0 8,wR 126 123 13,xv 130 123 1 7,xd 125 123 124,qJ 127 123 (we 2 125 126),xv 128 123 0 127,xd 129 123 128,xd 131 123 130,ya 132 123 .sub 131 wK,qJ 133 123 (xf [.t 129,qQ,.t 132]),qJ 134 123 (wA 133),xW 135 123 134] (yg 135 6)) (qf 96 13) 97 96 1 13 97) (qH (wE 6 wH)))))))))
def gL:FK:=⟨136,xB 6,(AK.whole gJ)⟩
theorem sA:aq Tryz.prog gw=some gL:=by kernel_rfl
def jx:FK:=⟨76,xO,qe [wQ 1 1 0,qc 2 qW] (qC [xo 7 1,qt 8 7,wh 9 8,xY 10 [.t 9,wK,qj 4],xN 11 10] (yg 11 2) (xL (xa 3) (xa 4) (xT 0 [xy 12,xo 13 1,qt 14 13,wh 15 14,wJ 16 12 15] 16 0 1 (qe [xo 19 1,qt 20 19,xy 21,wo 22 3 20 21,wq 23 3 22,yn 5 qx qx,qT 3 5 23] (qC [xo 24 5,qt 25 24,xY 26 [.t 25,qQ,qj 3],xN 27 26,qf 28 27,xv 29 28 1 5,xd 30 28 29,xv 31 28 0 5,xd 32 28 31,qJ 33 28 (xf [.t 30,.t 32,qj 300]),qJ 34 28 (wA 33),xW 35 28 34,qf 36 35,xv 37 36 2 5,xd 38 36 37,qJ 39 36 (qX 38),qJ 40 36 (xf [.t 39,wK,qj 160]),qJ 41 36 (wA 40),xW 42 36 41] (yg 42 2) (qe (xa 6) (xT 2 [xk 43,xt 44 5,qt 45 44,wh 46 45,wJ 47 43 46] 47 2 3 (qY [yf 50,xt 51 5,xk 53,xt 59 5,xk 61,qt 52 51,wo 54 5 52 53,xG 55 54,qt 56 55,wh 57 56,wn 58 .add 50 57,qt 60 59,wo 62 5 60 61,xo 63 62,qt 64 63,wh 65 64,wn 66 .add 58 65,qf 3 66] [yf 67,qD 68 .gtr 67 800,qf 69 68,qJ 70 69 (qU 1 1),wR 71 69 4,wR 72 69 6,qJ 73 69 (.call gw [.t 70,.t 71,.t 72]),qJ 74 69 (wA 73),xW 75 69 74] (yg 75 2)) (xk 48) 49 48 1 6 49)))) (xy 17) 18 17 1 4 18) (wE 2 wH)))⟩
theorem oV:aq Tryz.prog eI=some jx:=by kernel_rfl
def kX:FK:=⟨15,[xA 2 1],xL [wa 2 xP] [wg 4,wi 5 (xD 4 2),wL 6 5 0] (wb 6 (qY [wg 7,xi 8 eZ 7,xi 9 fb 8,wa 3 xP,xC 3 9] [wq 10 1 3,xi 11 eI 10] (wz 11 [wq 12 1 3,xC 2 12]))) [wg 13,xi 14 dk 13,xC 2 14]⟩
theorem tw:aq Tryz.prog gf=some kX:=by kernel_rfl
def kL:FK:=⟨10,[xA 2 1],xL [wa 2 xP] [wg 3,wi 4 (xD 3 12),wL 5 4 0] (wz 5 [wg 6,xi 7 iQ 6,xC 2 7]) [wg 8,xi 9 gf 8,xC 2 9]⟩
theorem sT:aq Tryz.prog gn=some kL:=by kernel_rfl
def kF:FK:=⟨14,[xA 2 3],qY [yn 2 qx qx] [wg 4,xi 5 gn 4,wa 3 xP,xC 3 5] (qH [xo 6 3,qt 7 6,xo 8 3,qt 9 8,wh 10 9,xq 11 10 1,wo 12 3 7 11,wq 13 3 12,qT 3 2 13])⟩
theorem sh:aq Tryz.prog ed=some kF:=by kernel_rfl
def ck:FK:=⟨19,xJ,xL (xa 4) [wg 6,wh 7 6,yq 8] (qV 0 (qe [wJ 9 8 7] (.seq (wy 9 0) (wu 1 (qY (xr (qf 10 8) 5 10) [xI 11,wg 12,wZ 13,wo 14 5 12 13,wq 15 5 14,qb 16 (.callv (.t 11) (xh 15))] (wz 16 (xr (wZ 17) 4 17))) (xr (wG 18 8 1) 8 18))))) (wE 4 (qj (-1)))⟩
theorem fv:aq Tryz.prog br=some ck:=by kernel_rfl
def bP:FK:=⟨9,xJ,xM (wE 4 qW) [wg 5,xI 6,wU 7 br 5 6,qD 8 .geq 7 0,qf 4 8]⟩
theorem ep:aq Tryz.prog bi=some bP:=by kernel_rfl
def dY:FK:=⟨19,xJ,xL (xa 4) [wg 6,wh 7 6,yq 8] (qV 0 (qe [wJ 9 8 7] (.seq (wy 9 0) (wu 1 (qY (xr (qf 10 8) 5 10) [xI 11,wg 12,wZ 13,wo 14 1 12 13,qt 15 14,qb 16 (.callv (.t 11) (xh 15))] (wz 16 (xr (wZ 17) 4 17))) (xr (wG 18 8 1) 8 18))))) (wE 4 (qj (-1)))⟩
theorem jG:aq Tryz.prog cn=some dY:=by kernel_rfl
def db:FK:=⟨9,xJ,xM (wE 4 qW) [wg 5,xI 6,wU 7 cn 5 6,qD 8 .geq 7 0,qf 4 8]⟩
theorem gY:aq Tryz.prog bM=some db:=by kernel_rfl
def iM:FK:=⟨15,xB 6,xM (wE 6 qW) [xI 7,wg 8,wn 9 .leq 7 8,qf 10 9,wS 11 10 0,wS 12 10 2,xx 13 10 .leq 11 (.t 12),yb 14 10 13,qf 6 14]⟩
theorem tQ:aq Tryz.prog eU=some iM:=by kernel_rfl
def gA:FK:=⟨11,xB 3,xM (wE 3 qW) [wg 4,xt 5 1,qt 6 5,wh 7 6,xq 8 7 1,qn 9 eU [.t 4,qQ,.t 8],xN 10 9,qf 3 10]⟩
theorem mR:aq Tryz.prog dE=some gA:=by kernel_rfl
def jE:FK:=⟨8,xB 3,xM [wQ 2 5 0,qc 3 qW] [qp 4 4 2,qt 5 4,qb 6 (.mkf (.func dE) (xh 1)),wU 7 bM 5 6,ye 3]⟩
theorem oT:aq Tryz.prog cX=some jE:=by kernel_rfl
def gF:FK:=⟨14,xO,xM [wQ 1 3 0,qc 2 qW] [xt 3 1,qt 4 3,wh 5 4,qD 6 .gtr 5 0,xk 7,xp 8 7 2 1,wO 9 7 8,qK 10 7 (.mkf (.func cX) (xh 1)),qK 11 7 (.call bi (wN 9 10)),qK 12 7 (wA 11),yb 13 7 12,qf 2 13]⟩
theorem sR:aq Tryz.prog cJ=some gF:=by kernel_rfl
def gS:FK:=⟨8,xO,xL (wE 2 xg) [wg 3,qb 4 (.snil false (.t 3))] (wV 4 2 xg) [yc 5 0 [],wg 6,wT 7 1 8 5 6,ye 2]⟩
theorem mM:aq Tryz.prog cw=some gS:=by kernel_rfl
def pK:FK:=⟨10,xO,qY (wE 2 xg) [wg 4,xi 5 cw 4,wZ 3] (xM [yf 6,xi 7 nu 6] (xR (yf 8) (xi 9 lu 8) 2 9))⟩
theorem Aj:aq Tryz.prog ll=some pK:=by kernel_rfl
def gE:FK:=⟨19,xJ,xL (xa 4) [wg 6,wh 7 6,yq 8] (qV 0 (qe [wJ 9 8 7] (.seq (wy 9 0) (wu 1 (qY (xr (qf 10 8) 5 10) [xI 11,wg 12,wZ 13,wo 14 1 12 13,qt 15 14,wn 16 .eql 11 15] (wz 16 (xr (wZ 17) 4 17))) (xr (wG 18 8 1) 8 18))))) (wE 4 (qj (-1)))⟩
theorem mH:aq Tryz.prog gU=some gE:=by kernel_rfl
def kx:FK:=⟨42,xO,xL [wQ 1 3 0,qc 2 qW] (xa 3) (xT 0 [yf 5,xt 6 1,qt 7 6,wh 8 7,wJ 9 5 8] 9 0 1 (qe (xa 4) (xT 2 [xy 12,xt 13 1,qt 14 13,yf 15,wo 16 5 14 15,qp 17 4 16,qt 18 17,wh 19 18,wJ 20 12 19] 20 2 3 (qe [xt 23 1,yf 25,xy 29,xt 32 1,qt 24 23,wo 26 5 24 25,qp 27 4 26,qt 28 27,wo 30 1 28 29,qt 31 30,qt 33 32,wh 34 33,xq 35 34 1,xY 36 [.t 31,qQ,.t 35],xN 37 36] (yg 37 2)) (xy 21) 22 21 1 4 22)) (yf 10) 11 10 1 3 11) [xt 38 1,qt 39 38,wh 40 39,qD 41 .gtr 40 0,qf 2 41]⟩
theorem si:aq Tryz.prog dS=some kx:=by kernel_rfl
def kg:FK:=⟨35,[],qe [qt 8 1,wg 9,wo 10 1 8 9,qR 1 10 wH] (qC [xt 11 2,qt 12 11,wg 13,wo 14 5 12 13,qp 15 4 14,qt 16 15,wh 17 16,yq 18] (qV 0 (qe [wJ 19 18 17] (.seq (wy 19 0) (wu 1 (qY (xR (wo 20 1 16 18) (qt 21 20) 7 21) [qt 22 1,ye 23,wo 24 1 22 23,qt 25 24,xN 26 25] (xZ 26 [qt 27 3,ye 28,qb 29 (.callv (.t 27) (xh 28))])) (xr (wG 30 18 1) 18 30))))) (.reg [qt 31 4,wg 32,yc 33 1 [xV 32],wT 34 1 8 31 33,xC 4 34]))⟩
theorem re:aq Tryz.prog cx=some kg:=by kernel_rfl
def mt:FK:=⟨14,xO,qY [wQ 1 3 0,qc 2 xg] [wa 3 xP] (qY [xt 6 1,qt 7 6,wh 8 7,qb 9 (.mks 1 1 [qB] (.t 8) (.t 8)),wa 4 xP,xC 4 9] [wa 5 [.nilf]] (qY [qb 10 (.mkf (.func cx) [.t 4,.t 1,.t 5,.t 3]),xC 5 10] [qt 11 5,qb 12 (.callv (.t 11) [qQ])] (qH (xr (qt 13 3) 2 13))))⟩
theorem uq:aq Tryz.prog ja=some mt:=by kernel_rfl
def gQ:FK:=⟨6,[xA 2 3],xM [yn 2 qx qx] [wg 3,xi 4 cR 3,xi 5 ed 4,qT 3 2 5]⟩
theorem mY:aq Tryz.prog fX=some gQ:=by kernel_rfl
def jZ:FK:=⟨54,xB 8,qY [wQ 4 3 0,qc 8 xg] [qf 10 2,xI 11,wo 12 1 10 11,qR 1 12 wH] (wI (xa 9) (xT 0 [qf 13 9,xt 14 4,qt 15 14,xI 16,wo 17 5 15 16,qp 18 4 17,qt 19 18,wh 20 19,wJ 21 13 20] 21 0 1 (qe [qf 24 2,xt 25 4,qt 26 25,xI 27,wo 28 5 26 27,qp 29 4 28,qt 30 29,qf 31 9,wo 32 1 30 31,qt 33 32,wo 34 1 24 33,qt 35 34,xN 36 35] (xZ 36 [xt 38 4,xI 40,qf 44 9,qf 47 2,yf 48,wq 37 3 4,qt 39 38,wo 41 5 39 40,qp 42 4 41,qt 43 42,wo 45 1 43 44,qt 46 45,qn 49 cz [.t 37,.t 46,.t 47,.t 48],qf 3 49])) (qf 22 9) 23 22 1 9 23) [yf 50,xI 51,yc 52 1 [xV 51],wT 53 1 8 50 52,qf 8 53])⟩
theorem rh:aq Tryz.prog cz=some jZ:=by kernel_rfl
def mw:FK:=⟨29,xJ,xL (wE 4 qW) [wg 6,wh 7 6,xI 8,wh 9 8,qb 10 (.mn (.t 7) (.t 9)),yq 11] (qV 0 (qe [wJ 12 11 10] (.seq (wy 12 0) (wu 1 (qY (xr (qf 13 11) 5 13) [wg 14,wZ 15,wo 16 1 14 15,xI 18,wZ 19,wo 20 1 18 19,qt 17 16,qt 21 20,wn 22 .neq 17 21] (yg 22 4)) (xr (wG 23 11 1) 11 23))))) [wg 24,wh 25 24,xI 26,wh 27 26,wn 28 .eql 25 27,qf 4 28]⟩
theorem tV:aq Tryz.prog iZ=some mw:=by kernel_rfl
def jk:FK:=⟨9,xO,xL [wQ 1 3 0,qc 2 xg] [wq 3 3 1,xi 4 cJ 3,xN 5 4] (wV 5 2 xg) [wq 6 3 1,xi 7 ja 6,xi 8 ll 7,qf 2 8]⟩
theorem pC:aq Tryz.prog eD=some jk:=by kernel_rfl
def mq:FK:=⟨33,[xA 2 3,.t 3,.t 4],qY [yn 2 qx qx,yq 3,yq 4] [wg 8,xi 9 ed 8,yn 5 qx qx,qT 3 5 9] (qY [xt 10 5,qt 11 10,wh 12 11,qf 6 12] [wg 13,xk 14,wi 15 (wN 13 14),wg 16,xk 17,wi 18 (wN 16 17),xk 19,xq 20 19 1,wg 21,xk 22,wi 23 (wN 21 22),xk 24,yc 25 7 [xV 15,wF 1 18,(2,1,qQ),wF 3 20,wF 4 23,xm 5 (-1),wF 6 24],qf 7 25] (qH [wg 27,ye 28,wg 30,ye 31,wq 26 3 5,yp 29 27 28,qA (some 3) 5 26,yp 32 30 31,qA (some 3) 5 26,qT 3 2 26,qf 3 29,qf 4 32]))⟩
theorem ue:aq Tryz.prog eO=some mq:=by kernel_rfl
def fp:FK:=⟨11,[xA 2 3,.t 3,.t 4],xM [yn 2 qx qx,yq 3,yq 4] [wg 5,xi 6 cR 5,xi 7 eO 6,qb 8 (.ext 0 (.t 7)),qb 9 (.ext 1 (.t 7)),qb 10 (.ext 2 (.t 7)),qT 3 2 8,qf 3 9,qf 4 10]⟩
theorem kQ:aq Tryz.prog fu=some fp:=by kernel_rfl
def ew:FK:=⟨48,xJ,qY [wQ 2 3 0,qc 4 xg] [xt 8 2,qt 9 8,wh 10 9,qb 11 (.mks 1 1 [qB] (.t 10) (.t 10)),qf 5 11] (xH (yc 12 1 [(0,1,qQ)]) 6 12 (.seq (wY 0 [xk 13,wh 14 13,qD 15 .gtr 14 0] 15 0 (.blk 1 (qY [xk 16,xk 17,wh 18 17,xq 19 18 1,wo 20 1 16 19,qt 21 20,qf 7 21] [xk 22,xk 23,wh 24 23,xq 25 24 1,qb 26 (.slS 1 (.t 22) none (some (.t 25))),qf 6 26] (qC [ye 27,xI 28,wn 29 .eql 27 28,qf 30 29,wR 31 30 5,wR 32 30 7,qJ 33 30 (we 1 31 32),xd 34 30 33,xW 35 30 34] (wb 35 (.exit 1)) (qe [wZ 36,ye 37,wo 38 1 36 37,qR 1 38 wH] (.reg [xk 39,xt 40 2,qt 41 40,ye 42,wo 43 5 41 42,qp 44 4 43,qt 45 44,wT 46 1 8 39 45,qf 6 46])))))) (qH (xr (wZ 47) 4 47))))⟩
theorem kj:aq Tryz.prog aL=some ew:=by kernel_rfl
def eN:FK:=⟨71,xO,qe [wQ 1 3 0,qc 2 (.c .nilp)] (qC [wq 8 3 1,xi 9 cJ 8,xN 10 9] (wV 10 2 (.c .nilp)) (xL [wq 11 3 1,wq 12 3 1,qn 13 aL (xD 12 (-1)),qA (some 3) 1 11,ww 14 [qx,qx,.nils,.nils,.nils] [wt 0 3 11,wF 4 13],wQ 15 5 14,qf 3 15] [xt 16 1,qt 17 16,wh 18 17,yq 19] (qV 0 (qe [wJ 20 19 18] (.seq (wy 20 0) (wu 1 (qY (xr (qf 21 19) 4 21) [xt 22 1,qt 23 22,wh 24 23,qb 25 (.mks 1 1 [qB] (.t 24) (.t 24)),qf 5 25] (qC [yf 26,qZ 27 26,qp 28 4 27,qt 29 28,xy 30,wo 31 1 29 30,qt 32 31] (wb 32 (qY [wq 33 3 1,xy 34,wU 35 aL 33 34,qf 6 35] [wZ 36,wh 37 36,yq 38] (qV 2 (qe [wJ 39 38 37] (.seq (wy 39 2) (wu 3 (xH (qf 40 38) 7 40 (.reg [wZ 41,ye 42,yf 43,qZ 44 43,qp 45 4 44,qt 46 45,ye 47,wo 48 1 46 47,qt 49 48,qf 50 49,wS 51 50 6,wS 52 50 7,qK 53 50 (we 1 51 52),wO 54 50 53,qK 55 50 (wA 54),yb 56 50 55,wo 57 1 41 42,xC 57 56])) (xr (wG 58 38 1) 38 58))))))) (.reg [yf 59,yf 60,qZ 61 60,qp 62 3 61,qt 63 62,wZ 64,qL 65 1 xP 1 [xV 64],wT 66 1 24 63 65,qZ 67 59,qp 68 3 67,xC 68 66]))) (xr (wG 69 19 1) 19 69))))) (xr (yf 70) 2 70)))⟩
theorem mv:aq Tryz.prog bU=some eN:=by kernel_rfl
def fA:FK:=⟨26,xJ,xM (wE 4 qW) [wg 5,qb 6 (.pnil 0 true (.t 5)),xk 7,wS 8 7 1,wS 9 7 0,qK 10 7 (qz 9),xp 11 7 4 10,wO 12 7 11,qK 13 7 (qX 12),xx 14 7 .sub 13 wK,qK 15 7 (.call eU [.t 8,qQ,.t 14]),yb 16 7 15,qf 17 16,wS 18 17 0,qK 19 17 (qz 18),xp 20 17 4 19,wO 21 17 20,wS 22 17 1,qK 23 17 (we 1 21 22),wO 24 17 23,yb 25 17 24,qf 4 25]⟩
theorem rf:aq Tryz.prog cy=some fA:=by kernel_rfl
def cF:FK:=⟨27,xB 6,xM (wE 6 qW) [wg 7,xI 8,wU 9 cy 7 8,qf 10 9,wS 11 10 0,wS 12 10 2,qK 13 10 (.call cy (wN 11 12)),yb 14 10 13,qf 15 14,wS 16 15 0,qK 17 15 (qz 16),xp 18 15 3 17,wO 19 15 18,wS 20 15 1,qK 21 15 (we 1 19 20),wO 22 15 21,wS 23 15 2,qK 24 15 (we 1 22 23),wO 25 15 24,yb 26 15 25,qf 6 26]⟩
theorem ki:aq Tryz.prog cD=some cF:=by kernel_rfl
def jd:FK:=⟨12,xB 6,xM [wQ 3 3 0,qc 6 qW] [wq 7 3 3,xi 8 bU 7,xI 9,qf 10 2,qn 11 cD [.t 8,.t 9,.t 10],qf 6 11]⟩
theorem pD:aq Tryz.prog eG=some jd:=by kernel_rfl
def oG:FK:=⟨15,xJ,xM [wQ 2 3 0,qc 4 qW] [wq 5 3 2,xi 6 dS 5,xk 7,wS 8 7 1,xp 9 7 2 2,wO 10 7 9,qK 11 7 (qX 10),xx 12 7 .sub 11 wK,qK 13 7 (xf [.t 8,qQ,.t 12]),yb 14 7 13,qf 4 14]⟩
theorem vM:aq Tryz.prog jS=some oG:=by kernel_rfl
def fZ:AK:=qY [wQ 1 3 0,qc 2 xg] [xt 10 1,qt 11 10,wh 12 11,qf 3 12] (qY (xr (qL 13 1 xP 0 []) 4 13) (xR (yf 14) (qb 15 (.mks 1 1 [qB] (.t 14) (.t 14))) 5 15) (xL [wq 16 3 1,wZ 17,yc 18 0 [],qn 19 cz [.t 16,qQ,.t 17,.t 18]] (xa 6) (xT 0 [xk 20,yf 21,wJ 22 20 21] 22 0 1 (qY (xR (yf 25) (qb 26 (.mks 1 1 [qB] (.t 25) (.t 25))) 7 26) [ye 27,xk 28,wo 29 1 27 28,qR 1 29 wH] (xK [xk 30,qD 31 .neq 30 0] (qu 31 (qe [wq 32 3 1,ye 33,yc 34 0 [],qn 35 cz [.t 32,qQ,.t 33,.t 34]] (.reg [ye 36,xk 37,wo 38 1 36 37,qR 1 38 qW])) (.reg [ye 39,xk 40,wo 41 1 39 40,qR 1 41 qW])) (qe (xR (yf 42) (qb 43 (.mks 1 1 [qB] (.t 42) (.t 42))) 8 43) (qC (xa 9) (xT 2 [qf 44 9,yf 45,wJ 46 44 45] 46 2 3 (.reg [qf 49 8,qf 50 9,wZ 51,xk 52,wo 53 1 51 52,qt 54 53,qf 55 54,wS 56 55 5,wS 57 55 9,qK 58 55 (we 1 56 57),wO 59 55 58,yb 60 55 59,qf 61 60,wS 62 61 7,wS 63 61 9,qK 64 61 (we 1 62 63),wO 65 61 64,qK 66 61 (wA 65),yb 67 61 66,wo 68 1 49 50,xC 68 67]) (qf 47 9) 48 47 1 9 48) (.reg [xy 69,qf 70 8,qL 71 1 xP 1 [xV 70],wT 72 1 24 69 71,qf 4 72]))))) (xk 23) 24 23 1 6 24) (xr (xy 73) 2 73)))
def fU:FK:=⟨74,xO,(AK.whole fZ)⟩
theorem rV:aq Tryz.prog dN=some fU:=by kernel_rfl
def fD:FK:=⟨46,xJ,qY (xa 4) (wE 5 (qj (-1))) (wI [wg 7,qZ 8 7,qp 9 3 8,qt 10 9,wh 11 10,yq 12] (qV 0 (qe [wJ 13 12 11] (.seq (wy 13 0) (wu 1 (qY (xr (qf 14 12) 6 14) [wg 15,qZ 16 15,qp 17 4 16,qt 18 17,xk 19,wo 20 1 18 19,qt 21 20,qf 22 21,wS 23 22 1,wS 24 22 6,qK 25 22 (.callv (.t 23) (xh 24)),yb 26 22 25,qf 27 26,wS 28 27 5,xx 29 27 .lss 28 qQ,wS 30 27 29,wR 31 30 0,qJ 32 30 (qz 31),xv 33 30 3 32,xd 34 30 33,wR 35 30 5,qJ 36 30 (we 1 34 35),xd 37 30 36,wR 38 30 6,qJ 39 30 (we 1 37 38),xd 40 30 39,qK 41 27 (qN 30 wH (.t 40)),yb 42 27 41] (xZ 42 (xr (xk 43) 5 43))) (xr (wG 44 12 1) 12 44))))) (xr (wZ 45) 4 45))⟩
theorem lS:aq Tryz.prog di=some fD:=by kernel_rfl
def dF:FK:=⟨20,xJ,xM (wE 4 qW) [wg 5,qt 6 1,wn 7 .neq 5 6,ye 8,wS 13 8 0,wO 9 8 2,qK 10 8 (qz 9),xp 11 8 3 10,wO 12 8 11,qK 14 8 (we 1 12 13),wO 15 8 14,wO 16 8 1,qK 17 8 (we 1 15 16),wO 18 8 17,yb 19 8 18,qf 4 19]⟩
theorem mP:aq Tryz.prog cr=some dF:=by kernel_rfl
def jw:FK:=⟨8,xJ,xM [wQ 2 1 0,wQ 3 1 1,yq 4] [qt 5 2,qb 6 (.mkf (.func cr) (wN 3 2)),wU 7 di 5 6,ye 4]⟩
theorem pc:aq Tryz.prog da=some jw:=by kernel_rfl
def la:FK:=⟨37,xO,qY [wQ 1 3 0,qc 2 xg] (xR (wq 6 3 1) (xi 7 bU 6) 3 7) (qC [yf 8,qb 9 (.pnil 0 false (.t 8))] (wV 9 2 xg) (xL [xt 10 1,qt 11 10,wh 12 11,qb 13 (.mks 1 8 xE (.t 12) (.t 12)),qf 4 13] [xy 14,wh 15 14,yq 16] (qV 0 (qe [wJ 17 16 15] (.seq (wy 17 0) (wu 1 (qY (xr (qf 18 16) 5 18) [xy 19,wZ 20,wo 21 1 19 20,qR 1 21 (qj (-1))] (qe [yf 22,qZ 23 22,qp 24 4 23,qt 25 24,wZ 26,wo 27 1 25 26,qt 28 27] (xZ 28 [xy 29,wZ 30,yf 31,wZ 32,wU 33 da 31 32,wo 34 1 29 30,xC 34 33]))) (xr (wG 35 16 1) 16 35))))) (xr (xy 36) 2 36)))⟩
theorem sx:aq Tryz.prog gk=some la:=by kernel_rfl
def kb:FK:=⟨51,xO,qY (wE 2 xg) (xr (yc 7 0 []) 3 7) (wI (xa 4) (xT 0 [xy 8,wg 9,wh 10 9,wJ 11 8 10] 11 0 1 (qe (wE 5 (qj (-1))) (qC (xa 6) (xT 2 [xk 14,wg 15,wh 16 15,wJ 17 14 16] 17 2 3 (qe [xk 20,xy 21,wn 22 .neq 20 21,qf 23 22,wS 24 23 0,wS 25 23 6,qK 26 23 (we 1 24 25),wO 27 23 26,wS 28 23 4,qK 29 23 (we 1 27 28),wO 30 23 29,yb 31 23 30,qf 32 31,wS 33 32 5,xx 34 32 .lss 33 qQ,wS 35 32 34,wR 36 35 0,wR 37 35 5,qJ 38 35 (we 1 36 37),xd 39 35 38,wR 40 35 6,qJ 41 35 (we 1 39 40),xd 42 35 41,qK 43 32 (qN 35 wH (.t 42)),yb 44 32 43] (xZ 44 (xr (xk 45) 5 45))) (xk 18) 19 18 1 6 19) (.reg [yf 46,wZ 47,yc 48 1 [xV 47],wT 49 1 8 46 48,qf 3 49]))) (xy 12) 13 12 1 4 13) (xr (yf 50) 2 50))⟩
theorem ri:aq Tryz.prog fB=some kb:=by kernel_rfl
def kY:FK:=⟨10,xO,xL [wQ 1 3 0,qc 2 xg] [wq 3 3 1,xi 4 dS 3,xN 5 4] (wz 5 [yc 6 0 [],xk 2]) [wq 7 3 1,xi 8 dN 7,xi 9 fB 8,qf 2 9]⟩
theorem rU:aq Tryz.prog fS=some kY:=by kernel_rfl
def fF:FK:=⟨16,[xA 2 3,.t 3],qY [yn 2 qx qx,yq 3] [wg 8,xi 9 cR 8,xi 10 eO 9,qf 7 10,qb 11 (.ext 0 (.t 7)),qb 12 (.ext 1 (.t 7)),qb 13 (.ext 2 (.t 7)),yn 4 qx qx,qT 3 4 11,qf 5 12,qf 6 13] (qH [wq 14 3 4,wZ 15,qT 3 2 14,qf 3 15])⟩
theorem lU:aq Tryz.prog dg=some fF:=by kernel_rfl
def gm:FK:=⟨8,[xA 2 3,.t 3],xM [yn 2 qx qx,yq 3] [wg 4,xi 5 dg 4,qb 6 (.ext 0 (.t 5)),qb 7 (.ext 1 (.t 5)),qT 3 2 6,ye 3]⟩
theorem mE:aq Tryz.prog dG=some gm:=by kernel_rfl
def jm:FK:=⟨35,xJ,qY (wE 4 xg) (wE 5 xg) (wI [wg 7,qZ 8 7,qp 9 4 8,qt 10 9,wh 11 10,yq 12] (qV 0 (qe [wJ 13 12 11] (.seq (wy 13 0) (wu 1 (qY (xr (qf 14 12) 6 14) [wg 15,qZ 16 15,qp 17 4 16,qt 18 17,xk 19,wo 20 1 18 19,qt 21 20,qf 22 21,wS 23 22 0,wS 24 22 6,qK 25 22 (.call da (wN 23 24)),wS 26 22 1,xx 27 22 .eql 25 (.t 26),yb 28 22 27] (xZ 28 [wZ 29,xk 30,yc 31 1 [xV 30],wT 32 1 8 29 31,qf 5 32])) (xr (wG 33 12 1) 12 33))))) (xr (wZ 34) 4 34))⟩
theorem pf:aq Tryz.prog eL=some jm:=by kernel_rfl
def kI:FK:=⟨15,xJ,qY [wQ 2 3 0,qc 4 xg] (xR (wq 6 3 2) (xi 7 bU 6) 5 7) (wI [wZ 8,xI 9,wU 10 cy 8 9,xN 11 10] (wV 11 4 xg) [wZ 12,xI 13,wU 14 eL 12 13,qf 4 14])⟩
theorem rR:aq Tryz.prog ee=some kI:=by kernel_rfl
def lC:FK:=⟨25,xJ,qY (wE 4 xg) (xr (yc 7 0 []) 5 7) (wI (xa 6) (xT 0 [xk 8,wg 9,wh 10 9,wJ 11 8 10] 11 0 1 (qe [wg 14,xk 15,wo 16 1 14 15,qt 17 16,xI 18,wn 19 .eql 17 18] (xZ 19 [wZ 20,xk 21,yc 22 1 [xV 21],wT 23 1 8 20 22,qf 5 23])) (xk 12) 13 12 1 6 13) (xr (wZ 24) 4 24))⟩
theorem rW:aq Tryz.prog fR=some lC:=by kernel_rfl
def lw:FK:=⟨14,xJ,xL [wQ 2 3 0,qc 4 xg] [wq 5 3 2,xI 6,wU 7 jS 5 6,xN 8 7] (wz 8 (xr (yc 9 0 []) 4 9)) [wq 10 3 2,xi 11 fS 10,xI 12,wU 13 fR 11 12,qf 4 13]⟩
theorem tn:aq Tryz.prog gM=some lw:=by kernel_rfl
def jv:FK:=⟨73,xO,qe (wE 2 qW) (qC [wg 10,wh 11 10,qD 12 .gtr 11 1048576] (wV 12 2 wH) (qY [wg 14,xi 15 dG 14,qf 13 15,qb 16 (.ext 0 (.t 13)),qb 17 (.ext 1 (.t 13)),yn 3 qx qx,qT 3 3 16,qf 4 17] [wq 18 3 3,xy 19,wU 20 ee 18 19,qf 5 20] (qC [wZ 21,wq 22 3 3,xy 23,wU 24 gM 22 23,wU 25 iZ 21 24,xN 26 25] (yg 26 2) (qe (xa 6) (qC [xt 27 3,qt 28 27,wh 29 28,yq 30] (qV 0 (qe [wJ 31 30 29] (.seq (wy 31 0) (wu 1 (xH (qf 32 30) 7 32 (.reg [xk 33,wq 34 3 3,ye 35,wU 36 ee 34 35,wh 37 36,wn 38 .add 33 37,qf 6 38])) (xr (wG 39 30 1) 30 39))))) (wI [wZ 40,wh 41 40,yq 42] (qV 2 (qe [wJ 43 42 41] (.seq (wy 43 2) (wu 3 (qY (xR (wo 44 1 40 42) (qt 45 44) 9 45) [wq 46 3 3,xy 47,qf 48 9,qn 49 eG [.t 46,.t 47,.t 48],xN 50 49,qf 51 50,wR 52 51 9,wR 53 51 4,ya 54 51 .eql 52 (.t 53),xW 55 51 54,qf 56 55,qJ 57 56 (qU 3 3),qJ 58 56 (.call gk (xh 57)),wR 59 56 9,qJ 60 56 (we 1 58 59),xd 61 56 60,wR 62 56 4,ya 63 56 .neq 61 (.t 62),xW 64 56 63] (yg 64 2)) (xr (wG 65 42 1) 42 65))))) [xk 66,wq 67 3 3,xi 68 eD 67,wh 69 68,xq 70 69 1,qb 71 (.mx (.t 70) qQ),wn 72 .eql 66 71,qf 2 72]))))))⟩
theorem oO:aq Tryz.prog jt=some jv:=by kernel_rfl
end Go.Proofs.YtdfplkcigiblcaaGreat
