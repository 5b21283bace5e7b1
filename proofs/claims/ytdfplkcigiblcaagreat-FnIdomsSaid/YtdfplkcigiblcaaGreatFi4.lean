/-
  Contracts and lemmas that the card needs, part 4.
-/
import Derived.Test.YtdfplkcigiblcaaGreatFi3
import Derived.Test.YtdfplkcigiblcaaGreatRows
namespace Go.Proofs.YtdfplkcigiblcaaGreat
open Go Go.Aw
set_option maxRecDepth 100000
abbrev ee:FuncId:=54
abbrev bx:FuncId:=104
abbrev bc:FuncId:=105
abbrev gO:FuncId:=95
abbrev eT:FuncId:=168
abbrev cL:FuncId:=169
abbrev iq:FuncId:=153
abbrev fg:FuncId:=154
abbrev ir:FuncId:=141
abbrev cP:FuncId:=96
abbrev dk:FuncId:=125
abbrev dw:FuncId:=152
abbrev iI:FuncId:=140
abbrev dK:FuncId:=124
abbrev iF:FuncId:=118
abbrev bz:FuncId:=179
abbrev eU:FuncId:=183
abbrev bf:FuncId:=172
abbrev ef:FuncId:=162
abbrev dC:FuncId:=189
abbrev cd:FuncId:=180
abbrev cF:FuncId:=181
abbrev dM:FuncId:=182
abbrev dY:FuncId:=171
abbrev aN:FuncId:=161
abbrev dq:FuncId:=143
abbrev fJ:FuncId:=194
abbrev gt:FuncId:=190
abbrev jy:FuncId:=184
abbrev dr:FuncId:=191
abbrev jG:FuncId:=185
abbrev bG:FuncId:=173
abbrev eH:FuncId:=192
abbrev eJ:FuncId:=197
abbrev dh:FuncId:=195
abbrev dS:FuncId:=196
abbrev cT:FuncId:=193
abbrev eO:FuncId:=186
abbrev bq:FuncId:=174
abbrev kf:FuncId:=163
abbrev cJ:FuncId:=175
abbrev jE:FuncId:=164
abbrev db:FuncId:=144
abbrev eG:FuncId:=127
abbrev gk:FuncId:=76
abbrev dg:FuncId:=155
abbrev bJ:FuncId:=156
abbrev bh:FuncId:=160
abbrev bm:FuncId:=159
abbrev bH:FuncId:=158
abbrev cW:FuncId:=178
abbrev er:FuncId:=187
abbrev kx:FuncId:=188
abbrev aW:FuncId:=177
abbrev dW:FuncId:=176
abbrev eb:FuncId:=170
abbrev aY:FuncId:=157
abbrev gR:FuncId:=142
abbrev eM:FuncId:=126
abbrev eN:FuncId:=166
abbrev jz:FuncId:=165
abbrev gh:FuncId:=145
abbrev eD:FuncId:=128
abbrev gz:FuncId:=119
abbrev fO:FuncId:=90
abbrev dP:FuncId:=53
abbrev br:FuncId:=120
abbrev bj:FuncId:=91
abbrev ck:FuncId:=121
abbrev bP:FuncId:=93
abbrev eS:FuncId:=61
abbrev dB:FuncId:=94
abbrev cX:FuncId:=92
abbrev cR:FuncId:=55
abbrev cm:FuncId:=100
abbrev nh:FuncId:=101
abbrev kL:FuncId:=102
abbrev kI:FuncId:=64
abbrev gG:FuncId:=98
abbrev gd:FuncId:=57
abbrev cu:FuncId:=97
abbrev iw:FuncId:=59
abbrev fV:FuncId:=19
abbrev cw:FuncId:=99
abbrev eQ:FuncId:=20
abbrev fE:FuncId:=22
abbrev cY:FuncId:=23
abbrev aL:FuncId:=106
abbrev cz:FuncId:=67
abbrev dp:FuncId:=74
abbrev cD:FuncId:=68
abbrev cS:FuncId:=27
abbrev dR:FuncId:=70
abbrev dx:FuncId:=32
abbrev dd:FuncId:=107
abbrev cn:FuncId:=108
abbrev eu:FuncId:=72
abbrev gy:FuncId:=33
abbrev fj:FuncId:=73
abbrev dJ:FuncId:=34
abbrev kj:FuncId:=8
@[reducible] def qa(a:Nat)(b:Option (Nat × Bool))(c:AI):CO:=⟨some a,b,c⟩
@[reducible] def qb(a:Nat)(b:AI):CO:=qa a none b
@[reducible] def qc(a:Nat)(b:AOp):CO:=qb a (.mov b)
@[reducible] def qd(a:IntKind)(b:Int):AV:= .p (.int a b)
@[reducible] def qe(a:List CO)(b:AK):AK:= .seq (.reg a) b
@[reducible] def qf(a b:Nat):CO:=qc a (.t b)
@[reducible] def qg(a:Int):AV:=qd .i64 a
@[reducible] def qh(a b:Nat):AI:= .fldA a (.t b)
@[reducible] def qi(a:Nat)(b:Nat × Bool)(c:AI):CO:=qa a (some b) c
@[reducible] def qj(a:Int):AOp:= .c (qg a)
@[reducible] def qk(a:Option Nat)(b:Nat):AI:= .ld a (.t b)
@[reducible] def ql(a:BinOp)(b:Nat)(c:AOp):AI:= .bin a (.t b) c
@[reducible] def qm(a:Nat):AI:=qk none a
@[reducible] def qn(a:Nat)(b:FuncId)(c:List AOp):CO:=qb a (.call b c)
@[reducible] def qo(a:Option (Nat × Bool))(b:AI):CO:=⟨none,a,b⟩
@[reducible] def qp(a b c:Nat):CO:=qb a (qh b c)
@[reducible] def qt(a b:Nat):CO:=qb a (qm b)
@[reducible] def qu(a:Nat)(b c:AK):AK:= .cond (.t a) b c
@[reducible] def qv(a:Bool):AV:= .p (.bool a)
@[reducible] def qw(a:AI):CO:=qo none a
@[reducible] def qx(a:Nat)(b:BinOp)(c:Nat)(d:AOp):CO:=qb a (ql b c d)
@[reducible] def qy:AV:=qg 0
@[reducible] def qz(a:Nat):AI:= .nilck (.t a)
@[reducible] def qA(a:Option Nat)(b c:Nat):CO:=qw (.chk a b c)
@[reducible] def qB:AV:=qv false
@[reducible] def qC(a:Nat)(b:BinOp)(c:Nat)(d:Int):CO:=qx a b c (qj d)
@[reducible] def qD(a:List CO)(b c:AK):AK:= .seq (qe a b) c
@[reducible] def qF(a b:Nat)(c:AOp):AI:= .idxS a (.t b) c
@[reducible] def qG(a:AOp):AI:= .len false a
@[reducible] def qH(a:List CO):AK:=qe a .ret
@[reducible] def qI(a b:Nat)(c:Bool)(d:AI):CO:=qi a (b,c) d
@[reducible] def qJ(a b:Nat)(c:AI):CO:=qI a b false c
@[reducible] def qK(a b:Nat)(c:AI):CO:=qI a b true c
@[reducible] def qL(a b:Nat)(c:List AV)(d:Nat)(e:List (Nat × Nat × AOp)):CO:=qb a (.bsl b c d e)
@[reducible] def qM(a:Nat)(b c:AOp):CO:=qw (.st a b c)
@[reducible] def qN(a:Nat)(b c:AOp):AI:= .pick (.t a) b c
@[reducible] def qO(a:List UInt8):AV:= .p (.str a)
@[reducible] def qP(a b:Nat):CO:=qA none a b
@[reducible] def qQ(a:Nat):AI:= .mov (.t a)
@[reducible] def qR(a b:Nat)(c:AOp):CO:=qM a (.t b) c
@[reducible] def qS:AOp:=qj 0
@[reducible] def qT(a b c:Nat):CO:=qR a b (.t c)
@[reducible] def qU:AOp:= .c qB
@[reducible] def qV(a b:Nat):AI:=qk (some a) b
@[reducible] def qW(a:Nat)(b:AK):AK:= .blk a (.loop b)
@[reducible] def qX(a:Nat):AI:=qG (.t a)
@[reducible] def qY(a b:Nat):CO:=qb a (qz b)
@[reducible] def qZ(a:Nat)(b:AK):AK:=qu a b .skip
@[reducible] def wa(a b:List CO)(c:AK):AK:=qe a (qe b c)
@[reducible] def wb(a:Nat)(b c:AK):AK:= .seq (.blk a b) c
@[reducible] def wd(a:Nat)(b:List AV):CO:=qb a (.alloc b)
@[reducible] def we(a b c:Nat):AI:=qF a b (.t c)
@[reducible] def wg(a b:Nat):CO:=qb a (qX b)
@[reducible] def wh(a:Nat):CO:=qf a 0
@[reducible] def wi(a:List CO)(b c:OT):OT:= .alt (.one a b) c
@[reducible] def wj(a:Nat)(b:AK)(c:Nat):AK:=qu a b (.exit c)
@[reducible] def wl(a:Nat)(b:List AOp):CO:=qn a bx b
@[reducible] def wm:AV:=qO []
@[reducible] def wn(a:Nat)(b:BinOp)(c d:Nat):CO:=qx a b c (.t d)
@[reducible] def wo(a b c d:Nat):CO:=qb a (we b c d)
@[reducible] def wq:AV:=qv true
@[reducible] def wt(a:Nat)(b:AK)(c:List CO):AK:=wb a b (.reg c)
@[reducible] def wu(a b c:Nat):Nat × Nat × AOp:=(a,b,.t c)
@[reducible] def wv(a:Nat)(b:List AV)(c:List (Nat × Nat × AOp)):CO:=qb a (.bld b c)
@[reducible] def ww(a b:Nat)(c d:AOp):CO:=qb a (qN b c d)
@[reducible] def wx(a b c:Nat):CO:=qb a (qV b c)
@[reducible] def wy(a b:Nat):AK:=wj a .skip b
@[reducible] def wz(a:Nat)(b:List CO):AK:=qZ a (qH b)
@[reducible] def wA(a:Nat):AI:= .not (.t a)
@[reducible] def wB(a b c:Nat)(d:AOp):AI:= .app a b (.t c) d
@[reducible] def wC(a:Nat)(b:AOp):List CO:=[qc a b]
@[reducible] def wD(a b:Nat):AI:= .box a (.t b)
@[reducible] def wE(a:Nat)(b:List AOp):CO:=qn a bc b
@[reducible] def wF(a b:Nat):Nat × Nat × AOp:=wu a 1 b
@[reducible] def wG:AOp:= .c wq
@[reducible] def wH(a b:Nat)(c:Int):CO:=qC a .add b c
@[reducible] def wI(a b c:Nat):CO:=wn a .lss b c
@[reducible] def wJ(a b:Nat)(c:Int):CO:=qC a .eql b c
@[reducible] def wK:AOp:=qj 1
@[reducible] def wL(a:List CO)(b:AK)(c:List CO):AK:=qD a b (qH c)
@[reducible] def wM(a b c:Nat):CO:=qK a b (qm c)
@[reducible] def wN(a b c:Nat):CO:=qJ a b (qQ c)
@[reducible] def wO(a:Nat)(b:AOp):List AOp:=[.t a,b]
@[reducible] def wP(a b:Nat):List AOp:=wO a (.t b)
@[reducible] def wQ(a b c:Nat):CO:=qK a b (qQ c)
@[reducible] def wR(a b c d:Nat):AI:=wB a b c (.t d)
@[reducible] def wS(a b:Nat)(c:AOp):AK:=wz a (wC b c)
@[reducible] def wT(a b c d e:Nat):CO:=qb a (wR b c d e)
@[reducible] def wU(a:List CO)(b:OT):OT:=wi a b .tru
@[reducible] def wV(a b c:Nat):CO:=qb a (wD b c)
@[reducible] def wW(a:Nat)(b:List CO)(c d:AK):AK:=qW a (qD b c d)
@[reducible] def wX(a:Nat)(b:List CO)(c d:Nat)(e:AK):AK:=wW a b (wy c d) e
@[reducible] def wY(a b:Nat)(c:AOp)(d:Nat):CO:=ww a b c (.t d)
@[reducible] def wZ(a:Nat):CO:=qf a 5
@[reducible] def xa(a:Nat)(b:FuncId)(c d:Nat):CO:=qn a b (wP c d)
@[reducible] def xb(a:Nat)(b:List CO)(c d e:Nat)(f:AK)(g:List CO):AK:=wX a b c d (wt e f g)
@[reducible] def xc(a:Nat):List CO:=wC a qS
@[reducible] def xd(a:Nat)(b:List AOp):CO:=qn a bH b
@[reducible] def xe(a b c:Nat):CO:=qJ a b (qm c)
@[reducible] def xf(a b c:Nat)(d:AOp):CO:=ww a b (.t c) d
@[reducible] def xg(a:Nat):List AOp:=[.t a]
@[reducible] def xh(a:Nat)(b:FuncId)(c:Nat):CO:=qn a b (xg c)
@[reducible] def xi(a b:Nat):CO:=qp a 0 b
@[reducible] def xj(a b:Nat)(c:Int):Nat × Nat × AOp:=(a,b,qj c)
@[reducible] def xk(a:Nat)(b:Int):Nat × Nat × AOp:=xj a 1 b
@[reducible] def xl(a:List AOp):AI:= .call gO a
@[reducible] def xm(a b c d:Nat):CO:=qK a b (qh c d)
@[reducible] def xo(a b:Nat):CO:=qp a 2 b
@[reducible] def xp(a b:Nat):CO:=xh a bJ b
@[reducible] def xq(a b:Nat)(c:Int):CO:=qC a .sub b c
@[reducible] def xr(a b c d:Nat):CO:=qJ a b (qh c d)
@[reducible] def xt(a:CO)(b c:Nat):List CO:=[a,qf b c]
@[reducible] def xu(a:Nat):CO:=qf a 4
@[reducible] def xv(a:Nat):CO:=qf a 6
@[reducible] def xx(a:Nat)(b:List AOp):CO:=qn a bh b
@[reducible] def xy(a b:Nat):CO:=qT 1 a b
@[reducible] def xz(a:Nat)(b:Int):List AOp:=wO a (qj b)
@[reducible] def xA(a b:Nat)(c:BinOp)(d:Nat)(e:AOp):CO:=qK a b (ql c d e)
@[reducible] def xB(a b:Nat):CO:=qp a 1 b
@[reducible] def xC:AOp:= .c .nils
@[reducible] def xD(a:Nat):List RV:=[.t a]
@[reducible] def xE(a:CO)(b c:Nat)(d:AK):AK:=qe (xt a b c) d
@[reducible] def xF(a:List CO)(b c:AK):AK:= .cut (qe a b) c
@[reducible] def xG:List AV:=[qy]
@[reducible] def xH(a b c:Nat)(d:List (Nat × Nat × AOp)):CO:=qL a b xG c d
@[reducible] def xI(a b:Nat):RV:= .c a (some b)
@[reducible] def xJ(a b:List CO)(c:AK)(d:List CO):AK:=qe a (wL b c d)
@[reducible] def xK(a:Nat):CO:=qf a 1
@[reducible] def xL:List RV:=xD 2
@[reducible] def xM:List AV:=[.nils]
@[reducible] def xN(a b:Nat):CO:=xh a bm b
@[reducible] def xO(a:List AOp):AI:= .call bx a
@[reducible] def xP(a b:CO)(c d:Nat):List CO:=[a,b,qf c d]
@[reducible] def xQ(a:Nat)(b:List CO)(c d e:Nat)(f:AK)(g h:CO)(i j:Nat):AK:=xb a b c d e f (xP g h i j)
@[reducible] def xR(a:Nat)(b:List CO)(c d e:Nat)(f:AK)(g:CO)(h i:Nat)(j:Int)(k l:Nat):AK:=xQ a b c d e f g (wH h i j) k l
@[reducible] def xS(a b c:Nat):CO:=wY a b wG c
@[reducible] def xT:List RV:=xD 4
@[reducible] def xU(a:Nat)(b:List AOp):CO:=qn a ef b
@[reducible] def xV(a b:List CO):AK:=qe a (qH b)
@[reducible] def xW(a:Nat):Nat × Nat × AOp:=wF 0 a
@[reducible] def xX(a:Nat)(b:List AOp):CO:=qn a gO b
@[reducible] def xY(a b:Nat):CO:=qb a (wA b)
@[reducible] def xZ(a b:Nat)(c:List AV)(d:Nat)(e:List (Nat × Nat × AOp)):CO:=qb a (.bslP b c d e)
@[reducible] def x9(a b:Nat)(c:BinOp)(d:Nat)(e:AOp):CO:=qJ a b (ql c d e)
@[reducible] def ya(a b c:Nat):CO:=xf a b c qU
@[reducible] def yb(a:Nat):CO:=qf a 3
@[reducible] def yc(a:Nat):CO:=qf a 7
@[reducible] def ye(a b:Nat)(c:List (Nat × Nat × AOp)):CO:=xH a 1 b c
@[reducible] def yf(a:Nat)(b:List CO):AK:=qZ a (.reg b)
@[reducible] def yg(a b:Nat):AK:=wS a b qU
@[reducible] def yh(a:Nat):CO:=qP a 10
@[reducible] def yi:CO:=yh 9
@[reducible] def yj(a:Nat):CO:=qP 11 a
@[reducible] def yk:CO:=yj 12
@[reducible] def yl(a b:Nat)(c:Int)(d e:Nat)(f:AK):AK:=xE (wJ a b c) d e f
@[reducible] def ym(a:List UInt8):AOp:= .c (qO a)
def kQ:FK:=⟨11,xL,xJ (wC 2 (.c .nilp)) [wh 3,wg 4 3,qC 5 .gtr 4 2000] (yf 5 (xP (wh 6) (qb 7 (.slS 1 (.t 6) none (some (qj 2000)))) 0 7)) [wh 8,wv 9 [.nils,qy] [xW 8],wV 10 2 9,qf 2 10]⟩
theorem rj:au Tryz.prog ee=some kQ:=by kernel_rfl
def cE:FK:=⟨99,xT,wa (xc 4) [wh 7,wh 8,qY 9 8,xB 10 9,qt 11 10,wH 12 11 1,qY 13 7,xB 14 13,xy 14 12] (qD [xK 15,qC 16 .lss 15 1,qf 17 16,wN 18 17 0,qJ 19 17 (qz 18),xr 20 17 0 19,xe 21 17 20,qJ 22 17 (qX 21),x9 23 17 .eql 22 qS,xS 24 17 23] (wS 24 4 qS) (qe [wh 25,qY 26 25,xB 27 26,qt 28 27,xq 29 28 1,qf 5 29] (qD [wZ 30,wh 31,qY 32 31,xi 33 32,qt 34 33,wg 35 34,wI 36 30 35] (wz 36 [wh 37,qY 38 37,xi 39 38,qt 40 39,wZ 41,wo 42 1 40 41,qt 43 42,qb 44 (.conv .i64 (.t 43)),xK 45,wn 46 .rem 44 45,qf 4 46]) (wa [wh 47,qY 48 47,xi 49 48,wZ 51,wh 52,qY 53 52,xi 54 53,wh 62,qY 63 62,xi 64 63,wZ 66,qC 67 .mul 66 7,wH 68 67 3,wh 69,qY 70 69,xi 71 70,wZ 80,qC 81 .mul 80 29,wZ 83,wh 84,qY 85 84,xi 86 85,qt 50 49,qt 55 54,wg 56 55,wn 57 .rem 51 56,wo 58 1 50 57,qt 59 58,qb 60 (.conv .i64 (.t 59)),qC 61 .mul 60 131,qt 65 64,qt 72 71,wg 73 72,wn 74 .rem 68 73,wo 75 1 65 74,qt 76 75,qb 77 (.conv .i64 (.t 76)),qC 78 .mul 77 1117,wn 79 .add 61 78,wn 82 .add 79 81,qt 87 86,wg 88 87,wn 89 .quo 83 88,qC 90 .mul 89 53,wn 91 .add 82 90,qf 6 91] [xv 92,xv 93,qC 94 .quo 93 64,wn 95 .xor 92 94,qf 6 95] (qH [xv 96,xK 97,wn 98 .rem 96 97,qf 4 98])))))⟩
theorem nA:au Tryz.prog bx=some cE:=by kernel_rfl
def cV:FK:=⟨12,xT,xV (xc 4) [xK 5,wh 6,xK 7,wg 8 7,wl 9 (wP 6 8),wo 10 1 5 9,qt 11 10,qf 4 11]⟩
theorem eA:au Tryz.prog bc=some cV:=by kernel_rfl
def kB:FK:=⟨15,xD 6,xV (wC 6 qU) [wh 7,xK 8,wn 9 .geq 7 8,qf 10 9,wQ 11 10 0,wQ 12 10 2,xA 13 10 .leq 11 (.t 12),ya 14 10 13,qf 6 14]⟩
theorem yR:au Tryz.prog gO=some kB:=by kernel_rfl
def bT:FK:=⟨28,xL,qe (xc 2) (wb 0 (qe [wh 4,wJ 5 4 1,wZ 3] (qu 3 (qH (xc 2)) (qe [wh 7,wJ 8 7 2,qf 9 8,wN 10 9 0,x9 11 9 .eql 10 (qj 10),xS 12 9 11,qf 13 12,wN 14 13 0,x9 15 13 .eql 14 (qj 11),xS 16 13 15,qf 17 16,wN 18 17 0,x9 19 17 .eql 18 (qj 13),xS 20 17 19,qf 6 20] (qu 6 (qH (wC 2 wK)) (qe [wh 22,xX 23 [.t 22,qj 3,qj 9],qf 24 23,wN 25 24 0,x9 26 24 .eql 25 (qj 12),xS 27 24 26,qf 21 27] (wS 21 2 (qj 2))))))) (qH (wC 2 (qj (-1)))))⟩
theorem tG:au Tryz.prog eT=some bT:=by kernel_rfl
def ko:FK:=⟨13,xL,xV (wC 2 qU) [wh 3,xX 4 [.t 3,wK,qj 14],xu 5,wQ 6 5 0,xA 7 5 .neq 6 (qj 12),ya 8 5 7,qf 9 8,wQ 10 9 0,xA 11 9 .neq 10 (qj 13),ya 12 9 11,qf 2 12]⟩
theorem sN:au Tryz.prog cL=some ko:=by kernel_rfl
def iP:AK:=wa [wV 4 1 1,wd 6 [qy,qy,.nils,qy]] [wh 11,ye 12 16 [(0,1,wK),(1,1,wK),xk 2 2,xk 3 3,xk 4 4,xk 5 5,xk 6 8,xk 7 9,xk 8 10,xk 9 13,xk 10 3,xk 11 6,xk 12 7,xk 13 11,xk 14 12,xk 15 14],wE 13 (wP 11 12),qf 7 13] (wa [yc 14,wh 15,qf 16 2,wl 17 (wP 15 16),wv 18 [qy,qy,.nils,qy] [xW 14,wF 1 17],wd 8 [qy,qy,.nils,qy],qT 4 8 18] (xP (yc 19) (xh 20 eT 19) 9 20) (xF [yc 21,wJ 22 21 14] (qZ 22 (qD [xi 23 4,qt 24 23,wg 25 24,wJ 26 25 0] (wz 26 [wh 27,qf 28 2,wl 29 (wP 27 28),ye 30 1 [xW 29],wv 31 [qy,qy,.nils,qy] [xk 0 13,xk 1 (-1),wF 2 30],qT 4 6 31]) (qe [wh 32,xi 33 4,qt 34 33,wg 35 34,wl 36 (wP 32 35),qp 37 3 8,xy 37 36] (.reg [xi 38 4,qt 39 38,qp 40 3 8,qt 41 40,wo 42 3 39 41,xi 43 42,qt 44 43,qf 9 44])))) (xF [yc 45,wJ 46 45 1] (yf 46 [wh 47,ye 48 7 [(0,1,qS),(1,1,wK),xk 2 2,xk 3 3,xk 4 15,xk 5 16,xk 6 255],wE 49 (wP 47 48),qp 50 3 8,xy 50 49]) (xF [yc 51,xh 52 cL 51,xY 53 52] (yf 53 [xB 54 8,qR 1 54 (qj (-1))]) (wL (xc 10) (xR 0 [qf 55 10,qf 56 9,wI 57 55 56] 57 0 1 (.reg [xo 60 8,wh 62,qf 63 2,qt 61 60,wl 64 (wP 62 63),qP 60 61,xZ 65 1 xG 1 [xW 64],wT 66 1 8 61 65,xo 67 8,xy 67 66]) (qf 58 10) 59 58 1 10 59) [wx 68 4 8,qT 4 6 68])))))
def iH:FK:=⟨69,[xI 6 4],(AK.whole iP)⟩
theorem tm:au Tryz.prog iq=some iH:=by kernel_rfl
def kP:FK:=⟨30,xD 6,xJ (xc 6) [xK 7,qf 8 2,xq 9 8 1,wI 10 7 9,qf 11 10,wQ 12 11 0,qK 13 11 (xO (xz 12 4)),xA 14 11 .gtr 13 qS,ya 15 11 14] (wz 15 [xK 16,wH 17 16 1,wh 18,qf 19 2,xq 20 19 1,xK 21,wn 22 .sub 20 21,wl 23 (wP 18 22),wn 24 .add 17 23,qf 6 24]) [wh 25,qf 26 2,xq 27 26 1,wl 28 (wP 25 27),qb 29 (.bin .add wK (.t 28)),qf 6 29]⟩
theorem zy:au Tryz.prog fg=some kP:=by kernel_rfl
def iE:AK:=wa [wV 3 1 1,wd 4 [qy,qy,.nils]] [wh 10,ye 11 4 [(0,1,wK),(1,1,qS),xk 2 2,xk 3 3],wE 12 (wP 10 11),wv 13 [qy,qy,.nils] [xW 12],wd 5 [qy,qy,.nils],qT 3 5 13] (wa [xi 14 5,wh 17,qt 15 14,wH 16 15 2,wl 18 (xz 17 5),qP 14 15,wn 19 .add 16 18,xB 20 5,xy 20 19] [wh 21,ye 22 6 [xk 0 3,xk 1 5,xk 2 2,(3,1,wK),xk 4 7,xk 5 4],wE 23 (wP 21 22),qf 6 23] (wL (xc 7) (xR 0 [yc 24,xv 25,wI 26 24 25] 26 0 1 (qe [wv 29 [.nils,.nils,qy,qy,.nils] [],wd 8 [.nils,.nils,qy,qy,.nils],qT 5 8 29] (xF [wh 30,ye 31 5 [(0,1,wK),xk 1 2,(2,1,qS),xk 3 3,xk 4 4],wE 32 (wP 30 31),qf 9 32] (xQ 2 [qf 33 9,qC 34 .gtr 33 0] 34 2 3 (.reg [xB 37 8,wh 39,xB 41 5,qt 38 37,wx 40 1 3,qt 42 41,qn 43 iq [.t 39,.t 40,.t 42],qP 37 38,qL 44 4 [qy,qy,.nils,qy] 1 [wu 0 4 43],qP 37 38,wT 45 4 48 38 44,xB 46 8,xy 46 45]) (qf 35 9) (xq 36 35 1) 9 36) (wa [wh 47,xB 48 5,qt 49 48,wl 50 (wP 47 49),qp 51 3 8,xy 51 50] [wh 52,ye 53 5 [xk 0 2,(1,1,wK),xk 2 2,(3,1,wK),xk 4 3],wE 54 (wP 52 53),xo 55 8,xy 55 54] (xF [xv 56,wJ 57 56 1,qf 58 57,wN 59 58 7,wN 60 58 6,x9 61 58 .sub 60 wK,x9 62 58 .eql 59 (.t 61),wN 63 58 62,wQ 64 63 0,qK 65 63 (xO (xz 64 3)),xA 66 63 .gtr 65 qS,qJ 67 58 (qN 63 (.t 66) qU),xS 68 58 67] (yf 68 [xo 69 8,qR 1 69 (qj 3)]) (xF [xo 70 8,qt 71 70] (.blk 4 (yl 73 71 1 72 73 (qu 72 (qe [qp 74 3 8,qR 1 74 qS] (.reg [wh 75,yc 76,xv 77,qn 78 fg [.t 75,.t 76,.t 77],ye 79 1 [xW 78],qp 80 4 8,xy 80 79])) (yl 82 71 2 81 82 (yf 81 [wh 83,yc 84,xv 85,qn 86 fg [.t 83,.t 84,.t 85],wh 87,yc 88,xv 89,qn 90 fg [.t 87,.t 88,.t 89],ye 91 2 [xW 86,wF 1 90],qp 92 4 8,xy 92 91]))))) (.reg [xo 93 5,qt 94 93,wx 95 5 8,qL 96 5 [.nils,.nils,qy,qy,.nils] 1 [wu 0 5 95],wT 97 5 88 94 96,xo 98 5,xy 98 97])))))) (yc 27) 28 27 1 7 28) [wx 99 3 5,qT 3 4 99]))
def iA:FK:=⟨100,[xI 4 3],(AK.whole iE)⟩
theorem tK:au Tryz.prog ir=some iA:=by kernel_rfl
def kF:FK:=⟨43,xT,wa [wV 2 3 0,qc 4 xC] (xt (ye 8 0 []) 5 8) (wL (xc 6) (xR 0 [xv 9,xo 10 2,qt 11 10,wg 12 11,wI 13 9 12] 13 0 1 (qe (xc 7) (xR 2 [yc 16,xo 17 2,qt 18 17,xv 19,wo 20 5 18 19,qp 21 4 20,qt 22 21,wg 23 22,wI 24 16 23] 24 2 3 (qe [xo 27 2,qt 28 27,xv 29,wo 30 5 28 29,qp 31 4 30,qt 32 31,yc 33,wo 34 1 32 33,qt 35 34,xK 36,wn 37 .eql 35 36] (qZ 37 (qe [wZ 38,xv 39,ye 40 1 [xW 39],wT 41 1 8 38 40,qf 5 41] (.exit 2)))) (yc 25) 26 25 1 7 26)) (xv 14) 15 14 1 6 15) (xt (wZ 42) 4 42))⟩
theorem rx:au Tryz.prog cP=some kF:=by kernel_rfl
def iG:AK:=wa [wd 2 xM] [wv 9 xM [],wd 3 xM,xy 3 9] (xF [wh 10,ye 11 4 [(0,1,wK),xk 1 2,(2,1,wK),xk 3 3],wE 12 (wP 10 11),qf 4 12] (xQ 0 [xu 13,qC 14 .gtr 13 0] 14 0 1 (.reg [xi 17 3,wh 19,qt 18 17,wx 20 1 3,xa 21 ir 19 20,qP 17 18,qL 22 3 [qy,qy,.nils] 1 [wu 0 3 21],qP 17 18,wT 23 3 40 18 22,xi 24 3,xy 24 23]) (xu 15) (xq 16 15 1) 4 16) (wL [wh 25,ye 26 4 [(0,1,qS),(1,1,qS),(2,1,wK),xk 3 3],wE 27 (wP 25 26),qf 5 27] (xQ 2 [wZ 28,qC 29 .gtr 28 0] 29 2 3 (wa [xi 32 3,wh 34,xi 35 3,qt 33 32,qt 36 35,wg 37 36,wl 38 (wP 34 37),qP 32 33,wo 39 3 33 38,qf 6 39] [wh 40,xv 41,qY 42 41,xo 43 42,qt 44 43,wg 45 44,wl 46 (wP 40 45),qf 7 46] (qe [wh 47,xv 48,qY 49 48,xB 50 49,qt 51 50,wl 52 (wP 47 51),wv 53 [qy,.nils] [xW 52],wd 8 [qy,.nils],qT 2 8 53] (xF [xv 54,qY 55 54,wx 56 3 55,yc 57,xa 58 cP 56 57,wg 59 58,qc 60 qS] (qW 4 (qe [wI 61 60 59] (.seq (wy 61 4) (wt 5 (.reg [xB 62 8,wh 64,xv 65,qY 66 65,xB 67 66,qt 63 62,qt 68 67,wl 69 (wP 64 68),qP 62 63,xZ 70 1 xG 1 [xW 69],wT 71 1 8 63 70,xB 72 8,xy 72 71]) (xt (wH 73 60 1) 60 73))))) (qe [yc 74,qC 75 .gtr 74 0] (yf 75 [xv 76,qY 77 76,xo 78 77,yc 80,xv 81,qY 82 81,xo 83 82,yc 85,qt 79 78,qt 84 83,wo 86 5 84 85,xi 87 86,qt 88 87,wx 89 2 8,qL 90 2 [qy,.nils] 1 [wu 0 2 89],qP 78 79,qP 83 84,qP 87 88,wT 91 2 32 88 90,qP 78 79,wo 92 5 79 80,xi 93 92,xy 93 91]))))) (wZ 30) (xq 31 30 1) 5 31) [wx 94 1 3,xy 2 94]))
def io:FK:=⟨95,[xI 2 1],(AK.whole iG)⟩
theorem tB:au Tryz.prog dk=some io:=by kernel_rfl
def dA:AK:=qe [wV 1 5 0,wd 2 [.nils,.nils,qy,qy,.nils]] (.cut (.ot (.one (wC 3 (.c .any)) (.one [xo 9 1] (.one [qp 11 3 1] (.one [qp 14 4 1] (.one [qt 10 9] (.one [qt 12 11] (.one [qt 15 14] (wi [qL 7 2 [qy,.nils] 0 [],yi,yk,qP 14 15] (wi [qL 8 4 [qy,qy,.nils,qy] 0 [],yi,yk,qP 14 15] (wU [ye 13 0 [],yi,yk,qP 14 15] (wU [wT 16 1 8 13 15,yi,yk] (.one [wv 17 [.nils,.nils,qy,qy,.nils] [xW 7,wF 1 8,wF 2 10,wF 3 12,wF 4 16]] (wU [wd 3 [.nils,.nils,qy,qy,.nils]] (wU [qT 5 3 17] .done))))) (wU [ye 13 0 [],yi,yk,qP 14 15] (wi [qL 8 4 [qy,qy,.nils,qy] 0 [],yi,yk,qP 14 15] (wU [wT 16 1 8 13 15,yi,yk] (.one [wv 17 [.nils,.nils,qy,qy,.nils] [xW 7,wF 1 8,wF 2 10,wF 3 12,wF 4 16]] (wU [wd 3 [.nils,.nils,qy,qy,.nils]] (wU [qT 5 3 17] .done)))) (wU [wT 16 1 8 13 15,yi,yk] (wU [qL 8 4 [qy,qy,.nils,qy] 0 [],yi,yk,qP 14 15] (.one [wv 17 [.nils,.nils,qy,qy,.nils] [xW 7,wF 1 8,wF 2 10,wF 3 12,wF 4 16]] (wU [wd 3 [.nils,.nils,qy,qy,.nils]] (wU [qT 5 3 17] .done)))))))) (wi [qL 8 4 [qy,qy,.nils,qy] 0 [],yi,yk,qP 14 15] (wi [qL 7 2 [qy,.nils] 0 [],yi,yk,qP 14 15] (wU [ye 13 0 [],yi,yk,qP 14 15] (wU [wT 16 1 8 13 15,yi,yk] (.one [wv 17 [.nils,.nils,qy,qy,.nils] [xW 7,wF 1 8,wF 2 10,wF 3 12,wF 4 16]] (wU [wd 3 [.nils,.nils,qy,qy,.nils]] (wU [qT 5 3 17] .done))))) (wU [ye 13 0 [],yi,yk,qP 14 15] (wi [qL 7 2 [qy,.nils] 0 [],yi,yk,qP 14 15] (wU [wT 16 1 8 13 15,yi,yk] (.one [wv 17 [.nils,.nils,qy,qy,.nils] [xW 7,wF 1 8,wF 2 10,wF 3 12,wF 4 16]] (wU [wd 3 [.nils,.nils,qy,qy,.nils]] (wU [qT 5 3 17] .done)))) (wU [wT 16 1 8 13 15,yi,yk] (wU [qL 7 2 [qy,.nils] 0 [],yi,yk,qP 14 15] (.one [wv 17 [.nils,.nils,qy,qy,.nils] [xW 7,wF 1 8,wF 2 10,wF 3 12,wF 4 16]] (wU [wd 3 [.nils,.nils,qy,qy,.nils]] (wU [qT 5 3 17] .done)))))))) (wU [ye 13 0 [],yi,yk,qP 14 15] (wi [qL 7 2 [qy,.nils] 0 [],yi,yk,qP 14 15] (wi [qL 8 4 [qy,qy,.nils,qy] 0 [],yi,yk,qP 14 15] (wU [wT 16 1 8 13 15,yi,yk] (.one [wv 17 [.nils,.nils,qy,qy,.nils] [xW 7,wF 1 8,wF 2 10,wF 3 12,wF 4 16]] (wU [wd 3 [.nils,.nils,qy,qy,.nils]] (wU [qT 5 3 17] .done)))) (wU [wT 16 1 8 13 15,yi,yk] (wU [qL 8 4 [qy,qy,.nils,qy] 0 [],yi,yk,qP 14 15] (.one [wv 17 [.nils,.nils,qy,qy,.nils] [xW 7,wF 1 8,wF 2 10,wF 3 12,wF 4 16]] (wU [wd 3 [.nils,.nils,qy,qy,.nils]] (wU [qT 5 3 17] .done)))))) (wi [qL 8 4 [qy,qy,.nils,qy] 0 [],yi,yk,qP 14 15] (wi [qL 7 2 [qy,.nils] 0 [],yi,yk,qP 14 15] (wU [wT 16 1 8 13 15,yi,yk] (.one [wv 17 [.nils,.nils,qy,qy,.nils] [xW 7,wF 1 8,wF 2 10,wF 3 12,wF 4 16]] (wU [wd 3 [.nils,.nils,qy,qy,.nils]] (wU [qT 5 3 17] .done)))) (wU [wT 16 1 8 13 15,yi,yk] (wU [qL 7 2 [qy,.nils] 0 [],yi,yk,qP 14 15] (.one [wv 17 [.nils,.nils,qy,qy,.nils] [xW 7,wF 1 8,wF 2 10,wF 3 12,wF 4 16]] (wU [wd 3 [.nils,.nils,qy,qy,.nils]] (wU [qT 5 3 17] .done)))))) (wU [wT 16 1 8 13 15,yi,yk] (wi [qL 7 2 [qy,.nils] 0 [],yi,yk,qP 14 15] (wU [qL 8 4 [qy,qy,.nils,qy] 0 [],yi,yk,qP 14 15] (.one [wv 17 [.nils,.nils,qy,qy,.nils] [xW 7,wF 1 8,wF 2 10,wF 3 12,wF 4 16]] (wU [wd 3 [.nils,.nils,qy,qy,.nils]] (wU [qT 5 3 17] .done)))) (wU [qL 8 4 [qy,qy,.nils,qy] 0 [],yi,yk,qP 14 15] (wU [qL 7 2 [qy,.nils] 0 [],yi,yk,qP 14 15] (.one [wv 17 [.nils,.nils,qy,qy,.nils] [xW 7,wF 1 8,wF 2 10,wF 3 12,wF 4 16]] (wU [wd 3 [.nils,.nils,qy,qy,.nils]] (wU [qT 5 3 17] .done)))))))))))))))))))) (xF (xc 4) (xR 0 [xu 18,xi 19 1,qt 20 19,wg 21 20,wI 22 18 21] 22 0 1 (.reg [xi 25 3,xi 27 1,xu 29,xi 34 1,xu 36,qt 26 25,qt 28 27,wo 30 2 28 29,xi 31 30,qt 32 31,qt 35 34,wo 37 2 35 36,xB 38 37,qt 39 38,ye 33 0 [],qP 25 26,qP 27 28,qP 31 32,qP 34 35,qP 38 39,wT 40 1 8 33 39,qP 25 26,qP 27 28,qP 31 32,wv 41 [qy,.nils] [xW 32,wF 1 40],qL 42 2 [qy,.nils] 1 [wu 0 2 41],qP 25 26,wT 43 2 32 26 42,xi 44 3,xy 44 43]) (xu 23) 24 23 1 4 24) (wL (xc 5) (xR 2 [wZ 45,xB 46 1,qt 47 46,wg 48 47,wI 49 45 48] 49 2 3 (qe [xB 52 1,qt 53 52,wZ 54,wo 55 4 53 54,wx 56 4 55,wd 6 [qy,qy,.nils,qy],qT 4 6 56] (.reg [xB 57 3,xi 59 6,xB 61 6,xo 64 6,qp 67 3 6,qt 58 57,qt 60 59,qt 62 61,qt 65 64,qt 68 67,ye 63 0 [],qP 57 58,qP 59 60,qP 61 62,qP 64 65,qP 67 68,wT 66 1 8 63 65,qP 57 58,qP 59 60,qP 61 62,qP 67 68,wv 69 [qy,qy,.nils,qy] [xW 60,wF 1 62,wF 2 66,wF 3 68],qL 70 4 [qy,qy,.nils,qy] 1 [wu 0 4 69],qP 57 58,wT 71 4 48 58 70,xB 72 3,xy 72 71])) (wZ 50) 51 50 1 5 51) [wx 73 5 3,qT 5 2 73])))
def dE:FK:=⟨74,[xI 2 5],(AK.whole dA)⟩
theorem mi:au Tryz.prog dw=some dE:=by kernel_rfl
def lR:FK:=⟨29,[xI 2 3],wa [wV 1 3 0,wd 2 [qy,qy,.nils]] [xi 5 1,qt 6 5,xB 7 1,qt 8 7,wv 9 [qy,qy,.nils] [xW 6,wF 1 8],wd 3 [qy,qy,.nils],qT 3 3 9] (wL (xc 4) (xR 0 [xu 10,xo 11 1,qt 12 11,wg 13 12,wI 14 10 13] 14 0 1 (.reg [xo 17 3,xo 19 1,xu 21,qt 18 17,qt 20 19,wo 22 5 20 21,wx 23 5 22,xh 24 dw 23,qP 17 18,qL 25 5 [.nils,.nils,qy,qy,.nils] 1 [wu 0 5 24],qP 17 18,wT 26 5 88 18 25,xo 27 3,xy 27 26]) (xu 15) 16 15 1 4 16) [wx 28 3 3,qT 3 2 28])⟩
theorem tP:au Tryz.prog iI=some lR:=by kernel_rfl
def ie:FK:=⟨25,[xI 2 1],wa [wV 1 1 0,wd 2 xM] [wv 5 xM [],wd 3 xM,xy 3 5] (wL (xc 4) (xR 0 [xu 6,xi 7 1,qt 8 7,wg 9 8,wI 10 6 9] 10 0 1 (.reg [xi 13 3,xi 15 1,xu 17,qt 14 13,qt 16 15,wo 18 3 16 17,wx 19 3 18,xh 20 iI 19,qP 13 14,qL 21 3 [qy,qy,.nils] 1 [wu 0 3 20],qP 13 14,wT 22 3 40 14 21,xi 23 3,xy 23 22]) (xu 11) 12 11 1 4 12) [wx 24 1 3,xy 2 24])⟩
theorem nk:au Tryz.prog dK=some ie:=by kernel_rfl
def iz:AK:=wa [wd 2 xM] [wh 7,xh 8 dk 7,xh 9 dK 8,wd 3 xM,xy 3 9] (wa [xi 10 3,wh 12,xi 13 3,qt 11 10,qt 14 13,wg 15 14,wl 16 (wP 12 15),qP 10 11,wo 17 3 11 16,qf 4 17] [xu 18,qY 19 18,xo 20 19,wh 22,xu 23,qY 24 23,xo 25 24,qt 21 20,qt 26 25,wg 27 26,wl 28 (wP 22 27),qP 20 21,wo 29 5 21 28,qf 5 29] (qe [wh 30,xu 31,qY 32 31,xB 33 32,xu 35,qY 36 35,xo 37 36,qt 34 33,qt 38 37,wg 39 38,ye 40 5 [xk 0 (-1),wF 1 34,wF 2 39,(3,1,qS),(4,1,wK)],wE 41 (wP 30 40),qf 6 41] (xF [wh 42,wl 43 (xz 42 32)] (.blk 0 (yl 45 43 0 44 45 (qu 44 (.reg [wZ 46,wh 47,wl 48 (xz 47 5),qY 49 46,xo 50 49,xy 50 48]) (yl 52 43 1 51 52 (qu 51 (qe [wZ 53,qY 54 53,qp 55 4 54,qt 56 55,wg 57 56,qC 58 .gtr 57 0] (yf 58 [wZ 59,qY 60 59,qp 61 4 60,qt 62 61,xv 63,qb 64 (qF 1 62 qS),xy 64 63])) (yl 66 43 2 65 66 (qu 65 (.reg [wZ 67,xv 68,qY 69 67,qp 70 3 69,xy 70 68]) (yl 72 43 3 71 72 (qu 71 (qe [wZ 73,qY 74 73,xB 75 74,qt 76 75,wg 77 76,qC 78 .gtr 77 0] (yf 78 [wZ 79,qY 80 79,xB 81 80,qt 82 81,xv 83,qb 84 (qF 4 82 qS),xB 85 84,xy 85 83])) (yl 87 43 4 86 87 (qu 86 (qe [wZ 88,qY 89 88,xB 90 89,qt 91 90,wg 92 91,qC 93 .gtr 92 0] (yf 93 [wZ 94,qY 95 94,xB 96 95,wZ 98,qY 99 98,xB 100 99,xv 105,xZ 106 1 xG 1 [xW 105],qt 97 96,qt 101 100,qb 102 (qF 4 101 qS),xo 103 102,qt 104 103,wT 107 1 8 104 106,qP 96 97,qb 108 (qF 4 97 qS),xo 109 108,xy 109 107])) (yl 111 43 5 110 111 (qu 110 (.reg [wZ 112,wZ 113,qY 114 113,xi 115 114,qt 116 115,xv 117,ye 118 1 [xW 117],wv 119 [qy,.nils] [(0,1,qS),wF 1 118],qL 120 2 [qy,.nils] 1 [wu 0 2 119],wT 121 2 32 116 120,qY 122 112,xi 123 122,xy 123 121]) (yl 125 43 6 124 125 (qu 124 (.reg [xu 126,xu 127,qY 128 127,xi 129 128,wh 131,qt 130 129,wl 132 (xz 131 2),qP 129 130,wn 133 .add 130 132,qY 134 126,xB 135 134,xy 135 133]) (yl 137 43 7 136 137 (qZ 136 (qe [wZ 138,qY 139 138,xB 140 139,qt 141 140,wg 142 141,qC 143 .gtr 142 0] (yf 143 [wZ 144,qY 145 144,xB 146 145,wh 148,xZ 149 1 xG 3 [xk 0 256,xk 1 (-1),(2,1,wK)],qt 147 146,wE 150 (wP 148 149),qP 146 147,qb 151 (qF 4 147 qS),qp 152 3 151,xy 152 150]))))))))))))))))))) (qH [wx 153 1 3,xy 2 153]))))
def iy:FK:=⟨154,[xI 2 1],(AK.whole iz)⟩
theorem tJ:au Tryz.prog iF=some iy:=by kernel_rfl
def ft:FK:=⟨12,xT,xV (wC 4 (.c wm)) [xK 5,wh 6,xK 7,wg 8 7,wl 9 (wP 6 8),wo 10 1 5 9,qt 11 10,qf 4 11]⟩
theorem jM:au Tryz.prog bz=some ft:=by kernel_rfl
def iu:FK:=⟨21,[xI 4 4],xJ [wd 4 [qy,qy,wm,.nils]] [xK 5,wg 6 5,wJ 7 6 0,yc 8,wN 9 8 0,qJ 10 8 (xO (xz 9 3)),x9 11 8 .eql 10 qS,xS 12 8 11] (wz 12 [wh 13,ye 14 10 [(0,1,qS),(1,1,wK),xk 2 2,xk 3 3,xk 4 5,xk 5 7,xk 6 15,xk 7 16,xk 8 100,xk 9 255],wE 15 (wP 13 14),wv 16 [qy,qy,wm,.nils] [(0,1,wK),wF 1 15],qT 4 4 16]) [wh 17,xK 18,xa 19 bz 17 18,wv 20 [qy,qy,wm,.nils] [xk 0 2,wF 2 19],qT 4 4 20]⟩
theorem tn:au Tryz.prog eU=some iu:=by kernel_rfl
def eL:FK:=⟨47,[xI 6 4],qe [wd 6 [qy,qy,wm,.nils]] (qD [qf 8 2,qC 9 .lss 8 2,qf 10 9,wN 11 10 0,qJ 12 10 (xO (xz 11 4)),x9 13 10 .eql 12 qS,xS 14 10 13] (wz 14 [wh 15,xK 16,xa 17 eU 15 16,qT 4 6 17]) (qD [wh 18,wl 19 (xz 18 7),wJ 20 19 0] (wz 20 [wh 21,ye 22 3 [xk 0 11,xk 1 12,xk 2 11],wE 23 (wP 21 22),wh 24,xK 25,qf 26 2,xq 27 26 1,qn 28 bf [.t 24,.t 25,.t 27],qL 29 4 [qy,qy,wm,.nils] 1 [wu 0 4 28],wv 30 [qy,qy,wm,.nils] [xW 23,wF 3 29],qT 4 6 30]) (xV [wh 31,ye 32 9 [xk 0 3,xk 1 3,xk 2 4,xk 3 5,xk 4 6,xk 5 7,xk 6 8,xk 7 9,xk 8 10],wE 33 (wP 31 32),qf 7 33] [yc 34,wh 35,xK 36,qf 37 2,xq 38 37 1,qn 39 bf [.t 35,.t 36,.t 38],wh 40,xK 41,qf 42 2,xq 43 42 1,qn 44 bf [.t 40,.t 41,.t 43],qL 45 4 [qy,qy,wm,.nils] 2 [wu 0 4 39,wu 4 4 44],wv 46 [qy,qy,wm,.nils] [xW 34,wF 3 45],qT 4 6 46])))⟩
theorem lX:au Tryz.prog bf=some eL:=by kernel_rfl
def gW:FK:=⟨99,[xI 4 4],wa [wd 4 [qy,qy,wm,.nils]] [qc 5 (.c .any),wh 9,qY 10 9,xi 11 10,wh 13,qY 14 13,xo 15 14,xK 17,qt 12 11,qt 16 15,qn 18 bf [.t 12,.t 16,.t 17],wd 5 [qy,qy,wm,.nils],qT 4 5 18] (qD [wh 19,qY 20 19,xB 21 20,qt 22 21,wg 23 22,wJ 24 23 0,qf 25 24,wN 26 25 0,qJ 27 25 (qz 26),xr 28 25 0 27,xe 29 25 28,qJ 30 25 (xO (xz 29 4)),x9 31 25 .gtr 30 qS,xS 32 25 31] (wz 32 [wx 33 4 5,qT 4 4 33]) (wa [qc 6 (.c .any),wh 34,qY 35 34,xB 36 35,wh 38,qY 39 38,xi 40 39,wh 42,qY 43 42,xB 44 43,qt 37 36,qt 41 40,qt 45 44,wg 46 45,wl 47 (wP 41 46),qP 36 37,wo 48 3 37 47,wx 49 3 48,wd 6 [wm,.nils,.nils],qT 3 6 49] [xi 50 6,qt 51 50,wv 52 [qy,qy,wm,.nils] [xk 0 13,wF 2 51],wd 7 [qy,qy,wm,.nils],qT 4 7 52] (qD (xc 8) (xR 0 [qf 53 8,xB 54 6,qt 55 54,wg 56 55,wI 57 53 56] 57 0 1 (.reg [qp 60 3 7,wh 62,qY 63 62,xi 64 63,wh 66,qY 67 66,xo 68 67,qt 61 60,qt 65 64,qt 69 68,qn 70 bf [.t 65,.t 69,qj 2],qP 60 61,xZ 71 4 [qy,qy,wm,.nils] 1 [wu 0 4 70],wT 72 4 56 61 71,qp 73 3 7,xy 73 72]) (qf 58 8) 59 58 1 8 59) (wL [wh 74,qY 75 74,xi 76 75,qt 77 76,wl 78 (xz 77 2),wJ 79 78 0] (wz 79 [wx 80 4 7,qT 4 4 80]) [wh 81,qY 82 81,xi 83 82,xZ 85 1 xG 4 [xk 0 3,xk 1 4,xk 2 8,xk 3 10],wh 88,qY 89 88,xi 90 89,wh 92,qY 93 92,xo 94 93,qt 84 83,wx 87 4 7,qt 91 90,qt 95 94,wE 86 (wP 84 85),qA (some 4) 7 87,qP 90 91,qP 94 95,qn 96 bf [.t 91,.t 95,qj 2],qA (some 4) 7 87,qL 97 4 [qy,qy,wm,.nils] 2 [wu 0 4 87,wu 4 4 96],wv 98 [qy,qy,wm,.nils] [xW 86,wF 3 97],qT 4 4 98]))))⟩
theorem nL:au Tryz.prog ef=some gW:=by kernel_rfl
def gf:FK:=⟨46,xL,wa (wC 2 (.c wm)) [wh 3,wh 4,qY 5 4,qp 6 3 5,qt 7 6,wH 8 7 1,qY 9 3,qp 10 3 9,xy 10 8] (wL [wh 11,qY 12 11,xi 13 12,qt 14 13,wl 15 (xz 14 9),wJ 16 15 0,qf 17 16,wQ 18 17 0,qK 19 17 (qz 18),xm 20 17 2 19,wM 21 17 20,qK 22 17 (qX 21),xA 23 17 .gtr 22 qS,ya 24 17 23] (wz 24 [wh 25,qY 26 25,xi 27 26,wh 29,qY 30 29,xo 31 30,qt 28 27,qt 32 31,xa 33 bz 28 32,qf 2 33]) [wh 34,qY 35 34,qp 36 3 35,wh 39,qY 40 39,qp 41 3 40,qt 37 36,qC 38 .rem 37 24,qt 42 41,qC 43 .rem 42 24,wH 44 43 1,qb 45 (.slStr (ym [97,98,99,100,101,103,104,105,106,107,108,109,110,112,113,114,115,116,117,118,119,120,121,122]) (some (.t 38)) (some (.t 44))),qf 2 45])⟩
theorem mF:au Tryz.prog dC=some gf:=by kernel_rfl
def eC:FK:=⟨24,[xI 4 5],wa [wV 3 4 1,wd 4 [qy,wm,.nils,.nils,.nils]] (xP (wh 6) (xh 7 dC 6) 5 7) (xV [wh 8,qL 9 1 [wm] 0 [],wh 10,qY 11 10,xo 12 11,qt 13 12,wT 14 1 16 9 13,wZ 15,qL 16 1 [wm] 1 [xW 15],wT 17 1 16 14 16,qY 18 8,xo 19 18,xy 19 17] [wZ 20,wx 21 4 3,qL 22 4 [qy,qy,wm,.nils] 1 [wu 0 4 21],wv 23 [qy,wm,.nils,.nils,.nils] [(0,1,wK),wF 1 20,wF 2 22],qT 5 4 23])⟩
theorem iX:au Tryz.prog cd=some eC:=by kernel_rfl
def gV:FK:=⟨14,[xI 2 4],xV [wd 2 [qy,qy,wm,.nils]] [wh 3,wh 5,qY 6 5,xi 7 6,xZ 9 1 xG 6 [xk 0 16,xk 1 16,xk 2 16,xk 3 8,xk 4 17,(5,1,qS)],qt 8 7,xU 4 (xz 3 2),qP 7 8,wE 10 (wP 8 9),wv 11 [qy,qy,wm,.nils] [(0,1,wK),wF 1 10],qL 12 4 [qy,qy,wm,.nils] 2 [wu 0 4 4,wu 4 4 11],wv 13 [qy,qy,wm,.nils] [xk 0 7,wF 3 12],qT 4 2 13]⟩
theorem nD:au Tryz.prog cF=some gV:=by kernel_rfl
def ec:AK:=wa (wC 4 xC) [wh 9,wh 10,qY 11 10,xi 12 11,qt 13 12,ye 14 5 [xk 0 2,xk 1 3,(2,1,wK),(3,1,qS),xk 4 5],wE 15 (wP 13 14),wv 16 [qy,qy,wm,.nils] [(0,1,wK),wF 1 15],xa 17 cd 9 16,wd 5 [qy,wm,.nils,.nils,.nils],qT 5 5 17] (wa [xB 18 5,qt 19 18,wv 20 [qy,qy,wm,.nils] [xk 0 2,wF 2 19],wd 6 [qy,qy,wm,.nils],qT 4 6 20] [wh 21,xK 22,xq 23 22 1,xa 24 aN 21 23,qf 7 24] (qe [xB 25 5,qt 26 25,wx 27 4 6,wv 28 [qy,qy,wm,.nils] [(0,1,wK),(1,1,wK)],qL 29 4 [qy,qy,wm,.nils] 2 [wu 0 4 27,wu 4 4 28],wv 30 [qy,qy,wm,.nils] [xk 0 4,wF 3 29],qL 31 4 [qy,qy,wm,.nils] 1 [wu 0 4 30],wv 32 [qy,wm,.nils,.nils,.nils] [xk 0 2,wF 1 26,wF 2 31],wd 8 [qy,wm,.nils,.nils,.nils],qT 5 8 32] (.cut (.reg [wh 33,wh 34,qY 35 34,qp 36 4 35,qt 37 36,xq 38 37 2,qY 39 33,qp 40 4 39,xy 40 38]) (qH [yc 44,wx 41 5 5,wx 42 4 6,xZ 43 4 [qy,qy,wm,.nils] 1 [wu 0 4 42],wx 45 5 8,xZ 46 5 [qy,wm,.nils,.nils,.nils] 1 [wu 0 5 45],wT 47 5 96 44 46,qA (some 5) 5 41,qA (some 4) 6 42,wv 48 [qy,wm,.nils,.nils,.nils] [xk 0 6,wF 2 43,wF 3 47],qL 49 5 [qy,wm,.nils,.nils,.nils] 2 [wu 0 5 41,wu 5 5 48],qf 4 49]))))
def dN:FK:=⟨50,xT,(AK.whole ec)⟩
theorem ni:au Tryz.prog dM=some dN:=by kernel_rfl
def gT:FK:=⟨128,xT,wa (wC 4 xC) [wh 7,wh 8,qY 9 8,qp 10 4 9,qt 11 10,xq 12 11 1,qY 13 7,qp 14 4 13,xy 14 12] (qe [wh 15,qY 16 15,xi 17 16,qt 18 17,wl 19 (xz 18 13),qf 5 19] (wb 0 (qe [wZ 21,qC 22 .lss 21 3,qf 23 22,wQ 24 23 0,qK 25 23 (qz 24),xm 26 23 2 25,wM 27 23 26,qK 28 23 (qX 27),xA 29 23 .gtr 28 qS,ya 30 23 29,qf 20 30] (qu 20 (qH [wh 31,qY 32 31,xi 33 32,wh 35,qY 36 35,xo 37 36,wh 40,qt 34 33,qt 38 37,xa 39 bz 34 38,xU 41 (xz 40 3),qL 42 4 [qy,qy,wm,.nils] 1 [wu 0 4 41],wv 43 [qy,wm,.nils,.nils,.nils] [xk 0 2,wF 1 39,wF 2 42],qL 44 5 [qy,wm,.nils,.nils,.nils] 1 [wu 0 5 43],qf 4 44]) (qe (xP (wZ 46) (qC 47 .lss 46 5) 45 47) (qu 45 (qH [wh 48,wh 49,xU 50 (xz 49 3),xa 51 cd 48 50,qL 52 5 [qy,wm,.nils,.nils,.nils] 1 [wu 0 5 51],qf 4 52]) (qe [wZ 54,qC 55 .lss 54 7,qf 56 55,wN 57 56 1,x9 58 56 .lss 57 (qj 2),xS 59 56 58,qf 53 59] (qu 53 (qH [wh 60,xU 61 (xz 60 3),qL 62 4 [qy,qy,wm,.nils] 1 [wu 0 4 61],wv 63 [qy,wm,.nils,.nils,.nils] [xk 0 3,wF 2 62],qL 64 5 [qy,wm,.nils,.nils,.nils] 1 [wu 0 5 63],qf 4 64]) (qe (xP (wZ 66) (wJ 67 66 7) 65 67) (qu 65 (qH [wh 68,xh 69 cF 68,wh 70,xU 71 (xz 70 2),qL 72 4 [qy,qy,wm,.nils] 2 [wu 0 4 69,wu 4 4 71],wv 73 [qy,wm,.nils,.nils,.nils] [xk 0 4,wF 2 72],qL 74 5 [qy,wm,.nils,.nils,.nils] 1 [wu 0 5 73],qf 4 74]) (qe (xP (wZ 76) (wJ 77 76 8) 75 77) (qu 75 (qH [wh 78,xh 79 cF 78,qL 80 4 [qy,qy,wm,.nils] 1 [wu 0 4 79],wv 81 [qy,qy,wm,.nils] [xk 0 12,wF 3 80],qL 82 4 [qy,qy,wm,.nils] 1 [wu 0 4 81],wv 83 [qy,wm,.nils,.nils,.nils] [xk 0 3,wF 2 82],qL 84 5 [qy,wm,.nils,.nils,.nils] 1 [wu 0 5 83],qf 4 84]) (qe (xP (wZ 86) (qC 87 .lss 86 11) 85 87) (qu 85 (xJ [wh 88,xU 89 (xz 88 3),qL 90 4 [qy,qy,wm,.nils] 1 [wu 0 4 89],wh 91,xK 92,xq 93 92 1,xa 94 aN 91 93,wv 95 [qy,wm,.nils,.nils,.nils] [xk 0 5,wF 2 90,wF 3 94],wd 6 [qy,wm,.nils,.nils,.nils],qT 5 6 95] [wh 96,qY 97 96,xi 98 97,qt 99 98,wl 100 (xz 99 2),wJ 101 100 0] (yf 101 [wh 102,xK 103,xq 104 103 1,xa 105 aN 102 104,qp 106 4 6,xy 106 105]) (xP (wx 107 5 6) (qL 108 5 [qy,wm,.nils,.nils,.nils] 1 [wu 0 5 107]) 4 108)) (qe [wZ 110,wJ 111 110 11,qf 112 111,wQ 113 112 0,qK 114 112 (qz 113),xm 115 112 0 114,wM 116 112 115,qK 117 112 (xO (xz 116 3)),xA 118 112 .eql 117 qS,ya 119 112 118,qf 109 119] (wz 109 [wh 120,xU 121 (xz 120 2),qL 122 4 [qy,qy,wm,.nils] 1 [wu 0 4 121],wv 123 [qy,wm,.nils,.nils,.nils] [xk 0 7,wF 2 122],qL 124 5 [qy,wm,.nils,.nils,.nils] 1 [wu 0 5 123],qf 4 124])))))))))))))) (qH [wh 125,xK 126,xa 127 dM 125 126,qf 4 127])))⟩
theorem mL:au Tryz.prog dY=some gT:=by kernel_rfl
def fN:FK:=⟨40,xT,wa (wC 4 xC) [wh 8,qY 9 8,xo 10 9,qt 11 10,qf 5 11] (xE (qL 12 5 [qy,wm,.nils,.nils,.nils] 0 []) 6 12 (qD [wh 13,qY 14 13,xi 15 14,qt 16 15,ye 17 4 [xk 0 2,xk 1 3,(2,1,wK),xk 3 4],wE 18 (wP 16 17),qf 7 18] (xQ 0 [yc 19,qC 20 .gtr 19 0,qf 21 20,wQ 22 21 0,qK 23 21 (qz 22),xm 24 21 4 23,wM 25 21 24,xA 26 21 .gtr 25 qS,ya 27 21 26] 27 0 1 (.reg [xv 30,wh 31,xK 32,xa 33 dY 31 32,wT 34 5 96 30 33,qf 6 34]) (yc 28) (xq 29 28 1) 7 29) (xV [wh 35,wZ 36,qY 37 35,xo 38 37,xy 38 36] (xt (xv 39) 4 39))))⟩
theorem mg:au Tryz.prog aN=some fN:=by kernel_rfl
def fm:AK:=wa [wd 6 [wm,.nils,.nils]] [wh 8,qL 9 1 [wm] 3 [(0,1,ym [97]),(1,1,ym [98]),(2,1,ym [99])],qf 10 2,qb 11 (.slS 1 (.t 9) none (some (.t 10))),qY 12 8,xo 13 12,xy 13 11] (qe [wh 14,qf 15 2,xq 16 15 1,qY 17 14,qp 18 3 17,xy 18 16] (.cut (.reg [xK 19,qL 20 1 [wm] 0 [],wh 21,qY 22 21,xo 23 22,qt 24 23,wT 25 1 16 20 24,wv 26 [wm,.nils,.nils] [xW 19,wF 1 25],wd 7 [wm,.nils,.nils],qT 3 7 26]) (xJ [wh 27,qn 28 aN (xz 27 3),xo 29 7,xy 29 28] [wh 30,qY 31 30,qp 32 4 31,qt 33 32,qC 34 .gtr 33 0,qf 35 34,wQ 36 35 0,qK 37 35 (qz 36),xm 38 35 0 37,wM 39 35 38,qK 40 35 (xO (xz 39 4)),xA 41 35 .gtr 40 qS,ya 42 35 41] (qZ 42 (qe [wh 43,wh 44,qY 45 44,qp 46 4 45,qt 47 46,xq 48 47 1,qY 49 43,qp 50 4 49,xy 50 48] (.reg [xo 51 7,wh 53,qt 52 51,xU 54 (xz 53 2),qP 51 52,xZ 55 4 [qy,qy,wm,.nils] 1 [wu 0 4 54],wv 56 [qy,wm,.nils,.nils,.nils] [xk 0 7,wF 2 55],xZ 57 5 [qy,wm,.nils,.nils,.nils] 1 [wu 0 5 56],wT 58 5 96 52 57,xo 59 7,xy 59 58]))) [wx 60 3 7,qT 3 6 60])))
def fq:FK:=⟨61,[xI 6 3],(AK.whole fm)⟩
theorem pH:au Tryz.prog dq=some fq:=by kernel_rfl
def kq:FK:=⟨18,xT,xJ (xc 4) (xc 5) (xR 0 [wZ 6,wh 7,qb 8 (.len true (.t 7)),wI 9 6 8] 9 0 1 (qe [wh 12,wZ 13,qb 14 (.idxStr (.t 12) (.t 13)),xK 15,wn 16 .eql 14 15] (wz 16 (xt (wZ 17) 4 17))) (wZ 10) 11 10 1 5 11) (wC 4 (qj (-1)))⟩
theorem rf:au Tryz.prog fJ=some kq:=by kernel_rfl
def kT:FK:=⟨28,xL,qe (xc 2) (wb 0 (qe [wh 4,qx 5 .geq 4 (.c (qd .u8 97)),wZ 6,wQ 7 6 0,xA 8 6 .leq 7 (.c (qd .u8 122)),ya 9 6 8,qf 3 9] (qu 3 (qH (wC 2 wK)) (qe [wh 11,qx 12 .geq 11 (.c (qd .u8 48)),qf 13 12,wQ 14 13 0,xA 15 13 .leq 14 (.c (qd .u8 57)),ya 16 13 15,qf 10 16] (qu 10 (qH (wC 2 (qj 2))) (qe [wh 18,qn 19 fJ [ym [40,41,123,125,59,44,43,45,42,47,37,60,61,38,33,64],.t 18],qC 20 .geq 19 0,qf 17 20] (qu 17 (qH (wC 2 (qj 3))) (qe [wh 22,qx 23 .eql 22 (.c (qd .u8 32)),qf 24 23,wN 25 24 0,x9 26 24 .eql 25 (.c (qd .u8 10)),xS 27 24 26,qf 21 27] (wS 21 2 (qj 4))))))))) (qH (xc 2)))⟩
theorem sF:au Tryz.prog gt=some kT:=by kernel_rfl
def mS:FK:=⟨21,xT,xJ (wC 4 qU) (xc 5) (xR 0 [wZ 6,wh 7,qb 8 (.len true (.t 7)),wI 9 6 8] 9 0 1 (qe [wh 12,wZ 13,qb 14 (.idxStr (.t 12) (.t 13)),xh 15 gt 14,xK 16,wn 17 .neq 15 16] (yg 17 4)) (wZ 10) 11 10 1 5 11) [wh 18,qb 19 (.len true (.t 18)),qC 20 .gtr 19 0,qf 4 20]⟩
theorem uV:au Tryz.prog jy=some mS:=by kernel_rfl
def jN:FK:=⟨2,xD 0,xV (wC 0 xC) (xt (qL 1 1 [wm] 9 [(0,1,ym [102,110]),(1,1,ym [108,101,116]),(2,1,ym [115,97,121]),(3,1,ym [112,117,116]),(4,1,ym [105,102]),(5,1,ym [101,108,115,101]),(6,1,ym [108,111,111,112]),(7,1,ym [98,97,99,107]),(8,1,ym [100,111])]) 0 1)⟩
theorem pL:au Tryz.prog dr=some jN:=by kernel_rfl
def nQ:FK:=⟨18,xL,wa (wC 2 qU) [qn 5 dr [],wZ 3] (wL (xc 4) (xR 0 [xu 6,yb 7,wg 8 7,wI 9 6 8] 9 0 1 (qe [yb 12,xu 13,wo 14 1 12 13,qt 15 14,wh 16,qb 17 (.bins .eql (.t 15) (.t 16))] (wS 17 2 wG)) (xu 10) 11 10 1 4 11) (wC 2 qU))⟩
theorem ve:au Tryz.prog jG=some nQ:=by kernel_rfl
def lZ:FK:=⟨15,xL,xV (wC 2 qU) [wh 3,qn 4 jy (wO 3 wK),xu 5,wQ 6 5 0,qK 7 5 (.len true (.t 6)),xA 8 5 .leq 7 (qj 4),ya 9 5 8,qf 10 9,wQ 11 10 0,qK 12 10 (.call jG (xg 11)),qK 13 10 (wA 12),ya 14 10 13,qf 2 14]⟩
theorem tA:au Tryz.prog bG=some lZ:=by kernel_rfl
def iM:FK:=⟨5,xL,xJ (xc 2) [wh 3,wJ 4 3 4] (wS 4 2 (qj 2)) (wC 2 wK)⟩
theorem tO:au Tryz.prog eH=some iM:=by kernel_rfl
def bU:FK:=⟨13,[.t 2,.t 3],xJ [qc 2 qS,qc 3 qS] [wh 4] (.blk 0 (qD (xt (wJ 6 4 1) 5 6) (qu 5 .skip (.reg (xt (wJ 7 4 2) 5 7))) (qu 5 (qH [qc 2 qS,qc 3 qS]) (qD (xt (wJ 9 4 11) 8 9) (qu 8 .skip (.reg (xt (wJ 10 4 12) 8 10))) (qu 8 (qH [qc 2 wK,qc 3 wK]) (yl 12 4 13 11 12 (wz 11 [qc 2 qS,qc 3 (qj 3)]))))))) [qc 2 (qj 2),qc 3 (qj 2)]⟩
theorem ty:au Tryz.prog eJ=some bU:=by kernel_rfl
def eI:FK:=⟨86,xT,wa [wV 2 4 0,qc 4 qU] [xi 10 2,qt 11 10,xh 12 eJ 11,qf 9 12,qb 13 (.ext 0 (.t 9)),qb 14 (.ext 1 (.t 9)),qf 5 13,qf 6 14] (qD [xK 15,qC 16 .lss 15 1,qf 17 16,xr 18 17 0 2,xe 19 17 18,qJ 20 17 (xl [.t 19,wK,qj 13]),qJ 21 17 (wA 20),xS 22 17 21,qf 23 22,xr 24 23 3 2,xe 25 23 24,qJ 26 23 (qX 25),wN 27 23 5,wN 28 23 6,qJ 29 23 (xl [.t 26,.t 27,.t 28]),qJ 30 23 (wA 29),xS 31 23 30] (yg 31 4) (qe [xi 32 2,qt 33 32,wJ 34 33 2,qf 35 34,xr 36 35 0 2,xe 37 35 36,x9 38 35 .eql 37 (qj 13),xS 39 35 38,qf 7 39] (qD [yc 40,xo 41 2,qt 42 41,xh 43 bG 42,qb 44 (.beq true (.t 40) (.t 43)),qf 45 44,wN 46 45 7,qJ 47 45 (wA 46),wN 48 45 47,xm 49 48 2 2,wM 50 48 49,qK 51 48 (.bins .neq (.t 50) (.c wm)),qJ 52 45 (qN 48 (.t 51) qU),xS 53 45 52,qf 54 53,xr 55 54 1 2,xe 56 54 55,qJ 57 54 (xl [.t 56,qS,qj 255]),qJ 58 54 (wA 57),xS 59 54 58,qf 60 59,xr 61 60 0 2,xe 62 60 61,x9 63 60 .neq 62 wK,wN 64 60 63,xm 65 64 1 2,wM 66 64 65,xA 67 64 .neq 66 qS,qJ 68 60 (qN 64 (.t 67) qU),xS 69 60 68] (yg 69 4) (wL (xc 8) (xR 0 [qf 70 8,qp 71 3 2,qt 72 71,wg 73 72,wI 74 70 73] 74 0 1 (qe [qp 77 3 2,qt 78 77,qf 79 8,wo 80 4 78 79,wx 81 4 80,xK 82,xq 83 82 1,xa 84 dh 81 83,xY 85 84] (yg 85 4)) (qf 75 8) 76 75 1 8 76) (wC 4 wG)))))⟩
theorem lK:au Tryz.prog dh=some eI:=by kernel_rfl
def kO:FK:=⟨21,xL,wa [wV 1 4 0,qc 2 qS] (wC 3 wK) (wL (xc 4) (xR 0 [xu 5,qp 6 3 1,qt 7 6,wg 8 7,wI 9 5 8] 9 0 1 (.reg [yb 12,qp 13 3 1,qt 14 13,xu 15,wo 16 4 14 15,wx 17 4 16,xh 18 dS 17,wn 19 .add 12 18,qf 3 19]) (xu 10) 11 10 1 4 11) (xt (yb 20) 2 20))⟩
theorem sT:au Tryz.prog dS=some kO:=by kernel_rfl
def iS:FK:=⟨10,xL,xV [wV 1 4 0,qc 2 qU] [wx 3 4 1,qn 4 dh (xz 3 6),xu 5,qK 6 5 (qV 4 1),qK 7 5 (.call dS (xg 6)),xA 8 5 .leq 7 (qj 30),ya 9 5 8,qf 2 9]⟩
theorem ov:au Tryz.prog cT=some iS:=by kernel_rfl
def eW:FK:=⟨108,xT,qe [wV 2 5 0,qc 4 qU] (qD [xK 7,qC 8 .lss 7 1,qf 9 8,xr 10 9 0 2,xe 11 9 10,qJ 12 9 (xl [.t 11,wK,qj 8]),qJ 13 9 (wA 12),xS 14 9 13,qf 15 14,xr 16 15 2 2,xr 19 15 0 2,xe 17 15 16,qJ 18 15 (qX 17),xe 20 15 19,qJ 21 15 (.qcall eH (xg 20)),x9 22 15 .neq 18 (.t 21),xS 23 15 22] (yg 23 4) (qe [xi 24 2,qt 25 24,wJ 26 25 1,qf 27 26,xr 28 27 0 2,xe 29 27 28,x9 30 27 .eql 29 (qj 2),xS 31 27 30,qf 5 31] (qD [wZ 32,xB 33 2,qt 34 33,xh 35 bG 34,qb 36 (.beq true (.t 32) (.t 35)),qf 37 36,wN 38 37 5,qJ 39 37 (wA 38),wN 40 37 39,xm 41 40 1 2,wM 42 40 41,qK 43 40 (.bins .neq (.t 42) (.c wm)),qJ 44 37 (qN 40 (.t 43) qU),xS 45 37 44] (yg 45 4) (qD (xc 6) (xR 0 [xv 46,xo 47 2,qt 48 47,wg 49 48,wI 50 46 49] 50 0 1 (qe [xo 53 2,qt 54 53,xv 55,wo 56 4 54 55,wx 57 4 56,xh 58 cT 57,xY 59 58] (yg 59 4)) (xv 51) 52 51 1 6 52) (qD [xi 60 2,qt 61 60,wJ 62 61 8,qf 63 62,xm 64 63 2 2,wM 65 63 64,qK 66 63 (qF 4 65 qS),xm 67 63 0 66,wM 68 63 67,xA 69 63 .neq 68 (qj 13),ya 70 63 69] (yg 70 4) (wL [qp 71 4 2,qt 72 71,wg 73 72,qC 74 .gtr 73 0,qf 75 74,xm 76 75 0 2,wM 77 75 76,xA 78 75 .neq 77 (qj 5),ya 79 75 78,qf 80 79,xr 81 80 3 2,xe 82 80 81,qJ 83 80 (qX 82),x9 84 80 .gtr 83 qS,wN 85 80 84,xm 86 85 0 2,wM 87 85 86,xA 88 85 .neq 87 (qj 5),qJ 89 80 (qN 85 (.t 88) qU),wN 90 80 89,xm 91 90 0 2,wM 92 90 91,xA 93 90 .neq 92 (qj 6),qJ 94 80 (qN 90 (.t 93) qU),xS 95 80 94] (yg 95 4) [qp 96 3 2,qt 97 96,xK 98,xq 99 98 1,xa 100 bq 97 99,qf 101 100,xm 102 101 4 2,wM 103 101 102,wQ 104 101 1,xA 105 101 .sub 104 wK,qK 106 101 (.call bq (wP 103 105)),ya 107 101 106,qf 4 107]))))))⟩
theorem lP:au Tryz.prog eO=some eW:=by kernel_rfl
def ka:FK:=⟨19,xT,xJ (wC 4 qU) (xc 5) (xR 0 [wZ 6,wh 7,wg 8 7,wI 9 6 8] 9 0 1 (qe [wh 12,wZ 13,wo 14 5 12 13,wx 15 5 14,xK 16,xa 17 eO 15 16,xY 18 17] (yg 18 4)) (wZ 10) 11 10 1 5 11) (wC 4 wG)⟩
theorem tg:au Tryz.prog bq=some ka:=by kernel_rfl
def pg:FK:=⟨32,xL,xJ [wV 1 3 0,qc 2 qU] (xc 3) (xR 0 [yb 4,xB 5 1,qt 6 5,wg 7 6,wI 8 4 7] 8 0 1 (qe [xB 11 1,qt 12 11,yb 13,wo 14 1 12 13,qt 15 14,xh 16 bG 15,xY 17 16] (yg 17 2)) (yb 9) 10 9 1 3 10) [xi 18 1,qt 19 18,xh 20 bG 19,qf 21 20,xm 22 21 1 1,wM 23 21 22,qK 24 21 (qX 23),xA 25 21 .leq 24 (qj 3),ya 26 21 25,qf 27 26,xm 28 27 2 1,wM 29 27 28,qK 30 27 (.call bq (xz 29 4)),ya 31 27 30,qf 2 31]⟩
theorem yZ:au Tryz.prog kf=some pg:=by kernel_rfl
def gA:FK:=⟨29,xL,wa (xc 2) [wh 5,wg 6 5,xv 3] (wL (xc 4) (xR 0 [xu 7,wh 8,wg 9 8,wI 10 7 9] 10 0 1 (.reg [yb 13,wh 14,xu 15,wo 16 5 14 15,qp 17 3 16,wh 21,xu 22,wo 23 5 21 22,qp 24 4 23,qt 18 17,qt 25 24,xh 19 cJ 18,qP 24 25,wn 20 .add 13 19,xh 26 cJ 25,wn 27 .add 20 26,qf 3 27]) (xu 11) 12 11 1 4 12) (xt (yb 28) 2 28))⟩
theorem kA:au Tryz.prog cJ=some gA:=by kernel_rfl
def mM:FK:=⟨22,xL,wa [wV 1 1 0,qc 2 qS] (xc 3) (wL (xc 4) (xR 0 [xu 5,xi 6 1,qt 7 6,wg 8 7,wI 9 5 8] 9 0 1 (.reg [yb 12,xi 13 1,qt 14 13,xu 15,wo 16 3 14 15,xo 17 16,qt 18 17,xh 19 cJ 18,wn 20 .add 12 19,qf 3 20]) (xu 10) 11 10 1 4 11) (xt (yb 21) 2 21))⟩
theorem uL:au Tryz.prog jE=some mM:=by kernel_rfl
def fx:FK:=⟨26,xL,qe [wV 1 1 0,qc 2 qU] (qD [xi 4 1,qt 5 4,wg 6 5,xX 7 [.t 6,wK,qj 4],xY 8 7] (yg 8 2) (wL (xc 3) (xR 0 [yb 9,xi 10 1,qt 11 10,wg 12 11,wI 13 9 12] 13 0 1 (qe [xi 16 1,qt 17 16,yb 18,wo 19 3 17 18,wx 20 3 19,xh 21 kf 20,xY 22 21] (yg 22 2)) (yb 14) 15 14 1 3 15) [wx 23 1 1,xh 24 jE 23,qC 25 .leq 24 40,qf 2 25]))⟩
theorem lA:au Tryz.prog db=some fx:=by kernel_rfl
def lI:FK:=⟨69,[xI 2 1],wa [wd 2 xM] [wh 8,wh 9,ye 10 4 [xk 0 14,xk 1 20,xk 2 8,xk 3 26],wE 11 (wP 9 10),wv 12 [.nilp,.nils,.nils,qy,qy] [xW 8,wF 4 11],wV 13 5 12,qf 3 13] (qD [wh 14,ye 15 4 [(0,1,qS),(1,1,wK),(2,1,wK),xk 3 2],wE 16 (wP 14 15),qf 4 16] (xQ 0 [xu 17,qC 18 .gtr 17 0] 18 0 1 (qe [qc 5 (.c .any),yb 21,xZ 22 1 [wm] 3 [(0,1,ym [102]),(1,1,ym [103]),(2,1,ym [104])],yb 23,qY 24 23,xB 25 24,wh 30,qt 26 25,wg 27 26,wo 28 1 22 27,qt 29 28,wl 31 (xz 30 3),qP 25 26,qP 28 29,qn 32 dq [.t 21,.t 29,.t 31],wd 5 [wm,.nils,.nils],qT 3 5 32] (.reg [yb 33,yb 34,qY 35 34,xB 36 35,qt 37 36,wx 38 3 5,xZ 39 3 [wm,.nils,.nils] 1 [wu 0 3 38],wT 40 3 64 37 39,qY 41 33,xB 42 41,xy 42 40])) (xu 19) (xq 20 19 1) 4 20) (wa [yb 43,wh 44,ye 45 4 [(0,1,qS),(1,1,wK),xk 2 2,(3,1,wK)],wE 46 (wP 44 45),qn 47 dq [.t 43,ym [109],.t 46],wd 6 [wm,.nils,.nils],qT 3 6 47] [qc 7 (.c .any),yb 49,qY 50 49,xB 51 50,qt 52 51,wx 54 3 6,xZ 55 3 [wm,.nils,.nils] 1 [wu 0 3 54],qL 48 3 [wm,.nils,.nils] 0 [],qP 51 52,qA (some 3) 6 54,wT 53 3 64 48 52,qA (some 3) 6 54,wT 56 3 64 53 55,wv 57 xM [xW 56],wd 7 xM,xy 7 57] (wL [wx 58 1 7,xh 59 db 58,xY 60 59] (wz 60 [wv 61 [qy,qy,wm,.nils] [(0,1,wK),(1,1,wK)],qL 62 4 [qy,qy,wm,.nils] 1 [wu 0 4 61],wv 63 [qy,wm,.nils,.nils,.nils] [xk 0 3,wF 2 62],qL 64 5 [qy,wm,.nils,.nils,.nils] 1 [wu 0 5 63],wv 65 [wm,.nils,.nils] [(0,1,ym [109]),wF 2 64],qL 66 3 [wm,.nils,.nils] 1 [wu 0 3 65],wv 67 xM [xW 66],xy 2 67]) [wx 68 1 7,xy 2 68])))⟩
theorem tj:au Tryz.prog eG=some lI:=by kernel_rfl
def kr:FK:=⟨4,xL,xJ (xc 2) [wh 3] (wS 3 2 wK) (xc 2)⟩
theorem rB:au Tryz.prog gk=some kr:=by kernel_rfl
def iQ:FK:=⟨35,xL,wa (xc 2) (xc 3) (wL (xc 4) (xR 0 [xu 5,wh 6,wg 7 6,wI 8 5 7] 8 0 1 (.reg [yb 11,wh 12,xu 13,wo 14 5 12 13,xi 15 14,wh 20,xu 21,wo 22 5 20 21,qp 23 3 22,wh 27,xu 28,wo 29 5 27 28,qp 30 4 29,qt 16 15,wJ 17 16 1,qt 24 23,qt 31 30,xh 18 gk 17,qP 23 24,qP 30 31,wn 19 .add 11 18,xh 25 dg 24,qP 30 31,wn 26 .add 19 25,xh 32 dg 31,wn 33 .add 26 32,qf 3 33]) (xu 9) 10 9 1 4 10) (xt (yb 34) 2 34))⟩
theorem lT:au Tryz.prog dg=some iQ:=by kernel_rfl
def dt:FK:=⟨25,xL,wa (xc 2) [wh 3,wh 4,qY 5 4,xB 6 5,xo 7 6,qt 8 7,qL 9 2 [qy,.nils] 0 [],qL 10 4 [qy,qy,.nils,qy] 0 [],ye 11 0 [],wv 12 [.nils,.nils,qy,qy,.nils] [xW 9,wF 1 10,wF 4 11],qL 13 5 [.nils,.nils,qy,qy,.nils] 1 [wu 0 5 12],wT 14 5 88 8 13,qY 15 3,xB 16 15,xo 17 16,xy 17 14] (qH [wh 18,qY 19 18,xB 20 19,xo 21 20,qt 22 21,wg 23 22,xq 24 23 1,qf 2 24])⟩
theorem gv:au Tryz.prog bJ=some dt:=by kernel_rfl
def gY:FK:=⟨37,[],wa [wh 11,qY 12 11,xB 13 12,xo 14 13,wh 16,qY 17 16,qp 18 4 17,qt 15 14,qt 19 18,wo 20 5 15 19,qf 10 20] [qf 21 10,xK 22,qY 23 21,xo 24 23,xy 24 22] (wa [qf 25 10,qf 26 2,qY 27 25,qp 28 3 27,xy 28 26] [qf 29 10,yb 30,qY 31 29,qp 32 4 31,xy 32 30] (.reg [wh 33,xu 34,qY 35 33,qp 36 4 35,xy 36 34]))⟩
theorem nM:au Tryz.prog bh=some gY:=by kernel_rfl
def gF:FK:=⟨19,xL,wa (xc 2) [wh 3,wh 4,qY 5 4,xB 6 5,xB 7 6,qt 8 7,wH 9 8 1,qY 10 3,xB 11 10,xB 12 11,xy 12 9] (qH [wh 13,qY 14 13,xB 15 14,xB 16 15,qt 17 16,xq 18 17 1,qf 2 18])⟩
theorem mz:au Tryz.prog bm=some gF:=by kernel_rfl
def ey:FK:=⟨37,xD 10,wa (xc 10) [wh 12,qY 13 12,xB 14 13,xo 15 14,wh 17,qY 18 17,qp 19 4 18,qt 16 15,qt 20 19,wo 21 5 16 20,qf 11 21] (xV [qf 22 11,qf 23 11,qY 24 23,xB 25 24,qt 26 25,xK 27,qf 28 2,xu 29,yb 30,wv 31 [qy,qy,.nils,qy] [xW 27,wF 1 28,wF 2 29,wF 3 30],qL 32 4 [qy,qy,.nils,qy] 1 [wu 0 4 31],wT 33 4 48 26 32,qY 34 22,xB 35 34,xy 35 33] (xt (qf 36 2) 10 36))⟩
theorem oO:au Tryz.prog bH=some ey:=by kernel_rfl
def eB:FK:=⟨34,xT,xJ (xc 4) [wh 6,qY 7 6,qp 8 5 7,qt 9 8,wg 10 9,xq 11 10 1,qf 5 11] (xQ 0 [wZ 12,qC 13 .geq 12 0] 13 0 1 (qe [wh 16,qY 17 16,qp 18 5 17,qt 19 18,wZ 20,wo 21 3 19 20,xi 22 21,qt 23 22,xK 24,qb 25 (.bins .eql (.t 23) (.t 24))] (wz 25 [wh 26,qY 27 26,qp 28 5 27,qt 29 28,wZ 30,wo 31 3 29 30,xB 32 31,qt 33 32,qf 4 33])) (wZ 14) (xq 15 14 1) 5 15) (wC 4 (qj (-1)))⟩
theorem ow:au Tryz.prog cW=some eB:=by kernel_rfl
def ji:FK:=⟨56,xT,wa [wV 3 4 1,qc 4 qS] [wh 11,qp 12 3 3,qt 13 12,qb 14 (qF 4 13 qS),wx 15 4 14,xa 16 aW 11 15,qf 5 16] (wa [wh 17,wh 18,xN 19 18,ye 20 0 [],xd 21 [.t 17,wK,.t 19,qS,.t 20],qf 6 21] (xP (wh 22) (xp 23 22) 7 23) (wa (xP (wh 24) (xp 25 24) 8 25) [wh 26,wZ 27,yc 28,qf 29 8,ye 30 2 [xW 28,wF 1 29],yc 31,xx 32 [.t 26,qj 2,.t 27,.t 30,.t 31]] (wa [wh 33,qp 34 3 3,qt 35 34,qb 36 (qF 4 35 wK),wx 37 4 36,xa 38 aW 33 37,qf 9 38] [wh 39,wh 40,xN 41 40,qf 42 9,ye 43 1 [xW 42],xd 44 [.t 39,qj 10,.t 41,qS,.t 43],qf 10 44] (wa [wh 45,xv 46,qf 47 10,ye 48 1 [xW 47],xd 49 [.t 45,qj 10,.t 46,qS,.t 48]] [wh 50,qf 51 8,ye 52 1 [xW 51],qf 53 8,xx 54 [.t 50,wK,qS,.t 52,.t 53]] (qH (xt (xv 55) 4 55))))))⟩
theorem oT:au Tryz.prog er=some ji:=by kernel_rfl
def pu:FK:=⟨22,xT,xJ [wV 2 1 0,qc 4 qS] (xc 5) (xR 0 [wZ 6,xi 7 2,qt 8 7,wg 9 8,wI 10 6 9] 10 0 1 (qe [xi 13 2,qt 14 13,wZ 15,wo 16 3 14 15,xi 17 16,qt 18 17,xK 19,qb 20 (.bins .eql (.t 18) (.t 19))] (wz 20 (xt (wZ 21) 4 21))) (wZ 11) 12 11 1 5 12) (wC 4 (qj (-1)))⟩
theorem zC:au Tryz.prog kx=some pu:=by kernel_rfl
def bR:FK:=⟨84,xT,qe [wV 3 4 1,qc 4 qS] (qD [xi 7 3,qt 8 7] (.blk 0 (yl 10 8 1 9 10 (qu 9 (qH [wh 11,wh 12,xB 14 3,xZ 16 1 xG 0 [],qt 15 14,xN 13 12,qP 14 15,xd 17 [.t 11,wK,.t 13,.t 15,.t 16],qf 4 17]) (yl 19 8 2 18 19 (qu 18 (qH [wh 20,xo 21 3,qt 22 21,xa 23 cW 20 22,qf 4 23]) (yl 25 8 10 24 25 (wz 24 [wh 26,wx 27 4 3,xa 28 er 26 27,qf 4 28]))))))) (xE (ye 29 0 []) 5 29 (qD (xc 6) (xR 1 [xv 30,qp 31 3 3,qt 32 31,wg 33 32,wI 34 30 33] 34 1 2 (.reg [wZ 37,wh 38,qp 39 3 3,qt 40 39,xv 41,wo 42 4 40 41,wx 43 4 42,xa 44 aW 38 43,ye 45 1 [xW 44],wT 46 1 8 37 45,qf 5 46]) (xv 35) 36 35 1 6 36) (wL [xi 47 3,qt 48 47] (.blk 3 (yl 50 48 11 49 50 (qu 49 (qH [wh 51,wh 52,xN 53 52,wZ 54,xd 55 [.t 51,qj 10,.t 53,qS,.t 54],qf 4 55]) (yl 57 48 12 56 57 (qu 56 (qH [wh 58,wh 59,xN 60 59,wZ 61,xd 62 [.t 58,qj 11,.t 60,qS,.t 61],qf 4 62]) (yl 64 48 13 63 64 (wz 63 [wh 65,wh 66,wh 68,qY 69 68,xi 70 69,xo 72 3,wZ 75,wx 71 1 70,qt 73 72,xN 67 66,qA (some 1) 70 71,qP 72 73,xa 74 kx 71 73,xd 76 [.t 65,qj 14,.t 67,.t 74,.t 75],qf 4 76]))))))) [wh 77,xi 78 3,wh 80,wZ 82,qt 79 78,xN 81 80,qP 78 79,xd 83 [.t 77,.t 79,.t 81,qS,.t 82],qf 4 83]))))⟩
theorem nj:au Tryz.prog aW=some bR:=by kernel_rfl
def gX:FK:=⟨41,[],wa [wV 3 5 1] (xP (wh 8) (xp 9 8) 4 9) (wa (xP (wh 10) (xp 11 10) 5 11) (xP (wh 12) (xp 13 12) 6 13) (wa [wh 14,xu 15,ye 16 1 [xW 15],xu 17,xx 18 [.t 14,wK,qS,.t 16,.t 17]] [wh 19,xo 20 3,qt 21 20,qb 22 (qF 4 21 qS),wx 23 4 22,xa 24 aW 19 23,qf 7 24] (wa [wh 25,yc 26,wZ 27,xv 28,ye 29 2 [xW 27,wF 1 28],wZ 30,xx 31 [.t 25,qj 2,.t 26,.t 29,.t 30]] [wh 32,qp 33 3 3,qt 34 33,xa 35 aY 32 34] (.reg [wh 36,xu 37,ye 38 1 [xW 37],xv 39,xx 40 [.t 36,wK,qS,.t 38,.t 39]]))))⟩
theorem mN:au Tryz.prog dW=some gX:=by kernel_rfl
def dU:FK:=⟨132,[],qe [wV 3 5 1] (qD [xi 9 3,qt 10 9,wJ 11 10 6] (wz 11 [wh 12,wx 13 5 3,xa 14 dW 12 13]) (xE (ye 15 0 []) 4 15 (qD (xc 5) (xR 0 [wZ 16,xo 17 3,qt 18 17,wg 19 18,wI 20 16 19] 20 0 1 (.reg [xu 23,wh 24,xo 25 3,qt 26 25,wZ 27,wo 28 4 26 27,wx 29 4 28,xa 30 aW 24 29,ye 31 1 [xW 30],wT 32 1 8 23 31,qf 4 32]) (wZ 21) 22 21 1 5 22) (qe [xi 33 3,qt 34 33] (.blk 2 (yl 36 34 1 35 36 (qu 35 (wa [wh 37,wh 38,qY 39 38,qp 40 6 39,qt 41 40,xu 42,xd 43 [.t 37,qj 2,.t 41,qS,.t 42]] [wh 44,wh 45,qY 46 45,qp 47 5 46,xB 49 3,wh 51,qY 52 51,qp 53 6 52,qt 48 47,qt 50 49,qt 54 53,wv 55 [wm,qy,qy] [xW 50,wF 1 54,(2,1,qS)],xZ 56 3 [wm,qy,qy] 1 [wu 0 3 55],wT 57 3 32 48 56,qY 58 44,qp 59 5 58,xy 59 57] (.reg [wh 60,wh 61,qY 62 61,qp 63 6 62,qt 64 63,wH 65 64 1,qY 66 60,qp 67 6 66,xy 67 65])) (yl 69 34 2 68 69 (qu 68 (.reg [wh 70,wh 71,xB 72 3,qt 73 72,xa 74 cW 71 73,xu 75,xd 76 [.t 70,qj 2,.t 74,qS,.t 75]]) (yl 78 34 3 77 78 (qu 77 (.reg [wh 79,xu 80,xd 81 [.t 79,qj 13,qj (-1),qS,.t 80]]) (yl 83 34 4 82 83 (qu 82 (.reg [wh 84,xu 85,xd 86 [.t 84,qj 12,qj (-1),qS,.t 85]]) (yl 88 34 7 87 88 (qu 87 (.reg [wh 89,xu 90,qb 91 (qF 1 90 qS),xZ 93 1 xG 0 [],wh 94,qt 92 91,xp 95 94,qP 91 92,xx 96 [.t 89,qj 3,.t 92,.t 93,.t 95]]) (yl 98 34 5 97 98 (qZ 97 (wa (xP (wh 99) (xp 100 99) 6 100) (xP (wh 101) (xp 102 101) 7 102) (wa (xP (wh 103) (xp 104 103) 8 104) [wh 105,xu 106,qb 107 (qF 1 106 qS),qt 108 107,xv 109,yc 110,ye 111 2 [xW 109,wF 1 110],xv 112,xx 113 [.t 105,qj 2,.t 108,.t 111,.t 112]] (wa [wh 114,qp 115 3 3,qt 116 115,xa 117 aY 114 116] [wh 118,qf 119 8,ye 120 1 [xW 119],yc 121,xx 122 [.t 118,wK,qS,.t 120,.t 121]] (qe [wh 123,qp 124 4 3,qt 125 124,xa 126 aY 123 125] (.reg [wh 127,qf 128 8,ye 129 1 [xW 128],qf 130 8,xx 131 [.t 127,wK,qS,.t 129,.t 130]]))))))))))))))))))))))⟩
theorem nF:au Tryz.prog eb=some dU:=by kernel_rfl
def dF:FK:=⟨32,[],qe [wh 6,qY 7 6,qp 8 5 7,qt 9 8,wg 10 9,qf 4 10] (qD (xc 5) (xR 0 [wZ 11,xK 12,wg 13 12,wI 14 11 13] 14 0 1 (.reg [wh 17,xK 18,wZ 19,wo 20 5 18 19,wx 21 5 20,xa 22 eb 17 21]) (wZ 15) 16 15 1 5 16) (.reg [wh 23,wh 24,qY 25 24,qp 26 5 25,qt 27 26,xu 28,qb 29 (.slS 3 (.t 27) none (some (.t 28))),qY 30 23,qp 31 5 30,xy 31 29]))⟩
theorem mv:au Tryz.prog aY=some dF:=by kernel_rfl
def pk:FK:=⟨80,[xI 4 3],wa [wV 2 1 0,wd 4 [qy,qy,.nils]] [xi 9 2,qt 10 9,xK 11,wo 12 3 10 11,wx 13 3 12,wd 5 [wm,.nils,.nils],qT 3 5 13] (wa [wx 14 1 2,xB 15 5,qt 16 15,wg 17 16,wv 18 [.nils,qy,qy,.nils,qy,.nils,qy,.nils] [xW 14,wF 6 17],wV 19 8 18,qf 6 19] [xv 20,xB 21 5,qt 22 21,wg 23 22,qY 24 20,xB 25 24,xi 26 25,xy 26 23] (qe [xv 27,xB 28 5,xo 31 5,qt 29 28,wg 30 29,qt 32 31,xh 33 dg 32,qP 28 29,wn 34 .add 30 33,qY 35 27,xB 36 35,xB 37 36,xy 37 34] (qD (xc 7) (xR 0 [yc 38,xB 39 5,qt 40 39,wg 41 40,wI 42 38 41] 42 0 1 (.reg [xv 45,xv 46,qY 47 46,qp 48 5 47,xB 50 5,yc 52,yc 55,qt 49 48,qt 51 50,wo 53 1 51 52,qt 54 53,wv 56 [wm,qy,qy] [xW 54,wF 1 55,(2,1,qS)],xZ 57 3 [wm,qy,qy] 1 [wu 0 3 56],wT 58 3 32 49 57,qY 59 45,qp 60 5 59,xy 60 58]) (yc 43) 44 43 1 7 44) (wa [xv 61,xp 62 61] [xv 63,xo 64 5,qt 65 64,xa 66 aY 63 65] (wa [xv 67,xv 68,xN 69 68,ye 70 0 [],xd 71 [.t 67,wK,.t 69,qS,.t 70],qf 8 71] [xv 72,qf 73 8,ye 74 0 [],xx 75 [.t 72,qj 3,.t 73,.t 74,qS]] (qH [xv 76,qY 77 76,xB 78 77,wx 79 3 78,qT 3 4 79]))))))⟩
theorem vQ:au Tryz.prog gR=some pk:=by kernel_rfl
def lV:FK:=⟨22,[xI 2 1],wa [wV 1 1 0,wd 2 xM] [wv 5 xM [],wd 3 xM,xy 3 5] (wL (xc 4) (xR 0 [xu 6,xi 7 1,qt 8 7,wg 9 8,wI 10 6 9] 10 0 1 (.reg [xi 13 3,xu 16,qt 14 13,wx 15 1 1,xa 17 gR 15 16,qP 13 14,qL 18 3 [qy,qy,.nils] 1 [wu 0 3 17],qP 13 14,wT 19 3 40 14 18,xi 20 3,xy 20 19]) (xu 11) 12 11 1 4 12) [wx 21 1 3,xy 2 21])⟩
theorem tu:au Tryz.prog eM=some lV:=by kernel_rfl
def lY:FK:=⟨21,xT,xJ [wV 2 3 0,qc 4 qU] (xc 5) (xR 0 [wZ 6,xK 7,wg 8 7,wI 9 6 8] 9 0 1 (qe [xK 12,wZ 13,wo 14 1 12 13,xB 16 2,qt 15 14,qt 17 16,xq 18 17 1,xX 19 [.t 15,qS,.t 18],xY 20 19] (yg 20 4)) (wZ 10) 11 10 1 5 11) (wC 4 wG)⟩
theorem tx:au Tryz.prog eN=some lY:=by kernel_rfl
def mY:FK:=⟨88,xD 6,wa [wV 3 1 0,wV 5 4 2,qc 6 qU] [xi 8 3,qt 9 8,xK 10,wo 11 3 9 10,wx 12 3 11,wd 7 [qy,qy,.nils],qT 3 7 12] (qD [xi 13 5,qt 14 13,xX 15 [.t 14,wK,qj 14],xY 16 15,qf 17 16,qJ 18 17 (qV 3 7),xr 19 17 2 5,xe 20 17 19,qJ 21 17 (.call eN (wP 18 20)),qJ 22 17 (wA 21),xS 23 17 22] (yg 23 6) (qD [xi 24 5,xB 27 5,xB 29 7,qt 25 24,qt 28 27,qt 30 29,xq 31 30 1,xh 26 cL 25,qP 27 28,qP 29 30,xX 32 [.t 28,qS,.t 31],qb 33 (.beq true (.t 26) (.t 32)),qf 34 33,xr 35 34 0 5,xe 36 34 35,qJ 37 34 (.call cL (xg 36)),qJ 38 34 (wA 37),wN 39 34 38,xm 40 39 1 5,wM 41 39 40,xA 42 39 .neq 41 (qj (-1)),qJ 43 34 (qN 39 (.t 42) qU),xS 44 34 43] (yg 44 6) (wL [xi 45 5,qt 46 45,wJ 47 46 14] (wz 47 [qp 48 3 5,xK 50,xq 51 50 1,qt 49 48,xX 52 [.t 49,qS,.t 51],qf 53 52,xm 54 53 2 5,xm 57 53 0 3,xm 59 53 3 5,wM 55 53 54,qK 56 53 (qX 55),wM 58 53 57,wM 60 53 59,qK 61 53 (we 3 58 60),xm 62 53 0 61,wM 63 53 62,xA 64 53 .eql 56 (.t 63),ya 65 53 64,qf 6 65]) [xo 66 5,xi 69 5,qt 67 66,wg 68 67,qt 70 69,xh 71 eT 70,qP 66 67,wn 72 .eql 68 71,qf 73 72,xm 74 73 3 5,wM 75 73 74,qK 76 73 (xl [.t 75,qS,qj 255]),ya 77 73 76,qf 78 77,xm 79 78 3 5,wM 80 78 79,xA 81 78 .eql 80 qS,wQ 82 78 81,xr 83 82 0 5,xe 84 82 83,x9 85 82 .eql 84 wK,qK 86 78 (qN 82 wG (.t 85)),ya 87 78 86,qf 6 87])))⟩
theorem vC:au Tryz.prog jz=some mY:=by kernel_rfl
def gE:AK:=wa [wV 3 1 0,qc 6 qU] [xi 14 3,qt 15 14,xK 16,wo 17 3 15 16,wx 18 3 17,wd 7 [qy,qy,.nils],qT 3 7 18] (wa [xo 19 7,qt 20 19,qf 21 2,wo 22 5 20 21,wx 23 5 22,wd 8 [.nils,.nils,qy,qy,.nils],qT 5 8 23] (wC 9 wK) (xF [xo 24 8,qt 25 24] (.blk 0 (yl 27 25 1 26 27 (qu 26 (qe [qp 28 3 8,qt 29 28,qC 30 .neq 29 0] (yg 30 6)) (yl 32 25 2 31 32 (qu 31 (.reg (wC 9 (qj 2))) (yl 34 25 3 33 34 (qu 33 (.reg (xc 9)) (qH (wC 6 qU))))))))) (xF [qp 35 4 8,qt 36 35,wg 37 36,qf 38 9,wn 39 .neq 37 38,qf 40 39,xr 41 40 2 8,xe 42 40 41,x9 43 40 .neq 42 wK,wN 44 40 43,xm 45 44 3 8,wM 46 44 45,xm 47 44 1 7,wM 48 44 47,xA 49 44 .sub 48 wK,qK 50 44 (xl [.t 46,qS,.t 49]),qK 51 44 (wA 50),qJ 52 40 (qN 44 (.t 51) qU),xS 53 40 52] (yg 53 6) (xF (xc 10) (xR 1 [qf 54 10,qp 55 4 8,qt 56 55,wg 57 56,wI 58 54 57] 58 1 2 (qe [qp 61 4 8,qf 63 10,xo 66 7,qt 62 61,wo 64 1 62 63,qt 65 64,qt 67 66,wg 68 67,xq 69 68 1,xX 70 [.t 65,wK,.t 69],xY 71 70] (yg 71 6)) (qf 59 10) 60 59 1 10 60) (xF (xc 11) (xR 3 [qf 72 11,xB 73 8,qt 74 73,wg 75 74,wI 76 72 75] 76 3 4 (qe [xK 80,xB 81 8,qf 83 11,wx 79 1 3,qt 82 81,wo 84 4 82 83,wx 85 4 84,qn 86 jz [.t 79,.t 80,.t 85],xY 87 86] (yg 87 6)) (qf 77 11) 78 77 1 11 78) (qe [wx 88 3 7,qf 89 2,xa 90 cP 88 89,qf 12 90] (xF (xc 13) (xR 5 [qf 91 13,xi 92 8,qt 93 92,wg 94 93,wI 95 91 94] 95 5 6 (qe [qf 98 2,wJ 99 98 0,qf 100 99,xr 101 100 0 8,wN 103 100 13,wN 108 100 12,qJ 109 100 (qX 108),xe 102 100 101,qJ 104 100 (we 2 102 103),xr 105 100 1 104,xe 106 100 105,qJ 107 100 (qX 106),x9 110 100 .neq 107 (.t 109),xS 111 100 110,qf 112 111,xr 114 112 0 8,wN 116 112 13,qJ 113 112 (qV 3 7),xe 115 112 114,qJ 117 112 (we 2 115 116),xr 118 112 1 117,xe 119 112 118,qJ 120 112 (.call eN (wP 113 119)),qJ 121 112 (wA 120),xS 122 112 121,qf 123 122,xr 124 123 0 8,wN 126 123 13,xr 130 123 1 7,xe 125 123 124,qJ 127 123 (we 2 125 126),xr 128 123 0 127,xe 129 123 128,xe 131 123 130,x9 132 123 .sub 131 wK,qJ 133 123 (xl [.t 129,qS,.t 132]),qJ 134 123 (wA 133),xS 135 123 134] (yg 135 6)) (qf 96 13) 97 96 1 13 97) (qH (wC 6 wG)))))))))
def fZ:FK:=⟨136,xD 6,(AK.whole gE)⟩
theorem so:au Tryz.prog gh=some fZ:=by kernel_rfl
def jb:FK:=⟨76,xL,qe [wV 1 1 0,qc 2 qU] (qD [xi 7 1,qt 8 7,wg 9 8,xX 10 [.t 9,wK,qj 4],xY 11 10] (yg 11 2) (xJ (xc 3) (xc 4) (xR 0 [xu 12,xi 13 1,qt 14 13,wg 15 14,wI 16 12 15] 16 0 1 (qe [xi 19 1,qt 20 19,xu 21,wo 22 3 20 21,wx 23 3 22,wd 5 [qy,qy,.nils],qT 3 5 23] (qD [xi 24 5,qt 25 24,xX 26 [.t 25,qS,qj 3],xY 27 26,qf 28 27,xr 29 28 1 5,xe 30 28 29,xr 31 28 0 5,xe 32 28 31,qJ 33 28 (xl [.t 30,.t 32,qj 300]),qJ 34 28 (wA 33),xS 35 28 34,qf 36 35,xr 37 36 2 5,xe 38 36 37,qJ 39 36 (qX 38),qJ 40 36 (xl [.t 39,wK,qj 160]),qJ 41 36 (wA 40),xS 42 36 41] (yg 42 2) (qe (xc 6) (xR 2 [xv 43,xo 44 5,qt 45 44,wg 46 45,wI 47 43 46] 47 2 3 (wa [yb 50,xo 51 5,xv 53,xo 59 5,xv 61,qt 52 51,wo 54 5 52 53,xB 55 54,qt 56 55,wg 57 56,wn 58 .add 50 57,qt 60 59,wo 62 5 60 61,xi 63 62,qt 64 63,wg 65 64,wn 66 .add 58 65,qf 3 66] [yb 67,qC 68 .gtr 67 800,qf 69 68,qJ 70 69 (qV 1 1),wN 71 69 4,wN 72 69 6,qJ 73 69 (.call gh [.t 70,.t 71,.t 72]),qJ 74 69 (wA 73),xS 75 69 74] (yg 75 2)) (xv 48) 49 48 1 6 49)))) (xu 17) 18 17 1 4 18) (wC 2 wG)))⟩
theorem oy:au Tryz.prog eD=some jb:=by kernel_rfl
def kN:FK:=⟨15,[xI 2 1],xJ [wd 2 xM] [wh 4,wl 5 (xz 4 2),wJ 6 5 0] (qZ 6 (wa [wh 7,xh 8 eG 7,xh 9 eM 8,wd 3 xM,xy 3 9] [wx 10 1 3,xh 11 eD 10] (wz 11 [wx 12 1 3,xy 2 12]))) [wh 13,xh 14 dk 13,xy 2 14]⟩
theorem sP:au Tryz.prog gz=some kN:=by kernel_rfl
def kX:FK:=⟨10,[xI 2 1],xJ [wd 2 xM] [wh 3,wl 4 (xz 3 12),wJ 5 4 0] (wz 5 [wh 6,xh 7 iF 6,xy 2 7]) [wh 8,xh 9 gz 8,xy 2 9]⟩
theorem rU:au Tryz.prog fO=some kX:=by kernel_rfl
def kz:FK:=⟨14,[xI 2 3],wa [wd 2 [qy,qy,.nils]] [wh 4,xh 5 fO 4,wd 3 xM,xy 3 5] (qH [xi 6 3,qt 7 6,xi 8 3,qt 9 8,wg 10 9,xq 11 10 1,wo 12 3 7 11,wx 13 3 12,qT 3 2 13])⟩
theorem sX:au Tryz.prog dP=some kz:=by kernel_rfl
def cg:FK:=⟨19,xT,xJ (xc 4) [wh 6,wg 7 6,qc 8 qS] (qW 0 (qe [wI 9 8 7] (.seq (wy 9 0) (wt 1 (wa (xt (qf 10 8) 5 10) [xK 11,wh 12,wZ 13,wo 14 5 12 13,wx 15 5 14,qb 16 (.callv (.t 11) (xg 15))] (wz 16 (xt (wZ 17) 4 17))) (xt (wH 18 8 1) 8 18))))) (wC 4 (qj (-1)))⟩
theorem fb:au Tryz.prog br=some cg:=by kernel_rfl
def bQ:FK:=⟨9,xT,xV (wC 4 qU) [wh 5,xK 6,xa 7 br 5 6,qC 8 .geq 7 0,qf 4 8]⟩
theorem dT:au Tryz.prog bj=some bQ:=by kernel_rfl
def dL:FK:=⟨19,xT,xJ (xc 4) [wh 6,wg 7 6,qc 8 qS] (qW 0 (qe [wI 9 8 7] (.seq (wy 9 0) (wt 1 (wa (xt (qf 10 8) 5 10) [xK 11,wh 12,wZ 13,wo 14 1 12 13,qt 15 14,qb 16 (.callv (.t 11) (xg 15))] (wz 16 (xt (wZ 17) 4 17))) (xt (wH 18 8 1) 8 18))))) (wC 4 (qj (-1)))⟩
theorem jw:au Tryz.prog ck=some dL:=by kernel_rfl
def cZ:FK:=⟨9,xT,xV (wC 4 qU) [wh 5,xK 6,xa 7 ck 5 6,qC 8 .geq 7 0,qf 4 8]⟩
theorem gL:au Tryz.prog bP=some cZ:=by kernel_rfl
def iN:FK:=⟨15,xD 6,xV (wC 6 qU) [xK 7,wh 8,wn 9 .leq 7 8,qf 10 9,wQ 11 10 0,wQ 12 10 2,xA 13 10 .leq 11 (.t 12),ya 14 10 13,qf 6 14]⟩
theorem tw:au Tryz.prog eS=some iN:=by kernel_rfl
def fM:FK:=⟨11,xD 3,xV (wC 3 qU) [wh 4,xo 5 1,qt 6 5,wg 7 6,xq 8 7 1,qn 9 eS [.t 4,qS,.t 8],xY 10 9,qf 3 10]⟩
theorem mB:au Tryz.prog dB=some fM:=by kernel_rfl
def jk:FK:=⟨8,xD 3,xV [wV 2 5 0,qc 3 qU] [qp 4 4 2,qt 5 4,qb 6 (.mkf (.func dB) (xg 1)),xa 7 bP 5 6,yc 3]⟩
theorem oB:au Tryz.prog cX=some jk:=by kernel_rfl
def gr:FK:=⟨14,xL,xV [wV 1 3 0,qc 2 qU] [xo 3 1,qt 4 3,wg 5 4,qC 6 .gtr 5 0,xv 7,xm 8 7 2 1,wM 9 7 8,qK 10 7 (.mkf (.func cX) (xg 1)),qK 11 7 (.call bj (wP 9 10)),qK 12 7 (wA 11),ya 13 7 12,qf 2 13]⟩
theorem sB:au Tryz.prog cR=some gr:=by kernel_rfl
def fI:FK:=⟨8,xL,xJ (wC 2 xC) [wh 3,qb 4 (.snil false (.t 3))] (wS 4 2 xC) [ye 5 0 [],wh 6,wT 7 1 8 5 6,yc 2]⟩
theorem mK:au Tryz.prog cm=some fI:=by kernel_rfl
def pp:FK:=⟨10,xL,wa (wC 2 xC) [wh 4,xh 5 cm 4,wZ 3] (xV [yb 6,xh 7 nh 6] (xP (yb 8) (xh 9 kL 8) 2 9))⟩
theorem zK:au Tryz.prog kI=some pp:=by kernel_rfl
def fP:FK:=⟨19,xT,xJ (xc 4) [wh 6,wg 7 6,qc 8 qS] (qW 0 (qe [wI 9 8 7] (.seq (wy 9 0) (wt 1 (wa (xt (qf 10 8) 5 10) [xK 11,wh 12,wZ 13,wo 14 1 12 13,qt 15 14,wn 16 .eql 11 15] (wz 16 (xt (wZ 17) 4 17))) (xt (wH 18 8 1) 8 18))))) (wC 4 (qj (-1)))⟩
theorem mJ:au Tryz.prog gG=some fP:=by kernel_rfl
def kD:FK:=⟨42,xL,xJ [wV 1 3 0,qc 2 qU] (xc 3) (xR 0 [yb 5,xo 6 1,qt 7 6,wg 8 7,wI 9 5 8] 9 0 1 (qe (xc 4) (xR 2 [xu 12,xo 13 1,qt 14 13,yb 15,wo 16 5 14 15,qp 17 4 16,qt 18 17,wg 19 18,wI 20 12 19] 20 2 3 (qe [xo 23 1,yb 25,xu 29,xo 32 1,qt 24 23,wo 26 5 24 25,qp 27 4 26,qt 28 27,wo 30 1 28 29,qt 31 30,qt 33 32,wg 34 33,xq 35 34 1,xX 36 [.t 31,qS,.t 35],xY 37 36] (yg 37 2)) (xu 21) 22 21 1 4 22)) (yb 10) 11 10 1 3 11) [xo 38 1,qt 39 38,wg 40 39,qC 41 .gtr 40 0,qf 2 41]⟩
theorem te:au Tryz.prog gd=some kD:=by kernel_rfl
def jO:FK:=⟨35,[],qe [qt 8 1,wh 9,wo 10 1 8 9,qR 1 10 wG] (qD [xo 11 2,qt 12 11,wh 13,wo 14 5 12 13,qp 15 4 14,qt 16 15,wg 17 16,qc 18 qS] (qW 0 (qe [wI 19 18 17] (.seq (wy 19 0) (wt 1 (wa (xP (wo 20 1 16 18) (qt 21 20) 7 21) [qt 22 1,yc 23,wo 24 1 22 23,qt 25 24,xY 26 25] (yf 26 [qt 27 3,yc 28,qb 29 (.callv (.t 27) (xg 28))])) (xt (wH 30 18 1) 18 30))))) (.reg [qt 31 4,wh 32,ye 33 1 [xW 32],wT 34 1 8 31 33,xy 4 34]))⟩
theorem pF:au Tryz.prog cu=some jO:=by kernel_rfl
def lN:FK:=⟨14,xL,wa [wV 1 3 0,qc 2 xC] [wd 3 xM] (wa [xo 6 1,qt 7 6,wg 8 7,qb 9 (.mks 1 1 [qB] (.t 8) (.t 8)),wd 4 xM,xy 4 9] [wd 5 [.nilf]] (wa [qb 10 (.mkf (.func cu) [.t 4,.t 1,.t 5,.t 3]),xy 5 10] [qt 11 5,qb 12 (.callv (.t 11) [qS])] (qH (xt (qt 13 3) 2 13))))⟩
theorem ti:au Tryz.prog iw=some lN:=by kernel_rfl
def gB:FK:=⟨6,[xI 2 3],xV [wd 2 [qy,qy,.nils]] [wh 3,xh 4 ee 3,xh 5 dP 4,qT 3 2 5]⟩
theorem mw:au Tryz.prog fV=some gB:=by kernel_rfl
def jR:FK:=⟨54,xD 8,wa [wV 4 3 0,qc 8 xC] [qf 10 2,xK 11,wo 12 1 10 11,qR 1 12 wG] (wL (xc 9) (xR 0 [qf 13 9,xo 14 4,qt 15 14,xK 16,wo 17 5 15 16,qp 18 4 17,qt 19 18,wg 20 19,wI 21 13 20] 21 0 1 (qe [qf 24 2,xo 25 4,qt 26 25,xK 27,wo 28 5 26 27,qp 29 4 28,qt 30 29,qf 31 9,wo 32 1 30 31,qt 33 32,wo 34 1 24 33,qt 35 34,xY 36 35] (yf 36 [xo 38 4,xK 40,qf 44 9,qf 47 2,yb 48,wx 37 3 4,qt 39 38,wo 41 5 39 40,qp 42 4 41,qt 43 42,wo 45 1 43 44,qt 46 45,qn 49 cw [.t 37,.t 46,.t 47,.t 48],qf 3 49])) (qf 22 9) 23 22 1 9 23) [yb 50,xK 51,ye 52 1 [xW 51],wT 53 1 8 50 52,qf 8 53])⟩
theorem pM:au Tryz.prog cw=some jR:=by kernel_rfl
def lW:FK:=⟨29,xT,xJ (wC 4 qU) [wh 6,wg 7 6,xK 8,wg 9 8,qb 10 (.mn (.t 7) (.t 9)),qc 11 qS] (qW 0 (qe [wI 12 11 10] (.seq (wy 12 0) (wt 1 (wa (xt (qf 13 11) 5 13) [wh 14,wZ 15,wo 16 1 14 15,xK 18,wZ 19,wo 20 1 18 19,qt 17 16,qt 21 20,wn 22 .neq 17 21] (yg 22 4)) (xt (wH 23 11 1) 11 23))))) [wh 24,wg 25 24,xK 26,wg 27 26,wn 28 .eql 25 27,qf 4 28]⟩
theorem tN:au Tryz.prog eQ=some lW:=by kernel_rfl
def mR:FK:=⟨17,xT,xJ (wC 4 qU) [wh 7,wg 8 7,qc 9 qS] (qW 0 (qe [wI 10 9 8] (.seq (wy 10 0) (wt 1 (wa (xP (wo 11 1 7 9) (qt 12 11) 6 12) [xv 13,xK 14,wn 15 .eql 13 14] (wS 15 4 wG)) (xt (wH 16 9 1) 9 16))))) (wC 4 qU)⟩
theorem uJ:au Tryz.prog fE=some mR:=by kernel_rfl
def jh:FK:=⟨9,xL,xJ [wV 1 3 0,qc 2 xC] [wx 3 3 1,xh 4 cR 3,xY 5 4] (wS 5 2 xC) [wx 6 3 1,xh 7 iw 6,xh 8 kI 7,qf 2 8]⟩
theorem om:au Tryz.prog cY=some jh:=by kernel_rfl
def ep:FK:=⟨48,xT,wa [wV 2 3 0,qc 4 xC] [xo 8 2,qt 9 8,wg 10 9,qb 11 (.mks 1 1 [qB] (.t 10) (.t 10)),qf 5 11] (xE (ye 12 1 [(0,1,qS)]) 6 12 (.seq (wX 0 [xv 13,wg 14 13,qC 15 .gtr 14 0] 15 0 (.blk 1 (wa [xv 16,xv 17,wg 18 17,xq 19 18 1,wo 20 1 16 19,qt 21 20,qf 7 21] [xv 22,xv 23,wg 24 23,xq 25 24 1,qb 26 (.slS 1 (.t 22) none (some (.t 25))),qf 6 26] (qD [yc 27,xK 28,wn 29 .eql 27 28,qf 30 29,wN 31 30 5,wN 32 30 7,qJ 33 30 (we 1 31 32),xe 34 30 33,xS 35 30 34] (qZ 35 (.exit 1)) (qe [wZ 36,yc 37,wo 38 1 36 37,qR 1 38 wG] (.reg [xv 39,xo 40 2,qt 41 40,yc 42,wo 43 5 41 42,qp 44 4 43,qt 45 44,wT 46 1 8 39 45,qf 6 46])))))) (qH (xt (wZ 47) 4 47))))⟩
theorem jU:au Tryz.prog aL=some ep:=by kernel_rfl
def eX:FK:=⟨71,xL,qe [wV 1 3 0,qc 2 (.c .nilp)] (qD [wx 8 3 1,xh 9 cR 8,xY 10 9] (wS 10 2 (.c .nilp)) (xJ [wx 11 3 1,wx 12 3 1,qn 13 aL (xz 12 (-1)),qA (some 3) 1 11,wv 14 [qy,qy,.nils,.nils,.nils] [wu 0 3 11,wF 4 13],wV 15 5 14,qf 3 15] [xo 16 1,qt 17 16,wg 18 17,qc 19 qS] (qW 0 (qe [wI 20 19 18] (.seq (wy 20 0) (wt 1 (wa (xt (qf 21 19) 4 21) [xo 22 1,qt 23 22,wg 24 23,qb 25 (.mks 1 1 [qB] (.t 24) (.t 24)),qf 5 25] (qD [yb 26,qY 27 26,qp 28 4 27,qt 29 28,xu 30,wo 31 1 29 30,qt 32 31] (qZ 32 (wa [wx 33 3 1,xu 34,xa 35 aL 33 34,qf 6 35] [wZ 36,wg 37 36,qc 38 qS] (qW 2 (qe [wI 39 38 37] (.seq (wy 39 2) (wt 3 (xE (qf 40 38) 7 40 (.reg [wZ 41,yc 42,yb 43,qY 44 43,qp 45 4 44,qt 46 45,yc 47,wo 48 1 46 47,qt 49 48,qf 50 49,wQ 51 50 6,wQ 52 50 7,qK 53 50 (we 1 51 52),wM 54 50 53,qK 55 50 (wA 54),ya 56 50 55,wo 57 1 41 42,xy 57 56])) (xt (wH 58 38 1) 38 58))))))) (.reg [yb 59,yb 60,qY 61 60,qp 62 3 61,qt 63 62,wZ 64,qL 65 1 xM 1 [xW 64],wT 66 1 24 63 65,qY 67 59,qp 68 3 67,xy 68 66]))) (xt (wH 69 19 1) 19 69))))) (xt (yb 70) 2 70)))⟩
theorem lG:au Tryz.prog cz=some eX:=by kernel_rfl
def fu:FK:=⟨26,xT,xV (wC 4 qU) [wh 5,qb 6 (.pnil 0 true (.t 5)),xv 7,wQ 8 7 1,wQ 9 7 0,qK 10 7 (qz 9),xm 11 7 4 10,wM 12 7 11,qK 13 7 (qX 12),xA 14 7 .sub 13 wK,qK 15 7 (.call eS [.t 8,qS,.t 14]),ya 16 7 15,qf 17 16,wQ 18 17 0,qK 19 17 (qz 18),xm 20 17 4 19,wM 21 17 20,wQ 22 17 1,qK 23 17 (we 1 21 22),wM 24 17 23,ya 25 17 24,qf 4 25]⟩
theorem pz:au Tryz.prog dp=some fu:=by kernel_rfl
def cC:FK:=⟨27,xD 6,xV (wC 6 qU) [wh 7,xK 8,xa 9 dp 7 8,qf 10 9,wQ 11 10 0,wQ 12 10 2,qK 13 10 (.call dp (wP 11 12)),ya 14 10 13,qf 15 14,wQ 16 15 0,qK 17 15 (qz 16),xm 18 15 3 17,wM 19 15 18,wQ 20 15 1,qK 21 15 (we 1 19 20),wM 22 15 21,wQ 23 15 2,qK 24 15 (we 1 22 23),wM 25 15 24,ya 26 15 25,qf 6 26]⟩
theorem jT:au Tryz.prog cD=some cC:=by kernel_rfl
def jg:FK:=⟨12,xD 6,xV [wV 3 3 0,qc 6 qU] [wx 7 3 3,xh 8 cz 7,xK 9,qf 10 2,qn 11 cD [.t 8,.t 9,.t 10],qf 6 11]⟩
theorem oq:au Tryz.prog cS=some jg:=by kernel_rfl
def fK:AK:=wa [wV 1 3 0,qc 2 xC] [xo 10 1,qt 11 10,wg 12 11,qf 3 12] (wa (xt (qL 13 1 xM 0 []) 4 13) (xP (yb 14) (qb 15 (.mks 1 1 [qB] (.t 14) (.t 14))) 5 15) (xJ [wx 16 3 1,wZ 17,ye 18 0 [],qn 19 cw [.t 16,qS,.t 17,.t 18]] (xc 6) (xR 0 [xv 20,yb 21,wI 22 20 21] 22 0 1 (wa (xP (yb 25) (qb 26 (.mks 1 1 [qB] (.t 25) (.t 25))) 7 26) [yc 27,xv 28,wo 29 1 27 28,qR 1 29 wG] (xF [xv 30,qC 31 .neq 30 0] (qu 31 (qe [wx 32 3 1,yc 33,ye 34 0 [],qn 35 cw [.t 32,qS,.t 33,.t 34]] (.reg [yc 36,xv 37,wo 38 1 36 37,qR 1 38 qU])) (.reg [yc 39,xv 40,wo 41 1 39 40,qR 1 41 qU])) (qe (xP (yb 42) (qb 43 (.mks 1 1 [qB] (.t 42) (.t 42))) 8 43) (qD (xc 9) (xR 2 [qf 44 9,yb 45,wI 46 44 45] 46 2 3 (.reg [qf 49 8,qf 50 9,wZ 51,xv 52,wo 53 1 51 52,qt 54 53,qf 55 54,wQ 56 55 5,wQ 57 55 9,qK 58 55 (we 1 56 57),wM 59 55 58,ya 60 55 59,qf 61 60,wQ 62 61 7,wQ 63 61 9,qK 64 61 (we 1 62 63),wM 65 61 64,qK 66 61 (wA 65),ya 67 61 66,wo 68 1 49 50,xy 68 67]) (qf 47 9) 48 47 1 9 48) (.reg [xu 69,qf 70 8,qL 71 1 xM 1 [xW 70],wT 72 1 24 69 71,qf 4 72]))))) (xv 23) 24 23 1 6 24) (xt (xu 73) 2 73)))
def ga:FK:=⟨74,xL,(AK.whole fK)⟩
theorem rV:au Tryz.prog dR=some ga:=by kernel_rfl
def fQ:FK:=⟨6,[xI 2 3],xV [wd 2 [qy,qy,.nils]] [wh 3,xh 4 ee 3,xh 5 dP 4,qT 3 2 5]⟩
theorem mh:au Tryz.prog dx=some fQ:=by kernel_rfl
def fv:FK:=⟨46,xT,wa (xc 4) (wC 5 (qj (-1))) (wL [wh 7,qY 8 7,qp 9 3 8,qt 10 9,wg 11 10,qc 12 qS] (qW 0 (qe [wI 13 12 11] (.seq (wy 13 0) (wt 1 (wa (xt (qf 14 12) 6 14) [wh 15,qY 16 15,qp 17 4 16,qt 18 17,xv 19,wo 20 1 18 19,qt 21 20,qf 22 21,wQ 23 22 1,wQ 24 22 6,qK 25 22 (.callv (.t 23) (xg 24)),ya 26 22 25,qf 27 26,wQ 28 27 5,xA 29 27 .lss 28 qS,wQ 30 27 29,wN 31 30 0,qJ 32 30 (qz 31),xr 33 30 3 32,xe 34 30 33,wN 35 30 5,qJ 36 30 (we 1 34 35),xe 37 30 36,wN 38 30 6,qJ 39 30 (we 1 37 38),xe 40 30 39,qK 41 27 (qN 30 wG (.t 40)),ya 42 27 41] (yf 42 (xt (xv 43) 5 43))) (xt (wH 44 12 1) 12 44))))) (xt (wZ 45) 4 45))⟩
theorem lC:au Tryz.prog dd=some fv:=by kernel_rfl
def dy:FK:=⟨20,xT,xV (wC 4 qU) [wh 5,qt 6 1,wn 7 .neq 5 6,yc 8,wQ 13 8 0,wM 9 8 2,qK 10 8 (qz 9),xm 11 8 3 10,wM 12 8 11,qK 14 8 (we 1 12 13),wM 15 8 14,wM 16 8 1,qK 17 8 (we 1 15 16),wM 18 8 17,ya 19 8 18,qf 4 19]⟩
theorem mf:au Tryz.prog cn=some dy:=by kernel_rfl
def iW:FK:=⟨8,xT,xV [wV 2 1 0,wV 3 1 1,qc 4 qS] [qt 5 2,qb 6 (.mkf (.func cn) (wP 3 2)),xa 7 dd 5 6,yc 4]⟩
theorem ox:au Tryz.prog eu=some iW:=by kernel_rfl
def kJ:FK:=⟨37,xL,wa [wV 1 3 0,qc 2 xC] (xP (wx 6 3 1) (xh 7 cz 6) 3 7) (qD [yb 8,qb 9 (.pnil 0 false (.t 8))] (wS 9 2 xC) (xJ [xo 10 1,qt 11 10,wg 12 11,qb 13 (.mks 1 8 xG (.t 12) (.t 12)),qf 4 13] [xu 14,wg 15 14,qc 16 qS] (qW 0 (qe [wI 17 16 15] (.seq (wy 17 0) (wt 1 (wa (xt (qf 18 16) 5 18) [xu 19,wZ 20,wo 21 1 19 20,qR 1 21 (qj (-1))] (qe [yb 22,qY 23 22,qp 24 4 23,qt 25 24,wZ 26,wo 27 1 25 26,qt 28 27] (yf 28 [xu 29,wZ 30,yb 31,wZ 32,xa 33 eu 31 32,wo 34 1 29 30,xy 34 33]))) (xt (wH 35 16 1) 16 35))))) (xt (xu 36) 2 36)))⟩
theorem rE:au Tryz.prog gy=some kJ:=by kernel_rfl
def jL:FK:=⟨51,xL,wa (wC 2 xC) (xt (ye 7 0 []) 3 7) (wL (xc 4) (xR 0 [xu 8,wh 9,wg 10 9,wI 11 8 10] 11 0 1 (qe (wC 5 (qj (-1))) (qD (xc 6) (xR 2 [xv 14,wh 15,wg 16 15,wI 17 14 16] 17 2 3 (qe [xv 20,xu 21,wn 22 .neq 20 21,qf 23 22,wQ 24 23 0,wQ 25 23 6,qK 26 23 (we 1 24 25),wM 27 23 26,wQ 28 23 4,qK 29 23 (we 1 27 28),wM 30 23 29,ya 31 23 30,qf 32 31,wQ 33 32 5,xA 34 32 .lss 33 qS,wQ 35 32 34,wN 36 35 0,wN 37 35 5,qJ 38 35 (we 1 36 37),xe 39 35 38,wN 40 35 6,qJ 41 35 (we 1 39 40),xe 42 35 41,qK 43 32 (qN 35 wG (.t 42)),ya 44 32 43] (yf 44 (xt (xv 45) 5 45))) (xv 18) 19 18 1 6 19) (.reg [yb 46,wZ 47,ye 48 1 [xW 47],wT 49 1 8 46 48,qf 3 49]))) (xu 12) 13 12 1 4 13) (xt (yb 50) 2 50))⟩
theorem pC:au Tryz.prog fj=some jL:=by kernel_rfl
def kb:FK:=⟨10,xL,xJ [wV 1 3 0,qc 2 xC] [wx 3 3 1,xh 4 gd 3,xY 5 4] (wz 5 (xt (ye 6 0 []) 2 6)) [wx 7 3 1,xh 8 dR 7,xh 9 fj 8,qf 2 9]⟩
theorem sv:au Tryz.prog dJ=some kb:=by kernel_rfl
def gi:AK:=qe (wC 2 qU) (qD [wh 9,wg 10 9,qC 11 .gtr 10 1048576] (wS 11 2 wG) (wa [wh 12,xh 13 dx 12,wd 3 [qy,qy,.nils],qT 3 3 13] (xP (wx 14 3 3) (xh 15 gy 14) 4 15) (qD [xu 16,wx 17 3 3,xh 18 dJ 17,xa 19 eQ 16 18,xY 20 19,qf 21 20,wN 22 21 4,qJ 23 21 (qX 22),x9 24 21 .eql 23 qS,xS 25 21 24] (wz 25 [xu 26,wx 27 3 3,xh 28 dJ 27,xa 29 eQ 26 28,qf 2 29]) (wL [xu 30,wg 31 30,qc 32 qS] (qW 0 (qe [wI 33 32 31] (.seq (wy 33 0) (wt 1 (qe [qf 34 32,wo 35 1 30 32,qt 36 35,qf 5 34,qf 6 36] (xF [xv 37,qC 38 .lss 37 0,wZ 39,wJ 40 39 0,qf 41 40,qJ 42 41 (qV 3 3),qJ 43 41 (.call cY (xg 42)),wN 44 41 5,qJ 45 41 (.call fE (wP 43 44)),qJ 46 41 (wA 45),xS 47 41 46,qb 48 (.beq true (.t 38) (.t 47))] (yg 48 2) (qe [xo 49 3,qt 50 49,wg 51 50,qc 52 qS] (qW 2 (qe [wI 53 52 51] (.seq (wy 53 2) (wt 3 (xE (qf 54 52) 7 54 (.cut (.reg [yc 55,wZ 56,wn 57 .eql 55 56,qf 58 57,qK 59 58 (qV 3 3),qK 60 58 (.call cY (xg 59)),wQ 61 58 5,qK 62 58 (.call fE (wP 60 61)),ya 63 58 62,qf 64 63,wN 65 64 6,x9 66 64 .geq 65 qS,wN 67 64 66,qK 68 67 (qV 3 3),wQ 69 67 7,wQ 70 67 6,qK 71 67 (.call cS [.t 68,.t 69,.t 70]),qJ 72 64 (qN 67 (.t 71) qU),xS 73 64 72,qf 8 73]) (qe [wx 74 3 3,yc 75,wZ 76,qn 77 cS [.t 74,.t 75,.t 76],qf 78 8,qb 79 (.beq true (.t 77) (.t 78))] (yg 79 2)))) (xt (wH 80 52 1) 52 80)))))))) (xt (wH 81 32 1) 32 81))))) [xu 82,wg 83 82,xo 84 3,qt 85 84,wg 86 85,wn 87 .eql 83 86,qf 2 87]))))
def fU:FK:=⟨88,xL,(AK.whole gi)⟩
theorem rQ:au Tryz.prog kj=some fU:=by kernel_rfl
end Go.Proofs.YtdfplkcigiblcaaGreat
