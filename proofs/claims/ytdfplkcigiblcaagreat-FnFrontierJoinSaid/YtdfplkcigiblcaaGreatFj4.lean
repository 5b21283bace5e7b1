/-
  Contracts and lemmas that the card needs, part 4.
-/
import Derived.Test.YtdfplkcigiblcaaGreatFj3
import Derived.Test.YtdfplkcigiblcaaGreatRows
namespace Go.Proofs.YtdfplkcigiblcaaGreat
open Go Go.Aw
set_option maxRecDepth 100000
abbrev gO:FuncId:=54
abbrev bw:FuncId:=104
abbrev be:FuncId:=105
abbrev ig:FuncId:=95
abbrev ff:FuncId:=168
abbrev cT:FuncId:=169
abbrev iN:FuncId:=153
abbrev fF:FuncId:=154
abbrev jj:FuncId:=141
abbrev ce:FuncId:=96
abbrev dk:FuncId:=125
abbrev dC:FuncId:=152
abbrev jb:FuncId:=140
abbrev er:FuncId:=124
abbrev iT:FuncId:=118
abbrev bx:FuncId:=179
abbrev fg:FuncId:=183
abbrev bh:FuncId:=172
abbrev ee:FuncId:=162
abbrev dE:FuncId:=189
abbrev bZ:FuncId:=180
abbrev cK:FuncId:=181
abbrev dQ:FuncId:=182
abbrev ed:FuncId:=171
abbrev aO:FuncId:=161
abbrev dz:FuncId:=143
abbrev gk:FuncId:=194
abbrev gy:FuncId:=190
abbrev jG:FuncId:=184
abbrev dy:FuncId:=191
abbrev jU:FuncId:=185
abbrev bG:FuncId:=173
abbrev fm:FuncId:=192
abbrev fA:FuncId:=197
abbrev dm:FuncId:=195
abbrev eG:FuncId:=196
abbrev da:FuncId:=193
abbrev fp:FuncId:=186
abbrev bu:FuncId:=174
abbrev kF:FuncId:=163
abbrev cU:FuncId:=175
abbrev jN:FuncId:=164
abbrev dc:FuncId:=144
abbrev fw:FuncId:=127
abbrev gV:FuncId:=76
abbrev du:FuncId:=155
abbrev bN:FuncId:=156
abbrev bk:FuncId:=160
abbrev bp:FuncId:=159
abbrev bJ:FuncId:=158
abbrev cW:FuncId:=178
abbrev eU:FuncId:=187
abbrev la:FuncId:=188
abbrev aV:FuncId:=177
abbrev eD:FuncId:=176
abbrev dS:FuncId:=170
abbrev aY:FuncId:=157
abbrev il:FuncId:=142
abbrev fk:FuncId:=126
abbrev fy:FuncId:=166
abbrev jH:FuncId:=165
abbrev gN:FuncId:=145
abbrev eY:FuncId:=128
abbrev gm:FuncId:=119
abbrev gh:FuncId:=90
abbrev eC:FuncId:=53
abbrev br:FuncId:=120
abbrev bl:FuncId:=91
abbrev cu:FuncId:=121
abbrev bm:FuncId:=93
abbrev dr:FuncId:=61
abbrev dD:FuncId:=94
abbrev cX:FuncId:=92
abbrev ec:FuncId:=55
abbrev dK:FuncId:=100
abbrev nQ:FuncId:=101
abbrev dF:FuncId:=98
abbrev cG:FuncId:=62
abbrev dZ:FuncId:=18
abbrev dP:FuncId:=57
abbrev cz:FuncId:=99
abbrev ji:FuncId:=20
abbrev fU:FuncId:=22
abbrev aT:FuncId:=103
abbrev ja:FuncId:=66
abbrev aL:FuncId:=106
abbrev cC:FuncId:=67
abbrev dx:FuncId:=74
abbrev jS:FuncId:=69
abbrev cQ:FuncId:=70
abbrev cx:FuncId:=112
abbrev eF:FuncId:=110
abbrev iK:FuncId:=81
abbrev cq:FuncId:=44
abbrev cr:FuncId:=113
abbrev bR:FuncId:=84
abbrev eq:FuncId:=111
abbrev cb:FuncId:=82
abbrev dI:FuncId:=45
abbrev jO:FuncId:=87
abbrev dg:FuncId:=83
abbrev dB:FuncId:=46
abbrev cL:FuncId:=47
abbrev eO:FuncId:=12
@[reducible] def qa(a:Nat)(b:Option (Nat × Bool))(c:AI):CO:=⟨some a,b,c⟩
@[reducible] def qb(a:Nat)(b:AI):CO:=qa a none b
@[reducible] def qc(a:Nat)(b:AOp):CO:=qb a (.mov b)
@[reducible] def qd(a:IntKind)(b:Int):AV:= .p (.int a b)
@[reducible] def qe(a:List CO)(b:AK):AK:= .seq (.reg a) b
@[reducible] def qf(a b:Nat):CO:=qc a (.t b)
@[reducible] def qg(a:Int):AV:=qd .i64 a
@[reducible] def qh(a:Int):AOp:= .c (qg a)
@[reducible] def qi(a b:Nat):AI:= .fldA a (.t b)
@[reducible] def qj(a:Option Nat)(b:Nat):AI:= .ld a (.t b)
@[reducible] def qk(a:Nat)(b:Nat × Bool)(c:AI):CO:=qa a (some b) c
@[reducible] def ql(a:BinOp)(b:Nat)(c:AOp):AI:= .bin a (.t b) c
@[reducible] def qm(a:Nat)(b:Option Nat)(c:Nat):CO:=qb a (qj b c)
@[reducible] def qn(a:Nat)(b:FuncId)(c:List AOp):CO:=qb a (.call b c)
@[reducible] def qo(a:Option (Nat × Bool))(b:AI):CO:=⟨none,a,b⟩
@[reducible] def qp(a b c:Nat):CO:=qb a (qi b c)
@[reducible] def qt(a:Nat)(b c:AK):AK:= .cond (.t a) b c
@[reducible] def qu(a b:Nat):CO:=qm a none b
@[reducible] def qv(a:Nat)(b:BinOp)(c:Nat)(d:AOp):CO:=qb a (ql b c d)
@[reducible] def qw(a:AI):CO:=qo none a
@[reducible] def qx:AV:=qg 0
@[reducible] def qy(a:Bool):AV:= .p (.bool a)
@[reducible] def qz(a:Nat):AI:= .nilck (.t a)
@[reducible] def qA(a:Option Nat)(b c:Nat):CO:=qw (.chk a b c)
@[reducible] def qB(a:AOp):AI:= .len false a
@[reducible] def qC(a:List CO)(b c:AK):AK:= .seq (qe a b) c
@[reducible] def qD(a:Nat)(b:BinOp)(c:Nat)(d:Int):CO:=qv a b c (qh d)
@[reducible] def qF:AV:=qy false
@[reducible] def qG(a b:Nat)(c:AOp):AI:= .idxS a (.t b) c
@[reducible] def qH(a:List CO):AK:=qe a .ret
@[reducible] def qI(a b:Nat)(c:List AV)(d:Nat)(e:List (Nat × Nat × AOp)):CO:=qb a (.bsl b c d e)
@[reducible] def qJ(a b:Nat)(c:Bool)(d:AI):CO:=qk a (b,c) d
@[reducible] def qK(a b:Nat)(c:AI):CO:=qJ a b false c
@[reducible] def qL(a b:Nat)(c:AI):CO:=qJ a b true c
@[reducible] def qM(a:Nat)(b c:AOp):CO:=qw (.st a b c)
@[reducible] def qN(a:List UInt8):AV:= .p (.str a)
@[reducible] def qO(a b:Nat):CO:=qA none a b
@[reducible] def qP(a:Nat)(b c:AOp):AI:= .pick (.t a) b c
@[reducible] def qQ:AOp:=qh 0
@[reducible] def qR(a:Nat)(b:AK):AK:= .blk a (.loop b)
@[reducible] def qS(a b:Nat)(c:AOp):CO:=qM a (.t b) c
@[reducible] def qT(a:Nat):AI:=qB (.t a)
@[reducible] def qU(a b c:Nat):CO:=qS a b (.t c)
@[reducible] def qV(a b c:Nat):CO:=qm a (some b) c
@[reducible] def qW(a:Nat)(b:AK):AK:=qt a b .skip
@[reducible] def qX:AOp:= .c qF
@[reducible] def qY(a b:List CO)(c:AK):AK:=qe a (qe b c)
@[reducible] def qZ(a:Nat)(b c:AK):AK:= .seq (.blk a b) c
@[reducible] def wa(a:Nat):AI:= .mov (.t a)
@[reducible] def wb(a b:Nat):CO:=qb a (qz b)
@[reducible] def wd(a b:Nat):CO:=qb a (qT b)
@[reducible] def we(a:Nat)(b:List AV):CO:=qb a (.alloc b)
@[reducible] def wg(a b c:Nat):AI:=qG a b (.t c)
@[reducible] def wh(a:Nat)(b:List AOp):CO:=qn a bw b
@[reducible] def wi(a:Nat)(b:AK)(c:Nat):AK:=qt a b (.exit c)
@[reducible] def wj(a:Nat):CO:=qf a 0
@[reducible] def wl(a b c d:Nat):CO:=qb a (wg b c d)
@[reducible] def wm(a:List CO)(b c:OT):OT:= .alt (.one a b) c
@[reducible] def wn(a:Nat)(b:BinOp)(c d:Nat):CO:=qv a b c (.t d)
@[reducible] def wo:AV:=qN []
@[reducible] def wq(a:Nat)(b:AK)(c:List CO):AK:=qZ a b (.reg c)
@[reducible] def wt(a b c:Nat):Nat × Nat × AOp:=(a,b,.t c)
@[reducible] def wu(a b:Nat):AK:=wi a .skip b
@[reducible] def wv:AV:=qy true
@[reducible] def ww(a:Nat):AI:=qj none a
@[reducible] def wx(a:Nat)(b:List AV)(c:List (Nat × Nat × AOp)):CO:=qb a (.bld b c)
@[reducible] def wy(a b c:Nat)(d:AOp):AI:= .app a b (.t c) d
@[reducible] def wz(a b:Nat)(c d:AOp):CO:=qb a (qP b c d)
@[reducible] def wA(a:Nat):AI:= .not (.t a)
@[reducible] def wB(a:Nat)(b:List CO):AK:=qW a (qH b)
@[reducible] def wC(a:Nat)(b:List AOp):CO:=qn a be b
@[reducible] def wD(a:Nat)(b:AOp):List CO:=[qc a b]
@[reducible] def wE(a b:Nat):AI:= .box a (.t b)
@[reducible] def wF(a b:Nat)(c:Int):CO:=qD a .add b c
@[reducible] def wG(a b:Nat):Nat × Nat × AOp:=wt a 1 b
@[reducible] def wH(a b c:Nat):CO:=wn a .lss b c
@[reducible] def wI:AOp:= .c wv
@[reducible] def wJ:AOp:=qh 1
@[reducible] def wK(a b c d:Nat):AI:=wy a b c (.t d)
@[reducible] def wL(a:List CO)(b:AK)(c:List CO):AK:=qC a b (qH c)
@[reducible] def wM(a:Nat)(b:AOp):List AOp:=[.t a,b]
@[reducible] def wN(a b:Nat):List AOp:=wM a (.t b)
@[reducible] def wO(a b c d e:Nat):CO:=qb a (wK b c d e)
@[reducible] def wP(a:Nat)(b:FuncId)(c d:Nat):CO:=qn a b (wN c d)
@[reducible] def wQ(a b:Nat)(c:Int):CO:=qD a .eql b c
@[reducible] def wR(a:Nat)(b:List CO)(c d:AK):AK:=qR a (qC b c d)
@[reducible] def wS(a:Nat)(b:List CO)(c d:Nat)(e:AK):AK:=wR a b (wu c d) e
@[reducible] def wT(a b c:Nat):CO:=qb a (wE b c)
@[reducible] def wU(a b:Nat)(c:AOp):AK:=wB a (wD b c)
@[reducible] def wV(a:Nat):CO:=qf a 5
@[reducible] def wW(a:List CO)(b:OT):OT:=wm a b .tru
@[reducible] def wX(a:Nat)(b:List CO)(c d e:Nat)(f:AK)(g:List CO):AK:=wS a b c d (wq e f g)
@[reducible] def wY:AOp:= .c .nils
@[reducible] def wZ(a:Nat):List CO:=wD a qQ
@[reducible] def xa(a b c:Nat):CO:=qK a b (wa c)
@[reducible] def xb(a b c:Nat):CO:=qL a b (ww c)
@[reducible] def xc(a b c:Nat):CO:=qL a b (wa c)
@[reducible] def xd(a:Nat)(b:List AOp):CO:=qn a bJ b
@[reducible] def xe(a b:Nat)(c:AOp)(d:Nat):CO:=wz a b c (.t d)
@[reducible] def xf(a:List AOp):AI:= .call ig a
@[reducible] def xg(a:Nat):CO:=qf a 6
@[reducible] def xh(a b:Nat):CO:=qp a 0 b
@[reducible] def xi(a b:Nat)(c:Int):Nat × Nat × AOp:=(a,b,qh c)
@[reducible] def xj(a:Nat)(b:Int):Nat × Nat × AOp:=xi a 1 b
@[reducible] def xk(a b c:Nat):CO:=qK a b (ww c)
@[reducible] def xl(a b:Nat)(c:Int):CO:=qD a .sub b c
@[reducible] def xm(a b c:Nat)(d:AOp):CO:=wz a b (.t c) d
@[reducible] def xo(a:CO)(b c:Nat):List CO:=[a,qf b c]
@[reducible] def xp(a b c d:Nat):CO:=qL a b (qi c d)
@[reducible] def xq(a b:Nat)(c:BinOp)(d:Nat)(e:AOp):CO:=qL a b (ql c d e)
@[reducible] def xr(a b:Nat):CO:=qp a 2 b
@[reducible] def xt(a:Nat)(b:List AOp):CO:=qn a bN b
@[reducible] def xu:List AV:=[qx]
@[reducible] def xv(a b c:Nat)(d:List (Nat × Nat × AOp)):CO:=qI a b xu c d
@[reducible] def xx(a:Nat):List AOp:=[.t a]
@[reducible] def xy(a:Nat)(b:FuncId)(c:Nat):CO:=qn a b (xx c)
@[reducible] def xz:RV:= .t 4
@[reducible] def xA(a:Nat):CO:=qf a 1
@[reducible] def xB(a b c d:Nat):CO:=qK a b (qi c d)
@[reducible] def xC(a:Nat)(b:List AOp):CO:=qn a bk b
@[reducible] def xD(a:List CO)(b c:AK):AK:= .cut (qe a b) c
@[reducible] def xE(a:Nat)(b:Int):List AOp:=wM a (qh b)
@[reducible] def xF(a b:CO)(c d:Nat):List CO:=[a,b,qf c d]
@[reducible] def xG(a:Nat)(b:List CO)(c d e:Nat)(f:AK)(g h:CO)(i j:Nat):AK:=wX a b c d e f (xF g h i j)
@[reducible] def xH(a:Nat)(b:List CO)(c d e:Nat)(f:AK)(g:CO)(h i:Nat)(j:Int)(k l:Nat):AK:=xG a b c d e f g (wF h i j) k l
@[reducible] def xI(a:Nat):CO:=qf a 4
@[reducible] def xJ(a:List AOp):AI:= .call bw a
@[reducible] def xK(a b:Nat):CO:=qp a 1 b
@[reducible] def xL(a b:Nat):CO:=qb a (wA b)
@[reducible] def xM(a b:Nat):CO:=qU 1 a b
@[reducible] def xN(a:CO)(b c:Nat)(d:AK):AK:=qe (xo a b c) d
@[reducible] def xO(a b:Nat):RV:= .c a (some b)
@[reducible] def xP(a b:List CO)(c:AK)(d:List CO):AK:=qe a (wL b c d)
@[reducible] def xQ(a:Nat):Nat × Nat × AOp:=wG 0 a
@[reducible] def xR(a b:Nat):CO:=xy a bp b
@[reducible] def xS(a:Nat)(b:List AOp):CO:=qn a ig b
@[reducible] def xT(a b:Nat)(c:List (Nat × Nat × AOp)):CO:=xv a 1 b c
@[reducible] def xU(a b:Nat)(c:List AV)(d:Nat)(e:List (Nat × Nat × AOp)):CO:=qb a (.bslP b c d e)
@[reducible] def xV(a:Nat)(b:List AOp):CO:=qn a ee b
@[reducible] def xW(a:Nat):CO:=qf a 7
@[reducible] def xX:List AV:=[.nils]
@[reducible] def xY(a b c:Nat):CO:=xe a b wI c
@[reducible] def xZ(a:List CO)(b c:AK):AK:=qe a (.seq b c)
@[reducible] def x7(a b:List CO):AK:=qe a (qH b)
@[reducible] def x8:RV:= .t 2
@[reducible] def x9(a b:Nat)(c:Int):CO:=qD a .gtr b c
@[reducible] def ya(a b c:Nat):CO:=xm a b c qX
@[reducible] def yb(a b:Nat):AK:=wU a b qX
@[reducible] def yc(a b:Nat)(c:BinOp)(d:Nat)(e:AOp):CO:=qK a b (ql c d e)
@[reducible] def ye(a:Nat)(b:List CO):AK:=qW a (.reg b)
@[reducible] def yf(a:Nat):CO:=qO a 10
@[reducible] def yg:CO:=yf 9
@[reducible] def yh(a:Nat):CO:=qO 11 a
@[reducible] def yi:CO:=yh 12
@[reducible] def yj(a b:Nat)(c:Int)(d e:Nat)(f:AK):AK:=xN (wQ a b c) d e f
@[reducible] def yk(a b:AV):List AV:=[a,b,.nils]
@[reducible] def yl(a:Nat)(b c:AV):CO:=we a (yk b c)
@[reducible] def ym(a b c:Nat):CO:=wC a (wN b c)
@[reducible] def yn(a b c:Nat):CO:=wl a 1 b c
@[reducible] def yp(a:Nat):CO:=qf a 3
@[reducible] def yq(a:List UInt8):AOp:= .c (qN a)
def kY:FK:=⟨11,[x8],xP (wD 2 (.c .nilp)) [wj 3,wd 4 3,x9 5 4 2000] (ye 5 (xF (wj 6) (qb 7 (.slS 1 (.t 6) none (some (qh 2000)))) 0 7)) [wj 8,wx 9 [.nils,qx] [xQ 8],wT 10 2 9,qf 2 10]⟩
theorem sv:aw Tryz.prog gO=some kY:=by kernel_rfl
def cJ:FK:=⟨99,[xz],qY (wZ 4) [wj 7,wj 8,wb 9 8,xK 10 9,qu 11 10,wF 12 11 1,wb 13 7,xK 14 13,xM 14 12] (qC [xA 15,qD 16 .lss 15 1,qf 17 16,xa 18 17 0,qK 19 17 (qz 18),xB 20 17 0 19,xk 21 17 20,qK 22 17 (qT 21),yc 23 17 .eql 22 qQ,xY 24 17 23] (wU 24 4 qQ) (qe [wj 25,wb 26 25,xK 27 26,qu 28 27,xl 29 28 1,qf 5 29] (qC [wV 30,wj 31,wb 32 31,xh 33 32,qu 34 33,wd 35 34,wH 36 30 35] (wB 36 [wj 37,wb 38 37,xh 39 38,qu 40 39,wV 41,yn 42 40 41,qu 43 42,qb 44 (.conv .i64 (.t 43)),xA 45,wn 46 .rem 44 45,qf 4 46]) (qY [wj 47,wb 48 47,xh 49 48,wV 51,wj 52,wb 53 52,xh 54 53,wj 62,wb 63 62,xh 64 63,wV 66,qD 67 .mul 66 7,wF 68 67 3,wj 69,wb 70 69,xh 71 70,wV 80,qD 81 .mul 80 29,wV 83,wj 84,wb 85 84,xh 86 85,qu 50 49,qu 55 54,wd 56 55,wn 57 .rem 51 56,yn 58 50 57,qu 59 58,qb 60 (.conv .i64 (.t 59)),qD 61 .mul 60 131,qu 65 64,qu 72 71,wd 73 72,wn 74 .rem 68 73,yn 75 65 74,qu 76 75,qb 77 (.conv .i64 (.t 76)),qD 78 .mul 77 1117,wn 79 .add 61 78,wn 82 .add 79 81,qu 87 86,wd 88 87,wn 89 .quo 83 88,qD 90 .mul 89 53,wn 91 .add 82 90,qf 6 91] [xg 92,xg 93,qD 94 .quo 93 64,wn 95 .xor 92 94,qf 6 95] (qH [xg 96,xA 97,wn 98 .rem 96 97,qf 4 98])))))⟩
theorem nA:aw Tryz.prog bw=some cJ:=by kernel_rfl
def cZ:FK:=⟨12,[xz],x7 (wZ 4) [xA 5,wj 6,xA 7,wd 8 7,wh 9 (wN 6 8),yn 10 5 9,qu 11 10,qf 4 11]⟩
theorem eW:aw Tryz.prog be=some cZ:=by kernel_rfl
def kZ:FK:=⟨15,[.t 6],x7 (wD 6 qX) [wj 7,xA 8,wn 9 .geq 7 8,qf 10 9,xc 11 10 0,xc 12 10 2,xq 13 10 .leq 11 (.t 12),ya 14 10 13,qf 6 14]⟩
theorem zk:aw Tryz.prog ig=some kZ:=by kernel_rfl
def bW:FK:=⟨28,[x8],qe (wZ 2) (qZ 0 (qe [wj 4,wQ 5 4 1,wV 3] (qt 3 (qH (wZ 2)) (qe [wj 7,wQ 8 7 2,qf 9 8,xa 10 9 0,yc 11 9 .eql 10 (qh 10),xY 12 9 11,qf 13 12,xa 14 13 0,yc 15 13 .eql 14 (qh 11),xY 16 13 15,qf 17 16,xa 18 17 0,yc 19 17 .eql 18 (qh 13),xY 20 17 19,qf 6 20] (qt 6 (qH (wD 2 wJ)) (qe [wj 22,xS 23 [.t 22,qh 3,qh 9],qf 24 23,xa 25 24 0,yc 26 24 .eql 25 (qh 12),xY 27 24 26,qf 21 27] (wU 21 2 (qh 2))))))) (qH (wD 2 (qh (-1)))))⟩
theorem tO:aw Tryz.prog ff=some bW:=by kernel_rfl
def lA:FK:=⟨13,[x8],x7 (wD 2 qX) [wj 3,xS 4 [.t 3,wJ,qh 14],xI 5,xc 6 5 0,xq 7 5 .neq 6 (qh 12),ya 8 5 7,qf 9 8,xc 10 9 0,xq 11 9 .neq 10 (qh 13),ya 12 9 11,qf 2 12]⟩
theorem tj:aw Tryz.prog cT=some lA:=by kernel_rfl
def je:AK:=qY [wT 4 1 1,we 6 [qx,qx,.nils,qx]] [wj 11,xT 12 16 [(0,1,wJ),(1,1,wJ),xj 2 2,xj 3 3,xj 4 4,xj 5 5,xj 6 8,xj 7 9,xj 8 10,xj 9 13,xj 10 3,xj 11 6,xj 12 7,xj 13 11,xj 14 12,xj 15 14],ym 13 11 12,qf 7 13] (qY [xW 14,wj 15,qf 16 2,wh 17 (wN 15 16),wx 18 [qx,qx,.nils,qx] [xQ 14,wG 1 17],we 8 [qx,qx,.nils,qx],qU 4 8 18] (xF (xW 19) (xy 20 ff 19) 9 20) (xD [xW 21,wQ 22 21 14] (qW 22 (qC [xh 23 4,qu 24 23,wd 25 24,wQ 26 25 0] (wB 26 [wj 27,qf 28 2,wh 29 (wN 27 28),xT 30 1 [xQ 29],wx 31 [qx,qx,.nils,qx] [xj 0 13,xj 1 (-1),wG 2 30],qU 4 6 31]) (qe [wj 32,xh 33 4,qu 34 33,wd 35 34,wh 36 (wN 32 35),qp 37 3 8,xM 37 36] (.reg [xh 38 4,qu 39 38,qp 40 3 8,qu 41 40,wl 42 3 39 41,xh 43 42,qu 44 43,qf 9 44])))) (xD [xW 45,wQ 46 45 1] (ye 46 [wj 47,xT 48 7 [(0,1,qQ),(1,1,wJ),xj 2 2,xj 3 3,xj 4 15,xj 5 16,xj 6 255],ym 49 47 48,qp 50 3 8,xM 50 49]) (xD [xW 51,xy 52 cT 51,xL 53 52] (ye 53 [xK 54 8,qS 1 54 (qh (-1))]) (wL (wZ 10) (xH 0 [qf 55 10,qf 56 9,wH 57 55 56] 57 0 1 (.reg [xr 60 8,wj 62,qf 63 2,qu 61 60,wh 64 (wN 62 63),qO 60 61,xU 65 1 xu 1 [xQ 64],wO 66 1 8 61 65,xr 67 8,xM 67 66]) (qf 58 10) 59 58 1 10 59) [qV 68 4 8,qU 4 6 68])))))
def iO:FK:=⟨69,[xO 6 4],(AK.whole je)⟩
theorem tw:aw Tryz.prog iN=some iO:=by kernel_rfl
def lB:FK:=⟨30,[.t 6],xP (wZ 6) [xA 7,qf 8 2,xl 9 8 1,wH 10 7 9,qf 11 10,xc 12 11 0,qL 13 11 (xJ (xE 12 4)),xq 14 11 .gtr 13 qQ,ya 15 11 14] (wB 15 [xA 16,wF 17 16 1,wj 18,qf 19 2,xl 20 19 1,xA 21,wn 22 .sub 20 21,wh 23 (wN 18 22),wn 24 .add 17 23,qf 6 24]) [wj 25,qf 26 2,xl 27 26 1,wh 28 (wN 25 27),qb 29 (.bin .add wJ (.t 28)),qf 6 29]⟩
theorem zg:aw Tryz.prog fF=some lB:=by kernel_rfl
def iH:AK:=qY [wT 3 1 1,yl 4 qx qx] [wj 10,xT 11 4 [(0,1,wJ),(1,1,qQ),xj 2 2,xj 3 3],ym 12 10 11,wx 13 (yk qx qx) [xQ 12],yl 5 qx qx,qU 3 5 13] (qY [xh 14 5,wj 17,qu 15 14,wF 16 15 2,wh 18 (xE 17 5),qO 14 15,wn 19 .add 16 18,xK 20 5,xM 20 19] [wj 21,xT 22 6 [xj 0 3,xj 1 5,xj 2 2,(3,1,wJ),xj 4 7,xj 5 4],ym 23 21 22,qf 6 23] (wL (wZ 7) (xH 0 [xW 24,xg 25,wH 26 24 25] 26 0 1 (qe [wx 29 [.nils,.nils,qx,qx,.nils] [],we 8 [.nils,.nils,qx,qx,.nils],qU 5 8 29] (xD [wj 30,xT 31 5 [(0,1,wJ),xj 1 2,(2,1,qQ),xj 3 3,xj 4 4],ym 32 30 31,qf 9 32] (xG 2 [qf 33 9,x9 34 33 0] 34 2 3 (.reg [xK 37 8,wj 39,xK 41 5,qu 38 37,qV 40 1 3,qu 42 41,qn 43 iN [.t 39,.t 40,.t 42],qO 37 38,qI 44 4 [qx,qx,.nils,qx] 1 [wt 0 4 43],qO 37 38,wO 45 4 48 38 44,xK 46 8,xM 46 45]) (qf 35 9) (xl 36 35 1) 9 36) (qY [wj 47,xK 48 5,qu 49 48,wh 50 (wN 47 49),qp 51 3 8,xM 51 50] [wj 52,xT 53 5 [xj 0 2,(1,1,wJ),xj 2 2,(3,1,wJ),xj 4 3],ym 54 52 53,xr 55 8,xM 55 54] (xD [xg 56,wQ 57 56 1,qf 58 57,xa 59 58 7,xa 60 58 6,yc 61 58 .sub 60 wJ,yc 62 58 .eql 59 (.t 61),xa 63 58 62,xc 64 63 0,qL 65 63 (xJ (xE 64 3)),xq 66 63 .gtr 65 qQ,qK 67 58 (qP 63 (.t 66) qX),xY 68 58 67] (ye 68 [xr 69 8,qS 1 69 (qh 3)]) (xD [xr 70 8,qu 71 70] (.blk 4 (yj 73 71 1 72 73 (qt 72 (qe [qp 74 3 8,qS 1 74 qQ] (.reg [wj 75,xW 76,xg 77,qn 78 fF [.t 75,.t 76,.t 77],xT 79 1 [xQ 78],qp 80 4 8,xM 80 79])) (yj 82 71 2 81 82 (ye 81 [wj 83,xW 84,xg 85,qn 86 fF [.t 83,.t 84,.t 85],wj 87,xW 88,xg 89,qn 90 fF [.t 87,.t 88,.t 89],xT 91 2 [xQ 86,wG 1 90],qp 92 4 8,xM 92 91]))))) (.reg [xr 93 5,qu 94 93,qV 95 5 8,qI 96 5 [.nils,.nils,qx,qx,.nils] 1 [wt 0 5 95],wO 97 5 88 94 96,xr 98 5,xM 98 97])))))) (xW 27) 28 27 1 7 28) [qV 99 3 5,qU 3 4 99]))
def iQ:FK:=⟨100,[xO 4 3],(AK.whole iH)⟩
theorem tC:aw Tryz.prog jj=some iQ:=by kernel_rfl
def kQ:FK:=⟨43,[xz],qY [wT 2 3 0,qc 4 wY] (xo (xT 8 0 []) 5 8) (wL (wZ 6) (xH 0 [xg 9,xr 10 2,qu 11 10,wd 12 11,wH 13 9 12] 13 0 1 (qe (wZ 7) (xH 2 [xW 16,xr 17 2,qu 18 17,xg 19,wl 20 5 18 19,qp 21 4 20,qu 22 21,wd 23 22,wH 24 16 23] 24 2 3 (qe [xr 27 2,qu 28 27,xg 29,wl 30 5 28 29,qp 31 4 30,qu 32 31,xW 33,yn 34 32 33,qu 35 34,xA 36,wn 37 .eql 35 36] (qW 37 (qe [wV 38,xg 39,xT 40 1 [xQ 39],wO 41 1 8 38 40,qf 5 41] (.exit 2)))) (xW 25) 26 25 1 7 26)) (xg 14) 15 14 1 6 15) (xo (wV 42) 4 42))⟩
theorem rB:aw Tryz.prog ce=some kQ:=by kernel_rfl
def iL:AK:=qY [we 2 xX] [wx 9 xX [],we 3 xX,xM 3 9] (xD [wj 10,xT 11 4 [(0,1,wJ),xj 1 2,(2,1,wJ),xj 3 3],ym 12 10 11,qf 4 12] (xG 0 [xI 13,x9 14 13 0] 14 0 1 (.reg [xh 17 3,wj 19,qu 18 17,qV 20 1 3,wP 21 jj 19 20,qO 17 18,qI 22 3 (yk qx qx) 1 [wt 0 3 21],qO 17 18,wO 23 3 40 18 22,xh 24 3,xM 24 23]) (xI 15) (xl 16 15 1) 4 16) (wL [wj 25,xT 26 4 [(0,1,qQ),(1,1,qQ),(2,1,wJ),xj 3 3],ym 27 25 26,qf 5 27] (xG 2 [wV 28,x9 29 28 0] 29 2 3 (qY [xh 32 3,wj 34,xh 35 3,qu 33 32,qu 36 35,wd 37 36,wh 38 (wN 34 37),qO 32 33,wl 39 3 33 38,qf 6 39] [wj 40,xg 41,wb 42 41,xr 43 42,qu 44 43,wd 45 44,wh 46 (wN 40 45),qf 7 46] (qe [wj 47,xg 48,wb 49 48,xK 50 49,qu 51 50,wh 52 (wN 47 51),wx 53 [qx,.nils] [xQ 52],we 8 [qx,.nils],qU 2 8 53] (xD [xg 54,wb 55 54,qV 56 3 55,xW 57,wP 58 ce 56 57,wd 59 58,qc 60 qQ] (qR 4 (xZ [wH 61 60 59] (wu 61 4) (wq 5 (.reg [xK 62 8,wj 64,xg 65,wb 66 65,xK 67 66,qu 63 62,qu 68 67,wh 69 (wN 64 68),qO 62 63,xU 70 1 xu 1 [xQ 69],wO 71 1 8 63 70,xK 72 8,xM 72 71]) (xo (wF 73 60 1) 60 73)))) (qe [xW 74,x9 75 74 0] (ye 75 [xg 76,wb 77 76,xr 78 77,xW 80,xg 81,wb 82 81,xr 83 82,xW 85,qu 79 78,qu 84 83,wl 86 5 84 85,xh 87 86,qu 88 87,qV 89 2 8,qI 90 2 [qx,.nils] 1 [wt 0 2 89],qO 78 79,qO 83 84,qO 87 88,wO 91 2 32 88 90,qO 78 79,wl 92 5 79 80,xh 93 92,xM 93 91]))))) (wV 30) (xl 31 30 1) 5 31) [qV 94 1 3,xM 2 94]))
def iX:FK:=⟨95,[xO 2 1],(AK.whole iL)⟩
theorem tL:aw Tryz.prog dk=some iX:=by kernel_rfl
def dL:AK:=qe [wT 1 5 0,we 2 [.nils,.nils,qx,qx,.nils]] (.cut (.ot (.one (wD 3 (.c .any)) (.one [xr 9 1] (.one [qp 11 3 1] (.one [qp 14 4 1] (.one [qu 10 9] (.one [qu 12 11] (.one [qu 15 14] (wm [qI 7 2 [qx,.nils] 0 [],yg,yi,qO 14 15] (wm [qI 8 4 [qx,qx,.nils,qx] 0 [],yg,yi,qO 14 15] (wW [xT 13 0 [],yg,yi,qO 14 15] (wW [wO 16 1 8 13 15,yg,yi] (.one [wx 17 [.nils,.nils,qx,qx,.nils] [xQ 7,wG 1 8,wG 2 10,wG 3 12,wG 4 16]] (wW [we 3 [.nils,.nils,qx,qx,.nils]] (wW [qU 5 3 17] .done))))) (wW [xT 13 0 [],yg,yi,qO 14 15] (wm [qI 8 4 [qx,qx,.nils,qx] 0 [],yg,yi,qO 14 15] (wW [wO 16 1 8 13 15,yg,yi] (.one [wx 17 [.nils,.nils,qx,qx,.nils] [xQ 7,wG 1 8,wG 2 10,wG 3 12,wG 4 16]] (wW [we 3 [.nils,.nils,qx,qx,.nils]] (wW [qU 5 3 17] .done)))) (wW [wO 16 1 8 13 15,yg,yi] (wW [qI 8 4 [qx,qx,.nils,qx] 0 [],yg,yi,qO 14 15] (.one [wx 17 [.nils,.nils,qx,qx,.nils] [xQ 7,wG 1 8,wG 2 10,wG 3 12,wG 4 16]] (wW [we 3 [.nils,.nils,qx,qx,.nils]] (wW [qU 5 3 17] .done)))))))) (wm [qI 8 4 [qx,qx,.nils,qx] 0 [],yg,yi,qO 14 15] (wm [qI 7 2 [qx,.nils] 0 [],yg,yi,qO 14 15] (wW [xT 13 0 [],yg,yi,qO 14 15] (wW [wO 16 1 8 13 15,yg,yi] (.one [wx 17 [.nils,.nils,qx,qx,.nils] [xQ 7,wG 1 8,wG 2 10,wG 3 12,wG 4 16]] (wW [we 3 [.nils,.nils,qx,qx,.nils]] (wW [qU 5 3 17] .done))))) (wW [xT 13 0 [],yg,yi,qO 14 15] (wm [qI 7 2 [qx,.nils] 0 [],yg,yi,qO 14 15] (wW [wO 16 1 8 13 15,yg,yi] (.one [wx 17 [.nils,.nils,qx,qx,.nils] [xQ 7,wG 1 8,wG 2 10,wG 3 12,wG 4 16]] (wW [we 3 [.nils,.nils,qx,qx,.nils]] (wW [qU 5 3 17] .done)))) (wW [wO 16 1 8 13 15,yg,yi] (wW [qI 7 2 [qx,.nils] 0 [],yg,yi,qO 14 15] (.one [wx 17 [.nils,.nils,qx,qx,.nils] [xQ 7,wG 1 8,wG 2 10,wG 3 12,wG 4 16]] (wW [we 3 [.nils,.nils,qx,qx,.nils]] (wW [qU 5 3 17] .done)))))))) (wW [xT 13 0 [],yg,yi,qO 14 15] (wm [qI 7 2 [qx,.nils] 0 [],yg,yi,qO 14 15] (wm [qI 8 4 [qx,qx,.nils,qx] 0 [],yg,yi,qO 14 15] (wW [wO 16 1 8 13 15,yg,yi] (.one [wx 17 [.nils,.nils,qx,qx,.nils] [xQ 7,wG 1 8,wG 2 10,wG 3 12,wG 4 16]] (wW [we 3 [.nils,.nils,qx,qx,.nils]] (wW [qU 5 3 17] .done)))) (wW [wO 16 1 8 13 15,yg,yi] (wW [qI 8 4 [qx,qx,.nils,qx] 0 [],yg,yi,qO 14 15] (.one [wx 17 [.nils,.nils,qx,qx,.nils] [xQ 7,wG 1 8,wG 2 10,wG 3 12,wG 4 16]] (wW [we 3 [.nils,.nils,qx,qx,.nils]] (wW [qU 5 3 17] .done)))))) (wm [qI 8 4 [qx,qx,.nils,qx] 0 [],yg,yi,qO 14 15] (wm [qI 7 2 [qx,.nils] 0 [],yg,yi,qO 14 15] (wW [wO 16 1 8 13 15,yg,yi] (.one [wx 17 [.nils,.nils,qx,qx,.nils] [xQ 7,wG 1 8,wG 2 10,wG 3 12,wG 4 16]] (wW [we 3 [.nils,.nils,qx,qx,.nils]] (wW [qU 5 3 17] .done)))) (wW [wO 16 1 8 13 15,yg,yi] (wW [qI 7 2 [qx,.nils] 0 [],yg,yi,qO 14 15] (.one [wx 17 [.nils,.nils,qx,qx,.nils] [xQ 7,wG 1 8,wG 2 10,wG 3 12,wG 4 16]] (wW [we 3 [.nils,.nils,qx,qx,.nils]] (wW [qU 5 3 17] .done)))))) (wW [wO 16 1 8 13 15,yg,yi] (wm [qI 7 2 [qx,.nils] 0 [],yg,yi,qO 14 15] (wW [qI 8 4 [qx,qx,.nils,qx] 0 [],yg,yi,qO 14 15] (.one [wx 17 [.nils,.nils,qx,qx,.nils] [xQ 7,wG 1 8,wG 2 10,wG 3 12,wG 4 16]] (wW [we 3 [.nils,.nils,qx,qx,.nils]] (wW [qU 5 3 17] .done)))) (wW [qI 8 4 [qx,qx,.nils,qx] 0 [],yg,yi,qO 14 15] (wW [qI 7 2 [qx,.nils] 0 [],yg,yi,qO 14 15] (.one [wx 17 [.nils,.nils,qx,qx,.nils] [xQ 7,wG 1 8,wG 2 10,wG 3 12,wG 4 16]] (wW [we 3 [.nils,.nils,qx,qx,.nils]] (wW [qU 5 3 17] .done)))))))))))))))))))) (xD (wZ 4) (xH 0 [xI 18,xh 19 1,qu 20 19,wd 21 20,wH 22 18 21] 22 0 1 (.reg [xh 25 3,xh 27 1,xI 29,xh 34 1,xI 36,qu 26 25,qu 28 27,wl 30 2 28 29,xh 31 30,qu 32 31,qu 35 34,wl 37 2 35 36,xK 38 37,qu 39 38,xT 33 0 [],qO 25 26,qO 27 28,qO 31 32,qO 34 35,qO 38 39,wO 40 1 8 33 39,qO 25 26,qO 27 28,qO 31 32,wx 41 [qx,.nils] [xQ 32,wG 1 40],qI 42 2 [qx,.nils] 1 [wt 0 2 41],qO 25 26,wO 43 2 32 26 42,xh 44 3,xM 44 43]) (xI 23) 24 23 1 4 24) (wL (wZ 5) (xH 2 [wV 45,xK 46 1,qu 47 46,wd 48 47,wH 49 45 48] 49 2 3 (qe [xK 52 1,qu 53 52,wV 54,wl 55 4 53 54,qV 56 4 55,we 6 [qx,qx,.nils,qx],qU 4 6 56] (.reg [xK 57 3,xh 59 6,xK 61 6,xr 64 6,qp 67 3 6,qu 58 57,qu 60 59,qu 62 61,qu 65 64,qu 68 67,xT 63 0 [],qO 57 58,qO 59 60,qO 61 62,qO 64 65,qO 67 68,wO 66 1 8 63 65,qO 57 58,qO 59 60,qO 61 62,qO 67 68,wx 69 [qx,qx,.nils,qx] [xQ 60,wG 1 62,wG 2 66,wG 3 68],qI 70 4 [qx,qx,.nils,qx] 1 [wt 0 4 69],qO 57 58,wO 71 4 48 58 70,xK 72 3,xM 72 71])) (wV 50) 51 50 1 5 51) [qV 73 5 3,qU 5 2 73])))
def dH:FK:=⟨74,[xO 2 5],(AK.whole dL)⟩
theorem mZ:aw Tryz.prog dC=some dH:=by kernel_rfl
def mb:FK:=⟨29,[xO 2 3],qY [wT 1 3 0,yl 2 qx qx] [xh 5 1,qu 6 5,xK 7 1,qu 8 7,wx 9 (yk qx qx) [xQ 6,wG 1 8],yl 3 qx qx,qU 3 3 9] (wL (wZ 4) (xH 0 [xI 10,xr 11 1,qu 12 11,wd 13 12,wH 14 10 13] 14 0 1 (.reg [xr 17 3,xr 19 1,xI 21,qu 18 17,qu 20 19,wl 22 5 20 21,qV 23 5 22,xy 24 dC 23,qO 17 18,qI 25 5 [.nils,.nils,qx,qx,.nils] 1 [wt 0 5 24],qO 17 18,wO 26 5 88 18 25,xr 27 3,xM 27 26]) (xI 15) 16 15 1 4 16) [qV 28 3 3,qU 3 2 28])⟩
theorem ua:aw Tryz.prog jb=some mb:=by kernel_rfl
def iE:FK:=⟨25,[xO 2 1],qY [wT 1 1 0,we 2 xX] [wx 5 xX [],we 3 xX,xM 3 5] (wL (wZ 4) (xH 0 [xI 6,xh 7 1,qu 8 7,wd 9 8,wH 10 6 9] 10 0 1 (.reg [xh 13 3,xh 15 1,xI 17,qu 14 13,qu 16 15,wl 18 3 16 17,qV 19 3 18,xy 20 jb 19,qO 13 14,qI 21 3 (yk qx qx) 1 [wt 0 3 20],qO 13 14,wO 22 3 40 14 21,xh 23 3,xM 23 22]) (xI 11) 12 11 1 4 12) [qV 24 1 3,xM 2 24])⟩
theorem nF:aw Tryz.prog er=some iE:=by kernel_rfl
def jg:AK:=qY [we 2 xX] [wj 7,xy 8 dk 7,xy 9 er 8,we 3 xX,xM 3 9] (qY [xh 10 3,wj 12,xh 13 3,qu 11 10,qu 14 13,wd 15 14,wh 16 (wN 12 15),qO 10 11,wl 17 3 11 16,qf 4 17] [xI 18,wb 19 18,xr 20 19,wj 22,xI 23,wb 24 23,xr 25 24,qu 21 20,qu 26 25,wd 27 26,wh 28 (wN 22 27),qO 20 21,wl 29 5 21 28,qf 5 29] (qe [wj 30,xI 31,wb 32 31,xK 33 32,xI 35,wb 36 35,xr 37 36,qu 34 33,qu 38 37,wd 39 38,xT 40 5 [xj 0 (-1),wG 1 34,wG 2 39,(3,1,qQ),(4,1,wJ)],ym 41 30 40,qf 6 41] (xD [wj 42,wh 43 (xE 42 32)] (.blk 0 (yj 45 43 0 44 45 (qt 44 (.reg [wV 46,wj 47,wh 48 (xE 47 5),wb 49 46,xr 50 49,xM 50 48]) (yj 52 43 1 51 52 (qt 51 (qe [wV 53,wb 54 53,qp 55 4 54,qu 56 55,wd 57 56,x9 58 57 0] (ye 58 [wV 59,wb 60 59,qp 61 4 60,qu 62 61,xg 63,qb 64 (qG 1 62 qQ),xM 64 63])) (yj 66 43 2 65 66 (qt 65 (.reg [wV 67,xg 68,wb 69 67,qp 70 3 69,xM 70 68]) (yj 72 43 3 71 72 (qt 71 (qe [wV 73,wb 74 73,xK 75 74,qu 76 75,wd 77 76,x9 78 77 0] (ye 78 [wV 79,wb 80 79,xK 81 80,qu 82 81,xg 83,qb 84 (qG 4 82 qQ),xK 85 84,xM 85 83])) (yj 87 43 4 86 87 (qt 86 (qe [wV 88,wb 89 88,xK 90 89,qu 91 90,wd 92 91,x9 93 92 0] (ye 93 [wV 94,wb 95 94,xK 96 95,wV 98,wb 99 98,xK 100 99,xg 105,xU 106 1 xu 1 [xQ 105],qu 97 96,qu 101 100,qb 102 (qG 4 101 qQ),xr 103 102,qu 104 103,wO 107 1 8 104 106,qO 96 97,qb 108 (qG 4 97 qQ),xr 109 108,xM 109 107])) (yj 111 43 5 110 111 (qt 110 (.reg [wV 112,wV 113,wb 114 113,xh 115 114,qu 116 115,xg 117,xT 118 1 [xQ 117],wx 119 [qx,.nils] [(0,1,qQ),wG 1 118],qI 120 2 [qx,.nils] 1 [wt 0 2 119],wO 121 2 32 116 120,wb 122 112,xh 123 122,xM 123 121]) (yj 125 43 6 124 125 (qt 124 (.reg [xI 126,xI 127,wb 128 127,xh 129 128,wj 131,qu 130 129,wh 132 (xE 131 2),qO 129 130,wn 133 .add 130 132,wb 134 126,xK 135 134,xM 135 133]) (yj 137 43 7 136 137 (qW 136 (qe [wV 138,wb 139 138,xK 140 139,qu 141 140,wd 142 141,x9 143 142 0] (ye 143 [wV 144,wb 145 144,xK 146 145,wj 148,xU 149 1 xu 3 [xj 0 256,xj 1 (-1),(2,1,wJ)],qu 147 146,ym 150 148 149,qO 146 147,qb 151 (qG 4 147 qQ),qp 152 3 151,xM 152 150]))))))))))))))))))) (qH [qV 153 1 3,xM 2 153]))))
def iJ:FK:=⟨154,[xO 2 1],(AK.whole jg)⟩
theorem tv:aw Tryz.prog iT=some iJ:=by kernel_rfl
def fL:FK:=⟨12,[xz],x7 (wD 4 (.c wo)) [xA 5,wj 6,xA 7,wd 8 7,wh 9 (wN 6 8),yn 10 5 9,qu 11 10,qf 4 11]⟩
theorem ki:aw Tryz.prog bx=some fL:=by kernel_rfl
def iW:FK:=⟨21,[xO 4 4],xP [we 4 [qx,qx,wo,.nils]] [xA 5,wd 6 5,wQ 7 6 0,xW 8,xa 9 8 0,qK 10 8 (xJ (xE 9 3)),yc 11 8 .eql 10 qQ,xY 12 8 11] (wB 12 [wj 13,xT 14 10 [(0,1,qQ),(1,1,wJ),xj 2 2,xj 3 3,xj 4 5,xj 5 7,xj 6 15,xj 7 16,xj 8 100,xj 9 255],ym 15 13 14,wx 16 [qx,qx,wo,.nils] [(0,1,wJ),wG 1 15],qU 4 4 16]) [wj 17,xA 18,wP 19 bx 17 18,wx 20 [qx,qx,wo,.nils] [xj 0 2,wG 2 19],qU 4 4 20]⟩
theorem tG:aw Tryz.prog fg=some iW:=by kernel_rfl
def fh:FK:=⟨47,[xO 6 4],qe [we 6 [qx,qx,wo,.nils]] (qC [qf 8 2,qD 9 .lss 8 2,qf 10 9,xa 11 10 0,qK 12 10 (xJ (xE 11 4)),yc 13 10 .eql 12 qQ,xY 14 10 13] (wB 14 [wj 15,xA 16,wP 17 fg 15 16,qU 4 6 17]) (qC [wj 18,wh 19 (xE 18 7),wQ 20 19 0] (wB 20 [wj 21,xT 22 3 [xj 0 11,xj 1 12,xj 2 11],ym 23 21 22,wj 24,xA 25,qf 26 2,xl 27 26 1,qn 28 bh [.t 24,.t 25,.t 27],qI 29 4 [qx,qx,wo,.nils] 1 [wt 0 4 28],wx 30 [qx,qx,wo,.nils] [xQ 23,wG 3 29],qU 4 6 30]) (x7 [wj 31,xT 32 9 [xj 0 3,xj 1 3,xj 2 4,xj 3 5,xj 4 6,xj 5 7,xj 6 8,xj 7 9,xj 8 10],ym 33 31 32,qf 7 33] [xW 34,wj 35,xA 36,qf 37 2,xl 38 37 1,qn 39 bh [.t 35,.t 36,.t 38],wj 40,xA 41,qf 42 2,xl 43 42 1,qn 44 bh [.t 40,.t 41,.t 43],qI 45 4 [qx,qx,wo,.nils] 2 [wt 0 4 39,wt 4 4 44],wx 46 [qx,qx,wo,.nils] [xQ 34,wG 3 45],qU 4 6 46])))⟩
theorem lU:aw Tryz.prog bh=some fh:=by kernel_rfl
def iD:FK:=⟨99,[xO 4 4],qY [we 4 [qx,qx,wo,.nils]] [qc 5 (.c .any),wj 9,wb 10 9,xh 11 10,wj 13,wb 14 13,xr 15 14,xA 17,qu 12 11,qu 16 15,qn 18 bh [.t 12,.t 16,.t 17],we 5 [qx,qx,wo,.nils],qU 4 5 18] (qC [wj 19,wb 20 19,xK 21 20,qu 22 21,wd 23 22,wQ 24 23 0,qf 25 24,xa 26 25 0,qK 27 25 (qz 26),xB 28 25 0 27,xk 29 25 28,qK 30 25 (xJ (xE 29 4)),yc 31 25 .gtr 30 qQ,xY 32 25 31] (wB 32 [qV 33 4 5,qU 4 4 33]) (qY [qc 6 (.c .any),wj 34,wb 35 34,xK 36 35,wj 38,wb 39 38,xh 40 39,wj 42,wb 43 42,xK 44 43,qu 37 36,qu 41 40,qu 45 44,wd 46 45,wh 47 (wN 41 46),qO 36 37,wl 48 3 37 47,qV 49 3 48,yl 6 wo .nils,qU 3 6 49] [xh 50 6,qu 51 50,wx 52 [qx,qx,wo,.nils] [xj 0 13,wG 2 51],we 7 [qx,qx,wo,.nils],qU 4 7 52] (qC (wZ 8) (xH 0 [qf 53 8,xK 54 6,qu 55 54,wd 56 55,wH 57 53 56] 57 0 1 (.reg [qp 60 3 7,wj 62,wb 63 62,xh 64 63,wj 66,wb 67 66,xr 68 67,qu 61 60,qu 65 64,qu 69 68,qn 70 bh [.t 65,.t 69,qh 2],qO 60 61,xU 71 4 [qx,qx,wo,.nils] 1 [wt 0 4 70],wO 72 4 56 61 71,qp 73 3 7,xM 73 72]) (qf 58 8) 59 58 1 8 59) (wL [wj 74,wb 75 74,xh 76 75,qu 77 76,wh 78 (xE 77 2),wQ 79 78 0] (wB 79 [qV 80 4 7,qU 4 4 80]) [wj 81,wb 82 81,xh 83 82,xU 85 1 xu 4 [xj 0 3,xj 1 4,xj 2 8,xj 3 10],wj 88,wb 89 88,xh 90 89,wj 92,wb 93 92,xr 94 93,qu 84 83,qV 87 4 7,qu 91 90,qu 95 94,ym 86 84 85,qA (some 4) 7 87,qO 90 91,qO 94 95,qn 96 bh [.t 91,.t 95,qh 2],qA (some 4) 7 87,qI 97 4 [qx,qx,wo,.nils] 2 [wt 0 4 87,wt 4 4 96],wx 98 [qx,qx,wo,.nils] [xQ 86,wG 3 97],qU 4 4 98]))))⟩
theorem oa:aw Tryz.prog ee=some iD:=by kernel_rfl
def gf:FK:=⟨46,[x8],qY (wD 2 (.c wo)) [wj 3,wj 4,wb 5 4,qp 6 3 5,qu 7 6,wF 8 7 1,wb 9 3,qp 10 3 9,xM 10 8] (wL [wj 11,wb 12 11,xh 13 12,qu 14 13,wh 15 (xE 14 9),wQ 16 15 0,qf 17 16,xc 18 17 0,qL 19 17 (qz 18),xp 20 17 2 19,xb 21 17 20,qL 22 17 (qT 21),xq 23 17 .gtr 22 qQ,ya 24 17 23] (wB 24 [wj 25,wb 26 25,xh 27 26,wj 29,wb 30 29,xr 31 30,qu 28 27,qu 32 31,wP 33 bx 28 32,qf 2 33]) [wj 34,wb 35 34,qp 36 3 35,wj 39,wb 40 39,qp 41 3 40,qu 37 36,qD 38 .rem 37 24,qu 42 41,qD 43 .rem 42 24,wF 44 43 1,qb 45 (.slStr (yq [97,98,99,100,101,103,104,105,106,107,108,109,110,112,113,114,115,116,117,118,119,120,121,122]) (some (.t 38)) (some (.t 44))),qf 2 45])⟩
theorem mM:aw Tryz.prog dE=some gf:=by kernel_rfl
def eV:FK:=⟨24,[xO 4 5],qY [wT 3 4 1,we 4 [qx,wo,.nils,.nils,.nils]] (xF (wj 6) (xy 7 dE 6) 5 7) (x7 [wj 8,qI 9 1 [wo] 0 [],wj 10,wb 11 10,xr 12 11,qu 13 12,wO 14 1 16 9 13,wV 15,qI 16 1 [wo] 1 [xQ 15],wO 17 1 16 14 16,wb 18 8,xr 19 18,xM 19 17] [wV 20,qV 21 4 3,qI 22 4 [qx,qx,wo,.nils] 1 [wt 0 4 21],wx 23 [qx,wo,.nils,.nils,.nils] [(0,1,wJ),wG 1 20,wG 2 22],qU 5 4 23])⟩
theorem jz:aw Tryz.prog bZ=some eV:=by kernel_rfl
def im:FK:=⟨14,[xO 2 4],x7 [we 2 [qx,qx,wo,.nils]] [wj 3,wj 5,wb 6 5,xh 7 6,xU 9 1 xu 6 [xj 0 16,xj 1 16,xj 2 16,xj 3 8,xj 4 17,(5,1,qQ)],qu 8 7,xV 4 (xE 3 2),qO 7 8,ym 10 8 9,wx 11 [qx,qx,wo,.nils] [(0,1,wJ),wG 1 10],qI 12 4 [qx,qx,wo,.nils] 2 [wt 0 4 4,wt 4 4 11],wx 13 [qx,qx,wo,.nils] [xj 0 7,wG 3 12],qU 4 2 13]⟩
theorem nY:aw Tryz.prog cK=some im:=by kernel_rfl
def en:AK:=qY (wD 4 wY) [wj 9,wj 10,wb 11 10,xh 12 11,qu 13 12,xT 14 5 [xj 0 2,xj 1 3,(2,1,wJ),(3,1,qQ),xj 4 5],ym 15 13 14,wx 16 [qx,qx,wo,.nils] [(0,1,wJ),wG 1 15],wP 17 bZ 9 16,we 5 [qx,wo,.nils,.nils,.nils],qU 5 5 17] (qY [xK 18 5,qu 19 18,wx 20 [qx,qx,wo,.nils] [xj 0 2,wG 2 19],we 6 [qx,qx,wo,.nils],qU 4 6 20] [wj 21,xA 22,xl 23 22 1,wP 24 aO 21 23,qf 7 24] (qe [xK 25 5,qu 26 25,qV 27 4 6,wx 28 [qx,qx,wo,.nils] [(0,1,wJ),(1,1,wJ)],qI 29 4 [qx,qx,wo,.nils] 2 [wt 0 4 27,wt 4 4 28],wx 30 [qx,qx,wo,.nils] [xj 0 4,wG 3 29],qI 31 4 [qx,qx,wo,.nils] 1 [wt 0 4 30],wx 32 [qx,wo,.nils,.nils,.nils] [xj 0 2,wG 1 26,wG 2 31],we 8 [qx,wo,.nils,.nils,.nils],qU 5 8 32] (.cut (.reg [wj 33,wj 34,wb 35 34,qp 36 4 35,qu 37 36,xl 38 37 2,wb 39 33,qp 40 4 39,xM 40 38]) (qH [xW 44,qV 41 5 5,qV 42 4 6,xU 43 4 [qx,qx,wo,.nils] 1 [wt 0 4 42],qV 45 5 8,xU 46 5 [qx,wo,.nils,.nils,.nils] 1 [wt 0 5 45],wO 47 5 96 44 46,qA (some 5) 5 41,qA (some 4) 6 42,wx 48 [qx,wo,.nils,.nils,.nils] [xj 0 6,wG 2 43,wG 3 47],qI 49 5 [qx,wo,.nils,.nils,.nils] 2 [wt 0 5 41,wt 5 5 48],qf 4 49]))))
def eH:FK:=⟨50,[xz],(AK.whole en)⟩
theorem nq:aw Tryz.prog dQ=some eH:=by kernel_rfl
def iC:FK:=⟨128,[xz],qY (wD 4 wY) [wj 7,wj 8,wb 9 8,qp 10 4 9,qu 11 10,xl 12 11 1,wb 13 7,qp 14 4 13,xM 14 12] (qe [wj 15,wb 16 15,xh 17 16,qu 18 17,wh 19 (xE 18 13),qf 5 19] (qZ 0 (qe [wV 21,qD 22 .lss 21 3,qf 23 22,xc 24 23 0,qL 25 23 (qz 24),xp 26 23 2 25,xb 27 23 26,qL 28 23 (qT 27),xq 29 23 .gtr 28 qQ,ya 30 23 29,qf 20 30] (qt 20 (qH [wj 31,wb 32 31,xh 33 32,wj 35,wb 36 35,xr 37 36,wj 40,qu 34 33,qu 38 37,wP 39 bx 34 38,xV 41 (xE 40 3),qI 42 4 [qx,qx,wo,.nils] 1 [wt 0 4 41],wx 43 [qx,wo,.nils,.nils,.nils] [xj 0 2,wG 1 39,wG 2 42],qI 44 5 [qx,wo,.nils,.nils,.nils] 1 [wt 0 5 43],qf 4 44]) (qe (xF (wV 46) (qD 47 .lss 46 5) 45 47) (qt 45 (qH [wj 48,wj 49,xV 50 (xE 49 3),wP 51 bZ 48 50,qI 52 5 [qx,wo,.nils,.nils,.nils] 1 [wt 0 5 51],qf 4 52]) (qe [wV 54,qD 55 .lss 54 7,qf 56 55,xa 57 56 1,yc 58 56 .lss 57 (qh 2),xY 59 56 58,qf 53 59] (qt 53 (qH [wj 60,xV 61 (xE 60 3),qI 62 4 [qx,qx,wo,.nils] 1 [wt 0 4 61],wx 63 [qx,wo,.nils,.nils,.nils] [xj 0 3,wG 2 62],qI 64 5 [qx,wo,.nils,.nils,.nils] 1 [wt 0 5 63],qf 4 64]) (qe (xF (wV 66) (wQ 67 66 7) 65 67) (qt 65 (qH [wj 68,xy 69 cK 68,wj 70,xV 71 (xE 70 2),qI 72 4 [qx,qx,wo,.nils] 2 [wt 0 4 69,wt 4 4 71],wx 73 [qx,wo,.nils,.nils,.nils] [xj 0 4,wG 2 72],qI 74 5 [qx,wo,.nils,.nils,.nils] 1 [wt 0 5 73],qf 4 74]) (qe (xF (wV 76) (wQ 77 76 8) 75 77) (qt 75 (qH [wj 78,xy 79 cK 78,qI 80 4 [qx,qx,wo,.nils] 1 [wt 0 4 79],wx 81 [qx,qx,wo,.nils] [xj 0 12,wG 3 80],qI 82 4 [qx,qx,wo,.nils] 1 [wt 0 4 81],wx 83 [qx,wo,.nils,.nils,.nils] [xj 0 3,wG 2 82],qI 84 5 [qx,wo,.nils,.nils,.nils] 1 [wt 0 5 83],qf 4 84]) (qe (xF (wV 86) (qD 87 .lss 86 11) 85 87) (qt 85 (xP [wj 88,xV 89 (xE 88 3),qI 90 4 [qx,qx,wo,.nils] 1 [wt 0 4 89],wj 91,xA 92,xl 93 92 1,wP 94 aO 91 93,wx 95 [qx,wo,.nils,.nils,.nils] [xj 0 5,wG 2 90,wG 3 94],we 6 [qx,wo,.nils,.nils,.nils],qU 5 6 95] [wj 96,wb 97 96,xh 98 97,qu 99 98,wh 100 (xE 99 2),wQ 101 100 0] (ye 101 [wj 102,xA 103,xl 104 103 1,wP 105 aO 102 104,qp 106 4 6,xM 106 105]) (xF (qV 107 5 6) (qI 108 5 [qx,wo,.nils,.nils,.nils] 1 [wt 0 5 107]) 4 108)) (qe [wV 110,wQ 111 110 11,qf 112 111,xc 113 112 0,qL 114 112 (qz 113),xp 115 112 0 114,xb 116 112 115,qL 117 112 (xJ (xE 116 3)),xq 118 112 .eql 117 qQ,ya 119 112 118,qf 109 119] (wB 109 [wj 120,xV 121 (xE 120 2),qI 122 4 [qx,qx,wo,.nils] 1 [wt 0 4 121],wx 123 [qx,wo,.nils,.nils,.nils] [xj 0 7,wG 2 122],qI 124 5 [qx,wo,.nils,.nils,.nils] 1 [wt 0 5 123],qf 4 124])))))))))))))) (qH [wj 125,xA 126,wP 127 dQ 125 126,qf 4 127])))⟩
theorem nC:aw Tryz.prog ed=some iC:=by kernel_rfl
def gz:FK:=⟨40,[xz],qY (wD 4 wY) [wj 8,wb 9 8,xr 10 9,qu 11 10,qf 5 11] (xN (qI 12 5 [qx,wo,.nils,.nils,.nils] 0 []) 6 12 (qC [wj 13,wb 14 13,xh 15 14,qu 16 15,xT 17 4 [xj 0 2,xj 1 3,(2,1,wJ),xj 3 4],ym 18 16 17,qf 7 18] (xG 0 [xW 19,x9 20 19 0,qf 21 20,xc 22 21 0,qL 23 21 (qz 22),xp 24 21 4 23,xb 25 21 24,xq 26 21 .gtr 25 qQ,ya 27 21 26] 27 0 1 (.reg [xg 30,wj 31,xA 32,wP 33 ed 31 32,wO 34 5 96 30 33,qf 6 34]) (xW 28) (xl 29 28 1) 7 29) (x7 [wj 35,wV 36,wb 37 35,xr 38 37,xM 38 36] (xo (xg 39) 4 39))))⟩
theorem mK:aw Tryz.prog aO=some gz:=by kernel_rfl
def fI:AK:=qY [yl 6 wo .nils] [wj 8,qI 9 1 [wo] 3 [(0,1,yq [97]),(1,1,yq [98]),(2,1,yq [99])],qf 10 2,qb 11 (.slS 1 (.t 9) none (some (.t 10))),wb 12 8,xr 13 12,xM 13 11] (qe [wj 14,qf 15 2,xl 16 15 1,wb 17 14,qp 18 3 17,xM 18 16] (.cut (.reg [xA 19,qI 20 1 [wo] 0 [],wj 21,wb 22 21,xr 23 22,qu 24 23,wO 25 1 16 20 24,wx 26 (yk wo .nils) [xQ 19,wG 1 25],yl 7 wo .nils,qU 3 7 26]) (xP [wj 27,qn 28 aO (xE 27 3),xr 29 7,xM 29 28] [wj 30,wb 31 30,qp 32 4 31,qu 33 32,x9 34 33 0,qf 35 34,xc 36 35 0,qL 37 35 (qz 36),xp 38 35 0 37,xb 39 35 38,qL 40 35 (xJ (xE 39 4)),xq 41 35 .gtr 40 qQ,ya 42 35 41] (qW 42 (qe [wj 43,wj 44,wb 45 44,qp 46 4 45,qu 47 46,xl 48 47 1,wb 49 43,qp 50 4 49,xM 50 48] (.reg [xr 51 7,wj 53,qu 52 51,xV 54 (xE 53 2),qO 51 52,xU 55 4 [qx,qx,wo,.nils] 1 [wt 0 4 54],wx 56 [qx,wo,.nils,.nils,.nils] [xj 0 7,wG 2 55],xU 57 5 [qx,wo,.nils,.nils,.nils] 1 [wt 0 5 56],wO 58 5 96 52 57,xr 59 7,xM 59 58]))) [qV 60 3 7,qU 3 6 60])))
def fJ:FK:=⟨61,[xO 6 3],(AK.whole fI)⟩
theorem pR:aw Tryz.prog dz=some fJ:=by kernel_rfl
def kO:FK:=⟨18,[xz],xP (wZ 4) (wZ 5) (xH 0 [wV 6,wj 7,qb 8 (.len true (.t 7)),wH 9 6 8] 9 0 1 (qe [wj 12,wV 13,qb 14 (.idxStr (.t 12) (.t 13)),xA 15,wn 16 .eql 14 15] (wB 16 (xo (wV 17) 4 17))) (wV 10) 11 10 1 5 11) (wD 4 (qh (-1)))⟩
theorem rz:aw Tryz.prog gk=some kO:=by kernel_rfl
def kJ:FK:=⟨28,[x8],qe (wZ 2) (qZ 0 (qe [wj 4,qv 5 .geq 4 (.c (qd .u8 97)),wV 6,xc 7 6 0,xq 8 6 .leq 7 (.c (qd .u8 122)),ya 9 6 8,qf 3 9] (qt 3 (qH (wD 2 wJ)) (qe [wj 11,qv 12 .geq 11 (.c (qd .u8 48)),qf 13 12,xc 14 13 0,xq 15 13 .leq 14 (.c (qd .u8 57)),ya 16 13 15,qf 10 16] (qt 10 (qH (wD 2 (qh 2))) (qe [wj 18,qn 19 gk [yq [40,41,123,125,59,44,43,45,42,47,37,60,61,38,33,64],.t 18],qD 20 .geq 19 0,qf 17 20] (qt 17 (qH (wD 2 (qh 3))) (qe [wj 22,qv 23 .eql 22 (.c (qd .u8 32)),qf 24 23,xa 25 24 0,yc 26 24 .eql 25 (.c (qd .u8 10)),xY 27 24 26,qf 21 27] (wU 21 2 (qh 4))))))))) (qH (wZ 2)))⟩
theorem sE:aw Tryz.prog gy=some kJ:=by kernel_rfl
def nt:FK:=⟨21,[xz],xP (wD 4 qX) (wZ 5) (xH 0 [wV 6,wj 7,qb 8 (.len true (.t 7)),wH 9 6 8] 9 0 1 (qe [wj 12,wV 13,qb 14 (.idxStr (.t 12) (.t 13)),xy 15 gy 14,xA 16,wn 17 .neq 15 16] (yb 17 4)) (wV 10) 11 10 1 5 11) [wj 18,qb 19 (.len true (.t 18)),x9 20 19 0,qf 4 20]⟩
theorem vJ:aw Tryz.prog jG=some nt:=by kernel_rfl
def ke:FK:=⟨2,[.t 0],x7 (wD 0 wY) (xo (qI 1 1 [wo] 9 [(0,1,yq [102,110]),(1,1,yq [108,101,116]),(2,1,yq [115,97,121]),(3,1,yq [112,117,116]),(4,1,yq [105,102]),(5,1,yq [101,108,115,101]),(6,1,yq [108,111,111,112]),(7,1,yq [98,97,99,107]),(8,1,yq [100,111])]) 0 1)⟩
theorem pT:aw Tryz.prog dy=some ke:=by kernel_rfl
def nr:FK:=⟨18,[x8],qY (wD 2 qX) [qn 5 dy [],wV 3] (wL (wZ 4) (xH 0 [xI 6,yp 7,wd 8 7,wH 9 6 8] 9 0 1 (qe [yp 12,xI 13,yn 14 12 13,qu 15 14,wj 16,qb 17 (.bins .eql (.t 15) (.t 16))] (wU 17 2 wI)) (xI 10) 11 10 1 4 11) (wD 2 qX))⟩
theorem vf:aw Tryz.prog jU=some nr:=by kernel_rfl
def ma:FK:=⟨15,[x8],x7 (wD 2 qX) [wj 3,qn 4 jG (wM 3 wJ),xI 5,xc 6 5 0,qL 7 5 (.len true (.t 6)),xq 8 5 .leq 7 (qh 4),ya 9 5 8,qf 10 9,xc 11 10 0,qL 12 10 (.call jU (xx 11)),qL 13 10 (wA 12),ya 14 10 13,qf 2 14]⟩
theorem tT:aw Tryz.prog bG=some ma:=by kernel_rfl
def iU:FK:=⟨5,[x8],xP (wZ 2) [wj 3,wQ 4 3 4] (wU 4 2 (qh 2)) (wD 2 wJ)⟩
theorem tX:aw Tryz.prog fm=some iU:=by kernel_rfl
def bV:FK:=⟨13,[x8,.t 3],xP [qc 2 qQ,qc 3 qQ] [wj 4] (.blk 0 (qC [wQ 6 4 1,xg 5] (qt 5 .skip (.reg (xo (wQ 7 4 2) 5 7))) (qt 5 (qH [qc 2 qQ,qc 3 qQ]) (qC (xo (wQ 9 4 11) 8 9) (qt 8 .skip (.reg (xo (wQ 10 4 12) 8 10))) (qt 8 (qH [qc 2 wJ,qc 3 wJ]) (yj 12 4 13 11 12 (wB 11 [qc 2 qQ,qc 3 (qh 3)]))))))) [qc 2 (qh 2),qc 3 (qh 2)]⟩
theorem tW:aw Tryz.prog fA=some bV:=by kernel_rfl
def fv:FK:=⟨86,[xz],qY [wT 2 4 0,qc 4 qX] [xh 10 2,qu 11 10,xy 12 fA 11,qf 9 12,qb 13 (.ext 0 (.t 9)),qb 14 (.ext 1 (.t 9)),qf 5 13,qf 6 14] (qC [xA 15,qD 16 .lss 15 1,qf 17 16,xB 18 17 0 2,xk 19 17 18,qK 20 17 (xf [.t 19,wJ,qh 13]),qK 21 17 (wA 20),xY 22 17 21,qf 23 22,xB 24 23 3 2,xk 25 23 24,qK 26 23 (qT 25),xa 27 23 5,xa 28 23 6,qK 29 23 (xf [.t 26,.t 27,.t 28]),qK 30 23 (wA 29),xY 31 23 30] (yb 31 4) (qe [xh 32 2,qu 33 32,wQ 34 33 2,qf 35 34,xB 36 35 0 2,xk 37 35 36,yc 38 35 .eql 37 (qh 13),xY 39 35 38,qf 7 39] (qC [xW 40,xr 41 2,qu 42 41,xy 43 bG 42,qb 44 (.beq true (.t 40) (.t 43)),qf 45 44,xa 46 45 7,qK 47 45 (wA 46),xa 48 45 47,xp 49 48 2 2,xb 50 48 49,qL 51 48 (.bins .neq (.t 50) (.c wo)),qK 52 45 (qP 48 (.t 51) qX),xY 53 45 52,qf 54 53,xB 55 54 1 2,xk 56 54 55,qK 57 54 (xf [.t 56,qQ,qh 255]),qK 58 54 (wA 57),xY 59 54 58,qf 60 59,xB 61 60 0 2,xk 62 60 61,yc 63 60 .neq 62 wJ,xa 64 60 63,xp 65 64 1 2,xb 66 64 65,xq 67 64 .neq 66 qQ,qK 68 60 (qP 64 (.t 67) qX),xY 69 60 68] (yb 69 4) (wL (wZ 8) (xH 0 [qf 70 8,qp 71 3 2,qu 72 71,wd 73 72,wH 74 70 73] 74 0 1 (qe [qp 77 3 2,qu 78 77,qf 79 8,wl 80 4 78 79,qV 81 4 80,xA 82,xl 83 82 1,wP 84 dm 81 83,xL 85 84] (yb 85 4)) (qf 75 8) 76 75 1 8 76) (wD 4 wI)))))⟩
theorem lY:aw Tryz.prog dm=some fv:=by kernel_rfl
def lh:FK:=⟨21,[x8],qY [wT 1 4 0,qc 2 qQ] (wD 3 wJ) (wL (wZ 4) (xH 0 [xI 5,qp 6 3 1,qu 7 6,wd 8 7,wH 9 5 8] 9 0 1 (.reg [yp 12,qp 13 3 1,qu 14 13,xI 15,wl 16 4 14 15,qV 17 4 16,xy 18 eG 17,wn 19 .add 12 18,qf 3 19]) (xI 10) 11 10 1 4 11) (xo (yp 20) 2 20))⟩
theorem tm:aw Tryz.prog eG=some lh:=by kernel_rfl
def jE:FK:=⟨10,[x8],x7 [wT 1 4 0,qc 2 qX] [qV 3 4 1,qn 4 dm (xE 3 6),xI 5,qL 6 5 (qj (some 4) 1),qL 7 5 (.call eG (xx 6)),xq 8 5 .leq 7 (qh 30),ya 9 5 8,qf 2 9]⟩
theorem oZ:aw Tryz.prog da=some jE:=by kernel_rfl
def fj:FK:=⟨108,[xz],qe [wT 2 5 0,qc 4 qX] (qC [xA 7,qD 8 .lss 7 1,qf 9 8,xB 10 9 0 2,xk 11 9 10,qK 12 9 (xf [.t 11,wJ,qh 8]),qK 13 9 (wA 12),xY 14 9 13,qf 15 14,xB 16 15 2 2,xB 19 15 0 2,xk 17 15 16,qK 18 15 (qT 17),xk 20 15 19,qK 21 15 (.qcall fm (xx 20)),yc 22 15 .neq 18 (.t 21),xY 23 15 22] (yb 23 4) (qe [xh 24 2,qu 25 24,wQ 26 25 1,qf 27 26,xB 28 27 0 2,xk 29 27 28,yc 30 27 .eql 29 (qh 2),xY 31 27 30,qf 5 31] (qC [wV 32,xK 33 2,qu 34 33,xy 35 bG 34,qb 36 (.beq true (.t 32) (.t 35)),qf 37 36,xa 38 37 5,qK 39 37 (wA 38),xa 40 37 39,xp 41 40 1 2,xb 42 40 41,qL 43 40 (.bins .neq (.t 42) (.c wo)),qK 44 37 (qP 40 (.t 43) qX),xY 45 37 44] (yb 45 4) (qC (wZ 6) (xH 0 [xg 46,xr 47 2,qu 48 47,wd 49 48,wH 50 46 49] 50 0 1 (qe [xr 53 2,qu 54 53,xg 55,wl 56 4 54 55,qV 57 4 56,xy 58 da 57,xL 59 58] (yb 59 4)) (xg 51) 52 51 1 6 52) (qC [xh 60 2,qu 61 60,wQ 62 61 8,qf 63 62,xp 64 63 2 2,xb 65 63 64,qL 66 63 (qG 4 65 qQ),xp 67 63 0 66,xb 68 63 67,xq 69 63 .neq 68 (qh 13),ya 70 63 69] (yb 70 4) (wL [qp 71 4 2,qu 72 71,wd 73 72,x9 74 73 0,qf 75 74,xp 76 75 0 2,xb 77 75 76,xq 78 75 .neq 77 (qh 5),ya 79 75 78,qf 80 79,xB 81 80 3 2,xk 82 80 81,qK 83 80 (qT 82),yc 84 80 .gtr 83 qQ,xa 85 80 84,xp 86 85 0 2,xb 87 85 86,xq 88 85 .neq 87 (qh 5),qK 89 80 (qP 85 (.t 88) qX),xa 90 80 89,xp 91 90 0 2,xb 92 90 91,xq 93 90 .neq 92 (qh 6),qK 94 80 (qP 90 (.t 93) qX),xY 95 80 94] (yb 95 4) [qp 96 3 2,qu 97 96,xA 98,xl 99 98 1,wP 100 bu 97 99,qf 101 100,xp 102 101 4 2,xb 103 101 102,xc 104 101 1,xq 105 101 .sub 104 wJ,qL 106 101 (.call bu (wN 103 105)),ya 107 101 106,qf 4 107]))))))⟩
theorem mf:aw Tryz.prog fp=some fj:=by kernel_rfl
def lq:FK:=⟨19,[xz],xP (wD 4 qX) (wZ 5) (xH 0 [wV 6,wj 7,wd 8 7,wH 9 6 8] 9 0 1 (qe [wj 12,wV 13,wl 14 5 12 13,qV 15 5 14,xA 16,wP 17 fp 15 16,xL 18 17] (yb 18 4)) (wV 10) 11 10 1 5 11) (wD 4 wI)⟩
theorem sa:aw Tryz.prog bu=some lq:=by kernel_rfl
def py:FK:=⟨32,[x8],xP [wT 1 3 0,qc 2 qX] (wZ 3) (xH 0 [yp 4,xK 5 1,qu 6 5,wd 7 6,wH 8 4 7] 8 0 1 (qe [xK 11 1,qu 12 11,yp 13,yn 14 12 13,qu 15 14,xy 16 bG 15,xL 17 16] (yb 17 2)) (yp 9) 10 9 1 3 10) [xh 18 1,qu 19 18,xy 20 bG 19,qf 21 20,xp 22 21 1 1,xb 23 21 22,qL 24 21 (qT 23),xq 25 21 .leq 24 (qh 3),ya 26 21 25,qf 27 26,xp 28 27 2 1,xb 29 27 28,qL 30 27 (.call bu (xE 29 4)),ya 31 27 30,qf 2 31]⟩
theorem yZ:aw Tryz.prog kF=some py:=by kernel_rfl
def gv:FK:=⟨29,[x8],qY (wZ 2) [wj 5,wd 6 5,xg 3] (wL (wZ 4) (xH 0 [xI 7,wj 8,wd 9 8,wH 10 7 9] 10 0 1 (.reg [yp 13,wj 14,xI 15,wl 16 5 14 15,qp 17 3 16,wj 21,xI 22,wl 23 5 21 22,qp 24 4 23,qu 18 17,qu 25 24,xy 19 cU 18,qO 24 25,wn 20 .add 13 19,xy 26 cU 25,wn 27 .add 20 26,qf 3 27]) (xI 11) 12 11 1 4 12) (xo (yp 28) 2 28))⟩
theorem lb:aw Tryz.prog cU=some gv:=by kernel_rfl
def oG:FK:=⟨22,[x8],qY [wT 1 1 0,qc 2 qQ] (wZ 3) (wL (wZ 4) (xH 0 [xI 5,xh 6 1,qu 7 6,wd 8 7,wH 9 5 8] 9 0 1 (.reg [yp 12,xh 13 1,qu 14 13,xI 15,wl 16 3 14 15,xr 17 16,qu 18 17,xy 19 cU 18,wn 20 .add 12 19,qf 3 20]) (xI 10) 11 10 1 4 11) (xo (yp 21) 2 21))⟩
theorem vG:aw Tryz.prog jN=some oG:=by kernel_rfl
def fR:FK:=⟨26,[x8],qe [wT 1 1 0,qc 2 qX] (qC [xh 4 1,qu 5 4,wd 6 5,xS 7 [.t 6,wJ,qh 4],xL 8 7] (yb 8 2) (wL (wZ 3) (xH 0 [yp 9,xh 10 1,qu 11 10,wd 12 11,wH 13 9 12] 13 0 1 (qe [xh 16 1,qu 17 16,yp 18,wl 19 3 17 18,qV 20 3 19,xy 21 kF 20,xL 22 21] (yb 22 2)) (yp 14) 15 14 1 3 15) [qV 23 1 1,xy 24 jN 23,qD 25 .leq 24 40,qf 2 25]))⟩
theorem lO:aw Tryz.prog dc=some fR:=by kernel_rfl
def lS:FK:=⟨69,[xO 2 1],qY [we 2 xX] [wj 8,wj 9,xT 10 4 [xj 0 14,xj 1 20,xj 2 8,xj 3 26],ym 11 9 10,wx 12 [.nilp,.nils,.nils,qx,qx] [xQ 8,wG 4 11],wT 13 5 12,qf 3 13] (qC [wj 14,xT 15 4 [(0,1,qQ),(1,1,wJ),(2,1,wJ),xj 3 2],ym 16 14 15,qf 4 16] (xG 0 [xI 17,x9 18 17 0] 18 0 1 (qe [qc 5 (.c .any),yp 21,xU 22 1 [wo] 3 [(0,1,yq [102]),(1,1,yq [103]),(2,1,yq [104])],yp 23,wb 24 23,xK 25 24,wj 30,qu 26 25,wd 27 26,yn 28 22 27,qu 29 28,wh 31 (xE 30 3),qO 25 26,qO 28 29,qn 32 dz [.t 21,.t 29,.t 31],yl 5 wo .nils,qU 3 5 32] (.reg [yp 33,yp 34,wb 35 34,xK 36 35,qu 37 36,qV 38 3 5,xU 39 3 (yk wo .nils) 1 [wt 0 3 38],wO 40 3 64 37 39,wb 41 33,xK 42 41,xM 42 40])) (xI 19) (xl 20 19 1) 4 20) (qY [yp 43,wj 44,xT 45 4 [(0,1,qQ),(1,1,wJ),xj 2 2,(3,1,wJ)],ym 46 44 45,qn 47 dz [.t 43,yq [109],.t 46],yl 6 wo .nils,qU 3 6 47] [qc 7 (.c .any),yp 49,wb 50 49,xK 51 50,qu 52 51,qV 54 3 6,xU 55 3 (yk wo .nils) 1 [wt 0 3 54],qI 48 3 (yk wo .nils) 0 [],qO 51 52,qA (some 3) 6 54,wO 53 3 64 48 52,qA (some 3) 6 54,wO 56 3 64 53 55,wx 57 xX [xQ 56],we 7 xX,xM 7 57] (wL [qV 58 1 7,xy 59 dc 58,xL 60 59] (wB 60 [wx 61 [qx,qx,wo,.nils] [(0,1,wJ),(1,1,wJ)],qI 62 4 [qx,qx,wo,.nils] 1 [wt 0 4 61],wx 63 [qx,wo,.nils,.nils,.nils] [xj 0 3,wG 2 62],qI 64 5 [qx,wo,.nils,.nils,.nils] 1 [wt 0 5 63],wx 65 (yk wo .nils) [(0,1,yq [109]),wG 2 64],qI 66 3 (yk wo .nils) 1 [wt 0 3 65],wx 67 xX [xQ 66],xM 2 67]) [qV 68 1 7,xM 2 68])))⟩
theorem tU:aw Tryz.prog fw=some lS:=by kernel_rfl
def lm:FK:=⟨4,[x8],xP (wZ 2) [wj 3] (wU 3 2 wJ) (wZ 2)⟩
theorem sD:aw Tryz.prog gV=some lm:=by kernel_rfl
def iI:FK:=⟨35,[x8],qY (wZ 2) (wZ 3) (wL (wZ 4) (xH 0 [xI 5,wj 6,wd 7 6,wH 8 5 7] 8 0 1 (.reg [yp 11,wj 12,xI 13,wl 14 5 12 13,xh 15 14,wj 20,xI 21,wl 22 5 20 21,qp 23 3 22,wj 27,xI 28,wl 29 5 27 28,qp 30 4 29,qu 16 15,wQ 17 16 1,qu 24 23,qu 31 30,xy 18 gV 17,qO 23 24,qO 30 31,wn 19 .add 11 18,xy 25 du 24,qO 30 31,wn 26 .add 19 25,xy 32 du 31,wn 33 .add 26 32,qf 3 33]) (xI 9) 10 9 1 4 10) (xo (yp 34) 2 34))⟩
theorem lZ:aw Tryz.prog du=some iI:=by kernel_rfl
def dA:FK:=⟨25,[x8],qY (wZ 2) [wj 3,wj 4,wb 5 4,xK 6 5,xr 7 6,qu 8 7,qI 9 2 [qx,.nils] 0 [],qI 10 4 [qx,qx,.nils,qx] 0 [],xT 11 0 [],wx 12 [.nils,.nils,qx,qx,.nils] [xQ 9,wG 1 10,wG 4 11],qI 13 5 [.nils,.nils,qx,qx,.nils] 1 [wt 0 5 12],wO 14 5 88 8 13,wb 15 3,xK 16 15,xr 17 16,xM 17 14] (qH [wj 18,wb 19 18,xK 20 19,xr 21 20,qu 22 21,wd 23 22,xl 24 23 1,qf 2 24])⟩
theorem gu:aw Tryz.prog bN=some dA:=by kernel_rfl
def ik:FK:=⟨37,[],qY [wj 11,wb 12 11,xK 13 12,xr 14 13,wj 16,wb 17 16,qp 18 4 17,qu 15 14,qu 19 18,wl 20 5 15 19,qf 10 20] [qf 21 10,xA 22,wb 23 21,xr 24 23,xM 24 22] (qY [qf 25 10,qf 26 2,wb 27 25,qp 28 3 27,xM 28 26] [qf 29 10,yp 30,wb 31 29,qp 32 4 31,xM 32 30] (.reg [wj 33,xI 34,wb 35 33,qp 36 4 35,xM 36 34]))⟩
theorem og:aw Tryz.prog bk=some ik:=by kernel_rfl
def gJ:FK:=⟨19,[x8],qY (wZ 2) [wj 3,wj 4,wb 5 4,xK 6 5,xK 7 6,qu 8 7,wF 9 8 1,wb 10 3,xK 11 10,xK 12 11,xM 12 9] (qH [wj 13,wb 14 13,xK 15 14,xK 16 15,qu 17 16,xl 18 17 1,qf 2 18])⟩
theorem mW:aw Tryz.prog bp=some gJ:=by kernel_rfl
def fe:FK:=⟨37,[.t 10],qY (wZ 10) [wj 12,wb 13 12,xK 14 13,xr 15 14,wj 17,wb 18 17,qp 19 4 18,qu 16 15,qu 20 19,wl 21 5 16 20,qf 11 21] (x7 [qf 22 11,qf 23 11,wb 24 23,xK 25 24,qu 26 25,xA 27,qf 28 2,xI 29,yp 30,wx 31 [qx,qx,.nils,qx] [xQ 27,wG 1 28,wG 2 29,wG 3 30],qI 32 4 [qx,qx,.nils,qx] 1 [wt 0 4 31],wO 33 4 48 26 32,wb 34 22,xK 35 34,xM 35 33] (xo (qf 36 2) 10 36))⟩
theorem oQ:aw Tryz.prog bJ=some fe:=by kernel_rfl
def eR:FK:=⟨34,[xz],xP (wZ 4) [wj 6,wb 7 6,qp 8 5 7,qu 9 8,wd 10 9,xl 11 10 1,qf 5 11] (xG 0 [wV 12,qD 13 .geq 12 0] 13 0 1 (qe [wj 16,wb 17 16,qp 18 5 17,qu 19 18,wV 20,wl 21 3 19 20,xh 22 21,qu 23 22,xA 24,qb 25 (.bins .eql (.t 23) (.t 24))] (wB 25 [wj 26,wb 27 26,qp 28 5 27,qu 29 28,wV 30,wl 31 3 29 30,xK 32 31,qu 33 32,qf 4 33])) (wV 14) (xl 15 14 1) 5 15) (wD 4 (qh (-1)))⟩
theorem pp:aw Tryz.prog cW=some eR:=by kernel_rfl
def jm:FK:=⟨56,[xz],qY [wT 3 4 1,qc 4 qQ] [wj 11,qp 12 3 3,qu 13 12,qb 14 (qG 4 13 qQ),qV 15 4 14,wP 16 aV 11 15,qf 5 16] (qY [wj 17,wj 18,xR 19 18,xT 20 0 [],xd 21 [.t 17,wJ,.t 19,qQ,.t 20],qf 6 21] (xF (wj 22) (xt 23 (xx 22)) 7 23) (qY (xF (wj 24) (xt 25 (xx 24)) 8 25) [wj 26,wV 27,xW 28,qf 29 8,xT 30 2 [xQ 28,wG 1 29],xW 31,xC 32 [.t 26,qh 2,.t 27,.t 30,.t 31]] (qY [wj 33,qp 34 3 3,qu 35 34,qb 36 (qG 4 35 wJ),qV 37 4 36,wP 38 aV 33 37,qf 9 38] [wj 39,wj 40,xR 41 40,qf 42 9,xT 43 1 [xQ 42],xd 44 [.t 39,qh 10,.t 41,qQ,.t 43],qf 10 44] (qY [wj 45,xg 46,qf 47 10,xT 48 1 [xQ 47],xd 49 [.t 45,qh 10,.t 46,qQ,.t 48]] [wj 50,qf 51 8,xT 52 1 [xQ 51],qf 53 8,xC 54 [.t 50,wJ,qQ,.t 52,.t 53]] (qH (xo (xg 55) 4 55))))))⟩
theorem px:aw Tryz.prog eU=some jm:=by kernel_rfl
def pA:FK:=⟨22,[xz],xP [wT 2 1 0,qc 4 qQ] (wZ 5) (xH 0 [wV 6,xh 7 2,qu 8 7,wd 9 8,wH 10 6 9] 10 0 1 (qe [xh 13 2,qu 14 13,wV 15,wl 16 3 14 15,xh 17 16,qu 18 17,xA 19,qb 20 (.bins .eql (.t 18) (.t 19))] (wB 20 (xo (wV 21) 4 21))) (wV 11) 12 11 1 5 12) (wD 4 (qh (-1)))⟩
theorem zR:aw Tryz.prog la=some pA:=by kernel_rfl
def bU:FK:=⟨84,[xz],qe [wT 3 4 1,qc 4 qQ] (qC [xh 7 3,qu 8 7] (.blk 0 (yj 10 8 1 9 10 (qt 9 (qH [wj 11,wj 12,xK 14 3,xU 16 1 xu 0 [],qu 15 14,xR 13 12,qO 14 15,xd 17 [.t 11,wJ,.t 13,.t 15,.t 16],qf 4 17]) (yj 19 8 2 18 19 (qt 18 (qH [wj 20,xr 21 3,qu 22 21,wP 23 cW 20 22,qf 4 23]) (yj 25 8 10 24 25 (wB 24 [wj 26,qV 27 4 3,wP 28 eU 26 27,qf 4 28]))))))) (xN (xT 29 0 []) 5 29 (qC (wZ 6) (xH 1 [xg 30,qp 31 3 3,qu 32 31,wd 33 32,wH 34 30 33] 34 1 2 (.reg [wV 37,wj 38,qp 39 3 3,qu 40 39,xg 41,wl 42 4 40 41,qV 43 4 42,wP 44 aV 38 43,xT 45 1 [xQ 44],wO 46 1 8 37 45,qf 5 46]) (xg 35) 36 35 1 6 36) (wL [xh 47 3,qu 48 47] (.blk 3 (yj 50 48 11 49 50 (qt 49 (qH [wj 51,wj 52,xR 53 52,wV 54,xd 55 [.t 51,qh 10,.t 53,qQ,.t 54],qf 4 55]) (yj 57 48 12 56 57 (qt 56 (qH [wj 58,wj 59,xR 60 59,wV 61,xd 62 [.t 58,qh 11,.t 60,qQ,.t 61],qf 4 62]) (yj 64 48 13 63 64 (wB 63 [wj 65,wj 66,wj 68,wb 69 68,xh 70 69,xr 72 3,wV 75,qV 71 1 70,qu 73 72,xR 67 66,qA (some 1) 70 71,qO 72 73,wP 74 la 71 73,xd 76 [.t 65,qh 14,.t 67,.t 74,.t 75],qf 4 76]))))))) [wj 77,xh 78 3,wj 80,wV 82,qu 79 78,xR 81 80,qO 78 79,xd 83 [.t 77,.t 79,.t 81,qQ,.t 82],qf 4 83]))))⟩
theorem oC:aw Tryz.prog aV=some bU:=by kernel_rfl
def iw:FK:=⟨41,[],qY [wT 3 5 1] (xF (wj 8) (xt 9 (xx 8)) 4 9) (qY (xF (wj 10) (xt 11 (xx 10)) 5 11) (xF (wj 12) (xt 13 (xx 12)) 6 13) (qY [wj 14,xI 15,xT 16 1 [xQ 15],xI 17,xC 18 [.t 14,wJ,qQ,.t 16,.t 17]] [wj 19,xr 20 3,qu 21 20,qb 22 (qG 4 21 qQ),qV 23 4 22,wP 24 aV 19 23,qf 7 24] (qY [wj 25,xW 26,wV 27,xg 28,xT 29 2 [xQ 27,wG 1 28],wV 30,xC 31 [.t 25,qh 2,.t 26,.t 29,.t 30]] [wj 32,qp 33 3 3,qu 34 33,wP 35 aY 32 34] (.reg [wj 36,xI 37,xT 38 1 [xQ 37],xg 39,xC 40 [.t 36,wJ,qQ,.t 38,.t 39]]))))⟩
theorem nw:aw Tryz.prog eD=some iw:=by kernel_rfl
def eA:FK:=⟨132,[],qe [wT 3 5 1] (qC [xh 9 3,qu 10 9,wQ 11 10 6] (wB 11 [wj 12,qV 13 5 3,wP 14 eD 12 13]) (xN (xT 15 0 []) 4 15 (qC (wZ 5) (xH 0 [wV 16,xr 17 3,qu 18 17,wd 19 18,wH 20 16 19] 20 0 1 (.reg [xI 23,wj 24,xr 25 3,qu 26 25,wV 27,wl 28 4 26 27,qV 29 4 28,wP 30 aV 24 29,xT 31 1 [xQ 30],wO 32 1 8 23 31,qf 4 32]) (wV 21) 22 21 1 5 22) (qe [xh 33 3,qu 34 33] (.blk 2 (yj 36 34 1 35 36 (qt 35 (qY [wj 37,wj 38,wb 39 38,qp 40 6 39,qu 41 40,xI 42,xd 43 [.t 37,qh 2,.t 41,qQ,.t 42]] [wj 44,wj 45,wb 46 45,qp 47 5 46,xK 49 3,wj 51,wb 52 51,qp 53 6 52,qu 48 47,qu 50 49,qu 54 53,wx 55 [wo,qx,qx] [xQ 50,wG 1 54,(2,1,qQ)],xU 56 3 [wo,qx,qx] 1 [wt 0 3 55],wO 57 3 32 48 56,wb 58 44,qp 59 5 58,xM 59 57] (.reg [wj 60,wj 61,wb 62 61,qp 63 6 62,qu 64 63,wF 65 64 1,wb 66 60,qp 67 6 66,xM 67 65])) (yj 69 34 2 68 69 (qt 68 (.reg [wj 70,wj 71,xK 72 3,qu 73 72,wP 74 cW 71 73,xI 75,xd 76 [.t 70,qh 2,.t 74,qQ,.t 75]]) (yj 78 34 3 77 78 (qt 77 (.reg [wj 79,xI 80,xd 81 [.t 79,qh 13,qh (-1),qQ,.t 80]]) (yj 83 34 4 82 83 (qt 82 (.reg [wj 84,xI 85,xd 86 [.t 84,qh 12,qh (-1),qQ,.t 85]]) (yj 88 34 7 87 88 (qt 87 (.reg [wj 89,xI 90,qb 91 (qG 1 90 qQ),xU 93 1 xu 0 [],wj 94,qu 92 91,xt 95 (xx 94),qO 91 92,xC 96 [.t 89,qh 3,.t 92,.t 93,.t 95]]) (yj 98 34 5 97 98 (qW 97 (qY (xF (wj 99) (xt 100 (xx 99)) 6 100) (xF (wj 101) (xt 102 (xx 101)) 7 102) (qY (xF (wj 103) (xt 104 (xx 103)) 8 104) [wj 105,xI 106,qb 107 (qG 1 106 qQ),qu 108 107,xg 109,xW 110,xT 111 2 [xQ 109,wG 1 110],xg 112,xC 113 [.t 105,qh 2,.t 108,.t 111,.t 112]] (qY [wj 114,qp 115 3 3,qu 116 115,wP 117 aY 114 116] [wj 118,qf 119 8,xT 120 1 [xQ 119],xW 121,xC 122 [.t 118,wJ,qQ,.t 120,.t 121]] (qe [wj 123,qp 124 4 3,qu 125 124,wP 126 aY 123 125] (.reg [wj 127,qf 128 8,xT 129 1 [xQ 128],qf 130 8,xC 131 [.t 127,wJ,qQ,.t 129,.t 130]]))))))))))))))))))))))⟩
theorem nH:aw Tryz.prog dS=some eA:=by kernel_rfl
def dG:FK:=⟨32,[],qe [wj 6,wb 7 6,qp 8 5 7,qu 9 8,wd 10 9,qf 4 10] (qC (wZ 5) (xH 0 [wV 11,xA 12,wd 13 12,wH 14 11 13] 14 0 1 (.reg [wj 17,xA 18,wV 19,wl 20 5 18 19,qV 21 5 20,wP 22 dS 17 21]) (wV 15) 16 15 1 5 16) (.reg [wj 23,wj 24,wb 25 24,qp 26 5 25,qu 27 26,xI 28,qb 29 (.slS 3 (.t 27) none (some (.t 28))),wb 30 23,qp 31 5 30,xM 31 29]))⟩
theorem mw:aw Tryz.prog aY=some dG:=by kernel_rfl
def pB:FK:=⟨80,[xO 4 3],qY [wT 2 1 0,yl 4 qx qx] [xh 9 2,qu 10 9,xA 11,wl 12 3 10 11,qV 13 3 12,yl 5 wo .nils,qU 3 5 13] (qY [qV 14 1 2,xK 15 5,qu 16 15,wd 17 16,wx 18 [.nils,qx,qx,.nils,qx,.nils,qx,.nils] [xQ 14,wG 6 17],wT 19 8 18,qf 6 19] [xg 20,xK 21 5,qu 22 21,wd 23 22,wb 24 20,xK 25 24,xh 26 25,xM 26 23] (qe [xg 27,xK 28 5,xr 31 5,qu 29 28,wd 30 29,qu 32 31,xy 33 du 32,qO 28 29,wn 34 .add 30 33,wb 35 27,xK 36 35,xK 37 36,xM 37 34] (qC (wZ 7) (xH 0 [xW 38,xK 39 5,qu 40 39,wd 41 40,wH 42 38 41] 42 0 1 (.reg [xg 45,xg 46,wb 47 46,qp 48 5 47,xK 50 5,xW 52,xW 55,qu 49 48,qu 51 50,yn 53 51 52,qu 54 53,wx 56 [wo,qx,qx] [xQ 54,wG 1 55,(2,1,qQ)],xU 57 3 [wo,qx,qx] 1 [wt 0 3 56],wO 58 3 32 49 57,wb 59 45,qp 60 5 59,xM 60 58]) (xW 43) 44 43 1 7 44) (qY [xg 61,xt 62 (xx 61)] [xg 63,xr 64 5,qu 65 64,wP 66 aY 63 65] (qY [xg 67,xg 68,xR 69 68,xT 70 0 [],xd 71 [.t 67,wJ,.t 69,qQ,.t 70],qf 8 71] [xg 72,qf 73 8,xT 74 0 [],xC 75 [.t 72,qh 3,.t 73,.t 74,qQ]] (qH [xg 76,wb 77 76,xK 78 77,qV 79 3 78,qU 3 4 79]))))))⟩
theorem zN:aw Tryz.prog il=some pB:=by kernel_rfl
def ml:FK:=⟨22,[xO 2 1],qY [wT 1 1 0,we 2 xX] [wx 5 xX [],we 3 xX,xM 3 5] (wL (wZ 4) (xH 0 [xI 6,xh 7 1,qu 8 7,wd 9 8,wH 10 6 9] 10 0 1 (.reg [xh 13 3,xI 16,qu 14 13,qV 15 1 1,wP 17 il 15 16,qO 13 14,qI 18 3 (yk qx qx) 1 [wt 0 3 17],qO 13 14,wO 19 3 40 14 18,xh 20 3,xM 20 19]) (xI 11) 12 11 1 4 12) [qV 21 1 3,xM 2 21])⟩
theorem tZ:aw Tryz.prog fk=some ml:=by kernel_rfl
def mi:FK:=⟨21,[xz],xP [wT 2 3 0,qc 4 qX] (wZ 5) (xH 0 [wV 6,xA 7,wd 8 7,wH 9 6 8] 9 0 1 (qe [xA 12,wV 13,yn 14 12 13,xK 16 2,qu 15 14,qu 17 16,xl 18 17 1,xS 19 [.t 15,qQ,.t 18],xL 20 19] (yb 20 4)) (wV 10) 11 10 1 5 11) (wD 4 wI)⟩
theorem ue:aw Tryz.prog fy=some mi:=by kernel_rfl
def nz:FK:=⟨88,[.t 6],qY [wT 3 1 0,wT 5 4 2,qc 6 qX] [xh 8 3,qu 9 8,xA 10,wl 11 3 9 10,qV 12 3 11,yl 7 qx qx,qU 3 7 12] (qC [xh 13 5,qu 14 13,xS 15 [.t 14,wJ,qh 14],xL 16 15,qf 17 16,qK 18 17 (qj (some 3) 7),xB 19 17 2 5,xk 20 17 19,qK 21 17 (.call fy (wN 18 20)),qK 22 17 (wA 21),xY 23 17 22] (yb 23 6) (qC [xh 24 5,xK 27 5,xK 29 7,qu 25 24,qu 28 27,qu 30 29,xl 31 30 1,xy 26 cT 25,qO 27 28,qO 29 30,xS 32 [.t 28,qQ,.t 31],qb 33 (.beq true (.t 26) (.t 32)),qf 34 33,xB 35 34 0 5,xk 36 34 35,qK 37 34 (.call cT (xx 36)),qK 38 34 (wA 37),xa 39 34 38,xp 40 39 1 5,xb 41 39 40,xq 42 39 .neq 41 (qh (-1)),qK 43 34 (qP 39 (.t 42) qX),xY 44 34 43] (yb 44 6) (wL [xh 45 5,qu 46 45,wQ 47 46 14] (wB 47 [qp 48 3 5,xA 50,xl 51 50 1,qu 49 48,xS 52 [.t 49,qQ,.t 51],qf 53 52,xp 54 53 2 5,xp 57 53 0 3,xp 59 53 3 5,xb 55 53 54,qL 56 53 (qT 55),xb 58 53 57,xb 60 53 59,qL 61 53 (wg 3 58 60),xp 62 53 0 61,xb 63 53 62,xq 64 53 .eql 56 (.t 63),ya 65 53 64,qf 6 65]) [xr 66 5,xh 69 5,qu 67 66,wd 68 67,qu 70 69,xy 71 ff 70,qO 66 67,wn 72 .eql 68 71,qf 73 72,xp 74 73 3 5,xb 75 73 74,qL 76 73 (xf [.t 75,qQ,qh 255]),ya 77 73 76,qf 78 77,xp 79 78 3 5,xb 80 78 79,xq 81 78 .eql 80 qQ,xc 82 78 81,xB 83 82 0 5,xk 84 82 83,yc 85 82 .eql 84 wJ,qL 86 78 (qP 82 wI (.t 85)),ya 87 78 86,qf 6 87])))⟩
theorem vq:aw Tryz.prog jH=some nz:=by kernel_rfl
def gT:AK:=qY [wT 3 1 0,qc 6 qX] [xh 14 3,qu 15 14,xA 16,wl 17 3 15 16,qV 18 3 17,yl 7 qx qx,qU 3 7 18] (qY [xr 19 7,qu 20 19,qf 21 2,wl 22 5 20 21,qV 23 5 22,we 8 [.nils,.nils,qx,qx,.nils],qU 5 8 23] (wD 9 wJ) (xD [xr 24 8,qu 25 24] (.blk 0 (yj 27 25 1 26 27 (qt 26 (qe [qp 28 3 8,qu 29 28,qD 30 .neq 29 0] (yb 30 6)) (yj 32 25 2 31 32 (qt 31 (.reg (wD 9 (qh 2))) (yj 34 25 3 33 34 (qt 33 (.reg (wZ 9)) (qH (wD 6 qX))))))))) (xD [qp 35 4 8,qu 36 35,wd 37 36,qf 38 9,wn 39 .neq 37 38,qf 40 39,xB 41 40 2 8,xk 42 40 41,yc 43 40 .neq 42 wJ,xa 44 40 43,xp 45 44 3 8,xb 46 44 45,xp 47 44 1 7,xb 48 44 47,xq 49 44 .sub 48 wJ,qL 50 44 (xf [.t 46,qQ,.t 49]),qL 51 44 (wA 50),qK 52 40 (qP 44 (.t 51) qX),xY 53 40 52] (yb 53 6) (xD (wZ 10) (xH 1 [qf 54 10,qp 55 4 8,qu 56 55,wd 57 56,wH 58 54 57] 58 1 2 (qe [qp 61 4 8,qf 63 10,xr 66 7,qu 62 61,yn 64 62 63,qu 65 64,qu 67 66,wd 68 67,xl 69 68 1,xS 70 [.t 65,wJ,.t 69],xL 71 70] (yb 71 6)) (qf 59 10) 60 59 1 10 60) (xD (wZ 11) (xH 3 [qf 72 11,xK 73 8,qu 74 73,wd 75 74,wH 76 72 75] 76 3 4 (qe [xA 80,xK 81 8,qf 83 11,qV 79 1 3,qu 82 81,wl 84 4 82 83,qV 85 4 84,qn 86 jH [.t 79,.t 80,.t 85],xL 87 86] (yb 87 6)) (qf 77 11) 78 77 1 11 78) (qe [qV 88 3 7,qf 89 2,wP 90 ce 88 89,qf 12 90] (xD (wZ 13) (xH 5 [qf 91 13,xh 92 8,qu 93 92,wd 94 93,wH 95 91 94] 95 5 6 (qe [qf 98 2,wQ 99 98 0,qf 100 99,xB 101 100 0 8,xa 103 100 13,xa 108 100 12,qK 109 100 (qT 108),xk 102 100 101,qK 104 100 (wg 2 102 103),xB 105 100 1 104,xk 106 100 105,qK 107 100 (qT 106),yc 110 100 .neq 107 (.t 109),xY 111 100 110,qf 112 111,xB 114 112 0 8,xa 116 112 13,qK 113 112 (qj (some 3) 7),xk 115 112 114,qK 117 112 (wg 2 115 116),xB 118 112 1 117,xk 119 112 118,qK 120 112 (.call fy (wN 113 119)),qK 121 112 (wA 120),xY 122 112 121,qf 123 122,xB 124 123 0 8,xa 126 123 13,xB 130 123 1 7,xk 125 123 124,qK 127 123 (wg 2 125 126),xB 128 123 0 127,xk 129 123 128,xk 131 123 130,yc 132 123 .sub 131 wJ,qK 133 123 (xf [.t 129,qQ,.t 132]),qK 134 123 (wA 133),xY 135 123 134] (yb 135 6)) (qf 96 13) 97 96 1 13 97) (qH (wD 6 wI)))))))))
def gW:FK:=⟨136,[.t 6],(AK.whole gT)⟩
theorem sP:aw Tryz.prog gN=some gW:=by kernel_rfl
def jr:FK:=⟨76,[x8],qe [wT 1 1 0,qc 2 qX] (qC [xh 7 1,qu 8 7,wd 9 8,xS 10 [.t 9,wJ,qh 4],xL 11 10] (yb 11 2) (xP (wZ 3) (wZ 4) (xH 0 [xI 12,xh 13 1,qu 14 13,wd 15 14,wH 16 12 15] 16 0 1 (qe [xh 19 1,qu 20 19,xI 21,wl 22 3 20 21,qV 23 3 22,yl 5 qx qx,qU 3 5 23] (qC [xh 24 5,qu 25 24,xS 26 [.t 25,qQ,qh 3],xL 27 26,qf 28 27,xB 29 28 1 5,xk 30 28 29,xB 31 28 0 5,xk 32 28 31,qK 33 28 (xf [.t 30,.t 32,qh 300]),qK 34 28 (wA 33),xY 35 28 34,qf 36 35,xB 37 36 2 5,xk 38 36 37,qK 39 36 (qT 38),qK 40 36 (xf [.t 39,wJ,qh 160]),qK 41 36 (wA 40),xY 42 36 41] (yb 42 2) (qe (wZ 6) (xH 2 [xg 43,xr 44 5,qu 45 44,wd 46 45,wH 47 43 46] 47 2 3 (qY [yp 50,xr 51 5,xg 53,xr 59 5,xg 61,qu 52 51,wl 54 5 52 53,xK 55 54,qu 56 55,wd 57 56,wn 58 .add 50 57,qu 60 59,wl 62 5 60 61,xh 63 62,qu 64 63,wd 65 64,wn 66 .add 58 65,qf 3 66] [yp 67,x9 68 67 800,qf 69 68,qK 70 69 (qj (some 1) 1),xa 71 69 4,xa 72 69 6,qK 73 69 (.call gN [.t 70,.t 71,.t 72]),qK 74 69 (wA 73),xY 75 69 74] (yb 75 2)) (xg 48) 49 48 1 6 49)))) (xI 17) 18 17 1 4 18) (wD 2 wI)))⟩
theorem pk:aw Tryz.prog eY=some jr:=by kernel_rfl
def lz:FK:=⟨15,[xO 2 1],xP [we 2 xX] [wj 4,wh 5 (xE 4 2),wQ 6 5 0] (qW 6 (qY [wj 7,xy 8 fw 7,xy 9 fk 8,we 3 xX,xM 3 9] [qV 10 1 3,xy 11 eY 10] (wB 11 [qV 12 1 3,xM 2 12]))) [wj 13,xy 14 dk 13,xM 2 14]⟩
theorem rU:aw Tryz.prog gm=some lz:=by kernel_rfl
def kD:FK:=⟨10,[xO 2 1],xP [we 2 xX] [wj 3,wh 4 (xE 3 12),wQ 5 4 0] (wB 5 [wj 6,xy 7 iT 6,xM 2 7]) [wj 8,xy 9 gm 8,xM 2 9]⟩
theorem rM:aw Tryz.prog gh=some kD:=by kernel_rfl
def kx:FK:=⟨14,[xO 2 3],qY [yl 2 qx qx] [wj 4,xy 5 gh 4,we 3 xX,xM 3 5] (qH [xh 6 3,qu 7 6,xh 8 3,qu 9 8,wd 10 9,xl 11 10 1,wl 12 3 7 11,qV 13 3 12,qU 3 2 13])⟩
theorem rR:aw Tryz.prog eC=some kx:=by kernel_rfl
def ck:FK:=⟨19,[xz],xP (wZ 4) [wj 6,wd 7 6,qc 8 qQ] (qR 0 (xZ [wH 9 8 7] (wu 9 0) (wq 1 (qY (xo (qf 10 8) 5 10) [xA 11,wj 12,wV 13,wl 14 5 12 13,qV 15 5 14,qb 16 (.callv (.t 11) (xx 15))] (wB 16 (xo (wV 17) 4 17))) (xo (wF 18 8 1) 8 18)))) (wD 4 (qh (-1)))⟩
theorem fE:aw Tryz.prog br=some ck:=by kernel_rfl
def bS:FK:=⟨9,[xz],x7 (wD 4 qX) [wj 5,xA 6,wP 7 br 5 6,qD 8 .geq 7 0,qf 4 8]⟩
theorem dU:aw Tryz.prog bl=some bS:=by kernel_rfl
def ef:FK:=⟨19,[xz],xP (wZ 4) [wj 6,wd 7 6,qc 8 qQ] (qR 0 (xZ [wH 9 8 7] (wu 9 0) (wq 1 (qY (xo (qf 10 8) 5 10) [xA 11,wj 12,wV 13,yn 14 12 13,qu 15 14,qb 16 (.callv (.t 11) (xx 15))] (wB 16 (xo (wV 17) 4 17))) (xo (wF 18 8 1) 8 18)))) (wD 4 (qh (-1)))⟩
theorem jP:aw Tryz.prog cu=some ef:=by kernel_rfl
def db:FK:=⟨9,[xz],x7 (wD 4 qX) [wj 5,xA 6,wP 7 cu 5 6,qD 8 .geq 7 0,qf 4 8]⟩
theorem ib:aw Tryz.prog bm=some db:=by kernel_rfl
def iR:FK:=⟨15,[.t 6],x7 (wD 6 qX) [xA 7,wj 8,wn 9 .leq 7 8,qf 10 9,xc 11 10 0,xc 12 10 2,xq 13 10 .leq 11 (.t 12),ya 14 10 13,qf 6 14]⟩
theorem uc:aw Tryz.prog dr=some iR:=by kernel_rfl
def gd:FK:=⟨11,[.t 3],x7 (wD 3 qX) [wj 4,xr 5 1,qu 6 5,wd 7 6,xl 8 7 1,qn 9 dr [.t 4,qQ,.t 8],xL 10 9,qf 3 10]⟩
theorem mY:aw Tryz.prog dD=some gd:=by kernel_rfl
def jy:FK:=⟨8,[.t 3],x7 [wT 2 5 0,qc 3 qX] [qp 4 4 2,qu 5 4,qb 6 (.mkf (.func dD) (xx 1)),wP 7 bm 5 6,xW 3]⟩
theorem pf:aw Tryz.prog cX=some jy:=by kernel_rfl
def gR:FK:=⟨14,[x8],x7 [wT 1 3 0,qc 2 qX] [xr 3 1,qu 4 3,wd 5 4,x9 6 5 0,xg 7,xp 8 7 2 1,xb 9 7 8,qL 10 7 (.mkf (.func cX) (xx 1)),qL 11 7 (.call bl (wN 9 10)),qL 12 7 (wA 11),ya 13 7 12,qf 2 13]⟩
theorem sR:aw Tryz.prog ec=some gR:=by kernel_rfl
def gE:FK:=⟨8,[x8],xP (wD 2 wY) [wj 3,qb 4 (.snil false (.t 3))] (wU 4 2 wY) [xT 5 0 [],wj 6,wO 7 1 8 5 6,xW 2]⟩
theorem mC:aw Tryz.prog dK=some gE:=by kernel_rfl
def gB:FK:=⟨19,[xz],xP (wZ 4) [wj 6,wd 7 6,qc 8 qQ] (qR 0 (xZ [wH 9 8 7] (wu 9 0) (wq 1 (qY (xo (qf 10 8) 5 10) [xA 11,wj 12,wV 13,yn 14 12 13,qu 15 14,wn 16 .eql 11 15] (wB 16 (xo (wV 17) 4 17))) (xo (wF 18 8 1) 8 18)))) (wD 4 (qh (-1)))⟩
theorem mQ:aw Tryz.prog dF=some gB:=by kernel_rfl
def eL:FK:=⟨9,[xz],x7 (wD 4 qX) [wj 5,xA 6,wP 7 dF 5 6,qD 8 .geq 7 0,qf 4 8]⟩
theorem kj:aw Tryz.prog cG=some eL:=by kernel_rfl
def kP:FK:=⟨33,[xz],qY [wT 2 3 0,qc 4 wY] (wD 5 wY) (qC [xA 8,xr 9 2,qu 10 9,wd 11 10,xl 12 11 1,qn 13 dr [.t 8,qQ,.t 12],xL 14 13] (wU 14 4 wY) (wL [xr 15 2,qu 16 15,wd 17 16,qc 18 qQ] (qR 0 (xZ [wH 19 18 17] (wu 19 0) (wq 1 (qY [qf 20 18,wl 21 5 16 18,qV 22 5 21,we 7 [.nils,.nils,qx,qx,.nils],qf 6 20,qU 5 7 22] [qp 23 4 7,qu 24 23,xA 25,wP 26 cG 24 25] (ye 26 [wV 27,xg 28,xT 29 1 [xQ 28],wO 30 1 8 27 29,qf 5 30])) (xo (wF 31 18 1) 18 31)))) (xo (wV 32) 4 32)))⟩
theorem sJ:aw Tryz.prog dZ=some kP:=by kernel_rfl
def kB:FK:=⟨42,[x8],xP [wT 1 3 0,qc 2 qX] (wZ 3) (xH 0 [yp 5,xr 6 1,qu 7 6,wd 8 7,wH 9 5 8] 9 0 1 (qe (wZ 4) (xH 2 [xI 12,xr 13 1,qu 14 13,yp 15,wl 16 5 14 15,qp 17 4 16,qu 18 17,wd 19 18,wH 20 12 19] 20 2 3 (qe [xr 23 1,yp 25,xI 29,xr 32 1,qu 24 23,wl 26 5 24 25,qp 27 4 26,qu 28 27,yn 30 28 29,qu 31 30,qu 33 32,wd 34 33,xl 35 34 1,xS 36 [.t 31,qQ,.t 35],xL 37 36] (yb 37 2)) (xI 21) 22 21 1 4 22)) (yp 10) 11 10 1 3 11) [xr 38 1,qu 39 38,wd 40 39,x9 41 40 0,qf 2 41]⟩
theorem rI:aw Tryz.prog dP=some kB:=by kernel_rfl
def ka:FK:=⟨54,[.t 8],qY [wT 4 3 0,qc 8 wY] [qf 10 2,xA 11,yn 12 10 11,qS 1 12 wI] (wL (wZ 9) (xH 0 [qf 13 9,xr 14 4,qu 15 14,xA 16,wl 17 5 15 16,qp 18 4 17,qu 19 18,wd 20 19,wH 21 13 20] 21 0 1 (qe [qf 24 2,xr 25 4,qu 26 25,xA 27,wl 28 5 26 27,qp 29 4 28,qu 30 29,qf 31 9,yn 32 30 31,qu 33 32,yn 34 24 33,qu 35 34,xL 36 35] (ye 36 [xr 38 4,xA 40,qf 44 9,qf 47 2,yp 48,qV 37 3 4,qu 39 38,wl 41 5 39 40,qp 42 4 41,qu 43 42,yn 45 43 44,qu 46 45,qn 49 cz [.t 37,.t 46,.t 47,.t 48],qf 3 49])) (qf 22 9) 23 22 1 9 23) [yp 50,xA 51,xT 52 1 [xQ 51],wO 53 1 8 50 52,qf 8 53])⟩
theorem pY:aw Tryz.prog cz=some ka:=by kernel_rfl
def mm:FK:=⟨29,[xz],xP (wD 4 qX) [wj 6,wd 7 6,xA 8,wd 9 8,qb 10 (.mn (.t 7) (.t 9)),qc 11 qQ] (qR 0 (xZ [wH 12 11 10] (wu 12 0) (wq 1 (qY (xo (qf 13 11) 5 13) [wj 14,wV 15,yn 16 14 15,xA 18,wV 19,yn 20 18 19,qu 17 16,qu 21 20,wn 22 .neq 17 21] (yb 22 4)) (xo (wF 23 11 1) 11 23)))) [wj 24,wd 25 24,xA 26,wd 27 26,wn 28 .eql 25 27,qf 4 28]⟩
theorem tK:aw Tryz.prog ji=some mm:=by kernel_rfl
def oH:FK:=⟨17,[xz],xP (wD 4 qX) [wj 7,wd 8 7,qc 9 qQ] (qR 0 (xZ [wH 10 9 8] (wu 10 0) (wq 1 (qY (xF (yn 11 7 9) (qu 12 11) 6 12) [xg 13,xA 14,wn 15 .eql 13 14] (wU 15 4 wI)) (xo (wF 16 9 1) 9 16)))) (wD 4 qX)⟩
theorem vt:aw Tryz.prog fU=some oH:=by kernel_rfl
def kh:FK:=⟨47,[xz],qY (wD 4 wY) (wZ 5) (.seq (wS 0 [wV 7,wj 8,wd 9 8,wH 10 7 9,qf 11 10,xc 12 11 0,xc 13 11 5,qL 14 11 (wg 1 12 13),xb 15 11 14,xc 16 11 1,xq 17 11 .lss 15 (.t 16),ya 18 11 17] 18 0 (.blk 1 (.reg (xF (wV 19) (wF 20 19 1) 5 20)))) (qC [wV 21,wj 22,wd 23 22,wH 24 21 23,qf 25 24,xc 26 25 0,xc 27 25 5,qL 28 25 (wg 1 26 27),xb 29 25 28,xc 30 25 1,xq 31 25 .eql 29 (.t 30),ya 32 25 31] (wB 32 (xo (wj 33) 4 33)) (x7 [xT 34 0 [],wj 35,wV 36,qb 37 (.slS 1 (.t 35) none (some (.t 36))),wO 38 1 8 34 37,qf 6 38] [xg 39,xA 40,wj 43,wV 44,qb 45 (.slS 1 (.t 43) (some (.t 44)) none),xT 41 1 [xQ 40],wO 42 1 8 39 41,wO 46 1 8 42 45,qf 4 46])))⟩
theorem pQ:aw Tryz.prog aT=some kh:=by kernel_rfl
def mh:FK:=⟨33,[xO 2 3,.t 3,xz],qY [yl 2 qx qx,qc 3 qQ,qc 4 qQ] [wj 8,xy 9 eC 8,yl 5 qx qx,qU 3 5 9] (qY [xr 10 5,qu 11 10,wd 12 11,qf 6 12] [wj 13,xg 14,wh 15 (wN 13 14),wj 16,xg 17,wh 18 (wN 16 17),xg 19,xl 20 19 1,wj 21,xg 22,wh 23 (wN 21 22),xg 24,xT 25 7 [xQ 15,wG 1 18,(2,1,qQ),wG 3 20,wG 4 23,xj 5 (-1),wG 6 24],qf 7 25] (qH [wj 27,xW 28,wj 30,xW 31,qV 26 3 5,ym 29 27 28,qA (some 3) 5 26,ym 32 30 31,qA (some 3) 5 26,qU 3 2 26,qf 3 29,qf 4 32]))⟩
theorem tM:aw Tryz.prog ja=some mh:=by kernel_rfl
def eJ:FK:=⟨48,[xz],qY [wT 2 3 0,qc 4 wY] [xr 8 2,qu 9 8,wd 10 9,qb 11 (.mks 1 1 [qF] (.t 10) (.t 10)),qf 5 11] (xN (xT 12 1 [(0,1,qQ)]) 6 12 (.seq (wS 0 [xg 13,wd 14 13,x9 15 14 0] 15 0 (.blk 1 (qY [xg 16,xg 17,wd 18 17,xl 19 18 1,yn 20 16 19,qu 21 20,qf 7 21] [xg 22,xg 23,wd 24 23,xl 25 24 1,qb 26 (.slS 1 (.t 22) none (some (.t 25))),qf 6 26] (qC [xW 27,xA 28,wn 29 .eql 27 28,qf 30 29,xa 31 30 5,xa 32 30 7,qK 33 30 (wg 1 31 32),xk 34 30 33,xY 35 30 34] (qW 35 (.exit 1)) (qe [wV 36,xW 37,yn 38 36 37,qS 1 38 wI] (.reg [xg 39,xr 40 2,qu 41 40,xW 42,wl 43 5 41 42,qp 44 4 43,qu 45 44,wO 46 1 8 39 45,qf 6 46])))))) (qH (xo (wV 47) 4 47))))⟩
theorem kr:aw Tryz.prog aL=some eJ:=by kernel_rfl
def fq:FK:=⟨71,[x8],qe [wT 1 3 0,qc 2 (.c .nilp)] (qC [qV 8 3 1,xy 9 ec 8,xL 10 9] (wU 10 2 (.c .nilp)) (xP [qV 11 3 1,qV 12 3 1,qn 13 aL (xE 12 (-1)),qA (some 3) 1 11,wx 14 [qx,qx,.nils,.nils,.nils] [wt 0 3 11,wG 4 13],wT 15 5 14,qf 3 15] [xr 16 1,qu 17 16,wd 18 17,qc 19 qQ] (qR 0 (xZ [wH 20 19 18] (wu 20 0) (wq 1 (qY (xo (qf 21 19) 4 21) [xr 22 1,qu 23 22,wd 24 23,qb 25 (.mks 1 1 [qF] (.t 24) (.t 24)),qf 5 25] (qC [yp 26,wb 27 26,qp 28 4 27,qu 29 28,xI 30,yn 31 29 30,qu 32 31] (qW 32 (qY [qV 33 3 1,xI 34,wP 35 aL 33 34,qf 6 35] [wV 36,wd 37 36,qc 38 qQ] (qR 2 (xZ [wH 39 38 37] (wu 39 2) (wq 3 (xN (qf 40 38) 7 40 (.reg [wV 41,xW 42,yp 43,wb 44 43,qp 45 4 44,qu 46 45,xW 47,yn 48 46 47,qu 49 48,qf 50 49,xc 51 50 6,xc 52 50 7,qL 53 50 (wg 1 51 52),xb 54 50 53,qL 55 50 (wA 54),ya 56 50 55,yn 57 41 42,xM 57 56])) (xo (wF 58 38 1) 38 58)))))) (.reg [yp 59,yp 60,wb 61 60,qp 62 3 61,qu 63 62,wV 64,qI 65 1 xX 1 [xQ 64],wO 66 1 24 63 65,wb 67 59,qp 68 3 67,xM 68 66]))) (xo (wF 69 19 1) 19 69)))) (xo (yp 70) 2 70)))⟩
theorem mg:aw Tryz.prog cC=some fq:=by kernel_rfl
def fK:FK:=⟨26,[xz],x7 (wD 4 qX) [wj 5,qb 6 (.pnil 0 true (.t 5)),xg 7,xc 8 7 1,xc 9 7 0,qL 10 7 (qz 9),xp 11 7 4 10,xb 12 7 11,qL 13 7 (qT 12),xq 14 7 .sub 13 wJ,qL 15 7 (.call dr [.t 8,qQ,.t 14]),ya 16 7 15,qf 17 16,xc 18 17 0,qL 19 17 (qz 18),xp 20 17 4 19,xb 21 17 20,xc 22 17 1,qL 23 17 (wg 1 21 22),xb 24 17 23,ya 25 17 24,qf 4 25]⟩
theorem pV:aw Tryz.prog dx=some fK:=by kernel_rfl
def nT:FK:=⟨15,[xz],x7 [wT 2 3 0,qc 4 qX] [qV 5 3 2,xy 6 dP 5,xg 7,xc 8 7 1,xp 9 7 2 2,xb 10 7 9,qL 11 7 (qT 10),xq 12 7 .sub 11 wJ,qL 13 7 (xf [.t 8,qQ,.t 12]),ya 14 7 13,qf 4 14]⟩
theorem vn:aw Tryz.prog jS=some nT:=by kernel_rfl
def gH:AK:=qY [wT 1 3 0,qc 2 wY] [xr 10 1,qu 11 10,wd 12 11,qf 3 12] (qY (xo (qI 13 1 xX 0 []) 4 13) (xF (yp 14) (qb 15 (.mks 1 1 [qF] (.t 14) (.t 14))) 5 15) (xP [qV 16 3 1,wV 17,xT 18 0 [],qn 19 cz [.t 16,qQ,.t 17,.t 18]] (wZ 6) (xH 0 [xg 20,yp 21,wH 22 20 21] 22 0 1 (qY (xF (yp 25) (qb 26 (.mks 1 1 [qF] (.t 25) (.t 25))) 7 26) [xW 27,xg 28,yn 29 27 28,qS 1 29 wI] (xD [xg 30,qD 31 .neq 30 0] (qt 31 (qe [qV 32 3 1,xW 33,xT 34 0 [],qn 35 cz [.t 32,qQ,.t 33,.t 34]] (.reg [xW 36,xg 37,yn 38 36 37,qS 1 38 qX])) (.reg [xW 39,xg 40,yn 41 39 40,qS 1 41 qX])) (qe (xF (yp 42) (qb 43 (.mks 1 1 [qF] (.t 42) (.t 42))) 8 43) (qC (wZ 9) (xH 2 [qf 44 9,yp 45,wH 46 44 45] 46 2 3 (.reg [qf 49 8,qf 50 9,wV 51,xg 52,yn 53 51 52,qu 54 53,qf 55 54,xc 56 55 5,xc 57 55 9,qL 58 55 (wg 1 56 57),xb 59 55 58,ya 60 55 59,qf 61 60,xc 62 61 7,xc 63 61 9,qL 64 61 (wg 1 62 63),xb 65 61 64,qL 66 61 (wA 65),ya 67 61 66,yn 68 49 50,xM 68 67]) (qf 47 9) 48 47 1 9 48) (.reg [xI 69,qf 70 8,qI 71 1 xX 1 [xQ 70],wO 72 1 24 69 71,qf 4 72]))))) (xg 23) 24 23 1 6 24) (xo (xI 73) 2 73)))
def gA:FK:=⟨74,[x8],(AK.whole gH)⟩
theorem ry:aw Tryz.prog cQ=some gA:=by kernel_rfl
def gX:FK:=⟨56,[.t 6],qY [wT 3 3 0,qc 6 wY] (xo (xT 11 0 []) 7 11) (wL (wZ 8) (xH 0 [qf 12 8,xA 13,wd 14 13,wH 15 12 14] 15 0 1 (qY [qV 18 3 3,qf 19 8,wP 20 ce 18 19,qf 9 20] (wZ 10) (xH 2 [qf 21 10,qf 22 9,wd 23 22,wH 24 21 23] 24 2 3 (qe [xA 27,qf 28 2,yn 29 27 28,qf 31 9,qf 32 10,yn 33 31 32,qu 30 29,qu 34 33,yn 35 30 34,qu 36 35,qf 37 36,xc 38 37 8,xc 39 37 2,xq 40 37 .eql 38 (.t 39),xc 41 37 40,xa 42 41 1,xa 43 41 2,qK 44 41 (wg 1 42 43),xa 46 41 8,xk 45 41 44,qK 47 41 (wg 1 45 46),xk 48 41 47,qK 49 41 (wA 48),qL 50 37 (qP 41 wI (.t 49)),ya 51 37 50] (ye 51 [xW 52,qf 53 8,wP 54 aT 52 53,qf 7 54])) (qf 25 10) 26 25 1 10 26)) (qf 16 8) 17 16 1 8 17) (xo (xW 55) 6 55))⟩
theorem ni:aw Tryz.prog cx=some gX:=by kernel_rfl
def ii:FK:=⟨15,[xz],xP [wT 2 3 0,qc 4 wY] [qV 5 3 2,xA 6,wP 7 jS 5 6,xL 8 7] (wB 8 (xo (xT 9 0 []) 4 9)) [xA 13,qV 10 3 2,qV 11 3 2,xy 12 cQ 11,qA (some 3) 2 10,qn 14 cx [.t 10,.t 12,.t 13],qf 4 14]⟩
theorem nZ:aw Tryz.prog eF=some ii:=by kernel_rfl
def iZ:AK:=qe [yl 2 qx qx,qc 3 wY] (xD (wZ 4) (xH 0 [xI 11,qD 12 .lss 11 6,qf 13 12,xc 14 13 0,qL 15 13 (xJ (xE 14 8)),xq 16 13 .gtr 15 qQ,ya 17 13 16] 17 0 1 (qY [wj 20,xy 21 eC 20,yl 5 qx qx,qU 3 5 21] (xo (xT 22 0 []) 6 22) (xD (wZ 7) (xH 2 [xW 23,xr 24 5,qu 25 24,wd 26 25,wH 27 23 26] 27 2 3 (qe [qV 30 3 5,xW 31,wP 32 eF 30 31,wd 33 32,x9 34 33 0] (ye 34 [xg 35,xW 36,xT 37 1 [xQ 36],wO 38 1 8 35 37,qf 6 38])) (xW 28) 29 28 1 7 29) (qe [xg 39,wd 40 39,x9 41 40 0] (wB 41 [xg 43,wj 44,xg 45,wd 46 45,xg 50,wj 51,xg 52,wd 53 52,qV 42 3 5,wh 47 (wN 44 46),qA (some 3) 5 42,yn 48 43 47,qu 49 48,wh 54 (wN 51 53),qA (some 3) 5 42,qO 48 49,yn 55 50 54,qu 56 55,xU 57 1 xu 2 [xQ 49,wG 1 56],qU 3 2 42,qO 48 49,qO 55 56,qf 3 57])))) (xI 18) 19 18 1 4 19) (x7 [wj 59,xy 60 ja 59,qf 58 60,qb 61 (.ext 0 (.t 58)),qb 62 (.ext 1 (.t 58)),qb 63 (.ext 2 (.t 58)),yl 8 qx qx,qU 3 8 61,qf 9 62,qf 10 63] [qV 64 3 8,qf 65 9,qf 66 10,xT 67 2 [xQ 65,wG 1 66],qU 3 2 64,qf 3 67]))
def jd:FK:=⟨68,[xO 2 3,.t 3],(AK.whole iZ)⟩
theorem tD:aw Tryz.prog iK=some jd:=by kernel_rfl
def eu:FK:=⟨19,[xO 2 3,.t 3],qY [yl 2 qx qx,qc 3 wY] [wj 7,xy 8 gO 7,xy 9 iK 8,qf 6 9,qb 10 (.ext 0 (.t 6)),qb 11 (.ext 1 (.t 6)),yl 4 qx qx,qU 3 4 10,qf 5 11] (qH [wV 13,wj 14,wd 15 14,qD 16 .rem 15 2,qb 17 (.bin .add wJ (.t 16)),qb 18 (.slS 1 (.t 13) none (some (.t 17))),qV 12 3 4,qU 3 2 12,qf 3 18])⟩
theorem jT:aw Tryz.prog cq=some eu:=by kernel_rfl
def dY:FK:=⟨15,[xz],x7 (wD 4 qX) [wj 12,qu 5 1,wb 6 5,qp 7 3 6,qu 8 7,qu 9 2,yn 10 8 9,qu 11 10,yn 13 11 12,qu 14 13,qf 4 14]⟩
theorem jI:aw Tryz.prog cr=some dY:=by kernel_rfl
def cN:AK:=qY [wT 2 1 0,wT 3 1 1,qc 4 wY] (wD 5 wY) (wL [qu 7 2,wb 8 7,qp 9 4 8,qu 10 9,wd 11 10,qc 12 qQ] (qR 0 (xZ [wH 13 12 11] (wu 13 0) (wq 1 (xN (qf 14 12) 6 14 (xD [xg 22,qu 15 2,wb 16 15,qp 17 3 16,qu 18 17,qu 19 3,yn 20 18 19,qu 21 20,yn 23 21 22,qu 24 23,qf 25 24,xc 26 25 6,xb 27 25 3,xq 28 25 .neq 26 (.t 27),ya 29 25 28] (qW 29 (.exit 1)) (qe [qu 30 2,wb 31 30,xh 32 31,qV 33 3 32,xg 34,wP 35 dZ 33 34,qb 36 (.mkf (.func cr) (wN 2 3)),wP 37 bm 35 36] (ye 37 [wV 38,xg 39,xT 40 1 [xQ 39],wO 41 1 8 38 40,qf 5 41])))) (xo (wF 42 12 1) 12 42)))) (xo (wV 43) 4 43))
def cM:FK:=⟨44,[xz],(AK.whole cN)⟩
theorem ll:aw Tryz.prog bR=some cM:=by kernel_rfl
def dO:FK:=⟨46,[xz],qY (wD 4 wY) (xo (qb 10 .mkm) 5 10) (xZ (xF (xA 11) (xy 12 dK 11) 6 12) (wS 0 [xg 13,wd 14 13,x9 15 14 0] 15 0 (.blk 1 (qY [xg 16,qb 17 (qG 1 16 qQ),qu 18 17,qf 7 18] (xF (xg 19) (qb 20 (.slS 1 (.t 19) (some wJ) none)) 6 20) (qC [wj 21,xW 22,wP 23 dx 21 22,xL 24 23] (qW 24 (.exit 1)) (qe [wj 25,xW 26,wP 27 bR 25 26,wd 28 27,qc 29 qQ] (qR 2 (xZ [wH 30 29 28] (wu 30 2) (wq 3 (qY (xF (yn 31 27 29) (qu 32 31) 9 32) [wV 33,qf 34 9,qb 35 (.lk 0 qF false (.t 33) (.t 34)),xL 36 35] (qW 36 (qe [wV 37,qf 38 9,qw (.mup 0 (.t 37) (.t 38) wI)] (.reg [xg 39,qf 40 9,xT 41 1 [xQ 40],wO 42 1 8 39 41,qf 6 42])))) (xo (wF 43 29 1) 29 43))))))))) (qH (xF (wV 44) (xy 45 eq 44) 4 45)))⟩
theorem ju:aw Tryz.prog cb=some dO:=by kernel_rfl
def gx:FK:=⟨13,[xz],qY [wT 2 3 0,qc 4 wY] (xF (qV 6 3 2) (xy 7 cC 6) 5 7) (wL [wV 8,qb 9 (.pnil 0 false (.t 8))] (wU 9 4 wY) [wV 10,xA 11,wP 12 cb 10 11,qf 4 12])⟩
theorem mI:aw Tryz.prog dI=some gx:=by kernel_rfl
def nB:FK:=⟨19,[xz],xP (wZ 4) (wZ 5) (xH 0 [wV 6,wj 7,wd 8 7,wH 9 6 8] 9 0 1 (qe [wj 12,wV 13,yn 14 12 13,qu 15 14,xA 16,wn 17 .eql 15 16] (wB 17 (xo (wV 18) 4 18))) (wV 10) 11 10 1 5 11) (wD 4 (qh (-1)))⟩
theorem vO:aw Tryz.prog jO=some nB:=by kernel_rfl
def di:AK:=qe [wT 3 3 0,qc 6 wY] (.cut (.reg (xo (xT 12 0 []) 7 12)) (xZ [xT 13 0 [],qf 14 2,wO 15 1 8 13 14,qf 8 15] (wS 0 [qf 16 8,wd 17 16,x9 18 17 0] 18 0 (.blk 1 (qY [qf 19 8,qb 20 (qG 1 19 qQ),qu 21 20,qf 9 21] (xF (qf 22 8) (qb 23 (.slS 1 (.t 22) (some wJ) none)) 8 23) (qC [qf 24 9,xA 25,wd 26 25,xl 27 26 1,xS 28 [.t 24,qQ,.t 27],xL 29 28] (qW 29 (.exit 1)) (qY [qV 30 3 3,xA 31,qf 32 9,qn 33 cx [.t 30,.t 31,.t 32],qf 10 33] (wZ 11) (xH 2 [qf 34 11,qf 35 10,wd 36 35,wH 37 34 36] 37 2 3 (qe [xW 40,qf 41 10,qf 42 11,yn 43 41 42,qu 44 43,wP 45 jO 40 44,qD 46 .lss 45 0] (qW 46 (qe [xW 47,qf 48 10,qf 49 11,yn 50 48 49,qu 51 50,wP 52 aT 47 51,qf 7 52] (.reg [qf 53 8,qf 54 10,qf 55 11,yn 56 54 55,qu 57 56,xT 58 1 [xQ 57],wO 59 1 8 53 58,qf 8 59])))) (qf 38 11) 39 38 1 11 39)))))) (qH (xo (xW 60) 6 60))))
def dd:FK:=⟨61,[.t 6],(AK.whole di)⟩
theorem lP:aw Tryz.prog dg=some dd:=by kernel_rfl
def gL:FK:=⟨14,[xz],xP [wT 2 3 0,qc 4 wY] [qV 5 3 2,xy 6 dP 5,xL 7 6] (wB 7 (xo (xT 8 0 []) 4 8)) [xA 12,qV 9 3 2,qV 10 3 2,xy 11 cQ 10,qA (some 3) 2 9,qn 13 dg [.t 9,.t 11,.t 12],qf 4 13]⟩
theorem mV:aw Tryz.prog dB=some gL:=by kernel_rfl
def iA:FK:=⟨15,[xz],qY [wT 2 3 0,qc 4 wY] (xF (qV 6 3 2) (xy 7 cC 6) 5 7) (wL [wV 8,xA 9,wP 10 dx 8 9,xL 11 10] (wU 11 4 wY) [wV 12,xA 13,wP 14 bR 12 13,qf 4 14])⟩
theorem oE:aw Tryz.prog cL=some iA:=by kernel_rfl
def eM:FK:=⟨84,[x8],qe (wD 2 qX) (qC [wj 15,wd 16 15,x9 17 16 1048576] (wU 17 2 wI) (qY [wj 19,xy 20 cq 19,qf 18 20,qb 21 (.ext 0 (.t 18)),qb 22 (.ext 1 (.t 18)),yl 3 qx qx,qU 3 3 21,qf 4 22] [qV 23 3 3,xI 24,wP 25 dI 23 24,qf 5 25] (qC [wV 26,qV 27 3 3,xI 28,wP 29 dB 27 28,wP 30 ji 26 29,xL 31 30] (yb 31 2) (qC [xT 32 0 [],xI 33,wO 34 1 8 32 33,wV 35,wO 36 1 8 34 35,wd 37 36,qc 38 qQ] (qR 0 (xZ [wH 39 38 37] (wu 39 0) (wq 1 (qY (xF (yn 40 36 38) (qu 41 40) 7 41) [qV 42 3 3,xW 43,wP 44 cL 42 43,wd 45 44,qc 46 qQ] (qR 2 (xZ [wH 47 46 45] (wu 47 2) (wq 3 (qY (xF (yn 48 44 46) (qu 49 48) 9 49) [wV 50,qf 51 9,wP 52 fU 50 51,xL 53 52] (yb 53 2)) (xo (wF 54 46 1) 46 54))))) (xo (wF 55 38 1) 38 55)))) (wL [wV 56,wd 57 56,qc 58 qQ] (qR 4 (xZ [wH 59 58 57] (wu 59 4) (wq 5 (qY (xF (yn 60 56 58) (qu 61 60) 11 61) (wD 12 qX) (qC [xT 62 0 [],xI 63,wO 64 1 8 62 63,wV 65,wO 66 1 8 64 65,wd 67 66,qc 68 qQ] (qR 6 (xZ [wH 69 68 67] (wu 69 6) (wq 7 (qe (xF (yn 70 66 68) (qu 71 70) 14 71) (.reg [qf 72 12,qf 73 72,qK 74 73 (qj (some 3) 3),xa 75 73 14,qK 76 73 (.call cL (wN 74 75)),xa 77 73 11,qK 78 73 (.call fU (wN 76 77)),xY 79 73 78,qf 12 79])) (xo (wF 80 68 1) 68 80)))) (qe [qf 81 12,xL 82 81] (yb 82 2)))) (xo (wF 83 58 1) 58 83)))) (wD 2 wI))))))⟩
theorem ko:aw Tryz.prog eO=some eM:=by kernel_rfl
end Go.Proofs.YtdfplkcigiblcaaGreat
