/-
  Contracts and lemmas that the card needs, part 4.
-/
import Derived.Test.YtdfplkcigiblcaaGreatFe3
import Derived.Test.YtdfplkcigiblcaaGreatRows
namespace Go.Proofs.YtdfplkcigiblcaaGreat
open Go Go.Aw
set_option maxRecDepth 100000
abbrev er:FuncId:=54
abbrev bB:FuncId:=104
abbrev bc:FuncId:=105
abbrev iq:FuncId:=95
abbrev ft:FuncId:=168
abbrev cR:FuncId:=169
abbrev jh:FuncId:=153
abbrev fC:FuncId:=154
abbrev iT:FuncId:=141
abbrev cX:FuncId:=96
abbrev dy:FuncId:=125
abbrev dG:FuncId:=152
abbrev iQ:FuncId:=140
abbrev eL:FuncId:=124
abbrev jg:FuncId:=118
abbrev bD:FuncId:=179
abbrev fv:FuncId:=183
abbrev bh:FuncId:=172
abbrev eM:FuncId:=162
abbrev dQ:FuncId:=189
abbrev cm:FuncId:=180
abbrev cL:FuncId:=181
abbrev ew:FuncId:=182
abbrev eA:FuncId:=171
abbrev aO:FuncId:=161
abbrev dC:FuncId:=143
abbrev gX:FuncId:=194
abbrev gL:FuncId:=190
abbrev jU:FuncId:=184
abbrev dA:FuncId:=191
abbrev jW:FuncId:=185
abbrev bK:FuncId:=173
abbrev fj:FuncId:=192
abbrev fz:FuncId:=197
abbrev dx:FuncId:=195
abbrev eg:FuncId:=196
abbrev de:FuncId:=193
abbrev fA:FuncId:=186
abbrev bx:FuncId:=174
abbrev kM:FuncId:=163
abbrev cW:FuncId:=175
abbrev jV:FuncId:=164
abbrev dk:FuncId:=144
abbrev fw:FuncId:=127
abbrev gA:FuncId:=76
abbrev dw:FuncId:=155
abbrev bP:FuncId:=156
abbrev bk:FuncId:=160
abbrev br:FuncId:=159
abbrev bM:FuncId:=158
abbrev cZ:FuncId:=178
abbrev eW:FuncId:=187
abbrev ln:FuncId:=188
abbrev aW:FuncId:=177
abbrev dX:FuncId:=176
abbrev ey:FuncId:=170
abbrev aZ:FuncId:=157
abbrev io:FuncId:=142
abbrev fg:FuncId:=126
abbrev fp:FuncId:=166
abbrev ka:FuncId:=165
abbrev gY:FuncId:=145
abbrev eS:FuncId:=128
abbrev gV:FuncId:=119
abbrev gW:FuncId:=90
abbrev eq:FuncId:=53
abbrev bz:FuncId:=120
abbrev bj:FuncId:=91
abbrev cA:FuncId:=121
abbrev bT:FuncId:=93
abbrev fh:FuncId:=61
abbrev dO:FuncId:=94
abbrev dc:FuncId:=92
abbrev cU:FuncId:=55
abbrev cC:FuncId:=100
abbrev nU:FuncId:=101
abbrev kW:FuncId:=102
abbrev lB:FuncId:=64
abbrev gy:FuncId:=98
abbrev en:FuncId:=57
abbrev cD:FuncId:=97
abbrev jc:FuncId:=59
abbrev gi:FuncId:=19
abbrev cE:FuncId:=99
abbrev iS:FuncId:=20
abbrev jO:FuncId:=22
abbrev eT:FuncId:=23
abbrev aM:FuncId:=106
abbrev cf:FuncId:=67
abbrev dD:FuncId:=74
abbrev cK:FuncId:=68
abbrev fc:FuncId:=27
abbrev eJ:FuncId:=70
abbrev dp:FuncId:=107
abbrev cB:FuncId:=108
abbrev da:FuncId:=72
abbrev gr:FuncId:=33
abbrev fM:FuncId:=73
abbrev gw:FuncId:=34
abbrev gR:FuncId:=78
abbrev dm:FuncId:=41
abbrev bF:FuncId:=109
abbrev eG:FuncId:=79
abbrev fO:FuncId:=42
abbrev eu:FuncId:=80
abbrev fQ:FuncId:=43
abbrev iH:FuncId:=11
@[reducible] def qa(a:Nat)(b:Option (Nat × Bool))(c:AI):CO:=⟨some a,b,c⟩
@[reducible] def qb(a:Nat)(b:AI):CO:=qa a none b
@[reducible] def qc(a:Nat)(b:AOp):CO:=qb a (.mov b)
@[reducible] def qd(a:IntKind)(b:Int):AV:= .p (.int a b)
@[reducible] def qe(a:List CO)(b:AK):AK:= .seq (.reg a) b
@[reducible] def qf(a b:Nat):CO:=qc a (.t b)
@[reducible] def qg(a:Int):AV:=qd .i64 a
@[reducible] def qh(a b:Nat):AI:= .fldA a (.t b)
@[reducible] def qi(a:Int):AOp:= .c (qg a)
@[reducible] def qj(a:Nat)(b:Nat × Bool)(c:AI):CO:=qa a (some b) c
@[reducible] def qk(a:Option Nat)(b:Nat):AI:= .ld a (.t b)
@[reducible] def ql(a:BinOp)(b:Nat)(c:AOp):AI:= .bin a (.t b) c
@[reducible] def qm(a:Nat):AI:=qk none a
@[reducible] def qn(a:Nat)(b:FuncId)(c:List AOp):CO:=qb a (.call b c)
@[reducible] def qo(a:Option (Nat × Bool))(b:AI):CO:=⟨none,a,b⟩
@[reducible] def qp(a b c:Nat):CO:=qb a (qh b c)
@[reducible] def qt(a b:Nat):CO:=qb a (qm b)
@[reducible] def qu(a:Nat)(b c:AK):AK:= .cond (.t a) b c
@[reducible] def qv(a:Nat)(b:BinOp)(c:Nat)(d:AOp):CO:=qb a (ql b c d)
@[reducible] def qw(a:AI):CO:=qo none a
@[reducible] def qx(a:Bool):AV:= .p (.bool a)
@[reducible] def qy:AV:=qg 0
@[reducible] def qz(a:Nat):AI:= .nilck (.t a)
@[reducible] def qA(a:Option Nat)(b c:Nat):CO:=qw (.chk a b c)
@[reducible] def qB:AV:=qx false
@[reducible] def qC(a:List CO)(b c:AK):AK:= .seq (qe a b) c
@[reducible] def qD(a b:Nat)(c:AOp):AI:= .idxS a (.t b) c
@[reducible] def qF(a:Nat)(b:BinOp)(c:Nat)(d:Int):CO:=qv a b c (qi d)
@[reducible] def qG(a:AOp):AI:= .len false a
@[reducible] def qH(a:List CO):AK:=qe a .ret
@[reducible] def qI(a b:Nat)(c:Bool)(d:AI):CO:=qj a (b,c) d
@[reducible] def qJ(a b:Nat)(c:AI):CO:=qI a b false c
@[reducible] def qK(a b:Nat)(c:AI):CO:=qI a b true c
@[reducible] def qL(a b:Nat)(c:List AV)(d:Nat)(e:List (Nat × Nat × AOp)):CO:=qb a (.bsl b c d e)
@[reducible] def qM(a:Nat)(b c:AOp):CO:=qw (.st a b c)
@[reducible] def qN(a:Nat)(b c:AOp):AI:= .pick (.t a) b c
@[reducible] def qO(a:List UInt8):AV:= .p (.str a)
@[reducible] def qP(a b:Nat):CO:=qA none a b
@[reducible] def qQ(a b:Nat)(c:AOp):CO:=qM a (.t b) c
@[reducible] def qR:AOp:=qi 0
@[reducible] def qS(a:Nat):AI:= .mov (.t a)
@[reducible] def qT(a:Nat)(b:AK):AK:= .blk a (.loop b)
@[reducible] def qU(a b c:Nat):CO:=qQ a b (.t c)
@[reducible] def qV(a b:List CO)(c:AK):AK:=qe a (qe b c)
@[reducible] def qW:AOp:= .c qB
@[reducible] def qX(a b:Nat):AI:=qk (some a) b
@[reducible] def qY(a:Nat):AI:=qG (.t a)
@[reducible] def qZ(a b:Nat):CO:=qb a (qz b)
@[reducible] def wa(a:Nat)(b:AK):AK:=qu a b .skip
@[reducible] def wb(a:Nat)(b c:AK):AK:= .seq (.blk a b) c
@[reducible] def wd(a:Nat)(b:List AV):CO:=qb a (.alloc b)
@[reducible] def we(a b c:Nat):AI:=qD a b (.t c)
@[reducible] def wg(a b:Nat):CO:=qb a (qY b)
@[reducible] def wh(a:Nat):CO:=qf a 0
@[reducible] def wi(a:Nat)(b:AK)(c:Nat):AK:=qu a b (.exit c)
@[reducible] def wj(a:List CO)(b c:OT):OT:= .alt (.one a b) c
@[reducible] def wl(a:Nat)(b:BinOp)(c d:Nat):CO:=qv a b c (.t d)
@[reducible] def wm(a:Nat)(b:List AOp):CO:=qn a bB b
@[reducible] def wn(a b c d:Nat):CO:=qb a (we b c d)
@[reducible] def wo:AV:=qO []
@[reducible] def wq(a:Nat)(b:AK)(c:List CO):AK:=wb a b (.reg c)
@[reducible] def wt(a b c:Nat):Nat × Nat × AOp:=(a,b,.t c)
@[reducible] def wu:AV:=qx true
@[reducible] def wv(a b c:Nat):CO:=qb a (qX b c)
@[reducible] def ww(a:Nat)(b:List AV)(c:List (Nat × Nat × AOp)):CO:=qb a (.bld b c)
@[reducible] def wx(a b:Nat)(c d:AOp):CO:=qb a (qN b c d)
@[reducible] def wy(a b:Nat):AK:=wi a .skip b
@[reducible] def wz(a:Nat)(b:List CO):AK:=wa a (qH b)
@[reducible] def wA(a b c:Nat)(d:AOp):AI:= .app a b (.t c) d
@[reducible] def wB(a:Nat):AI:= .not (.t a)
@[reducible] def wC(a:Nat)(b:AOp):List CO:=[qc a b]
@[reducible] def wD(a b:Nat):AI:= .box a (.t b)
@[reducible] def wE(a b:Nat)(c:Int):CO:=qF a .add b c
@[reducible] def wF(a b:Nat):Nat × Nat × AOp:=wt a 1 b
@[reducible] def wG(a:Nat)(b:List AOp):CO:=qn a bc b
@[reducible] def wH:AOp:= .c wu
@[reducible] def wI(a b c:Nat):CO:=wl a .lss b c
@[reducible] def wJ(a:List CO)(b:AK)(c:List CO):AK:=qC a b (qH c)
@[reducible] def wK(a b:Nat)(c:Int):CO:=qF a .eql b c
@[reducible] def wL:AOp:=qi 1
@[reducible] def wM(a b c d:Nat):AI:=wA a b c (.t d)
@[reducible] def wN(a b c:Nat):CO:=qK a b (qm c)
@[reducible] def wO(a b c d e:Nat):CO:=qb a (wM b c d e)
@[reducible] def wP(a b:Nat)(c:AOp):AK:=wz a (wC b c)
@[reducible] def wQ(a:Nat)(b:AOp):List AOp:=[.t a,b]
@[reducible] def wR(a b:Nat):List AOp:=wQ a (.t b)
@[reducible] def wS(a b c:Nat):CO:=qb a (wD b c)
@[reducible] def wT(a b c:Nat):CO:=qK a b (qS c)
@[reducible] def wU(a:Nat)(b:List CO)(c d:AK):AK:=qT a (qC b c d)
@[reducible] def wV(a b c:Nat):CO:=qJ a b (qS c)
@[reducible] def wW(a:Nat)(b:List CO)(c d:Nat)(e:AK):AK:=wU a b (wy c d) e
@[reducible] def wX(a:List CO)(b:OT):OT:=wj a b .tru
@[reducible] def wY(a:Nat):CO:=qf a 5
@[reducible] def wZ(a:Nat)(b:List CO)(c d e:Nat)(f:AK)(g:List CO):AK:=wW a b c d (wq e f g)
@[reducible] def xa(a:Nat)(b:FuncId)(c d:Nat):CO:=qn a b (wR c d)
@[reducible] def xb(a:Nat):List CO:=wC a qR
@[reducible] def xc(a:Nat)(b:List AOp):CO:=qn a bM b
@[reducible] def xd(a b:Nat)(c:AOp)(d:Nat):CO:=wx a b c (.t d)
@[reducible] def xe(a b c:Nat):CO:=qJ a b (qm c)
@[reducible] def xf:AOp:= .c .nils
@[reducible] def xg(a:Nat):List AOp:=[.t a]
@[reducible] def xh(a:Nat)(b:FuncId)(c:Nat):CO:=qn a b (xg c)
@[reducible] def xi(a b c:Nat)(d:AOp):CO:=wx a b (.t c) d
@[reducible] def xj(a b:Nat):CO:=qp a 0 b
@[reducible] def xk(a b:Nat)(c:Int):Nat × Nat × AOp:=(a,b,qi c)
@[reducible] def xl(a:Nat)(b:Int):Nat × Nat × AOp:=xk a 1 b
@[reducible] def xm(a:List AOp):AI:= .call iq a
@[reducible] def xo(a:CO)(b c:Nat):List CO:=[a,qf b c]
@[reducible] def xp(a b c d:Nat):CO:=qK a b (qh c d)
@[reducible] def xq(a:Nat):CO:=qf a 6
@[reducible] def xr(a b:Nat):CO:=xh a bP b
@[reducible] def xt(a:Nat):CO:=qf a 4
@[reducible] def xu(a b:Nat):CO:=qp a 2 b
@[reducible] def xv(a b:Nat)(c:Int):CO:=qF a .sub b c
@[reducible] def xx(a b c d:Nat):CO:=qJ a b (qh c d)
@[reducible] def xy(a b:Nat):CO:=qU 1 a b
@[reducible] def xz(a:Nat)(b:List AOp):CO:=qn a bk b
@[reducible] def xA(a:Nat):List RV:=[.t a]
@[reducible] def xB:List AV:=[qy]
@[reducible] def xC(a b c:Nat)(d:List (Nat × Nat × AOp)):CO:=qL a b xB c d
@[reducible] def xD(a:Nat)(b:Int):List AOp:=wQ a (qi b)
@[reducible] def xE(a b:Nat)(c:BinOp)(d:Nat)(e:AOp):CO:=qK a b (ql c d e)
@[reducible] def xF(a b:Nat):CO:=qp a 1 b
@[reducible] def xG(a b:List CO)(c:AK)(d:List CO):AK:=qe a (wJ b c d)
@[reducible] def xH(a:List CO)(b c:AK):AK:= .cut (qe a b) c
@[reducible] def xI:List RV:=xA 2
@[reducible] def xJ(a:Nat):CO:=qf a 1
@[reducible] def xK(a:CO)(b c:Nat)(d:AK):AK:=qe (xo a b c) d
@[reducible] def xL(a b:CO)(c d:Nat):List CO:=[a,b,qf c d]
@[reducible] def xM(a:Nat)(b:List CO)(c d e:Nat)(f:AK)(g h:CO)(i j:Nat):AK:=wZ a b c d e f (xL g h i j)
@[reducible] def xN(a:Nat)(b:List CO)(c d e:Nat)(f:AK)(g:CO)(h i:Nat)(j:Int)(k l:Nat):AK:=xM a b c d e f g (wE h i j) k l
@[reducible] def xO(a b:Nat):RV:= .c a (some b)
@[reducible] def xP:List AV:=[.nils]
@[reducible] def xQ(a b:Nat):CO:=xh a br b
@[reducible] def xR(a:List AOp):AI:= .call bB a
@[reducible] def xS:List RV:=xA 4
@[reducible] def xT(a:Nat):Nat × Nat × AOp:=wF 0 a
@[reducible] def xU(a b:Nat)(c:List AV)(d:Nat)(e:List (Nat × Nat × AOp)):CO:=qb a (.bslP b c d e)
@[reducible] def xV(a:Nat)(b:List AOp):CO:=qn a eM b
@[reducible] def xW(a b:List CO):AK:=qe a (qH b)
@[reducible] def xX(a b:Nat):CO:=qb a (wB b)
@[reducible] def xY(a b c:Nat):CO:=xd a b wH c
@[reducible] def xZ(a:Nat)(b:List AOp):CO:=qn a iq b
@[reducible] def x9(a b:Nat)(c:List (Nat × Nat × AOp)):CO:=xC a 1 b c
@[reducible] def ya(a:Nat):CO:=qf a 3
@[reducible] def yb(a b c:Nat):CO:=xi a b c qW
@[reducible] def yc(a:Nat)(b:List CO):AK:=wa a (.reg b)
@[reducible] def ye(a:Nat):CO:=qf a 7
@[reducible] def yf(a b:Nat):AK:=wP a b qW
@[reducible] def yg(a b:Nat)(c:BinOp)(d:Nat)(e:AOp):CO:=qJ a b (ql c d e)
@[reducible] def yh(a:List CO)(b c:AK):AK:=qe a (.seq b c)
@[reducible] def yi(a:Nat):CO:=qP a 10
@[reducible] def yj:CO:=yi 9
@[reducible] def yk(a:Nat):CO:=qP 11 a
@[reducible] def yl:CO:=yk 12
@[reducible] def ym(a b:Nat)(c:Int)(d e:Nat)(f:AK):AK:=xK (wK a b c) d e f
@[reducible] def yn(a:List UInt8):AOp:= .c (qO a)
def lh:FK:=⟨11,xI,xG (wC 2 (.c .nilp)) [wh 3,wg 4 3,qF 5 .gtr 4 2000] (yc 5 (xL (wh 6) (qb 7 (.slS 1 (.t 6) none (some (qi 2000)))) 0 7)) [wh 8,ww 9 [.nils,qy] [xT 8],wS 10 2 9,qf 2 10]⟩
theorem tp:au Tryz.prog er=some lh:=by kernel_rfl
def cM:FK:=⟨99,xS,qV (xb 4) [wh 7,wh 8,qZ 9 8,xF 10 9,qt 11 10,wE 12 11 1,qZ 13 7,xF 14 13,xy 14 12] (qC [xJ 15,qF 16 .lss 15 1,qf 17 16,wV 18 17 0,qJ 19 17 (qz 18),xx 20 17 0 19,xe 21 17 20,qJ 22 17 (qY 21),yg 23 17 .eql 22 qR,xY 24 17 23] (wP 24 4 qR) (qe [wh 25,qZ 26 25,xF 27 26,qt 28 27,xv 29 28 1,qf 5 29] (qC [wY 30,wh 31,qZ 32 31,xj 33 32,qt 34 33,wg 35 34,wI 36 30 35] (wz 36 [wh 37,qZ 38 37,xj 39 38,qt 40 39,wY 41,wn 42 1 40 41,qt 43 42,qb 44 (.conv .i64 (.t 43)),xJ 45,wl 46 .rem 44 45,qf 4 46]) (qV [wh 47,qZ 48 47,xj 49 48,wY 51,wh 52,qZ 53 52,xj 54 53,wh 62,qZ 63 62,xj 64 63,wY 66,qF 67 .mul 66 7,wE 68 67 3,wh 69,qZ 70 69,xj 71 70,wY 80,qF 81 .mul 80 29,wY 83,wh 84,qZ 85 84,xj 86 85,qt 50 49,qt 55 54,wg 56 55,wl 57 .rem 51 56,wn 58 1 50 57,qt 59 58,qb 60 (.conv .i64 (.t 59)),qF 61 .mul 60 131,qt 65 64,qt 72 71,wg 73 72,wl 74 .rem 68 73,wn 75 1 65 74,qt 76 75,qb 77 (.conv .i64 (.t 76)),qF 78 .mul 77 1117,wl 79 .add 61 78,wl 82 .add 79 81,qt 87 86,wg 88 87,wl 89 .quo 83 88,qF 90 .mul 89 53,wl 91 .add 82 90,qf 6 91] [xq 92,xq 93,qF 94 .quo 93 64,wl 95 .xor 92 94,qf 6 95] (qH [xq 96,xJ 97,wl 98 .rem 96 97,qf 4 98])))))⟩
theorem nK:au Tryz.prog bB=some cM:=by kernel_rfl
def dd:FK:=⟨12,xS,xW (xb 4) [xJ 5,wh 6,xJ 7,wg 8 7,wm 9 (wR 6 8),wn 10 1 5 9,qt 11 10,qf 4 11]⟩
theorem eZ:au Tryz.prog bc=some dd:=by kernel_rfl
def kX:FK:=⟨15,xA 6,xW (wC 6 qW) [wh 7,xJ 8,wl 9 .geq 7 8,qf 10 9,wT 11 10 0,wT 12 10 2,xE 13 10 .leq 11 (.t 12),yb 14 10 13,qf 6 14]⟩
theorem zU:au Tryz.prog iq=some kX:=by kernel_rfl
def cb:FK:=⟨28,xI,qe (xb 2) (wb 0 (qe [wh 4,wK 5 4 1,wY 3] (qu 3 (qH (xb 2)) (qe [wh 7,wK 8 7 2,qf 9 8,wV 10 9 0,yg 11 9 .eql 10 (qi 10),xY 12 9 11,qf 13 12,wV 14 13 0,yg 15 13 .eql 14 (qi 11),xY 16 13 15,qf 17 16,wV 18 17 0,yg 19 17 .eql 18 (qi 13),xY 20 17 19,qf 6 20] (qu 6 (qH (wC 2 wL)) (qe [wh 22,xZ 23 [.t 22,qi 3,qi 9],qf 24 23,wV 25 24 0,yg 26 24 .eql 25 (qi 12),xY 27 24 26,qf 21 27] (wP 21 2 (qi 2))))))) (qH (wC 2 (qi (-1)))))⟩
theorem uE:au Tryz.prog ft=some cb:=by kernel_rfl
def kC:FK:=⟨13,xI,xW (wC 2 qW) [wh 3,xZ 4 [.t 3,wL,qi 14],xt 5,wT 6 5 0,xE 7 5 .neq 6 (qi 12),yb 8 5 7,qf 9 8,wT 10 9 0,xE 11 9 .neq 10 (qi 13),yb 12 9 11,qf 2 12]⟩
theorem tY:au Tryz.prog cR=some kC:=by kernel_rfl
def iN:AK:=qV [wS 4 1 1,wd 6 [qy,qy,.nils,qy]] [wh 11,x9 12 16 [(0,1,wL),(1,1,wL),xl 2 2,xl 3 3,xl 4 4,xl 5 5,xl 6 8,xl 7 9,xl 8 10,xl 9 13,xl 10 3,xl 11 6,xl 12 7,xl 13 11,xl 14 12,xl 15 14],wG 13 (wR 11 12),qf 7 13] (qV [ye 14,wh 15,qf 16 2,wm 17 (wR 15 16),ww 18 [qy,qy,.nils,qy] [xT 14,wF 1 17],wd 8 [qy,qy,.nils,qy],qU 4 8 18] (xL (ye 19) (xh 20 ft 19) 9 20) (xH [ye 21,wK 22 21 14] (wa 22 (qC [xj 23 4,qt 24 23,wg 25 24,wK 26 25 0] (wz 26 [wh 27,qf 28 2,wm 29 (wR 27 28),x9 30 1 [xT 29],ww 31 [qy,qy,.nils,qy] [xl 0 13,xl 1 (-1),wF 2 30],qU 4 6 31]) (qe [wh 32,xj 33 4,qt 34 33,wg 35 34,wm 36 (wR 32 35),qp 37 3 8,xy 37 36] (.reg [xj 38 4,qt 39 38,qp 40 3 8,qt 41 40,wn 42 3 39 41,xj 43 42,qt 44 43,qf 9 44])))) (xH [ye 45,wK 46 45 1] (yc 46 [wh 47,x9 48 7 [(0,1,qR),(1,1,wL),xl 2 2,xl 3 3,xl 4 15,xl 5 16,xl 6 255],wG 49 (wR 47 48),qp 50 3 8,xy 50 49]) (xH [ye 51,xh 52 cR 51,xX 53 52] (yc 53 [xF 54 8,qQ 1 54 (qi (-1))]) (wJ (xb 10) (xN 0 [qf 55 10,qf 56 9,wI 57 55 56] 57 0 1 (.reg [xu 60 8,wh 62,qf 63 2,qt 61 60,wm 64 (wR 62 63),qP 60 61,xU 65 1 xB 1 [xT 64],wO 66 1 8 61 65,xu 67 8,xy 67 66]) (qf 58 10) 59 58 1 10 59) [wv 68 4 8,qU 4 6 68])))))
def iL:FK:=⟨69,[xO 6 4],(AK.whole iN)⟩
theorem ux:au Tryz.prog jh=some iL:=by kernel_rfl
def kV:FK:=⟨30,xA 6,xG (xb 6) [xJ 7,qf 8 2,xv 9 8 1,wI 10 7 9,qf 11 10,wT 12 11 0,qK 13 11 (xR (xD 12 4)),xE 14 11 .gtr 13 qR,yb 15 11 14] (wz 15 [xJ 16,wE 17 16 1,wh 18,qf 19 2,xv 20 19 1,xJ 21,wl 22 .sub 20 21,wm 23 (wR 18 22),wl 24 .add 17 23,qf 6 24]) [wh 25,qf 26 2,xv 27 26 1,wm 28 (wR 25 27),qb 29 (.bin .add wL (.t 28)),qf 6 29]⟩
theorem zA:au Tryz.prog fC=some kV:=by kernel_rfl
def iU:AK:=qV [wS 3 1 1,wd 4 [qy,qy,.nils]] [wh 10,x9 11 4 [(0,1,wL),(1,1,qR),xl 2 2,xl 3 3],wG 12 (wR 10 11),ww 13 [qy,qy,.nils] [xT 12],wd 5 [qy,qy,.nils],qU 3 5 13] (qV [xj 14 5,wh 17,qt 15 14,wE 16 15 2,wm 18 (xD 17 5),qP 14 15,wl 19 .add 16 18,xF 20 5,xy 20 19] [wh 21,x9 22 6 [xl 0 3,xl 1 5,xl 2 2,(3,1,wL),xl 4 7,xl 5 4],wG 23 (wR 21 22),qf 6 23] (wJ (xb 7) (xN 0 [ye 24,xq 25,wI 26 24 25] 26 0 1 (qe [ww 29 [.nils,.nils,qy,qy,.nils] [],wd 8 [.nils,.nils,qy,qy,.nils],qU 5 8 29] (xH [wh 30,x9 31 5 [(0,1,wL),xl 1 2,(2,1,qR),xl 3 3,xl 4 4],wG 32 (wR 30 31),qf 9 32] (xM 2 [qf 33 9,qF 34 .gtr 33 0] 34 2 3 (.reg [xF 37 8,wh 39,xF 41 5,qt 38 37,wv 40 1 3,qt 42 41,qn 43 jh [.t 39,.t 40,.t 42],qP 37 38,qL 44 4 [qy,qy,.nils,qy] 1 [wt 0 4 43],qP 37 38,wO 45 4 48 38 44,xF 46 8,xy 46 45]) (qf 35 9) (xv 36 35 1) 9 36) (qV [wh 47,xF 48 5,qt 49 48,wm 50 (wR 47 49),qp 51 3 8,xy 51 50] [wh 52,x9 53 5 [xl 0 2,(1,1,wL),xl 2 2,(3,1,wL),xl 4 3],wG 54 (wR 52 53),xu 55 8,xy 55 54] (xH [xq 56,wK 57 56 1,qf 58 57,wV 59 58 7,wV 60 58 6,yg 61 58 .sub 60 wL,yg 62 58 .eql 59 (.t 61),wV 63 58 62,wT 64 63 0,qK 65 63 (xR (xD 64 3)),xE 66 63 .gtr 65 qR,qJ 67 58 (qN 63 (.t 66) qW),xY 68 58 67] (yc 68 [xu 69 8,qQ 1 69 (qi 3)]) (xH [xu 70 8,qt 71 70] (.blk 4 (ym 73 71 1 72 73 (qu 72 (qe [qp 74 3 8,qQ 1 74 qR] (.reg [wh 75,ye 76,xq 77,qn 78 fC [.t 75,.t 76,.t 77],x9 79 1 [xT 78],qp 80 4 8,xy 80 79])) (ym 82 71 2 81 82 (yc 81 [wh 83,ye 84,xq 85,qn 86 fC [.t 83,.t 84,.t 85],wh 87,ye 88,xq 89,qn 90 fC [.t 87,.t 88,.t 89],x9 91 2 [xT 86,wF 1 90],qp 92 4 8,xy 92 91]))))) (.reg [xu 93 5,qt 94 93,wv 95 5 8,qL 96 5 [.nils,.nils,qy,qy,.nils] 1 [wt 0 5 95],wO 97 5 88 94 96,xu 98 5,xy 98 97])))))) (ye 27) 28 27 1 7 28) [wv 99 3 5,qU 3 4 99]))
def jb:FK:=⟨100,[xO 4 3],(AK.whole iU)⟩
theorem ut:au Tryz.prog iT=some jb:=by kernel_rfl
def kN:FK:=⟨43,xS,qV [wS 2 3 0,qc 4 xf] (xo (x9 8 0 []) 5 8) (wJ (xb 6) (xN 0 [xq 9,xu 10 2,qt 11 10,wg 12 11,wI 13 9 12] 13 0 1 (qe (xb 7) (xN 2 [ye 16,xu 17 2,qt 18 17,xq 19,wn 20 5 18 19,qp 21 4 20,qt 22 21,wg 23 22,wI 24 16 23] 24 2 3 (qe [xu 27 2,qt 28 27,xq 29,wn 30 5 28 29,qp 31 4 30,qt 32 31,ye 33,wn 34 1 32 33,qt 35 34,xJ 36,wl 37 .eql 35 36] (wa 37 (qe [wY 38,xq 39,x9 40 1 [xT 39],wO 41 1 8 38 40,qf 5 41] (.exit 2)))) (ye 25) 26 25 1 7 26)) (xq 14) 15 14 1 6 15) (xo (wY 42) 4 42))⟩
theorem tV:au Tryz.prog cX=some kN:=by kernel_rfl
def iV:AK:=qV [wd 2 xP] [ww 9 xP [],wd 3 xP,xy 3 9] (xH [wh 10,x9 11 4 [(0,1,wL),xl 1 2,(2,1,wL),xl 3 3],wG 12 (wR 10 11),qf 4 12] (xM 0 [xt 13,qF 14 .gtr 13 0] 14 0 1 (.reg [xj 17 3,wh 19,qt 18 17,wv 20 1 3,xa 21 iT 19 20,qP 17 18,qL 22 3 [qy,qy,.nils] 1 [wt 0 3 21],qP 17 18,wO 23 3 40 18 22,xj 24 3,xy 24 23]) (xt 15) (xv 16 15 1) 4 16) (wJ [wh 25,x9 26 4 [(0,1,qR),(1,1,qR),(2,1,wL),xl 3 3],wG 27 (wR 25 26),qf 5 27] (xM 2 [wY 28,qF 29 .gtr 28 0] 29 2 3 (qV [xj 32 3,wh 34,xj 35 3,qt 33 32,qt 36 35,wg 37 36,wm 38 (wR 34 37),qP 32 33,wn 39 3 33 38,qf 6 39] [wh 40,xq 41,qZ 42 41,xu 43 42,qt 44 43,wg 45 44,wm 46 (wR 40 45),qf 7 46] (qe [wh 47,xq 48,qZ 49 48,xF 50 49,qt 51 50,wm 52 (wR 47 51),ww 53 [qy,.nils] [xT 52],wd 8 [qy,.nils],qU 2 8 53] (xH [xq 54,qZ 55 54,wv 56 3 55,ye 57,xa 58 cX 56 57,wg 59 58,qc 60 qR] (qT 4 (yh [wI 61 60 59] (wy 61 4) (wq 5 (.reg [xF 62 8,wh 64,xq 65,qZ 66 65,xF 67 66,qt 63 62,qt 68 67,wm 69 (wR 64 68),qP 62 63,xU 70 1 xB 1 [xT 69],wO 71 1 8 63 70,xF 72 8,xy 72 71]) (xo (wE 73 60 1) 60 73)))) (qe [ye 74,qF 75 .gtr 74 0] (yc 75 [xq 76,qZ 77 76,xu 78 77,ye 80,xq 81,qZ 82 81,xu 83 82,ye 85,qt 79 78,qt 84 83,wn 86 5 84 85,xj 87 86,qt 88 87,wv 89 2 8,qL 90 2 [qy,.nils] 1 [wt 0 2 89],qP 78 79,qP 83 84,qP 87 88,wO 91 2 32 88 90,qP 78 79,wn 92 5 79 80,xj 93 92,xy 93 91]))))) (wY 30) (xv 31 30 1) 5 31) [wv 94 1 3,xy 2 94]))
def iW:FK:=⟨95,[xO 2 1],(AK.whole iV)⟩
theorem ur:au Tryz.prog dy=some iW:=by kernel_rfl
def dF:AK:=qe [wS 1 5 0,wd 2 [.nils,.nils,qy,qy,.nils]] (.cut (.ot (.one (wC 3 (.c .any)) (.one [xu 9 1] (.one [qp 11 3 1] (.one [qp 14 4 1] (.one [qt 10 9] (.one [qt 12 11] (.one [qt 15 14] (wj [qL 7 2 [qy,.nils] 0 [],yj,yl,qP 14 15] (wj [qL 8 4 [qy,qy,.nils,qy] 0 [],yj,yl,qP 14 15] (wX [x9 13 0 [],yj,yl,qP 14 15] (wX [wO 16 1 8 13 15,yj,yl] (.one [ww 17 [.nils,.nils,qy,qy,.nils] [xT 7,wF 1 8,wF 2 10,wF 3 12,wF 4 16]] (wX [wd 3 [.nils,.nils,qy,qy,.nils]] (wX [qU 5 3 17] .done))))) (wX [x9 13 0 [],yj,yl,qP 14 15] (wj [qL 8 4 [qy,qy,.nils,qy] 0 [],yj,yl,qP 14 15] (wX [wO 16 1 8 13 15,yj,yl] (.one [ww 17 [.nils,.nils,qy,qy,.nils] [xT 7,wF 1 8,wF 2 10,wF 3 12,wF 4 16]] (wX [wd 3 [.nils,.nils,qy,qy,.nils]] (wX [qU 5 3 17] .done)))) (wX [wO 16 1 8 13 15,yj,yl] (wX [qL 8 4 [qy,qy,.nils,qy] 0 [],yj,yl,qP 14 15] (.one [ww 17 [.nils,.nils,qy,qy,.nils] [xT 7,wF 1 8,wF 2 10,wF 3 12,wF 4 16]] (wX [wd 3 [.nils,.nils,qy,qy,.nils]] (wX [qU 5 3 17] .done)))))))) (wj [qL 8 4 [qy,qy,.nils,qy] 0 [],yj,yl,qP 14 15] (wj [qL 7 2 [qy,.nils] 0 [],yj,yl,qP 14 15] (wX [x9 13 0 [],yj,yl,qP 14 15] (wX [wO 16 1 8 13 15,yj,yl] (.one [ww 17 [.nils,.nils,qy,qy,.nils] [xT 7,wF 1 8,wF 2 10,wF 3 12,wF 4 16]] (wX [wd 3 [.nils,.nils,qy,qy,.nils]] (wX [qU 5 3 17] .done))))) (wX [x9 13 0 [],yj,yl,qP 14 15] (wj [qL 7 2 [qy,.nils] 0 [],yj,yl,qP 14 15] (wX [wO 16 1 8 13 15,yj,yl] (.one [ww 17 [.nils,.nils,qy,qy,.nils] [xT 7,wF 1 8,wF 2 10,wF 3 12,wF 4 16]] (wX [wd 3 [.nils,.nils,qy,qy,.nils]] (wX [qU 5 3 17] .done)))) (wX [wO 16 1 8 13 15,yj,yl] (wX [qL 7 2 [qy,.nils] 0 [],yj,yl,qP 14 15] (.one [ww 17 [.nils,.nils,qy,qy,.nils] [xT 7,wF 1 8,wF 2 10,wF 3 12,wF 4 16]] (wX [wd 3 [.nils,.nils,qy,qy,.nils]] (wX [qU 5 3 17] .done)))))))) (wX [x9 13 0 [],yj,yl,qP 14 15] (wj [qL 7 2 [qy,.nils] 0 [],yj,yl,qP 14 15] (wj [qL 8 4 [qy,qy,.nils,qy] 0 [],yj,yl,qP 14 15] (wX [wO 16 1 8 13 15,yj,yl] (.one [ww 17 [.nils,.nils,qy,qy,.nils] [xT 7,wF 1 8,wF 2 10,wF 3 12,wF 4 16]] (wX [wd 3 [.nils,.nils,qy,qy,.nils]] (wX [qU 5 3 17] .done)))) (wX [wO 16 1 8 13 15,yj,yl] (wX [qL 8 4 [qy,qy,.nils,qy] 0 [],yj,yl,qP 14 15] (.one [ww 17 [.nils,.nils,qy,qy,.nils] [xT 7,wF 1 8,wF 2 10,wF 3 12,wF 4 16]] (wX [wd 3 [.nils,.nils,qy,qy,.nils]] (wX [qU 5 3 17] .done)))))) (wj [qL 8 4 [qy,qy,.nils,qy] 0 [],yj,yl,qP 14 15] (wj [qL 7 2 [qy,.nils] 0 [],yj,yl,qP 14 15] (wX [wO 16 1 8 13 15,yj,yl] (.one [ww 17 [.nils,.nils,qy,qy,.nils] [xT 7,wF 1 8,wF 2 10,wF 3 12,wF 4 16]] (wX [wd 3 [.nils,.nils,qy,qy,.nils]] (wX [qU 5 3 17] .done)))) (wX [wO 16 1 8 13 15,yj,yl] (wX [qL 7 2 [qy,.nils] 0 [],yj,yl,qP 14 15] (.one [ww 17 [.nils,.nils,qy,qy,.nils] [xT 7,wF 1 8,wF 2 10,wF 3 12,wF 4 16]] (wX [wd 3 [.nils,.nils,qy,qy,.nils]] (wX [qU 5 3 17] .done)))))) (wX [wO 16 1 8 13 15,yj,yl] (wj [qL 7 2 [qy,.nils] 0 [],yj,yl,qP 14 15] (wX [qL 8 4 [qy,qy,.nils,qy] 0 [],yj,yl,qP 14 15] (.one [ww 17 [.nils,.nils,qy,qy,.nils] [xT 7,wF 1 8,wF 2 10,wF 3 12,wF 4 16]] (wX [wd 3 [.nils,.nils,qy,qy,.nils]] (wX [qU 5 3 17] .done)))) (wX [qL 8 4 [qy,qy,.nils,qy] 0 [],yj,yl,qP 14 15] (wX [qL 7 2 [qy,.nils] 0 [],yj,yl,qP 14 15] (.one [ww 17 [.nils,.nils,qy,qy,.nils] [xT 7,wF 1 8,wF 2 10,wF 3 12,wF 4 16]] (wX [wd 3 [.nils,.nils,qy,qy,.nils]] (wX [qU 5 3 17] .done)))))))))))))))))))) (xH (xb 4) (xN 0 [xt 18,xj 19 1,qt 20 19,wg 21 20,wI 22 18 21] 22 0 1 (.reg [xj 25 3,xj 27 1,xt 29,xj 34 1,xt 36,qt 26 25,qt 28 27,wn 30 2 28 29,xj 31 30,qt 32 31,qt 35 34,wn 37 2 35 36,xF 38 37,qt 39 38,x9 33 0 [],qP 25 26,qP 27 28,qP 31 32,qP 34 35,qP 38 39,wO 40 1 8 33 39,qP 25 26,qP 27 28,qP 31 32,ww 41 [qy,.nils] [xT 32,wF 1 40],qL 42 2 [qy,.nils] 1 [wt 0 2 41],qP 25 26,wO 43 2 32 26 42,xj 44 3,xy 44 43]) (xt 23) 24 23 1 4 24) (wJ (xb 5) (xN 2 [wY 45,xF 46 1,qt 47 46,wg 48 47,wI 49 45 48] 49 2 3 (qe [xF 52 1,qt 53 52,wY 54,wn 55 4 53 54,wv 56 4 55,wd 6 [qy,qy,.nils,qy],qU 4 6 56] (.reg [xF 57 3,xj 59 6,xF 61 6,xu 64 6,qp 67 3 6,qt 58 57,qt 60 59,qt 62 61,qt 65 64,qt 68 67,x9 63 0 [],qP 57 58,qP 59 60,qP 61 62,qP 64 65,qP 67 68,wO 66 1 8 63 65,qP 57 58,qP 59 60,qP 61 62,qP 67 68,ww 69 [qy,qy,.nils,qy] [xT 60,wF 1 62,wF 2 66,wF 3 68],qL 70 4 [qy,qy,.nils,qy] 1 [wt 0 4 69],qP 57 58,wO 71 4 48 58 70,xF 72 3,xy 72 71])) (wY 50) 51 50 1 5 51) [wv 73 5 3,qU 5 2 73])))
def dH:FK:=⟨74,[xO 2 5],(AK.whole dF)⟩
theorem mQ:au Tryz.prog dG=some dH:=by kernel_rfl
def mr:FK:=⟨29,[xO 2 3],qV [wS 1 3 0,wd 2 [qy,qy,.nils]] [xj 5 1,qt 6 5,xF 7 1,qt 8 7,ww 9 [qy,qy,.nils] [xT 6,wF 1 8],wd 3 [qy,qy,.nils],qU 3 3 9] (wJ (xb 4) (xN 0 [xt 10,xu 11 1,qt 12 11,wg 13 12,wI 14 10 13] 14 0 1 (.reg [xu 17 3,xu 19 1,xt 21,qt 18 17,qt 20 19,wn 22 5 20 21,wv 23 5 22,xh 24 dG 23,qP 17 18,qL 25 5 [.nils,.nils,qy,qy,.nils] 1 [wt 0 5 24],qP 17 18,wO 26 5 88 18 25,xu 27 3,xy 27 26]) (xt 15) 16 15 1 4 16) [wv 28 3 3,qU 3 2 28])⟩
theorem uK:au Tryz.prog iQ=some mr:=by kernel_rfl
def iF:FK:=⟨25,[xO 2 1],qV [wS 1 1 0,wd 2 xP] [ww 5 xP [],wd 3 xP,xy 3 5] (wJ (xb 4) (xN 0 [xt 6,xj 7 1,qt 8 7,wg 9 8,wI 10 6 9] 10 0 1 (.reg [xj 13 3,xj 15 1,xt 17,qt 14 13,qt 16 15,wn 18 3 16 17,wv 19 3 18,xh 20 iQ 19,qP 13 14,qL 21 3 [qy,qy,.nils] 1 [wt 0 3 20],qP 13 14,wO 22 3 40 14 21,xj 23 3,xy 23 22]) (xt 11) 12 11 1 4 12) [wv 24 1 3,xy 2 24])⟩
theorem oT:au Tryz.prog eL=some iF:=by kernel_rfl
def jf:AK:=qV [wd 2 xP] [wh 7,xh 8 dy 7,xh 9 eL 8,wd 3 xP,xy 3 9] (qV [xj 10 3,wh 12,xj 13 3,qt 11 10,qt 14 13,wg 15 14,wm 16 (wR 12 15),qP 10 11,wn 17 3 11 16,qf 4 17] [xt 18,qZ 19 18,xu 20 19,wh 22,xt 23,qZ 24 23,xu 25 24,qt 21 20,qt 26 25,wg 27 26,wm 28 (wR 22 27),qP 20 21,wn 29 5 21 28,qf 5 29] (qe [wh 30,xt 31,qZ 32 31,xF 33 32,xt 35,qZ 36 35,xu 37 36,qt 34 33,qt 38 37,wg 39 38,x9 40 5 [xl 0 (-1),wF 1 34,wF 2 39,(3,1,qR),(4,1,wL)],wG 41 (wR 30 40),qf 6 41] (xH [wh 42,wm 43 (xD 42 32)] (.blk 0 (ym 45 43 0 44 45 (qu 44 (.reg [wY 46,wh 47,wm 48 (xD 47 5),qZ 49 46,xu 50 49,xy 50 48]) (ym 52 43 1 51 52 (qu 51 (qe [wY 53,qZ 54 53,qp 55 4 54,qt 56 55,wg 57 56,qF 58 .gtr 57 0] (yc 58 [wY 59,qZ 60 59,qp 61 4 60,qt 62 61,xq 63,qb 64 (qD 1 62 qR),xy 64 63])) (ym 66 43 2 65 66 (qu 65 (.reg [wY 67,xq 68,qZ 69 67,qp 70 3 69,xy 70 68]) (ym 72 43 3 71 72 (qu 71 (qe [wY 73,qZ 74 73,xF 75 74,qt 76 75,wg 77 76,qF 78 .gtr 77 0] (yc 78 [wY 79,qZ 80 79,xF 81 80,qt 82 81,xq 83,qb 84 (qD 4 82 qR),xF 85 84,xy 85 83])) (ym 87 43 4 86 87 (qu 86 (qe [wY 88,qZ 89 88,xF 90 89,qt 91 90,wg 92 91,qF 93 .gtr 92 0] (yc 93 [wY 94,qZ 95 94,xF 96 95,wY 98,qZ 99 98,xF 100 99,xq 105,xU 106 1 xB 1 [xT 105],qt 97 96,qt 101 100,qb 102 (qD 4 101 qR),xu 103 102,qt 104 103,wO 107 1 8 104 106,qP 96 97,qb 108 (qD 4 97 qR),xu 109 108,xy 109 107])) (ym 111 43 5 110 111 (qu 110 (.reg [wY 112,wY 113,qZ 114 113,xj 115 114,qt 116 115,xq 117,x9 118 1 [xT 117],ww 119 [qy,.nils] [(0,1,qR),wF 1 118],qL 120 2 [qy,.nils] 1 [wt 0 2 119],wO 121 2 32 116 120,qZ 122 112,xj 123 122,xy 123 121]) (ym 125 43 6 124 125 (qu 124 (.reg [xt 126,xt 127,qZ 128 127,xj 129 128,wh 131,qt 130 129,wm 132 (xD 131 2),qP 129 130,wl 133 .add 130 132,qZ 134 126,xF 135 134,xy 135 133]) (ym 137 43 7 136 137 (wa 136 (qe [wY 138,qZ 139 138,xF 140 139,qt 141 140,wg 142 141,qF 143 .gtr 142 0] (yc 143 [wY 144,qZ 145 144,xF 146 145,wh 148,xU 149 1 xB 3 [xl 0 256,xl 1 (-1),(2,1,wL)],qt 147 146,wG 150 (wR 148 149),qP 146 147,qb 151 (qD 4 147 qR),qp 152 3 151,xy 152 150]))))))))))))))))))) (qH [wv 153 1 3,xy 2 153]))))
def iZ:FK:=⟨154,[xO 2 1],(AK.whole jf)⟩
theorem ug:au Tryz.prog jg=some iZ:=by kernel_rfl
def fK:FK:=⟨12,xS,xW (wC 4 (.c wo)) [xJ 5,wh 6,xJ 7,wg 8 7,wm 9 (wR 6 8),wn 10 1 5 9,qt 11 10,qf 4 11]⟩
theorem kr:au Tryz.prog bD=some fK:=by kernel_rfl
def ji:FK:=⟨21,[xO 4 4],xG [wd 4 [qy,qy,wo,.nils]] [xJ 5,wg 6 5,wK 7 6 0,ye 8,wV 9 8 0,qJ 10 8 (xR (xD 9 3)),yg 11 8 .eql 10 qR,xY 12 8 11] (wz 12 [wh 13,x9 14 10 [(0,1,qR),(1,1,wL),xl 2 2,xl 3 3,xl 4 5,xl 5 7,xl 6 15,xl 7 16,xl 8 100,xl 9 255],wG 15 (wR 13 14),ww 16 [qy,qy,wo,.nils] [(0,1,wL),wF 1 15],qU 4 4 16]) [wh 17,xJ 18,xa 19 bD 17 18,ww 20 [qy,qy,wo,.nils] [xl 0 2,wF 2 19],qU 4 4 20]⟩
theorem uI:au Tryz.prog fv=some ji:=by kernel_rfl
def fq:FK:=⟨47,[xO 6 4],qe [wd 6 [qy,qy,wo,.nils]] (qC [qf 8 2,qF 9 .lss 8 2,qf 10 9,wV 11 10 0,qJ 12 10 (xR (xD 11 4)),yg 13 10 .eql 12 qR,xY 14 10 13] (wz 14 [wh 15,xJ 16,xa 17 fv 15 16,qU 4 6 17]) (qC [wh 18,wm 19 (xD 18 7),wK 20 19 0] (wz 20 [wh 21,x9 22 3 [xl 0 11,xl 1 12,xl 2 11],wG 23 (wR 21 22),wh 24,xJ 25,qf 26 2,xv 27 26 1,qn 28 bh [.t 24,.t 25,.t 27],qL 29 4 [qy,qy,wo,.nils] 1 [wt 0 4 28],ww 30 [qy,qy,wo,.nils] [xT 23,wF 3 29],qU 4 6 30]) (xW [wh 31,x9 32 9 [xl 0 3,xl 1 3,xl 2 4,xl 3 5,xl 4 6,xl 5 7,xl 6 8,xl 7 9,xl 8 10],wG 33 (wR 31 32),qf 7 33] [ye 34,wh 35,xJ 36,qf 37 2,xv 38 37 1,qn 39 bh [.t 35,.t 36,.t 38],wh 40,xJ 41,qf 42 2,xv 43 42 1,qn 44 bh [.t 40,.t 41,.t 43],qL 45 4 [qy,qy,wo,.nils] 2 [wt 0 4 39,wt 4 4 44],ww 46 [qy,qy,wo,.nils] [xT 34,wF 3 45],qU 4 6 46])))⟩
theorem mt:au Tryz.prog bh=some fq:=by kernel_rfl
def iJ:FK:=⟨99,[xO 4 4],qV [wd 4 [qy,qy,wo,.nils]] [qc 5 (.c .any),wh 9,qZ 10 9,xj 11 10,wh 13,qZ 14 13,xu 15 14,xJ 17,qt 12 11,qt 16 15,qn 18 bh [.t 12,.t 16,.t 17],wd 5 [qy,qy,wo,.nils],qU 4 5 18] (qC [wh 19,qZ 20 19,xF 21 20,qt 22 21,wg 23 22,wK 24 23 0,qf 25 24,wV 26 25 0,qJ 27 25 (qz 26),xx 28 25 0 27,xe 29 25 28,qJ 30 25 (xR (xD 29 4)),yg 31 25 .gtr 30 qR,xY 32 25 31] (wz 32 [wv 33 4 5,qU 4 4 33]) (qV [qc 6 (.c .any),wh 34,qZ 35 34,xF 36 35,wh 38,qZ 39 38,xj 40 39,wh 42,qZ 43 42,xF 44 43,qt 37 36,qt 41 40,qt 45 44,wg 46 45,wm 47 (wR 41 46),qP 36 37,wn 48 3 37 47,wv 49 3 48,wd 6 [wo,.nils,.nils],qU 3 6 49] [xj 50 6,qt 51 50,ww 52 [qy,qy,wo,.nils] [xl 0 13,wF 2 51],wd 7 [qy,qy,wo,.nils],qU 4 7 52] (qC (xb 8) (xN 0 [qf 53 8,xF 54 6,qt 55 54,wg 56 55,wI 57 53 56] 57 0 1 (.reg [qp 60 3 7,wh 62,qZ 63 62,xj 64 63,wh 66,qZ 67 66,xu 68 67,qt 61 60,qt 65 64,qt 69 68,qn 70 bh [.t 65,.t 69,qi 2],qP 60 61,xU 71 4 [qy,qy,wo,.nils] 1 [wt 0 4 70],wO 72 4 56 61 71,qp 73 3 7,xy 73 72]) (qf 58 8) 59 58 1 8 59) (wJ [wh 74,qZ 75 74,xj 76 75,qt 77 76,wm 78 (xD 77 2),wK 79 78 0] (wz 79 [wv 80 4 7,qU 4 4 80]) [wh 81,qZ 82 81,xj 83 82,xU 85 1 xB 4 [xl 0 3,xl 1 4,xl 2 8,xl 3 10],wh 88,qZ 89 88,xj 90 89,wh 92,qZ 93 92,xu 94 93,qt 84 83,wv 87 4 7,qt 91 90,qt 95 94,wG 86 (wR 84 85),qA (some 4) 7 87,qP 90 91,qP 94 95,qn 96 bh [.t 91,.t 95,qi 2],qA (some 4) 7 87,qL 97 4 [qy,qy,wo,.nils] 2 [wt 0 4 87,wt 4 4 96],ww 98 [qy,qy,wo,.nils] [xT 86,wF 3 97],qU 4 4 98]))))⟩
theorem oy:au Tryz.prog eM=some iJ:=by kernel_rfl
def gh:FK:=⟨46,xI,qV (wC 2 (.c wo)) [wh 3,wh 4,qZ 5 4,qp 6 3 5,qt 7 6,wE 8 7 1,qZ 9 3,qp 10 3 9,xy 10 8] (wJ [wh 11,qZ 12 11,xj 13 12,qt 14 13,wm 15 (xD 14 9),wK 16 15 0,qf 17 16,wT 18 17 0,qK 19 17 (qz 18),xp 20 17 2 19,wN 21 17 20,qK 22 17 (qY 21),xE 23 17 .gtr 22 qR,yb 24 17 23] (wz 24 [wh 25,qZ 26 25,xj 27 26,wh 29,qZ 30 29,xu 31 30,qt 28 27,qt 32 31,xa 33 bD 28 32,qf 2 33]) [wh 34,qZ 35 34,qp 36 3 35,wh 39,qZ 40 39,qp 41 3 40,qt 37 36,qF 38 .rem 37 24,qt 42 41,qF 43 .rem 42 24,wE 44 43 1,qb 45 (.slStr (yn [97,98,99,100,101,103,104,105,106,107,108,109,110,112,113,114,115,116,117,118,119,120,121,122]) (some (.t 38)) (some (.t 44))),qf 2 45])⟩
theorem ni:au Tryz.prog dQ=some gh:=by kernel_rfl
def eY:FK:=⟨24,[xO 4 5],qV [wS 3 4 1,wd 4 [qy,wo,.nils,.nils,.nils]] (xL (wh 6) (xh 7 dQ 6) 5 7) (xW [wh 8,qL 9 1 [wo] 0 [],wh 10,qZ 11 10,xu 12 11,qt 13 12,wO 14 1 16 9 13,wY 15,qL 16 1 [wo] 1 [xT 15],wO 17 1 16 14 16,qZ 18 8,xu 19 18,xy 19 17] [wY 20,wv 21 4 3,qL 22 4 [qy,qy,wo,.nils] 1 [wt 0 4 21],ww 23 [qy,wo,.nils,.nils,.nils] [(0,1,wL),wF 1 20,wF 2 22],qU 5 4 23])⟩
theorem jC:au Tryz.prog cm=some eY:=by kernel_rfl
def iB:FK:=⟨14,[xO 2 4],xW [wd 2 [qy,qy,wo,.nils]] [wh 3,wh 5,qZ 6 5,xj 7 6,xU 9 1 xB 6 [xl 0 16,xl 1 16,xl 2 16,xl 3 8,xl 4 17,(5,1,qR)],qt 8 7,xV 4 (xD 3 2),qP 7 8,wG 10 (wR 8 9),ww 11 [qy,qy,wo,.nils] [(0,1,wL),wF 1 10],qL 12 4 [qy,qy,wo,.nils] 2 [wt 0 4 4,wt 4 4 11],ww 13 [qy,qy,wo,.nils] [xl 0 7,wF 3 12],qU 4 2 13]⟩
theorem nX:au Tryz.prog cL=some iB:=by kernel_rfl
def dZ:AK:=qV (wC 4 xf) [wh 9,wh 10,qZ 11 10,xj 12 11,qt 13 12,x9 14 5 [xl 0 2,xl 1 3,(2,1,wL),(3,1,qR),xl 4 5],wG 15 (wR 13 14),ww 16 [qy,qy,wo,.nils] [(0,1,wL),wF 1 15],xa 17 cm 9 16,wd 5 [qy,wo,.nils,.nils,.nils],qU 5 5 17] (qV [xF 18 5,qt 19 18,ww 20 [qy,qy,wo,.nils] [xl 0 2,wF 2 19],wd 6 [qy,qy,wo,.nils],qU 4 6 20] [wh 21,xJ 22,xv 23 22 1,xa 24 aO 21 23,qf 7 24] (qe [xF 25 5,qt 26 25,wv 27 4 6,ww 28 [qy,qy,wo,.nils] [(0,1,wL),(1,1,wL)],qL 29 4 [qy,qy,wo,.nils] 2 [wt 0 4 27,wt 4 4 28],ww 30 [qy,qy,wo,.nils] [xl 0 4,wF 3 29],qL 31 4 [qy,qy,wo,.nils] 1 [wt 0 4 30],ww 32 [qy,wo,.nils,.nils,.nils] [xl 0 2,wF 1 26,wF 2 31],wd 8 [qy,wo,.nils,.nils,.nils],qU 5 8 32] (.cut (.reg [wh 33,wh 34,qZ 35 34,qp 36 4 35,qt 37 36,xv 38 37 2,qZ 39 33,qp 40 4 39,xy 40 38]) (qH [ye 44,wv 41 5 5,wv 42 4 6,xU 43 4 [qy,qy,wo,.nils] 1 [wt 0 4 42],wv 45 5 8,xU 46 5 [qy,wo,.nils,.nils,.nils] 1 [wt 0 5 45],wO 47 5 96 44 46,qA (some 5) 5 41,qA (some 4) 6 42,ww 48 [qy,wo,.nils,.nils,.nils] [xl 0 6,wF 2 43,wF 3 47],qL 49 5 [qy,wo,.nils,.nils,.nils] 2 [wt 0 5 41,wt 5 5 48],qf 4 49]))))
def eD:FK:=⟨50,xS,(AK.whole dZ)⟩
theorem om:au Tryz.prog ew=some eD:=by kernel_rfl
def iD:FK:=⟨128,xS,qV (wC 4 xf) [wh 7,wh 8,qZ 9 8,qp 10 4 9,qt 11 10,xv 12 11 1,qZ 13 7,qp 14 4 13,xy 14 12] (qe [wh 15,qZ 16 15,xj 17 16,qt 18 17,wm 19 (xD 18 13),qf 5 19] (wb 0 (qe [wY 21,qF 22 .lss 21 3,qf 23 22,wT 24 23 0,qK 25 23 (qz 24),xp 26 23 2 25,wN 27 23 26,qK 28 23 (qY 27),xE 29 23 .gtr 28 qR,yb 30 23 29,qf 20 30] (qu 20 (qH [wh 31,qZ 32 31,xj 33 32,wh 35,qZ 36 35,xu 37 36,wh 40,qt 34 33,qt 38 37,xa 39 bD 34 38,xV 41 (xD 40 3),qL 42 4 [qy,qy,wo,.nils] 1 [wt 0 4 41],ww 43 [qy,wo,.nils,.nils,.nils] [xl 0 2,wF 1 39,wF 2 42],qL 44 5 [qy,wo,.nils,.nils,.nils] 1 [wt 0 5 43],qf 4 44]) (qe (xL (wY 46) (qF 47 .lss 46 5) 45 47) (qu 45 (qH [wh 48,wh 49,xV 50 (xD 49 3),xa 51 cm 48 50,qL 52 5 [qy,wo,.nils,.nils,.nils] 1 [wt 0 5 51],qf 4 52]) (qe [wY 54,qF 55 .lss 54 7,qf 56 55,wV 57 56 1,yg 58 56 .lss 57 (qi 2),xY 59 56 58,qf 53 59] (qu 53 (qH [wh 60,xV 61 (xD 60 3),qL 62 4 [qy,qy,wo,.nils] 1 [wt 0 4 61],ww 63 [qy,wo,.nils,.nils,.nils] [xl 0 3,wF 2 62],qL 64 5 [qy,wo,.nils,.nils,.nils] 1 [wt 0 5 63],qf 4 64]) (qe (xL (wY 66) (wK 67 66 7) 65 67) (qu 65 (qH [wh 68,xh 69 cL 68,wh 70,xV 71 (xD 70 2),qL 72 4 [qy,qy,wo,.nils] 2 [wt 0 4 69,wt 4 4 71],ww 73 [qy,wo,.nils,.nils,.nils] [xl 0 4,wF 2 72],qL 74 5 [qy,wo,.nils,.nils,.nils] 1 [wt 0 5 73],qf 4 74]) (qe (xL (wY 76) (wK 77 76 8) 75 77) (qu 75 (qH [wh 78,xh 79 cL 78,qL 80 4 [qy,qy,wo,.nils] 1 [wt 0 4 79],ww 81 [qy,qy,wo,.nils] [xl 0 12,wF 3 80],qL 82 4 [qy,qy,wo,.nils] 1 [wt 0 4 81],ww 83 [qy,wo,.nils,.nils,.nils] [xl 0 3,wF 2 82],qL 84 5 [qy,wo,.nils,.nils,.nils] 1 [wt 0 5 83],qf 4 84]) (qe (xL (wY 86) (qF 87 .lss 86 11) 85 87) (qu 85 (xG [wh 88,xV 89 (xD 88 3),qL 90 4 [qy,qy,wo,.nils] 1 [wt 0 4 89],wh 91,xJ 92,xv 93 92 1,xa 94 aO 91 93,ww 95 [qy,wo,.nils,.nils,.nils] [xl 0 5,wF 2 90,wF 3 94],wd 6 [qy,wo,.nils,.nils,.nils],qU 5 6 95] [wh 96,qZ 97 96,xj 98 97,qt 99 98,wm 100 (xD 99 2),wK 101 100 0] (yc 101 [wh 102,xJ 103,xv 104 103 1,xa 105 aO 102 104,qp 106 4 6,xy 106 105]) (xL (wv 107 5 6) (qL 108 5 [qy,wo,.nils,.nils,.nils] 1 [wt 0 5 107]) 4 108)) (qe [wY 110,wK 111 110 11,qf 112 111,wT 113 112 0,qK 114 112 (qz 113),xp 115 112 0 114,wN 116 112 115,qK 117 112 (xR (xD 116 3)),xE 118 112 .eql 117 qR,yb 119 112 118,qf 109 119] (wz 109 [wh 120,xV 121 (xD 120 2),qL 122 4 [qy,qy,wo,.nils] 1 [wt 0 4 121],ww 123 [qy,wo,.nils,.nils,.nils] [xl 0 7,wF 2 122],qL 124 5 [qy,wo,.nils,.nils,.nils] 1 [wt 0 5 123],qf 4 124])))))))))))))) (qH [wh 125,xJ 126,xa 127 ew 125 126,qf 4 127])))⟩
theorem oA:au Tryz.prog eA=some iD:=by kernel_rfl
def gm:FK:=⟨40,xS,qV (wC 4 xf) [wh 8,qZ 9 8,xu 10 9,qt 11 10,qf 5 11] (xK (qL 12 5 [qy,wo,.nils,.nils,.nils] 0 []) 6 12 (qC [wh 13,qZ 14 13,xj 15 14,qt 16 15,x9 17 4 [xl 0 2,xl 1 3,(2,1,wL),xl 3 4],wG 18 (wR 16 17),qf 7 18] (xM 0 [ye 19,qF 20 .gtr 19 0,qf 21 20,wT 22 21 0,qK 23 21 (qz 22),xp 24 21 4 23,wN 25 21 24,xE 26 21 .gtr 25 qR,yb 27 21 26] 27 0 1 (.reg [xq 30,wh 31,xJ 32,xa 33 eA 31 32,wO 34 5 96 30 33,qf 6 34]) (ye 28) (xv 29 28 1) 7 29) (xW [wh 35,wY 36,qZ 37 35,xu 38 37,xy 38 36] (xo (xq 39) 4 39))))⟩
theorem nB:au Tryz.prog aO=some gm:=by kernel_rfl
def fI:AK:=qV [wd 6 [wo,.nils,.nils]] [wh 8,qL 9 1 [wo] 3 [(0,1,yn [97]),(1,1,yn [98]),(2,1,yn [99])],qf 10 2,qb 11 (.slS 1 (.t 9) none (some (.t 10))),qZ 12 8,xu 13 12,xy 13 11] (qe [wh 14,qf 15 2,xv 16 15 1,qZ 17 14,qp 18 3 17,xy 18 16] (.cut (.reg [xJ 19,qL 20 1 [wo] 0 [],wh 21,qZ 22 21,xu 23 22,qt 24 23,wO 25 1 16 20 24,ww 26 [wo,.nils,.nils] [xT 19,wF 1 25],wd 7 [wo,.nils,.nils],qU 3 7 26]) (xG [wh 27,qn 28 aO (xD 27 3),xu 29 7,xy 29 28] [wh 30,qZ 31 30,qp 32 4 31,qt 33 32,qF 34 .gtr 33 0,qf 35 34,wT 36 35 0,qK 37 35 (qz 36),xp 38 35 0 37,wN 39 35 38,qK 40 35 (xR (xD 39 4)),xE 41 35 .gtr 40 qR,yb 42 35 41] (wa 42 (qe [wh 43,wh 44,qZ 45 44,qp 46 4 45,qt 47 46,xv 48 47 1,qZ 49 43,qp 50 4 49,xy 50 48] (.reg [xu 51 7,wh 53,qt 52 51,xV 54 (xD 53 2),qP 51 52,xU 55 4 [qy,qy,wo,.nils] 1 [wt 0 4 54],ww 56 [qy,wo,.nils,.nils,.nils] [xl 0 7,wF 2 55],xU 57 5 [qy,wo,.nils,.nils,.nils] 1 [wt 0 5 56],wO 58 5 96 52 57,xu 59 7,xy 59 58]))) [wv 60 3 7,qU 3 6 60])))
def fN:FK:=⟨61,[xO 6 3],(AK.whole fI)⟩
theorem rq:au Tryz.prog dC=some fN:=by kernel_rfl
def lq:FK:=⟨18,xS,xG (xb 4) (xb 5) (xN 0 [wY 6,wh 7,qb 8 (.len true (.t 7)),wI 9 6 8] 9 0 1 (qe [wh 12,wY 13,qb 14 (.idxStr (.t 12) (.t 13)),xJ 15,wl 16 .eql 14 15] (wz 16 (xo (wY 17) 4 17))) (wY 10) 11 10 1 5 11) (wC 4 (qi (-1)))⟩
theorem sP:au Tryz.prog gX=some lq:=by kernel_rfl
def la:FK:=⟨28,xI,qe (xb 2) (wb 0 (qe [wh 4,qv 5 .geq 4 (.c (qd .u8 97)),wY 6,wT 7 6 0,xE 8 6 .leq 7 (.c (qd .u8 122)),yb 9 6 8,qf 3 9] (qu 3 (qH (wC 2 wL)) (qe [wh 11,qv 12 .geq 11 (.c (qd .u8 48)),qf 13 12,wT 14 13 0,xE 15 13 .leq 14 (.c (qd .u8 57)),yb 16 13 15,qf 10 16] (qu 10 (qH (wC 2 (qi 2))) (qe [wh 18,qn 19 gX [yn [40,41,123,125,59,44,43,45,42,47,37,60,61,38,33,64],.t 18],qF 20 .geq 19 0,qf 17 20] (qu 17 (qH (wC 2 (qi 3))) (qe [wh 22,qv 23 .eql 22 (.c (qd .u8 32)),qf 24 23,wV 25 24 0,yg 26 24 .eql 25 (.c (qd .u8 10)),xY 27 24 26,qf 21 27] (wP 21 2 (qi 4))))))))) (qH (xb 2)))⟩
theorem tw:au Tryz.prog gL=some la:=by kernel_rfl
def oI:FK:=⟨21,xS,xG (wC 4 qW) (xb 5) (xN 0 [wY 6,wh 7,qb 8 (.len true (.t 7)),wI 9 6 8] 9 0 1 (qe [wh 12,wY 13,qb 14 (.idxStr (.t 12) (.t 13)),xh 15 gL 14,xJ 16,wl 17 .neq 15 16] (yf 17 4)) (wY 10) 11 10 1 5 11) [wh 18,qb 19 (.len true (.t 18)),qF 20 .gtr 19 0,qf 4 20]⟩
theorem yY:au Tryz.prog jU=some oI:=by kernel_rfl
def ky:FK:=⟨2,xA 0,xW (wC 0 xf) (xo (qL 1 1 [wo] 9 [(0,1,yn [102,110]),(1,1,yn [108,101,116]),(2,1,yn [115,97,121]),(3,1,yn [112,117,116]),(4,1,yn [105,102]),(5,1,yn [101,108,115,101]),(6,1,yn [108,111,111,112]),(7,1,yn [98,97,99,107]),(8,1,yn [100,111])]) 0 1)⟩
theorem rk:au Tryz.prog dA=some ky:=by kernel_rfl
def nY:FK:=⟨18,xI,qV (wC 2 qW) [qn 5 dA [],wY 3] (wJ (xb 4) (xN 0 [xt 6,ya 7,wg 8 7,wI 9 6 8] 9 0 1 (qe [ya 12,xt 13,wn 14 1 12 13,qt 15 14,wh 16,qb 17 (.bins .eql (.t 15) (.t 16))] (wP 17 2 wH)) (xt 10) 11 10 1 4 11) (wC 2 qW))⟩
theorem yC:au Tryz.prog jW=some nY:=by kernel_rfl
def mu:FK:=⟨15,xI,xW (wC 2 qW) [wh 3,qn 4 jU (wQ 3 wL),xt 5,wT 6 5 0,qK 7 5 (.len true (.t 6)),xE 8 5 .leq 7 (qi 4),yb 9 5 8,qf 10 9,wT 11 10 0,qK 12 10 (.call jW (xg 11)),qK 13 10 (wB 12),yb 14 10 13,qf 2 14]⟩
theorem uq:au Tryz.prog bK=some mu:=by kernel_rfl
def je:FK:=⟨5,xI,xG (xb 2) [wh 3,wK 4 3 4] (wP 4 2 (qi 2)) (wC 2 wL)⟩
theorem uB:au Tryz.prog fj=some je:=by kernel_rfl
def bZ:FK:=⟨13,[.t 2,.t 3],xG [qc 2 qR,qc 3 qR] [wh 4] (.blk 0 (qC (xo (wK 6 4 1) 5 6) (qu 5 .skip (.reg (xo (wK 7 4 2) 5 7))) (qu 5 (qH [qc 2 qR,qc 3 qR]) (qC (xo (wK 9 4 11) 8 9) (qu 8 .skip (.reg (xo (wK 10 4 12) 8 10))) (qu 8 (qH [qc 2 wL,qc 3 wL]) (ym 12 4 13 11 12 (wz 11 [qc 2 qR,qc 3 (qi 3)]))))))) [qc 2 (qi 2),qc 3 (qi 2)]⟩
theorem uG:au Tryz.prog fz=some bZ:=by kernel_rfl
def fe:FK:=⟨86,xS,qV [wS 2 4 0,qc 4 qW] [xj 10 2,qt 11 10,xh 12 fz 11,qf 9 12,qb 13 (.ext 0 (.t 9)),qb 14 (.ext 1 (.t 9)),qf 5 13,qf 6 14] (qC [xJ 15,qF 16 .lss 15 1,qf 17 16,xx 18 17 0 2,xe 19 17 18,qJ 20 17 (xm [.t 19,wL,qi 13]),qJ 21 17 (wB 20),xY 22 17 21,qf 23 22,xx 24 23 3 2,xe 25 23 24,qJ 26 23 (qY 25),wV 27 23 5,wV 28 23 6,qJ 29 23 (xm [.t 26,.t 27,.t 28]),qJ 30 23 (wB 29),xY 31 23 30] (yf 31 4) (qe [xj 32 2,qt 33 32,wK 34 33 2,qf 35 34,xx 36 35 0 2,xe 37 35 36,yg 38 35 .eql 37 (qi 13),xY 39 35 38,qf 7 39] (qC [ye 40,xu 41 2,qt 42 41,xh 43 bK 42,qb 44 (.beq true (.t 40) (.t 43)),qf 45 44,wV 46 45 7,qJ 47 45 (wB 46),wV 48 45 47,xp 49 48 2 2,wN 50 48 49,qK 51 48 (.bins .neq (.t 50) (.c wo)),qJ 52 45 (qN 48 (.t 51) qW),xY 53 45 52,qf 54 53,xx 55 54 1 2,xe 56 54 55,qJ 57 54 (xm [.t 56,qR,qi 255]),qJ 58 54 (wB 57),xY 59 54 58,qf 60 59,xx 61 60 0 2,xe 62 60 61,yg 63 60 .neq 62 wL,wV 64 60 63,xp 65 64 1 2,wN 66 64 65,xE 67 64 .neq 66 qR,qJ 68 60 (qN 64 (.t 67) qW),xY 69 60 68] (yf 69 4) (wJ (xb 8) (xN 0 [qf 70 8,qp 71 3 2,qt 72 71,wg 73 72,wI 74 70 73] 74 0 1 (qe [qp 77 3 2,qt 78 77,qf 79 8,wn 80 4 78 79,wv 81 4 80,xJ 82,xv 83 82 1,xa 84 dx 81 83,xX 85 84] (yf 85 4)) (qf 75 8) 76 75 1 8 76) (wC 4 wH)))))⟩
theorem mq:au Tryz.prog dx=some fe:=by kernel_rfl
def kK:FK:=⟨21,xI,qV [wS 1 4 0,qc 2 qR] (wC 3 wL) (wJ (xb 4) (xN 0 [xt 5,qp 6 3 1,qt 7 6,wg 8 7,wI 9 5 8] 9 0 1 (.reg [ya 12,qp 13 3 1,qt 14 13,xt 15,wn 16 4 14 15,wv 17 4 16,xh 18 eg 17,wl 19 .add 12 18,qf 3 19]) (xt 10) 11 10 1 4 11) (xo (ya 20) 2 20))⟩
theorem tG:au Tryz.prog eg=some kK:=by kernel_rfl
def jI:FK:=⟨10,xI,xW [wS 1 4 0,qc 2 qW] [wv 3 4 1,qn 4 dx (xD 3 6),xt 5,qK 6 5 (qX 4 1),qK 7 5 (.call eg (xg 6)),xE 8 5 .leq 7 (qi 30),yb 9 5 8,qf 2 9]⟩
theorem pk:au Tryz.prog de=some jI:=by kernel_rfl
def fy:FK:=⟨108,xS,qe [wS 2 5 0,qc 4 qW] (qC [xJ 7,qF 8 .lss 7 1,qf 9 8,xx 10 9 0 2,xe 11 9 10,qJ 12 9 (xm [.t 11,wL,qi 8]),qJ 13 9 (wB 12),xY 14 9 13,qf 15 14,xx 16 15 2 2,xx 19 15 0 2,xe 17 15 16,qJ 18 15 (qY 17),xe 20 15 19,qJ 21 15 (.qcall fj (xg 20)),yg 22 15 .neq 18 (.t 21),xY 23 15 22] (yf 23 4) (qe [xj 24 2,qt 25 24,wK 26 25 1,qf 27 26,xx 28 27 0 2,xe 29 27 28,yg 30 27 .eql 29 (qi 2),xY 31 27 30,qf 5 31] (qC [wY 32,xF 33 2,qt 34 33,xh 35 bK 34,qb 36 (.beq true (.t 32) (.t 35)),qf 37 36,wV 38 37 5,qJ 39 37 (wB 38),wV 40 37 39,xp 41 40 1 2,wN 42 40 41,qK 43 40 (.bins .neq (.t 42) (.c wo)),qJ 44 37 (qN 40 (.t 43) qW),xY 45 37 44] (yf 45 4) (qC (xb 6) (xN 0 [xq 46,xu 47 2,qt 48 47,wg 49 48,wI 50 46 49] 50 0 1 (qe [xu 53 2,qt 54 53,xq 55,wn 56 4 54 55,wv 57 4 56,xh 58 de 57,xX 59 58] (yf 59 4)) (xq 51) 52 51 1 6 52) (qC [xj 60 2,qt 61 60,wK 62 61 8,qf 63 62,xp 64 63 2 2,wN 65 63 64,qK 66 63 (qD 4 65 qR),xp 67 63 0 66,wN 68 63 67,xE 69 63 .neq 68 (qi 13),yb 70 63 69] (yf 70 4) (wJ [qp 71 4 2,qt 72 71,wg 73 72,qF 74 .gtr 73 0,qf 75 74,xp 76 75 0 2,wN 77 75 76,xE 78 75 .neq 77 (qi 5),yb 79 75 78,qf 80 79,xx 81 80 3 2,xe 82 80 81,qJ 83 80 (qY 82),yg 84 80 .gtr 83 qR,wV 85 80 84,xp 86 85 0 2,wN 87 85 86,xE 88 85 .neq 87 (qi 5),qJ 89 80 (qN 85 (.t 88) qW),wV 90 80 89,xp 91 90 0 2,wN 92 90 91,xE 93 90 .neq 92 (qi 6),qJ 94 80 (qN 90 (.t 93) qW),xY 95 80 94] (yf 95 4) [qp 96 3 2,qt 97 96,xJ 98,xv 99 98 1,xa 100 bx 97 99,qf 101 100,xp 102 101 4 2,wN 103 101 102,wT 104 101 1,xE 105 101 .sub 104 wL,qK 106 101 (.call bx (wR 103 105)),yb 107 101 106,qf 4 107]))))))⟩
theorem mw:au Tryz.prog fA=some fy:=by kernel_rfl
def kP:FK:=⟨19,xS,xG (wC 4 qW) (xb 5) (xN 0 [wY 6,wh 7,wg 8 7,wI 9 6 8] 9 0 1 (qe [wh 12,wY 13,wn 14 5 12 13,wv 15 5 14,xJ 16,xa 17 fA 15 16,xX 18 17] (yf 18 4)) (wY 10) 11 10 1 5 11) (wC 4 wH)⟩
theorem sD:au Tryz.prog bx=some kP:=by kernel_rfl
def rf:FK:=⟨32,xI,xG [wS 1 3 0,qc 2 qW] (xb 3) (xN 0 [ya 4,xF 5 1,qt 6 5,wg 7 6,wI 8 4 7] 8 0 1 (qe [xF 11 1,qt 12 11,ya 13,wn 14 1 12 13,qt 15 14,xh 16 bK 15,xX 17 16] (yf 17 2)) (ya 9) 10 9 1 3 10) [xj 18 1,qt 19 18,xh 20 bK 19,qf 21 20,xp 22 21 1 1,wN 23 21 22,qK 24 21 (qY 23),xE 25 21 .leq 24 (qi 3),yb 26 21 25,qf 27 26,xp 28 27 2 1,wN 29 27 28,qK 30 27 (.call bx (xD 29 4)),yb 31 27 30,qf 2 31]⟩
theorem zl:au Tryz.prog kM=some rf:=by kernel_rfl
def gT:FK:=⟨29,xI,qV (xb 2) [wh 5,wg 6 5,xq 3] (wJ (xb 4) (xN 0 [xt 7,wh 8,wg 9 8,wI 10 7 9] 10 0 1 (.reg [ya 13,wh 14,xt 15,wn 16 5 14 15,qp 17 3 16,wh 21,xt 22,wn 23 5 21 22,qp 24 4 23,qt 18 17,qt 25 24,xh 19 cW 18,qP 24 25,wl 20 .add 13 19,xh 26 cW 25,wl 27 .add 20 26,qf 3 27]) (xt 11) 12 11 1 4 12) (xo (ya 28) 2 28))⟩
theorem kT:au Tryz.prog cW=some gT:=by kernel_rfl
def nN:FK:=⟨22,xI,qV [wS 1 1 0,qc 2 qR] (xb 3) (wJ (xb 4) (xN 0 [xt 5,xj 6 1,qt 7 6,wg 8 7,wI 9 5 8] 9 0 1 (.reg [ya 12,xj 13 1,qt 14 13,xt 15,wn 16 3 14 15,xu 17 16,qt 18 17,xh 19 cW 18,wl 20 .add 12 19,qf 3 20]) (xt 10) 11 10 1 4 11) (xo (ya 21) 2 21))⟩
theorem yJ:au Tryz.prog jV=some nN:=by kernel_rfl
def fT:FK:=⟨26,xI,qe [wS 1 1 0,qc 2 qW] (qC [xj 4 1,qt 5 4,wg 6 5,xZ 7 [.t 6,wL,qi 4],xX 8 7] (yf 8 2) (wJ (xb 3) (xN 0 [ya 9,xj 10 1,qt 11 10,wg 12 11,wI 13 9 12] 13 0 1 (qe [xj 16 1,qt 17 16,ya 18,wn 19 3 17 18,wv 20 3 19,xh 21 kM 20,xX 22 21] (yf 22 2)) (ya 14) 15 14 1 3 15) [wv 23 1 1,xh 24 jV 23,qF 25 .leq 24 40,qf 2 25]))⟩
theorem mi:au Tryz.prog dk=some fT:=by kernel_rfl
def mA:FK:=⟨69,[xO 2 1],qV [wd 2 xP] [wh 8,wh 9,x9 10 4 [xl 0 14,xl 1 20,xl 2 8,xl 3 26],wG 11 (wR 9 10),ww 12 [.nilp,.nils,.nils,qy,qy] [xT 8,wF 4 11],wS 13 5 12,qf 3 13] (qC [wh 14,x9 15 4 [(0,1,qR),(1,1,wL),(2,1,wL),xl 3 2],wG 16 (wR 14 15),qf 4 16] (xM 0 [xt 17,qF 18 .gtr 17 0] 18 0 1 (qe [qc 5 (.c .any),ya 21,xU 22 1 [wo] 3 [(0,1,yn [102]),(1,1,yn [103]),(2,1,yn [104])],ya 23,qZ 24 23,xF 25 24,wh 30,qt 26 25,wg 27 26,wn 28 1 22 27,qt 29 28,wm 31 (xD 30 3),qP 25 26,qP 28 29,qn 32 dC [.t 21,.t 29,.t 31],wd 5 [wo,.nils,.nils],qU 3 5 32] (.reg [ya 33,ya 34,qZ 35 34,xF 36 35,qt 37 36,wv 38 3 5,xU 39 3 [wo,.nils,.nils] 1 [wt 0 3 38],wO 40 3 64 37 39,qZ 41 33,xF 42 41,xy 42 40])) (xt 19) (xv 20 19 1) 4 20) (qV [ya 43,wh 44,x9 45 4 [(0,1,qR),(1,1,wL),xl 2 2,(3,1,wL)],wG 46 (wR 44 45),qn 47 dC [.t 43,yn [109],.t 46],wd 6 [wo,.nils,.nils],qU 3 6 47] [qc 7 (.c .any),ya 49,qZ 50 49,xF 51 50,qt 52 51,wv 54 3 6,xU 55 3 [wo,.nils,.nils] 1 [wt 0 3 54],qL 48 3 [wo,.nils,.nils] 0 [],qP 51 52,qA (some 3) 6 54,wO 53 3 64 48 52,qA (some 3) 6 54,wO 56 3 64 53 55,ww 57 xP [xT 56],wd 7 xP,xy 7 57] (wJ [wv 58 1 7,xh 59 dk 58,xX 60 59] (wz 60 [ww 61 [qy,qy,wo,.nils] [(0,1,wL),(1,1,wL)],qL 62 4 [qy,qy,wo,.nils] 1 [wt 0 4 61],ww 63 [qy,wo,.nils,.nils,.nils] [xl 0 3,wF 2 62],qL 64 5 [qy,wo,.nils,.nils,.nils] 1 [wt 0 5 63],ww 65 [wo,.nils,.nils] [(0,1,yn [109]),wF 2 64],qL 66 3 [wo,.nils,.nils] 1 [wt 0 3 65],ww 67 xP [xT 66],xy 2 67]) [wv 68 1 7,xy 2 68])))⟩
theorem uy:au Tryz.prog fw=some mA:=by kernel_rfl
def lm:FK:=⟨4,xI,xG (xb 2) [wh 3] (wP 3 2 wL) (xb 2)⟩
theorem tZ:au Tryz.prog gA=some lm:=by kernel_rfl
def jd:FK:=⟨35,xI,qV (xb 2) (xb 3) (wJ (xb 4) (xN 0 [xt 5,wh 6,wg 7 6,wI 8 5 7] 8 0 1 (.reg [ya 11,wh 12,xt 13,wn 14 5 12 13,xj 15 14,wh 20,xt 21,wn 22 5 20 21,qp 23 3 22,wh 27,xt 28,wn 29 5 27 28,qp 30 4 29,qt 16 15,wK 17 16 1,qt 24 23,qt 31 30,xh 18 gA 17,qP 23 24,qP 30 31,wl 19 .add 11 18,xh 25 dw 24,qP 30 31,wl 26 .add 19 25,xh 32 dw 31,wl 33 .add 26 32,qf 3 33]) (xt 9) 10 9 1 4 10) (xo (ya 34) 2 34))⟩
theorem mo:au Tryz.prog dw=some jd:=by kernel_rfl
def dJ:FK:=⟨25,xI,qV (xb 2) [wh 3,wh 4,qZ 5 4,xF 6 5,xu 7 6,qt 8 7,qL 9 2 [qy,.nils] 0 [],qL 10 4 [qy,qy,.nils,qy] 0 [],x9 11 0 [],ww 12 [.nils,.nils,qy,qy,.nils] [xT 9,wF 1 10,wF 4 11],qL 13 5 [.nils,.nils,qy,qy,.nils] 1 [wt 0 5 12],wO 14 5 88 8 13,qZ 15 3,xF 16 15,xu 17 16,xy 17 14] (qH [wh 18,qZ 19 18,xF 20 19,xu 21 20,qt 22 21,wg 23 22,xv 24 23 1,qf 2 24])⟩
theorem gJ:au Tryz.prog bP=some dJ:=by kernel_rfl
def iz:FK:=⟨37,[],qV [wh 11,qZ 12 11,xF 13 12,xu 14 13,wh 16,qZ 17 16,qp 18 4 17,qt 15 14,qt 19 18,wn 20 5 15 19,qf 10 20] [qf 21 10,xJ 22,qZ 23 21,xu 24 23,xy 24 22] (qV [qf 25 10,qf 26 2,qZ 27 25,qp 28 3 27,xy 28 26] [qf 29 10,ya 30,qZ 31 29,qp 32 4 31,xy 32 30] (.reg [wh 33,xt 34,qZ 35 33,qp 36 4 35,xy 36 34]))⟩
theorem nF:au Tryz.prog bk=some iz:=by kernel_rfl
def gD:FK:=⟨19,xI,qV (xb 2) [wh 3,wh 4,qZ 5 4,xF 6 5,xF 7 6,qt 8 7,wE 9 8 1,qZ 10 3,xF 11 10,xF 12 11,xy 12 9] (qH [wh 13,qZ 14 13,xF 15 14,xF 16 15,qt 17 16,xv 18 17 1,qf 2 18])⟩
theorem nh:au Tryz.prog br=some gD:=by kernel_rfl
def fb:FK:=⟨37,xA 10,qV (xb 10) [wh 12,qZ 13 12,xF 14 13,xu 15 14,wh 17,qZ 18 17,qp 19 4 18,qt 16 15,qt 20 19,wn 21 5 16 20,qf 11 21] (xW [qf 22 11,qf 23 11,qZ 24 23,xF 25 24,qt 26 25,xJ 27,qf 28 2,xt 29,ya 30,ww 31 [qy,qy,.nils,qy] [xT 27,wF 1 28,wF 2 29,wF 3 30],qL 32 4 [qy,qy,.nils,qy] 1 [wt 0 4 31],wO 33 4 48 26 32,qZ 34 22,xF 35 34,xy 35 33] (xo (qf 36 2) 10 36))⟩
theorem oX:au Tryz.prog bM=some fb:=by kernel_rfl
def eV:FK:=⟨34,xS,xG (xb 4) [wh 6,qZ 7 6,qp 8 5 7,qt 9 8,wg 10 9,xv 11 10 1,qf 5 11] (xM 0 [wY 12,qF 13 .geq 12 0] 13 0 1 (qe [wh 16,qZ 17 16,qp 18 5 17,qt 19 18,wY 20,wn 21 3 19 20,xj 22 21,qt 23 22,xJ 24,qb 25 (.bins .eql (.t 23) (.t 24))] (wz 25 [wh 26,qZ 27 26,qp 28 5 27,qt 29 28,wY 30,wn 31 3 29 30,xF 32 31,qt 33 32,qf 4 33])) (wY 14) (xv 15 14 1) 5 15) (wC 4 (qi (-1)))⟩
theorem pu:au Tryz.prog cZ=some eV:=by kernel_rfl
def jG:FK:=⟨56,xS,qV [wS 3 4 1,qc 4 qR] [wh 11,qp 12 3 3,qt 13 12,qb 14 (qD 4 13 qR),wv 15 4 14,xa 16 aW 11 15,qf 5 16] (qV [wh 17,wh 18,xQ 19 18,x9 20 0 [],xc 21 [.t 17,wL,.t 19,qR,.t 20],qf 6 21] (xL (wh 22) (xr 23 22) 7 23) (qV (xL (wh 24) (xr 25 24) 8 25) [wh 26,wY 27,ye 28,qf 29 8,x9 30 2 [xT 28,wF 1 29],ye 31,xz 32 [.t 26,qi 2,.t 27,.t 30,.t 31]] (qV [wh 33,qp 34 3 3,qt 35 34,qb 36 (qD 4 35 wL),wv 37 4 36,xa 38 aW 33 37,qf 9 38] [wh 39,wh 40,xQ 41 40,qf 42 9,x9 43 1 [xT 42],xc 44 [.t 39,qi 10,.t 41,qR,.t 43],qf 10 44] (qV [wh 45,xq 46,qf 47 10,x9 48 1 [xT 47],xc 49 [.t 45,qi 10,.t 46,qR,.t 48]] [wh 50,qf 51 8,x9 52 1 [xT 51],qf 53 8,xz 54 [.t 50,wL,qR,.t 52,.t 53]] (qH (xo (xq 55) 4 55))))))⟩
theorem pM:au Tryz.prog eW=some jG:=by kernel_rfl
def pY:FK:=⟨22,xS,xG [wS 2 1 0,qc 4 qR] (xb 5) (xN 0 [wY 6,xj 7 2,qt 8 7,wg 9 8,wI 10 6 9] 10 0 1 (qe [xj 13 2,qt 14 13,wY 15,wn 16 3 14 15,xj 17 16,qt 18 17,xJ 19,qb 20 (.bins .eql (.t 18) (.t 19))] (wz 20 (xo (wY 21) 4 21))) (wY 11) 12 11 1 5 12) (wC 4 (qi (-1)))⟩
theorem zO:au Tryz.prog ln=some pY:=by kernel_rfl
def bW:FK:=⟨84,xS,qe [wS 3 4 1,qc 4 qR] (qC [xj 7 3,qt 8 7] (.blk 0 (ym 10 8 1 9 10 (qu 9 (qH [wh 11,wh 12,xF 14 3,xU 16 1 xB 0 [],qt 15 14,xQ 13 12,qP 14 15,xc 17 [.t 11,wL,.t 13,.t 15,.t 16],qf 4 17]) (ym 19 8 2 18 19 (qu 18 (qH [wh 20,xu 21 3,qt 22 21,xa 23 cZ 20 22,qf 4 23]) (ym 25 8 10 24 25 (wz 24 [wh 26,wv 27 4 3,xa 28 eW 26 27,qf 4 28]))))))) (xK (x9 29 0 []) 5 29 (qC (xb 6) (xN 1 [xq 30,qp 31 3 3,qt 32 31,wg 33 32,wI 34 30 33] 34 1 2 (.reg [wY 37,wh 38,qp 39 3 3,qt 40 39,xq 41,wn 42 4 40 41,wv 43 4 42,xa 44 aW 38 43,x9 45 1 [xT 44],wO 46 1 8 37 45,qf 5 46]) (xq 35) 36 35 1 6 36) (wJ [xj 47 3,qt 48 47] (.blk 3 (ym 50 48 11 49 50 (qu 49 (qH [wh 51,wh 52,xQ 53 52,wY 54,xc 55 [.t 51,qi 10,.t 53,qR,.t 54],qf 4 55]) (ym 57 48 12 56 57 (qu 56 (qH [wh 58,wh 59,xQ 60 59,wY 61,xc 62 [.t 58,qi 11,.t 60,qR,.t 61],qf 4 62]) (ym 64 48 13 63 64 (wz 63 [wh 65,wh 66,wh 68,qZ 69 68,xj 70 69,xu 72 3,wY 75,wv 71 1 70,qt 73 72,xQ 67 66,qA (some 1) 70 71,qP 72 73,xa 74 ln 71 73,xc 76 [.t 65,qi 14,.t 67,.t 74,.t 75],qf 4 76]))))))) [wh 77,xj 78 3,wh 80,wY 82,qt 79 78,xQ 81 80,qP 78 79,xc 83 [.t 77,.t 79,.t 81,qR,.t 82],qf 4 83]))))⟩
theorem oD:au Tryz.prog aW=some bW:=by kernel_rfl
def iC:FK:=⟨41,[],qV [wS 3 5 1] (xL (wh 8) (xr 9 8) 4 9) (qV (xL (wh 10) (xr 11 10) 5 11) (xL (wh 12) (xr 13 12) 6 13) (qV [wh 14,xt 15,x9 16 1 [xT 15],xt 17,xz 18 [.t 14,wL,qR,.t 16,.t 17]] [wh 19,xu 20 3,qt 21 20,qb 22 (qD 4 21 qR),wv 23 4 22,xa 24 aW 19 23,qf 7 24] (qV [wh 25,ye 26,wY 27,xq 28,x9 29 2 [xT 27,wF 1 28],wY 30,xz 31 [.t 25,qi 2,.t 26,.t 29,.t 30]] [wh 32,qp 33 3 3,qt 34 33,xa 35 aZ 32 34] (.reg [wh 36,xt 37,x9 38 1 [xT 37],xq 39,xz 40 [.t 36,wL,qR,.t 38,.t 39]]))))⟩
theorem oJ:au Tryz.prog dX=some iC:=by kernel_rfl
def ep:FK:=⟨132,[],qe [wS 3 5 1] (qC [xj 9 3,qt 10 9,wK 11 10 6] (wz 11 [wh 12,wv 13 5 3,xa 14 dX 12 13]) (xK (x9 15 0 []) 4 15 (qC (xb 5) (xN 0 [wY 16,xu 17 3,qt 18 17,wg 19 18,wI 20 16 19] 20 0 1 (.reg [xt 23,wh 24,xu 25 3,qt 26 25,wY 27,wn 28 4 26 27,wv 29 4 28,xa 30 aW 24 29,x9 31 1 [xT 30],wO 32 1 8 23 31,qf 4 32]) (wY 21) 22 21 1 5 22) (qe [xj 33 3,qt 34 33] (.blk 2 (ym 36 34 1 35 36 (qu 35 (qV [wh 37,wh 38,qZ 39 38,qp 40 6 39,qt 41 40,xt 42,xc 43 [.t 37,qi 2,.t 41,qR,.t 42]] [wh 44,wh 45,qZ 46 45,qp 47 5 46,xF 49 3,wh 51,qZ 52 51,qp 53 6 52,qt 48 47,qt 50 49,qt 54 53,ww 55 [wo,qy,qy] [xT 50,wF 1 54,(2,1,qR)],xU 56 3 [wo,qy,qy] 1 [wt 0 3 55],wO 57 3 32 48 56,qZ 58 44,qp 59 5 58,xy 59 57] (.reg [wh 60,wh 61,qZ 62 61,qp 63 6 62,qt 64 63,wE 65 64 1,qZ 66 60,qp 67 6 66,xy 67 65])) (ym 69 34 2 68 69 (qu 68 (.reg [wh 70,wh 71,xF 72 3,qt 73 72,xa 74 cZ 71 73,xt 75,xc 76 [.t 70,qi 2,.t 74,qR,.t 75]]) (ym 78 34 3 77 78 (qu 77 (.reg [wh 79,xt 80,xc 81 [.t 79,qi 13,qi (-1),qR,.t 80]]) (ym 83 34 4 82 83 (qu 82 (.reg [wh 84,xt 85,xc 86 [.t 84,qi 12,qi (-1),qR,.t 85]]) (ym 88 34 7 87 88 (qu 87 (.reg [wh 89,xt 90,qb 91 (qD 1 90 qR),xU 93 1 xB 0 [],wh 94,qt 92 91,xr 95 94,qP 91 92,xz 96 [.t 89,qi 3,.t 92,.t 93,.t 95]]) (ym 98 34 5 97 98 (wa 97 (qV (xL (wh 99) (xr 100 99) 6 100) (xL (wh 101) (xr 102 101) 7 102) (qV (xL (wh 103) (xr 104 103) 8 104) [wh 105,xt 106,qb 107 (qD 1 106 qR),qt 108 107,xq 109,ye 110,x9 111 2 [xT 109,wF 1 110],xq 112,xz 113 [.t 105,qi 2,.t 108,.t 111,.t 112]] (qV [wh 114,qp 115 3 3,qt 116 115,xa 117 aZ 114 116] [wh 118,qf 119 8,x9 120 1 [xT 119],ye 121,xz 122 [.t 118,wL,qR,.t 120,.t 121]] (qe [wh 123,qp 124 4 3,qt 125 124,xa 126 aZ 123 125] (.reg [wh 127,qf 128 8,x9 129 1 [xT 128],qf 130 8,xz 131 [.t 127,wL,qR,.t 129,.t 130]]))))))))))))))))))))))⟩
theorem oh:au Tryz.prog ey=some ep:=by kernel_rfl
def dP:FK:=⟨32,[],qe [wh 6,qZ 7 6,qp 8 5 7,qt 9 8,wg 10 9,qf 4 10] (qC (xb 5) (xN 0 [wY 11,xJ 12,wg 13 12,wI 14 11 13] 14 0 1 (.reg [wh 17,xJ 18,wY 19,wn 20 5 18 19,wv 21 5 20,xa 22 ey 17 21]) (wY 15) 16 15 1 5 16) (.reg [wh 23,wh 24,qZ 25 24,qp 26 5 25,qt 27 26,xt 28,qb 29 (.slS 3 (.t 27) none (some (.t 28))),qZ 30 23,qp 31 5 30,xy 31 29]))⟩
theorem nE:au Tryz.prog aZ=some dP:=by kernel_rfl
def pS:FK:=⟨80,[xO 4 3],qV [wS 2 1 0,wd 4 [qy,qy,.nils]] [xj 9 2,qt 10 9,xJ 11,wn 12 3 10 11,wv 13 3 12,wd 5 [wo,.nils,.nils],qU 3 5 13] (qV [wv 14 1 2,xF 15 5,qt 16 15,wg 17 16,ww 18 [.nils,qy,qy,.nils,qy,.nils,qy,.nils] [xT 14,wF 6 17],wS 19 8 18,qf 6 19] [xq 20,xF 21 5,qt 22 21,wg 23 22,qZ 24 20,xF 25 24,xj 26 25,xy 26 23] (qe [xq 27,xF 28 5,xu 31 5,qt 29 28,wg 30 29,qt 32 31,xh 33 dw 32,qP 28 29,wl 34 .add 30 33,qZ 35 27,xF 36 35,xF 37 36,xy 37 34] (qC (xb 7) (xN 0 [ye 38,xF 39 5,qt 40 39,wg 41 40,wI 42 38 41] 42 0 1 (.reg [xq 45,xq 46,qZ 47 46,qp 48 5 47,xF 50 5,ye 52,ye 55,qt 49 48,qt 51 50,wn 53 1 51 52,qt 54 53,ww 56 [wo,qy,qy] [xT 54,wF 1 55,(2,1,qR)],xU 57 3 [wo,qy,qy] 1 [wt 0 3 56],wO 58 3 32 49 57,qZ 59 45,qp 60 5 59,xy 60 58]) (ye 43) 44 43 1 7 44) (qV [xq 61,xr 62 61] [xq 63,xu 64 5,qt 65 64,xa 66 aZ 63 65] (qV [xq 67,xq 68,xQ 69 68,x9 70 0 [],xc 71 [.t 67,wL,.t 69,qR,.t 70],qf 8 71] [xq 72,qf 73 8,x9 74 0 [],xz 75 [.t 72,qi 3,.t 73,.t 74,qR]] (qH [xq 76,qZ 77 76,xF 78 77,wv 79 3 78,qU 3 4 79]))))))⟩
theorem zC:au Tryz.prog io=some pS:=by kernel_rfl
def mL:FK:=⟨22,[xO 2 1],qV [wS 1 1 0,wd 2 xP] [ww 5 xP [],wd 3 xP,xy 3 5] (wJ (xb 4) (xN 0 [xt 6,xj 7 1,qt 8 7,wg 9 8,wI 10 6 9] 10 0 1 (.reg [xj 13 3,xt 16,qt 14 13,wv 15 1 1,xa 17 io 15 16,qP 13 14,qL 18 3 [qy,qy,.nils] 1 [wt 0 3 17],qP 13 14,wO 19 3 40 14 18,xj 20 3,xy 20 19]) (xt 11) 12 11 1 4 12) [wv 21 1 3,xy 2 21])⟩
theorem uC:au Tryz.prog fg=some mL:=by kernel_rfl
def mz:FK:=⟨21,xS,xG [wS 2 3 0,qc 4 qW] (xb 5) (xN 0 [wY 6,xJ 7,wg 8 7,wI 9 6 8] 9 0 1 (qe [xJ 12,wY 13,wn 14 1 12 13,xF 16 2,qt 15 14,qt 17 16,xv 18 17 1,xZ 19 [.t 15,qR,.t 18],xX 20 19] (yf 20 4)) (wY 10) 11 10 1 5 11) (wC 4 wH)⟩
theorem uu:au Tryz.prog fp=some mz:=by kernel_rfl
def oq:FK:=⟨88,xA 6,qV [wS 3 1 0,wS 5 4 2,qc 6 qW] [xj 8 3,qt 9 8,xJ 10,wn 11 3 9 10,wv 12 3 11,wd 7 [qy,qy,.nils],qU 3 7 12] (qC [xj 13 5,qt 14 13,xZ 15 [.t 14,wL,qi 14],xX 16 15,qf 17 16,qJ 18 17 (qX 3 7),xx 19 17 2 5,xe 20 17 19,qJ 21 17 (.call fp (wR 18 20)),qJ 22 17 (wB 21),xY 23 17 22] (yf 23 6) (qC [xj 24 5,xF 27 5,xF 29 7,qt 25 24,qt 28 27,qt 30 29,xv 31 30 1,xh 26 cR 25,qP 27 28,qP 29 30,xZ 32 [.t 28,qR,.t 31],qb 33 (.beq true (.t 26) (.t 32)),qf 34 33,xx 35 34 0 5,xe 36 34 35,qJ 37 34 (.call cR (xg 36)),qJ 38 34 (wB 37),wV 39 34 38,xp 40 39 1 5,wN 41 39 40,xE 42 39 .neq 41 (qi (-1)),qJ 43 34 (qN 39 (.t 42) qW),xY 44 34 43] (yf 44 6) (wJ [xj 45 5,qt 46 45,wK 47 46 14] (wz 47 [qp 48 3 5,xJ 50,xv 51 50 1,qt 49 48,xZ 52 [.t 49,qR,.t 51],qf 53 52,xp 54 53 2 5,xp 57 53 0 3,xp 59 53 3 5,wN 55 53 54,qK 56 53 (qY 55),wN 58 53 57,wN 60 53 59,qK 61 53 (we 3 58 60),xp 62 53 0 61,wN 63 53 62,xE 64 53 .eql 56 (.t 63),yb 65 53 64,qf 6 65]) [xu 66 5,xj 69 5,qt 67 66,wg 68 67,qt 70 69,xh 71 ft 70,qP 66 67,wl 72 .eql 68 71,qf 73 72,xp 74 73 3 5,wN 75 73 74,qK 76 73 (xm [.t 75,qR,qi 255]),yb 77 73 76,qf 78 77,xp 79 78 3 5,wN 80 78 79,xE 81 78 .eql 80 qR,wT 82 78 81,xx 83 82 0 5,xe 84 82 83,yg 85 82 .eql 84 wL,qK 86 78 (qN 82 wH (.t 85)),yb 87 78 86,qf 6 87])))⟩
theorem yr:au Tryz.prog ka=some oq:=by kernel_rfl
def gH:AK:=qV [wS 3 1 0,qc 6 qW] [xj 14 3,qt 15 14,xJ 16,wn 17 3 15 16,wv 18 3 17,wd 7 [qy,qy,.nils],qU 3 7 18] (qV [xu 19 7,qt 20 19,qf 21 2,wn 22 5 20 21,wv 23 5 22,wd 8 [.nils,.nils,qy,qy,.nils],qU 5 8 23] (wC 9 wL) (xH [xu 24 8,qt 25 24] (.blk 0 (ym 27 25 1 26 27 (qu 26 (qe [qp 28 3 8,qt 29 28,qF 30 .neq 29 0] (yf 30 6)) (ym 32 25 2 31 32 (qu 31 (.reg (wC 9 (qi 2))) (ym 34 25 3 33 34 (qu 33 (.reg (xb 9)) (qH (wC 6 qW))))))))) (xH [qp 35 4 8,qt 36 35,wg 37 36,qf 38 9,wl 39 .neq 37 38,qf 40 39,xx 41 40 2 8,xe 42 40 41,yg 43 40 .neq 42 wL,wV 44 40 43,xp 45 44 3 8,wN 46 44 45,xp 47 44 1 7,wN 48 44 47,xE 49 44 .sub 48 wL,qK 50 44 (xm [.t 46,qR,.t 49]),qK 51 44 (wB 50),qJ 52 40 (qN 44 (.t 51) qW),xY 53 40 52] (yf 53 6) (xH (xb 10) (xN 1 [qf 54 10,qp 55 4 8,qt 56 55,wg 57 56,wI 58 54 57] 58 1 2 (qe [qp 61 4 8,qf 63 10,xu 66 7,qt 62 61,wn 64 1 62 63,qt 65 64,qt 67 66,wg 68 67,xv 69 68 1,xZ 70 [.t 65,wL,.t 69],xX 71 70] (yf 71 6)) (qf 59 10) 60 59 1 10 60) (xH (xb 11) (xN 3 [qf 72 11,xF 73 8,qt 74 73,wg 75 74,wI 76 72 75] 76 3 4 (qe [xJ 80,xF 81 8,qf 83 11,wv 79 1 3,qt 82 81,wn 84 4 82 83,wv 85 4 84,qn 86 ka [.t 79,.t 80,.t 85],xX 87 86] (yf 87 6)) (qf 77 11) 78 77 1 11 78) (qe [wv 88 3 7,qf 89 2,xa 90 cX 88 89,qf 12 90] (xH (xb 13) (xN 5 [qf 91 13,xj 92 8,qt 93 92,wg 94 93,wI 95 91 94] 95 5 6 (qe [qf 98 2,wK 99 98 0,qf 100 99,xx 101 100 0 8,wV 103 100 13,wV 108 100 12,qJ 109 100 (qY 108),xe 102 100 101,qJ 104 100 (we 2 102 103),xx 105 100 1 104,xe 106 100 105,qJ 107 100 (qY 106),yg 110 100 .neq 107 (.t 109),xY 111 100 110,qf 112 111,xx 114 112 0 8,wV 116 112 13,qJ 113 112 (qX 3 7),xe 115 112 114,qJ 117 112 (we 2 115 116),xx 118 112 1 117,xe 119 112 118,qJ 120 112 (.call fp (wR 113 119)),qJ 121 112 (wB 120),xY 122 112 121,qf 123 122,xx 124 123 0 8,wV 126 123 13,xx 130 123 1 7,xe 125 123 124,qJ 127 123 (we 2 125 126),xx 128 123 0 127,xe 129 123 128,xe 131 123 130,yg 132 123 .sub 131 wL,qJ 133 123 (xm [.t 129,qR,.t 132]),qJ 134 123 (wB 133),xY 135 123 134] (yf 135 6)) (qf 96 13) 97 96 1 13 97) (qH (wC 6 wH)))))))))
def gE:FK:=⟨136,xA 6,(AK.whole gH)⟩
theorem tv:au Tryz.prog gY=some gE:=by kernel_rfl
def jt:FK:=⟨76,xI,qe [wS 1 1 0,qc 2 qW] (qC [xj 7 1,qt 8 7,wg 9 8,xZ 10 [.t 9,wL,qi 4],xX 11 10] (yf 11 2) (xG (xb 3) (xb 4) (xN 0 [xt 12,xj 13 1,qt 14 13,wg 15 14,wI 16 12 15] 16 0 1 (qe [xj 19 1,qt 20 19,xt 21,wn 22 3 20 21,wv 23 3 22,wd 5 [qy,qy,.nils],qU 3 5 23] (qC [xj 24 5,qt 25 24,xZ 26 [.t 25,qR,qi 3],xX 27 26,qf 28 27,xx 29 28 1 5,xe 30 28 29,xx 31 28 0 5,xe 32 28 31,qJ 33 28 (xm [.t 30,.t 32,qi 300]),qJ 34 28 (wB 33),xY 35 28 34,qf 36 35,xx 37 36 2 5,xe 38 36 37,qJ 39 36 (qY 38),qJ 40 36 (xm [.t 39,wL,qi 160]),qJ 41 36 (wB 40),xY 42 36 41] (yf 42 2) (qe (xb 6) (xN 2 [xq 43,xu 44 5,qt 45 44,wg 46 45,wI 47 43 46] 47 2 3 (qV [ya 50,xu 51 5,xq 53,xu 59 5,xq 61,qt 52 51,wn 54 5 52 53,xF 55 54,qt 56 55,wg 57 56,wl 58 .add 50 57,qt 60 59,wn 62 5 60 61,xj 63 62,qt 64 63,wg 65 64,wl 66 .add 58 65,qf 3 66] [ya 67,qF 68 .gtr 67 800,qf 69 68,qJ 70 69 (qX 1 1),wV 71 69 4,wV 72 69 6,qJ 73 69 (.call gY [.t 70,.t 71,.t 72]),qJ 74 69 (wB 73),xY 75 69 74] (yf 75 2)) (xq 48) 49 48 1 6 49)))) (xt 17) 18 17 1 4 18) (wC 2 wH)))⟩
theorem pB:au Tryz.prog eS=some jt:=by kernel_rfl
def ll:FK:=⟨15,[xO 2 1],xG [wd 2 xP] [wh 4,wm 5 (xD 4 2),wK 6 5 0] (wa 6 (qV [wh 7,xh 8 fw 7,xh 9 fg 8,wd 3 xP,xy 3 9] [wv 10 1 3,xh 11 eS 10] (wz 11 [wv 12 1 3,xy 2 12]))) [wh 13,xh 14 dy 13,xy 2 14]⟩
theorem tt:au Tryz.prog gV=some ll:=by kernel_rfl
def kU:FK:=⟨10,[xO 2 1],xG [wd 2 xP] [wh 3,wm 4 (xD 3 12),wK 5 4 0] (wz 5 [wh 6,xh 7 jg 6,xy 2 7]) [wh 8,xh 9 gV 8,xy 2 9]⟩
theorem sr:au Tryz.prog gW=some kU:=by kernel_rfl
def kY:FK:=⟨14,[xO 2 3],qV [wd 2 [qy,qy,.nils]] [wh 4,xh 5 gW 4,wd 3 xP,xy 3 5] (qH [xj 6 3,qt 7 6,xj 8 3,qt 9 8,wg 10 9,xv 11 10 1,wn 12 3 7 11,wv 13 3 12,qU 3 2 13])⟩
theorem sT:au Tryz.prog eq=some kY:=by kernel_rfl
def cw:FK:=⟨19,xS,xG (xb 4) [wh 6,wg 7 6,qc 8 qR] (qT 0 (yh [wI 9 8 7] (wy 9 0) (wq 1 (qV (xo (qf 10 8) 5 10) [xJ 11,wh 12,wY 13,wn 14 5 12 13,wv 15 5 14,qb 16 (.callv (.t 11) (xg 15))] (wz 16 (xo (wY 17) 4 17))) (xo (wE 18 8 1) 8 18)))) (wC 4 (qi (-1)))⟩
theorem fG:au Tryz.prog bz=some cw:=by kernel_rfl
def bY:FK:=⟨9,xS,xW (wC 4 qW) [wh 5,xJ 6,xa 7 bz 5 6,qF 8 .geq 7 0,qf 4 8]⟩
theorem eb:au Tryz.prog bj=some bY:=by kernel_rfl
def eI:FK:=⟨19,xS,xG (xb 4) [wh 6,wg 7 6,qc 8 qR] (qT 0 (yh [wI 9 8 7] (wy 9 0) (wq 1 (qV (xo (qf 10 8) 5 10) [xJ 11,wh 12,wY 13,wn 14 1 12 13,qt 15 14,qb 16 (.callv (.t 11) (xg 15))] (wz 16 (xo (wY 17) 4 17))) (xo (wE 18 8 1) 8 18)))) (wC 4 (qi (-1)))⟩
theorem kg:au Tryz.prog cA=some eI:=by kernel_rfl
def di:FK:=⟨9,xS,xW (wC 4 qW) [wh 5,xJ 6,xa 7 cA 5 6,qF 8 .geq 7 0,qf 4 8]⟩
theorem ii:au Tryz.prog bT=some di:=by kernel_rfl
def iX:FK:=⟨15,xA 6,xW (wC 6 qW) [xJ 7,wh 8,wl 9 .leq 7 8,qf 10 9,wT 11 10 0,wT 12 10 2,xE 13 10 .leq 11 (.t 12),yb 14 10 13,qf 6 14]⟩
theorem ui:au Tryz.prog fh=some iX:=by kernel_rfl
def gf:FK:=⟨11,xA 3,xW (wC 3 qW) [wh 4,xu 5 1,qt 6 5,wg 7 6,xv 8 7 1,qn 9 fh [.t 4,qR,.t 8],xX 10 9,qf 3 10]⟩
theorem nq:au Tryz.prog dO=some gf:=by kernel_rfl
def jL:FK:=⟨8,xA 3,xW [wS 2 5 0,qc 3 qW] [qp 4 4 2,qt 5 4,qb 6 (.mkf (.func dO) (xg 1)),xa 7 bT 5 6,ye 3]⟩
theorem pg:au Tryz.prog dc=some jL:=by kernel_rfl
def gv:FK:=⟨14,xI,xW [wS 1 3 0,qc 2 qW] [xu 3 1,qt 4 3,wg 5 4,qF 6 .gtr 5 0,xq 7,xp 8 7 2 1,wN 9 7 8,qK 10 7 (.mkf (.func dc) (xg 1)),qK 11 7 (.call bj (wR 9 10)),qK 12 7 (wB 11),yb 13 7 12,qf 2 13]⟩
theorem rW:au Tryz.prog cU=some gv:=by kernel_rfl
def gg:FK:=⟨8,xI,xG (wC 2 xf) [wh 3,qb 4 (.snil false (.t 3))] (wP 4 2 xf) [x9 5 0 [],wh 6,wO 7 1 8 5 6,ye 2]⟩
theorem nj:au Tryz.prog cC=some gg:=by kernel_rfl
def re:FK:=⟨10,xI,qV (wC 2 xf) [wh 4,xh 5 cC 4,wY 3] (xW [ya 6,xh 7 nU 6] (xL (ya 8) (xh 9 kW 8) 2 9))⟩
theorem Ao:au Tryz.prog lB=some re:=by kernel_rfl
def gN:FK:=⟨19,xS,xG (xb 4) [wh 6,wg 7 6,qc 8 qR] (qT 0 (yh [wI 9 8 7] (wy 9 0) (wq 1 (qV (xo (qf 10 8) 5 10) [xJ 11,wh 12,wY 13,wn 14 1 12 13,qt 15 14,wl 16 .eql 11 15] (wz 16 (xo (wY 17) 4 17))) (xo (wE 18 8 1) 8 18)))) (wC 4 (qi (-1)))⟩
theorem nk:au Tryz.prog gy=some gN:=by kernel_rfl
def kQ:FK:=⟨42,xI,xG [wS 1 3 0,qc 2 qW] (xb 3) (xN 0 [ya 5,xu 6 1,qt 7 6,wg 8 7,wI 9 5 8] 9 0 1 (qe (xb 4) (xN 2 [xt 12,xu 13 1,qt 14 13,ya 15,wn 16 5 14 15,qp 17 4 16,qt 18 17,wg 19 18,wI 20 12 19] 20 2 3 (qe [xu 23 1,ya 25,xt 29,xu 32 1,qt 24 23,wn 26 5 24 25,qp 27 4 26,qt 28 27,wn 30 1 28 29,qt 31 30,qt 33 32,wg 34 33,xv 35 34 1,xZ 36 [.t 31,qR,.t 35],xX 37 36] (yf 37 2)) (xt 21) 22 21 1 4 22)) (ya 10) 11 10 1 3 11) [xu 38 1,qt 39 38,wg 40 39,qF 41 .gtr 40 0,qf 2 41]⟩
theorem sh:au Tryz.prog en=some kQ:=by kernel_rfl
def kj:FK:=⟨35,[],qe [qt 8 1,wh 9,wn 10 1 8 9,qQ 1 10 wH] (qC [xu 11 2,qt 12 11,wh 13,wn 14 5 12 13,qp 15 4 14,qt 16 15,wg 17 16,qc 18 qR] (qT 0 (yh [wI 19 18 17] (wy 19 0) (wq 1 (qV (xL (wn 20 1 16 18) (qt 21 20) 7 21) [qt 22 1,ye 23,wn 24 1 22 23,qt 25 24,xX 26 25] (yc 26 [qt 27 3,ye 28,qb 29 (.callv (.t 27) (xg 28))])) (xo (wE 30 18 1) 18 30)))) (.reg [qt 31 4,wh 32,x9 33 1 [xT 32],wO 34 1 8 31 33,xy 4 34]))⟩
theorem rx:au Tryz.prog cD=some kj:=by kernel_rfl
def mI:FK:=⟨14,xI,qV [wS 1 3 0,qc 2 xf] [wd 3 xP] (qV [xu 6 1,qt 7 6,wg 8 7,qb 9 (.mks 1 1 [qB] (.t 8) (.t 8)),wd 4 xP,xy 4 9] [wd 5 [.nilf]] (qV [qb 10 (.mkf (.func cD) [.t 4,.t 1,.t 5,.t 3]),xy 5 10] [qt 11 5,qb 12 (.callv (.t 11) [qR])] (qH (xo (qt 13 3) 2 13))))⟩
theorem uj:au Tryz.prog jc=some mI:=by kernel_rfl
def gt:FK:=⟨6,[xO 2 3],xW [wd 2 [qy,qy,.nils]] [wh 3,xh 4 er 3,xh 5 eq 4,qU 3 2 5]⟩
theorem nu:au Tryz.prog gi=some gt:=by kernel_rfl
def ki:FK:=⟨54,xA 8,qV [wS 4 3 0,qc 8 xf] [qf 10 2,xJ 11,wn 12 1 10 11,qQ 1 12 wH] (wJ (xb 9) (xN 0 [qf 13 9,xu 14 4,qt 15 14,xJ 16,wn 17 5 15 16,qp 18 4 17,qt 19 18,wg 20 19,wI 21 13 20] 21 0 1 (qe [qf 24 2,xu 25 4,qt 26 25,xJ 27,wn 28 5 26 27,qp 29 4 28,qt 30 29,qf 31 9,wn 32 1 30 31,qt 33 32,wn 34 1 24 33,qt 35 34,xX 36 35] (yc 36 [xu 38 4,xJ 40,qf 44 9,qf 47 2,ya 48,wv 37 3 4,qt 39 38,wn 41 5 39 40,qp 42 4 41,qt 43 42,wn 45 1 43 44,qt 46 45,qn 49 cE [.t 37,.t 46,.t 47,.t 48],qf 3 49])) (qf 22 9) 23 22 1 9 23) [ya 50,xJ 51,x9 52 1 [xT 51],wO 53 1 8 50 52,qf 8 53])⟩
theorem rD:au Tryz.prog cE=some ki:=by kernel_rfl
def mD:FK:=⟨29,xS,xG (wC 4 qW) [wh 6,wg 7 6,xJ 8,wg 9 8,qb 10 (.mn (.t 7) (.t 9)),qc 11 qR] (qT 0 (yh [wI 12 11 10] (wy 12 0) (wq 1 (qV (xo (qf 13 11) 5 13) [wh 14,wY 15,wn 16 1 14 15,xJ 18,wY 19,wn 20 1 18 19,qt 17 16,qt 21 20,wl 22 .neq 17 21] (yf 22 4)) (xo (wE 23 11 1) 11 23)))) [wh 24,wg 25 24,xJ 26,wg 27 26,wl 28 .eql 25 27,qf 4 28]⟩
theorem uD:au Tryz.prog iS=some mD:=by kernel_rfl
def oB:FK:=⟨17,xS,xG (wC 4 qW) [wh 7,wg 8 7,qc 9 qR] (qT 0 (yh [wI 10 9 8] (wy 10 0) (wq 1 (qV (xL (wn 11 1 7 9) (qt 12 11) 6 12) [xq 13,xJ 14,wl 15 .eql 13 14] (wP 15 4 wH)) (xo (wE 16 9 1) 9 16)))) (wC 4 qW)⟩
theorem vN:au Tryz.prog jO=some oB:=by kernel_rfl
def jl:FK:=⟨9,xI,xG [wS 1 3 0,qc 2 xf] [wv 3 3 1,xh 4 cU 3,xX 5 4] (wP 5 2 xf) [wv 6 3 1,xh 7 jc 6,xh 8 lB 7,qf 2 8]⟩
theorem oZ:au Tryz.prog eT=some jl:=by kernel_rfl
def eP:FK:=⟨48,xS,qV [wS 2 3 0,qc 4 xf] [xu 8 2,qt 9 8,wg 10 9,qb 11 (.mks 1 1 [qB] (.t 10) (.t 10)),qf 5 11] (xK (x9 12 1 [(0,1,qR)]) 6 12 (.seq (wW 0 [xq 13,wg 14 13,qF 15 .gtr 14 0] 15 0 (.blk 1 (qV [xq 16,xq 17,wg 18 17,xv 19 18 1,wn 20 1 16 19,qt 21 20,qf 7 21] [xq 22,xq 23,wg 24 23,xv 25 24 1,qb 26 (.slS 1 (.t 22) none (some (.t 25))),qf 6 26] (qC [ye 27,xJ 28,wl 29 .eql 27 28,qf 30 29,wV 31 30 5,wV 32 30 7,qJ 33 30 (we 1 31 32),xe 34 30 33,xY 35 30 34] (wa 35 (.exit 1)) (qe [wY 36,ye 37,wn 38 1 36 37,qQ 1 38 wH] (.reg [xq 39,xu 40 2,qt 41 40,ye 42,wn 43 5 41 42,qp 44 4 43,qt 45 44,wO 46 1 8 39 45,qf 6 46])))))) (qH (xo (wY 47) 4 47))))⟩
theorem kA:au Tryz.prog aM=some eP:=by kernel_rfl
def fu:FK:=⟨71,xI,qe [wS 1 3 0,qc 2 (.c .nilp)] (qC [wv 8 3 1,xh 9 cU 8,xX 10 9] (wP 10 2 (.c .nilp)) (xG [wv 11 3 1,wv 12 3 1,qn 13 aM (xD 12 (-1)),qA (some 3) 1 11,ww 14 [qy,qy,.nils,.nils,.nils] [wt 0 3 11,wF 4 13],wS 15 5 14,qf 3 15] [xu 16 1,qt 17 16,wg 18 17,qc 19 qR] (qT 0 (yh [wI 20 19 18] (wy 20 0) (wq 1 (qV (xo (qf 21 19) 4 21) [xu 22 1,qt 23 22,wg 24 23,qb 25 (.mks 1 1 [qB] (.t 24) (.t 24)),qf 5 25] (qC [ya 26,qZ 27 26,qp 28 4 27,qt 29 28,xt 30,wn 31 1 29 30,qt 32 31] (wa 32 (qV [wv 33 3 1,xt 34,xa 35 aM 33 34,qf 6 35] [wY 36,wg 37 36,qc 38 qR] (qT 2 (yh [wI 39 38 37] (wy 39 2) (wq 3 (xK (qf 40 38) 7 40 (.reg [wY 41,ye 42,ya 43,qZ 44 43,qp 45 4 44,qt 46 45,ye 47,wn 48 1 46 47,qt 49 48,qf 50 49,wT 51 50 6,wT 52 50 7,qK 53 50 (we 1 51 52),wN 54 50 53,qK 55 50 (wB 54),yb 56 50 55,wn 57 1 41 42,xy 57 56])) (xo (wE 58 38 1) 38 58)))))) (.reg [ya 59,ya 60,qZ 61 60,qp 62 3 61,qt 63 62,wY 64,qL 65 1 xP 1 [xT 64],wO 66 1 24 63 65,qZ 67 59,qp 68 3 67,xy 68 66]))) (xo (wE 69 19 1) 19 69)))) (xo (ya 70) 2 70)))⟩
theorem mB:au Tryz.prog cf=some fu:=by kernel_rfl
def fJ:FK:=⟨26,xS,xW (wC 4 qW) [wh 5,qb 6 (.pnil 0 true (.t 5)),xq 7,wT 8 7 1,wT 9 7 0,qK 10 7 (qz 9),xp 11 7 4 10,wN 12 7 11,qK 13 7 (qY 12),xE 14 7 .sub 13 wL,qK 15 7 (.call fh [.t 8,qR,.t 14]),yb 16 7 15,qf 17 16,wT 18 17 0,qK 19 17 (qz 18),xp 20 17 4 19,wN 21 17 20,wT 22 17 1,qK 23 17 (we 1 21 22),wN 24 17 23,yb 25 17 24,qf 4 25]⟩
theorem rp:au Tryz.prog dD=some fJ:=by kernel_rfl
def cJ:FK:=⟨27,xA 6,xW (wC 6 qW) [wh 7,xJ 8,xa 9 dD 7 8,qf 10 9,wT 11 10 0,wT 12 10 2,qK 13 10 (.call dD (wR 11 12)),yb 14 10 13,qf 15 14,wT 16 15 0,qK 17 15 (qz 16),xp 18 15 3 17,wN 19 15 18,wT 20 15 1,qK 21 15 (we 1 19 20),wN 22 15 21,wT 23 15 2,qK 24 15 (we 1 22 23),wN 25 15 24,yb 26 15 25,qf 6 26]⟩
theorem kz:au Tryz.prog cK=some cJ:=by kernel_rfl
def jn:FK:=⟨12,xA 6,xW [wS 3 3 0,qc 6 qW] [wv 7 3 3,xh 8 cf 7,xJ 9,qf 10 2,qn 11 cK [.t 8,.t 9,.t 10],qf 6 11]⟩
theorem pK:au Tryz.prog fc=some jn:=by kernel_rfl
def ib:AK:=qV [wS 1 3 0,qc 2 xf] [xu 10 1,qt 11 10,wg 12 11,qf 3 12] (qV (xo (qL 13 1 xP 0 []) 4 13) (xL (ya 14) (qb 15 (.mks 1 1 [qB] (.t 14) (.t 14))) 5 15) (xG [wv 16 3 1,wY 17,x9 18 0 [],qn 19 cE [.t 16,qR,.t 17,.t 18]] (xb 6) (xN 0 [xq 20,ya 21,wI 22 20 21] 22 0 1 (qV (xL (ya 25) (qb 26 (.mks 1 1 [qB] (.t 25) (.t 25))) 7 26) [ye 27,xq 28,wn 29 1 27 28,qQ 1 29 wH] (xH [xq 30,qF 31 .neq 30 0] (qu 31 (qe [wv 32 3 1,ye 33,x9 34 0 [],qn 35 cE [.t 32,qR,.t 33,.t 34]] (.reg [ye 36,xq 37,wn 38 1 36 37,qQ 1 38 qW])) (.reg [ye 39,xq 40,wn 41 1 39 40,qQ 1 41 qW])) (qe (xL (ya 42) (qb 43 (.mks 1 1 [qB] (.t 42) (.t 42))) 8 43) (qC (xb 9) (xN 2 [qf 44 9,ya 45,wI 46 44 45] 46 2 3 (.reg [qf 49 8,qf 50 9,wY 51,xq 52,wn 53 1 51 52,qt 54 53,qf 55 54,wT 56 55 5,wT 57 55 9,qK 58 55 (we 1 56 57),wN 59 55 58,yb 60 55 59,qf 61 60,wT 62 61 7,wT 63 61 9,qK 64 61 (we 1 62 63),wN 65 61 64,qK 66 61 (wB 65),yb 67 61 66,wn 68 1 49 50,xy 68 67]) (qf 47 9) 48 47 1 9 48) (.reg [xt 69,qf 70 8,qL 71 1 xP 1 [xT 70],wO 72 1 24 69 71,qf 4 72]))))) (xq 23) 24 23 1 6 24) (xo (xt 73) 2 73)))
def gQ:FK:=⟨74,xI,(AK.whole ib)⟩
theorem ti:au Tryz.prog eJ=some gQ:=by kernel_rfl
def fR:FK:=⟨46,xS,qV (xb 4) (wC 5 (qi (-1))) (wJ [wh 7,qZ 8 7,qp 9 3 8,qt 10 9,wg 11 10,qc 12 qR] (qT 0 (yh [wI 13 12 11] (wy 13 0) (wq 1 (qV (xo (qf 14 12) 6 14) [wh 15,qZ 16 15,qp 17 4 16,qt 18 17,xq 19,wn 20 1 18 19,qt 21 20,qf 22 21,wT 23 22 1,wT 24 22 6,qK 25 22 (.callv (.t 23) (xg 24)),yb 26 22 25,qf 27 26,wT 28 27 5,xE 29 27 .lss 28 qR,wT 30 27 29,wV 31 30 0,qJ 32 30 (qz 31),xx 33 30 3 32,xe 34 30 33,wV 35 30 5,qJ 36 30 (we 1 34 35),xe 37 30 36,wV 38 30 6,qJ 39 30 (we 1 37 38),xe 40 30 39,qK 41 27 (qN 30 wH (.t 40)),yb 42 27 41] (yc 42 (xo (xq 43) 5 43))) (xo (wE 44 12 1) 12 44)))) (xo (wY 45) 4 45))⟩
theorem ml:au Tryz.prog dp=some fR:=by kernel_rfl
def dI:FK:=⟨20,xS,xW (wC 4 qW) [wh 5,qt 6 1,wl 7 .neq 5 6,ye 8,wT 13 8 0,wN 9 8 2,qK 10 8 (qz 9),xp 11 8 3 10,wN 12 8 11,qK 14 8 (we 1 12 13),wN 15 8 14,wN 16 8 1,qK 17 8 (we 1 15 16),wN 18 8 17,yb 19 8 18,qf 4 19]⟩
theorem mU:au Tryz.prog cB=some dI:=by kernel_rfl
def jv:FK:=⟨8,xS,xW [wS 2 1 0,wS 3 1 1,qc 4 qR] [qt 5 2,qb 6 (.mkf (.func cB) (wR 3 2)),xa 7 dp 5 6,ye 4]⟩
theorem py:au Tryz.prog da=some jv:=by kernel_rfl
def lC:FK:=⟨37,xI,qV [wS 1 3 0,qc 2 xf] (xL (wv 6 3 1) (xh 7 cf 6) 3 7) (qC [ya 8,qb 9 (.pnil 0 false (.t 8))] (wP 9 2 xf) (xG [xu 10 1,qt 11 10,wg 12 11,qb 13 (.mks 1 8 xB (.t 12) (.t 12)),qf 4 13] [xt 14,wg 15 14,qc 16 qR] (qT 0 (yh [wI 17 16 15] (wy 17 0) (wq 1 (qV (xo (qf 18 16) 5 18) [xt 19,wY 20,wn 21 1 19 20,qQ 1 21 (qi (-1))] (qe [ya 22,qZ 23 22,qp 24 4 23,qt 25 24,wY 26,wn 27 1 25 26,qt 28 27] (yc 28 [xt 29,wY 30,ya 31,wY 32,xa 33 da 31 32,wn 34 1 29 30,xy 34 33]))) (xo (wE 35 16 1) 16 35)))) (xo (xt 36) 2 36)))⟩
theorem tR:au Tryz.prog gr=some lC:=by kernel_rfl
def kx:FK:=⟨51,xI,qV (wC 2 xf) (xo (x9 7 0 []) 3 7) (wJ (xb 4) (xN 0 [xt 8,wh 9,wg 10 9,wI 11 8 10] 11 0 1 (qe (wC 5 (qi (-1))) (qC (xb 6) (xN 2 [xq 14,wh 15,wg 16 15,wI 17 14 16] 17 2 3 (qe [xq 20,xt 21,wl 22 .neq 20 21,qf 23 22,wT 24 23 0,wT 25 23 6,qK 26 23 (we 1 24 25),wN 27 23 26,wT 28 23 4,qK 29 23 (we 1 27 28),wN 30 23 29,yb 31 23 30,qf 32 31,wT 33 32 5,xE 34 32 .lss 33 qR,wT 35 32 34,wV 36 35 0,wV 37 35 5,qJ 38 35 (we 1 36 37),xe 39 35 38,wV 40 35 6,qJ 41 35 (we 1 39 40),xe 42 35 41,qK 43 32 (qN 35 wH (.t 42)),yb 44 32 43] (yc 44 (xo (xq 45) 5 45))) (xq 18) 19 18 1 6 19) (.reg [ya 46,wY 47,x9 48 1 [xT 47],wO 49 1 8 46 48,qf 3 49]))) (xt 12) 13 12 1 4 13) (xo (ya 50) 2 50))⟩
theorem ri:au Tryz.prog fM=some kx:=by kernel_rfl
def kJ:FK:=⟨10,xI,xG [wS 1 3 0,qc 2 xf] [wv 3 3 1,xh 4 en 3,xX 5 4] (wz 5 (xo (x9 6 0 []) 2 6)) [wv 7 3 1,xh 8 eJ 7,xh 9 fM 8,qf 2 9]⟩
theorem tS:au Tryz.prog gw=some kJ:=by kernel_rfl
def lz:FK:=⟨25,xS,qV (wC 4 xf) (xo (x9 7 0 []) 5 7) (wJ (xb 6) (xN 0 [xq 8,wh 9,wg 10 9,wI 11 8 10] 11 0 1 (qe [wh 14,xq 15,wn 16 1 14 15,qt 17 16,xJ 18,wl 19 .eql 17 18] (yc 19 [wY 20,xq 21,x9 22 1 [xT 21],wO 23 1 8 20 22,qf 5 23])) (xq 12) 13 12 1 6 13) (xo (wY 24) 4 24))⟩
theorem sI:au Tryz.prog gR=some lz:=by kernel_rfl
def fU:FK:=⟨6,[xO 2 3],xW [wd 2 [qy,qy,.nils]] [wh 3,xh 4 er 3,xh 5 eq 4,qU 3 2 5]⟩
theorem mj:au Tryz.prog dm=some fU:=by kernel_rfl
def dq:AK:= .cut (.reg [qt 7 1,wh 8,x9 9 1 [xT 8],wO 10 1 8 7 9,xy 1 10]) (qe [qt 11 2,wh 12,qb 13 (.lk 0 .nils false (.t 11) (.t 12)),wg 14 13,qc 15 qR] (qT 0 (yh [wI 16 15 14] (wy 16 0) (wq 1 (qe (xL (wn 17 1 13 15) (qt 18 17) 6 18) (.reg [qt 19 3,xq 20,qb 21 (.callv (.t 19) (xg 20))])) (xo (wE 22 15 1) 15 22)))))
def dr:FK:=⟨23,[],(AK.whole dq)⟩
theorem mg:au Tryz.prog bF=some dr:=by kernel_rfl
def eC:AK:=qV (wC 2 xf) [qb 8 .mkm,wd 3 [.nilm],xy 3 8] (xH [wh 9,qZ 10 9,qp 11 4 10,qt 12 11,wg 13 12,qc 14 qR] (qT 0 (yh [wI 15 14 13] (wy 15 0) (wq 1 (qV (xo (qf 16 14) 4 16) [wh 17,qZ 18 17,qp 19 4 18,qt 20 19,xt 21,wn 22 1 20 21,qt 23 22] (wa 23 (qe [wh 24,xt 25,xa 26 da 24 25,qf 5 26] (.reg [wY 28,wY 30,xt 32,xU 33 1 xB 1 [xT 32],qt 27 3,qt 29 3,qb 31 (.lk 0 .nils false (.t 29) (.t 30)),wO 34 1 8 31 33,qP 3 27,qw (.mup 0 (.t 27) (.t 28) (.t 34))])))) (xo (wE 35 14 1) 14 35)))) (qV [wd 6 xP] [wd 7 [.nilf]] (qV [qb 36 (.mkf (.func bF) [.t 6,.t 3,.t 7]),xy 7 36] [qt 37 7,qb 38 (.callv (.t 37) [qR])] (qH (xo (qt 39 6) 2 39)))))
def dY:FK:=⟨40,xI,(AK.whole eC)⟩
theorem oG:au Tryz.prog eG=some dY:=by kernel_rfl
def ku:FK:=⟨10,xI,qV [wS 1 3 0,qc 2 xf] [wv 4 3 1,xh 5 cf 4,wY 3] (wJ [ya 6,qb 7 (.pnil 0 false (.t 6))] (wP 7 2 xf) (xL (ya 8) (xh 9 eG 8) 2 9))⟩
theorem ro:au Tryz.prog fO=some ku:=by kernel_rfl
def kL:FK:=⟨30,xA 6,qV (wC 6 xf) [qf 9 2,xJ 10,x9 11 1 [xT 10],wO 12 1 8 9 11,qf 2 12] (xG [wh 13,xJ 14,xa 15 gR 13 14,qf 7 15] (xb 8) (xN 0 [qf 16 8,ye 17,wg 18 17,wI 19 16 18] 19 0 1 (.reg [wh 22,ye 23,qf 24 8,wn 25 1 23 24,qt 26 25,qf 27 2,qn 28 eu [.t 22,.t 26,.t 27],qf 2 28]) (qf 20 8) 21 20 1 8 21) (xo (qf 29 2) 6 29))⟩
theorem tU:au Tryz.prog eu=some kL:=by kernel_rfl
def kh:FK:=⟨11,xI,xG [wS 1 3 0,qc 2 xf] [wv 3 3 1,xh 4 en 3,xX 5 4] (wz 5 (xo (x9 6 0 []) 2 6)) [wv 7 3 1,xh 8 gw 7,x9 9 0 [],qn 10 eu [.t 8,qR,.t 9],qf 2 10]⟩
theorem ru:au Tryz.prog fQ=some kh:=by kernel_rfl
def iw:FK:=⟨68,xI,qe (wC 2 qW) (qC [wh 9,wg 10 9,qF 11 .gtr 10 1048576] (wP 11 2 wH) (qV [wh 12,xh 13 dm 12,wd 3 [qy,qy,.nils],qU 3 3 13] (xL (wv 14 3 3) (xh 15 fO 14) 4 15) (qC [xt 16,wv 17 3 3,xh 18 fQ 17,xa 19 iS 16 18,xX 20 19] (yf 20 2) (wJ [xt 21,wg 22 21,qc 23 qR] (qT 0 (yh [wI 24 23 22] (wy 24 0) (wq 1 (qe [qf 25 23,wn 26 1 21 23,qt 27 26,qf 5 25,qf 6 27] (qC [xt 28,wY 29,wE 30 29 1,qb 31 (.slS 1 (.t 28) (some (.t 30)) none),wg 32 31,qc 33 qR] (qT 2 (yh [wI 34 33 32] (wy 34 2) (wq 3 (qV (xL (wn 35 1 31 33) (qt 36 35) 8 36) [qf 37 8,xq 38,wl 39 .eql 37 38,qf 40 39,qJ 41 40 (qX 3 3),wV 42 40 8,wV 43 40 6,qJ 44 40 (.call fc [.t 41,.t 42,.t 43]),xY 45 40 44] (yf 45 2)) (xo (wE 46 33 1) 33 46)))) (qe [wY 47,qF 48 .gtr 47 0,qf 49 48,wT 50 49 4,wT 51 49 5,qK 52 49 (.slS 1 (.t 50) none (some (.t 51))),wT 55 49 6,qK 53 49 (qX 3 3),qK 54 49 (.call gr (xg 53)),qK 56 49 (we 1 54 55),wN 57 49 56,qK 58 49 (.call jO (wR 52 57)),qK 59 49 (wB 58),yb 60 49 59] (yf 60 2)))) (xo (wE 61 23 1) 23 61)))) [xt 62,wg 63 62,wv 64 3 3,xh 65 eT 64,wg 66 65,wl 67 .eql 63 66,qf 2 67]))))⟩
theorem og:au Tryz.prog iH=some iw:=by kernel_rfl
end Go.Proofs.YtdfplkcigiblcaaGreat
