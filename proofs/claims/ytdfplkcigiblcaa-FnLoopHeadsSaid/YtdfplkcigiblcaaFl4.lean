/-
  Contracts and lemmas that the card needs, part 4.
-/
import Derived.Test.YtdfplkcigiblcaaFl3
import Derived.Test.YtdfplkcigiblcaaRows
namespace Go.Proofs.Ytdfplkcigiblcaa
open Go Go.Aw
set_option maxRecDepth 100000
abbrev gd:FuncId:=21
abbrev bB:FuncId:=41
abbrev aZ:FuncId:=42
abbrev gV:FuncId:=44
abbrev eW:FuncId:=87
abbrev cS:FuncId:=88
abbrev iE:FuncId:=73
abbrev fg:FuncId:=74
abbrev iv:FuncId:=67
abbrev ce:FuncId:=48
abbrev di:FuncId:=62
abbrev dx:FuncId:=72
abbrev iq:FuncId:=66
abbrev dO:FuncId:=61
abbrev iB:FuncId:=58
abbrev bC:FuncId:=99
abbrev eY:FuncId:=103
abbrev bf:FuncId:=92
abbrev dP:FuncId:=82
abbrev dF:FuncId:=109
abbrev cd:FuncId:=100
abbrev cH:FuncId:=101
abbrev dT:FuncId:=102
abbrev dR:FuncId:=91
abbrev aN:FuncId:=81
abbrev dv:FuncId:=69
abbrev fZ:FuncId:=114
abbrev ga:FuncId:=110
abbrev ju:FuncId:=104
abbrev du:FuncId:=111
abbrev js:FuncId:=105
abbrev bH:FuncId:=93
abbrev eV:FuncId:=112
abbrev eU:FuncId:=117
abbrev dj:FuncId:=115
abbrev dN:FuncId:=116
abbrev cZ:FuncId:=113
abbrev eT:FuncId:=106
abbrev bt:FuncId:=94
abbrev kG:FuncId:=83
abbrev cV:FuncId:=95
abbrev jx:FuncId:=84
abbrev dd:FuncId:=70
abbrev eP:FuncId:=64
abbrev gE:FuncId:=89
abbrev dq:FuncId:=75
abbrev bK:FuncId:=76
abbrev bh:FuncId:=80
abbrev bq:FuncId:=79
abbrev bJ:FuncId:=78
abbrev da:FuncId:=98
abbrev eD:FuncId:=107
abbrev kB:FuncId:=108
abbrev aV:FuncId:=97
abbrev dV:FuncId:=96
abbrev dU:FuncId:=90
abbrev aX:FuncId:=77
abbrev gO:FuncId:=68
abbrev eZ:FuncId:=63
abbrev fb:FuncId:=86
abbrev jE:FuncId:=85
abbrev fM:FuncId:=71
abbrev eA:FuncId:=65
abbrev gt:FuncId:=59
abbrev gy:FuncId:=51
abbrev gr:FuncId:=34
abbrev bv:FuncId:=60
abbrev bg:FuncId:=53
abbrev co:FuncId:=57
abbrev bn:FuncId:=46
abbrev dk:FuncId:=32
abbrev dD:FuncId:=55
abbrev cY:FuncId:=54
abbrev cQ:FuncId:=38
abbrev aL:FuncId:=43
abbrev cB:FuncId:=22
abbrev dr:FuncId:=23
abbrev fV:FuncId:=36
abbrev cA:FuncId:=45
abbrev dW:FuncId:=27
abbrev bN:FuncId:=28
abbrev ey:FuncId:=9
abbrev bl:FuncId:=49
abbrev dG:FuncId:=50
abbrev cE:FuncId:=33
abbrev cR:FuncId:=14
abbrev iP:FuncId:=12
abbrev jF:FuncId:=15
abbrev cK:FuncId:=16
abbrev bY:FuncId:=52
abbrev dL:FuncId:=35
abbrev eG:FuncId:=17
abbrev fw:FuncId:=37
abbrev eC:FuncId:=18
abbrev cw:FuncId:=56
abbrev iO:FuncId:=39
abbrev cN:FuncId:=40
abbrev gF:FuncId:=19
abbrev gv:FuncId:=5
@[reducible] def qa(a:Nat)(b:Option (Nat × Bool))(c:AI):CO:=⟨some a,b,c⟩
@[reducible] def qb(a:Nat)(b:AI):CO:=qa a none b
@[reducible] def qc(a:Nat)(b:AOp):CO:=qb a (.mov b)
@[reducible] def qd(a:IntKind)(b:Int):AV:= .p (.int a b)
@[reducible] def qe(a:List CO)(b:AK):AK:= .seq (.reg a) b
@[reducible] def qf(a b:Nat):CO:=qc a (.t b)
@[reducible] def qg(a:Int):AV:=qd .i64 a
@[reducible] def qh(a b:Nat):AI:= .fldA a (.t b)
@[reducible] def qi(a:Int):AOp:= .c (qg a)
@[reducible] def qj(a:Option Nat)(b:Nat):AI:= .ld a (.t b)
@[reducible] def qk(a:Nat)(b:Nat × Bool)(c:AI):CO:=qa a (some b) c
@[reducible] def ql(a:BinOp)(b:Nat)(c:AOp):AI:= .bin a (.t b) c
@[reducible] def qm(a:Nat)(b:Option Nat)(c:Nat):CO:=qb a (qj b c)
@[reducible] def qn(a:Nat)(b:FuncId)(c:List AOp):CO:=qb a (.call b c)
@[reducible] def qo(a:Option (Nat × Bool))(b:AI):CO:=⟨none,a,b⟩
@[reducible] def qp(a b c:Nat):CO:=qb a (qh b c)
@[reducible] def qt(a b:Nat):CO:=qm a none b
@[reducible] def qu(a:Nat)(b c:AK):AK:= .cond (.t a) b c
@[reducible] def qv(a:AI):CO:=qo none a
@[reducible] def qw(a:Nat)(b:BinOp)(c:Nat)(d:AOp):CO:=qb a (ql b c d)
@[reducible] def qx(a:Bool):AV:= .p (.bool a)
@[reducible] def qy:AV:=qg 0
@[reducible] def qz(a:Nat):AI:= .nilck (.t a)
@[reducible] def qA(a:Option Nat)(b c:Nat):CO:=qv (.chk a b c)
@[reducible] def qB:AV:=qx false
@[reducible] def qC(a:Nat)(b:BinOp)(c:Nat)(d:Int):CO:=qw a b c (qi d)
@[reducible] def qD(a:List CO)(b c:AK):AK:= .seq (qe a b) c
@[reducible] def qF(a:AOp):AI:= .len false a
@[reducible] def qG(a b:Nat)(c:AOp):AI:= .idxS a (.t b) c
@[reducible] def qH(a:List CO):AK:=qe a .ret
@[reducible] def qI(a b:Nat)(c:List AV)(d:Nat)(e:List (Nat × Nat × AOp)):CO:=qb a (.bsl b c d e)
@[reducible] def qJ(a b:Nat)(c:Bool)(d:AI):CO:=qk a (b,c) d
@[reducible] def qK(a b:Nat)(c:AI):CO:=qJ a b false c
@[reducible] def qL(a b:Nat)(c:AI):CO:=qJ a b true c
@[reducible] def qM(a:Nat)(b c:AOp):CO:=qv (.st a b c)
@[reducible] def qN(a:List UInt8):AV:= .p (.str a)
@[reducible] def qO(a b:Nat):CO:=qA none a b
@[reducible] def qP(a:Nat)(b c:AOp):AI:= .pick (.t a) b c
@[reducible] def qQ(a b:Nat)(c:AOp):CO:=qM a (.t b) c
@[reducible] def qR:AOp:=qi 0
@[reducible] def qS(a b c:Nat):CO:=qQ a b (.t c)
@[reducible] def qT(a:Nat)(b:AK):AK:= .blk a (.loop b)
@[reducible] def qU:AOp:= .c qB
@[reducible] def qV(a:Nat):AI:=qF (.t a)
@[reducible] def qW(a b:Nat):CO:=qb a (qz b)
@[reducible] def qX(a b:List CO)(c:AK):AK:=qe a (qe b c)
@[reducible] def qY(a b c:Nat):CO:=qm a (some b) c
@[reducible] def qZ(a:Nat):AI:= .mov (.t a)
@[reducible] def wa(a:Nat)(b:AK):AK:=qu a b .skip
@[reducible] def wb(a:Nat)(b c:AK):AK:= .seq (.blk a b) c
@[reducible] def wd(a:Nat)(b:List AV):CO:=qb a (.alloc b)
@[reducible] def we(a b c:Nat):AI:=qG a b (.t c)
@[reducible] def wg(a b:Nat):CO:=qb a (qV b)
@[reducible] def wh(a:Nat):CO:=qf a 0
@[reducible] def wi(a:Nat)(b:AK)(c:Nat):AK:=qu a b (.exit c)
@[reducible] def wj(a:List CO)(b c:OT):OT:= .alt (.one a b) c
@[reducible] def wl(a:Nat)(b:List AOp):CO:=qn a bB b
@[reducible] def wm:AV:=qN []
@[reducible] def wn(a b c d:Nat):CO:=qb a (we b c d)
@[reducible] def wo(a:Nat)(b:BinOp)(c d:Nat):CO:=qw a b c (.t d)
@[reducible] def wq(a:Nat)(b:AK)(c:List CO):AK:=wb a b (.reg c)
@[reducible] def wt(a b c:Nat):Nat × Nat × AOp:=(a,b,.t c)
@[reducible] def wu(a:Nat)(b:List AV)(c:List (Nat × Nat × AOp)):CO:=qb a (.bld b c)
@[reducible] def wv(a:Nat):AI:=qj none a
@[reducible] def ww:AV:=qx true
@[reducible] def wx(a b:Nat)(c d:AOp):CO:=qb a (qP b c d)
@[reducible] def wy(a b:Nat):AK:=wi a .skip b
@[reducible] def wz(a:Nat)(b:List CO):AK:=wa a (qH b)
@[reducible] def wA(a b c:Nat)(d:AOp):AI:= .app a b (.t c) d
@[reducible] def wB(a:Nat):AI:= .not (.t a)
@[reducible] def wC(a:Nat)(b:AOp):List CO:=[qc a b]
@[reducible] def wD(a b:Nat):AI:= .box a (.t b)
@[reducible] def wE(a b:Nat):Nat × Nat × AOp:=wt a 1 b
@[reducible] def wF(a b:Nat)(c:Int):CO:=qC a .add b c
@[reducible] def wG(a:Nat)(b:List AOp):CO:=qn a aZ b
@[reducible] def wH:AOp:= .c ww
@[reducible] def wI(a b c:Nat):CO:=wo a .lss b c
@[reducible] def wJ(a b:Nat)(c:Int):CO:=qC a .eql b c
@[reducible] def wK:AOp:=qi 1
@[reducible] def wL(a:List CO)(b:AK)(c:List CO):AK:=qD a b (qH c)
@[reducible] def wM(a b c d:Nat):AI:=wA a b c (.t d)
@[reducible] def wN(a:Nat)(b:AOp):List AOp:=[.t a,b]
@[reducible] def wO(a b:Nat):List AOp:=wN a (.t b)
@[reducible] def wP(a b c d e:Nat):CO:=qb a (wM b c d e)
@[reducible] def wQ(a:Nat)(b:List CO)(c d:AK):AK:=qT a (qD b c d)
@[reducible] def wR(a:Nat)(b:FuncId)(c d:Nat):CO:=qn a b (wO c d)
@[reducible] def wS(a b c:Nat):CO:=qb a (wD b c)
@[reducible] def wT(a b:Nat)(c:AOp):AK:=wz a (wC b c)
@[reducible] def wU(a:Nat)(b:List CO)(c d:Nat)(e:AK):AK:=wQ a b (wy c d) e
@[reducible] def wV(a:List CO)(b:OT):OT:=wj a b .tru
@[reducible] def wW(a b c:Nat):CO:=qL a b (wv c)
@[reducible] def wX(a:Nat):CO:=qf a 5
@[reducible] def wY(a:Nat)(b:List CO)(c d e:Nat)(f:AK)(g:List CO):AK:=wU a b c d (wq e f g)
@[reducible] def wZ(a:Nat):List CO:=wC a qR
@[reducible] def xa(a b c:Nat):CO:=qK a b (qZ c)
@[reducible] def xb(a b c:Nat):CO:=qL a b (qZ c)
@[reducible] def xc(a:Nat)(b:List AOp):CO:=qn a bJ b
@[reducible] def xd(a b:Nat)(c:AOp)(d:Nat):CO:=wx a b c (.t d)
@[reducible] def xe(a b:Nat):CO:=qp a 0 b
@[reducible] def xf(a b:Nat)(c:Int):Nat × Nat × AOp:=(a,b,qi c)
@[reducible] def xg(a:Nat)(b:Int):Nat × Nat × AOp:=xf a 1 b
@[reducible] def xh(a:List AOp):AI:= .call gV a
@[reducible] def xi(a b:Nat)(c:Int):CO:=qC a .sub b c
@[reducible] def xj(a b:Nat):CO:=qp a 2 b
@[reducible] def xk(a b c:Nat):CO:=qK a b (wv c)
@[reducible] def xl:AOp:= .c .nils
@[reducible] def xm(a b c:Nat)(d:AOp):CO:=wx a b (.t c) d
@[reducible] def xo(a b c d:Nat):CO:=qL a b (qh c d)
@[reducible] def xp(a:Nat):CO:=qf a 6
@[reducible] def xq(a:Nat):List AOp:=[.t a]
@[reducible] def xr(a:Nat)(b:FuncId)(c:Nat):CO:=qn a b (xq c)
@[reducible] def xt(a b:Nat):CO:=xr a bK b
@[reducible] def xu(a b c d:Nat):CO:=qK a b (qh c d)
@[reducible] def xv(a:Nat)(b:List AOp):CO:=qn a bh b
@[reducible] def xx(a b:Nat):CO:=qS 1 a b
@[reducible] def xy(a:CO)(b c:Nat):List CO:=[a,qf b c]
@[reducible] def xz(a b:Nat)(c:BinOp)(d:Nat)(e:AOp):CO:=qL a b (ql c d e)
@[reducible] def xA(a:Nat)(b:Int):List AOp:=wN a (qi b)
@[reducible] def xB(a b:Nat):CO:=qp a 1 b
@[reducible] def xC(a:Nat):List RV:=[.t a]
@[reducible] def xD(a:Nat):CO:=qf a 1
@[reducible] def xE:List AV:=[qy]
@[reducible] def xF(a b c:Nat)(d:List (Nat × Nat × AOp)):CO:=qI a b xE c d
@[reducible] def xG(a:Nat):CO:=qf a 4
@[reducible] def xH(a:List CO)(b:Nat)(c d:AK):AK:=qe a (qu b c d)
@[reducible] def xI(a b:CO)(c d:Nat):List CO:=[a,b,qf c d]
@[reducible] def xJ(a:Nat)(b:List CO)(c d e:Nat)(f:AK)(g h:CO)(i j:Nat):AK:=wY a b c d e f (xI g h i j)
@[reducible] def xK(a:Nat)(b:List CO)(c d e:Nat)(f:AK)(g:CO)(h i:Nat)(j:Int)(k l:Nat):AK:=xJ a b c d e f g (wF h i j) k l
@[reducible] def xL:List RV:=xC 4
@[reducible] def xM:List AV:=[.nils]
@[reducible] def xN(a:List CO)(b c:AK):AK:= .cut (qe a b) c
@[reducible] def xO(a b:Nat):RV:= .c a (some b)
@[reducible] def xP(a b:Nat):CO:=xr a bq b
@[reducible] def xQ(a:List AOp):AI:= .call bB a
@[reducible] def xR:List RV:=xC 2
@[reducible] def xS(a:Nat)(b:List AOp):CO:=qn a dP b
@[reducible] def xT(a b:Nat):CO:=qb a (wB b)
@[reducible] def xU(a:Nat):Nat × Nat × AOp:=wE 0 a
@[reducible] def xV(a b:List CO)(c:AK)(d:List CO):AK:=qe a (wL b c d)
@[reducible] def xW(a b c:Nat):CO:=xd a b wH c
@[reducible] def xX(a b:Nat)(c:Int)(d e:Nat):List CO:=xy (wJ a b c) d e
@[reducible] def xY(a b:List CO):AK:=qe a (qH b)
@[reducible] def xZ(a:Nat)(b:List AOp):CO:=qn a gV b
@[reducible] def x7(a b:Nat)(c:List AV)(d:Nat)(e:List (Nat × Nat × AOp)):CO:=qb a (.bslP b c d e)
@[reducible] def x8(a:Nat):CO:=qf a 3
@[reducible] def x9(a b:Nat)(c:List (Nat × Nat × AOp)):CO:=xF a 1 b c
@[reducible] def ya(a b:Nat)(c:BinOp)(d:Nat)(e:AOp):CO:=qK a b (ql c d e)
@[reducible] def yb(a:Nat)(b:List CO):AK:=wa a (.reg b)
@[reducible] def yc(a b c:Nat):CO:=xm a b c qU
@[reducible] def ye(a b:Nat):AK:=wT a b qU
@[reducible] def yf(a:Nat):CO:=qO a 10
@[reducible] def yg:CO:=yf 9
@[reducible] def yh(a:Nat):CO:=qO 11 a
@[reducible] def yi:CO:=yh 12
@[reducible] def yj(a:Nat):CO:=qf a 7
@[reducible] def yk(a:List CO)(b c:AK):AK:=qe a (.seq b c)
@[reducible] def yl(a:List UInt8):AOp:= .c (qN a)
def kN:FK:=⟨11,xR,xV (wC 2 (.c .nilp)) [wh 3,wg 4 3,qC 5 .gtr 4 2000] (yb 5 (xI (wh 6) (qb 7 (.slS 1 (.t 6) none (some (qi 2000)))) 0 7)) [wh 8,wu 9 [.nils,qy] [xU 8],wS 10 2 9,qf 2 10]⟩
theorem rZ:ay Try.prog gd=some kN:=by kernel_rfl
def cG:FK:=⟨99,xL,qX (wZ 4) [wh 7,wh 8,qW 9 8,xB 10 9,qt 11 10,wF 12 11 1,qW 13 7,xB 14 13,xx 14 12] (qD [xD 15,qC 16 .lss 15 1,qf 17 16,xa 18 17 0,qK 19 17 (qz 18),xu 20 17 0 19,xk 21 17 20,qK 22 17 (qV 21),ya 23 17 .eql 22 qR,xW 24 17 23] (wT 24 4 qR) (qe [wh 25,qW 26 25,xB 27 26,qt 28 27,xi 29 28 1,qf 5 29] (qD [wX 30,wh 31,qW 32 31,xe 33 32,qt 34 33,wg 35 34,wI 36 30 35] (wz 36 [wh 37,qW 38 37,xe 39 38,qt 40 39,wX 41,wn 42 1 40 41,qt 43 42,qb 44 (.conv .i64 (.t 43)),xD 45,wo 46 .rem 44 45,qf 4 46]) (qX [wh 47,qW 48 47,xe 49 48,wX 51,wh 52,qW 53 52,xe 54 53,wh 62,qW 63 62,xe 64 63,wX 66,qC 67 .mul 66 7,wF 68 67 3,wh 69,qW 70 69,xe 71 70,wX 80,qC 81 .mul 80 29,wX 83,wh 84,qW 85 84,xe 86 85,qt 50 49,qt 55 54,wg 56 55,wo 57 .rem 51 56,wn 58 1 50 57,qt 59 58,qb 60 (.conv .i64 (.t 59)),qC 61 .mul 60 131,qt 65 64,qt 72 71,wg 73 72,wo 74 .rem 68 73,wn 75 1 65 74,qt 76 75,qb 77 (.conv .i64 (.t 76)),qC 78 .mul 77 1117,wo 79 .add 61 78,wo 82 .add 79 81,qt 87 86,wg 88 87,wo 89 .quo 83 88,qC 90 .mul 89 53,wo 91 .add 82 90,qf 6 91] [xp 92,xp 93,qC 94 .quo 93 64,wo 95 .xor 92 94,qf 6 95] (qH [xp 96,xD 97,wo 98 .rem 96 97,qf 4 98])))))⟩
theorem mO:ay Try.prog bB=some cG:=by kernel_rfl
def cX:FK:=⟨12,xL,xY (wZ 4) [xD 5,wh 6,xD 7,wg 8 7,wl 9 (wO 6 8),wn 10 1 5 9,qt 11 10,qf 4 11]⟩
theorem eI:ay Try.prog aZ=some cX:=by kernel_rfl
def kR:FK:=⟨15,xC 6,xY (wC 6 qU) [wh 7,xD 8,wo 9 .geq 7 8,qf 10 9,xb 11 10 0,xb 12 10 2,xz 13 10 .leq 11 (.t 12),yc 14 10 13,qf 6 14]⟩
theorem yP:ay Try.prog gV=some kR:=by kernel_rfl
def bW:FK:=⟨28,xR,qe (wZ 2) (wb 0 (xH [wh 4,wJ 5 4 1,wX 3] 3 (qH (wZ 2)) (xH [wh 7,wJ 8 7 2,qf 9 8,xa 10 9 0,ya 11 9 .eql 10 (qi 10),xW 12 9 11,qf 13 12,xa 14 13 0,ya 15 13 .eql 14 (qi 11),xW 16 13 15,qf 17 16,xa 18 17 0,ya 19 17 .eql 18 (qi 13),xW 20 17 19,qf 6 20] 6 (qH (wC 2 wK)) (qe [wh 22,xZ 23 [.t 22,qi 3,qi 9],qf 24 23,xa 25 24 0,ya 26 24 .eql 25 (qi 12),xW 27 24 26,qf 21 27] (wT 21 2 (qi 2))))) (qH (wC 2 (qi (-1)))))⟩
theorem tw:ay Try.prog eW=some bW:=by kernel_rfl
def kL:FK:=⟨13,xR,xY (wC 2 qU) [wh 3,xZ 4 [.t 3,wK,qi 14],xG 5,xb 6 5 0,xz 7 5 .neq 6 (qi 12),yc 8 5 7,qf 9 8,xb 10 9 0,xz 11 9 .neq 10 (qi 13),yc 12 9 11,qf 2 12]⟩
theorem rv:ay Try.prog cS=some kL:=by kernel_rfl
def iL:AK:=qX [wS 4 1 1,wd 6 [qy,qy,.nils,qy]] [wh 11,x9 12 16 [(0,1,wK),(1,1,wK),xg 2 2,xg 3 3,xg 4 4,xg 5 5,xg 6 8,xg 7 9,xg 8 10,xg 9 13,xg 10 3,xg 11 6,xg 12 7,xg 13 11,xg 14 12,xg 15 14],wG 13 (wO 11 12),qf 7 13] (qX [yj 14,wh 15,qf 16 2,wl 17 (wO 15 16),wu 18 [qy,qy,.nils,qy] [xU 14,wE 1 17],wd 8 [qy,qy,.nils,qy],qS 4 8 18] (xI (yj 19) (xr 20 eW 19) 9 20) (xN [yj 21,wJ 22 21 14] (wa 22 (qD [xe 23 4,qt 24 23,wg 25 24,wJ 26 25 0] (wz 26 [wh 27,qf 28 2,wl 29 (wO 27 28),x9 30 1 [xU 29],wu 31 [qy,qy,.nils,qy] [xg 0 13,xg 1 (-1),wE 2 30],qS 4 6 31]) (qe [wh 32,xe 33 4,qt 34 33,wg 35 34,wl 36 (wO 32 35),qp 37 3 8,xx 37 36] (.reg [xe 38 4,qt 39 38,qp 40 3 8,qt 41 40,wn 42 3 39 41,xe 43 42,qt 44 43,qf 9 44])))) (xN [yj 45,wJ 46 45 1] (yb 46 [wh 47,x9 48 7 [(0,1,qR),(1,1,wK),xg 2 2,xg 3 3,xg 4 15,xg 5 16,xg 6 255],wG 49 (wO 47 48),qp 50 3 8,xx 50 49]) (xN [yj 51,xr 52 cS 51,xT 53 52] (yb 53 [xB 54 8,qQ 1 54 (qi (-1))]) (wL (wZ 10) (xK 0 [qf 55 10,qf 56 9,wI 57 55 56] 57 0 1 (.reg [xj 60 8,wh 62,qf 63 2,qt 61 60,wl 64 (wO 62 63),qO 60 61,x7 65 1 xE 1 [xU 64],wP 66 1 8 61 65,xj 67 8,xx 67 66]) (qf 58 10) 59 58 1 10 59) [qY 68 4 8,qS 4 6 68])))))
def iy:FK:=⟨69,[xO 6 4],(AK.whole iL)⟩
theorem tr:ay Try.prog iE=some iy:=by kernel_rfl
def ku:FK:=⟨30,xC 6,xV (wZ 6) [xD 7,qf 8 2,xi 9 8 1,wI 10 7 9,qf 11 10,xb 12 11 0,qL 13 11 (xQ (xA 12 4)),xz 14 11 .gtr 13 qR,yc 15 11 14] (wz 15 [xD 16,wF 17 16 1,wh 18,qf 19 2,xi 20 19 1,xD 21,wo 22 .sub 20 21,wl 23 (wO 18 22),wo 24 .add 17 23,qf 6 24]) [wh 25,qf 26 2,xi 27 26 1,wl 28 (wO 25 27),qb 29 (.bin .add wK (.t 28)),qf 6 29]⟩
theorem yw:ay Try.prog fg=some ku:=by kernel_rfl
def im:AK:=qX [wS 3 1 1,wd 4 [qy,qy,.nils]] [wh 10,x9 11 4 [(0,1,wK),(1,1,qR),xg 2 2,xg 3 3],wG 12 (wO 10 11),wu 13 [qy,qy,.nils] [xU 12],wd 5 [qy,qy,.nils],qS 3 5 13] (qX [xe 14 5,wh 17,qt 15 14,wF 16 15 2,wl 18 (xA 17 5),qO 14 15,wo 19 .add 16 18,xB 20 5,xx 20 19] [wh 21,x9 22 6 [xg 0 3,xg 1 5,xg 2 2,(3,1,wK),xg 4 7,xg 5 4],wG 23 (wO 21 22),qf 6 23] (wL (wZ 7) (xK 0 [yj 24,xp 25,wI 26 24 25] 26 0 1 (qe [wu 29 [.nils,.nils,qy,qy,.nils] [],wd 8 [.nils,.nils,qy,qy,.nils],qS 5 8 29] (xN [wh 30,x9 31 5 [(0,1,wK),xg 1 2,(2,1,qR),xg 3 3,xg 4 4],wG 32 (wO 30 31),qf 9 32] (xJ 2 [qf 33 9,qC 34 .gtr 33 0] 34 2 3 (.reg [xB 37 8,wh 39,xB 41 5,qt 38 37,qY 40 1 3,qt 42 41,qn 43 iE [.t 39,.t 40,.t 42],qO 37 38,qI 44 4 [qy,qy,.nils,qy] 1 [wt 0 4 43],qO 37 38,wP 45 4 48 38 44,xB 46 8,xx 46 45]) (qf 35 9) (xi 36 35 1) 9 36) (qX [wh 47,xB 48 5,qt 49 48,wl 50 (wO 47 49),qp 51 3 8,xx 51 50] [wh 52,x9 53 5 [xg 0 2,(1,1,wK),xg 2 2,(3,1,wK),xg 4 3],wG 54 (wO 52 53),xj 55 8,xx 55 54] (xN [xp 56,wJ 57 56 1,qf 58 57,xa 59 58 7,xa 60 58 6,ya 61 58 .sub 60 wK,ya 62 58 .eql 59 (.t 61),xa 63 58 62,xb 64 63 0,qL 65 63 (xQ (xA 64 3)),xz 66 63 .gtr 65 qR,qK 67 58 (qP 63 (.t 66) qU),xW 68 58 67] (yb 68 [xj 69 8,qQ 1 69 (qi 3)]) (xN [xj 70 8,qt 71 70] (.blk 4 (xH (xX 73 71 1 72 73) 72 (qe [qp 74 3 8,qQ 1 74 qR] (.reg [wh 75,yj 76,xp 77,qn 78 fg [.t 75,.t 76,.t 77],x9 79 1 [xU 78],qp 80 4 8,xx 80 79])) (qe (xX 82 71 2 81 82) (yb 81 [wh 83,yj 84,xp 85,qn 86 fg [.t 83,.t 84,.t 85],wh 87,yj 88,xp 89,qn 90 fg [.t 87,.t 88,.t 89],x9 91 2 [xU 86,wE 1 90],qp 92 4 8,xx 92 91])))) (.reg [xj 93 5,qt 94 93,qY 95 5 8,qI 96 5 [.nils,.nils,qy,qy,.nils] 1 [wt 0 5 95],wP 97 5 88 94 96,xj 98 5,xx 98 97])))))) (yj 27) 28 27 1 7 28) [qY 99 3 5,qS 3 4 99]))
def iJ:FK:=⟨100,[xO 4 3],(AK.whole im)⟩
theorem tq:ay Try.prog iv=some iJ:=by kernel_rfl
def kC:FK:=⟨43,xL,qX [wS 2 3 0,qc 4 xl] (xy (x9 8 0 []) 5 8) (wL (wZ 6) (xK 0 [xp 9,xj 10 2,qt 11 10,wg 12 11,wI 13 9 12] 13 0 1 (qe (wZ 7) (xK 2 [yj 16,xj 17 2,qt 18 17,xp 19,wn 20 5 18 19,qp 21 4 20,qt 22 21,wg 23 22,wI 24 16 23] 24 2 3 (qe [xj 27 2,qt 28 27,xp 29,wn 30 5 28 29,qp 31 4 30,qt 32 31,yj 33,wn 34 1 32 33,qt 35 34,xD 36,wo 37 .eql 35 36] (wa 37 (qe [wX 38,xp 39,x9 40 1 [xU 39],wP 41 1 8 38 40,qf 5 41] (.exit 2)))) (yj 25) 26 25 1 7 26)) (xp 14) 15 14 1 6 15) (xy (wX 42) 4 42))⟩
theorem rk:ay Try.prog ce=some kC:=by kernel_rfl
def iC:AK:=qX [wd 2 xM] [wu 9 xM [],wd 3 xM,xx 3 9] (xN [wh 10,x9 11 4 [(0,1,wK),xg 1 2,(2,1,wK),xg 3 3],wG 12 (wO 10 11),qf 4 12] (xJ 0 [xG 13,qC 14 .gtr 13 0] 14 0 1 (.reg [xe 17 3,wh 19,qt 18 17,qY 20 1 3,wR 21 iv 19 20,qO 17 18,qI 22 3 [qy,qy,.nils] 1 [wt 0 3 21],qO 17 18,wP 23 3 40 18 22,xe 24 3,xx 24 23]) (xG 15) (xi 16 15 1) 4 16) (wL [wh 25,x9 26 4 [(0,1,qR),(1,1,qR),(2,1,wK),xg 3 3],wG 27 (wO 25 26),qf 5 27] (xJ 2 [wX 28,qC 29 .gtr 28 0] 29 2 3 (qX [xe 32 3,wh 34,xe 35 3,qt 33 32,qt 36 35,wg 37 36,wl 38 (wO 34 37),qO 32 33,wn 39 3 33 38,qf 6 39] [wh 40,xp 41,qW 42 41,xj 43 42,qt 44 43,wg 45 44,wl 46 (wO 40 45),qf 7 46] (qe [wh 47,xp 48,qW 49 48,xB 50 49,qt 51 50,wl 52 (wO 47 51),wu 53 [qy,.nils] [xU 52],wd 8 [qy,.nils],qS 2 8 53] (xN [xp 54,qW 55 54,qY 56 3 55,yj 57,wR 58 ce 56 57,wg 59 58,qc 60 qR] (qT 4 (yk [wI 61 60 59] (wy 61 4) (wq 5 (.reg [xB 62 8,wh 64,xp 65,qW 66 65,xB 67 66,qt 63 62,qt 68 67,wl 69 (wO 64 68),qO 62 63,x7 70 1 xE 1 [xU 69],wP 71 1 8 63 70,xB 72 8,xx 72 71]) (xy (wF 73 60 1) 60 73)))) (qe [yj 74,qC 75 .gtr 74 0] (yb 75 [xp 76,qW 77 76,xj 78 77,yj 80,xp 81,qW 82 81,xj 83 82,yj 85,qt 79 78,qt 84 83,wn 86 5 84 85,xe 87 86,qt 88 87,qY 89 2 8,qI 90 2 [qy,.nils] 1 [wt 0 2 89],qO 78 79,qO 83 84,qO 87 88,wP 91 2 32 88 90,qO 78 79,wn 92 5 79 80,xe 93 92,xx 93 91]))))) (wX 30) (xi 31 30 1) 5 31) [qY 94 1 3,xx 2 94]))
def iz:FK:=⟨95,[xO 2 1],(AK.whole iC)⟩
theorem tm:ay Try.prog di=some iz:=by kernel_rfl
def dA:AK:=qe [wS 1 5 0,wd 2 [.nils,.nils,qy,qy,.nils]] (.cut (.ot (.one (wC 3 (.c .any)) (.one [xj 9 1] (.one [qp 11 3 1] (.one [qp 14 4 1] (.one [qt 10 9] (.one [qt 12 11] (.one [qt 15 14] (wj [qI 7 2 [qy,.nils] 0 [],yg,yi,qO 14 15] (wj [qI 8 4 [qy,qy,.nils,qy] 0 [],yg,yi,qO 14 15] (wV [x9 13 0 [],yg,yi,qO 14 15] (wV [wP 16 1 8 13 15,yg,yi] (.one [wu 17 [.nils,.nils,qy,qy,.nils] [xU 7,wE 1 8,wE 2 10,wE 3 12,wE 4 16]] (wV [wd 3 [.nils,.nils,qy,qy,.nils]] (wV [qS 5 3 17] .done))))) (wV [x9 13 0 [],yg,yi,qO 14 15] (wj [qI 8 4 [qy,qy,.nils,qy] 0 [],yg,yi,qO 14 15] (wV [wP 16 1 8 13 15,yg,yi] (.one [wu 17 [.nils,.nils,qy,qy,.nils] [xU 7,wE 1 8,wE 2 10,wE 3 12,wE 4 16]] (wV [wd 3 [.nils,.nils,qy,qy,.nils]] (wV [qS 5 3 17] .done)))) (wV [wP 16 1 8 13 15,yg,yi] (wV [qI 8 4 [qy,qy,.nils,qy] 0 [],yg,yi,qO 14 15] (.one [wu 17 [.nils,.nils,qy,qy,.nils] [xU 7,wE 1 8,wE 2 10,wE 3 12,wE 4 16]] (wV [wd 3 [.nils,.nils,qy,qy,.nils]] (wV [qS 5 3 17] .done)))))))) (wj [qI 8 4 [qy,qy,.nils,qy] 0 [],yg,yi,qO 14 15] (wj [qI 7 2 [qy,.nils] 0 [],yg,yi,qO 14 15] (wV [x9 13 0 [],yg,yi,qO 14 15] (wV [wP 16 1 8 13 15,yg,yi] (.one [wu 17 [.nils,.nils,qy,qy,.nils] [xU 7,wE 1 8,wE 2 10,wE 3 12,wE 4 16]] (wV [wd 3 [.nils,.nils,qy,qy,.nils]] (wV [qS 5 3 17] .done))))) (wV [x9 13 0 [],yg,yi,qO 14 15] (wj [qI 7 2 [qy,.nils] 0 [],yg,yi,qO 14 15] (wV [wP 16 1 8 13 15,yg,yi] (.one [wu 17 [.nils,.nils,qy,qy,.nils] [xU 7,wE 1 8,wE 2 10,wE 3 12,wE 4 16]] (wV [wd 3 [.nils,.nils,qy,qy,.nils]] (wV [qS 5 3 17] .done)))) (wV [wP 16 1 8 13 15,yg,yi] (wV [qI 7 2 [qy,.nils] 0 [],yg,yi,qO 14 15] (.one [wu 17 [.nils,.nils,qy,qy,.nils] [xU 7,wE 1 8,wE 2 10,wE 3 12,wE 4 16]] (wV [wd 3 [.nils,.nils,qy,qy,.nils]] (wV [qS 5 3 17] .done)))))))) (wV [x9 13 0 [],yg,yi,qO 14 15] (wj [qI 7 2 [qy,.nils] 0 [],yg,yi,qO 14 15] (wj [qI 8 4 [qy,qy,.nils,qy] 0 [],yg,yi,qO 14 15] (wV [wP 16 1 8 13 15,yg,yi] (.one [wu 17 [.nils,.nils,qy,qy,.nils] [xU 7,wE 1 8,wE 2 10,wE 3 12,wE 4 16]] (wV [wd 3 [.nils,.nils,qy,qy,.nils]] (wV [qS 5 3 17] .done)))) (wV [wP 16 1 8 13 15,yg,yi] (wV [qI 8 4 [qy,qy,.nils,qy] 0 [],yg,yi,qO 14 15] (.one [wu 17 [.nils,.nils,qy,qy,.nils] [xU 7,wE 1 8,wE 2 10,wE 3 12,wE 4 16]] (wV [wd 3 [.nils,.nils,qy,qy,.nils]] (wV [qS 5 3 17] .done)))))) (wj [qI 8 4 [qy,qy,.nils,qy] 0 [],yg,yi,qO 14 15] (wj [qI 7 2 [qy,.nils] 0 [],yg,yi,qO 14 15] (wV [wP 16 1 8 13 15,yg,yi] (.one [wu 17 [.nils,.nils,qy,qy,.nils] [xU 7,wE 1 8,wE 2 10,wE 3 12,wE 4 16]] (wV [wd 3 [.nils,.nils,qy,qy,.nils]] (wV [qS 5 3 17] .done)))) (wV [wP 16 1 8 13 15,yg,yi] (wV [qI 7 2 [qy,.nils] 0 [],yg,yi,qO 14 15] (.one [wu 17 [.nils,.nils,qy,qy,.nils] [xU 7,wE 1 8,wE 2 10,wE 3 12,wE 4 16]] (wV [wd 3 [.nils,.nils,qy,qy,.nils]] (wV [qS 5 3 17] .done)))))) (wV [wP 16 1 8 13 15,yg,yi] (wj [qI 7 2 [qy,.nils] 0 [],yg,yi,qO 14 15] (wV [qI 8 4 [qy,qy,.nils,qy] 0 [],yg,yi,qO 14 15] (.one [wu 17 [.nils,.nils,qy,qy,.nils] [xU 7,wE 1 8,wE 2 10,wE 3 12,wE 4 16]] (wV [wd 3 [.nils,.nils,qy,qy,.nils]] (wV [qS 5 3 17] .done)))) (wV [qI 8 4 [qy,qy,.nils,qy] 0 [],yg,yi,qO 14 15] (wV [qI 7 2 [qy,.nils] 0 [],yg,yi,qO 14 15] (.one [wu 17 [.nils,.nils,qy,qy,.nils] [xU 7,wE 1 8,wE 2 10,wE 3 12,wE 4 16]] (wV [wd 3 [.nils,.nils,qy,qy,.nils]] (wV [qS 5 3 17] .done)))))))))))))))))))) (xN (wZ 4) (xK 0 [xG 18,xe 19 1,qt 20 19,wg 21 20,wI 22 18 21] 22 0 1 (.reg [xe 25 3,xe 27 1,xG 29,xe 34 1,xG 36,qt 26 25,qt 28 27,wn 30 2 28 29,xe 31 30,qt 32 31,qt 35 34,wn 37 2 35 36,xB 38 37,qt 39 38,x9 33 0 [],qO 25 26,qO 27 28,qO 31 32,qO 34 35,qO 38 39,wP 40 1 8 33 39,qO 25 26,qO 27 28,qO 31 32,wu 41 [qy,.nils] [xU 32,wE 1 40],qI 42 2 [qy,.nils] 1 [wt 0 2 41],qO 25 26,wP 43 2 32 26 42,xe 44 3,xx 44 43]) (xG 23) 24 23 1 4 24) (wL (wZ 5) (xK 2 [wX 45,xB 46 1,qt 47 46,wg 48 47,wI 49 45 48] 49 2 3 (qe [xB 52 1,qt 53 52,wX 54,wn 55 4 53 54,qY 56 4 55,wd 6 [qy,qy,.nils,qy],qS 4 6 56] (.reg [xB 57 3,xe 59 6,xB 61 6,xj 64 6,qp 67 3 6,qt 58 57,qt 60 59,qt 62 61,qt 65 64,qt 68 67,x9 63 0 [],qO 57 58,qO 59 60,qO 61 62,qO 64 65,qO 67 68,wP 66 1 8 63 65,qO 57 58,qO 59 60,qO 61 62,qO 67 68,wu 69 [qy,qy,.nils,qy] [xU 60,wE 1 62,wE 2 66,wE 3 68],qI 70 4 [qy,qy,.nils,qy] 1 [wt 0 4 69],qO 57 58,wP 71 4 48 58 70,xB 72 3,xx 72 71])) (wX 50) 51 50 1 5 51) [qY 73 5 3,qS 5 2 73])))
def dC:FK:=⟨74,[xO 2 5],(AK.whole dA)⟩
theorem mo:ay Try.prog dx=some dC:=by kernel_rfl
def lM:FK:=⟨29,[xO 2 3],qX [wS 1 3 0,wd 2 [qy,qy,.nils]] [xe 5 1,qt 6 5,xB 7 1,qt 8 7,wu 9 [qy,qy,.nils] [xU 6,wE 1 8],wd 3 [qy,qy,.nils],qS 3 3 9] (wL (wZ 4) (xK 0 [xG 10,xj 11 1,qt 12 11,wg 13 12,wI 14 10 13] 14 0 1 (.reg [xj 17 3,xj 19 1,xG 21,qt 18 17,qt 20 19,wn 22 5 20 21,qY 23 5 22,xr 24 dx 23,qO 17 18,qI 25 5 [.nils,.nils,qy,qy,.nils] 1 [wt 0 5 24],qO 17 18,wP 26 5 88 18 25,xj 27 3,xx 27 26]) (xG 15) 16 15 1 4 16) [qY 28 3 3,qS 3 2 28])⟩
theorem th:ay Try.prog iq=some lM:=by kernel_rfl
def ii:FK:=⟨25,[xO 2 1],qX [wS 1 1 0,wd 2 xM] [wu 5 xM [],wd 3 xM,xx 3 5] (wL (wZ 4) (xK 0 [xG 6,xe 7 1,qt 8 7,wg 9 8,wI 10 6 9] 10 0 1 (.reg [xe 13 3,xe 15 1,xG 17,qt 14 13,qt 16 15,wn 18 3 16 17,qY 19 3 18,xr 20 iq 19,qO 13 14,qI 21 3 [qy,qy,.nils] 1 [wt 0 3 20],qO 13 14,wP 22 3 40 14 21,xe 23 3,xx 23 22]) (xG 11) 12 11 1 4 12) [qY 24 1 3,xx 2 24])⟩
theorem nh:ay Try.prog dO=some ii:=by kernel_rfl
def iG:AK:=qX [wd 2 xM] [wh 7,xr 8 di 7,xr 9 dO 8,wd 3 xM,xx 3 9] (qX [xe 10 3,wh 12,xe 13 3,qt 11 10,qt 14 13,wg 15 14,wl 16 (wO 12 15),qO 10 11,wn 17 3 11 16,qf 4 17] [xG 18,qW 19 18,xj 20 19,wh 22,xG 23,qW 24 23,xj 25 24,qt 21 20,qt 26 25,wg 27 26,wl 28 (wO 22 27),qO 20 21,wn 29 5 21 28,qf 5 29] (qe [wh 30,xG 31,qW 32 31,xB 33 32,xG 35,qW 36 35,xj 37 36,qt 34 33,qt 38 37,wg 39 38,x9 40 5 [xg 0 (-1),wE 1 34,wE 2 39,(3,1,qR),(4,1,wK)],wG 41 (wO 30 40),qf 6 41] (xN [wh 42,wl 43 (xA 42 32)] (.blk 0 (xH (xX 45 43 0 44 45) 44 (.reg [wX 46,wh 47,wl 48 (xA 47 5),qW 49 46,xj 50 49,xx 50 48]) (xH (xX 52 43 1 51 52) 51 (qe [wX 53,qW 54 53,qp 55 4 54,qt 56 55,wg 57 56,qC 58 .gtr 57 0] (yb 58 [wX 59,qW 60 59,qp 61 4 60,qt 62 61,xp 63,qb 64 (qG 1 62 qR),xx 64 63])) (xH (xX 66 43 2 65 66) 65 (.reg [wX 67,xp 68,qW 69 67,qp 70 3 69,xx 70 68]) (xH (xX 72 43 3 71 72) 71 (qe [wX 73,qW 74 73,xB 75 74,qt 76 75,wg 77 76,qC 78 .gtr 77 0] (yb 78 [wX 79,qW 80 79,xB 81 80,qt 82 81,xp 83,qb 84 (qG 4 82 qR),xB 85 84,xx 85 83])) (xH (xX 87 43 4 86 87) 86 (qe [wX 88,qW 89 88,xB 90 89,qt 91 90,wg 92 91,qC 93 .gtr 92 0] (yb 93 [wX 94,qW 95 94,xB 96 95,wX 98,qW 99 98,xB 100 99,xp 105,x7 106 1 xE 1 [xU 105],qt 97 96,qt 101 100,qb 102 (qG 4 101 qR),xj 103 102,qt 104 103,wP 107 1 8 104 106,qO 96 97,qb 108 (qG 4 97 qR),xj 109 108,xx 109 107])) (xH (xX 111 43 5 110 111) 110 (.reg [wX 112,wX 113,qW 114 113,xe 115 114,qt 116 115,xp 117,x9 118 1 [xU 117],wu 119 [qy,.nils] [(0,1,qR),wE 1 118],qI 120 2 [qy,.nils] 1 [wt 0 2 119],wP 121 2 32 116 120,qW 122 112,xe 123 122,xx 123 121]) (xH (xX 125 43 6 124 125) 124 (.reg [xG 126,xG 127,qW 128 127,xe 129 128,wh 131,qt 130 129,wl 132 (xA 131 2),qO 129 130,wo 133 .add 130 132,qW 134 126,xB 135 134,xx 135 133]) (qe (xX 137 43 7 136 137) (wa 136 (qe [wX 138,qW 139 138,xB 140 139,qt 141 140,wg 142 141,qC 143 .gtr 142 0] (yb 143 [wX 144,qW 145 144,xB 146 145,wh 148,x7 149 1 xE 3 [xg 0 256,xg 1 (-1),(2,1,wK)],qt 147 146,wG 150 (wO 148 149),qO 146 147,qb 151 (qG 4 147 qR),qp 152 3 151,xx 152 150])))))))))))) (qH [qY 153 1 3,xx 2 153]))))
def iF:FK:=⟨154,[xO 2 1],(AK.whole iG)⟩
theorem tG:ay Try.prog iB=some iF:=by kernel_rfl
def ft:FK:=⟨12,xL,xY (wC 4 (.c wm)) [xD 5,wh 6,xD 7,wg 8 7,wl 9 (wO 6 8),wn 10 1 5 9,qt 11 10,qf 4 11]⟩
theorem jP:ay Try.prog bC=some ft:=by kernel_rfl
def iQ:FK:=⟨21,[xO 4 4],xV [wd 4 [qy,qy,wm,.nils]] [xD 5,wg 6 5,wJ 7 6 0,yj 8,xa 9 8 0,qK 10 8 (xQ (xA 9 3)),ya 11 8 .eql 10 qR,xW 12 8 11] (wz 12 [wh 13,x9 14 10 [(0,1,qR),(1,1,wK),xg 2 2,xg 3 3,xg 4 5,xg 5 7,xg 6 15,xg 7 16,xg 8 100,xg 9 255],wG 15 (wO 13 14),wu 16 [qy,qy,wm,.nils] [(0,1,wK),wE 1 15],qS 4 4 16]) [wh 17,xD 18,wR 19 bC 17 18,wu 20 [qy,qy,wm,.nils] [xg 0 2,wE 2 19],qS 4 4 20]⟩
theorem tj:ay Try.prog eY=some iQ:=by kernel_rfl
def eX:FK:=⟨47,[xO 6 4],qe [wd 6 [qy,qy,wm,.nils]] (qD [qf 8 2,qC 9 .lss 8 2,qf 10 9,xa 11 10 0,qK 12 10 (xQ (xA 11 4)),ya 13 10 .eql 12 qR,xW 14 10 13] (wz 14 [wh 15,xD 16,wR 17 eY 15 16,qS 4 6 17]) (qD [wh 18,wl 19 (xA 18 7),wJ 20 19 0] (wz 20 [wh 21,x9 22 3 [xg 0 11,xg 1 12,xg 2 11],wG 23 (wO 21 22),wh 24,xD 25,qf 26 2,xi 27 26 1,qn 28 bf [.t 24,.t 25,.t 27],qI 29 4 [qy,qy,wm,.nils] 1 [wt 0 4 28],wu 30 [qy,qy,wm,.nils] [xU 23,wE 3 29],qS 4 6 30]) (xY [wh 31,x9 32 9 [xg 0 3,xg 1 3,xg 2 4,xg 3 5,xg 4 6,xg 5 7,xg 6 8,xg 7 9,xg 8 10],wG 33 (wO 31 32),qf 7 33] [yj 34,wh 35,xD 36,qf 37 2,xi 38 37 1,qn 39 bf [.t 35,.t 36,.t 38],wh 40,xD 41,qf 42 2,xi 43 42 1,qn 44 bf [.t 40,.t 41,.t 43],qI 45 4 [qy,qy,wm,.nils] 2 [wt 0 4 39,wt 4 4 44],wu 46 [qy,qy,wm,.nils] [xU 34,wE 3 45],qS 4 6 46])))⟩
theorem lP:ay Try.prog bf=some eX:=by kernel_rfl
def gN:FK:=⟨99,[xO 4 4],qX [wd 4 [qy,qy,wm,.nils]] [qc 5 (.c .any),wh 9,qW 10 9,xe 11 10,wh 13,qW 14 13,xj 15 14,xD 17,qt 12 11,qt 16 15,qn 18 bf [.t 12,.t 16,.t 17],wd 5 [qy,qy,wm,.nils],qS 4 5 18] (qD [wh 19,qW 20 19,xB 21 20,qt 22 21,wg 23 22,wJ 24 23 0,qf 25 24,xa 26 25 0,qK 27 25 (qz 26),xu 28 25 0 27,xk 29 25 28,qK 30 25 (xQ (xA 29 4)),ya 31 25 .gtr 30 qR,xW 32 25 31] (wz 32 [qY 33 4 5,qS 4 4 33]) (qX [qc 6 (.c .any),wh 34,qW 35 34,xB 36 35,wh 38,qW 39 38,xe 40 39,wh 42,qW 43 42,xB 44 43,qt 37 36,qt 41 40,qt 45 44,wg 46 45,wl 47 (wO 41 46),qO 36 37,wn 48 3 37 47,qY 49 3 48,wd 6 [wm,.nils,.nils],qS 3 6 49] [xe 50 6,qt 51 50,wu 52 [qy,qy,wm,.nils] [xg 0 13,wE 2 51],wd 7 [qy,qy,wm,.nils],qS 4 7 52] (qD (wZ 8) (xK 0 [qf 53 8,xB 54 6,qt 55 54,wg 56 55,wI 57 53 56] 57 0 1 (.reg [qp 60 3 7,wh 62,qW 63 62,xe 64 63,wh 66,qW 67 66,xj 68 67,qt 61 60,qt 65 64,qt 69 68,qn 70 bf [.t 65,.t 69,qi 2],qO 60 61,x7 71 4 [qy,qy,wm,.nils] 1 [wt 0 4 70],wP 72 4 56 61 71,qp 73 3 7,xx 73 72]) (qf 58 8) 59 58 1 8 59) (wL [wh 74,qW 75 74,xe 76 75,qt 77 76,wl 78 (xA 77 2),wJ 79 78 0] (wz 79 [qY 80 4 7,qS 4 4 80]) [wh 81,qW 82 81,xe 83 82,x7 85 1 xE 4 [xg 0 3,xg 1 4,xg 2 8,xg 3 10],wh 88,qW 89 88,xe 90 89,wh 92,qW 93 92,xj 94 93,qt 84 83,qY 87 4 7,qt 91 90,qt 95 94,wG 86 (wO 84 85),qA (some 4) 7 87,qO 90 91,qO 94 95,qn 96 bf [.t 91,.t 95,qi 2],qA (some 4) 7 87,qI 97 4 [qy,qy,wm,.nils] 2 [wt 0 4 87,wt 4 4 96],wu 98 [qy,qy,wm,.nils] [xU 86,wE 3 97],qS 4 4 98]))))⟩
theorem nz:ay Try.prog dP=some gN:=by kernel_rfl
def gm:FK:=⟨46,xR,qX (wC 2 (.c wm)) [wh 3,wh 4,qW 5 4,qp 6 3 5,qt 7 6,wF 8 7 1,qW 9 3,qp 10 3 9,xx 10 8] (wL [wh 11,qW 12 11,xe 13 12,qt 14 13,wl 15 (xA 14 9),wJ 16 15 0,qf 17 16,xb 18 17 0,qL 19 17 (qz 18),xo 20 17 2 19,wW 21 17 20,qL 22 17 (qV 21),xz 23 17 .gtr 22 qR,yc 24 17 23] (wz 24 [wh 25,qW 26 25,xe 27 26,wh 29,qW 30 29,xj 31 30,qt 28 27,qt 32 31,wR 33 bC 28 32,qf 2 33]) [wh 34,qW 35 34,qp 36 3 35,wh 39,qW 40 39,qp 41 3 40,qt 37 36,qC 38 .rem 37 24,qt 42 41,qC 43 .rem 42 24,wF 44 43 1,qb 45 (.slStr (yl [97,98,99,100,101,103,104,105,106,107,108,109,110,112,113,114,115,116,117,118,119,120,121,122]) (some (.t 38)) (some (.t 44))),qf 2 45])⟩
theorem lZ:ay Try.prog dF=some gm:=by kernel_rfl
def eJ:FK:=⟨24,[xO 4 5],qX [wS 3 4 1,wd 4 [qy,wm,.nils,.nils,.nils]] (xI (wh 6) (xr 7 dF 6) 5 7) (xY [wh 8,qI 9 1 [wm] 0 [],wh 10,qW 11 10,xj 12 11,qt 13 12,wP 14 1 16 9 13,wX 15,qI 16 1 [wm] 1 [xU 15],wP 17 1 16 14 16,qW 18 8,xj 19 18,xx 19 17] [wX 20,qY 21 4 3,qI 22 4 [qy,qy,wm,.nils] 1 [wt 0 4 21],wu 23 [qy,wm,.nils,.nils,.nils] [(0,1,wK),wE 1 20,wE 2 22],qS 5 4 23])⟩
theorem jh:ay Try.prog cd=some eJ:=by kernel_rfl
def ie:FK:=⟨14,[xO 2 4],xY [wd 2 [qy,qy,wm,.nils]] [wh 3,wh 5,qW 6 5,xe 7 6,x7 9 1 xE 6 [xg 0 16,xg 1 16,xg 2 16,xg 3 8,xg 4 17,(5,1,qR)],qt 8 7,xS 4 (xA 3 2),qO 7 8,wG 10 (wO 8 9),wu 11 [qy,qy,wm,.nils] [(0,1,wK),wE 1 10],qI 12 4 [qy,qy,wm,.nils] 2 [wt 0 4 4,wt 4 4 11],wu 13 [qy,qy,wm,.nils] [xg 0 7,wE 3 12],qS 4 2 13]⟩
theorem nT:ay Try.prog cH=some ie:=by kernel_rfl
def ec:AK:=qX (wC 4 xl) [wh 9,wh 10,qW 11 10,xe 12 11,qt 13 12,x9 14 5 [xg 0 2,xg 1 3,(2,1,wK),(3,1,qR),xg 4 5],wG 15 (wO 13 14),wu 16 [qy,qy,wm,.nils] [(0,1,wK),wE 1 15],wR 17 cd 9 16,wd 5 [qy,wm,.nils,.nils,.nils],qS 5 5 17] (qX [xB 18 5,qt 19 18,wu 20 [qy,qy,wm,.nils] [xg 0 2,wE 2 19],wd 6 [qy,qy,wm,.nils],qS 4 6 20] [wh 21,xD 22,xi 23 22 1,wR 24 aN 21 23,qf 7 24] (qe [xB 25 5,qt 26 25,qY 27 4 6,wu 28 [qy,qy,wm,.nils] [(0,1,wK),(1,1,wK)],qI 29 4 [qy,qy,wm,.nils] 2 [wt 0 4 27,wt 4 4 28],wu 30 [qy,qy,wm,.nils] [xg 0 4,wE 3 29],qI 31 4 [qy,qy,wm,.nils] 1 [wt 0 4 30],wu 32 [qy,wm,.nils,.nils,.nils] [xg 0 2,wE 1 26,wE 2 31],wd 8 [qy,wm,.nils,.nils,.nils],qS 5 8 32] (.cut (.reg [wh 33,wh 34,qW 35 34,qp 36 4 35,qt 37 36,xi 38 37 2,qW 39 33,qp 40 4 39,xx 40 38]) (qH [yj 44,qY 41 5 5,qY 42 4 6,x7 43 4 [qy,qy,wm,.nils] 1 [wt 0 4 42],qY 45 5 8,x7 46 5 [qy,wm,.nils,.nils,.nils] 1 [wt 0 5 45],wP 47 5 96 44 46,qA (some 5) 5 41,qA (some 4) 6 42,wu 48 [qy,wm,.nils,.nils,.nils] [xg 0 6,wE 2 43,wE 3 47],qI 49 5 [qy,wm,.nils,.nils,.nils] 2 [wt 0 5 41,wt 5 5 48],qf 4 49]))))
def eb:FK:=⟨50,xL,(AK.whole ec)⟩
theorem nG:ay Try.prog dT=some eb:=by kernel_rfl
def il:FK:=⟨128,xL,qX (wC 4 xl) [wh 7,wh 8,qW 9 8,qp 10 4 9,qt 11 10,xi 12 11 1,qW 13 7,qp 14 4 13,xx 14 12] (qe [wh 15,qW 16 15,xe 17 16,qt 18 17,wl 19 (xA 18 13),qf 5 19] (wb 0 (xH [wX 21,qC 22 .lss 21 3,qf 23 22,xb 24 23 0,qL 25 23 (qz 24),xo 26 23 2 25,wW 27 23 26,qL 28 23 (qV 27),xz 29 23 .gtr 28 qR,yc 30 23 29,qf 20 30] 20 (qH [wh 31,qW 32 31,xe 33 32,wh 35,qW 36 35,xj 37 36,wh 40,qt 34 33,qt 38 37,wR 39 bC 34 38,xS 41 (xA 40 3),qI 42 4 [qy,qy,wm,.nils] 1 [wt 0 4 41],wu 43 [qy,wm,.nils,.nils,.nils] [xg 0 2,wE 1 39,wE 2 42],qI 44 5 [qy,wm,.nils,.nils,.nils] 1 [wt 0 5 43],qf 4 44]) (xH (xI (wX 46) (qC 47 .lss 46 5) 45 47) 45 (qH [wh 48,wh 49,xS 50 (xA 49 3),wR 51 cd 48 50,qI 52 5 [qy,wm,.nils,.nils,.nils] 1 [wt 0 5 51],qf 4 52]) (xH [wX 54,qC 55 .lss 54 7,qf 56 55,xa 57 56 1,ya 58 56 .lss 57 (qi 2),xW 59 56 58,qf 53 59] 53 (qH [wh 60,xS 61 (xA 60 3),qI 62 4 [qy,qy,wm,.nils] 1 [wt 0 4 61],wu 63 [qy,wm,.nils,.nils,.nils] [xg 0 3,wE 2 62],qI 64 5 [qy,wm,.nils,.nils,.nils] 1 [wt 0 5 63],qf 4 64]) (xH (xI (wX 66) (wJ 67 66 7) 65 67) 65 (qH [wh 68,xr 69 cH 68,wh 70,xS 71 (xA 70 2),qI 72 4 [qy,qy,wm,.nils] 2 [wt 0 4 69,wt 4 4 71],wu 73 [qy,wm,.nils,.nils,.nils] [xg 0 4,wE 2 72],qI 74 5 [qy,wm,.nils,.nils,.nils] 1 [wt 0 5 73],qf 4 74]) (xH (xI (wX 76) (wJ 77 76 8) 75 77) 75 (qH [wh 78,xr 79 cH 78,qI 80 4 [qy,qy,wm,.nils] 1 [wt 0 4 79],wu 81 [qy,qy,wm,.nils] [xg 0 12,wE 3 80],qI 82 4 [qy,qy,wm,.nils] 1 [wt 0 4 81],wu 83 [qy,wm,.nils,.nils,.nils] [xg 0 3,wE 2 82],qI 84 5 [qy,wm,.nils,.nils,.nils] 1 [wt 0 5 83],qf 4 84]) (xH (xI (wX 86) (qC 87 .lss 86 11) 85 87) 85 (xV [wh 88,xS 89 (xA 88 3),qI 90 4 [qy,qy,wm,.nils] 1 [wt 0 4 89],wh 91,xD 92,xi 93 92 1,wR 94 aN 91 93,wu 95 [qy,wm,.nils,.nils,.nils] [xg 0 5,wE 2 90,wE 3 94],wd 6 [qy,wm,.nils,.nils,.nils],qS 5 6 95] [wh 96,qW 97 96,xe 98 97,qt 99 98,wl 100 (xA 99 2),wJ 101 100 0] (yb 101 [wh 102,xD 103,xi 104 103 1,wR 105 aN 102 104,qp 106 4 6,xx 106 105]) (xI (qY 107 5 6) (qI 108 5 [qy,wm,.nils,.nils,.nils] 1 [wt 0 5 107]) 4 108)) (qe [wX 110,wJ 111 110 11,qf 112 111,xb 113 112 0,qL 114 112 (qz 113),xo 115 112 0 114,wW 116 112 115,qL 117 112 (xQ (xA 116 3)),xz 118 112 .eql 117 qR,yc 119 112 118,qf 109 119] (wz 109 [wh 120,xS 121 (xA 120 2),qI 122 4 [qy,qy,wm,.nils] 1 [wt 0 4 121],wu 123 [qy,wm,.nils,.nils,.nils] [xg 0 7,wE 2 122],qI 124 5 [qy,wm,.nils,.nils,.nils] 1 [wt 0 5 123],qf 4 124])))))))) (qH [wh 125,xD 126,wR 127 dT 125 126,qf 4 127])))⟩
theorem mV:ay Try.prog dR=some il:=by kernel_rfl
def fQ:FK:=⟨40,xL,qX (wC 4 xl) [wh 8,qW 9 8,xj 10 9,qt 11 10,qf 5 11] (qe (xy (qI 12 5 [qy,wm,.nils,.nils,.nils] 0 []) 6 12) (qD [wh 13,qW 14 13,xe 15 14,qt 16 15,x9 17 4 [xg 0 2,xg 1 3,(2,1,wK),xg 3 4],wG 18 (wO 16 17),qf 7 18] (xJ 0 [yj 19,qC 20 .gtr 19 0,qf 21 20,xb 22 21 0,qL 23 21 (qz 22),xo 24 21 4 23,wW 25 21 24,xz 26 21 .gtr 25 qR,yc 27 21 26] 27 0 1 (.reg [xp 30,wh 31,xD 32,wR 33 dR 31 32,wP 34 5 96 30 33,qf 6 34]) (yj 28) (xi 29 28 1) 7 29) (xY [wh 35,wX 36,qW 37 35,xj 38 37,xx 38 36] (xy (xp 39) 4 39))))⟩
theorem mj:ay Try.prog aN=some fQ:=by kernel_rfl
def fq:AK:=qX [wd 6 [wm,.nils,.nils]] [wh 8,qI 9 1 [wm] 3 [(0,1,yl [97]),(1,1,yl [98]),(2,1,yl [99])],qf 10 2,qb 11 (.slS 1 (.t 9) none (some (.t 10))),qW 12 8,xj 13 12,xx 13 11] (qe [wh 14,qf 15 2,xi 16 15 1,qW 17 14,qp 18 3 17,xx 18 16] (.cut (.reg [xD 19,qI 20 1 [wm] 0 [],wh 21,qW 22 21,xj 23 22,qt 24 23,wP 25 1 16 20 24,wu 26 [wm,.nils,.nils] [xU 19,wE 1 25],wd 7 [wm,.nils,.nils],qS 3 7 26]) (xV [wh 27,qn 28 aN (xA 27 3),xj 29 7,xx 29 28] [wh 30,qW 31 30,qp 32 4 31,qt 33 32,qC 34 .gtr 33 0,qf 35 34,xb 36 35 0,qL 37 35 (qz 36),xo 38 35 0 37,wW 39 35 38,qL 40 35 (xQ (xA 39 4)),xz 41 35 .gtr 40 qR,yc 42 35 41] (wa 42 (qe [wh 43,wh 44,qW 45 44,qp 46 4 45,qt 47 46,xi 48 47 1,qW 49 43,qp 50 4 49,xx 50 48] (.reg [xj 51 7,wh 53,qt 52 51,xS 54 (xA 53 2),qO 51 52,x7 55 4 [qy,qy,wm,.nils] 1 [wt 0 4 54],wu 56 [qy,wm,.nils,.nils,.nils] [xg 0 7,wE 2 55],x7 57 5 [qy,wm,.nils,.nils,.nils] 1 [wt 0 5 56],wP 58 5 96 52 57,xj 59 7,xx 59 58]))) [qY 60 3 7,qS 3 6 60])))
def fu:FK:=⟨61,[xO 6 3],(AK.whole fq)⟩
theorem pF:ay Try.prog dv=some fu:=by kernel_rfl
def jW:FK:=⟨18,xL,xV (wZ 4) (wZ 5) (xK 0 [wX 6,wh 7,qb 8 (.len true (.t 7)),wI 9 6 8] 9 0 1 (qe [wh 12,wX 13,qb 14 (.idxStr (.t 12) (.t 13)),xD 15,wo 16 .eql 14 15] (wz 16 (xy (wX 17) 4 17))) (wX 10) 11 10 1 5 11) (wC 4 (qi (-1)))⟩
theorem sI:ay Try.prog fZ=some jW:=by kernel_rfl
def kx:FK:=⟨28,xR,qe (wZ 2) (wb 0 (xH [wh 4,qw 5 .geq 4 (.c (qd .u8 97)),wX 6,xb 7 6 0,xz 8 6 .leq 7 (.c (qd .u8 122)),yc 9 6 8,qf 3 9] 3 (qH (wC 2 wK)) (xH [wh 11,qw 12 .geq 11 (.c (qd .u8 48)),qf 13 12,xb 14 13 0,xz 15 13 .leq 14 (.c (qd .u8 57)),yc 16 13 15,qf 10 16] 10 (qH (wC 2 (qi 2))) (xH [wh 18,qn 19 fZ [yl [40,41,123,125,59,44,43,45,42,47,37,60,61,38,33,64],.t 18],qC 20 .geq 19 0,qf 17 20] 17 (qH (wC 2 (qi 3))) (qe [wh 22,qw 23 .eql 22 (.c (qd .u8 32)),qf 24 23,xa 25 24 0,ya 26 24 .eql 25 (.c (qd .u8 10)),xW 27 24 26,qf 21 27] (wT 21 2 (qi 4)))))) (qH (wZ 2)))⟩
theorem ss:ay Try.prog ga=some kx:=by kernel_rfl
def ny:FK:=⟨21,xL,xV (wC 4 qU) (wZ 5) (xK 0 [wX 6,wh 7,qb 8 (.len true (.t 7)),wI 9 6 8] 9 0 1 (qe [wh 12,wX 13,qb 14 (.idxStr (.t 12) (.t 13)),xr 15 ga 14,xD 16,wo 17 .neq 15 16] (ye 17 4)) (wX 10) 11 10 1 5 11) [wh 18,qb 19 (.len true (.t 18)),qC 20 .gtr 19 0,qf 4 20]⟩
theorem uK:ay Try.prog ju=some ny:=by kernel_rfl
def jJ:FK:=⟨2,xC 0,xY (wC 0 xl) (xy (qI 1 1 [wm] 9 [(0,1,yl [102,110]),(1,1,yl [108,101,116]),(2,1,yl [115,97,121]),(3,1,yl [112,117,116]),(4,1,yl [105,102]),(5,1,yl [101,108,115,101]),(6,1,yl [108,111,111,112]),(7,1,yl [98,97,99,107]),(8,1,yl [100,111])]) 0 1)⟩
theorem pq:ay Try.prog du=some jJ:=by kernel_rfl
def nU:FK:=⟨18,xR,qX (wC 2 qU) [qn 5 du [],wX 3] (wL (wZ 4) (xK 0 [xG 6,x8 7,wg 8 7,wI 9 6 8] 9 0 1 (qe [x8 12,xG 13,wn 14 1 12 13,qt 15 14,wh 16,qb 17 (.bins .eql (.t 15) (.t 16))] (wT 17 2 wH)) (xG 10) 11 10 1 4 11) (wC 2 qU))⟩
theorem ur:ay Try.prog js=some nU:=by kernel_rfl
def lX:FK:=⟨15,xR,xY (wC 2 qU) [wh 3,qn 4 ju (wN 3 wK),xG 5,xb 6 5 0,qL 7 5 (.len true (.t 6)),xz 8 5 .leq 7 (qi 4),yc 9 5 8,qf 10 9,xb 11 10 0,qL 12 10 (.call js (xq 11)),qL 13 10 (wB 12),yc 14 10 13,qf 2 14]⟩
theorem tz:ay Try.prog bH=some lX:=by kernel_rfl
def iA:FK:=⟨5,xR,xV (wZ 2) [wh 3,wJ 4 3 4] (wT 4 2 (qi 2)) (wC 2 wK)⟩
theorem tv:ay Try.prog eV=some iA:=by kernel_rfl
def bU:FK:=⟨13,[.t 2,.t 3],xV [qc 2 qR,qc 3 qR] [wh 4] (.blk 0 (qD [wJ 6 4 1,xp 5] (qu 5 .skip (.reg (xX 7 4 2 5 7))) (qu 5 (qH [qc 2 qR,qc 3 qR]) (qD (xX 9 4 11 8 9) (qu 8 .skip (.reg (xX 10 4 12 8 10))) (qu 8 (qH [qc 2 wK,qc 3 wK]) (qe (xX 12 4 13 11 12) (wz 11 [qc 2 qR,qc 3 (qi 3)]))))))) [qc 2 (qi 2),qc 3 (qi 2)]⟩
theorem sY:ay Try.prog eU=some bU:=by kernel_rfl
def eR:FK:=⟨86,xL,qX [wS 2 4 0,qc 4 qU] [xe 10 2,qt 11 10,xr 12 eU 11,qf 9 12,qb 13 (.ext 0 (.t 9)),qb 14 (.ext 1 (.t 9)),qf 5 13,qf 6 14] (qD [xD 15,qC 16 .lss 15 1,qf 17 16,xu 18 17 0 2,xk 19 17 18,qK 20 17 (xh [.t 19,wK,qi 13]),qK 21 17 (wB 20),xW 22 17 21,qf 23 22,xu 24 23 3 2,xk 25 23 24,qK 26 23 (qV 25),xa 27 23 5,xa 28 23 6,qK 29 23 (xh [.t 26,.t 27,.t 28]),qK 30 23 (wB 29),xW 31 23 30] (ye 31 4) (qe [xe 32 2,qt 33 32,wJ 34 33 2,qf 35 34,xu 36 35 0 2,xk 37 35 36,ya 38 35 .eql 37 (qi 13),xW 39 35 38,qf 7 39] (qD [yj 40,xj 41 2,qt 42 41,xr 43 bH 42,qb 44 (.beq true (.t 40) (.t 43)),qf 45 44,xa 46 45 7,qK 47 45 (wB 46),xa 48 45 47,xo 49 48 2 2,wW 50 48 49,qL 51 48 (.bins .neq (.t 50) (.c wm)),qK 52 45 (qP 48 (.t 51) qU),xW 53 45 52,qf 54 53,xu 55 54 1 2,xk 56 54 55,qK 57 54 (xh [.t 56,qR,qi 255]),qK 58 54 (wB 57),xW 59 54 58,qf 60 59,xu 61 60 0 2,xk 62 60 61,ya 63 60 .neq 62 wK,xa 64 60 63,xo 65 64 1 2,wW 66 64 65,xz 67 64 .neq 66 qR,qK 68 60 (qP 64 (.t 67) qU),xW 69 60 68] (ye 69 4) (wL (wZ 8) (xK 0 [qf 70 8,qp 71 3 2,qt 72 71,wg 73 72,wI 74 70 73] 74 0 1 (qe [qp 77 3 2,qt 78 77,qf 79 8,wn 80 4 78 79,qY 81 4 80,xD 82,xi 83 82 1,wR 84 dj 81 83,xT 85 84] (ye 85 4)) (qf 75 8) 76 75 1 8 76) (wC 4 wH)))))⟩
theorem lV:ay Try.prog dj=some eR:=by kernel_rfl
def kH:FK:=⟨21,xR,qX [wS 1 4 0,qc 2 qR] (wC 3 wK) (wL (wZ 4) (xK 0 [xG 5,qp 6 3 1,qt 7 6,wg 8 7,wI 9 5 8] 9 0 1 (.reg [x8 12,qp 13 3 1,qt 14 13,xG 15,wn 16 4 14 15,qY 17 4 16,xr 18 dN 17,wo 19 .add 12 18,qf 3 19]) (xG 10) 11 10 1 4 11) (xy (x8 20) 2 20))⟩
theorem rh:ay Try.prog dN=some kH:=by kernel_rfl
def jn:FK:=⟨10,xR,xY [wS 1 4 0,qc 2 qU] [qY 3 4 1,qn 4 dj (xA 3 6),xG 5,qL 6 5 (qj (some 4) 1),qL 7 5 (.call dN (xq 6)),xz 8 5 .leq 7 (qi 30),yc 9 5 8,qf 2 9]⟩
theorem oa:ay Try.prog cZ=some jn:=by kernel_rfl
def eM:FK:=⟨108,xL,qe [wS 2 5 0,qc 4 qU] (qD [xD 7,qC 8 .lss 7 1,qf 9 8,xu 10 9 0 2,xk 11 9 10,qK 12 9 (xh [.t 11,wK,qi 8]),qK 13 9 (wB 12),xW 14 9 13,qf 15 14,xu 16 15 2 2,xu 19 15 0 2,xk 17 15 16,qK 18 15 (qV 17),xk 20 15 19,qK 21 15 (.qcall eV (xq 20)),ya 22 15 .neq 18 (.t 21),xW 23 15 22] (ye 23 4) (qe [xe 24 2,qt 25 24,wJ 26 25 1,qf 27 26,xu 28 27 0 2,xk 29 27 28,ya 30 27 .eql 29 (qi 2),xW 31 27 30,qf 5 31] (qD [wX 32,xB 33 2,qt 34 33,xr 35 bH 34,qb 36 (.beq true (.t 32) (.t 35)),qf 37 36,xa 38 37 5,qK 39 37 (wB 38),xa 40 37 39,xo 41 40 1 2,wW 42 40 41,qL 43 40 (.bins .neq (.t 42) (.c wm)),qK 44 37 (qP 40 (.t 43) qU),xW 45 37 44] (ye 45 4) (qD (wZ 6) (xK 0 [xp 46,xj 47 2,qt 48 47,wg 49 48,wI 50 46 49] 50 0 1 (qe [xj 53 2,qt 54 53,xp 55,wn 56 4 54 55,qY 57 4 56,xr 58 cZ 57,xT 59 58] (ye 59 4)) (xp 51) 52 51 1 6 52) (qD [xe 60 2,qt 61 60,wJ 62 61 8,qf 63 62,xo 64 63 2 2,wW 65 63 64,qL 66 63 (qG 4 65 qR),xo 67 63 0 66,wW 68 63 67,xz 69 63 .neq 68 (qi 13),yc 70 63 69] (ye 70 4) (wL [qp 71 4 2,qt 72 71,wg 73 72,qC 74 .gtr 73 0,qf 75 74,xo 76 75 0 2,wW 77 75 76,xz 78 75 .neq 77 (qi 5),yc 79 75 78,qf 80 79,xu 81 80 3 2,xk 82 80 81,qK 83 80 (qV 82),ya 84 80 .gtr 83 qR,xa 85 80 84,xo 86 85 0 2,wW 87 85 86,xz 88 85 .neq 87 (qi 5),qK 89 80 (qP 85 (.t 88) qU),xa 90 80 89,xo 91 90 0 2,wW 92 90 91,xz 93 90 .neq 92 (qi 6),qK 94 80 (qP 90 (.t 93) qU),xW 95 80 94] (ye 95 4) [qp 96 3 2,qt 97 96,xD 98,xi 99 98 1,wR 100 bt 97 99,qf 101 100,xo 102 101 4 2,wW 103 101 102,xb 104 101 1,xz 105 101 .sub 104 wK,qL 106 101 (.call bt (wO 103 105)),yc 107 101 106,qf 4 107]))))))⟩
theorem lT:ay Try.prog eT=some eM:=by kernel_rfl
def kf:FK:=⟨19,xL,xV (wC 4 qU) (wZ 5) (xK 0 [wX 6,wh 7,wg 8 7,wI 9 6 8] 9 0 1 (qe [wh 12,wX 13,wn 14 5 12 13,qY 15 5 14,xD 16,wR 17 eT 15 16,xT 18 17] (ye 18 4)) (wX 10) 11 10 1 5 11) (wC 4 wH)⟩
theorem rG:ay Try.prog bt=some kf:=by kernel_rfl
def oW:FK:=⟨32,xR,xV [wS 1 3 0,qc 2 qU] (wZ 3) (xK 0 [x8 4,xB 5 1,qt 6 5,wg 7 6,wI 8 4 7] 8 0 1 (qe [xB 11 1,qt 12 11,x8 13,wn 14 1 12 13,qt 15 14,xr 16 bH 15,xT 17 16] (ye 17 2)) (x8 9) 10 9 1 3 10) [xe 18 1,qt 19 18,xr 20 bH 19,qf 21 20,xo 22 21 1 1,wW 23 21 22,qL 24 21 (qV 23),xz 25 21 .leq 24 (qi 3),yc 26 21 25,qf 27 26,xo 28 27 2 1,wW 29 27 28,qL 30 27 (.call bt (xA 29 4)),yc 31 27 30,qf 2 31]⟩
theorem yy:ay Try.prog kG=some oW:=by kernel_rfl
def fR:FK:=⟨29,xR,qX (wZ 2) [wh 5,wg 6 5,xp 3] (wL (wZ 4) (xK 0 [xG 7,wh 8,wg 9 8,wI 10 7 9] 10 0 1 (.reg [x8 13,wh 14,xG 15,wn 16 5 14 15,qp 17 3 16,wh 21,xG 22,wn 23 5 21 22,qp 24 4 23,qt 18 17,qt 25 24,xr 19 cV 18,qO 24 25,wo 20 .add 13 19,xr 26 cV 25,wo 27 .add 20 26,qf 3 27]) (xG 11) 12 11 1 4 12) (xy (x8 28) 2 28))⟩
theorem kU:ay Try.prog cV=some fR:=by kernel_rfl
def mR:FK:=⟨22,xR,qX [wS 1 1 0,qc 2 qR] (wZ 3) (wL (wZ 4) (xK 0 [xG 5,xe 6 1,qt 7 6,wg 8 7,wI 9 5 8] 9 0 1 (.reg [x8 12,xe 13 1,qt 14 13,xG 15,wn 16 3 14 15,xj 17 16,qt 18 17,xr 19 cV 18,wo 20 .add 12 19,qf 3 20]) (xG 10) 11 10 1 4 11) (xy (x8 21) 2 21))⟩
theorem vq:ay Try.prog jx=some mR:=by kernel_rfl
def fx:FK:=⟨26,xR,qe [wS 1 1 0,qc 2 qU] (qD [xe 4 1,qt 5 4,wg 6 5,xZ 7 [.t 6,wK,qi 4],xT 8 7] (ye 8 2) (wL (wZ 3) (xK 0 [x8 9,xe 10 1,qt 11 10,wg 12 11,wI 13 9 12] 13 0 1 (qe [xe 16 1,qt 17 16,x8 18,wn 19 3 17 18,qY 20 3 19,xr 21 kG 20,xT 22 21] (ye 22 2)) (x8 14) 15 14 1 3 15) [qY 23 1 1,xr 24 jx 23,qC 25 .leq 24 40,qf 2 25]))⟩
theorem lB:ay Try.prog dd=some fx:=by kernel_rfl
def lO:FK:=⟨69,[xO 2 1],qX [wd 2 xM] [wh 8,wh 9,x9 10 4 [xg 0 14,xg 1 20,xg 2 8,xg 3 26],wG 11 (wO 9 10),wu 12 [.nilp,.nils,.nils,qy,qy] [xU 8,wE 4 11],wS 13 5 12,qf 3 13] (qD [wh 14,x9 15 4 [(0,1,qR),(1,1,wK),(2,1,wK),xg 3 2],wG 16 (wO 14 15),qf 4 16] (xJ 0 [xG 17,qC 18 .gtr 17 0] 18 0 1 (qe [qc 5 (.c .any),x8 21,x7 22 1 [wm] 3 [(0,1,yl [102]),(1,1,yl [103]),(2,1,yl [104])],x8 23,qW 24 23,xB 25 24,wh 30,qt 26 25,wg 27 26,wn 28 1 22 27,qt 29 28,wl 31 (xA 30 3),qO 25 26,qO 28 29,qn 32 dv [.t 21,.t 29,.t 31],wd 5 [wm,.nils,.nils],qS 3 5 32] (.reg [x8 33,x8 34,qW 35 34,xB 36 35,qt 37 36,qY 38 3 5,x7 39 3 [wm,.nils,.nils] 1 [wt 0 3 38],wP 40 3 64 37 39,qW 41 33,xB 42 41,xx 42 40])) (xG 19) (xi 20 19 1) 4 20) (qX [x8 43,wh 44,x9 45 4 [(0,1,qR),(1,1,wK),xg 2 2,(3,1,wK)],wG 46 (wO 44 45),qn 47 dv [.t 43,yl [109],.t 46],wd 6 [wm,.nils,.nils],qS 3 6 47] [qc 7 (.c .any),x8 49,qW 50 49,xB 51 50,qt 52 51,qY 54 3 6,x7 55 3 [wm,.nils,.nils] 1 [wt 0 3 54],qI 48 3 [wm,.nils,.nils] 0 [],qO 51 52,qA (some 3) 6 54,wP 53 3 64 48 52,qA (some 3) 6 54,wP 56 3 64 53 55,wu 57 xM [xU 56],wd 7 xM,xx 7 57] (wL [qY 58 1 7,xr 59 dd 58,xT 60 59] (wz 60 [wu 61 [qy,qy,wm,.nils] [(0,1,wK),(1,1,wK)],qI 62 4 [qy,qy,wm,.nils] 1 [wt 0 4 61],wu 63 [qy,wm,.nils,.nils,.nils] [xg 0 3,wE 2 62],qI 64 5 [qy,wm,.nils,.nils,.nils] 1 [wt 0 5 63],wu 65 [wm,.nils,.nils] [(0,1,yl [109]),wE 2 64],qI 66 3 [wm,.nils,.nils] 1 [wt 0 3 65],wu 67 xM [xU 66],xx 2 67]) [qY 68 1 7,xx 2 68])))⟩
theorem tE:ay Try.prog eP=some lO:=by kernel_rfl
def jT:FK:=⟨4,xR,xV (wZ 2) [wh 3] (wT 3 2 wK) (wZ 2)⟩
theorem rW:ay Try.prog gE=some jT:=by kernel_rfl
def ir:FK:=⟨35,xR,qX (wZ 2) (wZ 3) (wL (wZ 4) (xK 0 [xG 5,wh 6,wg 7 6,wI 8 5 7] 8 0 1 (.reg [x8 11,wh 12,xG 13,wn 14 5 12 13,xe 15 14,wh 20,xG 21,wn 22 5 20 21,qp 23 3 22,wh 27,xG 28,wn 29 5 27 28,qp 30 4 29,qt 16 15,wJ 17 16 1,qt 24 23,qt 31 30,xr 18 gE 17,qO 23 24,qO 30 31,wo 19 .add 11 18,xr 25 dq 24,qO 30 31,wo 26 .add 19 25,xr 32 dq 31,wo 33 .add 26 32,qf 3 33]) (xG 9) 10 9 1 4 10) (xy (x8 34) 2 34))⟩
theorem lD:ay Try.prog dq=some ir:=by kernel_rfl
def dE:FK:=⟨25,xR,qX (wZ 2) [wh 3,wh 4,qW 5 4,xB 6 5,xj 7 6,qt 8 7,qI 9 2 [qy,.nils] 0 [],qI 10 4 [qy,qy,.nils,qy] 0 [],x9 11 0 [],wu 12 [.nils,.nils,qy,qy,.nils] [xU 9,wE 1 10,wE 4 11],qI 13 5 [.nils,.nils,qy,qy,.nils] 1 [wt 0 5 12],wP 14 5 88 8 13,qW 15 3,xB 16 15,xj 17 16,xx 17 14] (qH [wh 18,qW 19 18,xB 20 19,xj 21 20,qt 22 21,wg 23 22,xi 24 23 1,qf 2 24])⟩
theorem gq:ay Try.prog bK=some dE:=by kernel_rfl
def gS:FK:=⟨37,[],qX [wh 11,qW 12 11,xB 13 12,xj 14 13,wh 16,qW 17 16,qp 18 4 17,qt 15 14,qt 19 18,wn 20 5 15 19,qf 10 20] [qf 21 10,xD 22,qW 23 21,xj 24 23,xx 24 22] (qX [qf 25 10,qf 26 2,qW 27 25,qp 28 3 27,xx 28 26] [qf 29 10,x8 30,qW 31 29,qp 32 4 31,xx 32 30] (.reg [wh 33,xG 34,qW 35 33,qp 36 4 35,xx 36 34]))⟩
theorem nM:ay Try.prog bh=some gS:=by kernel_rfl
def fK:FK:=⟨19,xR,qX (wZ 2) [wh 3,wh 4,qW 5 4,xB 6 5,xB 7 6,qt 8 7,wF 9 8 1,qW 10 3,xB 11 10,xB 12 11,xx 12 9] (qH [wh 13,qW 14 13,xB 15 14,xB 16 15,qt 17 16,xi 18 17 1,qf 2 18])⟩
theorem ma:ay Try.prog bq=some fK:=by kernel_rfl
def eu:FK:=⟨37,xC 10,qX (wZ 10) [wh 12,qW 13 12,xB 14 13,xj 15 14,wh 17,qW 18 17,qp 19 4 18,qt 16 15,qt 20 19,wn 21 5 16 20,qf 11 21] (xY [qf 22 11,qf 23 11,qW 24 23,xB 25 24,qt 26 25,xD 27,qf 28 2,xG 29,x8 30,wu 31 [qy,qy,.nils,qy] [xU 27,wE 1 28,wE 2 29,wE 3 30],qI 32 4 [qy,qy,.nils,qy] 1 [wt 0 4 31],wP 33 4 48 26 32,qW 34 22,xB 35 34,xx 35 33] (xy (qf 36 2) 10 36))⟩
theorem ox:ay Try.prog bJ=some eu:=by kernel_rfl
def eE:FK:=⟨34,xL,xV (wZ 4) [wh 6,qW 7 6,qp 8 5 7,qt 9 8,wg 10 9,xi 11 10 1,qf 5 11] (xJ 0 [wX 12,qC 13 .geq 12 0] 13 0 1 (qe [wh 16,qW 17 16,qp 18 5 17,qt 19 18,wX 20,wn 21 3 19 20,xe 22 21,qt 23 22,xD 24,qb 25 (.bins .eql (.t 23) (.t 24))] (wz 25 [wh 26,qW 27 26,qp 28 5 27,qt 29 28,wX 30,wn 31 3 29 30,xB 32 31,qt 33 32,qf 4 33])) (wX 14) (xi 15 14 1) 5 15) (wC 4 (qi (-1)))⟩
theorem oh:ay Try.prog da=some eE:=by kernel_rfl
def iW:FK:=⟨56,xL,qX [wS 3 4 1,qc 4 qR] [wh 11,qp 12 3 3,qt 13 12,qb 14 (qG 4 13 qR),qY 15 4 14,wR 16 aV 11 15,qf 5 16] (qX [wh 17,wh 18,xP 19 18,x9 20 0 [],xc 21 [.t 17,wK,.t 19,qR,.t 20],qf 6 21] (xI (wh 22) (xt 23 22) 7 23) (qX (xI (wh 24) (xt 25 24) 8 25) [wh 26,wX 27,yj 28,qf 29 8,x9 30 2 [xU 28,wE 1 29],yj 31,xv 32 [.t 26,qi 2,.t 27,.t 30,.t 31]] (qX [wh 33,qp 34 3 3,qt 35 34,qb 36 (qG 4 35 wK),qY 37 4 36,wR 38 aV 33 37,qf 9 38] [wh 39,wh 40,xP 41 40,qf 42 9,x9 43 1 [xU 42],xc 44 [.t 39,qi 10,.t 41,qR,.t 43],qf 10 44] (qX [wh 45,xp 46,qf 47 10,x9 48 1 [xU 47],xc 49 [.t 45,qi 10,.t 46,qR,.t 48]] [wh 50,qf 51 8,x9 52 1 [xU 51],qf 53 8,xv 54 [.t 50,wK,qR,.t 52,.t 53]] (qH (xy (xp 55) 4 55))))))⟩
theorem oB:ay Try.prog eD=some iW:=by kernel_rfl
def pj:FK:=⟨22,xL,xV [wS 2 1 0,qc 4 qR] (wZ 5) (xK 0 [wX 6,xe 7 2,qt 8 7,wg 9 8,wI 10 6 9] 10 0 1 (qe [xe 13 2,qt 14 13,wX 15,wn 16 3 14 15,xe 17 16,qt 18 17,xD 19,qb 20 (.bins .eql (.t 18) (.t 19))] (wz 20 (xy (wX 21) 4 21))) (wX 11) 12 11 1 5 12) (wC 4 (qi (-1)))⟩
theorem yv:ay Try.prog kB=some pj:=by kernel_rfl
def bT:FK:=⟨84,xL,qe [wS 3 4 1,qc 4 qR] (qD [xe 7 3,qt 8 7] (.blk 0 (xH (xX 10 8 1 9 10) 9 (qH [wh 11,wh 12,xB 14 3,x7 16 1 xE 0 [],qt 15 14,xP 13 12,qO 14 15,xc 17 [.t 11,wK,.t 13,.t 15,.t 16],qf 4 17]) (xH (xX 19 8 2 18 19) 18 (qH [wh 20,xj 21 3,qt 22 21,wR 23 da 20 22,qf 4 23]) (qe (xX 25 8 10 24 25) (wz 24 [wh 26,qY 27 4 3,wR 28 eD 26 27,qf 4 28]))))) (qe (xy (x9 29 0 []) 5 29) (qD (wZ 6) (xK 1 [xp 30,qp 31 3 3,qt 32 31,wg 33 32,wI 34 30 33] 34 1 2 (.reg [wX 37,wh 38,qp 39 3 3,qt 40 39,xp 41,wn 42 4 40 41,qY 43 4 42,wR 44 aV 38 43,x9 45 1 [xU 44],wP 46 1 8 37 45,qf 5 46]) (xp 35) 36 35 1 6 36) (wL [xe 47 3,qt 48 47] (.blk 3 (xH (xX 50 48 11 49 50) 49 (qH [wh 51,wh 52,xP 53 52,wX 54,xc 55 [.t 51,qi 10,.t 53,qR,.t 54],qf 4 55]) (xH (xX 57 48 12 56 57) 56 (qH [wh 58,wh 59,xP 60 59,wX 61,xc 62 [.t 58,qi 11,.t 60,qR,.t 61],qf 4 62]) (qe (xX 64 48 13 63 64) (wz 63 [wh 65,wh 66,wh 68,qW 69 68,xe 70 69,xj 72 3,wX 75,qY 71 1 70,qt 73 72,xP 67 66,qA (some 1) 70 71,qO 72 73,wR 74 kB 71 73,xc 76 [.t 65,qi 14,.t 67,.t 74,.t 75],qf 4 76]))))) [wh 77,xe 78 3,wh 80,wX 82,qt 79 78,xP 81 80,qO 78 79,xc 83 [.t 77,.t 79,.t 81,qR,.t 82],qf 4 83]))))⟩
theorem mT:ay Try.prog aV=some bT:=by kernel_rfl
def gQ:FK:=⟨41,[],qX [wS 3 5 1] (xI (wh 8) (xt 9 8) 4 9) (qX (xI (wh 10) (xt 11 10) 5 11) (xI (wh 12) (xt 13 12) 6 13) (qX [wh 14,xG 15,x9 16 1 [xU 15],xG 17,xv 18 [.t 14,wK,qR,.t 16,.t 17]] [wh 19,xj 20 3,qt 21 20,qb 22 (qG 4 21 qR),qY 23 4 22,wR 24 aV 19 23,qf 7 24] (qX [wh 25,yj 26,wX 27,xp 28,x9 29 2 [xU 27,wE 1 28],wX 30,xv 31 [.t 25,qi 2,.t 26,.t 29,.t 30]] [wh 32,qp 33 3 3,qt 34 33,wR 35 aX 32 34] (.reg [wh 36,xG 37,x9 38 1 [xU 37],xp 39,xv 40 [.t 36,wK,qR,.t 38,.t 39]]))))⟩
theorem nQ:ay Try.prog dV=some gQ:=by kernel_rfl
def dK:FK:=⟨132,[],qe [wS 3 5 1] (qD [xe 9 3,qt 10 9,wJ 11 10 6] (wz 11 [wh 12,qY 13 5 3,wR 14 dV 12 13]) (qe (xy (x9 15 0 []) 4 15) (qD (wZ 5) (xK 0 [wX 16,xj 17 3,qt 18 17,wg 19 18,wI 20 16 19] 20 0 1 (.reg [xG 23,wh 24,xj 25 3,qt 26 25,wX 27,wn 28 4 26 27,qY 29 4 28,wR 30 aV 24 29,x9 31 1 [xU 30],wP 32 1 8 23 31,qf 4 32]) (wX 21) 22 21 1 5 22) (qe [xe 33 3,qt 34 33] (.blk 2 (xH (xX 36 34 1 35 36) 35 (qX [wh 37,wh 38,qW 39 38,qp 40 6 39,qt 41 40,xG 42,xc 43 [.t 37,qi 2,.t 41,qR,.t 42]] [wh 44,wh 45,qW 46 45,qp 47 5 46,xB 49 3,wh 51,qW 52 51,qp 53 6 52,qt 48 47,qt 50 49,qt 54 53,wu 55 [wm,qy,qy] [xU 50,wE 1 54,(2,1,qR)],x7 56 3 [wm,qy,qy] 1 [wt 0 3 55],wP 57 3 32 48 56,qW 58 44,qp 59 5 58,xx 59 57] (.reg [wh 60,wh 61,qW 62 61,qp 63 6 62,qt 64 63,wF 65 64 1,qW 66 60,qp 67 6 66,xx 67 65])) (xH (xX 69 34 2 68 69) 68 (.reg [wh 70,wh 71,xB 72 3,qt 73 72,wR 74 da 71 73,xG 75,xc 76 [.t 70,qi 2,.t 74,qR,.t 75]]) (xH (xX 78 34 3 77 78) 77 (.reg [wh 79,xG 80,xc 81 [.t 79,qi 13,qi (-1),qR,.t 80]]) (xH (xX 83 34 4 82 83) 82 (.reg [wh 84,xG 85,xc 86 [.t 84,qi 12,qi (-1),qR,.t 85]]) (xH (xX 88 34 7 87 88) 87 (.reg [wh 89,xG 90,qb 91 (qG 1 90 qR),x7 93 1 xE 0 [],wh 94,qt 92 91,xt 95 94,qO 91 92,xv 96 [.t 89,qi 3,.t 92,.t 93,.t 95]]) (qe (xX 98 34 5 97 98) (wa 97 (qX (xI (wh 99) (xt 100 99) 6 100) (xI (wh 101) (xt 102 101) 7 102) (qX (xI (wh 103) (xt 104 103) 8 104) [wh 105,xG 106,qb 107 (qG 1 106 qR),qt 108 107,xp 109,yj 110,x9 111 2 [xU 109,wE 1 110],xp 112,xv 113 [.t 105,qi 2,.t 108,.t 111,.t 112]] (qX [wh 114,qp 115 3 3,qt 116 115,wR 117 aX 114 116] [wh 118,qf 119 8,x9 120 1 [xU 119],yj 121,xv 122 [.t 118,wK,qR,.t 120,.t 121]] (qe [wh 123,qp 124 4 3,qt 125 124,wR 126 aX 123 125] (.reg [wh 127,qf 128 8,x9 129 1 [xU 128],qf 130 8,xv 131 [.t 127,wK,qR,.t 129,.t 130]])))))))))))))))))⟩
theorem nH:ay Try.prog dU=some dK:=by kernel_rfl
def dw:FK:=⟨32,[],qe [wh 6,qW 7 6,qp 8 5 7,qt 9 8,wg 10 9,qf 4 10] (qD (wZ 5) (xK 0 [wX 11,xD 12,wg 13 12,wI 14 11 13] 14 0 1 (.reg [wh 17,xD 18,wX 19,wn 20 5 18 19,qY 21 5 20,wR 22 dU 17 21]) (wX 15) 16 15 1 5 16) (.reg [wh 23,wh 24,qW 25 24,qp 26 5 25,qt 27 26,xG 28,qb 29 (.slS 3 (.t 27) none (some (.t 28))),qW 30 23,qp 31 5 30,xx 31 29]))⟩
theorem me:ay Try.prog aX=some dw:=by kernel_rfl
def oS:FK:=⟨80,[xO 4 3],qX [wS 2 1 0,wd 4 [qy,qy,.nils]] [xe 9 2,qt 10 9,xD 11,wn 12 3 10 11,qY 13 3 12,wd 5 [wm,.nils,.nils],qS 3 5 13] (qX [qY 14 1 2,xB 15 5,qt 16 15,wg 17 16,wu 18 [.nils,qy,qy,.nils,qy,.nils,qy,.nils] [xU 14,wE 6 17],wS 19 8 18,qf 6 19] [xp 20,xB 21 5,qt 22 21,wg 23 22,qW 24 20,xB 25 24,xe 26 25,xx 26 23] (qe [xp 27,xB 28 5,xj 31 5,qt 29 28,wg 30 29,qt 32 31,xr 33 dq 32,qO 28 29,wo 34 .add 30 33,qW 35 27,xB 36 35,xB 37 36,xx 37 34] (qD (wZ 7) (xK 0 [yj 38,xB 39 5,qt 40 39,wg 41 40,wI 42 38 41] 42 0 1 (.reg [xp 45,xp 46,qW 47 46,qp 48 5 47,xB 50 5,yj 52,yj 55,qt 49 48,qt 51 50,wn 53 1 51 52,qt 54 53,wu 56 [wm,qy,qy] [xU 54,wE 1 55,(2,1,qR)],x7 57 3 [wm,qy,qy] 1 [wt 0 3 56],wP 58 3 32 49 57,qW 59 45,qp 60 5 59,xx 60 58]) (yj 43) 44 43 1 7 44) (qX [xp 61,xt 62 61] [xp 63,xj 64 5,qt 65 64,wR 66 aX 63 65] (qX [xp 67,xp 68,xP 69 68,x9 70 0 [],xc 71 [.t 67,wK,.t 69,qR,.t 70],qf 8 71] [xp 72,qf 73 8,x9 74 0 [],xv 75 [.t 72,qi 3,.t 73,.t 74,qR]] (qH [xp 76,qW 77 76,xB 78 77,qY 79 3 78,qS 3 4 79]))))))⟩
theorem vA:ay Try.prog gO=some oS:=by kernel_rfl
def lS:FK:=⟨22,[xO 2 1],qX [wS 1 1 0,wd 2 xM] [wu 5 xM [],wd 3 xM,xx 3 5] (wL (wZ 4) (xK 0 [xG 6,xe 7 1,qt 8 7,wg 9 8,wI 10 6 9] 10 0 1 (.reg [xe 13 3,xG 16,qt 14 13,qY 15 1 1,wR 17 gO 15 16,qO 13 14,qI 18 3 [qy,qy,.nils] 1 [wt 0 3 17],qO 13 14,wP 19 3 40 14 18,xe 20 3,xx 20 19]) (xG 11) 12 11 1 4 12) [qY 21 1 3,xx 2 21])⟩
theorem tk:ay Try.prog eZ=some lS:=by kernel_rfl
def lL:FK:=⟨21,xL,xV [wS 2 3 0,qc 4 qU] (wZ 5) (xK 0 [wX 6,xD 7,wg 8 7,wI 9 6 8] 9 0 1 (qe [xD 12,wX 13,wn 14 1 12 13,xB 16 2,qt 15 14,qt 17 16,xi 18 17 1,xZ 19 [.t 15,qR,.t 18],xT 20 19] (ye 20 4)) (wX 10) 11 10 1 5 11) (wC 4 wH)⟩
theorem tB:ay Try.prog fb=some lL:=by kernel_rfl
def nO:FK:=⟨88,xC 6,qX [wS 3 1 0,wS 5 4 2,qc 6 qU] [xe 8 3,qt 9 8,xD 10,wn 11 3 9 10,qY 12 3 11,wd 7 [qy,qy,.nils],qS 3 7 12] (qD [xe 13 5,qt 14 13,xZ 15 [.t 14,wK,qi 14],xT 16 15,qf 17 16,qK 18 17 (qj (some 3) 7),xu 19 17 2 5,xk 20 17 19,qK 21 17 (.call fb (wO 18 20)),qK 22 17 (wB 21),xW 23 17 22] (ye 23 6) (qD [xe 24 5,xB 27 5,xB 29 7,qt 25 24,qt 28 27,qt 30 29,xi 31 30 1,xr 26 cS 25,qO 27 28,qO 29 30,xZ 32 [.t 28,qR,.t 31],qb 33 (.beq true (.t 26) (.t 32)),qf 34 33,xu 35 34 0 5,xk 36 34 35,qK 37 34 (.call cS (xq 36)),qK 38 34 (wB 37),xa 39 34 38,xo 40 39 1 5,wW 41 39 40,xz 42 39 .neq 41 (qi (-1)),qK 43 34 (qP 39 (.t 42) qU),xW 44 34 43] (ye 44 6) (wL [xe 45 5,qt 46 45,wJ 47 46 14] (wz 47 [qp 48 3 5,xD 50,xi 51 50 1,qt 49 48,xZ 52 [.t 49,qR,.t 51],qf 53 52,xo 54 53 2 5,xo 57 53 0 3,xo 59 53 3 5,wW 55 53 54,qL 56 53 (qV 55),wW 58 53 57,wW 60 53 59,qL 61 53 (we 3 58 60),xo 62 53 0 61,wW 63 53 62,xz 64 53 .eql 56 (.t 63),yc 65 53 64,qf 6 65]) [xj 66 5,xe 69 5,qt 67 66,wg 68 67,qt 70 69,xr 71 eW 70,qO 66 67,wo 72 .eql 68 71,qf 73 72,xo 74 73 3 5,wW 75 73 74,qL 76 73 (xh [.t 75,qR,qi 255]),yc 77 73 76,qf 78 77,xo 79 78 3 5,wW 80 78 79,xz 81 78 .eql 80 qR,xb 82 78 81,xu 83 82 0 5,xk 84 82 83,ya 85 82 .eql 84 wK,qL 86 78 (qP 82 wH (.t 85)),yc 87 78 86,qf 6 87])))⟩
theorem ve:ay Try.prog jE=some nO:=by kernel_rfl
def fY:AK:=qX [wS 3 1 0,qc 6 qU] [xe 14 3,qt 15 14,xD 16,wn 17 3 15 16,qY 18 3 17,wd 7 [qy,qy,.nils],qS 3 7 18] (qX [xj 19 7,qt 20 19,qf 21 2,wn 22 5 20 21,qY 23 5 22,wd 8 [.nils,.nils,qy,qy,.nils],qS 5 8 23] (wC 9 wK) (xN [xj 24 8,qt 25 24] (.blk 0 (xH (xX 27 25 1 26 27) 26 (qe [qp 28 3 8,qt 29 28,qC 30 .neq 29 0] (ye 30 6)) (xH (xX 32 25 2 31 32) 31 (.reg (wC 9 (qi 2))) (xH (xX 34 25 3 33 34) 33 (.reg (wZ 9)) (qH (wC 6 qU)))))) (xN [qp 35 4 8,qt 36 35,wg 37 36,qf 38 9,wo 39 .neq 37 38,qf 40 39,xu 41 40 2 8,xk 42 40 41,ya 43 40 .neq 42 wK,xa 44 40 43,xo 45 44 3 8,wW 46 44 45,xo 47 44 1 7,wW 48 44 47,xz 49 44 .sub 48 wK,qL 50 44 (xh [.t 46,qR,.t 49]),qL 51 44 (wB 50),qK 52 40 (qP 44 (.t 51) qU),xW 53 40 52] (ye 53 6) (xN (wZ 10) (xK 1 [qf 54 10,qp 55 4 8,qt 56 55,wg 57 56,wI 58 54 57] 58 1 2 (qe [qp 61 4 8,qf 63 10,xj 66 7,qt 62 61,wn 64 1 62 63,qt 65 64,qt 67 66,wg 68 67,xi 69 68 1,xZ 70 [.t 65,wK,.t 69],xT 71 70] (ye 71 6)) (qf 59 10) 60 59 1 10 60) (xN (wZ 11) (xK 3 [qf 72 11,xB 73 8,qt 74 73,wg 75 74,wI 76 72 75] 76 3 4 (qe [xD 80,xB 81 8,qf 83 11,qY 79 1 3,qt 82 81,wn 84 4 82 83,qY 85 4 84,qn 86 jE [.t 79,.t 80,.t 85],xT 87 86] (ye 87 6)) (qf 77 11) 78 77 1 11 78) (qe [qY 88 3 7,qf 89 2,wR 90 ce 88 89,qf 12 90] (xN (wZ 13) (xK 5 [qf 91 13,xe 92 8,qt 93 92,wg 94 93,wI 95 91 94] 95 5 6 (qe [qf 98 2,wJ 99 98 0,qf 100 99,xu 101 100 0 8,xa 103 100 13,xa 108 100 12,qK 109 100 (qV 108),xk 102 100 101,qK 104 100 (we 2 102 103),xu 105 100 1 104,xk 106 100 105,qK 107 100 (qV 106),ya 110 100 .neq 107 (.t 109),xW 111 100 110,qf 112 111,xu 114 112 0 8,xa 116 112 13,qK 113 112 (qj (some 3) 7),xk 115 112 114,qK 117 112 (we 2 115 116),xu 118 112 1 117,xk 119 112 118,qK 120 112 (.call fb (wO 113 119)),qK 121 112 (wB 120),xW 122 112 121,qf 123 122,xu 124 123 0 8,xa 126 123 13,xu 130 123 1 7,xk 125 123 124,qK 127 123 (we 2 125 126),xu 128 123 0 127,xk 129 123 128,xk 131 123 130,ya 132 123 .sub 131 wK,qK 133 123 (xh [.t 129,qR,.t 132]),qK 134 123 (wB 133),xW 135 123 134] (ye 135 6)) (qf 96 13) 97 96 1 13 97) (qH (wC 6 wH)))))))))
def fW:FK:=⟨136,xC 6,(AK.whole fY)⟩
theorem sx:ay Try.prog fM=some fW:=by kernel_rfl
def ji:FK:=⟨76,xR,qe [wS 1 1 0,qc 2 qU] (qD [xe 7 1,qt 8 7,wg 9 8,xZ 10 [.t 9,wK,qi 4],xT 11 10] (ye 11 2) (xV (wZ 3) (wZ 4) (xK 0 [xG 12,xe 13 1,qt 14 13,wg 15 14,wI 16 12 15] 16 0 1 (qe [xe 19 1,qt 20 19,xG 21,wn 22 3 20 21,qY 23 3 22,wd 5 [qy,qy,.nils],qS 3 5 23] (qD [xe 24 5,qt 25 24,xZ 26 [.t 25,qR,qi 3],xT 27 26,qf 28 27,xu 29 28 1 5,xk 30 28 29,xu 31 28 0 5,xk 32 28 31,qK 33 28 (xh [.t 30,.t 32,qi 300]),qK 34 28 (wB 33),xW 35 28 34,qf 36 35,xu 37 36 2 5,xk 38 36 37,qK 39 36 (qV 38),qK 40 36 (xh [.t 39,wK,qi 160]),qK 41 36 (wB 40),xW 42 36 41] (ye 42 2) (qe (wZ 6) (xK 2 [xp 43,xj 44 5,qt 45 44,wg 46 45,wI 47 43 46] 47 2 3 (qX [x8 50,xj 51 5,xp 53,xj 59 5,xp 61,qt 52 51,wn 54 5 52 53,xB 55 54,qt 56 55,wg 57 56,wo 58 .add 50 57,qt 60 59,wn 62 5 60 61,xe 63 62,qt 64 63,wg 65 64,wo 66 .add 58 65,qf 3 66] [x8 67,qC 68 .gtr 67 800,qf 69 68,qK 70 69 (qj (some 1) 1),xa 71 69 4,xa 72 69 6,qK 73 69 (.call fM [.t 70,.t 71,.t 72]),qK 74 69 (wB 73),xW 75 69 74] (ye 75 2)) (xp 48) 49 48 1 6 49)))) (xG 17) 18 17 1 4 18) (wC 2 wH)))⟩
theorem om:ay Try.prog eA=some ji:=by kernel_rfl
def kO:FK:=⟨15,[xO 2 1],xV [wd 2 xM] [wh 4,wl 5 (xA 4 2),wJ 6 5 0] (wa 6 (qX [wh 7,xr 8 eP 7,xr 9 eZ 8,wd 3 xM,xx 3 9] [qY 10 1 3,xr 11 eA 10] (wz 11 [qY 12 1 3,xx 2 12]))) [wh 13,xr 14 di 13,xx 2 14]⟩
theorem rH:ay Try.prog gt=some kO:=by kernel_rfl
def kF:FK:=⟨10,[xO 2 1],xV [wd 2 xM] [wh 3,wl 4 (xA 3 12),wJ 5 4 0] (wz 5 [wh 6,xr 7 iB 6,xx 2 7]) [wh 8,xr 9 gt 8,xx 2 9]⟩
theorem sJ:ay Try.prog gy=some kF:=by kernel_rfl
def kI:FK:=⟨14,[xO 2 3],qX [wd 2 [qy,qy,.nils]] [wh 4,xr 5 gy 4,wd 3 xM,xx 3 5] (qH [xe 6 3,qt 7 6,xe 8 3,qt 9 8,wg 10 9,xi 11 10 1,wn 12 3 7 11,qY 13 3 12,qS 3 2 13])⟩
theorem sf:ay Try.prog gr=some kI:=by kernel_rfl
def cn:FK:=⟨19,xL,xV (wZ 4) [wh 6,wg 7 6,qc 8 qR] (qT 0 (yk [wI 9 8 7] (wy 9 0) (wq 1 (qX (xy (qf 10 8) 5 10) [xD 11,wh 12,wX 13,wn 14 5 12 13,qY 15 5 14,qb 16 (.callv (.t 11) (xq 15))] (wz 16 (xy (wX 17) 4 17))) (xy (wF 18 8 1) 8 18)))) (wC 4 (qi (-1)))⟩
theorem fk:ay Try.prog bv=some cn:=by kernel_rfl
def bS:FK:=⟨9,xL,xY (wC 4 qU) [wh 5,xD 6,wR 7 bv 5 6,qC 8 .geq 7 0,qf 4 8]⟩
theorem ee:ay Try.prog bg=some bS:=by kernel_rfl
def dX:FK:=⟨19,xL,xV (wZ 4) [wh 6,wg 7 6,qc 8 qR] (qT 0 (yk [wI 9 8 7] (wy 9 0) (wq 1 (qX (xy (qf 10 8) 5 10) [xD 11,wh 12,wX 13,wn 14 1 12 13,qt 15 14,qb 16 (.callv (.t 11) (xq 15))] (wz 16 (xy (wX 17) 4 17))) (xy (wF 18 8 1) 8 18)))) (wC 4 (qi (-1)))⟩
theorem jw:ay Try.prog co=some dX:=by kernel_rfl
def db:FK:=⟨9,xL,xY (wC 4 qU) [wh 5,xD 6,wR 7 co 5 6,qC 8 .geq 7 0,qf 4 8]⟩
theorem gL:ay Try.prog bn=some db:=by kernel_rfl
def iI:FK:=⟨15,xC 6,xY (wC 6 qU) [xD 7,wh 8,wo 9 .leq 7 8,qf 10 9,xb 11 10 0,xb 12 10 2,xz 13 10 .leq 11 (.t 12),yc 14 10 13,qf 6 14]⟩
theorem te:ay Try.prog dk=some iI:=by kernel_rfl
def fX:FK:=⟨11,xC 3,xY (wC 3 qU) [wh 4,xj 5 1,qt 6 5,wg 7 6,xi 8 7 1,qn 9 dk [.t 4,qR,.t 8],xT 10 9,qf 3 10]⟩
theorem mu:ay Try.prog dD=some fX:=by kernel_rfl
def iS:FK:=⟨8,xC 3,xY [wS 2 5 0,qc 3 qU] [qp 4 4 2,qt 5 4,qb 6 (.mkf (.func dD) (xq 1)),wR 7 bn 5 6,yj 3]⟩
theorem oy:ay Try.prog cY=some iS:=by kernel_rfl
def fU:FK:=⟨14,xR,xY [wS 1 3 0,qc 2 qU] [xj 3 1,qt 4 3,wg 5 4,qC 6 .gtr 5 0,xp 7,xo 8 7 2 1,wW 9 7 8,qL 10 7 (.mkf (.func cY) (xq 1)),qL 11 7 (.call bg (wO 9 10)),qL 12 7 (wB 11),yc 13 7 12,qf 2 13]⟩
theorem sj:ay Try.prog cQ=some fU:=by kernel_rfl
def eq:FK:=⟨48,xL,qX [wS 2 3 0,qc 4 xl] [xj 8 2,qt 9 8,wg 10 9,qb 11 (.mks 1 1 [qB] (.t 10) (.t 10)),qf 5 11] (yk (xy (x9 12 1 [(0,1,qR)]) 6 12) (wU 0 [xp 13,wg 14 13,qC 15 .gtr 14 0] 15 0 (.blk 1 (qX [xp 16,xp 17,wg 18 17,xi 19 18 1,wn 20 1 16 19,qt 21 20,qf 7 21] [xp 22,xp 23,wg 24 23,xi 25 24 1,qb 26 (.slS 1 (.t 22) none (some (.t 25))),qf 6 26] (qD [yj 27,xD 28,wo 29 .eql 27 28,qf 30 29,xa 31 30 5,xa 32 30 7,qK 33 30 (we 1 31 32),xk 34 30 33,xW 35 30 34] (wa 35 (.exit 1)) (qe [wX 36,yj 37,wn 38 1 36 37,qQ 1 38 wH] (.reg [xp 39,xj 40 2,qt 41 40,yj 42,wn 43 5 41 42,qp 44 4 43,qt 45 44,wP 46 1 8 39 45,qf 6 46])))))) (qH (xy (wX 47) 4 47)))⟩
theorem jS:ay Try.prog aL=some eq:=by kernel_rfl
def eN:FK:=⟨71,xR,qe [wS 1 3 0,qc 2 (.c .nilp)] (qD [qY 8 3 1,xr 9 cQ 8,xT 10 9] (wT 10 2 (.c .nilp)) (xV [qY 11 3 1,qY 12 3 1,qn 13 aL (xA 12 (-1)),qA (some 3) 1 11,wu 14 [qy,qy,.nils,.nils,.nils] [wt 0 3 11,wE 4 13],wS 15 5 14,qf 3 15] [xj 16 1,qt 17 16,wg 18 17,qc 19 qR] (qT 0 (yk [wI 20 19 18] (wy 20 0) (wq 1 (qX (xy (qf 21 19) 4 21) [xj 22 1,qt 23 22,wg 24 23,qb 25 (.mks 1 1 [qB] (.t 24) (.t 24)),qf 5 25] (qD [x8 26,qW 27 26,qp 28 4 27,qt 29 28,xG 30,wn 31 1 29 30,qt 32 31] (wa 32 (qX [qY 33 3 1,xG 34,wR 35 aL 33 34,qf 6 35] [wX 36,wg 37 36,qc 38 qR] (qT 2 (yk [wI 39 38 37] (wy 39 2) (wq 3 (qe (xy (qf 40 38) 7 40) (.reg [wX 41,yj 42,x8 43,qW 44 43,qp 45 4 44,qt 46 45,yj 47,wn 48 1 46 47,qt 49 48,qf 50 49,xb 51 50 6,xb 52 50 7,qL 53 50 (we 1 51 52),wW 54 50 53,qL 55 50 (wB 54),yc 56 50 55,wn 57 1 41 42,xx 57 56])) (xy (wF 58 38 1) 38 58)))))) (.reg [x8 59,x8 60,qW 61 60,qp 62 3 61,qt 63 62,wX 64,qI 65 1 xM 1 [xU 64],wP 66 1 24 63 65,qW 67 59,qp 68 3 67,xx 68 66]))) (xy (wF 69 19 1) 19 69)))) (xy (x8 70) 2 70)))⟩
theorem lR:ay Try.prog cB=some eN:=by kernel_rfl
def fv:FK:=⟨26,xL,xY (wC 4 qU) [wh 5,qb 6 (.pnil 0 true (.t 5)),xp 7,xb 8 7 1,xb 9 7 0,qL 10 7 (qz 9),xo 11 7 4 10,wW 12 7 11,qL 13 7 (qV 12),xz 14 7 .sub 13 wK,qL 15 7 (.call dk [.t 8,qR,.t 14]),yc 16 7 15,qf 17 16,xb 18 17 0,qL 19 17 (qz 18),xo 20 17 4 19,wW 21 17 20,xb 22 17 1,qL 23 17 (we 1 21 22),wW 24 17 23,yc 25 17 24,qf 4 25]⟩
theorem pu:ay Try.prog dr=some fv:=by kernel_rfl
def kg:FK:=⟨42,xR,xV [wS 1 3 0,qc 2 qU] (wZ 3) (xK 0 [x8 5,xj 6 1,qt 7 6,wg 8 7,wI 9 5 8] 9 0 1 (qe (wZ 4) (xK 2 [xG 12,xj 13 1,qt 14 13,x8 15,wn 16 5 14 15,qp 17 4 16,qt 18 17,wg 19 18,wI 20 12 19] 20 2 3 (qe [xj 23 1,x8 25,xG 29,xj 32 1,qt 24 23,wn 26 5 24 25,qp 27 4 26,qt 28 27,wn 30 1 28 29,qt 31 30,qt 33 32,wg 34 33,xi 35 34 1,xZ 36 [.t 31,qR,.t 35],xT 37 36] (ye 37 2)) (xG 21) 22 21 1 4 22)) (x8 10) 11 10 1 3 11) [xj 38 1,qt 39 38,wg 40 39,qC 41 .gtr 40 0,qf 2 41]⟩
theorem rf:ay Try.prog fV=some kg:=by kernel_rfl
def jK:FK:=⟨54,xC 8,qX [wS 4 3 0,qc 8 xl] [qf 10 2,xD 11,wn 12 1 10 11,qQ 1 12 wH] (wL (wZ 9) (xK 0 [qf 13 9,xj 14 4,qt 15 14,xD 16,wn 17 5 15 16,qp 18 4 17,qt 19 18,wg 20 19,wI 21 13 20] 21 0 1 (qe [qf 24 2,xj 25 4,qt 26 25,xD 27,wn 28 5 26 27,qp 29 4 28,qt 30 29,qf 31 9,wn 32 1 30 31,qt 33 32,wn 34 1 24 33,qt 35 34,xT 36 35] (yb 36 [xj 38 4,xD 40,qf 44 9,qf 47 2,x8 48,qY 37 3 4,qt 39 38,wn 41 5 39 40,qp 42 4 41,qt 43 42,wn 45 1 43 44,qt 46 45,qn 49 cA [.t 37,.t 46,.t 47,.t 48],qf 3 49])) (qf 22 9) 23 22 1 9 23) [x8 50,xD 51,x9 52 1 [xU 51],wP 53 1 8 50 52,qf 8 53])⟩
theorem po:ay Try.prog cA=some jK:=by kernel_rfl
def gw:AK:=qX [wS 1 3 0,qc 2 xl] [xj 10 1,qt 11 10,wg 12 11,qf 3 12] (qX (xy (qI 13 1 xM 0 []) 4 13) (xI (x8 14) (qb 15 (.mks 1 1 [qB] (.t 14) (.t 14))) 5 15) (xV [qY 16 3 1,wX 17,x9 18 0 [],qn 19 cA [.t 16,qR,.t 17,.t 18]] (wZ 6) (xK 0 [xp 20,x8 21,wI 22 20 21] 22 0 1 (qX (xI (x8 25) (qb 26 (.mks 1 1 [qB] (.t 25) (.t 25))) 7 26) [yj 27,xp 28,wn 29 1 27 28,qQ 1 29 wH] (.cut (xH [xp 30,qC 31 .neq 30 0] 31 (qe [qY 32 3 1,yj 33,x9 34 0 [],qn 35 cA [.t 32,qR,.t 33,.t 34]] (.reg [yj 36,xp 37,wn 38 1 36 37,qQ 1 38 qU])) (.reg [yj 39,xp 40,wn 41 1 39 40,qQ 1 41 qU])) (qe (xI (x8 42) (qb 43 (.mks 1 1 [qB] (.t 42) (.t 42))) 8 43) (qD (wZ 9) (xK 2 [qf 44 9,x8 45,wI 46 44 45] 46 2 3 (.reg [qf 49 8,qf 50 9,wX 51,xp 52,wn 53 1 51 52,qt 54 53,qf 55 54,xb 56 55 5,xb 57 55 9,qL 58 55 (we 1 56 57),wW 59 55 58,yc 60 55 59,qf 61 60,xb 62 61 7,xb 63 61 9,qL 64 61 (we 1 62 63),wW 65 61 64,qL 66 61 (wB 65),yc 67 61 66,wn 68 1 49 50,xx 68 67]) (qf 47 9) 48 47 1 9 48) (.reg [xG 69,qf 70 8,qI 71 1 xM 1 [xU 70],wP 72 1 24 69 71,qf 4 72]))))) (xp 23) 24 23 1 6 24) (xy (xG 73) 2 73)))
def gD:FK:=⟨74,xR,(AK.whole gw)⟩
theorem rS:ay Try.prog dW=some gD:=by kernel_rfl
def cF:FK:=⟨27,xC 6,xY (wC 6 qU) [wh 7,xD 8,wR 9 dr 7 8,qf 10 9,xb 11 10 0,xb 12 10 2,qL 13 10 (.call dr (wO 11 12)),yc 14 10 13,qf 15 14,xb 16 15 0,qL 17 15 (qz 16),xo 18 15 3 17,wW 19 15 18,xb 20 15 1,qL 21 15 (we 1 19 20),wW 22 15 21,xb 23 15 2,qL 24 15 (we 1 22 23),wW 25 15 24,yc 26 15 25,qf 6 26]⟩
theorem jQ:ay Try.prog bN=some cF:=by kernel_rfl
def jb:FK:=⟨12,xC 6,xY [wS 3 3 0,qc 6 qU] [qY 7 3 3,xr 8 cB 7,xD 9,qf 10 2,qn 11 bN [.t 8,.t 9,.t 10],qf 6 11]⟩
theorem oA:ay Try.prog ey=some jb:=by kernel_rfl
def jM:FK:=⟨47,xL,qX (wC 4 xl) (wZ 5) (.seq (wU 0 [wX 7,wh 8,wg 9 8,wI 10 7 9,qf 11 10,xb 12 11 0,xb 13 11 5,qL 14 11 (we 1 12 13),wW 15 11 14,xb 16 11 1,xz 17 11 .lss 15 (.t 16),yc 18 11 17] 18 0 (.blk 1 (.reg (xI (wX 19) (wF 20 19 1) 5 20)))) (qD [wX 21,wh 22,wg 23 22,wI 24 21 23,qf 25 24,xb 26 25 0,xb 27 25 5,qL 28 25 (we 1 26 27),wW 29 25 28,xb 30 25 1,xz 31 25 .eql 29 (.t 30),yc 32 25 31] (wz 32 (xy (wh 33) 4 33)) (xY [x9 34 0 [],wh 35,wX 36,qb 37 (.slS 1 (.t 35) none (some (.t 36))),wP 38 1 8 34 37,qf 6 38] [xp 39,xD 40,wh 43,wX 44,qb 45 (.slS 1 (.t 43) (some (.t 44)) none),x9 41 1 [xU 40],wP 42 1 8 39 41,wP 46 1 8 42 45,qf 4 46])))⟩
theorem pt:ay Try.prog bl=some jM:=by kernel_rfl
def fO:FK:=⟨19,xL,xV (wZ 4) [wh 6,wg 7 6,qc 8 qR] (qT 0 (yk [wI 9 8 7] (wy 9 0) (wq 1 (qX (xy (qf 10 8) 5 10) [xD 11,wh 12,wX 13,wn 14 1 12 13,qt 15 14,wo 16 .eql 11 15] (wz 16 (xy (wX 17) 4 17))) (xy (wF 18 8 1) 8 18)))) (wC 4 (qi (-1)))⟩
theorem mz:ay Try.prog dG=some fO:=by kernel_rfl
def er:FK:=⟨9,xL,xY (wC 4 qU) [wh 5,xD 6,wR 7 dG 5 6,qC 8 .geq 7 0,qf 4 8]⟩
theorem jR:ay Try.prog cE=some er:=by kernel_rfl
def kw:FK:=⟨33,xL,qX [wS 2 3 0,qc 4 xl] (wC 5 xl) (qD [xD 8,xj 9 2,qt 10 9,wg 11 10,xi 12 11 1,qn 13 dk [.t 8,qR,.t 12],xT 14 13] (wT 14 4 xl) (wL [xj 15 2,qt 16 15,wg 17 16,qc 18 qR] (qT 0 (yk [wI 19 18 17] (wy 19 0) (wq 1 (qX [qf 20 18,wn 21 5 16 18,qY 22 5 21,wd 7 [.nils,.nils,qy,qy,.nils],qf 6 20,qS 5 7 22] [qp 23 4 7,qt 24 23,xD 25,wR 26 cE 24 25] (yb 26 [wX 27,xp 28,x9 29 1 [xU 28],wP 30 1 8 27 29,qf 5 30])) (xy (wF 31 18 1) 18 31)))) (xy (wX 32) 4 32)))⟩
theorem rn:ay Try.prog cR=some kw:=by kernel_rfl
def lG:FK:=⟨29,xL,xV (wC 4 qU) [wh 6,wg 7 6,xD 8,wg 9 8,qb 10 (.mn (.t 7) (.t 9)),qc 11 qR] (qT 0 (yk [wI 12 11 10] (wy 12 0) (wq 1 (qX (xy (qf 13 11) 5 13) [wh 14,wX 15,wn 16 1 14 15,xD 18,wX 19,wn 20 1 18 19,qt 17 16,qt 21 20,wo 22 .neq 17 21] (ye 22 4)) (xy (wF 23 11 1) 11 23)))) [wh 24,wg 25 24,xD 26,wg 27 26,wo 28 .eql 25 27,qf 4 28]⟩
theorem ty:ay Try.prog iP=some lG:=by kernel_rfl
def nF:FK:=⟨17,xL,xV (wC 4 qU) [wh 7,wg 8 7,qc 9 qR] (qT 0 (yk [wI 10 9 8] (wy 10 0) (wq 1 (qX (xI (wn 11 1 7 9) (qt 12 11) 6 12) [xp 13,xD 14,wo 15 .eql 13 14] (wT 15 4 wH)) (xy (wF 16 9 1) 9 16)))) (wC 4 qU)⟩
theorem uY:ay Try.prog jF=some nF:=by kernel_rfl
def fc:FK:=⟨6,[xO 2 3],xY [wd 2 [qy,qy,.nils]] [wh 3,xr 4 gd 3,xr 5 gr 4,qS 3 2 5]⟩
theorem kK:ay Try.prog cK=some fc:=by kernel_rfl
def dc:FK:=⟨9,xL,xY (wC 4 qU) [qt 5 1,qt 6 2,wh 7,qn 8 bN [.t 5,.t 6,.t 7],qf 4 8]⟩
theorem lA:ay Try.prog bY=some dc:=by kernel_rfl
def gZ:FK:=⟨27,xR,qX [wS 1 1 0,qc 2 xl] (wC 3 xl) (wL [qt 5 1,qW 6 5,qp 7 4 6,qt 8 7,wg 9 8,qc 10 qR] (qT 0 (yk [wI 11 10 9] (wy 11 0) (wq 1 (qX [qf 12 10,wd 4 xE,xx 4 12] [qb 19 (.mkf (.func bY) (wO 1 4)),qt 13 1,qW 14 13,xe 15 14,qY 16 3 15,qt 17 4,wR 18 cR 16 17,wR 20 bn 18 19] (yb 20 [x8 21,qt 22 4,x9 23 1 [xU 22],wP 24 1 8 21 23,qf 3 24])) (xy (wF 25 10 1) 10 25)))) (xy (x8 26) 2 26))⟩
theorem mL:ay Try.prog dL=some gZ:=by kernel_rfl
def iY:FK:=⟨10,xR,qX [wS 1 3 0,qc 2 xl] [qY 4 3 1,xr 5 cB 4,wX 3] (wL [x8 6,qb 7 (.pnil 0 false (.t 6))] (wT 7 2 xl) (xI (x8 8) (xr 9 dL 8) 2 9))⟩
theorem od:ay Try.prog eG=some iY:=by kernel_rfl
def jN:FK:=⟨40,xL,qX [wS 2 3 0,qc 4 xl] (xy (x9 9 0 []) 5 9) (wL (wZ 6) (xK 0 [xp 10,xj 11 2,qt 12 11,wg 13 12,wI 14 10 13] 14 0 1 (qX [qY 17 3 2,xp 18,wR 19 ce 17 18,qf 7 19] (wZ 8) (xK 2 [qf 20 8,yj 21,wg 22 21,wI 23 20 22] 23 2 3 (qe [xD 26,xp 27,wn 28 1 26 27,yj 30,qf 31 8,wn 32 1 30 31,qt 29 28,qt 33 32,wn 34 1 29 33,qt 35 34] (yb 35 [wX 36,xp 37,wR 38 bl 36 37,qf 5 38])) (qf 24 8) 25 24 1 8 25)) (xp 15) 16 15 1 6 16) (xy (wX 39) 4 39))⟩
theorem pB:ay Try.prog fw=some jN:=by kernel_rfl
def jd:FK:=⟨11,xR,xV [wS 1 3 0,qc 2 xl] [qY 3 3 1,xr 4 fV 3,xT 5 4] (wz 5 [x9 6 0 [],xp 2]) [qY 7 3 1,qY 8 3 1,xr 9 dW 8,qA (some 3) 1 7,wR 10 fw 7 9,qf 2 10]⟩
theorem nW:ay Try.prog eC=some jd:=by kernel_rfl
def jI:FK:=⟨35,[],qe [qt 8 1,wh 9,wn 10 1 8 9,qQ 1 10 wH] (qD [xj 11 2,qt 12 11,wh 13,wn 14 5 12 13,qp 15 4 14,qt 16 15,wg 17 16,qc 18 qR] (qT 0 (yk [wI 19 18 17] (wy 19 0) (wq 1 (qX (xI (wn 20 1 16 18) (qt 21 20) 7 21) [qt 22 1,yj 23,wn 24 1 22 23,qt 25 24,xT 26 25] (yb 26 [qt 27 3,yj 28,qb 29 (.callv (.t 27) (xq 28))])) (xy (wF 30 18 1) 18 30)))) (.reg [qt 31 4,wh 32,x9 33 1 [xU 32],wP 34 1 8 31 33,xx 4 34]))⟩
theorem pE:ay Try.prog cw=some jI:=by kernel_rfl
def lC:FK:=⟨14,xR,qX [wS 1 3 0,qc 2 xl] [wd 3 xM] (qX [xj 6 1,qt 7 6,wg 8 7,qb 9 (.mks 1 1 [qB] (.t 8) (.t 8)),wd 4 xM,xx 4 9] [wd 5 [.nilf]] (qX [qb 10 (.mkf (.func cw) [.t 4,.t 1,.t 5,.t 3]),xx 5 10] [qt 11 5,qb 12 (.callv (.t 11) [qR])] (qH (xy (qt 13 3) 2 13))))⟩
theorem tD:ay Try.prog iO=some lC:=by kernel_rfl
def ff:FK:=⟨28,[],qe [wh 4,wg 5 4,xi 6 5 1,qc 2 qR,xp 3] (wY 0 [qf 7 2,x8 8,wI 9 7 8] 9 0 1 (.reg [wh 14,qf 15 2,wh 16,x8 17,wh 18,x8 19,wn 20 1 18 19,wh 22,qf 23 2,wn 24 1 22 23,qt 21 20,qt 25 24,wn 26 1 14 15,xx 26 21,wn 27 1 16 17,xx 27 25]) [qf 10 2,wF 11 10 1,x8 12,xi 13 12 1,qf 2 11,qf 3 13])⟩
theorem ko:ay Try.prog cN=some ff:=by kernel_rfl
def kW:FK:=⟨12,xR,qe [wS 1 3 0,qc 2 xl] (qD [qY 4 3 1,xr 5 cQ 4,xT 6 5] (wT 6 2 xl) (qX (xI (qY 7 3 1) (xr 8 iO 7) 3 8) [x8 9,xr 10 cN 9] (qH (xy (x8 11) 2 11))))⟩
theorem sS:ay Try.prog gF=some kW:=by kernel_rfl
def fN:FK:=⟨55,xR,qe (wC 2 qU) (qD [wh 9,wg 10 9,qC 11 .gtr 10 1048576] (wT 11 2 wH) (qX [wh 12,xr 13 cK 12,wd 3 [qy,qy,.nils],qS 3 3 13] (xI (qY 14 3 3) (xr 15 eG 14) 4 15) (qD [xG 16,qY 17 3 3,xr 18 eC 17,wR 19 iP 16 18,xT 20 19] (ye 20 2) (wL [xj 21 3,qt 22 21,wg 23 22,qc 24 qR] (qT 0 (yk [wI 25 24 23] (wy 25 0) (wq 1 (qX (xy (qf 26 24) 5 26) (wC 6 qU) (qD [qY 27 3 3,wX 28,wR 29 cR 27 28,wg 30 29,qc 31 qR] (qT 2 (yk [wI 32 31 30] (wy 32 2) (wq 3 (qe (xI (wn 33 1 29 31) (qt 34 33) 8 34) (.reg [xp 35,qf 36 35,qK 37 36 (qj (some 3) 3),xa 38 36 5,xa 39 36 8,qK 40 36 (.call ey [.t 37,.t 38,.t 39]),xW 41 36 40,qf 6 41])) (xy (wF 42 31 1) 31 42)))) (qe [xG 43,wX 44,wR 45 jF 43 44,xp 46,qf 47 46,qL 48 47 (qj (some 3) 3),qL 49 47 (.call gF (xq 48)),qL 50 47 (qV 49),xz 51 47 .gtr 50 qR,yc 52 47 51,qb 53 (.beq true (.t 45) (.t 52))] (ye 53 2)))) (xy (wF 54 24 1) 24 54)))) (wC 2 wH)))))⟩
theorem mF:ay Try.prog gv=some fN:=by kernel_rfl
end Go.Proofs.Ytdfplkcigiblcaa
