/-
  Contracts and lemmas that the card needs, part 4.
-/
import Derived.Test.YtdfplkcigiblcaaFf3
import Derived.Test.YtdfplkcigiblcaaRows
namespace Go.Proofs.Ytdfplkcigiblcaa
open Go Go.Aw
set_option maxRecDepth 100000
abbrev fT:FuncId:=21
abbrev bv:FuncId:=41
abbrev aY:FuncId:=42
abbrev gY:FuncId:=44
abbrev fc:FuncId:=87
abbrev cL:FuncId:=88
abbrev iP:FuncId:=73
abbrev fp:FuncId:=74
abbrev iM:FuncId:=67
abbrev bY:FuncId:=48
abbrev dj:FuncId:=62
abbrev dA:FuncId:=72
abbrev iB:FuncId:=66
abbrev dV:FuncId:=61
abbrev iQ:FuncId:=58
abbrev bx:FuncId:=99
abbrev eS:FuncId:=103
abbrev be:FuncId:=92
abbrev dO:FuncId:=82
abbrev du:FuncId:=109
abbrev bW:FuncId:=100
abbrev cG:FuncId:=101
abbrev dT:FuncId:=102
abbrev ep:FuncId:=91
abbrev aN:FuncId:=81
abbrev dt:FuncId:=69
abbrev gb:FuncId:=114
abbrev fX:FuncId:=110
abbrev jx:FuncId:=104
abbrev dq:FuncId:=111
abbrev jq:FuncId:=105
abbrev bD:FuncId:=93
abbrev eX:FuncId:=112
abbrev eQ:FuncId:=117
abbrev dp:FuncId:=115
abbrev eg:FuncId:=116
abbrev cY:FuncId:=113
abbrev eR:FuncId:=106
abbrev bp:FuncId:=94
abbrev kO:FuncId:=83
abbrev cR:FuncId:=95
abbrev jE:FuncId:=84
abbrev de:FuncId:=70
abbrev eV:FuncId:=64
abbrev gf:FuncId:=89
abbrev dk:FuncId:=75
abbrev bH:FuncId:=76
abbrev bj:FuncId:=80
abbrev bn:FuncId:=79
abbrev bF:FuncId:=78
abbrev cW:FuncId:=98
abbrev eP:FuncId:=107
abbrev kg:FuncId:=108
abbrev aU:FuncId:=97
abbrev dQ:FuncId:=96
abbrev dN:FuncId:=90
abbrev aX:FuncId:=77
abbrev ie:FuncId:=68
abbrev eY:FuncId:=63
abbrev fg:FuncId:=86
abbrev jD:FuncId:=85
abbrev fU:FuncId:=71
abbrev eI:FuncId:=65
abbrev gB:FuncId:=59
abbrev gk:FuncId:=51
abbrev dU:FuncId:=34
abbrev iu:FuncId:=20
abbrev bq:FuncId:=60
abbrev bi:FuncId:=53
abbrev cg:FuncId:=57
abbrev bl:FuncId:=46
abbrev dg:FuncId:=32
abbrev dx:FuncId:=55
abbrev cX:FuncId:=54
abbrev dX:FuncId:=38
abbrev aL:FuncId:=43
abbrev cw:FuncId:=22
abbrev cr:FuncId:=23
abbrev gm:FuncId:=36
abbrev js:FuncId:=26
abbrev co:FuncId:=45
abbrev ew:FuncId:=27
abbrev cD:FuncId:=28
abbrev cZ:FuncId:=9
abbrev bk:FuncId:=49
abbrev dy:FuncId:=31
abbrev cH:FuncId:=13
abbrev iI:FuncId:=29
abbrev cy:FuncId:=10
abbrev dv:FuncId:=50
abbrev cE:FuncId:=33
abbrev cN:FuncId:=14
abbrev ck:FuncId:=47
abbrev cI:FuncId:=30
abbrev dR:FuncId:=11
abbrev ir:FuncId:=12
abbrev jt:FuncId:=15
abbrev gJ:FuncId:=4
@[reducible] def qa(a:Nat)(b:Option (Nat × Bool))(c:AI):CO:=⟨some a,b,c⟩
@[reducible] def qb(a:Nat)(b:AI):CO:=qa a none b
@[reducible] def qc(a:Nat)(b:AOp):CO:=qb a (.mov b)
@[reducible] def qd(a:IntKind)(b:Int):AV:= .p (.int a b)
@[reducible] def qe(a:List CO)(b:AK):AK:= .seq (.reg a) b
@[reducible] def qf(a b:Nat):CO:=qc a (.t b)
@[reducible] def qg(a:Int):AV:=qd .i64 a
@[reducible] def qh(a b:Nat):AI:= .fldA a (.t b)
@[reducible] def qi(a:Int):AOp:= .c (qg a)
@[reducible] def qj(a:Nat)(b:Nat × Bool)(c:AI):CO:=qa a (some b) c
@[reducible] def qk(a:Option Nat)(b:Nat):AI:= .ld a (.t b)
@[reducible] def ql(a:BinOp)(b:Nat)(c:AOp):AI:= .bin a (.t b) c
@[reducible] def qm(a:Nat)(b:Option Nat)(c:Nat):CO:=qb a (qk b c)
@[reducible] def qn(a:Nat)(b:FuncId)(c:List AOp):CO:=qb a (.call b c)
@[reducible] def qo(a:Option (Nat × Bool))(b:AI):CO:=⟨none,a,b⟩
@[reducible] def qp(a b c:Nat):CO:=qb a (qh b c)
@[reducible] def qt(a b:Nat):CO:=qm a none b
@[reducible] def qu(a:Nat)(b c:AK):AK:= .cond (.t a) b c
@[reducible] def qv(a:AI):CO:=qo none a
@[reducible] def qw(a:Bool):AV:= .p (.bool a)
@[reducible] def qx(a:Nat)(b:BinOp)(c:Nat)(d:AOp):CO:=qb a (ql b c d)
@[reducible] def qy:AV:=qg 0
@[reducible] def qz(a:Nat):AI:= .nilck (.t a)
@[reducible] def qA(a:Option Nat)(b c:Nat):CO:=qv (.chk a b c)
@[reducible] def qB:AV:=qw false
@[reducible] def qC(a:Nat)(b:BinOp)(c:Nat)(d:Int):CO:=qx a b c (qi d)
@[reducible] def qD(a:AOp):AI:= .len false a
@[reducible] def qF(a:List CO)(b c:AK):AK:= .seq (qe a b) c
@[reducible] def qG(a b:Nat)(c:AOp):AI:= .idxS a (.t b) c
@[reducible] def qH(a:List CO):AK:=qe a .ret
@[reducible] def qI(a b:Nat)(c:Bool)(d:AI):CO:=qj a (b,c) d
@[reducible] def qJ(a b:Nat)(c:AI):CO:=qI a b false c
@[reducible] def qK(a b:Nat)(c:AI):CO:=qI a b true c
@[reducible] def qL(a b:Nat)(c:List AV)(d:Nat)(e:List (Nat × Nat × AOp)):CO:=qb a (.bsl b c d e)
@[reducible] def qM(a:Nat)(b c:AOp):CO:=qv (.st a b c)
@[reducible] def qN(a:Nat)(b c:AOp):AI:= .pick (.t a) b c
@[reducible] def qO(a:List UInt8):AV:= .p (.str a)
@[reducible] def qP(a b:Nat):CO:=qA none a b
@[reducible] def qQ:AOp:=qi 0
@[reducible] def qR(a b:Nat)(c:AOp):CO:=qM a (.t b) c
@[reducible] def qS(a:Nat):AI:= .mov (.t a)
@[reducible] def qT(a b c:Nat):CO:=qR a b (.t c)
@[reducible] def qU:AOp:= .c qB
@[reducible] def qV(a:Nat)(b:AK):AK:= .blk a (.loop b)
@[reducible] def qW(a:Nat):AI:=qD (.t a)
@[reducible] def qX(a b c:Nat):CO:=qm a (some b) c
@[reducible] def qY(a b:Nat):CO:=qb a (qz b)
@[reducible] def qZ(a:Nat)(b:List AV):CO:=qb a (.alloc b)
@[reducible] def wa(a:Nat)(b:AK):AK:=qu a b .skip
@[reducible] def wb(a b:List CO)(c:AK):AK:=qe a (qe b c)
@[reducible] def wd(a:Nat)(b c:AK):AK:= .seq (.blk a b) c
@[reducible] def we(a:Nat)(b:List AOp):CO:=qn a bv b
@[reducible] def wg(a b:Nat):CO:=qb a (qW b)
@[reducible] def wh(a b c:Nat):AI:=qG a b (.t c)
@[reducible] def wi(a:Nat):CO:=qf a 0
@[reducible] def wj(a:Nat)(b:AK)(c:Nat):AK:=qu a b (.exit c)
@[reducible] def wl(a:List CO)(b c:OT):OT:= .alt (.one a b) c
@[reducible] def wm:AV:=qO []
@[reducible] def wn(a b c d:Nat):CO:=qb a (wh b c d)
@[reducible] def wo(a:Nat)(b:BinOp)(c d:Nat):CO:=qx a b c (.t d)
@[reducible] def wq(a b c:Nat):Nat × Nat × AOp:=(a,b,.t c)
@[reducible] def wt(a:Nat):AI:=qk none a
@[reducible] def wu(a:Nat)(b:AK)(c:List CO):AK:=wd a b (.reg c)
@[reducible] def wv:AV:=qw true
@[reducible] def ww(a:Nat)(b:List AV)(c:List (Nat × Nat × AOp)):CO:=qb a (.bld b c)
@[reducible] def wx(a b:Nat)(c d:AOp):CO:=qb a (qN b c d)
@[reducible] def wy(a b:Nat):AK:=wj a .skip b
@[reducible] def wz(a:Nat)(b:List CO):AK:=wa a (qH b)
@[reducible] def wA(a:Nat):AI:= .not (.t a)
@[reducible] def wB(a b c:Nat)(d:AOp):AI:= .app a b (.t c) d
@[reducible] def wC(a:Nat)(b:List AOp):CO:=qn a aY b
@[reducible] def wD(a b:Nat):Nat × Nat × AOp:=wq a 1 b
@[reducible] def wE(a:Nat)(b:AOp):List CO:=[qc a b]
@[reducible] def wF(a b:Nat):AI:= .box a (.t b)
@[reducible] def wG(a b:Nat)(c:Int):CO:=qC a .add b c
@[reducible] def wH:AOp:= .c wv
@[reducible] def wI(a b c:Nat):CO:=wo a .lss b c
@[reducible] def wJ:AOp:=qi 1
@[reducible] def wK(a b:Nat)(c:Int):CO:=qC a .eql b c
@[reducible] def wL(a:Nat)(b:AOp):List AOp:=[.t a,b]
@[reducible] def wM(a b:Nat):List AOp:=wL a (.t b)
@[reducible] def wN(a:List CO)(b:AK)(c:List CO):AK:=qF a b (qH c)
@[reducible] def wO(a:Nat)(b:FuncId)(c d:Nat):CO:=qn a b (wM c d)
@[reducible] def wP(a b c d:Nat):AI:=wB a b c (.t d)
@[reducible] def wQ(a b c:Nat):CO:=qK a b (qS c)
@[reducible] def wR(a b c d e:Nat):CO:=qb a (wP b c d e)
@[reducible] def wS(a:Nat)(b:List CO)(c d:AK):AK:=qV a (qF b c d)
@[reducible] def wT(a:Nat)(b:List CO)(c d:Nat)(e:AK):AK:=wS a b (wy c d) e
@[reducible] def wU(a b c:Nat):CO:=qb a (wF b c)
@[reducible] def wV(a b c:Nat):CO:=qK a b (wt c)
@[reducible] def wW(a:List CO)(b:OT):OT:=wl a b .tru
@[reducible] def wX(a b c:Nat):CO:=qJ a b (qS c)
@[reducible] def wY(a b:Nat)(c:AOp):AK:=wz a (wE b c)
@[reducible] def wZ(a:Nat):CO:=qf a 5
@[reducible] def xa(a:Nat)(b:List CO)(c d e:Nat)(f:AK)(g:List CO):AK:=wT a b c d (wu e f g)
@[reducible] def xb(a:Nat):List CO:=wE a qQ
@[reducible] def xc(a:Nat)(b:List AOp):CO:=qn a bF b
@[reducible] def xd(a b:Nat)(c:AOp)(d:Nat):CO:=wx a b c (.t d)
@[reducible] def xe(a:List AOp):AI:= .call gY a
@[reducible] def xf(a b c:Nat)(d:AOp):CO:=wx a b (.t c) d
@[reducible] def xg(a b:Nat):CO:=qp a 0 b
@[reducible] def xh(a:Nat):CO:=qf a 6
@[reducible] def xi(a b:Nat)(c:Int):Nat × Nat × AOp:=(a,b,qi c)
@[reducible] def xj(a:Nat)(b:Int):Nat × Nat × AOp:=xi a 1 b
@[reducible] def xk(a b c:Nat):CO:=qJ a b (wt c)
@[reducible] def xl(a b:Nat)(c:Int):CO:=qC a .sub b c
@[reducible] def xm(a b c d:Nat):CO:=qK a b (qh c d)
@[reducible] def xo(a b:Nat)(c:BinOp)(d:Nat)(e:AOp):CO:=qK a b (ql c d e)
@[reducible] def xp(a b:Nat):CO:=qp a 2 b
@[reducible] def xq(a:Nat)(b:List AOp):CO:=qn a bH b
@[reducible] def xr(a b c d:Nat):CO:=qJ a b (qh c d)
@[reducible] def xt(a:Nat):List AOp:=[.t a]
@[reducible] def xu(a:Nat)(b:FuncId)(c:Nat):CO:=qn a b (xt c)
@[reducible] def xv(a:Nat)(b:List AOp):CO:=qn a bj b
@[reducible] def xx(a:List CO)(b c:AK):AK:= .cut (qe a b) c
@[reducible] def xy(a:Nat):CO:=qf a 1
@[reducible] def xz(a:Nat)(b:Int):List AOp:=wL a (qi b)
@[reducible] def xA:AOp:= .c .nils
@[reducible] def xB(a:CO)(b c:Nat):List CO:=[a,qf b c]
@[reducible] def xC:List AV:=[qy]
@[reducible] def xD(a b c:Nat)(d:List (Nat × Nat × AOp)):CO:=qL a b xC c d
@[reducible] def xE(a:List AOp):AI:= .call bv a
@[reducible] def xF:RV:= .t 4
@[reducible] def xG(a b:Nat):CO:=qp a 1 b
@[reducible] def xH(a:Nat):CO:=qf a 4
@[reducible] def xI(a b:Nat):CO:=qT 1 a b
@[reducible] def xJ(a:CO)(b c:Nat)(d:AK):AK:=qe (xB a b c) d
@[reducible] def xK(a b:Nat):RV:= .c a (some b)
@[reducible] def xL(a b:Nat):CO:=xu a bn b
@[reducible] def xM(a b:CO)(c d:Nat):List CO:=[a,b,qf c d]
@[reducible] def xN(a:Nat)(b:List CO)(c d e:Nat)(f:AK)(g h:CO)(i j:Nat):AK:=xa a b c d e f (xM g h i j)
@[reducible] def xO(a:Nat)(b:List CO)(c d e:Nat)(f:AK)(g:CO)(h i:Nat)(j:Int)(k l:Nat):AK:=xN a b c d e f g (wG h i j) k l
@[reducible] def xP(a:Nat):Nat × Nat × AOp:=wD 0 a
@[reducible] def xQ(a b:Nat)(c:List AV)(d:Nat)(e:List (Nat × Nat × AOp)):CO:=qb a (.bslP b c d e)
@[reducible] def xR(a:Nat)(b:List AOp):CO:=qn a dO b
@[reducible] def xS(a b:List CO):AK:=qe a (qH b)
@[reducible] def xT:List AV:=[.nils]
@[reducible] def xU(a b:List CO)(c:AK)(d:List CO):AK:=qe a (wN b c d)
@[reducible] def xV(a b c:Nat):CO:=xd a b wH c
@[reducible] def xW(a:Nat)(b:List AOp):CO:=qn a gY b
@[reducible] def xX(a b:Nat):CO:=qb a (wA b)
@[reducible] def xY(a b c:Nat):CO:=xf a b c qU
@[reducible] def xZ(a b:Nat)(c:List (Nat × Nat × AOp)):CO:=xD a 1 b c
@[reducible] def x7(a:Nat):CO:=qf a 7
@[reducible] def x8:RV:= .t 2
@[reducible] def x9(a b:Nat)(c:BinOp)(d:Nat)(e:AOp):CO:=qJ a b (ql c d e)
@[reducible] def ya(a:Nat)(b:List CO):AK:=wa a (.reg b)
@[reducible] def yb(a b:Nat):AK:=wY a b qU
@[reducible] def yc(a:Nat):CO:=qP a 10
@[reducible] def ye:CO:=yc 9
@[reducible] def yf(a:Nat):CO:=qP 11 a
@[reducible] def yg:CO:=yf 12
@[reducible] def yh(a b:Nat)(c:Int)(d e:Nat)(f:AK):AK:=xJ (wK a b c) d e f
@[reducible] def yi(a b:Nat)(c:Int):CO:=qC a .gtr b c
@[reducible] def yj(a b:AV):List AV:=[a,b,.nils]
@[reducible] def yk(a:Nat)(b c:AV):CO:=qZ a (yj b c)
@[reducible] def yl(a b c:Nat):CO:=wC a (wM b c)
@[reducible] def ym(a:Nat):CO:=qf a 3
@[reducible] def yn(a:List UInt8):AOp:= .c (qO a)
def jX:FK:=⟨11,[x8],xU (wE 2 (.c .nilp)) [wi 3,wg 4 3,yi 5 4 2000] (ya 5 (xM (wi 6) (qb 7 (.slS 1 (.t 6) none (some (qi 2000)))) 0 7)) [wi 8,ww 9 [.nils,qy] [xP 8],wU 10 2 9,qf 2 10]⟩
theorem pL:aw Try.prog fT=some jX:=by kernel_rfl
def cF:FK:=⟨99,[xF],wb (xb 4) [wi 7,wi 8,qY 9 8,xG 10 9,qt 11 10,wG 12 11 1,qY 13 7,xG 14 13,xI 14 12] (qF [xy 15,qC 16 .lss 15 1,qf 17 16,wX 18 17 0,qJ 19 17 (qz 18),xr 20 17 0 19,xk 21 17 20,qJ 22 17 (qW 21),x9 23 17 .eql 22 qQ,xV 24 17 23] (wY 24 4 qQ) (qe [wi 25,qY 26 25,xG 27 26,qt 28 27,xl 29 28 1,qf 5 29] (qF [wZ 30,wi 31,qY 32 31,xg 33 32,qt 34 33,wg 35 34,wI 36 30 35] (wz 36 [wi 37,qY 38 37,xg 39 38,qt 40 39,wZ 41,wn 42 1 40 41,qt 43 42,qb 44 (.conv .i64 (.t 43)),xy 45,wo 46 .rem 44 45,qf 4 46]) (wb [wi 47,qY 48 47,xg 49 48,wZ 51,wi 52,qY 53 52,xg 54 53,wi 62,qY 63 62,xg 64 63,wZ 66,qC 67 .mul 66 7,wG 68 67 3,wi 69,qY 70 69,xg 71 70,wZ 80,qC 81 .mul 80 29,wZ 83,wi 84,qY 85 84,xg 86 85,qt 50 49,qt 55 54,wg 56 55,wo 57 .rem 51 56,wn 58 1 50 57,qt 59 58,qb 60 (.conv .i64 (.t 59)),qC 61 .mul 60 131,qt 65 64,qt 72 71,wg 73 72,wo 74 .rem 68 73,wn 75 1 65 74,qt 76 75,qb 77 (.conv .i64 (.t 76)),qC 78 .mul 77 1117,wo 79 .add 61 78,wo 82 .add 79 81,qt 87 86,wg 88 87,wo 89 .quo 83 88,qC 90 .mul 89 53,wo 91 .add 82 90,qf 6 91] [xh 92,xh 93,qC 94 .quo 93 64,wo 95 .xor 92 94,qf 6 95] (qH [xh 96,xy 97,wo 98 .rem 96 97,qf 4 98])))))⟩
theorem mD:aw Try.prog bv=some cF:=by kernel_rfl
def cV:FK:=⟨12,[xF],xS (xb 4) [xy 5,wi 6,xy 7,wg 8 7,we 9 (wM 6 8),wn 10 1 5 9,qt 11 10,qf 4 11]⟩
theorem eE:aw Try.prog aY=some cV:=by kernel_rfl
def jY:FK:=⟨15,[.t 6],xS (wE 6 qU) [wi 7,xy 8,wo 9 .geq 7 8,qf 10 9,wQ 11 10 0,wQ 12 10 2,xo 13 10 .leq 11 (.t 12),xY 14 10 13,qf 6 14]⟩
theorem yE:aw Try.prog gY=some jY:=by kernel_rfl
def bS:FK:=⟨28,[x8],qe (xb 2) (wd 0 (qe [wi 4,wK 5 4 1,wZ 3] (qu 3 (qH (xb 2)) (qe [wi 7,wK 8 7 2,qf 9 8,wX 10 9 0,x9 11 9 .eql 10 (qi 10),xV 12 9 11,qf 13 12,wX 14 13 0,x9 15 13 .eql 14 (qi 11),xV 16 13 15,qf 17 16,wX 18 17 0,x9 19 17 .eql 18 (qi 13),xV 20 17 19,qf 6 20] (qu 6 (qH (wE 2 wJ)) (qe [wi 22,xW 23 [.t 22,qi 3,qi 9],qf 24 23,wX 25 24 0,x9 26 24 .eql 25 (qi 12),xV 27 24 26,qf 21 27] (wY 21 2 (qi 2))))))) (qH (wE 2 (qi (-1)))))⟩
theorem sI:aw Try.prog fc=some bS:=by kernel_rfl
def ka:FK:=⟨13,[x8],xS (wE 2 qU) [wi 3,xW 4 [.t 3,wJ,qi 14],xH 5,wQ 6 5 0,xo 7 5 .neq 6 (qi 12),xY 8 5 7,qf 9 8,wQ 10 9 0,xo 11 9 .neq 10 (qi 13),xY 12 9 11,qf 2 12]⟩
theorem rS:aw Try.prog cL=some ka:=by kernel_rfl
def iF:AK:=wb [wU 4 1 1,qZ 6 [qy,qy,.nils,qy]] [wi 11,xZ 12 16 [(0,1,wJ),(1,1,wJ),xj 2 2,xj 3 3,xj 4 4,xj 5 5,xj 6 8,xj 7 9,xj 8 10,xj 9 13,xj 10 3,xj 11 6,xj 12 7,xj 13 11,xj 14 12,xj 15 14],yl 13 11 12,qf 7 13] (wb [x7 14,wi 15,qf 16 2,we 17 (wM 15 16),ww 18 [qy,qy,.nils,qy] [xP 14,wD 1 17],qZ 8 [qy,qy,.nils,qy],qT 4 8 18] (xM (x7 19) (xu 20 fc 19) 9 20) (xx [x7 21,wK 22 21 14] (wa 22 (qF [xg 23 4,qt 24 23,wg 25 24,wK 26 25 0] (wz 26 [wi 27,qf 28 2,we 29 (wM 27 28),xZ 30 1 [xP 29],ww 31 [qy,qy,.nils,qy] [xj 0 13,xj 1 (-1),wD 2 30],qT 4 6 31]) (qe [wi 32,xg 33 4,qt 34 33,wg 35 34,we 36 (wM 32 35),qp 37 3 8,xI 37 36] (.reg [xg 38 4,qt 39 38,qp 40 3 8,qt 41 40,wn 42 3 39 41,xg 43 42,qt 44 43,qf 9 44])))) (xx [x7 45,wK 46 45 1] (ya 46 [wi 47,xZ 48 7 [(0,1,qQ),(1,1,wJ),xj 2 2,xj 3 3,xj 4 15,xj 5 16,xj 6 255],yl 49 47 48,qp 50 3 8,xI 50 49]) (xx [x7 51,xu 52 cL 51,xX 53 52] (ya 53 [xG 54 8,qR 1 54 (qi (-1))]) (wN (xb 10) (xO 0 [qf 55 10,qf 56 9,wI 57 55 56] 57 0 1 (.reg [xp 60 8,wi 62,qf 63 2,qt 61 60,we 64 (wM 62 63),qP 60 61,xQ 65 1 xC 1 [xP 64],wR 66 1 8 61 65,xp 67 8,xI 67 66]) (qf 58 10) 59 58 1 10 59) [qX 68 4 8,qT 4 6 68])))))
def im:FK:=⟨69,[xK 6 4],(AK.whole iF)⟩
theorem tr:aw Try.prog iP=some im:=by kernel_rfl
def kz:FK:=⟨30,[.t 6],xU (xb 6) [xy 7,qf 8 2,xl 9 8 1,wI 10 7 9,qf 11 10,wQ 12 11 0,qK 13 11 (xE (xz 12 4)),xo 14 11 .gtr 13 qQ,xY 15 11 14] (wz 15 [xy 16,wG 17 16 1,wi 18,qf 19 2,xl 20 19 1,xy 21,wo 22 .sub 20 21,we 23 (wM 18 22),wo 24 .add 17 23,qf 6 24]) [wi 25,qf 26 2,xl 27 26 1,we 28 (wM 25 27),qb 29 (.bin .add wJ (.t 28)),qf 6 29]⟩
theorem zb:aw Try.prog fp=some kz:=by kernel_rfl
def iG:AK:=wb [wU 3 1 1,yk 4 qy qy] [wi 10,xZ 11 4 [(0,1,wJ),(1,1,qQ),xj 2 2,xj 3 3],yl 12 10 11,ww 13 (yj qy qy) [xP 12],yk 5 qy qy,qT 3 5 13] (wb [xg 14 5,wi 17,qt 15 14,wG 16 15 2,we 18 (xz 17 5),qP 14 15,wo 19 .add 16 18,xG 20 5,xI 20 19] [wi 21,xZ 22 6 [xj 0 3,xj 1 5,xj 2 2,(3,1,wJ),xj 4 7,xj 5 4],yl 23 21 22,qf 6 23] (wN (xb 7) (xO 0 [x7 24,xh 25,wI 26 24 25] 26 0 1 (qe [ww 29 [.nils,.nils,qy,qy,.nils] [],qZ 8 [.nils,.nils,qy,qy,.nils],qT 5 8 29] (xx [wi 30,xZ 31 5 [(0,1,wJ),xj 1 2,(2,1,qQ),xj 3 3,xj 4 4],yl 32 30 31,qf 9 32] (xN 2 [qf 33 9,yi 34 33 0] 34 2 3 (.reg [xG 37 8,wi 39,xG 41 5,qt 38 37,qX 40 1 3,qt 42 41,qn 43 iP [.t 39,.t 40,.t 42],qP 37 38,qL 44 4 [qy,qy,.nils,qy] 1 [wq 0 4 43],qP 37 38,wR 45 4 48 38 44,xG 46 8,xI 46 45]) (qf 35 9) (xl 36 35 1) 9 36) (wb [wi 47,xG 48 5,qt 49 48,we 50 (wM 47 49),qp 51 3 8,xI 51 50] [wi 52,xZ 53 5 [xj 0 2,(1,1,wJ),xj 2 2,(3,1,wJ),xj 4 3],yl 54 52 53,xp 55 8,xI 55 54] (xx [xh 56,wK 57 56 1,qf 58 57,wX 59 58 7,wX 60 58 6,x9 61 58 .sub 60 wJ,x9 62 58 .eql 59 (.t 61),wX 63 58 62,wQ 64 63 0,qK 65 63 (xE (xz 64 3)),xo 66 63 .gtr 65 qQ,qJ 67 58 (qN 63 (.t 66) qU),xV 68 58 67] (ya 68 [xp 69 8,qR 1 69 (qi 3)]) (xx [xp 70 8,qt 71 70] (.blk 4 (yh 73 71 1 72 73 (qu 72 (qe [qp 74 3 8,qR 1 74 qQ] (.reg [wi 75,x7 76,xh 77,qn 78 fp [.t 75,.t 76,.t 77],xZ 79 1 [xP 78],qp 80 4 8,xI 80 79])) (yh 82 71 2 81 82 (ya 81 [wi 83,x7 84,xh 85,qn 86 fp [.t 83,.t 84,.t 85],wi 87,x7 88,xh 89,qn 90 fp [.t 87,.t 88,.t 89],xZ 91 2 [xP 86,wD 1 90],qp 92 4 8,xI 92 91]))))) (.reg [xp 93 5,qt 94 93,qX 95 5 8,qL 96 5 [.nils,.nils,qy,qy,.nils] 1 [wq 0 5 95],wR 97 5 88 94 96,xp 98 5,xI 98 97])))))) (x7 27) 28 27 1 7 28) [qX 99 3 5,qT 3 4 99]))
def iq:FK:=⟨100,[xK 4 3],(AK.whole iG)⟩
theorem tm:aw Try.prog iM=some iq:=by kernel_rfl
def kH:FK:=⟨43,[xF],wb [wU 2 3 0,qc 4 xA] (xB (xZ 8 0 []) 5 8) (wN (xb 6) (xO 0 [xh 9,xp 10 2,qt 11 10,wg 12 11,wI 13 9 12] 13 0 1 (qe (xb 7) (xO 2 [x7 16,xp 17 2,qt 18 17,xh 19,wn 20 5 18 19,qp 21 4 20,qt 22 21,wg 23 22,wI 24 16 23] 24 2 3 (qe [xp 27 2,qt 28 27,xh 29,wn 30 5 28 29,qp 31 4 30,qt 32 31,x7 33,wn 34 1 32 33,qt 35 34,xy 36,wo 37 .eql 35 36] (wa 37 (qe [wZ 38,xh 39,xZ 40 1 [xP 39],wR 41 1 8 38 40,qf 5 41] (.exit 2)))) (x7 25) 26 25 1 7 26)) (xh 14) 15 14 1 6 15) (xB (wZ 42) 4 42))⟩
theorem rV:aw Try.prog bY=some kH:=by kernel_rfl
def iO:AK:=wb [qZ 2 xT] [ww 9 xT [],qZ 3 xT,xI 3 9] (xx [wi 10,xZ 11 4 [(0,1,wJ),xj 1 2,(2,1,wJ),xj 3 3],yl 12 10 11,qf 4 12] (xN 0 [xH 13,yi 14 13 0] 14 0 1 (.reg [xg 17 3,wi 19,qt 18 17,qX 20 1 3,wO 21 iM 19 20,qP 17 18,qL 22 3 (yj qy qy) 1 [wq 0 3 21],qP 17 18,wR 23 3 40 18 22,xg 24 3,xI 24 23]) (xH 15) (xl 16 15 1) 4 16) (wN [wi 25,xZ 26 4 [(0,1,qQ),(1,1,qQ),(2,1,wJ),xj 3 3],yl 27 25 26,qf 5 27] (xN 2 [wZ 28,yi 29 28 0] 29 2 3 (wb [xg 32 3,wi 34,xg 35 3,qt 33 32,qt 36 35,wg 37 36,we 38 (wM 34 37),qP 32 33,wn 39 3 33 38,qf 6 39] [wi 40,xh 41,qY 42 41,xp 43 42,qt 44 43,wg 45 44,we 46 (wM 40 45),qf 7 46] (qe [wi 47,xh 48,qY 49 48,xG 50 49,qt 51 50,we 52 (wM 47 51),ww 53 [qy,.nils] [xP 52],qZ 8 [qy,.nils],qT 2 8 53] (xx [xh 54,qY 55 54,qX 56 3 55,x7 57,wO 58 bY 56 57,wg 59 58,qc 60 qQ] (qV 4 (qe [wI 61 60 59] (.seq (wy 61 4) (wu 5 (.reg [xG 62 8,wi 64,xh 65,qY 66 65,xG 67 66,qt 63 62,qt 68 67,we 69 (wM 64 68),qP 62 63,xQ 70 1 xC 1 [xP 69],wR 71 1 8 63 70,xG 72 8,xI 72 71]) (xB (wG 73 60 1) 60 73))))) (qe [x7 74,yi 75 74 0] (ya 75 [xh 76,qY 77 76,xp 78 77,x7 80,xh 81,qY 82 81,xp 83 82,x7 85,qt 79 78,qt 84 83,wn 86 5 84 85,xg 87 86,qt 88 87,qX 89 2 8,qL 90 2 [qy,.nils] 1 [wq 0 2 89],qP 78 79,qP 83 84,qP 87 88,wR 91 2 32 88 90,qP 78 79,wn 92 5 79 80,xg 93 92,xI 93 91]))))) (wZ 30) (xl 31 30 1) 5 31) [qX 94 1 3,xI 2 94]))
def iN:FK:=⟨95,[xK 2 1],(AK.whole iO)⟩
theorem tf:aw Try.prog dj=some iN:=by kernel_rfl
def dw:AK:=qe [wU 1 5 0,qZ 2 [.nils,.nils,qy,qy,.nils]] (.cut (.ot (.one (wE 3 (.c .any)) (.one [xp 9 1] (.one [qp 11 3 1] (.one [qp 14 4 1] (.one [qt 10 9] (.one [qt 12 11] (.one [qt 15 14] (wl [qL 7 2 [qy,.nils] 0 [],ye,yg,qP 14 15] (wl [qL 8 4 [qy,qy,.nils,qy] 0 [],ye,yg,qP 14 15] (wW [xZ 13 0 [],ye,yg,qP 14 15] (wW [wR 16 1 8 13 15,ye,yg] (.one [ww 17 [.nils,.nils,qy,qy,.nils] [xP 7,wD 1 8,wD 2 10,wD 3 12,wD 4 16]] (wW [qZ 3 [.nils,.nils,qy,qy,.nils]] (wW [qT 5 3 17] .done))))) (wW [xZ 13 0 [],ye,yg,qP 14 15] (wl [qL 8 4 [qy,qy,.nils,qy] 0 [],ye,yg,qP 14 15] (wW [wR 16 1 8 13 15,ye,yg] (.one [ww 17 [.nils,.nils,qy,qy,.nils] [xP 7,wD 1 8,wD 2 10,wD 3 12,wD 4 16]] (wW [qZ 3 [.nils,.nils,qy,qy,.nils]] (wW [qT 5 3 17] .done)))) (wW [wR 16 1 8 13 15,ye,yg] (wW [qL 8 4 [qy,qy,.nils,qy] 0 [],ye,yg,qP 14 15] (.one [ww 17 [.nils,.nils,qy,qy,.nils] [xP 7,wD 1 8,wD 2 10,wD 3 12,wD 4 16]] (wW [qZ 3 [.nils,.nils,qy,qy,.nils]] (wW [qT 5 3 17] .done)))))))) (wl [qL 8 4 [qy,qy,.nils,qy] 0 [],ye,yg,qP 14 15] (wl [qL 7 2 [qy,.nils] 0 [],ye,yg,qP 14 15] (wW [xZ 13 0 [],ye,yg,qP 14 15] (wW [wR 16 1 8 13 15,ye,yg] (.one [ww 17 [.nils,.nils,qy,qy,.nils] [xP 7,wD 1 8,wD 2 10,wD 3 12,wD 4 16]] (wW [qZ 3 [.nils,.nils,qy,qy,.nils]] (wW [qT 5 3 17] .done))))) (wW [xZ 13 0 [],ye,yg,qP 14 15] (wl [qL 7 2 [qy,.nils] 0 [],ye,yg,qP 14 15] (wW [wR 16 1 8 13 15,ye,yg] (.one [ww 17 [.nils,.nils,qy,qy,.nils] [xP 7,wD 1 8,wD 2 10,wD 3 12,wD 4 16]] (wW [qZ 3 [.nils,.nils,qy,qy,.nils]] (wW [qT 5 3 17] .done)))) (wW [wR 16 1 8 13 15,ye,yg] (wW [qL 7 2 [qy,.nils] 0 [],ye,yg,qP 14 15] (.one [ww 17 [.nils,.nils,qy,qy,.nils] [xP 7,wD 1 8,wD 2 10,wD 3 12,wD 4 16]] (wW [qZ 3 [.nils,.nils,qy,qy,.nils]] (wW [qT 5 3 17] .done)))))))) (wW [xZ 13 0 [],ye,yg,qP 14 15] (wl [qL 7 2 [qy,.nils] 0 [],ye,yg,qP 14 15] (wl [qL 8 4 [qy,qy,.nils,qy] 0 [],ye,yg,qP 14 15] (wW [wR 16 1 8 13 15,ye,yg] (.one [ww 17 [.nils,.nils,qy,qy,.nils] [xP 7,wD 1 8,wD 2 10,wD 3 12,wD 4 16]] (wW [qZ 3 [.nils,.nils,qy,qy,.nils]] (wW [qT 5 3 17] .done)))) (wW [wR 16 1 8 13 15,ye,yg] (wW [qL 8 4 [qy,qy,.nils,qy] 0 [],ye,yg,qP 14 15] (.one [ww 17 [.nils,.nils,qy,qy,.nils] [xP 7,wD 1 8,wD 2 10,wD 3 12,wD 4 16]] (wW [qZ 3 [.nils,.nils,qy,qy,.nils]] (wW [qT 5 3 17] .done)))))) (wl [qL 8 4 [qy,qy,.nils,qy] 0 [],ye,yg,qP 14 15] (wl [qL 7 2 [qy,.nils] 0 [],ye,yg,qP 14 15] (wW [wR 16 1 8 13 15,ye,yg] (.one [ww 17 [.nils,.nils,qy,qy,.nils] [xP 7,wD 1 8,wD 2 10,wD 3 12,wD 4 16]] (wW [qZ 3 [.nils,.nils,qy,qy,.nils]] (wW [qT 5 3 17] .done)))) (wW [wR 16 1 8 13 15,ye,yg] (wW [qL 7 2 [qy,.nils] 0 [],ye,yg,qP 14 15] (.one [ww 17 [.nils,.nils,qy,qy,.nils] [xP 7,wD 1 8,wD 2 10,wD 3 12,wD 4 16]] (wW [qZ 3 [.nils,.nils,qy,qy,.nils]] (wW [qT 5 3 17] .done)))))) (wW [wR 16 1 8 13 15,ye,yg] (wl [qL 7 2 [qy,.nils] 0 [],ye,yg,qP 14 15] (wW [qL 8 4 [qy,qy,.nils,qy] 0 [],ye,yg,qP 14 15] (.one [ww 17 [.nils,.nils,qy,qy,.nils] [xP 7,wD 1 8,wD 2 10,wD 3 12,wD 4 16]] (wW [qZ 3 [.nils,.nils,qy,qy,.nils]] (wW [qT 5 3 17] .done)))) (wW [qL 8 4 [qy,qy,.nils,qy] 0 [],ye,yg,qP 14 15] (wW [qL 7 2 [qy,.nils] 0 [],ye,yg,qP 14 15] (.one [ww 17 [.nils,.nils,qy,qy,.nils] [xP 7,wD 1 8,wD 2 10,wD 3 12,wD 4 16]] (wW [qZ 3 [.nils,.nils,qy,qy,.nils]] (wW [qT 5 3 17] .done)))))))))))))))))))) (xx (xb 4) (xO 0 [xH 18,xg 19 1,qt 20 19,wg 21 20,wI 22 18 21] 22 0 1 (.reg [xg 25 3,xg 27 1,xH 29,xg 34 1,xH 36,qt 26 25,qt 28 27,wn 30 2 28 29,xg 31 30,qt 32 31,qt 35 34,wn 37 2 35 36,xG 38 37,qt 39 38,xZ 33 0 [],qP 25 26,qP 27 28,qP 31 32,qP 34 35,qP 38 39,wR 40 1 8 33 39,qP 25 26,qP 27 28,qP 31 32,ww 41 [qy,.nils] [xP 32,wD 1 40],qL 42 2 [qy,.nils] 1 [wq 0 2 41],qP 25 26,wR 43 2 32 26 42,xg 44 3,xI 44 43]) (xH 23) 24 23 1 4 24) (wN (xb 5) (xO 2 [wZ 45,xG 46 1,qt 47 46,wg 48 47,wI 49 45 48] 49 2 3 (qe [xG 52 1,qt 53 52,wZ 54,wn 55 4 53 54,qX 56 4 55,qZ 6 [qy,qy,.nils,qy],qT 4 6 56] (.reg [xG 57 3,xg 59 6,xG 61 6,xp 64 6,qp 67 3 6,qt 58 57,qt 60 59,qt 62 61,qt 65 64,qt 68 67,xZ 63 0 [],qP 57 58,qP 59 60,qP 61 62,qP 64 65,qP 67 68,wR 66 1 8 63 65,qP 57 58,qP 59 60,qP 61 62,qP 67 68,ww 69 [qy,qy,.nils,qy] [xP 60,wD 1 62,wD 2 66,wD 3 68],qL 70 4 [qy,qy,.nils,qy] 1 [wq 0 4 69],qP 57 58,wR 71 4 48 58 70,xG 72 3,xI 72 71])) (wZ 50) 51 50 1 5 51) [qX 73 5 3,qT 5 2 73])))
def dz:FK:=⟨74,[xK 2 5],(AK.whole dw)⟩
theorem md:aw Try.prog dA=some dz:=by kernel_rfl
def lI:FK:=⟨29,[xK 2 3],wb [wU 1 3 0,yk 2 qy qy] [xg 5 1,qt 6 5,xG 7 1,qt 8 7,ww 9 (yj qy qy) [xP 6,wD 1 8],yk 3 qy qy,qT 3 3 9] (wN (xb 4) (xO 0 [xH 10,xp 11 1,qt 12 11,wg 13 12,wI 14 10 13] 14 0 1 (.reg [xp 17 3,xp 19 1,xH 21,qt 18 17,qt 20 19,wn 22 5 20 21,qX 23 5 22,xu 24 dA 23,qP 17 18,qL 25 5 [.nils,.nils,qy,qy,.nils] 1 [wq 0 5 24],qP 17 18,wR 26 5 88 18 25,xp 27 3,xI 27 26]) (xH 15) 16 15 1 4 16) [qX 28 3 3,qT 3 2 28])⟩
theorem sT:aw Try.prog iB=some lI:=by kernel_rfl
def gQ:FK:=⟨25,[xK 2 1],wb [wU 1 1 0,qZ 2 xT] [ww 5 xT [],qZ 3 xT,xI 3 5] (wN (xb 4) (xO 0 [xH 6,xg 7 1,qt 8 7,wg 9 8,wI 10 6 9] 10 0 1 (.reg [xg 13 3,xg 15 1,xH 17,qt 14 13,qt 16 15,wn 18 3 16 17,qX 19 3 18,xu 20 iB 19,qP 13 14,qL 21 3 (yj qy qy) 1 [wq 0 3 20],qP 13 14,wR 22 3 40 14 21,xg 23 3,xI 23 22]) (xH 11) 12 11 1 4 12) [qX 24 1 3,xI 2 24])⟩
theorem nL:aw Try.prog dV=some gQ:=by kernel_rfl
def iD:AK:=wb [qZ 2 xT] [wi 7,xu 8 dj 7,xu 9 dV 8,qZ 3 xT,xI 3 9] (wb [xg 10 3,wi 12,xg 13 3,qt 11 10,qt 14 13,wg 15 14,we 16 (wM 12 15),qP 10 11,wn 17 3 11 16,qf 4 17] [xH 18,qY 19 18,xp 20 19,wi 22,xH 23,qY 24 23,xp 25 24,qt 21 20,qt 26 25,wg 27 26,we 28 (wM 22 27),qP 20 21,wn 29 5 21 28,qf 5 29] (qe [wi 30,xH 31,qY 32 31,xG 33 32,xH 35,qY 36 35,xp 37 36,qt 34 33,qt 38 37,wg 39 38,xZ 40 5 [xj 0 (-1),wD 1 34,wD 2 39,(3,1,qQ),(4,1,wJ)],yl 41 30 40,qf 6 41] (xx [wi 42,we 43 (xz 42 32)] (.blk 0 (yh 45 43 0 44 45 (qu 44 (.reg [wZ 46,wi 47,we 48 (xz 47 5),qY 49 46,xp 50 49,xI 50 48]) (yh 52 43 1 51 52 (qu 51 (qe [wZ 53,qY 54 53,qp 55 4 54,qt 56 55,wg 57 56,yi 58 57 0] (ya 58 [wZ 59,qY 60 59,qp 61 4 60,qt 62 61,xh 63,qb 64 (qG 1 62 qQ),xI 64 63])) (yh 66 43 2 65 66 (qu 65 (.reg [wZ 67,xh 68,qY 69 67,qp 70 3 69,xI 70 68]) (yh 72 43 3 71 72 (qu 71 (qe [wZ 73,qY 74 73,xG 75 74,qt 76 75,wg 77 76,yi 78 77 0] (ya 78 [wZ 79,qY 80 79,xG 81 80,qt 82 81,xh 83,qb 84 (qG 4 82 qQ),xG 85 84,xI 85 83])) (yh 87 43 4 86 87 (qu 86 (qe [wZ 88,qY 89 88,xG 90 89,qt 91 90,wg 92 91,yi 93 92 0] (ya 93 [wZ 94,qY 95 94,xG 96 95,wZ 98,qY 99 98,xG 100 99,xh 105,xQ 106 1 xC 1 [xP 105],qt 97 96,qt 101 100,qb 102 (qG 4 101 qQ),xp 103 102,qt 104 103,wR 107 1 8 104 106,qP 96 97,qb 108 (qG 4 97 qQ),xp 109 108,xI 109 107])) (yh 111 43 5 110 111 (qu 110 (.reg [wZ 112,wZ 113,qY 114 113,xg 115 114,qt 116 115,xh 117,xZ 118 1 [xP 117],ww 119 [qy,.nils] [(0,1,qQ),wD 1 118],qL 120 2 [qy,.nils] 1 [wq 0 2 119],wR 121 2 32 116 120,qY 122 112,xg 123 122,xI 123 121]) (yh 125 43 6 124 125 (qu 124 (.reg [xH 126,xH 127,qY 128 127,xg 129 128,wi 131,qt 130 129,we 132 (xz 131 2),qP 129 130,wo 133 .add 130 132,qY 134 126,xG 135 134,xI 135 133]) (yh 137 43 7 136 137 (wa 136 (qe [wZ 138,qY 139 138,xG 140 139,qt 141 140,wg 142 141,yi 143 142 0] (ya 143 [wZ 144,qY 145 144,xG 146 145,wi 148,xQ 149 1 xC 3 [xj 0 256,xj 1 (-1),(2,1,wJ)],qt 147 146,yl 150 148 149,qP 146 147,qb 151 (qG 4 147 qQ),qp 152 3 151,xI 152 150]))))))))))))))))))) (qH [qX 153 1 3,xI 2 153]))))
def ip:FK:=⟨154,[xK 2 1],(AK.whole iD)⟩
theorem sX:aw Try.prog iQ=some ip:=by kernel_rfl
def fx:FK:=⟨12,[xF],xS (wE 4 (.c wm)) [xy 5,wi 6,xy 7,wg 8 7,we 9 (wM 6 8),wn 10 1 5 9,qt 11 10,qf 4 11]⟩
theorem jG:aw Try.prog bx=some fx:=by kernel_rfl
def iK:FK:=⟨21,[xK 4 4],xU [qZ 4 [qy,qy,wm,.nils]] [xy 5,wg 6 5,wK 7 6 0,x7 8,wX 9 8 0,qJ 10 8 (xE (xz 9 3)),x9 11 8 .eql 10 qQ,xV 12 8 11] (wz 12 [wi 13,xZ 14 10 [(0,1,qQ),(1,1,wJ),xj 2 2,xj 3 3,xj 4 5,xj 5 7,xj 6 15,xj 7 16,xj 8 100,xj 9 255],yl 15 13 14,ww 16 [qy,qy,wm,.nils] [(0,1,wJ),wD 1 15],qT 4 4 16]) [wi 17,xy 18,wO 19 bx 17 18,ww 20 [qy,qy,wm,.nils] [xj 0 2,wD 2 19],qT 4 4 20]⟩
theorem tc:aw Try.prog eS=some iK:=by kernel_rfl
def eU:FK:=⟨47,[xK 6 4],qe [qZ 6 [qy,qy,wm,.nils]] (qF [qf 8 2,qC 9 .lss 8 2,qf 10 9,wX 11 10 0,qJ 12 10 (xE (xz 11 4)),x9 13 10 .eql 12 qQ,xV 14 10 13] (wz 14 [wi 15,xy 16,wO 17 eS 15 16,qT 4 6 17]) (qF [wi 18,we 19 (xz 18 7),wK 20 19 0] (wz 20 [wi 21,xZ 22 3 [xj 0 11,xj 1 12,xj 2 11],yl 23 21 22,wi 24,xy 25,qf 26 2,xl 27 26 1,qn 28 be [.t 24,.t 25,.t 27],qL 29 4 [qy,qy,wm,.nils] 1 [wq 0 4 28],ww 30 [qy,qy,wm,.nils] [xP 23,wD 3 29],qT 4 6 30]) (xS [wi 31,xZ 32 9 [xj 0 3,xj 1 3,xj 2 4,xj 3 5,xj 4 6,xj 5 7,xj 6 8,xj 7 9,xj 8 10],yl 33 31 32,qf 7 33] [x7 34,wi 35,xy 36,qf 37 2,xl 38 37 1,qn 39 be [.t 35,.t 36,.t 38],wi 40,xy 41,qf 42 2,xl 43 42 1,qn 44 be [.t 40,.t 41,.t 43],qL 45 4 [qy,qy,wm,.nils] 2 [wq 0 4 39,wq 4 4 44],ww 46 [qy,qy,wm,.nils] [xP 34,wD 3 45],qT 4 6 46])))⟩
theorem lN:aw Try.prog be=some eU:=by kernel_rfl
def gM:FK:=⟨99,[xK 4 4],wb [qZ 4 [qy,qy,wm,.nils]] [qc 5 (.c .any),wi 9,qY 10 9,xg 11 10,wi 13,qY 14 13,xp 15 14,xy 17,qt 12 11,qt 16 15,qn 18 be [.t 12,.t 16,.t 17],qZ 5 [qy,qy,wm,.nils],qT 4 5 18] (qF [wi 19,qY 20 19,xG 21 20,qt 22 21,wg 23 22,wK 24 23 0,qf 25 24,wX 26 25 0,qJ 27 25 (qz 26),xr 28 25 0 27,xk 29 25 28,qJ 30 25 (xE (xz 29 4)),x9 31 25 .gtr 30 qQ,xV 32 25 31] (wz 32 [qX 33 4 5,qT 4 4 33]) (wb [qc 6 (.c .any),wi 34,qY 35 34,xG 36 35,wi 38,qY 39 38,xg 40 39,wi 42,qY 43 42,xG 44 43,qt 37 36,qt 41 40,qt 45 44,wg 46 45,we 47 (wM 41 46),qP 36 37,wn 48 3 37 47,qX 49 3 48,yk 6 wm .nils,qT 3 6 49] [xg 50 6,qt 51 50,ww 52 [qy,qy,wm,.nils] [xj 0 13,wD 2 51],qZ 7 [qy,qy,wm,.nils],qT 4 7 52] (qF (xb 8) (xO 0 [qf 53 8,xG 54 6,qt 55 54,wg 56 55,wI 57 53 56] 57 0 1 (.reg [qp 60 3 7,wi 62,qY 63 62,xg 64 63,wi 66,qY 67 66,xp 68 67,qt 61 60,qt 65 64,qt 69 68,qn 70 be [.t 65,.t 69,qi 2],qP 60 61,xQ 71 4 [qy,qy,wm,.nils] 1 [wq 0 4 70],wR 72 4 56 61 71,qp 73 3 7,xI 73 72]) (qf 58 8) 59 58 1 8 59) (wN [wi 74,qY 75 74,xg 76 75,qt 77 76,we 78 (xz 77 2),wK 79 78 0] (wz 79 [qX 80 4 7,qT 4 4 80]) [wi 81,qY 82 81,xg 83 82,xQ 85 1 xC 4 [xj 0 3,xj 1 4,xj 2 8,xj 3 10],wi 88,qY 89 88,xg 90 89,wi 92,qY 93 92,xp 94 93,qt 84 83,qX 87 4 7,qt 91 90,qt 95 94,yl 86 84 85,qA (some 4) 7 87,qP 90 91,qP 94 95,qn 96 be [.t 91,.t 95,qi 2],qA (some 4) 7 87,qL 97 4 [qy,qy,wm,.nils] 2 [wq 0 4 87,wq 4 4 96],ww 98 [qy,qy,wm,.nils] [xP 86,wD 3 97],qT 4 4 98]))))⟩
theorem nk:aw Try.prog dO=some gM:=by kernel_rfl
def fK:FK:=⟨46,[x8],wb (wE 2 (.c wm)) [wi 3,wi 4,qY 5 4,qp 6 3 5,qt 7 6,wG 8 7 1,qY 9 3,qp 10 3 9,xI 10 8] (wN [wi 11,qY 12 11,xg 13 12,qt 14 13,we 15 (xz 14 9),wK 16 15 0,qf 17 16,wQ 18 17 0,qK 19 17 (qz 18),xm 20 17 2 19,wV 21 17 20,qK 22 17 (qW 21),xo 23 17 .gtr 22 qQ,xY 24 17 23] (wz 24 [wi 25,qY 26 25,xg 27 26,wi 29,qY 30 29,xp 31 30,qt 28 27,qt 32 31,wO 33 bx 28 32,qf 2 33]) [wi 34,qY 35 34,qp 36 3 35,wi 39,qY 40 39,qp 41 3 40,qt 37 36,qC 38 .rem 37 24,qt 42 41,qC 43 .rem 42 24,wG 44 43 1,qb 45 (.slStr (yn [97,98,99,100,101,103,104,105,106,107,108,109,110,112,113,114,115,116,117,118,119,120,121,122]) (some (.t 38)) (some (.t 44))),qf 2 45])⟩
theorem mw:aw Try.prog du=some fK:=by kernel_rfl
def eD:FK:=⟨24,[xK 4 5],wb [wU 3 4 1,qZ 4 [qy,wm,.nils,.nils,.nils]] (xM (wi 6) (xu 7 du 6) 5 7) (xS [wi 8,qL 9 1 [wm] 0 [],wi 10,qY 11 10,xp 12 11,qt 13 12,wR 14 1 16 9 13,wZ 15,qL 16 1 [wm] 1 [xP 15],wR 17 1 16 14 16,qY 18 8,xp 19 18,xI 19 17] [wZ 20,qX 21 4 3,qL 22 4 [qy,qy,wm,.nils] 1 [wq 0 4 21],ww 23 [qy,wm,.nils,.nils,.nils] [(0,1,wJ),wD 1 20,wD 2 22],qT 5 4 23])⟩
theorem je:aw Try.prog bW=some eD:=by kernel_rfl
def ig:FK:=⟨14,[xK 2 4],xS [qZ 2 [qy,qy,wm,.nils]] [wi 3,wi 5,qY 6 5,xg 7 6,xQ 9 1 xC 6 [xj 0 16,xj 1 16,xj 2 16,xj 3 8,xj 4 17,(5,1,qQ)],qt 8 7,xR 4 (xz 3 2),qP 7 8,yl 10 8 9,ww 11 [qy,qy,wm,.nils] [(0,1,wJ),wD 1 10],qL 12 4 [qy,qy,wm,.nils] 2 [wq 0 4 4,wq 4 4 11],ww 13 [qy,qy,wm,.nils] [xj 0 7,wD 3 12],qT 4 2 13]⟩
theorem mT:aw Try.prog cG=some ig:=by kernel_rfl
def dP:AK:=wb (wE 4 xA) [wi 9,wi 10,qY 11 10,xg 12 11,qt 13 12,xZ 14 5 [xj 0 2,xj 1 3,(2,1,wJ),(3,1,qQ),xj 4 5],yl 15 13 14,ww 16 [qy,qy,wm,.nils] [(0,1,wJ),wD 1 15],wO 17 bW 9 16,qZ 5 [qy,wm,.nils,.nils,.nils],qT 5 5 17] (wb [xG 18 5,qt 19 18,ww 20 [qy,qy,wm,.nils] [xj 0 2,wD 2 19],qZ 6 [qy,qy,wm,.nils],qT 4 6 20] [wi 21,xy 22,xl 23 22 1,wO 24 aN 21 23,qf 7 24] (qe [xG 25 5,qt 26 25,qX 27 4 6,ww 28 [qy,qy,wm,.nils] [(0,1,wJ),(1,1,wJ)],qL 29 4 [qy,qy,wm,.nils] 2 [wq 0 4 27,wq 4 4 28],ww 30 [qy,qy,wm,.nils] [xj 0 4,wD 3 29],qL 31 4 [qy,qy,wm,.nils] 1 [wq 0 4 30],ww 32 [qy,wm,.nils,.nils,.nils] [xj 0 2,wD 1 26,wD 2 31],qZ 8 [qy,wm,.nils,.nils,.nils],qT 5 8 32] (.cut (.reg [wi 33,wi 34,qY 35 34,qp 36 4 35,qt 37 36,xl 38 37 2,qY 39 33,qp 40 4 39,xI 40 38]) (qH [x7 44,qX 41 5 5,qX 42 4 6,xQ 43 4 [qy,qy,wm,.nils] 1 [wq 0 4 42],qX 45 5 8,xQ 46 5 [qy,wm,.nils,.nils,.nils] 1 [wq 0 5 45],wR 47 5 96 44 46,qA (some 5) 5 41,qA (some 4) 6 42,ww 48 [qy,wm,.nils,.nils,.nils] [xj 0 6,wD 2 43,wD 3 47],qL 49 5 [qy,wm,.nils,.nils,.nils] 2 [wq 0 5 41,wq 5 5 48],qf 4 49]))))
def dL:FK:=⟨50,[xF],(AK.whole dP)⟩
theorem nj:aw Try.prog dT=some dL:=by kernel_rfl
def gW:FK:=⟨128,[xF],wb (wE 4 xA) [wi 7,wi 8,qY 9 8,qp 10 4 9,qt 11 10,xl 12 11 1,qY 13 7,qp 14 4 13,xI 14 12] (qe [wi 15,qY 16 15,xg 17 16,qt 18 17,we 19 (xz 18 13),qf 5 19] (wd 0 (qe [wZ 21,qC 22 .lss 21 3,qf 23 22,wQ 24 23 0,qK 25 23 (qz 24),xm 26 23 2 25,wV 27 23 26,qK 28 23 (qW 27),xo 29 23 .gtr 28 qQ,xY 30 23 29,qf 20 30] (qu 20 (qH [wi 31,qY 32 31,xg 33 32,wi 35,qY 36 35,xp 37 36,wi 40,qt 34 33,qt 38 37,wO 39 bx 34 38,xR 41 (xz 40 3),qL 42 4 [qy,qy,wm,.nils] 1 [wq 0 4 41],ww 43 [qy,wm,.nils,.nils,.nils] [xj 0 2,wD 1 39,wD 2 42],qL 44 5 [qy,wm,.nils,.nils,.nils] 1 [wq 0 5 43],qf 4 44]) (qe (xM (wZ 46) (qC 47 .lss 46 5) 45 47) (qu 45 (qH [wi 48,wi 49,xR 50 (xz 49 3),wO 51 bW 48 50,qL 52 5 [qy,wm,.nils,.nils,.nils] 1 [wq 0 5 51],qf 4 52]) (qe [wZ 54,qC 55 .lss 54 7,qf 56 55,wX 57 56 1,x9 58 56 .lss 57 (qi 2),xV 59 56 58,qf 53 59] (qu 53 (qH [wi 60,xR 61 (xz 60 3),qL 62 4 [qy,qy,wm,.nils] 1 [wq 0 4 61],ww 63 [qy,wm,.nils,.nils,.nils] [xj 0 3,wD 2 62],qL 64 5 [qy,wm,.nils,.nils,.nils] 1 [wq 0 5 63],qf 4 64]) (qe (xM (wZ 66) (wK 67 66 7) 65 67) (qu 65 (qH [wi 68,xu 69 cG 68,wi 70,xR 71 (xz 70 2),qL 72 4 [qy,qy,wm,.nils] 2 [wq 0 4 69,wq 4 4 71],ww 73 [qy,wm,.nils,.nils,.nils] [xj 0 4,wD 2 72],qL 74 5 [qy,wm,.nils,.nils,.nils] 1 [wq 0 5 73],qf 4 74]) (qe (xM (wZ 76) (wK 77 76 8) 75 77) (qu 75 (qH [wi 78,xu 79 cG 78,qL 80 4 [qy,qy,wm,.nils] 1 [wq 0 4 79],ww 81 [qy,qy,wm,.nils] [xj 0 12,wD 3 80],qL 82 4 [qy,qy,wm,.nils] 1 [wq 0 4 81],ww 83 [qy,wm,.nils,.nils,.nils] [xj 0 3,wD 2 82],qL 84 5 [qy,wm,.nils,.nils,.nils] 1 [wq 0 5 83],qf 4 84]) (qe (xM (wZ 86) (qC 87 .lss 86 11) 85 87) (qu 85 (xU [wi 88,xR 89 (xz 88 3),qL 90 4 [qy,qy,wm,.nils] 1 [wq 0 4 89],wi 91,xy 92,xl 93 92 1,wO 94 aN 91 93,ww 95 [qy,wm,.nils,.nils,.nils] [xj 0 5,wD 2 90,wD 3 94],qZ 6 [qy,wm,.nils,.nils,.nils],qT 5 6 95] [wi 96,qY 97 96,xg 98 97,qt 99 98,we 100 (xz 99 2),wK 101 100 0] (ya 101 [wi 102,xy 103,xl 104 103 1,wO 105 aN 102 104,qp 106 4 6,xI 106 105]) (xM (qX 107 5 6) (qL 108 5 [qy,wm,.nils,.nils,.nils] 1 [wq 0 5 107]) 4 108)) (qe [wZ 110,wK 111 110 11,qf 112 111,wQ 113 112 0,qK 114 112 (qz 113),xm 115 112 0 114,wV 116 112 115,qK 117 112 (xE (xz 116 3)),xo 118 112 .eql 117 qQ,xY 119 112 118,qf 109 119] (wz 109 [wi 120,xR 121 (xz 120 2),qL 122 4 [qy,qy,wm,.nils] 1 [wq 0 4 121],ww 123 [qy,wm,.nils,.nils,.nils] [xj 0 7,wD 2 122],qL 124 5 [qy,wm,.nils,.nils,.nils] 1 [wq 0 5 123],qf 4 124])))))))))))))) (qH [wi 125,xy 126,wO 127 dT 125 126,qf 4 127])))⟩
theorem mR:aw Try.prog ep=some gW:=by kernel_rfl
def gd:FK:=⟨40,[xF],wb (wE 4 xA) [wi 8,qY 9 8,xp 10 9,qt 11 10,qf 5 11] (xJ (qL 12 5 [qy,wm,.nils,.nils,.nils] 0 []) 6 12 (qF [wi 13,qY 14 13,xg 15 14,qt 16 15,xZ 17 4 [xj 0 2,xj 1 3,(2,1,wJ),xj 3 4],yl 18 16 17,qf 7 18] (xN 0 [x7 19,yi 20 19 0,qf 21 20,wQ 22 21 0,qK 23 21 (qz 22),xm 24 21 4 23,wV 25 21 24,xo 26 21 .gtr 25 qQ,xY 27 21 26] 27 0 1 (.reg [xh 30,wi 31,xy 32,wO 33 ep 31 32,wR 34 5 96 30 33,qf 6 34]) (x7 28) (xl 29 28 1) 7 29) (xS [wi 35,wZ 36,qY 37 35,xp 38 37,xI 38 36] (xB (xh 39) 4 39))))⟩
theorem mb:aw Try.prog aN=some gd:=by kernel_rfl
def fv:AK:=wb [yk 6 wm .nils] [wi 8,qL 9 1 [wm] 3 [(0,1,yn [97]),(1,1,yn [98]),(2,1,yn [99])],qf 10 2,qb 11 (.slS 1 (.t 9) none (some (.t 10))),qY 12 8,xp 13 12,xI 13 11] (qe [wi 14,qf 15 2,xl 16 15 1,qY 17 14,qp 18 3 17,xI 18 16] (.cut (.reg [xy 19,qL 20 1 [wm] 0 [],wi 21,qY 22 21,xp 23 22,qt 24 23,wR 25 1 16 20 24,ww 26 (yj wm .nils) [xP 19,wD 1 25],yk 7 wm .nils,qT 3 7 26]) (xU [wi 27,qn 28 aN (xz 27 3),xp 29 7,xI 29 28] [wi 30,qY 31 30,qp 32 4 31,qt 33 32,yi 34 33 0,qf 35 34,wQ 36 35 0,qK 37 35 (qz 36),xm 38 35 0 37,wV 39 35 38,qK 40 35 (xE (xz 39 4)),xo 41 35 .gtr 40 qQ,xY 42 35 41] (wa 42 (qe [wi 43,wi 44,qY 45 44,qp 46 4 45,qt 47 46,xl 48 47 1,qY 49 43,qp 50 4 49,xI 50 48] (.reg [xp 51 7,wi 53,qt 52 51,xR 54 (xz 53 2),qP 51 52,xQ 55 4 [qy,qy,wm,.nils] 1 [wq 0 4 54],ww 56 [qy,wm,.nils,.nils,.nils] [xj 0 7,wD 2 55],xQ 57 5 [qy,wm,.nils,.nils,.nils] 1 [wq 0 5 56],wR 58 5 96 52 57,xp 59 7,xI 59 58]))) [qX 60 3 7,qT 3 6 60])))
def fy:FK:=⟨61,[xK 6 3],(AK.whole fv)⟩
theorem oW:aw Try.prog dt=some fy:=by kernel_rfl
def kb:FK:=⟨18,[xF],xU (xb 4) (xb 5) (xO 0 [wZ 6,wi 7,qb 8 (.len true (.t 7)),wI 9 6 8] 9 0 1 (qe [wi 12,wZ 13,qb 14 (.idxStr (.t 12) (.t 13)),xy 15,wo 16 .eql 14 15] (wz 16 (xB (wZ 17) 4 17))) (wZ 10) 11 10 1 5 11) (wE 4 (qi (-1)))⟩
theorem sA:aw Try.prog gb=some kb:=by kernel_rfl
def kf:FK:=⟨28,[x8],qe (xb 2) (wd 0 (qe [wi 4,qx 5 .geq 4 (.c (qd .u8 97)),wZ 6,wQ 7 6 0,xo 8 6 .leq 7 (.c (qd .u8 122)),xY 9 6 8,qf 3 9] (qu 3 (qH (wE 2 wJ)) (qe [wi 11,qx 12 .geq 11 (.c (qd .u8 48)),qf 13 12,wQ 14 13 0,xo 15 13 .leq 14 (.c (qd .u8 57)),xY 16 13 15,qf 10 16] (qu 10 (qH (wE 2 (qi 2))) (qe [wi 18,qn 19 gb [yn [40,41,123,125,59,44,43,45,42,47,37,60,61,38,33,64],.t 18],qC 20 .geq 19 0,qf 17 20] (qu 17 (qH (wE 2 (qi 3))) (qe [wi 22,qx 23 .eql 22 (.c (qd .u8 32)),qf 24 23,wX 25 24 0,x9 26 24 .eql 25 (.c (qd .u8 10)),xV 27 24 26,qf 21 27] (wY 21 2 (qi 4))))))))) (qH (xb 2)))⟩
theorem sk:aw Try.prog fX=some kf:=by kernel_rfl
def mQ:FK:=⟨21,[xF],xU (wE 4 qU) (xb 5) (xO 0 [wZ 6,wi 7,qb 8 (.len true (.t 7)),wI 9 6 8] 9 0 1 (qe [wi 12,wZ 13,qb 14 (.idxStr (.t 12) (.t 13)),xu 15 fX 14,xy 16,wo 17 .neq 15 16] (yb 17 4)) (wZ 10) 11 10 1 5 11) [wi 18,qb 19 (.len true (.t 18)),yi 20 19 0,qf 4 20]⟩
theorem uJ:aw Try.prog jx=some mQ:=by kernel_rfl
def jK:FK:=⟨2,[.t 0],xS (wE 0 xA) [qL 1 1 [wm] 9 [(0,1,yn [102,110]),(1,1,yn [108,101,116]),(2,1,yn [115,97,121]),(3,1,yn [112,117,116]),(4,1,yn [105,102]),(5,1,yn [101,108,115,101]),(6,1,yn [108,111,111,112]),(7,1,yn [98,97,99,107]),(8,1,yn [100,111])],xy 0]⟩
theorem pc:aw Try.prog dq=some jK:=by kernel_rfl
def nK:FK:=⟨18,[x8],wb (wE 2 qU) [qn 5 dq [],wZ 3] (wN (xb 4) (xO 0 [xH 6,ym 7,wg 8 7,wI 9 6 8] 9 0 1 (qe [ym 12,xH 13,wn 14 1 12 13,qt 15 14,wi 16,qb 17 (.bins .eql (.t 15) (.t 16))] (wY 17 2 wH)) (xH 10) 11 10 1 4 11) (wE 2 qU))⟩
theorem uN:aw Try.prog jq=some nK:=by kernel_rfl
def lH:FK:=⟨15,[x8],xS (wE 2 qU) [wi 3,qn 4 jx (wL 3 wJ),xH 5,wQ 6 5 0,qK 7 5 (.len true (.t 6)),xo 8 5 .leq 7 (qi 4),xY 9 5 8,qf 10 9,wQ 11 10 0,qK 12 10 (.call jq (xt 11)),qK 13 10 (wA 12),xY 14 10 13,qf 2 14]⟩
theorem tg:aw Try.prog bD=some lH:=by kernel_rfl
def ik:FK:=⟨5,[x8],xU (xb 2) [wi 3,wK 4 3 4] (wY 4 2 (qi 2)) (wE 2 wJ)⟩
theorem sU:aw Try.prog eX=some ik:=by kernel_rfl
def bT:FK:=⟨13,[x8,.t 3],xU [qc 2 qQ,qc 3 qQ] [wi 4] (.blk 0 (qF [wK 6 4 1,xh 5] (qu 5 .skip (.reg (xB (wK 7 4 2) 5 7))) (qu 5 (qH [qc 2 qQ,qc 3 qQ]) (qF (xB (wK 9 4 11) 8 9) (qu 8 .skip (.reg (xB (wK 10 4 12) 8 10))) (qu 8 (qH [qc 2 wJ,qc 3 wJ]) (yh 12 4 13 11 12 (wz 11 [qc 2 qQ,qc 3 (qi 3)]))))))) [qc 2 (qi 2),qc 3 (qi 2)]⟩
theorem th:aw Try.prog eQ=some bT:=by kernel_rfl
def eW:FK:=⟨86,[xF],wb [wU 2 4 0,qc 4 qU] [xg 10 2,qt 11 10,xu 12 eQ 11,qf 9 12,qb 13 (.ext 0 (.t 9)),qb 14 (.ext 1 (.t 9)),qf 5 13,qf 6 14] (qF [xy 15,qC 16 .lss 15 1,qf 17 16,xr 18 17 0 2,xk 19 17 18,qJ 20 17 (xe [.t 19,wJ,qi 13]),qJ 21 17 (wA 20),xV 22 17 21,qf 23 22,xr 24 23 3 2,xk 25 23 24,qJ 26 23 (qW 25),wX 27 23 5,wX 28 23 6,qJ 29 23 (xe [.t 26,.t 27,.t 28]),qJ 30 23 (wA 29),xV 31 23 30] (yb 31 4) (qe [xg 32 2,qt 33 32,wK 34 33 2,qf 35 34,xr 36 35 0 2,xk 37 35 36,x9 38 35 .eql 37 (qi 13),xV 39 35 38,qf 7 39] (qF [x7 40,xp 41 2,qt 42 41,xu 43 bD 42,qb 44 (.beq true (.t 40) (.t 43)),qf 45 44,wX 46 45 7,qJ 47 45 (wA 46),wX 48 45 47,xm 49 48 2 2,wV 50 48 49,qK 51 48 (.bins .neq (.t 50) (.c wm)),qJ 52 45 (qN 48 (.t 51) qU),xV 53 45 52,qf 54 53,xr 55 54 1 2,xk 56 54 55,qJ 57 54 (xe [.t 56,qQ,qi 255]),qJ 58 54 (wA 57),xV 59 54 58,qf 60 59,xr 61 60 0 2,xk 62 60 61,x9 63 60 .neq 62 wJ,wX 64 60 63,xm 65 64 1 2,wV 66 64 65,xo 67 64 .neq 66 qQ,qJ 68 60 (qN 64 (.t 67) qU),xV 69 60 68] (yb 69 4) (wN (xb 8) (xO 0 [qf 70 8,qp 71 3 2,qt 72 71,wg 73 72,wI 74 70 73] 74 0 1 (qe [qp 77 3 2,qt 78 77,qf 79 8,wn 80 4 78 79,qX 81 4 80,xy 82,xl 83 82 1,wO 84 dp 81 83,xX 85 84] (yb 85 4)) (qf 75 8) 76 75 1 8 76) (wE 4 wH)))))⟩
theorem lL:aw Try.prog dp=some eW:=by kernel_rfl
def kC:FK:=⟨21,[x8],wb [wU 1 4 0,qc 2 qQ] (wE 3 wJ) (wN (xb 4) (xO 0 [xH 5,qp 6 3 1,qt 7 6,wg 8 7,wI 9 5 8] 9 0 1 (.reg [ym 12,qp 13 3 1,qt 14 13,xH 15,wn 16 4 14 15,qX 17 4 16,xu 18 eg 17,wo 19 .add 12 18,qf 3 19]) (xH 10) 11 10 1 4 11) (xB (ym 20) 2 20))⟩
theorem sC:aw Try.prog eg=some kC:=by kernel_rfl
def jn:FK:=⟨10,[x8],xS [wU 1 4 0,qc 2 qU] [qX 3 4 1,qn 4 dp (xz 3 6),xH 5,qK 6 5 (qk (some 4) 1),qK 7 5 (.call eg (xt 6)),xo 8 5 .leq 7 (qi 30),xY 9 5 8,qf 2 9]⟩
theorem ov:aw Try.prog cY=some jn:=by kernel_rfl
def eT:FK:=⟨108,[xF],qe [wU 2 5 0,qc 4 qU] (qF [xy 7,qC 8 .lss 7 1,qf 9 8,xr 10 9 0 2,xk 11 9 10,qJ 12 9 (xe [.t 11,wJ,qi 8]),qJ 13 9 (wA 12),xV 14 9 13,qf 15 14,xr 16 15 2 2,xr 19 15 0 2,xk 17 15 16,qJ 18 15 (qW 17),xk 20 15 19,qJ 21 15 (.qcall eX (xt 20)),x9 22 15 .neq 18 (.t 21),xV 23 15 22] (yb 23 4) (qe [xg 24 2,qt 25 24,wK 26 25 1,qf 27 26,xr 28 27 0 2,xk 29 27 28,x9 30 27 .eql 29 (qi 2),xV 31 27 30,qf 5 31] (qF [wZ 32,xG 33 2,qt 34 33,xu 35 bD 34,qb 36 (.beq true (.t 32) (.t 35)),qf 37 36,wX 38 37 5,qJ 39 37 (wA 38),wX 40 37 39,xm 41 40 1 2,wV 42 40 41,qK 43 40 (.bins .neq (.t 42) (.c wm)),qJ 44 37 (qN 40 (.t 43) qU),xV 45 37 44] (yb 45 4) (qF (xb 6) (xO 0 [xh 46,xp 47 2,qt 48 47,wg 49 48,wI 50 46 49] 50 0 1 (qe [xp 53 2,qt 54 53,xh 55,wn 56 4 54 55,qX 57 4 56,xu 58 cY 57,xX 59 58] (yb 59 4)) (xh 51) 52 51 1 6 52) (qF [xg 60 2,qt 61 60,wK 62 61 8,qf 63 62,xm 64 63 2 2,wV 65 63 64,qK 66 63 (qG 4 65 qQ),xm 67 63 0 66,wV 68 63 67,xo 69 63 .neq 68 (qi 13),xY 70 63 69] (yb 70 4) (wN [qp 71 4 2,qt 72 71,wg 73 72,yi 74 73 0,qf 75 74,xm 76 75 0 2,wV 77 75 76,xo 78 75 .neq 77 (qi 5),xY 79 75 78,qf 80 79,xr 81 80 3 2,xk 82 80 81,qJ 83 80 (qW 82),x9 84 80 .gtr 83 qQ,wX 85 80 84,xm 86 85 0 2,wV 87 85 86,xo 88 85 .neq 87 (qi 5),qJ 89 80 (qN 85 (.t 88) qU),wX 90 80 89,xm 91 90 0 2,wV 92 90 91,xo 93 90 .neq 92 (qi 6),qJ 94 80 (qN 90 (.t 93) qU),xV 95 80 94] (yb 95 4) [qp 96 3 2,qt 97 96,xy 98,xl 99 98 1,wO 100 bp 97 99,qf 101 100,xm 102 101 4 2,wV 103 101 102,wQ 104 101 1,xo 105 101 .sub 104 wJ,qK 106 101 (.call bp (wM 103 105)),xY 107 101 106,qf 4 107]))))))⟩
theorem lz:aw Try.prog eR=some eT:=by kernel_rfl
def kI:FK:=⟨19,[xF],xU (wE 4 qU) (xb 5) (xO 0 [wZ 6,wi 7,wg 8 7,wI 9 6 8] 9 0 1 (qe [wi 12,wZ 13,wn 14 5 12 13,qX 15 5 14,xy 16,wO 17 eR 15 16,xX 18 17] (yb 18 4)) (wZ 10) 11 10 1 5 11) (wE 4 wH)⟩
theorem pU:aw Try.prog bp=some kI:=by kernel_rfl
def oS:FK:=⟨32,[x8],xU [wU 1 3 0,qc 2 qU] (xb 3) (xO 0 [ym 4,xG 5 1,qt 6 5,wg 7 6,wI 8 4 7] 8 0 1 (qe [xG 11 1,qt 12 11,ym 13,wn 14 1 12 13,qt 15 14,xu 16 bD 15,xX 17 16] (yb 17 2)) (ym 9) 10 9 1 3 10) [xg 18 1,qt 19 18,xu 20 bD 19,qf 21 20,xm 22 21 1 1,wV 23 21 22,qK 24 21 (qW 23),xo 25 21 .leq 24 (qi 3),xY 26 21 25,qf 27 26,xm 28 27 2 1,wV 29 27 28,qK 30 27 (.call bp (xz 29 4)),xY 31 27 30,qf 2 31]⟩
theorem vt:aw Try.prog kO=some oS:=by kernel_rfl
def fQ:FK:=⟨29,[x8],wb (xb 2) [wi 5,wg 6 5,xh 3] (wN (xb 4) (xO 0 [xH 7,wi 8,wg 9 8,wI 10 7 9] 10 0 1 (.reg [ym 13,wi 14,xH 15,wn 16 5 14 15,qp 17 3 16,wi 21,xH 22,wn 23 5 21 22,qp 24 4 23,qt 18 17,qt 25 24,xu 19 cR 18,qP 24 25,wo 20 .add 13 19,xu 26 cR 25,wo 27 .add 20 26,qf 3 27]) (xH 11) 12 11 1 4 12) (xB (ym 28) 2 28))⟩
theorem kx:aw Try.prog cR=some fQ:=by kernel_rfl
def nN:FK:=⟨22,[x8],wb [wU 1 1 0,qc 2 qQ] (xb 3) (wN (xb 4) (xO 0 [xH 5,xg 6 1,qt 7 6,wg 8 7,wI 9 5 8] 9 0 1 (.reg [ym 12,xg 13 1,qt 14 13,xH 15,wn 16 3 14 15,xp 17 16,qt 18 17,xu 19 cR 18,wo 20 .add 12 19,qf 3 20]) (xH 10) 11 10 1 4 11) (xB (ym 21) 2 21))⟩
theorem uE:aw Try.prog jE=some nN:=by kernel_rfl
def fC:FK:=⟨26,[x8],qe [wU 1 1 0,qc 2 qU] (qF [xg 4 1,qt 5 4,wg 6 5,xW 7 [.t 6,wJ,qi 4],xX 8 7] (yb 8 2) (wN (xb 3) (xO 0 [ym 9,xg 10 1,qt 11 10,wg 12 11,wI 13 9 12] 13 0 1 (qe [xg 16 1,qt 17 16,ym 18,wn 19 3 17 18,qX 20 3 19,xu 21 kO 20,xX 22 21] (yb 22 2)) (ym 14) 15 14 1 3 15) [qX 23 1 1,xu 24 jE 23,qC 25 .leq 24 40,qf 2 25]))⟩
theorem ll:aw Try.prog de=some fC:=by kernel_rfl
def lw:FK:=⟨69,[xK 2 1],wb [qZ 2 xT] [wi 8,wi 9,xZ 10 4 [xj 0 14,xj 1 20,xj 2 8,xj 3 26],yl 11 9 10,ww 12 [.nilp,.nils,.nils,qy,qy] [xP 8,wD 4 11],wU 13 5 12,qf 3 13] (qF [wi 14,xZ 15 4 [(0,1,qQ),(1,1,wJ),(2,1,wJ),xj 3 2],yl 16 14 15,qf 4 16] (xN 0 [xH 17,yi 18 17 0] 18 0 1 (qe [qc 5 (.c .any),ym 21,xQ 22 1 [wm] 3 [(0,1,yn [102]),(1,1,yn [103]),(2,1,yn [104])],ym 23,qY 24 23,xG 25 24,wi 30,qt 26 25,wg 27 26,wn 28 1 22 27,qt 29 28,we 31 (xz 30 3),qP 25 26,qP 28 29,qn 32 dt [.t 21,.t 29,.t 31],yk 5 wm .nils,qT 3 5 32] (.reg [ym 33,ym 34,qY 35 34,xG 36 35,qt 37 36,qX 38 3 5,xQ 39 3 (yj wm .nils) 1 [wq 0 3 38],wR 40 3 64 37 39,qY 41 33,xG 42 41,xI 42 40])) (xH 19) (xl 20 19 1) 4 20) (wb [ym 43,wi 44,xZ 45 4 [(0,1,qQ),(1,1,wJ),xj 2 2,(3,1,wJ)],yl 46 44 45,qn 47 dt [.t 43,yn [109],.t 46],yk 6 wm .nils,qT 3 6 47] [qc 7 (.c .any),ym 49,qY 50 49,xG 51 50,qt 52 51,qX 54 3 6,xQ 55 3 (yj wm .nils) 1 [wq 0 3 54],qL 48 3 (yj wm .nils) 0 [],qP 51 52,qA (some 3) 6 54,wR 53 3 64 48 52,qA (some 3) 6 54,wR 56 3 64 53 55,ww 57 xT [xP 56],qZ 7 xT,xI 7 57] (wN [qX 58 1 7,xu 59 de 58,xX 60 59] (wz 60 [ww 61 [qy,qy,wm,.nils] [(0,1,wJ),(1,1,wJ)],qL 62 4 [qy,qy,wm,.nils] 1 [wq 0 4 61],ww 63 [qy,wm,.nils,.nils,.nils] [xj 0 3,wD 2 62],qL 64 5 [qy,wm,.nils,.nils,.nils] 1 [wq 0 5 63],ww 65 (yj wm .nils) [(0,1,yn [109]),wD 2 64],qL 66 3 (yj wm .nils) 1 [wq 0 3 65],ww 67 xT [xP 66],xI 2 67]) [qX 68 1 7,xI 2 68])))⟩
theorem sM:aw Try.prog eV=some lw:=by kernel_rfl
def jU:FK:=⟨4,[x8],xU (xb 2) [wi 3] (wY 3 2 wJ) (xb 2)⟩
theorem rU:aw Try.prog gf=some jU:=by kernel_rfl
def il:FK:=⟨35,[x8],wb (xb 2) (xb 3) (wN (xb 4) (xO 0 [xH 5,wi 6,wg 7 6,wI 8 5 7] 8 0 1 (.reg [ym 11,wi 12,xH 13,wn 14 5 12 13,xg 15 14,wi 20,xH 21,wn 22 5 20 21,qp 23 3 22,wi 27,xH 28,wn 29 5 27 28,qp 30 4 29,qt 16 15,wK 17 16 1,qt 24 23,qt 31 30,xu 18 gf 17,qP 23 24,qP 30 31,wo 19 .add 11 18,xu 25 dk 24,qP 30 31,wo 26 .add 19 25,xu 32 dk 31,wo 33 .add 26 32,qf 3 33]) (xH 9) 10 9 1 4 10) (xB (ym 34) 2 34))⟩
theorem lP:aw Try.prog dk=some il:=by kernel_rfl
def dD:FK:=⟨25,[x8],wb (xb 2) [wi 3,wi 4,qY 5 4,xG 6 5,xp 7 6,qt 8 7,qL 9 2 [qy,.nils] 0 [],qL 10 4 [qy,qy,.nils,qy] 0 [],xZ 11 0 [],ww 12 [.nils,.nils,qy,qy,.nils] [xP 9,wD 1 10,wD 4 11],qL 13 5 [.nils,.nils,qy,qy,.nils] 1 [wq 0 5 12],wR 14 5 88 8 13,qY 15 3,xG 16 15,xp 17 16,xI 17 14] (qH [wi 18,qY 19 18,xG 20 19,xp 21 20,qt 22 21,wg 23 22,xl 24 23 1,qf 2 24])⟩
theorem gz:aw Try.prog bH=some dD:=by kernel_rfl
def ic:FK:=⟨37,[],wb [wi 11,qY 12 11,xG 13 12,xp 14 13,wi 16,qY 17 16,qp 18 4 17,qt 15 14,qt 19 18,wn 20 5 15 19,qf 10 20] [qf 21 10,xy 22,qY 23 21,xp 24 23,xI 24 22] (wb [qf 25 10,qf 26 2,qY 27 25,qp 28 3 27,xI 28 26] [qf 29 10,ym 30,qY 31 29,qp 32 4 31,xI 32 30] (.reg [wi 33,xH 34,qY 35 33,qp 36 4 35,xI 36 34]))⟩
theorem mN:aw Try.prog bj=some ic:=by kernel_rfl
def fP:FK:=⟨19,[x8],wb (xb 2) [wi 3,wi 4,qY 5 4,xG 6 5,xG 7 6,qt 8 7,wG 9 8 1,qY 10 3,xG 11 10,xG 12 11,xI 12 9] (qH [wi 13,qY 14 13,xG 15 14,xG 16 15,qt 17 16,xl 18 17 1,qf 2 18])⟩
theorem lY:aw Try.prog bn=some fP:=by kernel_rfl
def eN:FK:=⟨37,[.t 10],wb (xb 10) [wi 12,qY 13 12,xG 14 13,xp 15 14,wi 17,qY 18 17,qp 19 4 18,qt 16 15,qt 20 19,wn 21 5 16 20,qf 11 21] (xS [qf 22 11,qf 23 11,qY 24 23,xG 25 24,qt 26 25,xy 27,qf 28 2,xH 29,ym 30,ww 31 [qy,qy,.nils,qy] [xP 27,wD 1 28,wD 2 29,wD 3 30],qL 32 4 [qy,qy,.nils,qy] 1 [wq 0 4 31],wR 33 4 48 26 32,qY 34 22,xG 35 34,xI 35 33] (xB (qf 36 2) 10 36))⟩
theorem oC:aw Try.prog bF=some eN:=by kernel_rfl
def eL:FK:=⟨34,[xF],xU (xb 4) [wi 6,qY 7 6,qp 8 5 7,qt 9 8,wg 10 9,xl 11 10 1,qf 5 11] (xN 0 [wZ 12,qC 13 .geq 12 0] 13 0 1 (qe [wi 16,qY 17 16,qp 18 5 17,qt 19 18,wZ 20,wn 21 3 19 20,xg 22 21,qt 23 22,xy 24,qb 25 (.bins .eql (.t 23) (.t 24))] (wz 25 [wi 26,qY 27 26,qp 28 5 27,qt 29 28,wZ 30,wn 31 3 29 30,xG 32 31,qt 33 32,qf 4 33])) (wZ 14) (xl 15 14 1) 5 15) (wE 4 (qi (-1)))⟩
theorem oa:aw Try.prog cW=some eL:=by kernel_rfl
def iV:FK:=⟨56,[xF],wb [wU 3 4 1,qc 4 qQ] [wi 11,qp 12 3 3,qt 13 12,qb 14 (qG 4 13 qQ),qX 15 4 14,wO 16 aU 11 15,qf 5 16] (wb [wi 17,wi 18,xL 19 18,xZ 20 0 [],xc 21 [.t 17,wJ,.t 19,qQ,.t 20],qf 6 21] (xM (wi 22) (xq 23 (xt 22)) 7 23) (wb (xM (wi 24) (xq 25 (xt 24)) 8 25) [wi 26,wZ 27,x7 28,qf 29 8,xZ 30 2 [xP 28,wD 1 29],x7 31,xv 32 [.t 26,qi 2,.t 27,.t 30,.t 31]] (wb [wi 33,qp 34 3 3,qt 35 34,qb 36 (qG 4 35 wJ),qX 37 4 36,wO 38 aU 33 37,qf 9 38] [wi 39,wi 40,xL 41 40,qf 42 9,xZ 43 1 [xP 42],xc 44 [.t 39,qi 10,.t 41,qQ,.t 43],qf 10 44] (wb [wi 45,xh 46,qf 47 10,xZ 48 1 [xP 47],xc 49 [.t 45,qi 10,.t 46,qQ,.t 48]] [wi 50,qf 51 8,xZ 52 1 [xP 51],qf 53 8,xv 54 [.t 50,wJ,qQ,.t 52,.t 53]] (qH (xB (xh 55) 4 55))))))⟩
theorem nS:aw Try.prog eP=some iV:=by kernel_rfl
def oE:FK:=⟨22,[xF],xU [wU 2 1 0,qc 4 qQ] (xb 5) (xO 0 [wZ 6,xg 7 2,qt 8 7,wg 9 8,wI 10 6 9] 10 0 1 (qe [xg 13 2,qt 14 13,wZ 15,wn 16 3 14 15,xg 17 16,qt 18 17,xy 19,qb 20 (.bins .eql (.t 18) (.t 19))] (wz 20 (xB (wZ 21) 4 21))) (wZ 11) 12 11 1 5 12) (wE 4 (qi (-1)))⟩
theorem yR:aw Try.prog kg=some oE:=by kernel_rfl
def bQ:FK:=⟨84,[xF],qe [wU 3 4 1,qc 4 qQ] (qF [xg 7 3,qt 8 7] (.blk 0 (yh 10 8 1 9 10 (qu 9 (qH [wi 11,wi 12,xG 14 3,xQ 16 1 xC 0 [],qt 15 14,xL 13 12,qP 14 15,xc 17 [.t 11,wJ,.t 13,.t 15,.t 16],qf 4 17]) (yh 19 8 2 18 19 (qu 18 (qH [wi 20,xp 21 3,qt 22 21,wO 23 cW 20 22,qf 4 23]) (yh 25 8 10 24 25 (wz 24 [wi 26,qX 27 4 3,wO 28 eP 26 27,qf 4 28]))))))) (xJ (xZ 29 0 []) 5 29 (qF (xb 6) (xO 1 [xh 30,qp 31 3 3,qt 32 31,wg 33 32,wI 34 30 33] 34 1 2 (.reg [wZ 37,wi 38,qp 39 3 3,qt 40 39,xh 41,wn 42 4 40 41,qX 43 4 42,wO 44 aU 38 43,xZ 45 1 [xP 44],wR 46 1 8 37 45,qf 5 46]) (xh 35) 36 35 1 6 36) (wN [xg 47 3,qt 48 47] (.blk 3 (yh 50 48 11 49 50 (qu 49 (qH [wi 51,wi 52,xL 53 52,wZ 54,xc 55 [.t 51,qi 10,.t 53,qQ,.t 54],qf 4 55]) (yh 57 48 12 56 57 (qu 56 (qH [wi 58,wi 59,xL 60 59,wZ 61,xc 62 [.t 58,qi 11,.t 60,qQ,.t 61],qf 4 62]) (yh 64 48 13 63 64 (wz 63 [wi 65,wi 66,wi 68,qY 69 68,xg 70 69,xp 72 3,wZ 75,qX 71 1 70,qt 73 72,xL 67 66,qA (some 1) 70 71,qP 72 73,wO 74 kg 71 73,xc 76 [.t 65,qi 14,.t 67,.t 74,.t 75],qf 4 76]))))))) [wi 77,xg 78 3,wi 80,wZ 82,qt 79 78,xL 81 80,qP 78 79,xc 83 [.t 77,.t 79,.t 81,qQ,.t 82],qf 4 83]))))⟩
theorem mW:aw Try.prog aU=some bQ:=by kernel_rfl
def gR:FK:=⟨41,[],wb [wU 3 5 1] (xM (wi 8) (xq 9 (xt 8)) 4 9) (wb (xM (wi 10) (xq 11 (xt 10)) 5 11) (xM (wi 12) (xq 13 (xt 12)) 6 13) (wb [wi 14,xH 15,xZ 16 1 [xP 15],xH 17,xv 18 [.t 14,wJ,qQ,.t 16,.t 17]] [wi 19,xp 20 3,qt 21 20,qb 22 (qG 4 21 qQ),qX 23 4 22,wO 24 aU 19 23,qf 7 24] (wb [wi 25,x7 26,wZ 27,xh 28,xZ 29 2 [xP 27,wD 1 28],wZ 30,xv 31 [.t 25,qi 2,.t 26,.t 29,.t 30]] [wi 32,qp 33 3 3,qt 34 33,wO 35 aX 32 34] (.reg [wi 36,xH 37,xZ 38 1 [xP 37],xh 39,xv 40 [.t 36,wJ,qQ,.t 38,.t 39]]))))⟩
theorem mA:aw Try.prog dQ=some gR:=by kernel_rfl
def dM:FK:=⟨132,[],qe [wU 3 5 1] (qF [xg 9 3,qt 10 9,wK 11 10 6] (wz 11 [wi 12,qX 13 5 3,wO 14 dQ 12 13]) (xJ (xZ 15 0 []) 4 15 (qF (xb 5) (xO 0 [wZ 16,xp 17 3,qt 18 17,wg 19 18,wI 20 16 19] 20 0 1 (.reg [xH 23,wi 24,xp 25 3,qt 26 25,wZ 27,wn 28 4 26 27,qX 29 4 28,wO 30 aU 24 29,xZ 31 1 [xP 30],wR 32 1 8 23 31,qf 4 32]) (wZ 21) 22 21 1 5 22) (qe [xg 33 3,qt 34 33] (.blk 2 (yh 36 34 1 35 36 (qu 35 (wb [wi 37,wi 38,qY 39 38,qp 40 6 39,qt 41 40,xH 42,xc 43 [.t 37,qi 2,.t 41,qQ,.t 42]] [wi 44,wi 45,qY 46 45,qp 47 5 46,xG 49 3,wi 51,qY 52 51,qp 53 6 52,qt 48 47,qt 50 49,qt 54 53,ww 55 [wm,qy,qy] [xP 50,wD 1 54,(2,1,qQ)],xQ 56 3 [wm,qy,qy] 1 [wq 0 3 55],wR 57 3 32 48 56,qY 58 44,qp 59 5 58,xI 59 57] (.reg [wi 60,wi 61,qY 62 61,qp 63 6 62,qt 64 63,wG 65 64 1,qY 66 60,qp 67 6 66,xI 67 65])) (yh 69 34 2 68 69 (qu 68 (.reg [wi 70,wi 71,xG 72 3,qt 73 72,wO 74 cW 71 73,xH 75,xc 76 [.t 70,qi 2,.t 74,qQ,.t 75]]) (yh 78 34 3 77 78 (qu 77 (.reg [wi 79,xH 80,xc 81 [.t 79,qi 13,qi (-1),qQ,.t 80]]) (yh 83 34 4 82 83 (qu 82 (.reg [wi 84,xH 85,xc 86 [.t 84,qi 12,qi (-1),qQ,.t 85]]) (yh 88 34 7 87 88 (qu 87 (.reg [wi 89,xH 90,qb 91 (qG 1 90 qQ),xQ 93 1 xC 0 [],wi 94,qt 92 91,xq 95 (xt 94),qP 91 92,xv 96 [.t 89,qi 3,.t 92,.t 93,.t 95]]) (yh 98 34 5 97 98 (wa 97 (wb (xM (wi 99) (xq 100 (xt 99)) 6 100) (xM (wi 101) (xq 102 (xt 101)) 7 102) (wb (xM (wi 103) (xq 104 (xt 103)) 8 104) [wi 105,xH 106,qb 107 (qG 1 106 qQ),qt 108 107,xh 109,x7 110,xZ 111 2 [xP 109,wD 1 110],xh 112,xv 113 [.t 105,qi 2,.t 108,.t 111,.t 112]] (wb [wi 114,qp 115 3 3,qt 116 115,wO 117 aX 114 116] [wi 118,qf 119 8,xZ 120 1 [xP 119],x7 121,xv 122 [.t 118,wJ,qQ,.t 120,.t 121]] (qe [wi 123,qp 124 4 3,qt 125 124,wO 126 aX 123 125] (.reg [wi 127,qf 128 8,xZ 129 1 [xP 128],qf 130 8,xv 131 [.t 127,wJ,qQ,.t 129,.t 130]]))))))))))))))))))))))⟩
theorem mM:aw Try.prog dN=some dM:=by kernel_rfl
def dF:FK:=⟨32,[],qe [wi 6,qY 7 6,qp 8 5 7,qt 9 8,wg 10 9,qf 4 10] (qF (xb 5) (xO 0 [wZ 11,xy 12,wg 13 12,wI 14 11 13] 14 0 1 (.reg [wi 17,xy 18,wZ 19,wn 20 5 18 19,qX 21 5 20,wO 22 dN 17 21]) (wZ 15) 16 15 1 5 16) (.reg [wi 23,wi 24,qY 25 24,qp 26 5 25,qt 27 26,xH 28,qb 29 (.slS 3 (.t 27) none (some (.t 28))),qY 30 23,qp 31 5 30,xI 31 29]))⟩
theorem mm:aw Try.prog aX=some dF:=by kernel_rfl
def oD:FK:=⟨80,[xK 4 3],wb [wU 2 1 0,yk 4 qy qy] [xg 9 2,qt 10 9,xy 11,wn 12 3 10 11,qX 13 3 12,yk 5 wm .nils,qT 3 5 13] (wb [qX 14 1 2,xG 15 5,qt 16 15,wg 17 16,ww 18 [.nils,qy,qy,.nils,qy,.nils,qy,.nils] [xP 14,wD 6 17],wU 19 8 18,qf 6 19] [xh 20,xG 21 5,qt 22 21,wg 23 22,qY 24 20,xG 25 24,xg 26 25,xI 26 23] (qe [xh 27,xG 28 5,xp 31 5,qt 29 28,wg 30 29,qt 32 31,xu 33 dk 32,qP 28 29,wo 34 .add 30 33,qY 35 27,xG 36 35,xG 37 36,xI 37 34] (qF (xb 7) (xO 0 [x7 38,xG 39 5,qt 40 39,wg 41 40,wI 42 38 41] 42 0 1 (.reg [xh 45,xh 46,qY 47 46,qp 48 5 47,xG 50 5,x7 52,x7 55,qt 49 48,qt 51 50,wn 53 1 51 52,qt 54 53,ww 56 [wm,qy,qy] [xP 54,wD 1 55,(2,1,qQ)],xQ 57 3 [wm,qy,qy] 1 [wq 0 3 56],wR 58 3 32 49 57,qY 59 45,qp 60 5 59,xI 60 58]) (x7 43) 44 43 1 7 44) (wb [xh 61,xq 62 (xt 61)] [xh 63,xp 64 5,qt 65 64,wO 66 aX 63 65] (wb [xh 67,xh 68,xL 69 68,xZ 70 0 [],xc 71 [.t 67,wJ,.t 69,qQ,.t 70],qf 8 71] [xh 72,qf 73 8,xZ 74 0 [],xv 75 [.t 72,qi 3,.t 73,.t 74,qQ]] (qH [xh 76,qY 77 76,xG 78 77,qX 79 3 78,qT 3 4 79]))))))⟩
theorem vF:aw Try.prog ie=some oD:=by kernel_rfl
def lJ:FK:=⟨22,[xK 2 1],wb [wU 1 1 0,qZ 2 xT] [ww 5 xT [],qZ 3 xT,xI 3 5] (wN (xb 4) (xO 0 [xH 6,xg 7 1,qt 8 7,wg 9 8,wI 10 6 9] 10 0 1 (.reg [xg 13 3,xH 16,qt 14 13,qX 15 1 1,wO 17 ie 15 16,qP 13 14,qL 18 3 (yj qy qy) 1 [wq 0 3 17],qP 13 14,wR 19 3 40 14 18,xg 20 3,xI 20 19]) (xH 11) 12 11 1 4 12) [qX 21 1 3,xI 2 21])⟩
theorem sY:aw Try.prog eY=some lJ:=by kernel_rfl
def lC:FK:=⟨21,[xF],xU [wU 2 3 0,qc 4 qU] (xb 5) (xO 0 [wZ 6,xy 7,wg 8 7,wI 9 6 8] 9 0 1 (qe [xy 12,wZ 13,wn 14 1 12 13,xG 16 2,qt 15 14,qt 17 16,xl 18 17 1,xW 19 [.t 15,qQ,.t 18],xX 20 19] (yb 20 4)) (wZ 10) 11 10 1 5 11) (wE 4 wH)⟩
theorem sL:aw Try.prog fg=some lC:=by kernel_rfl
def nr:FK:=⟨88,[.t 6],wb [wU 3 1 0,wU 5 4 2,qc 6 qU] [xg 8 3,qt 9 8,xy 10,wn 11 3 9 10,qX 12 3 11,yk 7 qy qy,qT 3 7 12] (qF [xg 13 5,qt 14 13,xW 15 [.t 14,wJ,qi 14],xX 16 15,qf 17 16,qJ 18 17 (qk (some 3) 7),xr 19 17 2 5,xk 20 17 19,qJ 21 17 (.call fg (wM 18 20)),qJ 22 17 (wA 21),xV 23 17 22] (yb 23 6) (qF [xg 24 5,xG 27 5,xG 29 7,qt 25 24,qt 28 27,qt 30 29,xl 31 30 1,xu 26 cL 25,qP 27 28,qP 29 30,xW 32 [.t 28,qQ,.t 31],qb 33 (.beq true (.t 26) (.t 32)),qf 34 33,xr 35 34 0 5,xk 36 34 35,qJ 37 34 (.call cL (xt 36)),qJ 38 34 (wA 37),wX 39 34 38,xm 40 39 1 5,wV 41 39 40,xo 42 39 .neq 41 (qi (-1)),qJ 43 34 (qN 39 (.t 42) qU),xV 44 34 43] (yb 44 6) (wN [xg 45 5,qt 46 45,wK 47 46 14] (wz 47 [qp 48 3 5,xy 50,xl 51 50 1,qt 49 48,xW 52 [.t 49,qQ,.t 51],qf 53 52,xm 54 53 2 5,xm 57 53 0 3,xm 59 53 3 5,wV 55 53 54,qK 56 53 (qW 55),wV 58 53 57,wV 60 53 59,qK 61 53 (wh 3 58 60),xm 62 53 0 61,wV 63 53 62,xo 64 53 .eql 56 (.t 63),xY 65 53 64,qf 6 65]) [xp 66 5,xg 69 5,qt 67 66,wg 68 67,qt 70 69,xu 71 fc 70,qP 66 67,wo 72 .eql 68 71,qf 73 72,xm 74 73 3 5,wV 75 73 74,qK 76 73 (xe [.t 75,qQ,qi 255]),xY 77 73 76,qf 78 77,xm 79 78 3 5,wV 80 78 79,xo 81 78 .eql 80 qQ,wQ 82 78 81,xr 83 82 0 5,xk 84 82 83,x9 85 82 .eql 84 wJ,qK 86 78 (qN 82 wH (.t 85)),xY 87 78 86,qf 6 87])))⟩
theorem uB:aw Try.prog jD=some nr:=by kernel_rfl
def gu:AK:=wb [wU 3 1 0,qc 6 qU] [xg 14 3,qt 15 14,xy 16,wn 17 3 15 16,qX 18 3 17,yk 7 qy qy,qT 3 7 18] (wb [xp 19 7,qt 20 19,qf 21 2,wn 22 5 20 21,qX 23 5 22,qZ 8 [.nils,.nils,qy,qy,.nils],qT 5 8 23] (wE 9 wJ) (xx [xp 24 8,qt 25 24] (.blk 0 (yh 27 25 1 26 27 (qu 26 (qe [qp 28 3 8,qt 29 28,qC 30 .neq 29 0] (yb 30 6)) (yh 32 25 2 31 32 (qu 31 (.reg (wE 9 (qi 2))) (yh 34 25 3 33 34 (qu 33 (.reg (xb 9)) (qH (wE 6 qU))))))))) (xx [qp 35 4 8,qt 36 35,wg 37 36,qf 38 9,wo 39 .neq 37 38,qf 40 39,xr 41 40 2 8,xk 42 40 41,x9 43 40 .neq 42 wJ,wX 44 40 43,xm 45 44 3 8,wV 46 44 45,xm 47 44 1 7,wV 48 44 47,xo 49 44 .sub 48 wJ,qK 50 44 (xe [.t 46,qQ,.t 49]),qK 51 44 (wA 50),qJ 52 40 (qN 44 (.t 51) qU),xV 53 40 52] (yb 53 6) (xx (xb 10) (xO 1 [qf 54 10,qp 55 4 8,qt 56 55,wg 57 56,wI 58 54 57] 58 1 2 (qe [qp 61 4 8,qf 63 10,xp 66 7,qt 62 61,wn 64 1 62 63,qt 65 64,qt 67 66,wg 68 67,xl 69 68 1,xW 70 [.t 65,wJ,.t 69],xX 71 70] (yb 71 6)) (qf 59 10) 60 59 1 10 60) (xx (xb 11) (xO 3 [qf 72 11,xG 73 8,qt 74 73,wg 75 74,wI 76 72 75] 76 3 4 (qe [xy 80,xG 81 8,qf 83 11,qX 79 1 3,qt 82 81,wn 84 4 82 83,qX 85 4 84,qn 86 jD [.t 79,.t 80,.t 85],xX 87 86] (yb 87 6)) (qf 77 11) 78 77 1 11 78) (qe [qX 88 3 7,qf 89 2,wO 90 bY 88 89,qf 12 90] (xx (xb 13) (xO 5 [qf 91 13,xg 92 8,qt 93 92,wg 94 93,wI 95 91 94] 95 5 6 (qe [qf 98 2,wK 99 98 0,qf 100 99,xr 101 100 0 8,wX 103 100 13,wX 108 100 12,qJ 109 100 (qW 108),xk 102 100 101,qJ 104 100 (wh 2 102 103),xr 105 100 1 104,xk 106 100 105,qJ 107 100 (qW 106),x9 110 100 .neq 107 (.t 109),xV 111 100 110,qf 112 111,xr 114 112 0 8,wX 116 112 13,qJ 113 112 (qk (some 3) 7),xk 115 112 114,qJ 117 112 (wh 2 115 116),xr 118 112 1 117,xk 119 112 118,qJ 120 112 (.call fg (wM 113 119)),qJ 121 112 (wA 120),xV 122 112 121,qf 123 122,xr 124 123 0 8,wX 126 123 13,xr 130 123 1 7,xk 125 123 124,qJ 127 123 (wh 2 125 126),xr 128 123 0 127,xk 129 123 128,xk 131 123 130,x9 132 123 .sub 131 wJ,qJ 133 123 (xe [.t 129,qQ,.t 132]),qJ 134 123 (wA 133),xV 135 123 134] (yb 135 6)) (qf 96 13) 97 96 1 13 97) (qH (wE 6 wH)))))))))
def fZ:FK:=⟨136,[.t 6],(AK.whole gu)⟩
theorem rP:aw Try.prog fU=some fZ:=by kernel_rfl
def jg:FK:=⟨76,[x8],qe [wU 1 1 0,qc 2 qU] (qF [xg 7 1,qt 8 7,wg 9 8,xW 10 [.t 9,wJ,qi 4],xX 11 10] (yb 11 2) (xU (xb 3) (xb 4) (xO 0 [xH 12,xg 13 1,qt 14 13,wg 15 14,wI 16 12 15] 16 0 1 (qe [xg 19 1,qt 20 19,xH 21,wn 22 3 20 21,qX 23 3 22,yk 5 qy qy,qT 3 5 23] (qF [xg 24 5,qt 25 24,xW 26 [.t 25,qQ,qi 3],xX 27 26,qf 28 27,xr 29 28 1 5,xk 30 28 29,xr 31 28 0 5,xk 32 28 31,qJ 33 28 (xe [.t 30,.t 32,qi 300]),qJ 34 28 (wA 33),xV 35 28 34,qf 36 35,xr 37 36 2 5,xk 38 36 37,qJ 39 36 (qW 38),qJ 40 36 (xe [.t 39,wJ,qi 160]),qJ 41 36 (wA 40),xV 42 36 41] (yb 42 2) (qe (xb 6) (xO 2 [xh 43,xp 44 5,qt 45 44,wg 46 45,wI 47 43 46] 47 2 3 (wb [ym 50,xp 51 5,xh 53,xp 59 5,xh 61,qt 52 51,wn 54 5 52 53,xG 55 54,qt 56 55,wg 57 56,wo 58 .add 50 57,qt 60 59,wn 62 5 60 61,xg 63 62,qt 64 63,wg 65 64,wo 66 .add 58 65,qf 3 66] [ym 67,yi 68 67 800,qf 69 68,qJ 70 69 (qk (some 1) 1),wX 71 69 4,wX 72 69 6,qJ 73 69 (.call fU [.t 70,.t 71,.t 72]),qJ 74 69 (wA 73),xV 75 69 74] (yb 75 2)) (xh 48) 49 48 1 6 49)))) (xH 17) 18 17 1 4 18) (wE 2 wH)))⟩
theorem nX:aw Try.prog eI=some jg:=by kernel_rfl
def kD:FK:=⟨15,[xK 2 1],xU [qZ 2 xT] [wi 4,we 5 (xz 4 2),wK 6 5 0] (wa 6 (wb [wi 7,xu 8 eV 7,xu 9 eY 8,qZ 3 xT,xI 3 9] [qX 10 1 3,xu 11 eI 10] (wz 11 [qX 12 1 3,xI 2 12]))) [wi 13,xu 14 dj 13,xI 2 14]⟩
theorem pT:aw Try.prog gB=some kD:=by kernel_rfl
def kj:FK:=⟨10,[xK 2 1],xU [qZ 2 xT] [wi 3,we 4 (xz 3 12),wK 5 4 0] (wz 5 [wi 6,xu 7 iQ 6,xI 2 7]) [wi 8,xu 9 gB 8,xI 2 9]⟩
theorem rn:aw Try.prog gk=some kj:=by kernel_rfl
def kR:FK:=⟨14,[xK 2 3],wb [yk 2 qy qy] [wi 4,xu 5 gk 4,qZ 3 xT,xI 3 5] (qH [xg 6 3,qt 7 6,xg 8 3,qt 9 8,wg 10 9,xl 11 10 1,wn 12 3 7 11,qX 13 3 12,qT 3 2 13])⟩
theorem pP:aw Try.prog dU=some kR:=by kernel_rfl
def lQ:FK:=⟨33,[xK 2 3,.t 3,xF],wb [yk 2 qy qy,qc 3 qQ,qc 4 qQ] [wi 8,xu 9 dU 8,yk 5 qy qy,qT 3 5 9] (wb [xp 10 5,qt 11 10,wg 12 11,qf 6 12] [wi 13,xh 14,we 15 (wM 13 14),wi 16,xh 17,we 18 (wM 16 17),xh 19,xl 20 19 1,wi 21,xh 22,we 23 (wM 21 22),xh 24,xZ 25 7 [xP 15,wD 1 18,(2,1,qQ),wD 3 20,wD 4 23,xj 5 (-1),wD 6 24],qf 7 25] (qH [wi 27,x7 28,wi 30,x7 31,qX 26 3 5,yl 29 27 28,qA (some 3) 5 26,yl 32 30 31,qA (some 3) 5 26,qT 3 2 26,qf 3 29,qf 4 32]))⟩
theorem sQ:aw Try.prog iu=some lQ:=by kernel_rfl
def cd:FK:=⟨19,[xF],xU (xb 4) [wi 6,wg 7 6,qc 8 qQ] (qV 0 (qe [wI 9 8 7] (.seq (wy 9 0) (wu 1 (wb (xB (qf 10 8) 5 10) [xy 11,wi 12,wZ 13,wn 14 5 12 13,qX 15 5 14,qb 16 (.callv (.t 11) (xt 15))] (wz 16 (xB (wZ 17) 4 17))) (xB (wG 18 8 1) 8 18))))) (wE 4 (qi (-1)))⟩
theorem fj:aw Try.prog bq=some cd:=by kernel_rfl
def bP:FK:=⟨9,[xF],xS (wE 4 qU) [wi 5,xy 6,wO 7 bq 5 6,qC 8 .geq 7 0,qf 4 8]⟩
theorem dZ:aw Try.prog bi=some bP:=by kernel_rfl
def en:FK:=⟨19,[xF],xU (xb 4) [wi 6,wg 7 6,qc 8 qQ] (qV 0 (qe [wI 9 8 7] (.seq (wy 9 0) (wu 1 (wb (xB (qf 10 8) 5 10) [xy 11,wi 12,wZ 13,wn 14 1 12 13,qt 15 14,qb 16 (.callv (.t 11) (xt 15))] (wz 16 (xB (wZ 17) 4 17))) (xB (wG 18 8 1) 8 18))))) (wE 4 (qi (-1)))⟩
theorem jy:aw Try.prog cg=some en:=by kernel_rfl
def da:FK:=⟨9,[xF],xS (wE 4 qU) [wi 5,xy 6,wO 7 cg 5 6,qC 8 .geq 7 0,qf 4 8]⟩
theorem gC:aw Try.prog bl=some da:=by kernel_rfl
def iv:FK:=⟨15,[.t 6],xS (wE 6 qU) [xy 7,wi 8,wo 9 .leq 7 8,qf 10 9,wQ 11 10 0,wQ 12 10 2,xo 13 10 .leq 11 (.t 12),xY 14 10 13,qf 6 14]⟩
theorem sR:aw Try.prog dg=some iv:=by kernel_rfl
def gw:FK:=⟨11,[.t 3],xS (wE 3 qU) [wi 4,xp 5 1,qt 6 5,wg 7 6,xl 8 7 1,qn 9 dg [.t 4,qQ,.t 8],xX 10 9,qf 3 10]⟩
theorem ml:aw Try.prog dx=some gw:=by kernel_rfl
def iX:FK:=⟨8,[.t 3],xS [wU 2 5 0,qc 3 qU] [qp 4 4 2,qt 5 4,qb 6 (.mkf (.func dx) (xt 1)),wO 7 bl 5 6,x7 3]⟩
theorem ou:aw Try.prog cX=some iX:=by kernel_rfl
def gi:FK:=⟨14,[x8],xS [wU 1 3 0,qc 2 qU] [xp 3 1,qt 4 3,wg 5 4,yi 6 5 0,xh 7,xm 8 7 2 1,wV 9 7 8,qK 10 7 (.mkf (.func cX) (xt 1)),qK 11 7 (.call bi (wM 9 10)),qK 12 7 (wA 11),xY 13 7 12,qf 2 13]⟩
theorem rp:aw Try.prog dX=some gi:=by kernel_rfl
def eB:FK:=⟨48,[xF],wb [wU 2 3 0,qc 4 xA] [xp 8 2,qt 9 8,wg 10 9,qb 11 (.mks 1 1 [qB] (.t 10) (.t 10)),qf 5 11] (xJ (xZ 12 1 [(0,1,qQ)]) 6 12 (.seq (wT 0 [xh 13,wg 14 13,yi 15 14 0] 15 0 (.blk 1 (wb [xh 16,xh 17,wg 18 17,xl 19 18 1,wn 20 1 16 19,qt 21 20,qf 7 21] [xh 22,xh 23,wg 24 23,xl 25 24 1,qb 26 (.slS 1 (.t 22) none (some (.t 25))),qf 6 26] (qF [x7 27,xy 28,wo 29 .eql 27 28,qf 30 29,wX 31 30 5,wX 32 30 7,qJ 33 30 (wh 1 31 32),xk 34 30 33,xV 35 30 34] (wa 35 (.exit 1)) (qe [wZ 36,x7 37,wn 38 1 36 37,qR 1 38 wH] (.reg [xh 39,xp 40 2,qt 41 40,x7 42,wn 43 5 41 42,qp 44 4 43,qt 45 44,wR 46 1 8 39 45,qf 6 46])))))) (qH (xB (wZ 47) 4 47))))⟩
theorem jN:aw Try.prog aL=some eB:=by kernel_rfl
def fb:FK:=⟨71,[x8],qe [wU 1 3 0,qc 2 (.c .nilp)] (qF [qX 8 3 1,xu 9 dX 8,xX 10 9] (wY 10 2 (.c .nilp)) (xU [qX 11 3 1,qX 12 3 1,qn 13 aL (xz 12 (-1)),qA (some 3) 1 11,ww 14 [qy,qy,.nils,.nils,.nils] [wq 0 3 11,wD 4 13],wU 15 5 14,qf 3 15] [xp 16 1,qt 17 16,wg 18 17,qc 19 qQ] (qV 0 (qe [wI 20 19 18] (.seq (wy 20 0) (wu 1 (wb (xB (qf 21 19) 4 21) [xp 22 1,qt 23 22,wg 24 23,qb 25 (.mks 1 1 [qB] (.t 24) (.t 24)),qf 5 25] (qF [ym 26,qY 27 26,qp 28 4 27,qt 29 28,xH 30,wn 31 1 29 30,qt 32 31] (wa 32 (wb [qX 33 3 1,xH 34,wO 35 aL 33 34,qf 6 35] [wZ 36,wg 37 36,qc 38 qQ] (qV 2 (qe [wI 39 38 37] (.seq (wy 39 2) (wu 3 (xJ (qf 40 38) 7 40 (.reg [wZ 41,x7 42,ym 43,qY 44 43,qp 45 4 44,qt 46 45,x7 47,wn 48 1 46 47,qt 49 48,qf 50 49,wQ 51 50 6,wQ 52 50 7,qK 53 50 (wh 1 51 52),wV 54 50 53,qK 55 50 (wA 54),xY 56 50 55,wn 57 1 41 42,xI 57 56])) (xB (wG 58 38 1) 38 58))))))) (.reg [ym 59,ym 60,qY 61 60,qp 62 3 61,qt 63 62,wZ 64,qL 65 1 xT 1 [xP 64],wR 66 1 24 63 65,qY 67 59,qp 68 3 67,xI 68 66]))) (xB (wG 69 19 1) 19 69))))) (xB (ym 70) 2 70)))⟩
theorem lG:aw Try.prog cw=some fb:=by kernel_rfl
def fA:FK:=⟨26,[xF],xS (wE 4 qU) [wi 5,qb 6 (.pnil 0 true (.t 5)),xh 7,wQ 8 7 1,wQ 9 7 0,qK 10 7 (qz 9),xm 11 7 4 10,wV 12 7 11,qK 13 7 (qW 12),xo 14 7 .sub 13 wJ,qK 15 7 (.call dg [.t 8,qQ,.t 14]),xY 16 7 15,qf 17 16,wQ 18 17 0,qK 19 17 (qz 18),xm 20 17 4 19,wV 21 17 20,wQ 22 17 1,qK 23 17 (wh 1 21 22),wV 24 17 23,xY 25 17 24,qf 4 25]⟩
theorem pi:aw Try.prog cr=some fA:=by kernel_rfl
def ku:FK:=⟨42,[x8],xU [wU 1 3 0,qc 2 qU] (xb 3) (xO 0 [ym 5,xp 6 1,qt 7 6,wg 8 7,wI 9 5 8] 9 0 1 (qe (xb 4) (xO 2 [xH 12,xp 13 1,qt 14 13,ym 15,wn 16 5 14 15,qp 17 4 16,qt 18 17,wg 19 18,wI 20 12 19] 20 2 3 (qe [xp 23 1,ym 25,xH 29,xp 32 1,qt 24 23,wn 26 5 24 25,qp 27 4 26,qt 28 27,wn 30 1 28 29,qt 31 30,qt 33 32,wg 34 33,xl 35 34 1,xW 36 [.t 31,qQ,.t 35],xX 37 36] (yb 37 2)) (xH 21) 22 21 1 4 22)) (ym 10) 11 10 1 3 11) [xp 38 1,qt 39 38,wg 40 39,yi 41 40 0,qf 2 41]⟩
theorem sH:aw Try.prog gm=some ku:=by kernel_rfl
def mE:FK:=⟨15,[xF],xS [wU 2 3 0,qc 4 qU] [qX 5 3 2,xu 6 gm 5,xh 7,wQ 8 7 1,xm 9 7 2 2,wV 10 7 9,qK 11 7 (qW 10),xo 12 7 .sub 11 wJ,qK 13 7 (xe [.t 8,qQ,.t 12]),xY 14 7 13,qf 4 14]⟩
theorem uH:aw Try.prog js=some mE:=by kernel_rfl
def jJ:FK:=⟨54,[.t 8],wb [wU 4 3 0,qc 8 xA] [qf 10 2,xy 11,wn 12 1 10 11,qR 1 12 wH] (wN (xb 9) (xO 0 [qf 13 9,xp 14 4,qt 15 14,xy 16,wn 17 5 15 16,qp 18 4 17,qt 19 18,wg 20 19,wI 21 13 20] 21 0 1 (qe [qf 24 2,xp 25 4,qt 26 25,xy 27,wn 28 5 26 27,qp 29 4 28,qt 30 29,qf 31 9,wn 32 1 30 31,qt 33 32,wn 34 1 24 33,qt 35 34,xX 36 35] (ya 36 [xp 38 4,xy 40,qf 44 9,qf 47 2,ym 48,qX 37 3 4,qt 39 38,wn 41 5 39 40,qp 42 4 41,qt 43 42,wn 45 1 43 44,qt 46 45,qn 49 co [.t 37,.t 46,.t 47,.t 48],qf 3 49])) (qf 22 9) 23 22 1 9 23) [ym 50,xy 51,xZ 52 1 [xP 51],wR 53 1 8 50 52,qf 8 53])⟩
theorem pf:aw Try.prog co=some jJ:=by kernel_rfl
def gr:AK:=wb [wU 1 3 0,qc 2 xA] [xp 10 1,qt 11 10,wg 12 11,qf 3 12] (wb (xB (qL 13 1 xT 0 []) 4 13) (xM (ym 14) (qb 15 (.mks 1 1 [qB] (.t 14) (.t 14))) 5 15) (xU [qX 16 3 1,wZ 17,xZ 18 0 [],qn 19 co [.t 16,qQ,.t 17,.t 18]] (xb 6) (xO 0 [xh 20,ym 21,wI 22 20 21] 22 0 1 (wb (xM (ym 25) (qb 26 (.mks 1 1 [qB] (.t 25) (.t 25))) 7 26) [x7 27,xh 28,wn 29 1 27 28,qR 1 29 wH] (xx [xh 30,qC 31 .neq 30 0] (qu 31 (qe [qX 32 3 1,x7 33,xZ 34 0 [],qn 35 co [.t 32,qQ,.t 33,.t 34]] (.reg [x7 36,xh 37,wn 38 1 36 37,qR 1 38 qU])) (.reg [x7 39,xh 40,wn 41 1 39 40,qR 1 41 qU])) (qe (xM (ym 42) (qb 43 (.mks 1 1 [qB] (.t 42) (.t 42))) 8 43) (qF (xb 9) (xO 2 [qf 44 9,ym 45,wI 46 44 45] 46 2 3 (.reg [qf 49 8,qf 50 9,wZ 51,xh 52,wn 53 1 51 52,qt 54 53,qf 55 54,wQ 56 55 5,wQ 57 55 9,qK 58 55 (wh 1 56 57),wV 59 55 58,xY 60 55 59,qf 61 60,wQ 62 61 7,wQ 63 61 9,qK 64 61 (wh 1 62 63),wV 65 61 64,qK 66 61 (wA 65),xY 67 61 66,wn 68 1 49 50,xI 68 67]) (qf 47 9) 48 47 1 9 48) (.reg [xH 69,qf 70 8,qL 71 1 xT 1 [xP 70],wR 72 1 24 69 71,qf 4 72]))))) (xh 23) 24 23 1 6 24) (xB (xH 73) 2 73)))
def fL:FK:=⟨74,[x8],(AK.whole gr)⟩
theorem sF:aw Try.prog ew=some fL:=by kernel_rfl
def cz:FK:=⟨27,[.t 6],xS (wE 6 qU) [wi 7,xy 8,wO 9 cr 7 8,qf 10 9,wQ 11 10 0,wQ 12 10 2,qK 13 10 (.call cr (wM 11 12)),xY 14 10 13,qf 15 14,wQ 16 15 0,qK 17 15 (qz 16),xm 18 15 3 17,wV 19 15 18,wQ 20 15 1,qK 21 15 (wh 1 19 20),wV 22 15 21,wQ 23 15 2,qK 24 15 (wh 1 22 23),wV 25 15 24,xY 26 15 25,qf 6 26]⟩
theorem jO:aw Try.prog cD=some cz:=by kernel_rfl
def jl:FK:=⟨12,[.t 6],xS [wU 3 3 0,qc 6 qU] [qX 7 3 3,xu 8 cw 7,xy 9,qf 10 2,qn 11 cD [.t 8,.t 9,.t 10],qf 6 11]⟩
theorem od:aw Try.prog cZ=some jl:=by kernel_rfl
def jL:FK:=⟨47,[xF],wb (wE 4 xA) (xb 5) (.seq (wT 0 [wZ 7,wi 8,wg 9 8,wI 10 7 9,qf 11 10,wQ 12 11 0,wQ 13 11 5,qK 14 11 (wh 1 12 13),wV 15 11 14,wQ 16 11 1,xo 17 11 .lss 15 (.t 16),xY 18 11 17] 18 0 (.blk 1 (.reg (xM (wZ 19) (wG 20 19 1) 5 20)))) (qF [wZ 21,wi 22,wg 23 22,wI 24 21 23,qf 25 24,wQ 26 25 0,wQ 27 25 5,qK 28 25 (wh 1 26 27),wV 29 25 28,wQ 30 25 1,xo 31 25 .eql 29 (.t 30),xY 32 25 31] (wz 32 (xB (wi 33) 4 33)) (xS [xZ 34 0 [],wi 35,wZ 36,qb 37 (.slS 1 (.t 35) none (some (.t 36))),wR 38 1 8 34 37,qf 6 38] [xh 39,xy 40,wi 43,wZ 44,qb 45 (.slS 1 (.t 43) (some (.t 44)) none),xZ 41 1 [xP 40],wR 42 1 8 39 41,wR 46 1 8 42 45,qf 4 46])))⟩
theorem po:aw Try.prog bk=some jL:=by kernel_rfl
def fS:FK:=⟨56,[.t 6],wb [wU 3 3 0,qc 6 xA] (xB (xZ 11 0 []) 7 11) (wN (xb 8) (xO 0 [qf 12 8,xy 13,wg 14 13,wI 15 12 14] 15 0 1 (wb [qX 18 3 3,qf 19 8,wO 20 bY 18 19,qf 9 20] (xb 10) (xO 2 [qf 21 10,qf 22 9,wg 23 22,wI 24 21 23] 24 2 3 (qe [xy 27,qf 28 2,wn 29 1 27 28,qf 31 9,qf 32 10,wn 33 1 31 32,qt 30 29,qt 34 33,wn 35 1 30 34,qt 36 35,qf 37 36,wQ 38 37 8,wQ 39 37 2,xo 40 37 .eql 38 (.t 39),wQ 41 37 40,wX 42 41 1,wX 43 41 2,qJ 44 41 (wh 1 42 43),wX 46 41 8,xk 45 41 44,qJ 47 41 (wh 1 45 46),xk 48 41 47,qJ 49 41 (wA 48),qK 50 37 (qN 41 wH (.t 49)),xY 51 37 50] (ya 51 [x7 52,qf 53 8,wO 54 bk 52 53,qf 7 54])) (qf 25 10) 26 25 1 10 26)) (qf 16 8) 17 16 1 8 17) (xB (x7 55) 6 55))⟩
theorem mu:aw Try.prog dy=some fS:=by kernel_rfl
def gO:FK:=⟨15,[xF],xU [wU 2 3 0,qc 4 xA] [qX 5 3 2,xy 6,wO 7 js 5 6,xX 8 7] (wz 8 (xB (xZ 9 0 []) 4 9)) [xy 13,qX 10 3 2,qX 11 3 2,xu 12 ew 11,qA (some 3) 2 10,qn 14 dy [.t 10,.t 12,.t 13],qf 4 14]⟩
theorem mH:aw Try.prog cH=some gO:=by kernel_rfl
def iR:AK:=qe [yk 2 qy qy,qc 3 xA] (xx (xb 4) (xO 0 [xH 11,qC 12 .lss 11 6,qf 13 12,wQ 14 13 0,qK 15 13 (xE (xz 14 8)),xo 16 13 .gtr 15 qQ,xY 17 13 16] 17 0 1 (wb [wi 20,xu 21 dU 20,yk 5 qy qy,qT 3 5 21] (xB (xZ 22 0 []) 6 22) (xx (xb 7) (xO 2 [x7 23,xp 24 5,qt 25 24,wg 26 25,wI 27 23 26] 27 2 3 (qe [qX 30 3 5,x7 31,wO 32 cH 30 31,wg 33 32,yi 34 33 0] (ya 34 [xh 35,x7 36,xZ 37 1 [xP 36],wR 38 1 8 35 37,qf 6 38])) (x7 28) 29 28 1 7 29) (qe [xh 39,wg 40 39,yi 41 40 0] (wz 41 [xh 43,wi 44,xh 45,wg 46 45,xh 50,wi 51,xh 52,wg 53 52,qX 42 3 5,we 47 (wM 44 46),qA (some 3) 5 42,wn 48 1 43 47,qt 49 48,we 54 (wM 51 53),qA (some 3) 5 42,qP 48 49,wn 55 1 50 54,qt 56 55,xQ 57 1 xC 2 [xP 49,wD 1 56],qT 3 2 42,qP 48 49,qP 55 56,qf 3 57])))) (xH 18) 19 18 1 4 19) (xS [wi 59,xu 60 iu 59,qf 58 60,qb 61 (.ext 0 (.t 58)),qb 62 (.ext 1 (.t 58)),qb 63 (.ext 2 (.t 58)),yk 8 qy qy,qT 3 8 61,qf 9 62,qf 10 63] [qX 64 3 8,qf 65 9,qf 66 10,xZ 67 2 [xP 65,wD 1 66],qT 3 2 64,qf 3 67]))
def iE:FK:=⟨68,[xK 2 3,.t 3],(AK.whole iR)⟩
theorem td:aw Try.prog iI=some iE:=by kernel_rfl
def eA:FK:=⟨16,[xK 2 3,.t 3],wb [yk 2 qy qy,qc 3 qQ] [wi 7,xu 8 fT 7,xu 9 iI 8,qf 6 9,qb 10 (.ext 0 (.t 6)),qb 11 (.ext 1 (.t 6)),yk 4 qy qy,qT 3 4 10,qf 5 11] (qH [wZ 13,qb 14 (qG 1 13 qQ),qX 12 3 4,qt 15 14,qT 3 2 12,qP 14 15,qf 3 15])⟩
theorem jP:aw Try.prog cy=some eA:=by kernel_rfl
def gq:FK:=⟨19,[xF],xU (xb 4) [wi 6,wg 7 6,qc 8 qQ] (qV 0 (qe [wI 9 8 7] (.seq (wy 9 0) (wu 1 (wb (xB (qf 10 8) 5 10) [xy 11,wi 12,wZ 13,wn 14 1 12 13,qt 15 14,wo 16 .eql 11 15] (wz 16 (xB (wZ 17) 4 17))) (xB (wG 18 8 1) 8 18))))) (wE 4 (qi (-1)))⟩
theorem mf:aw Try.prog dv=some gq:=by kernel_rfl
def ey:FK:=⟨9,[xF],xS (wE 4 qU) [wi 5,xy 6,wO 7 dv 5 6,qC 8 .geq 7 0,qf 4 8]⟩
theorem jM:aw Try.prog cE=some ey:=by kernel_rfl
def jR:FK:=⟨33,[xF],wb [wU 2 3 0,qc 4 xA] (wE 5 xA) (qF [xy 8,xp 9 2,qt 10 9,wg 11 10,xl 12 11 1,qn 13 dg [.t 8,qQ,.t 12],xX 14 13] (wY 14 4 xA) (wN [xp 15 2,qt 16 15,wg 17 16,qc 18 qQ] (qV 0 (qe [wI 19 18 17] (.seq (wy 19 0) (wu 1 (wb [qf 20 18,wn 21 5 16 18,qX 22 5 21,qZ 7 [.nils,.nils,qy,qy,.nils],qf 6 20,qT 5 7 22] [qp 23 4 7,qt 24 23,xy 25,wO 26 cE 24 25] (ya 26 [wZ 27,xh 28,xZ 29 1 [xP 28],wR 30 1 8 27 29,qf 5 30])) (xB (wG 31 18 1) 18 31))))) (xB (wZ 32) 4 32)))⟩
theorem ry:aw Try.prog cN=some jR:=by kernel_rfl
def eb:FK:=⟨15,[xF],xS (wE 4 qU) [wi 12,qt 5 1,qY 6 5,qp 7 3 6,qt 8 7,qt 9 2,wn 10 1 8 9,qt 11 10,wn 13 1 11 12,qt 14 13,qf 4 14]⟩
theorem jw:aw Try.prog ck=some eb:=by kernel_rfl
def cT:AK:=wb [wU 2 1 0,wU 3 1 1,qc 4 xA] (wE 5 xA) (wN [qt 7 2,qY 8 7,qp 9 4 8,qt 10 9,wg 11 10,qc 12 qQ] (qV 0 (qe [wI 13 12 11] (.seq (wy 13 0) (wu 1 (xJ (qf 14 12) 6 14 (xx [xh 22,qt 15 2,qY 16 15,qp 17 3 16,qt 18 17,qt 19 3,wn 20 1 18 19,qt 21 20,wn 23 1 21 22,qt 24 23,qf 25 24,wQ 26 25 6,wV 27 25 3,xo 28 25 .neq 26 (.t 27),xY 29 25 28] (wa 29 (.exit 1)) (qe [qt 30 2,qY 31 30,xg 32 31,qX 33 3 32,xh 34,wO 35 cN 33 34,qb 36 (.mkf (.func ck) (wM 2 3)),wO 37 bl 35 36] (ya 37 [wZ 38,xh 39,xZ 40 1 [xP 39],wR 41 1 8 38 40,qf 5 41])))) (xB (wG 42 12 1) 12 42))))) (xB (wZ 43) 4 43))
def cQ:FK:=⟨44,[xF],(AK.whole cT)⟩
theorem jW:aw Try.prog cI=some cQ:=by kernel_rfl
def ii:FK:=⟨15,[xF],wb [wU 2 3 0,qc 4 xA] (xM (qX 6 3 2) (xu 7 cw 6) 5 7) (wN [wZ 8,xy 9,wO 10 cr 8 9,xX 11 10] (wY 11 4 xA) [wZ 12,xy 13,wO 14 cI 12 13,qf 4 14])⟩
theorem ny:aw Try.prog dR=some ii:=by kernel_rfl
def lO:FK:=⟨29,[xF],xU (wE 4 qU) [wi 6,wg 7 6,xy 8,wg 9 8,qb 10 (.mn (.t 7) (.t 9)),qc 11 qQ] (qV 0 (qe [wI 12 11 10] (.seq (wy 12 0) (wu 1 (wb (xB (qf 13 11) 5 13) [wi 14,wZ 15,wn 16 1 14 15,xy 18,wZ 19,wn 20 1 18 19,qt 17 16,qt 21 20,wo 22 .neq 17 21] (yb 22 4)) (xB (wG 23 11 1) 11 23))))) [wi 24,wg 25 24,xy 26,wg 27 26,wo 28 .eql 25 27,qf 4 28]⟩
theorem tp:aw Try.prog ir=some lO:=by kernel_rfl
def nu:FK:=⟨17,[xF],xU (wE 4 qU) [wi 7,wg 8 7,qc 9 qQ] (qV 0 (qe [wI 10 9 8] (.seq (wy 10 0) (wu 1 (wb (xM (wn 11 1 7 9) (qt 12 11) 6 12) [xh 13,xy 14,wo 15 .eql 13 14] (wY 15 4 wH)) (xB (wG 16 9 1) 9 16))))) (wE 4 qU)⟩
theorem uP:aw Try.prog jt=some nu:=by kernel_rfl
def gX:FK:=⟨67,[x8],qe (wE 2 qU) (qF [wi 10,wg 11 10,yi 12 11 1048576] (wY 12 2 wH) (wb [wi 14,xu 15 cy 14,qf 13 15,qb 16 (.ext 0 (.t 13)),qb 17 (.ext 1 (.t 13)),yk 3 qy qy,qT 3 3 16,qf 4 17] [qX 18 3 3,xH 19,wO 20 dR 18 19,qf 5 20] (qF [wZ 21,qX 22 3 3,xH 23,wO 24 cH 22 23,wO 25 ir 21 24,xX 26 25] (yb 26 2) (wN [xp 27 3,qt 28 27,wg 29 28,qc 30 qQ] (qV 0 (qe [wI 31 30 29] (.seq (wy 31 0) (wu 1 (wb (xB (qf 32 30) 6 32) (wE 7 qU) (qF [qX 33 3 3,xh 34,wO 35 cN 33 34,wg 36 35,qc 37 qQ] (qV 2 (qe [wI 38 37 36] (.seq (wy 38 2) (wu 3 (qe (xM (wn 39 1 35 37) (qt 40 39) 9 40) (.reg [x7 41,qf 42 41,qJ 43 42 (qk (some 3) 3),wX 44 42 4,wX 45 42 9,qJ 46 42 (.call cZ [.t 43,.t 44,.t 45]),xV 47 42 46,qf 7 47])) (xB (wG 48 37 1) 37 48))))) (qe [wZ 49,xh 50,wO 51 jt 49 50,x7 52,qf 53 52,wQ 54 53 6,wQ 55 53 4,xo 56 53 .eql 54 (.t 55),wQ 57 53 56,qJ 58 57 (qk (some 3) 3),wX 59 57 4,wX 60 57 6,qJ 61 57 (.call cZ [.t 58,.t 59,.t 60]),qJ 62 57 (wA 61),qK 63 53 (qN 57 wH (.t 62)),xY 64 53 63,qb 65 (.beq true (.t 51) (.t 64))] (yb 65 2)))) (xB (wG 66 30 1) 30 66))))) (wE 2 wH)))))⟩
theorem mU:aw Try.prog gJ=some gX:=by kernel_rfl
end Go.Proofs.Ytdfplkcigiblcaa
