/-
  Contracts and lemmas that the card needs, part 4.
-/
import Derived.Test.YtdfplkcigiblcaaFm3
import Derived.Test.YtdfplkcigiblcaaRows
namespace Go.Proofs.Ytdfplkcigiblcaa
open Go Go.Aw
set_option maxRecDepth 100000
abbrev dM:FuncId:=21
abbrev bu:FuncId:=41
abbrev aY:FuncId:=42
abbrev gM:FuncId:=44
abbrev eQ:FuncId:=87
abbrev cK:FuncId:=88
abbrev iC:FuncId:=73
abbrev eX:FuncId:=74
abbrev ii:FuncId:=67
abbrev cL:FuncId:=48
abbrev dg:FuncId:=62
abbrev dr:FuncId:=72
abbrev iB:FuncId:=66
abbrev dW:FuncId:=61
abbrev ib:FuncId:=58
abbrev bx:FuncId:=99
abbrev eS:FuncId:=103
abbrev be:FuncId:=92
abbrev dU:FuncId:=82
abbrev du:FuncId:=109
abbrev bX:FuncId:=100
abbrev cD:FuncId:=101
abbrev dC:FuncId:=102
abbrev dR:FuncId:=91
abbrev aM:FuncId:=81
abbrev di:FuncId:=69
abbrev gx:FuncId:=114
abbrev gh:FuncId:=110
abbrev jf:FuncId:=104
abbrev dm:FuncId:=111
abbrev ji:FuncId:=105
abbrev bD:FuncId:=93
abbrev eC:FuncId:=112
abbrev eH:FuncId:=117
abbrev db:FuncId:=115
abbrev eb:FuncId:=116
abbrev cR:FuncId:=113
abbrev eF:FuncId:=106
abbrev bp:FuncId:=94
abbrev jG:FuncId:=83
abbrev cJ:FuncId:=95
abbrev js:FuncId:=84
abbrev cW:FuncId:=70
abbrev eR:FuncId:=64
abbrev gf:FuncId:=89
abbrev dd:FuncId:=75
abbrev bK:FuncId:=76
abbrev bg:FuncId:=80
abbrev bm:FuncId:=79
abbrev bF:FuncId:=78
abbrev cN:FuncId:=98
abbrev eu:FuncId:=107
abbrev jB:FuncId:=108
abbrev aV:FuncId:=97
abbrev dJ:FuncId:=96
abbrev dG:FuncId:=90
abbrev aX:FuncId:=77
abbrev gD:FuncId:=68
abbrev eB:FuncId:=63
abbrev eN:FuncId:=86
abbrev je:FuncId:=85
abbrev gq:FuncId:=71
abbrev ep:FuncId:=65
abbrev ga:FuncId:=59
abbrev fX:FuncId:=51
abbrev dX:FuncId:=34
abbrev iw:FuncId:=20
abbrev dT:FuncId:=6
abbrev bq:FuncId:=60
abbrev bi:FuncId:=53
abbrev cf:FuncId:=57
abbrev bP:FuncId:=46
abbrev eM:FuncId:=32
abbrev dq:FuncId:=55
abbrev cQ:FuncId:=54
abbrev dH:FuncId:=38
abbrev aK:FuncId:=43
abbrev cr:FuncId:=22
abbrev bQ:FuncId:=23
abbrev cY:FuncId:=24
abbrev dk:FuncId:=25
abbrev cu:FuncId:=7
abbrev fP:FuncId:=36
abbrev fA:FuncId:=26
abbrev co:FuncId:=45
abbrev dF:FuncId:=27
abbrev eI:FuncId:=8
abbrev cB:FuncId:=28
abbrev bH:FuncId:=9
abbrev ll:FuncId:=3
abbrev gn:FuncId:=50
abbrev eY:FuncId:=16
@[reducible] def qa(a:Nat)(b:Option (Nat × Bool))(c:AI):CO:=⟨some a,b,c⟩
@[reducible] def qb(a:Nat)(b:AI):CO:=qa a none b
@[reducible] def qc(a:Nat)(b:AOp):CO:=qb a (.mov b)
@[reducible] def qd(a:IntKind)(b:Int):AV:= .p (.int a b)
@[reducible] def qe(a:List CO)(b:AK):AK:= .seq (.reg a) b
@[reducible] def qf(a b:Nat):CO:=qc a (.t b)
@[reducible] def qg(a:Int):AV:=qd .i64 a
@[reducible] def qh(a:Nat)(b:Nat × Bool)(c:AI):CO:=qa a (some b) c
@[reducible] def qi(a b:Nat):AI:= .fldA a (.t b)
@[reducible] def qj(a:Int):AOp:= .c (qg a)
@[reducible] def qk(a:Option Nat)(b:Nat):AI:= .ld a (.t b)
@[reducible] def ql(a:BinOp)(b:Nat)(c:AOp):AI:= .bin a (.t b) c
@[reducible] def qm(a:Nat):AI:=qk none a
@[reducible] def qn(a:Nat)(b:FuncId)(c:List AOp):CO:=qb a (.call b c)
@[reducible] def qo(a:Option (Nat × Bool))(b:AI):CO:=⟨none,a,b⟩
@[reducible] def qp(a b c:Nat):CO:=qb a (qi b c)
@[reducible] def qt(a b:Nat):CO:=qb a (qm b)
@[reducible] def qu(a:Bool):AV:= .p (.bool a)
@[reducible] def qv(a:AI):CO:=qo none a
@[reducible] def qw(a:Nat)(b c:AK):AK:= .cond (.t a) b c
@[reducible] def qx:AV:=qg 0
@[reducible] def qy(a:Nat)(b:BinOp)(c:Nat)(d:AOp):CO:=qb a (ql b c d)
@[reducible] def qz(a:Nat):AI:= .nilck (.t a)
@[reducible] def qA(a:Option Nat)(b c:Nat):CO:=qv (.chk a b c)
@[reducible] def qB:AV:=qu false
@[reducible] def qC(a b:Nat)(c:Bool)(d:AI):CO:=qh a (b,c) d
@[reducible] def qD(a b:Nat)(c:AI):CO:=qC a b false c
@[reducible] def qF(a b:Nat)(c:AI):CO:=qC a b true c
@[reducible] def qG(a:Nat)(b:BinOp)(c:Nat)(d:Int):CO:=qy a b c (qj d)
@[reducible] def qH(a:List CO)(b c:AK):AK:= .seq (qe a b) c
@[reducible] def qI(a b:Nat)(c:AOp):AI:= .idxS a (.t b) c
@[reducible] def qJ(a:AOp):AI:= .len false a
@[reducible] def qK(a:List CO):AK:=qe a .ret
@[reducible] def qL(a:Nat)(b c:AOp):AI:= .pick (.t a) b c
@[reducible] def qM(a:Nat)(b c:AOp):CO:=qv (.st a b c)
@[reducible] def qN(a b:Nat)(c:List AV)(d:Nat)(e:List (Nat × Nat × AOp)):CO:=qb a (.bsl b c d e)
@[reducible] def qO(a:List UInt8):AV:= .p (.str a)
@[reducible] def qP(a b:Nat):CO:=qA none a b
@[reducible] def qQ(a:Nat):AI:= .mov (.t a)
@[reducible] def qR:AOp:=qj 0
@[reducible] def qS(a b:Nat)(c:AOp):CO:=qM a (.t b) c
@[reducible] def qT(a b:Nat):AI:=qk (some a) b
@[reducible] def qU(a b c:Nat):CO:=qS a b (.t c)
@[reducible] def qV:AOp:= .c qB
@[reducible] def qW(a b:Nat):CO:=qb a (qz b)
@[reducible] def qX(a:Nat)(b:List AV):CO:=qb a (.alloc b)
@[reducible] def qY(a:Nat)(b:AK):AK:= .blk a (.loop b)
@[reducible] def qZ(a:Nat):AI:=qJ (.t a)
@[reducible] def wa(a b:List CO)(c:AK):AK:=qe a (qe b c)
@[reducible] def wb(a:Nat)(b:AK):AK:=qw a b .skip
@[reducible] def wd(a:Nat)(b:List AOp):CO:=qn a bu b
@[reducible] def we(a b c:Nat):AI:=qI a b (.t c)
@[reducible] def wg(a:Nat)(b c:AK):AK:= .seq (.blk a b) c
@[reducible] def wh(a:Nat):CO:=qf a 0
@[reducible] def wi(a:List CO)(b c:OT):OT:= .alt (.one a b) c
@[reducible] def wj(a b:Nat):CO:=qb a (qZ b)
@[reducible] def wl:AV:=qO []
@[reducible] def wm(a:Nat)(b:AK)(c:Nat):AK:=qw a b (.exit c)
@[reducible] def wn(a b:Nat)(c d:AOp):CO:=qb a (qL b c d)
@[reducible] def wo:AV:=qu true
@[reducible] def wq(a b c:Nat):Nat × Nat × AOp:=(a,b,.t c)
@[reducible] def wt(a b c:Nat):CO:=qb a (qT b c)
@[reducible] def wu(a:Nat)(b:BinOp)(c d:Nat):CO:=qy a b c (.t d)
@[reducible] def wv(a b c d:Nat):CO:=qb a (we b c d)
@[reducible] def ww(a:Nat)(b:List AV)(c:List (Nat × Nat × AOp)):CO:=qb a (.bld b c)
@[reducible] def wx(a:Nat)(b:AK)(c:List CO):AK:=wg a b (.reg c)
@[reducible] def wy(a:Nat)(b:List AOp):CO:=qn a aY b
@[reducible] def wz(a:Nat):AI:= .not (.t a)
@[reducible] def wA(a:Nat)(b:List CO):AK:=wb a (qK b)
@[reducible] def wB(a b:Nat):AK:=wm a .skip b
@[reducible] def wC(a b:Nat):Nat × Nat × AOp:=wq a 1 b
@[reducible] def wD(a b:Nat):AI:= .box a (.t b)
@[reducible] def wE(a b c:Nat)(d:AOp):AI:= .app a b (.t c) d
@[reducible] def wF(a:Nat)(b:AOp):List CO:=[qc a b]
@[reducible] def wG:AOp:= .c wo
@[reducible] def wH(a b:Nat)(c:Int):CO:=qG a .add b c
@[reducible] def wI:AOp:=qj 1
@[reducible] def wJ(a b:Nat)(c:Int):CO:=qG a .eql b c
@[reducible] def wK(a b c:Nat):CO:=qF a b (qQ c)
@[reducible] def wL(a b c:Nat):CO:=wu a .lss b c
@[reducible] def wM(a b c:Nat):CO:=qF a b (qm c)
@[reducible] def wN(a:Nat)(b:AOp):List AOp:=[.t a,b]
@[reducible] def wO(a b:Nat):List AOp:=wN a (.t b)
@[reducible] def wP(a:List CO)(b:AK)(c:List CO):AK:=qH a b (qK c)
@[reducible] def wQ(a b c:Nat):CO:=qD a b (qQ c)
@[reducible] def wR(a:List CO)(b:OT):OT:=wi a b .tru
@[reducible] def wS(a b c:Nat):CO:=qb a (wD b c)
@[reducible] def wT(a:Nat)(b:List CO)(c d:AK):AK:=qY a (qH b c d)
@[reducible] def wU(a b c d:Nat):AI:=wE a b c (.t d)
@[reducible] def wV(a b:Nat)(c:AOp)(d:Nat):CO:=wn a b c (.t d)
@[reducible] def wW(a:Nat)(b:List CO)(c d:Nat)(e:AK):AK:=wT a b (wB c d) e
@[reducible] def wX(a b c d e:Nat):CO:=qb a (wU b c d e)
@[reducible] def wY(a b:Nat)(c:AOp):AK:=wA a (wF b c)
@[reducible] def wZ(a b c:Nat):CO:=qD a b (qm c)
@[reducible] def xa(a b c:Nat)(d:AOp):CO:=wn a b (.t c) d
@[reducible] def xb(a:Nat)(b:List AOp):CO:=qn a bF b
@[reducible] def xc(a:Nat)(b:FuncId)(c d:Nat):CO:=qn a b (wO c d)
@[reducible] def xd(a:Nat):List CO:=wF a qR
@[reducible] def xe(a:List AOp):AI:= .call gM a
@[reducible] def xf(a:Nat)(b:List CO)(c d e:Nat)(f:AK)(g:List CO):AK:=wW a b c d (wx e f g)
@[reducible] def xg(a:Nat):CO:=qf a 5
@[reducible] def xh(a b:Nat)(c:Int):Nat × Nat × AOp:=(a,b,qj c)
@[reducible] def xi(a:Nat)(b:Int):Nat × Nat × AOp:=xh a 1 b
@[reducible] def xj(a b:Nat):CO:=qp a 0 b
@[reducible] def xk(a b c d:Nat):CO:=qF a b (qi c d)
@[reducible] def xl(a b:Nat)(c:Int):CO:=qG a .sub b c
@[reducible] def xm(a:Nat):CO:=qf a 6
@[reducible] def xo(a b:Nat)(c:BinOp)(d:Nat)(e:AOp):CO:=qF a b (ql c d e)
@[reducible] def xp(a:Nat)(b:List AOp):CO:=qn a bK b
@[reducible] def xq(a b c d:Nat):CO:=qD a b (qi c d)
@[reducible] def xr(a b:Nat):CO:=qp a 2 b
@[reducible] def xt(a:Nat):List AOp:=[.t a]
@[reducible] def xu(a:Nat)(b:FuncId)(c:Nat):CO:=qn a b (xt c)
@[reducible] def xv(a:Nat)(b:List AOp):CO:=qn a bg b
@[reducible] def xx(a:Nat)(b:Int):List AOp:=wN a (qj b)
@[reducible] def xy(a:Nat):CO:=qf a 4
@[reducible] def xz(a b:Nat):CO:=qp a 1 b
@[reducible] def xA(a b:Nat):CO:=qU 1 a b
@[reducible] def xB(a b:Nat):RV:= .c a (some b)
@[reducible] def xC(a:CO)(b c:Nat):List CO:=[a,qf b c]
@[reducible] def xD(a:List CO)(b:Nat)(c d:AK):AK:=qe a (qw b c d)
@[reducible] def xE(a:Nat):List RV:=[.t a]
@[reducible] def xF(a:Nat):CO:=qf a 1
@[reducible] def xG:List AV:=[qx]
@[reducible] def xH(a b c:Nat)(d:List (Nat × Nat × AOp)):CO:=qN a b xG c d
@[reducible] def xI(a:List CO)(b c:AK):AK:= .cut (qe a b) c
@[reducible] def xJ(a b:Nat):CO:=xu a bm b
@[reducible] def xK(a b c:Nat):CO:=wV a b wG c
@[reducible] def xL(a:List AOp):AI:= .call bu a
@[reducible] def xM(a b c:Nat):CO:=xa a b c qV
@[reducible] def xN(a:Nat)(b:List AOp):CO:=qn a dU b
@[reducible] def xO:List AV:=[.nils]
@[reducible] def xP(a b:Nat)(c:Int)(d e:Nat):List CO:=xC (wJ a b c) d e
@[reducible] def xQ(a b:CO)(c d:Nat):List CO:=[a,b,qf c d]
@[reducible] def xR(a:Nat)(b:List CO)(c d e:Nat)(f:AK)(g h:CO)(i j:Nat):AK:=xf a b c d e f (xQ g h i j)
@[reducible] def xS(a:Nat)(b:List CO)(c d e:Nat)(f:AK)(g:CO)(h i:Nat)(j:Int)(k l:Nat):AK:=xR a b c d e f g (wH h i j) k l
@[reducible] def xT(a b:List CO):AK:=qe a (qK b)
@[reducible] def xU(a:Nat)(b:List AOp):CO:=qn a gM b
@[reducible] def xV(a:Nat)(b:AK)(c:List CO):AK:=wP (xd a) b c
@[reducible] def xW(a:Nat):Nat × Nat × AOp:=wC 0 a
@[reducible] def xX(a b:Nat)(c:List AV)(d:Nat)(e:List (Nat × Nat × AOp)):CO:=qb a (.bslP b c d e)
@[reducible] def xY(a b:Nat)(c:BinOp)(d:Nat)(e:AOp):CO:=qD a b (ql c d e)
@[reducible] def xZ:List RV:=xE 4
@[reducible] def x9(a b:Nat):CO:=qb a (wz b)
@[reducible] def ya:List RV:=xE 2
@[reducible] def yb(a:Nat):CO:=qf a 7
@[reducible] def yc(a:Nat):CO:=qP a 10
@[reducible] def ye:CO:=yc 9
@[reducible] def yf(a:Nat):CO:=qP 11 a
@[reducible] def yg:CO:=yf 12
@[reducible] def yh(a b c:Nat):CO:=wy a (wO b c)
@[reducible] def yi(a b:Nat):AK:=wY a b qV
@[reducible] def yj(a:Nat)(b c:AOp):List AOp:=[.t a,b,c]
@[reducible] def yk(a:Nat)(b:AOp)(c:Nat):List AOp:=yj a b (.t c)
@[reducible] def yl(a b c:Nat):List AOp:=yk a (.t b) c
@[reducible] def ym(a b:Nat)(c:List (Nat × Nat × AOp)):CO:=xH a 1 b c
@[reducible] def yn(a:Nat):CO:=qf a 3
@[reducible] def yp(a:List UInt8):AOp:= .c (qO a)
def jZ:FK:=⟨11,ya,qe (wF 2 (.c .nilp)) (wP [wh 3,wj 4 3,qG 5 .gtr 4 2000] (wb 5 (.reg (xQ (wh 6) (qb 7 (.slS 1 (.t 6) none (some (qj 2000)))) 0 7))) [wh 8,ww 9 [.nils,qx] [xW 8],wS 10 2 9,qf 2 10])⟩
theorem rq:ay Try.prog dM=some jZ:=by kernel_rfl
def cE:FK:=⟨99,xZ,wa (xd 4) [wh 7,wh 8,qW 9 8,xz 10 9,qt 11 10,wH 12 11 1,qW 13 7,xz 14 13,xA 14 12] (qH [xF 15,qG 16 .lss 15 1,qf 17 16,wQ 18 17 0,qD 19 17 (qz 18),xq 20 17 0 19,wZ 21 17 20,qD 22 17 (qZ 21),xY 23 17 .eql 22 qR,xK 24 17 23] (wY 24 4 qR) (qe [wh 25,qW 26 25,xz 27 26,qt 28 27,xl 29 28 1,qf 5 29] (qH [xg 30,wh 31,qW 32 31,xj 33 32,qt 34 33,wj 35 34,wL 36 30 35] (wA 36 [wh 37,qW 38 37,xj 39 38,qt 40 39,xg 41,wv 42 1 40 41,qt 43 42,qb 44 (.conv .i64 (.t 43)),xF 45,wu 46 .rem 44 45,qf 4 46]) (wa [wh 47,qW 48 47,xj 49 48,xg 51,wh 52,qW 53 52,xj 54 53,wh 62,qW 63 62,xj 64 63,xg 66,qG 67 .mul 66 7,wH 68 67 3,wh 69,qW 70 69,xj 71 70,xg 80,qG 81 .mul 80 29,xg 83,wh 84,qW 85 84,xj 86 85,qt 50 49,qt 55 54,wj 56 55,wu 57 .rem 51 56,wv 58 1 50 57,qt 59 58,qb 60 (.conv .i64 (.t 59)),qG 61 .mul 60 131,qt 65 64,qt 72 71,wj 73 72,wu 74 .rem 68 73,wv 75 1 65 74,qt 76 75,qb 77 (.conv .i64 (.t 76)),qG 78 .mul 77 1117,wu 79 .add 61 78,wu 82 .add 79 81,qt 87 86,wj 88 87,wu 89 .quo 83 88,qG 90 .mul 89 53,wu 91 .add 82 90,qf 6 91] [xm 92,xm 93,qG 94 .quo 93 64,wu 95 .xor 92 94,qf 6 95] (qK [xm 96,xF 97,wu 98 .rem 96 97,qf 4 98])))))⟩
theorem mj:ay Try.prog bu=some cE:=by kernel_rfl
def cS:FK:=⟨12,xZ,xT (xd 4) [xF 5,wh 6,xF 7,wj 8 7,wd 9 (wO 6 8),wv 10 1 5 9,qt 11 10,qf 4 11]⟩
theorem er:ay Try.prog aY=some cS:=by kernel_rfl
def jR:FK:=⟨15,xE 6,xT (wF 6 qV) [wh 7,xF 8,wu 9 .geq 7 8,qf 10 9,wK 11 10 0,wK 12 10 2,xo 13 10 .leq 11 (.t 12),xM 14 10 13,qf 6 14]⟩
theorem uR:ay Try.prog gM=some jR:=by kernel_rfl
def bV:FK:=⟨28,ya,qe (xd 2) (wg 0 (xD [wh 4,wJ 5 4 1,xg 3] 3 (qK (xd 2)) (xD [wh 7,wJ 8 7 2,qf 9 8,wQ 10 9 0,xY 11 9 .eql 10 (qj 10),xK 12 9 11,qf 13 12,wQ 14 13 0,xY 15 13 .eql 14 (qj 11),xK 16 13 15,qf 17 16,wQ 18 17 0,xY 19 17 .eql 18 (qj 13),xK 20 17 19,qf 6 20] 6 (qK (wF 2 wI)) (qe [wh 22,xU 23 (yj 22 (qj 3) (qj 9)),qf 24 23,wQ 25 24 0,xY 26 24 .eql 25 (qj 12),xK 27 24 26,qf 21 27] (wY 21 2 (qj 2))))) (qK (wF 2 (qj (-1)))))⟩
theorem sx:ay Try.prog eQ=some bV:=by kernel_rfl
def jW:FK:=⟨13,ya,xT (wF 2 qV) [wh 3,xU 4 (yj 3 wI (qj 14)),xy 5,wK 6 5 0,xo 7 5 .neq 6 (qj 12),xM 8 5 7,qf 9 8,wK 10 9 0,xo 11 9 .neq 10 (qj 13),xM 12 9 11,qf 2 12]⟩
theorem pJ:ay Try.prog cK=some jW:=by kernel_rfl
def iF:AK:=wa [wS 4 1 1,qX 6 [qx,qx,.nils,qx]] [wh 11,ym 12 16 [(0,1,wI),(1,1,wI),xi 2 2,xi 3 3,xi 4 4,xi 5 5,xi 6 8,xi 7 9,xi 8 10,xi 9 13,xi 10 3,xi 11 6,xi 12 7,xi 13 11,xi 14 12,xi 15 14],yh 13 11 12,qf 7 13] (wa [yb 14,wh 15,qf 16 2,wd 17 (wO 15 16),ww 18 [qx,qx,.nils,qx] [xW 14,wC 1 17],qX 8 [qx,qx,.nils,qx],qU 4 8 18] (xQ (yb 19) (xu 20 eQ 19) 9 20) (xI [yb 21,wJ 22 21 14] (wb 22 (qH [xj 23 4,qt 24 23,wj 25 24,wJ 26 25 0] (wA 26 [wh 27,qf 28 2,wd 29 (wO 27 28),ym 30 1 [xW 29],ww 31 [qx,qx,.nils,qx] [xi 0 13,xi 1 (-1),wC 2 30],qU 4 6 31]) (qe [wh 32,xj 33 4,qt 34 33,wj 35 34,wd 36 (wO 32 35),qp 37 3 8,xA 37 36] (.reg [xj 38 4,qt 39 38,qp 40 3 8,qt 41 40,wv 42 3 39 41,xj 43 42,qt 44 43,qf 9 44])))) (xI [yb 45,wJ 46 45 1] (wb 46 (.reg [wh 47,ym 48 7 [(0,1,qR),(1,1,wI),xi 2 2,xi 3 3,xi 4 15,xi 5 16,xi 6 255],yh 49 47 48,qp 50 3 8,xA 50 49])) (xI [yb 51,xu 52 cK 51,x9 53 52] (wb 53 (.reg [xz 54 8,qS 1 54 (qj (-1))])) (xV 10 (xS 0 [qf 55 10,qf 56 9,wL 57 55 56] 57 0 1 (.reg [xr 60 8,wh 62,qf 63 2,qt 61 60,wd 64 (wO 62 63),qP 60 61,xX 65 1 xG 1 [xW 64],wX 66 1 8 61 65,xr 67 8,xA 67 66]) (qf 58 10) 59 58 1 10 59) [wt 68 4 8,qU 4 6 68])))))
def iz:FK:=⟨69,[xB 6 4],(AK.whole iF)⟩
theorem su:ay Try.prog iC=some iz:=by kernel_rfl
def jI:FK:=⟨30,xE 6,qe (xd 6) (wP [xF 7,qf 8 2,xl 9 8 1,wL 10 7 9,qf 11 10,wK 12 11 0,qF 13 11 (xL (xx 12 4)),xo 14 11 .gtr 13 qR,xM 15 11 14] (wA 15 [xF 16,wH 17 16 1,wh 18,qf 19 2,xl 20 19 1,xF 21,wu 22 .sub 20 21,wd 23 (wO 18 22),wu 24 .add 17 23,qf 6 24]) [wh 25,qf 26 2,xl 27 26 1,wd 28 (wO 25 27),qb 29 (.bin .add wI (.t 28)),qf 6 29])⟩
theorem yD:ay Try.prog eX=some jI:=by kernel_rfl
def ik:AK:=wa [wS 3 1 1,qX 4 [qx,qx,.nils]] [wh 10,ym 11 4 [(0,1,wI),(1,1,qR),xi 2 2,xi 3 3],yh 12 10 11,ww 13 [qx,qx,.nils] [xW 12],qX 5 [qx,qx,.nils],qU 3 5 13] (wa [xj 14 5,wh 17,qt 15 14,wH 16 15 2,wd 18 (xx 17 5),qP 14 15,wu 19 .add 16 18,xz 20 5,xA 20 19] [wh 21,ym 22 6 [xi 0 3,xi 1 5,xi 2 2,(3,1,wI),xi 4 7,xi 5 4],yh 23 21 22,qf 6 23] (xV 7 (xS 0 [yb 24,xm 25,wL 26 24 25] 26 0 1 (qe [ww 29 [.nils,.nils,qx,qx,.nils] [],qX 8 [.nils,.nils,qx,qx,.nils],qU 5 8 29] (xI [wh 30,ym 31 5 [(0,1,wI),xi 1 2,(2,1,qR),xi 3 3,xi 4 4],yh 32 30 31,qf 9 32] (xR 2 [qf 33 9,qG 34 .gtr 33 0] 34 2 3 (.reg [xz 37 8,wh 39,xz 41 5,qt 38 37,wt 40 1 3,qt 42 41,qn 43 iC (yl 39 40 42),qP 37 38,qN 44 4 [qx,qx,.nils,qx] 1 [wq 0 4 43],qP 37 38,wX 45 4 48 38 44,xz 46 8,xA 46 45]) (qf 35 9) (xl 36 35 1) 9 36) (wa [wh 47,xz 48 5,qt 49 48,wd 50 (wO 47 49),qp 51 3 8,xA 51 50] [wh 52,ym 53 5 [xi 0 2,(1,1,wI),xi 2 2,(3,1,wI),xi 4 3],yh 54 52 53,xr 55 8,xA 55 54] (xI [xm 56,wJ 57 56 1,qf 58 57,wQ 59 58 7,wQ 60 58 6,xY 61 58 .sub 60 wI,xY 62 58 .eql 59 (.t 61),wQ 63 58 62,wK 64 63 0,qF 65 63 (xL (xx 64 3)),xo 66 63 .gtr 65 qR,qD 67 58 (qL 63 (.t 66) qV),xK 68 58 67] (wb 68 (.reg [xr 69 8,qS 1 69 (qj 3)])) (xI [xr 70 8,qt 71 70] (.blk 4 (xD (xP 73 71 1 72 73) 72 (qe [qp 74 3 8,qS 1 74 qR] (.reg [wh 75,yb 76,xm 77,qn 78 eX (yl 75 76 77),ym 79 1 [xW 78],qp 80 4 8,xA 80 79])) (qe (xP 82 71 2 81 82) (wb 81 (.reg [wh 83,yb 84,xm 85,qn 86 eX (yl 83 84 85),wh 87,yb 88,xm 89,qn 90 eX (yl 87 88 89),ym 91 2 [xW 86,wC 1 90],qp 92 4 8,xA 92 91]))))) (.reg [xr 93 5,qt 94 93,wt 95 5 8,qN 96 5 [.nils,.nils,qx,qx,.nils] 1 [wq 0 5 95],wX 97 5 88 94 96,xr 98 5,xA 98 97])))))) (yb 27) 28 27 1 7 28) [wt 99 3 5,qU 3 4 99]))
def ig:FK:=⟨100,[xB 4 3],(AK.whole ik)⟩
theorem sv:ay Try.prog ii=some ig:=by kernel_rfl
def kf:FK:=⟨43,xZ,wa [wS 2 3 0,qc 4 (.c .nils)] (xC (ym 8 0 []) 5 8) (xV 6 (xS 0 [xm 9,xr 10 2,qt 11 10,wj 12 11,wL 13 9 12] 13 0 1 (qe (xd 7) (xS 2 [yb 16,xr 17 2,qt 18 17,xm 19,wv 20 5 18 19,qp 21 4 20,qt 22 21,wj 23 22,wL 24 16 23] 24 2 3 (qe [xr 27 2,qt 28 27,xm 29,wv 30 5 28 29,qp 31 4 30,qt 32 31,yb 33,wv 34 1 32 33,qt 35 34,xF 36,wu 37 .eql 35 36] (wb 37 (qe [xg 38,xm 39,ym 40 1 [xW 39],wX 41 1 8 38 40,qf 5 41] (.exit 2)))) (yb 25) 26 25 1 7 26)) (xm 14) 15 14 1 6 15) (xC (xg 42) 4 42))⟩
theorem rb:ay Try.prog cL=some kf:=by kernel_rfl
def gZ:AK:=wa [qX 2 xO] [ww 9 xO [],qX 3 xO,xA 3 9] (xI [wh 10,ym 11 4 [(0,1,wI),xi 1 2,(2,1,wI),xi 3 3],yh 12 10 11,qf 4 12] (xR 0 [xy 13,qG 14 .gtr 13 0] 14 0 1 (.reg [xj 17 3,wh 19,qt 18 17,wt 20 1 3,xc 21 ii 19 20,qP 17 18,qN 22 3 [qx,qx,.nils] 1 [wq 0 3 21],qP 17 18,wX 23 3 40 18 22,xj 24 3,xA 24 23]) (xy 15) (xl 16 15 1) 4 16) (wP [wh 25,ym 26 4 [(0,1,qR),(1,1,qR),(2,1,wI),xi 3 3],yh 27 25 26,qf 5 27] (xR 2 [xg 28,qG 29 .gtr 28 0] 29 2 3 (wa [xj 32 3,wh 34,xj 35 3,qt 33 32,qt 36 35,wj 37 36,wd 38 (wO 34 37),qP 32 33,wv 39 3 33 38,qf 6 39] [wh 40,xm 41,qW 42 41,xr 43 42,qt 44 43,wj 45 44,wd 46 (wO 40 45),qf 7 46] (qe [wh 47,xm 48,qW 49 48,xz 50 49,qt 51 50,wd 52 (wO 47 51),ww 53 [qx,.nils] [xW 52],qX 8 [qx,.nils],qU 2 8 53] (xI [xm 54,qW 55 54,wt 56 3 55,yb 57,xc 58 cL 56 57,wj 59 58,qc 60 qR] (qY 4 (qe [wL 61 60 59] (.seq (wB 61 4) (wx 5 (.reg [xz 62 8,wh 64,xm 65,qW 66 65,xz 67 66,qt 63 62,qt 68 67,wd 69 (wO 64 68),qP 62 63,xX 70 1 xG 1 [xW 69],wX 71 1 8 63 70,xz 72 8,xA 72 71]) (xC (wH 73 60 1) 60 73))))) (qe [yb 74,qG 75 .gtr 74 0] (wb 75 (.reg [xm 76,qW 77 76,xr 78 77,yb 80,xm 81,qW 82 81,xr 83 82,yb 85,qt 79 78,qt 84 83,wv 86 5 84 85,xj 87 86,qt 88 87,wt 89 2 8,qN 90 2 [qx,.nils] 1 [wq 0 2 89],qP 78 79,qP 83 84,qP 87 88,wX 91 2 32 88 90,qP 78 79,wv 92 5 79 80,xj 93 92,xA 93 91])))))) (xg 30) (xl 31 30 1) 5 31) [wt 94 1 3,xA 2 94]))
def iy:FK:=⟨95,[xB 2 1],(AK.whole gZ)⟩
theorem sO:ay Try.prog dg=some iy:=by kernel_rfl
def dx:AK:=qe [wS 1 5 0,qX 2 [.nils,.nils,qx,qx,.nils]] (.cut (.ot (.one (wF 3 (.c .any)) (.one [xr 9 1] (.one [qp 11 3 1] (.one [qp 14 4 1] (.one [qt 10 9] (.one [qt 12 11] (.one [qt 15 14] (wi [qN 7 2 [qx,.nils] 0 [],ye,yg,qP 14 15] (wi [qN 8 4 [qx,qx,.nils,qx] 0 [],ye,yg,qP 14 15] (wR [ym 13 0 [],ye,yg,qP 14 15] (wR [wX 16 1 8 13 15,ye,yg] (.one [ww 17 [.nils,.nils,qx,qx,.nils] [xW 7,wC 1 8,wC 2 10,wC 3 12,wC 4 16]] (wR [qX 3 [.nils,.nils,qx,qx,.nils]] (wR [qU 5 3 17] .done))))) (wR [ym 13 0 [],ye,yg,qP 14 15] (wi [qN 8 4 [qx,qx,.nils,qx] 0 [],ye,yg,qP 14 15] (wR [wX 16 1 8 13 15,ye,yg] (.one [ww 17 [.nils,.nils,qx,qx,.nils] [xW 7,wC 1 8,wC 2 10,wC 3 12,wC 4 16]] (wR [qX 3 [.nils,.nils,qx,qx,.nils]] (wR [qU 5 3 17] .done)))) (wR [wX 16 1 8 13 15,ye,yg] (wR [qN 8 4 [qx,qx,.nils,qx] 0 [],ye,yg,qP 14 15] (.one [ww 17 [.nils,.nils,qx,qx,.nils] [xW 7,wC 1 8,wC 2 10,wC 3 12,wC 4 16]] (wR [qX 3 [.nils,.nils,qx,qx,.nils]] (wR [qU 5 3 17] .done)))))))) (wi [qN 8 4 [qx,qx,.nils,qx] 0 [],ye,yg,qP 14 15] (wi [qN 7 2 [qx,.nils] 0 [],ye,yg,qP 14 15] (wR [ym 13 0 [],ye,yg,qP 14 15] (wR [wX 16 1 8 13 15,ye,yg] (.one [ww 17 [.nils,.nils,qx,qx,.nils] [xW 7,wC 1 8,wC 2 10,wC 3 12,wC 4 16]] (wR [qX 3 [.nils,.nils,qx,qx,.nils]] (wR [qU 5 3 17] .done))))) (wR [ym 13 0 [],ye,yg,qP 14 15] (wi [qN 7 2 [qx,.nils] 0 [],ye,yg,qP 14 15] (wR [wX 16 1 8 13 15,ye,yg] (.one [ww 17 [.nils,.nils,qx,qx,.nils] [xW 7,wC 1 8,wC 2 10,wC 3 12,wC 4 16]] (wR [qX 3 [.nils,.nils,qx,qx,.nils]] (wR [qU 5 3 17] .done)))) (wR [wX 16 1 8 13 15,ye,yg] (wR [qN 7 2 [qx,.nils] 0 [],ye,yg,qP 14 15] (.one [ww 17 [.nils,.nils,qx,qx,.nils] [xW 7,wC 1 8,wC 2 10,wC 3 12,wC 4 16]] (wR [qX 3 [.nils,.nils,qx,qx,.nils]] (wR [qU 5 3 17] .done)))))))) (wR [ym 13 0 [],ye,yg,qP 14 15] (wi [qN 7 2 [qx,.nils] 0 [],ye,yg,qP 14 15] (wi [qN 8 4 [qx,qx,.nils,qx] 0 [],ye,yg,qP 14 15] (wR [wX 16 1 8 13 15,ye,yg] (.one [ww 17 [.nils,.nils,qx,qx,.nils] [xW 7,wC 1 8,wC 2 10,wC 3 12,wC 4 16]] (wR [qX 3 [.nils,.nils,qx,qx,.nils]] (wR [qU 5 3 17] .done)))) (wR [wX 16 1 8 13 15,ye,yg] (wR [qN 8 4 [qx,qx,.nils,qx] 0 [],ye,yg,qP 14 15] (.one [ww 17 [.nils,.nils,qx,qx,.nils] [xW 7,wC 1 8,wC 2 10,wC 3 12,wC 4 16]] (wR [qX 3 [.nils,.nils,qx,qx,.nils]] (wR [qU 5 3 17] .done)))))) (wi [qN 8 4 [qx,qx,.nils,qx] 0 [],ye,yg,qP 14 15] (wi [qN 7 2 [qx,.nils] 0 [],ye,yg,qP 14 15] (wR [wX 16 1 8 13 15,ye,yg] (.one [ww 17 [.nils,.nils,qx,qx,.nils] [xW 7,wC 1 8,wC 2 10,wC 3 12,wC 4 16]] (wR [qX 3 [.nils,.nils,qx,qx,.nils]] (wR [qU 5 3 17] .done)))) (wR [wX 16 1 8 13 15,ye,yg] (wR [qN 7 2 [qx,.nils] 0 [],ye,yg,qP 14 15] (.one [ww 17 [.nils,.nils,qx,qx,.nils] [xW 7,wC 1 8,wC 2 10,wC 3 12,wC 4 16]] (wR [qX 3 [.nils,.nils,qx,qx,.nils]] (wR [qU 5 3 17] .done)))))) (wR [wX 16 1 8 13 15,ye,yg] (wi [qN 7 2 [qx,.nils] 0 [],ye,yg,qP 14 15] (wR [qN 8 4 [qx,qx,.nils,qx] 0 [],ye,yg,qP 14 15] (.one [ww 17 [.nils,.nils,qx,qx,.nils] [xW 7,wC 1 8,wC 2 10,wC 3 12,wC 4 16]] (wR [qX 3 [.nils,.nils,qx,qx,.nils]] (wR [qU 5 3 17] .done)))) (wR [qN 8 4 [qx,qx,.nils,qx] 0 [],ye,yg,qP 14 15] (wR [qN 7 2 [qx,.nils] 0 [],ye,yg,qP 14 15] (.one [ww 17 [.nils,.nils,qx,qx,.nils] [xW 7,wC 1 8,wC 2 10,wC 3 12,wC 4 16]] (wR [qX 3 [.nils,.nils,qx,qx,.nils]] (wR [qU 5 3 17] .done)))))))))))))))))))) (xI (xd 4) (xS 0 [xy 18,xj 19 1,qt 20 19,wj 21 20,wL 22 18 21] 22 0 1 (.reg [xj 25 3,xj 27 1,xy 29,xj 34 1,xy 36,qt 26 25,qt 28 27,wv 30 2 28 29,xj 31 30,qt 32 31,qt 35 34,wv 37 2 35 36,xz 38 37,qt 39 38,ym 33 0 [],qP 25 26,qP 27 28,qP 31 32,qP 34 35,qP 38 39,wX 40 1 8 33 39,qP 25 26,qP 27 28,qP 31 32,ww 41 [qx,.nils] [xW 32,wC 1 40],qN 42 2 [qx,.nils] 1 [wq 0 2 41],qP 25 26,wX 43 2 32 26 42,xj 44 3,xA 44 43]) (xy 23) 24 23 1 4 24) (xV 5 (xS 2 [xg 45,xz 46 1,qt 47 46,wj 48 47,wL 49 45 48] 49 2 3 (qe [xz 52 1,qt 53 52,xg 54,wv 55 4 53 54,wt 56 4 55,qX 6 [qx,qx,.nils,qx],qU 4 6 56] (.reg [xz 57 3,xj 59 6,xz 61 6,xr 64 6,qp 67 3 6,qt 58 57,qt 60 59,qt 62 61,qt 65 64,qt 68 67,ym 63 0 [],qP 57 58,qP 59 60,qP 61 62,qP 64 65,qP 67 68,wX 66 1 8 63 65,qP 57 58,qP 59 60,qP 61 62,qP 67 68,ww 69 [qx,qx,.nils,qx] [xW 60,wC 1 62,wC 2 66,wC 3 68],qN 70 4 [qx,qx,.nils,qx] 1 [wq 0 4 69],qP 57 58,wX 71 4 48 58 70,xz 72 3,xA 72 71])) (xg 50) 51 50 1 5 51) [wt 73 5 3,qU 5 2 73])))
def dv:FK:=⟨74,[xB 2 5],(AK.whole dx)⟩
theorem lY:ay Try.prog dr=some dv:=by kernel_rfl
def la:FK:=⟨29,[xB 2 3],wa [wS 1 3 0,qX 2 [qx,qx,.nils]] [xj 5 1,qt 6 5,xz 7 1,qt 8 7,ww 9 [qx,qx,.nils] [xW 6,wC 1 8],qX 3 [qx,qx,.nils],qU 3 3 9] (xV 4 (xS 0 [xy 10,xr 11 1,qt 12 11,wj 13 12,wL 14 10 13] 14 0 1 (.reg [xr 17 3,xr 19 1,xy 21,qt 18 17,qt 20 19,wv 22 5 20 21,wt 23 5 22,xu 24 dr 23,qP 17 18,qN 25 5 [.nils,.nils,qx,qx,.nils] 1 [wq 0 5 24],qP 17 18,wX 26 5 88 18 25,xr 27 3,xA 27 26]) (xy 15) 16 15 1 4 16) [wt 28 3 3,qU 3 2 28])⟩
theorem sj:ay Try.prog iB=some la:=by kernel_rfl
def gQ:FK:=⟨25,[xB 2 1],wa [wS 1 1 0,qX 2 xO] [ww 5 xO [],qX 3 xO,xA 3 5] (xV 4 (xS 0 [xy 6,xj 7 1,qt 8 7,wj 9 8,wL 10 6 9] 10 0 1 (.reg [xj 13 3,xj 15 1,xy 17,qt 14 13,qt 16 15,wv 18 3 16 17,wt 19 3 18,xu 20 iB 19,qP 13 14,qN 21 3 [qx,qx,.nils] 1 [wq 0 3 20],qP 13 14,wX 22 3 40 14 21,xj 23 3,xA 23 22]) (xy 11) 12 11 1 4 12) [wt 24 1 3,xA 2 24])⟩
theorem nq:ay Try.prog dW=some gQ:=by kernel_rfl
def iE:AK:=wa [qX 2 xO] [wh 7,xu 8 dg 7,xu 9 dW 8,qX 3 xO,xA 3 9] (wa [xj 10 3,wh 12,xj 13 3,qt 11 10,qt 14 13,wj 15 14,wd 16 (wO 12 15),qP 10 11,wv 17 3 11 16,qf 4 17] [xy 18,qW 19 18,xr 20 19,wh 22,xy 23,qW 24 23,xr 25 24,qt 21 20,qt 26 25,wj 27 26,wd 28 (wO 22 27),qP 20 21,wv 29 5 21 28,qf 5 29] (qe [wh 30,xy 31,qW 32 31,xz 33 32,xy 35,qW 36 35,xr 37 36,qt 34 33,qt 38 37,wj 39 38,ym 40 5 [xi 0 (-1),wC 1 34,wC 2 39,(3,1,qR),(4,1,wI)],yh 41 30 40,qf 6 41] (xI [wh 42,wd 43 (xx 42 32)] (.blk 0 (xD (xP 45 43 0 44 45) 44 (.reg [xg 46,wh 47,wd 48 (xx 47 5),qW 49 46,xr 50 49,xA 50 48]) (xD (xP 52 43 1 51 52) 51 (qe [xg 53,qW 54 53,qp 55 4 54,qt 56 55,wj 57 56,qG 58 .gtr 57 0] (wb 58 (.reg [xg 59,qW 60 59,qp 61 4 60,qt 62 61,xm 63,qb 64 (qI 1 62 qR),xA 64 63]))) (xD (xP 66 43 2 65 66) 65 (.reg [xg 67,xm 68,qW 69 67,qp 70 3 69,xA 70 68]) (xD (xP 72 43 3 71 72) 71 (qe [xg 73,qW 74 73,xz 75 74,qt 76 75,wj 77 76,qG 78 .gtr 77 0] (wb 78 (.reg [xg 79,qW 80 79,xz 81 80,qt 82 81,xm 83,qb 84 (qI 4 82 qR),xz 85 84,xA 85 83]))) (xD (xP 87 43 4 86 87) 86 (qe [xg 88,qW 89 88,xz 90 89,qt 91 90,wj 92 91,qG 93 .gtr 92 0] (wb 93 (.reg [xg 94,qW 95 94,xz 96 95,xg 98,qW 99 98,xz 100 99,xm 105,xX 106 1 xG 1 [xW 105],qt 97 96,qt 101 100,qb 102 (qI 4 101 qR),xr 103 102,qt 104 103,wX 107 1 8 104 106,qP 96 97,qb 108 (qI 4 97 qR),xr 109 108,xA 109 107]))) (xD (xP 111 43 5 110 111) 110 (.reg [xg 112,xg 113,qW 114 113,xj 115 114,qt 116 115,xm 117,ym 118 1 [xW 117],ww 119 [qx,.nils] [(0,1,qR),wC 1 118],qN 120 2 [qx,.nils] 1 [wq 0 2 119],wX 121 2 32 116 120,qW 122 112,xj 123 122,xA 123 121]) (xD (xP 125 43 6 124 125) 124 (.reg [xy 126,xy 127,qW 128 127,xj 129 128,wh 131,qt 130 129,wd 132 (xx 131 2),qP 129 130,wu 133 .add 130 132,qW 134 126,xz 135 134,xA 135 133]) (qe (xP 137 43 7 136 137) (wb 136 (qe [xg 138,qW 139 138,xz 140 139,qt 141 140,wj 142 141,qG 143 .gtr 142 0] (wb 143 (.reg [xg 144,qW 145 144,xz 146 145,wh 148,xX 149 1 xG 3 [xi 0 256,xi 1 (-1),(2,1,wI)],qt 147 146,yh 150 148 149,qP 146 147,qb 151 (qI 4 147 qR),qp 152 3 151,xA 152 150]))))))))))))) (qK [wt 153 1 3,xA 2 153]))))
def iG:FK:=⟨154,[xB 2 1],(AK.whole iE)⟩
theorem sF:ay Try.prog ib=some iG:=by kernel_rfl
def fg:FK:=⟨12,xZ,xT (wF 4 (.c wl)) [xF 5,wh 6,xF 7,wj 8 7,wd 9 (wO 6 8),wv 10 1 5 9,qt 11 10,qf 4 11]⟩
theorem jx:ay Try.prog bx=some fg:=by kernel_rfl
def iv:FK:=⟨21,[xB 4 4],qe [qX 4 [qx,qx,wl,.nils]] (wP [xF 5,wj 6 5,wJ 7 6 0,yb 8,wQ 9 8 0,qD 10 8 (xL (xx 9 3)),xY 11 8 .eql 10 qR,xK 12 8 11] (wA 12 [wh 13,ym 14 10 [(0,1,qR),(1,1,wI),xi 2 2,xi 3 3,xi 4 5,xi 5 7,xi 6 15,xi 7 16,xi 8 100,xi 9 255],yh 15 13 14,ww 16 [qx,qx,wl,.nils] [(0,1,wI),wC 1 15],qU 4 4 16]) [wh 17,xF 18,xc 19 bx 17 18,ww 20 [qx,qx,wl,.nils] [xi 0 2,wC 2 19],qU 4 4 20])⟩
theorem sL:ay Try.prog eS=some iv:=by kernel_rfl
def eG:FK:=⟨47,[xB 6 4],qe [qX 6 [qx,qx,wl,.nils]] (qH [qf 8 2,qG 9 .lss 8 2,qf 10 9,wQ 11 10 0,qD 12 10 (xL (xx 11 4)),xY 13 10 .eql 12 qR,xK 14 10 13] (wA 14 [wh 15,xF 16,xc 17 eS 15 16,qU 4 6 17]) (qH [wh 18,wd 19 (xx 18 7),wJ 20 19 0] (wA 20 [wh 21,ym 22 3 [xi 0 11,xi 1 12,xi 2 11],yh 23 21 22,wh 24,xF 25,qf 26 2,xl 27 26 1,qn 28 be (yl 24 25 27),qN 29 4 [qx,qx,wl,.nils] 1 [wq 0 4 28],ww 30 [qx,qx,wl,.nils] [xW 23,wC 3 29],qU 4 6 30]) (xT [wh 31,ym 32 9 [xi 0 3,xi 1 3,xi 2 4,xi 3 5,xi 4 6,xi 5 7,xi 6 8,xi 7 9,xi 8 10],yh 33 31 32,qf 7 33] [yb 34,wh 35,xF 36,qf 37 2,xl 38 37 1,qn 39 be (yl 35 36 38),wh 40,xF 41,qf 42 2,xl 43 42 1,qn 44 be (yl 40 41 43),qN 45 4 [qx,qx,wl,.nils] 2 [wq 0 4 39,wq 4 4 44],ww 46 [qx,qx,wl,.nils] [xW 34,wC 3 45],qU 4 6 46])))⟩
theorem kZ:ay Try.prog be=some eG:=by kernel_rfl
def gN:FK:=⟨99,[xB 4 4],wa [qX 4 [qx,qx,wl,.nils]] [qc 5 (.c .any),wh 9,qW 10 9,xj 11 10,wh 13,qW 14 13,xr 15 14,xF 17,qt 12 11,qt 16 15,qn 18 be (yl 12 16 17),qX 5 [qx,qx,wl,.nils],qU 4 5 18] (qH [wh 19,qW 20 19,xz 21 20,qt 22 21,wj 23 22,wJ 24 23 0,qf 25 24,wQ 26 25 0,qD 27 25 (qz 26),xq 28 25 0 27,wZ 29 25 28,qD 30 25 (xL (xx 29 4)),xY 31 25 .gtr 30 qR,xK 32 25 31] (wA 32 [wt 33 4 5,qU 4 4 33]) (wa [qc 6 (.c .any),wh 34,qW 35 34,xz 36 35,wh 38,qW 39 38,xj 40 39,wh 42,qW 43 42,xz 44 43,qt 37 36,qt 41 40,qt 45 44,wj 46 45,wd 47 (wO 41 46),qP 36 37,wv 48 3 37 47,wt 49 3 48,qX 6 [wl,.nils,.nils],qU 3 6 49] [xj 50 6,qt 51 50,ww 52 [qx,qx,wl,.nils] [xi 0 13,wC 2 51],qX 7 [qx,qx,wl,.nils],qU 4 7 52] (qH (xd 8) (xS 0 [qf 53 8,xz 54 6,qt 55 54,wj 56 55,wL 57 53 56] 57 0 1 (.reg [qp 60 3 7,wh 62,qW 63 62,xj 64 63,wh 66,qW 67 66,xr 68 67,qt 61 60,qt 65 64,qt 69 68,qn 70 be (yj 65 (.t 69) (qj 2)),qP 60 61,xX 71 4 [qx,qx,wl,.nils] 1 [wq 0 4 70],wX 72 4 56 61 71,qp 73 3 7,xA 73 72]) (qf 58 8) 59 58 1 8 59) (wP [wh 74,qW 75 74,xj 76 75,qt 77 76,wd 78 (xx 77 2),wJ 79 78 0] (wA 79 [wt 80 4 7,qU 4 4 80]) [wh 81,qW 82 81,xj 83 82,xX 85 1 xG 4 [xi 0 3,xi 1 4,xi 2 8,xi 3 10],wh 88,qW 89 88,xj 90 89,wh 92,qW 93 92,xr 94 93,qt 84 83,wt 87 4 7,qt 91 90,qt 95 94,yh 86 84 85,qA (some 4) 7 87,qP 90 91,qP 94 95,qn 96 be (yj 91 (.t 95) (qj 2)),qA (some 4) 7 87,qN 97 4 [qx,qx,wl,.nils] 2 [wq 0 4 87,wq 4 4 96],ww 98 [qx,qx,wl,.nils] [xW 86,wC 3 97],qU 4 4 98]))))⟩
theorem mF:ay Try.prog dU=some gN:=by kernel_rfl
def gi:FK:=⟨46,ya,wa (wF 2 (.c wl)) [wh 3,wh 4,qW 5 4,qp 6 3 5,qt 7 6,wH 8 7 1,qW 9 3,qp 10 3 9,xA 10 8] (wP [wh 11,qW 12 11,xj 13 12,qt 14 13,wd 15 (xx 14 9),wJ 16 15 0,qf 17 16,wK 18 17 0,qF 19 17 (qz 18),xk 20 17 2 19,wM 21 17 20,qF 22 17 (qZ 21),xo 23 17 .gtr 22 qR,xM 24 17 23] (wA 24 [wh 25,qW 26 25,xj 27 26,wh 29,qW 30 29,xr 31 30,qt 28 27,qt 32 31,xc 33 bx 28 32,qf 2 33]) [wh 34,qW 35 34,qp 36 3 35,wh 39,qW 40 39,qp 41 3 40,qt 37 36,qG 38 .rem 37 24,qt 42 41,qG 43 .rem 42 24,wH 44 43 1,qb 45 (.slStr (yp [97,98,99,100,101,103,104,105,106,107,108,109,110,112,113,114,115,116,117,118,119,120,121,122]) (some (.t 38)) (some (.t 44))),qf 2 45])⟩
theorem lU:ay Try.prog du=some gi:=by kernel_rfl
def en:FK:=⟨24,[xB 4 5],wa [wS 3 4 1,qX 4 [qx,wl,.nils,.nils,.nils]] (xQ (wh 6) (xu 7 du 6) 5 7) (xT [wh 8,qN 9 1 [wl] 0 [],wh 10,qW 11 10,xr 12 11,qt 13 12,wX 14 1 16 9 13,xg 15,qN 16 1 [wl] 1 [xW 15],wX 17 1 16 14 16,qW 18 8,xr 19 18,xA 19 17] [xg 20,wt 21 4 3,qN 22 4 [qx,qx,wl,.nils] 1 [wq 0 4 21],ww 23 [qx,wl,.nils,.nils,.nils] [(0,1,wI),wC 1 20,wC 2 22],qU 5 4 23])⟩
theorem iJ:ay Try.prog bX=some en:=by kernel_rfl
def gF:FK:=⟨14,[xB 2 4],xT [qX 2 [qx,qx,wl,.nils]] [wh 3,wh 5,qW 6 5,xj 7 6,xX 9 1 xG 6 [xi 0 16,xi 1 16,xi 2 16,xi 3 8,xi 4 17,(5,1,qR)],qt 8 7,xN 4 (xx 3 2),qP 7 8,yh 10 8 9,ww 11 [qx,qx,wl,.nils] [(0,1,wI),wC 1 10],qN 12 4 [qx,qx,wl,.nils] 2 [wq 0 4 4,wq 4 4 11],ww 13 [qx,qx,wl,.nils] [xi 0 7,wC 3 12],qU 4 2 13]⟩
theorem mO:ay Try.prog cD=some gF:=by kernel_rfl
def dK:AK:=wa (wF 4 (.c .nils)) [wh 9,wh 10,qW 11 10,xj 12 11,qt 13 12,ym 14 5 [xi 0 2,xi 1 3,(2,1,wI),(3,1,qR),xi 4 5],yh 15 13 14,ww 16 [qx,qx,wl,.nils] [(0,1,wI),wC 1 15],xc 17 bX 9 16,qX 5 [qx,wl,.nils,.nils,.nils],qU 5 5 17] (wa [xz 18 5,qt 19 18,ww 20 [qx,qx,wl,.nils] [xi 0 2,wC 2 19],qX 6 [qx,qx,wl,.nils],qU 4 6 20] [wh 21,xF 22,xl 23 22 1,xc 24 aM 21 23,qf 7 24] (qe [xz 25 5,qt 26 25,wt 27 4 6,ww 28 [qx,qx,wl,.nils] [(0,1,wI),(1,1,wI)],qN 29 4 [qx,qx,wl,.nils] 2 [wq 0 4 27,wq 4 4 28],ww 30 [qx,qx,wl,.nils] [xi 0 4,wC 3 29],qN 31 4 [qx,qx,wl,.nils] 1 [wq 0 4 30],ww 32 [qx,wl,.nils,.nils,.nils] [xi 0 2,wC 1 26,wC 2 31],qX 8 [qx,wl,.nils,.nils,.nils],qU 5 8 32] (.cut (.reg [wh 33,wh 34,qW 35 34,qp 36 4 35,qt 37 36,xl 38 37 2,qW 39 33,qp 40 4 39,xA 40 38]) (qK [yb 44,wt 41 5 5,wt 42 4 6,xX 43 4 [qx,qx,wl,.nils] 1 [wq 0 4 42],wt 45 5 8,xX 46 5 [qx,wl,.nils,.nils,.nils] 1 [wq 0 5 45],wX 47 5 96 44 46,qA (some 5) 5 41,qA (some 4) 6 42,ww 48 [qx,wl,.nils,.nils,.nils] [xi 0 6,wC 2 43,wC 3 47],qN 49 5 [qx,wl,.nils,.nils,.nils] 2 [wq 0 5 41,wq 5 5 48],qf 4 49]))))
def dY:FK:=⟨50,xZ,(AK.whole dK)⟩
theorem nk:ay Try.prog dC=some dY:=by kernel_rfl
def gR:FK:=⟨128,xZ,wa (wF 4 (.c .nils)) [wh 7,wh 8,qW 9 8,qp 10 4 9,qt 11 10,xl 12 11 1,qW 13 7,qp 14 4 13,xA 14 12] (qe [wh 15,qW 16 15,xj 17 16,qt 18 17,wd 19 (xx 18 13),qf 5 19] (wg 0 (xD [xg 21,qG 22 .lss 21 3,qf 23 22,wK 24 23 0,qF 25 23 (qz 24),xk 26 23 2 25,wM 27 23 26,qF 28 23 (qZ 27),xo 29 23 .gtr 28 qR,xM 30 23 29,qf 20 30] 20 (qK [wh 31,qW 32 31,xj 33 32,wh 35,qW 36 35,xr 37 36,wh 40,qt 34 33,qt 38 37,xc 39 bx 34 38,xN 41 (xx 40 3),qN 42 4 [qx,qx,wl,.nils] 1 [wq 0 4 41],ww 43 [qx,wl,.nils,.nils,.nils] [xi 0 2,wC 1 39,wC 2 42],qN 44 5 [qx,wl,.nils,.nils,.nils] 1 [wq 0 5 43],qf 4 44]) (xD (xQ (xg 46) (qG 47 .lss 46 5) 45 47) 45 (qK [wh 48,wh 49,xN 50 (xx 49 3),xc 51 bX 48 50,qN 52 5 [qx,wl,.nils,.nils,.nils] 1 [wq 0 5 51],qf 4 52]) (xD [xg 54,qG 55 .lss 54 7,qf 56 55,wQ 57 56 1,xY 58 56 .lss 57 (qj 2),xK 59 56 58,qf 53 59] 53 (qK [wh 60,xN 61 (xx 60 3),qN 62 4 [qx,qx,wl,.nils] 1 [wq 0 4 61],ww 63 [qx,wl,.nils,.nils,.nils] [xi 0 3,wC 2 62],qN 64 5 [qx,wl,.nils,.nils,.nils] 1 [wq 0 5 63],qf 4 64]) (xD (xQ (xg 66) (wJ 67 66 7) 65 67) 65 (qK [wh 68,xu 69 cD 68,wh 70,xN 71 (xx 70 2),qN 72 4 [qx,qx,wl,.nils] 2 [wq 0 4 69,wq 4 4 71],ww 73 [qx,wl,.nils,.nils,.nils] [xi 0 4,wC 2 72],qN 74 5 [qx,wl,.nils,.nils,.nils] 1 [wq 0 5 73],qf 4 74]) (xD (xQ (xg 76) (wJ 77 76 8) 75 77) 75 (qK [wh 78,xu 79 cD 78,qN 80 4 [qx,qx,wl,.nils] 1 [wq 0 4 79],ww 81 [qx,qx,wl,.nils] [xi 0 12,wC 3 80],qN 82 4 [qx,qx,wl,.nils] 1 [wq 0 4 81],ww 83 [qx,wl,.nils,.nils,.nils] [xi 0 3,wC 2 82],qN 84 5 [qx,wl,.nils,.nils,.nils] 1 [wq 0 5 83],qf 4 84]) (xD (xQ (xg 86) (qG 87 .lss 86 11) 85 87) 85 (qe [wh 88,xN 89 (xx 88 3),qN 90 4 [qx,qx,wl,.nils] 1 [wq 0 4 89],wh 91,xF 92,xl 93 92 1,xc 94 aM 91 93,ww 95 [qx,wl,.nils,.nils,.nils] [xi 0 5,wC 2 90,wC 3 94],qX 6 [qx,wl,.nils,.nils,.nils],qU 5 6 95] (wP [wh 96,qW 97 96,xj 98 97,qt 99 98,wd 100 (xx 99 2),wJ 101 100 0] (wb 101 (.reg [wh 102,xF 103,xl 104 103 1,xc 105 aM 102 104,qp 106 4 6,xA 106 105])) (xQ (wt 107 5 6) (qN 108 5 [qx,wl,.nils,.nils,.nils] 1 [wq 0 5 107]) 4 108))) (qe [xg 110,wJ 111 110 11,qf 112 111,wK 113 112 0,qF 114 112 (qz 113),xk 115 112 0 114,wM 116 112 115,qF 117 112 (xL (xx 116 3)),xo 118 112 .eql 117 qR,xM 119 112 118,qf 109 119] (wA 109 [wh 120,xN 121 (xx 120 2),qN 122 4 [qx,qx,wl,.nils] 1 [wq 0 4 121],ww 123 [qx,wl,.nils,.nils,.nils] [xi 0 7,wC 2 122],qN 124 5 [qx,wl,.nils,.nils,.nils] 1 [wq 0 5 123],qf 4 124])))))))) (qK [wh 125,xF 126,xc 127 dC 125 126,qf 4 127])))⟩
theorem mt:ay Try.prog dR=some gR:=by kernel_rfl
def gk:FK:=⟨40,xZ,wa (wF 4 (.c .nils)) [wh 8,qW 9 8,xr 10 9,qt 11 10,qf 5 11] (qe (xC (qN 12 5 [qx,wl,.nils,.nils,.nils] 0 []) 6 12) (qH [wh 13,qW 14 13,xj 15 14,qt 16 15,ym 17 4 [xi 0 2,xi 1 3,(2,1,wI),xi 3 4],yh 18 16 17,qf 7 18] (xR 0 [yb 19,qG 20 .gtr 19 0,qf 21 20,wK 22 21 0,qF 23 21 (qz 22),xk 24 21 4 23,wM 25 21 24,xo 26 21 .gtr 25 qR,xM 27 21 26] 27 0 1 (.reg [xm 30,wh 31,xF 32,xc 33 dR 31 32,wX 34 5 96 30 33,qf 6 34]) (yb 28) (xl 29 28 1) 7 29) (xT [wh 35,xg 36,qW 37 35,xr 38 37,xA 38 36] (xC (xm 39) 4 39))))⟩
theorem ma:ay Try.prog aM=some gk:=by kernel_rfl
def fj:AK:=wa [qX 6 [wl,.nils,.nils]] [wh 8,qN 9 1 [wl] 3 [(0,1,yp [97]),(1,1,yp [98]),(2,1,yp [99])],qf 10 2,qb 11 (.slS 1 (.t 9) none (some (.t 10))),qW 12 8,xr 13 12,xA 13 11] (qe [wh 14,qf 15 2,xl 16 15 1,qW 17 14,qp 18 3 17,xA 18 16] (.cut (.reg [xF 19,qN 20 1 [wl] 0 [],wh 21,qW 22 21,xr 23 22,qt 24 23,wX 25 1 16 20 24,ww 26 [wl,.nils,.nils] [xW 19,wC 1 25],qX 7 [wl,.nils,.nils],qU 3 7 26]) (qe [wh 27,qn 28 aM (xx 27 3),xr 29 7,xA 29 28] (wP [wh 30,qW 31 30,qp 32 4 31,qt 33 32,qG 34 .gtr 33 0,qf 35 34,wK 36 35 0,qF 37 35 (qz 36),xk 38 35 0 37,wM 39 35 38,qF 40 35 (xL (xx 39 4)),xo 41 35 .gtr 40 qR,xM 42 35 41] (wb 42 (qe [wh 43,wh 44,qW 45 44,qp 46 4 45,qt 47 46,xl 48 47 1,qW 49 43,qp 50 4 49,xA 50 48] (.reg [xr 51 7,wh 53,qt 52 51,xN 54 (xx 53 2),qP 51 52,xX 55 4 [qx,qx,wl,.nils] 1 [wq 0 4 54],ww 56 [qx,wl,.nils,.nils,.nils] [xi 0 7,wC 2 55],xX 57 5 [qx,wl,.nils,.nils,.nils] 1 [wq 0 5 56],wX 58 5 96 52 57,xr 59 7,xA 59 58]))) [wt 60 3 7,qU 3 6 60]))))
def fe:FK:=⟨61,[xB 6 3],(AK.whole fj)⟩
theorem oP:ay Try.prog di=some fe:=by kernel_rfl
def jK:FK:=⟨18,xZ,qe (xd 4) (xV 5 (xS 0 [xg 6,wh 7,qb 8 (.len true (.t 7)),wL 9 6 8] 9 0 1 (qe [wh 12,xg 13,qb 14 (.idxStr (.t 12) (.t 13)),xF 15,wu 16 .eql 14 15] (wA 16 (xC (xg 17) 4 17))) (xg 10) 11 10 1 5 11) (wF 4 (qj (-1))))⟩
theorem pU:ay Try.prog gx=some jK:=by kernel_rfl
def jQ:FK:=⟨28,ya,qe (xd 2) (wg 0 (xD [wh 4,qy 5 .geq 4 (.c (qd .u8 97)),xg 6,wK 7 6 0,xo 8 6 .leq 7 (.c (qd .u8 122)),xM 9 6 8,qf 3 9] 3 (qK (wF 2 wI)) (xD [wh 11,qy 12 .geq 11 (.c (qd .u8 48)),qf 13 12,wK 14 13 0,xo 15 13 .leq 14 (.c (qd .u8 57)),xM 16 13 15,qf 10 16] 10 (qK (wF 2 (qj 2))) (xD [wh 18,qn 19 gx [yp [40,41,123,125,59,44,43,45,42,47,37,60,61,38,33,64],.t 18],qG 20 .geq 19 0,qf 17 20] 17 (qK (wF 2 (qj 3))) (qe [wh 22,qy 23 .eql 22 (.c (qd .u8 32)),qf 24 23,wQ 25 24 0,xY 26 24 .eql 25 (.c (qd .u8 10)),xK 27 24 26,qf 21 27] (wY 21 2 (qj 4)))))) (qK (xd 2)))⟩
theorem rW:ay Try.prog gh=some jQ:=by kernel_rfl
def mW:FK:=⟨21,xZ,qe (wF 4 qV) (xV 5 (xS 0 [xg 6,wh 7,qb 8 (.len true (.t 7)),wL 9 6 8] 9 0 1 (qe [wh 12,xg 13,qb 14 (.idxStr (.t 12) (.t 13)),xu 15 gh 14,xF 16,wu 17 .neq 15 16] (yi 17 4)) (xg 10) 11 10 1 5 11) [wh 18,qb 19 (.len true (.t 18)),qG 20 .gtr 19 0,qf 4 20])⟩
theorem um:ay Try.prog jf=some mW:=by kernel_rfl
def jt:FK:=⟨2,xE 0,xT (wF 0 (.c .nils)) (xC (qN 1 1 [wl] 9 [(0,1,yp [102,110]),(1,1,yp [108,101,116]),(2,1,yp [115,97,121]),(3,1,yp [112,117,116]),(4,1,yp [105,102]),(5,1,yp [101,108,115,101]),(6,1,yp [108,111,111,112]),(7,1,yp [98,97,99,107]),(8,1,yp [100,111])]) 0 1)⟩
theorem oG:ay Try.prog dm=some jt:=by kernel_rfl
def mM:FK:=⟨18,ya,wa (wF 2 qV) [qn 5 dm [],xg 3] (xV 4 (xS 0 [xy 6,yn 7,wj 8 7,wL 9 6 8] 9 0 1 (qe [yn 12,xy 13,wv 14 1 12 13,qt 15 14,wh 16,qb 17 (.bins .eql (.t 15) (.t 16))] (wY 17 2 wG)) (xy 10) 11 10 1 4 11) (wF 2 qV))⟩
theorem tV:ay Try.prog ji=some mM:=by kernel_rfl
def kP:FK:=⟨15,ya,xT (wF 2 qV) [wh 3,qn 4 jf (wN 3 wI),xy 5,wK 6 5 0,qF 7 5 (.len true (.t 6)),xo 8 5 .leq 7 (qj 4),xM 9 5 8,qf 10 9,wK 11 10 0,qF 12 10 (.call ji (xt 11)),qF 13 10 (wz 12),xM 14 10 13,qf 2 14]⟩
theorem sE:ay Try.prog bD=some kP:=by kernel_rfl
def iA:FK:=⟨5,ya,qe (xd 2) (wP [wh 3,wJ 4 3 4] (wY 4 2 (qj 2)) (wF 2 wI))⟩
theorem sg:ay Try.prog eC=some iA:=by kernel_rfl
def bU:FK:=⟨13,[.t 2,.t 3],qe [qc 2 qR,qc 3 qR] (wP [wh 4] (.blk 0 (qH [wJ 6 4 1,xm 5] (qw 5 .skip (.reg (xP 7 4 2 5 7))) (qw 5 (qK [qc 2 qR,qc 3 qR]) (qH (xP 9 4 11 8 9) (qw 8 .skip (.reg (xP 10 4 12 8 10))) (qw 8 (qK [qc 2 wI,qc 3 wI]) (qe (xP 12 4 13 11 12) (wA 11 [qc 2 qR,qc 3 (qj 3)]))))))) [qc 2 (qj 2),qc 3 (qj 2)])⟩
theorem sC:ay Try.prog eH=some bU:=by kernel_rfl
def eP:FK:=⟨86,xZ,wa [wS 2 4 0,qc 4 qV] [xj 10 2,qt 11 10,xu 12 eH 11,qf 9 12,qb 13 (.ext 0 (.t 9)),qb 14 (.ext 1 (.t 9)),qf 5 13,qf 6 14] (qH [xF 15,qG 16 .lss 15 1,qf 17 16,xq 18 17 0 2,wZ 19 17 18,qD 20 17 (xe (yj 19 wI (qj 13))),qD 21 17 (wz 20),xK 22 17 21,qf 23 22,xq 24 23 3 2,wZ 25 23 24,qD 26 23 (qZ 25),wQ 27 23 5,wQ 28 23 6,qD 29 23 (xe (yl 26 27 28)),qD 30 23 (wz 29),xK 31 23 30] (yi 31 4) (qe [xj 32 2,qt 33 32,wJ 34 33 2,qf 35 34,xq 36 35 0 2,wZ 37 35 36,xY 38 35 .eql 37 (qj 13),xK 39 35 38,qf 7 39] (qH [yb 40,xr 41 2,qt 42 41,xu 43 bD 42,qb 44 (.beq true (.t 40) (.t 43)),qf 45 44,wQ 46 45 7,qD 47 45 (wz 46),wQ 48 45 47,xk 49 48 2 2,wM 50 48 49,qF 51 48 (.bins .neq (.t 50) (.c wl)),qD 52 45 (qL 48 (.t 51) qV),xK 53 45 52,qf 54 53,xq 55 54 1 2,wZ 56 54 55,qD 57 54 (xe (yj 56 qR (qj 255))),qD 58 54 (wz 57),xK 59 54 58,qf 60 59,xq 61 60 0 2,wZ 62 60 61,xY 63 60 .neq 62 wI,wQ 64 60 63,xk 65 64 1 2,wM 66 64 65,xo 67 64 .neq 66 qR,qD 68 60 (qL 64 (.t 67) qV),xK 69 60 68] (yi 69 4) (xV 8 (xS 0 [qf 70 8,qp 71 3 2,qt 72 71,wj 73 72,wL 74 70 73] 74 0 1 (qe [qp 77 3 2,qt 78 77,qf 79 8,wv 80 4 78 79,wt 81 4 80,xF 82,xl 83 82 1,xc 84 db 81 83,x9 85 84] (yi 85 4)) (qf 75 8) 76 75 1 8 76) (wF 4 wG)))))⟩
theorem kY:ay Try.prog db=some eP:=by kernel_rfl
def jX:FK:=⟨21,ya,wa [wS 1 4 0,qc 2 qR] (wF 3 wI) (xV 4 (xS 0 [xy 5,qp 6 3 1,qt 7 6,wj 8 7,wL 9 5 8] 9 0 1 (.reg [yn 12,qp 13 3 1,qt 14 13,xy 15,wv 16 4 14 15,wt 17 4 16,xu 18 eb 17,wu 19 .add 12 18,qf 3 19]) (xy 10) 11 10 1 4 11) (xC (yn 20) 2 20))⟩
theorem rH:ay Try.prog eb=some jX:=by kernel_rfl
def iO:FK:=⟨10,ya,xT [wS 1 4 0,qc 2 qV] [wt 3 4 1,qn 4 db (xx 3 6),xy 5,qF 6 5 (qT 4 1),qF 7 5 (.call eb (xt 6)),xo 8 5 .leq 7 (qj 30),xM 9 5 8,qf 2 9]⟩
theorem nW:ay Try.prog cR=some iO:=by kernel_rfl
def eE:FK:=⟨108,xZ,qe [wS 2 5 0,qc 4 qV] (qH [xF 7,qG 8 .lss 7 1,qf 9 8,xq 10 9 0 2,wZ 11 9 10,qD 12 9 (xe (yj 11 wI (qj 8))),qD 13 9 (wz 12),xK 14 9 13,qf 15 14,xq 16 15 2 2,xq 19 15 0 2,wZ 17 15 16,qD 18 15 (qZ 17),wZ 20 15 19,qD 21 15 (.qcall eC (xt 20)),xY 22 15 .neq 18 (.t 21),xK 23 15 22] (yi 23 4) (qe [xj 24 2,qt 25 24,wJ 26 25 1,qf 27 26,xq 28 27 0 2,wZ 29 27 28,xY 30 27 .eql 29 (qj 2),xK 31 27 30,qf 5 31] (qH [xg 32,xz 33 2,qt 34 33,xu 35 bD 34,qb 36 (.beq true (.t 32) (.t 35)),qf 37 36,wQ 38 37 5,qD 39 37 (wz 38),wQ 40 37 39,xk 41 40 1 2,wM 42 40 41,qF 43 40 (.bins .neq (.t 42) (.c wl)),qD 44 37 (qL 40 (.t 43) qV),xK 45 37 44] (yi 45 4) (qH (xd 6) (xS 0 [xm 46,xr 47 2,qt 48 47,wj 49 48,wL 50 46 49] 50 0 1 (qe [xr 53 2,qt 54 53,xm 55,wv 56 4 54 55,wt 57 4 56,xu 58 cR 57,x9 59 58] (yi 59 4)) (xm 51) 52 51 1 6 52) (qH [xj 60 2,qt 61 60,wJ 62 61 8,qf 63 62,xk 64 63 2 2,wM 65 63 64,qF 66 63 (qI 4 65 qR),xk 67 63 0 66,wM 68 63 67,xo 69 63 .neq 68 (qj 13),xM 70 63 69] (yi 70 4) (wP [qp 71 4 2,qt 72 71,wj 73 72,qG 74 .gtr 73 0,qf 75 74,xk 76 75 0 2,wM 77 75 76,xo 78 75 .neq 77 (qj 5),xM 79 75 78,qf 80 79,xq 81 80 3 2,wZ 82 80 81,qD 83 80 (qZ 82),xY 84 80 .gtr 83 qR,wQ 85 80 84,xk 86 85 0 2,wM 87 85 86,xo 88 85 .neq 87 (qj 5),qD 89 80 (qL 85 (.t 88) qV),wQ 90 80 89,xk 91 90 0 2,wM 92 90 91,xo 93 90 .neq 92 (qj 6),qD 94 80 (qL 90 (.t 93) qV),xK 95 80 94] (yi 95 4) [qp 96 3 2,qt 97 96,xF 98,xl 99 98 1,xc 100 bp 97 99,qf 101 100,xk 102 101 4 2,wM 103 101 102,wK 104 101 1,xo 105 101 .sub 104 wI,qF 106 101 (.call bp (wO 103 105)),xM 107 101 106,qf 4 107]))))))⟩
theorem kV:ay Try.prog eF=some eE:=by kernel_rfl
def jF:FK:=⟨19,xZ,qe (wF 4 qV) (xV 5 (xS 0 [xg 6,wh 7,wj 8 7,wL 9 6 8] 9 0 1 (qe [wh 12,xg 13,wv 14 5 12 13,wt 15 5 14,xF 16,xc 17 eF 15 16,x9 18 17] (yi 18 4)) (xg 10) 11 10 1 5 11) (wF 4 wG))⟩
theorem rS:ay Try.prog bp=some jF:=by kernel_rfl
def oz:FK:=⟨32,ya,qe [wS 1 3 0,qc 2 qV] (xV 3 (xS 0 [yn 4,xz 5 1,qt 6 5,wj 7 6,wL 8 4 7] 8 0 1 (qe [xz 11 1,qt 12 11,yn 13,wv 14 1 12 13,qt 15 14,xu 16 bD 15,x9 17 16] (yi 17 2)) (yn 9) 10 9 1 3 10) [xj 18 1,qt 19 18,xu 20 bD 19,qf 21 20,xk 22 21 1 1,wM 23 21 22,qF 24 21 (qZ 23),xo 25 21 .leq 24 (qj 3),xM 26 21 25,qf 27 26,xk 28 27 2 1,wM 29 27 28,qF 30 27 (.call bp (xx 29 4)),xM 31 27 30,qf 2 31])⟩
theorem vq:ay Try.prog jG=some oz:=by kernel_rfl
def fQ:FK:=⟨29,ya,wa (xd 2) [wh 5,wj 6 5,xm 3] (xV 4 (xS 0 [xy 7,wh 8,wj 9 8,wL 10 7 9] 10 0 1 (.reg [yn 13,wh 14,xy 15,wv 16 5 14 15,qp 17 3 16,wh 21,xy 22,wv 23 5 21 22,qp 24 4 23,qt 18 17,qt 25 24,xu 19 cJ 18,qP 24 25,wu 20 .add 13 19,xu 26 cJ 25,wu 27 .add 20 26,qf 3 27]) (xy 11) 12 11 1 4 12) (xC (yn 28) 2 28))⟩
theorem jO:ay Try.prog cJ=some fQ:=by kernel_rfl
def ni:FK:=⟨22,ya,wa [wS 1 1 0,qc 2 qR] (xd 3) (xV 4 (xS 0 [xy 5,xj 6 1,qt 7 6,wj 8 7,wL 9 5 8] 9 0 1 (.reg [yn 12,xj 13 1,qt 14 13,xy 15,wv 16 3 14 15,xr 17 16,qt 18 17,xu 19 cJ 18,wu 20 .add 12 19,qf 3 20]) (xy 10) 11 10 1 4 11) (xC (yn 21) 2 21))⟩
theorem tw:ay Try.prog js=some ni:=by kernel_rfl
def fp:FK:=⟨26,ya,qe [wS 1 1 0,qc 2 qV] (qH [xj 4 1,qt 5 4,wj 6 5,xU 7 (yj 6 wI (qj 4)),x9 8 7] (yi 8 2) (xV 3 (xS 0 [yn 9,xj 10 1,qt 11 10,wj 12 11,wL 13 9 12] 13 0 1 (qe [xj 16 1,qt 17 16,yn 18,wv 19 3 17 18,wt 20 3 19,xu 21 jG 20,x9 22 21] (yi 22 2)) (yn 14) 15 14 1 3 15) [wt 23 1 1,xu 24 js 23,qG 25 .leq 24 40,qf 2 25]))⟩
theorem kN:ay Try.prog cW=some fp:=by kernel_rfl
def lw:FK:=⟨69,[xB 2 1],wa [qX 2 xO] [wh 8,wh 9,ym 10 4 [xi 0 14,xi 1 20,xi 2 8,xi 3 26],yh 11 9 10,ww 12 [.nilp,.nils,.nils,qx,qx] [xW 8,wC 4 11],wS 13 5 12,qf 3 13] (qH [wh 14,ym 15 4 [(0,1,qR),(1,1,wI),(2,1,wI),xi 3 2],yh 16 14 15,qf 4 16] (xR 0 [xy 17,qG 18 .gtr 17 0] 18 0 1 (qe [qc 5 (.c .any),yn 21,xX 22 1 [wl] 3 [(0,1,yp [102]),(1,1,yp [103]),(2,1,yp [104])],yn 23,qW 24 23,xz 25 24,wh 30,qt 26 25,wj 27 26,wv 28 1 22 27,qt 29 28,wd 31 (xx 30 3),qP 25 26,qP 28 29,qn 32 di (yl 21 29 31),qX 5 [wl,.nils,.nils],qU 3 5 32] (.reg [yn 33,yn 34,qW 35 34,xz 36 35,qt 37 36,wt 38 3 5,xX 39 3 [wl,.nils,.nils] 1 [wq 0 3 38],wX 40 3 64 37 39,qW 41 33,xz 42 41,xA 42 40])) (xy 19) (xl 20 19 1) 4 20) (wa [yn 43,wh 44,ym 45 4 [(0,1,qR),(1,1,wI),xi 2 2,(3,1,wI)],yh 46 44 45,qn 47 di (yk 43 (yp [109]) 46),qX 6 [wl,.nils,.nils],qU 3 6 47] [qc 7 (.c .any),yn 49,qW 50 49,xz 51 50,qt 52 51,wt 54 3 6,xX 55 3 [wl,.nils,.nils] 1 [wq 0 3 54],qN 48 3 [wl,.nils,.nils] 0 [],qP 51 52,qA (some 3) 6 54,wX 53 3 64 48 52,qA (some 3) 6 54,wX 56 3 64 53 55,ww 57 xO [xW 56],qX 7 xO,xA 7 57] (wP [wt 58 1 7,xu 59 cW 58,x9 60 59] (wA 60 [ww 61 [qx,qx,wl,.nils] [(0,1,wI),(1,1,wI)],qN 62 4 [qx,qx,wl,.nils] 1 [wq 0 4 61],ww 63 [qx,wl,.nils,.nils,.nils] [xi 0 3,wC 2 62],qN 64 5 [qx,wl,.nils,.nils,.nils] 1 [wq 0 5 63],ww 65 [wl,.nils,.nils] [(0,1,yp [109]),wC 2 64],qN 66 3 [wl,.nils,.nils] 1 [wq 0 3 65],ww 67 xO [xW 66],xA 2 67]) [wt 68 1 7,xA 2 68])))⟩
theorem sf:ay Try.prog eR=some lw:=by kernel_rfl
def ko:FK:=⟨4,ya,qe (xd 2) (wP [wh 3] (wY 3 2 wI) (xd 2))⟩
theorem pW:ay Try.prog gf=some ko:=by kernel_rfl
def im:FK:=⟨35,ya,wa (xd 2) (xd 3) (xV 4 (xS 0 [xy 5,wh 6,wj 7 6,wL 8 5 7] 8 0 1 (.reg [yn 11,wh 12,xy 13,wv 14 5 12 13,xj 15 14,wh 20,xy 21,wv 22 5 20 21,qp 23 3 22,wh 27,xy 28,wv 29 5 27 28,qp 30 4 29,qt 16 15,wJ 17 16 1,qt 24 23,qt 31 30,xu 18 gf 17,qP 23 24,qP 30 31,wu 19 .add 11 18,xu 25 dd 24,qP 30 31,wu 26 .add 19 25,xu 32 dd 31,wu 33 .add 26 32,qf 3 33]) (xy 9) 10 9 1 4 10) (xC (yn 34) 2 34))⟩
theorem lv:ay Try.prog dd=some im:=by kernel_rfl
def dw:FK:=⟨25,ya,wa (xd 2) [wh 3,wh 4,qW 5 4,xz 6 5,xr 7 6,qt 8 7,qN 9 2 [qx,.nils] 0 [],qN 10 4 [qx,qx,.nils,qx] 0 [],ym 11 0 [],ww 12 [.nils,.nils,qx,qx,.nils] [xW 9,wC 1 10,wC 4 11],qN 13 5 [.nils,.nils,qx,qx,.nils] 1 [wq 0 5 12],wX 14 5 88 8 13,qW 15 3,xz 16 15,xr 17 16,xA 17 14] (qK [wh 18,qW 19 18,xz 20 19,xr 21 20,qt 22 21,wj 23 22,xl 24 23 1,qf 2 24])⟩
theorem fH:ay Try.prog bK=some dw:=by kernel_rfl
def gP:FK:=⟨37,[],wa [wh 11,qW 12 11,xz 13 12,xr 14 13,wh 16,qW 17 16,qp 18 4 17,qt 15 14,qt 19 18,wv 20 5 15 19,qf 10 20] [qf 21 10,xF 22,qW 23 21,xr 24 23,xA 24 22] (wa [qf 25 10,qf 26 2,qW 27 25,qp 28 3 27,xA 28 26] [qf 29 10,yn 30,qW 31 29,qp 32 4 31,xA 32 30] (.reg [wh 33,xy 34,qW 35 33,qp 36 4 35,xA 36 34]))⟩
theorem mB:ay Try.prog bg=some gP:=by kernel_rfl
def fU:FK:=⟨19,ya,wa (xd 2) [wh 3,wh 4,qW 5 4,xz 6 5,xz 7 6,qt 8 7,wH 9 8 1,qW 10 3,xz 11 10,xz 12 11,xA 12 9] (qK [wh 13,qW 14 13,xz 15 14,xz 16 15,qt 17 16,xl 18 17 1,qf 2 18])⟩
theorem lK:ay Try.prog bm=some fU:=by kernel_rfl
def eA:FK:=⟨37,xE 10,wa (xd 10) [wh 12,qW 13 12,xz 14 13,xr 15 14,wh 17,qW 18 17,qp 19 4 18,qt 16 15,qt 20 19,wv 21 5 16 20,qf 11 21] (xT [qf 22 11,qf 23 11,qW 24 23,xz 25 24,qt 26 25,xF 27,qf 28 2,xy 29,yn 30,ww 31 [qx,qx,.nils,qx] [xW 27,wC 1 28,wC 2 29,wC 3 30],qN 32 4 [qx,qx,.nils,qx] 1 [wq 0 4 31],wX 33 4 48 26 32,qW 34 22,xz 35 34,xA 35 33] (xC (qf 36 2) 10 36))⟩
theorem nR:ay Try.prog bF=some eA:=by kernel_rfl
def ew:FK:=⟨34,xZ,qe (xd 4) (wP [wh 6,qW 7 6,qp 8 5 7,qt 9 8,wj 10 9,xl 11 10 1,qf 5 11] (xR 0 [xg 12,qG 13 .geq 12 0] 13 0 1 (qe [wh 16,qW 17 16,qp 18 5 17,qt 19 18,xg 20,wv 21 3 19 20,xj 22 21,qt 23 22,xF 24,qb 25 (.bins .eql (.t 23) (.t 24))] (wA 25 [wh 26,qW 27 26,qp 28 5 27,qt 29 28,xg 30,wv 31 3 29 30,xz 32 31,qt 33 32,qf 4 33])) (xg 14) (xl 15 14 1) 5 15) (wF 4 (qj (-1))))⟩
theorem nK:ay Try.prog cN=some ew:=by kernel_rfl
def iW:FK:=⟨56,xZ,wa [wS 3 4 1,qc 4 qR] [wh 11,qp 12 3 3,qt 13 12,qb 14 (qI 4 13 qR),wt 15 4 14,xc 16 aV 11 15,qf 5 16] (wa [wh 17,wh 18,xJ 19 18,ym 20 0 [],xb 21 [.t 17,wI,.t 19,qR,.t 20],qf 6 21] (xQ (wh 22) (xp 23 (xt 22)) 7 23) (wa (xQ (wh 24) (xp 25 (xt 24)) 8 25) [wh 26,xg 27,yb 28,qf 29 8,ym 30 2 [xW 28,wC 1 29],yb 31,xv 32 [.t 26,qj 2,.t 27,.t 30,.t 31]] (wa [wh 33,qp 34 3 3,qt 35 34,qb 36 (qI 4 35 wI),wt 37 4 36,xc 38 aV 33 37,qf 9 38] [wh 39,wh 40,xJ 41 40,qf 42 9,ym 43 1 [xW 42],xb 44 [.t 39,qj 10,.t 41,qR,.t 43],qf 10 44] (wa [wh 45,xm 46,qf 47 10,ym 48 1 [xW 47],xb 49 [.t 45,qj 10,.t 46,qR,.t 48]] [wh 50,qf 51 8,ym 52 1 [xW 51],qf 53 8,xv 54 [.t 50,wI,qR,.t 52,.t 53]] (qK (xC (xm 55) 4 55))))))⟩
theorem nH:ay Try.prog eu=some iW:=by kernel_rfl
def oB:FK:=⟨22,xZ,qe [wS 2 1 0,qc 4 qR] (xV 5 (xS 0 [xg 6,xj 7 2,qt 8 7,wj 9 8,wL 10 6 9] 10 0 1 (qe [xj 13 2,qt 14 13,xg 15,wv 16 3 14 15,xj 17 16,qt 18 17,xF 19,qb 20 (.bins .eql (.t 18) (.t 19))] (wA 20 (xC (xg 21) 4 21))) (xg 11) 12 11 1 5 12) (wF 4 (qj (-1))))⟩
theorem vH:ay Try.prog jB=some oB:=by kernel_rfl
def bT:FK:=⟨84,xZ,qe [wS 3 4 1,qc 4 qR] (qH [xj 7 3,qt 8 7] (.blk 0 (xD (xP 10 8 1 9 10) 9 (qK [wh 11,wh 12,xz 14 3,xX 16 1 xG 0 [],qt 15 14,xJ 13 12,qP 14 15,xb 17 [.t 11,wI,.t 13,.t 15,.t 16],qf 4 17]) (xD (xP 19 8 2 18 19) 18 (qK [wh 20,xr 21 3,qt 22 21,xc 23 cN 20 22,qf 4 23]) (qe (xP 25 8 10 24 25) (wA 24 [wh 26,wt 27 4 3,xc 28 eu 26 27,qf 4 28]))))) (qe (xC (ym 29 0 []) 5 29) (qH (xd 6) (xS 1 [xm 30,qp 31 3 3,qt 32 31,wj 33 32,wL 34 30 33] 34 1 2 (.reg [xg 37,wh 38,qp 39 3 3,qt 40 39,xm 41,wv 42 4 40 41,wt 43 4 42,xc 44 aV 38 43,ym 45 1 [xW 44],wX 46 1 8 37 45,qf 5 46]) (xm 35) 36 35 1 6 36) (wP [xj 47 3,qt 48 47] (.blk 3 (xD (xP 50 48 11 49 50) 49 (qK [wh 51,wh 52,xJ 53 52,xg 54,xb 55 [.t 51,qj 10,.t 53,qR,.t 54],qf 4 55]) (xD (xP 57 48 12 56 57) 56 (qK [wh 58,wh 59,xJ 60 59,xg 61,xb 62 [.t 58,qj 11,.t 60,qR,.t 61],qf 4 62]) (qe (xP 64 48 13 63 64) (wA 63 [wh 65,wh 66,wh 68,qW 69 68,xj 70 69,xr 72 3,xg 75,wt 71 1 70,qt 73 72,xJ 67 66,qA (some 1) 70 71,qP 72 73,xc 74 jB 71 73,xb 76 [.t 65,qj 14,.t 67,.t 74,.t 75],qf 4 76]))))) [wh 77,xj 78 3,wh 80,xg 82,qt 79 78,xJ 81 80,qP 78 79,xb 83 [.t 77,.t 79,.t 81,qR,.t 82],qf 4 83]))))⟩
theorem mv:ay Try.prog aV=some bT:=by kernel_rfl
def gT:FK:=⟨41,[],wa [wS 3 5 1] (xQ (wh 8) (xp 9 (xt 8)) 4 9) (wa (xQ (wh 10) (xp 11 (xt 10)) 5 11) (xQ (wh 12) (xp 13 (xt 12)) 6 13) (wa [wh 14,xy 15,ym 16 1 [xW 15],xy 17,xv 18 [.t 14,wI,qR,.t 16,.t 17]] [wh 19,xr 20 3,qt 21 20,qb 22 (qI 4 21 qR),wt 23 4 22,xc 24 aV 19 23,qf 7 24] (wa [wh 25,yb 26,xg 27,xm 28,ym 29 2 [xW 27,wC 1 28],xg 30,xv 31 [.t 25,qj 2,.t 26,.t 29,.t 30]] [wh 32,qp 33 3 3,qt 34 33,xc 35 aX 32 34] (.reg [wh 36,xy 37,ym 38 1 [xW 37],xm 39,xv 40 [.t 36,wI,qR,.t 38,.t 39]]))))⟩
theorem mD:ay Try.prog dJ=some gT:=by kernel_rfl
def dI:FK:=⟨132,[],qe [wS 3 5 1] (qH [xj 9 3,qt 10 9,wJ 11 10 6] (wA 11 [wh 12,wt 13 5 3,xc 14 dJ 12 13]) (qe (xC (ym 15 0 []) 4 15) (qH (xd 5) (xS 0 [xg 16,xr 17 3,qt 18 17,wj 19 18,wL 20 16 19] 20 0 1 (.reg [xy 23,wh 24,xr 25 3,qt 26 25,xg 27,wv 28 4 26 27,wt 29 4 28,xc 30 aV 24 29,ym 31 1 [xW 30],wX 32 1 8 23 31,qf 4 32]) (xg 21) 22 21 1 5 22) (qe [xj 33 3,qt 34 33] (.blk 2 (xD (xP 36 34 1 35 36) 35 (wa [wh 37,wh 38,qW 39 38,qp 40 6 39,qt 41 40,xy 42,xb 43 [.t 37,qj 2,.t 41,qR,.t 42]] [wh 44,wh 45,qW 46 45,qp 47 5 46,xz 49 3,wh 51,qW 52 51,qp 53 6 52,qt 48 47,qt 50 49,qt 54 53,ww 55 [wl,qx,qx] [xW 50,wC 1 54,(2,1,qR)],xX 56 3 [wl,qx,qx] 1 [wq 0 3 55],wX 57 3 32 48 56,qW 58 44,qp 59 5 58,xA 59 57] (.reg [wh 60,wh 61,qW 62 61,qp 63 6 62,qt 64 63,wH 65 64 1,qW 66 60,qp 67 6 66,xA 67 65])) (xD (xP 69 34 2 68 69) 68 (.reg [wh 70,wh 71,xz 72 3,qt 73 72,xc 74 cN 71 73,xy 75,xb 76 [.t 70,qj 2,.t 74,qR,.t 75]]) (xD (xP 78 34 3 77 78) 77 (.reg [wh 79,xy 80,xb 81 [.t 79,qj 13,qj (-1),qR,.t 80]]) (xD (xP 83 34 4 82 83) 82 (.reg [wh 84,xy 85,xb 86 [.t 84,qj 12,qj (-1),qR,.t 85]]) (xD (xP 88 34 7 87 88) 87 (.reg [wh 89,xy 90,qb 91 (qI 1 90 qR),xX 93 1 xG 0 [],wh 94,qt 92 91,xp 95 (xt 94),qP 91 92,xv 96 [.t 89,qj 3,.t 92,.t 93,.t 95]]) (qe (xP 98 34 5 97 98) (wb 97 (wa (xQ (wh 99) (xp 100 (xt 99)) 6 100) (xQ (wh 101) (xp 102 (xt 101)) 7 102) (wa (xQ (wh 103) (xp 104 (xt 103)) 8 104) [wh 105,xy 106,qb 107 (qI 1 106 qR),qt 108 107,xm 109,yb 110,ym 111 2 [xW 109,wC 1 110],xm 112,xv 113 [.t 105,qj 2,.t 108,.t 111,.t 112]] (wa [wh 114,qp 115 3 3,qt 116 115,xc 117 aX 114 116] [wh 118,qf 119 8,ym 120 1 [xW 119],yb 121,xv 122 [.t 118,wI,qR,.t 120,.t 121]] (qe [wh 123,qp 124 4 3,qt 125 124,xc 126 aX 123 125] (.reg [wh 127,qf 128 8,ym 129 1 [xW 128],qf 130 8,xv 131 [.t 127,wI,qR,.t 129,.t 130]])))))))))))))))))⟩
theorem mo:ay Try.prog dG=some dI:=by kernel_rfl
def dz:FK:=⟨32,[],qe [wh 6,qW 7 6,qp 8 5 7,qt 9 8,wj 10 9,qf 4 10] (qH (xd 5) (xS 0 [xg 11,xF 12,wj 13 12,wL 14 11 13] 14 0 1 (.reg [wh 17,xF 18,xg 19,wv 20 5 18 19,wt 21 5 20,xc 22 dG 17 21]) (xg 15) 16 15 1 5 16) (.reg [wh 23,wh 24,qW 25 24,qp 26 5 25,qt 27 26,xy 28,qb 29 (.slS 3 (.t 27) none (some (.t 28))),qW 30 23,qp 31 5 30,xA 31 29]))⟩
theorem lC:ay Try.prog aX=some dz:=by kernel_rfl
def oC:FK:=⟨80,[xB 4 3],wa [wS 2 1 0,qX 4 [qx,qx,.nils]] [xj 9 2,qt 10 9,xF 11,wv 12 3 10 11,wt 13 3 12,qX 5 [wl,.nils,.nils],qU 3 5 13] (wa [wt 14 1 2,xz 15 5,qt 16 15,wj 17 16,ww 18 [.nils,qx,qx,.nils,qx,.nils,qx,.nils] [xW 14,wC 6 17],wS 19 8 18,qf 6 19] [xm 20,xz 21 5,qt 22 21,wj 23 22,qW 24 20,xz 25 24,xj 26 25,xA 26 23] (qe [xm 27,xz 28 5,xr 31 5,qt 29 28,wj 30 29,qt 32 31,xu 33 dd 32,qP 28 29,wu 34 .add 30 33,qW 35 27,xz 36 35,xz 37 36,xA 37 34] (qH (xd 7) (xS 0 [yb 38,xz 39 5,qt 40 39,wj 41 40,wL 42 38 41] 42 0 1 (.reg [xm 45,xm 46,qW 47 46,qp 48 5 47,xz 50 5,yb 52,yb 55,qt 49 48,qt 51 50,wv 53 1 51 52,qt 54 53,ww 56 [wl,qx,qx] [xW 54,wC 1 55,(2,1,qR)],xX 57 3 [wl,qx,qx] 1 [wq 0 3 56],wX 58 3 32 49 57,qW 59 45,qp 60 5 59,xA 60 58]) (yb 43) 44 43 1 7 44) (wa [xm 61,xp 62 (xt 61)] [xm 63,xr 64 5,qt 65 64,xc 66 aX 63 65] (wa [xm 67,xm 68,xJ 69 68,ym 70 0 [],xb 71 [.t 67,wI,.t 69,qR,.t 70],qf 8 71] [xm 72,qf 73 8,ym 74 0 [],xv 75 [.t 72,qj 3,.t 73,.t 74,qR]] (qK [xm 76,qW 77 76,xz 78 77,wt 79 3 78,qU 3 4 79]))))))⟩
theorem vf:ay Try.prog gD=some oC:=by kernel_rfl
def lu:FK:=⟨22,[xB 2 1],wa [wS 1 1 0,qX 2 xO] [ww 5 xO [],qX 3 xO,xA 3 5] (xV 4 (xS 0 [xy 6,xj 7 1,qt 8 7,wj 9 8,wL 10 6 9] 10 0 1 (.reg [xj 13 3,xy 16,qt 14 13,wt 15 1 1,xc 17 gD 15 16,qP 13 14,qN 18 3 [qx,qx,.nils] 1 [wq 0 3 17],qP 13 14,wX 19 3 40 14 18,xj 20 3,xA 20 19]) (xy 11) 12 11 1 4 12) [wt 21 1 3,xA 2 21])⟩
theorem sw:ay Try.prog eB=some lu:=by kernel_rfl
def ln:FK:=⟨21,xZ,qe [wS 2 3 0,qc 4 qV] (xV 5 (xS 0 [xg 6,xF 7,wj 8 7,wL 9 6 8] 9 0 1 (qe [xF 12,xg 13,wv 14 1 12 13,xz 16 2,qt 15 14,qt 17 16,xl 18 17 1,xU 19 (yk 15 qR 18),x9 20 19] (yi 20 4)) (xg 10) 11 10 1 5 11) (wF 4 wG))⟩
theorem sP:ay Try.prog eN=some ln:=by kernel_rfl
def mA:FK:=⟨88,xE 6,wa [wS 3 1 0,wS 5 4 2,qc 6 qV] [xj 8 3,qt 9 8,xF 10,wv 11 3 9 10,wt 12 3 11,qX 7 [qx,qx,.nils],qU 3 7 12] (qH [xj 13 5,qt 14 13,xU 15 (yj 14 wI (qj 14)),x9 16 15,qf 17 16,qD 18 17 (qT 3 7),xq 19 17 2 5,wZ 20 17 19,qD 21 17 (.call eN (wO 18 20)),qD 22 17 (wz 21),xK 23 17 22] (yi 23 6) (qH [xj 24 5,xz 27 5,xz 29 7,qt 25 24,qt 28 27,qt 30 29,xl 31 30 1,xu 26 cK 25,qP 27 28,qP 29 30,xU 32 (yk 28 qR 31),qb 33 (.beq true (.t 26) (.t 32)),qf 34 33,xq 35 34 0 5,wZ 36 34 35,qD 37 34 (.call cK (xt 36)),qD 38 34 (wz 37),wQ 39 34 38,xk 40 39 1 5,wM 41 39 40,xo 42 39 .neq 41 (qj (-1)),qD 43 34 (qL 39 (.t 42) qV),xK 44 34 43] (yi 44 6) (wP [xj 45 5,qt 46 45,wJ 47 46 14] (wA 47 [qp 48 3 5,xF 50,xl 51 50 1,qt 49 48,xU 52 (yk 49 qR 51),qf 53 52,xk 54 53 2 5,xk 57 53 0 3,xk 59 53 3 5,wM 55 53 54,qF 56 53 (qZ 55),wM 58 53 57,wM 60 53 59,qF 61 53 (we 3 58 60),xk 62 53 0 61,wM 63 53 62,xo 64 53 .eql 56 (.t 63),xM 65 53 64,qf 6 65]) [xr 66 5,xj 69 5,qt 67 66,wj 68 67,qt 70 69,xu 71 eQ 70,qP 66 67,wu 72 .eql 68 71,qf 73 72,xk 74 73 3 5,wM 75 73 74,qF 76 73 (xe (yj 75 qR (qj 255))),xM 77 73 76,qf 78 77,xk 79 78 3 5,wM 80 78 79,xo 81 78 .eql 80 qR,wK 82 78 81,xq 83 82 0 5,wZ 84 82 83,xY 85 82 .eql 84 wI,qF 86 78 (qL 82 wG (.t 85)),xM 87 78 86,qf 6 87])))⟩
theorem uo:ay Try.prog je=some mA:=by kernel_rfl
def fO:AK:=wa [wS 3 1 0,qc 6 qV] [xj 14 3,qt 15 14,xF 16,wv 17 3 15 16,wt 18 3 17,qX 7 [qx,qx,.nils],qU 3 7 18] (wa [xr 19 7,qt 20 19,qf 21 2,wv 22 5 20 21,wt 23 5 22,qX 8 [.nils,.nils,qx,qx,.nils],qU 5 8 23] (wF 9 wI) (xI [xr 24 8,qt 25 24] (.blk 0 (xD (xP 27 25 1 26 27) 26 (qe [qp 28 3 8,qt 29 28,qG 30 .neq 29 0] (yi 30 6)) (xD (xP 32 25 2 31 32) 31 (.reg (wF 9 (qj 2))) (xD (xP 34 25 3 33 34) 33 (.reg (xd 9)) (qK (wF 6 qV)))))) (xI [qp 35 4 8,qt 36 35,wj 37 36,qf 38 9,wu 39 .neq 37 38,qf 40 39,xq 41 40 2 8,wZ 42 40 41,xY 43 40 .neq 42 wI,wQ 44 40 43,xk 45 44 3 8,wM 46 44 45,xk 47 44 1 7,wM 48 44 47,xo 49 44 .sub 48 wI,qF 50 44 (xe (yk 46 qR 49)),qF 51 44 (wz 50),qD 52 40 (qL 44 (.t 51) qV),xK 53 40 52] (yi 53 6) (xI (xd 10) (xS 1 [qf 54 10,qp 55 4 8,qt 56 55,wj 57 56,wL 58 54 57] 58 1 2 (qe [qp 61 4 8,qf 63 10,xr 66 7,qt 62 61,wv 64 1 62 63,qt 65 64,qt 67 66,wj 68 67,xl 69 68 1,xU 70 (yk 65 wI 69),x9 71 70] (yi 71 6)) (qf 59 10) 60 59 1 10 60) (xI (xd 11) (xS 3 [qf 72 11,xz 73 8,qt 74 73,wj 75 74,wL 76 72 75] 76 3 4 (qe [xF 80,xz 81 8,qf 83 11,wt 79 1 3,qt 82 81,wv 84 4 82 83,wt 85 4 84,qn 86 je (yl 79 80 85),x9 87 86] (yi 87 6)) (qf 77 11) 78 77 1 11 78) (qe [wt 88 3 7,qf 89 2,xc 90 cL 88 89,qf 12 90] (xI (xd 13) (xS 5 [qf 91 13,xj 92 8,qt 93 92,wj 94 93,wL 95 91 94] 95 5 6 (qe [qf 98 2,wJ 99 98 0,qf 100 99,xq 101 100 0 8,wQ 103 100 13,wQ 108 100 12,qD 109 100 (qZ 108),wZ 102 100 101,qD 104 100 (we 2 102 103),xq 105 100 1 104,wZ 106 100 105,qD 107 100 (qZ 106),xY 110 100 .neq 107 (.t 109),xK 111 100 110,qf 112 111,xq 114 112 0 8,wQ 116 112 13,qD 113 112 (qT 3 7),wZ 115 112 114,qD 117 112 (we 2 115 116),xq 118 112 1 117,wZ 119 112 118,qD 120 112 (.call eN (wO 113 119)),qD 121 112 (wz 120),xK 122 112 121,qf 123 122,xq 124 123 0 8,wQ 126 123 13,xq 130 123 1 7,wZ 125 123 124,qD 127 123 (we 2 125 126),xq 128 123 0 127,wZ 129 123 128,wZ 131 123 130,xY 132 123 .sub 131 wI,qD 133 123 (xe (yk 129 qR 132)),qD 134 123 (wz 133),xK 135 123 134] (yi 135 6)) (qf 96 13) 97 96 1 13 97) (qK (wF 6 wG)))))))))
def gt:FK:=⟨136,xE 6,(AK.whole fO)⟩
theorem rR:ay Try.prog gq=some gt:=by kernel_rfl
def iU:FK:=⟨76,ya,qe [wS 1 1 0,qc 2 qV] (qH [xj 7 1,qt 8 7,wj 9 8,xU 10 (yj 9 wI (qj 4)),x9 11 10] (yi 11 2) (qe (xd 3) (xV 4 (xS 0 [xy 12,xj 13 1,qt 14 13,wj 15 14,wL 16 12 15] 16 0 1 (qe [xj 19 1,qt 20 19,xy 21,wv 22 3 20 21,wt 23 3 22,qX 5 [qx,qx,.nils],qU 3 5 23] (qH [xj 24 5,qt 25 24,xU 26 (yj 25 qR (qj 3)),x9 27 26,qf 28 27,xq 29 28 1 5,wZ 30 28 29,xq 31 28 0 5,wZ 32 28 31,qD 33 28 (xe (yj 30 (.t 32) (qj 300))),qD 34 28 (wz 33),xK 35 28 34,qf 36 35,xq 37 36 2 5,wZ 38 36 37,qD 39 36 (qZ 38),qD 40 36 (xe (yj 39 wI (qj 160))),qD 41 36 (wz 40),xK 42 36 41] (yi 42 2) (qe (xd 6) (xS 2 [xm 43,xr 44 5,qt 45 44,wj 46 45,wL 47 43 46] 47 2 3 (wa [yn 50,xr 51 5,xm 53,xr 59 5,xm 61,qt 52 51,wv 54 5 52 53,xz 55 54,qt 56 55,wj 57 56,wu 58 .add 50 57,qt 60 59,wv 62 5 60 61,xj 63 62,qt 64 63,wj 65 64,wu 66 .add 58 65,qf 3 66] [yn 67,qG 68 .gtr 67 800,qf 69 68,qD 70 69 (qT 1 1),wQ 71 69 4,wQ 72 69 6,qD 73 69 (.call gq (yl 70 71 72)),qD 74 69 (wz 73),xK 75 69 74] (yi 75 2)) (xm 48) 49 48 1 6 49)))) (xy 17) 18 17 1 4 18) (wF 2 wG))))⟩
theorem nE:ay Try.prog ep=some iU:=by kernel_rfl
def jH:FK:=⟨15,[xB 2 1],qe [qX 2 xO] (wP [wh 4,wd 5 (xx 4 2),wJ 6 5 0] (wb 6 (wa [wh 7,xu 8 eR 7,xu 9 eB 8,qX 3 xO,xA 3 9] [wt 10 1 3,xu 11 ep 10] (wA 11 [wt 12 1 3,xA 2 12]))) [wh 13,xu 14 dg 13,xA 2 14])⟩
theorem rB:ay Try.prog ga=some jH:=by kernel_rfl
def kb:FK:=⟨10,[xB 2 1],qe [qX 2 xO] (wP [wh 3,wd 4 (xx 3 12),wJ 5 4 0] (wA 5 [wh 6,xu 7 ib 6,xA 2 7]) [wh 8,xu 9 ga 8,xA 2 9])⟩
theorem rf:ay Try.prog fX=some kb:=by kernel_rfl
def jP:FK:=⟨14,[xB 2 3],wa [qX 2 [qx,qx,.nils]] [wh 4,xu 5 fX 4,qX 3 xO,xA 3 5] (qK [xj 6 3,qt 7 6,xj 8 3,qt 9 8,wj 10 9,xl 11 10 1,wv 12 3 7 11,wt 13 3 12,qU 3 2 13])⟩
theorem rn:ay Try.prog dX=some jP:=by kernel_rfl
def lz:FK:=⟨33,[xB 2 3,.t 3,.t 4],wa [qX 2 [qx,qx,.nils],qc 3 qR,qc 4 qR] [wh 8,xu 9 dX 8,qX 5 [qx,qx,.nils],qU 3 5 9] (wa [xr 10 5,qt 11 10,wj 12 11,qf 6 12] [wh 13,xm 14,wd 15 (wO 13 14),wh 16,xm 17,wd 18 (wO 16 17),xm 19,xl 20 19 1,wh 21,xm 22,wd 23 (wO 21 22),xm 24,ym 25 7 [xW 15,wC 1 18,(2,1,qR),wC 3 20,wC 4 23,xi 5 (-1),wC 6 24],qf 7 25] (qK [wh 27,yb 28,wh 30,yb 31,wt 26 3 5,yh 29 27 28,qA (some 3) 5 26,yh 32 30 31,qA (some 3) 5 26,qU 3 2 26,qf 3 29,qf 4 32]))⟩
theorem si:ay Try.prog iw=some lz:=by kernel_rfl
def gJ:FK:=⟨11,[xB 2 3,.t 3,.t 4],xT [qX 2 [qx,qx,.nils],qc 3 qR,qc 4 qR] [wh 5,xu 6 dM 5,xu 7 iw 6,qb 8 (.ext 0 (.t 7)),qb 9 (.ext 1 (.t 7)),qb 10 (.ext 2 (.t 7)),qU 3 2 8,qf 3 9,qf 4 10]⟩
theorem mH:ay Try.prog dT=some gJ:=by kernel_rfl
def ce:FK:=⟨19,xZ,qe (xd 4) (wP [wh 6,wj 7 6,qc 8 qR] (qY 0 (qe [wL 9 8 7] (.seq (wB 9 0) (wx 1 (wa (xC (qf 10 8) 5 10) [xF 11,wh 12,xg 13,wv 14 5 12 13,wt 15 5 14,qb 16 (.callv (.t 11) (xt 15))] (wA 16 (xC (xg 17) 4 17))) (xC (wH 18 8 1) 8 18))))) (wF 4 (qj (-1))))⟩
theorem eV:ay Try.prog bq=some ce:=by kernel_rfl
def bS:FK:=⟨9,xZ,xT (wF 4 qV) [wh 5,xF 6,xc 7 bq 5 6,qG 8 .geq 7 0,qf 4 8]⟩
theorem dZ:ay Try.prog bi=some bS:=by kernel_rfl
def dV:FK:=⟨19,xZ,qe (xd 4) (wP [wh 6,wj 7 6,qc 8 qR] (qY 0 (qe [wL 9 8 7] (.seq (wB 9 0) (wx 1 (wa (xC (qf 10 8) 5 10) [xF 11,wh 12,xg 13,wv 14 1 12 13,qt 15 14,qb 16 (.callv (.t 11) (xt 15))] (wA 16 (xC (xg 17) 4 17))) (xC (wH 18 8 1) 8 18))))) (wF 4 (qj (-1))))⟩
theorem jn:ay Try.prog cf=some dV:=by kernel_rfl
def cT:FK:=⟨9,xZ,xT (wF 4 qV) [wh 5,xF 6,xc 7 cf 5 6,qG 8 .geq 7 0,qf 4 8]⟩
theorem gA:ay Try.prog bP=some cT:=by kernel_rfl
def iq:FK:=⟨15,xE 6,xT (wF 6 qV) [xF 7,wh 8,wu 9 .leq 7 8,qf 10 9,wK 11 10 0,wK 12 10 2,xo 13 10 .leq 11 (.t 12),xM 14 10 13,qf 6 14]⟩
theorem sH:ay Try.prog eM=some iq:=by kernel_rfl
def fY:FK:=⟨11,xE 3,xT (wF 3 qV) [wh 4,xr 5 1,qt 6 5,wj 7 6,xl 8 7 1,qn 9 eM (yk 4 qR 8),x9 10 9,qf 3 10]⟩
theorem mb:ay Try.prog dq=some fY:=by kernel_rfl
def jd:FK:=⟨8,xE 3,xT [wS 2 5 0,qc 3 qV] [qp 4 4 2,qt 5 4,qb 6 (.mkf (.func dq) (xt 1)),xc 7 bP 5 6,yb 3]⟩
theorem nJ:ay Try.prog cQ=some jd:=by kernel_rfl
def gr:FK:=⟨14,ya,xT [wS 1 3 0,qc 2 qV] [xr 3 1,qt 4 3,wj 5 4,qG 6 .gtr 5 0,xm 7,xk 8 7 2 1,wM 9 7 8,qF 10 7 (.mkf (.func cQ) (xt 1)),qF 11 7 (.call bi (wO 9 10)),qF 12 7 (wz 11),xM 13 7 12,qf 2 13]⟩
theorem rG:ay Try.prog dH=some gr:=by kernel_rfl
def ee:FK:=⟨48,xZ,wa [wS 2 3 0,qc 4 (.c .nils)] [xr 8 2,qt 9 8,wj 10 9,qb 11 (.mks 1 1 [qB] (.t 10) (.t 10)),qf 5 11] (qe (xC (ym 12 1 [(0,1,qR)]) 6 12) (.seq (wW 0 [xm 13,wj 14 13,qG 15 .gtr 14 0] 15 0 (.blk 1 (wa [xm 16,xm 17,wj 18 17,xl 19 18 1,wv 20 1 16 19,qt 21 20,qf 7 21] [xm 22,xm 23,wj 24 23,xl 25 24 1,qb 26 (.slS 1 (.t 22) none (some (.t 25))),qf 6 26] (qH [yb 27,xF 28,wu 29 .eql 27 28,qf 30 29,wQ 31 30 5,wQ 32 30 7,qD 33 30 (we 1 31 32),wZ 34 30 33,xK 35 30 34] (wb 35 (.exit 1)) (qe [xg 36,yb 37,wv 38 1 36 37,qS 1 38 wG] (.reg [xm 39,xr 40 2,qt 41 40,yb 42,wv 43 5 41 42,qp 44 4 43,qt 45 44,wX 46 1 8 39 45,qf 6 46])))))) (qK (xC (xg 47) 4 47))))⟩
theorem jy:ay Try.prog aK=some ee:=by kernel_rfl
def eD:FK:=⟨71,ya,qe [wS 1 3 0,qc 2 (.c .nilp)] (qH [wt 8 3 1,xu 9 dH 8,x9 10 9] (wY 10 2 (.c .nilp)) (qe [wt 11 3 1,wt 12 3 1,qn 13 aK (xx 12 (-1)),qA (some 3) 1 11,ww 14 [qx,qx,.nils,.nils,.nils] [wq 0 3 11,wC 4 13],wS 15 5 14,qf 3 15] (wP [xr 16 1,qt 17 16,wj 18 17,qc 19 qR] (qY 0 (qe [wL 20 19 18] (.seq (wB 20 0) (wx 1 (wa (xC (qf 21 19) 4 21) [xr 22 1,qt 23 22,wj 24 23,qb 25 (.mks 1 1 [qB] (.t 24) (.t 24)),qf 5 25] (qH [yn 26,qW 27 26,qp 28 4 27,qt 29 28,xy 30,wv 31 1 29 30,qt 32 31] (wb 32 (wa [wt 33 3 1,xy 34,xc 35 aK 33 34,qf 6 35] [xg 36,wj 37 36,qc 38 qR] (qY 2 (qe [wL 39 38 37] (.seq (wB 39 2) (wx 3 (qe (xC (qf 40 38) 7 40) (.reg [xg 41,yb 42,yn 43,qW 44 43,qp 45 4 44,qt 46 45,yb 47,wv 48 1 46 47,qt 49 48,qf 50 49,wK 51 50 6,wK 52 50 7,qF 53 50 (we 1 51 52),wM 54 50 53,qF 55 50 (wz 54),xM 56 50 55,wv 57 1 41 42,xA 57 56])) (xC (wH 58 38 1) 38 58))))))) (.reg [yn 59,yn 60,qW 61 60,qp 62 3 61,qt 63 62,xg 64,qN 65 1 xO 1 [xW 64],wX 66 1 24 63 65,qW 67 59,qp 68 3 67,xA 68 66]))) (xC (wH 69 19 1) 19 69))))) (xC (yn 70) 2 70))))⟩
theorem kS:ay Try.prog cr=some eD:=by kernel_rfl
def fh:FK:=⟨26,xZ,xT (wF 4 qV) [wh 5,qb 6 (.pnil 0 true (.t 5)),xm 7,wK 8 7 1,wK 9 7 0,qF 10 7 (qz 9),xk 11 7 4 10,wM 12 7 11,qF 13 7 (qZ 12),xo 14 7 .sub 13 wI,qF 15 7 (.call eM (yk 8 qR 14)),xM 16 7 15,qf 17 16,wK 18 17 0,qF 19 17 (qz 18),xk 20 17 4 19,wM 21 17 20,wK 22 17 1,qF 23 17 (we 1 21 22),wM 24 17 23,xM 25 17 24,qf 4 25]⟩
theorem oN:ay Try.prog bQ=some fh:=by kernel_rfl
def fq:FK:=⟨46,xZ,wa (xd 4) (wF 5 (qj (-1))) (wP [wh 7,qW 8 7,qp 9 3 8,qt 10 9,wj 11 10,qc 12 qR] (qY 0 (qe [wL 13 12 11] (.seq (wB 13 0) (wx 1 (wa (xC (qf 14 12) 6 14) [wh 15,qW 16 15,qp 17 4 16,qt 18 17,xm 19,wv 20 1 18 19,qt 21 20,qf 22 21,wK 23 22 1,wK 24 22 6,qF 25 22 (.callv (.t 23) (xt 24)),xM 26 22 25,qf 27 26,wK 28 27 5,xo 29 27 .lss 28 qR,wK 30 27 29,wQ 31 30 0,qD 32 30 (qz 31),xq 33 30 3 32,wZ 34 30 33,wQ 35 30 5,qD 36 30 (we 1 34 35),wZ 37 30 36,wQ 38 30 6,qD 39 30 (we 1 37 38),wZ 40 30 39,qF 41 27 (qL 30 wG (.t 40)),xM 42 27 41] (wb 42 (.reg (xC (xm 43) 5 43)))) (xC (wH 44 12 1) 12 44))))) (xC (xg 45) 4 45))⟩
theorem kM:ay Try.prog cY=some fq:=by kernel_rfl
def fk:FK:=⟨28,xE 5,xT (wF 5 qV) [wh 10,qt 6 1,qW 7 6,qp 8 3 7,qt 9 8,wv 11 1 9 10,qt 12 11,qt 13 2,wv 14 1 12 13,qt 15 14,qf 16 15,wK 21 16 0,wM 17 16 1,qF 18 16 (qz 17),xk 19 16 3 18,wM 20 16 19,qF 22 16 (we 1 20 21),wM 23 16 22,wM 24 16 3,qF 25 16 (we 1 23 24),wM 26 16 25,xM 27 16 26,qf 5 27]⟩
theorem oI:ay Try.prog dk=some fk:=by kernel_rfl
def lh:FK:=⟨23,xE 6,wa [wS 3 3 0,wS 4 1 1,wS 5 1 2,qc 6 qR] [wt 8 3 3,xu 9 cr 8,qX 7 [.nilp],xA 7 9] (wP [qt 10 7,qt 11 4,xc 12 bQ 10 11,x9 13 12,qf 14 13,wZ 15 14 7,wZ 16 14 5,qD 17 14 (.call bQ (wO 15 16)),qD 18 14 (wz 17),xK 19 14 18] (wY 19 6 (qj (-1))) [qt 20 7,qb 21 (.mkf (.func dk) (yl 7 4 5)),xc 22 cY 20 21,qf 6 22])⟩
theorem sk:ay Try.prog cu=some lh:=by kernel_rfl
def jJ:FK:=⟨42,ya,qe [wS 1 3 0,qc 2 qV] (xV 3 (xS 0 [yn 5,xr 6 1,qt 7 6,wj 8 7,wL 9 5 8] 9 0 1 (qe (xd 4) (xS 2 [xy 12,xr 13 1,qt 14 13,yn 15,wv 16 5 14 15,qp 17 4 16,qt 18 17,wj 19 18,wL 20 12 19] 20 2 3 (qe [xr 23 1,yn 25,xy 29,xr 32 1,qt 24 23,wv 26 5 24 25,qp 27 4 26,qt 28 27,wv 30 1 28 29,qt 31 30,qt 33 32,wj 34 33,xl 35 34 1,xU 36 (yk 31 qR 35),x9 37 36] (yi 37 2)) (xy 21) 22 21 1 4 22)) (yn 10) 11 10 1 3 11) [xr 38 1,qt 39 38,wj 40 39,qG 41 .gtr 40 0,qf 2 41])⟩
theorem rL:ay Try.prog fP=some jJ:=by kernel_rfl
def mg:FK:=⟨15,xZ,xT [wS 2 3 0,qc 4 qV] [wt 5 3 2,xu 6 fP 5,xm 7,wK 8 7 1,xk 9 7 2 2,wM 10 7 9,qF 11 7 (qZ 10),xo 12 7 .sub 11 wI,qF 13 7 (xe (yk 8 qR 12)),xM 14 7 13,qf 4 14]⟩
theorem uf:ay Try.prog fA=some mg:=by kernel_rfl
def jv:FK:=⟨54,xE 8,wa [wS 4 3 0,qc 8 (.c .nils)] [qf 10 2,xF 11,wv 12 1 10 11,qS 1 12 wG] (xV 9 (xS 0 [qf 13 9,xr 14 4,qt 15 14,xF 16,wv 17 5 15 16,qp 18 4 17,qt 19 18,wj 20 19,wL 21 13 20] 21 0 1 (qe [qf 24 2,xr 25 4,qt 26 25,xF 27,wv 28 5 26 27,qp 29 4 28,qt 30 29,qf 31 9,wv 32 1 30 31,qt 33 32,wv 34 1 24 33,qt 35 34,x9 36 35] (wb 36 (.reg [xr 38 4,xF 40,qf 44 9,qf 47 2,yn 48,wt 37 3 4,qt 39 38,wv 41 5 39 40,qp 42 4 41,qt 43 42,wv 45 1 43 44,qt 46 45,qn 49 co [.t 37,.t 46,.t 47,.t 48],qf 3 49]))) (qf 22 9) 23 22 1 9 23) [yn 50,xF 51,ym 52 1 [xW 51],wX 53 1 8 50 52,qf 8 53])⟩
theorem oL:ay Try.prog co=some jv:=by kernel_rfl
def fT:AK:=wa [wS 1 3 0,qc 2 (.c .nils)] [xr 10 1,qt 11 10,wj 12 11,qf 3 12] (wa (xC (qN 13 1 xO 0 []) 4 13) (xQ (yn 14) (qb 15 (.mks 1 1 [qB] (.t 14) (.t 14))) 5 15) (qe [wt 16 3 1,xg 17,ym 18 0 [],qn 19 co [.t 16,qR,.t 17,.t 18]] (xV 6 (xS 0 [xm 20,yn 21,wL 22 20 21] 22 0 1 (wa (xQ (yn 25) (qb 26 (.mks 1 1 [qB] (.t 25) (.t 25))) 7 26) [yb 27,xm 28,wv 29 1 27 28,qS 1 29 wG] (.cut (xD [xm 30,qG 31 .neq 30 0] 31 (qe [wt 32 3 1,yb 33,ym 34 0 [],qn 35 co [.t 32,qR,.t 33,.t 34]] (.reg [yb 36,xm 37,wv 38 1 36 37,qS 1 38 qV])) (.reg [yb 39,xm 40,wv 41 1 39 40,qS 1 41 qV])) (qe (xQ (yn 42) (qb 43 (.mks 1 1 [qB] (.t 42) (.t 42))) 8 43) (qH (xd 9) (xS 2 [qf 44 9,yn 45,wL 46 44 45] 46 2 3 (.reg [qf 49 8,qf 50 9,xg 51,xm 52,wv 53 1 51 52,qt 54 53,qf 55 54,wK 56 55 5,wK 57 55 9,qF 58 55 (we 1 56 57),wM 59 55 58,xM 60 55 59,qf 61 60,wK 62 61 7,wK 63 61 9,qF 64 61 (we 1 62 63),wM 65 61 64,qF 66 61 (wz 65),xM 67 61 66,wv 68 1 49 50,xA 68 67]) (qf 47 9) 48 47 1 9 48) (.reg [xy 69,qf 70 8,qN 71 1 xO 1 [xW 70],wX 72 1 24 69 71,qf 4 72]))))) (xm 23) 24 23 1 6 24) (xC (xy 73) 2 73))))
def fJ:FK:=⟨74,ya,(AK.whole fT)⟩
theorem rD:ay Try.prog dF=some fJ:=by kernel_rfl
def lb:FK:=⟨59,xE 6,qe [wS 3 3 0,qc 6 qR] (qH [wt 10 3 3,xF 11,xc 12 fA 10 11,x9 13 12,qf 14 13,qD 15 14 (qT 3 3),wQ 16 14 2,qD 17 14 (.call fA (wO 15 16)),qD 18 14 (wz 17),xK 19 14 18] (wY 19 6 (qj (-1))) (wa (xQ (wt 20 3 3) (xu 21 dF 20) 7 21) (wF 8 (qj (-1))) (xV 9 (xS 0 [qf 22 9,yb 23,wj 24 23,wL 25 22 24] 25 0 1 (qe [yb 28,qf 29 9,wv 30 1 28 29,qt 31 30,xF 32,wv 33 1 31 32,qt 34 33,qf 35 34,wK 36 35 7,wK 37 35 9,qF 38 35 (we 1 36 37),wM 39 35 38,wK 40 35 2,qF 41 35 (we 1 39 40),wM 42 35 41,xM 43 35 42,qf 44 43,wK 45 44 8,xo 46 44 .lss 45 qR,wK 47 44 46,wQ 48 47 7,wQ 49 47 8,qD 50 47 (we 1 48 49),wZ 51 47 50,wQ 52 47 9,qD 53 47 (we 1 51 52),wZ 54 47 53,qF 55 44 (qL 47 wG (.t 54)),xM 56 44 55] (wb 56 (.reg (xC (qf 57 9) 8 57)))) (qf 26 9) 27 26 1 9 27) (xC (qf 58 8) 6 58))))⟩
theorem sQ:ay Try.prog eI=some lb:=by kernel_rfl
def cy:FK:=⟨27,xE 6,xT (wF 6 qV) [wh 7,xF 8,xc 9 bQ 7 8,qf 10 9,wK 11 10 0,wK 12 10 2,qF 13 10 (.call bQ (wO 11 12)),xM 14 10 13,qf 15 14,wK 16 15 0,qF 17 15 (qz 16),xk 18 15 3 17,wM 19 15 18,wK 20 15 1,qF 21 15 (we 1 19 20),wM 22 15 21,wK 23 15 2,qF 24 15 (we 1 22 23),wM 25 15 24,xM 26 15 25,qf 6 26]⟩
theorem jz:ay Try.prog cB=some cy:=by kernel_rfl
def iK:FK:=⟨12,xE 6,xT [wS 3 3 0,qc 6 qV] [wt 7 3 3,xu 8 cr 7,xF 9,qf 10 2,qn 11 cB (yl 8 9 10),qf 6 11]⟩
theorem nQ:ay Try.prog bH=some iK:=by kernel_rfl
def kQ:FK:=⟨95,ya,qe (wF 2 qV) (qH [wh 8,wj 9 8,qG 10 .gtr 9 1048576] (wY 10 2 wG) (wa [wh 12,xu 13 dT 12,qf 11 13,qb 14 (.ext 0 (.t 11)),qb 15 (.ext 1 (.t 11)),qb 16 (.ext 2 (.t 11)),qX 3 [qx,qx,.nils],qU 3 3 14,qf 4 15,qf 5 16] [wt 17 3 3,xy 18,xg 19,qn 20 cu (yl 17 18 19),qf 6 20] (qH [xm 21,wt 22 3 3,xy 23,xg 24,qn 25 eI (yl 22 23 24),wu 26 .neq 21 25,qf 27 26,wQ 28 27 6,qD 29 27 (qT 3 3),wQ 30 27 5,wQ 31 27 4,qD 32 27 (.call cu (yl 29 30 31)),xY 33 27 .neq 28 (.t 32),xK 34 27 33,qf 35 34,wQ 36 35 6,xY 37 35 .lss 36 qR,xK 38 35 37] (wA 38 [xm 39,wt 40 3 3,xy 41,xg 42,qn 43 eI (yl 40 41 42),wu 44 .eql 39 43,qf 45 44,wK 46 45 6,qF 47 45 (qT 3 3),wK 48 45 5,wK 49 45 4,qF 50 45 (.call cu (yl 47 48 49)),xo 51 45 .eql 46 (.t 50),xM 52 45 51,qf 53 52,wK 54 53 6,xo 55 53 .eql 54 (qj (-1)),xM 56 53 55,qf 2 56]) (wP [xr 57 3,qt 58 57,wj 59 58,qc 60 qR] (qY 0 (qe [wL 61 60 59] (.seq (wB 61 0) (wx 1 (wa (xC (qf 62 60) 7 62) [yb 64,xm 65,yb 68,xy 69,wt 63 3 3,wt 67 3 3,qn 66 bH (yl 63 64 65),qA (some 3) 3 67,qn 70 bH (yl 67 68 69),qf 71 70,wK 73 71 7,wK 74 71 5,qF 72 71 (qT 3 3),qF 75 71 (.call bH (yl 72 73 74)),xM 76 71 75,qb 77 (.beq true (.t 66) (.t 76))] (yi 77 2)) (xC (wH 78 60 1) 60 78))))) [wt 79 3 3,xy 80,xg 81,qn 82 bH (yl 79 80 81),xm 83,xy 84,wu 85 .eql 83 84,qb 86 (.beq false (.t 82) (.t 85)),qf 87 86,qF 88 87 (qT 3 3),wK 89 87 4,wK 90 87 4,qF 91 87 (.call cu (yl 88 89 90)),wK 92 87 4,xo 93 87 .eql 91 (.t 92),xM 94 87 93,qf 2 94]))))⟩
theorem sB:ay Try.prog ll=some kQ:=by kernel_rfl
def gd:FK:=⟨19,xZ,qe (xd 4) (wP [wh 6,wj 7 6,qc 8 qR] (qY 0 (qe [wL 9 8 7] (.seq (wB 9 0) (wx 1 (wa (xC (qf 10 8) 5 10) [xF 11,wh 12,xg 13,wv 14 1 12 13,qt 15 14,wu 16 .eql 11 15] (wA 16 (xC (xg 17) 4 17))) (xC (wH 18 8 1) 8 18))))) (wF 4 (qj (-1))))⟩
theorem lH:ay Try.prog gn=some gd:=by kernel_rfl
def eU:FK:=⟨6,[xB 2 3],xT [qX 2 [qx,qx,.nils]] [wh 3,xu 4 dM 3,xu 5 dX 4,qU 3 2 5]⟩
theorem jL:ay Try.prog eY=some eU:=by kernel_rfl
end Go.Proofs.Ytdfplkcigiblcaa
