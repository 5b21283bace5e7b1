/-
  Contracts and lemmas that the card needs, part 4.
-/
import Derived.Test.YtbnajafpkeficaaGreatDoorLo3
import Derived.Test.YtbnajafpkeficaaGreatDoorRows
namespace Go.Proofs.YtbnajafpkeficaaGreatDoor
open Go Go.Aw
set_option maxRecDepth 100000
abbrev jd:FuncId:=44
abbrev kh:FuncId:=45
abbrev gf:FuncId:=46
abbrev ib:FuncId:=19
abbrev gk:FuncId:=5
abbrev iI:FuncId:=52
abbrev jJ:FuncId:=53
abbrev gl:FuncId:=54
abbrev cw:FuncId:=26
abbrev bw:FuncId:=7
abbrev iS:FuncId:=107
abbrev iQ:FuncId:=81
abbrev lw:FuncId:=47
abbrev eZ:FuncId:=82
abbrev kU:FuncId:=48
abbrev eL:FuncId:=20
abbrev cH:FuncId:=66
abbrev fW:FuncId:=87
abbrev bF:FuncId:=64
abbrev cx:FuncId:=93
abbrev da:FuncId:=89
abbrev db:FuncId:=88
abbrev jM:FuncId:=63
abbrev dv:FuncId:=37
abbrev fg:FuncId:=108
abbrev fd:FuncId:=95
abbrev iE:FuncId:=94
abbrev jO:FuncId:=67
abbrev ej:FuncId:=38
abbrev bz:FuncId:=92
abbrev ch:FuncId:=91
abbrev gF:FuncId:=90
abbrev dE:FuncId:=65
abbrev cA:FuncId:=36
abbrev dU:FuncId:=83
abbrev eV:FuncId:=50
abbrev jX:FuncId:=49
abbrev dx:FuncId:=21
abbrev cD:FuncId:=22
abbrev lg:FuncId:=84
abbrev bt:FuncId:=51
abbrev fG:FuncId:=23
abbrev gZ:FuncId:=24
abbrev gG:FuncId:=25
abbrev er:FuncId:=6
abbrev aV:FuncId:=55
abbrev eJ:FuncId:=85
abbrev eD:FuncId:=56
abbrev dQ:FuncId:=86
abbrev bR:FuncId:=58
abbrev cy:FuncId:=57
abbrev eM:FuncId:=27
abbrev bO:FuncId:=59
abbrev bA:FuncId:=28
abbrev gV:FuncId:=60
abbrev dT:FuncId:=31
abbrev cM:FuncId:=97
abbrev cW:FuncId:=109
abbrev cE:FuncId:=110
abbrev bj:FuncId:=111
abbrev jl:FuncId:=96
abbrev rv:FuncId:=120
abbrev fU:FuncId:=121
abbrev ie:FuncId:=119
abbrev cL:FuncId:=117
abbrev bX:FuncId:=104
abbrev be:FuncId:=75
abbrev jL:FuncId:=105
abbrev jW:FuncId:=77
abbrev du:FuncId:=76
abbrev eh:FuncId:=40
abbrev di:FuncId:=113
abbrev dZ:FuncId:=118
abbrev cJ:FuncId:=114
abbrev cz:FuncId:=112
abbrev dH:FuncId:=98
abbrev jR:FuncId:=99
abbrev bY:FuncId:=68
abbrev bQ:FuncId:=115
abbrev fc:FuncId:=101
abbrev ep:FuncId:=70
abbrev cO:FuncId:=100
abbrev jj:FuncId:=69
abbrev cG:FuncId:=102
abbrev dh:FuncId:=72
abbrev fv:FuncId:=71
abbrev cu:FuncId:=103
abbrev bZ:FuncId:=73
abbrev dM:FuncId:=74
abbrev gP:FuncId:=39
abbrev fh:FuncId:=30
abbrev bM:FuncId:=29
abbrev cf:FuncId:=8
abbrev jN:FuncId:=9
abbrev jf:FuncId:=61
abbrev gd:FuncId:=62
abbrev ik:FuncId:=32
abbrev gi:FuncId:=10
abbrev dC:FuncId:=33
abbrev eq:FuncId:=34
abbrev ff:FuncId:=12
abbrev dq:FuncId:=35
abbrev fj:FuncId:=11
abbrev dy:FuncId:=14
abbrev bN:FuncId:=15
abbrev ka:FuncId:=116
abbrev iJ:FuncId:=106
abbrev lz:FuncId:=78
abbrev jK:FuncId:=41
abbrev eN:FuncId:=16
abbrev eu:FuncId:=79
abbrev io:FuncId:=42
abbrev hE:FuncId:=17
abbrev gq:FuncId:=80
abbrev il:FuncId:=43
abbrev fb:FuncId:=18
abbrev eC:FuncId:=4
@[reducible] def qa(a:Nat)(b:Option (Nat × Bool))(c:AI):CO:=⟨some a,b,c⟩
@[reducible] def qb(a:Nat)(b:AI):CO:=qa a none b
@[reducible] def qc(a:Nat)(b:AOp):CO:=qb a (.mov b)
@[reducible] def qd(a:List CO)(b:AK):AK:= .seq (.reg a) b
@[reducible] def qe(a b:Nat):CO:=qc a (.t b)
@[reducible] def qf(a:IntKind)(b:Int):AV:= .p (.int a b)
@[reducible] def qg(a:Int):AV:=qf .i64 a
@[reducible] def qh(a:BinOp)(b:Nat)(c:AOp):AI:= .bin a (.t b) c
@[reducible] def qi(a:Option Nat)(b:Nat):AI:= .ld a (.t b)
@[reducible] def qj(a b:Nat):AI:= .fldA a (.t b)
@[reducible] def qk(a:Int):AOp:= .c (qg a)
@[reducible] def ql(a:Nat)(b c:AK):AK:= .cond (.t a) b c
@[reducible] def qm(a:Nat)(b:Option Nat)(c:Nat):CO:=qb a (qi b c)
@[reducible] def qn(a:Nat)(b:BinOp)(c:Nat)(d:AOp):CO:=qb a (qh b c d)
@[reducible] def qo(a:Bool):AV:= .p (.bool a)
@[reducible] def qp(a:Nat)(b:Nat × Bool)(c:AI):CO:=qa a (some b) c
@[reducible] def qq(a:List CO)(b c:AK):AK:= .seq (qd a b) c
@[reducible] def qr(a b:Nat):CO:=qm a none b
@[reducible] def qt(a b c:Nat):CO:=qb a (qj b c)
@[reducible] def qu(a b:Nat)(c:AOp):AI:= .idxS a (.t b) c
@[reducible] def qv(a:List CO):AK:=qd a .ret
@[reducible] def qw:AV:=qo false
@[reducible] def qx(a:Nat)(b:FuncId)(c:List AOp):CO:=qb a (.call b c)
@[reducible] def qy(a:Nat)(b:BinOp)(c:Nat)(d:Int):CO:=qn a b c (qk d)
@[reducible] def qz(a:Nat)(b:AV):CO:=qc a (.c b)
@[reducible] def qA(a:Option (Nat × Bool))(b:AI):CO:=⟨none,a,b⟩
@[reducible] def qB(a:Nat)(b:AK):AK:=ql a b .skip
@[reducible] def qC(a:AOp):AI:= .len false a
@[reducible] def qD(a:Nat)(b:Int):CO:=qc a (qk b)
@[reducible] def qE:AV:=qg 0
@[reducible] def qF(a b c:Nat)(d:AOp):CO:=qb a (qu b c d)
@[reducible] def qG(a:AI):CO:=qA none a
@[reducible] def qH(a b c d:Nat):CO:=qF a b c (.t d)
@[reducible] def qI(a:Nat)(b c:AOp):CO:=qG (.st a b c)
@[reducible] def qJ(a:Nat)(b:BinOp)(c d:Nat):CO:=qn a b c (.t d)
@[reducible] def qK(a:Nat)(b:AK):AK:= .blk a (.loop b)
@[reducible] def qL(a b:List CO)(c:AK):AK:=qd a (qd b c)
@[reducible] def qM(a b c:Nat):CO:=qm a (some b) c
@[reducible] def qN(a:Nat)(b:List CO):AK:=qB a (qv b)
@[reducible] def qO(a b:Nat)(c:AOp):CO:=qI a (.t b) c
@[reducible] def qP(a:Nat)(b c:AK):AK:= .seq (.blk a b) c
@[reducible] def qQ(a:Nat):AI:=qC (.t a)
@[reducible] def qR(a:Nat)(b:AK)(c:Nat):AK:=ql a b (.exit c)
@[reducible] def qS(a b c:Nat):CO:=qO a b (.t c)
@[reducible] def qT(a:List UInt8):AV:= .p (.str a)
@[reducible] def qU(a b:Nat):CO:=qb a (qQ b)
@[reducible] def qV:AV:=qo true
@[reducible] def qW(a b:Nat)(c:Int):CO:=qy a .add b c
@[reducible] def qX(a:Nat)(b c:AOp):AI:= .pick (.t a) b c
@[reducible] def qY(a b:Nat)(c:Bool)(d:AI):CO:=qp a (b,c) d
@[reducible] def qZ(a b:Nat)(c:AI):CO:=qY a b false c
@[reducible] def q6(a b:Nat)(c:AI):CO:=qY a b true c
@[reducible] def q7(a:Nat):AI:= .not (.t a)
@[reducible] def q8(a:Nat)(b:AK)(c:List CO):AK:=qP a b (.reg c)
@[reducible] def q9(a b:Nat):AK:=qR a .skip b
@[reducible] def wa(a:IntKind)(b:Nat):AI:= .conv a (.t b)
@[reducible] def wb(a:Nat):CO:=qe a 0
@[reducible] def wc(a b:List CO)(c d:AK):AK:=qd a (qq b c d)
@[reducible] def wd(a:Nat):AI:= .mov (.t a)
@[reducible] def wg(a b:Nat):AI:= .ext a (.t b)
@[reducible] def wh(a:Nat)(b:List AV):CO:=qb a (.alloc b)
@[reducible] def wj(a:Nat):CO:=qz a qw
@[reducible] def wl(a:Nat):CO:=qe a 1
@[reducible] def wm(a b:Nat)(c:List AV)(d:Nat)(e:List (Nat × Nat × AOp)):CO:=qb a (.bsl b c d e)
@[reducible] def wn(a:Nat):AI:= .nilck (.t a)
@[reducible] def wo(a b c:Nat):CO:=qJ a .lss b c
@[reducible] def wq(a b:Nat):AI:= .box a (.t b)
@[reducible] def wt(a b:Nat)(c:Int):CO:=qy a .eql b c
@[reducible] def wu(a:Nat):CO:=qe a 5
@[reducible] def wv(a b:Nat)(c d:AOp):CO:=qb a (qX b c d)
@[reducible] def ww(a:List UInt8):AOp:= .c (qT a)
@[reducible] def wx:CO:=wj 4
@[reducible] def wy(a b c:Nat):CO:=qb a (wg b c)
@[reducible] def wz(a:Nat)(b:IntKind)(c:Nat):CO:=qb a (wa b c)
@[reducible] def wA(a:Nat)(b:Int):List CO:=[qD a b]
@[reducible] def wB(a:Nat)(b:List CO)(c d:AK):AK:=qK a (qq b c d)
@[reducible] def wC(a:Nat)(b:List CO)(c d:Nat)(e:AK):AK:=wB a b (q9 c d) e
@[reducible] def wD:RV:= .t 4
@[reducible] def wE(a b:Nat):CO:=qb a (q7 b)
@[reducible] def wF(a b c:Nat):CO:=qb a (wq b c)
@[reducible] def wG(a:CO)(b c:Nat):List CO:=[a,qe b c]
@[reducible] def wH:AOp:= .c qV
@[reducible] def wI(a b:Nat):CO:=qW a b 1
@[reducible] def wJ(a:Nat):CO:=qz a .nils
@[reducible] def wK(a b:List CO)(c:Nat)(d:List CO)(e:AK):AK:=wc a b (qN c d) e
@[reducible] def wL(a:Nat)(b:List CO)(c d e:Nat)(f:AK)(g:List CO):AK:=wC a b c d (q8 e f g)
@[reducible] def wM(a b c:Nat)(d:AOp):AI:= .app a b (.t c) d
@[reducible] def wN(a b:CO)(c d:Nat):List CO:=[a,b,qe c d]
@[reducible] def wO(a:CO)(b c d e:Nat):List CO:=wN a (wI b c) d e
@[reducible] def wP(a:List CO)(b:Nat)(c:List CO)(d:AK):AK:=qq a (qN b c) d
@[reducible] def wQ(a:List CO)(b:Nat)(c d:AK):AK:=qd a (ql b c d)
@[reducible] def wR(a:Nat):AI:=qi none a
@[reducible] def wS(a b:Nat):CO:=qb a (wn b)
@[reducible] def wT(a b:Nat):CO:=qt a 0 b
@[reducible] def wU(a:Nat)(b:List CO)(c d e:Nat)(f:AK)(g:CO)(h i j k:Nat):AK:=wL a b c d e f (wO g h i j k)
@[reducible] def wV(a:Nat):List CO:=wA a 0
@[reducible] def wW(a:Nat)(b:List AV)(c:List (Nat × Nat × AOp)):CO:=qb a (.bld b c)
@[reducible] def wX:AOp:= .c qw
@[reducible] def wY(a b:Nat)(c:Int)(d e:Nat):List CO:=wG (wt a b c) d e
@[reducible] def wZ(a:Nat)(b:AOp):List AOp:=[.t a,b]
@[reducible] def w5(a b:Nat):List AOp:=wZ a (.t b)
@[reducible] def w7(a:Nat)(b:FuncId)(c d:Nat):CO:=qx a b (w5 c d)
@[reducible] def w8(a b:Nat):CO:=qt a 2 b
@[reducible] def w9(a:Nat):List AOp:=[.t a]
@[reducible] def xa(a:Nat)(b:FuncId)(c:Nat):CO:=qx a b (w9 c)
@[reducible] def xb(a b:Nat)(c:AOp)(d:Nat):CO:=wv a b c (.t d)
@[reducible] def xc(a:List CO)(b c:AK):AK:=qd a (.seq b c)
@[reducible] def xd:RV:= .t 2
@[reducible] def xe(a b c:Nat):CO:=qJ a .neq b c
@[reducible] def xf(a b c:Nat):CO:=qH a 1 b c
@[reducible] def xg(a:Int):AV:=qf .u8 a
@[reducible] def xh(a:List CO)(b:Nat)(c:List CO):AK:=qd a (qN b c)
@[reducible] def xi:CO:=wb 12
@[reducible] def xj(a b:Nat):CO:=qS 1 a b
@[reducible] def xk(a:Option Nat)(b c:Nat):CO:=qG (.chk a b c)
@[reducible] def xl(a:Nat)(b:List CO):AK:=qB a (.reg b)
@[reducible] def xm(a b c d:Nat):AI:=wM a b c (.t d)
@[reducible] def xn:List CO:=[wx]
@[reducible] def xo(a b c:Nat):Nat × Nat × AOp:=(a,b,.t c)
@[reducible] def xp(a b c:Nat):CO:=qZ a b (wd c)
@[reducible] def xq(a b:List CO)(c:AK)(d:List CO):AK:=wc a b c (qv d)
@[reducible] def xr(a b c d e:Nat):CO:=qb a (xm b c d e)
@[reducible] def xt(a b c:Nat):CO:=q6 a b (wd c)
@[reducible] def xu(a:Nat)(b:List AOp):CO:=qx a cH b
@[reducible] def xv(a b:List CO):AK:=qd a (qv b)
@[reducible] def xw(a:List CO)(b:AK)(c:List CO):AK:=qq a b (qv c)
@[reducible] def xx:AV:=qT []
@[reducible] def xy(a b c:Nat):CO:=qJ a .add b c
@[reducible] def xz:List CO:=wV 4
@[reducible] def xA(a:Nat):CO:=qe a 4
@[reducible] def xB(a:Nat):CO:=qe a 8
@[reducible] def xC(a:Nat):CO:=qe a 7
@[reducible] def xD(a b:Nat)(c:FuncId)(d:List AOp):CO:=qZ a b (.call c d)
@[reducible] def xE(a b:Nat):Nat × Nat × AOp:=xo a 1 b
@[reducible] def xF(a b c:Nat)(d:AOp):CO:=wv a b (.t c) d
@[reducible] def xG(a b:Nat):CO:=wz a .u8 b
@[reducible] def xH:List RV:=[wD]
@[reducible] def xI(a b:Nat)(c:FuncId)(d:List AOp):CO:=q6 a b (.call c d)
@[reducible] def xJ:List CO:=wV 5
@[reducible] def xK:CO:=wu 13
@[reducible] def xL:CO:=wj 2
@[reducible] def xM:AOp:=qk 0
@[reducible] def xN(a:Nat):CO:=qz a qV
@[reducible] def xO(a:Nat):CO:=qe a 10
@[reducible] def xP(a b:List CO):AK:=qd a (.reg b)
@[reducible] def xQ(a b:Nat)(c:List UInt8):Nat × Nat × AOp:=(a,b,ww c)
@[reducible] def xR(a:Nat)(b:List UInt8):Nat × Nat × AOp:=xQ a 1 b
@[reducible] def xS(a b c:Nat):CO:=xb a b wH c
@[reducible] def xT(a b c:Nat):CO:=qZ a b (wR c)
@[reducible] def xU(a b:Nat):CO:=qt a 4 b
@[reducible] def xV:AV:=xg 0
def jc:FK:=⟨12,xH,qL xz [wl 5,wb 6,qU 7 6,qJ 8 .sub 5 7,xB 1] (wP [wl 9,qy 10 .lss 9 0] 10 (wA 4 (-1)) (qv (wG (wl 11) 4 11)))⟩
theorem vA:ah Tryz.prog jd=some jc:=by kernel_rfl
def jY:FK:=⟨12,xH,qL xz [wl 5,wb 6,qU 7 6,qJ 8 .sub 5 7,xB 1] (wP [wl 9,qy 10 .lss 9 0] 10 (wA 4 (-1)) (qv (wG (wl 11) 4 11)))⟩
theorem yB:ah Tryz.prog kh=some jY:=by kernel_rfl
def gw:FK:=⟨28,xH,qL xz [wl 6,wb 7,qU 8 7,qJ 9 .sub 6 8,qe 1 9] (wP [wl 10,qy 11 .lss 10 0] 11 (wA 4 (-1)) (xw xJ (wU 0 [wu 12,wb 13,qU 14 13,wo 15 12 14] 15 0 1 (qL [wl 18,wb 19,wu 20,xf 21 19 20,qr 22 21,qb 23 (.len true (.t 22)),qJ 24 .sub 18 23,qe 1 24] [wl 25,qy 26 .lss 25 0] (qN 26 (wA 4 (-1)))) (wu 16) 17 16 5 17) (wG (wl 27) 4 27)))⟩
theorem rU:ah Tryz.prog gf=some gw:=by kernel_rfl
def im:FK:=⟨31,xH,qL [wF 2 6 0,qD 4 0] [wl 5,wT 6 2,qr 7 6,qb 8 (.len true (.t 7)),qJ 9 .sub 5 8,qe 1 9] (wP [wl 10,qy 11 .lss 10 0] 11 (wA 4 (-1)) (wK [qt 12 3 2,qr 13 12,wl 14,w7 15 jd 13 14,qe 1 15] [wl 16,qy 17 .lss 16 0] 17 (wA 4 (-1)) (wK [xU 18 2,qr 19 18,wl 20,w7 21 kh 19 20,qe 1 21] [wl 22,qy 23 .lss 22 0] 23 (wA 4 (-1)) (wK [qt 24 5 2,qr 25 24,wl 26,w7 27 gf 25 26,qe 1 27] [wl 28,qy 29 .lss 28 0] 29 (wA 4 (-1)) (qv (wG (wl 30) 4 30))))))⟩
theorem tu:ah Tryz.prog ib=some im:=by kernel_rfl
def gz:FK:=⟨27,xH,qL xz [wl 6,wb 7,qU 8 7,qJ 9 .sub 6 8,qe 1 9] (wP [wl 10,qy 11 .lss 10 0] 11 (wA 4 (-1)) (xw xJ (wU 0 [wu 12,wb 13,qU 14 13,wo 15 12 14] 15 0 1 (qL [wb 18,wu 19,qH 20 6 18 19,qM 21 6 20,wl 22,w7 23 ib 21 22,qe 1 23] [wl 24,qy 25 .lss 24 0] (qN 25 (wA 4 (-1)))) (wu 16) 17 16 5 17) (wG (wl 26) 4 26)))⟩
theorem sA:ah Tryz.prog gk=some gz:=by kernel_rfl
def mT:FK:=⟨22,[xd],qL [wJ 2] [wb 5,qU 6 5,qb 7 (.mks 1 1 [xV] (.t 6) (.t 6)),xC 3] (xw xz (wU 0 [xA 8,wb 9,qU 10 9,wo 11 8 10] 11 0 1 (.reg [qe 14 3,xA 15,wb 16,xA 17,xf 18 16 17,qr 19 18,xf 20 14 15,xj 20 19]) (xA 12) 13 12 4 13) (wG (qe 21 3) 2 21))⟩
theorem uu:ah Tryz.prog iI=some mT:=by kernel_rfl
def nO:FK:=⟨22,[xd],qL [wJ 2] [wb 5,qU 6 5,qb 7 (.mks 1 8 [qE] (.t 6) (.t 6)),xC 3] (xw xz (wU 0 [xA 8,wb 9,qU 10 9,wo 11 8 10] 11 0 1 (.reg [qe 14 3,xA 15,wb 16,xA 17,xf 18 16 17,qr 19 18,xf 20 14 15,xj 20 19]) (xA 12) 13 12 4 13) (wG (qe 21 3) 2 21))⟩
theorem yq:ah Tryz.prog jJ=some nO:=by kernel_rfl
def kz:FK:=⟨22,[xd],qL [wJ 2] [wb 5,qU 6 5,qb 7 (.mks 1 16 [xx] (.t 6) (.t 6)),xC 3] (xw xz (wU 0 [xA 8,wb 9,qU 10 9,wo 11 8 10] 11 0 1 (.reg [qe 14 3,xA 15,wb 16,xA 17,xf 18 16 17,qr 19 18,xf 20 14 15,xj 20 19]) (xA 12) 13 12 4 13) (wG (qe 21 3) 2 21))⟩
theorem rJ:ah Tryz.prog gl=some kz:=by kernel_rfl
def lD:FK:=⟨26,[.c 2 (some 6)],qL [wF 1 6 0,wh 2 [xx,qE,qE,.nils,.nils,.nils]] [wh 3 [xx,qE,qE,.nils,.nils,.nils]] (qL [wT 4 1,qr 5 4,wT 6 3,xj 6 5] [qt 7 1 1,qr 8 7,qt 9 1 3,xj 9 8] (qL [w8 10 1,qr 11 10,w8 12 3,xj 12 11] [qt 13 3 1,qr 14 13,xa 15 iI 14,qt 16 3 3,xj 16 15] (qL [xU 17 1,qr 18 17,xa 19 jJ 18,xU 20 3,xj 20 19] [qt 21 5 1,qr 22 21,xa 23 gl 22,qt 24 5 3,xj 24 23] (qv [qM 25 6 3,qS 6 2 25]))))⟩
theorem tB:ah Tryz.prog cw=some lD:=by kernel_rfl
def kF:FK:=⟨23,[xd],qL [wJ 2] [wb 5,qU 6 5,qb 7 (.mks 6 104 [xx,qE,qE,.nils,.nils,.nils] (.t 6) (.t 6)),xC 3] (xw xz (wU 0 [xA 8,wb 9,qU 10 9,wo 11 8 10] 11 0 1 (.reg [qe 14 3,xA 15,wb 16,xA 17,qH 18 6 16 17,qM 19 6 18,xa 20 cw 19,qH 21 6 14 15,qS 6 21 20]) (xA 12) 13 12 4 13) (wG (qe 22 3) 2 22))⟩
theorem rC:ah Tryz.prog bw=some kF:=by kernel_rfl
def mv:FK:=⟨18,xH,xq xz xJ (wU 0 [wu 6,wb 7,qb 8 (.len true (.t 7)),wo 9 6 8] 9 0 1 (xh [xi,xK,qb 14 (.idxStr (.t 12) (.t 13)),wl 15,qJ 16 .eql 14 15] 16 (wG (wu 17) 4 17)) (wu 10) 11 10 5 11) (wA 4 (-1))⟩
theorem uB:ah Tryz.prog iS=some mv:=by kernel_rfl
def mr:FK:=⟨28,[xd],qd (wV 2) (qP 0 (wQ [wb 4,qn 5 .geq 4 (.c (xg 97)),wu 6,xt 7 6 0,q6 8 6 (qh .leq 7 (.c (xg 122))),xF 9 6 8 wX,qe 3 9] 3 (qv (wA 2 1)) (wQ [wb 11,qn 12 .geq 11 (.c (xg 48)),qe 13 12,xt 14 13 0,q6 15 13 (qh .leq 14 (.c (xg 57))),xF 16 13 15 wX,qe 10 16] 10 (qv (wA 2 2)) (wQ [wb 18,qx 19 iS [ww [40,41,123,125,59,44,43,45,42,47,37,60,61,38,33,64],.t 18],qy 20 .geq 19 0,qe 17 20] 17 (qv (wA 2 3)) (xh [wb 22,qn 23 .eql 22 (.c (xg 32)),qe 24 23,xp 25 24 0,qZ 26 24 (qh .eql 25 (.c (xg 10))),xS 27 24 26,qe 21 27] 21 (wA 2 4))))) (qv (wV 2)))⟩
theorem vC:ah Tryz.prog iQ=some mr:=by kernel_rfl
def pY:FK:=⟨21,xH,xq xn xJ (wU 0 [wu 6,wb 7,qb 8 (.len true (.t 7)),wo 9 6 8] 9 0 1 (xh [xi,xK,qb 14 (.idxStr (.t 12) (.t 13)),xa 15 iQ 14,wl 16,xe 17 15 16] 17 xn) (wu 10) 11 10 5 11) [wb 18,qb 19 (.len true (.t 18)),qy 20 .gtr 19 0,qe 4 20]⟩
theorem Ad:ah Tryz.prog lw=some pY:=by kernel_rfl
def lH:FK:=⟨2,[.t 0],xv [wJ 0] [wm 1 1 [xx] 9 [xR 0 [102,110],xR 1 [108,101,116],xR 2 [115,97,121],xR 3 [112,117,116],xR 4 [105,102],xR 5 [101,108,115,101],xR 6 [108,111,111,112],xR 7 [98,97,99,107],xR 8 [100,111]],wl 0]⟩
theorem tz:ah Tryz.prog eZ=some lH:=by kernel_rfl
def ra:FK:=⟨18,[xd],qL [xL] [qx 5 eZ [],wu 3] (xw xz (wU 0 [xA 6,qe 7 3,qU 8 7,wo 9 6 8] 9 0 1 (xh [qe 12 3,xA 13,xf 14 12 13,qr 15 14,wb 16,qb 17 (.bins .eql (.t 15) (.t 16))] 17 [xN 2]) (xA 10) 11 10 4 11) [xL])⟩
theorem Ah:ah Tryz.prog kU=some ra:=by kernel_rfl
def nP:FK:=⟨15,[xd],xv [xL] [wb 3,qx 4 lw (wZ 3 (qk 1)),xA 5,xt 6 5 0,q6 7 5 (.len true (.t 6)),q6 8 5 (qh .leq 7 (qk 4)),xF 9 5 8 wX,qe 10 9,xt 11 10 0,xI 12 10 kU (w9 11),q6 13 10 (q7 12),xF 14 10 13 wX,qe 2 14]⟩
theorem yk:ah Tryz.prog eL=some nP:=by kernel_rfl
def tg:FK:=⟨15,[.t 6],xv [wj 6] [wb 7,wl 8,qJ 9 .geq 7 8,qe 10 9,xt 11 10 0,xt 12 10 2,q6 13 10 (qh .leq 11 (.t 12)),xF 14 10 13 wX,qe 6 14]⟩
theorem BD:ah Tryz.prog cH=some tg:=by kernel_rfl
def ml:FK:=⟨19,[xd,.t 3],qL [qz 2 xx,qz 3 xx] (wG (wm 6 1 [xx] 23 [xR 0 [],xR 1 [115,101,116],xR 2 [109,111,118,101],xR 3 [97,100,100],xR 4 [115,117,98],xR 5 [109,117,108],xR 6 [100,105,118],xR 7 [114,101,109],xR 8 [108,101,115,115],xR 9 [115,97,109,101],xR 10 [110,111,116],xR 11 [108,111,97,100],xR 12 [115,116,111,114,101],xR 13 [115,97,121],xR 14 [99,97,108,108],xR 15 [107,101,101,112],xR 16 [116,97,107,101],xR 17 [103,105,118,101],xR 18 [102,101,116,99,104],xR 19 [114,101,115,117,108,116],xR 20 [106,117,109,112],xR 21 [98,114,97,110,99,104],xR 22 [98,97,99,107]]) 4 6) (wK (wG (wm 7 1 [xx] 23 [xR 0 [],xR 1 [65,78],xR 2 [65,66],xR 3 [65,66,67],xR 4 [65,66,67],xR 5 [65,66,67],xR 6 [65,66,67],xR 7 [65,66,67],xR 8 [65,66,67],xR 9 [65,66,67],xR 10 [65,66],xR 11 [65,66],xR 12 [65,66],xR 13 [65],xR 14 [78],xR 15 [65,78],xR 16 [65,78],xR 17 [65,78],xR 18 [65,78],xR 19 [65],xR 20 [78],xR 21 [65,78],xR 22 [65]]) 5 7) [wb 8,xu 9 [.t 8,qk 1,qk 22],wE 10 9] 10 [qz 2 xx,qz 3 xx] (qv [xA 11,xi,xf 13 11 12,wu 15,wb 16,xf 17 15 16,qr 14 13,qe 2 14,qr 18 17,qe 3 18]))⟩
theorem uJ:ah Tryz.prog fW=some ml:=by kernel_rfl
def lG:FK:=⟨11,[xd],xv [wF 1 5 0,xL] [wT 3 1,qr 4 3,wt 5 4 20,wu 6,qZ 7 6 (qj 0 1),xT 8 6 7,qZ 9 6 (qh .eql 8 (qk 21)),xS 10 6 9,xO 2]⟩
theorem to:ah Tryz.prog bF=some lG:=by kernel_rfl
def lS:FK:=⟨78,[xd],qd [wF 1 5 0,wJ 2] (qP 0 (wQ [wT 4 1,qr 5 4,wt 6 5 1,qe 7 6,qZ 8 7 (qj 0 1),xT 9 7 8,xD 10 7 cH [.t 9,qk 15,qk 18],xS 11 7 10,qe 3 11] 3 (qv [wT 12 1,qr 13 12,xG 14 13,qt 15 1 1,qr 16 15,xG 17 16,xU 18 1,qr 19 18,xG 20 19,wm 21 1 [xV] 3 [xE 0 14,xE 1 17,xE 2 20],qe 2 21]) (wQ [wT 23 1,qr 24 23,xu 25 [.t 24,qk 3,qk 9],qe 22 25] 22 (qv [wT 26 1,qr 27 26,xG 28 27,qt 29 1 1,qr 30 29,w8 31 1,qr 32 31,qb 33 (.bin .mul (qk 8) (.t 32)),xy 34 30 33,xG 35 34,qt 36 3 1,qr 37 36,xG 38 37,wm 39 1 [xV] 3 [xE 0 28,xE 1 35,xE 2 38],qe 2 39]) (wQ [wT 41 1,qr 42 41,wt 43 42 2,qe 44 43,qZ 45 44 (qj 0 1),xT 46 44 45,xD 47 44 cH [.t 46,qk 10,qk 12],xS 48 44 47,qe 40 48] 40 (qv [wT 49 1,qr 50 49,xG 51 50,qt 52 1 1,qr 53 52,w8 54 1,qr 55 54,qb 56 (.bin .mul (qk 8) (.t 55)),xy 57 53 56,xG 58 57,wm 59 1 [xV] 2 [xE 0 51,xE 1 58],qe 2 59]) (xh [wT 61 1,qr 62 61,wt 63 62 14,qe 60 63] 60 [wT 64 1,qr 65 64,xG 66 65,xU 67 1,qr 68 67,xG 69 68,wm 70 1 [xV] 2 [xE 0 66,xE 1 69],qe 2 70])))) (qv [wT 71 1,qr 72 71,xG 73 72,qt 74 1 1,qr 75 74,xG 76 75,wm 77 1 [xV] 2 [xE 0 73,xE 1 76],qe 2 77]))⟩
theorem tN:ah Tryz.prog cx=some lS:=by kernel_rfl
def mC:FK:=⟨4,[xd],wK (wV 2) [wb 3] 3 (wA 2 1) (qv (wV 2))⟩
theorem yb:ah Tryz.prog da=some mC:=by kernel_rfl
def nq:FK:=⟨19,xH,wK [wF 2 5 0,qD 4 0] [qM 5 5 2,xa 6 bF 5,wE 7 6] 7 [qM 8 5 2,xa 9 cx 8,qU 10 9,xO 4] (qv [wl 11,wT 14 2,qr 15 14,wt 16 15 21,xa 12 da 11,xk none 14 15,qb 13 (.bin .add (qk 2) (.t 12)),xa 17 da 16,xy 18 13 17,qe 4 18])⟩
theorem vq:ah Tryz.prog db=some nq:=by kernel_rfl
def ke:AK:=qL [wh 4 [qE,qE,qE,qE,qE],qD 5 0,wj 6] [xi,wl 13,xf 14 12 13,qr 15 14,qn 16 .geq 15 (.c (xg 128)),qe 7 16] (qL [wb 17,wl 18,xf 19 17 18,qr 20 19,qn 21 .rem 20 (.c (xg 128)),wz 22 .i64 21,wW 23 [qE,qE,qE,qE,qE] [xE 0 22],wh 8 [qE,qE,qE,qE,qE],qS 5 8 23] (wV 9) (.cut (qL [wT 25 8,qr 26 25,xa 27 fW 26,qe 24 27,wy 28 0 24,wy 29 1 24,qe 10 28,qe 11 29] [qe 30 11,qb 31 (.bins .eql (.t 30) (ww [])),qe 32 31,xp 33 32 7,xp 34 32 33,q6 35 34 (qi (some 5) 8),xI 36 34 bF (w9 35),q6 37 34 (q7 36),qZ 38 32 (qX 34 (.t 37) wX),xS 39 32 38] (qN 39 [qM 40 5 8,qS 5 4 40,qD 5 0,wj 6])) (wK [qM 41 5 8,xC 42,w7 43 db 41 42,qe 9 43] [wl 44,qe 45 9,xy 46 44 45,wb 47,qU 48 47,qJ 49 .gtr 46 48] 49 [qM 50 5 8,qS 5 4 50,qD 5 0,wj 6] (.cut (.blk 0 (wQ (wN (qM 59 5 8) (xa 60 bF 59) 58 60) 58 (qq [wT 61 8,qr 62 61,wt 63 62 21] (xl 63 [wb 64,wl 65,wI 66 65,xf 67 64 66,qr 68 67,wz 69 .i64 68,qt 70 1 8,xj 70 69]) (wQ [xC 71] 71 (.reg [wb 72,wl 73,qe 74 9,xy 75 73 74,qy 76 .sub 75 2,xf 77 72 76,wb 80,wl 81,qe 82 9,xy 83 81 82,qy 84 .sub 83 1,xf 85 80 84,qr 78 77,wz 79 .i64 78,qr 86 85,wz 87 .i64 86,qb 88 (.bin .mul (qk 256) (.t 87)),xy 89 79 88,xU 90 8,xj 90 89]) (.reg [wl 91,qe 92 9,xy 93 91 92,wb 94,wl 95,qe 96 9,xy 97 95 96,qy 98 .sub 97 1,xf 99 94 98,wb 103,wl 104,qe 105 9,xy 106 104 105,qy 107 .sub 106 1,xf 108 103 107,qr 100 99,wz 101 .i64 100,xy 102 93 101,qr 109 108,wz 110 .i64 109,qy 111 .gtr 110 127,xa 112 da 111,xk none 99 100,qb 113 (.bin .mul (qk 256) (.t 112)),qJ 114 .sub 102 113,xU 115 8,xj 115 114]))) (wQ [wT 117 8,qr 118 117,wt 119 118 1,qe 120 119,qZ 121 120 (qj 0 8),xT 122 120 121,xD 123 120 cH [.t 122,qk 15,qk 18],xS 124 120 123,qe 116 124] 116 (xP [wb 125,wl 126,wI 127 126,xf 128 125 127,qr 129 128,wz 130 .i64 129,qt 131 1 8,xj 131 130] [wb 132,wl 133,qW 134 133 2,xf 135 132 134,qr 136 135,wz 137 .i64 136,xU 138 8,xj 138 137]) (wQ [wT 140 8,qr 141 140,xu 142 [.t 141,qk 3,qk 9],qe 139 142] 139 (qL [wb 143,wl 144,wI 145 144,xf 146 143 145,qr 147 146,wz 148 .i64 147,qy 149 .rem 148 8,qt 150 1 8,xj 150 149] [wb 151,wl 152,wI 153 152,xf 154 151 153,qr 155 154,wz 156 .i64 155,qy 157 .quo 156 8,w8 158 8,xj 158 157] (.reg [wb 159,wl 160,qW 161 160 2,xf 162 159 161,qr 163 162,wz 164 .i64 163,qt 165 3 8,xj 165 164])) (wQ [wT 167 8,qr 168 167,wt 169 168 2,qe 170 169,qZ 171 170 (qj 0 8),xT 172 170 171,xD 173 170 cH [.t 172,qk 10,qk 12],xS 174 170 173,qe 166 174] 166 (xP [wb 175,wl 176,wI 177 176,xf 178 175 177,qr 179 178,wz 180 .i64 179,qy 181 .rem 180 8,qt 182 1 8,xj 182 181] [wb 183,wl 184,wI 185 184,xf 186 183 185,qr 187 186,wz 188 .i64 187,qy 189 .quo 188 8,w8 190 8,xj 190 189]) (wQ [wT 192 8,qr 193 192,wt 194 193 14,qe 191 194] 191 (.reg [wb 195,wl 196,wI 197 196,xf 198 195 197,qr 199 198,wz 200 .i64 199,xU 201 8,xj 201 200]) (.reg [wb 51,wl 52,wI 53 52,xf 54 51 53,qr 55 54,wz 56 .i64 55,qt 57 1 8,xj 57 56]))))))) (qv [qM 202 5 8,qe 203 9,qS 5 4 202,qe 5 203,xN 6])))))
def jV:FK:=⟨204,[.c 4 (some 5),.t 5,.t 6],(AK.whole ke)⟩
theorem yA:ah Tryz.prog jM=some jV:=by kernel_rfl
def kZ:FK:=⟨19,xH,xq xz xJ (wU 0 [wu 6,wb 7,qU 8 7,wo 9 6 8] 9 0 1 (xh [xi,xK,xf 14 12 13,qr 15 14,wl 16,qJ 17 .eql 15 16] 17 (wG (wu 18) 4 18)) (wu 10) 11 10 5 11) (wA 4 (-1))⟩
theorem pF:ah Tryz.prog dv=some kZ:=by kernel_rfl
def lR:FK:=⟨68,[.c 2 (some 1)],qL [wF 1 3 0,wh 2 [.nils]] [wW 7 [.nils] [],wh 3 [.nils],xj 3 7] (wc xz xJ (wU 0 [wu 8,w8 9 1,qr 10 9,qU 11 10,wo 12 8 11] 12 0 1 (qd [w8 15 1,qr 16 15,wu 17,qH 18 5 16 17,wT 19 18,qr 20 19,wt 21 20 14,qe 22 21,q6 23 22 (qj 2 1),q6 24 22 (wR 23),xt 25 22 5,q6 26 22 (qu 5 24 (.t 25)),q6 27 22 (qj 4 26),q6 28 22 (wR 27),xt 29 22 4,q6 30 22 (qh .geq 28 (.t 29)),xF 31 22 30 wX,qe 32 31,q6 33 32 (qj 2 1),q6 34 32 (wR 33),xt 35 32 5,q6 36 32 (qu 5 34 (.t 35)),q6 37 32 (qj 4 36),q6 38 32 (wR 37),q6 39 32 (qh .lss 38 (qk 4)),xF 40 32 39 wX] (xl 40 [w8 41 1,qr 42 41,wu 43,qH 44 5 42 43,xU 45 44,qr 46 45,wI 47 46,qe 4 47])) xK 14 13 5 14) (qq (wV 6) (wU 2 [qe 48 6,xA 49,wo 50 48 49] 50 2 3 (.reg [wT 53 3,qr 54 53,wW 55 [qE,qE,qE,qE,qE] [(0,1,qk 22)],wm 56 5 [qE,qE,qE,qE,qE] 1 [xo 0 5 55],wW 57 [qE,qE,.nils] [xE 2 56],wm 58 3 [qE,qE,.nils] 1 [xo 0 3 57],xr 59 3 40 54 58,wT 60 3,xj 60 59]) (qe 51 6) 52 51 6 52) (xv [wT 61 3,qr 62 61,qM 63 3 1,wm 64 3 [qE,qE,.nils] 1 [xo 0 3 63],xr 65 3 40 62 64,wT 66 3,xj 66 65] [qM 67 1 3,xj 2 67])))⟩
theorem tM:ah Tryz.prog fg=some lR:=by kernel_rfl
def lT:FK:=⟨20,xH,xq [wF 2 5 0,qD 4 0] [wl 5] (.blk 0 (wQ (wG (qn 7 .eql 5 (.c (xg 65))) 6 7) 6 (qv (wN (qt 8 1 2) (qr 9 8) 4 9)) (wQ (wG (qn 11 .eql 5 (.c (xg 66))) 10 11) 10 (qv (wN (w8 12 2) (qr 13 12) 4 13)) (xh (wG (qn 15 .eql 5 (.c (xg 67))) 14 15) 14 (wN (qt 16 3 2) (qr 17 16) 4 17))))) (wN (xU 18 2) (qr 19 18) 4 19)⟩
theorem tm:ah Tryz.prog fd=some lT:=by kernel_rfl
def mS:FK:=⟨37,xH,xq [wF 2 5 0,wx] xJ (wU 0 [wu 9,qy 10 .lss 9 4] 10 0 1 (qL (wN xK (qb 14 (.idxStr (ww [65,66,67,78]) (.t 13))) 6 14) [wj 7] (qq (wV 8) (wU 2 [xB 15,wl 16,qb 17 (.len true (.t 16)),wo 18 15 17] 18 2 3 (.reg [xC 21,qe 22 21,xp 23 22 1,xp 24 22 8,qZ 25 22 (.idxStr (.t 23) (.t 24)),xp 26 22 6,qZ 27 22 (qh .eql 25 (.t 26)),xS 28 22 27,qe 7 28]) (xB 19) 20 19 8 20) (xh [xC 29,wE 30 29,qe 31 30,q6 32 31 (qi (some 5) 2),xt 33 31 6,xI 34 31 fd (w5 32 33),q6 35 31 (qh .neq 34 xM),xF 36 31 35 wX] 36 xn))) (wu 11) 12 11 5 12) [xN 4]⟩
theorem vE:ah Tryz.prog iE=some mS:=by kernel_rfl
def om:FK:=⟨95,[.t 6],qL [wF 3 1 0,wF 5 5 2,wj 6] [wT 11 3,qr 12 11,wl 13,qH 14 3 12 13,qM 15 3 14,wh 7 [qE,qE,.nils],qS 3 7 15] (wK [wT 17 5,qr 18 17,xa 19 fW 18,qe 16 19,wy 20 0 16,wy 21 1 16,qe 8 20,qe 9 21] [qe 22 9,qb 23 (.bins .eql (.t 22) (ww [])),qe 24 23,qZ 25 24 (qi (some 5) 5),xp 26 24 9,xD 27 24 iE (w5 25 26),qZ 28 24 (q7 27),xS 29 24 28] 29 [wj 6] (qq (wV 10) (wU 0 [xO 30,qe 31 9,qb 32 (.len true (.t 31)),wo 33 30 32] 33 0 1 (xh [qe 36 9,xO 37,qb 38 (.idxStr (.t 36) (.t 37)),qn 39 .neq 38 (.c (xg 78)),qe 40 39,xt 42 40 9,xt 43 40 10,q6 44 40 (.idxStr (.t 42) (.t 43)),q6 41 40 (qi (some 5) 5),xI 45 40 fd (w5 41 44),xI 46 40 cH [.t 45,xM,qk 7],q6 47 40 (q7 46),xF 48 40 47 wX] 48 [wj 6]) (xO 34) 35 34 10 35) (xw [wT 49 5,qr 50 49] (.blk 2 (wQ (wY 52 50 1 51 52) 51 (qv [xU 53 5,qr 54 53,xu 55 [.t 54,xM,qk 255],qe 6 55]) (wQ (wY 57 50 14 56 57) 56 (qv [xU 58 5,qr 59 58,wl 60,qy 61 .sub 60 1,xu 62 [.t 59,xM,.t 61],qe 6 62]) (qq (wY 64 50 15 63 64) (ql 63 .skip (.reg (wY 65 50 16 63 65))) (ql 63 (qv [xU 66 5,qr 67 66,qt 68 1 7,qr 69 68,qy 70 .sub 69 1,xu 71 [.t 67,xM,.t 70],qe 6 71]) (wQ (wY 73 50 17 72 73) 72 (qv [xU 74 5,qr 75 74,xu 76 [.t 75,xM,qk 2],qe 6 76]) (wQ (wY 78 50 18 77 78) 77 (qv [xU 79 5,qr 80 79,wT 81 7,qr 82 81,qy 83 .sub 82 1,xu 84 [.t 80,xM,.t 83],qe 6 84]) (qq (wY 86 50 20 85 86) (ql 85 .skip (.reg (wY 87 50 21 85 87))) (qN 85 [xU 88 5,qr 89 88,w8 90 7,qr 91 90,qU 92 91,qy 93 .sub 92 1,xu 94 [.t 89,xM,.t 93],qe 6 94]))))))))) [xN 6])))⟩
theorem yD:ah Tryz.prog jO=some om:=by kernel_rfl
def ky:FK:=⟨81,[xd],wK [wF 1 1 0,xL] [wT 8 1,qr 9 8,qU 10 9,xu 11 [.t 10,qk 1,qk 4],wE 12 11] 12 [xL] (xq (wV 3) xz (wU 0 [xA 13,wT 14 1,qr 15 14,qU 16 15,wo 17 13 16] 17 0 1 (qL [wT 20 1,qr 21 20,xA 22,qH 23 3 21 22,qM 24 3 23,wh 5 [qE,qE,.nils],qS 3 5 24] [qe 25 3,w8 26 5,qr 27 26,qU 28 27,xy 29 25 28,qe 3 29] (wP [wT 30 5,qr 31 30,xu 32 [.t 31,xM,qk 3],wE 33 32,qe 34 33,qZ 35 34 (qj 1 5),xT 36 34 35,xD 37 34 cH [.t 36,xM,qk 64],qZ 38 34 (q7 37),xS 39 34 38,qe 40 39,qZ 41 40 (qj 2 5),xT 42 40 41,qZ 43 40 (qQ 42),qZ 44 40 (qh .eql 43 xM),xS 45 40 44,qe 46 45,xp 47 46 3,qZ 48 46 (qh .gtr 47 (qk 2000)),xS 49 46 48] 49 [xL] (qq (wV 6) (wU 2 [qe 50 6,w8 51 5,qr 52 51,qU 53 52,wo 54 50 53] 54 2 3 (xh [xA 58,w8 59 5,qe 61 6,qM 57 1 1,qr 60 59,qH 62 5 60 61,qM 63 5 62,qx 64 jO [.t 57,.t 58,.t 63],wE 65 64] 65 [xL]) (qe 55 6) 56 55 6 56) (qL [w8 66 5,qr 67 66,w8 68 5,qr 69 68,qU 70 69,qy 71 .sub 70 1,qH 72 5 67 71,wT 73 72,qr 74 73,qe 7 74] [xC 75,qy 76 .neq 75 20,qe 77 76,xt 78 77 7,q6 79 77 (qh .neq 78 (qk 22)),xF 80 77 79 wX] (qN 80 [xL]))))) (xA 18) 19 18 4 19) [xN 2])⟩
theorem sy:ah Tryz.prog ej=some ky:=by kernel_rfl
def kH:FK:=⟨35,[wD,.t 5],qL [wF 2 3 0,wJ 4,qD 5 0] (wG (wm 9 1 [qE] 0 []) 6 9) (xq (wV 7) (wV 8) (wU 0 [xB 10,w8 11 2,qr 12 11,qU 13 12,wo 14 10 13] 14 0 1 (xP [qe 17 6,xC 18,wm 19 1 [qE] 1 [xE 0 18],xr 20 1 8 17 19,qe 6 20] [xC 21,w8 22 2,xB 24,wl 27,xB 28,xf 29 27 28,qr 23 22,qH 25 5 23 24,qM 26 5 25,qr 30 29,w7 31 db 26 30,xy 32 21 31,qe 7 32]) (xB 15) 16 15 8 16) [qe 33 6,xC 34,qe 4 33,qe 5 34])⟩
theorem rV:ah Tryz.prog bz=some kH:=by kernel_rfl
def ng:FK:=⟨73,[xd],qL [wF 1 3 0,wJ 2] [w8 10 1,qr 11 10,qU 12 11,qb 13 (.mks 1 1 [qw] (.t 12) (.t 12)),qe 3 13] (xw [xN 4] (wC 0 [xA 14] 14 0 (.blk 1 (qL xn [qM 16 3 1,qe 17 3,w7 18 bz 16 17,qe 15 18,wy 19 0 15,wy 20 1 15,qe 5 19,qe 6 20] (wc [wm 21 1 [qw] 0 [],qe 22 3,xr 23 1 1 21 22,qe 7 23] (wV 8) (wU 2 [xB 24,w8 25 1,qr 26 25,qU 27 26,wo 28 24 27] 28 2 3 (qq [w8 31 1,qr 32 31,xB 33,qH 34 5 32 33,qM 35 5 34,xa 36 bF 35,wE 37 36,qe 38 37,xp 39 38 3,xp 40 38 8,qZ 41 38 (qu 1 39 (.t 40)),xT 42 38 41,xS 43 38 42] (qB 43 (.exit 3)) (qL [wu 44,w8 45 1,xB 47,wu 53,xB 54,xf 55 53 54,w8 58 1,xB 60,qr 46 45,qH 48 5 46 47,xU 49 48,qr 50 49,xf 51 44 50,qr 52 51,qr 56 55,qJ 57 .sub 52 56,qr 59 58,qH 61 5 59 60,qM 62 5 61,qx 63 db (wZ 62 wX),xk none 45 46,xk none 49 50,xk none 51 52,xk none 55 56,qJ 64 .sub 57 63,qe 9 64] [qe 65 9,xu 66 [.t 65,qk (-128),qk 127],wE 67 66] (qB 67 (xP [xC 68,xB 69,xf 70 68 69,qO 1 70 wH] [xN 4])))) (xB 29) 30 29 8 30) (.reg (wG (xC 71) 3 71)))))) (wG (qe 72 3) 2 72))⟩
theorem vv:ah Tryz.prog ch=some ng:=by kernel_rfl
def oc:FK:=⟨18,[xd],wK [wF 1 3 0,xL] [qM 5 3 1,xa 6 fg 5,xa 7 ej 6,wE 8 7] 8 [xL] (xv [qM 10 3 1,qM 11 3 1,xa 12 ch 11,xk (some 3) 1 10,w7 13 bz 10 12,qe 9 13,wy 14 0 9,wy 15 1 9,qe 3 14,qe 4 15] (wN (xA 16) (qy 17 .leq 16 8000) 2 17))⟩
theorem yr:ah Tryz.prog gF=some oc:=by kernel_rfl
def lO:FK:=⟨98,[xd,.t 3],qL [wF 1 3 0,wJ 2,wj 3] (wG (wm 11 1 [xV] 0 []) 4 11) (wP [qM 12 3 1,xa 13 gF 12,wE 14 13] 14 [xA 15,qe 2 15,wj 3] (qL (wN (qM 16 3 1) (xa 17 ch 16) 5 17) [qM 19 3 1,wu 20,w7 21 bz 19 20,qe 18 21,wy 22 0 18,wy 23 1 18,qe 6 22,qe 7 23] (xw (wV 8) (wU 0 [xB 24,w8 25 1,qr 26 25,qU 27 26,wo 28 24 27] 28 0 1 (wc [w8 31 1,qr 32 31,xB 33,qH 34 5 32 33,qM 35 5 34,wh 9 [qE,qE,qE,qE,qE],qS 5 9 35] [qM 36 5 9,xa 37 bF 36,wE 38 37] (qB 38 (qd [xA 39,qM 40 5 9,xa 41 cx 40,xr 42 1 1 39 41,qe 4 42] (.exit 1))) (qL [qe 43 6,xU 44 9,qr 45 44,xf 46 43 45,qr 47 46,qe 10 47] [xA 48,wT 49 9,wu 51,xB 52,xf 53 51 52,qr 50 49,qr 54 53,xa 55 da 54,xk none 49 50,qb 56 (.bin .mul (qk 128) (.t 55)),xy 57 50 56,xG 58 57,wm 59 1 [xV] 1 [xE 0 58],xr 60 1 1 48 59,qe 4 60] (qq [wT 61 9,qr 62 61,wt 63 62 21] (xl 63 [xA 64,qt 65 1 9,qr 66 65,xG 67 66,wm 68 1 [xV] 1 [xE 0 67],xr 69 1 1 64 68,qe 4 69]) (wQ [wu 70,xB 71,xf 72 70 71,qr 73 72] 73 (.reg [xA 74,xO 75,qy 76 .rem 75 256,xG 77 76,xO 78,qy 79 .quo 78 256,xG 80 79,wm 81 1 [xV] 2 [xE 0 77,xE 1 80],xr 82 1 1 74 81,qe 4 82]) (.reg [xA 83,xO 84,qe 85 6,xB 86,xf 87 85 86,qr 88 87,qJ 89 .sub 84 88,qM 90 5 9,qx 91 db (wZ 90 wX),xk none 87 88,qJ 92 .sub 89 91,qW 93 92 256,xG 94 93,wm 95 1 [xV] 1 [xE 0 94],xr 96 1 1 83 95,qe 4 96]))))) (xB 29) 30 29 8 30) [xA 97,qe 2 97,xN 3])))⟩
theorem tO:ah Tryz.prog dE=some lO:=by kernel_rfl
def ia:AK:=qL [wh 6 [qE,qE,.nils],wj 7] [wb 17,wl 18,wW 19 [qE,qE,.nils] [xE 0 17,xE 1 18],wh 8 [qE,qE,.nils],qS 3 8 19] (qd (wG (wm 20 1 [qE] 0 []) 9 20) (.cut (qd (wV 10) (wC 0 [xO 21,qe 22 2,qU 23 22,wo 24 21 23,qe 25 24,xt 26 25 2,q6 27 25 (qQ 26),q6 28 25 (qh .leq 27 (qk 8000)),xF 29 25 28 wX] 29 0 (.blk 1 (wK [qe 31 2,xO 32,w7 33 jM 31 32,qe 30 33,wy 34 0 30,wy 35 1 30,wy 36 2 30,wh 11 [qE,qE,qE,qE,qE],qS 5 11 34,qe 12 35,qe 13 36] [qe 37 13,wE 38 37] 38 [wW 39 [qE,qE,.nils] [],qS 3 6 39,wj 7] (qL [w8 40 8,qr 41 40,qM 42 5 11,wm 43 5 [qE,qE,qE,qE,qE] 1 [xo 0 5 42],xr 44 5 40 41 43,w8 45 8,xj 45 44] [qe 46 9,xO 47,wm 48 1 [qE] 1 [xE 0 47],xr 49 1 8 46 48,qe 9 49] (.reg [xO 50,qe 51 12,xy 52 50 51,qe 10 52])))))) (qq (wV 14) (wU 2 [qe 53 14,w8 54 8,qr 55 54,qU 56 55,wo 57 53 56] 57 2 3 (qd [w8 60 8,qr 61 60,qe 62 14,qH 63 5 61 62,qM 64 5 63,xa 65 bF 64] (xl 65 [w8 66 8,qe 68 14,qe 69 9,w8 70 8,qe 72 14,qr 67 66,qr 71 70,qH 73 5 71 72,xU 74 73,qr 75 74,w7 76 dv 69 75,xk none 66 67,qH 77 5 67 68,xU 78 77,xj 78 76])) (qe 58 14) 59 58 14 59) (wK [qM 80 3 8,xa 81 dE 80,qe 79 81,wy 82 0 79,wy 83 1 79,qe 15 82,qe 16 83] [qe 84 16,wE 85 84,qe 86 85,xp 87 86 15,qZ 88 86 (.btos (.t 87)),xp 89 86 2,qZ 90 86 (.btos (.t 89)),qZ 91 86 (.bins .neq (.t 88) (.t 90)),xS 92 86 91] 92 [wW 93 [qE,qE,.nils] [],qS 3 6 93,wj 7] (qv [qM 94 3 8,qS 3 6 94,xN 7])))))
def gY:FK:=⟨95,[.c 6 (some 3),.t 7],(AK.whole ia)⟩
theorem tL:ah Tryz.prog cA=some gY:=by kernel_rfl
def jB:FK:=⟨17,[xd],wK [wF 1 3 0,wJ 2] [qM 5 3 1,xa 6 gF 5,wE 7 6] 7 (wG (wm 8 1 [qE] 0 []) 2 8) (xv [qM 10 3 1,qM 11 3 1,xa 12 ch 11,xk (some 3) 1 10,w7 13 bz 10 12,qe 9 13,wy 14 0 9,wy 15 1 9,qe 3 14,qe 4 15] (wG (qe 16 3) 2 16))⟩
theorem pQ:ah Tryz.prog dU=some jB:=by kernel_rfl
def lA:FK:=⟨31,[xd],qL [wF 1 3 0,wJ 2] (wG (wm 6 1 [qE] 0 []) 3 6) (xq (wN (qM 7 3 1) (xa 8 dU 7) 4 8) xJ (wU 0 [wu 9,xA 10,qU 11 10,wo 12 9 11] 12 0 1 (qd [w8 15 1,qr 16 15,wu 17,qH 18 5 16 17,wT 19 18,qr 20 19,wt 21 20 14] (xl 21 [qe 22 3,xA 23,wu 24,xf 25 23 24,qr 26 25,wI 27 26,wm 28 1 [qE] 1 [xE 0 27],xr 29 1 8 22 28,qe 3 29])) xK 14 13 5 14) (wG (qe 30 3) 2 30))⟩
theorem tq:ah Tryz.prog eV=some lA:=by kernel_rfl
def nR:FK:=⟨26,xH,wK xn [wb 6,qU 7 6,wl 8,qU 9 8,xe 10 7 9] 10 xn (xw xJ (wU 0 [wu 11,xi,qU 13 12,wo 14 11 13] 14 0 1 (xh [wb 17,wu 18,xf 19 17 18,wl 21,wu 22,xf 23 21 22,qr 20 19,qr 24 23,xe 25 20 24] 25 xn) (wu 15) 16 15 5 16) [xN 4])⟩
theorem yt:ah Tryz.prog jX=some nR:=by kernel_rfl
def iX:FK:=⟨67,[xd],qL [wF 1 6 0,xL] [qt 7 1 1,qr 8 7,w8 9 1,qr 10 9,qt 11 3 1,qr 12 11,qx 13 cA [.t 8,.t 10,.t 12],qe 6 13,wy 14 0 6,wy 15 1 6,wh 3 [qE,qE,.nils],qS 3 3 14,qe 4 15] (wP [xA 16,wE 17 16,qe 18 17,qZ 19 18 (qj 0 1),xT 20 18 19,xD 21 18 eL (w9 20),qZ 22 18 (q7 21),xS 23 18 22,qe 24 23,qZ 27 24 (qj 4 1),qZ 25 24 (qi (some 3) 3),qZ 26 24 (.qcall eV (w9 25)),xT 28 24 27,xD 29 24 jX (w5 26 28),qZ 30 24 (q7 29),xS 31 24 30,qe 32 31,qZ 33 32 (qj 5 1),qZ 36 32 (qj 4 1),xT 34 32 33,qZ 35 32 (qQ 34),xT 37 32 36,qZ 38 32 (qQ 37),qZ 39 32 (qh .neq 35 (.t 38)),xS 40 32 39] 40 [xL] (xw xJ (wU 0 [wu 41,xU 42 1,qr 43 42,qU 44 43,wo 45 41 44] 45 0 1 (xh [qt 48 5 1,wu 50,qr 49 48,xf 51 49 50,qr 52 51,xa 53 eL 52,wE 54 53,qe 55 54,qZ 56 55 (qj 3 1),qZ 58 55 (qj 4 1),xp 60 55 5,xT 57 55 56,xT 59 55 58,qZ 61 55 (qu 1 59 (.t 60)),xT 62 55 61,qZ 63 55 (qu 1 57 (.t 62)),xT 64 55 63,qZ 65 55 (qh .neq 64 (.c xV)),xS 66 55 65] 66 [xL]) (wu 46) 47 46 5 47) [xN 2]))⟩
theorem oU:ah Tryz.prog dx=some iX:=by kernel_rfl
def pN:FK:=⟨20,xH,xq xz xJ (wU 0 [wu 6,wb 7,qU 8 7,wo 9 6 8] 9 0 1 (xh [xi,xK,qH 14 6 12 13,wT 15 14,qr 16 15,wl 17,qb 18 (.bins .eql (.t 16) (.t 17))] 18 (wG (wu 19) 4 19)) (wu 10) 11 10 5 11) (wA 4 (-1))⟩
theorem zO:ah Tryz.prog cD=some pN:=by kernel_rfl
def pZ:FK:=⟨18,xH,xq xn xJ (wU 0 [wu 6,wb 7,qU 8 7,wo 9 6 8] 9 0 1 (xh [xi,xK,xf 14 12 13,qr 15 14,wl 16,qb 17 (.bins .eql (.t 15) (.t 16))] 17 [xN 4]) (wu 10) 11 10 5 11) xn⟩
theorem zS:ah Tryz.prog lg=some pZ:=by kernel_rfl
def iD:FK:=⟨34,[xd],qL [wF 1 6 0,wJ 2] [wm 5 1 [xx] 0 [],wu 3] (xw xz (wU 0 [xA 6,qt 7 5 1,qr 8 7,qU 9 8,wo 10 6 9,xO 11,q6 12 11 (qi (some 6) 1),xI 13 11 dx (w9 12),xF 14 11 13 wX] 14 0 1 (qd [qe 17 3,qt 18 5 1,qr 19 18,xA 20,xf 21 19 20,qr 22 21,w7 23 lg 17 22,wE 24 23] (xl 24 [qe 25 3,qt 26 5 1,qr 27 26,xA 28,xf 29 27 28,qr 30 29,wm 31 1 [xx] 1 [xE 0 30],xr 32 1 16 25 31,qe 3 32])) (xA 15) 16 15 4 16) (wG (qe 33 3) 2 33))⟩
theorem oI:ah Tryz.prog bt=some iD:=by kernel_rfl
def mU:FK:=⟨41,[.t 6],qL [wj 6] [wb 10,wl 11,w7 12 cD 10 11,qe 7 12] (wP [xC 13,qy 14 .lss 13 0] 14 [wj 6] (wP [qe 15 2,xC 16,xf 17 15 16,qr 18 17] 18 [xN 6] (qL [qe 19 2,xC 20,xf 21 19 20,qO 1 21 wH] [wb 22,xC 23,qH 24 6 22 23,qM 25 6 24,xa 26 bt 25,qe 8 26] (xw (wV 9) (wU 0 [qe 27 9,xB 28,qU 29 28,wo 30 27 29] 30 0 1 (xh [wb 33,xB 34,qe 35 9,xf 36 34 35,qr 37 36,qe 38 2,qx 39 fG [.t 33,.t 37,.t 38],wE 40 39] 40 [wj 6]) (qe 31 9) 32 31 9 32) [xN 6]))))⟩
theorem vj:ah Tryz.prog fG=some mU:=by kernel_rfl
def lV:FK:=⟨50,xH,qL xn [wb 8,qU 9 8,qb 10 (.mks 1 1 [qw] (.t 9) (.t 9)),xO 5] (xc [wm 11 1 [xx] 0 [],xi,wl 13,qH 14 6 12 13,qM 15 6 14,xa 16 bt 15,xr 17 1 16 11 16,qe 6 17] (wC 0 [qe 18 6,qU 19 18,qy 20 .gtr 19 0] 20 0 (.blk 1 (qL [wb 21,qe 22 6,qF 23 1 22 xM,qr 24 23,w7 25 cD 21 24,qe 7 25] (wN (qe 26 6) (qb 27 (.slS 1 (.t 26) (some (qk 1)) none)) 6 27) (wP [xC 28,wl 29,qJ 30 .eql 28 29] 30 [xN 4] (qd [xC 31,qy 32 .geq 31 0,qe 33 32,xt 34 33 5,xt 35 33 7,q6 36 33 (qu 1 34 (.t 35)),q6 37 33 (wR 36),q6 38 33 (q7 37),xF 39 33 38 wX] (qB 39 (xP [wu 40,xC 41,xf 42 40 41,qO 1 42 wH] [qe 43 6,wb 44,xC 45,qH 46 6 44 45,qM 47 6 46,xa 48 bt 47,xr 49 1 16 43 48,qe 6 49]))))))) (qv xn))⟩
theorem tt:ah Tryz.prog gZ=some lV:=by kernel_rfl
def nZ:FK:=⟨38,[.t 6],wK [wJ 6] [qe 9 2,wl 10,w7 11 dv 9 10,qy 12 .geq 11 0] 12 (wG (qe 13 2) 6 13) (xq [wb 14,wl 15,qH 16 6 14 15,qM 17 6 16,xa 18 bt 17,qe 7 18] (wV 8) (wU 0 [xB 19,xC 20,qU 21 20,wo 22 19 21] 22 0 1 (.reg [wb 25,wb 26,xC 27,xB 28,xf 29 27 28,qr 30 29,w7 31 cD 26 30,qe 32 2,qx 33 gG [.t 25,.t 31,.t 32],qe 2 33]) (xB 23) 24 23 8 24) [qe 34 2,wl 35,wm 36 1 [qE] 1 [xE 0 35],xr 37 1 8 34 36,qe 6 37])⟩
theorem yj:ah Tryz.prog gG=some nZ:=by kernel_rfl
def gu:FK:=⟨85,[wD,.t 5],wK [wJ 4,qD 5 0] [wb 11,qU 12 11,qy 13 .gtr 12 12,qe 14 13,xp 15 14 1,xD 16 14 eL (w9 15),qZ 17 14 (q7 16),xS 18 14 17] 18 [wm 19 1 [qE] 0 [],qe 4 19,qD 5 1] (qq (wV 6) (wU 0 [qe 20 6,wb 21,qU 22 21,wo 23 20 22] 23 0 1 (xh [wb 26,qe 27 6,qH 28 6 26 27,qM 29 6 28,xa 30 dx 29,wE 31 30] 31 [wm 32 1 [qE] 0 [],qe 4 32,qD 5 1]) (qe 24 6) 25 24 6 25) (qq (wV 7) (wU 2 [xC 33,wb 34,qU 35 34,wo 36 33 35] 36 2 3 (xh [wb 39,wb 40,xC 41,qH 42 6 40 41,wT 43 42,qr 44 43,w7 45 cD 39 44,xC 46,xe 47 45 46] 47 [wm 48 1 [qE] 0 [],qe 4 48,qD 5 2]) (xC 37) 38 37 7 38) (wK [wb 49,qU 50 49,qb 51 (.mks 1 1 [qw] (.t 50) (.t 50)),qe 8 51] [wb 52,wl 53,xB 54,qx 55 fG [.t 52,.t 53,.t 54],wE 56 55] 56 [wm 57 1 [qE] 0 [],qe 4 57,qD 5 3] (qq (wV 9) (wU 4 [qe 58 9,wb 59,qU 60 59,wo 61 58 60] 61 4 5 (xh [xB 64,qe 65 9,xf 66 64 65,qr 67 66,qe 68 67,xt 69 68 0,xt 70 68 9,xI 71 68 gZ (w5 69 70),xF 72 68 71 wX] 72 [wm 73 1 [qE] 0 [],qe 4 73,qD 5 4]) (qe 62 9) 63 62 9 63) (wK [wb 74,wb 75,wl 76,w7 77 cD 75 76,wm 78 1 [qE] 0 [],qx 79 gG [.t 74,.t 77,.t 78],qe 10 79] [xO 80,qU 81 80,qy 82 .gtr 81 4] 82 [wm 83 1 [qE] 0 [],qe 4 83,qD 5 5] (qv [xO 84,qe 4 84,qD 5 0]))))))⟩
theorem kG:ah Tryz.prog er=some gu:=by kernel_rfl
def nY:FK:=⟨15,[.t 6],xv [wj 6] [wl 7,wb 8,qJ 9 .leq 7 8,qe 10 9,xt 11 10 0,xt 12 10 2,q6 13 10 (qh .leq 11 (.t 12)),xF 14 10 13 wX,qe 6 14]⟩
theorem ym:ah Tryz.prog aV=some nY:=by kernel_rfl
def ir:FK:=⟨21,[.t 6],xq (wV 6) [wb 9,qb 10 (.rngS (.t 9))] (qK 0 (xc [qb 11 (.nxtS (.t 10)),wy 12 0 11] (q9 12 0) (.blk 1 (qL [wy 13 1 11,wy 14 2 11,qe 7 13,qe 8 14] [wl 15,xB 16,qb 17 (.callv (.t 15) (w9 16)),qe 18 2,qb 19 (.beq false (.t 17) (.t 18))] (qN 19 (wG (xC 20) 6 20)))))) (wA 6 (-1))⟩
theorem nJ:ah Tryz.prog eJ=some ir:=by kernel_rfl
def ip:FK:=⟨8,xH,xv xz [wb 5,wl 6,qx 7 eJ [.t 5,.t 6,wH],xC 4]⟩
theorem nK:ah Tryz.prog eD=some ip:=by kernel_rfl
def fZ:FK:=⟨19,xH,xq xz [wb 6,qU 7 6,qD 8 0] (qK 0 (xc [wo 9 8 7] (q9 9 0) (q8 1 (qL (wG (xB 10) 5 10) [wl 11,xi,xK,xf 14 12 13,qr 15 14,qb 16 (.bins .eql (.t 11) (.t 15))] (qN 16 (wG (wu 17) 4 17))) (wG (wI 18 8) 8 18)))) (wA 4 (-1))⟩
theorem me:ah Tryz.prog dQ=some fZ:=by kernel_rfl
def eS:FK:=⟨9,xH,xv xn [wb 5,wl 6,w7 7 dQ 5 6,qy 8 .geq 7 0,xB 4]⟩
theorem jP:ah Tryz.prog bR=some eS:=by kernel_rfl
def lL:FK:=⟨9,[xd],xv [xL] [wb 3,qn 4 .lss 3 (.c (qf .i32 97)),xA 5,xp 6 5 0,qZ 7 5 (qh .gtr 6 (.c (qf .i32 122))),xS 8 5 7,xB 2]⟩
theorem tD:ah Tryz.prog cy=some lL:=by kernel_rfl
def nV:FK:=⟨17,[xd],xv [xL] [wb 3,qb 4 (.len true (.t 3)),qx 5 aV [.t 4,qk 1,qk 4],wu 6,xt 7 6 0,xI 8 6 eD (wZ 7 (.c (.fn (.func cy) []))),q6 9 6 (qh .lss 8 xM),xF 10 6 9 wX,xO 11,q6 12 11 (.slA 9 1 (.c (.gp 0 0)) none none),xt 13 11 0,xI 14 11 bR (w5 12 13),q6 15 11 (q7 14),xF 16 11 15 wX,qe 2 16]⟩
theorem yN:ah Tryz.prog eM=some nV:=by kernel_rfl
def cZ:FK:=⟨19,xH,xq xz [wb 6,qU 7 6,qD 8 0] (qK 0 (xc [wo 9 8 7] (q9 9 0) (q8 1 (qL (wG (xB 10) 5 10) [wl 11,xi,xK,qH 14 6 12 13,qM 15 6 14,qb 16 (.callv (.t 11) (w9 15))] (qN 16 (wG (wu 17) 4 17))) (wG (wI 18 8) 8 18)))) (wA 4 (-1))⟩
theorem gv:ah Tryz.prog bO=some cZ:=by kernel_rfl
def cn:FK:=⟨9,xH,xv xn [wb 5,wl 6,w7 7 bO 5 6,qy 8 .geq 7 0,xB 4]⟩
theorem fE:ah Tryz.prog bA=some cn:=by kernel_rfl
def tf:FK:=⟨22,[xd],qL [wJ 2] [wJ 3] (xw [wb 6,qU 7 6,qD 8 0] (qK 0 (xc [wo 9 8 7] (q9 9 0) (q8 1 (qL (wN (xf 10 6 8) (qr 11 10) 5 11) [qe 12 3,xK,w7 14 bR 12 13,wE 15 14] (xl 15 [qe 16 3,wu 17,wm 18 1 [xx] 1 [xE 0 17],xr 19 1 16 16 18,qe 3 19])) (wG (wI 20 8) 8 20)))) (wG (qe 21 3) 2 21))⟩
theorem BT:ah Tryz.prog gV=some tf:=by kernel_rfl
def cI:FK:=⟨80,[],qd [wb 9,wS 10 9,wT 11 10,qr 12 11,wl 13,qb 14 (.lk 1 qE true (.t 12) (.t 13)),qe 8 14,wy 15 0 8,wy 16 1 8,qe 4 15,qe 5 16] (qP 0 (wQ (wN (wu 18) (wE 19 18) 17 19) 17 (qv [wb 20,wS 21 20,xU 22 21,qO 1 22 wH]) (wQ [wb 24,wS 25 24,w8 26 25,qr 27 26,wl 28,qb 29 (.lk 1 qE false (.t 27) (.t 28)),wt 30 29 1,qe 23 30] 23 (qv [wb 31,wS 32 31,qt 33 5 32,qO 1 33 wH]) (qd [wb 35,wS 36 35,w8 37 36,qr 38 37,wl 39,qb 40 (.lk 1 qE false (.t 38) (.t 39)),wt 41 40 2,qe 34 41] (qB 34 .ret)))) (wc [wb 42,wS 43 42,w8 44 43,qr 45 44,wl 46,qG (.mup 1 (.t 45) (.t 46) (qk 1))] [wb 47,wS 48 47,qt 49 1 48,qr 50 49,xA 51,qH 52 6 50 51,qt 53 5 52,qr 54 53,xa 55 gV 54,qU 56 55,qD 57 0] (qK 1 (xc [wo 58 57 56] (q9 58 1) (q8 2 (xP (wN (xf 59 55 57) (qr 60 59) 7 60) [wb 61,xC 62,w7 63 dT 61 62]) (wG (wI 64 57) 57 64)))) (xP [wb 65,wS 66 65,w8 67 66,qr 68 67,wl 69,qG (.mup 1 (.t 68) (.t 69) (qk 2))] [wb 70,wb 71,wS 72 71,qt 73 3 72,qr 74 73,xA 75,wm 76 1 [qE] 1 [xE 0 75],xr 77 1 8 74 76,wS 78 70,qt 79 3 78,xj 79 77])))⟩
theorem ru:ah Tryz.prog dT=some cI:=by kernel_rfl
def nQ:FK:=⟨9,[xd],xv [xL] [wb 3,wt 4 3 20,xA 5,xp 6 5 0,qZ 7 5 (qh .eql 6 (qk 21)),xS 8 5 7,xB 2]⟩
theorem yx:ah Tryz.prog cM=some nQ:=by kernel_rfl
def mD:FK:=⟨24,[xd],xq (wV 2) [wb 3] (.blk 0 (qq [wt 5 3 1,wu 4] (ql 4 .skip (wQ (wY 6 3 15 4 6) 4 .skip (wQ (wY 7 3 16 4 7) 4 .skip (wQ (wY 8 3 17 4 8) 4 .skip (.reg (wY 9 3 18 4 9)))))) (ql 4 (qv (wV 2)) (qq (wY 11 3 2 10 11) (ql 10 .skip (wQ (wY 12 3 10 10 12) 10 .skip (wQ (wY 13 3 11 10 13) 10 .skip (.reg (wY 14 3 12 10 14))))) (ql 10 (qv (wA 2 1)) (qq (wY 16 3 13 15 16) (ql 15 .skip (wQ (wY 17 3 19 15 17) 15 .skip (.reg (wY 18 3 22 15 18)))) (ql 15 (qv (wA 2 3)) (wQ (wY 20 3 14 19 20) 19 (qv (wA 2 4)) (qq (wY 22 3 20 21 22) (ql 21 .skip (.reg (wY 23 3 21 21 23))) (qN 21 (wA 2 5))))))))))) (wA 2 2)⟩
theorem vu:ah Tryz.prog cW=some mD:=by kernel_rfl
def jz:FK:=⟨22,xH,qL [wJ 4] [wJ 5] (xw [wb 8,qU 9 8,qD 10 0] (qK 0 (xc [wo 11 10 9] (q9 11 0) (q8 1 (xP (wN (xf 12 8 10) (qr 13 12) 7 13) [wu 14,wl 15,xC 16,qb 17 (.callv (.t 15) (w9 16)),wm 18 1 [qE] 1 [xE 0 17],xr 19 1 8 14 18,qe 5 19]) (wG (wI 20 10) 10 20)))) (wG (wu 21) 4 21))⟩
theorem rx:ah Tryz.prog cE=some jz:=by kernel_rfl
def kB:FK:=⟨5,[xd],xv (wV 2) (wN (wb 3) (wz 4 .i64 3) 2 4)⟩
theorem sk:ah Tryz.prog bj=some kB:=by kernel_rfl
def mz:FK:=⟨145,[.c 4 (some 5),.t 5],qL [wh 4 [qE,qE,qE,qE,qE],qD 5 0] [xi,wl 13,qb 14 (.slS 1 (.t 12) (some (.t 13)) none),qe 6 14] (qL [qe 15 6,qF 16 1 15 xM,qr 17 16,wz 18 .i64 17,qe 7 18] (wN (xC 19) (qy 20 .geq 19 128) 8 20) (qq [xB 21] (xl 21 (wN (xC 22) (qy 23 .sub 22 128) 7 23)) (wP [xC 24,qx 25 aV [.t 24,qk 1,qk 22],wE 26 25,qe 27 26,xp 28 27 8,xp 29 27 28,xt 30 29 7,xI 31 29 cM (w9 30),q6 32 29 (q7 31),qZ 33 27 (qX 29 (.t 32) wX),xS 34 27 33] 34 [wW 35 [qE,qE,qE,qE,qE] [],qS 5 4 35,qD 5 0] (qL [xC 36,wW 37 [qE,qE,qE,qE,qE] [xE 0 36],wh 9 [qE,qE,qE,qE,qE],qS 5 9 37] [qb 38 .mkm,qG (.mup 0 (.t 38) xM (qk 3)),qG (.mup 0 (.t 38) (qk 1) (qk 2)),qG (.mup 0 (.t 38) (qk 2) (qk 3)),qG (.mup 0 (.t 38) (qk 3) (qk 2)),qG (.mup 0 (.t 38) (qk 4) (qk 2)),qG (.mup 0 (.t 38) (qk 5) (qk 2)),qe 39 38,xC 40,xa 41 cW 40,qb 42 (.lk 0 qE false (.t 39) (.t 41)),qe 10 42] (qq [xC 43,wt 44 43 21] (xl 44 (wO (xO 45) 46 45 10 46)) (qq [xB 47] (xl 47 (wO (xO 48) 49 48 10 49)) (wP [qe 50 6,qU 51 50,xO 52,wo 53 51 52] 53 [wW 54 [qE,qE,qE,qE,qE] [],qS 5 4 54,qD 5 0] (xq [qe 55 6,xO 56,qb 57 (.slS 1 (.t 55) none (some (.t 56))),qx 58 cE (wZ 57 (.c (.fn (.func bj) []))),qe 11 58] [xC 59,xa 60 cW 59] (.blk 0 (wQ (wY 94 60 0 93 94) 93 (.reg [qe 95 11,qF 96 1 95 (qk 1),qe 98 11,qF 99 1 98 (qk 2),qr 97 96,qt 101 1 9,qr 100 99,xj 101 97,xk none 99 100,xU 102 9,xj 102 100]) (wQ (wY 104 60 1 103 104) 103 (.reg [qe 105 11,qF 106 1 105 (qk 1),qe 109 11,qF 110 1 109 (qk 1),qr 107 106,qy 108 .rem 107 8,qt 113 1 9,qr 111 110,qy 112 .quo 111 8,xj 113 108,xk none 110 111,w8 114 9,xj 114 112]) (wQ (wY 116 60 2 115 116) 115 (.reg [qe 117 11,qF 118 1 117 (qk 1),qe 121 11,qF 122 1 121 (qk 1),qe 125 11,qF 126 1 125 (qk 2),qr 119 118,qy 120 .rem 119 8,qt 128 1 9,qr 123 122,qy 124 .quo 123 8,qr 127 126,xj 128 120,xk none 122 123,xk none 126 127,w8 129 9,xj 129 124,xk none 126 127,qt 130 3 9,xj 130 127]) (wQ (wY 132 60 3 131 132) 131 (.reg [qe 133 11,qF 134 1 133 (qk 1),qr 135 134,qt 136 1 9,xj 136 135]) (wQ (wY 138 60 4 137 138) 137 (.reg [qe 139 11,qF 140 1 139 (qk 1),qr 141 140,xU 142 9,xj 142 141]) (qq [xC 61,wt 62 61 21] (xl 62 [qe 63 11,qF 64 1 63 (qk 1),qr 65 64,qt 66 1 9,xj 66 65]) (wQ [xB 67] 67 (.reg [qe 68 11,xO 69,qy 70 .sub 69 2,xf 71 68 70,qe 73 11,xO 74,qy 75 .sub 74 1,xf 76 73 75,qr 72 71,qr 77 76,qb 78 (.bin .mul (qk 256) (.t 77)),xy 79 72 78,xU 80 9,xj 80 79]) (.reg [wl 81,xO 82,xy 83 81 82,qe 84 6,xO 85,qy 86 .sub 85 1,xf 87 84 86,qr 88 87,wz 89 .i8 88,wz 90 .i64 89,xy 91 83 90,xU 92 9,xj 92 91]))))))))) [qM 143 5 9,xO 144,qS 5 4 143,qe 5 144]))))))))⟩
theorem vw:ah Tryz.prog jl=some mz:=by kernel_rfl
def ju:FK:=⟨51,[wD,.t 5],qL [qz 4 (qf .u64 0),qz 5 (qf .u64 0)] (wN (wb 14) (qn 15 .and 14 (.c (qf .u64 4294967295))) 6 15) (qL (wN (wb 16) (qn 17 .shr 16 (.c (qf .u64 32))) 7 17) (wN (wl 18) (qn 19 .and 18 (.c (qf .u64 4294967295))) 8 19) (qL (wN (wl 20) (qn 21 .shr 20 (.c (qf .u64 32))) 9 21) [qe 22 6,xB 23,qJ 24 .mul 22 23,qe 10 24] (qL [xC 25,xB 26,qJ 27 .mul 25 26,xO 28,qn 29 .shr 28 (.c (qf .u64 32)),xy 30 27 29,qe 11 30] (wN (qe 31 11) (qn 32 .and 31 (.c (qf .u64 4294967295))) 12 32) (qL (wN (qe 33 11) (qn 34 .shr 33 (.c (qf .u64 32))) 13 34) [qe 35 12,qe 36 6,qe 37 9,qJ 38 .mul 36 37,xy 39 35 38,qe 12 39] (xv [xC 40,qe 41 9,qJ 42 .mul 40 41,qe 43 13,xy 44 42 43,qe 45 12,qn 46 .shr 45 (.c (qf .u64 32)),xy 47 44 46,qe 4 47] [wb 48,wl 49,qJ 50 .mul 48 49,qe 5 50])))))⟩
theorem pE:ah Tryz.prog fU=some ju:=by kernel_rfl
def lP:FK:=⟨30,[wD,.t 5],xc [qz 4 (qf .u64 0),qz 5 (qf .u64 0)] (.cond wX (xv [wb 11,wz 12 .u32 11,wl 13,wz 14 .u32 13,w7 15 rv 12 14,qe 10 15,wy 16 0 10,wy 17 1 10,qe 6 16,qe 7 17] [qe 18 6,wz 19 .u64 18,xC 20,wz 21 .u64 20,qe 4 19,qe 5 21]) .skip) (xv [wb 23,wl 24,w7 25 fU 23 24,qe 22 25,wy 26 0 22,wy 27 1 22,qe 8 26,qe 9 27] [xB 28,qe 29 9,qe 4 28,qe 5 29])⟩
theorem tn:ah Tryz.prog ie=some lP:=by kernel_rfl
def eU:FK:=⟨48,xH,wc [wJ 4] [wl 9,qy 10 .lss 9 0] (xl 10 [qb 11 .bad,qG .bad]) (wc [wb 13,qU 14 13,wz 15 .u64 14,wl 16,wz 17 .u64 16,w7 18 ie 15 17,qe 12 18,wy 19 0 12,wy 20 1 12,qe 5 19,qe 6 20] [wu 21,qn 22 .gtr 21 (.c (qf .u64 0)),qe 23 22,xp 24 23 6,qZ 25 23 (qh .gtr 24 (.c (qf .u64 9223372036854775807))),xS 26 23 25] (xl 26 [qb 27 .bad,qG .bad]) (qL [qe 28 6,wz 29 .i64 28,qb 30 (.mks 3 40 [qE,qE,.nils] (.t 29) (.t 29)),qe 7 30] [xC 31,wb 32,qb 33 (.copy 3 (.t 31) (.t 32)),qe 8 33] (.seq (wC 0 [xB 34,xC 35,qU 36 35,wo 37 34 36] 37 0 (.blk 1 (.reg [xB 38,xC 39,xB 40,qb 41 (.slS 3 (.t 39) (some (.t 40)) none),xC 42,xB 43,qb 44 (.slS 3 (.t 42) none (some (.t 43))),qb 45 (.copy 3 (.t 41) (.t 44)),xy 46 38 45,qe 8 46]))) (qv (wG (xC 47) 4 47)))))⟩
theorem jI:ah Tryz.prog cL=some eU:=by kernel_rfl
def dK:FK:=⟨19,xH,xq xz [wb 6,qU 7 6,qD 8 0] (qK 0 (xc [wo 9 8 7] (q9 9 0) (q8 1 (qL (wG (xB 10) 5 10) [wl 11,xi,xK,qH 14 5 12 13,qM 15 5 14,qb 16 (.callv (.t 11) (w9 15))] (qN 16 (wG (wu 17) 4 17))) (wG (wI 18 8) 8 18)))) (wA 4 (-1))⟩
theorem dF:ah Tryz.prog bX=some dK:=by kernel_rfl
def cQ:FK:=⟨9,xH,xv xn [wb 5,wl 6,w7 7 bX 5 6,qy 8 .geq 7 0,xB 4]⟩
theorem fY:ah Tryz.prog be=some cQ:=by kernel_rfl
def nW:FK:=⟨42,[.c 2 (some 2),.t 3],wK [wF 1 5 0,wh 2 [xx,qE],wj 3] [wT 7 1,qr 8 7,qx 9 aV [.t 8,qk 1,qk 22],wE 10 9] 10 [wW 11 [xx,qE] [],qS 2 2 11,wj 3] (xq [wT 12 1,qr 13 12,qb 14 (.idxA 23 2 (.c (.gp 1 0)) (.t 13)),qM 15 2 14,wh 4 [xx,qE],qS 2 4 15] [qt 16 1 1,qr 17 16,w8 18 1,qr 19 18,qt 20 3 1,qr 21 20,xU 22 1,qr 23 22,wW 24 [qE,qE,qE,qE] [xE 0 17,xE 1 19,xE 2 21,xE 3 23],qD 25 0] (qK 0 (xc [qy 26 .lss 25 4] (q9 26 0) (q8 1 (qL [qe 27 25,qb 28 (.idxV 4 1 none (.t 24) (.t 25)),qe 5 27,qe 6 28] [qt 29 1 4,wu 31,qb 32 (.bin .shl (qk 1) (.t 31)),qr 30 29,qJ 33 .and 30 32,wt 34 33 0,qe 35 34,xt 36 35 6,q6 37 35 (qh .neq 36 xM),xF 38 35 37 wX] (qN 38 [wW 39 [xx,qE] [],qS 2 2 39,wj 3])) (wG (wI 40 25) 25 40)))) [qM 41 2 4,qS 2 2 41,xN 3])⟩
theorem yK:ah Tryz.prog jL=some nW:=by kernel_rfl
def oo:FK:=⟨83,[.t 6],qL [wF 3 1 0,wF 5 5 2,wj 6] [qM 11 5 5,xa 12 jL 11,qe 10 12,wy 13 0 10,wy 14 1 10,wh 7 [xx,qE],qS 2 7 13,qe 8 14] (wP [xB 15,wE 16 15,qe 17 16,qZ 18 17 (qj 1 5),xT 19 17 18,xD 20 17 aV [.t 19,xM,qk 7],qZ 21 17 (q7 20),xS 22 17 21,qe 23 22,qZ 24 23 (qj 2 5),xT 25 23 24,xD 26 23 aV [.t 25,xM,qk 7],qZ 27 23 (q7 26),xS 28 23 27,qe 29 28,qZ 30 29 (qj 3 5),xT 31 29 30,xD 32 29 aV [.t 31,xM,qk 7],qZ 33 29 (q7 32),xS 34 29 33] 34 [wj 6] (xq (wA 9 255) [wT 35 5,qr 36 35] (.blk 0 (wQ (wY 38 36 14 37 38) 37 (.reg (wN (wl 39) (qy 40 .sub 39 1) 9 40)) (qq (wY 42 36 15 41 42) (ql 41 .skip (.reg (wY 43 36 16 41 43))) (ql 41 (.reg [wT 44 3,qr 45 44,wl 46,qH 47 3 45 46,qt 48 1 47,qr 49 48,qy 50 .sub 49 1,qe 9 50]) (wQ (wY 52 36 17 51 52) 51 (.reg (wA 9 2)) (wQ (wY 54 36 18 53 54) 53 (.reg [wT 55 3,qr 56 55,wl 57,qH 58 3 56 57,wT 59 58,qr 60 59,qy 61 .sub 60 1,qe 9 61]) (qq (wY 63 36 20 62 63) (ql 62 .skip (.reg (wY 64 36 21 62 64))) (xl 62 [wT 65 3,qr 66 65,wl 67,qH 68 3 66 67,w8 69 68,qr 70 69,qU 71 70,qy 72 .sub 71 1,qe 9 72])))))))) [qt 73 1 7,qr 74 73,qy 75 .and 74 8,wt 76 75 0,qe 77 76,qZ 78 77 (qj 4 5),xT 79 77 78,xp 80 77 9,xD 81 77 aV [.t 79,xM,.t 80],xS 82 77 81,qe 6 82]))⟩
theorem yM:ah Tryz.prog jW=some oo:=by kernel_rfl
def iF:FK:=⟨10,xH,xv [wF 3 5 0,wx] [qM 5 1 1,qr 6 2,qM 7 5 3,qx 8 jW [.t 5,.t 6,.t 7],wE 9 8,qe 4 9]⟩
theorem pf:ah Tryz.prog du=some iF:=by kernel_rfl
def kP:FK:=⟨63,[xd],wK [wF 1 1 0,xL] [wT 7 1,qr 8 7,qU 9 8,qx 10 aV [.t 9,qk 1,qk 4],wE 11 10] 11 [xL] (xq (wV 3) [wT 12 1,qr 13 12,qU 14 13,qD 15 0] (qK 0 (xc [wo 16 15 14] (q9 16 0) (q8 1 (qL [qe 17 15,qH 18 3 13 15,qM 19 3 18,wh 4 [qE],wh 5 [qE,qE,.nils],xj 4 17,qS 3 5 19] [qe 20 3,w8 21 5,qr 22 21,qU 23 22,xy 24 20 23,qe 3 24] (wP [wT 25 5,qr 26 25,qx 27 aV [.t 26,xM,qk 3],wE 28 27,qe 29 28,qZ 30 29 (qj 1 5),xT 31 29 30,xD 32 29 aV [.t 31,xM,qk 64],qZ 33 29 (q7 32),xS 34 29 33,qe 35 34,qZ 36 35 (qj 2 5),xT 37 35 36,qZ 38 35 (qQ 37),qZ 39 35 (qh .eql 38 xM),xS 40 35 39] 40 [xL] (qq [w8 41 5,qr 42 41,w8 43 5,qr 44 43,qU 45 44,qy 46 .sub 45 1,qH 47 5 42 46,wT 48 47,qr 49 48,qe 6 49] (xh [qe 50 6,qy 51 .neq 50 20,qe 52 51,xt 53 52 6,q6 54 52 (qh .neq 53 (qk 22)),xF 55 52 54 wX] 55 [xL]) (xh [w8 56 5,qr 57 56,qb 58 (.mkf (.func du) (w5 1 4)),w7 59 be 57 58] 59 [xL])))) (wG (wI 60 15) 15 60)))) (wN (qe 61 3) (qy 62 .leq 61 2000) 2 62))⟩
theorem rG:ah Tryz.prog eh=some kP:=by kernel_rfl
def mK:FK:=⟨55,[xd],qL [wF 1 5 0,wJ 2] [wT 5 1,qt 8 1 1,qr 6 5,xG 7 6,xC 3,qr 9 8,xG 10 9,xO 4] (xw [wT 11 1,qr 12 11,xa 13 cW 12] (.blk 0 (wQ (wY 15 13 0 14 15) 14 (qv [qe 16 3,xA 17,xU 18 1,qr 19 18,xG 20 19,wm 21 1 [xV] 3 [xE 0 16,xE 1 17,xE 2 20],qe 2 21]) (wQ (wY 23 13 1 22 23) 22 (qv [qe 24 3,xA 25,w8 26 1,qr 27 26,xG 28 27,qb 29 (.bin .mul (.c (xg 8)) (.t 28)),xy 30 25 29,wm 31 1 [xV] 2 [xE 0 24,xE 1 30],qe 2 31]) (wQ (wY 33 13 2 32 33) 32 (qv [qe 34 3,xA 35,w8 36 1,qr 37 36,xG 38 37,qb 39 (.bin .mul (.c (xg 8)) (.t 38)),xy 40 35 39,qt 41 3 1,qr 42 41,xG 43 42,wm 44 1 [xV] 3 [xE 0 34,xE 1 40,xE 2 43],qe 2 44]) (xh (wY 46 13 4 45 46) 45 [qe 47 3,xU 48 1,qr 49 48,xG 50 49,wm 51 1 [xV] 2 [xE 0 47,xE 1 50],qe 2 51]))))) [qe 52 3,xA 53,wm 54 1 [xV] 2 [xE 0 52,xE 1 53],qe 2 54])⟩
theorem vR:ah Tryz.prog di=some mK:=by kernel_rfl
def gR:FK:=⟨78,[],qL [wb 5,wb 6,wb 7,wS 8 5,xU 9 8,qO 1 9 (.c .nils),wS 10 6,qt 11 5 10,qO 1 11 (.c .nils),wS 12 7,qt 13 6 12,qO 1 13 xM] [wb 14,wS 15 14,wT 16 15,w8 17 16,qr 18 17,qU 19 18,qD 20 0] (qK 0 (xc [wo 21 20 19] (q9 21 0) (q8 1 (qL [qe 22 20,qH 23 5 18 20,qM 24 5 23,wh 3 [qE,qE,qE,qE,qE],qe 2 22,qS 5 3 24] (wA 4 2) (qq [wT 25 3,qr 26 25,xa 27 cM 26,wE 28 27] (ql 28 (.reg [qM 29 5 3,xa 30 di 29,qU 31 30,qe 4 31]) (qq [wT 32 3,qr 33 32,wt 34 33 21] (xl 34 (wO (xA 35) 36 35 4 36)) (qd [wb 37,wS 38 37,qt 39 3 38,qr 40 39,qe 41 2,xf 42 40 41,qr 43 42] (xl 43 (wO (xA 44) 45 44 4 45))))) (xP [wb 46,wb 47,wb 48,wS 49 48,xU 50 49,xA 52,qb 53 (.bslP 1 [qE] 1 [xE 0 52]),wb 55,wS 56 55,qt 57 5 56,wb 59,wS 60 59,qt 61 6 60,qr 51 50,qr 58 57,qr 62 61,qb 63 (.bslP 1 [qE] 1 [xE 0 62]),xr 54 1 8 51 53,xk none 57 58,xk none 61 62,xr 64 1 8 58 63,wS 65 46,xU 66 65,xj 66 54,wS 67 47,qt 68 5 67,xj 68 64] [wb 69,wS 70 69,qt 71 6 70,qr 72 71,xA 73,xy 74 72 73,wS 75 69,qt 76 6 75,xj 76 74]))) (wG (wI 77 20) 20 77))))⟩
theorem mh:ah Tryz.prog dZ=some gR:=by kernel_rfl
def gI:FK:=⟨36,xH,xv xz [wb 5,wS 6 5,qt 7 5 6,wb 9,wS 10 9,wT 11 10,w8 12 11,wl 14,wb 20,wS 21 20,qt 22 5 21,wl 24,wb 28,wS 29 28,xU 30 29,wl 32,qr 8 7,qr 13 12,qH 15 5 13 14,xU 16 15,qr 17 16,xf 18 8 17,qr 19 18,qr 23 22,xf 25 23 24,qr 26 25,qJ 27 .sub 19 26,qr 31 30,xf 33 31 32,qr 34 33,qJ 35 .sub 27 34,qe 4 35]⟩
theorem mj:ah Tryz.prog cJ=some gI:=by kernel_rfl
def lC:FK:=⟨92,[xd],qL [wF 1 3 0,qz 2 .nilp] (wV 3) (qq [w8 11 1,qr 12 11,qU 13 12,qD 14 0] (qK 0 (xc [wo 15 14 13] (q9 15 0) (q8 1 (qL [qH 16 5 12 14,qM 17 5 16,wh 5 [qE,qE,qE,qE,qE],qS 5 5 17] [wT 18 5,qr 19 18,wt 20 19 14] (xl 20 [qe 21 3,xU 22 5,qr 23 22,qb 24 (.mn (.t 23) (qk 4)),wI 25 24,qb 26 (.mx (.t 21) (.t 25)),qe 3 26])) (wG (wI 27 14) 14 27)))) (wK [qz 6 .any,wW 28 [qE,qE,qE,qE,qE] [(0,1,qk 22)],qb 29 (.bslP 5 [qE,qE,qE,qE,qE] 1 [xo 0 5 28]),wW 30 [qE,qE,.nils] [xE 2 29],qb 31 (.bslP 3 [qE,qE,.nils] 1 [xo 0 3 30]),qe 32 3,qM 34 3 1,qb 35 (.bslP 3 [qE,qE,.nils] 1 [xo 0 3 34]),w7 33 cL 31 32,xk (some 3) 1 34,xr 36 3 40 33 35,wW 37 [.nils] [xE 0 36],wh 6 [.nils],xj 6 37] [qM 38 1 6,xa 39 eh 38,wE 40 39] 40 [qz 2 .nilp] (wc [w8 42 1,qM 41 3 1,qr 43 42,qU 44 43,qb 45 (.mks 1 1 [qw] (.t 44) (.t 44)),xk (some 3) 1 41,wW 46 [qE,qE,.nils,.nils,.nils,.nils,qE] [xo 0 3 41,xE 3 45],wF 47 7 46,qe 7 47] [xN 8] (wC 2 [xB 48] 48 2 (.blk 3 (qL [wj 8] [xC 49,xa 50 dZ 49] (qd [w8 51 1,qr 52 51,qU 53 52,qD 54 0] (qK 4 (xc [wo 55 54 53] (q9 55 4) (q8 5 (qL [qe 56 54,qH 57 5 52 54,qM 58 5 57,wh 10 [qE,qE,qE,qE,qE],qe 9 56,qS 5 10 58] [wT 59 10,qr 60 59,xa 61 cM 60,qe 62 61,xt 63 62 7,q6 64 62 (wn 63),q6 65 62 (qj 3 64),q6 66 62 (wR 65),xt 67 62 9,q6 68 62 (qu 1 66 (.t 67)),q6 69 62 (wR 68),q6 70 62 (q7 69),xF 71 62 70 wX,qe 72 71,xt 73 72 7,xt 74 72 9,xI 75 72 cJ (w5 73 74),xI 76 72 aV [.t 75,qk (-128),qk 127],q6 77 72 (q7 76),xF 78 72 77 wX] (xl 78 [xC 79,wS 80 79,qt 81 3 80,qr 82 81,qe 83 9,xf 84 82 83,qO 1 84 wH,xN 8])) (wG (wI 85 54) 54 85)))))))) (wP [xC 86,wS 87 86,qt 88 6 87,qr 89 88,qy 90 .gtr 89 8000] 90 [qz 2 .nilp] (qv (wG (xC 91) 2 91))))))⟩
theorem tJ:ah Tryz.prog cz=some lC:=by kernel_rfl
def ii:FK:=⟨88,[xd,.t 3],qL [wF 1 3 0,wJ 2,wj 3] (wN (qM 10 3 1) (xa 11 cz 10) 4 11) (wP [xA 12,qb 13 (.pnil 0 false (.t 12))] 13 [wJ 2,wj 3] (xq [wJ 5] [w8 14 1,qr 15 14,qU 16 15,qD 17 0] (qK 0 (xc [wo 18 17 16] (q9 18 0) (q8 1 (wc [qe 19 17,qH 20 5 15 17,qM 21 5 20,wh 7 [qE,qE,qE,qE,qE],qe 6 19,qS 5 7 21] [wT 22 7,qr 23 22,xa 24 cM 23,wE 25 24] (qB 25 (qd [wu 26,qM 27 5 7,xa 28 di 27,xr 29 1 1 26 28,qe 5 29] (.exit 1))) (wc [wT 30 7,qr 31 30,xG 32 31,qe 8 32] [xA 33,wS 34 33,qt 35 3 34,qr 36 35,qe 37 6,xf 38 36 37,qr 39 38] (xl 39 (wN (xB 40) (qn 41 .add 40 (.c (xg 128))) 8 41)) (wc [wu 42,xB 43,wm 44 1 [xV] 1 [xE 0 43],xr 45 1 1 42 44,qe 5 45] [wT 46 7,qr 47 46,wt 48 47 21] (xl 48 [wu 49,qt 50 1 7,qr 51 50,xG 52 51,wm 53 1 [xV] 1 [xE 0 52],xr 54 1 1 49 53,qe 5 54]) (qL [xA 55,wS 56 55,qt 57 5 56,xU 59 7,qr 58 57,qr 60 59,xf 61 58 60,qr 62 61,qe 9 62] [xA 63,wS 64 63,qt 65 3 64,qr 66 65,qe 67 6,xf 68 66 67,qr 69 68] (ql 69 (.reg [wu 70,qe 71 9,qy 72 .rem 71 256,xG 73 72,qe 74 9,qy 75 .quo 74 256,xG 76 75,wm 77 1 [xV] 2 [xE 0 73,xE 1 76],xr 78 1 1 70 77,qe 5 78]) (.reg [wu 79,xA 80,qe 81 6,w7 82 cJ 80 81,xG 83 82,wm 84 1 [xV] 1 [xE 0 83],xr 85 1 1 79 84,qe 5 85])))))) (wG (wI 86 17) 17 86)))) [wu 87,qe 2 87,xN 3]))⟩
theorem lB:ah Tryz.prog dH=some ii:=by kernel_rfl
def oy:FK:=⟨10,xH,xv xn [wb 5,qb 6 (.btos (.t 5)),wl 7,qb 8 (.btos (.t 7)),qb 9 (.bins .eql (.t 6) (.t 8)),qe 4 9]⟩
theorem yv:ah Tryz.prog jR=some oy:=by kernel_rfl
def lJ:FK:=⟨93,[.c 6 (some 3),.t 7],qL [wh 6 [qE,qE,.nils],wj 7] [wb 19,wl 20,wW 21 [qE,qE,.nils] [xE 0 19,xE 1 20],wh 8 [qE,qE,.nils],qS 3 8 21] (wc (wG (qb 22 .mkm) 9 22) (wV 10) (wC 0 [xO 23,qe 24 2,qU 25 24,wo 26 23 25] 26 0 (.blk 1 (wK [qe 28 2,xO 29,w7 30 jl 28 29,qe 27 30,wy 31 0 27,wy 32 1 27,wh 11 [qE,qE,qE,qE,qE],qS 5 11 31,qe 12 32] [qe 33 12,wt 34 33 0] 34 [wW 35 [qE,qE,.nils] [],qS 3 6 35,wj 7] (qL [qe 36 9,xO 37,w8 38 8,qr 39 38,qU 40 39,qG (.mup 0 (.t 36) (.t 37) (.t 40))] [w8 41 8,qr 42 41,qM 43 5 11,wm 44 5 [qE,qE,qE,qE,qE] 1 [xo 0 5 43],xr 45 5 40 42 44,w8 46 8,xj 46 45] (.reg [xO 47,qe 48 12,xy 49 47 48,qe 10 49]))))) (qq [w8 50 8,qr 51 50,qU 52 51,qD 53 0] (qK 2 (xc [wo 54 53 52] (q9 54 2) (q8 3 (qL [qe 55 53,qH 56 5 51 53,qM 57 5 56,wh 14 [qE,qE,qE,qE,qE],qe 13 55,qS 5 14 57] [wT 58 14,qr 59 58,xa 60 cM 59] (qB 60 (wK [qe 62 9,xU 63 14,qr 64 63,qb 65 (.lk 0 qE true (.t 62) (.t 64)),qe 61 65,wy 66 0 61,wy 67 1 61,qe 15 66,qe 16 67] [qe 68 16,wE 69 68] 69 [wW 70 [qE,qE,.nils] [],qS 3 6 70,wj 7] (.reg [w8 71 8,qr 72 71,qe 73 13,qe 74 15,qH 75 5 72 73,xU 76 75,xj 76 74])))) (wG (wI 77 53) 53 77)))) (xw [qM 79 3 8,xa 80 dH 79,qe 78 80,wy 81 0 78,wy 82 1 78,qe 17 81,qe 18 82] (xh [qe 83 18,wE 84 83,qe 85 84,xp 86 85 17,xp 87 85 2,xD 88 85 jR (w5 86 87),qZ 89 85 (q7 88),xS 90 85 89] 90 [wW 91 [qE,qE,.nils] [],qS 3 6 91,wj 7]) [qM 92 3 8,qS 3 6 92,xN 7])))⟩
theorem tP:ah Tryz.prog bY=some lJ:=by kernel_rfl
def eO:FK:=⟨8,[xd],wK [wJ 2] [wb 3,qb 4 (.snil false (.t 3))] 4 [wJ 2] (qv [wm 5 5 [qE,qE,qE,qE,qE] 0 [],wb 6,xr 7 5 40 5 6,xC 2])⟩
theorem kg:ah Tryz.prog bQ=some eO:=by kernel_rfl
def lW:FK:=⟨8,[.c 2 (some 3)],qL [wF 1 3 0,wh 2 [qE,qE,.nils]] [w8 3 1,qr 4 3,xa 5 bQ 4,w8 6 1,xj 6 5] (qv [qM 7 3 1,qS 3 2 7])⟩
theorem tA:ah Tryz.prog fc=some lW:=by kernel_rfl
def lf:FK:=⟨26,[.c 2 (some 3)],qL [wF 1 3 0,wh 2 [qE,qE,.nils]] [qM 4 3 1,xa 5 fc 4,qS 3 1 5] (xw [w8 6 1,qr 7 6,qU 8 7,qD 9 0] (qK 0 (xc [wo 10 9 8] (q9 10 0) (q8 1 (qL (wG (qe 11 9) 3 11) [w8 12 1,qr 13 12,qe 14 3,qH 15 5 13 14,wT 16 15,qr 17 16,wt 18 17 14] (xl 18 [w8 19 1,qr 20 19,qe 21 3,qH 22 5 20 21,xU 23 22,qO 1 23 xM])) (wG (wI 24 9) 9 24)))) [qM 25 3 1,qS 3 2 25])⟩
theorem ll:ah Tryz.prog ep=some lf:=by kernel_rfl
def eQ:FK:=⟨26,xH,wK xn [wb 6,qU 7 6,wl 8,qU 9 8,xe 10 7 9] 10 xn (xw [wb 11,qU 12 11,qD 13 0] (qK 0 (xc [wo 14 13 12] (q9 14 0) (q8 1 (qL (wG (qe 15 13) 5 15) [wb 16,wu 17,qH 18 5 16 17,wl 20,wu 21,qH 22 5 20 21,qM 19 5 18,qM 23 5 22,qb 24 (.aeq [0,0,0,0,0] true (.t 19) (.t 23))] (qN 24 xn)) (wG (wI 25 13) 13 25)))) [xN 4])⟩
theorem jG:ah Tryz.prog cO=some eQ:=by kernel_rfl
def fO:FK:=⟨24,xH,xv [wF 2 3 0,wF 3 3 1,wx] [wT 5 2,qr 6 5,wT 7 3,qr 8 7,qJ 9 .eql 6 8,qe 10 9,q6 11 10 (qj 1 2),q6 12 10 (wR 11),q6 13 10 (qj 1 3),q6 14 10 (wR 13),q6 15 10 (qh .eql 12 (.t 14)),xF 16 10 15 wX,qe 17 16,q6 18 17 (qj 2 2),q6 19 17 (wR 18),q6 20 17 (qj 2 3),q6 21 17 (wR 20),xI 22 17 cO (w5 19 21),xF 23 17 22 wX,qe 4 23]⟩
theorem uK:ah Tryz.prog jj=some fO:=by kernel_rfl
def fH:FK:=⟨12,[xd],xq [wF 1 3 0,wJ 2] [qM 4 3 1,xa 5 cz 4,wu 3] (xh [qe 6 3,qb 7 (.pnil 0 true (.t 6))] 7 [qe 8 3,wS 9 8,qt 10 5 9,qr 11 10,qe 2 11]) [wJ 2]⟩
theorem jF:ah Tryz.prog cG=some fH:=by kernel_rfl
def kw:FK:=⟨28,[xd],qL [wF 1 3 0,wJ 2] [wJ 3] (xw [qM 6 3 1,xa 7 cG 6,qU 8 7,qD 9 0] (qK 0 (xc [wo 10 9 8] (q9 10 0) (q8 1 (qL [qe 11 9,xf 12 7 9,qr 13 12,qe 4 11,qe 5 13] [w8 14 1,qr 15 14,xA 16,qH 17 5 15 16,wT 18 17,qr 19 18,wt 20 19 14] (xl 20 [qe 21 3,wu 22,wI 23 22,wm 24 1 [qE] 1 [xE 0 23],xr 25 1 8 21 24,qe 3 25])) (wG (wI 26 9) 9 26)))) (wG (qe 27 3) 2 27))⟩
theorem kL:ah Tryz.prog dh=some kw:=by kernel_rfl
def iK:FK:=⟨26,xH,wK xn [wb 6,qU 7 6,wl 8,qU 9 8,xe 10 7 9] 10 xn (xw [wb 11,qU 12 11,qD 13 0] (qK 0 (xc [wo 14 13 12] (q9 14 0) (q8 1 (qL (wG (qe 15 13) 5 15) [wb 16,wu 17,xf 18 16 17,wl 20,wu 21,xf 22 20 21,qr 19 18,qr 23 22,xe 24 19 23] (qN 24 xn)) (wG (wI 25 13) 13 25)))) [xN 4])⟩
theorem oC:ah Tryz.prog fv=some iK:=by kernel_rfl
def ey:FK:=⟨19,xH,xq xz [wb 6,qU 7 6,qD 8 0] (qK 0 (xc [wo 9 8 7] (q9 9 0) (q8 1 (qL (wG (xB 10) 5 10) [wl 11,xi,xK,xf 14 12 13,qr 15 14,qb 16 (.callv (.t 11) (w9 15))] (qN 16 (wG (wu 17) 4 17))) (wG (wI 18 8) 8 18)))) (wA 4 (-1))⟩
theorem jq:ah Tryz.prog cu=some ey:=by kernel_rfl
def dL:FK:=⟨9,xH,xv xn [wb 5,wl 6,w7 7 cu 5 6,qy 8 .geq 7 0,xB 4]⟩
theorem gX:ah Tryz.prog bZ=some dL:=by kernel_rfl
def oa:FK:=⟨6,[xd],xv [xL] [wb 3,xa 4 eM 3,wE 5 4,wu 2]⟩
theorem yi:ah Tryz.prog dM=some oa:=by kernel_rfl
def mY:FK:=⟨52,[.c 2 (some 3),.t 3],qL [wF 1 6 0,wh 2 [qE,qE,.nils],wj 3] [qt 7 1 1,qr 8 7,w8 9 1,qr 10 9,qt 11 3 1,qr 12 11,qx 13 bY [.t 8,.t 10,.t 12],qe 6 13,wy 14 0 6,wy 15 1 6,wh 4 [qE,qE,.nils],qS 3 4 14,qe 5 15] (xv [wu 16,qe 17 16,q6 18 17 (qj 0 1),q6 19 17 (wR 18),xI 20 17 eM (w9 19),xF 21 17 20 wX,qe 22 21,q6 23 22 (qi (some 3) 4),q6 24 22 (qi (some 3) 4),q6 25 22 (.qcall ep (w9 24)),xI 26 22 jj (w5 23 25),xF 27 22 26 wX,qe 28 27,q6 31 28 (qj 4 1),q6 29 28 (qi (some 3) 4),q6 30 28 (.qcall dh (w9 29)),q6 32 28 (wR 31),xI 33 28 fv (w5 30 32),xF 34 28 33 wX,qe 35 34,q6 36 35 (qj 5 1),q6 39 35 (qj 4 1),q6 37 35 (wR 36),q6 38 35 (qQ 37),q6 40 35 (wR 39),q6 41 35 (qQ 40),q6 42 35 (qh .eql 38 (.t 41)),xF 43 35 42 wX,qe 5 43] [wu 45,qe 46 45,q6 47 46 (qj 5 1),qM 44 3 4,q6 48 46 (wR 47),xI 49 46 bZ (wZ 48 (.c (.fn (.func dM) []))),xk (some 3) 4 44,q6 50 46 (q7 49),xF 51 46 50 wX,qS 3 2 44,qe 3 51])⟩
theorem sW:ah Tryz.prog gP=some mY:=by kernel_rfl
def jh:FK:=⟨11,[xd],qL [wF 1 6 0,xL] [qM 6 6 1,xa 7 gP 6,xC 5,wy 8 0 5,wy 9 1 5,wh 3 [qE,qE,.nils],qS 3 3 8,qe 4 9] (qv (wG (xA 10) 2 10))⟩
theorem oX:ah Tryz.prog fh=some jh:=by kernel_rfl
def jg:FK:=⟨6,[xd],xv [wF 1 6 0,xL] [qM 3 6 1,xa 4 fh 3,wE 5 4,wu 2]⟩
theorem pc:ah Tryz.prog bM=some jg:=by kernel_rfl
def gt:FK:=⟨78,[wD,.t 5],wK [wJ 4,qD 5 0] [wb 11,qU 12 11,qy 13 .gtr 12 12,qe 14 13,xp 15 14 1,xD 16 14 eM (w9 15),qZ 17 14 (q7 16),xS 18 14 17,qe 19 18,xp 20 19 0,xD 21 19 bA (wZ 20 (.c (.fn (.func bM) []))),xS 22 19 21] 22 [wJ 4,qD 5 1] (wc [qb 23 .mkm,wb 24,qb 25 .mkm,wW 26 [.nilm,.nils,.nilm,.nils,qw,qw] [xE 0 23,xE 1 24,xE 2 25],wF 27 6 26,qe 6 27] [wb 28,qU 29 28,qD 30 0] (qK 0 (xc [wo 31 30 29] (q9 31 0) (q8 1 (wc [qe 32 30,qH 33 6 28 30,qM 34 6 33,wh 8 [xx,qE,qE,.nils,.nils,.nils],qe 7 32,qS 6 8 34] [qe 36 6,wS 37 36,wT 38 37,wT 40 8,qr 39 38,qr 41 40,qb 42 (.lk 1 qE true (.t 39) (.t 41)),qe 35 42,wy 43 0 35,wy 44 1 35,qe 9 43,qe 10 44] (xh [xO 45] 45 [wJ 4,qD 5 2]) (.reg [qe 46 6,wS 47 46,wT 48 47,wT 50 8,xC 52,qr 49 48,qr 51 50,qG (.mup 1 (.t 49) (.t 51) (.t 52))])) (wG (wI 53 30) 30 53)))) (qd [qe 54 6,wl 55,w7 56 dT 54 55] (qP 2 (wQ [qe 58 6,wS 59 58,xU 60 59,qr 61 60,qe 57 61] 57 (qv [wJ 4,qD 5 3]) (wQ [qe 63 6,wS 64 63,qt 65 5 64,qr 66 65,qe 62 66] 62 (qv [wJ 4,qD 5 4]) (xh [qe 68 6,wS 69 68,qt 70 3 69,qr 71 70,qU 72 71,qy 73 .gtr 72 4,qe 67 73] 67 [wJ 4,qD 5 5]))) (qv [qe 74 6,wS 75 74,qt 76 3 75,qr 77 76,qe 4 77,qD 5 0]))))⟩
theorem kI:ah Tryz.prog cf=some gt:=by kernel_rfl
def ox:FK:=⟨26,xH,wK xn [wb 6,qU 7 6,wl 8,qU 9 8,xe 10 7 9] 10 xn (xw xJ (wU 0 [wu 11,xi,qU 13 12,wo 14 11 13] 14 0 1 (xh [wb 17,wu 18,xf 19 17 18,wl 21,wu 22,xf 23 21 22,qr 20 19,qr 24 23,xe 25 20 24] 25 xn) (wu 15) 16 15 5 16) [xN 4])⟩
theorem yw:ah Tryz.prog jN=some ox:=by kernel_rfl
def nt:FK:=⟨26,xH,wK xn [wb 6,qU 7 6,wl 8,qU 9 8,xe 10 7 9] 10 xn (xw xJ (wU 0 [wu 11,xi,qU 13 12,wo 14 11 13] 14 0 1 (xh [wb 17,wu 18,xf 19 17 18,wl 21,wu 22,xf 23 21 22,qr 20 19,qr 24 23,xe 25 20 24] 25 xn) (wu 15) 16 15 5 16) [xN 4])⟩
theorem uU:ah Tryz.prog jf=some nt:=by kernel_rfl
def kE:FK:=⟨26,xH,wK xn [wb 6,qU 7 6,wl 8,qU 9 8,xe 10 7 9] 10 xn (xw xJ (wU 0 [wu 11,xi,qU 13 12,wo 14 11 13] 14 0 1 (xh [wb 17,wu 18,xf 19 17 18,wl 21,wu 22,xf 23 21 22,qr 20 19,qr 24 23,qb 25 (.bins .neq (.t 20) (.t 24))] 25 xn) (wu 15) 16 15 5 16) [xN 4])⟩
theorem su:ah Tryz.prog gd=some kE:=by kernel_rfl
def dJ:FK:=⟨38,xH,wK [wF 2 6 0,wF 3 6 1,wx] [wT 5 2,qr 6 5,wT 7 3,qr 8 7,qb 9 (.bins .neq (.t 6) (.t 8))] 9 xn (wP [qt 10 1 2,qr 11 10,qt 12 1 3,qr 13 12,xe 14 11 13] 14 xn (wP [w8 15 2,qr 16 15,w8 17 3,qr 18 17,xe 19 16 18] 19 xn (wP [qt 20 3 2,qr 21 20,qt 22 3 3,qr 23 22,w7 24 jf 21 23,wE 25 24] 25 xn (wP [xU 26 2,qr 27 26,xU 28 3,qr 29 28,w7 30 jN 27 29,wE 31 30] 31 xn (wP [qt 32 5 2,qr 33 32,qt 34 5 3,qr 35 34,w7 36 gd 33 35,wE 37 36] 37 xn (qv [xN 4]))))))⟩
theorem tG:ah Tryz.prog ik=some dJ:=by kernel_rfl
def kQ:FK:=⟨27,xH,wK xn [wb 6,qU 7 6,wl 8,qU 9 8,xe 10 7 9] 10 xn (xw xJ (wU 0 [wu 11,xi,qU 13 12,wo 14 11 13] 14 0 1 (xh [wb 17,wu 18,qH 19 6 17 18,wl 21,wu 22,qH 23 6 21 22,qM 20 6 19,qM 24 6 23,w7 25 ik 20 24,wE 26 25] 26 xn) (wu 15) 16 15 5 16) [xN 4])⟩
theorem sn:ah Tryz.prog gi=some kQ:=by kernel_rfl
def ij:FK:=⟨20,[xd],wK [qz 2 xx] [wb 4,qy 5 .leq 4 0] 5 [qz 2 (qT [109,48])] (xc [qz 3 xx] (wC 0 [wb 6,qy 7 .gtr 6 0] 7 0 (.blk 1 (xP [wb 8,qy 9 .rem 8 10,qb 10 (.bin .add (qk 48) (.t 9)),xG 11 10,wm 12 1 [xV] 1 [xE 0 11],qb 13 (.btos (.t 12)),qe 14 3,qb 15 (.bins .add (.t 13) (.t 14)),qe 3 15] (wN (wb 16) (qy 17 .quo 16 10) 0 17)))) (qv (wN (qe 18 3) (qb 19 (.bins .add (ww [109]) (.t 18))) 2 19)))⟩
theorem tv:ah Tryz.prog dC=some ij:=by kernel_rfl
def ef:FK:=⟨20,xH,xq xz xJ (wU 0 [wu 6,wb 7,qU 8 7,wo 9 6 8] 9 0 1 (xP [xi,xK,wl 14,xG 15 14,xf 16 12 13,xj 16 15] (wO (wl 17) 18 17 1 18)) (wu 10) 11 10 5 11) (wG (wl 19) 4 19)⟩
theorem en:ah Tryz.prog eq=some ef:=by kernel_rfl
def eX:FK:=⟨19,xH,xq xz xJ (wU 0 [wu 6,wb 7,qU 8 7,wo 9 6 8] 9 0 1 (xP [xi,xK,wl 14,xf 15 12 13,xj 15 14] (wO (wl 16) 17 16 1 17)) (wu 10) 11 10 5 11) (wG (wl 18) 4 18)⟩
theorem fa:ah Tryz.prog ff=some eX:=by kernel_rfl
def dz:FK:=⟨20,xH,xq xz xJ (wU 0 [wu 6,wb 7,qU 8 7,wo 9 6 8] 9 0 1 (xP [xi,xK,wl 14,xa 15 dC 14,xf 16 12 13,xj 16 15] (wO (wl 17) 18 17 1 18)) (wu 10) 11 10 5 11) (wG (wl 19) 4 19)⟩
theorem dr:ah Tryz.prog dq=some dz:=by kernel_rfl
def dw:FK:=⟨56,xH,xq xz xJ (wU 0 [wu 6,wb 7,qU 8 7,wo 9 6 8] 9 0 1 (qL [xi,xK,wl 14,xa 15 dC 14,qH 16 6 12 13,wT 17 16,xj 17 15] (wO (wl 18) 19 18 1 19) (qL [wb 20,wu 21,wl 22,qH 23 6 20 21,qt 24 1 23,xj 24 22] (wO (wl 25) 26 25 1 26) (qL [wb 27,wu 28,wl 29,qH 30 6 27 28,w8 31 30,xj 31 29] (wO (wl 32) 33 32 1 33) (qL [wb 34,wu 35,qH 36 6 34 35,qt 37 3 36,qr 38 37,wl 39,w7 40 eq 38 39,qe 1 40] [wb 41,wu 42,qH 43 6 41 42,xU 44 43,qr 45 44,wl 46,w7 47 ff 45 46,qe 1 47] (.reg [wb 48,wu 49,qH 50 6 48 49,qt 51 5 50,qr 52 51,wl 53,w7 54 dq 52 53,qe 1 54]))))) (wu 10) 11 10 5 11) (wG (wl 55) 4 55)⟩
theorem fq:ah Tryz.prog fj=some dw:=by kernel_rfl
def fk:FK:=⟨90,[.c 4 (some 1),.t 5],qL [wh 4 [.nils],qD 5 0] [wb 16,wl 17,w7 18 er 16 17,qe 15 18,wy 19 0 15,wy 20 1 15,qe 6 19,qe 7 20] (wP [xC 21,qy 22 .neq 21 0] 22 [wW 23 [.nils] [],xC 24,xj 4 23,qe 5 24] (wc [wW 25 [.nils] [],wh 8 [.nils],xj 8 25] (wV 9) (wU 0 [qe 26 9,qe 27 6,qU 28 27,wo 29 26 28] 29 0 1 (qL [wb 32,qe 33 6,qe 34 9,xf 35 33 34,qr 36 35,qH 37 6 32 36,qM 38 6 37,wh 10 [xx,qE,qE,.nils,.nils,.nils],qS 6 10 38] [qt 40 1 10,qr 41 40,w8 42 10,qr 43 42,qt 44 3 10,qr 45 44,qx 46 cA [.t 41,.t 43,.t 45],qe 39 46,wy 47 0 39,wy 48 1 39,wh 11 [qE,qE,.nils],qS 3 11 47,qe 12 48] (wc (wV 13) (wV 14) (wU 2 [qe 49 14,w8 50 11,qr 51 50,qU 52 51,wo 53 49 52] 53 2 3 (qd [w8 56 11,qr 57 56,qe 58 14,qH 59 5 57 58,wT 60 59,qr 61 60,wt 62 61 14] (qB 62 (xP [w8 63 11,qe 65 14,qe 66 6,wb 67,qt 68 5 10,qe 70 13,qr 64 63,qr 69 68,xf 71 69 70,qr 72 71,w7 73 cD 67 72,xk none 63 64,w7 74 dv 66 73,xk none 63 64,qH 75 5 64 65,xU 76 75,xj 76 74] (wO (qe 77 13) 78 77 13 78)))) (qe 54 14) 55 54 14 55) (.reg [wT 79 8,qr 80 79,qM 81 3 11,wm 82 3 [qE,qE,.nils] 1 [xo 0 3 81],xr 83 3 40 80 82,wT 84 8,xj 84 83]))) (qe 30 9) 31 30 9 31) (wP [qM 85 1 8,xa 86 ej 85,wE 87 86] 87 [wW 88 [.nils] [],xj 4 88,qD 5 1] (qv [qM 89 1 8,xj 4 89,qD 5 0]))))⟩
theorem iW:ah Tryz.prog dy=some fk:=by kernel_rfl
def fp:FK:=⟨92,[.c 4 (some 1),.t 5],qL [wh 4 [.nils],qD 5 0] [wb 17,wl 18,w7 19 cf 17 18,qe 16 19,wy 20 0 16,wy 21 1 16,qe 6 20,qe 7 21] (wP [xC 22,qy 23 .neq 22 0] 23 [wW 24 [.nils] [],xC 25,xj 4 24,qe 5 25] (qL (wG (qb 26 .mkm) 8 26) [wh 9 [.nils]] (qq [qe 27 6,qU 28 27,qD 29 0] (qK 0 (xc [wo 30 29 28] (q9 30 0) (q8 1 (qL [qe 31 29,xf 32 27 29,qr 33 32,qe 10 31,qe 11 33] [xB 34,wb 35,qe 36 11,qH 37 6 35 36,wT 38 37,qr 39 38,xO 40,qG (.mup 1 (.t 34) (.t 39) (.t 40))] (qL [wb 42,qe 43 11,qH 44 6 42 43,qM 45 6 44,xa 46 gP 45,qe 41 46,wy 47 0 41,wy 48 1 41,wh 12 [qE,qE,.nils],qS 3 12 47,qe 13 48] (wV 14) (qq [w8 49 12,qr 50 49,qU 51 50,qD 52 0] (qK 2 (xc [wo 53 52 51] (q9 53 2) (q8 3 (qL (wG (qe 54 52) 15 54) [w8 55 12,qr 56 55,qe 57 15,qH 58 5 56 57,wT 59 58,qr 60 59,wt 61 60 14] (qB 61 (xP [w8 62 12,qe 64 15,xB 65,wb 66,qe 67 11,qH 68 6 66 67,qt 69 5 68,qe 71 14,qr 63 62,qr 70 69,xf 72 70 71,qr 73 72,qb 74 (.lk 1 qE false (.t 65) (.t 73)),qH 75 5 63 64,xU 76 75,xj 76 74] (wO (qe 77 14) 78 77 14 78)))) (wG (wI 79 52) 52 79)))) (.reg [wT 80 9,qr 81 80,qM 82 3 12,wm 83 3 [qE,qE,.nils] 1 [xo 0 3 82],xr 84 3 40 81 83,wT 85 9,xj 85 84])))) (wG (wI 86 29) 29 86)))) (wP [qM 87 1 9,xa 88 eh 87,wE 89 88] 89 [wW 90 [.nils] [],xj 4 90,qD 5 1] (qv [qM 91 1 9,xj 4 91,qD 5 0])))))⟩
theorem iH:ah Tryz.prog bN=some fp:=by kernel_rfl
def nU:FK:=⟨30,xH,wK [wF 2 5 0,wF 3 5 1,wx] [wT 5 2,qr 6 5,wT 7 3,qr 8 7,xe 9 6 8] 9 xn (wP [qt 10 1 2,qr 11 10,qt 12 1 3,qr 13 12,xe 14 11 13] 14 xn (wP [w8 15 2,qr 16 15,w8 17 3,qr 18 17,xe 19 16 18] 19 xn (wP [qt 20 3 2,qr 21 20,qt 22 3 3,qr 23 22,xe 24 21 23] 24 xn (wP [xU 25 2,qr 26 25,xU 27 3,qr 28 27,xe 29 26 28] 29 xn (qv [xN 4])))))⟩
theorem yn:ah Tryz.prog ka=some nU:=by kernel_rfl
def mW:FK:=⟨27,xH,wK xn [wb 6,qU 7 6,wl 8,qU 9 8,xe 10 7 9] 10 xn (xw xJ (wU 0 [wu 11,xi,qU 13 12,wo 14 11 13] 14 0 1 (xh [wb 17,wu 18,qH 19 5 17 18,wl 21,wu 22,qH 23 5 21 22,qM 20 5 19,qM 24 5 23,w7 25 ka 20 24,wE 26 25] 26 xn) (wu 15) 16 15 5 16) [xN 4])⟩
theorem vB:ah Tryz.prog iJ=some mW:=by kernel_rfl
def pH:FK:=⟨21,xH,wK [wF 2 3 0,wF 3 3 1,wx] [wT 5 2,qr 6 5,wT 7 3,qr 8 7,xe 9 6 8] 9 xn (wP [qt 10 1 2,qr 11 10,qt 12 1 3,qr 13 12,xe 14 11 13] 14 xn (wP [w8 15 2,qr 16 15,w8 17 3,qr 18 17,w7 19 iJ 16 18,wE 20 19] 20 xn (qv [xN 4])))⟩
theorem zD:ah Tryz.prog lz=some pH:=by kernel_rfl
def ou:FK:=⟨27,xH,wK xn [wb 6,qU 7 6,wl 8,qU 9 8,xe 10 7 9] 10 xn (xw xJ (wU 0 [wu 11,xi,qU 13 12,wo 14 11 13] 14 0 1 (xh [wb 17,wu 18,qH 19 3 17 18,wl 21,wu 22,qH 23 3 21 22,qM 20 3 19,qM 24 3 23,w7 25 lz 20 24,wE 26 25] 26 xn) (wu 15) 16 15 5 16) [xN 4])⟩
theorem yy:ah Tryz.prog jK=some ou:=by kernel_rfl
def oe:FK:=⟨11,xH,wK [wF 2 1 0,wF 3 1 1,wx] [wT 5 2,qr 6 5,wT 7 3,qr 8 7,w7 9 jK 6 8,wE 10 9] 10 xn (qv [xN 4])⟩
theorem yf:ah Tryz.prog eN=some oe:=by kernel_rfl
def dd:FK:=⟨48,xH,xq xz xJ (wU 0 [wu 6,wb 7,qU 8 7,wo 9 6 8] 9 0 1 (qL [xi,xK,wl 14,qH 15 5 12 13,wT 16 15,xj 16 14] (wO (wl 17) 18 17 1 18) (qL [wb 19,wu 20,wl 21,qH 22 5 19 20,qt 23 1 22,xj 23 21] (wO (wl 24) 25 24 1 25) (qL [wb 26,wu 27,wl 28,qH 29 5 26 27,w8 30 29,xj 30 28] (wO (wl 31) 32 31 1 32) (qL [wb 33,wu 34,wl 35,qH 36 5 33 34,qt 37 3 36,xj 37 35] (wO (wl 38) 39 38 1 39) (xP [wb 40,wu 41,wl 42,qH 43 5 40 41,xU 44 43,xj 44 42] (wO (wl 45) 46 45 1 46)))))) (wu 10) 11 10 5 11) (wG (wl 47) 4 47)⟩
theorem cV:ah Tryz.prog eu=some dd:=by kernel_rfl
def eW:FK:=⟨34,xH,xq xz xJ (wU 0 [wu 6,wb 7,qU 8 7,wo 9 6 8] 9 0 1 (qL [xi,xK,wl 14,qH 15 3 12 13,wT 16 15,xj 16 14] (wO (wl 17) 18 17 1 18) (qL [wb 19,wu 20,wl 21,qH 22 3 19 20,qt 23 1 22,xj 23 21] (wO (wl 24) 25 24 1 25) (.reg [wb 26,wu 27,qH 28 3 26 27,w8 29 28,qr 30 29,wl 31,w7 32 eu 30 31,qe 1 32]))) (wu 10) 11 10 5 11) (wG (wl 33) 4 33)⟩
theorem ic:ah Tryz.prog io=some eW:=by kernel_rfl
def lF:FK:=⟨10,xH,qL [wF 2 1 0,qD 4 0] [wT 5 2,qr 6 5,wl 7,w7 8 io 6 7,xB 1] (qv (wG (wl 9) 4 9))⟩
theorem tC:ah Tryz.prog hE=some lF:=by kernel_rfl
def kr:FK:=⟨58,xH,xq xz xJ (wU 0 [wu 6,wb 7,qU 8 7,wo 9 6 8] 9 0 1 (wP [xi,xK,qH 14 5 12 13,wT 15 14,qr 16 15,wl 17,xe 18 16 17] 18 (wA 4 (-1)) (wK (wO (wl 19) 20 19 1 20) [wb 21,wu 22,qH 23 5 21 22,qt 24 1 23,qr 25 24,wl 26,xe 27 25 26] 27 (wA 4 (-1)) (wK (wO (wl 28) 29 28 1 29) [wb 30,wu 31,qH 32 5 30 31,w8 33 32,qr 34 33,wl 35,xe 36 34 35] 36 (wA 4 (-1)) (wK (wO (wl 37) 38 37 1 38) [wb 39,wu 40,qH 41 5 39 40,qt 42 3 41,qr 43 42,wl 44,xe 45 43 44] 45 (wA 4 (-1)) (wK (wO (wl 46) 47 46 1 47) [wb 48,wu 49,qH 50 5 48 49,xU 51 50,qr 52 51,wl 53,xe 54 52 53] 54 (wA 4 (-1)) (.reg (wO (wl 55) 56 55 1 56))))))) (wu 10) 11 10 5 11) (wG (wl 57) 4 57)⟩
theorem sx:ah Tryz.prog gq=some kr:=by kernel_rfl
def lE:FK:=⟨40,xH,xq xz xJ (wU 0 [wu 6,wb 7,qU 8 7,wo 9 6 8] 9 0 1 (wP [xi,xK,qH 14 3 12 13,wT 15 14,qr 16 15,wl 17,xe 18 16 17] 18 (wA 4 (-1)) (wK (wO (wl 19) 20 19 1 20) [wb 21,wu 22,qH 23 3 21 22,qt 24 1 23,qr 25 24,wl 26,xe 27 25 26] 27 (wA 4 (-1)) (qL (wO (wl 28) 29 28 1 29) [wb 30,wu 31,qH 32 3 30 31,w8 33 32,qr 34 33,wl 35,w7 36 gq 34 35,qe 1 36] (xh [wl 37,qy 38 .lss 37 0] 38 (wA 4 (-1)))))) (wu 10) 11 10 5 11) (wG (wl 39) 4 39)⟩
theorem tp:ah Tryz.prog il=some lE:=by kernel_rfl
def lN:FK:=⟨12,xH,qL [wF 2 1 0,qD 4 0] [wT 5 2,qr 6 5,wl 7,w7 8 il 6 7,xB 1] (wP [wl 9,qy 10 .lss 9 0] 10 (wA 4 (-1)) (qv (wG (wl 11) 4 11)))⟩
theorem ty:ah Tryz.prog fb=some lN:=by kernel_rfl
def cq:FK:=⟨104,xH,wK xn [wl 16,qb 17 (.len true (.t 16)),qy 18 .gtr 17 1048576] 18 [xN 4] (qL (wA 5 1048576) [wb 19,wu 20,w7 21 gk 19 20,qe 5 21] (wP [wu 22,qy 23 .lss 22 0] 23 [xN 4] (qL [wb 25,xa 26 bw 25,wl 27,w7 28 dy 26 27,qe 24 28,wy 29 0 24,wy 30 1 24,wh 6 [.nils],xj 6 29,qe 7 30] (wN (wb 31) (xa 32 bw 31) 8 32) (wK [xB 34,wl 35,w7 36 bN 34 35,qe 33 36,wy 37 0 33,wy 38 1 33,wh 9 [.nils],xj 9 37,qe 10 38] [qM 39 1 9,qM 40 1 6,w7 41 eN 39 40,wE 42 41,qe 43 42,xp 44 43 10,xp 45 43 7,qZ 46 43 (qh .neq 44 (.t 45)),xS 47 43 46] 47 xn (wP [xB 48,wb 49,xa 50 bw 49,w7 51 gi 48 50,wE 52 51] 52 xn (qL (wA 11 1) [xB 53,qe 54 11,w7 55 fj 53 54,qe 11 55] (wP [qe 56 11,qy 57 .lss 56 0,qe 58 57,qZ 59 58 (qi (some 1) 9),qZ 60 58 (qi (some 1) 6),xD 61 58 eN (w5 59 60),qZ 62 58 (q7 61),xS 63 58 62,qe 64 63,xp 65 64 10,xp 66 64 7,qZ 67 64 (qh .neq 65 (.t 66)),xS 68 64 67] 68 xn (qL (wA 12 1) [qM 69 1 9,qe 70 12,w7 71 hE 69 70,qe 12 71] (qL (wA 13 1) [qM 72 1 9,qe 73 13,w7 74 fb 72 73,qe 13 74] (wP [qe 75 13,qy 76 .lss 75 0] 76 xn (wP [qe 77 13,qe 78 12,xe 79 77 78] 79 xn (wK [wb 81,xa 82 bw 81,wl 83,w7 84 bN 82 83,qe 80 84,wy 85 0 80,wy 86 1 80,wh 14 [.nils],xj 14 85,qe 15 86] [qM 87 1 14,qM 88 1 6,w7 89 eN 87 88,wE 90 89,qe 91 90,xp 92 91 15,xp 93 91 7,qZ 94 91 (qh .neq 92 (.t 93)),xS 95 91 94] 95 xn (qL (wA 13 1) [qM 96 1 9,qe 97 13,w7 98 fb 96 97,qe 13 98] (wP [qe 99 13,qy 100 .lss 99 0] 100 xn (wP [qe 101 13,qe 102 12,xe 103 101 102] 103 xn (qv [xN 4]))))))))))))))))⟩
theorem jn:ah Tryz.prog eC=some cq:=by kernel_rfl
end Go.Proofs.YtbnajafpkeficaaGreatDoor
