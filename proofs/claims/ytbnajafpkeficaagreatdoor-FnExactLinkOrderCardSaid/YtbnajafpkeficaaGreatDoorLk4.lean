/-
  Contracts and lemmas that the card needs, part 4.
-/
import Derived.Test.YtbnajafpkeficaaGreatDoorLk3
import Derived.Test.YtbnajafpkeficaaGreatDoorRows
namespace Go.Proofs.YtbnajafpkeficaaGreatDoor
open Go Go.Aw
set_option maxRecDepth 100000
abbrev is:FuncId:=44
abbrev jl:FuncId:=45
abbrev gb:FuncId:=46
abbrev gH:FuncId:=19
abbrev gf:FuncId:=5
abbrev iC:FuncId:=52
abbrev jr:FuncId:=53
abbrev gd:FuncId:=54
abbrev cg:FuncId:=26
abbrev br:FuncId:=7
abbrev iv:FuncId:=107
abbrev iE:FuncId:=81
abbrev kf:FuncId:=47
abbrev eI:FuncId:=82
abbrev kb:FuncId:=48
abbrev ex:FuncId:=20
abbrev cm:FuncId:=66
abbrev fe:FuncId:=87
abbrev bz:FuncId:=64
abbrev cd:FuncId:=93
abbrev cF:FuncId:=89
abbrev cI:FuncId:=88
abbrev jn:FuncId:=63
abbrev fp:FuncId:=37
abbrev eG:FuncId:=108
abbrev eN:FuncId:=95
abbrev ii:FuncId:=94
abbrev je:FuncId:=67
abbrev fZ:FuncId:=38
abbrev bt:FuncId:=92
abbrev bU:FuncId:=91
abbrev gl:FuncId:=90
abbrev dv:FuncId:=65
abbrev eK:FuncId:=36
abbrev dF:FuncId:=83
abbrev eH:FuncId:=50
abbrev jm:FuncId:=49
abbrev dd:FuncId:=21
abbrev cV:FuncId:=22
abbrev kg:FuncId:=84
abbrev bm:FuncId:=51
abbrev fh:FuncId:=23
abbrev gJ:FuncId:=24
abbrev gg:FuncId:=25
abbrev dP:FuncId:=6
abbrev aR:FuncId:=55
abbrev eh:FuncId:=85
abbrev eb:FuncId:=56
abbrev dB:FuncId:=86
abbrev bH:FuncId:=58
abbrev ce:FuncId:=57
abbrev ey:FuncId:=27
abbrev bE:FuncId:=59
abbrev bu:FuncId:=28
abbrev gv:FuncId:=60
abbrev dE:FuncId:=31
abbrev cx:FuncId:=97
abbrev cR:FuncId:=109
abbrev cq:FuncId:=110
abbrev bg:FuncId:=111
abbrev iB:FuncId:=96
abbrev ph:FuncId:=120
abbrev ft:FuncId:=121
abbrev gG:FuncId:=119
abbrev cw:FuncId:=117
abbrev bP:FuncId:=104
abbrev aX:FuncId:=75
abbrev jx:FuncId:=105
abbrev jq:FuncId:=77
abbrev db:FuncId:=76
abbrev fV:FuncId:=40
abbrev cL:FuncId:=113
abbrev dH:FuncId:=118
abbrev co:FuncId:=114
abbrev cf:FuncId:=112
abbrev dr:FuncId:=98
abbrev jc:FuncId:=99
abbrev cb:FuncId:=68
abbrev bI:FuncId:=115
abbrev eF:FuncId:=101
abbrev gT:FuncId:=70
abbrev cu:FuncId:=100
abbrev iF:FuncId:=69
abbrev ck:FuncId:=102
abbrev dO:FuncId:=72
abbrev eU:FuncId:=71
abbrev bZ:FuncId:=103
abbrev bQ:FuncId:=73
abbrev dy:FuncId:=74
abbrev lP:FuncId:=39
abbrev eT:FuncId:=30
abbrev bG:FuncId:=29
abbrev bq:FuncId:=8
abbrev dx:FuncId:=9
abbrev ig:FuncId:=61
abbrev fI:FuncId:=62
abbrev gC:FuncId:=32
abbrev fK:FuncId:=10
abbrev dw:FuncId:=33
abbrev dS:FuncId:=34
abbrev dj:FuncId:=12
abbrev cW:FuncId:=35
abbrev eX:FuncId:=11
abbrev eL:FuncId:=13
abbrev eZ:FuncId:=3
@[reducible] def qa(a:Nat)(b:Option (Nat × Bool))(c:AI):CO:=⟨some a,b,c⟩
@[reducible] def qb(a:Nat)(b:AI):CO:=qa a none b
@[reducible] def qc(a:Nat)(b:AOp):CO:=qb a (.mov b)
@[reducible] def qd(a:List CO)(b:AK):AK:= .seq (.reg a) b
@[reducible] def qe(a b:Nat):CO:=qc a (.t b)
@[reducible] def qf(a:IntKind)(b:Int):AV:= .p (.int a b)
@[reducible] def qg(a:Int):AV:=qf .i64 a
@[reducible] def qh(a:BinOp)(b:Nat)(c:AOp):AI:= .bin a (.t b) c
@[reducible] def qi(a:Option Nat)(b:Nat):AI:= .ld a (.t b)
@[reducible] def qj(a:Int):AOp:= .c (qg a)
@[reducible] def qk(a b:Nat):AI:= .fldA a (.t b)
@[reducible] def ql(a:Nat)(b c:AK):AK:= .cond (.t a) b c
@[reducible] def qm(a:Nat)(b:BinOp)(c:Nat)(d:AOp):CO:=qb a (qh b c d)
@[reducible] def qn(a:Nat)(b:Option Nat)(c:Nat):CO:=qb a (qi b c)
@[reducible] def qo(a:Bool):AV:= .p (.bool a)
@[reducible] def qp(a:Nat)(b:Nat × Bool)(c:AI):CO:=qa a (some b) c
@[reducible] def qq(a b:Nat):CO:=qn a none b
@[reducible] def qr(a:List CO)(b c:AK):AK:= .seq (qd a b) c
@[reducible] def qt(a b c:Nat):CO:=qb a (qk b c)
@[reducible] def qu:AV:=qo false
@[reducible] def qv(a b:Nat)(c:AOp):AI:= .idxS a (.t b) c
@[reducible] def qw(a:List CO):AK:=qd a .ret
@[reducible] def qx(a:Nat)(b:FuncId)(c:List AOp):CO:=qb a (.call b c)
@[reducible] def qy(a:Nat)(b:BinOp)(c:Nat)(d:Int):CO:=qm a b c (qj d)
@[reducible] def qz(a:Nat)(b:AV):CO:=qc a (.c b)
@[reducible] def qA:AV:=qg 0
@[reducible] def qB(a:AOp):AI:= .len false a
@[reducible] def qC(a:Option (Nat × Bool))(b:AI):CO:=⟨none,a,b⟩
@[reducible] def qD(a:Nat)(b:AK):AK:=ql a b .skip
@[reducible] def qE(a:Nat)(b:Int):CO:=qc a (qj b)
@[reducible] def qF(a:AI):CO:=qC none a
@[reducible] def qG(a b c:Nat)(d:AOp):CO:=qb a (qv b c d)
@[reducible] def qH(a:Nat)(b:AK):AK:= .blk a (.loop b)
@[reducible] def qI(a:Nat)(b:BinOp)(c d:Nat):CO:=qm a b c (.t d)
@[reducible] def qJ(a b c d:Nat):CO:=qG a b c (.t d)
@[reducible] def qK(a:Nat)(b c:AOp):CO:=qF (.st a b c)
@[reducible] def qL(a:List UInt8):AV:= .p (.str a)
@[reducible] def qM(a b:List CO)(c:AK):AK:=qd a (qd b c)
@[reducible] def qN(a:Nat)(b c:AK):AK:= .seq (.blk a b) c
@[reducible] def qO(a:Nat):AI:=qB (.t a)
@[reducible] def qP(a:Nat)(b:List CO):AK:=qD a (qw b)
@[reducible] def qQ(a b c:Nat):CO:=qn a (some b) c
@[reducible] def qR(a:Nat)(b:AK)(c:Nat):AK:=ql a b (.exit c)
@[reducible] def qS(a b:Nat)(c:AOp):CO:=qK a (.t b) c
@[reducible] def qT:AV:=qo true
@[reducible] def qU(a:Nat)(b c:AOp):AI:= .pick (.t a) b c
@[reducible] def qV(a b:Nat):CO:=qb a (qO b)
@[reducible] def qW(a b:Nat)(c:Bool)(d:AI):CO:=qp a (b,c) d
@[reducible] def qX(a b:Nat)(c:AI):CO:=qW a b false c
@[reducible] def qY(a b:Nat)(c:AI):CO:=qW a b true c
@[reducible] def qZ(a b c:Nat):CO:=qS a b (.t c)
@[reducible] def q6(a:IntKind)(b:Nat):AI:= .conv a (.t b)
@[reducible] def q7(a:Nat):AI:= .not (.t a)
@[reducible] def q8(a:Nat):AI:= .mov (.t a)
@[reducible] def q9(a b:Nat)(c:Int):CO:=qy a .add b c
@[reducible] def wa(a:Nat)(b:AK)(c:List CO):AK:=qN a b (.reg c)
@[reducible] def wb(a b:Nat):AK:=qR a .skip b
@[reducible] def wc(a:Nat):CO:=qe a 0
@[reducible] def wd(a b:List CO)(c d:AK):AK:=qd a (qr b c d)
@[reducible] def wg(a:Nat):AI:= .nilck (.t a)
@[reducible] def wh(a b:Nat):AI:= .ext a (.t b)
@[reducible] def wj(a b:Nat)(c:List AV)(d:Nat)(e:List (Nat × Nat × AOp)):CO:=qb a (.bsl b c d e)
@[reducible] def wl(a:Nat):CO:=qz a qu
@[reducible] def wm(a b:Nat)(c:Int):CO:=qy a .eql b c
@[reducible] def wn(a:Nat)(b:List AV):CO:=qb a (.alloc b)
@[reducible] def wo(a b:Nat)(c d:AOp):CO:=qb a (qU b c d)
@[reducible] def wq(a:List UInt8):AOp:= .c (qL a)
@[reducible] def wt(a b c:Nat):CO:=qI a .lss b c
@[reducible] def wu(a:Nat):CO:=qe a 1
@[reducible] def wv(a:Nat)(b:IntKind)(c:Nat):CO:=qb a (q6 b c)
@[reducible] def ww(a b:Nat):AI:= .box a (.t b)
@[reducible] def wx(a:Nat):CO:=qe a 5
@[reducible] def wy(a b c:Nat):CO:=qb a (wh b c)
@[reducible] def wz:AOp:= .c qT
@[reducible] def wA(a:Nat)(b:List CO)(c d:AK):AK:=qH a (qr b c d)
@[reducible] def wB(a:Nat)(b:Int):List CO:=[qE a b]
@[reducible] def wC:CO:=wl 4
@[reducible] def wD(a:Nat)(b:List CO)(c d:Nat)(e:AK):AK:=wA a b (wb c d) e
@[reducible] def wE(a:CO)(b c:Nat):List CO:=[a,qe b c]
@[reducible] def wF(a:Nat):CO:=qz a .nils
@[reducible] def wG(a b:Nat):CO:=qb a (q7 b)
@[reducible] def wH:RV:= .t 4
@[reducible] def wI(a:List CO)(b:Nat)(c d:AK):AK:=qd a (ql b c d)
@[reducible] def wJ(a:Nat):AI:=qi none a
@[reducible] def wK(a b c:Nat)(d:AOp):AI:= .app a b (.t c) d
@[reducible] def wL(a b c:Nat):CO:=qb a (ww b c)
@[reducible] def wM(a b:Nat):CO:=qb a (wg b)
@[reducible] def wN:AOp:= .c qu
@[reducible] def wO(a:Nat)(b:List CO)(c d e:Nat)(f:AK)(g:List CO):AK:=wD a b c d (wa e f g)
@[reducible] def wP(a b:Nat)(c:Int)(d e:Nat):List CO:=wE (wm a b c) d e
@[reducible] def wQ(a b:Nat):CO:=q9 a b 1
@[reducible] def wR(a b:Nat)(c:AOp)(d:Nat):CO:=wo a b c (.t d)
@[reducible] def wS(a b c:List CO)(d e:AK):AK:=qM a b (qr c d e)
@[reducible] def wT(a b:List CO)(c:AK)(d:List CO):AK:=wd a b c (qw d)
@[reducible] def wU(a:Nat):List AOp:=[.t a]
@[reducible] def wV(a:Nat)(b:FuncId)(c:Nat):CO:=qx a b (wU c)
@[reducible] def wW(a:Nat):List CO:=wB a 0
@[reducible] def wX:RV:= .t 2
@[reducible] def wY(a b:CO)(c d:Nat):List CO:=[a,b,qe c d]
@[reducible] def wZ(a:CO)(b c d e:Nat):List CO:=wY a (wQ b c) d e
@[reducible] def w5(a:Int):AV:=qf .u8 a
@[reducible] def w7(a b:Nat):CO:=qt a b 1
@[reducible] def w8(a b c:Nat):CO:=qX a b (q8 c)
@[reducible] def w9(a:List CO)(b c:AK):AK:=qd a (.seq b c)
@[reducible] def xa(a:Nat)(b:List CO):AK:=qD a (.reg b)
@[reducible] def xb(a:Nat)(b:List CO)(c d e:Nat)(f:AK)(g:CO)(h i j k:Nat):AK:=wO a b c d e f (wZ g h i j k)
@[reducible] def xc(a b c:Nat):CO:=qJ a 1 b c
@[reducible] def xd(a:Nat)(b:List AV)(c:List (Nat × Nat × AOp)):CO:=qb a (.bld b c)
@[reducible] def xe(a:Nat)(b:AOp):List AOp:=[.t a,b]
@[reducible] def xf(a b:Nat):List AOp:=xe a (.t b)
@[reducible] def xg(a:Nat)(b:FuncId)(c d:Nat):CO:=qx a b (xf c d)
@[reducible] def xh(a b c:Nat):Nat × Nat × AOp:=(a,b,.t c)
@[reducible] def xi(a:List CO)(b:Nat)(c:List CO):AK:=qd a (qP b c)
@[reducible] def xj(a b c:Nat):CO:=qY a b (q8 c)
@[reducible] def xk(a:Option Nat)(b c:Nat):CO:=qF (.chk a b c)
@[reducible] def xl(a b c d:Nat):AI:=wK a b c (.t d)
@[reducible] def xm(a:Nat)(b:List AOp):CO:=qx a cm b
@[reducible] def xn(a b:List CO):AK:=qd a (qw b)
@[reducible] def xo(a b c:Nat):CO:=qI a .add b c
@[reducible] def xp(a b c d e:Nat):CO:=qb a (xl b c d e)
@[reducible] def xq(a:Nat):CO:=qe a 4
@[reducible] def xr:AV:=qL []
@[reducible] def xt:CO:=wc 12
@[reducible] def xu(a b:Nat)(c:FuncId)(d:List AOp):CO:=qX a b (.call c d)
@[reducible] def xv(a b:Nat):Nat × Nat × AOp:=xh a 1 b
@[reducible] def xw(a b c:Nat)(d:AOp):CO:=wo a b (.t c) d
@[reducible] def xx(a b:List CO)(c:Nat)(d:List CO)(e:AK):AK:=wd a b (qP c d) e
@[reducible] def xy(a b:Nat):CO:=wv a .u8 b
@[reducible] def xz(a:Nat):CO:=qe a 8
@[reducible] def xA(a:Nat):CO:=qe a 7
@[reducible] def xB(a b:Nat)(c:FuncId)(d:List AOp):CO:=qY a b (.call c d)
@[reducible] def xC:List CO:=wW 4
@[reducible] def xD:List CO:=[wC]
@[reducible] def xE:CO:=wl 2
@[reducible] def xF:AOp:=qj 0
@[reducible] def xG(a b:Nat):CO:=qt a 0 b
@[reducible] def xH(a b:Nat):CO:=qZ 1 a b
@[reducible] def xI(a b:Nat)(c:List UInt8):Nat × Nat × AOp:=(a,b,wq c)
@[reducible] def xJ(a:Nat)(b:List UInt8):Nat × Nat × AOp:=xI a 1 b
@[reducible] def xK(a:Nat):CO:=qe a 10
@[reducible] def xL:CO:=wx 13
@[reducible] def xM(a b c:Nat):CO:=wR a b wz c
@[reducible] def xN(a b c:Nat):CO:=qX a b (wJ c)
@[reducible] def xO:List RV:=[wH]
@[reducible] def xP:AV:=w5 0
def iz:FK:=⟨12,xO,wS xC [wu 5,wc 6,qV 7 6,qI 8 .sub 5 7,xz 1] [wu 9,qy 10 .lss 9 0] (qP 10 (wB 4 (-1))) (qw (wE (wu 11) 4 11))⟩
theorem sM:ah Tryz.prog is=some iz:=by kernel_rfl
def jv:FK:=⟨12,xO,wS xC [wu 5,wc 6,qV 7 6,qI 8 .sub 5 7,xz 1] [wu 9,qy 10 .lss 9 0] (qP 10 (wB 4 (-1))) (qw (wE (wu 11) 4 11))⟩
theorem uF:ah Tryz.prog jl=some jv:=by kernel_rfl
def fY:FK:=⟨28,xO,wS xC [wu 6,wc 7,qV 8 7,qI 9 .sub 6 8,qe 1 9] [wu 10,qy 11 .lss 10 0] (qP 11 (wB 4 (-1))) (qr (wW 5) (xb 0 [wx 12,wc 13,qV 14 13,wt 15 12 14] 15 0 1 (qM [wu 18,wc 19,wx 20,xc 21 19 20,qq 22 21,qb 23 (.len true (.t 22)),qI 24 .sub 18 23,qe 1 24] [wu 25,qy 26 .lss 25 0] (qP 26 (wB 4 (-1)))) (wx 16) 17 16 5 17) (qw (wE (wu 27) 4 27)))⟩
theorem pP:ah Tryz.prog gb=some fY:=by kernel_rfl
def gD:FK:=⟨31,xO,wS [wL 2 6 0,qE 4 0] [wu 5,xG 6 2,qq 7 6,qb 8 (.len true (.t 7)),qI 9 .sub 5 8,qe 1 9] [wu 10,qy 11 .lss 10 0] (qP 11 (wB 4 (-1))) (xx [qt 12 3 2,qq 13 12,wu 14,xg 15 is 13 14,qe 1 15] [wu 16,qy 17 .lss 16 0] 17 (wB 4 (-1)) (xx [qt 18 4 2,qq 19 18,wu 20,xg 21 jl 19 20,qe 1 21] [wu 22,qy 23 .lss 22 0] 23 (wB 4 (-1)) (wT [qt 24 5 2,qq 25 24,wu 26,xg 27 gb 25 26,qe 1 27] [wu 28,qy 29 .lss 28 0] (qP 29 (wB 4 (-1))) (wE (wu 30) 4 30))))⟩
theorem rZ:ah Tryz.prog gH=some gD:=by kernel_rfl
def fL:FK:=⟨27,xO,wS xC [wu 6,wc 7,qV 8 7,qI 9 .sub 6 8,qe 1 9] [wu 10,qy 11 .lss 10 0] (qP 11 (wB 4 (-1))) (qr (wW 5) (xb 0 [wx 12,wc 13,qV 14 13,wt 15 12 14] 15 0 1 (qM [wc 18,wx 19,qJ 20 6 18 19,qQ 21 6 20,wu 22,xg 23 gH 21 22,qe 1 23] [wu 24,qy 25 .lss 24 0] (qP 25 (wB 4 (-1)))) (wx 16) 17 16 5 17) (qw (wE (wu 26) 4 26)))⟩
theorem pW:ah Tryz.prog gf=some fL:=by kernel_rfl
def lX:FK:=⟨22,[wX],wS [wF 2] [wc 5,qV 6 5,qb 7 (.mks 1 1 [xP] (.t 6) (.t 6)),xA 3] xC (xb 0 [xq 8,wc 9,qV 10 9,wt 11 8 10] 11 0 1 (.reg [qe 14 3,xq 15,wc 16,xq 17,xc 18 16 17,qq 19 18,xc 20 14 15,xH 20 19]) (xq 12) 13 12 4 13) (qw (wE (qe 21 3) 2 21))⟩
theorem sZ:ah Tryz.prog iC=some lX:=by kernel_rfl
def mZ:FK:=⟨22,[wX],wS [wF 2] [wc 5,qV 6 5,qb 7 (.mks 1 8 [qA] (.t 6) (.t 6)),xA 3] xC (xb 0 [xq 8,wc 9,qV 10 9,wt 11 8 10] 11 0 1 (.reg [qe 14 3,xq 15,wc 16,xq 17,xc 18 16 17,qq 19 18,xc 20 14 15,xH 20 19]) (xq 12) 13 12 4 13) (qw (wE (qe 21 3) 2 21))⟩
theorem ul:ah Tryz.prog jr=some mZ:=by kernel_rfl
def jL:FK:=⟨22,[wX],wS [wF 2] [wc 5,qV 6 5,qb 7 (.mks 1 16 [xr] (.t 6) (.t 6)),xA 3] xC (xb 0 [xq 8,wc 9,qV 10 9,wt 11 8 10] 11 0 1 (.reg [qe 14 3,xq 15,wc 16,xq 17,xc 18 16 17,qq 19 18,xc 20 14 15,xH 20 19]) (xq 12) 13 12 4 13) (qw (wE (qe 21 3) 2 21))⟩
theorem pL:ah Tryz.prog gd=some jL:=by kernel_rfl
def kG:FK:=⟨26,[.c 2 (some 6)],qM [wL 1 6 0,wn 2 [xr,qA,qA,.nils,.nils,.nils]] [wn 3 [xr,qA,qA,.nils,.nils,.nils]] (qM [w7 4 0,qq 5 4,xG 6 3,xH 6 5] [w7 7 1,qq 8 7,qt 9 1 3,xH 9 8] (qM [w7 10 2,qq 11 10,qt 12 2 3,xH 12 11] [w7 13 3,qq 14 13,wV 15 iC 14,qt 16 3 3,xH 16 15] (qM [w7 17 4,qq 18 17,wV 19 jr 18,qt 20 4 3,xH 20 19] [w7 21 5,qq 22 21,wV 23 gd 22,qt 24 5 3,xH 24 23] (qw [qQ 25 6 3,qZ 6 2 25]))))⟩
theorem rY:ah Tryz.prog cg=some kG:=by kernel_rfl
def jH:FK:=⟨23,[wX],wS [wF 2] [wc 5,qV 6 5,qb 7 (.mks 6 104 [xr,qA,qA,.nils,.nils,.nils] (.t 6) (.t 6)),xA 3] xC (xb 0 [xq 8,wc 9,qV 10 9,wt 11 8 10] 11 0 1 (.reg [qe 14 3,xq 15,wc 16,xq 17,qJ 18 6 16 17,qQ 19 6 18,wV 20 cg 19,qJ 21 6 14 15,qZ 6 21 20]) (xq 12) 13 12 4 13) (qw (wE (qe 22 3) 2 22))⟩
theorem pG:ah Tryz.prog br=some jH:=by kernel_rfl
def mf:FK:=⟨18,xO,wT xC (wW 5) (xb 0 [wx 6,wc 7,qb 8 (.len true (.t 7)),wt 9 6 8] 9 0 1 (xi [xt,xL,qb 14 (.idxStr (.t 12) (.t 13)),wu 15,qI 16 .eql 14 15] 16 (wE (wx 17) 4 17)) (wx 10) 11 10 5 11) (wB 4 (-1))⟩
theorem ug:ah Tryz.prog iv=some mf:=by kernel_rfl
def lN:FK:=⟨28,[wX],qd (wW 2) (qN 0 (wI [wc 4,qm 5 .geq 4 (.c (w5 97)),wx 6,xj 7 6 0,qY 8 6 (qh .leq 7 (.c (w5 122))),xw 9 6 8 wN,qe 3 9] 3 (qw (wB 2 1)) (wI [wc 11,qm 12 .geq 11 (.c (w5 48)),qe 13 12,xj 14 13 0,qY 15 13 (qh .leq 14 (.c (w5 57))),xw 16 13 15 wN,qe 10 16] 10 (qw (wB 2 2)) (wI [wc 18,qx 19 iv [wq [40,41,123,125,59,44,43,45,42,47,37,60,61,38,33,64],.t 18],qy 20 .geq 19 0,qe 17 20] 17 (qw (wB 2 3)) (xi [wc 22,qm 23 .eql 22 (.c (w5 32)),qe 24 23,w8 25 24 0,qX 26 24 (qh .eql 25 (.c (w5 10))),xM 27 24 26,qe 21 27] 21 (wB 2 4))))) (qw (wW 2)))⟩
theorem tF:ah Tryz.prog iE=some lN:=by kernel_rfl
def ow:FK:=⟨21,xO,wT xD (wW 5) (xb 0 [wx 6,wc 7,qb 8 (.len true (.t 7)),wt 9 6 8] 9 0 1 (xi [xt,xL,qb 14 (.idxStr (.t 12) (.t 13)),wV 15 iE 14,wu 16,qI 17 .neq 15 16] 17 xD) (wx 10) 11 10 5 11) [wc 18,qb 19 (.len true (.t 18)),qy 20 .gtr 19 0,qe 4 20]⟩
theorem vM:ah Tryz.prog kf=some ow:=by kernel_rfl
def kR:FK:=⟨2,[.t 0],xn [wF 0] [wj 1 1 [xr] 9 [xJ 0 [102,110],xJ 1 [108,101,116],xJ 2 [115,97,121],xJ 3 [112,117,116],xJ 4 [105,102],xJ 5 [101,108,115,101],xJ 6 [108,111,111,112],xJ 7 [98,97,99,107],xJ 8 [100,111]],wu 0]⟩
theorem rX:ah Tryz.prog eI=some kR:=by kernel_rfl
def oG:FK:=⟨18,[wX],wS [xE] [qx 5 eI [],wx 3] xC (xb 0 [xq 6,qe 7 3,qV 8 7,wt 9 6 8] 9 0 1 (xi [qe 12 3,xq 13,xc 14 12 13,qq 15 14,wc 16,qb 17 (.bins .eql (.t 15) (.t 16))] 17 [qz 2 qT]) (xq 10) 11 10 4 11) (qw [xE])⟩
theorem ya:ah Tryz.prog kb=some oG:=by kernel_rfl
def ng:FK:=⟨15,[wX],xn [xE] [wc 3,qx 4 kf (xe 3 (qj 1)),xq 5,xj 6 5 0,qY 7 5 (.len true (.t 6)),qY 8 5 (qh .leq 7 (qj 4)),xw 9 5 8 wN,qe 10 9,xj 11 10 0,xB 12 10 kb (wU 11),qY 13 10 (q7 12),xw 14 10 13 wN,qe 2 14]⟩
theorem uR:ah Tryz.prog ex=some ng:=by kernel_rfl
def rG:FK:=⟨15,[.t 6],xn [wl 6] [wc 7,wu 8,qI 9 .geq 7 8,qe 10 9,xj 11 10 0,xj 12 10 2,qY 13 10 (qh .leq 11 (.t 12)),xw 14 10 13 wN,qe 6 14]⟩
theorem yG:ah Tryz.prog cm=some rG:=by kernel_rfl
def lz:FK:=⟨19,[wX,.t 3],qM [qz 2 xr,qz 3 xr] (wE (wj 6 1 [xr] 23 [xJ 0 [],xJ 1 [115,101,116],xJ 2 [109,111,118,101],xJ 3 [97,100,100],xJ 4 [115,117,98],xJ 5 [109,117,108],xJ 6 [100,105,118],xJ 7 [114,101,109],xJ 8 [108,101,115,115],xJ 9 [115,97,109,101],xJ 10 [110,111,116],xJ 11 [108,111,97,100],xJ 12 [115,116,111,114,101],xJ 13 [115,97,121],xJ 14 [99,97,108,108],xJ 15 [107,101,101,112],xJ 16 [116,97,107,101],xJ 17 [103,105,118,101],xJ 18 [102,101,116,99,104],xJ 19 [114,101,115,117,108,116],xJ 20 [106,117,109,112],xJ 21 [98,114,97,110,99,104],xJ 22 [98,97,99,107]]) 4 6) (wT (wE (wj 7 1 [xr] 23 [xJ 0 [],xJ 1 [65,78],xJ 2 [65,66],xJ 3 [65,66,67],xJ 4 [65,66,67],xJ 5 [65,66,67],xJ 6 [65,66,67],xJ 7 [65,66,67],xJ 8 [65,66,67],xJ 9 [65,66,67],xJ 10 [65,66],xJ 11 [65,66],xJ 12 [65,66],xJ 13 [65],xJ 14 [78],xJ 15 [65,78],xJ 16 [65,78],xJ 17 [65,78],xJ 18 [65,78],xJ 19 [65],xJ 20 [78],xJ 21 [65,78],xJ 22 [65]]) 5 7) [wc 8,xm 9 [.t 8,qj 1,qj 22],wG 10 9] (qP 10 [qz 2 xr,qz 3 xr]) [xq 11,xt,xc 13 11 12,wx 15,wc 16,xc 17 15 16,qq 14 13,qe 2 14,qq 18 17,qe 3 18])⟩
theorem tO:ah Tryz.prog fe=some lz:=by kernel_rfl
def kF:FK:=⟨11,[wX],xn [wL 1 5 0,xE] [w7 3 0,qq 4 3,wm 5 4 20,wx 6,qX 7 6 (qk 0 1),xN 8 6 7,qX 9 6 (qh .eql 8 (qj 21)),xM 10 6 9,xK 2]⟩
theorem rL:ah Tryz.prog bz=some kF:=by kernel_rfl
def kT:FK:=⟨78,[wX],qd [wL 1 5 0,wF 2] (qN 0 (wI [w7 4 0,qq 5 4,wm 6 5 1,qe 7 6,qX 8 7 (qk 0 1),xN 9 7 8,xu 10 7 cm [.t 9,qj 15,qj 18],xM 11 7 10,qe 3 11] 3 (qw [w7 12 0,qq 13 12,xy 14 13,w7 15 1,qq 16 15,xy 17 16,w7 18 4,qq 19 18,xy 20 19,wj 21 1 [xP] 3 [xv 0 14,xv 1 17,xv 2 20],qe 2 21]) (wI [w7 23 0,qq 24 23,xm 25 [.t 24,qj 3,qj 9],qe 22 25] 22 (qw [w7 26 0,qq 27 26,xy 28 27,w7 29 1,qq 30 29,w7 31 2,qq 32 31,qb 33 (.bin .mul (qj 8) (.t 32)),xo 34 30 33,xy 35 34,w7 36 3,qq 37 36,xy 38 37,wj 39 1 [xP] 3 [xv 0 28,xv 1 35,xv 2 38],qe 2 39]) (wI [w7 41 0,qq 42 41,wm 43 42 2,qe 44 43,qX 45 44 (qk 0 1),xN 46 44 45,xu 47 44 cm [.t 46,qj 10,qj 12],xM 48 44 47,qe 40 48] 40 (qw [w7 49 0,qq 50 49,xy 51 50,w7 52 1,qq 53 52,w7 54 2,qq 55 54,qb 56 (.bin .mul (qj 8) (.t 55)),xo 57 53 56,xy 58 57,wj 59 1 [xP] 2 [xv 0 51,xv 1 58],qe 2 59]) (xi [w7 61 0,qq 62 61,wm 63 62 14,qe 60 63] 60 [w7 64 0,qq 65 64,xy 66 65,w7 67 4,qq 68 67,xy 69 68,wj 70 1 [xP] 2 [xv 0 66,xv 1 69],qe 2 70])))) (qw [w7 71 0,qq 72 71,xy 73 72,w7 74 1,qq 75 74,xy 76 75,wj 77 1 [xP] 2 [xv 0 73,xv 1 76],qe 2 77]))⟩
theorem rN:ah Tryz.prog cd=some kT:=by kernel_rfl
def lJ:FK:=⟨4,[wX],wT (wW 2) [wc 3] (qP 3 (wB 2 1)) (wW 2)⟩
theorem tU:ah Tryz.prog cF=some lJ:=by kernel_rfl
def lM:FK:=⟨19,xO,wT [wL 2 5 0,qE 4 0] [qQ 5 5 2,wV 6 bz 5,wG 7 6] (qP 7 [qQ 8 5 2,wV 9 cd 8,qV 10 9,xK 4]) [wu 11,xG 14 2,qq 15 14,wm 16 15 21,wV 12 cF 11,xk none 14 15,qb 13 (.bin .add (qj 2) (.t 12)),wV 17 cF 16,xo 18 13 17,qe 4 18]⟩
theorem tx:ah Tryz.prog cI=some lM:=by kernel_rfl
def ji:AK:=qM [wn 4 [qA,qA,qA,qA,qA],qE 5 0,wl 6] [xt,wu 13,xc 14 12 13,qq 15 14,qm 16 .geq 15 (.c (w5 128)),qe 7 16] (qM [wc 17,wu 18,xc 19 17 18,qq 20 19,qm 21 .rem 20 (.c (w5 128)),wv 22 .i64 21,xd 23 [qA,qA,qA,qA,qA] [xv 0 22],wn 8 [qA,qA,qA,qA,qA],qZ 5 8 23] (wW 9) (.cut (qM [xG 25 8,qq 26 25,wV 27 fe 26,qe 24 27,wy 28 0 24,wy 29 1 24,qe 10 28,qe 11 29] [qe 30 11,qb 31 (.bins .eql (.t 30) (wq [])),qe 32 31,w8 33 32 7,w8 34 32 33,qY 35 34 (qi (some 5) 8),xB 36 34 bz (wU 35),qY 37 34 (q7 36),qX 38 32 (qU 34 (.t 37) wN),xM 39 32 38] (qP 39 [qQ 40 5 8,qZ 5 4 40,qE 5 0,wl 6])) (xx [qQ 41 5 8,xA 42,xg 43 cI 41 42,qe 9 43] [wu 44,qe 45 9,xo 46 44 45,wc 47,qV 48 47,qI 49 .gtr 46 48] 49 [qQ 50 5 8,qZ 5 4 50,qE 5 0,wl 6] (.cut (.blk 0 (wI (wY (qQ 59 5 8) (wV 60 bz 59) 58 60) 58 (qr [xG 61 8,qq 62 61,wm 63 62 21] (xa 63 [wc 64,wu 65,wQ 66 65,xc 67 64 66,qq 68 67,wv 69 .i64 68,qt 70 1 8,xH 70 69]) (wI [xA 71] 71 (.reg [wc 72,wu 73,qe 74 9,xo 75 73 74,qy 76 .sub 75 2,xc 77 72 76,wc 80,wu 81,qe 82 9,xo 83 81 82,qy 84 .sub 83 1,xc 85 80 84,qq 78 77,wv 79 .i64 78,qq 86 85,wv 87 .i64 86,qb 88 (.bin .mul (qj 256) (.t 87)),xo 89 79 88,qt 90 4 8,xH 90 89]) (.reg [wu 91,qe 92 9,xo 93 91 92,wc 94,wu 95,qe 96 9,xo 97 95 96,qy 98 .sub 97 1,xc 99 94 98,wc 103,wu 104,qe 105 9,xo 106 104 105,qy 107 .sub 106 1,xc 108 103 107,qq 100 99,wv 101 .i64 100,xo 102 93 101,qq 109 108,wv 110 .i64 109,qy 111 .gtr 110 127,wV 112 cF 111,xk none 99 100,qb 113 (.bin .mul (qj 256) (.t 112)),qI 114 .sub 102 113,qt 115 4 8,xH 115 114]))) (wI [xG 117 8,qq 118 117,wm 119 118 1,qe 120 119,qX 121 120 (qk 0 8),xN 122 120 121,xu 123 120 cm [.t 122,qj 15,qj 18],xM 124 120 123,qe 116 124] 116 (qd [wc 125,wu 126,wQ 127 126,xc 128 125 127,qq 129 128,wv 130 .i64 129,qt 131 1 8,xH 131 130] (.reg [wc 132,wu 133,q9 134 133 2,xc 135 132 134,qq 136 135,wv 137 .i64 136,qt 138 4 8,xH 138 137])) (wI [xG 140 8,qq 141 140,xm 142 [.t 141,qj 3,qj 9],qe 139 142] 139 (qM [wc 143,wu 144,wQ 145 144,xc 146 143 145,qq 147 146,wv 148 .i64 147,qy 149 .rem 148 8,qt 150 1 8,xH 150 149] [wc 151,wu 152,wQ 153 152,xc 154 151 153,qq 155 154,wv 156 .i64 155,qy 157 .quo 156 8,qt 158 2 8,xH 158 157] (.reg [wc 159,wu 160,q9 161 160 2,xc 162 159 161,qq 163 162,wv 164 .i64 163,qt 165 3 8,xH 165 164])) (wI [xG 167 8,qq 168 167,wm 169 168 2,qe 170 169,qX 171 170 (qk 0 8),xN 172 170 171,xu 173 170 cm [.t 172,qj 10,qj 12],xM 174 170 173,qe 166 174] 166 (qd [wc 175,wu 176,wQ 177 176,xc 178 175 177,qq 179 178,wv 180 .i64 179,qy 181 .rem 180 8,qt 182 1 8,xH 182 181] (.reg [wc 183,wu 184,wQ 185 184,xc 186 183 185,qq 187 186,wv 188 .i64 187,qy 189 .quo 188 8,qt 190 2 8,xH 190 189])) (wI [xG 192 8,qq 193 192,wm 194 193 14,qe 191 194] 191 (.reg [wc 195,wu 196,wQ 197 196,xc 198 195 197,qq 199 198,wv 200 .i64 199,qt 201 4 8,xH 201 200]) (.reg [wc 51,wu 52,wQ 53 52,xc 54 51 53,qq 55 54,wv 56 .i64 55,qt 57 1 8,xH 57 56]))))))) (qw [qQ 202 5 8,qe 203 9,qZ 5 4 202,qe 5 203,qz 6 qT])))))
def jb:FK:=⟨204,[.c 4 (some 5),.t 5,.t 6],(AK.whole ji)⟩
theorem uw:ah Tryz.prog jn=some jb:=by kernel_rfl
def jY:FK:=⟨19,xO,wT xC (wW 5) (xb 0 [wx 6,wc 7,qV 8 7,wt 9 6 8] 9 0 1 (xi [xt,xL,xc 14 12 13,qq 15 14,wu 16,qI 17 .eql 15 16] 17 (wE (wx 18) 4 18)) (wx 10) 11 10 5 11) (wB 4 (-1))⟩
theorem od:ah Tryz.prog fp=some jY:=by kernel_rfl
def kK:FK:=⟨68,[.c 2 (some 1)],qM [wL 1 3 0,wn 2 [.nils]] [xd 7 [.nils] [],wn 3 [.nils],xH 3 7] (wd xC (wW 5) (xb 0 [wx 8,w7 9 2,qq 10 9,qV 11 10,wt 12 8 11] 12 0 1 (qd [w7 15 2,qq 16 15,wx 17,qJ 18 5 16 17,xG 19 18,qq 20 19,wm 21 20 14,qe 22 21,qY 23 22 (qk 2 1),qY 24 22 (wJ 23),xj 25 22 5,qY 26 22 (qv 5 24 (.t 25)),qY 27 22 (qk 4 26),qY 28 22 (wJ 27),xj 29 22 4,qY 30 22 (qh .geq 28 (.t 29)),xw 31 22 30 wN,qe 32 31,qY 33 32 (qk 2 1),qY 34 32 (wJ 33),xj 35 32 5,qY 36 32 (qv 5 34 (.t 35)),qY 37 32 (qk 4 36),qY 38 32 (wJ 37),qY 39 32 (qh .lss 38 (qj 4)),xw 40 32 39 wN] (xa 40 [w7 41 2,qq 42 41,wx 43,qJ 44 5 42 43,qt 45 4 44,qq 46 45,wQ 47 46,qe 4 47])) xL 14 13 5 14) (qr (wW 6) (xb 2 [qe 48 6,xq 49,wt 50 48 49] 50 2 3 (.reg [xG 53 3,qq 54 53,xd 55 [qA,qA,qA,qA,qA] [(0,1,qj 22)],wj 56 5 [qA,qA,qA,qA,qA] 1 [xh 0 5 55],xd 57 [qA,qA,.nils] [xv 2 56],wj 58 3 [qA,qA,.nils] 1 [xh 0 3 57],xp 59 3 40 54 58,xG 60 3,xH 60 59]) (qe 51 6) 52 51 6 52) (xn [xG 61 3,qq 62 61,qQ 63 3 1,wj 64 3 [qA,qA,.nils] 1 [xh 0 3 63],xp 65 3 40 62 64,xG 66 3,xH 66 65] [qQ 67 1 3,xH 2 67])))⟩
theorem rP:ah Tryz.prog eG=some kK:=by kernel_rfl
def kC:FK:=⟨20,xO,wT [wL 2 5 0,qE 4 0] [wu 5] (.blk 0 (wI (wE (qm 7 .eql 5 (.c (w5 65))) 6 7) 6 (qw (wY (qt 8 1 2) (qq 9 8) 4 9)) (wI (wE (qm 11 .eql 5 (.c (w5 66))) 10 11) 10 (qw (wY (qt 12 2 2) (qq 13 12) 4 13)) (xi (wE (qm 15 .eql 5 (.c (w5 67))) 14 15) 14 (wY (qt 16 3 2) (qq 17 16) 4 17))))) (wY (qt 18 4 2) (qq 19 18) 4 19)⟩
theorem rS:ah Tryz.prog eN=some kC:=by kernel_rfl
def lI:FK:=⟨37,xO,wT [wL 2 5 0,wC] (wW 5) (xb 0 [wx 9,qy 10 .lss 9 4] 10 0 1 (wS (wY xL (qb 14 (.idxStr (wq [65,66,67,78]) (.t 13))) 6 14) [wl 7] (wW 8) (xb 2 [xz 15,wu 16,qb 17 (.len true (.t 16)),wt 18 15 17] 18 2 3 (.reg [xA 21,qe 22 21,w8 23 22 1,w8 24 22 8,qX 25 22 (.idxStr (.t 23) (.t 24)),w8 26 22 6,qX 27 22 (qh .eql 25 (.t 26)),xM 28 22 27,qe 7 28]) (xz 19) 20 19 8 20) (xi [xA 29,wG 30 29,qe 31 30,qY 32 31 (qi (some 5) 2),xj 33 31 6,xB 34 31 eN (xf 32 33),qY 35 31 (qh .neq 34 xF),xw 36 31 35 wN] 36 xD)) (wx 11) 12 11 5 12) [qz 4 qT]⟩
theorem tt:ah Tryz.prog ii=some lI:=by kernel_rfl
def nb:FK:=⟨95,[.t 6],qM [wL 3 1 0,wL 5 5 2,wl 6] [xG 11 3,qq 12 11,wu 13,qJ 14 3 12 13,qQ 15 3 14,wn 7 [qA,qA,.nils],qZ 3 7 15] (xx [xG 17 5,qq 18 17,wV 19 fe 18,qe 16 19,wy 20 0 16,wy 21 1 16,qe 8 20,qe 9 21] [qe 22 9,qb 23 (.bins .eql (.t 22) (wq [])),qe 24 23,qX 25 24 (qi (some 5) 5),w8 26 24 9,xu 27 24 ii (xf 25 26),qX 28 24 (q7 27),xM 29 24 28] 29 [wl 6] (qr (wW 10) (xb 0 [xK 30,qe 31 9,qb 32 (.len true (.t 31)),wt 33 30 32] 33 0 1 (xi [qe 36 9,xK 37,qb 38 (.idxStr (.t 36) (.t 37)),qm 39 .neq 38 (.c (w5 78)),qe 40 39,xj 42 40 9,xj 43 40 10,qY 44 40 (.idxStr (.t 42) (.t 43)),qY 41 40 (qi (some 5) 5),xB 45 40 eN (xf 41 44),xB 46 40 cm [.t 45,xF,qj 7],qY 47 40 (q7 46),xw 48 40 47 wN] 48 [wl 6]) (xK 34) 35 34 10 35) (qr [xG 49 5,qq 50 49] (.blk 2 (wI (wP 52 50 1 51 52) 51 (qw [qt 53 4 5,qq 54 53,xm 55 [.t 54,xF,qj 255],qe 6 55]) (wI (wP 57 50 14 56 57) 56 (qw [qt 58 4 5,qq 59 58,wu 60,qy 61 .sub 60 1,xm 62 [.t 59,xF,.t 61],qe 6 62]) (qr (wP 64 50 15 63 64) (ql 63 .skip (.reg (wP 65 50 16 63 65))) (ql 63 (qw [qt 66 4 5,qq 67 66,qt 68 1 7,qq 69 68,qy 70 .sub 69 1,xm 71 [.t 67,xF,.t 70],qe 6 71]) (wI (wP 73 50 17 72 73) 72 (qw [qt 74 4 5,qq 75 74,xm 76 [.t 75,xF,qj 2],qe 6 76]) (wI (wP 78 50 18 77 78) 77 (qw [qt 79 4 5,qq 80 79,xG 81 7,qq 82 81,qy 83 .sub 82 1,xm 84 [.t 80,xF,.t 83],qe 6 84]) (qr (wP 86 50 20 85 86) (ql 85 .skip (.reg (wP 87 50 21 85 87))) (qP 85 [qt 88 4 5,qq 89 88,qt 90 2 7,qq 91 90,qV 92 91,qy 93 .sub 92 1,xm 94 [.t 89,xF,.t 93],qe 6 94]))))))))) (qw [qz 6 qT]))))⟩
theorem uo:ah Tryz.prog je=some nb:=by kernel_rfl
def jR:FK:=⟨81,[wX],xx [wL 1 1 0,xE] [w7 8 0,qq 9 8,qV 10 9,xm 11 [.t 10,qj 1,qj 4],wG 12 11] 12 [xE] (wT (wW 3) xC (xb 0 [xq 13,w7 14 0,qq 15 14,qV 16 15,wt 17 13 16] 17 0 1 (wS [w7 20 0,qq 21 20,xq 22,qJ 23 3 21 22,qQ 24 3 23,wn 5 [qA,qA,.nils],qZ 3 5 24] [qe 25 3,qt 26 2 5,qq 27 26,qV 28 27,xo 29 25 28,qe 3 29] [xG 30 5,qq 31 30,xm 32 [.t 31,xF,qj 3],wG 33 32,qe 34 33,qX 35 34 (qk 1 5),xN 36 34 35,xu 37 34 cm [.t 36,xF,qj 64],qX 38 34 (q7 37),xM 39 34 38,qe 40 39,qX 41 40 (qk 2 5),xN 42 40 41,qX 43 40 (qO 42),qX 44 40 (qh .eql 43 xF),xM 45 40 44,qe 46 45,w8 47 46 3,qX 48 46 (qh .gtr 47 (qj 2000)),xM 49 46 48] (qP 49 [xE]) (qr (wW 6) (xb 2 [qe 50 6,qt 51 2 5,qq 52 51,qV 53 52,wt 54 50 53] 54 2 3 (xi [xq 58,qt 59 2 5,qe 61 6,qQ 57 1 1,qq 60 59,qJ 62 5 60 61,qQ 63 5 62,qx 64 je [.t 57,.t 58,.t 63],wG 65 64] 65 [xE]) (qe 55 6) 56 55 6 56) (qM [qt 66 2 5,qq 67 66,qt 68 2 5,qq 69 68,qV 70 69,qy 71 .sub 70 1,qJ 72 5 67 71,xG 73 72,qq 74 73,qe 7 74] [xA 75,qy 76 .neq 75 20,qe 77 76,xj 78 77 7,qY 79 77 (qh .neq 78 (qj 22)),xw 80 77 79 wN] (qP 80 [xE])))) (xq 18) 19 18 4 19) [qz 2 qT])⟩
theorem pA:ah Tryz.prog fZ=some jR:=by kernel_rfl
def jS:FK:=⟨35,[wH,.t 5],qM [wL 2 3 0,wF 4,qE 5 0] (wE (wj 9 1 [qA] 0 []) 6 9) (wT (wW 7) (wW 8) (xb 0 [xz 10,qt 11 2 2,qq 12 11,qV 13 12,wt 14 10 13] 14 0 1 (qd [qe 17 6,xA 18,wj 19 1 [qA] 1 [xv 0 18],xp 20 1 8 17 19,qe 6 20] (.reg [xA 21,qt 22 2 2,xz 24,wu 27,xz 28,xc 29 27 28,qq 23 22,qJ 25 5 23 24,qQ 26 5 25,qq 30 29,xg 31 cI 26 30,xo 32 21 31,qe 7 32])) (xz 15) 16 15 8 16) [qe 33 6,xA 34,qe 4 33,qe 5 34])⟩
theorem py:ah Tryz.prog bt=some jS:=by kernel_rfl
def mh:FK:=⟨73,[wX],wS [wL 1 3 0,wF 2] [w7 10 2,qq 11 10,qV 12 11,qb 13 (.mks 1 1 [qu] (.t 12) (.t 12)),qe 3 13] [qz 4 qT] (wD 0 [xq 14] 14 0 (.blk 1 (qM xD [qQ 16 3 1,qe 17 3,xg 18 bt 16 17,qe 15 18,wy 19 0 15,wy 20 1 15,qe 5 19,qe 6 20] (wd [wj 21 1 [qu] 0 [],qe 22 3,xp 23 1 1 21 22,qe 7 23] (wW 8) (xb 2 [xz 24,w7 25 2,qq 26 25,qV 27 26,wt 28 24 27] 28 2 3 (qr [w7 31 2,qq 32 31,xz 33,qJ 34 5 32 33,qQ 35 5 34,wV 36 bz 35,wG 37 36,qe 38 37,w8 39 38 3,w8 40 38 8,qX 41 38 (qv 1 39 (.t 40)),xN 42 38 41,xM 43 38 42] (qD 43 (.exit 3)) (qM [wx 44,w7 45 2,xz 47,wx 53,xz 54,xc 55 53 54,w7 58 2,xz 60,qq 46 45,qJ 48 5 46 47,qt 49 4 48,qq 50 49,xc 51 44 50,qq 52 51,qq 56 55,qI 57 .sub 52 56,qq 59 58,qJ 61 5 59 60,qQ 62 5 61,qx 63 cI (xe 62 wN),xk none 45 46,xk none 49 50,xk none 51 52,xk none 55 56,qI 64 .sub 57 63,qe 9 64] [qe 65 9,xm 66 [.t 65,qj (-128),qj 127],wG 67 66] (qD 67 (qd [xA 68,xz 69,xc 70 68 69,qS 1 70 wz] (.reg [qz 4 qT]))))) (xz 29) 30 29 8 30) (.reg (wE (xA 71) 3 71)))))) (qw (wE (qe 72 3) 2 72))⟩
theorem sF:ah Tryz.prog bU=some mh:=by kernel_rfl
def na:FK:=⟨18,[wX],xx [wL 1 3 0,xE] [qQ 5 3 1,wV 6 eG 5,wV 7 fZ 6,wG 8 7] 8 [xE] (xn [qQ 10 3 1,qQ 11 3 1,wV 12 bU 11,xk (some 3) 1 10,xg 13 bt 10 12,qe 9 13,wy 14 0 9,wy 15 1 9,qe 3 14,qe 4 15] (wY (xq 16) (qy 17 .leq 16 8000) 2 17))⟩
theorem uH:ah Tryz.prog gl=some na:=by kernel_rfl
def kJ:FK:=⟨98,[wX,.t 3],wS [wL 1 3 0,wF 2,wl 3] (wE (wj 11 1 [xP] 0 []) 4 11) [qQ 12 3 1,wV 13 gl 12,wG 14 13] (qP 14 [xq 15,qe 2 15,wl 3]) (wS (wY (qQ 16 3 1) (wV 17 bU 16) 5 17) [qQ 19 3 1,wx 20,xg 21 bt 19 20,qe 18 21,wy 22 0 18,wy 23 1 18,qe 6 22,qe 7 23] (wW 8) (xb 0 [xz 24,w7 25 2,qq 26 25,qV 27 26,wt 28 24 27] 28 0 1 (wd [w7 31 2,qq 32 31,xz 33,qJ 34 5 32 33,qQ 35 5 34,wn 9 [qA,qA,qA,qA,qA],qZ 5 9 35] [qQ 36 5 9,wV 37 bz 36,wG 38 37] (qD 38 (qd [xq 39,qQ 40 5 9,wV 41 cd 40,xp 42 1 1 39 41,qe 4 42] (.exit 1))) (wS [qe 43 6,qt 44 4 9,qq 45 44,xc 46 43 45,qq 47 46,qe 10 47] [xq 48,xG 49 9,wx 51,xz 52,xc 53 51 52,qq 50 49,qq 54 53,wV 55 cF 54,xk none 49 50,qb 56 (.bin .mul (qj 128) (.t 55)),xo 57 50 56,xy 58 57,wj 59 1 [xP] 1 [xv 0 58],xp 60 1 1 48 59,qe 4 60] [xG 61 9,qq 62 61,wm 63 62 21] (xa 63 [xq 64,qt 65 1 9,qq 66 65,xy 67 66,wj 68 1 [xP] 1 [xv 0 67],xp 69 1 1 64 68,qe 4 69]) (wI [wx 70,xz 71,xc 72 70 71,qq 73 72] 73 (.reg [xq 74,xK 75,qy 76 .rem 75 256,xy 77 76,xK 78,qy 79 .quo 78 256,xy 80 79,wj 81 1 [xP] 2 [xv 0 77,xv 1 80],xp 82 1 1 74 81,qe 4 82]) (.reg [xq 83,xK 84,qe 85 6,xz 86,xc 87 85 86,qq 88 87,qI 89 .sub 84 88,qQ 90 5 9,qx 91 cI (xe 90 wN),xk none 87 88,qI 92 .sub 89 91,q9 93 92 256,xy 94 93,wj 95 1 [xP] 1 [xv 0 94],xp 96 1 1 83 95,qe 4 96])))) (xz 29) 30 29 8 30) (qw [xq 97,qe 2 97,qz 3 qT]))⟩
theorem rW:ah Tryz.prog dv=some kJ:=by kernel_rfl
def gL:AK:=qM [wn 6 [qA,qA,.nils],wl 7] [wc 17,wu 18,xd 19 [qA,qA,.nils] [xv 0 17,xv 1 18],wn 8 [qA,qA,.nils],qZ 3 8 19] (qd (wE (wj 20 1 [qA] 0 []) 9 20) (.cut (qd (wW 10) (wD 0 [xK 21,qe 22 2,qV 23 22,wt 24 21 23,qe 25 24,xj 26 25 2,qY 27 25 (qO 26),qY 28 25 (qh .leq 27 (qj 8000)),xw 29 25 28 wN] 29 0 (.blk 1 (xx [qe 31 2,xK 32,xg 33 jn 31 32,qe 30 33,wy 34 0 30,wy 35 1 30,wy 36 2 30,wn 11 [qA,qA,qA,qA,qA],qZ 5 11 34,qe 12 35,qe 13 36] [qe 37 13,wG 38 37] 38 [xd 39 [qA,qA,.nils] [],qZ 3 6 39,wl 7] (qM [qt 40 2 8,qq 41 40,qQ 42 5 11,wj 43 5 [qA,qA,qA,qA,qA] 1 [xh 0 5 42],xp 44 5 40 41 43,qt 45 2 8,xH 45 44] [qe 46 9,xK 47,wj 48 1 [qA] 1 [xv 0 47],xp 49 1 8 46 48,qe 9 49] (.reg [xK 50,qe 51 12,xo 52 50 51,qe 10 52])))))) (qr (wW 14) (xb 2 [qe 53 14,qt 54 2 8,qq 55 54,qV 56 55,wt 57 53 56] 57 2 3 (qd [qt 60 2 8,qq 61 60,qe 62 14,qJ 63 5 61 62,qQ 64 5 63,wV 65 bz 64] (xa 65 [qt 66 2 8,qe 68 14,qe 69 9,qt 70 2 8,qe 72 14,qq 67 66,qq 71 70,qJ 73 5 71 72,qt 74 4 73,qq 75 74,xg 76 fp 69 75,xk none 66 67,qJ 77 5 67 68,qt 78 4 77,xH 78 76])) (qe 58 14) 59 58 14 59) (wT [qQ 80 3 8,wV 81 dv 80,qe 79 81,wy 82 0 79,wy 83 1 79,qe 15 82,qe 16 83] [qe 84 16,wG 85 84,qe 86 85,w8 87 86 15,qX 88 86 (.btos (.t 87)),w8 89 86 2,qX 90 86 (.btos (.t 89)),qX 91 86 (.bins .neq (.t 88) (.t 90)),xM 92 86 91] (qP 92 [xd 93 [qA,qA,.nils] [],qZ 3 6 93,wl 7]) [qQ 94 3 8,qZ 3 6 94,qz 7 qT]))))
def gE:FK:=⟨95,[.c 6 (some 3),.t 7],(AK.whole gL)⟩
theorem rM:ah Tryz.prog eK=some gE:=by kernel_rfl
def iX:FK:=⟨17,[wX],xx [wL 1 3 0,wF 2] [qQ 5 3 1,wV 6 gl 5,wG 7 6] 7 (wE (wj 8 1 [qA] 0 []) 2 8) (xn [qQ 10 3 1,qQ 11 3 1,wV 12 bU 11,xk (some 3) 1 10,xg 13 bt 10 12,qe 9 13,wy 14 0 9,wy 15 1 9,qe 3 14,qe 4 15] (wE (qe 16 3) 2 16))⟩
theorem pg:ah Tryz.prog dF=some iX:=by kernel_rfl
def kM:FK:=⟨31,[wX],qM [wL 1 3 0,wF 2] (wE (wj 6 1 [qA] 0 []) 3 6) (wT (wY (qQ 7 3 1) (wV 8 dF 7) 4 8) (wW 5) (xb 0 [wx 9,xq 10,qV 11 10,wt 12 9 11] 12 0 1 (qd [w7 15 2,qq 16 15,wx 17,qJ 18 5 16 17,xG 19 18,qq 20 19,wm 21 20 14] (xa 21 [qe 22 3,xq 23,wx 24,xc 25 23 24,qq 26 25,wQ 27 26,wj 28 1 [qA] 1 [xv 0 27],xp 29 1 8 22 28,qe 3 29])) xL 14 13 5 14) (wE (qe 30 3) 2 30))⟩
theorem rJ:ah Tryz.prog eH=some kM:=by kernel_rfl
def mL:FK:=⟨26,xO,xx xD [wc 6,qV 7 6,wu 8,qV 9 8,qI 10 .neq 7 9] 10 xD (qr (wW 5) (xb 0 [wx 11,xt,qV 13 12,wt 14 11 13] 14 0 1 (xi [wc 17,wx 18,xc 19 17 18,wu 21,wx 22,xc 23 21 22,qq 20 19,qq 24 23,qI 25 .neq 20 24] 25 xD) (wx 15) 16 15 5 16) (qw [qz 4 qT]))⟩
theorem uC:ah Tryz.prog jm=some mL:=by kernel_rfl
def io:FK:=⟨67,[wX],wS [wL 1 6 0,xE] [w7 7 1,qq 8 7,w7 9 2,qq 10 9,w7 11 3,qq 12 11,qx 13 eK [.t 8,.t 10,.t 12],qe 6 13,wy 14 0 6,wy 15 1 6,wn 3 [qA,qA,.nils],qZ 3 3 14,qe 4 15] [xq 16,wG 17 16,qe 18 17,qX 19 18 (qk 0 1),xN 20 18 19,xu 21 18 ex (wU 20),qX 22 18 (q7 21),xM 23 18 22,qe 24 23,qX 27 24 (qk 4 1),qX 25 24 (qi (some 3) 3),qX 26 24 (.qcall eH (wU 25)),xN 28 24 27,xu 29 24 jm (xf 26 28),qX 30 24 (q7 29),xM 31 24 30,qe 32 31,qX 33 32 (qk 5 1),qX 36 32 (qk 4 1),xN 34 32 33,qX 35 32 (qO 34),xN 37 32 36,qX 38 32 (qO 37),qX 39 32 (qh .neq 35 (.t 38)),xM 40 32 39] (qP 40 [xE]) (qr (wW 5) (xb 0 [wx 41,w7 42 4,qq 43 42,qV 44 43,wt 45 41 44] 45 0 1 (xi [w7 48 5,wx 50,qq 49 48,xc 51 49 50,qq 52 51,wV 53 ex 52,wG 54 53,qe 55 54,qX 56 55 (qk 3 1),qX 58 55 (qk 4 1),w8 60 55 5,xN 57 55 56,xN 59 55 58,qX 61 55 (qv 1 59 (.t 60)),xN 62 55 61,qX 63 55 (qv 1 57 (.t 62)),xN 64 55 63,qX 65 55 (qh .neq 64 (.c xP)),xM 66 55 65] 66 [xE]) (wx 46) 47 46 5 47) (qw [qz 2 qT]))⟩
theorem nE:ah Tryz.prog dd=some io:=by kernel_rfl
def oc:FK:=⟨20,xO,wT xC (wW 5) (xb 0 [wx 6,wc 7,qV 8 7,wt 9 6 8] 9 0 1 (xi [xt,xL,qJ 14 6 12 13,xG 15 14,qq 16 15,wu 17,qb 18 (.bins .eql (.t 16) (.t 17))] 18 (wE (wx 19) 4 19)) (wx 10) 11 10 5 11) (wB 4 (-1))⟩
theorem xY:ah Tryz.prog cV=some oc:=by kernel_rfl
def oC:FK:=⟨18,xO,wT xD (wW 5) (xb 0 [wx 6,wc 7,qV 8 7,wt 9 6 8] 9 0 1 (xi [xt,xL,xc 14 12 13,qq 15 14,wu 16,qb 17 (.bins .eql (.t 15) (.t 16))] 17 [qz 4 qT]) (wx 10) 11 10 5 11) xD⟩
theorem yg:ah Tryz.prog kg=some oC:=by kernel_rfl
def iL:FK:=⟨34,[wX],wS [wL 1 6 0,wF 2] [wj 5 1 [xr] 0 [],wx 3] xC (xb 0 [xq 6,w7 7 5,qq 8 7,qV 9 8,wt 10 6 9,xK 11,qY 12 11 (qi (some 6) 1),xB 13 11 dd (wU 12),xw 14 11 13 wN] 14 0 1 (qd [qe 17 3,w7 18 5,qq 19 18,xq 20,xc 21 19 20,qq 22 21,xg 23 kg 17 22,wG 24 23] (xa 24 [qe 25 3,w7 26 5,qq 27 26,xq 28,xc 29 27 28,qq 30 29,wj 31 1 [xr] 1 [xv 0 30],xp 32 1 16 25 31,qe 3 32])) (xq 15) 16 15 4 16) (qw (wE (qe 33 3) 2 33))⟩
theorem nP:ah Tryz.prog bm=some iL:=by kernel_rfl
def lF:FK:=⟨41,[.t 6],wS [wl 6] [wc 10,wu 11,xg 12 cV 10 11,qe 7 12] [xA 13,qy 14 .lss 13 0] (qP 14 [wl 6]) (qr [qe 15 2,xA 16,xc 17 15 16,qq 18 17] (qP 18 [qz 6 qT]) (wS [qe 19 2,xA 20,xc 21 19 20,qS 1 21 wz] [wc 22,xA 23,qJ 24 6 22 23,qQ 25 6 24,wV 26 bm 25,qe 8 26] (wW 9) (xb 0 [qe 27 9,xz 28,qV 29 28,wt 30 27 29] 30 0 1 (xi [wc 33,xz 34,qe 35 9,xc 36 34 35,qq 37 36,qe 38 2,qx 39 fh [.t 33,.t 37,.t 38],wG 40 39] 40 [wl 6]) (qe 31 9) 32 31 9 32) (qw [qz 6 qT])))⟩
theorem sU:ah Tryz.prog fh=some lF:=by kernel_rfl
def kH:FK:=⟨50,xO,qM xD [wc 8,qV 9 8,qb 10 (.mks 1 1 [qu] (.t 9) (.t 9)),xK 5] (w9 [wj 11 1 [xr] 0 [],xt,wu 13,qJ 14 6 12 13,qQ 15 6 14,wV 16 bm 15,xp 17 1 16 11 16,qe 6 17] (wD 0 [qe 18 6,qV 19 18,qy 20 .gtr 19 0] 20 0 (.blk 1 (wS [wc 21,qe 22 6,qG 23 1 22 xF,qq 24 23,xg 25 cV 21 24,qe 7 25] (wY (qe 26 6) (qb 27 (.slS 1 (.t 26) (some (qj 1)) none)) 6 27) [xA 28,wu 29,qI 30 .eql 28 29] (qP 30 [qz 4 qT]) (qd [xA 31,qy 32 .geq 31 0,qe 33 32,xj 34 33 5,xj 35 33 7,qY 36 33 (qv 1 34 (.t 35)),qY 37 33 (wJ 36),qY 38 33 (q7 37),xw 39 33 38 wN] (qD 39 (qd [wx 40,xA 41,xc 42 40 41,qS 1 42 wz] (.reg [qe 43 6,wc 44,xA 45,qJ 46 6 44 45,qQ 47 6 46,wV 48 bm 47,xp 49 1 16 43 48,qe 6 49]))))))) (qw xD))⟩
theorem rQ:ah Tryz.prog gJ=some kH:=by kernel_rfl
def mY:FK:=⟨38,[.t 6],xx [wF 6] [qe 9 2,wu 10,xg 11 fp 9 10,qy 12 .geq 11 0] 12 (wE (qe 13 2) 6 13) (wT [wc 14,wu 15,qJ 16 6 14 15,qQ 17 6 16,wV 18 bm 17,qe 7 18] (wW 8) (xb 0 [xz 19,xA 20,qV 21 20,wt 22 19 21] 22 0 1 (.reg [wc 25,wc 26,xA 27,xz 28,xc 29 27 28,qq 30 29,xg 31 cV 26 30,qe 32 2,qx 33 gg [.t 25,.t 31,.t 32],qe 2 33]) (xz 23) 24 23 8 24) [qe 34 2,wu 35,wj 36 1 [qA] 1 [xv 0 35],xp 37 1 8 34 36,qe 6 37])⟩
theorem uq:ah Tryz.prog gg=some mY:=by kernel_rfl
def fH:FK:=⟨85,[wH,.t 5],xx [wF 4,qE 5 0] [wc 11,qV 12 11,qy 13 .gtr 12 12,qe 14 13,w8 15 14 1,xu 16 14 ex (wU 15),qX 17 14 (q7 16),xM 18 14 17] 18 [wj 19 1 [qA] 0 [],qe 4 19,qE 5 1] (qr (wW 6) (xb 0 [qe 20 6,wc 21,qV 22 21,wt 23 20 22] 23 0 1 (xi [wc 26,qe 27 6,qJ 28 6 26 27,qQ 29 6 28,wV 30 dd 29,wG 31 30] 31 [wj 32 1 [qA] 0 [],qe 4 32,qE 5 1]) (qe 24 6) 25 24 6 25) (qr (wW 7) (xb 2 [xA 33,wc 34,qV 35 34,wt 36 33 35] 36 2 3 (xi [wc 39,wc 40,xA 41,qJ 42 6 40 41,xG 43 42,qq 44 43,xg 45 cV 39 44,xA 46,qI 47 .neq 45 46] 47 [wj 48 1 [qA] 0 [],qe 4 48,qE 5 2]) (xA 37) 38 37 7 38) (xx [wc 49,qV 50 49,qb 51 (.mks 1 1 [qu] (.t 50) (.t 50)),qe 8 51] [wc 52,wu 53,xz 54,qx 55 fh [.t 52,.t 53,.t 54],wG 56 55] 56 [wj 57 1 [qA] 0 [],qe 4 57,qE 5 3] (qr (wW 9) (xb 4 [qe 58 9,wc 59,qV 60 59,wt 61 58 60] 61 4 5 (xi [xz 64,qe 65 9,xc 66 64 65,qq 67 66,qe 68 67,xj 69 68 0,xj 70 68 9,xB 71 68 gJ (xf 69 70),xw 72 68 71 wN] 72 [wj 73 1 [qA] 0 [],qe 4 73,qE 5 4]) (qe 62 9) 63 62 9 63) (wT [wc 74,wc 75,wu 76,xg 77 cV 75 76,wj 78 1 [qA] 0 [],qx 79 gg [.t 74,.t 77,.t 78],qe 10 79] [xK 80,qV 81 80,qy 82 .gtr 81 4] (qP 82 [wj 83 1 [qA] 0 [],qe 4 83,qE 5 5]) [xK 84,qe 4 84,qE 5 0])))))⟩
theorem jE:ah Tryz.prog dP=some fH:=by kernel_rfl
def nc:FK:=⟨15,[.t 6],xn [wl 6] [wu 7,wc 8,qI 9 .leq 7 8,qe 10 9,xj 11 10 0,xj 12 10 2,qY 13 10 (qh .leq 11 (.t 12)),xw 14 10 13 wN,qe 6 14]⟩
theorem uz:ah Tryz.prog aR=some nc:=by kernel_rfl
def gO:FK:=⟨21,[.t 6],wT (wW 6) [wc 9,qb 10 (.rngS (.t 9))] (qH 0 (w9 [qb 11 (.nxtS (.t 10)),wy 12 0 11] (wb 12 0) (.blk 1 (qM [wy 13 1 11,wy 14 2 11,qe 7 13,qe 8 14] [wu 15,xz 16,qb 17 (.callv (.t 15) (wU 16)),qe 18 2,qb 19 (.beq false (.t 17) (.t 18))] (qP 19 (wE (xA 20) 6 20)))))) (wB 6 (-1))⟩
theorem mJ:ah Tryz.prog eh=some gO:=by kernel_rfl
def gQ:FK:=⟨8,xO,xn xC [wc 5,wu 6,qx 7 eh [.t 5,.t 6,wz],xA 4]⟩
theorem mH:ah Tryz.prog eb=some gQ:=by kernel_rfl
def fF:FK:=⟨19,xO,wT xC [wc 6,qV 7 6,qE 8 0] (qH 0 (w9 [wt 9 8 7] (wb 9 0) (wa 1 (qM (wE (xz 10) 5 10) [wu 11,xt,xL,xc 14 12 13,qq 15 14,qb 16 (.bins .eql (.t 11) (.t 15))] (qP 16 (wE (wx 17) 4 17))) (wE (wQ 18 8) 8 18)))) (wB 4 (-1))⟩
theorem lg:ah Tryz.prog dB=some fF:=by kernel_rfl
def eu:FK:=⟨9,xO,xn xD [wc 5,wu 6,xg 7 dB 5 6,qy 8 .geq 7 0,xz 4]⟩
theorem jy:ah Tryz.prog bH=some eu:=by kernel_rfl
def kI:FK:=⟨9,[wX],xn [xE] [wc 3,qm 4 .lss 3 (.c (qf .i32 97)),xq 5,w8 6 5 0,qX 7 5 (qh .gtr 6 (.c (qf .i32 122))),xM 8 5 7,xz 2]⟩
theorem rI:ah Tryz.prog ce=some kI:=by kernel_rfl
def mX:FK:=⟨17,[wX],xn [xE] [wc 3,qb 4 (.len true (.t 3)),qx 5 aR [.t 4,qj 1,qj 4],wx 6,xj 7 6 0,xB 8 6 eb (xe 7 (.c (.fn (.func ce) []))),qY 9 6 (qh .lss 8 xF),xw 10 6 9 wN,xK 11,qY 12 11 (.slA 9 1 (.c (.gp 0 0)) none none),xj 13 11 0,xB 14 11 bH (xf 12 13),qY 15 11 (q7 14),xw 16 11 15 wN,qe 2 16]⟩
theorem uk:ah Tryz.prog ey=some mX:=by kernel_rfl
def cH:FK:=⟨19,xO,wT xC [wc 6,qV 7 6,qE 8 0] (qH 0 (w9 [wt 9 8 7] (wb 9 0) (wa 1 (qM (wE (xz 10) 5 10) [wu 11,xt,xL,qJ 14 6 12 13,qQ 15 6 14,qb 16 (.callv (.t 11) (wU 15))] (qP 16 (wE (wx 17) 4 17))) (wE (wQ 18 8) 8 18)))) (wB 4 (-1))⟩
theorem fS:ah Tryz.prog bE=some cH:=by kernel_rfl
def bY:FK:=⟨9,xO,xn xD [wc 5,wu 6,xg 7 bE 5 6,qy 8 .geq 7 0,xz 4]⟩
theorem fd:ah Tryz.prog bu=some bY:=by kernel_rfl
def rE:FK:=⟨22,[wX],wS [wF 2] [wF 3] [wc 6,qV 7 6,qE 8 0] (qH 0 (w9 [wt 9 8 7] (wb 9 0) (wa 1 (qM (wY (xc 10 6 8) (qq 11 10) 5 11) [qe 12 3,xL,xg 14 bH 12 13,wG 15 14] (xa 15 [qe 16 3,wx 17,wj 18 1 [xr] 1 [xv 0 17],xp 19 1 16 16 18,qe 3 19])) (wE (wQ 20 8) 8 20)))) (qw (wE (qe 21 3) 2 21))⟩
theorem yu:ah Tryz.prog gv=some rE:=by kernel_rfl
def ch:FK:=⟨80,[],qd [wc 9,wM 10 9,xG 11 10,qq 12 11,wu 13,qb 14 (.lk 1 qA true (.t 12) (.t 13)),qe 8 14,wy 15 0 8,wy 16 1 8,qe 4 15,qe 5 16] (qN 0 (wI (wY (wx 18) (wG 19 18) 17 19) 17 (qw [wc 20,wM 21 20,qt 22 4 21,qS 1 22 wz]) (wI [wc 24,wM 25 24,qt 26 2 25,qq 27 26,wu 28,qb 29 (.lk 1 qA false (.t 27) (.t 28)),wm 30 29 1,qe 23 30] 23 (qw [wc 31,wM 32 31,qt 33 5 32,qS 1 33 wz]) (qd [wc 35,wM 36 35,qt 37 2 36,qq 38 37,wu 39,qb 40 (.lk 1 qA false (.t 38) (.t 39)),wm 41 40 2,qe 34 41] (qD 34 .ret)))) (wd [wc 42,wM 43 42,qt 44 2 43,qq 45 44,wu 46,qF (.mup 1 (.t 45) (.t 46) (qj 1))] [wc 47,wM 48 47,qt 49 1 48,qq 50 49,xq 51,qJ 52 6 50 51,qt 53 5 52,qq 54 53,wV 55 gv 54,qV 56 55,qE 57 0] (qH 1 (w9 [wt 58 57 56] (wb 58 1) (wa 2 (qd (wY (xc 59 55 57) (qq 60 59) 7 60) (.reg [wc 61,xA 62,xg 63 dE 61 62])) (wE (wQ 64 57) 57 64)))) (qd [wc 65,wM 66 65,qt 67 2 66,qq 68 67,wu 69,qF (.mup 1 (.t 68) (.t 69) (qj 2))] (.reg [wc 70,wc 71,wM 72 71,qt 73 3 72,qq 74 73,xq 75,wj 76 1 [qA] 1 [xv 0 75],xp 77 1 8 74 76,wM 78 70,qt 79 3 78,xH 79 77]))))⟩
theorem oH:ah Tryz.prog dE=some ch:=by kernel_rfl
def mO:FK:=⟨9,[wX],xn [xE] [wc 3,wm 4 3 20,xq 5,w8 6 5 0,qX 7 5 (qh .eql 6 (qj 21)),xM 8 5 7,xz 2]⟩
theorem ut:ah Tryz.prog cx=some mO:=by kernel_rfl
def mg:FK:=⟨24,[wX],wT (wW 2) [wc 3] (.blk 0 (qr [wm 5 3 1,wx 4] (ql 4 .skip (wI (wP 6 3 15 4 6) 4 .skip (wI (wP 7 3 16 4 7) 4 .skip (wI (wP 8 3 17 4 8) 4 .skip (.reg (wP 9 3 18 4 9)))))) (ql 4 (qw (wW 2)) (qr (wP 11 3 2 10 11) (ql 10 .skip (wI (wP 12 3 10 10 12) 10 .skip (wI (wP 13 3 11 10 13) 10 .skip (.reg (wP 14 3 12 10 14))))) (ql 10 (qw (wB 2 1)) (qr (wP 16 3 13 15 16) (ql 15 .skip (wI (wP 17 3 19 15 17) 15 .skip (.reg (wP 18 3 22 15 18)))) (ql 15 (qw (wB 2 3)) (wI (wP 20 3 14 19 20) 19 (qw (wB 2 4)) (qr (wP 22 3 20 21 22) (ql 21 .skip (.reg (wP 23 3 21 21 23))) (qP 21 (wB 2 5))))))))))) (wB 2 2)⟩
theorem tq:ah Tryz.prog cR=some mg:=by kernel_rfl
def iT:FK:=⟨22,xO,wS [wF 4] [wF 5] [wc 8,qV 9 8,qE 10 0] (qH 0 (w9 [wt 11 10 9] (wb 11 0) (wa 1 (qd (wY (xc 12 8 10) (qq 13 12) 7 13) (.reg [wx 14,wu 15,xA 16,qb 17 (.callv (.t 15) (wU 16)),wj 18 1 [qA] 1 [xv 0 17],xp 19 1 8 14 18,qe 5 19])) (wE (wQ 20 10) 10 20)))) (qw (wE (wx 21) 4 21))⟩
theorem nW:ah Tryz.prog cq=some iT:=by kernel_rfl
def jN:FK:=⟨5,[wX],xn (wW 2) (wY (wc 3) (wv 4 .i64 3) 2 4)⟩
theorem pU:ah Tryz.prog bg=some jN:=by kernel_rfl
def ln:FK:=⟨145,[.c 4 (some 5),.t 5],qM [wn 4 [qA,qA,qA,qA,qA],qE 5 0] [xt,wu 13,qb 14 (.slS 1 (.t 12) (some (.t 13)) none),qe 6 14] (wS [qe 15 6,qG 16 1 15 xF,qq 17 16,wv 18 .i64 17,qe 7 18] (wY (xA 19) (qy 20 .geq 19 128) 8 20) [xz 21] (xa 21 (wY (xA 22) (qy 23 .sub 22 128) 7 23)) (qr [xA 24,qx 25 aR [.t 24,qj 1,qj 22],wG 26 25,qe 27 26,w8 28 27 8,w8 29 27 28,xj 30 29 7,xB 31 29 cx (wU 30),qY 32 29 (q7 31),qX 33 27 (qU 29 (.t 32) wN),xM 34 27 33] (qP 34 [xd 35 [qA,qA,qA,qA,qA] [],qZ 5 4 35,qE 5 0]) (wS [xA 36,xd 37 [qA,qA,qA,qA,qA] [xv 0 36],wn 9 [qA,qA,qA,qA,qA],qZ 5 9 37] [qb 38 .mkm,qF (.mup 0 (.t 38) xF (qj 3)),qF (.mup 0 (.t 38) (qj 1) (qj 2)),qF (.mup 0 (.t 38) (qj 2) (qj 3)),qF (.mup 0 (.t 38) (qj 3) (qj 2)),qF (.mup 0 (.t 38) (qj 4) (qj 2)),qF (.mup 0 (.t 38) (qj 5) (qj 2)),qe 39 38,xA 40,wV 41 cR 40,qb 42 (.lk 0 qA false (.t 39) (.t 41)),qe 10 42] [xA 43,wm 44 43 21] (xa 44 (wZ (xK 45) 46 45 10 46)) (qr [xz 47] (xa 47 (wZ (xK 48) 49 48 10 49)) (qr [qe 50 6,qV 51 50,xK 52,wt 53 51 52] (qP 53 [xd 54 [qA,qA,qA,qA,qA] [],qZ 5 4 54,qE 5 0]) (wT [qe 55 6,xK 56,qb 57 (.slS 1 (.t 55) none (some (.t 56))),qx 58 cq (xe 57 (.c (.fn (.func bg) []))),qe 11 58] [xA 59,wV 60 cR 59] (.blk 0 (wI (wP 94 60 0 93 94) 93 (.reg [qe 95 11,qG 96 1 95 (qj 1),qe 98 11,qG 99 1 98 (qj 2),qq 97 96,qt 101 1 9,qq 100 99,xH 101 97,xk none 99 100,qt 102 4 9,xH 102 100]) (wI (wP 104 60 1 103 104) 103 (.reg [qe 105 11,qG 106 1 105 (qj 1),qe 109 11,qG 110 1 109 (qj 1),qq 107 106,qy 108 .rem 107 8,qt 113 1 9,qq 111 110,qy 112 .quo 111 8,xH 113 108,xk none 110 111,qt 114 2 9,xH 114 112]) (wI (wP 116 60 2 115 116) 115 (.reg [qe 117 11,qG 118 1 117 (qj 1),qe 121 11,qG 122 1 121 (qj 1),qe 125 11,qG 126 1 125 (qj 2),qq 119 118,qy 120 .rem 119 8,qt 128 1 9,qq 123 122,qy 124 .quo 123 8,qq 127 126,xH 128 120,xk none 122 123,xk none 126 127,qt 129 2 9,xH 129 124,xk none 126 127,qt 130 3 9,xH 130 127]) (wI (wP 132 60 3 131 132) 131 (.reg [qe 133 11,qG 134 1 133 (qj 1),qq 135 134,qt 136 1 9,xH 136 135]) (wI (wP 138 60 4 137 138) 137 (.reg [qe 139 11,qG 140 1 139 (qj 1),qq 141 140,qt 142 4 9,xH 142 141]) (qr [xA 61,wm 62 61 21] (xa 62 [qe 63 11,qG 64 1 63 (qj 1),qq 65 64,qt 66 1 9,xH 66 65]) (wI [xz 67] 67 (.reg [qe 68 11,xK 69,qy 70 .sub 69 2,xc 71 68 70,qe 73 11,xK 74,qy 75 .sub 74 1,xc 76 73 75,qq 72 71,qq 77 76,qb 78 (.bin .mul (qj 256) (.t 77)),xo 79 72 78,qt 80 4 9,xH 80 79]) (.reg [wu 81,xK 82,xo 83 81 82,qe 84 6,xK 85,qy 86 .sub 85 1,xc 87 84 86,qq 88 87,wv 89 .i8 88,wv 90 .i64 89,xo 91 83 90,qt 92 4 9,xH 92 91]))))))))) [qQ 143 5 9,xK 144,qZ 5 4 143,qe 5 144]))))))⟩
theorem sR:ah Tryz.prog iB=some ln:=by kernel_rfl
def iR:FK:=⟨51,[wH,.t 5],qM [qz 4 (qf .u64 0),qz 5 (qf .u64 0)] (wY (wc 14) (qm 15 .and 14 (.c (qf .u64 4294967295))) 6 15) (qM (wY (wc 16) (qm 17 .shr 16 (.c (qf .u64 32))) 7 17) (wY (wu 18) (qm 19 .and 18 (.c (qf .u64 4294967295))) 8 19) (qM (wY (wu 20) (qm 21 .shr 20 (.c (qf .u64 32))) 9 21) [qe 22 6,xz 23,qI 24 .mul 22 23,qe 10 24] (qM [xA 25,xz 26,qI 27 .mul 25 26,xK 28,qm 29 .shr 28 (.c (qf .u64 32)),xo 30 27 29,qe 11 30] (wY (qe 31 11) (qm 32 .and 31 (.c (qf .u64 4294967295))) 12 32) (qM (wY (qe 33 11) (qm 34 .shr 33 (.c (qf .u64 32))) 13 34) [qe 35 12,qe 36 6,qe 37 9,qI 38 .mul 36 37,xo 39 35 38,qe 12 39] (xn [xA 40,qe 41 9,qI 42 .mul 40 41,qe 43 13,xo 44 42 43,qe 45 12,qm 46 .shr 45 (.c (qf .u64 32)),xo 47 44 46,qe 4 47] [wc 48,wu 49,qI 50 .mul 48 49,qe 5 50])))))⟩
theorem oN:ah Tryz.prog ft=some iR:=by kernel_rfl
def kU:FK:=⟨30,[wH,.t 5],w9 [qz 4 (qf .u64 0),qz 5 (qf .u64 0)] (.cond wN (xn [wc 11,wv 12 .u32 11,wu 13,wv 14 .u32 13,xg 15 ph 12 14,qe 10 15,wy 16 0 10,wy 17 1 10,qe 6 16,qe 7 17] [qe 18 6,wv 19 .u64 18,xA 20,wv 21 .u64 20,qe 4 19,qe 5 21]) .skip) (xn [wc 23,wu 24,xg 25 ft 23 24,qe 22 25,wy 26 0 22,wy 27 1 22,qe 8 26,qe 9 27] [xz 28,qe 29 9,qe 4 28,qe 5 29])⟩
theorem sa:ah Tryz.prog gG=some kU:=by kernel_rfl
def ej:FK:=⟨48,xO,wd [wF 4] [wu 9,qy 10 .lss 9 0] (xa 10 [qb 11 .bad,qF .bad]) (wd [wc 13,qV 14 13,wv 15 .u64 14,wu 16,wv 17 .u64 16,xg 18 gG 15 17,qe 12 18,wy 19 0 12,wy 20 1 12,qe 5 19,qe 6 20] [wx 21,qm 22 .gtr 21 (.c (qf .u64 0)),qe 23 22,w8 24 23 6,qX 25 23 (qh .gtr 24 (.c (qf .u64 9223372036854775807))),xM 26 23 25] (xa 26 [qb 27 .bad,qF .bad]) (qM [qe 28 6,wv 29 .i64 28,qb 30 (.mks 3 40 [qA,qA,.nils] (.t 29) (.t 29)),qe 7 30] [xA 31,wc 32,qb 33 (.copy 3 (.t 31) (.t 32)),qe 8 33] (.seq (wD 0 [xz 34,xA 35,qV 36 35,wt 37 34 36] 37 0 (.blk 1 (.reg [xz 38,xA 39,xz 40,qb 41 (.slS 3 (.t 39) (some (.t 40)) none),xA 42,xz 43,qb 44 (.slS 3 (.t 42) none (some (.t 43))),qb 45 (.copy 3 (.t 41) (.t 44)),xo 46 38 45,qe 8 46]))) (qw (wE (xA 47) 4 47)))))⟩
theorem jw:ah Tryz.prog cw=some ej:=by kernel_rfl
def du:FK:=⟨19,xO,wT xC [wc 6,qV 7 6,qE 8 0] (qH 0 (w9 [wt 9 8 7] (wb 9 0) (wa 1 (qM (wE (xz 10) 5 10) [wu 11,xt,xL,qJ 14 5 12 13,qQ 15 5 14,qb 16 (.callv (.t 11) (wU 15))] (qP 16 (wE (wx 17) 4 17))) (wE (wQ 18 8) 8 18)))) (wB 4 (-1))⟩
theorem dt:ah Tryz.prog bP=some du:=by kernel_rfl
def cy:FK:=⟨9,xO,xn xD [wc 5,wu 6,xg 7 bP 5 6,qy 8 .geq 7 0,xz 4]⟩
theorem fD:ah Tryz.prog aX=some cy:=by kernel_rfl
def mR:FK:=⟨42,[.c 2 (some 2),.t 3],xx [wL 1 5 0,wn 2 [xr,qA],wl 3] [w7 7 0,qq 8 7,qx 9 aR [.t 8,qj 1,qj 22],wG 10 9] 10 [xd 11 [xr,qA] [],qZ 2 2 11,wl 3] (wT [w7 12 0,qq 13 12,qb 14 (.idxA 23 2 (.c (.gp 1 0)) (.t 13)),qQ 15 2 14,wn 4 [xr,qA],qZ 2 4 15] [w7 16 1,qq 17 16,w7 18 2,qq 19 18,w7 20 3,qq 21 20,w7 22 4,qq 23 22,xd 24 [qA,qA,qA,qA] [xv 0 17,xv 1 19,xv 2 21,xv 3 23],qE 25 0] (qH 0 (w9 [qy 26 .lss 25 4] (wb 26 0) (wa 1 (qM [qe 27 25,qb 28 (.idxV 4 1 none (.t 24) (.t 25)),qe 5 27,qe 6 28] [qt 29 1 4,wx 31,qb 32 (.bin .shl (qj 1) (.t 31)),qq 30 29,qI 33 .and 30 32,wm 34 33 0,qe 35 34,xj 36 35 6,qY 37 35 (qh .neq 36 xF),xw 38 35 37 wN] (qP 38 [xd 39 [xr,qA] [],qZ 2 2 39,wl 3])) (wE (wQ 40 25) 25 40)))) [qQ 41 2 4,qZ 2 2 41,qz 3 qT])⟩
theorem uG:ah Tryz.prog jx=some mR:=by kernel_rfl
def mT:FK:=⟨83,[.t 6],wS [wL 3 1 0,wL 5 5 2,wl 6] [qQ 11 5 5,wV 12 jx 11,qe 10 12,wy 13 0 10,wy 14 1 10,wn 7 [xr,qA],qZ 2 7 13,qe 8 14] [xz 15,wG 16 15,qe 17 16,qX 18 17 (qk 1 5),xN 19 17 18,xu 20 17 aR [.t 19,xF,qj 7],qX 21 17 (q7 20),xM 22 17 21,qe 23 22,qX 24 23 (qk 2 5),xN 25 23 24,xu 26 23 aR [.t 25,xF,qj 7],qX 27 23 (q7 26),xM 28 23 27,qe 29 28,qX 30 29 (qk 3 5),xN 31 29 30,xu 32 29 aR [.t 31,xF,qj 7],qX 33 29 (q7 32),xM 34 29 33] (qP 34 [wl 6]) (wT (wB 9 255) [xG 35 5,qq 36 35] (.blk 0 (wI (wP 38 36 14 37 38) 37 (.reg (wY (wu 39) (qy 40 .sub 39 1) 9 40)) (qr (wP 42 36 15 41 42) (ql 41 .skip (.reg (wP 43 36 16 41 43))) (ql 41 (.reg [xG 44 3,qq 45 44,wu 46,qJ 47 3 45 46,qt 48 1 47,qq 49 48,qy 50 .sub 49 1,qe 9 50]) (wI (wP 52 36 17 51 52) 51 (.reg (wB 9 2)) (wI (wP 54 36 18 53 54) 53 (.reg [xG 55 3,qq 56 55,wu 57,qJ 58 3 56 57,xG 59 58,qq 60 59,qy 61 .sub 60 1,qe 9 61]) (qr (wP 63 36 20 62 63) (ql 62 .skip (.reg (wP 64 36 21 62 64))) (xa 62 [xG 65 3,qq 66 65,wu 67,qJ 68 3 66 67,qt 69 2 68,qq 70 69,qV 71 70,qy 72 .sub 71 1,qe 9 72])))))))) [qt 73 1 7,qq 74 73,qy 75 .and 74 8,wm 76 75 0,qe 77 76,qX 78 77 (qk 4 5),xN 79 77 78,w8 80 77 9,xu 81 77 aR [.t 79,xF,.t 80],xM 82 77 81,qe 6 82])⟩
theorem us:ah Tryz.prog jq=some mT:=by kernel_rfl
def iM:FK:=⟨10,xO,xn [wL 3 5 0,wC] [qQ 5 1 1,qq 6 2,qQ 7 5 3,qx 8 jq [.t 5,.t 6,.t 7],wG 9 8,qe 4 9]⟩
theorem nu:ah Tryz.prog db=some iM:=by kernel_rfl
def jM:FK:=⟨63,[wX],xx [wL 1 1 0,xE] [w7 7 0,qq 8 7,qV 9 8,qx 10 aR [.t 9,qj 1,qj 4],wG 11 10] 11 [xE] (wT (wW 3) [w7 12 0,qq 13 12,qV 14 13,qE 15 0] (qH 0 (w9 [wt 16 15 14] (wb 16 0) (wa 1 (wS [qe 17 15,qJ 18 3 13 15,qQ 19 3 18,wn 4 [qA],wn 5 [qA,qA,.nils],xH 4 17,qZ 3 5 19] [qe 20 3,qt 21 2 5,qq 22 21,qV 23 22,xo 24 20 23,qe 3 24] [xG 25 5,qq 26 25,qx 27 aR [.t 26,xF,qj 3],wG 28 27,qe 29 28,qX 30 29 (qk 1 5),xN 31 29 30,xu 32 29 aR [.t 31,xF,qj 64],qX 33 29 (q7 32),xM 34 29 33,qe 35 34,qX 36 35 (qk 2 5),xN 37 35 36,qX 38 35 (qO 37),qX 39 35 (qh .eql 38 xF),xM 40 35 39] (qP 40 [xE]) (qr [qt 41 2 5,qq 42 41,qt 43 2 5,qq 44 43,qV 45 44,qy 46 .sub 45 1,qJ 47 5 42 46,xG 48 47,qq 49 48,qe 6 49] (xi [qe 50 6,qy 51 .neq 50 20,qe 52 51,xj 53 52 6,qY 54 52 (qh .neq 53 (qj 22)),xw 55 52 54 wN] 55 [xE]) (xi [qt 56 2 5,qq 57 56,qb 58 (.mkf (.func db) (xf 1 4)),xg 59 aX 57 58] 59 [xE]))) (wE (wQ 60 15) 15 60)))) (wY (qe 61 3) (qy 62 .leq 61 2000) 2 62))⟩
theorem pM:ah Tryz.prog fV=some jM:=by kernel_rfl
def lS:FK:=⟨55,[wX],wS [wL 1 5 0,wF 2] [w7 5 0,w7 8 1,qq 6 5,xy 7 6,xA 3,qq 9 8,xy 10 9,xK 4] [w7 11 0,qq 12 11,wV 13 cR 12] (.blk 0 (wI (wP 15 13 0 14 15) 14 (qw [qe 16 3,xq 17,w7 18 4,qq 19 18,xy 20 19,wj 21 1 [xP] 3 [xv 0 16,xv 1 17,xv 2 20],qe 2 21]) (wI (wP 23 13 1 22 23) 22 (qw [qe 24 3,xq 25,w7 26 2,qq 27 26,xy 28 27,qb 29 (.bin .mul (.c (w5 8)) (.t 28)),xo 30 25 29,wj 31 1 [xP] 2 [xv 0 24,xv 1 30],qe 2 31]) (wI (wP 33 13 2 32 33) 32 (qw [qe 34 3,xq 35,w7 36 2,qq 37 36,xy 38 37,qb 39 (.bin .mul (.c (w5 8)) (.t 38)),xo 40 35 39,w7 41 3,qq 42 41,xy 43 42,wj 44 1 [xP] 3 [xv 0 34,xv 1 40,xv 2 43],qe 2 44]) (xi (wP 46 13 4 45 46) 45 [qe 47 3,w7 48 4,qq 49 48,xy 50 49,wj 51 1 [xP] 2 [xv 0 47,xv 1 50],qe 2 51]))))) (qw [qe 52 3,xq 53,wj 54 1 [xP] 2 [xv 0 52,xv 1 53],qe 2 54])⟩
theorem uf:ah Tryz.prog cL=some lS:=by kernel_rfl
def gz:FK:=⟨78,[],qM [wc 5,wc 6,wc 7,wM 8 5,qt 9 4 8,qS 1 9 (.c .nils),wM 10 6,qt 11 5 10,qS 1 11 (.c .nils),wM 12 7,qt 13 6 12,qS 1 13 xF] [wc 14,wM 15 14,xG 16 15,qt 17 2 16,qq 18 17,qV 19 18,qE 20 0] (qH 0 (w9 [wt 21 20 19] (wb 21 0) (wa 1 (wS [qe 22 20,qJ 23 5 18 20,qQ 24 5 23,wn 3 [qA,qA,qA,qA,qA],qe 2 22,qZ 5 3 24] (wB 4 2) [xG 25 3,qq 26 25,wV 27 cx 26,wG 28 27] (ql 28 (.reg [qQ 29 5 3,wV 30 cL 29,qV 31 30,qe 4 31]) (qr [xG 32 3,qq 33 32,wm 34 33 21] (xa 34 (wZ (xq 35) 36 35 4 36)) (qd [wc 37,wM 38 37,qt 39 3 38,qq 40 39,qe 41 2,xc 42 40 41,qq 43 42] (xa 43 (wZ (xq 44) 45 44 4 45))))) (qd [wc 46,wc 47,wc 48,wM 49 48,qt 50 4 49,xq 52,qb 53 (.bslP 1 [qA] 1 [xv 0 52]),wc 55,wM 56 55,qt 57 5 56,wc 59,wM 60 59,qt 61 6 60,qq 51 50,qq 58 57,qq 62 61,qb 63 (.bslP 1 [qA] 1 [xv 0 62]),xp 54 1 8 51 53,xk none 57 58,xk none 61 62,xp 64 1 8 58 63,wM 65 46,qt 66 4 65,xH 66 54,wM 67 47,qt 68 5 67,xH 68 64] (.reg [wc 69,wM 70 69,qt 71 6 70,qq 72 71,xq 73,xo 74 72 73,wM 75 69,qt 76 6 75,xH 76 74]))) (wE (wQ 77 20) 20 77))))⟩
theorem mi:ah Tryz.prog dH=some gz:=by kernel_rfl
def gu:FK:=⟨36,xO,xn xC [wc 5,wM 6 5,qt 7 5 6,wc 9,wM 10 9,xG 11 10,qt 12 2 11,wu 14,wc 20,wM 21 20,qt 22 5 21,wu 24,wc 28,wM 29 28,qt 30 4 29,wu 32,qq 8 7,qq 13 12,qJ 15 5 13 14,qt 16 4 15,qq 17 16,xc 18 8 17,qq 19 18,qq 23 22,xc 25 23 24,qq 26 25,qI 27 .sub 19 26,qq 31 30,xc 33 31 32,qq 34 33,qI 35 .sub 27 34,qe 4 35]⟩
theorem lT:ah Tryz.prog co=some gu:=by kernel_rfl
def kL:FK:=⟨92,[wX],wS [wL 1 3 0,qz 2 .nilp] (wW 3) [w7 11 2,qq 12 11,qV 13 12,qE 14 0] (qH 0 (w9 [wt 15 14 13] (wb 15 0) (wa 1 (qM [qJ 16 5 12 14,qQ 17 5 16,wn 5 [qA,qA,qA,qA,qA],qZ 5 5 17] [xG 18 5,qq 19 18,wm 20 19 14] (xa 20 [qe 21 3,qt 22 4 5,qq 23 22,qb 24 (.mn (.t 23) (qj 4)),wQ 25 24,qb 26 (.mx (.t 21) (.t 25)),qe 3 26])) (wE (wQ 27 14) 14 27)))) (xx [qz 6 .any,xd 28 [qA,qA,qA,qA,qA] [(0,1,qj 22)],qb 29 (.bslP 5 [qA,qA,qA,qA,qA] 1 [xh 0 5 28]),xd 30 [qA,qA,.nils] [xv 2 29],qb 31 (.bslP 3 [qA,qA,.nils] 1 [xh 0 3 30]),qe 32 3,qQ 34 3 1,qb 35 (.bslP 3 [qA,qA,.nils] 1 [xh 0 3 34]),xg 33 cw 31 32,xk (some 3) 1 34,xp 36 3 40 33 35,xd 37 [.nils] [xv 0 36],wn 6 [.nils],xH 6 37] [qQ 38 1 6,wV 39 fV 38,wG 40 39] 40 [qz 2 .nilp] (wd [w7 42 2,qQ 41 3 1,qq 43 42,qV 44 43,qb 45 (.mks 1 1 [qu] (.t 44) (.t 44)),xk (some 3) 1 41,xd 46 [qA,qA,.nils,.nils,.nils,.nils,qA] [xh 0 3 41,xv 3 45],wL 47 7 46,qe 7 47] [qz 8 qT] (wD 2 [xz 48] 48 2 (.blk 3 (qM [wl 8] [xA 49,wV 50 dH 49] (qd [w7 51 2,qq 52 51,qV 53 52,qE 54 0] (qH 4 (w9 [wt 55 54 53] (wb 55 4) (wa 5 (qM [qe 56 54,qJ 57 5 52 54,qQ 58 5 57,wn 10 [qA,qA,qA,qA,qA],qe 9 56,qZ 5 10 58] [xG 59 10,qq 60 59,wV 61 cx 60,qe 62 61,xj 63 62 7,qY 64 62 (wg 63),qY 65 62 (qk 3 64),qY 66 62 (wJ 65),xj 67 62 9,qY 68 62 (qv 1 66 (.t 67)),qY 69 62 (wJ 68),qY 70 62 (q7 69),xw 71 62 70 wN,qe 72 71,xj 73 72 7,xj 74 72 9,xB 75 72 co (xf 73 74),xB 76 72 aR [.t 75,qj (-128),qj 127],qY 77 72 (q7 76),xw 78 72 77 wN] (xa 78 [xA 79,wM 80 79,qt 81 3 80,qq 82 81,qe 83 9,xc 84 82 83,qS 1 84 wz,qz 8 qT])) (wE (wQ 85 54) 54 85)))))))) (qr [xA 86,wM 87 86,qt 88 6 87,qq 89 88,qy 90 .gtr 89 8000] (qP 90 [qz 2 .nilp]) (qw (wE (xA 91) 2 91)))))⟩
theorem sh:ah Tryz.prog cf=some kL:=by kernel_rfl
def gF:FK:=⟨88,[wX,.t 3],wS [wL 1 3 0,wF 2,wl 3] (wY (qQ 10 3 1) (wV 11 cf 10) 4 11) [xq 12,qb 13 (.pnil 0 false (.t 12))] (qP 13 [wF 2,wl 3]) (wT [wF 5] [w7 14 2,qq 15 14,qV 16 15,qE 17 0] (qH 0 (w9 [wt 18 17 16] (wb 18 0) (wa 1 (wd [qe 19 17,qJ 20 5 15 17,qQ 21 5 20,wn 7 [qA,qA,qA,qA,qA],qe 6 19,qZ 5 7 21] [xG 22 7,qq 23 22,wV 24 cx 23,wG 25 24] (qD 25 (qd [wx 26,qQ 27 5 7,wV 28 cL 27,xp 29 1 1 26 28,qe 5 29] (.exit 1))) (wd [xG 30 7,qq 31 30,xy 32 31,qe 8 32] [xq 33,wM 34 33,qt 35 3 34,qq 36 35,qe 37 6,xc 38 36 37,qq 39 38] (xa 39 (wY (xz 40) (qm 41 .add 40 (.c (w5 128))) 8 41)) (wd [wx 42,xz 43,wj 44 1 [xP] 1 [xv 0 43],xp 45 1 1 42 44,qe 5 45] [xG 46 7,qq 47 46,wm 48 47 21] (xa 48 [wx 49,qt 50 1 7,qq 51 50,xy 52 51,wj 53 1 [xP] 1 [xv 0 52],xp 54 1 1 49 53,qe 5 54]) (qM [xq 55,wM 56 55,qt 57 5 56,qt 59 4 7,qq 58 57,qq 60 59,xc 61 58 60,qq 62 61,qe 9 62] [xq 63,wM 64 63,qt 65 3 64,qq 66 65,qe 67 6,xc 68 66 67,qq 69 68] (ql 69 (.reg [wx 70,qe 71 9,qy 72 .rem 71 256,xy 73 72,qe 74 9,qy 75 .quo 74 256,xy 76 75,wj 77 1 [xP] 2 [xv 0 73,xv 1 76],xp 78 1 1 70 77,qe 5 78]) (.reg [wx 79,xq 80,qe 81 6,xg 82 co 80 81,xy 83 82,wj 84 1 [xP] 1 [xv 0 83],xp 85 1 1 79 84,qe 5 85])))))) (wE (wQ 86 17) 17 86)))) [wx 87,qe 2 87,qz 3 qT])⟩
theorem kN:ah Tryz.prog dr=some gF:=by kernel_rfl
def mM:FK:=⟨10,xO,xn xD [wc 5,qb 6 (.btos (.t 5)),wu 7,qb 8 (.btos (.t 7)),qb 9 (.bins .eql (.t 6) (.t 8)),qe 4 9]⟩
theorem uS:ah Tryz.prog jc=some mM:=by kernel_rfl
def kQ:FK:=⟨93,[.c 6 (some 3),.t 7],qM [wn 6 [qA,qA,.nils],wl 7] [wc 19,wu 20,xd 21 [qA,qA,.nils] [xv 0 19,xv 1 20],wn 8 [qA,qA,.nils],qZ 3 8 21] (wd (wE (qb 22 .mkm) 9 22) (wW 10) (wD 0 [xK 23,qe 24 2,qV 25 24,wt 26 23 25] 26 0 (.blk 1 (xx [qe 28 2,xK 29,xg 30 iB 28 29,qe 27 30,wy 31 0 27,wy 32 1 27,wn 11 [qA,qA,qA,qA,qA],qZ 5 11 31,qe 12 32] [qe 33 12,wm 34 33 0] 34 [xd 35 [qA,qA,.nils] [],qZ 3 6 35,wl 7] (qM [qe 36 9,xK 37,qt 38 2 8,qq 39 38,qV 40 39,qF (.mup 0 (.t 36) (.t 37) (.t 40))] [qt 41 2 8,qq 42 41,qQ 43 5 11,wj 44 5 [qA,qA,qA,qA,qA] 1 [xh 0 5 43],xp 45 5 40 42 44,qt 46 2 8,xH 46 45] (.reg [xK 47,qe 48 12,xo 49 47 48,qe 10 49]))))) (qr [qt 50 2 8,qq 51 50,qV 52 51,qE 53 0] (qH 2 (w9 [wt 54 53 52] (wb 54 2) (wa 3 (qM [qe 55 53,qJ 56 5 51 53,qQ 57 5 56,wn 14 [qA,qA,qA,qA,qA],qe 13 55,qZ 5 14 57] [xG 58 14,qq 59 58,wV 60 cx 59] (qD 60 (xx [qe 62 9,qt 63 4 14,qq 64 63,qb 65 (.lk 0 qA true (.t 62) (.t 64)),qe 61 65,wy 66 0 61,wy 67 1 61,qe 15 66,qe 16 67] [qe 68 16,wG 69 68] 69 [xd 70 [qA,qA,.nils] [],qZ 3 6 70,wl 7] (.reg [qt 71 2 8,qq 72 71,qe 73 13,qe 74 15,qJ 75 5 72 73,qt 76 4 75,xH 76 74])))) (wE (wQ 77 53) 53 77)))) (qr [qQ 79 3 8,wV 80 dr 79,qe 78 80,wy 81 0 78,wy 82 1 78,qe 17 81,qe 18 82] (xi [qe 83 18,wG 84 83,qe 85 84,w8 86 85 17,w8 87 85 2,xu 88 85 jc (xf 86 87),qX 89 85 (q7 88),xM 90 85 89] 90 [xd 91 [qA,qA,.nils] [],qZ 3 6 91,wl 7]) (qw [qQ 92 3 8,qZ 3 6 92,qz 7 qT]))))⟩
theorem rO:ah Tryz.prog cb=some kQ:=by kernel_rfl
def eC:FK:=⟨8,[wX],wT [wF 2] [wc 3,qb 4 (.snil false (.t 3))] (qP 4 [wF 2]) [wj 5 5 [qA,qA,qA,qA,qA] 0 [],wc 6,xp 7 5 40 5 6,xA 2]⟩
theorem jp:ah Tryz.prog bI=some eC:=by kernel_rfl
def kP:FK:=⟨8,[.c 2 (some 3)],qM [wL 1 3 0,wn 2 [qA,qA,.nils]] [w7 3 2,qq 4 3,wV 5 bI 4,w7 6 2,xH 6 5] (qw [qQ 7 3 1,qZ 3 2 7])⟩
theorem rV:ah Tryz.prog eF=some kP:=by kernel_rfl
def oZ:FK:=⟨26,[.c 2 (some 3)],wS [wL 1 3 0,wn 2 [qA,qA,.nils]] [qQ 4 3 1,wV 5 eF 4,qZ 3 1 5] [w7 6 2,qq 7 6,qV 8 7,qE 9 0] (qH 0 (w9 [wt 10 9 8] (wb 10 0) (wa 1 (qM (wE (qe 11 9) 3 11) [w7 12 2,qq 13 12,qe 14 3,qJ 15 5 13 14,xG 16 15,qq 17 16,wm 18 17 14] (xa 18 [w7 19 2,qq 20 19,qe 21 3,qJ 22 5 20 21,qt 23 4 22,qS 1 23 xF])) (wE (wQ 24 9) 9 24)))) (qw [qQ 25 3 1,qZ 3 2 25])⟩
theorem vN:ah Tryz.prog gT=some oZ:=by kernel_rfl
def ep:FK:=⟨26,xO,xx xD [wc 6,qV 7 6,wu 8,qV 9 8,qI 10 .neq 7 9] 10 xD (qr [wc 11,qV 12 11,qE 13 0] (qH 0 (w9 [wt 14 13 12] (wb 14 0) (wa 1 (qM (wE (qe 15 13) 5 15) [wc 16,wx 17,qJ 18 5 16 17,wu 20,wx 21,qJ 22 5 20 21,qQ 19 5 18,qQ 23 5 22,qb 24 (.aeq [0,0,0,0,0] true (.t 19) (.t 23))] (qP 24 xD)) (wE (wQ 25 13) 13 25)))) (qw [qz 4 qT]))⟩
theorem jo:ah Tryz.prog cu=some ep:=by kernel_rfl
def fy:FK:=⟨24,xO,xn [wL 2 3 0,wL 3 3 1,wC] [xG 5 2,qq 6 5,xG 7 3,qq 8 7,qI 9 .eql 6 8,qe 10 9,qY 11 10 (qk 1 2),qY 12 10 (wJ 11),qY 13 10 (qk 1 3),qY 14 10 (wJ 13),qY 15 10 (qh .eql 12 (.t 14)),xw 16 10 15 wN,qe 17 16,qY 18 17 (qk 2 2),qY 19 17 (wJ 18),qY 20 17 (qk 2 3),qY 21 17 (wJ 20),xB 22 17 cu (xf 19 21),xw 23 17 22 wN,qe 4 23]⟩
theorem tr:ah Tryz.prog iF=some fy:=by kernel_rfl
def fm:FK:=⟨12,[wX],wT [wL 1 3 0,wF 2] [qQ 4 3 1,wV 5 cf 4,wx 3] (xi [qe 6 3,qb 7 (.pnil 0 true (.t 6))] 7 [qe 8 3,wM 9 8,qt 10 5 9,qq 11 10,qe 2 11]) [wF 2]⟩
theorem iV:ah Tryz.prog ck=some fm:=by kernel_rfl
def jO:FK:=⟨28,[wX],wS [wL 1 3 0,wF 2] [wF 3] [qQ 6 3 1,wV 7 ck 6,qV 8 7,qE 9 0] (qH 0 (w9 [wt 10 9 8] (wb 10 0) (wa 1 (qM [qe 11 9,xc 12 7 9,qq 13 12,qe 4 11,qe 5 13] [w7 14 2,qq 15 14,xq 16,qJ 17 5 15 16,xG 18 17,qq 19 18,wm 20 19 14] (xa 20 [qe 21 3,wx 22,wQ 23 22,wj 24 1 [qA] 1 [xv 0 23],xp 25 1 8 21 24,qe 3 25])) (wE (wQ 26 9) 9 26)))) (qw (wE (qe 27 3) 2 27))⟩
theorem pN:ah Tryz.prog dO=some jO:=by kernel_rfl
def iA:FK:=⟨26,xO,xx xD [wc 6,qV 7 6,wu 8,qV 9 8,qI 10 .neq 7 9] 10 xD (qr [wc 11,qV 12 11,qE 13 0] (qH 0 (w9 [wt 14 13 12] (wb 14 0) (wa 1 (qM (wE (qe 15 13) 5 15) [wc 16,wx 17,xc 18 16 17,wu 20,wx 21,xc 22 20 21,qq 19 18,qq 23 22,qI 24 .neq 19 23] (qP 24 xD)) (wE (wQ 25 13) 13 25)))) (qw [qz 4 qT]))⟩
theorem nI:ah Tryz.prog eU=some iA:=by kernel_rfl
def dV:FK:=⟨19,xO,wT xC [wc 6,qV 7 6,qE 8 0] (qH 0 (w9 [wt 9 8 7] (wb 9 0) (wa 1 (qM (wE (xz 10) 5 10) [wu 11,xt,xL,xc 14 12 13,qq 15 14,qb 16 (.callv (.t 11) (wU 15))] (qP 16 (wE (wx 17) 4 17))) (wE (wQ 18 8) 8 18)))) (wB 4 (-1))⟩
theorem iN:ah Tryz.prog bZ=some dV:=by kernel_rfl
def dm:FK:=⟨9,xO,xn xD [wc 5,wu 6,xg 7 bZ 5 6,qy 8 .geq 7 0,xz 4]⟩
theorem gN:ah Tryz.prog bQ=some dm:=by kernel_rfl
def mW:FK:=⟨6,[wX],xn [xE] [wc 3,wV 4 ey 3,wG 5 4,wx 2]⟩
theorem um:ah Tryz.prog dy=some mW:=by kernel_rfl
def rA:FK:=⟨52,[.c 2 (some 3),.t 3],qM [wL 1 6 0,wn 2 [qA,qA,.nils],wl 3] [w7 7 1,qq 8 7,w7 9 2,qq 10 9,w7 11 3,qq 12 11,qx 13 cb [.t 8,.t 10,.t 12],qe 6 13,wy 14 0 6,wy 15 1 6,wn 4 [qA,qA,.nils],qZ 3 4 14,qe 5 15] (xn [wx 16,qe 17 16,qY 18 17 (qk 0 1),qY 19 17 (wJ 18),xB 20 17 ey (wU 19),xw 21 17 20 wN,qe 22 21,qY 23 22 (qi (some 3) 4),qY 24 22 (qi (some 3) 4),qY 25 22 (.qcall gT (wU 24)),xB 26 22 iF (xf 23 25),xw 27 22 26 wN,qe 28 27,qY 31 28 (qk 4 1),qY 29 28 (qi (some 3) 4),qY 30 28 (.qcall dO (wU 29)),qY 32 28 (wJ 31),xB 33 28 eU (xf 30 32),xw 34 28 33 wN,qe 35 34,qY 36 35 (qk 5 1),qY 39 35 (qk 4 1),qY 37 35 (wJ 36),qY 38 35 (qO 37),qY 40 35 (wJ 39),qY 41 35 (qO 40),qY 42 35 (qh .eql 38 (.t 41)),xw 43 35 42 wN,qe 5 43] [wx 45,qe 46 45,qY 47 46 (qk 5 1),qQ 44 3 4,qY 48 46 (wJ 47),xB 49 46 bQ (xe 48 (.c (.fn (.func dy) []))),xk (some 3) 4 44,qY 50 46 (q7 49),xw 51 46 50 wN,qZ 3 2 44,qe 3 51])⟩
theorem yV:ah Tryz.prog lP=some rA:=by kernel_rfl
def iD:FK:=⟨11,[wX],qM [wL 1 6 0,xE] [qQ 6 6 1,wV 7 lP 6,xA 5,wy 8 0 5,wy 9 1 5,wn 3 [qA,qA,.nils],qZ 3 3 8,qe 4 9] (qw (wE (xq 10) 2 10))⟩
theorem nT:ah Tryz.prog eT=some iD:=by kernel_rfl
def ie:FK:=⟨6,[wX],xn [wL 1 6 0,xE] [qQ 3 6 1,wV 4 eT 3,wG 5 4,wx 2]⟩
theorem nF:ah Tryz.prog bG=some ie:=by kernel_rfl
def fM:FK:=⟨78,[wH,.t 5],xx [wF 4,qE 5 0] [wc 11,qV 12 11,qy 13 .gtr 12 12,qe 14 13,w8 15 14 1,xu 16 14 ey (wU 15),qX 17 14 (q7 16),xM 18 14 17,qe 19 18,w8 20 19 0,xu 21 19 bu (xe 20 (.c (.fn (.func bG) []))),xM 22 19 21] 22 [wF 4,qE 5 1] (wd [qb 23 .mkm,wc 24,qb 25 .mkm,xd 26 [.nilm,.nils,.nilm,.nils,qu,qu] [xv 0 23,xv 1 24,xv 2 25],wL 27 6 26,qe 6 27] [wc 28,qV 29 28,qE 30 0] (qH 0 (w9 [wt 31 30 29] (wb 31 0) (wa 1 (wd [qe 32 30,qJ 33 6 28 30,qQ 34 6 33,wn 8 [xr,qA,qA,.nils,.nils,.nils],qe 7 32,qZ 6 8 34] [qe 36 6,wM 37 36,xG 38 37,xG 40 8,qq 39 38,qq 41 40,qb 42 (.lk 1 qA true (.t 39) (.t 41)),qe 35 42,wy 43 0 35,wy 44 1 35,qe 9 43,qe 10 44] (xi [xK 45] 45 [wF 4,qE 5 2]) (.reg [qe 46 6,wM 47 46,xG 48 47,xG 50 8,xA 52,qq 49 48,qq 51 50,qF (.mup 1 (.t 49) (.t 51) (.t 52))])) (wE (wQ 53 30) 30 53)))) (qd [qe 54 6,wu 55,xg 56 dE 54 55] (qN 2 (wI [qe 58 6,wM 59 58,qt 60 4 59,qq 61 60,qe 57 61] 57 (qw [wF 4,qE 5 3]) (wI [qe 63 6,wM 64 63,qt 65 5 64,qq 66 65,qe 62 66] 62 (qw [wF 4,qE 5 4]) (xi [qe 68 6,wM 69 68,qt 70 3 69,qq 71 70,qV 72 71,qy 73 .gtr 72 4,qe 67 73] 67 [wF 4,qE 5 5]))) (qw [qe 74 6,wM 75 74,qt 76 3 75,qq 77 76,qe 4 77,qE 5 0]))))⟩
theorem jA:ah Tryz.prog bq=some fM:=by kernel_rfl
def mV:FK:=⟨26,xO,xx xD [wc 6,qV 7 6,wu 8,qV 9 8,qI 10 .neq 7 9] 10 xD (qr (wW 5) (xb 0 [wx 11,xt,qV 13 12,wt 14 11 13] 14 0 1 (xi [wc 17,wx 18,xc 19 17 18,wu 21,wx 22,xc 23 21 22,qq 20 19,qq 24 23,qI 25 .neq 20 24] 25 xD) (wx 15) 16 15 5 16) (qw [qz 4 qT]))⟩
theorem uv:ah Tryz.prog dx=some mV:=by kernel_rfl
def lQ:FK:=⟨26,xO,xx xD [wc 6,qV 7 6,wu 8,qV 9 8,qI 10 .neq 7 9] 10 xD (qr (wW 5) (xb 0 [wx 11,xt,qV 13 12,wt 14 11 13] 14 0 1 (xi [wc 17,wx 18,xc 19 17 18,wu 21,wx 22,xc 23 21 22,qq 20 19,qq 24 23,qI 25 .neq 20 24] 25 xD) (wx 15) 16 15 5 16) (qw [qz 4 qT]))⟩
theorem sB:ah Tryz.prog ig=some lQ:=by kernel_rfl
def jB:FK:=⟨26,xO,xx xD [wc 6,qV 7 6,wu 8,qV 9 8,qI 10 .neq 7 9] 10 xD (qr (wW 5) (xb 0 [wx 11,xt,qV 13 12,wt 14 11 13] 14 0 1 (xi [wc 17,wx 18,xc 19 17 18,wu 21,wx 22,xc 23 21 22,qq 20 19,qq 24 23,qb 25 (.bins .neq (.t 20) (.t 24))] 25 xD) (wx 15) 16 15 5 16) (qw [qz 4 qT]))⟩
theorem px:ah Tryz.prog fI=some jB:=by kernel_rfl
def dp:FK:=⟨38,xO,xx [wL 2 6 0,wL 3 6 1,wC] [xG 5 2,qq 6 5,xG 7 3,qq 8 7,qb 9 (.bins .neq (.t 6) (.t 8))] 9 xD (qr [qt 10 1 2,qq 11 10,qt 12 1 3,qq 13 12,qI 14 .neq 11 13] (qP 14 xD) (qr [qt 15 2 2,qq 16 15,qt 17 2 3,qq 18 17,qI 19 .neq 16 18] (qP 19 xD) (qr [qt 20 3 2,qq 21 20,qt 22 3 3,qq 23 22,xg 24 ig 21 23,wG 25 24] (qP 25 xD) (qr [qt 26 4 2,qq 27 26,qt 28 4 3,qq 29 28,xg 30 dx 27 29,wG 31 30] (qP 31 xD) (qr [qt 32 5 2,qq 33 32,qt 34 5 3,qq 35 34,xg 36 fI 33 35,wG 37 36] (qP 37 xD) (qw [qz 4 qT]))))))⟩
theorem rU:ah Tryz.prog gC=some dp:=by kernel_rfl
def jJ:FK:=⟨27,xO,xx xD [wc 6,qV 7 6,wu 8,qV 9 8,qI 10 .neq 7 9] 10 xD (qr (wW 5) (xb 0 [wx 11,xt,qV 13 12,wt 14 11 13] 14 0 1 (xi [wc 17,wx 18,qJ 19 6 17 18,wu 21,wx 22,qJ 23 6 21 22,qQ 20 6 19,qQ 24 6 23,xg 25 gC 20 24,wG 26 25] 26 xD) (wx 15) 16 15 5 16) (qw [qz 4 qT]))⟩
theorem ra:ah Tryz.prog fK=some jJ:=by kernel_rfl
def gI:FK:=⟨20,[wX],xx [qz 2 xr] [wc 4,qy 5 .leq 4 0] 5 [qz 2 (qL [109,48])] (w9 [qz 3 xr] (wD 0 [wc 6,qy 7 .gtr 6 0] 7 0 (.blk 1 (qd [wc 8,qy 9 .rem 8 10,qb 10 (.bin .add (qj 48) (.t 9)),xy 11 10,wj 12 1 [xP] 1 [xv 0 11],qb 13 (.btos (.t 12)),qe 14 3,qb 15 (.bins .add (.t 13) (.t 14)),qe 3 15] (.reg (wY (wc 16) (qy 17 .quo 16 10) 0 17))))) (qw (wY (qe 18 3) (qb 19 (.bins .add (wq [109]) (.t 18))) 2 19)))⟩
theorem se:ah Tryz.prog dw=some gI:=by kernel_rfl
def dN:FK:=⟨20,xO,wT xC (wW 5) (xb 0 [wx 6,wc 7,qV 8 7,wt 9 6 8] 9 0 1 (qd [xt,xL,wu 14,xy 15 14,xc 16 12 13,xH 16 15] (.reg (wZ (wu 17) 18 17 1 18))) (wx 10) 11 10 5 11) (wE (wu 19) 4 19)⟩
theorem dU:ah Tryz.prog dS=some dN:=by kernel_rfl
def eO:FK:=⟨19,xO,wT xC (wW 5) (xb 0 [wx 6,wc 7,qV 8 7,wt 9 6 8] 9 0 1 (qd [xt,xL,wu 14,xc 15 12 13,xH 15 14] (.reg (wZ (wu 16) 17 16 1 17))) (wx 10) 11 10 5 11) (wE (wu 18) 4 18)⟩
theorem eM:ah Tryz.prog dj=some eO:=by kernel_rfl
def da:FK:=⟨20,xO,wT xC (wW 5) (xb 0 [wx 6,wc 7,qV 8 7,wt 9 6 8] 9 0 1 (qd [xt,xL,wu 14,wV 15 dw 14,xc 16 12 13,xH 16 15] (.reg (wZ (wu 17) 18 17 1 18))) (wx 10) 11 10 5 11) (wE (wu 19) 4 19)⟩
theorem cX:ah Tryz.prog cW=some da:=by kernel_rfl
def cZ:FK:=⟨56,xO,wT xC (wW 5) (xb 0 [wx 6,wc 7,qV 8 7,wt 9 6 8] 9 0 1 (qM [xt,xL,wu 14,wV 15 dw 14,qJ 16 6 12 13,xG 17 16,xH 17 15] (wZ (wu 18) 19 18 1 19) (qM [wc 20,wx 21,wu 22,qJ 23 6 20 21,qt 24 1 23,xH 24 22] (wZ (wu 25) 26 25 1 26) (qM [wc 27,wx 28,wu 29,qJ 30 6 27 28,qt 31 2 30,xH 31 29] (wZ (wu 32) 33 32 1 33) (qM [wc 34,wx 35,qJ 36 6 34 35,qt 37 3 36,qq 38 37,wu 39,xg 40 dS 38 39,qe 1 40] [wc 41,wx 42,qJ 43 6 41 42,qt 44 4 43,qq 45 44,wu 46,xg 47 dj 45 46,qe 1 47] (.reg [wc 48,wx 49,qJ 50 6 48 49,qt 51 5 50,qq 52 51,wu 53,xg 54 cW 52 53,qe 1 54]))))) (wx 10) 11 10 5 11) (wE (wu 55) 4 55)⟩
theorem eP:ah Tryz.prog eX=some cZ:=by kernel_rfl
def kE:FK:=⟨21,xO,wT xC (wW 5) (xb 0 [wx 6,wc 7,qV 8 7,wt 9 6 8] 9 0 1 (qr [xt,xL,xc 14 12 13,qq 15 14,wu 16,qI 17 .neq 15 16] (qP 17 (wB 4 (-1))) (.reg (wZ (wu 18) 19 18 1 19))) (wx 10) 11 10 5 11) (wE (wu 20) 4 20)⟩
theorem sf:ah Tryz.prog eL=some kE:=by kernel_rfl
def cK:FK:=⟨104,xO,xx xD [wu 16,qb 17 (.len true (.t 16)),qy 18 .gtr 17 1048576] 18 [qz 4 qT] (wS (wB 5 1048576) [wc 19,wx 20,xg 21 gf 19 20,qe 5 21] [wx 22,qy 23 .lss 22 0] (qP 23 [qz 4 qT]) (qM [wc 25,wV 26 br 25,wu 27,xg 28 dP 26 27,qe 24 28,wy 29 0 24,wy 30 1 24,qe 6 29,qe 7 30] (wY (wc 31) (wV 32 br 31) 8 32) (xx [xz 34,wu 35,xg 36 bq 34 35,qe 33 36,wy 37 0 33,wy 38 1 33,qe 9 37,qe 10 38] [qe 39 9,qe 40 6,xg 41 dx 39 40,wG 42 41,qe 43 42,w8 44 43 10,w8 45 43 7,qX 46 43 (qh .neq 44 (.t 45)),xM 47 43 46] 47 xD (qr [xz 48,wc 49,wV 50 br 49,xg 51 fK 48 50,wG 52 51] (qP 52 xD) (wS (wB 11 1) [xz 53,qe 54 11,xg 55 eX 53 54,qe 11 55] [qe 56 11,qy 57 .lss 56 0,qe 58 57,w8 59 58 9,w8 60 58 6,xu 61 58 dx (xf 59 60),qX 62 58 (q7 61),xM 63 58 62,qe 64 63,w8 65 64 10,w8 66 64 7,qX 67 64 (qh .neq 65 (.t 66)),xM 68 64 67] (qP 68 xD) (qM (wB 12 1) [qe 69 9,qe 70 12,xg 71 dj 69 70,qe 12 71] (wS (wB 13 1) [qe 72 9,qe 73 13,xg 74 eL 72 73,qe 13 74] [qe 75 13,qy 76 .lss 75 0] (qP 76 xD) (qr [qe 77 13,qe 78 12,qI 79 .neq 77 78] (qP 79 xD) (xx [wc 81,wV 82 br 81,wu 83,xg 84 bq 82 83,qe 80 84,wy 85 0 80,wy 86 1 80,qe 14 85,qe 15 86] [qe 87 14,qe 88 6,xg 89 dx 87 88,wG 90 89,qe 91 90,w8 92 91 15,w8 93 91 7,qX 94 91 (qh .neq 92 (.t 93)),xM 95 91 94] 95 xD (wS (wB 13 1) [qe 96 9,qe 97 13,xg 98 eL 96 97,qe 13 98] [qe 99 13,qy 100 .lss 99 0] (qP 100 xD) (qr [qe 101 13,qe 102 12,qI 103 .neq 101 102] (qP 103 xD) (qw [qz 4 qT]))))))))))))⟩
theorem jC:ah Tryz.prog eZ=some cK:=by kernel_rfl
end Go.Proofs.YtbnajafpkeficaaGreatDoor
