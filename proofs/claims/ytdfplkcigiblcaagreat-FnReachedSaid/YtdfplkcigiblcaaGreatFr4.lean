/-
  Contracts and lemmas that the card needs, part 4.
-/
import Derived.Test.YtdfplkcigiblcaaGreatFr3
import Derived.Test.YtdfplkcigiblcaaGreatRows
namespace Go.Proofs.YtdfplkcigiblcaaGreat
open Go Go.Aw
set_option maxRecDepth 100000
abbrev dx:FuncId:=54
abbrev bu:FuncId:=104
abbrev aX:FuncId:=105
abbrev gB:FuncId:=95
abbrev eB:FuncId:=168
abbrev cE:FuncId:=169
abbrev gY:FuncId:=153
abbrev eT:FuncId:=154
abbrev gW:FuncId:=141
abbrev cK:FuncId:=96
abbrev da:FuncId:=125
abbrev dh:FuncId:=152
abbrev ic:FuncId:=140
abbrev dz:FuncId:=124
abbrev im:FuncId:=118
abbrev bv:FuncId:=179
abbrev eF:FuncId:=183
abbrev be:FuncId:=172
abbrev dA:FuncId:=162
abbrev dj:FuncId:=189
abbrev bY:FuncId:=180
abbrev cB:FuncId:=181
abbrev dy:FuncId:=182
abbrev dJ:FuncId:=171
abbrev aN:FuncId:=161
abbrev dd:FuncId:=143
abbrev fG:FuncId:=194
abbrev gn:FuncId:=190
abbrev iZ:FuncId:=184
abbrev dc:FuncId:=191
abbrev iX:FuncId:=185
abbrev bC:FuncId:=173
abbrev eG:FuncId:=192
abbrev eQ:FuncId:=197
abbrev db:FuncId:=195
abbrev dQ:FuncId:=196
abbrev cS:FuncId:=193
abbrev eE:FuncId:=186
abbrev bn:FuncId:=174
abbrev jX:FuncId:=163
abbrev cD:FuncId:=175
abbrev jb:FuncId:=164
abbrev cV:FuncId:=144
abbrev eL:FuncId:=127
abbrev fY:FuncId:=76
abbrev cY:FuncId:=155
abbrev bE:FuncId:=156
abbrev bf:FuncId:=160
abbrev bl:FuncId:=159
abbrev bD:FuncId:=158
abbrev cR:FuncId:=178
abbrev ey:FuncId:=187
abbrev jU:FuncId:=188
abbrev aU:FuncId:=177
abbrev dT:FuncId:=176
abbrev dN:FuncId:=170
abbrev aW:FuncId:=157
abbrev gR:FuncId:=142
abbrev eI:FuncId:=126
abbrev eM:FuncId:=166
abbrev jl:FuncId:=165
abbrev gq:FuncId:=145
abbrev eg:FuncId:=128
abbrev gm:FuncId:=119
abbrev fP:FuncId:=90
abbrev dD:FuncId:=53
abbrev br:FuncId:=120
abbrev bi:FuncId:=91
abbrev co:FuncId:=121
abbrev bM:FuncId:=93
abbrev eD:FuncId:=61
abbrev dt:FuncId:=94
abbrev cP:FuncId:=92
abbrev gk:FuncId:=55
abbrev cq:FuncId:=100
abbrev md:FuncId:=101
abbrev kg:FuncId:=102
abbrev kB:FuncId:=64
abbrev di:FuncId:=98
abbrev cA:FuncId:=62
abbrev dS:FuncId:=18
abbrev dL:FuncId:=57
abbrev cw:FuncId:=97
abbrev ig:FuncId:=59
abbrev fT:FuncId:=19
abbrev bO:FuncId:=99
abbrev dg:FuncId:=63
abbrev jS:FuncId:=21
abbrev eA:FuncId:=20
abbrev dU:FuncId:=22
abbrev dY:FuncId:=23
abbrev cG:FuncId:=24
abbrev bN:FuncId:=103
abbrev dZ:FuncId:=65
abbrev cM:FuncId:=25
abbrev iP:FuncId:=5
@[reducible] def qa(a:Nat)(b:Option (Nat × Bool))(c:AI):CO:=⟨some a,b,c⟩
@[reducible] def qb(a:Nat)(b:AI):CO:=qa a none b
@[reducible] def qc(a:Nat)(b:AOp):CO:=qb a (.mov b)
@[reducible] def qd(a:IntKind)(b:Int):AV:= .p (.int a b)
@[reducible] def qe(a:List CO)(b:AK):AK:= .seq (.reg a) b
@[reducible] def qf(a b:Nat):CO:=qc a (.t b)
@[reducible] def qg(a:Int):AV:=qd .i64 a
@[reducible] def qh(a b:Nat):AI:= .fldA a (.t b)
@[reducible] def qi(a:Int):AOp:= .c (qg a)
@[reducible] def qj(a:Option Nat)(b:Nat):AI:= .ld a (.t b)
@[reducible] def qk(a:Nat)(b:Nat × Bool)(c:AI):CO:=qa a (some b) c
@[reducible] def ql(a:BinOp)(b:Nat)(c:AOp):AI:= .bin a (.t b) c
@[reducible] def qm(a:Nat)(b:Option Nat)(c:Nat):CO:=qb a (qj b c)
@[reducible] def qn(a:Nat)(b:FuncId)(c:List AOp):CO:=qb a (.call b c)
@[reducible] def qo(a:Option (Nat × Bool))(b:AI):CO:=⟨none,a,b⟩
@[reducible] def qp(a b c:Nat):CO:=qb a (qh b c)
@[reducible] def qt(a b:Nat):CO:=qm a none b
@[reducible] def qu(a:Nat)(b c:AK):AK:= .cond (.t a) b c
@[reducible] def qv(a:AI):CO:=qo none a
@[reducible] def qw:AV:=qg 0
@[reducible] def qx(a:Nat)(b:BinOp)(c:Nat)(d:AOp):CO:=qb a (ql b c d)
@[reducible] def qy(a:Bool):AV:= .p (.bool a)
@[reducible] def qz(a:Option Nat)(b c:Nat):CO:=qv (.chk a b c)
@[reducible] def qA(a:Nat):AI:= .nilck (.t a)
@[reducible] def qB(a:Nat)(b:BinOp)(c:Nat)(d:Int):CO:=qx a b c (qi d)
@[reducible] def qC(a:List CO)(b c:AK):AK:= .seq (qe a b) c
@[reducible] def qD(a:List CO):AK:=qe a .ret
@[reducible] def qF(a:AOp):AI:= .len false a
@[reducible] def qG:AV:=qy false
@[reducible] def qH(a b:Nat)(c:List AV)(d:Nat)(e:List (Nat × Nat × AOp)):CO:=qb a (.bsl b c d e)
@[reducible] def qI(a b:Nat)(c:AOp):AI:= .idxS a (.t b) c
@[reducible] def qJ(a:List UInt8):AV:= .p (.str a)
@[reducible] def qK(a:Nat)(b c:AOp):CO:=qv (.st a b c)
@[reducible] def qL(a b:Nat):CO:=qz none a b
@[reducible] def qM(a b:Nat)(c:Bool)(d:AI):CO:=qk a (b,c) d
@[reducible] def qN(a b:Nat)(c:AI):CO:=qM a b false c
@[reducible] def qO(a b:Nat)(c:AI):CO:=qM a b true c
@[reducible] def qP(a:Nat)(b c:AOp):AI:= .pick (.t a) b c
@[reducible] def qQ:AOp:=qi 0
@[reducible] def qR(a b:Nat)(c:AOp):CO:=qK a (.t b) c
@[reducible] def qS(a b c:Nat):CO:=qR a b (.t c)
@[reducible] def qT(a:Nat)(b:List AV):CO:=qb a (.alloc b)
@[reducible] def qU(a:Nat)(b:AK):AK:= .blk a (.loop b)
@[reducible] def qV(a:Nat):AI:=qF (.t a)
@[reducible] def qW(a:Nat)(b:AK):AK:=qu a b .skip
@[reducible] def qX:AOp:= .c qG
@[reducible] def qY(a:List CO)(b c:OT):OT:= .alt (.one a b) c
@[reducible] def qZ(a b:Nat):CO:=qb a (qA b)
@[reducible] def wa(a:Nat)(b c:AK):AK:= .seq (.blk a b) c
@[reducible] def wb(a:Nat):CO:=qf a 0
@[reducible] def wd(a b:List CO)(c:AK):AK:=qe a (qe b c)
@[reducible] def we(a b c:Nat):CO:=qm a (some b) c
@[reducible] def wg(a:Nat):AI:= .mov (.t a)
@[reducible] def wh(a b:Nat):CO:=qb a (qV b)
@[reducible] def wi(a:Nat)(b:List AOp):CO:=qn a bu b
@[reducible] def wj:AV:=qJ []
@[reducible] def wl(a:Nat)(b:AK)(c:Nat):AK:=qu a b (.exit c)
@[reducible] def wm(a b c:Nat)(d:AOp):CO:=qb a (qI b c d)
@[reducible] def wn(a:Nat)(b:BinOp)(c d:Nat):CO:=qx a b c (.t d)
@[reducible] def wo(a b c:Nat):Nat × Nat × AOp:=(a,b,.t c)
@[reducible] def wq(a:Nat)(b:List AV)(c:List (Nat × Nat × AOp)):CO:=qb a (.bld b c)
@[reducible] def wt(a b c d:Nat):CO:=wm a b c (.t d)
@[reducible] def wu:AV:=qy true
@[reducible] def wv(a:Nat)(b:AK)(c:List CO):AK:=wa a b (.reg c)
@[reducible] def ww(a:Nat)(b:List CO):AK:=qW a (qD b)
@[reducible] def wx(a:Nat):AI:=qj none a
@[reducible] def wy(a b:Nat)(c d:AOp):CO:=qb a (qP b c d)
@[reducible] def wz(a b:Nat):AK:=wl a .skip b
@[reducible] def wA(a b c:Nat)(d:AOp):AI:= .app a b (.t c) d
@[reducible] def wB(a:Nat):AI:= .not (.t a)
@[reducible] def wC(a:Nat)(b:AOp):List CO:=[qc a b]
@[reducible] def wD(a:Nat)(b:List AOp):CO:=qn a aX b
@[reducible] def wE(a b:Nat):Nat × Nat × AOp:=wo a 1 b
@[reducible] def wF(a b:Nat)(c:Int):CO:=qB a .add b c
@[reducible] def wG:AOp:= .c wu
@[reducible] def wH(a b:Nat)(c:Int):CO:=qB a .eql b c
@[reducible] def wI(a b:Nat):AI:= .box a (.t b)
@[reducible] def wJ:AOp:=qi 1
@[reducible] def wK(a:List CO)(b:AK)(c:List CO):AK:=qC a b (qD c)
@[reducible] def wL(a b c:Nat):CO:=wn a .lss b c
@[reducible] def wM(a:List CO)(b:OT):OT:=qY a b .tru
@[reducible] def wN(a b c d:Nat):AI:=wA a b c (.t d)
@[reducible] def wO(a b c d e:Nat):CO:=qb a (wN b c d e)
@[reducible] def wP(a:Nat)(b:AOp):List AOp:=[.t a,b]
@[reducible] def wQ(a b:Nat):List AOp:=wP a (.t b)
@[reducible] def wR(a b:Nat)(c:AOp):AK:=ww a (wC b c)
@[reducible] def wS(a:Nat)(b:List CO)(c d:AK):AK:=qU a (qC b c d)
@[reducible] def wT(a:Nat)(b:List CO)(c d:Nat)(e:AK):AK:=wS a b (wz c d) e
@[reducible] def wU(a:Nat)(b:FuncId)(c d:Nat):CO:=qn a b (wQ c d)
@[reducible] def wV(a:Nat)(b:List AOp):CO:=qn a bD b
@[reducible] def wW(a b:Nat)(c:AOp)(d:Nat):CO:=wy a b c (.t d)
@[reducible] def wX(a:Nat):CO:=qf a 5
@[reducible] def wY(a b c:Nat):CO:=qN a b (wg c)
@[reducible] def wZ(a:Nat):List CO:=wC a qQ
@[reducible] def xa(a:Nat)(b:List CO)(c d e:Nat)(f:AK)(g:List CO):AK:=wT a b c d (wv e f g)
@[reducible] def xb(a b c:Nat):CO:=qb a (wI b c)
@[reducible] def xc(a b:Nat):CO:=qp a 0 b
@[reducible] def xd(a b:Nat)(c:Int):Nat × Nat × AOp:=(a,b,qi c)
@[reducible] def xe(a:Nat)(b:Int):Nat × Nat × AOp:=xd a 1 b
@[reducible] def xf(a:List AOp):AI:= .call gB a
@[reducible] def xg(a b c:Nat):CO:=qO a b (wx c)
@[reducible] def xh(a:Nat):List AOp:=[.t a]
@[reducible] def xi(a:Nat)(b:FuncId)(c:Nat):CO:=qn a b (xh c)
@[reducible] def xj(a b:Nat)(c:Int):CO:=qB a .sub b c
@[reducible] def xk(a b:Nat):CO:=xi a bE b
@[reducible] def xl(a b c:Nat):CO:=qN a b (wx c)
@[reducible] def xm:AOp:= .c .nils
@[reducible] def xo(a b c d:Nat):CO:=qN a b (qh c d)
@[reducible] def xp(a b:Nat):CO:=qp a 2 b
@[reducible] def xq(a:Nat)(b:List AOp):CO:=qn a bf b
@[reducible] def xr(a b c d:Nat):CO:=qO a b (qh c d)
@[reducible] def xt(a b:Nat)(c:BinOp)(d:Nat)(e:AOp):CO:=qO a b (ql c d e)
@[reducible] def xu:List AV:=[qw]
@[reducible] def xv(a b c:Nat)(d:List (Nat × Nat × AOp)):CO:=qH a b xu c d
@[reducible] def xx(a b:Nat):CO:=qp a 1 b
@[reducible] def xy(a:Nat):CO:=qf a 4
@[reducible] def xz(a:Nat)(b:Int):List AOp:=wP a (qi b)
@[reducible] def xA(a b:Nat):CO:=qS 1 a b
@[reducible] def xB(a:Nat):CO:=qf a 1
@[reducible] def xC(a b:Nat):RV:= .c a (some b)
@[reducible] def xD(a:Nat):List RV:=[.t a]
@[reducible] def xE(a:List CO)(b:Nat)(c d:AK):AK:=qe a (qu b c d)
@[reducible] def xF(a:CO)(b c:Nat):List CO:=[a,qf b c]
@[reducible] def xG(a b:CO)(c d:Nat):List CO:=[a,b,qf c d]
@[reducible] def xH(a:Nat)(b:List CO)(c d e:Nat)(f:AK)(g h:CO)(i j:Nat):AK:=xa a b c d e f (xG g h i j)
@[reducible] def xI(a b c:Nat):CO:=qO a b (wg c)
@[reducible] def xJ(a:List CO)(b c:AK):AK:= .cut (qe a b) c
@[reducible] def xK(a b c:Nat)(d:AOp):CO:=wy a b (.t c) d
@[reducible] def xL(a b:Nat):CO:=xi a bl b
@[reducible] def xM(a:List AOp):AI:= .call bu a
@[reducible] def xN:List RV:=xD 2
@[reducible] def xO(a:Nat)(b:List CO)(c d e:Nat)(f:AK)(g:CO)(h i:Nat)(j:Int)(k l:Nat):AK:=xH a b c d e f g (wF h i j) k l
@[reducible] def xP(a b:Nat):CO:=qb a (wB b)
@[reducible] def xQ(a b:List CO)(c:AK)(d:List CO):AK:=qe a (wK b c d)
@[reducible] def xR(a b:Nat)(c:Int)(d e:Nat):List CO:=xF (wH a b c) d e
@[reducible] def xS(a:Nat)(b:List AOp):CO:=qn a dA b
@[reducible] def xT(a b c:Nat):CO:=wW a b wG c
@[reducible] def xU(a:Nat):CO:=qf a 6
@[reducible] def xV(a:Nat):Nat × Nat × AOp:=wE 0 a
@[reducible] def xW(a:Nat)(b:List AOp):CO:=qn a gB b
@[reducible] def xX:List RV:=xD 4
@[reducible] def xY(a b:Nat)(c:List (Nat × Nat × AOp)):CO:=xv a 1 b c
@[reducible] def xZ(a b:Nat)(c:List AV)(d:Nat)(e:List (Nat × Nat × AOp)):CO:=qb a (.bslP b c d e)
@[reducible] def x4:List AV:=[.nils]
@[reducible] def x6(a b:Nat)(c:BinOp)(d:Nat)(e:AOp):CO:=qN a b (ql c d e)
@[reducible] def x7(a b:List CO):AK:=qe a (qD b)
@[reducible] def x8(a b:Nat):AK:=wR a b qX
@[reducible] def x9(a:Nat):CO:=qL a 10
@[reducible] def ya:CO:=x9 9
@[reducible] def yb(a:Nat):CO:=qL 11 a
@[reducible] def yc:CO:=yb 12
@[reducible] def ye(a b:List CO)(c:OT):OT:=wM a (wM b c)
@[reducible] def yf(a:List UInt8):AOp:= .c (qJ a)
def ku:FK:=⟨11,xN,xQ (wC 2 (.c .nilp)) [wb 3,wh 4 3,qB 5 .gtr 4 2000] (qW 5 (.reg (xG (wb 6) (qb 7 (.slS 1 (.t 6) none (some (qi 2000)))) 0 7))) [wb 8,wq 9 [.nils,qw] [xV 8],xb 10 2 9,qf 2 10]⟩
theorem pN:ay Tryz.prog dx=some ku:=by kernel_rfl
def cC:FK:=⟨99,xX,wd (wZ 4) [wb 7,wb 8,qZ 9 8,xx 10 9,qt 11 10,wF 12 11 1,qZ 13 7,xx 14 13,xA 14 12] (qC [xB 15,qB 16 .lss 15 1,qf 17 16,wY 18 17 0,qN 19 17 (qA 18),xo 20 17 0 19,xl 21 17 20,qN 22 17 (qV 21),x6 23 17 .eql 22 qQ,xT 24 17 23] (wR 24 4 qQ) (qe [wb 25,qZ 26 25,xx 27 26,qt 28 27,xj 29 28 1,qf 5 29] (qC [wX 30,wb 31,qZ 32 31,xc 33 32,qt 34 33,wh 35 34,wL 36 30 35] (ww 36 [wb 37,qZ 38 37,xc 39 38,qt 40 39,wX 41,wt 42 1 40 41,qt 43 42,qb 44 (.conv .i64 (.t 43)),xB 45,wn 46 .rem 44 45,qf 4 46]) (wd [wb 47,qZ 48 47,xc 49 48,wX 51,wb 52,qZ 53 52,xc 54 53,wb 62,qZ 63 62,xc 64 63,wX 66,qB 67 .mul 66 7,wF 68 67 3,wb 69,qZ 70 69,xc 71 70,wX 80,qB 81 .mul 80 29,wX 83,wb 84,qZ 85 84,xc 86 85,qt 50 49,qt 55 54,wh 56 55,wn 57 .rem 51 56,wt 58 1 50 57,qt 59 58,qb 60 (.conv .i64 (.t 59)),qB 61 .mul 60 131,qt 65 64,qt 72 71,wh 73 72,wn 74 .rem 68 73,wt 75 1 65 74,qt 76 75,qb 77 (.conv .i64 (.t 76)),qB 78 .mul 77 1117,wn 79 .add 61 78,wn 82 .add 79 81,qt 87 86,wh 88 87,wn 89 .quo 83 88,qB 90 .mul 89 53,wn 91 .add 82 90,qf 6 91] [xU 92,xU 93,qB 94 .quo 93 64,wn 95 .xor 92 94,qf 6 95] (qD [xU 96,xB 97,wn 98 .rem 96 97,qf 4 98])))))⟩
theorem mf:ay Tryz.prog bu=some cC:=by kernel_rfl
def cN:FK:=⟨12,xX,x7 (wZ 4) [xB 5,wb 6,xB 7,wh 8 7,wi 9 (wQ 6 8),wt 10 1 5 9,qt 11 10,qf 4 11]⟩
theorem ed:ay Tryz.prog aX=some cN:=by kernel_rfl
def jw:FK:=⟨15,xD 6,x7 (wC 6 qX) [wb 7,xB 8,wn 9 .geq 7 8,qf 10 9,xI 11 10 0,xI 12 10 2,xt 13 10 .leq 11 (.t 12),xK 14 10 13 qX,qf 6 14]⟩
theorem vl:ay Tryz.prog gB=some jw:=by kernel_rfl
def bU:FK:=⟨28,xN,qe (wZ 2) (wa 0 (xE [wb 4,wH 5 4 1,wX 3] 3 (qD (wZ 2)) (xE [wb 7,wH 8 7 2,qf 9 8,wY 10 9 0,x6 11 9 .eql 10 (qi 10),xT 12 9 11,qf 13 12,wY 14 13 0,x6 15 13 .eql 14 (qi 11),xT 16 13 15,qf 17 16,wY 18 17 0,x6 19 17 .eql 18 (qi 13),xT 20 17 19,qf 6 20] 6 (qD (wC 2 wJ)) (qe [wb 22,xW 23 [.t 22,qi 3,qi 9],qf 24 23,wY 25 24 0,x6 26 24 .eql 25 (qi 12),xT 27 24 26,qf 21 27] (wR 21 2 (qi 2))))) (qD (wC 2 (qi (-1)))))⟩
theorem su:ay Tryz.prog eB=some bU:=by kernel_rfl
def kj:FK:=⟨13,xN,x7 (wC 2 qX) [wb 3,xW 4 [.t 3,wJ,qi 14],xy 5,xI 6 5 0,xt 7 5 .neq 6 (qi 12),xK 8 5 7 qX,qf 9 8,xI 10 9 0,xt 11 9 .neq 10 (qi 13),xK 12 9 11 qX,qf 2 12]⟩
theorem pJ:ay Tryz.prog cE=some kj:=by kernel_rfl
def ib:AK:=wd [xb 4 1 1,qT 6 [qw,qw,.nils,qw]] [wb 11,xY 12 16 [(0,1,wJ),(1,1,wJ),xe 2 2,xe 3 3,xe 4 4,xe 5 5,xe 6 8,xe 7 9,xe 8 10,xe 9 13,xe 10 3,xe 11 6,xe 12 7,xe 13 11,xe 14 12,xe 15 14],wD 13 (wQ 11 12),qf 7 13] (wd [qf 14 7,wb 15,qf 16 2,wi 17 (wQ 15 16),wq 18 [qw,qw,.nils,qw] [xV 14,wE 1 17],qT 8 [qw,qw,.nils,qw],qS 4 8 18] (xG (qf 19 7) (xi 20 eB 19) 9 20) (xJ [qf 21 7,wH 22 21 14] (qW 22 (qC [xc 23 4,qt 24 23,wh 25 24,wH 26 25 0] (ww 26 [wb 27,qf 28 2,wi 29 (wQ 27 28),xY 30 1 [xV 29],wq 31 [qw,qw,.nils,qw] [xe 0 13,xe 1 (-1),wE 2 30],qS 4 6 31]) (qe [wb 32,xc 33 4,qt 34 33,wh 35 34,wi 36 (wQ 32 35),qp 37 3 8,xA 37 36] (.reg [xc 38 4,qt 39 38,qp 40 3 8,qt 41 40,wt 42 3 39 41,xc 43 42,qt 44 43,qf 9 44])))) (xJ [qf 45 7,wH 46 45 1] (qW 46 (.reg [wb 47,xY 48 7 [(0,1,qQ),(1,1,wJ),xe 2 2,xe 3 3,xe 4 15,xe 5 16,xe 6 255],wD 49 (wQ 47 48),qp 50 3 8,xA 50 49])) (xJ [qf 51 7,xi 52 cE 51,xP 53 52] (qW 53 (.reg [xx 54 8,qR 1 54 (qi (-1))])) (wK (wZ 10) (xO 0 [qf 55 10,qf 56 9,wL 57 55 56] 57 0 1 (.reg [xp 60 8,wb 62,qf 63 2,qt 61 60,wi 64 (wQ 62 63),qL 60 61,xZ 65 1 xu 1 [xV 64],wO 66 1 8 61 65,xp 67 8,xA 67 66]) (qf 58 10) 59 58 1 10 59) [we 68 4 8,qS 4 6 68])))))
def gT:FK:=⟨69,[xC 6 4],(AK.whole ib)⟩
theorem sO:ay Tryz.prog gY=some gT:=by kernel_rfl
def jT:FK:=⟨30,xD 6,xQ (wZ 6) [xB 7,qf 8 2,xj 9 8 1,wL 10 7 9,qf 11 10,xI 12 11 0,qO 13 11 (xM (xz 12 4)),xt 14 11 .gtr 13 qQ,xK 15 11 14 qX] (ww 15 [xB 16,wF 17 16 1,wb 18,qf 19 2,xj 20 19 1,xB 21,wn 22 .sub 20 21,wi 23 (wQ 18 22),wn 24 .add 17 23,qf 6 24]) [wb 25,qf 26 2,xj 27 26 1,wi 28 (wQ 25 27),qb 29 (.bin .add wJ (.t 28)),qf 6 29]⟩
theorem vA:ay Tryz.prog eT=some jT:=by kernel_rfl
def iq:AK:=wd [xb 3 1 1,qT 4 [qw,qw,.nils]] [wb 10,xY 11 4 [(0,1,wJ),(1,1,qQ),xe 2 2,xe 3 3],wD 12 (wQ 10 11),wq 13 [qw,qw,.nils] [xV 12],qT 5 [qw,qw,.nils],qS 3 5 13] (wd [xc 14 5,wb 17,qt 15 14,wF 16 15 2,wi 18 (xz 17 5),qL 14 15,wn 19 .add 16 18,xx 20 5,xA 20 19] [wb 21,xY 22 6 [xe 0 3,xe 1 5,xe 2 2,(3,1,wJ),xe 4 7,xe 5 4],wD 23 (wQ 21 22),qf 6 23] (wK (wZ 7) (xO 0 [qf 24 7,xU 25,wL 26 24 25] 26 0 1 (qe [wq 29 [.nils,.nils,qw,qw,.nils] [],qT 8 [.nils,.nils,qw,qw,.nils],qS 5 8 29] (xJ [wb 30,xY 31 5 [(0,1,wJ),xe 1 2,(2,1,qQ),xe 3 3,xe 4 4],wD 32 (wQ 30 31),qf 9 32] (xH 2 [qf 33 9,qB 34 .gtr 33 0] 34 2 3 (.reg [xx 37 8,wb 39,xx 41 5,qt 38 37,we 40 1 3,qt 42 41,qn 43 gY [.t 39,.t 40,.t 42],qL 37 38,qH 44 4 [qw,qw,.nils,qw] 1 [wo 0 4 43],qL 37 38,wO 45 4 48 38 44,xx 46 8,xA 46 45]) (qf 35 9) (xj 36 35 1) 9 36) (wd [wb 47,xx 48 5,qt 49 48,wi 50 (wQ 47 49),qp 51 3 8,xA 51 50] [wb 52,xY 53 5 [xe 0 2,(1,1,wJ),xe 2 2,(3,1,wJ),xe 4 3],wD 54 (wQ 52 53),xp 55 8,xA 55 54] (xJ [xU 56,wH 57 56 1,qf 58 57,wY 59 58 7,wY 60 58 6,x6 61 58 .sub 60 wJ,x6 62 58 .eql 59 (.t 61),wY 63 58 62,xI 64 63 0,qO 65 63 (xM (xz 64 3)),xt 66 63 .gtr 65 qQ,qN 67 58 (qP 63 (.t 66) qX),xT 68 58 67] (qW 68 (.reg [xp 69 8,qR 1 69 (qi 3)])) (xJ [xp 70 8,qt 71 70] (.blk 4 (xE (xR 73 71 1 72 73) 72 (qe [qp 74 3 8,qR 1 74 qQ] (.reg [wb 75,qf 76 7,xU 77,qn 78 eT [.t 75,.t 76,.t 77],xY 79 1 [xV 78],qp 80 4 8,xA 80 79])) (qe (xR 82 71 2 81 82) (qW 81 (.reg [wb 83,qf 84 7,xU 85,qn 86 eT [.t 83,.t 84,.t 85],wb 87,qf 88 7,xU 89,qn 90 eT [.t 87,.t 88,.t 89],xY 91 2 [xV 86,wE 1 90],qp 92 4 8,xA 92 91]))))) (.reg [xp 93 5,qt 94 93,we 95 5 8,qH 96 5 [.nils,.nils,qw,qw,.nils] 1 [wo 0 5 95],wO 97 5 88 94 96,xp 98 5,xA 98 97])))))) (qf 27 7) 28 27 1 7 28) [we 99 3 5,qS 3 4 99]))
def il:FK:=⟨100,[xC 4 3],(AK.whole iq)⟩
theorem sI:ay Tryz.prog gW=some il:=by kernel_rfl
def jE:FK:=⟨43,xX,wd [xb 2 3 0,qc 4 xm] (xF (xY 8 0 []) 5 8) (wK (wZ 6) (xO 0 [xU 9,xp 10 2,qt 11 10,wh 12 11,wL 13 9 12] 13 0 1 (qe (wZ 7) (xO 2 [qf 16 7,xp 17 2,qt 18 17,xU 19,wt 20 5 18 19,qp 21 4 20,qt 22 21,wh 23 22,wL 24 16 23] 24 2 3 (qe [xp 27 2,qt 28 27,xU 29,wt 30 5 28 29,qp 31 4 30,qt 32 31,qf 33 7,wt 34 1 32 33,qt 35 34,xB 36,wn 37 .eql 35 36] (qW 37 (qe [wX 38,xU 39,xY 40 1 [xV 39],wO 41 1 8 38 40,qf 5 41] (.exit 2)))) (qf 25 7) 26 25 1 7 26)) (xU 14) 15 14 1 6 15) (xF (wX 42) 4 42))⟩
theorem pX:ay Tryz.prog cK=some jE:=by kernel_rfl
def ij:AK:=wd [qT 2 x4] [wq 9 x4 [],qT 3 x4,xA 3 9] (xJ [wb 10,xY 11 4 [(0,1,wJ),xe 1 2,(2,1,wJ),xe 3 3],wD 12 (wQ 10 11),qf 4 12] (xH 0 [xy 13,qB 14 .gtr 13 0] 14 0 1 (.reg [xc 17 3,wb 19,qt 18 17,we 20 1 3,wU 21 gW 19 20,qL 17 18,qH 22 3 [qw,qw,.nils] 1 [wo 0 3 21],qL 17 18,wO 23 3 40 18 22,xc 24 3,xA 24 23]) (xy 15) (xj 16 15 1) 4 16) (wK [wb 25,xY 26 4 [(0,1,qQ),(1,1,qQ),(2,1,wJ),xe 3 3],wD 27 (wQ 25 26),qf 5 27] (xH 2 [wX 28,qB 29 .gtr 28 0] 29 2 3 (wd [xc 32 3,wb 34,xc 35 3,qt 33 32,qt 36 35,wh 37 36,wi 38 (wQ 34 37),qL 32 33,wt 39 3 33 38,qf 6 39] [wb 40,xU 41,qZ 42 41,xp 43 42,qt 44 43,wh 45 44,wi 46 (wQ 40 45),qf 7 46] (qe [wb 47,xU 48,qZ 49 48,xx 50 49,qt 51 50,wi 52 (wQ 47 51),wq 53 [qw,.nils] [xV 52],qT 8 [qw,.nils],qS 2 8 53] (xJ [xU 54,qZ 55 54,we 56 3 55,qf 57 7,wU 58 cK 56 57,wh 59 58,qc 60 qQ] (qU 4 (qe [wL 61 60 59] (.seq (wz 61 4) (wv 5 (.reg [xx 62 8,wb 64,xU 65,qZ 66 65,xx 67 66,qt 63 62,qt 68 67,wi 69 (wQ 64 68),qL 62 63,xZ 70 1 xu 1 [xV 69],wO 71 1 8 63 70,xx 72 8,xA 72 71]) (xF (wF 73 60 1) 60 73))))) (qe [qf 74 7,qB 75 .gtr 74 0] (qW 75 (.reg [xU 76,qZ 77 76,xp 78 77,qf 80 7,xU 81,qZ 82 81,xp 83 82,qf 85 7,qt 79 78,qt 84 83,wt 86 5 84 85,xc 87 86,qt 88 87,we 89 2 8,qH 90 2 [qw,.nils] 1 [wo 0 2 89],qL 78 79,qL 83 84,qL 87 88,wO 91 2 32 88 90,qL 78 79,wt 92 5 79 80,xc 93 92,xA 93 91])))))) (wX 30) (xj 31 30 1) 5 31) [we 94 1 3,xA 2 94]))
def iv:FK:=⟨95,[xC 2 1],(AK.whole ij)⟩
theorem sD:ay Tryz.prog da=some iv:=by kernel_rfl
def dr:AK:=qe [xb 1 5 0,qT 2 [.nils,.nils,qw,qw,.nils]] (.cut (.ot (.one (wC 3 (.c .any)) (.one [xp 9 1] (.one [qp 11 3 1] (.one [qp 14 4 1] (.one [qt 10 9] (.one [qt 12 11] (.one [qt 15 14] (qY [qH 7 2 [qw,.nils] 0 [],ya,yc,qL 14 15] (qY [qH 8 4 [qw,qw,.nils,qw] 0 [],ya,yc,qL 14 15] (ye [xY 13 0 [],ya,yc,qL 14 15] [wO 16 1 8 13 15,ya,yc] (.one [wq 17 [.nils,.nils,qw,qw,.nils] [xV 7,wE 1 8,wE 2 10,wE 3 12,wE 4 16]] (ye [qT 3 [.nils,.nils,qw,qw,.nils]] [qS 5 3 17] .done))) (wM [xY 13 0 [],ya,yc,qL 14 15] (qY [qH 8 4 [qw,qw,.nils,qw] 0 [],ya,yc,qL 14 15] (wM [wO 16 1 8 13 15,ya,yc] (.one [wq 17 [.nils,.nils,qw,qw,.nils] [xV 7,wE 1 8,wE 2 10,wE 3 12,wE 4 16]] (ye [qT 3 [.nils,.nils,qw,qw,.nils]] [qS 5 3 17] .done))) (ye [wO 16 1 8 13 15,ya,yc] [qH 8 4 [qw,qw,.nils,qw] 0 [],ya,yc,qL 14 15] (.one [wq 17 [.nils,.nils,qw,qw,.nils] [xV 7,wE 1 8,wE 2 10,wE 3 12,wE 4 16]] (ye [qT 3 [.nils,.nils,qw,qw,.nils]] [qS 5 3 17] .done)))))) (qY [qH 8 4 [qw,qw,.nils,qw] 0 [],ya,yc,qL 14 15] (qY [qH 7 2 [qw,.nils] 0 [],ya,yc,qL 14 15] (ye [xY 13 0 [],ya,yc,qL 14 15] [wO 16 1 8 13 15,ya,yc] (.one [wq 17 [.nils,.nils,qw,qw,.nils] [xV 7,wE 1 8,wE 2 10,wE 3 12,wE 4 16]] (ye [qT 3 [.nils,.nils,qw,qw,.nils]] [qS 5 3 17] .done))) (wM [xY 13 0 [],ya,yc,qL 14 15] (qY [qH 7 2 [qw,.nils] 0 [],ya,yc,qL 14 15] (wM [wO 16 1 8 13 15,ya,yc] (.one [wq 17 [.nils,.nils,qw,qw,.nils] [xV 7,wE 1 8,wE 2 10,wE 3 12,wE 4 16]] (ye [qT 3 [.nils,.nils,qw,qw,.nils]] [qS 5 3 17] .done))) (ye [wO 16 1 8 13 15,ya,yc] [qH 7 2 [qw,.nils] 0 [],ya,yc,qL 14 15] (.one [wq 17 [.nils,.nils,qw,qw,.nils] [xV 7,wE 1 8,wE 2 10,wE 3 12,wE 4 16]] (ye [qT 3 [.nils,.nils,qw,qw,.nils]] [qS 5 3 17] .done)))))) (wM [xY 13 0 [],ya,yc,qL 14 15] (qY [qH 7 2 [qw,.nils] 0 [],ya,yc,qL 14 15] (qY [qH 8 4 [qw,qw,.nils,qw] 0 [],ya,yc,qL 14 15] (wM [wO 16 1 8 13 15,ya,yc] (.one [wq 17 [.nils,.nils,qw,qw,.nils] [xV 7,wE 1 8,wE 2 10,wE 3 12,wE 4 16]] (ye [qT 3 [.nils,.nils,qw,qw,.nils]] [qS 5 3 17] .done))) (ye [wO 16 1 8 13 15,ya,yc] [qH 8 4 [qw,qw,.nils,qw] 0 [],ya,yc,qL 14 15] (.one [wq 17 [.nils,.nils,qw,qw,.nils] [xV 7,wE 1 8,wE 2 10,wE 3 12,wE 4 16]] (ye [qT 3 [.nils,.nils,qw,qw,.nils]] [qS 5 3 17] .done)))) (qY [qH 8 4 [qw,qw,.nils,qw] 0 [],ya,yc,qL 14 15] (qY [qH 7 2 [qw,.nils] 0 [],ya,yc,qL 14 15] (wM [wO 16 1 8 13 15,ya,yc] (.one [wq 17 [.nils,.nils,qw,qw,.nils] [xV 7,wE 1 8,wE 2 10,wE 3 12,wE 4 16]] (ye [qT 3 [.nils,.nils,qw,qw,.nils]] [qS 5 3 17] .done))) (ye [wO 16 1 8 13 15,ya,yc] [qH 7 2 [qw,.nils] 0 [],ya,yc,qL 14 15] (.one [wq 17 [.nils,.nils,qw,qw,.nils] [xV 7,wE 1 8,wE 2 10,wE 3 12,wE 4 16]] (ye [qT 3 [.nils,.nils,qw,qw,.nils]] [qS 5 3 17] .done)))) (wM [wO 16 1 8 13 15,ya,yc] (qY [qH 7 2 [qw,.nils] 0 [],ya,yc,qL 14 15] (wM [qH 8 4 [qw,qw,.nils,qw] 0 [],ya,yc,qL 14 15] (.one [wq 17 [.nils,.nils,qw,qw,.nils] [xV 7,wE 1 8,wE 2 10,wE 3 12,wE 4 16]] (ye [qT 3 [.nils,.nils,qw,qw,.nils]] [qS 5 3 17] .done))) (ye [qH 8 4 [qw,qw,.nils,qw] 0 [],ya,yc,qL 14 15] [qH 7 2 [qw,.nils] 0 [],ya,yc,qL 14 15] (.one [wq 17 [.nils,.nils,qw,qw,.nils] [xV 7,wE 1 8,wE 2 10,wE 3 12,wE 4 16]] (ye [qT 3 [.nils,.nils,qw,qw,.nils]] [qS 5 3 17] .done)))))))))))))))))) (xJ (wZ 4) (xO 0 [xy 18,xc 19 1,qt 20 19,wh 21 20,wL 22 18 21] 22 0 1 (.reg [xc 25 3,xc 27 1,xy 29,xc 34 1,xy 36,qt 26 25,qt 28 27,wt 30 2 28 29,xc 31 30,qt 32 31,qt 35 34,wt 37 2 35 36,xx 38 37,qt 39 38,xY 33 0 [],qL 25 26,qL 27 28,qL 31 32,qL 34 35,qL 38 39,wO 40 1 8 33 39,qL 25 26,qL 27 28,qL 31 32,wq 41 [qw,.nils] [xV 32,wE 1 40],qH 42 2 [qw,.nils] 1 [wo 0 2 41],qL 25 26,wO 43 2 32 26 42,xc 44 3,xA 44 43]) (xy 23) 24 23 1 4 24) (wK (wZ 5) (xO 2 [wX 45,xx 46 1,qt 47 46,wh 48 47,wL 49 45 48] 49 2 3 (qe [xx 52 1,qt 53 52,wX 54,wt 55 4 53 54,we 56 4 55,qT 6 [qw,qw,.nils,qw],qS 4 6 56] (.reg [xx 57 3,xc 59 6,xx 61 6,xp 64 6,qp 67 3 6,qt 58 57,qt 60 59,qt 62 61,qt 65 64,qt 68 67,xY 63 0 [],qL 57 58,qL 59 60,qL 61 62,qL 64 65,qL 67 68,wO 66 1 8 63 65,qL 57 58,qL 59 60,qL 61 62,qL 67 68,wq 69 [qw,qw,.nils,qw] [xV 60,wE 1 62,wE 2 66,wE 3 68],qH 70 4 [qw,qw,.nils,qw] 1 [wo 0 4 69],qL 57 58,wO 71 4 48 58 70,xx 72 3,xA 72 71])) (wX 50) 51 50 1 5 51) [we 73 5 3,qS 5 2 73])))
def dk:FK:=⟨74,[xC 2 5],(AK.whole dr)⟩
theorem lG:ay Tryz.prog dh=some dk:=by kernel_rfl
def kZ:FK:=⟨29,[xC 2 3],wd [xb 1 3 0,qT 2 [qw,qw,.nils]] [xc 5 1,qt 6 5,xx 7 1,qt 8 7,wq 9 [qw,qw,.nils] [xV 6,wE 1 8],qT 3 [qw,qw,.nils],qS 3 3 9] (wK (wZ 4) (xO 0 [xy 10,xp 11 1,qt 12 11,wh 13 12,wL 14 10 13] 14 0 1 (.reg [xp 17 3,xp 19 1,xy 21,qt 18 17,qt 20 19,wt 22 5 20 21,we 23 5 22,xi 24 dh 23,qL 17 18,qH 25 5 [.nils,.nils,qw,qw,.nils] 1 [wo 0 5 24],qL 17 18,wO 26 5 88 18 25,xp 27 3,xA 27 26]) (xy 15) 16 15 1 4 16) [we 28 3 3,qS 3 2 28])⟩
theorem sw:ay Tryz.prog ic=some kZ:=by kernel_rfl
def gx:FK:=⟨25,[xC 2 1],wd [xb 1 1 0,qT 2 x4] [wq 5 x4 [],qT 3 x4,xA 3 5] (wK (wZ 4) (xO 0 [xy 6,xc 7 1,qt 8 7,wh 9 8,wL 10 6 9] 10 0 1 (.reg [xc 13 3,xc 15 1,xy 17,qt 14 13,qt 16 15,wt 18 3 16 17,we 19 3 18,xi 20 ic 19,qL 13 14,qH 21 3 [qw,qw,.nils] 1 [wo 0 3 20],qL 13 14,wO 22 3 40 14 21,xc 23 3,xA 23 22]) (xy 11) 12 11 1 4 12) [we 24 1 3,xA 2 24])⟩
theorem nq:ay Tryz.prog dz=some gx:=by kernel_rfl
def ii:AK:=wd [qT 2 x4] [wb 7,xi 8 da 7,xi 9 dz 8,qT 3 x4,xA 3 9] (wd [xc 10 3,wb 12,xc 13 3,qt 11 10,qt 14 13,wh 15 14,wi 16 (wQ 12 15),qL 10 11,wt 17 3 11 16,qf 4 17] [xy 18,qZ 19 18,xp 20 19,wb 22,xy 23,qZ 24 23,xp 25 24,qt 21 20,qt 26 25,wh 27 26,wi 28 (wQ 22 27),qL 20 21,wt 29 5 21 28,qf 5 29] (qe [wb 30,xy 31,qZ 32 31,xx 33 32,xy 35,qZ 36 35,xp 37 36,qt 34 33,qt 38 37,wh 39 38,xY 40 5 [xe 0 (-1),wE 1 34,wE 2 39,(3,1,qQ),(4,1,wJ)],wD 41 (wQ 30 40),qf 6 41] (xJ [wb 42,wi 43 (xz 42 32)] (.blk 0 (xE (xR 45 43 0 44 45) 44 (.reg [wX 46,wb 47,wi 48 (xz 47 5),qZ 49 46,xp 50 49,xA 50 48]) (xE (xR 52 43 1 51 52) 51 (qe [wX 53,qZ 54 53,qp 55 4 54,qt 56 55,wh 57 56,qB 58 .gtr 57 0] (qW 58 (.reg [wX 59,qZ 60 59,qp 61 4 60,qt 62 61,xU 63,wm 64 1 62 qQ,xA 64 63]))) (xE (xR 66 43 2 65 66) 65 (.reg [wX 67,xU 68,qZ 69 67,qp 70 3 69,xA 70 68]) (xE (xR 72 43 3 71 72) 71 (qe [wX 73,qZ 74 73,xx 75 74,qt 76 75,wh 77 76,qB 78 .gtr 77 0] (qW 78 (.reg [wX 79,qZ 80 79,xx 81 80,qt 82 81,xU 83,wm 84 4 82 qQ,xx 85 84,xA 85 83]))) (xE (xR 87 43 4 86 87) 86 (qe [wX 88,qZ 89 88,xx 90 89,qt 91 90,wh 92 91,qB 93 .gtr 92 0] (qW 93 (.reg [wX 94,qZ 95 94,xx 96 95,wX 98,qZ 99 98,xx 100 99,xU 105,xZ 106 1 xu 1 [xV 105],qt 97 96,qt 101 100,wm 102 4 101 qQ,xp 103 102,qt 104 103,wO 107 1 8 104 106,qL 96 97,wm 108 4 97 qQ,xp 109 108,xA 109 107]))) (xE (xR 111 43 5 110 111) 110 (.reg [wX 112,wX 113,qZ 114 113,xc 115 114,qt 116 115,xU 117,xY 118 1 [xV 117],wq 119 [qw,.nils] [(0,1,qQ),wE 1 118],qH 120 2 [qw,.nils] 1 [wo 0 2 119],wO 121 2 32 116 120,qZ 122 112,xc 123 122,xA 123 121]) (xE (xR 125 43 6 124 125) 124 (.reg [xy 126,xy 127,qZ 128 127,xc 129 128,wb 131,qt 130 129,wi 132 (xz 131 2),qL 129 130,wn 133 .add 130 132,qZ 134 126,xx 135 134,xA 135 133]) (qe (xR 137 43 7 136 137) (qW 136 (qe [wX 138,qZ 139 138,xx 140 139,qt 141 140,wh 142 141,qB 143 .gtr 142 0] (qW 143 (.reg [wX 144,qZ 145 144,xx 146 145,wb 148,xZ 149 1 xu 3 [xe 0 256,xe 1 (-1),(2,1,wJ)],qt 147 146,wD 150 (wQ 148 149),qL 146 147,wm 151 4 147 qQ,qp 152 3 151,xA 152 150]))))))))))))) (qD [we 153 1 3,xA 2 153]))))
def ir:FK:=⟨154,[xC 2 1],(AK.whole ii)⟩
theorem sS:ay Tryz.prog im=some ir:=by kernel_rfl
def fj:FK:=⟨12,xX,x7 (wC 4 (.c wj)) [xB 5,wb 6,xB 7,wh 8 7,wi 9 (wQ 6 8),wt 10 1 5 9,qt 11 10,qf 4 11]⟩
theorem jn:ay Tryz.prog bv=some fj:=by kernel_rfl
def iw:FK:=⟨21,[xC 4 4],xQ [qT 4 [qw,qw,wj,.nils]] [xB 5,wh 6 5,wH 7 6 0,qf 8 7,wY 9 8 0,qN 10 8 (xM (xz 9 3)),x6 11 8 .eql 10 qQ,xT 12 8 11] (ww 12 [wb 13,xY 14 10 [(0,1,qQ),(1,1,wJ),xe 2 2,xe 3 3,xe 4 5,xe 5 7,xe 6 15,xe 7 16,xe 8 100,xe 9 255],wD 15 (wQ 13 14),wq 16 [qw,qw,wj,.nils] [(0,1,wJ),wE 1 15],qS 4 4 16]) [wb 17,xB 18,wU 19 bv 17 18,wq 20 [qw,qw,wj,.nils] [xe 0 2,wE 2 19],qS 4 4 20]⟩
theorem sE:ay Tryz.prog eF=some iw:=by kernel_rfl
def eC:FK:=⟨47,[xC 6 4],qe [qT 6 [qw,qw,wj,.nils]] (qC [qf 8 2,qB 9 .lss 8 2,qf 10 9,wY 11 10 0,qN 12 10 (xM (xz 11 4)),x6 13 10 .eql 12 qQ,xT 14 10 13] (ww 14 [wb 15,xB 16,wU 17 eF 15 16,qS 4 6 17]) (qC [wb 18,wi 19 (xz 18 7),wH 20 19 0] (ww 20 [wb 21,xY 22 3 [xe 0 11,xe 1 12,xe 2 11],wD 23 (wQ 21 22),wb 24,xB 25,qf 26 2,xj 27 26 1,qn 28 be [.t 24,.t 25,.t 27],qH 29 4 [qw,qw,wj,.nils] 1 [wo 0 4 28],wq 30 [qw,qw,wj,.nils] [xV 23,wE 3 29],qS 4 6 30]) (x7 [wb 31,xY 32 9 [xe 0 3,xe 1 3,xe 2 4,xe 3 5,xe 4 6,xe 5 7,xe 6 8,xe 7 9,xe 8 10],wD 33 (wQ 31 32),qf 7 33] [qf 34 7,wb 35,xB 36,qf 37 2,xj 38 37 1,qn 39 be [.t 35,.t 36,.t 38],wb 40,xB 41,qf 42 2,xj 43 42 1,qn 44 be [.t 40,.t 41,.t 43],qH 45 4 [qw,qw,wj,.nils] 2 [wo 0 4 39,wo 4 4 44],wq 46 [qw,qw,wj,.nils] [xV 34,wE 3 45],qS 4 6 46])))⟩
theorem lm:ay Tryz.prog be=some eC:=by kernel_rfl
def gz:FK:=⟨99,[xC 4 4],wd [qT 4 [qw,qw,wj,.nils]] [qc 5 (.c .any),wb 9,qZ 10 9,xc 11 10,wb 13,qZ 14 13,xp 15 14,xB 17,qt 12 11,qt 16 15,qn 18 be [.t 12,.t 16,.t 17],qT 5 [qw,qw,wj,.nils],qS 4 5 18] (qC [wb 19,qZ 20 19,xx 21 20,qt 22 21,wh 23 22,wH 24 23 0,qf 25 24,wY 26 25 0,qN 27 25 (qA 26),xo 28 25 0 27,xl 29 25 28,qN 30 25 (xM (xz 29 4)),x6 31 25 .gtr 30 qQ,xT 32 25 31] (ww 32 [we 33 4 5,qS 4 4 33]) (wd [qc 6 (.c .any),wb 34,qZ 35 34,xx 36 35,wb 38,qZ 39 38,xc 40 39,wb 42,qZ 43 42,xx 44 43,qt 37 36,qt 41 40,qt 45 44,wh 46 45,wi 47 (wQ 41 46),qL 36 37,wt 48 3 37 47,we 49 3 48,qT 6 [wj,.nils,.nils],qS 3 6 49] [xc 50 6,qt 51 50,wq 52 [qw,qw,wj,.nils] [xe 0 13,wE 2 51],qT 7 [qw,qw,wj,.nils],qS 4 7 52] (qC (wZ 8) (xO 0 [qf 53 8,xx 54 6,qt 55 54,wh 56 55,wL 57 53 56] 57 0 1 (.reg [qp 60 3 7,wb 62,qZ 63 62,xc 64 63,wb 66,qZ 67 66,xp 68 67,qt 61 60,qt 65 64,qt 69 68,qn 70 be [.t 65,.t 69,qi 2],qL 60 61,xZ 71 4 [qw,qw,wj,.nils] 1 [wo 0 4 70],wO 72 4 56 61 71,qp 73 3 7,xA 73 72]) (qf 58 8) 59 58 1 8 59) (wK [wb 74,qZ 75 74,xc 76 75,qt 77 76,wi 78 (xz 77 2),wH 79 78 0] (ww 79 [we 80 4 7,qS 4 4 80]) [wb 81,qZ 82 81,xc 83 82,xZ 85 1 xu 4 [xe 0 3,xe 1 4,xe 2 8,xe 3 10],wb 88,qZ 89 88,xc 90 89,wb 92,qZ 93 92,xp 94 93,qt 84 83,we 87 4 7,qt 91 90,qt 95 94,wD 86 (wQ 84 85),qz (some 4) 7 87,qL 90 91,qL 94 95,qn 96 be [.t 91,.t 95,qi 2],qz (some 4) 7 87,qH 97 4 [qw,qw,wj,.nils] 2 [wo 0 4 87,wo 4 4 96],wq 98 [qw,qw,wj,.nils] [xV 86,wE 3 97],qS 4 4 98]))))⟩
theorem mF:ay Tryz.prog dA=some gz:=by kernel_rfl
def fQ:FK:=⟨46,xN,wd (wC 2 (.c wj)) [wb 3,wb 4,qZ 5 4,qp 6 3 5,qt 7 6,wF 8 7 1,qZ 9 3,qp 10 3 9,xA 10 8] (wK [wb 11,qZ 12 11,xc 13 12,qt 14 13,wi 15 (xz 14 9),wH 16 15 0,qf 17 16,xI 18 17 0,qO 19 17 (qA 18),xr 20 17 2 19,xg 21 17 20,qO 22 17 (qV 21),xt 23 17 .gtr 22 qQ,xK 24 17 23 qX] (ww 24 [wb 25,qZ 26 25,xc 27 26,wb 29,qZ 30 29,xp 31 30,qt 28 27,qt 32 31,wU 33 bv 28 32,qf 2 33]) [wb 34,qZ 35 34,qp 36 3 35,wb 39,qZ 40 39,qp 41 3 40,qt 37 36,qB 38 .rem 37 24,qt 42 41,qB 43 .rem 42 24,wF 44 43 1,qb 45 (.slStr (yf [97,98,99,100,101,103,104,105,106,107,108,109,110,112,113,114,115,116,117,118,119,120,121,122]) (some (.t 38)) (some (.t 44))),qf 2 45])⟩
theorem lA:ay Tryz.prog dj=some fQ:=by kernel_rfl
def dX:FK:=⟨24,[xC 4 5],wd [xb 3 4 1,qT 4 [qw,wj,.nils,.nils,.nils]] (xG (wb 6) (xi 7 dj 6) 5 7) (x7 [wb 8,qH 9 1 [wj] 0 [],wb 10,qZ 11 10,xp 12 11,qt 13 12,wO 14 1 16 9 13,wX 15,qH 16 1 [wj] 1 [xV 15],wO 17 1 16 14 16,qZ 18 8,xp 19 18,xA 19 17] [wX 20,we 21 4 3,qH 22 4 [qw,qw,wj,.nils] 1 [wo 0 4 21],wq 23 [qw,wj,.nils,.nils,.nils] [(0,1,wJ),wE 1 20,wE 2 22],qS 5 4 23])⟩
theorem iL:ay Tryz.prog bY=some dX:=by kernel_rfl
def gw:FK:=⟨14,[xC 2 4],x7 [qT 2 [qw,qw,wj,.nils]] [wb 3,wb 5,qZ 6 5,xc 7 6,xZ 9 1 xu 6 [xe 0 16,xe 1 16,xe 2 16,xe 3 8,xe 4 17,(5,1,qQ)],qt 8 7,xS 4 (xz 3 2),qL 7 8,wD 10 (wQ 8 9),wq 11 [qw,qw,wj,.nils] [(0,1,wJ),wE 1 10],qH 12 4 [qw,qw,wj,.nils] 2 [wo 0 4 4,wo 4 4 11],wq 13 [qw,qw,wj,.nils] [xe 0 7,wE 3 12],qS 4 2 13]⟩
theorem mX:ay Tryz.prog cB=some gw:=by kernel_rfl
def dM:AK:=wd (wC 4 xm) [wb 9,wb 10,qZ 11 10,xc 12 11,qt 13 12,xY 14 5 [xe 0 2,xe 1 3,(2,1,wJ),(3,1,qQ),xe 4 5],wD 15 (wQ 13 14),wq 16 [qw,qw,wj,.nils] [(0,1,wJ),wE 1 15],wU 17 bY 9 16,qT 5 [qw,wj,.nils,.nils,.nils],qS 5 5 17] (wd [xx 18 5,qt 19 18,wq 20 [qw,qw,wj,.nils] [xe 0 2,wE 2 19],qT 6 [qw,qw,wj,.nils],qS 4 6 20] [wb 21,xB 22,xj 23 22 1,wU 24 aN 21 23,qf 7 24] (qe [xx 25 5,qt 26 25,we 27 4 6,wq 28 [qw,qw,wj,.nils] [(0,1,wJ),(1,1,wJ)],qH 29 4 [qw,qw,wj,.nils] 2 [wo 0 4 27,wo 4 4 28],wq 30 [qw,qw,wj,.nils] [xe 0 4,wE 3 29],qH 31 4 [qw,qw,wj,.nils] 1 [wo 0 4 30],wq 32 [qw,wj,.nils,.nils,.nils] [xe 0 2,wE 1 26,wE 2 31],qT 8 [qw,wj,.nils,.nils,.nils],qS 5 8 32] (.cut (.reg [wb 33,wb 34,qZ 35 34,qp 36 4 35,qt 37 36,xj 38 37 2,qZ 39 33,qp 40 4 39,xA 40 38]) (qD [qf 44 7,we 41 5 5,we 42 4 6,xZ 43 4 [qw,qw,wj,.nils] 1 [wo 0 4 42],we 45 5 8,xZ 46 5 [qw,wj,.nils,.nils,.nils] 1 [wo 0 5 45],wO 47 5 96 44 46,qz (some 5) 5 41,qz (some 4) 6 42,wq 48 [qw,wj,.nils,.nils,.nils] [xe 0 6,wE 2 43,wE 3 47],qH 49 5 [qw,wj,.nils,.nils,.nils] 2 [wo 0 5 41,wo 5 5 48],qf 4 49]))))
def dE:FK:=⟨50,xX,(AK.whole dM)⟩
theorem nr:ay Tryz.prog dy=some dE:=by kernel_rfl
def gN:FK:=⟨128,xX,wd (wC 4 xm) [wb 7,wb 8,qZ 9 8,qp 10 4 9,qt 11 10,xj 12 11 1,qZ 13 7,qp 14 4 13,xA 14 12] (qe [wb 15,qZ 16 15,xc 17 16,qt 18 17,wi 19 (xz 18 13),qf 5 19] (wa 0 (xE [wX 21,qB 22 .lss 21 3,qf 23 22,xI 24 23 0,qO 25 23 (qA 24),xr 26 23 2 25,xg 27 23 26,qO 28 23 (qV 27),xt 29 23 .gtr 28 qQ,xK 30 23 29 qX,qf 20 30] 20 (qD [wb 31,qZ 32 31,xc 33 32,wb 35,qZ 36 35,xp 37 36,wb 40,qt 34 33,qt 38 37,wU 39 bv 34 38,xS 41 (xz 40 3),qH 42 4 [qw,qw,wj,.nils] 1 [wo 0 4 41],wq 43 [qw,wj,.nils,.nils,.nils] [xe 0 2,wE 1 39,wE 2 42],qH 44 5 [qw,wj,.nils,.nils,.nils] 1 [wo 0 5 43],qf 4 44]) (xE (xG (wX 46) (qB 47 .lss 46 5) 45 47) 45 (qD [wb 48,wb 49,xS 50 (xz 49 3),wU 51 bY 48 50,qH 52 5 [qw,wj,.nils,.nils,.nils] 1 [wo 0 5 51],qf 4 52]) (xE [wX 54,qB 55 .lss 54 7,qf 56 55,wY 57 56 1,x6 58 56 .lss 57 (qi 2),xT 59 56 58,qf 53 59] 53 (qD [wb 60,xS 61 (xz 60 3),qH 62 4 [qw,qw,wj,.nils] 1 [wo 0 4 61],wq 63 [qw,wj,.nils,.nils,.nils] [xe 0 3,wE 2 62],qH 64 5 [qw,wj,.nils,.nils,.nils] 1 [wo 0 5 63],qf 4 64]) (xE (xG (wX 66) (wH 67 66 7) 65 67) 65 (qD [wb 68,xi 69 cB 68,wb 70,xS 71 (xz 70 2),qH 72 4 [qw,qw,wj,.nils] 2 [wo 0 4 69,wo 4 4 71],wq 73 [qw,wj,.nils,.nils,.nils] [xe 0 4,wE 2 72],qH 74 5 [qw,wj,.nils,.nils,.nils] 1 [wo 0 5 73],qf 4 74]) (xE (xG (wX 76) (wH 77 76 8) 75 77) 75 (qD [wb 78,xi 79 cB 78,qH 80 4 [qw,qw,wj,.nils] 1 [wo 0 4 79],wq 81 [qw,qw,wj,.nils] [xe 0 12,wE 3 80],qH 82 4 [qw,qw,wj,.nils] 1 [wo 0 4 81],wq 83 [qw,wj,.nils,.nils,.nils] [xe 0 3,wE 2 82],qH 84 5 [qw,wj,.nils,.nils,.nils] 1 [wo 0 5 83],qf 4 84]) (xE (xG (wX 86) (qB 87 .lss 86 11) 85 87) 85 (xQ [wb 88,xS 89 (xz 88 3),qH 90 4 [qw,qw,wj,.nils] 1 [wo 0 4 89],wb 91,xB 92,xj 93 92 1,wU 94 aN 91 93,wq 95 [qw,wj,.nils,.nils,.nils] [xe 0 5,wE 2 90,wE 3 94],qT 6 [qw,wj,.nils,.nils,.nils],qS 5 6 95] [wb 96,qZ 97 96,xc 98 97,qt 99 98,wi 100 (xz 99 2),wH 101 100 0] (qW 101 (.reg [wb 102,xB 103,xj 104 103 1,wU 105 aN 102 104,qp 106 4 6,xA 106 105])) (xG (we 107 5 6) (qH 108 5 [qw,wj,.nils,.nils,.nils] 1 [wo 0 5 107]) 4 108)) (qe [wX 110,wH 111 110 11,qf 112 111,xI 113 112 0,qO 114 112 (qA 113),xr 115 112 0 114,xg 116 112 115,qO 117 112 (xM (xz 116 3)),xt 118 112 .eql 117 qQ,xK 119 112 118 qX,qf 109 119] (ww 109 [wb 120,xS 121 (xz 120 2),qH 122 4 [qw,qw,wj,.nils] 1 [wo 0 4 121],wq 123 [qw,wj,.nils,.nils,.nils] [xe 0 7,wE 2 122],qH 124 5 [qw,wj,.nils,.nils,.nils] 1 [wo 0 5 123],qf 4 124])))))))) (qD [wb 125,xB 126,wU 127 dy 125 126,qf 4 127])))⟩
theorem ma:ay Tryz.prog dJ=some gN:=by kernel_rfl
def fJ:FK:=⟨40,xX,wd (wC 4 xm) [wb 8,qZ 9 8,xp 10 9,qt 11 10,qf 5 11] (qe (xF (qH 12 5 [qw,wj,.nils,.nils,.nils] 0 []) 6 12) (qC [wb 13,qZ 14 13,xc 15 14,qt 16 15,xY 17 4 [xe 0 2,xe 1 3,(2,1,wJ),xe 3 4],wD 18 (wQ 16 17),qf 7 18] (xH 0 [qf 19 7,qB 20 .gtr 19 0,qf 21 20,xI 22 21 0,qO 23 21 (qA 22),xr 24 21 4 23,xg 25 21 24,xt 26 21 .gtr 25 qQ,xK 27 21 26 qX] 27 0 1 (.reg [xU 30,wb 31,xB 32,wU 33 dJ 31 32,wO 34 5 96 30 33,qf 6 34]) (qf 28 7) (xj 29 28 1) 7 29) (x7 [wb 35,wX 36,qZ 37 35,xp 38 37,xA 38 36] (xF (xU 39) 4 39))))⟩
theorem lX:ay Tryz.prog aN=some fJ:=by kernel_rfl
def fh:AK:=wd [qT 6 [wj,.nils,.nils]] [wb 8,qH 9 1 [wj] 3 [(0,1,yf [97]),(1,1,yf [98]),(2,1,yf [99])],qf 10 2,qb 11 (.slS 1 (.t 9) none (some (.t 10))),qZ 12 8,xp 13 12,xA 13 11] (qe [wb 14,qf 15 2,xj 16 15 1,qZ 17 14,qp 18 3 17,xA 18 16] (.cut (.reg [xB 19,qH 20 1 [wj] 0 [],wb 21,qZ 22 21,xp 23 22,qt 24 23,wO 25 1 16 20 24,wq 26 [wj,.nils,.nils] [xV 19,wE 1 25],qT 7 [wj,.nils,.nils],qS 3 7 26]) (xQ [wb 27,qn 28 aN (xz 27 3),xp 29 7,xA 29 28] [wb 30,qZ 31 30,qp 32 4 31,qt 33 32,qB 34 .gtr 33 0,qf 35 34,xI 36 35 0,qO 37 35 (qA 36),xr 38 35 0 37,xg 39 35 38,qO 40 35 (xM (xz 39 4)),xt 41 35 .gtr 40 qQ,xK 42 35 41 qX] (qW 42 (qe [wb 43,wb 44,qZ 45 44,qp 46 4 45,qt 47 46,xj 48 47 1,qZ 49 43,qp 50 4 49,xA 50 48] (.reg [xp 51 7,wb 53,qt 52 51,xS 54 (xz 53 2),qL 51 52,xZ 55 4 [qw,qw,wj,.nils] 1 [wo 0 4 54],wq 56 [qw,wj,.nils,.nils,.nils] [xe 0 7,wE 2 55],xZ 57 5 [qw,wj,.nils,.nils,.nils] 1 [wo 0 5 56],wO 58 5 96 52 57,xp 59 7,xA 59 58]))) [we 60 3 7,qS 3 6 60])))
def fg:FK:=⟨61,[xC 6 3],(AK.whole fh)⟩
theorem oL:ay Tryz.prog dd=some fg:=by kernel_rfl
def jW:FK:=⟨18,xX,xQ (wZ 4) (wZ 5) (xO 0 [wX 6,wb 7,qb 8 (.len true (.t 7)),wL 9 6 8] 9 0 1 (qe [wb 12,wX 13,qb 14 (.idxStr (.t 12) (.t 13)),xB 15,wn 16 .eql 14 15] (ww 16 (xF (wX 17) 4 17))) (wX 10) 11 10 1 5 11) (wC 4 (qi (-1)))⟩
theorem pS:ay Tryz.prog fG=some jW:=by kernel_rfl
def jG:FK:=⟨28,xN,qe (wZ 2) (wa 0 (xE [wb 4,qx 5 .geq 4 (.c (qd .u8 97)),wX 6,xI 7 6 0,xt 8 6 .leq 7 (.c (qd .u8 122)),xK 9 6 8 qX,qf 3 9] 3 (qD (wC 2 wJ)) (xE [wb 11,qx 12 .geq 11 (.c (qd .u8 48)),qf 13 12,xI 14 13 0,xt 15 13 .leq 14 (.c (qd .u8 57)),xK 16 13 15 qX,qf 10 16] 10 (qD (wC 2 (qi 2))) (xE [wb 18,qn 19 fG [yf [40,41,123,125,59,44,43,45,42,47,37,60,61,38,33,64],.t 18],qB 20 .geq 19 0,qf 17 20] 17 (qD (wC 2 (qi 3))) (qe [wb 22,qx 23 .eql 22 (.c (qd .u8 32)),qf 24 23,wY 25 24 0,x6 26 24 .eql 25 (.c (qd .u8 10)),xT 27 24 26,qf 21 27] (wR 21 2 (qi 4)))))) (qD (wZ 2)))⟩
theorem rc:ay Tryz.prog gn=some jG:=by kernel_rfl
def mJ:FK:=⟨21,xX,xQ (wC 4 qX) (wZ 5) (xO 0 [wX 6,wb 7,qb 8 (.len true (.t 7)),wL 9 6 8] 9 0 1 (qe [wb 12,wX 13,qb 14 (.idxStr (.t 12) (.t 13)),xi 15 gn 14,xB 16,wn 17 .neq 15 16] (x8 17 4)) (wX 10) 11 10 1 5 11) [wb 18,qb 19 (.len true (.t 18)),qB 20 .gtr 19 0,qf 4 20]⟩
theorem tR:ay Tryz.prog iZ=some mJ:=by kernel_rfl
def jm:FK:=⟨2,xD 0,x7 (wC 0 xm) [qH 1 1 [wj] 9 [(0,1,yf [102,110]),(1,1,yf [108,101,116]),(2,1,yf [115,97,121]),(3,1,yf [112,117,116]),(4,1,yf [105,102]),(5,1,yf [101,108,115,101]),(6,1,yf [108,111,111,112]),(7,1,yf [98,97,99,107]),(8,1,yf [100,111])],xB 0]⟩
theorem oU:ay Tryz.prog dc=some jm:=by kernel_rfl
def mR:FK:=⟨18,xN,wd (wC 2 qX) [qn 5 dc [],wX 3] (wK (wZ 4) (xO 0 [xy 6,qf 7 3,wh 8 7,wL 9 6 8] 9 0 1 (qe [qf 12 3,xy 13,wt 14 1 12 13,qt 15 14,wb 16,qb 17 (.bins .eql (.t 15) (.t 16))] (wR 17 2 wG)) (xy 10) 11 10 1 4 11) (wC 2 qX))⟩
theorem ui:ay Tryz.prog iX=some mR:=by kernel_rfl
def ln:FK:=⟨15,xN,x7 (wC 2 qX) [wb 3,qn 4 iZ (wP 3 wJ),xy 5,xI 6 5 0,qO 7 5 (.len true (.t 6)),xt 8 5 .leq 7 (qi 4),xK 9 5 8 qX,qf 10 9,xI 11 10 0,qO 12 10 (.call iX (xh 11)),qO 13 10 (wB 12),xK 14 10 13 qX,qf 2 14]⟩
theorem sA:ay Tryz.prog bC=some ln:=by kernel_rfl
def io:FK:=⟨5,xN,xQ (wZ 2) [wb 3,wH 4 3 4] (wR 4 2 (qi 2)) (wC 2 wJ)⟩
theorem sN:ay Tryz.prog eG=some io:=by kernel_rfl
def bS:FK:=⟨13,[.t 2,.t 3],xQ [qc 2 qQ,qc 3 qQ] [wb 4] (.blk 0 (qC (xR 6 4 1 5 6) (qu 5 .skip (.reg (xR 7 4 2 5 7))) (qu 5 (qD [qc 2 qQ,qc 3 qQ]) (qC (xR 9 4 11 8 9) (qu 8 .skip (.reg (xR 10 4 12 8 10))) (qu 8 (qD [qc 2 wJ,qc 3 wJ]) (qe (xR 12 4 13 11 12) (ww 11 [qc 2 qQ,qc 3 (qi 3)]))))))) [qc 2 (qi 2),qc 3 (qi 2)]⟩
theorem sC:ay Tryz.prog eQ=some bS:=by kernel_rfl
def eH:FK:=⟨86,xX,wd [xb 2 4 0,qc 4 qX] [xc 10 2,qt 11 10,xi 12 eQ 11,qf 9 12,qb 13 (.ext 0 (.t 9)),qb 14 (.ext 1 (.t 9)),qf 5 13,qf 6 14] (qC [xB 15,qB 16 .lss 15 1,qf 17 16,xo 18 17 0 2,xl 19 17 18,qN 20 17 (xf [.t 19,wJ,qi 13]),qN 21 17 (wB 20),xT 22 17 21,qf 23 22,xo 24 23 3 2,xl 25 23 24,qN 26 23 (qV 25),wY 27 23 5,wY 28 23 6,qN 29 23 (xf [.t 26,.t 27,.t 28]),qN 30 23 (wB 29),xT 31 23 30] (x8 31 4) (qe [xc 32 2,qt 33 32,wH 34 33 2,qf 35 34,xo 36 35 0 2,xl 37 35 36,x6 38 35 .eql 37 (qi 13),xT 39 35 38,qf 7 39] (qC [qf 40 7,xp 41 2,qt 42 41,xi 43 bC 42,qb 44 (.beq true (.t 40) (.t 43)),qf 45 44,wY 46 45 7,qN 47 45 (wB 46),wY 48 45 47,xr 49 48 2 2,xg 50 48 49,qO 51 48 (.bins .neq (.t 50) (.c wj)),qN 52 45 (qP 48 (.t 51) qX),xT 53 45 52,qf 54 53,xo 55 54 1 2,xl 56 54 55,qN 57 54 (xf [.t 56,qQ,qi 255]),qN 58 54 (wB 57),xT 59 54 58,qf 60 59,xo 61 60 0 2,xl 62 60 61,x6 63 60 .neq 62 wJ,wY 64 60 63,xr 65 64 1 2,xg 66 64 65,xt 67 64 .neq 66 qQ,qN 68 60 (qP 64 (.t 67) qX),xT 69 60 68] (x8 69 4) (wK (wZ 8) (xO 0 [qf 70 8,qp 71 3 2,qt 72 71,wh 73 72,wL 74 70 73] 74 0 1 (qe [qp 77 3 2,qt 78 77,qf 79 8,wt 80 4 78 79,we 81 4 80,xB 82,xj 83 82 1,wU 84 db 81 83,xP 85 84] (x8 85 4)) (qf 75 8) 76 75 1 8 76) (wC 4 wG)))))⟩
theorem kV:ay Tryz.prog db=some eH:=by kernel_rfl
def jM:FK:=⟨21,xN,wd [xb 1 4 0,qc 2 qQ] (wC 3 wJ) (wK (wZ 4) (xO 0 [xy 5,qp 6 3 1,qt 7 6,wh 8 7,wL 9 5 8] 9 0 1 (.reg [qf 12 3,qp 13 3 1,qt 14 13,xy 15,wt 16 4 14 15,we 17 4 16,xi 18 dQ 17,wn 19 .add 12 18,qf 3 19]) (xy 10) 11 10 1 4 11) (xF (qf 20 3) 2 20))⟩
theorem ry:ay Tryz.prog dQ=some jM:=by kernel_rfl
def iU:FK:=⟨10,xN,x7 [xb 1 4 0,qc 2 qX] [we 3 4 1,qn 4 db (xz 3 6),xy 5,qO 6 5 (qj (some 4) 1),qO 7 5 (.call dQ (xh 6)),xt 8 5 .leq 7 (qi 30),xK 9 5 8 qX,qf 2 9]⟩
theorem nN:ay Tryz.prog cS=some iU:=by kernel_rfl
def eN:FK:=⟨108,xX,qe [xb 2 5 0,qc 4 qX] (qC [xB 7,qB 8 .lss 7 1,qf 9 8,xo 10 9 0 2,xl 11 9 10,qN 12 9 (xf [.t 11,wJ,qi 8]),qN 13 9 (wB 12),xT 14 9 13,qf 15 14,xo 16 15 2 2,xo 19 15 0 2,xl 17 15 16,qN 18 15 (qV 17),xl 20 15 19,qN 21 15 (.qcall eG (xh 20)),x6 22 15 .neq 18 (.t 21),xT 23 15 22] (x8 23 4) (qe [xc 24 2,qt 25 24,wH 26 25 1,qf 27 26,xo 28 27 0 2,xl 29 27 28,x6 30 27 .eql 29 (qi 2),xT 31 27 30,qf 5 31] (qC [wX 32,xx 33 2,qt 34 33,xi 35 bC 34,qb 36 (.beq true (.t 32) (.t 35)),qf 37 36,wY 38 37 5,qN 39 37 (wB 38),wY 40 37 39,xr 41 40 1 2,xg 42 40 41,qO 43 40 (.bins .neq (.t 42) (.c wj)),qN 44 37 (qP 40 (.t 43) qX),xT 45 37 44] (x8 45 4) (qC (wZ 6) (xO 0 [xU 46,xp 47 2,qt 48 47,wh 49 48,wL 50 46 49] 50 0 1 (qe [xp 53 2,qt 54 53,xU 55,wt 56 4 54 55,we 57 4 56,xi 58 cS 57,xP 59 58] (x8 59 4)) (xU 51) 52 51 1 6 52) (qC [xc 60 2,qt 61 60,wH 62 61 8,qf 63 62,xr 64 63 2 2,xg 65 63 64,qO 66 63 (qI 4 65 qQ),xr 67 63 0 66,xg 68 63 67,xt 69 63 .neq 68 (qi 13),xK 70 63 69 qX] (x8 70 4) (wK [qp 71 4 2,qt 72 71,wh 73 72,qB 74 .gtr 73 0,qf 75 74,xr 76 75 0 2,xg 77 75 76,xt 78 75 .neq 77 (qi 5),xK 79 75 78 qX,qf 80 79,xo 81 80 3 2,xl 82 80 81,qN 83 80 (qV 82),x6 84 80 .gtr 83 qQ,wY 85 80 84,xr 86 85 0 2,xg 87 85 86,xt 88 85 .neq 87 (qi 5),qN 89 80 (qP 85 (.t 88) qX),wY 90 80 89,xr 91 90 0 2,xg 92 90 91,xt 93 90 .neq 92 (qi 6),qN 94 80 (qP 90 (.t 93) qX),xT 95 80 94] (x8 95 4) [qp 96 3 2,qt 97 96,xB 98,xj 99 98 1,wU 100 bn 97 99,qf 101 100,xr 102 101 4 2,xg 103 101 102,xI 104 101 1,xt 105 101 .sub 104 wJ,qO 106 101 (.call bn (wQ 103 105)),xK 107 101 106 qX,qf 4 107]))))))⟩
theorem lh:ay Tryz.prog eE=some eN:=by kernel_rfl
def jZ:FK:=⟨19,xX,xQ (wC 4 qX) (wZ 5) (xO 0 [wX 6,wb 7,wh 8 7,wL 9 6 8] 9 0 1 (qe [wb 12,wX 13,wt 14 5 12 13,we 15 5 14,xB 16,wU 17 eE 15 16,xP 18 17] (x8 18 4)) (wX 10) 11 10 1 5 11) (wC 4 wG)⟩
theorem py:ay Tryz.prog bn=some jZ:=by kernel_rfl
def oD:FK:=⟨32,xN,xQ [xb 1 3 0,qc 2 qX] (wZ 3) (xO 0 [qf 4 3,xx 5 1,qt 6 5,wh 7 6,wL 8 4 7] 8 0 1 (qe [xx 11 1,qt 12 11,qf 13 3,wt 14 1 12 13,qt 15 14,xi 16 bC 15,xP 17 16] (x8 17 2)) (qf 9 3) 10 9 1 3 10) [xc 18 1,qt 19 18,xi 20 bC 19,qf 21 20,xr 22 21 1 1,xg 23 21 22,qO 24 21 (qV 23),xt 25 21 .leq 24 (qi 3),xK 26 21 25 qX,qf 27 26,xr 28 27 2 1,xg 29 27 28,qO 30 27 (.call bn (xz 29 4)),xK 31 27 30 qX,qf 2 31]⟩
theorem vo:ay Tryz.prog jX=some oD:=by kernel_rfl
def gf:FK:=⟨29,xN,wd (wZ 2) (xG (wb 5) (wh 6 5) 3 6) (wK (wZ 4) (xO 0 [xy 7,wb 8,wh 9 8,wL 10 7 9] 10 0 1 (.reg [qf 13 3,wb 14,xy 15,wt 16 5 14 15,qp 17 3 16,wb 21,xy 22,wt 23 5 21 22,qp 24 4 23,qt 18 17,qt 25 24,xi 19 cD 18,qL 24 25,wn 20 .add 13 19,xi 26 cD 25,wn 27 .add 20 26,qf 3 27]) (xy 11) 12 11 1 4 12) (xF (qf 28 3) 2 28))⟩
theorem jH:ay Tryz.prog cD=some gf:=by kernel_rfl
def mP:FK:=⟨22,xN,wd [xb 1 1 0,qc 2 qQ] (wZ 3) (wK (wZ 4) (xO 0 [xy 5,xc 6 1,qt 7 6,wh 8 7,wL 9 5 8] 9 0 1 (.reg [qf 12 3,xc 13 1,qt 14 13,xy 15,wt 16 3 14 15,xp 17 16,qt 18 17,xi 19 cD 18,wn 20 .add 12 19,qf 3 20]) (xy 10) 11 10 1 4 11) (xF (qf 21 3) 2 21))⟩
theorem ul:ay Tryz.prog jb=some mP:=by kernel_rfl
def fk:FK:=⟨26,xN,qe [xb 1 1 0,qc 2 qX] (qC [xc 4 1,qt 5 4,wh 6 5,xW 7 [.t 6,wJ,qi 4],xP 8 7] (x8 8 2) (wK (wZ 3) (xO 0 [qf 9 3,xc 10 1,qt 11 10,wh 12 11,wL 13 9 12] 13 0 1 (qe [xc 16 1,qt 17 16,qf 18 3,wt 19 3 17 18,we 20 3 19,xi 21 jX 20,xP 22 21] (x8 22 2)) (qf 14 3) 15 14 1 3 15) [we 23 1 1,xi 24 jb 23,qB 25 .leq 24 40,qf 2 25]))⟩
theorem kP:ay Tryz.prog cV=some fk:=by kernel_rfl
def lg:FK:=⟨69,[xC 2 1],wd [qT 2 x4] [wb 8,wb 9,xY 10 4 [xe 0 14,xe 1 20,xe 2 8,xe 3 26],wD 11 (wQ 9 10),wq 12 [.nilp,.nils,.nils,qw,qw] [xV 8,wE 4 11],xb 13 5 12,qf 3 13] (qC [wb 14,xY 15 4 [(0,1,qQ),(1,1,wJ),(2,1,wJ),xe 3 2],wD 16 (wQ 14 15),qf 4 16] (xH 0 [xy 17,qB 18 .gtr 17 0] 18 0 1 (qe [qc 5 (.c .any),qf 21 3,xZ 22 1 [wj] 3 [(0,1,yf [102]),(1,1,yf [103]),(2,1,yf [104])],qf 23 3,qZ 24 23,xx 25 24,wb 30,qt 26 25,wh 27 26,wt 28 1 22 27,qt 29 28,wi 31 (xz 30 3),qL 25 26,qL 28 29,qn 32 dd [.t 21,.t 29,.t 31],qT 5 [wj,.nils,.nils],qS 3 5 32] (.reg [qf 33 3,qf 34 3,qZ 35 34,xx 36 35,qt 37 36,we 38 3 5,xZ 39 3 [wj,.nils,.nils] 1 [wo 0 3 38],wO 40 3 64 37 39,qZ 41 33,xx 42 41,xA 42 40])) (xy 19) (xj 20 19 1) 4 20) (wd [qf 43 3,wb 44,xY 45 4 [(0,1,qQ),(1,1,wJ),xe 2 2,(3,1,wJ)],wD 46 (wQ 44 45),qn 47 dd [.t 43,yf [109],.t 46],qT 6 [wj,.nils,.nils],qS 3 6 47] [qc 7 (.c .any),qf 49 3,qZ 50 49,xx 51 50,qt 52 51,we 54 3 6,xZ 55 3 [wj,.nils,.nils] 1 [wo 0 3 54],qH 48 3 [wj,.nils,.nils] 0 [],qL 51 52,qz (some 3) 6 54,wO 53 3 64 48 52,qz (some 3) 6 54,wO 56 3 64 53 55,wq 57 x4 [xV 56],qT 7 x4,xA 7 57] (wK [we 58 1 7,xi 59 cV 58,xP 60 59] (ww 60 [wq 61 [qw,qw,wj,.nils] [(0,1,wJ),(1,1,wJ)],qH 62 4 [qw,qw,wj,.nils] 1 [wo 0 4 61],wq 63 [qw,wj,.nils,.nils,.nils] [xe 0 3,wE 2 62],qH 64 5 [qw,wj,.nils,.nils,.nils] 1 [wo 0 5 63],wq 65 [wj,.nils,.nils] [(0,1,yf [109]),wE 2 64],qH 66 3 [wj,.nils,.nils] 1 [wo 0 3 65],wq 67 x4 [xV 66],xA 2 67]) [we 68 1 7,xA 2 68])))⟩
theorem sL:ay Tryz.prog eL=some lg:=by kernel_rfl
def ka:FK:=⟨4,xN,xQ (wZ 2) [wb 3] (wR 3 2 wJ) (wZ 2)⟩
theorem pF:ay Tryz.prog fY=some ka:=by kernel_rfl
def ip:FK:=⟨35,xN,wd (wZ 2) (wZ 3) (wK (wZ 4) (xO 0 [xy 5,wb 6,wh 7 6,wL 8 5 7] 8 0 1 (.reg [qf 11 3,wb 12,xy 13,wt 14 5 12 13,xc 15 14,wb 20,xy 21,wt 22 5 20 21,qp 23 3 22,wb 27,xy 28,wt 29 5 27 28,qp 30 4 29,qt 16 15,wH 17 16 1,qt 24 23,qt 31 30,xi 18 fY 17,qL 23 24,qL 30 31,wn 19 .add 11 18,xi 25 cY 24,qL 30 31,wn 26 .add 19 25,xi 32 cY 31,wn 33 .add 26 32,qf 3 33]) (xy 9) 10 9 1 4 10) (xF (qf 34 3) 2 34))⟩
theorem lv:ay Tryz.prog cY=some ip:=by kernel_rfl
def dq:FK:=⟨25,xN,wd (wZ 2) [wb 3,wb 4,qZ 5 4,xx 6 5,xp 7 6,qt 8 7,qH 9 2 [qw,.nils] 0 [],qH 10 4 [qw,qw,.nils,qw] 0 [],xY 11 0 [],wq 12 [.nils,.nils,qw,qw,.nils] [xV 9,wE 1 10,wE 4 11],qH 13 5 [.nils,.nils,qw,qw,.nils] 1 [wo 0 5 12],wO 14 5 88 8 13,qZ 15 3,xx 16 15,xp 17 16,xA 17 14] (qD [wb 18,qZ 19 18,xx 20 19,xp 21 20,qt 22 21,wh 23 22,xj 24 23 1,qf 2 24])⟩
theorem gd:ay Tryz.prog bE=some dq:=by kernel_rfl
def gy:FK:=⟨37,[],wd [wb 11,qZ 12 11,xx 13 12,xp 14 13,wb 16,qZ 17 16,qp 18 4 17,qt 15 14,qt 19 18,wt 20 5 15 19,qf 10 20] [qf 21 10,xB 22,qZ 23 21,xp 24 23,xA 24 22] (wd [qf 25 10,qf 26 2,qZ 27 25,qp 28 3 27,xA 28 26] [qf 29 10,qf 30 3,qZ 31 29,qp 32 4 31,xA 32 30] (.reg [wb 33,xy 34,qZ 35 33,qp 36 4 35,xA 36 34]))⟩
theorem nk:ay Tryz.prog bf=some gy:=by kernel_rfl
def fH:FK:=⟨19,xN,wd (wZ 2) [wb 3,wb 4,qZ 5 4,xx 6 5,xx 7 6,qt 8 7,wF 9 8 1,qZ 10 3,xx 11 10,xx 12 11,xA 12 9] (qD [wb 13,qZ 14 13,xx 15 14,xx 16 15,qt 17 16,xj 18 17 1,qf 2 18])⟩
theorem lz:ay Tryz.prog bl=some fH:=by kernel_rfl
def en:FK:=⟨37,xD 10,wd (wZ 10) [wb 12,qZ 13 12,xx 14 13,xp 15 14,wb 17,qZ 18 17,qp 19 4 18,qt 16 15,qt 20 19,wt 21 5 16 20,qf 11 21] (x7 [qf 22 11,qf 23 11,qZ 24 23,xx 25 24,qt 26 25,xB 27,qf 28 2,xy 29,qf 30 3,wq 31 [qw,qw,.nils,qw] [xV 27,wE 1 28,wE 2 29,wE 3 30],qH 32 4 [qw,qw,.nils,qw] 1 [wo 0 4 31],wO 33 4 48 26 32,qZ 34 22,xx 35 34,xA 35 33] (xF (qf 36 2) 10 36))⟩
theorem nO:ay Tryz.prog bD=some en:=by kernel_rfl
def er:FK:=⟨34,xX,xQ (wZ 4) [wb 6,qZ 7 6,qp 8 5 7,qt 9 8,wh 10 9,xj 11 10 1,qf 5 11] (xH 0 [wX 12,qB 13 .geq 12 0] 13 0 1 (qe [wb 16,qZ 17 16,qp 18 5 17,qt 19 18,wX 20,wt 21 3 19 20,xc 22 21,qt 23 22,xB 24,qb 25 (.bins .eql (.t 23) (.t 24))] (ww 25 [wb 26,qZ 27 26,qp 28 5 27,qt 29 28,wX 30,wt 31 3 29 30,xx 32 31,qt 33 32,qf 4 33])) (wX 14) (xj 15 14 1) 5 15) (wC 4 (qi (-1)))⟩
theorem nS:ay Tryz.prog cR=some er:=by kernel_rfl
def iS:FK:=⟨56,xX,wd [xb 3 4 1,qc 4 qQ] [wb 11,qp 12 3 3,qt 13 12,wm 14 4 13 qQ,we 15 4 14,wU 16 aU 11 15,qf 5 16] (wd [wb 17,wb 18,xL 19 18,xY 20 0 [],wV 21 [.t 17,wJ,.t 19,qQ,.t 20],qf 6 21] (xG (wb 22) (xk 23 22) 7 23) (wd (xG (wb 24) (xk 25 24) 8 25) [wb 26,wX 27,qf 28 7,qf 29 8,xY 30 2 [xV 28,wE 1 29],qf 31 7,xq 32 [.t 26,qi 2,.t 27,.t 30,.t 31]] (wd [wb 33,qp 34 3 3,qt 35 34,wm 36 4 35 wJ,we 37 4 36,wU 38 aU 33 37,qf 9 38] [wb 39,wb 40,xL 41 40,qf 42 9,xY 43 1 [xV 42],wV 44 [.t 39,qi 10,.t 41,qQ,.t 43],qf 10 44] (wd [wb 45,xU 46,qf 47 10,xY 48 1 [xV 47],wV 49 [.t 45,qi 10,.t 46,qQ,.t 48]] [wb 50,qf 51 8,xY 52 1 [xV 51],qf 53 8,xq 54 [.t 50,wJ,qQ,.t 52,.t 53]] (qD (xF (xU 55) 4 55))))))⟩
theorem nL:ay Tryz.prog ey=some iS:=by kernel_rfl
def oF:FK:=⟨22,xX,xQ [xb 2 1 0,qc 4 qQ] (wZ 5) (xO 0 [wX 6,xc 7 2,qt 8 7,wh 9 8,wL 10 6 9] 10 0 1 (qe [xc 13 2,qt 14 13,wX 15,wt 16 3 14 15,xc 17 16,qt 18 17,xB 19,qb 20 (.bins .eql (.t 18) (.t 19))] (ww 20 (xF (wX 21) 4 21))) (wX 11) 12 11 1 5 12) (wC 4 (qi (-1)))⟩
theorem uH:ay Tryz.prog jU=some oF:=by kernel_rfl
def bQ:FK:=⟨84,xX,qe [xb 3 4 1,qc 4 qQ] (qC [xc 7 3,qt 8 7] (.blk 0 (xE (xR 10 8 1 9 10) 9 (qD [wb 11,wb 12,xx 14 3,xZ 16 1 xu 0 [],qt 15 14,xL 13 12,qL 14 15,wV 17 [.t 11,wJ,.t 13,.t 15,.t 16],qf 4 17]) (xE (xR 19 8 2 18 19) 18 (qD [wb 20,xp 21 3,qt 22 21,wU 23 cR 20 22,qf 4 23]) (qe (xR 25 8 10 24 25) (ww 24 [wb 26,we 27 4 3,wU 28 ey 26 27,qf 4 28]))))) (qe (xF (xY 29 0 []) 5 29) (qC (wZ 6) (xO 1 [xU 30,qp 31 3 3,qt 32 31,wh 33 32,wL 34 30 33] 34 1 2 (.reg [wX 37,wb 38,qp 39 3 3,qt 40 39,xU 41,wt 42 4 40 41,we 43 4 42,wU 44 aU 38 43,xY 45 1 [xV 44],wO 46 1 8 37 45,qf 5 46]) (xU 35) 36 35 1 6 36) (wK [xc 47 3,qt 48 47] (.blk 3 (xE (xR 50 48 11 49 50) 49 (qD [wb 51,wb 52,xL 53 52,wX 54,wV 55 [.t 51,qi 10,.t 53,qQ,.t 54],qf 4 55]) (xE (xR 57 48 12 56 57) 56 (qD [wb 58,wb 59,xL 60 59,wX 61,wV 62 [.t 58,qi 11,.t 60,qQ,.t 61],qf 4 62]) (qe (xR 64 48 13 63 64) (ww 63 [wb 65,wb 66,wb 68,qZ 69 68,xc 70 69,xp 72 3,wX 75,we 71 1 70,qt 73 72,xL 67 66,qz (some 1) 70 71,qL 72 73,wU 74 jU 71 73,wV 76 [.t 65,qi 14,.t 67,.t 74,.t 75],qf 4 76]))))) [wb 77,xc 78 3,wb 80,wX 82,qt 79 78,xL 81 80,qL 78 79,wV 83 [.t 77,.t 79,.t 81,qQ,.t 82],qf 4 83]))))⟩
theorem ml:ay Tryz.prog aU=some bQ:=by kernel_rfl
def gM:FK:=⟨41,[],wd [xb 3 5 1] (xG (wb 8) (xk 9 8) 4 9) (wd (xG (wb 10) (xk 11 10) 5 11) (xG (wb 12) (xk 13 12) 6 13) (wd [wb 14,xy 15,xY 16 1 [xV 15],xy 17,xq 18 [.t 14,wJ,qQ,.t 16,.t 17]] [wb 19,xp 20 3,qt 21 20,wm 22 4 21 qQ,we 23 4 22,wU 24 aU 19 23,qf 7 24] (wd [wb 25,qf 26 7,wX 27,xU 28,xY 29 2 [xV 27,wE 1 28],wX 30,xq 31 [.t 25,qi 2,.t 26,.t 29,.t 30]] [wb 32,qp 33 3 3,qt 34 33,wU 35 aW 32 34] (.reg [wb 36,xy 37,xY 38 1 [xV 37],xU 39,xq 40 [.t 36,wJ,qQ,.t 38,.t 39]]))))⟩
theorem mA:ay Tryz.prog dT=some gM:=by kernel_rfl
def dI:FK:=⟨132,[],qe [xb 3 5 1] (qC [xc 9 3,qt 10 9,wH 11 10 6] (ww 11 [wb 12,we 13 5 3,wU 14 dT 12 13]) (qe (xF (xY 15 0 []) 4 15) (qC (wZ 5) (xO 0 [wX 16,xp 17 3,qt 18 17,wh 19 18,wL 20 16 19] 20 0 1 (.reg [xy 23,wb 24,xp 25 3,qt 26 25,wX 27,wt 28 4 26 27,we 29 4 28,wU 30 aU 24 29,xY 31 1 [xV 30],wO 32 1 8 23 31,qf 4 32]) (wX 21) 22 21 1 5 22) (qe [xc 33 3,qt 34 33] (.blk 2 (xE (xR 36 34 1 35 36) 35 (wd [wb 37,wb 38,qZ 39 38,qp 40 6 39,qt 41 40,xy 42,wV 43 [.t 37,qi 2,.t 41,qQ,.t 42]] [wb 44,wb 45,qZ 46 45,qp 47 5 46,xx 49 3,wb 51,qZ 52 51,qp 53 6 52,qt 48 47,qt 50 49,qt 54 53,wq 55 [wj,qw,qw] [xV 50,wE 1 54,(2,1,qQ)],xZ 56 3 [wj,qw,qw] 1 [wo 0 3 55],wO 57 3 32 48 56,qZ 58 44,qp 59 5 58,xA 59 57] (.reg [wb 60,wb 61,qZ 62 61,qp 63 6 62,qt 64 63,wF 65 64 1,qZ 66 60,qp 67 6 66,xA 67 65])) (xE (xR 69 34 2 68 69) 68 (.reg [wb 70,wb 71,xx 72 3,qt 73 72,wU 74 cR 71 73,xy 75,wV 76 [.t 70,qi 2,.t 74,qQ,.t 75]]) (xE (xR 78 34 3 77 78) 77 (.reg [wb 79,xy 80,wV 81 [.t 79,qi 13,qi (-1),qQ,.t 80]]) (xE (xR 83 34 4 82 83) 82 (.reg [wb 84,xy 85,wV 86 [.t 84,qi 12,qi (-1),qQ,.t 85]]) (xE (xR 88 34 7 87 88) 87 (.reg [wb 89,xy 90,wm 91 1 90 qQ,xZ 93 1 xu 0 [],wb 94,qt 92 91,xk 95 94,qL 91 92,xq 96 [.t 89,qi 3,.t 92,.t 93,.t 95]]) (qe (xR 98 34 5 97 98) (qW 97 (wd (xG (wb 99) (xk 100 99) 6 100) (xG (wb 101) (xk 102 101) 7 102) (wd (xG (wb 103) (xk 104 103) 8 104) [wb 105,xy 106,wm 107 1 106 qQ,qt 108 107,xU 109,qf 110 7,xY 111 2 [xV 109,wE 1 110],xU 112,xq 113 [.t 105,qi 2,.t 108,.t 111,.t 112]] (wd [wb 114,qp 115 3 3,qt 116 115,wU 117 aW 114 116] [wb 118,qf 119 8,xY 120 1 [xV 119],qf 121 7,xq 122 [.t 118,wJ,qQ,.t 120,.t 121]] (qe [wb 123,qp 124 4 3,qt 125 124,wU 126 aW 123 125] (.reg [wb 127,qf 128 8,xY 129 1 [xV 128],qf 130 8,xq 131 [.t 127,wJ,qQ,.t 129,.t 130]])))))))))))))))))⟩
theorem mG:ay Tryz.prog dN=some dI:=by kernel_rfl
def du:FK:=⟨32,[],qe [wb 6,qZ 7 6,qp 8 5 7,qt 9 8,wh 10 9,qf 4 10] (qC (wZ 5) (xO 0 [wX 11,xB 12,wh 13 12,wL 14 11 13] 14 0 1 (.reg [wb 17,xB 18,wX 19,wt 20 5 18 19,we 21 5 20,wU 22 dN 17 21]) (wX 15) 16 15 1 5 16) (.reg [wb 23,wb 24,qZ 25 24,qp 26 5 25,qt 27 26,xy 28,qb 29 (.slS 3 (.t 27) none (some (.t 28))),qZ 30 23,qp 31 5 30,xA 31 29]))⟩
theorem lP:ay Tryz.prog aW=some du:=by kernel_rfl
def oE:FK:=⟨80,[xC 4 3],wd [xb 2 1 0,qT 4 [qw,qw,.nils]] [xc 9 2,qt 10 9,xB 11,wt 12 3 10 11,we 13 3 12,qT 5 [wj,.nils,.nils],qS 3 5 13] (wd [we 14 1 2,xx 15 5,qt 16 15,wh 17 16,wq 18 [.nils,qw,qw,.nils,qw,.nils,qw,.nils] [xV 14,wE 6 17],xb 19 8 18,qf 6 19] [xU 20,xx 21 5,qt 22 21,wh 23 22,qZ 24 20,xx 25 24,xc 26 25,xA 26 23] (qe [xU 27,xx 28 5,xp 31 5,qt 29 28,wh 30 29,qt 32 31,xi 33 cY 32,qL 28 29,wn 34 .add 30 33,qZ 35 27,xx 36 35,xx 37 36,xA 37 34] (qC (wZ 7) (xO 0 [qf 38 7,xx 39 5,qt 40 39,wh 41 40,wL 42 38 41] 42 0 1 (.reg [xU 45,xU 46,qZ 47 46,qp 48 5 47,xx 50 5,qf 52 7,qf 55 7,qt 49 48,qt 51 50,wt 53 1 51 52,qt 54 53,wq 56 [wj,qw,qw] [xV 54,wE 1 55,(2,1,qQ)],xZ 57 3 [wj,qw,qw] 1 [wo 0 3 56],wO 58 3 32 49 57,qZ 59 45,qp 60 5 59,xA 60 58]) (qf 43 7) 44 43 1 7 44) (wd [xU 61,xk 62 61] [xU 63,xp 64 5,qt 65 64,wU 66 aW 63 65] (wd [xU 67,xU 68,xL 69 68,xY 70 0 [],wV 71 [.t 67,wJ,.t 69,qQ,.t 70],qf 8 71] [xU 72,qf 73 8,xY 74 0 [],xq 75 [.t 72,qi 3,.t 73,.t 74,qQ]] (qD [xU 76,qZ 77 76,xx 78 77,we 79 3 78,qS 3 4 79]))))))⟩
theorem uO:ay Tryz.prog gR=some oE:=by kernel_rfl
def kW:FK:=⟨22,[xC 2 1],wd [xb 1 1 0,qT 2 x4] [wq 5 x4 [],qT 3 x4,xA 3 5] (wK (wZ 4) (xO 0 [xy 6,xc 7 1,qt 8 7,wh 9 8,wL 10 6 9] 10 0 1 (.reg [xc 13 3,xy 16,qt 14 13,we 15 1 1,wU 17 gR 15 16,qL 13 14,qH 18 3 [qw,qw,.nils] 1 [wo 0 3 17],qL 13 14,wO 19 3 40 14 18,xc 20 3,xA 20 19]) (xy 11) 12 11 1 4 12) [we 21 1 3,xA 2 21])⟩
theorem sx:ay Tryz.prog eI=some kW:=by kernel_rfl
def kX:FK:=⟨21,xX,xQ [xb 2 3 0,qc 4 qX] (wZ 5) (xO 0 [wX 6,xB 7,wh 8 7,wL 9 6 8] 9 0 1 (qe [xB 12,wX 13,wt 14 1 12 13,xx 16 2,qt 15 14,qt 17 16,xj 18 17 1,xW 19 [.t 15,qQ,.t 18],xP 20 19] (x8 20 4)) (wX 10) 11 10 1 5 11) (wC 4 wG)⟩
theorem sr:ay Tryz.prog eM=some kX:=by kernel_rfl
def mZ:FK:=⟨88,xD 6,wd [xb 3 1 0,xb 5 4 2,qc 6 qX] [xc 8 3,qt 9 8,xB 10,wt 11 3 9 10,we 12 3 11,qT 7 [qw,qw,.nils],qS 3 7 12] (qC [xc 13 5,qt 14 13,xW 15 [.t 14,wJ,qi 14],xP 16 15,qf 17 16,qN 18 17 (qj (some 3) 7),xo 19 17 2 5,xl 20 17 19,qN 21 17 (.call eM (wQ 18 20)),qN 22 17 (wB 21),xT 23 17 22] (x8 23 6) (qC [xc 24 5,xx 27 5,xx 29 7,qt 25 24,qt 28 27,qt 30 29,xj 31 30 1,xi 26 cE 25,qL 27 28,qL 29 30,xW 32 [.t 28,qQ,.t 31],qb 33 (.beq true (.t 26) (.t 32)),qf 34 33,xo 35 34 0 5,xl 36 34 35,qN 37 34 (.call cE (xh 36)),qN 38 34 (wB 37),wY 39 34 38,xr 40 39 1 5,xg 41 39 40,xt 42 39 .neq 41 (qi (-1)),qN 43 34 (qP 39 (.t 42) qX),xT 44 34 43] (x8 44 6) (wK [xc 45 5,qt 46 45,wH 47 46 14] (ww 47 [qp 48 3 5,xB 50,xj 51 50 1,qt 49 48,xW 52 [.t 49,qQ,.t 51],qf 53 52,xr 54 53 2 5,xr 57 53 0 3,xr 59 53 3 5,xg 55 53 54,qO 56 53 (qV 55),xg 58 53 57,xg 60 53 59,qO 61 53 (qI 3 58 (.t 60)),xr 62 53 0 61,xg 63 53 62,xt 64 53 .eql 56 (.t 63),xK 65 53 64 qX,qf 6 65]) [xp 66 5,xc 69 5,qt 67 66,wh 68 67,qt 70 69,xi 71 eB 70,qL 66 67,wn 72 .eql 68 71,qf 73 72,xr 74 73 3 5,xg 75 73 74,qO 76 73 (xf [.t 75,qQ,qi 255]),xK 77 73 76 qX,qf 78 77,xr 79 78 3 5,xg 80 78 79,xt 81 78 .eql 80 qQ,xI 82 78 81,xo 83 82 0 5,xl 84 82 83,x6 85 82 .eql 84 wJ,qO 86 78 (qP 82 wG (.t 85)),xK 87 78 86 qX,qf 6 87])))⟩
theorem tF:ay Tryz.prog jl=some mZ:=by kernel_rfl
def fE:AK:=wd [xb 3 1 0,qc 6 qX] [xc 14 3,qt 15 14,xB 16,wt 17 3 15 16,we 18 3 17,qT 7 [qw,qw,.nils],qS 3 7 18] (wd [xp 19 7,qt 20 19,qf 21 2,wt 22 5 20 21,we 23 5 22,qT 8 [.nils,.nils,qw,qw,.nils],qS 5 8 23] (wC 9 wJ) (xJ [xp 24 8,qt 25 24] (.blk 0 (xE (xR 27 25 1 26 27) 26 (qe [qp 28 3 8,qt 29 28,qB 30 .neq 29 0] (x8 30 6)) (xE (xR 32 25 2 31 32) 31 (.reg (wC 9 (qi 2))) (xE (xR 34 25 3 33 34) 33 (.reg (wZ 9)) (qD (wC 6 qX)))))) (xJ [qp 35 4 8,qt 36 35,wh 37 36,qf 38 9,wn 39 .neq 37 38,qf 40 39,xo 41 40 2 8,xl 42 40 41,x6 43 40 .neq 42 wJ,wY 44 40 43,xr 45 44 3 8,xg 46 44 45,xr 47 44 1 7,xg 48 44 47,xt 49 44 .sub 48 wJ,qO 50 44 (xf [.t 46,qQ,.t 49]),qO 51 44 (wB 50),qN 52 40 (qP 44 (.t 51) qX),xT 53 40 52] (x8 53 6) (xJ (wZ 10) (xO 1 [qf 54 10,qp 55 4 8,qt 56 55,wh 57 56,wL 58 54 57] 58 1 2 (qe [qp 61 4 8,qf 63 10,xp 66 7,qt 62 61,wt 64 1 62 63,qt 65 64,qt 67 66,wh 68 67,xj 69 68 1,xW 70 [.t 65,wJ,.t 69],xP 71 70] (x8 71 6)) (qf 59 10) 60 59 1 10 60) (xJ (wZ 11) (xO 3 [qf 72 11,xx 73 8,qt 74 73,wh 75 74,wL 76 72 75] 76 3 4 (qe [xB 80,xx 81 8,qf 83 11,we 79 1 3,qt 82 81,wt 84 4 82 83,we 85 4 84,qn 86 jl [.t 79,.t 80,.t 85],xP 87 86] (x8 87 6)) (qf 77 11) 78 77 1 11 78) (qe [we 88 3 7,qf 89 2,wU 90 cK 88 89,qf 12 90] (xJ (wZ 13) (xO 5 [qf 91 13,xc 92 8,qt 93 92,wh 94 93,wL 95 91 94] 95 5 6 (qe [qf 98 2,wH 99 98 0,qf 100 99,xo 101 100 0 8,wY 103 100 13,wY 108 100 12,qN 109 100 (qV 108),xl 102 100 101,qN 104 100 (qI 2 102 (.t 103)),xo 105 100 1 104,xl 106 100 105,qN 107 100 (qV 106),x6 110 100 .neq 107 (.t 109),xT 111 100 110,qf 112 111,xo 114 112 0 8,wY 116 112 13,qN 113 112 (qj (some 3) 7),xl 115 112 114,qN 117 112 (qI 2 115 (.t 116)),xo 118 112 1 117,xl 119 112 118,qN 120 112 (.call eM (wQ 113 119)),qN 121 112 (wB 120),xT 122 112 121,qf 123 122,xo 124 123 0 8,wY 126 123 13,xo 130 123 1 7,xl 125 123 124,qN 127 123 (qI 2 125 (.t 126)),xo 128 123 0 127,xl 129 123 128,xl 131 123 130,x6 132 123 .sub 131 wJ,qN 133 123 (xf [.t 129,qQ,.t 132]),qN 134 123 (wB 133),xT 135 123 134] (x8 135 6)) (qf 96 13) 97 96 1 13 97) (qD (wC 6 wG)))))))))
def gh:FK:=⟨136,xD 6,(AK.whole fE)⟩
theorem ri:ay Tryz.prog gq=some gh:=by kernel_rfl
def iJ:FK:=⟨76,xN,qe [xb 1 1 0,qc 2 qX] (qC [xc 7 1,qt 8 7,wh 9 8,xW 10 [.t 9,wJ,qi 4],xP 11 10] (x8 11 2) (xQ (wZ 3) (wZ 4) (xO 0 [xy 12,xc 13 1,qt 14 13,wh 15 14,wL 16 12 15] 16 0 1 (qe [xc 19 1,qt 20 19,xy 21,wt 22 3 20 21,we 23 3 22,qT 5 [qw,qw,.nils],qS 3 5 23] (qC [xc 24 5,qt 25 24,xW 26 [.t 25,qQ,qi 3],xP 27 26,qf 28 27,xo 29 28 1 5,xl 30 28 29,xo 31 28 0 5,xl 32 28 31,qN 33 28 (xf [.t 30,.t 32,qi 300]),qN 34 28 (wB 33),xT 35 28 34,qf 36 35,xo 37 36 2 5,xl 38 36 37,qN 39 36 (qV 38),qN 40 36 (xf [.t 39,wJ,qi 160]),qN 41 36 (wB 40),xT 42 36 41] (x8 42 2) (qe (wZ 6) (xO 2 [xU 43,xp 44 5,qt 45 44,wh 46 45,wL 47 43 46] 47 2 3 (wd [qf 50 3,xp 51 5,xU 53,xp 59 5,xU 61,qt 52 51,wt 54 5 52 53,xx 55 54,qt 56 55,wh 57 56,wn 58 .add 50 57,qt 60 59,wt 62 5 60 61,xc 63 62,qt 64 63,wh 65 64,wn 66 .add 58 65,qf 3 66] [qf 67 3,qB 68 .gtr 67 800,qf 69 68,qN 70 69 (qj (some 1) 1),wY 71 69 4,wY 72 69 6,qN 73 69 (.call gq [.t 70,.t 71,.t 72]),qN 74 69 (wB 73),xT 75 69 74] (x8 75 2)) (xU 48) 49 48 1 6 49)))) (xy 17) 18 17 1 4 18) (wC 2 wG)))⟩
theorem nW:ay Tryz.prog eg=some iJ:=by kernel_rfl
def kq:FK:=⟨15,[xC 2 1],xQ [qT 2 x4] [wb 4,wi 5 (xz 4 2),wH 6 5 0] (qW 6 (wd [wb 7,xi 8 eL 7,xi 9 eI 8,qT 3 x4,xA 3 9] [we 10 1 3,xi 11 eg 10] (ww 11 [we 12 1 3,xA 2 12]))) [wb 13,xi 14 da 13,xA 2 14]⟩
theorem rx:ay Tryz.prog gm=some kq:=by kernel_rfl
def jP:FK:=⟨10,[xC 2 1],xQ [qT 2 x4] [wb 3,wi 4 (xz 3 12),wH 5 4 0] (ww 5 [wb 6,xi 7 im 6,xA 2 7]) [wb 8,xi 9 gm 8,xA 2 9]⟩
theorem pI:ay Tryz.prog fP=some jP:=by kernel_rfl
def ky:FK:=⟨14,[xC 2 3],wd [qT 2 [qw,qw,.nils]] [wb 4,xi 5 fP 4,qT 3 x4,xA 3 5] (qD [xc 6 3,qt 7 6,xc 8 3,qt 9 8,wh 10 9,xj 11 10 1,wt 12 3 7 11,we 13 3 12,qS 3 2 13])⟩
theorem ra:ay Tryz.prog dD=some ky:=by kernel_rfl
def ck:FK:=⟨19,xX,xQ (wZ 4) [wb 6,wh 7 6,qc 8 qQ] (qU 0 (qe [wL 9 8 7] (.seq (wz 9 0) (wv 1 (wd (xF (qf 10 8) 5 10) [xB 11,wb 12,wX 13,wt 14 5 12 13,we 15 5 14,qb 16 (.callv (.t 11) (xh 15))] (ww 16 (xF (wX 17) 4 17))) (xF (wF 18 8 1) 8 18))))) (wC 4 (qi (-1)))⟩
theorem eR:ay Tryz.prog br=some ck:=by kernel_rfl
def bR:FK:=⟨9,xX,x7 (wC 4 qX) [wb 5,xB 6,wU 7 br 5 6,qB 8 .geq 7 0,qf 4 8]⟩
theorem dR:ay Tryz.prog bi=some bR:=by kernel_rfl
def dK:FK:=⟨19,xX,xQ (wZ 4) [wb 6,wh 7 6,qc 8 qQ] (qU 0 (qe [wL 9 8 7] (.seq (wz 9 0) (wv 1 (wd (xF (qf 10 8) 5 10) [xB 11,wb 12,wX 13,wt 14 1 12 13,qt 15 14,qb 16 (.callv (.t 11) (xh 15))] (ww 16 (xF (wX 17) 4 17))) (xF (wF 18 8 1) 8 18))))) (wC 4 (qi (-1)))⟩
theorem jd:ay Tryz.prog co=some dK:=by kernel_rfl
def cT:FK:=⟨9,xX,x7 (wC 4 qX) [wb 5,xB 6,wU 7 co 5 6,qB 8 .geq 7 0,qf 4 8]⟩
theorem gv:ay Tryz.prog bM=some cT:=by kernel_rfl
def ie:FK:=⟨15,xD 6,x7 (wC 6 qX) [xB 7,wb 8,wn 9 .leq 7 8,qf 10 9,xI 11 10 0,xI 12 10 2,xt 13 10 .leq 11 (.t 12),xK 14 10 13 qX,qf 6 14]⟩
theorem sj:ay Tryz.prog eD=some ie:=by kernel_rfl
def gg:FK:=⟨11,xD 3,x7 (wC 3 qX) [wb 4,xp 5 1,qt 6 5,wh 7 6,xj 8 7 1,qn 9 eD [.t 4,qQ,.t 8],xP 10 9,qf 3 10]⟩
theorem lN:ay Tryz.prog dt=some gg:=by kernel_rfl
def iG:FK:=⟨8,xD 3,x7 [xb 2 5 0,qc 3 qX] [qp 4 4 2,qt 5 4,qb 6 (.mkf (.func dt) (xh 1)),wU 7 bM 5 6,qf 3 7]⟩
theorem ny:ay Tryz.prog cP=some iG:=by kernel_rfl
def gb:FK:=⟨14,xN,x7 [xb 1 3 0,qc 2 qX] [xp 3 1,qt 4 3,wh 5 4,qB 6 .gtr 5 0,xU 7,xr 8 7 2 1,xg 9 7 8,qO 10 7 (.mkf (.func cP) (xh 1)),qO 11 7 (.call bi (wQ 9 10)),qO 12 7 (wB 11),xK 13 7 12 qX,qf 2 13]⟩
theorem pM:ay Tryz.prog gk=some gb:=by kernel_rfl
def fO:FK:=⟨8,xN,xQ (wC 2 xm) [wb 3,qb 4 (.snil false (.t 3))] (wR 4 2 xm) [xY 5 0 [],wb 6,wO 7 1 8 5 6,qf 2 7]⟩
theorem lE:ay Tryz.prog cq=some fO:=by kernel_rfl
def ow:FK:=⟨10,xN,wd (wC 2 xm) [wb 4,xi 5 cq 4,wX 3] (x7 [qf 6 3,xi 7 md 6] (xG (qf 8 3) (xi 9 kg 8) 2 9))⟩
theorem vR:ay Tryz.prog kB=some ow:=by kernel_rfl
def fZ:FK:=⟨19,xX,xQ (wZ 4) [wb 6,wh 7 6,qc 8 qQ] (qU 0 (qe [wL 9 8 7] (.seq (wz 9 0) (wv 1 (wd (xF (qf 10 8) 5 10) [xB 11,wb 12,wX 13,wt 14 1 12 13,qt 15 14,wn 16 .eql 11 15] (ww 16 (xF (wX 17) 4 17))) (xF (wF 18 8 1) 8 18))))) (wC 4 (qi (-1)))⟩
theorem lL:ay Tryz.prog di=some fZ:=by kernel_rfl
def dV:FK:=⟨9,xX,x7 (wC 4 qX) [wb 5,xB 6,wU 7 di 5 6,qB 8 .geq 7 0,qf 4 8]⟩
theorem ju:ay Tryz.prog cA=some dV:=by kernel_rfl
def jQ:FK:=⟨33,xX,wd [xb 2 3 0,qc 4 xm] (wC 5 xm) (qC [xB 8,xp 9 2,qt 10 9,wh 11 10,xj 12 11 1,qn 13 eD [.t 8,qQ,.t 12],xP 14 13] (wR 14 4 xm) (wK [xp 15 2,qt 16 15,wh 17 16,qc 18 qQ] (qU 0 (qe [wL 19 18 17] (.seq (wz 19 0) (wv 1 (wd [qf 20 18,wt 21 5 16 18,we 22 5 21,qT 7 [.nils,.nils,qw,qw,.nils],qf 6 20,qS 5 7 22] [qp 23 4 7,qt 24 23,xB 25,wU 26 cA 24 25] (qW 26 (.reg [wX 27,xU 28,xY 29 1 [xV 28],wO 30 1 8 27 29,qf 5 30]))) (xF (wF 31 18 1) 18 31))))) (xF (wX 32) 4 32)))⟩
theorem rI:ay Tryz.prog dS=some jQ:=by kernel_rfl
def kb:FK:=⟨42,xN,xQ [xb 1 3 0,qc 2 qX] (wZ 3) (xO 0 [qf 5 3,xp 6 1,qt 7 6,wh 8 7,wL 9 5 8] 9 0 1 (qe (wZ 4) (xO 2 [xy 12,xp 13 1,qt 14 13,qf 15 3,wt 16 5 14 15,qp 17 4 16,qt 18 17,wh 19 18,wL 20 12 19] 20 2 3 (qe [xp 23 1,qf 25 3,xy 29,xp 32 1,qt 24 23,wt 26 5 24 25,qp 27 4 26,qt 28 27,wt 30 1 28 29,qt 31 30,qt 33 32,wh 34 33,xj 35 34 1,xW 36 [.t 31,qQ,.t 35],xP 37 36] (x8 37 2)) (xy 21) 22 21 1 4 22)) (qf 10 3) 11 10 1 3 11) [xp 38 1,qt 39 38,wh 40 39,qB 41 .gtr 40 0,qf 2 41]⟩
theorem rZ:ay Tryz.prog dL=some kb:=by kernel_rfl
def jr:FK:=⟨35,[],qe [qt 8 1,wb 9,wt 10 1 8 9,qR 1 10 wG] (qC [xp 11 2,qt 12 11,wb 13,wt 14 5 12 13,qp 15 4 14,qt 16 15,wh 17 16,qc 18 qQ] (qU 0 (qe [wL 19 18 17] (.seq (wz 19 0) (wv 1 (wd (xG (wt 20 1 16 18) (qt 21 20) 7 21) [qt 22 1,qf 23 7,wt 24 1 22 23,qt 25 24,xP 26 25] (qW 26 (.reg [qt 27 3,qf 28 7,qb 29 (.callv (.t 27) (xh 28))]))) (xF (wF 30 18 1) 18 30))))) (.reg [qt 31 4,wb 32,xY 33 1 [xV 32],wO 34 1 8 31 33,xA 4 34]))⟩
theorem oS:ay Tryz.prog cw=some jr:=by kernel_rfl
def kR:FK:=⟨14,xN,wd [xb 1 3 0,qc 2 xm] [qT 3 x4] (wd [xp 6 1,qt 7 6,wh 8 7,qb 9 (.mks 1 1 [qG] (.t 8) (.t 8)),qT 4 x4,xA 4 9] [qT 5 [.nilf]] (wd [qb 10 (.mkf (.func cw) [.t 4,.t 1,.t 5,.t 3]),xA 5 10] [qt 11 5,qb 12 (.callv (.t 11) [qQ])] (qD (xF (qt 13 3) 2 13))))⟩
theorem ss:ay Tryz.prog ig=some kR:=by kernel_rfl
def fC:FK:=⟨6,[xC 2 3],x7 [qT 2 [qw,qw,.nils]] [wb 3,xi 4 dx 3,xi 5 dD 4,qS 3 2 5]⟩
theorem lM:ay Tryz.prog fT=some fC:=by kernel_rfl
def jp:FK:=⟨54,xD 8,wd [xb 4 3 0,qc 8 xm] [qf 10 2,xB 11,wt 12 1 10 11,qR 1 12 wG] (wK (wZ 9) (xO 0 [qf 13 9,xp 14 4,qt 15 14,xB 16,wt 17 5 15 16,qp 18 4 17,qt 19 18,wh 20 19,wL 21 13 20] 21 0 1 (qe [qf 24 2,xp 25 4,qt 26 25,xB 27,wt 28 5 26 27,qp 29 4 28,qt 30 29,qf 31 9,wt 32 1 30 31,qt 33 32,wt 34 1 24 33,qt 35 34,xP 36 35] (qW 36 (.reg [xp 38 4,xB 40,qf 44 9,qf 47 2,qf 48 3,we 37 3 4,qt 39 38,wt 41 5 39 40,qp 42 4 41,qt 43 42,wt 45 1 43 44,qt 46 45,qn 49 bO [.t 37,.t 46,.t 47,.t 48],qf 3 49]))) (qf 22 9) 23 22 1 9 23) [qf 50 3,xB 51,xY 52 1 [xV 51],wO 53 1 8 50 52,qf 8 53])⟩
theorem oT:ay Tryz.prog bO=some jp:=by kernel_rfl
def fe:AK:=qe [xb 1 3 0,qc 2 xm] (.cut (.ot (.one [] (.one [xp 7 1] (.one [we 6 3 1] (.one [qt 8 7] (.one [wh 9 8] (qY [qb 10 (.mks 1 1 [qG] (.t 9) (.t 9)),qz (some 3) 1 6] (ye [xY 11 0 [],qz (some 3) 1 6,qL 7 8] [qn 12 bO [.t 6,qQ,.t 10,.t 11]] (.one [qf 3 12] .done)) (ye [xY 11 0 [],qz (some 3) 1 6,qL 7 8] [qb 10 (.mks 1 1 [qG] (.t 9) (.t 9)),qz (some 3) 1 6] (wM [qn 12 bO [.t 6,qQ,.t 10,.t 11]] (.one [qf 3 12] .done)))))))))) (xQ (xF (xY 13 0 []) 4 13) [qf 14 3,wh 15 14,xj 16 15 1,qf 5 16] (xH 0 [wX 17,qB 18 .geq 17 0] 18 0 1 (.reg [xy 21,qf 22 3,wX 23,wt 24 1 22 23,qt 25 24,xY 26 1 [xV 25],wO 27 1 8 21 26,qf 4 27]) (wX 19) (xj 20 19 1) 5 20) (xF (xy 28) 2 28)))
def ff:FK:=⟨29,xN,(AK.whole fe)⟩
theorem oZ:ay Tryz.prog dg=some ff:=by kernel_rfl
def jx:FK:=⟨9,xN,xQ [xb 1 3 0,qc 2 xm] [we 3 3 1,xi 4 dL 3,xP 5 4] (ww 5 (xF (xY 6 0 []) 2 6)) (xG (we 7 3 1) (xi 8 dg 7) 2 8)⟩
theorem rC:ay Tryz.prog jS=some jx:=by kernel_rfl
def lc:FK:=⟨29,xX,xQ (wC 4 qX) [wb 6,wh 7 6,xB 8,wh 9 8,qb 10 (.mn (.t 7) (.t 9)),qc 11 qQ] (qU 0 (qe [wL 12 11 10] (.seq (wz 12 0) (wv 1 (wd (xF (qf 13 11) 5 13) [wb 14,wX 15,wt 16 1 14 15,xB 18,wX 19,wt 20 1 18 19,qt 17 16,qt 21 20,wn 22 .neq 17 21] (x8 22 4)) (xF (wF 23 11 1) 11 23))))) [wb 24,wh 25 24,xB 26,wh 27 26,wn 28 .eql 25 27,qf 4 28]⟩
theorem sR:ay Tryz.prog eA=some lc:=by kernel_rfl
def mH:FK:=⟨17,xX,xQ (wC 4 qX) [wb 7,wh 8 7,qc 9 qQ] (qU 0 (qe [wL 10 9 8] (.seq (wz 10 0) (wv 1 (wd (xG (wt 11 1 7 9) (qt 12 11) 6 12) [xU 13,xB 14,wn 15 .eql 13 14] (wR 15 4 wG)) (xF (wF 16 9 1) 9 16))))) (wC 4 qX)⟩
theorem tM:ay Tryz.prog dU=some mH:=by kernel_rfl
def iN:FK:=⟨9,xN,xQ [xb 1 3 0,qc 2 xm] [we 3 3 1,xi 4 gk 3,xP 5 4] (wR 5 2 xm) [we 6 3 1,xi 7 ig 6,xi 8 kB 7,qf 2 8]⟩
theorem nK:ay Tryz.prog dY=some iN:=by kernel_rfl
def eW:FK:=⟨6,[xC 2 3],x7 [qT 2 [qw,qw,.nils]] [wb 3,xi 4 dx 3,xi 5 dD 4,qS 3 2 5]⟩
theorem jV:ay Tryz.prog cG=some eW:=by kernel_rfl
def jt:FK:=⟨47,xX,wd (wC 4 xm) (wZ 5) (.seq (wT 0 [wX 7,wb 8,wh 9 8,wL 10 7 9,qf 11 10,xI 12 11 0,xI 13 11 5,qO 14 11 (qI 1 12 (.t 13)),xg 15 11 14,xI 16 11 1,xt 17 11 .lss 15 (.t 16),xK 18 11 17 qX] 18 0 (.blk 1 (.reg (xG (wX 19) (wF 20 19 1) 5 20)))) (qC [wX 21,wb 22,wh 23 22,wL 24 21 23,qf 25 24,xI 26 25 0,xI 27 25 5,qO 28 25 (qI 1 26 (.t 27)),xg 29 25 28,xI 30 25 1,xt 31 25 .eql 29 (.t 30),xK 32 25 31 qX] (ww 32 (xF (wb 33) 4 33)) (x7 [xY 34 0 [],wb 35,wX 36,qb 37 (.slS 1 (.t 35) none (some (.t 36))),wO 38 1 8 34 37,qf 6 38] [xU 39,xB 40,wb 43,wX 44,qb 45 (.slS 1 (.t 43) (some (.t 44)) none),xY 41 1 [xV 40],wO 42 1 8 39 41,wO 46 1 8 42 45,qf 4 46])))⟩
theorem oR:ay Tryz.prog bN=some jt:=by kernel_rfl
def iI:FK:=⟨19,xN,wd (wC 2 xm) [xY 5 0 [],wX 3] (wK (wZ 4) (xO 0 [xy 6,wb 7,wh 8 7,wL 9 6 8] 9 0 1 (.reg [qf 12 3,wb 13,xy 14,wt 15 1 13 14,qt 16 15,wU 17 bN 12 16,qf 3 17]) (xy 10) 11 10 1 4 11) (xF (qf 18 3) 2 18))⟩
theorem nz:ay Tryz.prog dZ=some iI:=by kernel_rfl
def iy:FK:=⟨10,xN,xQ [xb 1 3 0,qc 2 xm] [we 3 3 1,xi 4 dL 3,xP 5 4] (ww 5 (xF (xY 6 0 []) 2 6)) [we 7 3 1,xi 8 dg 7,xi 9 dZ 8,qf 2 9]⟩
theorem nZ:ay Tryz.prog cM=some iy:=by kernel_rfl
def ew:AK:=qe (wC 2 qX) (qC [wb 15,wh 16 15,qB 17 .gtr 16 1048576] (wR 17 2 wG) (wd [wb 18,xi 19 cG 18,qT 3 [qw,qw,.nils],qS 3 3 19] (xG (we 20 3 3) (xi 21 dY 20) 4 21) (qC [xy 22,we 23 3 3,xi 24 cM 23,wU 25 eA 22 24,xP 26 25,qf 27 26,wY 28 27 4,qN 29 27 (qV 28),x6 30 27 .eql 29 qQ,xT 31 27 30] (ww 31 [xy 32,we 33 3 3,xi 34 cM 33,wU 35 eA 32 34,qf 2 35]) (qe (xF (xY 36 0 []) 5 36) (qC [xy 37,wh 38 37,qc 39 qQ] (qU 0 (qe [wL 40 39 38] (.seq (wz 40 0) (wv 1 (qe (xG (wt 41 1 37 39) (qt 42 41) 7 42) (.reg [wX 43,qf 44 7,xY 45 1 [xV 44],wO 46 1 8 43 45,qf 5 46])) (xF (wF 47 39 1) 39 47))))) (wK [xy 48,wh 49 48,qc 50 qQ] (qU 2 (qe [wL 51 50 49] (.seq (wz 51 2) (wv 3 (qe [qf 52 50,wt 53 1 48 50,qt 54 53,qf 8 52,qf 9 54] (xJ [qf 55 8,qB 56 .gtr 55 0,qf 57 56,xI 58 57 4,xI 59 57 8,xt 60 57 .sub 59 wJ,qO 61 57 (qI 1 58 (.t 60)),xg 62 57 61,xI 63 57 9,xt 64 57 .geq 62 (.t 63),xK 65 57 64 qX] (x8 65 2) (qC [xp 66 3,qt 67 66,qf 68 9,wt 69 5 67 68,qp 70 4 69,qt 71 70,wh 72 71,qc 73 qQ] (qU 4 (qe [wL 74 73 72] (.seq (wz 74 4) (wv 5 (wd (xG (wt 75 1 71 73) (qt 76 75) 11 76) [wX 77,qf 78 11,wU 79 dU 77 78,xP 80 79] (x8 80 2)) (xF (wF 81 73 1) 73 81))))) (qe (xG (qf 82 9) (wH 83 82 0) 12 83) (qC [we 84 3 3,qf 85 9,wU 86 dS 84 85,wh 87 86,qc 88 qQ] (qU 6 (qe [wL 89 88 87] (.seq (wz 89 6) (wv 7 (qe (xG (wt 90 1 86 88) (qt 91 90) 14 91) (.reg [qf 92 12,qf 93 92,wY 94 93 5,wY 95 93 14,qN 96 93 (.call dU (wQ 94 95)),xT 97 93 96,qf 12 97])) (xF (wF 98 88 1) 88 98))))) (qe [qf 99 12,xP 100 99] (x8 100 2))))))) (xF (wF 101 50 1) 50 101))))) (xG (wX 102) (qn 103 dU (wP 102 qQ)) 2 103)))))))
def eq:FK:=⟨104,xN,(AK.whole ew)⟩
theorem nH:ay Tryz.prog iP=some eq:=by kernel_rfl
end Go.Proofs.YtdfplkcigiblcaaGreat
