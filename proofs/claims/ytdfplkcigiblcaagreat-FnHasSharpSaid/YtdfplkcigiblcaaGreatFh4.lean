/-
  Contracts and lemmas that the card needs, part 4.
-/
import Derived.Test.YtdfplkcigiblcaaGreatFh3
import Derived.Test.YtdfplkcigiblcaaGreatRows
namespace Go.Proofs.YtdfplkcigiblcaaGreat
open Go Go.Aw
set_option maxRecDepth 100000
abbrev dH:FuncId:=54
abbrev br:FuncId:=104
abbrev aY:FuncId:=105
abbrev gH:FuncId:=95
abbrev ey:FuncId:=168
abbrev cE:FuncId:=169
abbrev gU:FuncId:=153
abbrev eM:FuncId:=154
abbrev gX:FuncId:=141
abbrev bX:FuncId:=96
abbrev cU:FuncId:=125
abbrev dd:FuncId:=152
abbrev gZ:FuncId:=140
abbrev dO:FuncId:=124
abbrev gN:FuncId:=118
abbrev bu:FuncId:=179
abbrev eg:FuncId:=183
abbrev bc:FuncId:=172
abbrev dK:FuncId:=162
abbrev dj:FuncId:=189
abbrev bU:FuncId:=180
abbrev cw:FuncId:=181
abbrev dB:FuncId:=182
abbrev dt:FuncId:=171
abbrev aN:FuncId:=161
abbrev cY:FuncId:=143
abbrev fW:FuncId:=194
abbrev fh:FuncId:=190
abbrev iT:FuncId:=184
abbrev cX:FuncId:=191
abbrev iV:FuncId:=185
abbrev bA:FuncId:=173
abbrev ee:FuncId:=192
abbrev eD:FuncId:=197
abbrev cS:FuncId:=195
abbrev dL:FuncId:=196
abbrev cG:FuncId:=193
abbrev er:FuncId:=186
abbrev bm:FuncId:=174
abbrev jX:FuncId:=163
abbrev cB:FuncId:=175
abbrev iQ:FuncId:=164
abbrev cQ:FuncId:=144
abbrev eA:FuncId:=127
abbrev fq:FuncId:=76
abbrev cT:FuncId:=155
abbrev bF:FuncId:=156
abbrev bg:FuncId:=160
abbrev bj:FuncId:=159
abbrev bB:FuncId:=158
abbrev cI:FuncId:=178
abbrev dR:FuncId:=187
abbrev jp:FuncId:=188
abbrev aU:FuncId:=177
abbrev dA:FuncId:=176
abbrev dC:FuncId:=170
abbrev aW:FuncId:=157
abbrev gx:FuncId:=142
abbrev eu:FuncId:=126
abbrev eq:FuncId:=166
abbrev iP:FuncId:=165
abbrev fQ:FuncId:=145
abbrev dT:FuncId:=128
abbrev fN:FuncId:=119
abbrev fx:FuncId:=90
abbrev dD:FuncId:=53
abbrev cN:FuncId:=14
abbrev bp:FuncId:=120
abbrev bh:FuncId:=91
abbrev cg:FuncId:=121
abbrev bH:FuncId:=93
abbrev ed:FuncId:=61
abbrev db:FuncId:=94
abbrev cK:FuncId:=92
abbrev dy:FuncId:=55
abbrev cd:FuncId:=100
abbrev mU:FuncId:=101
abbrev jW:FuncId:=102
abbrev gD:FuncId:=64
abbrev dk:FuncId:=98
abbrev bG:FuncId:=62
abbrev bE:FuncId:=18
abbrev dX:FuncId:=56
abbrev eR:FuncId:=15
abbrev fA:FuncId:=57
abbrev eS:FuncId:=58
abbrev eO:FuncId:=16
abbrev co:FuncId:=97
abbrev gW:FuncId:=59
abbrev cD:FuncId:=60
abbrev fX:FuncId:=17
abbrev gf:FuncId:=3
abbrev fJ:FuncId:=19
@[reducible] def qa(a:Nat)(b:Option (Nat × Bool))(c:AI):CO:=⟨some a,b,c⟩
@[reducible] def qb(a:Nat)(b:AI):CO:=qa a none b
@[reducible] def qc(a:Nat)(b:AOp):CO:=qb a (.mov b)
@[reducible] def qd(a:IntKind)(b:Int):AV:= .p (.int a b)
@[reducible] def qe(a:List CO)(b:AK):AK:= .seq (.reg a) b
@[reducible] def qf(a b:Nat):CO:=qc a (.t b)
@[reducible] def qg(a:Int):AV:=qd .i64 a
@[reducible] def qh(a b:Nat):AI:= .fldA a (.t b)
@[reducible] def qi(a:Int):AOp:= .c (qg a)
@[reducible] def qj(a:Nat)(b:Nat × Bool)(c:AI):CO:=qa a (some b) c
@[reducible] def qk(a:Option Nat)(b:Nat):AI:= .ld a (.t b)
@[reducible] def ql(a:BinOp)(b:Nat)(c:AOp):AI:= .bin a (.t b) c
@[reducible] def qm(a:Nat):AI:=qk none a
@[reducible] def qn(a:Nat)(b:FuncId)(c:List AOp):CO:=qb a (.call b c)
@[reducible] def qo(a:Option (Nat × Bool))(b:AI):CO:=⟨none,a,b⟩
@[reducible] def qp(a b c:Nat):CO:=qb a (qh b c)
@[reducible] def qt(a b:Nat):CO:=qb a (qm b)
@[reducible] def qu(a:AI):CO:=qo none a
@[reducible] def qv(a:Nat)(b c:AK):AK:= .cond (.t a) b c
@[reducible] def qw:AV:=qg 0
@[reducible] def qx(a:Nat)(b:BinOp)(c:Nat)(d:AOp):CO:=qb a (ql b c d)
@[reducible] def qy(a:Bool):AV:= .p (.bool a)
@[reducible] def qz(a:Option Nat)(b c:Nat):CO:=qu (.chk a b c)
@[reducible] def qA(a:Nat):AI:= .nilck (.t a)
@[reducible] def qB(a:Nat)(b:BinOp)(c:Nat)(d:Int):CO:=qx a b c (qi d)
@[reducible] def qC(a:List CO)(b c:AK):AK:= .seq (qe a b) c
@[reducible] def qD:AV:=qy false
@[reducible] def qF(a:AOp):AI:= .len false a
@[reducible] def qG(a:List CO):AK:=qe a .ret
@[reducible] def qH(a b:Nat)(c:Bool)(d:AI):CO:=qj a (b,c) d
@[reducible] def qI(a b:Nat)(c:AI):CO:=qH a b false c
@[reducible] def qJ(a b:Nat)(c:AI):CO:=qH a b true c
@[reducible] def qK(a:Nat)(b c:AOp):CO:=qu (.st a b c)
@[reducible] def qL(a:List UInt8):AV:= .p (.str a)
@[reducible] def qM(a b:Nat)(c:List AV)(d:Nat)(e:List (Nat × Nat × AOp)):CO:=qb a (.bsl b c d e)
@[reducible] def qN(a b:Nat)(c:AOp):AI:= .idxS a (.t b) c
@[reducible] def qO(a b:Nat):CO:=qz none a b
@[reducible] def qP(a:Nat)(b c:AOp):AI:= .pick (.t a) b c
@[reducible] def qQ(a b:Nat)(c:AOp):CO:=qK a (.t b) c
@[reducible] def qR:AOp:=qi 0
@[reducible] def qS(a b c:Nat):CO:=qQ a b (.t c)
@[reducible] def qT(a:Nat)(b:List AV):CO:=qb a (.alloc b)
@[reducible] def qU:AOp:= .c qD
@[reducible] def qV(a b:Nat):AI:=qk (some a) b
@[reducible] def qW(a:Nat):AI:=qF (.t a)
@[reducible] def qX(a b:Nat):CO:=qb a (qA b)
@[reducible] def qY(a:Nat)(b:AK):AK:= .blk a (.loop b)
@[reducible] def qZ(a:Nat)(b:AK):AK:=qv a b .skip
@[reducible] def wa(a b:List CO)(c:AK):AK:=qe a (qe b c)
@[reducible] def wb(a:Nat)(b c:AK):AK:= .seq (.blk a b) c
@[reducible] def wd(a:Nat):CO:=qf a 0
@[reducible] def we(a:List CO)(b c:OT):OT:= .alt (.one a b) c
@[reducible] def wg(a:Nat)(b:List AOp):CO:=qn a br b
@[reducible] def wh(a b:Nat):CO:=qb a (qW b)
@[reducible] def wi:AV:=qL []
@[reducible] def wj(a:Nat):AI:= .mov (.t a)
@[reducible] def wl(a:Nat)(b:AK)(c:Nat):AK:=qv a b (.exit c)
@[reducible] def wm:AV:=qy true
@[reducible] def wn(a b c:Nat)(d:AOp):CO:=qb a (qN b c d)
@[reducible] def wo(a b c:Nat):Nat × Nat × AOp:=(a,b,.t c)
@[reducible] def wq(a:Nat)(b:List AV)(c:List (Nat × Nat × AOp)):CO:=qb a (.bld b c)
@[reducible] def wt(a:Nat)(b:BinOp)(c d:Nat):CO:=qx a b c (.t d)
@[reducible] def wu(a:Nat)(b:AK)(c:List CO):AK:=wb a b (.reg c)
@[reducible] def wv(a b:Nat)(c d:AOp):CO:=qb a (qP b c d)
@[reducible] def ww(a b c d:Nat):CO:=wn a b c (.t d)
@[reducible] def wx(a b c:Nat):CO:=qb a (qV b c)
@[reducible] def wy(a:Nat)(b:List CO):AK:=qZ a (qG b)
@[reducible] def wz(a b:Nat):AK:=wl a .skip b
@[reducible] def wA(a:Nat)(b:AOp):List CO:=[qc a b]
@[reducible] def wB(a:Nat)(b:List AOp):CO:=qn a aY b
@[reducible] def wC(a:Nat):AI:= .not (.t a)
@[reducible] def wD(a b:Nat):Nat × Nat × AOp:=wo a 1 b
@[reducible] def wE(a b c:Nat)(d:AOp):AI:= .app a b (.t c) d
@[reducible] def wF:AOp:= .c wm
@[reducible] def wG(a b:Nat)(c:Int):CO:=qB a .add b c
@[reducible] def wH:AOp:=qi 1
@[reducible] def wI(a b:Nat):AI:= .box a (.t b)
@[reducible] def wJ(a b:Nat)(c:Int):CO:=qB a .eql b c
@[reducible] def wK(a b c:Nat):CO:=wt a .lss b c
@[reducible] def wL(a:List CO)(b:AK)(c:List CO):AK:=qC a b (qG c)
@[reducible] def wM(a b:Nat)(c:AOp):AK:=wy a (wA b c)
@[reducible] def wN(a:Nat)(b:AOp):List AOp:=[.t a,b]
@[reducible] def wO(a b:Nat):List AOp:=wN a (.t b)
@[reducible] def wP(a:List CO)(b:OT):OT:=we a b .tru
@[reducible] def wQ(a b:Nat)(c:AOp)(d:Nat):CO:=wv a b c (.t d)
@[reducible] def wR(a:Nat)(b:List CO)(c d:AK):AK:=qY a (qC b c d)
@[reducible] def wS(a b c d:Nat):AI:=wE a b c (.t d)
@[reducible] def wT(a:Nat)(b:List CO)(c d:Nat)(e:AK):AK:=wR a b (wz c d) e
@[reducible] def wU(a b c d e:Nat):CO:=qb a (wS b c d e)
@[reducible] def wV(a b c:Nat):CO:=qI a b (wj c)
@[reducible] def wW(a b c:Nat):CO:=qI a b (qm c)
@[reducible] def wX(a:Nat)(b:List AOp):CO:=qn a bB b
@[reducible] def wY(a:Nat)(b:List CO)(c d e:Nat)(f:AK)(g:List CO):AK:=wT a b c d (wu e f g)
@[reducible] def wZ(a:Nat)(b:FuncId)(c d:Nat):CO:=qn a b (wO c d)
@[reducible] def xa(a:Nat):List CO:=wA a qR
@[reducible] def xb(a b c:Nat):CO:=qb a (wI b c)
@[reducible] def xc(a b:Nat):CO:=qp a 0 b
@[reducible] def xd(a b:Nat)(c:Int):Nat × Nat × AOp:=(a,b,qi c)
@[reducible] def xe(a:Nat)(b:Int):Nat × Nat × AOp:=xd a 1 b
@[reducible] def xf(a:List AOp):AI:= .call gH a
@[reducible] def xg(a b c d:Nat):CO:=qI a b (qh c d)
@[reducible] def xh(a:Nat):CO:=qf a 5
@[reducible] def xi(a b:Nat)(c:Int):CO:=qB a .sub b c
@[reducible] def xj(a:Nat):List AOp:=[.t a]
@[reducible] def xk(a:Nat)(b:FuncId)(c:Nat):CO:=qn a b (xj c)
@[reducible] def xl(a b:Nat):CO:=xk a bF b
@[reducible] def xm(a b c:Nat):CO:=qJ a b (qm c)
@[reducible] def xo(a b:Nat):CO:=qp a 2 b
@[reducible] def xp(a:Nat)(b:List AOp):CO:=qn a bg b
@[reducible] def xq(a b c d:Nat):CO:=qJ a b (qh c d)
@[reducible] def xr(a b:Nat):CO:=qp a 1 b
@[reducible] def xt(a b:Nat):CO:=qS 1 a b
@[reducible] def xu(a:Nat)(b:Int):List AOp:=wN a (qi b)
@[reducible] def xv(a b:Nat)(c:BinOp)(d:Nat)(e:AOp):CO:=qJ a b (ql c d e)
@[reducible] def xx:AOp:= .c .nils
@[reducible] def xy(a:Nat):CO:=qf a 4
@[reducible] def xz(a b:Nat):RV:= .c a (some b)
@[reducible] def xA(a:List CO)(b:Nat)(c d:AK):AK:=qe a (qv b c d)
@[reducible] def xB(a b c:Nat)(d:AOp):CO:=wv a b (.t c) d
@[reducible] def xC(a b:Nat):CO:=xk a bj b
@[reducible] def xD(a b:Nat)(c:BinOp)(d:Nat)(e:AOp):CO:=qI a b (ql c d e)
@[reducible] def xE(a b c:Nat):CO:=wQ a b wF c
@[reducible] def xF(a:List AOp):AI:= .call br a
@[reducible] def xG:List AV:=[qw]
@[reducible] def xH(a b c:Nat)(d:List (Nat × Nat × AOp)):CO:=qM a b xG c d
@[reducible] def xI(a:Nat):List RV:=[.t a]
@[reducible] def xJ(a:Nat):CO:=qf a 6
@[reducible] def xK(a:List CO)(b c:AK):AK:= .cut (qe a b) c
@[reducible] def xL(a:Nat):CO:=qf a 1
@[reducible] def xM(a:Nat)(b:List AOp):CO:=qn a dK b
@[reducible] def xN(a:Nat):CO:=qf 4 a
@[reducible] def xO:List RV:=xI 2
@[reducible] def xP(a:Nat)(b:List AOp):CO:=qn a gH b
@[reducible] def xQ(a b:Nat)(c:List AV)(d:Nat)(e:List (Nat × Nat × AOp)):CO:=qb a (.bslP b c d e)
@[reducible] def xR(a:Nat):Nat × Nat × AOp:=wD 0 a
@[reducible] def xS(a:Nat)(b:AK)(c:List CO):AK:=wL (xa a) b c
@[reducible] def xT:List AV:=[.nils]
@[reducible] def xU(a b:Nat):CO:=wG a b 1
@[reducible] def xV:List RV:=xI 4
@[reducible] def xW(a b c:Nat):CO:=qJ a b (wj c)
@[reducible] def xX(a b:List CO):AK:=qe a (qG b)
@[reducible] def xY(a b:Nat):AK:=wM a b qU
@[reducible] def xZ(a b:Nat):CO:=qb a (wC b)
@[reducible] def x4(a:Nat):CO:=qO a 10
@[reducible] def x6:CO:=x4 9
@[reducible] def x7(a:Nat):CO:=qO 11 a
@[reducible] def x8:CO:=x7 12
@[reducible] def x9(a b:Nat)(c:Int):CO:=qB a .gtr b c
@[reducible] def ya(a:CO)(b c:Nat):List CO:=[a,qf b c]
@[reducible] def yb(a b:Nat)(c:Int)(d e:Nat):List CO:=ya (wJ a b c) d e
@[reducible] def yc(a b:Nat)(c:List (Nat × Nat × AOp)):CO:=xH a 1 b c
@[reducible] def ye(a:Nat)(b:List CO)(c d e:Nat)(f g:List CO):AK:=wY a b c d e (.reg f) g
@[reducible] def yf(a:List UInt8):AOp:= .c (qL a)
def jR:FK:=⟨11,xO,qe (wA 2 (.c .nilp)) (wL [wd 3,wh 4 3,x9 5 4 2000] (qZ 5 (.reg [wd 6,qb 7 (.slS 1 (.t 6) none (some (qi 2000))),qf 0 7])) [wd 8,wq 9 [.nils,qw] [xR 8],xb 10 2 9,qf 2 10])⟩
theorem pW:ay Tryz.prog dH=some jR:=by kernel_rfl
def cx:FK:=⟨99,xV,wa (xa 4) [wd 7,wd 8,qX 9 8,xr 10 9,qt 11 10,xU 12 11,qX 13 7,xr 14 13,xt 14 12] (qC [xL 15,qB 16 .lss 15 1,qf 17 16,wV 18 17 0,qI 19 17 (qA 18),xg 20 17 0 19,wW 21 17 20,qI 22 17 (qW 21),xD 23 17 .eql 22 qR,xE 24 17 23] (wM 24 4 qR) (qe [wd 25,qX 26 25,xr 27 26,qt 28 27,xi 29 28 1,qf 5 29] (qC [xh 30,wd 31,qX 32 31,xc 33 32,qt 34 33,wh 35 34,wK 36 30 35] (wy 36 [wd 37,qX 38 37,xc 39 38,qt 40 39,xh 41,ww 42 1 40 41,qt 43 42,qb 44 (.conv .i64 (.t 43)),xL 45,wt 46 .rem 44 45,xN 46]) (wa [wd 47,qX 48 47,xc 49 48,xh 51,wd 52,qX 53 52,xc 54 53,wd 62,qX 63 62,xc 64 63,xh 66,qB 67 .mul 66 7,wG 68 67 3,wd 69,qX 70 69,xc 71 70,xh 80,qB 81 .mul 80 29,xh 83,wd 84,qX 85 84,xc 86 85,qt 50 49,qt 55 54,wh 56 55,wt 57 .rem 51 56,ww 58 1 50 57,qt 59 58,qb 60 (.conv .i64 (.t 59)),qB 61 .mul 60 131,qt 65 64,qt 72 71,wh 73 72,wt 74 .rem 68 73,ww 75 1 65 74,qt 76 75,qb 77 (.conv .i64 (.t 76)),qB 78 .mul 77 1117,wt 79 .add 61 78,wt 82 .add 79 81,qt 87 86,wh 88 87,wt 89 .quo 83 88,qB 90 .mul 89 53,wt 91 .add 82 90,qf 6 91] [xJ 92,xJ 93,qB 94 .quo 93 64,wt 95 .xor 92 94,qf 6 95] (qG [xJ 96,xL 97,wt 98 .rem 96 97,xN 98])))))⟩
theorem mt:ay Tryz.prog br=some cx:=by kernel_rfl
def cJ:FK:=⟨12,xV,xX (xa 4) [xL 5,wd 6,xL 7,wh 8 7,wg 9 (wO 6 8),ww 10 1 5 9,qt 11 10,xN 11]⟩
theorem dS:ay Tryz.prog aY=some cJ:=by kernel_rfl
def jT:FK:=⟨15,xI 6,xX (wA 6 qU) [wd 7,xL 8,wt 9 .geq 7 8,qf 10 9,xW 11 10 0,xW 12 10 2,xv 13 10 .leq 11 (.t 12),xB 14 10 13 qU,qf 6 14]⟩
theorem uI:ay Tryz.prog gH=some jT:=by kernel_rfl
def bQ:FK:=⟨28,xO,qe (xa 2) (wb 0 (xA [wd 4,wJ 5 4 1,xh 3] 3 (qG (xa 2)) (xA [wd 7,wJ 8 7 2,qf 9 8,wV 10 9 0,xD 11 9 .eql 10 (qi 10),xE 12 9 11,qf 13 12,wV 14 13 0,xD 15 13 .eql 14 (qi 11),xE 16 13 15,qf 17 16,wV 18 17 0,xD 19 17 .eql 18 (qi 13),xE 20 17 19,qf 6 20] 6 (qG (wA 2 wH)) (qe [wd 22,xP 23 [.t 22,qi 3,qi 9],qf 24 23,wV 25 24 0,xD 26 24 .eql 25 (qi 12),xE 27 24 26,qf 21 27] (wM 21 2 (qi 2))))) (qG (wA 2 (qi (-1)))))⟩
theorem sr:ay Tryz.prog ey=some bQ:=by kernel_rfl
def jS:FK:=⟨13,xO,xX (wA 2 qU) [wd 3,xP 4 [.t 3,wH,qi 14],xy 5,xW 6 5 0,xv 7 5 .neq 6 (qi 12),xB 8 5 7 qU,qf 9 8,xW 10 9 0,xv 11 9 .neq 10 (qi 13),xB 12 9 11 qU,qf 2 12]⟩
theorem rb:ay Tryz.prog cE=some jS:=by kernel_rfl
def ii:AK:=wa [xb 4 1 1,qT 6 [qw,qw,.nils,qw]] [wd 11,yc 12 16 [(0,1,wH),(1,1,wH),xe 2 2,xe 3 3,xe 4 4,xe 5 5,xe 6 8,xe 7 9,xe 8 10,xe 9 13,xe 10 3,xe 11 6,xe 12 7,xe 13 11,xe 14 12,xe 15 14],wB 13 (wO 11 12),qf 7 13] (wa [qf 14 7,wd 15,qf 16 2,wg 17 (wO 15 16),wq 18 [qw,qw,.nils,qw] [xR 14,wD 1 17],qT 8 [qw,qw,.nils,qw],qS 4 8 18] [qf 19 7,xk 20 ey 19,qf 9 20] (xK [qf 21 7,wJ 22 21 14] (qZ 22 (qC [xc 23 4,qt 24 23,wh 25 24,wJ 26 25 0] (wy 26 [wd 27,qf 28 2,wg 29 (wO 27 28),yc 30 1 [xR 29],wq 31 [qw,qw,.nils,qw] [xe 0 13,xe 1 (-1),wD 2 30],qS 4 6 31]) (qe [wd 32,xc 33 4,qt 34 33,wh 35 34,wg 36 (wO 32 35),qp 37 3 8,xt 37 36] (.reg [xc 38 4,qt 39 38,qp 40 3 8,qt 41 40,ww 42 3 39 41,xc 43 42,qt 44 43,qf 9 44])))) (xK [qf 45 7,wJ 46 45 1] (qZ 46 (.reg [wd 47,yc 48 7 [(0,1,qR),(1,1,wH),xe 2 2,xe 3 3,xe 4 15,xe 5 16,xe 6 255],wB 49 (wO 47 48),qp 50 3 8,xt 50 49])) (xK [qf 51 7,xk 52 cE 51,xZ 53 52] (qZ 53 (.reg [xr 54 8,qQ 1 54 (qi (-1))])) (xS 10 (ye 0 [qf 55 10,qf 56 9,wK 57 55 56] 57 0 1 [xo 60 8,wd 62,qf 63 2,qt 61 60,wg 64 (wO 62 63),qO 60 61,xQ 65 1 xG 1 [xR 64],wU 66 1 8 61 65,xo 67 8,xt 67 66] [qf 58 10,xU 59 58,qf 10 59]) [wx 68 4 8,qS 4 6 68])))))
def gP:FK:=⟨69,[xz 6 4],(AK.whole ii)⟩
theorem sh:ay Tryz.prog gU=some gP:=by kernel_rfl
def jn:FK:=⟨30,xI 6,qe (xa 6) (wL [xL 7,qf 8 2,xi 9 8 1,wK 10 7 9,qf 11 10,xW 12 11 0,qJ 13 11 (xF (xu 12 4)),xv 14 11 .gtr 13 qR,xB 15 11 14 qU] (wy 15 [xL 16,xU 17 16,wd 18,qf 19 2,xi 20 19 1,xL 21,wt 22 .sub 20 21,wg 23 (wO 18 22),wt 24 .add 17 23,qf 6 24]) [wd 25,qf 26 2,xi 27 26 1,wg 28 (wO 25 27),qb 29 (.bin .add wH (.t 28)),qf 6 29])⟩
theorem vn:ay Tryz.prog eM=some jn:=by kernel_rfl
def gT:AK:=wa [xb 3 1 1,qT 4 [qw,qw,.nils]] [wd 10,yc 11 4 [(0,1,wH),(1,1,qR),xe 2 2,xe 3 3],wB 12 (wO 10 11),wq 13 [qw,qw,.nils] [xR 12],qT 5 [qw,qw,.nils],qS 3 5 13] (wa [xc 14 5,wd 17,qt 15 14,wG 16 15 2,wg 18 (xu 17 5),qO 14 15,wt 19 .add 16 18,xr 20 5,xt 20 19] [wd 21,yc 22 6 [xe 0 3,xe 1 5,xe 2 2,(3,1,wH),xe 4 7,xe 5 4],wB 23 (wO 21 22),qf 6 23] (xS 7 (wY 0 [qf 24 7,xJ 25,wK 26 24 25] 26 0 1 (qe [wq 29 [.nils,.nils,qw,qw,.nils] [],qT 8 [.nils,.nils,qw,qw,.nils],qS 5 8 29] (xK [wd 30,yc 31 5 [(0,1,wH),xe 1 2,(2,1,qR),xe 3 3,xe 4 4],wB 32 (wO 30 31),qf 9 32] (ye 2 [qf 33 9,x9 34 33 0] 34 2 3 [xr 37 8,wd 39,xr 41 5,qt 38 37,wx 40 1 3,qt 42 41,qn 43 gU [.t 39,.t 40,.t 42],qO 37 38,qM 44 4 [qw,qw,.nils,qw] 1 [wo 0 4 43],qO 37 38,wU 45 4 48 38 44,xr 46 8,xt 46 45] [qf 35 9,xi 36 35 1,qf 9 36]) (wa [wd 47,xr 48 5,qt 49 48,wg 50 (wO 47 49),qp 51 3 8,xt 51 50] [wd 52,yc 53 5 [xe 0 2,(1,1,wH),xe 2 2,(3,1,wH),xe 4 3],wB 54 (wO 52 53),xo 55 8,xt 55 54] (xK [xJ 56,wJ 57 56 1,qf 58 57,wV 59 58 7,wV 60 58 6,xD 61 58 .sub 60 wH,xD 62 58 .eql 59 (.t 61),wV 63 58 62,xW 64 63 0,qJ 65 63 (xF (xu 64 3)),xv 66 63 .gtr 65 qR,qI 67 58 (qP 63 (.t 66) qU),xE 68 58 67] (qZ 68 (.reg [xo 69 8,qQ 1 69 (qi 3)])) (xK [xo 70 8,qt 71 70] (.blk 4 (xA (yb 73 71 1 72 73) 72 (qe [qp 74 3 8,qQ 1 74 qR] (.reg [wd 75,qf 76 7,xJ 77,qn 78 eM [.t 75,.t 76,.t 77],yc 79 1 [xR 78],qp 80 4 8,xt 80 79])) (qe (yb 82 71 2 81 82) (qZ 81 (.reg [wd 83,qf 84 7,xJ 85,qn 86 eM [.t 83,.t 84,.t 85],wd 87,qf 88 7,xJ 89,qn 90 eM [.t 87,.t 88,.t 89],yc 91 2 [xR 86,wD 1 90],qp 92 4 8,xt 92 91]))))) (.reg [xo 93 5,qt 94 93,wx 95 5 8,qM 96 5 [.nils,.nils,qw,qw,.nils] 1 [wo 0 5 95],wU 97 5 88 94 96,xo 98 5,xt 98 97])))))) [qf 27 7,xU 28 27,qf 7 28]) [wx 99 3 5,qS 3 4 99]))
def gL:FK:=⟨100,[xz 4 3],(AK.whole gT)⟩
theorem so:ay Tryz.prog gX=some gL:=by kernel_rfl
def jF:FK:=⟨43,xV,wa [xb 2 3 0,qc 4 xx] (ya (yc 8 0 []) 5 8) (xS 6 (wY 0 [xJ 9,xo 10 2,qt 11 10,wh 12 11,wK 13 9 12] 13 0 1 (qe (xa 7) (wY 2 [qf 16 7,xo 17 2,qt 18 17,xJ 19,ww 20 5 18 19,qp 21 4 20,qt 22 21,wh 23 22,wK 24 16 23] 24 2 3 (qe [xo 27 2,qt 28 27,xJ 29,ww 30 5 28 29,qp 31 4 30,qt 32 31,qf 33 7,ww 34 1 32 33,qt 35 34,xL 36,wt 37 .eql 35 36] (qZ 37 (qe [xh 38,xJ 39,yc 40 1 [xR 39],wU 41 1 8 38 40,qf 5 41] (.exit 2)))) [qf 25 7,xU 26 25,qf 7 26])) [xJ 14,xU 15 14,qf 6 15]) [xh 42,xN 42])⟩
theorem pR:ay Tryz.prog bX=some jF:=by kernel_rfl
def il:AK:=wa [qT 2 xT] [wq 9 xT [],qT 3 xT,xt 3 9] (xK [wd 10,yc 11 4 [(0,1,wH),xe 1 2,(2,1,wH),xe 3 3],wB 12 (wO 10 11),xN 12] (ye 0 [xy 13,x9 14 13 0] 14 0 1 [xc 17 3,wd 19,qt 18 17,wx 20 1 3,wZ 21 gX 19 20,qO 17 18,qM 22 3 [qw,qw,.nils] 1 [wo 0 3 21],qO 17 18,wU 23 3 40 18 22,xc 24 3,xt 24 23] [xy 15,xi 16 15 1,xN 16]) (wL [wd 25,yc 26 4 [(0,1,qR),(1,1,qR),(2,1,wH),xe 3 3],wB 27 (wO 25 26),qf 5 27] (wY 2 [xh 28,x9 29 28 0] 29 2 3 (wa [xc 32 3,wd 34,xc 35 3,qt 33 32,qt 36 35,wh 37 36,wg 38 (wO 34 37),qO 32 33,ww 39 3 33 38,qf 6 39] [wd 40,xJ 41,qX 42 41,xo 43 42,qt 44 43,wh 45 44,wg 46 (wO 40 45),qf 7 46] (qe [wd 47,xJ 48,qX 49 48,xr 50 49,qt 51 50,wg 52 (wO 47 51),wq 53 [qw,.nils] [xR 52],qT 8 [qw,.nils],qS 2 8 53] (xK [xJ 54,qX 55 54,wx 56 3 55,qf 57 7,wZ 58 bX 56 57,wh 59 58,qc 60 qR] (qY 4 (qe [wK 61 60 59] (.seq (wz 61 4) (wu 5 (.reg [xr 62 8,wd 64,xJ 65,qX 66 65,xr 67 66,qt 63 62,qt 68 67,wg 69 (wO 64 68),qO 62 63,xQ 70 1 xG 1 [xR 69],wU 71 1 8 63 70,xr 72 8,xt 72 71]) (ya (xU 73 60) 60 73))))) (qe [qf 74 7,x9 75 74 0] (qZ 75 (.reg [xJ 76,qX 77 76,xo 78 77,qf 80 7,xJ 81,qX 82 81,xo 83 82,qf 85 7,qt 79 78,qt 84 83,ww 86 5 84 85,xc 87 86,qt 88 87,wx 89 2 8,qM 90 2 [qw,.nils] 1 [wo 0 2 89],qO 78 79,qO 83 84,qO 87 88,wU 91 2 32 88 90,qO 78 79,ww 92 5 79 80,xc 93 92,xt 93 91])))))) [xh 30,xi 31 30 1,qf 5 31]) [wx 94 1 3,xt 2 94]))
def gV:FK:=⟨95,[xz 2 1],(AK.whole il)⟩
theorem ss:ay Tryz.prog cU=some gV:=by kernel_rfl
def dg:AK:=qe [xb 1 5 0,qT 2 [.nils,.nils,qw,qw,.nils]] (.cut (.ot (.one (wA 3 (.c .any)) (.one [xo 9 1] (.one [qp 11 3 1] (.one [qp 14 4 1] (.one [qt 10 9] (.one [qt 12 11] (.one [qt 15 14] (we [qM 7 2 [qw,.nils] 0 [],x6,x8,qO 14 15] (we [qM 8 4 [qw,qw,.nils,qw] 0 [],x6,x8,qO 14 15] (wP [yc 13 0 [],x6,x8,qO 14 15] (wP [wU 16 1 8 13 15,x6,x8] (.one [wq 17 [.nils,.nils,qw,qw,.nils] [xR 7,wD 1 8,wD 2 10,wD 3 12,wD 4 16]] (wP [qT 3 [.nils,.nils,qw,qw,.nils]] (wP [qS 5 3 17] .done))))) (wP [yc 13 0 [],x6,x8,qO 14 15] (we [qM 8 4 [qw,qw,.nils,qw] 0 [],x6,x8,qO 14 15] (wP [wU 16 1 8 13 15,x6,x8] (.one [wq 17 [.nils,.nils,qw,qw,.nils] [xR 7,wD 1 8,wD 2 10,wD 3 12,wD 4 16]] (wP [qT 3 [.nils,.nils,qw,qw,.nils]] (wP [qS 5 3 17] .done)))) (wP [wU 16 1 8 13 15,x6,x8] (wP [qM 8 4 [qw,qw,.nils,qw] 0 [],x6,x8,qO 14 15] (.one [wq 17 [.nils,.nils,qw,qw,.nils] [xR 7,wD 1 8,wD 2 10,wD 3 12,wD 4 16]] (wP [qT 3 [.nils,.nils,qw,qw,.nils]] (wP [qS 5 3 17] .done)))))))) (we [qM 8 4 [qw,qw,.nils,qw] 0 [],x6,x8,qO 14 15] (we [qM 7 2 [qw,.nils] 0 [],x6,x8,qO 14 15] (wP [yc 13 0 [],x6,x8,qO 14 15] (wP [wU 16 1 8 13 15,x6,x8] (.one [wq 17 [.nils,.nils,qw,qw,.nils] [xR 7,wD 1 8,wD 2 10,wD 3 12,wD 4 16]] (wP [qT 3 [.nils,.nils,qw,qw,.nils]] (wP [qS 5 3 17] .done))))) (wP [yc 13 0 [],x6,x8,qO 14 15] (we [qM 7 2 [qw,.nils] 0 [],x6,x8,qO 14 15] (wP [wU 16 1 8 13 15,x6,x8] (.one [wq 17 [.nils,.nils,qw,qw,.nils] [xR 7,wD 1 8,wD 2 10,wD 3 12,wD 4 16]] (wP [qT 3 [.nils,.nils,qw,qw,.nils]] (wP [qS 5 3 17] .done)))) (wP [wU 16 1 8 13 15,x6,x8] (wP [qM 7 2 [qw,.nils] 0 [],x6,x8,qO 14 15] (.one [wq 17 [.nils,.nils,qw,qw,.nils] [xR 7,wD 1 8,wD 2 10,wD 3 12,wD 4 16]] (wP [qT 3 [.nils,.nils,qw,qw,.nils]] (wP [qS 5 3 17] .done)))))))) (wP [yc 13 0 [],x6,x8,qO 14 15] (we [qM 7 2 [qw,.nils] 0 [],x6,x8,qO 14 15] (we [qM 8 4 [qw,qw,.nils,qw] 0 [],x6,x8,qO 14 15] (wP [wU 16 1 8 13 15,x6,x8] (.one [wq 17 [.nils,.nils,qw,qw,.nils] [xR 7,wD 1 8,wD 2 10,wD 3 12,wD 4 16]] (wP [qT 3 [.nils,.nils,qw,qw,.nils]] (wP [qS 5 3 17] .done)))) (wP [wU 16 1 8 13 15,x6,x8] (wP [qM 8 4 [qw,qw,.nils,qw] 0 [],x6,x8,qO 14 15] (.one [wq 17 [.nils,.nils,qw,qw,.nils] [xR 7,wD 1 8,wD 2 10,wD 3 12,wD 4 16]] (wP [qT 3 [.nils,.nils,qw,qw,.nils]] (wP [qS 5 3 17] .done)))))) (we [qM 8 4 [qw,qw,.nils,qw] 0 [],x6,x8,qO 14 15] (we [qM 7 2 [qw,.nils] 0 [],x6,x8,qO 14 15] (wP [wU 16 1 8 13 15,x6,x8] (.one [wq 17 [.nils,.nils,qw,qw,.nils] [xR 7,wD 1 8,wD 2 10,wD 3 12,wD 4 16]] (wP [qT 3 [.nils,.nils,qw,qw,.nils]] (wP [qS 5 3 17] .done)))) (wP [wU 16 1 8 13 15,x6,x8] (wP [qM 7 2 [qw,.nils] 0 [],x6,x8,qO 14 15] (.one [wq 17 [.nils,.nils,qw,qw,.nils] [xR 7,wD 1 8,wD 2 10,wD 3 12,wD 4 16]] (wP [qT 3 [.nils,.nils,qw,qw,.nils]] (wP [qS 5 3 17] .done)))))) (wP [wU 16 1 8 13 15,x6,x8] (we [qM 7 2 [qw,.nils] 0 [],x6,x8,qO 14 15] (wP [qM 8 4 [qw,qw,.nils,qw] 0 [],x6,x8,qO 14 15] (.one [wq 17 [.nils,.nils,qw,qw,.nils] [xR 7,wD 1 8,wD 2 10,wD 3 12,wD 4 16]] (wP [qT 3 [.nils,.nils,qw,qw,.nils]] (wP [qS 5 3 17] .done)))) (wP [qM 8 4 [qw,qw,.nils,qw] 0 [],x6,x8,qO 14 15] (wP [qM 7 2 [qw,.nils] 0 [],x6,x8,qO 14 15] (.one [wq 17 [.nils,.nils,qw,qw,.nils] [xR 7,wD 1 8,wD 2 10,wD 3 12,wD 4 16]] (wP [qT 3 [.nils,.nils,qw,qw,.nils]] (wP [qS 5 3 17] .done)))))))))))))))))))) (xK (xa 4) (ye 0 [xy 18,xc 19 1,qt 20 19,wh 21 20,wK 22 18 21] 22 0 1 [xc 25 3,xc 27 1,xy 29,xc 34 1,xy 36,qt 26 25,qt 28 27,ww 30 2 28 29,xc 31 30,qt 32 31,qt 35 34,ww 37 2 35 36,xr 38 37,qt 39 38,yc 33 0 [],qO 25 26,qO 27 28,qO 31 32,qO 34 35,qO 38 39,wU 40 1 8 33 39,qO 25 26,qO 27 28,qO 31 32,wq 41 [qw,.nils] [xR 32,wD 1 40],qM 42 2 [qw,.nils] 1 [wo 0 2 41],qO 25 26,wU 43 2 32 26 42,xc 44 3,xt 44 43] [xy 23,xU 24 23,xN 24]) (xS 5 (wY 2 [xh 45,xr 46 1,qt 47 46,wh 48 47,wK 49 45 48] 49 2 3 (qe [xr 52 1,qt 53 52,xh 54,ww 55 4 53 54,wx 56 4 55,qT 6 [qw,qw,.nils,qw],qS 4 6 56] (.reg [xr 57 3,xc 59 6,xr 61 6,xo 64 6,qp 67 3 6,qt 58 57,qt 60 59,qt 62 61,qt 65 64,qt 68 67,yc 63 0 [],qO 57 58,qO 59 60,qO 61 62,qO 64 65,qO 67 68,wU 66 1 8 63 65,qO 57 58,qO 59 60,qO 61 62,qO 67 68,wq 69 [qw,qw,.nils,qw] [xR 60,wD 1 62,wD 2 66,wD 3 68],qM 70 4 [qw,qw,.nils,qw] 1 [wo 0 4 69],qO 57 58,wU 71 4 48 58 70,xr 72 3,xt 72 71])) [xh 50,xU 51 50,qf 5 51]) [wx 73 5 3,qS 5 2 73])))
def da:FK:=⟨74,[xz 2 5],(AK.whole dg)⟩
theorem lu:ay Tryz.prog dd=some da:=by kernel_rfl
def kJ:FK:=⟨29,[xz 2 3],wa [xb 1 3 0,qT 2 [qw,qw,.nils]] [xc 5 1,qt 6 5,xr 7 1,qt 8 7,wq 9 [qw,qw,.nils] [xR 6,wD 1 8],qT 3 [qw,qw,.nils],qS 3 3 9] (xS 4 (ye 0 [xy 10,xo 11 1,qt 12 11,wh 13 12,wK 14 10 13] 14 0 1 [xo 17 3,xo 19 1,xy 21,qt 18 17,qt 20 19,ww 22 5 20 21,wx 23 5 22,xk 24 dd 23,qO 17 18,qM 25 5 [.nils,.nils,qw,qw,.nils] 1 [wo 0 5 24],qO 17 18,wU 26 5 88 18 25,xo 27 3,xt 27 26] [xy 15,xU 16 15,xN 16]) [wx 28 3 3,qS 3 2 28])⟩
theorem rQ:ay Tryz.prog gZ=some kJ:=by kernel_rfl
def gw:FK:=⟨25,[xz 2 1],wa [xb 1 1 0,qT 2 xT] [wq 5 xT [],qT 3 xT,xt 3 5] (xS 4 (ye 0 [xy 6,xc 7 1,qt 8 7,wh 9 8,wK 10 6 9] 10 0 1 [xc 13 3,xc 15 1,xy 17,qt 14 13,qt 16 15,ww 18 3 16 17,wx 19 3 18,xk 20 gZ 19,qO 13 14,qM 21 3 [qw,qw,.nils] 1 [wo 0 3 20],qO 13 14,wU 22 3 40 14 21,xc 23 3,xt 23 22] [xy 11,xU 12 11,xN 12]) [wx 24 1 3,xt 2 24])⟩
theorem lT:ay Tryz.prog dO=some gw:=by kernel_rfl
def gM:AK:=wa [qT 2 xT] [wd 7,xk 8 cU 7,xk 9 dO 8,qT 3 xT,xt 3 9] (wa [xc 10 3,wd 12,xc 13 3,qt 11 10,qt 14 13,wh 15 14,wg 16 (wO 12 15),qO 10 11,ww 17 3 11 16,xN 17] [xy 18,qX 19 18,xo 20 19,wd 22,xy 23,qX 24 23,xo 25 24,qt 21 20,qt 26 25,wh 27 26,wg 28 (wO 22 27),qO 20 21,ww 29 5 21 28,qf 5 29] (qe [wd 30,xy 31,qX 32 31,xr 33 32,xy 35,qX 36 35,xo 37 36,qt 34 33,qt 38 37,wh 39 38,yc 40 5 [xe 0 (-1),wD 1 34,wD 2 39,(3,1,qR),(4,1,wH)],wB 41 (wO 30 40),qf 6 41] (xK [wd 42,wg 43 (xu 42 32)] (.blk 0 (xA (yb 45 43 0 44 45) 44 (.reg [xh 46,wd 47,wg 48 (xu 47 5),qX 49 46,xo 50 49,xt 50 48]) (xA (yb 52 43 1 51 52) 51 (qe [xh 53,qX 54 53,qp 55 4 54,qt 56 55,wh 57 56,x9 58 57 0] (qZ 58 (.reg [xh 59,qX 60 59,qp 61 4 60,qt 62 61,xJ 63,wn 64 1 62 qR,xt 64 63]))) (xA (yb 66 43 2 65 66) 65 (.reg [xh 67,xJ 68,qX 69 67,qp 70 3 69,xt 70 68]) (xA (yb 72 43 3 71 72) 71 (qe [xh 73,qX 74 73,xr 75 74,qt 76 75,wh 77 76,x9 78 77 0] (qZ 78 (.reg [xh 79,qX 80 79,xr 81 80,qt 82 81,xJ 83,wn 84 4 82 qR,xr 85 84,xt 85 83]))) (xA (yb 87 43 4 86 87) 86 (qe [xh 88,qX 89 88,xr 90 89,qt 91 90,wh 92 91,x9 93 92 0] (qZ 93 (.reg [xh 94,qX 95 94,xr 96 95,xh 98,qX 99 98,xr 100 99,xJ 105,xQ 106 1 xG 1 [xR 105],qt 97 96,qt 101 100,wn 102 4 101 qR,xo 103 102,qt 104 103,wU 107 1 8 104 106,qO 96 97,wn 108 4 97 qR,xo 109 108,xt 109 107]))) (xA (yb 111 43 5 110 111) 110 (.reg [xh 112,xh 113,qX 114 113,xc 115 114,qt 116 115,xJ 117,yc 118 1 [xR 117],wq 119 [qw,.nils] [(0,1,qR),wD 1 118],qM 120 2 [qw,.nils] 1 [wo 0 2 119],wU 121 2 32 116 120,qX 122 112,xc 123 122,xt 123 121]) (xA (yb 125 43 6 124 125) 124 (.reg [xy 126,xy 127,qX 128 127,xc 129 128,wd 131,qt 130 129,wg 132 (xu 131 2),qO 129 130,wt 133 .add 130 132,qX 134 126,xr 135 134,xt 135 133]) (qe (yb 137 43 7 136 137) (qZ 136 (qe [xh 138,qX 139 138,xr 140 139,qt 141 140,wh 142 141,x9 143 142 0] (qZ 143 (.reg [xh 144,qX 145 144,xr 146 145,wd 148,xQ 149 1 xG 3 [xe 0 256,xe 1 (-1),(2,1,wH)],qt 147 146,wB 150 (wO 148 149),qO 146 147,wn 151 4 147 qR,qp 152 3 151,xt 152 150]))))))))))))) (qG [wx 153 1 3,xt 2 153]))))
def gO:FK:=⟨154,[xz 2 1],(AK.whole gM)⟩
theorem su:ay Tryz.prog gN=some gO:=by kernel_rfl
def eU:FK:=⟨12,xV,xX (wA 4 (.c wi)) [xL 5,wd 6,xL 7,wh 8 7,wg 9 (wO 6 8),ww 10 1 5 9,qt 11 10,xN 11]⟩
theorem jj:ay Tryz.prog bu=some eU:=by kernel_rfl
def ie:FK:=⟨21,[xz 4 4],qe [qT 4 [qw,qw,wi,.nils]] (wL [xL 5,wh 6 5,wJ 7 6 0,qf 8 7,wV 9 8 0,qI 10 8 (xF (xu 9 3)),xD 11 8 .eql 10 qR,xE 12 8 11] (wy 12 [wd 13,yc 14 10 [(0,1,qR),(1,1,wH),xe 2 2,xe 3 3,xe 4 5,xe 5 7,xe 6 15,xe 7 16,xe 8 100,xe 9 255],wB 15 (wO 13 14),wq 16 [qw,qw,wi,.nils] [(0,1,wH),wD 1 15],qS 4 4 16]) [wd 17,xL 18,wZ 19 bu 17 18,wq 20 [qw,qw,wi,.nils] [xe 0 2,wD 2 19],qS 4 4 20])⟩
theorem rW:ay Tryz.prog eg=some ie:=by kernel_rfl
def en:FK:=⟨47,[xz 6 4],qe [qT 6 [qw,qw,wi,.nils]] (qC [qf 8 2,qB 9 .lss 8 2,qf 10 9,wV 11 10 0,qI 12 10 (xF (xu 11 4)),xD 13 10 .eql 12 qR,xE 14 10 13] (wy 14 [wd 15,xL 16,wZ 17 eg 15 16,qS 4 6 17]) (qC [wd 18,wg 19 (xu 18 7),wJ 20 19 0] (wy 20 [wd 21,yc 22 3 [xe 0 11,xe 1 12,xe 2 11],wB 23 (wO 21 22),wd 24,xL 25,qf 26 2,xi 27 26 1,qn 28 bc [.t 24,.t 25,.t 27],qM 29 4 [qw,qw,wi,.nils] 1 [wo 0 4 28],wq 30 [qw,qw,wi,.nils] [xR 23,wD 3 29],qS 4 6 30]) (xX [wd 31,yc 32 9 [xe 0 3,xe 1 3,xe 2 4,xe 3 5,xe 4 6,xe 5 7,xe 6 8,xe 7 9,xe 8 10],wB 33 (wO 31 32),qf 7 33] [qf 34 7,wd 35,xL 36,qf 37 2,xi 38 37 1,qn 39 bc [.t 35,.t 36,.t 38],wd 40,xL 41,qf 42 2,xi 43 42 1,qn 44 bc [.t 40,.t 41,.t 43],qM 45 4 [qw,qw,wi,.nils] 2 [wo 0 4 39,wo 4 4 44],wq 46 [qw,qw,wi,.nils] [xR 34,wD 3 45],qS 4 6 46])))⟩
theorem kN:ay Tryz.prog bc=some en:=by kernel_rfl
def gk:FK:=⟨99,[xz 4 4],wa [qT 4 [qw,qw,wi,.nils]] [qc 5 (.c .any),wd 9,qX 10 9,xc 11 10,wd 13,qX 14 13,xo 15 14,xL 17,qt 12 11,qt 16 15,qn 18 bc [.t 12,.t 16,.t 17],qT 5 [qw,qw,wi,.nils],qS 4 5 18] (qC [wd 19,qX 20 19,xr 21 20,qt 22 21,wh 23 22,wJ 24 23 0,qf 25 24,wV 26 25 0,qI 27 25 (qA 26),xg 28 25 0 27,wW 29 25 28,qI 30 25 (xF (xu 29 4)),xD 31 25 .gtr 30 qR,xE 32 25 31] (wy 32 [wx 33 4 5,qS 4 4 33]) (wa [qc 6 (.c .any),wd 34,qX 35 34,xr 36 35,wd 38,qX 39 38,xc 40 39,wd 42,qX 43 42,xr 44 43,qt 37 36,qt 41 40,qt 45 44,wh 46 45,wg 47 (wO 41 46),qO 36 37,ww 48 3 37 47,wx 49 3 48,qT 6 [wi,.nils,.nils],qS 3 6 49] [xc 50 6,qt 51 50,wq 52 [qw,qw,wi,.nils] [xe 0 13,wD 2 51],qT 7 [qw,qw,wi,.nils],qS 4 7 52] (qC (xa 8) (ye 0 [qf 53 8,xr 54 6,qt 55 54,wh 56 55,wK 57 53 56] 57 0 1 [qp 60 3 7,wd 62,qX 63 62,xc 64 63,wd 66,qX 67 66,xo 68 67,qt 61 60,qt 65 64,qt 69 68,qn 70 bc [.t 65,.t 69,qi 2],qO 60 61,xQ 71 4 [qw,qw,wi,.nils] 1 [wo 0 4 70],wU 72 4 56 61 71,qp 73 3 7,xt 73 72] [qf 58 8,xU 59 58,qf 8 59]) (wL [wd 74,qX 75 74,xc 76 75,qt 77 76,wg 78 (xu 77 2),wJ 79 78 0] (wy 79 [wx 80 4 7,qS 4 4 80]) [wd 81,qX 82 81,xc 83 82,xQ 85 1 xG 4 [xe 0 3,xe 1 4,xe 2 8,xe 3 10],wd 88,qX 89 88,xc 90 89,wd 92,qX 93 92,xo 94 93,qt 84 83,wx 87 4 7,qt 91 90,qt 95 94,wB 86 (wO 84 85),qz (some 4) 7 87,qO 90 91,qO 94 95,qn 96 bc [.t 91,.t 95,qi 2],qz (some 4) 7 87,qM 97 4 [qw,qw,wi,.nils] 2 [wo 0 4 87,wo 4 4 96],wq 98 [qw,qw,wi,.nils] [xR 86,wD 3 97],qS 4 4 98]))))⟩
theorem mq:ay Tryz.prog dK=some gk:=by kernel_rfl
def fv:FK:=⟨46,xO,wa (wA 2 (.c wi)) [wd 3,wd 4,qX 5 4,qp 6 3 5,qt 7 6,xU 8 7,qX 9 3,qp 10 3 9,xt 10 8] (wL [wd 11,qX 12 11,xc 13 12,qt 14 13,wg 15 (xu 14 9),wJ 16 15 0,qf 17 16,xW 18 17 0,qJ 19 17 (qA 18),xq 20 17 2 19,xm 21 17 20,qJ 22 17 (qW 21),xv 23 17 .gtr 22 qR,xB 24 17 23 qU] (wy 24 [wd 25,qX 26 25,xc 27 26,wd 29,qX 30 29,xo 31 30,qt 28 27,qt 32 31,wZ 33 bu 28 32,qf 2 33]) [wd 34,qX 35 34,qp 36 3 35,wd 39,qX 40 39,qp 41 3 40,qt 37 36,qB 38 .rem 37 24,qt 42 41,qB 43 .rem 42 24,xU 44 43,qb 45 (.slStr (yf [97,98,99,100,101,103,104,105,106,107,108,109,110,112,113,114,115,116,117,118,119,120,121,122]) (some (.t 38)) (some (.t 44))),qf 2 45])⟩
theorem lq:ay Tryz.prog dj=some fv:=by kernel_rfl
def dY:FK:=⟨24,[xz 4 5],wa [xb 3 4 1,qT 4 [qw,wi,.nils,.nils,.nils]] [wd 6,xk 7 dj 6,qf 5 7] (xX [wd 8,qM 9 1 [wi] 0 [],wd 10,qX 11 10,xo 12 11,qt 13 12,wU 14 1 16 9 13,xh 15,qM 16 1 [wi] 1 [xR 15],wU 17 1 16 14 16,qX 18 8,xo 19 18,xt 19 17] [xh 20,wx 21 4 3,qM 22 4 [qw,qw,wi,.nils] 1 [wo 0 4 21],wq 23 [qw,wi,.nils,.nils,.nils] [(0,1,wH),wD 1 20,wD 2 22],qS 5 4 23])⟩
theorem iy:ay Tryz.prog bU=some dY:=by kernel_rfl
def gF:FK:=⟨14,[xz 2 4],xX [qT 2 [qw,qw,wi,.nils]] [wd 3,wd 5,qX 6 5,xc 7 6,xQ 9 1 xG 6 [xe 0 16,xe 1 16,xe 2 16,xe 3 8,xe 4 17,(5,1,qR)],qt 8 7,xM 4 (xu 3 2),qO 7 8,wB 10 (wO 8 9),wq 11 [qw,qw,wi,.nils] [(0,1,wH),wD 1 10],qM 12 4 [qw,qw,wi,.nils] 2 [wo 0 4 4,wo 4 4 11],wq 13 [qw,qw,wi,.nils] [xe 0 7,wD 3 12],qS 4 2 13]⟩
theorem mj:ay Tryz.prog cw=some gF:=by kernel_rfl
def dM:AK:=wa (wA 4 xx) [wd 9,wd 10,qX 11 10,xc 12 11,qt 13 12,yc 14 5 [xe 0 2,xe 1 3,(2,1,wH),(3,1,qR),xe 4 5],wB 15 (wO 13 14),wq 16 [qw,qw,wi,.nils] [(0,1,wH),wD 1 15],wZ 17 bU 9 16,qT 5 [qw,wi,.nils,.nils,.nils],qS 5 5 17] (wa [xr 18 5,qt 19 18,wq 20 [qw,qw,wi,.nils] [xe 0 2,wD 2 19],qT 6 [qw,qw,wi,.nils],qS 4 6 20] [wd 21,xL 22,xi 23 22 1,wZ 24 aN 21 23,qf 7 24] (qe [xr 25 5,qt 26 25,wx 27 4 6,wq 28 [qw,qw,wi,.nils] [(0,1,wH),(1,1,wH)],qM 29 4 [qw,qw,wi,.nils] 2 [wo 0 4 27,wo 4 4 28],wq 30 [qw,qw,wi,.nils] [xe 0 4,wD 3 29],qM 31 4 [qw,qw,wi,.nils] 1 [wo 0 4 30],wq 32 [qw,wi,.nils,.nils,.nils] [xe 0 2,wD 1 26,wD 2 31],qT 8 [qw,wi,.nils,.nils,.nils],qS 5 8 32] (.cut (.reg [wd 33,wd 34,qX 35 34,qp 36 4 35,qt 37 36,xi 38 37 2,qX 39 33,qp 40 4 39,xt 40 38]) (qG [qf 44 7,wx 41 5 5,wx 42 4 6,xQ 43 4 [qw,qw,wi,.nils] 1 [wo 0 4 42],wx 45 5 8,xQ 46 5 [qw,wi,.nils,.nils,.nils] 1 [wo 0 5 45],wU 47 5 96 44 46,qz (some 5) 5 41,qz (some 4) 6 42,wq 48 [qw,wi,.nils,.nils,.nils] [xe 0 6,wD 2 43,wD 3 47],qM 49 5 [qw,wi,.nils,.nils,.nils] 2 [wo 0 5 41,wo 5 5 48],xN 49]))))
def dI:FK:=⟨50,xV,(AK.whole dM)⟩
theorem mH:ay Tryz.prog dB=some dI:=by kernel_rfl
def gi:FK:=⟨128,xV,wa (wA 4 xx) [wd 7,wd 8,qX 9 8,qp 10 4 9,qt 11 10,xi 12 11 1,qX 13 7,qp 14 4 13,xt 14 12] (qe [wd 15,qX 16 15,xc 17 16,qt 18 17,wg 19 (xu 18 13),qf 5 19] (wb 0 (xA [xh 21,qB 22 .lss 21 3,qf 23 22,xW 24 23 0,qJ 25 23 (qA 24),xq 26 23 2 25,xm 27 23 26,qJ 28 23 (qW 27),xv 29 23 .gtr 28 qR,xB 30 23 29 qU,qf 20 30] 20 (qG [wd 31,qX 32 31,xc 33 32,wd 35,qX 36 35,xo 37 36,wd 40,qt 34 33,qt 38 37,wZ 39 bu 34 38,xM 41 (xu 40 3),qM 42 4 [qw,qw,wi,.nils] 1 [wo 0 4 41],wq 43 [qw,wi,.nils,.nils,.nils] [xe 0 2,wD 1 39,wD 2 42],qM 44 5 [qw,wi,.nils,.nils,.nils] 1 [wo 0 5 43],xN 44]) (xA [xh 46,qB 47 .lss 46 5,qf 45 47] 45 (qG [wd 48,wd 49,xM 50 (xu 49 3),wZ 51 bU 48 50,qM 52 5 [qw,wi,.nils,.nils,.nils] 1 [wo 0 5 51],xN 52]) (xA [xh 54,qB 55 .lss 54 7,qf 56 55,wV 57 56 1,xD 58 56 .lss 57 (qi 2),xE 59 56 58,qf 53 59] 53 (qG [wd 60,xM 61 (xu 60 3),qM 62 4 [qw,qw,wi,.nils] 1 [wo 0 4 61],wq 63 [qw,wi,.nils,.nils,.nils] [xe 0 3,wD 2 62],qM 64 5 [qw,wi,.nils,.nils,.nils] 1 [wo 0 5 63],xN 64]) (xA [xh 66,wJ 67 66 7,qf 65 67] 65 (qG [wd 68,xk 69 cw 68,wd 70,xM 71 (xu 70 2),qM 72 4 [qw,qw,wi,.nils] 2 [wo 0 4 69,wo 4 4 71],wq 73 [qw,wi,.nils,.nils,.nils] [xe 0 4,wD 2 72],qM 74 5 [qw,wi,.nils,.nils,.nils] 1 [wo 0 5 73],xN 74]) (xA [xh 76,wJ 77 76 8,qf 75 77] 75 (qG [wd 78,xk 79 cw 78,qM 80 4 [qw,qw,wi,.nils] 1 [wo 0 4 79],wq 81 [qw,qw,wi,.nils] [xe 0 12,wD 3 80],qM 82 4 [qw,qw,wi,.nils] 1 [wo 0 4 81],wq 83 [qw,wi,.nils,.nils,.nils] [xe 0 3,wD 2 82],qM 84 5 [qw,wi,.nils,.nils,.nils] 1 [wo 0 5 83],xN 84]) (xA [xh 86,qB 87 .lss 86 11,qf 85 87] 85 (qe [wd 88,xM 89 (xu 88 3),qM 90 4 [qw,qw,wi,.nils] 1 [wo 0 4 89],wd 91,xL 92,xi 93 92 1,wZ 94 aN 91 93,wq 95 [qw,wi,.nils,.nils,.nils] [xe 0 5,wD 2 90,wD 3 94],qT 6 [qw,wi,.nils,.nils,.nils],qS 5 6 95] (wL [wd 96,qX 97 96,xc 98 97,qt 99 98,wg 100 (xu 99 2),wJ 101 100 0] (qZ 101 (.reg [wd 102,xL 103,xi 104 103 1,wZ 105 aN 102 104,qp 106 4 6,xt 106 105])) [wx 107 5 6,qM 108 5 [qw,wi,.nils,.nils,.nils] 1 [wo 0 5 107],xN 108])) (qe [xh 110,wJ 111 110 11,qf 112 111,xW 113 112 0,qJ 114 112 (qA 113),xq 115 112 0 114,xm 116 112 115,qJ 117 112 (xF (xu 116 3)),xv 118 112 .eql 117 qR,xB 119 112 118 qU,qf 109 119] (wy 109 [wd 120,xM 121 (xu 120 2),qM 122 4 [qw,qw,wi,.nils] 1 [wo 0 4 121],wq 123 [qw,wi,.nils,.nils,.nils] [xe 0 7,wD 2 122],qM 124 5 [qw,wi,.nils,.nils,.nils] 1 [wo 0 5 123],xN 124])))))))) (qG [wd 125,xL 126,wZ 127 dB 125 126,xN 127])))⟩
theorem mv:ay Tryz.prog dt=some gi:=by kernel_rfl
def fH:FK:=⟨40,xV,wa (wA 4 xx) [wd 8,qX 9 8,xo 10 9,qt 11 10,qf 5 11] (qe (ya (qM 12 5 [qw,wi,.nils,.nils,.nils] 0 []) 6 12) (qC [wd 13,qX 14 13,xc 15 14,qt 16 15,yc 17 4 [xe 0 2,xe 1 3,(2,1,wH),xe 3 4],wB 18 (wO 16 17),qf 7 18] (ye 0 [qf 19 7,x9 20 19 0,qf 21 20,xW 22 21 0,qJ 23 21 (qA 22),xq 24 21 4 23,xm 25 21 24,xv 26 21 .gtr 25 qR,xB 27 21 26 qU] 27 0 1 [xJ 30,wd 31,xL 32,wZ 33 dt 31 32,wU 34 5 96 30 33,qf 6 34] [qf 28 7,xi 29 28 1,qf 7 29]) (xX [wd 35,xh 36,qX 37 35,xo 38 37,xt 38 36] [xJ 39,xN 39])))⟩
theorem lI:ay Tryz.prog aN=some fH:=by kernel_rfl
def eN:AK:=wa [qT 6 [wi,.nils,.nils]] [wd 8,qM 9 1 [wi] 3 [(0,1,yf [97]),(1,1,yf [98]),(2,1,yf [99])],qf 10 2,qb 11 (.slS 1 (.t 9) none (some (.t 10))),qX 12 8,xo 13 12,xt 13 11] (qe [wd 14,qf 15 2,xi 16 15 1,qX 17 14,qp 18 3 17,xt 18 16] (.cut (.reg [xL 19,qM 20 1 [wi] 0 [],wd 21,qX 22 21,xo 23 22,qt 24 23,wU 25 1 16 20 24,wq 26 [wi,.nils,.nils] [xR 19,wD 1 25],qT 7 [wi,.nils,.nils],qS 3 7 26]) (qe [wd 27,qn 28 aN (xu 27 3),xo 29 7,xt 29 28] (wL [wd 30,qX 31 30,qp 32 4 31,qt 33 32,x9 34 33 0,qf 35 34,xW 36 35 0,qJ 37 35 (qA 36),xq 38 35 0 37,xm 39 35 38,qJ 40 35 (xF (xu 39 4)),xv 41 35 .gtr 40 qR,xB 42 35 41 qU] (qZ 42 (qe [wd 43,wd 44,qX 45 44,qp 46 4 45,qt 47 46,xi 48 47 1,qX 49 43,qp 50 4 49,xt 50 48] (.reg [xo 51 7,wd 53,qt 52 51,xM 54 (xu 53 2),qO 51 52,xQ 55 4 [qw,qw,wi,.nils] 1 [wo 0 4 54],wq 56 [qw,wi,.nils,.nils,.nils] [xe 0 7,wD 2 55],xQ 57 5 [qw,wi,.nils,.nils,.nils] 1 [wo 0 5 56],wU 58 5 96 52 57,xo 59 7,xt 59 58]))) [wx 60 3 7,qS 3 6 60]))))
def eP:FK:=⟨61,[xz 6 3],(AK.whole eN)⟩
theorem og:ay Tryz.prog cY=some eP:=by kernel_rfl
def jV:FK:=⟨18,xV,qe (xa 4) (xS 5 (wY 0 [xh 6,wd 7,qb 8 (.len true (.t 7)),wK 9 6 8] 9 0 1 (qe [wd 12,xh 13,qb 14 (.idxStr (.t 12) (.t 13)),xL 15,wt 16 .eql 14 15] (wy 16 [xh 17,xN 17])) [xh 10,xU 11 10,qf 5 11]) (wA 4 (qi (-1))))⟩
theorem pP:ay Tryz.prog fW=some jV:=by kernel_rfl
def kb:FK:=⟨28,xO,qe (xa 2) (wb 0 (xA [wd 4,qx 5 .geq 4 (.c (qd .u8 97)),xh 6,xW 7 6 0,xv 8 6 .leq 7 (.c (qd .u8 122)),xB 9 6 8 qU,qf 3 9] 3 (qG (wA 2 wH)) (xA [wd 11,qx 12 .geq 11 (.c (qd .u8 48)),qf 13 12,xW 14 13 0,xv 15 13 .leq 14 (.c (qd .u8 57)),xB 16 13 15 qU,qf 10 16] 10 (qG (wA 2 (qi 2))) (xA [wd 18,qn 19 fW [yf [40,41,123,125,59,44,43,45,42,47,37,60,61,38,33,64],.t 18],qB 20 .geq 19 0,qf 17 20] 17 (qG (wA 2 (qi 3))) (qe [wd 22,qx 23 .eql 22 (.c (qd .u8 32)),qf 24 23,wV 25 24 0,xD 26 24 .eql 25 (.c (qd .u8 10)),xE 27 24 26,qf 21 27] (wM 21 2 (qi 4)))))) (qG (xa 2)))⟩
theorem pz:ay Tryz.prog fh=some kb:=by kernel_rfl
def lY:FK:=⟨21,xV,qe (wA 4 qU) (xS 5 (wY 0 [xh 6,wd 7,qb 8 (.len true (.t 7)),wK 9 6 8] 9 0 1 (qe [wd 12,xh 13,qb 14 (.idxStr (.t 12) (.t 13)),xk 15 fh 14,xL 16,wt 17 .neq 15 16] (xY 17 4)) [xh 10,xU 11 10,qf 5 11]) [wd 18,qb 19 (.len true (.t 18)),x9 20 19 0,xN 20])⟩
theorem tm:ay Tryz.prog iT=some lY:=by kernel_rfl
def jg:FK:=⟨2,xI 0,xX (wA 0 xx) [qM 1 1 [wi] 9 [(0,1,yf [102,110]),(1,1,yf [108,101,116]),(2,1,yf [115,97,121]),(3,1,yf [112,117,116]),(4,1,yf [105,102]),(5,1,yf [101,108,115,101]),(6,1,yf [108,111,111,112]),(7,1,yf [98,97,99,107]),(8,1,yf [100,111])],xL 0]⟩
theorem oy:ay Tryz.prog cX=some jg:=by kernel_rfl
def mz:FK:=⟨18,xO,wa (wA 2 qU) [qn 5 cX [],xh 3] (xS 4 (wY 0 [xy 6,qf 7 3,wh 8 7,wK 9 6 8] 9 0 1 (qe [qf 12 3,xy 13,ww 14 1 12 13,qt 15 14,wd 16,qb 17 (.bins .eql (.t 15) (.t 16))] (wM 17 2 wF)) [xy 10,xU 11 10,xN 11]) (wA 2 qU))⟩
theorem tE:ay Tryz.prog iV=some mz:=by kernel_rfl
def kS:FK:=⟨15,xO,xX (wA 2 qU) [wd 3,qn 4 iT (wN 3 wH),xy 5,xW 6 5 0,qJ 7 5 (.len true (.t 6)),xv 8 5 .leq 7 (qi 4),xB 9 5 8 qU,qf 10 9,xW 11 10 0,qJ 12 10 (.call iV (xj 11)),qJ 13 10 (wC 12),xB 14 10 13 qU,qf 2 14]⟩
theorem rO:ay Tryz.prog bA=some kS:=by kernel_rfl
def ij:FK:=⟨5,xO,qe (xa 2) (wL [wd 3,wJ 4 3 4] (wM 4 2 (qi 2)) (wA 2 wH))⟩
theorem rZ:ay Tryz.prog ee=some ij:=by kernel_rfl
def bR:FK:=⟨13,[.t 2,.t 3],qe [qc 2 qR,qc 3 qR] (wL [wd 4] (.blk 0 (qC [wJ 6 4 1,xJ 5] (qv 5 .skip (.reg (yb 7 4 2 5 7))) (qv 5 (qG [qc 2 qR,qc 3 qR]) (qC (yb 9 4 11 8 9) (qv 8 .skip (.reg (yb 10 4 12 8 10))) (qv 8 (qG [qc 2 wH,qc 3 wH]) (qe (yb 12 4 13 11 12) (wy 11 [qc 2 qR,qc 3 (qi 3)]))))))) [qc 2 (qi 2),qc 3 (qi 2)])⟩
theorem si:ay Tryz.prog eD=some bR:=by kernel_rfl
def eC:FK:=⟨86,xV,wa [xb 2 4 0,qc 4 qU] [xc 10 2,qt 11 10,xk 12 eD 11,qf 9 12,qb 13 (.ext 0 (.t 9)),qb 14 (.ext 1 (.t 9)),qf 5 13,qf 6 14] (qC [xL 15,qB 16 .lss 15 1,qf 17 16,xg 18 17 0 2,wW 19 17 18,qI 20 17 (xf [.t 19,wH,qi 13]),qI 21 17 (wC 20),xE 22 17 21,qf 23 22,xg 24 23 3 2,wW 25 23 24,qI 26 23 (qW 25),wV 27 23 5,wV 28 23 6,qI 29 23 (xf [.t 26,.t 27,.t 28]),qI 30 23 (wC 29),xE 31 23 30] (xY 31 4) (qe [xc 32 2,qt 33 32,wJ 34 33 2,qf 35 34,xg 36 35 0 2,wW 37 35 36,xD 38 35 .eql 37 (qi 13),xE 39 35 38,qf 7 39] (qC [qf 40 7,xo 41 2,qt 42 41,xk 43 bA 42,qb 44 (.beq true (.t 40) (.t 43)),qf 45 44,wV 46 45 7,qI 47 45 (wC 46),wV 48 45 47,xq 49 48 2 2,xm 50 48 49,qJ 51 48 (.bins .neq (.t 50) (.c wi)),qI 52 45 (qP 48 (.t 51) qU),xE 53 45 52,qf 54 53,xg 55 54 1 2,wW 56 54 55,qI 57 54 (xf [.t 56,qR,qi 255]),qI 58 54 (wC 57),xE 59 54 58,qf 60 59,xg 61 60 0 2,wW 62 60 61,xD 63 60 .neq 62 wH,wV 64 60 63,xq 65 64 1 2,xm 66 64 65,xv 67 64 .neq 66 qR,qI 68 60 (qP 64 (.t 67) qU),xE 69 60 68] (xY 69 4) (xS 8 (wY 0 [qf 70 8,qp 71 3 2,qt 72 71,wh 73 72,wK 74 70 73] 74 0 1 (qe [qp 77 3 2,qt 78 77,qf 79 8,ww 80 4 78 79,wx 81 4 80,xL 82,xi 83 82 1,wZ 84 cS 81 83,xZ 85 84] (xY 85 4)) [qf 75 8,xU 76 75,qf 8 76]) (wA 4 wF)))))⟩
theorem kO:ay Tryz.prog cS=some eC:=by kernel_rfl
def jG:FK:=⟨21,xO,wa [xb 1 4 0,qc 2 qR] (wA 3 wH) (xS 4 (ye 0 [xy 5,qp 6 3 1,qt 7 6,wh 8 7,wK 9 5 8] 9 0 1 [qf 12 3,qp 13 3 1,qt 14 13,xy 15,ww 16 4 14 15,wx 17 4 16,xk 18 dL 17,wt 19 .add 12 18,qf 3 19] [xy 10,xU 11 10,xN 11]) (ya (qf 20 3) 2 20))⟩
theorem pn:ay Tryz.prog dL=some jG:=by kernel_rfl
def iv:FK:=⟨10,xO,xX [xb 1 4 0,qc 2 qU] [wx 3 4 1,qn 4 cS (xu 3 6),xy 5,qJ 6 5 (qV 4 1),qJ 7 5 (.call dL (xj 6)),xv 8 5 .leq 7 (qi 30),xB 9 5 8 qU,qf 2 9]⟩
theorem nA:ay Tryz.prog cG=some iv:=by kernel_rfl
def eB:FK:=⟨108,xV,qe [xb 2 5 0,qc 4 qU] (qC [xL 7,qB 8 .lss 7 1,qf 9 8,xg 10 9 0 2,wW 11 9 10,qI 12 9 (xf [.t 11,wH,qi 8]),qI 13 9 (wC 12),xE 14 9 13,qf 15 14,xg 16 15 2 2,xg 19 15 0 2,wW 17 15 16,qI 18 15 (qW 17),wW 20 15 19,qI 21 15 (.qcall ee (xj 20)),xD 22 15 .neq 18 (.t 21),xE 23 15 22] (xY 23 4) (qe [xc 24 2,qt 25 24,wJ 26 25 1,qf 27 26,xg 28 27 0 2,wW 29 27 28,xD 30 27 .eql 29 (qi 2),xE 31 27 30,qf 5 31] (qC [xh 32,xr 33 2,qt 34 33,xk 35 bA 34,qb 36 (.beq true (.t 32) (.t 35)),qf 37 36,wV 38 37 5,qI 39 37 (wC 38),wV 40 37 39,xq 41 40 1 2,xm 42 40 41,qJ 43 40 (.bins .neq (.t 42) (.c wi)),qI 44 37 (qP 40 (.t 43) qU),xE 45 37 44] (xY 45 4) (qC (xa 6) (wY 0 [xJ 46,xo 47 2,qt 48 47,wh 49 48,wK 50 46 49] 50 0 1 (qe [xo 53 2,qt 54 53,xJ 55,ww 56 4 54 55,wx 57 4 56,xk 58 cG 57,xZ 59 58] (xY 59 4)) [xJ 51,xU 52 51,qf 6 52]) (qC [xc 60 2,qt 61 60,wJ 62 61 8,qf 63 62,xq 64 63 2 2,xm 65 63 64,qJ 66 63 (qN 4 65 qR),xq 67 63 0 66,xm 68 63 67,xv 69 63 .neq 68 (qi 13),xB 70 63 69 qU] (xY 70 4) (wL [qp 71 4 2,qt 72 71,wh 73 72,x9 74 73 0,qf 75 74,xq 76 75 0 2,xm 77 75 76,xv 78 75 .neq 77 (qi 5),xB 79 75 78 qU,qf 80 79,xg 81 80 3 2,wW 82 80 81,qI 83 80 (qW 82),xD 84 80 .gtr 83 qR,wV 85 80 84,xq 86 85 0 2,xm 87 85 86,xv 88 85 .neq 87 (qi 5),qI 89 80 (qP 85 (.t 88) qU),wV 90 80 89,xq 91 90 0 2,xm 92 90 91,xv 93 90 .neq 92 (qi 6),qI 94 80 (qP 90 (.t 93) qU),xE 95 80 94] (xY 95 4) [qp 96 3 2,qt 97 96,xL 98,xi 99 98 1,wZ 100 bm 97 99,qf 101 100,xq 102 101 4 2,xm 103 101 102,xW 104 101 1,xv 105 101 .sub 104 wH,qJ 106 101 (.call bm (wO 103 105)),xB 107 101 106 qU,xN 107]))))))⟩
theorem kF:ay Tryz.prog er=some eB:=by kernel_rfl
def jU:FK:=⟨19,xV,qe (wA 4 qU) (xS 5 (wY 0 [xh 6,wd 7,wh 8 7,wK 9 6 8] 9 0 1 (qe [wd 12,xh 13,ww 14 5 12 13,wx 15 5 14,xL 16,wZ 17 er 15 16,xZ 18 17] (xY 18 4)) [xh 10,xU 11 10,qf 5 11]) (wA 4 wF))⟩
theorem pc:ay Tryz.prog bm=some jU:=by kernel_rfl
def nP:FK:=⟨32,xO,qe [xb 1 3 0,qc 2 qU] (xS 3 (wY 0 [xN 3,xr 5 1,qt 6 5,wh 7 6,wK 8 4 7] 8 0 1 (qe [xr 11 1,qt 12 11,qf 13 3,ww 14 1 12 13,qt 15 14,xk 16 bA 15,xZ 17 16] (xY 17 2)) [qf 9 3,xU 10 9,qf 3 10]) [xc 18 1,qt 19 18,xk 20 bA 19,qf 21 20,xq 22 21 1 1,xm 23 21 22,qJ 24 21 (qW 23),xv 25 21 .leq 24 (qi 3),xB 26 21 25 qU,qf 27 26,xq 28 27 2 1,xm 29 27 28,qJ 30 27 (.call bm (xu 29 4)),xB 31 27 30 qU,qf 2 31])⟩
theorem uZ:ay Tryz.prog jX=some nP:=by kernel_rfl
def fU:FK:=⟨29,xO,wa (xa 2) [wd 5,wh 6 5,xJ 3] (xS 4 (ye 0 [xy 7,wd 8,wh 9 8,wK 10 7 9] 10 0 1 [qf 13 3,wd 14,xy 15,ww 16 5 14 15,qp 17 3 16,wd 21,xy 22,ww 23 5 21 22,qp 24 4 23,qt 18 17,qt 25 24,xk 19 cB 18,qO 24 25,wt 20 .add 13 19,xk 26 cB 25,wt 27 .add 20 26,qf 3 27] [xy 11,xU 12 11,xN 12]) (ya (qf 28 3) 2 28))⟩
theorem ke:ay Tryz.prog cB=some fU:=by kernel_rfl
def mC:FK:=⟨22,xO,wa [xb 1 1 0,qc 2 qR] (xa 3) (xS 4 (ye 0 [xy 5,xc 6 1,qt 7 6,wh 8 7,wK 9 5 8] 9 0 1 [qf 12 3,xc 13 1,qt 14 13,xy 15,ww 16 3 14 15,xo 17 16,qt 18 17,xk 19 cB 18,wt 20 .add 12 19,qf 3 20] [xy 10,xU 11 10,xN 11]) (ya (qf 21 3) 2 21))⟩
theorem tH:ay Tryz.prog iQ=some mC:=by kernel_rfl
def eV:FK:=⟨26,xO,qe [xb 1 1 0,qc 2 qU] (qC [xc 4 1,qt 5 4,wh 6 5,xP 7 [.t 6,wH,qi 4],xZ 8 7] (xY 8 2) (xS 3 (wY 0 [qf 9 3,xc 10 1,qt 11 10,wh 12 11,wK 13 9 12] 13 0 1 (qe [xc 16 1,qt 17 16,qf 18 3,ww 19 3 17 18,wx 20 3 19,xk 21 jX 20,xZ 22 21] (xY 22 2)) [qf 14 3,xU 15 14,qf 3 15]) [wx 23 1 1,xk 24 iQ 23,qB 25 .leq 24 40,qf 2 25]))⟩
theorem kA:ay Tryz.prog cQ=some eV:=by kernel_rfl
def kU:FK:=⟨69,[xz 2 1],wa [qT 2 xT] [wd 8,wd 9,yc 10 4 [xe 0 14,xe 1 20,xe 2 8,xe 3 26],wB 11 (wO 9 10),wq 12 [.nilp,.nils,.nils,qw,qw] [xR 8,wD 4 11],xb 13 5 12,qf 3 13] (qC [wd 14,yc 15 4 [(0,1,qR),(1,1,wH),(2,1,wH),xe 3 2],wB 16 (wO 14 15),xN 16] (wY 0 [xy 17,x9 18 17 0] 18 0 1 (qe [qc 5 (.c .any),qf 21 3,xQ 22 1 [wi] 3 [(0,1,yf [102]),(1,1,yf [103]),(2,1,yf [104])],qf 23 3,qX 24 23,xr 25 24,wd 30,qt 26 25,wh 27 26,ww 28 1 22 27,qt 29 28,wg 31 (xu 30 3),qO 25 26,qO 28 29,qn 32 cY [.t 21,.t 29,.t 31],qT 5 [wi,.nils,.nils],qS 3 5 32] (.reg [qf 33 3,qf 34 3,qX 35 34,xr 36 35,qt 37 36,wx 38 3 5,xQ 39 3 [wi,.nils,.nils] 1 [wo 0 3 38],wU 40 3 64 37 39,qX 41 33,xr 42 41,xt 42 40])) [xy 19,xi 20 19 1,xN 20]) (wa [qf 43 3,wd 44,yc 45 4 [(0,1,qR),(1,1,wH),xe 2 2,(3,1,wH)],wB 46 (wO 44 45),qn 47 cY [.t 43,yf [109],.t 46],qT 6 [wi,.nils,.nils],qS 3 6 47] [qc 7 (.c .any),qf 49 3,qX 50 49,xr 51 50,qt 52 51,wx 54 3 6,xQ 55 3 [wi,.nils,.nils] 1 [wo 0 3 54],qM 48 3 [wi,.nils,.nils] 0 [],qO 51 52,qz (some 3) 6 54,wU 53 3 64 48 52,qz (some 3) 6 54,wU 56 3 64 53 55,wq 57 xT [xR 56],qT 7 xT,xt 7 57] (wL [wx 58 1 7,xk 59 cQ 58,xZ 60 59] (wy 60 [wq 61 [qw,qw,wi,.nils] [(0,1,wH),(1,1,wH)],qM 62 4 [qw,qw,wi,.nils] 1 [wo 0 4 61],wq 63 [qw,wi,.nils,.nils,.nils] [xe 0 3,wD 2 62],qM 64 5 [qw,wi,.nils,.nils,.nils] 1 [wo 0 5 63],wq 65 [wi,.nils,.nils] [(0,1,yf [109]),wD 2 64],qM 66 3 [wi,.nils,.nils] 1 [wo 0 3 65],wq 67 xT [xR 66],xt 2 67]) [wx 68 1 7,xt 2 68])))⟩
theorem rT:ay Tryz.prog eA=some kU:=by kernel_rfl
def ju:FK:=⟨4,xO,qe (xa 2) (wL [wd 3] (wM 3 2 wH) (xa 2))⟩
theorem pA:ay Tryz.prog fq=some ju:=by kernel_rfl
def gY:FK:=⟨35,xO,wa (xa 2) (xa 3) (xS 4 (ye 0 [xy 5,wd 6,wh 7 6,wK 8 5 7] 8 0 1 [qf 11 3,wd 12,xy 13,ww 14 5 12 13,xc 15 14,wd 20,xy 21,ww 22 5 20 21,qp 23 3 22,wd 27,xy 28,ww 29 5 27 28,qp 30 4 29,qt 16 15,wJ 17 16 1,qt 24 23,qt 31 30,xk 18 fq 17,qO 23 24,qO 30 31,wt 19 .add 11 18,xk 25 cT 24,qO 30 31,wt 26 .add 19 25,xk 32 cT 31,wt 33 .add 26 32,qf 3 33] [xy 9,xU 10 9,xN 10]) (ya (qf 34 3) 2 34))⟩
theorem kK:ay Tryz.prog cT=some gY:=by kernel_rfl
def cZ:FK:=⟨25,xO,wa (xa 2) [wd 3,wd 4,qX 5 4,xr 6 5,xo 7 6,qt 8 7,qM 9 2 [qw,.nils] 0 [],qM 10 4 [qw,qw,.nils,qw] 0 [],yc 11 0 [],wq 12 [.nils,.nils,qw,qw,.nils] [xR 9,wD 1 10,wD 4 11],qM 13 5 [.nils,.nils,qw,qw,.nils] 1 [wo 0 5 12],wU 14 5 88 8 13,qX 15 3,xr 16 15,xo 17 16,xt 17 14] (qG [wd 18,qX 19 18,xr 20 19,xo 21 20,qt 22 21,wh 23 22,xi 24 23 1,qf 2 24])⟩
theorem fy:ay Tryz.prog bF=some cZ:=by kernel_rfl
def gE:FK:=⟨37,[],wa [wd 11,qX 12 11,xr 13 12,xo 14 13,wd 16,qX 17 16,qp 18 4 17,qt 15 14,qt 19 18,ww 20 5 15 19,qf 10 20] [qf 21 10,xL 22,qX 23 21,xo 24 23,xt 24 22] (wa [qf 25 10,qf 26 2,qX 27 25,qp 28 3 27,xt 28 26] [qf 29 10,qf 30 3,qX 31 29,qp 32 4 31,xt 32 30] (.reg [wd 33,xy 34,qX 35 33,qp 36 4 35,xt 36 34]))⟩
theorem mi:ay Tryz.prog bg=some gE:=by kernel_rfl
def fG:FK:=⟨19,xO,wa (xa 2) [wd 3,wd 4,qX 5 4,xr 6 5,xr 7 6,qt 8 7,xU 9 8,qX 10 3,xr 11 10,xr 12 11,xt 12 9] (qG [wd 13,qX 14 13,xr 15 14,xr 16 15,qt 17 16,xi 18 17 1,qf 2 18])⟩
theorem lJ:ay Tryz.prog bj=some fG:=by kernel_rfl
def dZ:FK:=⟨37,xI 10,wa (xa 10) [wd 12,qX 13 12,xr 14 13,xo 15 14,wd 17,qX 18 17,qp 19 4 18,qt 16 15,qt 20 19,ww 21 5 16 20,qf 11 21] (xX [qf 22 11,qf 23 11,qX 24 23,xr 25 24,qt 26 25,xL 27,qf 28 2,xy 29,qf 30 3,wq 31 [qw,qw,.nils,qw] [xR 27,wD 1 28,wD 2 29,wD 3 30],qM 32 4 [qw,qw,.nils,qw] 1 [wo 0 4 31],wU 33 4 48 26 32,qX 34 22,xr 35 34,xt 35 33] (ya (qf 36 2) 10 36))⟩
theorem nq:ay Tryz.prog bB=some dZ:=by kernel_rfl
def eb:FK:=⟨34,xV,qe (xa 4) (wL [wd 6,qX 7 6,qp 8 5 7,qt 9 8,wh 10 9,xi 11 10 1,qf 5 11] (wY 0 [xh 12,qB 13 .geq 12 0] 13 0 1 (qe [wd 16,qX 17 16,qp 18 5 17,qt 19 18,xh 20,ww 21 3 19 20,xc 22 21,qt 23 22,xL 24,qb 25 (.bins .eql (.t 23) (.t 24))] (wy 25 [wd 26,qX 27 26,qp 28 5 27,qt 29 28,xh 30,ww 31 3 29 30,xr 32 31,qt 33 32,xN 33])) [xh 14,xi 15 14 1,qf 5 15]) (wA 4 (qi (-1))))⟩
theorem ni:ay Tryz.prog cI=some eb:=by kernel_rfl
def iA:FK:=⟨56,xV,wa [xb 3 4 1,qc 4 qR] [wd 11,qp 12 3 3,qt 13 12,wn 14 4 13 qR,wx 15 4 14,wZ 16 aU 11 15,qf 5 16] (wa [wd 17,wd 18,xC 19 18,yc 20 0 [],wX 21 [.t 17,wH,.t 19,qR,.t 20],qf 6 21] [wd 22,xl 23 22,qf 7 23] (wa [wd 24,xl 25 24,qf 8 25] [wd 26,xh 27,qf 28 7,qf 29 8,yc 30 2 [xR 28,wD 1 29],qf 31 7,xp 32 [.t 26,qi 2,.t 27,.t 30,.t 31]] (wa [wd 33,qp 34 3 3,qt 35 34,wn 36 4 35 wH,wx 37 4 36,wZ 38 aU 33 37,qf 9 38] [wd 39,wd 40,xC 41 40,qf 42 9,yc 43 1 [xR 42],wX 44 [.t 39,qi 10,.t 41,qR,.t 43],qf 10 44] (wa [wd 45,xJ 46,qf 47 10,yc 48 1 [xR 47],wX 49 [.t 45,qi 10,.t 46,qR,.t 48]] [wd 50,qf 51 8,yc 52 1 [xR 51],qf 53 8,xp 54 [.t 50,wH,qR,.t 52,.t 53]] (qG [xJ 55,xN 55])))))⟩
theorem nB:ay Tryz.prog dR=some iA:=by kernel_rfl
def nT:FK:=⟨22,xV,qe [xb 2 1 0,qc 4 qR] (xS 5 (wY 0 [xh 6,xc 7 2,qt 8 7,wh 9 8,wK 10 6 9] 10 0 1 (qe [xc 13 2,qt 14 13,xh 15,ww 16 3 14 15,xc 17 16,qt 18 17,xL 19,qb 20 (.bins .eql (.t 18) (.t 19))] (wy 20 [xh 21,xN 21])) [xh 11,xU 12 11,qf 5 12]) (wA 4 (qi (-1))))⟩
theorem uU:ay Tryz.prog jp=some nT:=by kernel_rfl
def bM:FK:=⟨84,xV,qe [xb 3 4 1,qc 4 qR] (qC [xc 7 3,qt 8 7] (.blk 0 (xA (yb 10 8 1 9 10) 9 (qG [wd 11,wd 12,xr 14 3,xQ 16 1 xG 0 [],qt 15 14,xC 13 12,qO 14 15,wX 17 [.t 11,wH,.t 13,.t 15,.t 16],xN 17]) (xA (yb 19 8 2 18 19) 18 (qG [wd 20,xo 21 3,qt 22 21,wZ 23 cI 20 22,xN 23]) (qe (yb 25 8 10 24 25) (wy 24 [wd 26,wx 27 4 3,wZ 28 dR 26 27,xN 28]))))) (qe (ya (yc 29 0 []) 5 29) (qC (xa 6) (ye 1 [xJ 30,qp 31 3 3,qt 32 31,wh 33 32,wK 34 30 33] 34 1 2 [xh 37,wd 38,qp 39 3 3,qt 40 39,xJ 41,ww 42 4 40 41,wx 43 4 42,wZ 44 aU 38 43,yc 45 1 [xR 44],wU 46 1 8 37 45,qf 5 46] [xJ 35,xU 36 35,qf 6 36]) (wL [xc 47 3,qt 48 47] (.blk 3 (xA (yb 50 48 11 49 50) 49 (qG [wd 51,wd 52,xC 53 52,xh 54,wX 55 [.t 51,qi 10,.t 53,qR,.t 54],xN 55]) (xA (yb 57 48 12 56 57) 56 (qG [wd 58,wd 59,xC 60 59,xh 61,wX 62 [.t 58,qi 11,.t 60,qR,.t 61],xN 62]) (qe (yb 64 48 13 63 64) (wy 63 [wd 65,wd 66,wd 68,qX 69 68,xc 70 69,xo 72 3,xh 75,wx 71 1 70,qt 73 72,xC 67 66,qz (some 1) 70 71,qO 72 73,wZ 74 jp 71 73,wX 76 [.t 65,qi 14,.t 67,.t 74,.t 75],xN 76]))))) [wd 77,xc 78 3,wd 80,xh 82,qt 79 78,xC 81 80,qO 78 79,wX 83 [.t 77,.t 79,.t 81,qR,.t 82],xN 83]))))⟩
theorem lS:ay Tryz.prog aU=some bM:=by kernel_rfl
def gz:FK:=⟨41,[],wa [xb 3 5 1] [wd 8,xl 9 8,xN 9] (wa [wd 10,xl 11 10,qf 5 11] [wd 12,xl 13 12,qf 6 13] (wa [wd 14,xy 15,yc 16 1 [xR 15],xy 17,xp 18 [.t 14,wH,qR,.t 16,.t 17]] [wd 19,xo 20 3,qt 21 20,wn 22 4 21 qR,wx 23 4 22,wZ 24 aU 19 23,qf 7 24] (wa [wd 25,qf 26 7,xh 27,xJ 28,yc 29 2 [xR 27,wD 1 28],xh 30,xp 31 [.t 25,qi 2,.t 26,.t 29,.t 30]] [wd 32,qp 33 3 3,qt 34 33,wZ 35 aW 32 34] (.reg [wd 36,xy 37,yc 38 1 [xR 37],xJ 39,xp 40 [.t 36,wH,qR,.t 38,.t 39]]))))⟩
theorem lX:ay Tryz.prog dA=some gz:=by kernel_rfl
def dx:FK:=⟨132,[],qe [xb 3 5 1] (qC [xc 9 3,qt 10 9,wJ 11 10 6] (wy 11 [wd 12,wx 13 5 3,wZ 14 dA 12 13]) (qe [yc 15 0 [],xN 15] (qC (xa 5) (ye 0 [xh 16,xo 17 3,qt 18 17,wh 19 18,wK 20 16 19] 20 0 1 [xy 23,wd 24,xo 25 3,qt 26 25,xh 27,ww 28 4 26 27,wx 29 4 28,wZ 30 aU 24 29,yc 31 1 [xR 30],wU 32 1 8 23 31,xN 32] [xh 21,xU 22 21,qf 5 22]) (qe [xc 33 3,qt 34 33] (.blk 2 (xA (yb 36 34 1 35 36) 35 (wa [wd 37,wd 38,qX 39 38,qp 40 6 39,qt 41 40,xy 42,wX 43 [.t 37,qi 2,.t 41,qR,.t 42]] [wd 44,wd 45,qX 46 45,qp 47 5 46,xr 49 3,wd 51,qX 52 51,qp 53 6 52,qt 48 47,qt 50 49,qt 54 53,wq 55 [wi,qw,qw] [xR 50,wD 1 54,(2,1,qR)],xQ 56 3 [wi,qw,qw] 1 [wo 0 3 55],wU 57 3 32 48 56,qX 58 44,qp 59 5 58,xt 59 57] (.reg [wd 60,wd 61,qX 62 61,qp 63 6 62,qt 64 63,xU 65 64,qX 66 60,qp 67 6 66,xt 67 65])) (xA (yb 69 34 2 68 69) 68 (.reg [wd 70,wd 71,xr 72 3,qt 73 72,wZ 74 cI 71 73,xy 75,wX 76 [.t 70,qi 2,.t 74,qR,.t 75]]) (xA (yb 78 34 3 77 78) 77 (.reg [wd 79,xy 80,wX 81 [.t 79,qi 13,qi (-1),qR,.t 80]]) (xA (yb 83 34 4 82 83) 82 (.reg [wd 84,xy 85,wX 86 [.t 84,qi 12,qi (-1),qR,.t 85]]) (xA (yb 88 34 7 87 88) 87 (.reg [wd 89,xy 90,wn 91 1 90 qR,xQ 93 1 xG 0 [],wd 94,qt 92 91,xl 95 94,qO 91 92,xp 96 [.t 89,qi 3,.t 92,.t 93,.t 95]]) (qe (yb 98 34 5 97 98) (qZ 97 (wa [wd 99,xl 100 99,qf 6 100] [wd 101,xl 102 101,qf 7 102] (wa [wd 103,xl 104 103,qf 8 104] [wd 105,xy 106,wn 107 1 106 qR,qt 108 107,xJ 109,qf 110 7,yc 111 2 [xR 109,wD 1 110],xJ 112,xp 113 [.t 105,qi 2,.t 108,.t 111,.t 112]] (wa [wd 114,qp 115 3 3,qt 116 115,wZ 117 aW 114 116] [wd 118,qf 119 8,yc 120 1 [xR 119],qf 121 7,xp 122 [.t 118,wH,qR,.t 120,.t 121]] (qe [wd 123,qp 124 4 3,qt 125 124,wZ 126 aW 123 125] (.reg [wd 127,qf 128 8,yc 129 1 [xR 128],qf 130 8,xp 131 [.t 127,wH,qR,.t 129,.t 130]])))))))))))))))))⟩
theorem lR:ay Tryz.prog dC=some dx:=by kernel_rfl
def de:FK:=⟨32,[],qe [wd 6,qX 7 6,qp 8 5 7,qt 9 8,wh 10 9,xN 10] (qC (xa 5) (ye 0 [xh 11,xL 12,wh 13 12,wK 14 11 13] 14 0 1 [wd 17,xL 18,xh 19,ww 20 5 18 19,wx 21 5 20,wZ 22 dC 17 21] [xh 15,xU 16 15,qf 5 16]) (.reg [wd 23,wd 24,qX 25 24,qp 26 5 25,qt 27 26,xy 28,qb 29 (.slS 3 (.t 27) none (some (.t 28))),qX 30 23,qp 31 5 30,xt 31 29]))⟩
theorem lF:ay Tryz.prog aW=some de:=by kernel_rfl
def nV:FK:=⟨80,[xz 4 3],wa [xb 2 1 0,qT 4 [qw,qw,.nils]] [xc 9 2,qt 10 9,xL 11,ww 12 3 10 11,wx 13 3 12,qT 5 [wi,.nils,.nils],qS 3 5 13] (wa [wx 14 1 2,xr 15 5,qt 16 15,wh 17 16,wq 18 [.nils,qw,qw,.nils,qw,.nils,qw,.nils] [xR 14,wD 6 17],xb 19 8 18,qf 6 19] [xJ 20,xr 21 5,qt 22 21,wh 23 22,qX 24 20,xr 25 24,xc 26 25,xt 26 23] (qe [xJ 27,xr 28 5,xo 31 5,qt 29 28,wh 30 29,qt 32 31,xk 33 cT 32,qO 28 29,wt 34 .add 30 33,qX 35 27,xr 36 35,xr 37 36,xt 37 34] (qC (xa 7) (ye 0 [qf 38 7,xr 39 5,qt 40 39,wh 41 40,wK 42 38 41] 42 0 1 [xJ 45,xJ 46,qX 47 46,qp 48 5 47,xr 50 5,qf 52 7,qf 55 7,qt 49 48,qt 51 50,ww 53 1 51 52,qt 54 53,wq 56 [wi,qw,qw] [xR 54,wD 1 55,(2,1,qR)],xQ 57 3 [wi,qw,qw] 1 [wo 0 3 56],wU 58 3 32 49 57,qX 59 45,qp 60 5 59,xt 60 58] [qf 43 7,xU 44 43,qf 7 44]) (wa [xJ 61,xl 62 61] [xJ 63,xo 64 5,qt 65 64,wZ 66 aW 63 65] (wa [xJ 67,xJ 68,xC 69 68,yc 70 0 [],wX 71 [.t 67,wH,.t 69,qR,.t 70],qf 8 71] [xJ 72,qf 73 8,yc 74 0 [],xp 75 [.t 72,qi 3,.t 73,.t 74,qR]] (qG [xJ 76,qX 77 76,xr 78 77,wx 79 3 78,qS 3 4 79]))))))⟩
theorem uC:ay Tryz.prog gx=some nV:=by kernel_rfl
def kW:FK:=⟨22,[xz 2 1],wa [xb 1 1 0,qT 2 xT] [wq 5 xT [],qT 3 xT,xt 3 5] (xS 4 (ye 0 [xy 6,xc 7 1,qt 8 7,wh 9 8,wK 10 6 9] 10 0 1 [xc 13 3,xy 16,qt 14 13,wx 15 1 1,wZ 17 gx 15 16,qO 13 14,qM 18 3 [qw,qw,.nils] 1 [wo 0 3 17],qO 13 14,wU 19 3 40 14 18,xc 20 3,xt 20 19] [xy 11,xU 12 11,xN 12]) [wx 21 1 3,xt 2 21])⟩
theorem sf:ay Tryz.prog eu=some kW:=by kernel_rfl
def kL:FK:=⟨21,xV,qe [xb 2 3 0,qc 4 qU] (xS 5 (wY 0 [xh 6,xL 7,wh 8 7,wK 9 6 8] 9 0 1 (qe [xL 12,xh 13,ww 14 1 12 13,xr 16 2,qt 15 14,qt 17 16,xi 18 17 1,xP 19 [.t 15,qR,.t 18],xZ 20 19] (xY 20 4)) [xh 10,xU 11 10,qf 5 11]) (wA 4 wF))⟩
theorem sq:ay Tryz.prog eq=some kL:=by kernel_rfl
def lW:FK:=⟨88,xI 6,wa [xb 3 1 0,xb 5 4 2,qc 6 qU] [xc 8 3,qt 9 8,xL 10,ww 11 3 9 10,wx 12 3 11,qT 7 [qw,qw,.nils],qS 3 7 12] (qC [xc 13 5,qt 14 13,xP 15 [.t 14,wH,qi 14],xZ 16 15,qf 17 16,qI 18 17 (qV 3 7),xg 19 17 2 5,wW 20 17 19,qI 21 17 (.call eq (wO 18 20)),qI 22 17 (wC 21),xE 23 17 22] (xY 23 6) (qC [xc 24 5,xr 27 5,xr 29 7,qt 25 24,qt 28 27,qt 30 29,xi 31 30 1,xk 26 cE 25,qO 27 28,qO 29 30,xP 32 [.t 28,qR,.t 31],qb 33 (.beq true (.t 26) (.t 32)),qf 34 33,xg 35 34 0 5,wW 36 34 35,qI 37 34 (.call cE (xj 36)),qI 38 34 (wC 37),wV 39 34 38,xq 40 39 1 5,xm 41 39 40,xv 42 39 .neq 41 (qi (-1)),qI 43 34 (qP 39 (.t 42) qU),xE 44 34 43] (xY 44 6) (wL [xc 45 5,qt 46 45,wJ 47 46 14] (wy 47 [qp 48 3 5,xL 50,xi 51 50 1,qt 49 48,xP 52 [.t 49,qR,.t 51],qf 53 52,xq 54 53 2 5,xq 57 53 0 3,xq 59 53 3 5,xm 55 53 54,qJ 56 53 (qW 55),xm 58 53 57,xm 60 53 59,qJ 61 53 (qN 3 58 (.t 60)),xq 62 53 0 61,xm 63 53 62,xv 64 53 .eql 56 (.t 63),xB 65 53 64 qU,qf 6 65]) [xo 66 5,xc 69 5,qt 67 66,wh 68 67,qt 70 69,xk 71 ey 70,qO 66 67,wt 72 .eql 68 71,qf 73 72,xq 74 73 3 5,xm 75 73 74,qJ 76 73 (xf [.t 75,qR,qi 255]),xB 77 73 76 qU,qf 78 77,xq 79 78 3 5,xm 80 78 79,xv 81 78 .eql 80 qR,xW 82 78 81,xg 83 82 0 5,wW 84 82 83,xD 85 82 .eql 84 wH,qJ 86 78 (qP 82 wF (.t 85)),xB 87 78 86 qU,qf 6 87])))⟩
theorem tg:ay Tryz.prog iP=some lW:=by kernel_rfl
def fp:AK:=wa [xb 3 1 0,qc 6 qU] [xc 14 3,qt 15 14,xL 16,ww 17 3 15 16,wx 18 3 17,qT 7 [qw,qw,.nils],qS 3 7 18] (wa [xo 19 7,qt 20 19,qf 21 2,ww 22 5 20 21,wx 23 5 22,qT 8 [.nils,.nils,qw,qw,.nils],qS 5 8 23] (wA 9 wH) (xK [xo 24 8,qt 25 24] (.blk 0 (xA (yb 27 25 1 26 27) 26 (qe [qp 28 3 8,qt 29 28,qB 30 .neq 29 0] (xY 30 6)) (xA (yb 32 25 2 31 32) 31 (.reg (wA 9 (qi 2))) (xA (yb 34 25 3 33 34) 33 (.reg (xa 9)) (qG (wA 6 qU)))))) (xK [qp 35 4 8,qt 36 35,wh 37 36,qf 38 9,wt 39 .neq 37 38,qf 40 39,xg 41 40 2 8,wW 42 40 41,xD 43 40 .neq 42 wH,wV 44 40 43,xq 45 44 3 8,xm 46 44 45,xq 47 44 1 7,xm 48 44 47,xv 49 44 .sub 48 wH,qJ 50 44 (xf [.t 46,qR,.t 49]),qJ 51 44 (wC 50),qI 52 40 (qP 44 (.t 51) qU),xE 53 40 52] (xY 53 6) (xK (xa 10) (wY 1 [qf 54 10,qp 55 4 8,qt 56 55,wh 57 56,wK 58 54 57] 58 1 2 (qe [qp 61 4 8,qf 63 10,xo 66 7,qt 62 61,ww 64 1 62 63,qt 65 64,qt 67 66,wh 68 67,xi 69 68 1,xP 70 [.t 65,wH,.t 69],xZ 71 70] (xY 71 6)) [qf 59 10,xU 60 59,qf 10 60]) (xK (xa 11) (wY 3 [qf 72 11,xr 73 8,qt 74 73,wh 75 74,wK 76 72 75] 76 3 4 (qe [xL 80,xr 81 8,qf 83 11,wx 79 1 3,qt 82 81,ww 84 4 82 83,wx 85 4 84,qn 86 iP [.t 79,.t 80,.t 85],xZ 87 86] (xY 87 6)) [qf 77 11,xU 78 77,qf 11 78]) (qe [wx 88 3 7,qf 89 2,wZ 90 bX 88 89,qf 12 90] (xK (xa 13) (wY 5 [qf 91 13,xc 92 8,qt 93 92,wh 94 93,wK 95 91 94] 95 5 6 (qe [qf 98 2,wJ 99 98 0,qf 100 99,xg 101 100 0 8,wV 103 100 13,wV 108 100 12,qI 109 100 (qW 108),wW 102 100 101,qI 104 100 (qN 2 102 (.t 103)),xg 105 100 1 104,wW 106 100 105,qI 107 100 (qW 106),xD 110 100 .neq 107 (.t 109),xE 111 100 110,qf 112 111,xg 114 112 0 8,wV 116 112 13,qI 113 112 (qV 3 7),wW 115 112 114,qI 117 112 (qN 2 115 (.t 116)),xg 118 112 1 117,wW 119 112 118,qI 120 112 (.call eq (wO 113 119)),qI 121 112 (wC 120),xE 122 112 121,qf 123 122,xg 124 123 0 8,wV 126 123 13,xg 130 123 1 7,wW 125 123 124,qI 127 123 (qN 2 125 (.t 126)),xg 128 123 0 127,wW 129 123 128,wW 131 123 130,xD 132 123 .sub 131 wH,qI 133 123 (xf [.t 129,qR,.t 132]),qI 134 123 (wC 133),xE 135 123 134] (xY 135 6)) [qf 96 13,xU 97 96,qf 13 97]) (qG (wA 6 wF)))))))))
def fC:FK:=⟨136,xI 6,(AK.whole fp)⟩
theorem rq:ay Tryz.prog fQ=some fC:=by kernel_rfl
def iz:FK:=⟨76,xO,qe [xb 1 1 0,qc 2 qU] (qC [xc 7 1,qt 8 7,wh 9 8,xP 10 [.t 9,wH,qi 4],xZ 11 10] (xY 11 2) (qe (xa 3) (xS 4 (wY 0 [xy 12,xc 13 1,qt 14 13,wh 15 14,wK 16 12 15] 16 0 1 (qe [xc 19 1,qt 20 19,xy 21,ww 22 3 20 21,wx 23 3 22,qT 5 [qw,qw,.nils],qS 3 5 23] (qC [xc 24 5,qt 25 24,xP 26 [.t 25,qR,qi 3],xZ 27 26,qf 28 27,xg 29 28 1 5,wW 30 28 29,xg 31 28 0 5,wW 32 28 31,qI 33 28 (xf [.t 30,.t 32,qi 300]),qI 34 28 (wC 33),xE 35 28 34,qf 36 35,xg 37 36 2 5,wW 38 36 37,qI 39 36 (qW 38),qI 40 36 (xf [.t 39,wH,qi 160]),qI 41 36 (wC 40),xE 42 36 41] (xY 42 2) (qe (xa 6) (wY 2 [xJ 43,xo 44 5,qt 45 44,wh 46 45,wK 47 43 46] 47 2 3 (wa [qf 50 3,xo 51 5,xJ 53,xo 59 5,xJ 61,qt 52 51,ww 54 5 52 53,xr 55 54,qt 56 55,wh 57 56,wt 58 .add 50 57,qt 60 59,ww 62 5 60 61,xc 63 62,qt 64 63,wh 65 64,wt 66 .add 58 65,qf 3 66] [qf 67 3,x9 68 67 800,qf 69 68,qI 70 69 (qV 1 1),wV 71 69 4,wV 72 69 6,qI 73 69 (.call fQ [.t 70,.t 71,.t 72]),qI 74 69 (wC 73),xE 75 69 74] (xY 75 2)) [xJ 48,xU 49 48,qf 6 49])))) [xy 17,xU 18 17,xN 18]) (wA 2 wF))))⟩
theorem nJ:ay Tryz.prog dT=some iz:=by kernel_rfl
def jx:FK:=⟨15,[xz 2 1],qe [qT 2 xT] (wL [wd 4,wg 5 (xu 4 2),wJ 6 5 0] (qZ 6 (wa [wd 7,xk 8 eA 7,xk 9 eu 8,qT 3 xT,xt 3 9] [wx 10 1 3,xk 11 dT 10] (wy 11 [wx 12 1 3,xt 2 12]))) [wd 13,xk 14 cU 13,xt 2 14])⟩
theorem oU:ay Tryz.prog fN=some jx:=by kernel_rfl
def jO:FK:=⟨10,[xz 2 1],qe [qT 2 xT] (wL [wd 3,wg 4 (xu 3 12),wJ 5 4 0] (wy 5 [wd 6,xk 7 gN 6,xt 2 7]) [wd 8,xk 9 fN 8,xt 2 9])⟩
theorem pi:ay Tryz.prog fx=some jO:=by kernel_rfl
def jr:FK:=⟨14,[xz 2 3],wa [qT 2 [qw,qw,.nils]] [wd 4,xk 5 fx 4,qT 3 xT,xt 3 5] (qG [xc 6 3,qt 7 6,xc 8 3,qt 9 8,wh 10 9,xi 11 10 1,ww 12 3 7 11,wx 13 3 12,qS 3 2 13])⟩
theorem rx:ay Tryz.prog dD=some jr:=by kernel_rfl
def eX:FK:=⟨6,[xz 2 3],xX [qT 2 [qw,qw,.nils]] [wd 3,xk 4 dH 3,xk 5 dD 4,qS 3 2 5]⟩
theorem kC:ay Tryz.prog cN=some eX:=by kernel_rfl
def cb:FK:=⟨19,xV,qe (xa 4) (wL [wd 6,wh 7 6,qc 8 qR] (qY 0 (qe [wK 9 8 7] (.seq (wz 9 0) (wu 1 (wa (ya (qf 10 8) 5 10) [xL 11,wd 12,xh 13,ww 14 5 12 13,wx 15 5 14,qb 16 (.callv (.t 11) (xj 15))] (wy 16 [xh 17,xN 17])) (ya (xU 18 8) 8 18))))) (wA 4 (qi (-1))))⟩
theorem eF:ay Tryz.prog bp=some cb:=by kernel_rfl
def bP:FK:=⟨9,xV,xX (wA 4 qU) [wd 5,xL 6,wZ 7 bp 5 6,qB 8 .geq 7 0,xN 8]⟩
theorem dr:ay Tryz.prog bh=some bP:=by kernel_rfl
def dN:FK:=⟨19,xV,qe (xa 4) (wL [wd 6,wh 7 6,qc 8 qR] (qY 0 (qe [wK 9 8 7] (.seq (wz 9 0) (wu 1 (wa (ya (qf 10 8) 5 10) [xL 11,wd 12,xh 13,ww 14 1 12 13,qt 15 14,qb 16 (.callv (.t 11) (xj 15))] (wy 16 [xh 17,xN 17])) (ya (xU 18 8) 8 18))))) (wA 4 (qi (-1))))⟩
theorem iS:ay Tryz.prog cg=some dN:=by kernel_rfl
def cL:FK:=⟨9,xV,xX (wA 4 qU) [wd 5,xL 6,wZ 7 cg 5 6,qB 8 .geq 7 0,xN 8]⟩
theorem fZ:ay Tryz.prog bH=some cL:=by kernel_rfl
def ib:FK:=⟨15,xI 6,xX (wA 6 qU) [xL 7,wd 8,wt 9 .leq 7 8,qf 10 9,xW 11 10 0,xW 12 10 2,xv 13 10 .leq 11 (.t 12),xB 14 10 13 qU,qf 6 14]⟩
theorem sk:ay Tryz.prog ed=some ib:=by kernel_rfl
def fR:FK:=⟨11,xI 3,xX (wA 3 qU) [wd 4,xo 5 1,qt 6 5,wh 7 6,xi 8 7 1,qn 9 ed [.t 4,qR,.t 8],xZ 10 9,qf 3 10]⟩
theorem lG:ay Tryz.prog db=some fR:=by kernel_rfl
def iC:FK:=⟨8,xI 3,xX [xb 2 5 0,qc 3 qU] [qp 4 4 2,qt 5 4,qb 6 (.mkf (.func db) (xj 1)),wZ 7 bH 5 6,qf 3 7]⟩
theorem mY:ay Tryz.prog cK=some iC:=by kernel_rfl
def fm:FK:=⟨14,xO,xX [xb 1 3 0,qc 2 qU] [xo 3 1,qt 4 3,wh 5 4,x9 6 5 0,xJ 7,xq 8 7 2 1,xm 9 7 8,qJ 10 7 (.mkf (.func cK) (xj 1)),qJ 11 7 (.call bh (wO 9 10)),qJ 12 7 (wC 11),xB 13 7 12 qU,qf 2 13]⟩
theorem py:ay Tryz.prog dy=some fm:=by kernel_rfl
def fI:FK:=⟨8,xO,qe (wA 2 xx) (wL [wd 3,qb 4 (.snil false (.t 3))] (wM 4 2 xx) [yc 5 0 [],wd 6,wU 7 1 8 5 6,qf 2 7])⟩
theorem lB:ay Tryz.prog cd=some fI:=by kernel_rfl
def oc:FK:=⟨10,xO,wa (wA 2 xx) [wd 4,xk 5 cd 4,xh 3] (xX [qf 6 3,xk 7 mU 6] [qf 8 3,xk 9 jW 8,qf 2 9])⟩
theorem uL:ay Tryz.prog gD=some oc:=by kernel_rfl
def fL:FK:=⟨19,xV,qe (xa 4) (wL [wd 6,wh 7 6,qc 8 qR] (qY 0 (qe [wK 9 8 7] (.seq (wz 9 0) (wu 1 (wa (ya (qf 10 8) 5 10) [xL 11,wd 12,xh 13,ww 14 1 12 13,qt 15 14,wt 16 .eql 11 15] (wy 16 [xh 17,xN 17])) (ya (xU 18 8) 8 18))))) (wA 4 (qi (-1))))⟩
theorem lD:ay Tryz.prog dk=some fL:=by kernel_rfl
def dP:FK:=⟨9,xV,xX (wA 4 qU) [wd 5,xL 6,wZ 7 dk 5 6,qB 8 .geq 7 0,xN 8]⟩
theorem jk:ay Tryz.prog bG=some dP:=by kernel_rfl
def jP:FK:=⟨33,xV,wa [xb 2 3 0,qc 4 xx] (wA 5 xx) (qC [xL 8,xo 9 2,qt 10 9,wh 11 10,xi 12 11 1,qn 13 ed [.t 8,qR,.t 12],xZ 14 13] (wM 14 4 xx) (wL [xo 15 2,qt 16 15,wh 17 16,qc 18 qR] (qY 0 (qe [wK 19 18 17] (.seq (wz 19 0) (wu 1 (wa [qf 20 18,ww 21 5 16 18,wx 22 5 21,qT 7 [.nils,.nils,qw,qw,.nils],qf 6 20,qS 5 7 22] [qp 23 4 7,qt 24 23,xL 25,wZ 26 bG 24 25] (qZ 26 (.reg [xh 27,xJ 28,yc 29 1 [xR 28],wU 30 1 8 27 29,qf 5 30]))) (ya (xU 31 18) 18 31))))) [xh 32,xN 32]))⟩
theorem pt:ay Tryz.prog bE=some jP:=by kernel_rfl
def iJ:FK:=⟨42,xV,wa [xb 2 3 0,qc 4 xx] [xo 9 2,qt 10 9,xL 11,ww 12 5 10 11,qp 13 4 12,qt 14 13,qf 5 14] (qC [xh 15,xk 16 gD 15,wh 17 16,qB 18 .lss 17 2] (wM 18 4 xx) (qe (wA 6 xx) (wL [xh 19,wh 20 19,qc 21 qR] (qY 0 (qe [wK 22 21 20] (.seq (wz 22 0) (wu 1 (wa [ww 23 1 19 21,qt 24 23,qf 8 24] [wx 25 3 2,qf 26 8,wZ 27 bE 25 26,wh 28 27,x9 29 28 1,qf 30 29,xW 31 30 6,xW 32 30 8,qJ 33 30 (.call bG (wO 31 32)),qJ 34 30 (wC 33),xB 35 30 34 qU] (qZ 35 (.reg [xJ 36,qf 37 8,yc 38 1 [xR 37],wU 39 1 8 36 38,qf 6 39]))) (ya (xU 40 21) 21 40))))) [xJ 41,xN 41])))⟩
theorem nh:ay Tryz.prog dX=some iJ:=by kernel_rfl
def jh:FK:=⟨19,xO,qe [xb 1 3 0,qc 2 qU] (qC [wx 4 3 1,xk 5 dy 4,xZ 6 5] (xY 6 2) (wL [xo 7 1,qt 8 7,wh 9 8,qc 10 qR] (qY 0 (qe [wK 11 10 9] (.seq (wz 11 0) (wu 1 (wa (ya (qf 12 10) 3 12) [wx 13 3 1,qf 14 3,wZ 15 dX 13 14,wh 16 15,x9 17 16 0] (wM 17 2 wF)) (ya (xU 18 10) 10 18))))) (wA 2 qU)))⟩
theorem oD:ay Tryz.prog eR=some jh:=by kernel_rfl
def jY:FK:=⟨42,xO,qe [xb 1 3 0,qc 2 qU] (xS 3 (wY 0 [qf 5 3,xo 6 1,qt 7 6,wh 8 7,wK 9 5 8] 9 0 1 (qe (xa 4) (wY 2 [xy 12,xo 13 1,qt 14 13,qf 15 3,ww 16 5 14 15,qp 17 4 16,qt 18 17,wh 19 18,wK 20 12 19] 20 2 3 (qe [xo 23 1,qf 25 3,xy 29,xo 32 1,qt 24 23,ww 26 5 24 25,qp 27 4 26,qt 28 27,ww 30 1 28 29,qt 31 30,qt 33 32,wh 34 33,xi 35 34 1,xP 36 [.t 31,qR,.t 35],xZ 37 36] (xY 37 2)) [xy 21,xU 22 21,xN 22])) [qf 10 3,xU 11 10,qf 3 11]) [xo 38 1,qt 39 38,wh 40 39,x9 41 40 0,qf 2 41])⟩
theorem rF:ay Tryz.prog fA=some jY:=by kernel_rfl
def jc:FK:=⟨44,xI 6,wa [xb 3 3 0,qc 6 qU] [xo 10 3,qt 11 10,xL 12,ww 13 5 11 12,qp 14 4 13,qt 15 14,qf 7 15] (qe (wA 8 qU) (xS 9 (ye 0 [qf 16 9,qf 17 7,wh 18 17,wK 19 16 18] 19 0 1 [qf 22 8,qf 23 22,wV 24 23 7,wV 25 23 9,qI 26 23 (qN 1 24 (.t 25)),wV 28 23 7,qI 29 23 (qN 1 28 qR),wW 27 23 26,wW 30 23 29,xD 31 23 .neq 27 (.t 30),xE 32 23 31,qf 8 32] [qf 20 9,xU 21 20,qf 9 21]) [qf 33 8,qf 34 33,xW 36 34 7,xW 37 34 2,qJ 38 34 (qN 1 36 (.t 37)),qJ 35 34 (qV 3 3),xm 39 34 38,qJ 40 34 (.call bX (wO 35 39)),qJ 41 34 (qW 40),xv 42 34 .gtr 41 wH,xB 43 34 42 qU,qf 6 43]))⟩
theorem ov:ay Tryz.prog eS=some jc:=by kernel_rfl
def jd:FK:=⟨31,xO,qe [xb 1 3 0,qc 2 qU] (xS 3 (wY 0 [qf 5 3,xo 6 1,qt 7 6,wh 8 7,wK 9 5 8,qf 10 9,qJ 11 10 (qV 3 1),qJ 12 10 (.call fA (xj 11)),xB 13 10 12 qU] 13 0 1 (qe (xa 4) (wY 2 [xy 16,xo 17 1,qt 18 17,qf 19 3,ww 20 5 18 19,qp 21 4 20,qt 22 21,wh 23 22,wK 24 16 23] 24 2 3 (qe [wx 27 3 1,qf 28 3,xy 29,qn 30 eS [.t 27,.t 28,.t 29]] (wM 30 2 wF)) [xy 25,xU 26 25,xN 26])) [qf 14 3,xU 15 14,qf 3 15]) (wA 2 qU))⟩
theorem oz:ay Tryz.prog eO=some jd:=by kernel_rfl
def jf:FK:=⟨35,[],qe [qt 8 1,wd 9,ww 10 1 8 9,qQ 1 10 wF] (qC [xo 11 2,qt 12 11,wd 13,ww 14 5 12 13,qp 15 4 14,qt 16 15,wh 17 16,qc 18 qR] (qY 0 (qe [wK 19 18 17] (.seq (wz 19 0) (wu 1 (wa [ww 20 1 16 18,qt 21 20,qf 7 21] [qt 22 1,qf 23 7,ww 24 1 22 23,qt 25 24,xZ 26 25] (qZ 26 (.reg [qt 27 3,qf 28 7,qb 29 (.callv (.t 27) (xj 28))]))) (ya (xU 30 18) 18 30))))) (.reg [qt 31 4,wd 32,yc 33 1 [xR 32],wU 34 1 8 31 33,xt 4 34]))⟩
theorem oA:ay Tryz.prog co=some jf:=by kernel_rfl
def kX:FK:=⟨14,xO,wa [xb 1 3 0,qc 2 xx] [qT 3 xT] (wa [xo 6 1,qt 7 6,wh 8 7,qb 9 (.mks 1 1 [qD] (.t 8) (.t 8)),qT 4 xT,xt 4 9] [qT 5 [.nilf]] (wa [qb 10 (.mkf (.func co) [.t 4,.t 1,.t 5,.t 3]),xt 5 10] [qt 11 5,qb 12 (.callv (.t 11) [qR])] (qG (ya (qt 13 3) 2 13))))⟩
theorem sj:ay Tryz.prog gW=some kX:=by kernel_rfl
def eE:FK:=⟨28,[],qe [wd 4,wh 5 4,xi 6 5 1,qc 2 qR,xJ 3] (ye 0 [qf 7 2,qf 8 3,wK 9 7 8] 9 0 1 [wd 14,qf 15 2,wd 16,qf 17 3,wd 18,qf 19 3,ww 20 1 18 19,wd 22,qf 23 2,ww 24 1 22 23,qt 21 20,qt 25 24,ww 26 1 14 15,xt 26 21,ww 27 1 16 17,xt 27 25] [qf 10 2,xU 11 10,qf 12 3,xi 13 12 1,qf 2 11,qf 3 13])⟩
theorem jD:ay Tryz.prog cD=some eE:=by kernel_rfl
def jz:FK:=⟨12,xO,qe [xb 1 3 0,qc 2 xx] (qC [wx 4 3 1,xk 5 dy 4,xZ 6 5] (wM 6 2 xx) (wa [wx 7 3 1,xk 8 gW 7,qf 3 8] [qf 9 3,xk 10 cD 9] (qG (ya (qf 11 3) 2 11))))⟩
theorem pN:ay Tryz.prog fX=some jz:=by kernel_rfl
def gt:FK:=⟨75,xO,qe (wA 2 qU) (qC [wd 9,wh 10 9,x9 11 10 1048576] (wM 11 2 wF) (wa [wd 12,xk 13 cN 12,qT 3 [qw,qw,.nils],qS 3 3 13] [wx 14 3 3,xk 15 eR 14,xN 15] (qC [xy 16,wx 17 3 3,xk 18 eO 17,qb 19 (.beq true (.t 16) (.t 18))] (xY 19 2) (wL [xo 20 3,qt 21 20,wh 22 21,qc 23 qR] (qY 0 (qe [wK 24 23 22] (.seq (wz 24 0) (wu 1 (qe [qf 25 23,ww 26 5 21 23,wx 27 5 26,qT 6 [.nils,.nils,qw,qw,.nils],qf 5 25,qS 5 6 27] (qC [xy 28,qf 29 28,xg 30 29 4 6,wW 31 29 30,qI 32 29 (qW 31),xD 33 29 .neq 32 (qi 2),xE 34 29 33,qf 35 34,xg 36 35 4 6,xg 40 35 4 6,wW 37 35 36,qI 38 35 (qN 1 37 qR),wW 39 35 38,wW 41 35 40,qI 42 35 (qN 1 41 wH),wW 43 35 42,xD 44 35 .eql 39 (.t 43),xE 45 35 44,qf 46 45,qI 47 46 (qV 3 3),qI 48 46 (.call fX (xj 47)),qI 49 46 (qW 48),xD 50 46 .eql 49 qR,xE 51 46 50] (qZ 51 (.exit 1)) (qe [qp 52 4 6,qt 53 52,wh 54 53,qc 55 qR] (qY 2 (qe [wK 56 55 54] (.seq (wz 56 2) (wu 3 (wa [ww 57 1 53 55,qt 58 57,qf 8 58] [wx 59 3 3,qf 60 8,wZ 61 bE 59 60,wh 62 61,x9 63 62 1,qf 64 63,qI 65 64 (qV 3 3),wV 66 64 8,qI 67 64 (.call bE (wO 65 66)),qI 68 64 (qN 1 67 qR),wW 69 64 68,wV 70 64 5,xD 71 64 .neq 69 (.t 70),xE 72 64 71] (xY 72 2)) (ya (xU 73 55) 55 73)))))))) (ya (xU 74 23) 23 74))))) (wA 2 wF)))))⟩
theorem mE:ay Tryz.prog gf=some gt:=by kernel_rfl
def fk:FK:=⟨6,[xz 2 3],xX [qT 2 [qw,qw,.nils]] [wd 3,xk 4 dH 3,xk 5 dD 4,qS 3 2 5]⟩
theorem lw:ay Tryz.prog fJ=some fk:=by kernel_rfl
end Go.Proofs.YtdfplkcigiblcaaGreat
