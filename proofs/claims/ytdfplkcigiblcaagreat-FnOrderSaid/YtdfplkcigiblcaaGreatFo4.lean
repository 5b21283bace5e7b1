/-
  Contracts and lemmas that the card needs, part 4.
-/
import Derived.Test.YtdfplkcigiblcaaGreatFo3
import Derived.Test.YtdfplkcigiblcaaGreatRows
namespace Go.Proofs.YtdfplkcigiblcaaGreat
open Go Go.Aw
set_option maxRecDepth 100000
abbrev fG:FuncId:=54
abbrev bu:FuncId:=104
abbrev aZ:FuncId:=105
abbrev gy:FuncId:=95
abbrev eC:FuncId:=168
abbrev cD:FuncId:=169
abbrev ip:FuncId:=153
abbrev eL:FuncId:=154
abbrev iq:FuncId:=141
abbrev cB:FuncId:=96
abbrev cV:FuncId:=125
abbrev db:FuncId:=152
abbrev gV:FuncId:=140
abbrev dF:FuncId:=124
abbrev gZ:FuncId:=118
abbrev bv:FuncId:=179
abbrev eI:FuncId:=183
abbrev bc:FuncId:=172
abbrev du:FuncId:=162
abbrev da:FuncId:=189
abbrev bX:FuncId:=180
abbrev cx:FuncId:=181
abbrev dB:FuncId:=182
abbrev dz:FuncId:=171
abbrev aN:FuncId:=161
abbrev cY:FuncId:=143
abbrev fF:FuncId:=194
abbrev gn:FuncId:=190
abbrev iV:FuncId:=184
abbrev cZ:FuncId:=191
abbrev iT:FuncId:=185
abbrev bC:FuncId:=173
abbrev eH:FuncId:=192
abbrev eg:FuncId:=197
abbrev cS:FuncId:=195
abbrev dC:FuncId:=196
abbrev cK:FuncId:=193
abbrev eF:FuncId:=186
abbrev bn:FuncId:=174
abbrev jA:FuncId:=163
abbrev cz:FuncId:=175
abbrev jd:FuncId:=164
abbrev cR:FuncId:=144
abbrev eG:FuncId:=127
abbrev fM:FuncId:=76
abbrev cT:FuncId:=155
abbrev bG:FuncId:=156
abbrev bf:FuncId:=160
abbrev bl:FuncId:=159
abbrev bD:FuncId:=158
abbrev cL:FuncId:=178
abbrev ee:FuncId:=187
abbrev jW:FuncId:=188
abbrev aU:FuncId:=177
abbrev dv:FuncId:=176
abbrev dH:FuncId:=170
abbrev aW:FuncId:=157
abbrev gM:FuncId:=142
abbrev ew:FuncId:=126
abbrev ey:FuncId:=166
abbrev jg:FuncId:=165
abbrev fW:FuncId:=145
abbrev dV:FuncId:=128
abbrev gd:FuncId:=119
abbrev gm:FuncId:=90
abbrev fJ:FuncId:=53
abbrev bp:FuncId:=120
abbrev bg:FuncId:=91
abbrev cm:FuncId:=121
abbrev bH:FuncId:=93
abbrev eq:FuncId:=61
abbrev dg:FuncId:=94
abbrev cI:FuncId:=92
abbrev dP:FuncId:=55
abbrev ck:FuncId:=100
abbrev mM:FuncId:=101
abbrev jR:FuncId:=102
abbrev jO:FuncId:=64
abbrev dd:FuncId:=98
abbrev cu:FuncId:=62
abbrev dM:FuncId:=18
abbrev fx:FuncId:=57
abbrev cn:FuncId:=97
abbrev eD:FuncId:=59
abbrev cA:FuncId:=60
abbrev gh:FuncId:=17
abbrev dj:FuncId:=19
abbrev bN:FuncId:=99
abbrev eU:FuncId:=63
abbrev dJ:FuncId:=21
abbrev eE:FuncId:=20
abbrev fm:FuncId:=22
abbrev dT:FuncId:=23
abbrev ky:FuncId:=4
@[reducible] def qa(a:Nat)(b:Option (Nat × Bool))(c:AI):CO:=⟨some a,b,c⟩
@[reducible] def qb(a:Nat)(b:AI):CO:=qa a none b
@[reducible] def qc(a:Nat)(b:AOp):CO:=qb a (.mov b)
@[reducible] def qd(a:IntKind)(b:Int):AV:= .p (.int a b)
@[reducible] def qe(a:List CO)(b:AK):AK:= .seq (.reg a) b
@[reducible] def qf(a b:Nat):CO:=qc a (.t b)
@[reducible] def qg(a:Int):AV:=qd .i64 a
@[reducible] def qh(a b:Nat):AI:= .fldA a (.t b)
@[reducible] def qi(a:Int):AOp:= .c (qg a)
@[reducible] def qj(a:Option Nat)(b:Nat):AI:= .ld a (.t b)
@[reducible] def qk(a:Nat)(b:Nat × Bool)(c:AI):CO:=qa a (some b) c
@[reducible] def ql(a:BinOp)(b:Nat)(c:AOp):AI:= .bin a (.t b) c
@[reducible] def qm(a:Nat)(b:Option Nat)(c:Nat):CO:=qb a (qj b c)
@[reducible] def qn(a:Nat)(b:FuncId)(c:List AOp):CO:=qb a (.call b c)
@[reducible] def qo(a:Option (Nat × Bool))(b:AI):CO:=⟨none,a,b⟩
@[reducible] def qp(a b c:Nat):CO:=qb a (qh b c)
@[reducible] def qt(a b:Nat):CO:=qm a none b
@[reducible] def qu(a:AI):CO:=qo none a
@[reducible] def qv(a:Nat)(b c:AK):AK:= .cond (.t a) b c
@[reducible] def qw:AV:=qg 0
@[reducible] def qx(a:Nat)(b:BinOp)(c:Nat)(d:AOp):CO:=qb a (ql b c d)
@[reducible] def qy(a:Bool):AV:= .p (.bool a)
@[reducible] def qz(a:Option Nat)(b c:Nat):CO:=qu (.chk a b c)
@[reducible] def qA(a:Nat):AI:= .nilck (.t a)
@[reducible] def qB(a:Nat)(b:BinOp)(c:Nat)(d:Int):CO:=qx a b c (qi d)
@[reducible] def qC(a:List CO)(b c:AK):AK:= .seq (qe a b) c
@[reducible] def qD(a:AOp):AI:= .len false a
@[reducible] def qF(a:List CO):AK:=qe a .ret
@[reducible] def qG:AV:=qy false
@[reducible] def qH(a b:Nat)(c:List AV)(d:Nat)(e:List (Nat × Nat × AOp)):CO:=qb a (.bsl b c d e)
@[reducible] def qI(a:Nat)(b c:AOp):CO:=qu (.st a b c)
@[reducible] def qJ(a:List UInt8):AV:= .p (.str a)
@[reducible] def qK(a b:Nat)(c:AOp):AI:= .idxS a (.t b) c
@[reducible] def qL(a b:Nat):CO:=qz none a b
@[reducible] def qM(a b:Nat)(c:Bool)(d:AI):CO:=qk a (b,c) d
@[reducible] def qN(a b:Nat)(c:AI):CO:=qM a b false c
@[reducible] def qO(a b:Nat)(c:AI):CO:=qM a b true c
@[reducible] def qP(a:Nat)(b c:AOp):AI:= .pick (.t a) b c
@[reducible] def qQ(a b:Nat)(c:AOp):CO:=qI a (.t b) c
@[reducible] def qR:AOp:=qi 0
@[reducible] def qS(a b c:Nat):CO:=qQ a b (.t c)
@[reducible] def qT(a:Nat)(b:List AV):CO:=qb a (.alloc b)
@[reducible] def qU(a:Nat):AI:=qD (.t a)
@[reducible] def qV(a:List CO)(b c:OT):OT:= .alt (.one a b) c
@[reducible] def qW(a b:Nat):CO:=qb a (qA b)
@[reducible] def qX(a:Nat)(b:AK):AK:=qv a b .skip
@[reducible] def qY(a:Nat)(b:AK):AK:= .blk a (.loop b)
@[reducible] def qZ:AOp:= .c qG
@[reducible] def wa(a b c:Nat):CO:=qm a (some b) c
@[reducible] def wb(a:Nat):CO:=qf a 0
@[reducible] def wd(a b:List CO)(c:AK):AK:=qe a (qe b c)
@[reducible] def we(a:Nat)(b c:AK):AK:= .seq (.blk a b) c
@[reducible] def wg(a:Nat)(b:List AOp):CO:=qn a bu b
@[reducible] def wh(a b:Nat):CO:=qb a (qU b)
@[reducible] def wi:AV:=qJ []
@[reducible] def wj(a:Nat):AI:= .mov (.t a)
@[reducible] def wl(a b c:Nat)(d:AOp):CO:=qb a (qK b c d)
@[reducible] def wm(a:Nat)(b:AK)(c:Nat):AK:=qv a b (.exit c)
@[reducible] def wn(a:Nat)(b:BinOp)(c d:Nat):CO:=qx a b c (.t d)
@[reducible] def wo(a b c:Nat):Nat × Nat × AOp:=(a,b,.t c)
@[reducible] def wq(a:Nat)(b:List AV)(c:List (Nat × Nat × AOp)):CO:=qb a (.bld b c)
@[reducible] def wt:AV:=qy true
@[reducible] def wu(a b c d:Nat):CO:=wl a b c (.t d)
@[reducible] def wv(a:Nat)(b:AK)(c:List CO):AK:=we a b (.reg c)
@[reducible] def ww(a:Nat)(b:List CO):AK:=qX a (qF b)
@[reducible] def wx(a:Nat):AI:=qj none a
@[reducible] def wy(a b:Nat)(c d:AOp):CO:=qb a (qP b c d)
@[reducible] def wz(a:Nat):AI:= .not (.t a)
@[reducible] def wA(a b:Nat):AK:=wm a .skip b
@[reducible] def wB(a b c:Nat)(d:AOp):AI:= .app a b (.t c) d
@[reducible] def wC(a:Nat)(b:List AOp):CO:=qn a aZ b
@[reducible] def wD(a:Nat)(b:AOp):List CO:=[qc a b]
@[reducible] def wE(a b:Nat):Nat × Nat × AOp:=wo a 1 b
@[reducible] def wF:AOp:= .c wt
@[reducible] def wG(a b:Nat)(c:Int):CO:=qB a .eql b c
@[reducible] def wH(a b:Nat):AI:= .box a (.t b)
@[reducible] def wI(a b:Nat)(c:Int):CO:=qB a .add b c
@[reducible] def wJ:AOp:=qi 1
@[reducible] def wK(a:List CO)(b:OT):OT:=qV a b .tru
@[reducible] def wL(a:List CO)(b:AK)(c:List CO):AK:=qC a b (qF c)
@[reducible] def wM(a b c:Nat):CO:=wn a .lss b c
@[reducible] def wN(a:Nat)(b:AOp):List AOp:=[.t a,b]
@[reducible] def wO(a b:Nat):List AOp:=wN a (.t b)
@[reducible] def wP(a b c d:Nat):AI:=wB a b c (.t d)
@[reducible] def wQ(a b:Nat)(c:AOp):AK:=ww a (wD b c)
@[reducible] def wR(a b c d e:Nat):CO:=qb a (wP b c d e)
@[reducible] def wS(a:Nat)(b:List CO)(c d:AK):AK:=qY a (qC b c d)
@[reducible] def wT(a b c:Nat):CO:=qN a b (wj c)
@[reducible] def wU(a b:Nat)(c:AOp)(d:Nat):CO:=wy a b c (.t d)
@[reducible] def wV(a:Nat)(b:List CO)(c d:Nat)(e:AK):AK:=wS a b (wA c d) e
@[reducible] def wW(a:Nat)(b:List AOp):CO:=qn a bD b
@[reducible] def wX(a:Nat)(b:FuncId)(c d:Nat):CO:=qn a b (wO c d)
@[reducible] def wY(a:Nat)(b:List CO)(c d e:Nat)(f:AK)(g:List CO):AK:=wV a b c d (wv e f g)
@[reducible] def wZ(a b c:Nat):CO:=qb a (wH b c)
@[reducible] def xa(a:Nat):List CO:=wD a qR
@[reducible] def xb(a:Nat):CO:=qf a 5
@[reducible] def xc(a b:Nat):CO:=qp a 0 b
@[reducible] def xd(a b:Nat)(c:Int):Nat × Nat × AOp:=(a,b,qi c)
@[reducible] def xe(a:Nat)(b:Int):Nat × Nat × AOp:=xd a 1 b
@[reducible] def xf(a:List AOp):AI:= .call gy a
@[reducible] def xg(a b:Nat)(c:Int):CO:=qB a .sub b c
@[reducible] def xh(a:Nat):List AOp:=[.t a]
@[reducible] def xi(a:Nat)(b:FuncId)(c:Nat):CO:=qn a b (xh c)
@[reducible] def xj(a b:Nat):CO:=xi a bG b
@[reducible] def xk(a b c:Nat):CO:=qN a b (wx c)
@[reducible] def xl(a b c:Nat):CO:=qO a b (wx c)
@[reducible] def xm(a b c d:Nat):CO:=qN a b (qh c d)
@[reducible] def xo(a:Nat)(b:List AOp):CO:=qn a bf b
@[reducible] def xp(a b:Nat):CO:=qp a 2 b
@[reducible] def xq:AOp:= .c .nils
@[reducible] def xr(a b c d:Nat):CO:=qO a b (qh c d)
@[reducible] def xt(a b:Nat):CO:=qp a 1 b
@[reducible] def xu(a b:Nat):CO:=qS 1 a b
@[reducible] def xv:List AV:=[qw]
@[reducible] def xx(a b c:Nat)(d:List (Nat × Nat × AOp)):CO:=qH a b xv c d
@[reducible] def xy(a:Nat)(b:Int):List AOp:=wN a (qi b)
@[reducible] def xz(a b:Nat)(c:BinOp)(d:Nat)(e:AOp):CO:=qO a b (ql c d e)
@[reducible] def xA(a:Nat):CO:=qf a 4
@[reducible] def xB(a:Nat):CO:=qf a 1
@[reducible] def xC(a:List CO)(b:Nat)(c d:AK):AK:=qe a (qv b c d)
@[reducible] def xD(a:Nat):List RV:=[.t a]
@[reducible] def xE(a b:Nat):RV:= .c a (some b)
@[reducible] def xF(a b:Nat):CO:=xi a bl b
@[reducible] def xG(a:List AOp):AI:= .call bu a
@[reducible] def xH(a:Nat):CO:=qf a 6
@[reducible] def xI(a b:List CO)(c:AK)(d:List CO):AK:=qe a (wL b c d)
@[reducible] def xJ(a:List CO)(b c:AK):AK:= .cut (qe a b) c
@[reducible] def xK:List RV:=xD 2
@[reducible] def xL(a b c:Nat):CO:=wU a b wF c
@[reducible] def xM(a:Nat):CO:=qf 4 a
@[reducible] def xN(a:Nat)(b:List AOp):CO:=qn a du b
@[reducible] def xO(a b:Nat):CO:=qb a (wz b)
@[reducible] def xP(a b c:Nat)(d:AOp):CO:=wy a b (.t c) d
@[reducible] def xQ(a:Nat)(b:List AOp):CO:=qn a gy b
@[reducible] def xR(a:Nat):Nat × Nat × AOp:=wE 0 a
@[reducible] def xS(a b:Nat)(c:List AV)(d:Nat)(e:List (Nat × Nat × AOp)):CO:=qb a (.bslP b c d e)
@[reducible] def xT:List RV:=xD 4
@[reducible] def xU:List AV:=[.nils]
@[reducible] def xV(a b:Nat)(c:BinOp)(d:Nat)(e:AOp):CO:=qN a b (ql c d e)
@[reducible] def xW(a b:Nat)(c:List (Nat × Nat × AOp)):CO:=xx a 1 b c
@[reducible] def xX(a b:Nat):CO:=wI a b 1
@[reducible] def xY(a:Nat):CO:=qL a 10
@[reducible] def xZ:CO:=xY 9
@[reducible] def x4(a:Nat):CO:=qL 11 a
@[reducible] def x6:CO:=x4 12
@[reducible] def x7(a:CO)(b c:Nat):List CO:=[a,qf b c]
@[reducible] def x8(a b:Nat)(c:Int)(d e:Nat):List CO:=x7 (wG a b c) d e
@[reducible] def x9(a b:Nat):AK:=wQ a b qZ
@[reducible] def ya(a b:List CO):AK:=qe a (qF b)
@[reducible] def yb(a b:List CO)(c:OT):OT:=wK a (wK b c)
@[reducible] def yc(a:Nat)(b:List CO)(c d e:Nat)(f g:List CO):AK:=wY a b c d e (.reg f) g
@[reducible] def ye(a:List UInt8):AOp:= .c (qJ a)
def jy:FK:=⟨11,xK,xI (wD 2 (.c .nilp)) [wb 3,wh 4 3,qB 5 .gtr 4 2000] (qX 5 (.reg [wb 6,qb 7 (.slS 1 (.t 6) none (some (qi 2000))),qf 0 7])) [wb 8,wq 9 [.nils,qw] [xR 8],wZ 10 2 9,qf 2 10]⟩
theorem rx:az Tryz.prog fG=some jy:=by kernel_rfl
def cy:FK:=⟨99,xT,wd (xa 4) [wb 7,wb 8,qW 9 8,xt 10 9,qt 11 10,xX 12 11,qW 13 7,xt 14 13,xu 14 12] (qC [xB 15,qB 16 .lss 15 1,qf 17 16,wT 18 17 0,qN 19 17 (qA 18),xm 20 17 0 19,xk 21 17 20,qN 22 17 (qU 21),xV 23 17 .eql 22 qR,xL 24 17 23] (wQ 24 4 qR) (qe [wb 25,qW 26 25,xt 27 26,qt 28 27,xg 29 28 1,qf 5 29] (qC [xb 30,wb 31,qW 32 31,xc 33 32,qt 34 33,wh 35 34,wM 36 30 35] (ww 36 [wb 37,qW 38 37,xc 39 38,qt 40 39,xb 41,wu 42 1 40 41,qt 43 42,qb 44 (.conv .i64 (.t 43)),xB 45,wn 46 .rem 44 45,xM 46]) (wd [wb 47,qW 48 47,xc 49 48,xb 51,wb 52,qW 53 52,xc 54 53,wb 62,qW 63 62,xc 64 63,xb 66,qB 67 .mul 66 7,wI 68 67 3,wb 69,qW 70 69,xc 71 70,xb 80,qB 81 .mul 80 29,xb 83,wb 84,qW 85 84,xc 86 85,qt 50 49,qt 55 54,wh 56 55,wn 57 .rem 51 56,wu 58 1 50 57,qt 59 58,qb 60 (.conv .i64 (.t 59)),qB 61 .mul 60 131,qt 65 64,qt 72 71,wh 73 72,wn 74 .rem 68 73,wu 75 1 65 74,qt 76 75,qb 77 (.conv .i64 (.t 76)),qB 78 .mul 77 1117,wn 79 .add 61 78,wn 82 .add 79 81,qt 87 86,wh 88 87,wn 89 .quo 83 88,qB 90 .mul 89 53,wn 91 .add 82 90,qf 6 91] [xH 92,xH 93,qB 94 .quo 93 64,wn 95 .xor 92 94,qf 6 95] (qF [xH 96,xB 97,wn 98 .rem 96 97,xM 98])))))⟩
theorem mV:az Tryz.prog bu=some cy:=by kernel_rfl
def cJ:FK:=⟨12,xT,ya (xa 4) [xB 5,wb 6,xB 7,wh 8 7,wg 9 (wO 6 8),wu 10 1 5 9,qt 11 10,xM 11]⟩
theorem ed:az Tryz.prog aZ=some cJ:=by kernel_rfl
def jI:FK:=⟨15,xD 6,ya (wD 6 qZ) [wb 7,xB 8,wn 9 .geq 7 8,qf 10 9,qO 11 10 (wj 0),qO 12 10 (wj 2),xz 13 10 .leq 11 (.t 12),xP 14 10 13 qZ,qf 6 14]⟩
theorem vG:az Tryz.prog gy=some jI:=by kernel_rfl
def bS:FK:=⟨28,xK,qe (xa 2) (we 0 (xC [wb 4,wG 5 4 1,xb 3] 3 (qF (xa 2)) (xC [wb 7,wG 8 7 2,qf 9 8,wT 10 9 0,xV 11 9 .eql 10 (qi 10),xL 12 9 11,qf 13 12,wT 14 13 0,xV 15 13 .eql 14 (qi 11),xL 16 13 15,qf 17 16,wT 18 17 0,xV 19 17 .eql 18 (qi 13),xL 20 17 19,qf 6 20] 6 (qF (wD 2 wJ)) (qe [wb 22,xQ 23 [.t 22,qi 3,qi 9],qf 24 23,wT 25 24 0,xV 26 24 .eql 25 (qi 12),xL 27 24 26,qf 21 27] (wQ 21 2 (qi 2))))) (qF (wD 2 (qi (-1)))))⟩
theorem sJ:az Tryz.prog eC=some bS:=by kernel_rfl
def kh:FK:=⟨13,xK,ya (wD 2 qZ) [wb 3,xQ 4 [.t 3,wJ,qi 14],xA 5,qO 6 5 (wj 0),xz 7 5 .neq 6 (qi 12),xP 8 5 7 qZ,qf 9 8,qO 10 9 (wj 0),xz 11 9 .neq 10 (qi 13),xP 12 9 11 qZ,qf 2 12]⟩
theorem px:az Tryz.prog cD=some kh:=by kernel_rfl
def ic:AK:=wd [wZ 4 1 1,qT 6 [qw,qw,.nils,qw]] [wb 11,xW 12 16 [(0,1,wJ),(1,1,wJ),xe 2 2,xe 3 3,xe 4 4,xe 5 5,xe 6 8,xe 7 9,xe 8 10,xe 9 13,xe 10 3,xe 11 6,xe 12 7,xe 13 11,xe 14 12,xe 15 14],wC 13 (wO 11 12),qf 7 13] (wd [qf 14 7,wb 15,qf 16 2,wg 17 (wO 15 16),wq 18 [qw,qw,.nils,qw] [xR 14,wE 1 17],qT 8 [qw,qw,.nils,qw],qS 4 8 18] [qf 19 7,xi 20 eC 19,qf 9 20] (xJ [qf 21 7,wG 22 21 14] (qX 22 (qC [xc 23 4,qt 24 23,wh 25 24,wG 26 25 0] (ww 26 [wb 27,qf 28 2,wg 29 (wO 27 28),xW 30 1 [xR 29],wq 31 [qw,qw,.nils,qw] [xe 0 13,xe 1 (-1),wE 2 30],qS 4 6 31]) (qe [wb 32,xc 33 4,qt 34 33,wh 35 34,wg 36 (wO 32 35),qp 37 3 8,xu 37 36] (.reg [xc 38 4,qt 39 38,qp 40 3 8,qt 41 40,wu 42 3 39 41,xc 43 42,qt 44 43,qf 9 44])))) (xJ [qf 45 7,wG 46 45 1] (qX 46 (.reg [wb 47,xW 48 7 [(0,1,qR),(1,1,wJ),xe 2 2,xe 3 3,xe 4 15,xe 5 16,xe 6 255],wC 49 (wO 47 48),qp 50 3 8,xu 50 49])) (xJ [qf 51 7,xi 52 cD 51,xO 53 52] (qX 53 (.reg [xt 54 8,qQ 1 54 (qi (-1))])) (wL (xa 10) (yc 0 [qf 55 10,qf 56 9,wM 57 55 56] 57 0 1 [xp 60 8,wb 62,qf 63 2,qt 61 60,wg 64 (wO 62 63),qL 60 61,xS 65 1 xv 1 [xR 64],wR 66 1 8 61 65,xp 67 8,xu 67 66] [qf 58 10,xX 59 58,qf 10 59]) [wa 68 4 8,qS 4 6 68])))))
def iu:FK:=⟨69,[xE 6 4],(AK.whole ic)⟩
theorem sD:az Tryz.prog ip=some iu:=by kernel_rfl
def jx:FK:=⟨30,xD 6,xI (xa 6) [xB 7,qf 8 2,xg 9 8 1,wM 10 7 9,qf 11 10,qO 12 11 (wj 0),qO 13 11 (xG (xy 12 4)),xz 14 11 .gtr 13 qR,xP 15 11 14 qZ] (ww 15 [xB 16,xX 17 16,wb 18,qf 19 2,xg 20 19 1,xB 21,wn 22 .sub 20 21,wg 23 (wO 18 22),wn 24 .add 17 23,qf 6 24]) [wb 25,qf 26 2,xg 27 26 1,wg 28 (wO 25 27),qb 29 (.bin .add wJ (.t 28)),qf 6 29]⟩
theorem vu:az Tryz.prog eL=some jx:=by kernel_rfl
def gU:AK:=wd [wZ 3 1 1,qT 4 [qw,qw,.nils]] [wb 10,xW 11 4 [(0,1,wJ),(1,1,qR),xe 2 2,xe 3 3],wC 12 (wO 10 11),wq 13 [qw,qw,.nils] [xR 12],qT 5 [qw,qw,.nils],qS 3 5 13] (wd [xc 14 5,wb 17,qt 15 14,wI 16 15 2,wg 18 (xy 17 5),qL 14 15,wn 19 .add 16 18,xt 20 5,xu 20 19] [wb 21,xW 22 6 [xe 0 3,xe 1 5,xe 2 2,(3,1,wJ),xe 4 7,xe 5 4],wC 23 (wO 21 22),qf 6 23] (wL (xa 7) (wY 0 [qf 24 7,xH 25,wM 26 24 25] 26 0 1 (qe [wq 29 [.nils,.nils,qw,qw,.nils] [],qT 8 [.nils,.nils,qw,qw,.nils],qS 5 8 29] (xJ [wb 30,xW 31 5 [(0,1,wJ),xe 1 2,(2,1,qR),xe 3 3,xe 4 4],wC 32 (wO 30 31),qf 9 32] (yc 2 [qf 33 9,qB 34 .gtr 33 0] 34 2 3 [xt 37 8,wb 39,xt 41 5,qt 38 37,wa 40 1 3,qt 42 41,qn 43 ip [.t 39,.t 40,.t 42],qL 37 38,qH 44 4 [qw,qw,.nils,qw] 1 [wo 0 4 43],qL 37 38,wR 45 4 48 38 44,xt 46 8,xu 46 45] [qf 35 9,xg 36 35 1,qf 9 36]) (wd [wb 47,xt 48 5,qt 49 48,wg 50 (wO 47 49),qp 51 3 8,xu 51 50] [wb 52,xW 53 5 [xe 0 2,(1,1,wJ),xe 2 2,(3,1,wJ),xe 4 3],wC 54 (wO 52 53),xp 55 8,xu 55 54] (xJ [xH 56,wG 57 56 1,qf 58 57,wT 59 58 7,wT 60 58 6,xV 61 58 .sub 60 wJ,xV 62 58 .eql 59 (.t 61),wT 63 58 62,qO 64 63 (wj 0),qO 65 63 (xG (xy 64 3)),xz 66 63 .gtr 65 qR,qN 67 58 (qP 63 (.t 66) qZ),xL 68 58 67] (qX 68 (.reg [xp 69 8,qQ 1 69 (qi 3)])) (xJ [xp 70 8,qt 71 70] (.blk 4 (xC (x8 73 71 1 72 73) 72 (qe [qp 74 3 8,qQ 1 74 qR] (.reg [wb 75,qf 76 7,xH 77,qn 78 eL [.t 75,.t 76,.t 77],xW 79 1 [xR 78],qp 80 4 8,xu 80 79])) (qe (x8 82 71 2 81 82) (qX 81 (.reg [wb 83,qf 84 7,xH 85,qn 86 eL [.t 83,.t 84,.t 85],wb 87,qf 88 7,xH 89,qn 90 eL [.t 87,.t 88,.t 89],xW 91 2 [xR 86,wE 1 90],qp 92 4 8,xu 92 91]))))) (.reg [xp 93 5,qt 94 93,wa 95 5 8,qH 96 5 [.nils,.nils,qw,qw,.nils] 1 [wo 0 5 95],wR 97 5 88 94 96,xp 98 5,xu 98 97])))))) [qf 27 7,xX 28 27,qf 7 28]) [wa 99 3 5,qS 3 4 99]))
def ij:FK:=⟨100,[xE 4 3],(AK.whole gU)⟩
theorem sL:az Tryz.prog iq=some ij:=by kernel_rfl
def jJ:FK:=⟨43,xT,wd [wZ 2 3 0,qc 4 xq] (x7 (xW 8 0 []) 5 8) (wL (xa 6) (wY 0 [xH 9,xp 10 2,qt 11 10,wh 12 11,wM 13 9 12] 13 0 1 (qe (xa 7) (wY 2 [qf 16 7,xp 17 2,qt 18 17,xH 19,wu 20 5 18 19,qp 21 4 20,qt 22 21,wh 23 22,wM 24 16 23] 24 2 3 (qe [xp 27 2,qt 28 27,xH 29,wu 30 5 28 29,qp 31 4 30,qt 32 31,qf 33 7,wu 34 1 32 33,qt 35 34,xB 36,wn 37 .eql 35 36] (qX 37 (qe [xb 38,xH 39,xW 40 1 [xR 39],wR 41 1 8 38 40,qf 5 41] (.exit 2)))) [qf 25 7,xX 26 25,qf 7 26])) [xH 14,xX 15 14,qf 6 15]) [xb 42,xM 42])⟩
theorem rU:az Tryz.prog cB=some jJ:=by kernel_rfl
def ir:AK:=wd [qT 2 xU] [wq 9 xU [],qT 3 xU,xu 3 9] (xJ [wb 10,xW 11 4 [(0,1,wJ),xe 1 2,(2,1,wJ),xe 3 3],wC 12 (wO 10 11),xM 12] (yc 0 [xA 13,qB 14 .gtr 13 0] 14 0 1 [xc 17 3,wb 19,qt 18 17,wa 20 1 3,wX 21 iq 19 20,qL 17 18,qH 22 3 [qw,qw,.nils] 1 [wo 0 3 21],qL 17 18,wR 23 3 40 18 22,xc 24 3,xu 24 23] [xA 15,xg 16 15 1,xM 16]) (wL [wb 25,xW 26 4 [(0,1,qR),(1,1,qR),(2,1,wJ),xe 3 3],wC 27 (wO 25 26),qf 5 27] (wY 2 [xb 28,qB 29 .gtr 28 0] 29 2 3 (wd [xc 32 3,wb 34,xc 35 3,qt 33 32,qt 36 35,wh 37 36,wg 38 (wO 34 37),qL 32 33,wu 39 3 33 38,qf 6 39] [wb 40,xH 41,qW 42 41,xp 43 42,qt 44 43,wh 45 44,wg 46 (wO 40 45),qf 7 46] (qe [wb 47,xH 48,qW 49 48,xt 50 49,qt 51 50,wg 52 (wO 47 51),wq 53 [qw,.nils] [xR 52],qT 8 [qw,.nils],qS 2 8 53] (xJ [xH 54,qW 55 54,wa 56 3 55,qf 57 7,wX 58 cB 56 57,wh 59 58,qc 60 qR] (qY 4 (qe [wM 61 60 59] (.seq (wA 61 4) (wv 5 (.reg [xt 62 8,wb 64,xH 65,qW 66 65,xt 67 66,qt 63 62,qt 68 67,wg 69 (wO 64 68),qL 62 63,xS 70 1 xv 1 [xR 69],wR 71 1 8 63 70,xt 72 8,xu 72 71]) (x7 (xX 73 60) 60 73))))) (qe [qf 74 7,qB 75 .gtr 74 0] (qX 75 (.reg [xH 76,qW 77 76,xp 78 77,qf 80 7,xH 81,qW 82 81,xp 83 82,qf 85 7,qt 79 78,qt 84 83,wu 86 5 84 85,xc 87 86,qt 88 87,wa 89 2 8,qH 90 2 [qw,.nils] 1 [wo 0 2 89],qL 78 79,qL 83 84,qL 87 88,wR 91 2 32 88 90,qL 78 79,wu 92 5 79 80,xc 93 92,xu 93 91])))))) [xb 30,xg 31 30 1,qf 5 31]) [wa 94 1 3,xu 2 94]))
def gT:FK:=⟨95,[xE 2 1],(AK.whole ir)⟩
theorem sh:az Tryz.prog cV=some gT:=by kernel_rfl
def dp:AK:=qe [wZ 1 5 0,qT 2 [.nils,.nils,qw,qw,.nils]] (.cut (.ot (.one (wD 3 (.c .any)) (.one [xp 9 1] (.one [qp 11 3 1] (.one [qp 14 4 1] (.one [qt 10 9] (.one [qt 12 11] (.one [qt 15 14] (qV [qH 7 2 [qw,.nils] 0 [],xZ,x6,qL 14 15] (qV [qH 8 4 [qw,qw,.nils,qw] 0 [],xZ,x6,qL 14 15] (yb [xW 13 0 [],xZ,x6,qL 14 15] [wR 16 1 8 13 15,xZ,x6] (.one [wq 17 [.nils,.nils,qw,qw,.nils] [xR 7,wE 1 8,wE 2 10,wE 3 12,wE 4 16]] (yb [qT 3 [.nils,.nils,qw,qw,.nils]] [qS 5 3 17] .done))) (wK [xW 13 0 [],xZ,x6,qL 14 15] (qV [qH 8 4 [qw,qw,.nils,qw] 0 [],xZ,x6,qL 14 15] (wK [wR 16 1 8 13 15,xZ,x6] (.one [wq 17 [.nils,.nils,qw,qw,.nils] [xR 7,wE 1 8,wE 2 10,wE 3 12,wE 4 16]] (yb [qT 3 [.nils,.nils,qw,qw,.nils]] [qS 5 3 17] .done))) (yb [wR 16 1 8 13 15,xZ,x6] [qH 8 4 [qw,qw,.nils,qw] 0 [],xZ,x6,qL 14 15] (.one [wq 17 [.nils,.nils,qw,qw,.nils] [xR 7,wE 1 8,wE 2 10,wE 3 12,wE 4 16]] (yb [qT 3 [.nils,.nils,qw,qw,.nils]] [qS 5 3 17] .done)))))) (qV [qH 8 4 [qw,qw,.nils,qw] 0 [],xZ,x6,qL 14 15] (qV [qH 7 2 [qw,.nils] 0 [],xZ,x6,qL 14 15] (yb [xW 13 0 [],xZ,x6,qL 14 15] [wR 16 1 8 13 15,xZ,x6] (.one [wq 17 [.nils,.nils,qw,qw,.nils] [xR 7,wE 1 8,wE 2 10,wE 3 12,wE 4 16]] (yb [qT 3 [.nils,.nils,qw,qw,.nils]] [qS 5 3 17] .done))) (wK [xW 13 0 [],xZ,x6,qL 14 15] (qV [qH 7 2 [qw,.nils] 0 [],xZ,x6,qL 14 15] (wK [wR 16 1 8 13 15,xZ,x6] (.one [wq 17 [.nils,.nils,qw,qw,.nils] [xR 7,wE 1 8,wE 2 10,wE 3 12,wE 4 16]] (yb [qT 3 [.nils,.nils,qw,qw,.nils]] [qS 5 3 17] .done))) (yb [wR 16 1 8 13 15,xZ,x6] [qH 7 2 [qw,.nils] 0 [],xZ,x6,qL 14 15] (.one [wq 17 [.nils,.nils,qw,qw,.nils] [xR 7,wE 1 8,wE 2 10,wE 3 12,wE 4 16]] (yb [qT 3 [.nils,.nils,qw,qw,.nils]] [qS 5 3 17] .done)))))) (wK [xW 13 0 [],xZ,x6,qL 14 15] (qV [qH 7 2 [qw,.nils] 0 [],xZ,x6,qL 14 15] (qV [qH 8 4 [qw,qw,.nils,qw] 0 [],xZ,x6,qL 14 15] (wK [wR 16 1 8 13 15,xZ,x6] (.one [wq 17 [.nils,.nils,qw,qw,.nils] [xR 7,wE 1 8,wE 2 10,wE 3 12,wE 4 16]] (yb [qT 3 [.nils,.nils,qw,qw,.nils]] [qS 5 3 17] .done))) (yb [wR 16 1 8 13 15,xZ,x6] [qH 8 4 [qw,qw,.nils,qw] 0 [],xZ,x6,qL 14 15] (.one [wq 17 [.nils,.nils,qw,qw,.nils] [xR 7,wE 1 8,wE 2 10,wE 3 12,wE 4 16]] (yb [qT 3 [.nils,.nils,qw,qw,.nils]] [qS 5 3 17] .done)))) (qV [qH 8 4 [qw,qw,.nils,qw] 0 [],xZ,x6,qL 14 15] (qV [qH 7 2 [qw,.nils] 0 [],xZ,x6,qL 14 15] (wK [wR 16 1 8 13 15,xZ,x6] (.one [wq 17 [.nils,.nils,qw,qw,.nils] [xR 7,wE 1 8,wE 2 10,wE 3 12,wE 4 16]] (yb [qT 3 [.nils,.nils,qw,qw,.nils]] [qS 5 3 17] .done))) (yb [wR 16 1 8 13 15,xZ,x6] [qH 7 2 [qw,.nils] 0 [],xZ,x6,qL 14 15] (.one [wq 17 [.nils,.nils,qw,qw,.nils] [xR 7,wE 1 8,wE 2 10,wE 3 12,wE 4 16]] (yb [qT 3 [.nils,.nils,qw,qw,.nils]] [qS 5 3 17] .done)))) (wK [wR 16 1 8 13 15,xZ,x6] (qV [qH 7 2 [qw,.nils] 0 [],xZ,x6,qL 14 15] (wK [qH 8 4 [qw,qw,.nils,qw] 0 [],xZ,x6,qL 14 15] (.one [wq 17 [.nils,.nils,qw,qw,.nils] [xR 7,wE 1 8,wE 2 10,wE 3 12,wE 4 16]] (yb [qT 3 [.nils,.nils,qw,qw,.nils]] [qS 5 3 17] .done))) (yb [qH 8 4 [qw,qw,.nils,qw] 0 [],xZ,x6,qL 14 15] [qH 7 2 [qw,.nils] 0 [],xZ,x6,qL 14 15] (.one [wq 17 [.nils,.nils,qw,qw,.nils] [xR 7,wE 1 8,wE 2 10,wE 3 12,wE 4 16]] (yb [qT 3 [.nils,.nils,qw,qw,.nils]] [qS 5 3 17] .done)))))))))))))))))) (xJ (xa 4) (yc 0 [xA 18,xc 19 1,qt 20 19,wh 21 20,wM 22 18 21] 22 0 1 [xc 25 3,xc 27 1,xA 29,xc 34 1,xA 36,qt 26 25,qt 28 27,wu 30 2 28 29,xc 31 30,qt 32 31,qt 35 34,wu 37 2 35 36,xt 38 37,qt 39 38,xW 33 0 [],qL 25 26,qL 27 28,qL 31 32,qL 34 35,qL 38 39,wR 40 1 8 33 39,qL 25 26,qL 27 28,qL 31 32,wq 41 [qw,.nils] [xR 32,wE 1 40],qH 42 2 [qw,.nils] 1 [wo 0 2 41],qL 25 26,wR 43 2 32 26 42,xc 44 3,xu 44 43] [xA 23,xX 24 23,xM 24]) (wL (xa 5) (wY 2 [xb 45,xt 46 1,qt 47 46,wh 48 47,wM 49 45 48] 49 2 3 (qe [xt 52 1,qt 53 52,xb 54,wu 55 4 53 54,wa 56 4 55,qT 6 [qw,qw,.nils,qw],qS 4 6 56] (.reg [xt 57 3,xc 59 6,xt 61 6,xp 64 6,qp 67 3 6,qt 58 57,qt 60 59,qt 62 61,qt 65 64,qt 68 67,xW 63 0 [],qL 57 58,qL 59 60,qL 61 62,qL 64 65,qL 67 68,wR 66 1 8 63 65,qL 57 58,qL 59 60,qL 61 62,qL 67 68,wq 69 [qw,qw,.nils,qw] [xR 60,wE 1 62,wE 2 66,wE 3 68],qH 70 4 [qw,qw,.nils,qw] 1 [wo 0 4 69],qL 57 58,wR 71 4 48 58 70,xt 72 3,xu 72 71])) [xb 50,xX 51 50,qf 5 51]) [wa 73 5 3,qS 5 2 73])))
def dm:FK:=⟨74,[xE 2 5],(AK.whole dp)⟩
theorem lT:az Tryz.prog db=some dm:=by kernel_rfl
def lm:FK:=⟨29,[xE 2 3],wd [wZ 1 3 0,qT 2 [qw,qw,.nils]] [xc 5 1,qt 6 5,xt 7 1,qt 8 7,wq 9 [qw,qw,.nils] [xR 6,wE 1 8],qT 3 [qw,qw,.nils],qS 3 3 9] (wL (xa 4) (yc 0 [xA 10,xp 11 1,qt 12 11,wh 13 12,wM 14 10 13] 14 0 1 [xp 17 3,xp 19 1,xA 21,qt 18 17,qt 20 19,wu 22 5 20 21,wa 23 5 22,xi 24 db 23,qL 17 18,qH 25 5 [.nils,.nils,qw,qw,.nils] 1 [wo 0 5 24],qL 17 18,wR 26 5 88 18 25,xp 27 3,xu 27 26] [xA 15,xX 16 15,xM 16]) [wa 28 3 3,qS 3 2 28])⟩
theorem sg:az Tryz.prog gV=some lm:=by kernel_rfl
def gL:FK:=⟨25,[xE 2 1],wd [wZ 1 1 0,qT 2 xU] [wq 5 xU [],qT 3 xU,xu 3 5] (wL (xa 4) (yc 0 [xA 6,xc 7 1,qt 8 7,wh 9 8,wM 10 6 9] 10 0 1 [xc 13 3,xc 15 1,xA 17,qt 14 13,qt 16 15,wu 18 3 16 17,wa 19 3 18,xi 20 gV 19,qL 13 14,qH 21 3 [qw,qw,.nils] 1 [wo 0 3 20],qL 13 14,wR 22 3 40 14 21,xc 23 3,xu 23 22] [xA 11,xX 12 11,xM 12]) [wa 24 1 3,xu 2 24])⟩
theorem mr:az Tryz.prog dF=some gL:=by kernel_rfl
def gS:AK:=wd [qT 2 xU] [wb 7,xi 8 cV 7,xi 9 dF 8,qT 3 xU,xu 3 9] (wd [xc 10 3,wb 12,xc 13 3,qt 11 10,qt 14 13,wh 15 14,wg 16 (wO 12 15),qL 10 11,wu 17 3 11 16,xM 17] [xA 18,qW 19 18,xp 20 19,wb 22,xA 23,qW 24 23,xp 25 24,qt 21 20,qt 26 25,wh 27 26,wg 28 (wO 22 27),qL 20 21,wu 29 5 21 28,qf 5 29] (qe [wb 30,xA 31,qW 32 31,xt 33 32,xA 35,qW 36 35,xp 37 36,qt 34 33,qt 38 37,wh 39 38,xW 40 5 [xe 0 (-1),wE 1 34,wE 2 39,(3,1,qR),(4,1,wJ)],wC 41 (wO 30 40),qf 6 41] (xJ [wb 42,wg 43 (xy 42 32)] (.blk 0 (xC (x8 45 43 0 44 45) 44 (.reg [xb 46,wb 47,wg 48 (xy 47 5),qW 49 46,xp 50 49,xu 50 48]) (xC (x8 52 43 1 51 52) 51 (qe [xb 53,qW 54 53,qp 55 4 54,qt 56 55,wh 57 56,qB 58 .gtr 57 0] (qX 58 (.reg [xb 59,qW 60 59,qp 61 4 60,qt 62 61,xH 63,wl 64 1 62 qR,xu 64 63]))) (xC (x8 66 43 2 65 66) 65 (.reg [xb 67,xH 68,qW 69 67,qp 70 3 69,xu 70 68]) (xC (x8 72 43 3 71 72) 71 (qe [xb 73,qW 74 73,xt 75 74,qt 76 75,wh 77 76,qB 78 .gtr 77 0] (qX 78 (.reg [xb 79,qW 80 79,xt 81 80,qt 82 81,xH 83,wl 84 4 82 qR,xt 85 84,xu 85 83]))) (xC (x8 87 43 4 86 87) 86 (qe [xb 88,qW 89 88,xt 90 89,qt 91 90,wh 92 91,qB 93 .gtr 92 0] (qX 93 (.reg [xb 94,qW 95 94,xt 96 95,xb 98,qW 99 98,xt 100 99,xH 105,xS 106 1 xv 1 [xR 105],qt 97 96,qt 101 100,wl 102 4 101 qR,xp 103 102,qt 104 103,wR 107 1 8 104 106,qL 96 97,wl 108 4 97 qR,xp 109 108,xu 109 107]))) (xC (x8 111 43 5 110 111) 110 (.reg [xb 112,xb 113,qW 114 113,xc 115 114,qt 116 115,xH 117,xW 118 1 [xR 117],wq 119 [qw,.nils] [(0,1,qR),wE 1 118],qH 120 2 [qw,.nils] 1 [wo 0 2 119],wR 121 2 32 116 120,qW 122 112,xc 123 122,xu 123 121]) (xC (x8 125 43 6 124 125) 124 (.reg [xA 126,xA 127,qW 128 127,xc 129 128,wb 131,qt 130 129,wg 132 (xy 131 2),qL 129 130,wn 133 .add 130 132,qW 134 126,xt 135 134,xu 135 133]) (qe (x8 137 43 7 136 137) (qX 136 (qe [xb 138,qW 139 138,xt 140 139,qt 141 140,wh 142 141,qB 143 .gtr 142 0] (qX 143 (.reg [xb 144,qW 145 144,xt 146 145,wb 148,xS 149 1 xv 3 [xe 0 256,xe 1 (-1),(2,1,wJ)],qt 147 146,wC 150 (wO 148 149),qL 146 147,wl 151 4 147 qR,qp 152 3 151,xu 152 150]))))))))))))) (qF [wa 153 1 3,xu 2 153]))))
def ii:FK:=⟨154,[xE 2 1],(AK.whole gS)⟩
theorem sM:az Tryz.prog gZ=some ii:=by kernel_rfl
def eT:FK:=⟨12,xT,ya (wD 4 (.c wi)) [xB 5,wb 6,xB 7,wh 8 7,wg 9 (wO 6 8),wu 10 1 5 9,qt 11 10,xM 11]⟩
theorem jq:az Tryz.prog bv=some eT:=by kernel_rfl
def il:FK:=⟨21,[xE 4 4],xI [qT 4 [qw,qw,wi,.nils]] [xB 5,wh 6 5,wG 7 6 0,qf 8 7,wT 9 8 0,qN 10 8 (xG (xy 9 3)),xV 11 8 .eql 10 qR,xL 12 8 11] (ww 12 [wb 13,xW 14 10 [(0,1,qR),(1,1,wJ),xe 2 2,xe 3 3,xe 4 5,xe 5 7,xe 6 15,xe 7 16,xe 8 100,xe 9 255],wC 15 (wO 13 14),wq 16 [qw,qw,wi,.nils] [(0,1,wJ),wE 1 15],qS 4 4 16]) [wb 17,xB 18,wX 19 bv 17 18,wq 20 [qw,qw,wi,.nils] [xe 0 2,wE 2 19],qS 4 4 20]⟩
theorem si:az Tryz.prog eI=some il:=by kernel_rfl
def en:FK:=⟨47,[xE 6 4],qe [qT 6 [qw,qw,wi,.nils]] (qC [qf 8 2,qB 9 .lss 8 2,qf 10 9,wT 11 10 0,qN 12 10 (xG (xy 11 4)),xV 13 10 .eql 12 qR,xL 14 10 13] (ww 14 [wb 15,xB 16,wX 17 eI 15 16,qS 4 6 17]) (qC [wb 18,wg 19 (xy 18 7),wG 20 19 0] (ww 20 [wb 21,xW 22 3 [xe 0 11,xe 1 12,xe 2 11],wC 23 (wO 21 22),wb 24,xB 25,qf 26 2,xg 27 26 1,qn 28 bc [.t 24,.t 25,.t 27],qH 29 4 [qw,qw,wi,.nils] 1 [wo 0 4 28],wq 30 [qw,qw,wi,.nils] [xR 23,wE 3 29],qS 4 6 30]) (ya [wb 31,xW 32 9 [xe 0 3,xe 1 3,xe 2 4,xe 3 5,xe 4 6,xe 5 7,xe 6 8,xe 7 9,xe 8 10],wC 33 (wO 31 32),qf 7 33] [qf 34 7,wb 35,xB 36,qf 37 2,xg 38 37 1,qn 39 bc [.t 35,.t 36,.t 38],wb 40,xB 41,qf 42 2,xg 43 42 1,qn 44 bc [.t 40,.t 41,.t 43],qH 45 4 [qw,qw,wi,.nils] 2 [wo 0 4 39,wo 4 4 44],wq 46 [qw,qw,wi,.nils] [xR 34,wE 3 45],qS 4 6 46])))⟩
theorem lc:az Tryz.prog bc=some en:=by kernel_rfl
def gw:FK:=⟨99,[xE 4 4],wd [qT 4 [qw,qw,wi,.nils]] [qc 5 (.c .any),wb 9,qW 10 9,xc 11 10,wb 13,qW 14 13,xp 15 14,xB 17,qt 12 11,qt 16 15,qn 18 bc [.t 12,.t 16,.t 17],qT 5 [qw,qw,wi,.nils],qS 4 5 18] (qC [wb 19,qW 20 19,xt 21 20,qt 22 21,wh 23 22,wG 24 23 0,qf 25 24,wT 26 25 0,qN 27 25 (qA 26),xm 28 25 0 27,xk 29 25 28,qN 30 25 (xG (xy 29 4)),xV 31 25 .gtr 30 qR,xL 32 25 31] (ww 32 [wa 33 4 5,qS 4 4 33]) (wd [qc 6 (.c .any),wb 34,qW 35 34,xt 36 35,wb 38,qW 39 38,xc 40 39,wb 42,qW 43 42,xt 44 43,qt 37 36,qt 41 40,qt 45 44,wh 46 45,wg 47 (wO 41 46),qL 36 37,wu 48 3 37 47,wa 49 3 48,qT 6 [wi,.nils,.nils],qS 3 6 49] [xc 50 6,qt 51 50,wq 52 [qw,qw,wi,.nils] [xe 0 13,wE 2 51],qT 7 [qw,qw,wi,.nils],qS 4 7 52] (qC (xa 8) (yc 0 [qf 53 8,xt 54 6,qt 55 54,wh 56 55,wM 57 53 56] 57 0 1 [qp 60 3 7,wb 62,qW 63 62,xc 64 63,wb 66,qW 67 66,xp 68 67,qt 61 60,qt 65 64,qt 69 68,qn 70 bc [.t 65,.t 69,qi 2],qL 60 61,xS 71 4 [qw,qw,wi,.nils] 1 [wo 0 4 70],wR 72 4 56 61 71,qp 73 3 7,xu 73 72] [qf 58 8,xX 59 58,qf 8 59]) (wL [wb 74,qW 75 74,xc 76 75,qt 77 76,wg 78 (xy 77 2),wG 79 78 0] (ww 79 [wa 80 4 7,qS 4 4 80]) [wb 81,qW 82 81,xc 83 82,xS 85 1 xv 4 [xe 0 3,xe 1 4,xe 2 8,xe 3 10],wb 88,qW 89 88,xc 90 89,wb 92,qW 93 92,xp 94 93,qt 84 83,wa 87 4 7,qt 91 90,qt 95 94,wC 86 (wO 84 85),qz (some 4) 7 87,qL 90 91,qL 94 95,qn 96 bc [.t 91,.t 95,qi 2],qz (some 4) 7 87,qH 97 4 [qw,qw,wi,.nils] 2 [wo 0 4 87,wo 4 4 96],wq 98 [qw,qw,wi,.nils] [xR 86,wE 3 97],qS 4 4 98]))))⟩
theorem nh:az Tryz.prog du=some gw:=by kernel_rfl
def fw:FK:=⟨46,xK,wd (wD 2 (.c wi)) [wb 3,wb 4,qW 5 4,qp 6 3 5,qt 7 6,xX 8 7,qW 9 3,qp 10 3 9,xu 10 8] (wL [wb 11,qW 12 11,xc 13 12,qt 14 13,wg 15 (xy 14 9),wG 16 15 0,qf 17 16,qO 18 17 (wj 0),qO 19 17 (qA 18),xr 20 17 2 19,xl 21 17 20,qO 22 17 (qU 21),xz 23 17 .gtr 22 qR,xP 24 17 23 qZ] (ww 24 [wb 25,qW 26 25,xc 27 26,wb 29,qW 30 29,xp 31 30,qt 28 27,qt 32 31,wX 33 bv 28 32,qf 2 33]) [wb 34,qW 35 34,qp 36 3 35,wb 39,qW 40 39,qp 41 3 40,qt 37 36,qB 38 .rem 37 24,qt 42 41,qB 43 .rem 42 24,xX 44 43,qb 45 (.slStr (ye [97,98,99,100,101,103,104,105,106,107,108,109,110,112,113,114,115,116,117,118,119,120,121,122]) (some (.t 38)) (some (.t 44))),qf 2 45])⟩
theorem lN:az Tryz.prog da=some fw:=by kernel_rfl
def eb:FK:=⟨24,[xE 4 5],wd [wZ 3 4 1,qT 4 [qw,wi,.nils,.nils,.nils]] [wb 6,xi 7 da 6,qf 5 7] (ya [wb 8,qH 9 1 [wi] 0 [],wb 10,qW 11 10,xp 12 11,qt 13 12,wR 14 1 16 9 13,xb 15,qH 16 1 [wi] 1 [xR 15],wR 17 1 16 14 16,qW 18 8,xp 19 18,xu 19 17] [xb 20,wa 21 4 3,qH 22 4 [qw,qw,wi,.nils] 1 [wo 0 4 21],wq 23 [qw,wi,.nils,.nils,.nils] [(0,1,wJ),wE 1 20,wE 2 22],qS 5 4 23])⟩
theorem iB:az Tryz.prog bX=some eb:=by kernel_rfl
def gN:FK:=⟨14,[xE 2 4],ya [qT 2 [qw,qw,wi,.nils]] [wb 3,wb 5,qW 6 5,xc 7 6,xS 9 1 xv 6 [xe 0 16,xe 1 16,xe 2 16,xe 3 8,xe 4 17,(5,1,qR)],qt 8 7,xN 4 (xy 3 2),qL 7 8,wC 10 (wO 8 9),wq 11 [qw,qw,wi,.nils] [(0,1,wJ),wE 1 10],qH 12 4 [qw,qw,wi,.nils] 2 [wo 0 4 4,wo 4 4 11],wq 13 [qw,qw,wi,.nils] [xe 0 7,wE 3 12],qS 4 2 13]⟩
theorem mz:az Tryz.prog cx=some gN:=by kernel_rfl
def dI:AK:=wd (wD 4 xq) [wb 9,wb 10,qW 11 10,xc 12 11,qt 13 12,xW 14 5 [xe 0 2,xe 1 3,(2,1,wJ),(3,1,qR),xe 4 5],wC 15 (wO 13 14),wq 16 [qw,qw,wi,.nils] [(0,1,wJ),wE 1 15],wX 17 bX 9 16,qT 5 [qw,wi,.nils,.nils,.nils],qS 5 5 17] (wd [xt 18 5,qt 19 18,wq 20 [qw,qw,wi,.nils] [xe 0 2,wE 2 19],qT 6 [qw,qw,wi,.nils],qS 4 6 20] [wb 21,xB 22,xg 23 22 1,wX 24 aN 21 23,qf 7 24] (qe [xt 25 5,qt 26 25,wa 27 4 6,wq 28 [qw,qw,wi,.nils] [(0,1,wJ),(1,1,wJ)],qH 29 4 [qw,qw,wi,.nils] 2 [wo 0 4 27,wo 4 4 28],wq 30 [qw,qw,wi,.nils] [xe 0 4,wE 3 29],qH 31 4 [qw,qw,wi,.nils] 1 [wo 0 4 30],wq 32 [qw,wi,.nils,.nils,.nils] [xe 0 2,wE 1 26,wE 2 31],qT 8 [qw,wi,.nils,.nils,.nils],qS 5 8 32] (.cut (.reg [wb 33,wb 34,qW 35 34,qp 36 4 35,qt 37 36,xg 38 37 2,qW 39 33,qp 40 4 39,xu 40 38]) (qF [qf 44 7,wa 41 5 5,wa 42 4 6,xS 43 4 [qw,qw,wi,.nils] 1 [wo 0 4 42],wa 45 5 8,xS 46 5 [qw,wi,.nils,.nils,.nils] 1 [wo 0 5 45],wR 47 5 96 44 46,qz (some 5) 5 41,qz (some 4) 6 42,wq 48 [qw,wi,.nils,.nils,.nils] [xe 0 6,wE 2 43,wE 3 47],qH 49 5 [qw,wi,.nils,.nils,.nils] 2 [wo 0 5 41,wo 5 5 48],xM 49]))))
def dE:FK:=⟨50,xT,(AK.whole dI)⟩
theorem mW:az Tryz.prog dB=some dE:=by kernel_rfl
def gJ:FK:=⟨128,xT,wd (wD 4 xq) [wb 7,wb 8,qW 9 8,qp 10 4 9,qt 11 10,xg 12 11 1,qW 13 7,qp 14 4 13,xu 14 12] (qe [wb 15,qW 16 15,xc 17 16,qt 18 17,wg 19 (xy 18 13),qf 5 19] (we 0 (xC [xb 21,qB 22 .lss 21 3,qf 23 22,qO 24 23 (wj 0),qO 25 23 (qA 24),xr 26 23 2 25,xl 27 23 26,qO 28 23 (qU 27),xz 29 23 .gtr 28 qR,xP 30 23 29 qZ,qf 20 30] 20 (qF [wb 31,qW 32 31,xc 33 32,wb 35,qW 36 35,xp 37 36,wb 40,qt 34 33,qt 38 37,wX 39 bv 34 38,xN 41 (xy 40 3),qH 42 4 [qw,qw,wi,.nils] 1 [wo 0 4 41],wq 43 [qw,wi,.nils,.nils,.nils] [xe 0 2,wE 1 39,wE 2 42],qH 44 5 [qw,wi,.nils,.nils,.nils] 1 [wo 0 5 43],xM 44]) (xC [xb 46,qB 47 .lss 46 5,qf 45 47] 45 (qF [wb 48,wb 49,xN 50 (xy 49 3),wX 51 bX 48 50,qH 52 5 [qw,wi,.nils,.nils,.nils] 1 [wo 0 5 51],xM 52]) (xC [xb 54,qB 55 .lss 54 7,qf 56 55,wT 57 56 1,xV 58 56 .lss 57 (qi 2),xL 59 56 58,qf 53 59] 53 (qF [wb 60,xN 61 (xy 60 3),qH 62 4 [qw,qw,wi,.nils] 1 [wo 0 4 61],wq 63 [qw,wi,.nils,.nils,.nils] [xe 0 3,wE 2 62],qH 64 5 [qw,wi,.nils,.nils,.nils] 1 [wo 0 5 63],xM 64]) (xC [xb 66,wG 67 66 7,qf 65 67] 65 (qF [wb 68,xi 69 cx 68,wb 70,xN 71 (xy 70 2),qH 72 4 [qw,qw,wi,.nils] 2 [wo 0 4 69,wo 4 4 71],wq 73 [qw,wi,.nils,.nils,.nils] [xe 0 4,wE 2 72],qH 74 5 [qw,wi,.nils,.nils,.nils] 1 [wo 0 5 73],xM 74]) (xC [xb 76,wG 77 76 8,qf 75 77] 75 (qF [wb 78,xi 79 cx 78,qH 80 4 [qw,qw,wi,.nils] 1 [wo 0 4 79],wq 81 [qw,qw,wi,.nils] [xe 0 12,wE 3 80],qH 82 4 [qw,qw,wi,.nils] 1 [wo 0 4 81],wq 83 [qw,wi,.nils,.nils,.nils] [xe 0 3,wE 2 82],qH 84 5 [qw,wi,.nils,.nils,.nils] 1 [wo 0 5 83],xM 84]) (xC [xb 86,qB 87 .lss 86 11,qf 85 87] 85 (xI [wb 88,xN 89 (xy 88 3),qH 90 4 [qw,qw,wi,.nils] 1 [wo 0 4 89],wb 91,xB 92,xg 93 92 1,wX 94 aN 91 93,wq 95 [qw,wi,.nils,.nils,.nils] [xe 0 5,wE 2 90,wE 3 94],qT 6 [qw,wi,.nils,.nils,.nils],qS 5 6 95] [wb 96,qW 97 96,xc 98 97,qt 99 98,wg 100 (xy 99 2),wG 101 100 0] (qX 101 (.reg [wb 102,xB 103,xg 104 103 1,wX 105 aN 102 104,qp 106 4 6,xu 106 105])) [wa 107 5 6,qH 108 5 [qw,wi,.nils,.nils,.nils] 1 [wo 0 5 107],xM 108]) (qe [xb 110,wG 111 110 11,qf 112 111,qO 113 112 (wj 0),qO 114 112 (qA 113),xr 115 112 0 114,xl 116 112 115,qO 117 112 (xG (xy 116 3)),xz 118 112 .eql 117 qR,xP 119 112 118 qZ,qf 109 119] (ww 109 [wb 120,xN 121 (xy 120 2),qH 122 4 [qw,qw,wi,.nils] 1 [wo 0 4 121],wq 123 [qw,wi,.nils,.nils,.nils] [xe 0 7,wE 2 122],qH 124 5 [qw,wi,.nils,.nils,.nils] 1 [wo 0 5 123],xM 124])))))))) (qF [wb 125,xB 126,wX 127 dB 125 126,xM 127])))⟩
theorem mK:az Tryz.prog dz=some gJ:=by kernel_rfl
def fE:FK:=⟨40,xT,wd (wD 4 xq) [wb 8,qW 9 8,xp 10 9,qt 11 10,qf 5 11] (qe (x7 (qH 12 5 [qw,wi,.nils,.nils,.nils] 0 []) 6 12) (qC [wb 13,qW 14 13,xc 15 14,qt 16 15,xW 17 4 [xe 0 2,xe 1 3,(2,1,wJ),xe 3 4],wC 18 (wO 16 17),qf 7 18] (yc 0 [qf 19 7,qB 20 .gtr 19 0,qf 21 20,qO 22 21 (wj 0),qO 23 21 (qA 22),xr 24 21 4 23,xl 25 21 24,xz 26 21 .gtr 25 qR,xP 27 21 26 qZ] 27 0 1 [xH 30,wb 31,xB 32,wX 33 dz 31 32,wR 34 5 96 30 33,qf 6 34] [qf 28 7,xg 29 28 1,qf 7 29]) (ya [wb 35,xb 36,qW 37 35,xp 38 37,xu 38 36] [xH 39,xM 39])))⟩
theorem lJ:az Tryz.prog aN=some fE:=by kernel_rfl
def eY:AK:=wd [qT 6 [wi,.nils,.nils]] [wb 8,qH 9 1 [wi] 3 [(0,1,ye [97]),(1,1,ye [98]),(2,1,ye [99])],qf 10 2,qb 11 (.slS 1 (.t 9) none (some (.t 10))),qW 12 8,xp 13 12,xu 13 11] (qe [wb 14,qf 15 2,xg 16 15 1,qW 17 14,qp 18 3 17,xu 18 16] (.cut (.reg [xB 19,qH 20 1 [wi] 0 [],wb 21,qW 22 21,xp 23 22,qt 24 23,wR 25 1 16 20 24,wq 26 [wi,.nils,.nils] [xR 19,wE 1 25],qT 7 [wi,.nils,.nils],qS 3 7 26]) (xI [wb 27,qn 28 aN (xy 27 3),xp 29 7,xu 29 28] [wb 30,qW 31 30,qp 32 4 31,qt 33 32,qB 34 .gtr 33 0,qf 35 34,qO 36 35 (wj 0),qO 37 35 (qA 36),xr 38 35 0 37,xl 39 35 38,qO 40 35 (xG (xy 39 4)),xz 41 35 .gtr 40 qR,xP 42 35 41 qZ] (qX 42 (qe [wb 43,wb 44,qW 45 44,qp 46 4 45,qt 47 46,xg 48 47 1,qW 49 43,qp 50 4 49,xu 50 48] (.reg [xp 51 7,wb 53,qt 52 51,xN 54 (xy 53 2),qL 51 52,xS 55 4 [qw,qw,wi,.nils] 1 [wo 0 4 54],wq 56 [qw,wi,.nils,.nils,.nils] [xe 0 7,wE 2 55],xS 57 5 [qw,wi,.nils,.nils,.nils] 1 [wo 0 5 56],wR 58 5 96 52 57,xp 59 7,xu 59 58]))) [wa 60 3 7,qS 3 6 60])))
def eV:FK:=⟨61,[xE 6 3],(AK.whole eY)⟩
theorem oL:az Tryz.prog cY=some eV:=by kernel_rfl
def jD:FK:=⟨18,xT,xI (xa 4) (xa 5) (wY 0 [xb 6,wb 7,qb 8 (.len true (.t 7)),wM 9 6 8] 9 0 1 (qe [wb 12,xb 13,qb 14 (.idxStr (.t 12) (.t 13)),xB 15,wn 16 .eql 14 15] (ww 16 [xb 17,xM 17])) [xb 10,xX 11 10,qf 5 11]) (wD 4 (qi (-1)))⟩
theorem pF:az Tryz.prog fF=some jD:=by kernel_rfl
def jZ:FK:=⟨28,xK,qe (xa 2) (we 0 (xC [wb 4,qx 5 .geq 4 (.c (qd .u8 97)),xb 6,qO 7 6 (wj 0),xz 8 6 .leq 7 (.c (qd .u8 122)),xP 9 6 8 qZ,qf 3 9] 3 (qF (wD 2 wJ)) (xC [wb 11,qx 12 .geq 11 (.c (qd .u8 48)),qf 13 12,qO 14 13 (wj 0),xz 15 13 .leq 14 (.c (qd .u8 57)),xP 16 13 15 qZ,qf 10 16] 10 (qF (wD 2 (qi 2))) (xC [wb 18,qn 19 fF [ye [40,41,123,125,59,44,43,45,42,47,37,60,61,38,33,64],.t 18],qB 20 .geq 19 0,qf 17 20] 17 (qF (wD 2 (qi 3))) (qe [wb 22,qx 23 .eql 22 (.c (qd .u8 32)),qf 24 23,wT 25 24 0,xV 26 24 .eql 25 (.c (qd .u8 10)),xL 27 24 26,qf 21 27] (wQ 21 2 (qi 4)))))) (qF (xa 2)))⟩
theorem rB:az Tryz.prog gn=some jZ:=by kernel_rfl
def ni:FK:=⟨21,xT,xI (wD 4 qZ) (xa 5) (wY 0 [xb 6,wb 7,qb 8 (.len true (.t 7)),wM 9 6 8] 9 0 1 (qe [wb 12,xb 13,qb 14 (.idxStr (.t 12) (.t 13)),xi 15 gn 14,xB 16,wn 17 .neq 15 16] (x9 17 4)) [xb 10,xX 11 10,qf 5 11]) [wb 18,qb 19 (.len true (.t 18)),qB 20 .gtr 19 0,xM 20]⟩
theorem tY:az Tryz.prog iV=some ni:=by kernel_rfl
def jn:FK:=⟨2,xD 0,ya (wD 0 xq) [qH 1 1 [wi] 9 [(0,1,ye [102,110]),(1,1,ye [108,101,116]),(2,1,ye [115,97,121]),(3,1,ye [112,117,116]),(4,1,ye [105,102]),(5,1,ye [101,108,115,101]),(6,1,ye [108,111,111,112]),(7,1,ye [98,97,99,107]),(8,1,ye [100,111])],xB 0]⟩
theorem oC:az Tryz.prog cZ=some jn:=by kernel_rfl
def mE:FK:=⟨18,xK,wd (wD 2 qZ) [qn 5 cZ [],xb 3] (wL (xa 4) (wY 0 [xA 6,qf 7 3,wh 8 7,wM 9 6 8] 9 0 1 (qe [qf 12 3,xA 13,wu 14 1 12 13,qt 15 14,wb 16,qb 17 (.bins .eql (.t 15) (.t 16))] (wQ 17 2 wF)) [xA 10,xX 11 10,xM 11]) (wD 2 qZ))⟩
theorem tS:az Tryz.prog iT=some mE:=by kernel_rfl
def kZ:FK:=⟨15,xK,ya (wD 2 qZ) [wb 3,qn 4 iV (wN 3 wJ),xA 5,qO 6 5 (wj 0),qO 7 5 (.len true (.t 6)),xz 8 5 .leq 7 (qi 4),xP 9 5 8 qZ,qf 10 9,qO 11 10 (wj 0),qO 12 10 (.call iT (xh 11)),qO 13 10 (wz 12),xP 14 10 13 qZ,qf 2 14]⟩
theorem so:az Tryz.prog bC=some kZ:=by kernel_rfl
def iw:FK:=⟨5,xK,xI (xa 2) [wb 3,wG 4 3 4] (wQ 4 2 (qi 2)) (wD 2 wJ)⟩
theorem rY:az Tryz.prog eH=some iw:=by kernel_rfl
def bT:FK:=⟨13,[.t 2,.t 3],xI [qc 2 qR,qc 3 qR] [wb 4] (.blk 0 (qC [wG 6 4 1,xH 5] (qv 5 .skip (.reg (x8 7 4 2 5 7))) (qv 5 (qF [qc 2 qR,qc 3 qR]) (qC (x8 9 4 11 8 9) (qv 8 .skip (.reg (x8 10 4 12 8 10))) (qv 8 (qF [qc 2 wJ,qc 3 wJ]) (qe (x8 12 4 13 11 12) (ww 11 [qc 2 qR,qc 3 (qi 3)]))))))) [qc 2 (qi 2),qc 3 (qi 2)]⟩
theorem sG:az Tryz.prog eg=some bT:=by kernel_rfl
def ep:FK:=⟨86,xT,wd [wZ 2 4 0,qc 4 qZ] [xc 10 2,qt 11 10,xi 12 eg 11,qf 9 12,qb 13 (.ext 0 (.t 9)),qb 14 (.ext 1 (.t 9)),qf 5 13,qf 6 14] (qC [xB 15,qB 16 .lss 15 1,qf 17 16,xm 18 17 0 2,xk 19 17 18,qN 20 17 (xf [.t 19,wJ,qi 13]),qN 21 17 (wz 20),xL 22 17 21,qf 23 22,xm 24 23 3 2,xk 25 23 24,qN 26 23 (qU 25),wT 27 23 5,wT 28 23 6,qN 29 23 (xf [.t 26,.t 27,.t 28]),qN 30 23 (wz 29),xL 31 23 30] (x9 31 4) (qe [xc 32 2,qt 33 32,wG 34 33 2,qf 35 34,xm 36 35 0 2,xk 37 35 36,xV 38 35 .eql 37 (qi 13),xL 39 35 38,qf 7 39] (qC [qf 40 7,xp 41 2,qt 42 41,xi 43 bC 42,qb 44 (.beq true (.t 40) (.t 43)),qf 45 44,wT 46 45 7,qN 47 45 (wz 46),wT 48 45 47,xr 49 48 2 2,xl 50 48 49,qO 51 48 (.bins .neq (.t 50) (.c wi)),qN 52 45 (qP 48 (.t 51) qZ),xL 53 45 52,qf 54 53,xm 55 54 1 2,xk 56 54 55,qN 57 54 (xf [.t 56,qR,qi 255]),qN 58 54 (wz 57),xL 59 54 58,qf 60 59,xm 61 60 0 2,xk 62 60 61,xV 63 60 .neq 62 wJ,wT 64 60 63,xr 65 64 1 2,xl 66 64 65,xz 67 64 .neq 66 qR,qN 68 60 (qP 64 (.t 67) qZ),xL 69 60 68] (x9 69 4) (wL (xa 8) (wY 0 [qf 70 8,qp 71 3 2,qt 72 71,wh 73 72,wM 74 70 73] 74 0 1 (qe [qp 77 3 2,qt 78 77,qf 79 8,wu 80 4 78 79,wa 81 4 80,xB 82,xg 83 82 1,wX 84 cS 81 83,xO 85 84] (x9 85 4)) [qf 75 8,xX 76 75,qf 8 76]) (wD 4 wF)))))⟩
theorem kR:az Tryz.prog cS=some ep:=by kernel_rfl
def jG:FK:=⟨21,xK,wd [wZ 1 4 0,qc 2 qR] (wD 3 wJ) (wL (xa 4) (yc 0 [xA 5,qp 6 3 1,qt 7 6,wh 8 7,wM 9 5 8] 9 0 1 [qf 12 3,qp 13 3 1,qt 14 13,xA 15,wu 16 4 14 15,wa 17 4 16,xi 18 dC 17,wn 19 .add 12 18,qf 3 19] [xA 10,xX 11 10,xM 11]) (x7 (qf 20 3) 2 20))⟩
theorem rW:az Tryz.prog dC=some jG:=by kernel_rfl
def iN:FK:=⟨10,xK,ya [wZ 1 4 0,qc 2 qZ] [wa 3 4 1,qn 4 cS (xy 3 6),xA 5,qO 6 5 (qj (some 4) 1),qO 7 5 (.call dC (xh 6)),xz 8 5 .leq 7 (qi 30),xP 9 5 8 qZ,qf 2 9]⟩
theorem nt:az Tryz.prog cK=some iN:=by kernel_rfl
def eB:FK:=⟨108,xT,qe [wZ 2 5 0,qc 4 qZ] (qC [xB 7,qB 8 .lss 7 1,qf 9 8,xm 10 9 0 2,xk 11 9 10,qN 12 9 (xf [.t 11,wJ,qi 8]),qN 13 9 (wz 12),xL 14 9 13,qf 15 14,xm 16 15 2 2,xm 19 15 0 2,xk 17 15 16,qN 18 15 (qU 17),xk 20 15 19,qN 21 15 (.qcall eH (xh 20)),xV 22 15 .neq 18 (.t 21),xL 23 15 22] (x9 23 4) (qe [xc 24 2,qt 25 24,wG 26 25 1,qf 27 26,xm 28 27 0 2,xk 29 27 28,xV 30 27 .eql 29 (qi 2),xL 31 27 30,qf 5 31] (qC [xb 32,xt 33 2,qt 34 33,xi 35 bC 34,qb 36 (.beq true (.t 32) (.t 35)),qf 37 36,wT 38 37 5,qN 39 37 (wz 38),wT 40 37 39,xr 41 40 1 2,xl 42 40 41,qO 43 40 (.bins .neq (.t 42) (.c wi)),qN 44 37 (qP 40 (.t 43) qZ),xL 45 37 44] (x9 45 4) (qC (xa 6) (wY 0 [xH 46,xp 47 2,qt 48 47,wh 49 48,wM 50 46 49] 50 0 1 (qe [xp 53 2,qt 54 53,xH 55,wu 56 4 54 55,wa 57 4 56,xi 58 cK 57,xO 59 58] (x9 59 4)) [xH 51,xX 52 51,qf 6 52]) (qC [xc 60 2,qt 61 60,wG 62 61 8,qf 63 62,xr 64 63 2 2,xl 65 63 64,qO 66 63 (qK 4 65 qR),xr 67 63 0 66,xl 68 63 67,xz 69 63 .neq 68 (qi 13),xP 70 63 69 qZ] (x9 70 4) (wL [qp 71 4 2,qt 72 71,wh 73 72,qB 74 .gtr 73 0,qf 75 74,xr 76 75 0 2,xl 77 75 76,xz 78 75 .neq 77 (qi 5),xP 79 75 78 qZ,qf 80 79,xm 81 80 3 2,xk 82 80 81,qN 83 80 (qU 82),xV 84 80 .gtr 83 qR,wT 85 80 84,xr 86 85 0 2,xl 87 85 86,xz 88 85 .neq 87 (qi 5),qN 89 80 (qP 85 (.t 88) qZ),wT 90 80 89,xr 91 90 0 2,xl 92 90 91,xz 93 90 .neq 92 (qi 6),qN 94 80 (qP 90 (.t 93) qZ),xL 95 80 94] (x9 95 4) [qp 96 3 2,qt 97 96,xB 98,xg 99 98 1,wX 100 bn 97 99,qf 101 100,xr 102 101 4 2,xl 103 101 102,qO 104 101 (wj 1),xz 105 101 .sub 104 wJ,qO 106 101 (.call bn (wO 103 105)),xP 107 101 106 qZ,xM 107]))))))⟩
theorem kW:az Tryz.prog eF=some eB:=by kernel_rfl
def jH:FK:=⟨19,xT,xI (wD 4 qZ) (xa 5) (wY 0 [xb 6,wb 7,wh 8 7,wM 9 6 8] 9 0 1 (qe [wb 12,xb 13,wu 14 5 12 13,wa 15 5 14,xB 16,wX 17 eF 15 16,xO 18 17] (x9 18 4)) [xb 10,xX 11 10,qf 5 11]) (wD 4 wF)⟩
theorem pJ:az Tryz.prog bn=some jH:=by kernel_rfl
def ox:FK:=⟨32,xK,xI [wZ 1 3 0,qc 2 qZ] (xa 3) (wY 0 [xM 3,xt 5 1,qt 6 5,wh 7 6,wM 8 4 7] 8 0 1 (qe [xt 11 1,qt 12 11,qf 13 3,wu 14 1 12 13,qt 15 14,xi 16 bC 15,xO 17 16] (x9 17 2)) [qf 9 3,xX 10 9,qf 3 10]) [xc 18 1,qt 19 18,xi 20 bC 19,qf 21 20,xr 22 21 1 1,xl 23 21 22,qO 24 21 (qU 23),xz 25 21 .leq 24 (qi 3),xP 26 21 25 qZ,qf 27 26,xr 28 27 2 1,xl 29 27 28,qO 30 27 (.call bn (xy 29 4)),xP 31 27 30 qZ,qf 2 31]⟩
theorem yf:az Tryz.prog jA=some ox:=by kernel_rfl
def gg:FK:=⟨29,xK,wd (xa 2) [wb 5,wh 6 5,xH 3] (wL (xa 4) (yc 0 [xA 7,wb 8,wh 9 8,wM 10 7 9] 10 0 1 [qf 13 3,wb 14,xA 15,wu 16 5 14 15,qp 17 3 16,wb 21,xA 22,wu 23 5 21 22,qp 24 4 23,qt 18 17,qt 25 24,xi 19 cz 18,qL 24 25,wn 20 .add 13 19,xi 26 cz 25,wn 27 .add 20 26,qf 3 27] [xA 11,xX 12 11,xM 12]) (x7 (qf 28 3) 2 28))⟩
theorem kz:az Tryz.prog cz=some gg:=by kernel_rfl
def mf:FK:=⟨22,xK,wd [wZ 1 1 0,qc 2 qR] (xa 3) (wL (xa 4) (yc 0 [xA 5,xc 6 1,qt 7 6,wh 8 7,wM 9 5 8] 9 0 1 [qf 12 3,xc 13 1,qt 14 13,xA 15,wu 16 3 14 15,xp 17 16,qt 18 17,xi 19 cz 18,wn 20 .add 12 19,qf 3 20] [xA 10,xX 11 10,xM 11]) (x7 (qf 21 3) 2 21))⟩
theorem uj:az Tryz.prog jd=some mf:=by kernel_rfl
def fc:FK:=⟨26,xK,qe [wZ 1 1 0,qc 2 qZ] (qC [xc 4 1,qt 5 4,wh 6 5,xQ 7 [.t 6,wJ,qi 4],xO 8 7] (x9 8 2) (wL (xa 3) (wY 0 [qf 9 3,xc 10 1,qt 11 10,wh 12 11,wM 13 9 12] 13 0 1 (qe [xc 16 1,qt 17 16,qf 18 3,wu 19 3 17 18,wa 20 3 19,xi 21 jA 20,xO 22 21] (x9 22 2)) [qf 14 3,xX 15 14,qf 3 15]) [wa 23 1 1,xi 24 jd 23,qB 25 .leq 24 40,qf 2 25]))⟩
theorem kO:az Tryz.prog cR=some fc:=by kernel_rfl
def kP:FK:=⟨69,[xE 2 1],wd [qT 2 xU] [wb 8,wb 9,xW 10 4 [xe 0 14,xe 1 20,xe 2 8,xe 3 26],wC 11 (wO 9 10),wq 12 [.nilp,.nils,.nils,qw,qw] [xR 8,wE 4 11],wZ 13 5 12,qf 3 13] (qC [wb 14,xW 15 4 [(0,1,qR),(1,1,wJ),(2,1,wJ),xe 3 2],wC 16 (wO 14 15),xM 16] (wY 0 [xA 17,qB 18 .gtr 17 0] 18 0 1 (qe [qc 5 (.c .any),qf 21 3,xS 22 1 [wi] 3 [(0,1,ye [102]),(1,1,ye [103]),(2,1,ye [104])],qf 23 3,qW 24 23,xt 25 24,wb 30,qt 26 25,wh 27 26,wu 28 1 22 27,qt 29 28,wg 31 (xy 30 3),qL 25 26,qL 28 29,qn 32 cY [.t 21,.t 29,.t 31],qT 5 [wi,.nils,.nils],qS 3 5 32] (.reg [qf 33 3,qf 34 3,qW 35 34,xt 36 35,qt 37 36,wa 38 3 5,xS 39 3 [wi,.nils,.nils] 1 [wo 0 3 38],wR 40 3 64 37 39,qW 41 33,xt 42 41,xu 42 40])) [xA 19,xg 20 19 1,xM 20]) (wd [qf 43 3,wb 44,xW 45 4 [(0,1,qR),(1,1,wJ),xe 2 2,(3,1,wJ)],wC 46 (wO 44 45),qn 47 cY [.t 43,ye [109],.t 46],qT 6 [wi,.nils,.nils],qS 3 6 47] [qc 7 (.c .any),qf 49 3,qW 50 49,xt 51 50,qt 52 51,wa 54 3 6,xS 55 3 [wi,.nils,.nils] 1 [wo 0 3 54],qH 48 3 [wi,.nils,.nils] 0 [],qL 51 52,qz (some 3) 6 54,wR 53 3 64 48 52,qz (some 3) 6 54,wR 56 3 64 53 55,wq 57 xU [xR 56],qT 7 xU,xu 7 57] (wL [wa 58 1 7,xi 59 cR 58,xO 60 59] (ww 60 [wq 61 [qw,qw,wi,.nils] [(0,1,wJ),(1,1,wJ)],qH 62 4 [qw,qw,wi,.nils] 1 [wo 0 4 61],wq 63 [qw,wi,.nils,.nils,.nils] [xe 0 3,wE 2 62],qH 64 5 [qw,wi,.nils,.nils,.nils] 1 [wo 0 5 63],wq 65 [wi,.nils,.nils] [(0,1,ye [109]),wE 2 64],qH 66 3 [wi,.nils,.nils] 1 [wo 0 3 65],wq 67 xU [xR 66],xu 2 67]) [wa 68 1 7,xu 2 68])))⟩
theorem sC:az Tryz.prog eG=some kP:=by kernel_rfl
def ka:FK:=⟨4,xK,xI (xa 2) [wb 3] (wQ 3 2 wJ) (xa 2)⟩
theorem pH:az Tryz.prog fM=some ka:=by kernel_rfl
def gY:FK:=⟨35,xK,wd (xa 2) (xa 3) (wL (xa 4) (yc 0 [xA 5,wb 6,wh 7 6,wM 8 5 7] 8 0 1 [qf 11 3,wb 12,xA 13,wu 14 5 12 13,xc 15 14,wb 20,xA 21,wu 22 5 20 21,qp 23 3 22,wb 27,xA 28,wu 29 5 27 28,qp 30 4 29,qt 16 15,wG 17 16 1,qt 24 23,qt 31 30,xi 18 fM 17,qL 23 24,qL 30 31,wn 19 .add 11 18,xi 25 cT 24,qL 30 31,wn 26 .add 19 25,xi 32 cT 31,wn 33 .add 26 32,qf 3 33] [xA 9,xX 10 9,xM 10]) (x7 (qf 34 3) 2 34))⟩
theorem kY:az Tryz.prog cT=some gY:=by kernel_rfl
def dh:FK:=⟨25,xK,wd (xa 2) [wb 3,wb 4,qW 5 4,xt 6 5,xp 7 6,qt 8 7,qH 9 2 [qw,.nils] 0 [],qH 10 4 [qw,qw,.nils,qw] 0 [],xW 11 0 [],wq 12 [.nils,.nils,qw,qw,.nils] [xR 9,wE 1 10,wE 4 11],qH 13 5 [.nils,.nils,qw,qw,.nils] 1 [wo 0 5 12],wR 14 5 88 8 13,qW 15 3,xt 16 15,xp 17 16,xu 17 14] (qF [wb 18,qW 19 18,xt 20 19,xp 21 20,qt 22 21,wh 23 22,xg 24 23 1,qf 2 24])⟩
theorem fN:az Tryz.prog bG=some dh:=by kernel_rfl
def gQ:FK:=⟨37,[],wd [wb 11,qW 12 11,xt 13 12,xp 14 13,wb 16,qW 17 16,qp 18 4 17,qt 15 14,qt 19 18,wu 20 5 15 19,qf 10 20] [qf 21 10,xB 22,qW 23 21,xp 24 23,xu 24 22] (wd [qf 25 10,qf 26 2,qW 27 25,qp 28 3 27,xu 28 26] [qf 29 10,qf 30 3,qW 31 29,qp 32 4 31,xu 32 30] (.reg [wb 33,xA 34,qW 35 33,qp 36 4 35,xu 36 34]))⟩
theorem mi:az Tryz.prog bf=some gQ:=by kernel_rfl
def fU:FK:=⟨19,xK,wd (xa 2) [wb 3,wb 4,qW 5 4,xt 6 5,xt 7 6,qt 8 7,xX 9 8,qW 10 3,xt 11 10,xt 12 11,xu 12 9] (qF [wb 13,qW 14 13,xt 15 14,xt 16 15,qt 17 16,xg 18 17 1,qf 2 18])⟩
theorem lV:az Tryz.prog bl=some fU:=by kernel_rfl
def dW:FK:=⟨37,xD 10,wd (xa 10) [wb 12,qW 13 12,xt 14 13,xp 15 14,wb 17,qW 18 17,qp 19 4 18,qt 16 15,qt 20 19,wu 21 5 16 20,qf 11 21] (ya [qf 22 11,qf 23 11,qW 24 23,xt 25 24,qt 26 25,xB 27,qf 28 2,xA 29,qf 30 3,wq 31 [qw,qw,.nils,qw] [xR 27,wE 1 28,wE 2 29,wE 3 30],qH 32 4 [qw,qw,.nils,qw] 1 [wo 0 4 31],wR 33 4 48 26 32,qW 34 22,xt 35 34,xu 35 33] (x7 (qf 36 2) 10 36))⟩
theorem nG:az Tryz.prog bD=some dW:=by kernel_rfl
def dY:FK:=⟨34,xT,xI (xa 4) [wb 6,qW 7 6,qp 8 5 7,qt 9 8,wh 10 9,xg 11 10 1,qf 5 11] (wY 0 [xb 12,qB 13 .geq 12 0] 13 0 1 (qe [wb 16,qW 17 16,qp 18 5 17,qt 19 18,xb 20,wu 21 3 19 20,xc 22 21,qt 23 22,xB 24,qb 25 (.bins .eql (.t 23) (.t 24))] (ww 25 [wb 26,qW 27 26,qp 28 5 27,qt 29 28,xb 30,wu 31 3 29 30,xt 32 31,qt 33 32,xM 33])) [xb 14,xg 15 14 1,qf 5 15]) (wD 4 (qi (-1)))⟩
theorem nA:az Tryz.prog cL=some dY:=by kernel_rfl
def iL:FK:=⟨56,xT,wd [wZ 3 4 1,qc 4 qR] [wb 11,qp 12 3 3,qt 13 12,wl 14 4 13 qR,wa 15 4 14,wX 16 aU 11 15,qf 5 16] (wd [wb 17,wb 18,xF 19 18,xW 20 0 [],wW 21 [.t 17,wJ,.t 19,qR,.t 20],qf 6 21] [wb 22,xj 23 22,qf 7 23] (wd [wb 24,xj 25 24,qf 8 25] [wb 26,xb 27,qf 28 7,qf 29 8,xW 30 2 [xR 28,wE 1 29],qf 31 7,xo 32 [.t 26,qi 2,.t 27,.t 30,.t 31]] (wd [wb 33,qp 34 3 3,qt 35 34,wl 36 4 35 wJ,wa 37 4 36,wX 38 aU 33 37,qf 9 38] [wb 39,wb 40,xF 41 40,qf 42 9,xW 43 1 [xR 42],wW 44 [.t 39,qi 10,.t 41,qR,.t 43],qf 10 44] (wd [wb 45,xH 46,qf 47 10,xW 48 1 [xR 47],wW 49 [.t 45,qi 10,.t 46,qR,.t 48]] [wb 50,qf 51 8,xW 52 1 [xR 51],qf 53 8,xo 54 [.t 50,wJ,qR,.t 52,.t 53]] (qF [xH 55,xM 55])))))⟩
theorem nO:az Tryz.prog ee=some iL:=by kernel_rfl
def oc:FK:=⟨22,xT,xI [wZ 2 1 0,qc 4 qR] (xa 5) (wY 0 [xb 6,xc 7 2,qt 8 7,wh 9 8,wM 10 6 9] 10 0 1 (qe [xc 13 2,qt 14 13,xb 15,wu 16 3 14 15,xc 17 16,qt 18 17,xB 19,qb 20 (.bins .eql (.t 18) (.t 19))] (ww 20 [xb 21,xM 21])) [xb 11,xX 12 11,qf 5 12]) (wD 4 (qi (-1)))⟩
theorem vB:az Tryz.prog jW=some oc:=by kernel_rfl
def bR:FK:=⟨84,xT,qe [wZ 3 4 1,qc 4 qR] (qC [xc 7 3,qt 8 7] (.blk 0 (xC (x8 10 8 1 9 10) 9 (qF [wb 11,wb 12,xt 14 3,xS 16 1 xv 0 [],qt 15 14,xF 13 12,qL 14 15,wW 17 [.t 11,wJ,.t 13,.t 15,.t 16],xM 17]) (xC (x8 19 8 2 18 19) 18 (qF [wb 20,xp 21 3,qt 22 21,wX 23 cL 20 22,xM 23]) (qe (x8 25 8 10 24 25) (ww 24 [wb 26,wa 27 4 3,wX 28 ee 26 27,xM 28]))))) (qe (x7 (xW 29 0 []) 5 29) (qC (xa 6) (yc 1 [xH 30,qp 31 3 3,qt 32 31,wh 33 32,wM 34 30 33] 34 1 2 [xb 37,wb 38,qp 39 3 3,qt 40 39,xH 41,wu 42 4 40 41,wa 43 4 42,wX 44 aU 38 43,xW 45 1 [xR 44],wR 46 1 8 37 45,qf 5 46] [xH 35,xX 36 35,qf 6 36]) (wL [xc 47 3,qt 48 47] (.blk 3 (xC (x8 50 48 11 49 50) 49 (qF [wb 51,wb 52,xF 53 52,xb 54,wW 55 [.t 51,qi 10,.t 53,qR,.t 54],xM 55]) (xC (x8 57 48 12 56 57) 56 (qF [wb 58,wb 59,xF 60 59,xb 61,wW 62 [.t 58,qi 11,.t 60,qR,.t 61],xM 62]) (qe (x8 64 48 13 63 64) (ww 63 [wb 65,wb 66,wb 68,qW 69 68,xc 70 69,xp 72 3,xb 75,wa 71 1 70,qt 73 72,xF 67 66,qz (some 1) 70 71,qL 72 73,wX 74 jW 71 73,wW 76 [.t 65,qi 14,.t 67,.t 74,.t 75],xM 76]))))) [wb 77,xc 78 3,wb 80,xb 82,qt 79 78,xF 81 80,qL 78 79,wW 83 [.t 77,.t 79,.t 81,qR,.t 82],xM 83]))))⟩
theorem mu:az Tryz.prog aU=some bR:=by kernel_rfl
def gP:FK:=⟨41,[],wd [wZ 3 5 1] [wb 8,xj 9 8,xM 9] (wd [wb 10,xj 11 10,qf 5 11] [wb 12,xj 13 12,qf 6 13] (wd [wb 14,xA 15,xW 16 1 [xR 15],xA 17,xo 18 [.t 14,wJ,qR,.t 16,.t 17]] [wb 19,xp 20 3,qt 21 20,wl 22 4 21 qR,wa 23 4 22,wX 24 aU 19 23,qf 7 24] (wd [wb 25,qf 26 7,xb 27,xH 28,xW 29 2 [xR 27,wE 1 28],xb 30,xo 31 [.t 25,qi 2,.t 26,.t 29,.t 30]] [wb 32,qp 33 3 3,qt 34 33,wX 35 aW 32 34] (.reg [wb 36,xA 37,xW 38 1 [xR 37],xH 39,xo 40 [.t 36,wJ,qR,.t 38,.t 39]]))))⟩
theorem ma:az Tryz.prog dv=some gP:=by kernel_rfl
def dD:FK:=⟨132,[],qe [wZ 3 5 1] (qC [xc 9 3,qt 10 9,wG 11 10 6] (ww 11 [wb 12,wa 13 5 3,wX 14 dv 12 13]) (qe [xW 15 0 [],xM 15] (qC (xa 5) (yc 0 [xb 16,xp 17 3,qt 18 17,wh 19 18,wM 20 16 19] 20 0 1 [xA 23,wb 24,xp 25 3,qt 26 25,xb 27,wu 28 4 26 27,wa 29 4 28,wX 30 aU 24 29,xW 31 1 [xR 30],wR 32 1 8 23 31,xM 32] [xb 21,xX 22 21,qf 5 22]) (qe [xc 33 3,qt 34 33] (.blk 2 (xC (x8 36 34 1 35 36) 35 (wd [wb 37,wb 38,qW 39 38,qp 40 6 39,qt 41 40,xA 42,wW 43 [.t 37,qi 2,.t 41,qR,.t 42]] [wb 44,wb 45,qW 46 45,qp 47 5 46,xt 49 3,wb 51,qW 52 51,qp 53 6 52,qt 48 47,qt 50 49,qt 54 53,wq 55 [wi,qw,qw] [xR 50,wE 1 54,(2,1,qR)],xS 56 3 [wi,qw,qw] 1 [wo 0 3 55],wR 57 3 32 48 56,qW 58 44,qp 59 5 58,xu 59 57] (.reg [wb 60,wb 61,qW 62 61,qp 63 6 62,qt 64 63,xX 65 64,qW 66 60,qp 67 6 66,xu 67 65])) (xC (x8 69 34 2 68 69) 68 (.reg [wb 70,wb 71,xt 72 3,qt 73 72,wX 74 cL 71 73,xA 75,wW 76 [.t 70,qi 2,.t 74,qR,.t 75]]) (xC (x8 78 34 3 77 78) 77 (.reg [wb 79,xA 80,wW 81 [.t 79,qi 13,qi (-1),qR,.t 80]]) (xC (x8 83 34 4 82 83) 82 (.reg [wb 84,xA 85,wW 86 [.t 84,qi 12,qi (-1),qR,.t 85]]) (xC (x8 88 34 7 87 88) 87 (.reg [wb 89,xA 90,wl 91 1 90 qR,xS 93 1 xv 0 [],wb 94,qt 92 91,xj 95 94,qL 91 92,xo 96 [.t 89,qi 3,.t 92,.t 93,.t 95]]) (qe (x8 98 34 5 97 98) (qX 97 (wd [wb 99,xj 100 99,qf 6 100] [wb 101,xj 102 101,qf 7 102] (wd [wb 103,xj 104 103,qf 8 104] [wb 105,xA 106,wl 107 1 106 qR,qt 108 107,xH 109,qf 110 7,xW 111 2 [xR 109,wE 1 110],xH 112,xo 113 [.t 105,qi 2,.t 108,.t 111,.t 112]] (wd [wb 114,qp 115 3 3,qt 116 115,wX 117 aW 114 116] [wb 118,qf 119 8,xW 120 1 [xR 119],qf 121 7,xo 122 [.t 118,wJ,qR,.t 120,.t 121]] (qe [wb 123,qp 124 4 3,qt 125 124,wX 126 aW 123 125] (.reg [wb 127,qf 128 8,xW 129 1 [xR 128],qf 130 8,xo 131 [.t 127,wJ,qR,.t 129,.t 130]])))))))))))))))))⟩
theorem mY:az Tryz.prog dH=some dD:=by kernel_rfl
def dc:FK:=⟨32,[],qe [wb 6,qW 7 6,qp 8 5 7,qt 9 8,wh 10 9,xM 10] (qC (xa 5) (yc 0 [xb 11,xB 12,wh 13 12,wM 14 11 13] 14 0 1 [wb 17,xB 18,xb 19,wu 20 5 18 19,wa 21 5 20,wX 22 dH 17 21] [xb 15,xX 16 15,qf 5 16]) (.reg [wb 23,wb 24,qW 25 24,qp 26 5 25,qt 27 26,xA 28,qb 29 (.slS 3 (.t 27) none (some (.t 28))),qW 30 23,qp 31 5 30,xu 31 29]))⟩
theorem lQ:az Tryz.prog aW=some dc:=by kernel_rfl
def nZ:FK:=⟨80,[xE 4 3],wd [wZ 2 1 0,qT 4 [qw,qw,.nils]] [xc 9 2,qt 10 9,xB 11,wu 12 3 10 11,wa 13 3 12,qT 5 [wi,.nils,.nils],qS 3 5 13] (wd [wa 14 1 2,xt 15 5,qt 16 15,wh 17 16,wq 18 [.nils,qw,qw,.nils,qw,.nils,qw,.nils] [xR 14,wE 6 17],wZ 19 8 18,qf 6 19] [xH 20,xt 21 5,qt 22 21,wh 23 22,qW 24 20,xt 25 24,xc 26 25,xu 26 23] (qe [xH 27,xt 28 5,xp 31 5,qt 29 28,wh 30 29,qt 32 31,xi 33 cT 32,qL 28 29,wn 34 .add 30 33,qW 35 27,xt 36 35,xt 37 36,xu 37 34] (qC (xa 7) (yc 0 [qf 38 7,xt 39 5,qt 40 39,wh 41 40,wM 42 38 41] 42 0 1 [xH 45,xH 46,qW 47 46,qp 48 5 47,xt 50 5,qf 52 7,qf 55 7,qt 49 48,qt 51 50,wu 53 1 51 52,qt 54 53,wq 56 [wi,qw,qw] [xR 54,wE 1 55,(2,1,qR)],xS 57 3 [wi,qw,qw] 1 [wo 0 3 56],wR 58 3 32 49 57,qW 59 45,qp 60 5 59,xu 60 58] [qf 43 7,xX 44 43,qf 7 44]) (wd [xH 61,xj 62 61] [xH 63,xp 64 5,qt 65 64,wX 66 aW 63 65] (wd [xH 67,xH 68,xF 69 68,xW 70 0 [],wW 71 [.t 67,wJ,.t 69,qR,.t 70],qf 8 71] [xH 72,qf 73 8,xW 74 0 [],xo 75 [.t 72,qi 3,.t 73,.t 74,qR]] (qF [xH 76,qW 77 76,xt 78 77,wa 79 3 78,qS 3 4 79]))))))⟩
theorem uW:az Tryz.prog gM=some nZ:=by kernel_rfl
def la:FK:=⟨22,[xE 2 1],wd [wZ 1 1 0,qT 2 xU] [wq 5 xU [],qT 3 xU,xu 3 5] (wL (xa 4) (yc 0 [xA 6,xc 7 1,qt 8 7,wh 9 8,wM 10 6 9] 10 0 1 [xc 13 3,xA 16,qt 14 13,wa 15 1 1,wX 17 gM 15 16,qL 13 14,qH 18 3 [qw,qw,.nils] 1 [wo 0 3 17],qL 13 14,wR 19 3 40 14 18,xc 20 3,xu 20 19] [xA 11,xX 12 11,xM 12]) [wa 21 1 3,xu 2 21])⟩
theorem rZ:az Tryz.prog ew=some la:=by kernel_rfl
def lh:FK:=⟨21,xT,xI [wZ 2 3 0,qc 4 qZ] (xa 5) (wY 0 [xb 6,xB 7,wh 8 7,wM 9 6 8] 9 0 1 (qe [xB 12,xb 13,wu 14 1 12 13,xt 16 2,qt 15 14,qt 17 16,xg 18 17 1,xQ 19 [.t 15,qR,.t 18],xO 20 19] (x9 20 4)) [xb 10,xX 11 10,qf 5 11]) (wD 4 wF)⟩
theorem sH:az Tryz.prog ey=some lh:=by kernel_rfl
def my:FK:=⟨88,xD 6,wd [wZ 3 1 0,wZ 5 4 2,qc 6 qZ] [xc 8 3,qt 9 8,xB 10,wu 11 3 9 10,wa 12 3 11,qT 7 [qw,qw,.nils],qS 3 7 12] (qC [xc 13 5,qt 14 13,xQ 15 [.t 14,wJ,qi 14],xO 16 15,qf 17 16,qN 18 17 (qj (some 3) 7),xm 19 17 2 5,xk 20 17 19,qN 21 17 (.call ey (wO 18 20)),qN 22 17 (wz 21),xL 23 17 22] (x9 23 6) (qC [xc 24 5,xt 27 5,xt 29 7,qt 25 24,qt 28 27,qt 30 29,xg 31 30 1,xi 26 cD 25,qL 27 28,qL 29 30,xQ 32 [.t 28,qR,.t 31],qb 33 (.beq true (.t 26) (.t 32)),qf 34 33,xm 35 34 0 5,xk 36 34 35,qN 37 34 (.call cD (xh 36)),qN 38 34 (wz 37),wT 39 34 38,xr 40 39 1 5,xl 41 39 40,xz 42 39 .neq 41 (qi (-1)),qN 43 34 (qP 39 (.t 42) qZ),xL 44 34 43] (x9 44 6) (wL [xc 45 5,qt 46 45,wG 47 46 14] (ww 47 [qp 48 3 5,xB 50,xg 51 50 1,qt 49 48,xQ 52 [.t 49,qR,.t 51],qf 53 52,xr 54 53 2 5,xr 57 53 0 3,xr 59 53 3 5,xl 55 53 54,qO 56 53 (qU 55),xl 58 53 57,xl 60 53 59,qO 61 53 (qK 3 58 (.t 60)),xr 62 53 0 61,xl 63 53 62,xz 64 53 .eql 56 (.t 63),xP 65 53 64 qZ,qf 6 65]) [xp 66 5,xc 69 5,qt 67 66,wh 68 67,qt 70 69,xi 71 eC 70,qL 66 67,wn 72 .eql 68 71,qf 73 72,xr 74 73 3 5,xl 75 73 74,qO 76 73 (xf [.t 75,qR,qi 255]),xP 77 73 76 qZ,qf 78 77,xr 79 78 3 5,xl 80 78 79,xz 81 78 .eql 80 qR,qO 82 78 (wj 81),xm 83 82 0 5,xk 84 82 83,xV 85 82 .eql 84 wJ,qO 86 78 (qP 82 wF (.t 85)),xP 87 78 86 qZ,qf 6 87])))⟩
theorem tG:az Tryz.prog jg=some my:=by kernel_rfl
def fR:AK:=wd [wZ 3 1 0,qc 6 qZ] [xc 14 3,qt 15 14,xB 16,wu 17 3 15 16,wa 18 3 17,qT 7 [qw,qw,.nils],qS 3 7 18] (wd [xp 19 7,qt 20 19,qf 21 2,wu 22 5 20 21,wa 23 5 22,qT 8 [.nils,.nils,qw,qw,.nils],qS 5 8 23] (wD 9 wJ) (xJ [xp 24 8,qt 25 24] (.blk 0 (xC (x8 27 25 1 26 27) 26 (qe [qp 28 3 8,qt 29 28,qB 30 .neq 29 0] (x9 30 6)) (xC (x8 32 25 2 31 32) 31 (.reg (wD 9 (qi 2))) (xC (x8 34 25 3 33 34) 33 (.reg (xa 9)) (qF (wD 6 qZ)))))) (xJ [qp 35 4 8,qt 36 35,wh 37 36,qf 38 9,wn 39 .neq 37 38,qf 40 39,xm 41 40 2 8,xk 42 40 41,xV 43 40 .neq 42 wJ,wT 44 40 43,xr 45 44 3 8,xl 46 44 45,xr 47 44 1 7,xl 48 44 47,xz 49 44 .sub 48 wJ,qO 50 44 (xf [.t 46,qR,.t 49]),qO 51 44 (wz 50),qN 52 40 (qP 44 (.t 51) qZ),xL 53 40 52] (x9 53 6) (xJ (xa 10) (wY 1 [qf 54 10,qp 55 4 8,qt 56 55,wh 57 56,wM 58 54 57] 58 1 2 (qe [qp 61 4 8,qf 63 10,xp 66 7,qt 62 61,wu 64 1 62 63,qt 65 64,qt 67 66,wh 68 67,xg 69 68 1,xQ 70 [.t 65,wJ,.t 69],xO 71 70] (x9 71 6)) [qf 59 10,xX 60 59,qf 10 60]) (xJ (xa 11) (wY 3 [qf 72 11,xt 73 8,qt 74 73,wh 75 74,wM 76 72 75] 76 3 4 (qe [xB 80,xt 81 8,qf 83 11,wa 79 1 3,qt 82 81,wu 84 4 82 83,wa 85 4 84,qn 86 jg [.t 79,.t 80,.t 85],xO 87 86] (x9 87 6)) [qf 77 11,xX 78 77,qf 11 78]) (qe [wa 88 3 7,qf 89 2,wX 90 cB 88 89,qf 12 90] (xJ (xa 13) (wY 5 [qf 91 13,xc 92 8,qt 93 92,wh 94 93,wM 95 91 94] 95 5 6 (qe [qf 98 2,wG 99 98 0,qf 100 99,xm 101 100 0 8,wT 103 100 13,wT 108 100 12,qN 109 100 (qU 108),xk 102 100 101,qN 104 100 (qK 2 102 (.t 103)),xm 105 100 1 104,xk 106 100 105,qN 107 100 (qU 106),xV 110 100 .neq 107 (.t 109),xL 111 100 110,qf 112 111,xm 114 112 0 8,wT 116 112 13,qN 113 112 (qj (some 3) 7),xk 115 112 114,qN 117 112 (qK 2 115 (.t 116)),xm 118 112 1 117,xk 119 112 118,qN 120 112 (.call ey (wO 113 119)),qN 121 112 (wz 120),xL 122 112 121,qf 123 122,xm 124 123 0 8,wT 126 123 13,xm 130 123 1 7,xk 125 123 124,qN 127 123 (qK 2 125 (.t 126)),xm 128 123 0 127,xk 129 123 128,xk 131 123 130,xV 132 123 .sub 131 wJ,qN 133 123 (xf [.t 129,qR,.t 132]),qN 134 123 (wz 133),xL 135 123 134] (x9 135 6)) [qf 96 13,xX 97 96,qf 13 97]) (qF (wD 6 wF)))))))))
def fZ:FK:=⟨136,xD 6,(AK.whole fR)⟩
theorem pj:az Tryz.prog fW=some fZ:=by kernel_rfl
def iJ:FK:=⟨76,xK,qe [wZ 1 1 0,qc 2 qZ] (qC [xc 7 1,qt 8 7,wh 9 8,xQ 10 [.t 9,wJ,qi 4],xO 11 10] (x9 11 2) (xI (xa 3) (xa 4) (wY 0 [xA 12,xc 13 1,qt 14 13,wh 15 14,wM 16 12 15] 16 0 1 (qe [xc 19 1,qt 20 19,xA 21,wu 22 3 20 21,wa 23 3 22,qT 5 [qw,qw,.nils],qS 3 5 23] (qC [xc 24 5,qt 25 24,xQ 26 [.t 25,qR,qi 3],xO 27 26,qf 28 27,xm 29 28 1 5,xk 30 28 29,xm 31 28 0 5,xk 32 28 31,qN 33 28 (xf [.t 30,.t 32,qi 300]),qN 34 28 (wz 33),xL 35 28 34,qf 36 35,xm 37 36 2 5,xk 38 36 37,qN 39 36 (qU 38),qN 40 36 (xf [.t 39,wJ,qi 160]),qN 41 36 (wz 40),xL 42 36 41] (x9 42 2) (qe (xa 6) (wY 2 [xH 43,xp 44 5,qt 45 44,wh 46 45,wM 47 43 46] 47 2 3 (wd [qf 50 3,xp 51 5,xH 53,xp 59 5,xH 61,qt 52 51,wu 54 5 52 53,xt 55 54,qt 56 55,wh 57 56,wn 58 .add 50 57,qt 60 59,wu 62 5 60 61,xc 63 62,qt 64 63,wh 65 64,wn 66 .add 58 65,qf 3 66] [qf 67 3,qB 68 .gtr 67 800,qf 69 68,qN 70 69 (qj (some 1) 1),wT 71 69 4,wT 72 69 6,qN 73 69 (.call fW [.t 70,.t 71,.t 72]),qN 74 69 (wz 73),xL 75 69 74] (x9 75 2)) [xH 48,xX 49 48,qf 6 49])))) [xA 17,xX 18 17,xM 18]) (wD 2 wF)))⟩
theorem nR:az Tryz.prog dV=some iJ:=by kernel_rfl
def kw:FK:=⟨15,[xE 2 1],xI [qT 2 xU] [wb 4,wg 5 (xy 4 2),wG 6 5 0] (qX 6 (wd [wb 7,xi 8 eG 7,xi 9 ew 8,qT 3 xU,xu 3 9] [wa 10 1 3,xi 11 dV 10] (ww 11 [wa 12 1 3,xu 2 12]))) [wb 13,xi 14 cV 13,xu 2 14]⟩
theorem rV:az Tryz.prog gd=some kw:=by kernel_rfl
def kq:FK:=⟨10,[xE 2 1],xI [qT 2 xU] [wb 3,wg 4 (xy 3 12),wG 5 4 0] (ww 5 [wb 6,xi 7 gZ 6,xu 2 7]) [wb 8,xi 9 gd 8,xu 2 9]⟩
theorem rj:az Tryz.prog gm=some kq:=by kernel_rfl
def jP:FK:=⟨14,[xE 2 3],wd [qT 2 [qw,qw,.nils]] [wb 4,xi 5 gm 4,qT 3 xU,xu 3 5] (qF [xc 6 3,qt 7 6,xc 8 3,qt 9 8,wh 10 9,xg 11 10 1,wu 12 3 7 11,wa 13 3 12,qS 3 2 13])⟩
theorem rb:az Tryz.prog fJ=some jP:=by kernel_rfl
def cd:FK:=⟨19,xT,xI (xa 4) [wb 6,wh 7 6,qc 8 qR] (qY 0 (qe [wM 9 8 7] (.seq (wA 9 0) (wv 1 (wd (x7 (qf 10 8) 5 10) [xB 11,wb 12,xb 13,wu 14 5 12 13,wa 15 5 14,qb 16 (.callv (.t 11) (xh 15))] (ww 16 [xb 17,xM 17])) (x7 (xX 18 8) 8 18))))) (wD 4 (qi (-1)))⟩
theorem eM:az Tryz.prog bp=some cd:=by kernel_rfl
def bP:FK:=⟨9,xT,ya (wD 4 qZ) [wb 5,xB 6,wX 7 bp 5 6,qB 8 .geq 7 0,xM 8]⟩
theorem dA:az Tryz.prog bg=some bP:=by kernel_rfl
def dQ:FK:=⟨19,xT,xI (xa 4) [wb 6,wh 7 6,qc 8 qR] (qY 0 (qe [wM 9 8 7] (.seq (wA 9 0) (wv 1 (wd (x7 (qf 10 8) 5 10) [xB 11,wb 12,xb 13,wu 14 1 12 13,qt 15 14,qb 16 (.callv (.t 11) (xh 15))] (ww 16 [xb 17,xM 17])) (x7 (xX 18 8) 8 18))))) (wD 4 (qi (-1)))⟩
theorem jf:az Tryz.prog cm=some dQ:=by kernel_rfl
def cN:FK:=⟨9,xT,ya (wD 4 qZ) [wb 5,xB 6,wX 7 cm 5 6,qB 8 .geq 7 0,xM 8]⟩
theorem gu:az Tryz.prog bH=some cN:=by kernel_rfl
def ik:FK:=⟨15,xD 6,ya (wD 6 qZ) [xB 7,wb 8,wn 9 .leq 7 8,qf 10 9,qO 11 10 (wj 0),qO 12 10 (wj 2),xz 13 10 .leq 11 (.t 12),xP 14 10 13 qZ,qf 6 14]⟩
theorem sr:az Tryz.prog eq=some ik:=by kernel_rfl
def fy:FK:=⟨11,xD 3,ya (wD 3 qZ) [wb 4,xp 5 1,qt 6 5,wh 7 6,xg 8 7 1,qn 9 eq [.t 4,qR,.t 8],xO 10 9,qf 3 10]⟩
theorem lO:az Tryz.prog dg=some fy:=by kernel_rfl
def iy:FK:=⟨8,xD 3,ya [wZ 2 5 0,qc 3 qZ] [qp 4 4 2,qt 5 4,qb 6 (.mkf (.func dg) (xh 1)),wX 7 bH 5 6,qf 3 7]⟩
theorem nP:az Tryz.prog cI=some iy:=by kernel_rfl
def gf:FK:=⟨14,xK,ya [wZ 1 3 0,qc 2 qZ] [xp 3 1,qt 4 3,wh 5 4,qB 6 .gtr 5 0,xH 7,xr 8 7 2 1,xl 9 7 8,qO 10 7 (.mkf (.func cI) (xh 1)),qO 11 7 (.call bg (wO 9 10)),qO 12 7 (wz 11),xP 13 7 12 qZ,qf 2 13]⟩
theorem rq:az Tryz.prog dP=some gf:=by kernel_rfl
def fz:FK:=⟨8,xK,xI (wD 2 xq) [wb 3,qb 4 (.snil false (.t 3))] (wQ 4 2 xq) [xW 5 0 [],wb 6,wR 7 1 8 5 6,qf 2 7]⟩
theorem lX:az Tryz.prog ck=some fz:=by kernel_rfl
def ow:FK:=⟨10,xK,wd (wD 2 xq) [wb 4,xi 5 ck 4,xb 3] (ya [qf 6 3,xi 7 mM 6] [qf 8 3,xi 9 jR 8,qf 2 9])⟩
theorem uM:az Tryz.prog jO=some ow:=by kernel_rfl
def fS:FK:=⟨19,xT,xI (xa 4) [wb 6,wh 7 6,qc 8 qR] (qY 0 (qe [wM 9 8 7] (.seq (wA 9 0) (wv 1 (wd (x7 (qf 10 8) 5 10) [xB 11,wb 12,xb 13,wu 14 1 12 13,qt 15 14,wn 16 .eql 11 15] (ww 16 [xb 17,xM 17])) (x7 (xX 18 8) 8 18))))) (wD 4 (qi (-1)))⟩
theorem lK:az Tryz.prog dd=some fS:=by kernel_rfl
def dR:FK:=⟨9,xT,ya (wD 4 qZ) [wb 5,xB 6,wX 7 dd 5 6,qB 8 .geq 7 0,xM 8]⟩
theorem js:az Tryz.prog cu=some dR:=by kernel_rfl
def jz:FK:=⟨33,xT,wd [wZ 2 3 0,qc 4 xq] (wD 5 xq) (qC [xB 8,xp 9 2,qt 10 9,wh 11 10,xg 12 11 1,qn 13 eq [.t 8,qR,.t 12],xO 14 13] (wQ 14 4 xq) (wL [xp 15 2,qt 16 15,wh 17 16,qc 18 qR] (qY 0 (qe [wM 19 18 17] (.seq (wA 19 0) (wv 1 (wd [qf 20 18,wu 21 5 16 18,wa 22 5 21,qT 7 [.nils,.nils,qw,qw,.nils],qf 6 20,qS 5 7 22] [qp 23 4 7,qt 24 23,xB 25,wX 26 cu 24 25] (qX 26 (.reg [xb 27,xH 28,xW 29 1 [xR 28],wR 30 1 8 27 29,qf 5 30]))) (x7 (xX 31 18) 18 31))))) [xb 32,xM 32]))⟩
theorem pp:az Tryz.prog dM=some jz:=by kernel_rfl
def jw:FK:=⟨42,xK,xI [wZ 1 3 0,qc 2 qZ] (xa 3) (wY 0 [qf 5 3,xp 6 1,qt 7 6,wh 8 7,wM 9 5 8] 9 0 1 (qe (xa 4) (wY 2 [xA 12,xp 13 1,qt 14 13,qf 15 3,wu 16 5 14 15,qp 17 4 16,qt 18 17,wh 19 18,wM 20 12 19] 20 2 3 (qe [xp 23 1,qf 25 3,xA 29,xp 32 1,qt 24 23,wu 26 5 24 25,qp 27 4 26,qt 28 27,wu 30 1 28 29,qt 31 30,qt 33 32,wh 34 33,xg 35 34 1,xQ 36 [.t 31,qR,.t 35],xO 37 36] (x9 37 2)) [xA 21,xX 22 21,xM 22])) [qf 10 3,xX 11 10,qf 3 11]) [xp 38 1,qt 39 38,wh 40 39,qB 41 .gtr 40 0,qf 2 41]⟩
theorem rQ:az Tryz.prog fx=some jw:=by kernel_rfl
def jm:FK:=⟨35,[],qe [qt 8 1,wb 9,wu 10 1 8 9,qQ 1 10 wF] (qC [xp 11 2,qt 12 11,wb 13,wu 14 5 12 13,qp 15 4 14,qt 16 15,wh 17 16,qc 18 qR] (qY 0 (qe [wM 19 18 17] (.seq (wA 19 0) (wv 1 (wd [wu 20 1 16 18,qt 21 20,qf 7 21] [qt 22 1,qf 23 7,wu 24 1 22 23,qt 25 24,xO 26 25] (qX 26 (.reg [qt 27 3,qf 28 7,qb 29 (.callv (.t 27) (xh 28))]))) (x7 (xX 30 18) 18 30))))) (.reg [qt 31 4,wb 32,xW 33 1 [xR 32],wR 34 1 8 31 33,xu 4 34]))⟩
theorem oN:az Tryz.prog cn=some jm:=by kernel_rfl
def lg:FK:=⟨14,xK,wd [wZ 1 3 0,qc 2 xq] [qT 3 xU] (wd [xp 6 1,qt 7 6,wh 8 7,qb 9 (.mks 1 1 [qG] (.t 8) (.t 8)),qT 4 xU,xu 4 9] [qT 5 [.nilf]] (wd [qb 10 (.mkf (.func cn) [.t 4,.t 1,.t 5,.t 3]),xu 5 10] [qt 11 5,qb 12 (.callv (.t 11) [qR])] (qF (x7 (qt 13 3) 2 13))))⟩
theorem sI:az Tryz.prog eD=some lg:=by kernel_rfl
def eQ:FK:=⟨28,[],qe [wb 4,wh 5 4,xg 6 5 1,qc 2 qR,xH 3] (yc 0 [qf 7 2,qf 8 3,wM 9 7 8] 9 0 1 [wb 14,qf 15 2,wb 16,qf 17 3,wb 18,qf 19 3,wu 20 1 18 19,wb 22,qf 23 2,wu 24 1 22 23,qt 21 20,qt 25 24,wu 26 1 14 15,xu 26 21,wu 27 1 16 17,xu 27 25] [qf 10 2,xX 11 10,qf 12 3,xg 13 12 1,qf 2 11,qf 3 13])⟩
theorem ju:az Tryz.prog cA=some eQ:=by kernel_rfl
def kb:FK:=⟨12,xK,qe [wZ 1 3 0,qc 2 xq] (qC [wa 4 3 1,xi 5 dP 4,xO 6 5] (wQ 6 2 xq) (wd [wa 7 3 1,xi 8 eD 7,qf 3 8] [qf 9 3,xi 10 cA 9] (qF (x7 (qf 11 3) 2 11))))⟩
theorem rS:az Tryz.prog gh=some kb:=by kernel_rfl
def fT:FK:=⟨6,[xE 2 3],ya [qT 2 [qw,qw,.nils]] [wb 3,xi 4 fG 3,xi 5 fJ 4,qS 3 2 5]⟩
theorem lw:az Tryz.prog dj=some fT:=by kernel_rfl
def jp:FK:=⟨54,xD 8,wd [wZ 4 3 0,qc 8 xq] [qf 10 2,xB 11,wu 12 1 10 11,qQ 1 12 wF] (wL (xa 9) (wY 0 [qf 13 9,xp 14 4,qt 15 14,xB 16,wu 17 5 15 16,qp 18 4 17,qt 19 18,wh 20 19,wM 21 13 20] 21 0 1 (qe [qf 24 2,xp 25 4,qt 26 25,xB 27,wu 28 5 26 27,qp 29 4 28,qt 30 29,qf 31 9,wu 32 1 30 31,qt 33 32,wu 34 1 24 33,qt 35 34,xO 36 35] (qX 36 (.reg [xp 38 4,xB 40,qf 44 9,qf 47 2,qf 48 3,wa 37 3 4,qt 39 38,wu 41 5 39 40,qp 42 4 41,qt 43 42,wu 45 1 43 44,qt 46 45,qn 49 bN [.t 37,.t 46,.t 47,.t 48],qf 3 49]))) [qf 22 9,xX 23 22,qf 9 23]) [qf 50 3,xB 51,xW 52 1 [xR 51],wR 53 1 8 50 52,qf 8 53])⟩
theorem oA:az Tryz.prog bN=some jp:=by kernel_rfl
def eW:AK:=qe [wZ 1 3 0,qc 2 xq] (.cut (.ot (.one [] (.one [xp 7 1] (.one [wa 6 3 1] (.one [qt 8 7] (.one [wh 9 8] (qV [qb 10 (.mks 1 1 [qG] (.t 9) (.t 9)),qz (some 3) 1 6] (yb [xW 11 0 [],qz (some 3) 1 6,qL 7 8] [qn 12 bN [.t 6,qR,.t 10,.t 11]] (.one [qf 3 12] .done)) (yb [xW 11 0 [],qz (some 3) 1 6,qL 7 8] [qb 10 (.mks 1 1 [qG] (.t 9) (.t 9)),qz (some 3) 1 6] (wK [qn 12 bN [.t 6,qR,.t 10,.t 11]] (.one [qf 3 12] .done)))))))))) (xI [xW 13 0 [],xM 13] [qf 14 3,wh 15 14,xg 16 15 1,qf 5 16] (yc 0 [xb 17,qB 18 .geq 17 0] 18 0 1 [xA 21,qf 22 3,xb 23,wu 24 1 22 23,qt 25 24,xW 26 1 [xR 25],wR 27 1 8 21 26,xM 27] [xb 19,xg 20 19 1,qf 5 20]) (x7 (xA 28) 2 28)))
def eS:FK:=⟨29,xK,(AK.whole eW)⟩
theorem oG:az Tryz.prog eU=some eS:=by kernel_rfl
def jS:FK:=⟨9,xK,xI [wZ 1 3 0,qc 2 xq] [wa 3 3 1,xi 4 fx 3,xO 5 4] (ww 5 [xW 6 0 [],xH 2]) [wa 7 3 1,xi 8 eU 7,qf 2 8]⟩
theorem pZ:az Tryz.prog dJ=some jS:=by kernel_rfl
def kX:FK:=⟨29,xT,xI (wD 4 qZ) [wb 6,wh 7 6,xB 8,wh 9 8,qb 10 (.mn (.t 7) (.t 9)),qc 11 qR] (qY 0 (qe [wM 12 11 10] (.seq (wA 12 0) (wv 1 (wd (x7 (qf 13 11) 5 13) [wb 14,xb 15,wu 16 1 14 15,xB 18,xb 19,wu 20 1 18 19,qt 17 16,qt 21 20,wn 22 .neq 17 21] (x9 22 4)) (x7 (xX 23 11) 11 23))))) [wb 24,wh 25 24,xB 26,wh 27 26,wn 28 .eql 25 27,xM 28]⟩
theorem sA:az Tryz.prog eE=some kX:=by kernel_rfl
def mq:FK:=⟨17,xT,xI (wD 4 qZ) [wb 7,wh 8 7,qc 9 qR] (qY 0 (qe [wM 10 9 8] (.seq (wA 10 0) (wv 1 (wd [wu 11 1 7 9,qt 12 11,qf 6 12] [xH 13,xB 14,wn 15 .eql 13 14] (wQ 15 4 wF)) (x7 (xX 16 9) 9 16))))) (wD 4 qZ)⟩
theorem ul:az Tryz.prog fm=some mq:=by kernel_rfl
def iK:FK:=⟨9,xK,xI [wZ 1 3 0,qc 2 xq] [wa 3 3 1,xi 4 dP 3,xO 5 4] (wQ 5 2 xq) [wa 6 3 1,xi 7 eD 6,xi 8 jO 7,qf 2 8]⟩
theorem nK:az Tryz.prog dT=some iK:=by kernel_rfl
def fP:AK:=qe (wD 2 qZ) (qC [wb 11,wh 12 11,qB 13 .gtr 12 1048576] (wQ 13 2 wF) (wd [wb 14,xi 15 dj 14,qT 3 [qw,qw,.nils],qS 3 3 15] [wa 16 3 3,xi 17 gh 16,xM 17] (qC [xA 18,wa 19 3 3,xi 20 dJ 19,wX 21 eE 18 20,xO 22 21,qf 23 22,wT 24 23 4,qN 25 23 (qU 24),xV 26 23 .eql 25 qR,xL 27 23 26] (ww 27 [xA 28,wa 29 3 3,xi 30 dJ 29,wX 31 eE 28 30,qf 2 31]) (xI (x7 (xW 32 0 []) 5 32) [xA 33,wh 34 33,qc 35 qR] (qY 0 (qe [wM 36 35 34] (.seq (wA 36 0) (wv 1 (qe [qf 37 35,wu 38 1 33 35,qt 39 38,qf 6 37,qf 7 39] (.cut (.reg [xH 40,wG 41 40 0,qf 42 41,qO 43 42 (wj 7),xz 44 42 .eql 43 qR,xP 45 42 44 qZ,qf 8 45]) (qC [wa 46 3 3,qf 47 7,wX 48 dM 46 47,wh 49 48,qc 50 qR] (qY 2 (qe [wM 51 50 49] (.seq (wA 51 2) (wv 3 (qe [wu 52 1 48 50,qt 53 52,qf 10 53] (.reg [qf 54 8,qf 55 54,wT 56 55 5,wT 57 55 10,qN 58 55 (.call fm (wO 56 57)),xL 59 55 58,qf 8 59])) (x7 (xX 60 50) 50 60))))) (qC [qf 61 8,xO 62 61,qf 63 62,wT 64 63 5,wT 65 63 7,qN 66 63 (.call fm (wO 64 65)),xL 67 63 66] (x9 67 2) (.reg [xb 68,qf 69 7,xW 70 1 [xR 69],wR 71 1 8 68 70,qf 5 71]))))) (x7 (xX 72 35) 35 72))))) [xA 73,wh 74 73,wa 75 3 3,xi 76 dT 75,wh 77 76,wn 78 .eql 74 77,qf 2 78]))))
def fO:FK:=⟨79,xK,(AK.whole fP)⟩
theorem rD:az Tryz.prog ky=some fO:=by kernel_rfl
end Go.Proofs.YtdfplkcigiblcaaGreat
