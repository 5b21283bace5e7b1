/-
  Contracts and lemmas that the card needs, part 4.
-/
import Derived.Test.YtdfplkcigiblcaaGreatFd3
import Derived.Test.YtdfplkcigiblcaaGreatRows
namespace Go.Proofs.YtdfplkcigiblcaaGreat
open Go Go.Aw
set_option maxRecDepth 100000
abbrev cP:FuncId:=54
abbrev bx:FuncId:=104
abbrev bc:FuncId:=105
abbrev ip:FuncId:=95
abbrev eU:FuncId:=168
abbrev cF:FuncId:=169
abbrev iD:FuncId:=153
abbrev fc:FuncId:=154
abbrev iP:FuncId:=141
abbrev cG:FuncId:=96
abbrev dd:FuncId:=125
abbrev dt:FuncId:=152
abbrev iE:FuncId:=140
abbrev en:FuncId:=124
abbrev iH:FuncId:=118
abbrev bA:FuncId:=179
abbrev eO:FuncId:=183
abbrev bg:FuncId:=172
abbrev ef:FuncId:=162
abbrev dz:FuncId:=189
abbrev cd:FuncId:=180
abbrev cD:FuncId:=181
abbrev ec:FuncId:=182
abbrev dU:FuncId:=171
abbrev aN:FuncId:=161
abbrev dm:FuncId:=143
abbrev gf:FuncId:=194
abbrev gy:FuncId:=190
abbrev jz:FuncId:=184
abbrev dk:FuncId:=191
abbrev jv:FuncId:=185
abbrev bF:FuncId:=173
abbrev eJ:FuncId:=192
abbrev eM:FuncId:=197
abbrev de:FuncId:=195
abbrev dW:FuncId:=196
abbrev cU:FuncId:=193
abbrev eT:FuncId:=186
abbrev bt:FuncId:=174
abbrev kD:FuncId:=163
abbrev cI:FuncId:=175
abbrev jD:FuncId:=164
abbrev db:FuncId:=144
abbrev eQ:FuncId:=127
abbrev dK:FuncId:=76
abbrev dg:FuncId:=155
abbrev bL:FuncId:=156
abbrev bi:FuncId:=160
abbrev bp:FuncId:=159
abbrev bH:FuncId:=158
abbrev cS:FuncId:=178
abbrev eC:FuncId:=187
abbrev kY:FuncId:=188
abbrev aW:FuncId:=177
abbrev dR:FuncId:=176
abbrev dV:FuncId:=170
abbrev aZ:FuncId:=157
abbrev gY:FuncId:=142
abbrev eP:FuncId:=126
abbrev eN:FuncId:=166
abbrev jE:FuncId:=165
abbrev gr:FuncId:=145
abbrev eH:FuncId:=128
abbrev fP:FuncId:=119
abbrev fM:FuncId:=90
abbrev dI:FuncId:=53
abbrev br:FuncId:=120
abbrev bk:FuncId:=91
abbrev cr:FuncId:=121
abbrev bN:FuncId:=93
abbrev eI:FuncId:=61
abbrev dw:FuncId:=94
abbrev cT:FuncId:=92
abbrev cR:FuncId:=55
abbrev cm:FuncId:=100
abbrev mW:FuncId:=101
abbrev kL:FuncId:=102
abbrev kA:FuncId:=64
abbrev gF:FuncId:=98
abbrev gA:FuncId:=57
abbrev cu:FuncId:=97
abbrev iJ:FuncId:=59
abbrev gx:FuncId:=19
abbrev cy:FuncId:=99
abbrev lW:FuncId:=20
abbrev jt:FuncId:=22
abbrev eB:FuncId:=23
abbrev eY:FuncId:=66
abbrev fj:FuncId:=26
abbrev aL:FuncId:=106
abbrev cz:FuncId:=67
abbrev fv:FuncId:=74
abbrev jG:FuncId:=69
abbrev dH:FuncId:=70
abbrev cY:FuncId:=107
abbrev ck:FuncId:=108
abbrev ew:FuncId:=72
abbrev gd:FuncId:=33
abbrev cZ:FuncId:=35
abbrev dS:FuncId:=75
abbrev dj:FuncId:=36
abbrev dp:FuncId:=37
abbrev gV:FuncId:=9
@[reducible] def qa(a:Nat)(b:Option (Nat × Bool))(c:AI):CO:=⟨some a,b,c⟩
@[reducible] def qb(a:Nat)(b:AI):CO:=qa a none b
@[reducible] def qc(a:Nat)(b:AOp):CO:=qb a (.mov b)
@[reducible] def qd(a:IntKind)(b:Int):AV:= .p (.int a b)
@[reducible] def qe(a:List CO)(b:AK):AK:= .seq (.reg a) b
@[reducible] def qf(a b:Nat):CO:=qc a (.t b)
@[reducible] def qg(a:Int):AV:=qd .i64 a
@[reducible] def qh(a b:Nat):AI:= .fldA a (.t b)
@[reducible] def qi(a:Int):AOp:= .c (qg a)
@[reducible] def qj(a:Nat)(b:Nat × Bool)(c:AI):CO:=qa a (some b) c
@[reducible] def qk(a:Option Nat)(b:Nat):AI:= .ld a (.t b)
@[reducible] def ql(a:BinOp)(b:Nat)(c:AOp):AI:= .bin a (.t b) c
@[reducible] def qm(a:Nat):AI:=qk none a
@[reducible] def qn(a:Nat)(b:FuncId)(c:List AOp):CO:=qb a (.call b c)
@[reducible] def qo(a:Option (Nat × Bool))(b:AI):CO:=⟨none,a,b⟩
@[reducible] def qp(a b c:Nat):CO:=qb a (qh b c)
@[reducible] def qt(a b:Nat):CO:=qb a (qm b)
@[reducible] def qu(a:Nat)(b c:AK):AK:= .cond (.t a) b c
@[reducible] def qv(a:AI):CO:=qo none a
@[reducible] def qw(a:Bool):AV:= .p (.bool a)
@[reducible] def qx(a:Nat)(b:BinOp)(c:Nat)(d:AOp):CO:=qb a (ql b c d)
@[reducible] def qy:AV:=qg 0
@[reducible] def qz(a:Nat):AI:= .nilck (.t a)
@[reducible] def qA(a:Option Nat)(b c:Nat):CO:=qv (.chk a b c)
@[reducible] def qB:AV:=qw false
@[reducible] def qC(a:Nat)(b:BinOp)(c:Nat)(d:Int):CO:=qx a b c (qi d)
@[reducible] def qD(a:List CO)(b c:AK):AK:= .seq (qe a b) c
@[reducible] def qF(a b:Nat)(c:AOp):AI:= .idxS a (.t b) c
@[reducible] def qG(a:AOp):AI:= .len false a
@[reducible] def qH(a:List CO):AK:=qe a .ret
@[reducible] def qI(a b:Nat)(c:Bool)(d:AI):CO:=qj a (b,c) d
@[reducible] def qJ(a b:Nat)(c:AI):CO:=qI a b false c
@[reducible] def qK(a b:Nat)(c:AI):CO:=qI a b true c
@[reducible] def qL(a:Nat)(b c:AOp):CO:=qv (.st a b c)
@[reducible] def qM(a b:Nat)(c:List AV)(d:Nat)(e:List (Nat × Nat × AOp)):CO:=qb a (.bsl b c d e)
@[reducible] def qN(a:Nat)(b c:AOp):AI:= .pick (.t a) b c
@[reducible] def qO(a:List UInt8):AV:= .p (.str a)
@[reducible] def qP(a b:Nat):CO:=qA none a b
@[reducible] def qQ:AOp:=qi 0
@[reducible] def qR(a b:Nat)(c:AOp):CO:=qL a (.t b) c
@[reducible] def qS(a b c:Nat):CO:=qR a b (.t c)
@[reducible] def qT(a b:Nat):AI:=qk (some a) b
@[reducible] def qU(a b:List CO)(c:AK):AK:=qe a (qe b c)
@[reducible] def qV(a:Nat):AI:= .mov (.t a)
@[reducible] def qW(a b:Nat):CO:=qb a (qz b)
@[reducible] def qX:AOp:= .c qB
@[reducible] def qY(a:Nat):AI:=qG (.t a)
@[reducible] def qZ(a:Nat)(b:List AV):CO:=qb a (.alloc b)
@[reducible] def wa(a:Nat)(b:AK):AK:= .blk a (.loop b)
@[reducible] def wb(a:Nat)(b:AK):AK:=qu a b .skip
@[reducible] def wd(a:Nat)(b c:AK):AK:= .seq (.blk a b) c
@[reducible] def we(a b c:Nat):AI:=qF a b (.t c)
@[reducible] def wg(a:Nat):CO:=qf a 0
@[reducible] def wh(a:Nat)(b:List AOp):CO:=qn a bx b
@[reducible] def wi(a b:Nat):CO:=qb a (qY b)
@[reducible] def wj(a:List CO)(b c:OT):OT:= .alt (.one a b) c
@[reducible] def wl(a:Nat)(b:AK)(c:Nat):AK:=qu a b (.exit c)
@[reducible] def wm:AV:=qO []
@[reducible] def wn(a b c d:Nat):CO:=qb a (we b c d)
@[reducible] def wo(a:Nat)(b:BinOp)(c d:Nat):CO:=qx a b c (.t d)
@[reducible] def wq(a b c:Nat):Nat × Nat × AOp:=(a,b,.t c)
@[reducible] def wt(a b c:Nat):CO:=qb a (qT b c)
@[reducible] def wu:AV:=qw true
@[reducible] def wv(a:Nat)(b:List AV)(c:List (Nat × Nat × AOp)):CO:=qb a (.bld b c)
@[reducible] def ww(a:Nat)(b:AK)(c:List CO):AK:=wd a b (.reg c)
@[reducible] def wx(a b:Nat)(c d:AOp):CO:=qb a (qN b c d)
@[reducible] def wy(a b:Nat):AK:=wl a .skip b
@[reducible] def wz(a:Nat)(b:List CO):AK:=wb a (qH b)
@[reducible] def wA(a:Nat)(b:List AOp):CO:=qn a bc b
@[reducible] def wB(a:Nat):AI:= .not (.t a)
@[reducible] def wC(a b:Nat):AI:= .box a (.t b)
@[reducible] def wD(a:Nat)(b:AOp):List CO:=[qc a b]
@[reducible] def wE(a b c:Nat)(d:AOp):AI:= .app a b (.t c) d
@[reducible] def wF(a b:Nat):Nat × Nat × AOp:=wq a 1 b
@[reducible] def wG(a b:Nat)(c:Int):CO:=qC a .add b c
@[reducible] def wH:AOp:= .c wu
@[reducible] def wI(a b:Nat)(c:Int):CO:=qC a .eql b c
@[reducible] def wJ:AOp:=qi 1
@[reducible] def wK(a:List CO)(b:AK)(c:List CO):AK:=qD a b (qH c)
@[reducible] def wL(a b c:Nat):CO:=wo a .lss b c
@[reducible] def wM(a:Nat)(b:AOp):List AOp:=[.t a,b]
@[reducible] def wN(a b:Nat):List AOp:=wM a (.t b)
@[reducible] def wO(a b c:Nat):CO:=qb a (wC b c)
@[reducible] def wP(a b:Nat)(c:AOp):AK:=wz a (wD b c)
@[reducible] def wQ(a b c:Nat):CO:=qK a b (qm c)
@[reducible] def wR(a b c d:Nat):AI:=wE a b c (.t d)
@[reducible] def wS(a:List CO)(b:OT):OT:=wj a b .tru
@[reducible] def wT(a b c d e:Nat):CO:=qb a (wR b c d e)
@[reducible] def wU(a b c:Nat):CO:=qJ a b (qV c)
@[reducible] def wV(a:Nat):CO:=qf a 5
@[reducible] def wW(a:Nat)(b:List CO)(c d:AK):AK:=wa a (qD b c d)
@[reducible] def wX(a:Nat)(b:FuncId)(c d:Nat):CO:=qn a b (wN c d)
@[reducible] def wY(a:Nat)(b:List CO)(c d:Nat)(e:AK):AK:=wW a b (wy c d) e
@[reducible] def wZ(a:Nat):List CO:=wD a qQ
@[reducible] def xa(a b c:Nat):CO:=qK a b (qV c)
@[reducible] def xb(a:Nat)(b:List AOp):CO:=qn a bH b
@[reducible] def xc(a b:Nat)(c:AOp)(d:Nat):CO:=wx a b c (.t d)
@[reducible] def xd(a:List AOp):AI:= .call ip a
@[reducible] def xe(a:Nat)(b:List CO)(c d e:Nat)(f:AK)(g:List CO):AK:=wY a b c d (ww e f g)
@[reducible] def xf(a b c:Nat):CO:=qJ a b (qm c)
@[reducible] def xg(a b c:Nat)(d:AOp):CO:=wx a b (.t c) d
@[reducible] def xh(a:Nat):List AOp:=[.t a]
@[reducible] def xi(a:Nat)(b:FuncId)(c:Nat):CO:=qn a b (xh c)
@[reducible] def xj(a b:Nat)(c:Int):Nat × Nat × AOp:=(a,b,qi c)
@[reducible] def xk(a:Nat)(b:Int):Nat × Nat × AOp:=xj a 1 b
@[reducible] def xl(a b:Nat):CO:=qp a 0 b
@[reducible] def xm(a b c d:Nat):CO:=qK a b (qh c d)
@[reducible] def xo(a b:Nat)(c:Int):CO:=qC a .sub b c
@[reducible] def xp(a:Nat):CO:=qf a 6
@[reducible] def xq(a b:Nat):CO:=qp a 2 b
@[reducible] def xr(a b:Nat):CO:=xi a bL b
@[reducible] def xt(a b c d:Nat):CO:=qJ a b (qh c d)
@[reducible] def xu(a b:Nat)(c:BinOp)(d:Nat)(e:AOp):CO:=qK a b (ql c d e)
@[reducible] def xv(a:Nat)(b:List AOp):CO:=qn a bi b
@[reducible] def xx(a:Nat):CO:=qf a 4
@[reducible] def xy(a:CO)(b c:Nat):List CO:=[a,qf b c]
@[reducible] def xz(a b:Nat):CO:=qS 1 a b
@[reducible] def xA(a:Nat)(b:Int):List AOp:=wM a (qi b)
@[reducible] def xB(a b:Nat):RV:= .c a (some b)
@[reducible] def xC:RV:= .t 4
@[reducible] def xD(a b:Nat):CO:=qp a 1 b
@[reducible] def xE(a:Nat):CO:=qf a 1
@[reducible] def xF(a:List CO)(b:Nat)(c d:AK):AK:=qe a (qu b c d)
@[reducible] def xG:List AV:=[qy]
@[reducible] def xH(a b c:Nat)(d:List (Nat × Nat × AOp)):CO:=qM a b xG c d
@[reducible] def xI:AOp:= .c .nils
@[reducible] def xJ:List AV:=[.nils]
@[reducible] def xK(a:List CO)(b c:AK):AK:= .cut (qe a b) c
@[reducible] def xL(a b:List CO)(c:AK)(d:List CO):AK:=qe a (wK b c d)
@[reducible] def xM(a b:Nat):CO:=xi a bp b
@[reducible] def xN(a b:CO)(c d:Nat):List CO:=[a,b,qf c d]
@[reducible] def xO(a:Nat)(b:List CO)(c d e:Nat)(f:AK)(g h:CO)(i j:Nat):AK:=xe a b c d e f (xN g h i j)
@[reducible] def xP(a:Nat)(b:List CO)(c d e:Nat)(f:AK)(g:CO)(h i:Nat)(j:Int)(k l:Nat):AK:=xO a b c d e f g (wG h i j) k l
@[reducible] def xQ(a:List AOp):AI:= .call bx a
@[reducible] def xR:RV:= .t 2
@[reducible] def xS(a:Nat)(b:List AOp):CO:=qn a ef b
@[reducible] def xT(a b:List CO):AK:=qe a (qH b)
@[reducible] def xU(a b c:Nat):CO:=xc a b wH c
@[reducible] def xV(a b:Nat)(c:BinOp)(d:Nat)(e:AOp):CO:=qJ a b (ql c d e)
@[reducible] def xW(a b:Nat)(c:Int)(d e:Nat):List CO:=xy (wI a b c) d e
@[reducible] def xX(a:Nat):Nat × Nat × AOp:=wF 0 a
@[reducible] def xY(a:Nat)(b:List AOp):CO:=qn a ip b
@[reducible] def xZ(a b:Nat):CO:=qb a (wB b)
@[reducible] def x9(a b:Nat)(c:List AV)(d:Nat)(e:List (Nat × Nat × AOp)):CO:=qb a (.bslP b c d e)
@[reducible] def ya(a b c:Nat):CO:=xg a b c qX
@[reducible] def yb(a:Nat):CO:=qf a 7
@[reducible] def yc(a:Nat):CO:=qf a 3
@[reducible] def ye(a:Nat)(b:List CO):AK:=wb a (.reg b)
@[reducible] def yf(a:Nat):CO:=qP a 10
@[reducible] def yg:CO:=yf 9
@[reducible] def yh(a:Nat):CO:=qP 11 a
@[reducible] def yi:CO:=yh 12
@[reducible] def yj(a b:Nat)(c:List (Nat × Nat × AOp)):CO:=xH a 1 b c
@[reducible] def yk:AOp:=qi (-1)
@[reducible] def yl(a b c:Nat):CO:=wA a (wN b c)
@[reducible] def ym(a b:Nat):AK:=wP a b qX
@[reducible] def yn(a:Nat):CO:=qc a qQ
@[reducible] def yp(a b:AV):List AV:=[a,b,.nils]
@[reducible] def yq(a:Nat)(b c:AV):CO:=qZ a (yp b c)
@[reducible] def yr(a:List UInt8):AOp:= .c (qO a)
def kU:FK:=⟨11,[xR],xL (wD 2 (.c .nilp)) [wg 3,wi 4 3,qC 5 .gtr 4 2000] (ye 5 (xN (wg 6) (qb 7 (.slS 1 (.t 6) none (some (qi 2000)))) 0 7)) [wg 8,wv 9 [.nils,qy] [xX 8],wO 10 2 9,qf 2 10]⟩
theorem rD:aq Tryz.prog cP=some kU:=by kernel_rfl
def cE:FK:=⟨99,[xC],qU (wZ 4) [wg 7,wg 8,qW 9 8,xD 10 9,qt 11 10,wG 12 11 1,qW 13 7,xD 14 13,xz 14 12] (qD [xE 15,qC 16 .lss 15 1,qf 17 16,wU 18 17 0,qJ 19 17 (qz 18),xt 20 17 0 19,xf 21 17 20,qJ 22 17 (qY 21),xV 23 17 .eql 22 qQ,xU 24 17 23] (wP 24 4 qQ) (qe [wg 25,qW 26 25,xD 27 26,qt 28 27,xo 29 28 1,qf 5 29] (qD [wV 30,wg 31,qW 32 31,xl 33 32,qt 34 33,wi 35 34,wL 36 30 35] (wz 36 [wg 37,qW 38 37,xl 39 38,qt 40 39,wV 41,wn 42 1 40 41,qt 43 42,qb 44 (.conv .i64 (.t 43)),xE 45,wo 46 .rem 44 45,qf 4 46]) (qU [wg 47,qW 48 47,xl 49 48,wV 51,wg 52,qW 53 52,xl 54 53,wg 62,qW 63 62,xl 64 63,wV 66,qC 67 .mul 66 7,wG 68 67 3,wg 69,qW 70 69,xl 71 70,wV 80,qC 81 .mul 80 29,wV 83,wg 84,qW 85 84,xl 86 85,qt 50 49,qt 55 54,wi 56 55,wo 57 .rem 51 56,wn 58 1 50 57,qt 59 58,qb 60 (.conv .i64 (.t 59)),qC 61 .mul 60 131,qt 65 64,qt 72 71,wi 73 72,wo 74 .rem 68 73,wn 75 1 65 74,qt 76 75,qb 77 (.conv .i64 (.t 76)),qC 78 .mul 77 1117,wo 79 .add 61 78,wo 82 .add 79 81,qt 87 86,wi 88 87,wo 89 .quo 83 88,qC 90 .mul 89 53,wo 91 .add 82 90,qf 6 91] [xp 92,xp 93,qC 94 .quo 93 64,wo 95 .xor 92 94,qf 6 95] (qH [xp 96,xE 97,wo 98 .rem 96 97,qf 4 98])))))⟩
theorem nO:aq Tryz.prog bx=some cE:=by kernel_rfl
def cV:FK:=⟨12,[xC],xT (wZ 4) [xE 5,wg 6,xE 7,wi 8 7,wh 9 (wN 6 8),wn 10 1 5 9,qt 11 10,qf 4 11]⟩
theorem eG:aq Tryz.prog bc=some cV:=by kernel_rfl
def kP:FK:=⟨15,[.t 6],xT (wD 6 qX) [wg 7,xE 8,wo 9 .geq 7 8,qf 10 9,xa 11 10 0,xa 12 10 2,xu 13 10 .leq 11 (.t 12),ya 14 10 13,qf 6 14]⟩
theorem zr:aq Tryz.prog ip=some kP:=by kernel_rfl
def bT:FK:=⟨28,[xR],qe (wZ 2) (wd 0 (xF [wg 4,wI 5 4 1,wV 3] 3 (qH (wZ 2)) (xF [wg 7,wI 8 7 2,qf 9 8,wU 10 9 0,xV 11 9 .eql 10 (qi 10),xU 12 9 11,qf 13 12,wU 14 13 0,xV 15 13 .eql 14 (qi 11),xU 16 13 15,qf 17 16,wU 18 17 0,xV 19 17 .eql 18 (qi 13),xU 20 17 19,qf 6 20] 6 (qH (wD 2 wJ)) (qe [wg 22,xY 23 [.t 22,qi 3,qi 9],qf 24 23,wU 25 24 0,xV 26 24 .eql 25 (qi 12),xU 27 24 26,qf 21 27] (wP 21 2 (qi 2))))) (qH (wD 2 yk)))⟩
theorem tP:aq Tryz.prog eU=some bT:=by kernel_rfl
def kB:FK:=⟨13,[xR],xT (wD 2 qX) [wg 3,xY 4 [.t 3,wJ,qi 14],xx 5,xa 6 5 0,xu 7 5 .neq 6 (qi 12),ya 8 5 7,qf 9 8,xa 10 9 0,xu 11 9 .neq 10 (qi 13),ya 12 9 11,qf 2 12]⟩
theorem sN:aq Tryz.prog cF=some kB:=by kernel_rfl
def iz:AK:=qU [wO 4 1 1,qZ 6 [qy,qy,.nils,qy]] [wg 11,yj 12 16 [(0,1,wJ),(1,1,wJ),xk 2 2,xk 3 3,xk 4 4,xk 5 5,xk 6 8,xk 7 9,xk 8 10,xk 9 13,xk 10 3,xk 11 6,xk 12 7,xk 13 11,xk 14 12,xk 15 14],yl 13 11 12,qf 7 13] (qU [yb 14,wg 15,qf 16 2,wh 17 (wN 15 16),wv 18 [qy,qy,.nils,qy] [xX 14,wF 1 17],qZ 8 [qy,qy,.nils,qy],qS 4 8 18] (xN (yb 19) (xi 20 eU 19) 9 20) (xK [yb 21,wI 22 21 14] (wb 22 (qD [xl 23 4,qt 24 23,wi 25 24,wI 26 25 0] (wz 26 [wg 27,qf 28 2,wh 29 (wN 27 28),yj 30 1 [xX 29],wv 31 [qy,qy,.nils,qy] [xk 0 13,xk 1 (-1),wF 2 30],qS 4 6 31]) (qe [wg 32,xl 33 4,qt 34 33,wi 35 34,wh 36 (wN 32 35),qp 37 3 8,xz 37 36] (.reg [xl 38 4,qt 39 38,qp 40 3 8,qt 41 40,wn 42 3 39 41,xl 43 42,qt 44 43,qf 9 44])))) (xK [yb 45,wI 46 45 1] (ye 46 [wg 47,yj 48 7 [(0,1,qQ),(1,1,wJ),xk 2 2,xk 3 3,xk 4 15,xk 5 16,xk 6 255],yl 49 47 48,qp 50 3 8,xz 50 49]) (xK [yb 51,xi 52 cF 51,xZ 53 52] (ye 53 [xD 54 8,qR 1 54 yk]) (wK (wZ 10) (xP 0 [qf 55 10,qf 56 9,wL 57 55 56] 57 0 1 (.reg [xq 60 8,wg 62,qf 63 2,qt 61 60,wh 64 (wN 62 63),qP 60 61,x9 65 1 xG 1 [xX 64],wT 66 1 8 61 65,xq 67 8,xz 67 66]) (qf 58 10) 59 58 1 10 59) [wt 68 4 8,qS 4 6 68])))))
def iC:FK:=⟨69,[xB 6 4],(AK.whole iz)⟩
theorem tM:aq Tryz.prog iD=some iC:=by kernel_rfl
def jU:FK:=⟨30,[.t 6],xL (wZ 6) [xE 7,qf 8 2,xo 9 8 1,wL 10 7 9,qf 11 10,xa 12 11 0,qK 13 11 (xQ (xA 12 4)),xu 14 11 .gtr 13 qQ,ya 15 11 14] (wz 15 [xE 16,wG 17 16 1,wg 18,qf 19 2,xo 20 19 1,xE 21,wo 22 .sub 20 21,wh 23 (wN 18 22),wo 24 .add 17 23,qf 6 24]) [wg 25,qf 26 2,xo 27 26 1,wh 28 (wN 25 27),qb 29 (.bin .add wJ (.t 28)),qf 6 29]⟩
theorem zS:aq Tryz.prog fc=some jU:=by kernel_rfl
def iS:AK:=qU [wO 3 1 1,yq 4 qy qy] [wg 10,yj 11 4 [(0,1,wJ),(1,1,qQ),xk 2 2,xk 3 3],yl 12 10 11,wv 13 (yp qy qy) [xX 12],yq 5 qy qy,qS 3 5 13] (qU [xl 14 5,wg 17,qt 15 14,wG 16 15 2,wh 18 (xA 17 5),qP 14 15,wo 19 .add 16 18,xD 20 5,xz 20 19] [wg 21,yj 22 6 [xk 0 3,xk 1 5,xk 2 2,(3,1,wJ),xk 4 7,xk 5 4],yl 23 21 22,qf 6 23] (wK (wZ 7) (xP 0 [yb 24,xp 25,wL 26 24 25] 26 0 1 (qe [wv 29 [.nils,.nils,qy,qy,.nils] [],qZ 8 [.nils,.nils,qy,qy,.nils],qS 5 8 29] (xK [wg 30,yj 31 5 [(0,1,wJ),xk 1 2,(2,1,qQ),xk 3 3,xk 4 4],yl 32 30 31,qf 9 32] (xO 2 [qf 33 9,qC 34 .gtr 33 0] 34 2 3 (.reg [xD 37 8,wg 39,xD 41 5,qt 38 37,wt 40 1 3,qt 42 41,qn 43 iD [.t 39,.t 40,.t 42],qP 37 38,qM 44 4 [qy,qy,.nils,qy] 1 [wq 0 4 43],qP 37 38,wT 45 4 48 38 44,xD 46 8,xz 46 45]) (qf 35 9) (xo 36 35 1) 9 36) (qU [wg 47,xD 48 5,qt 49 48,wh 50 (wN 47 49),qp 51 3 8,xz 51 50] [wg 52,yj 53 5 [xk 0 2,(1,1,wJ),xk 2 2,(3,1,wJ),xk 4 3],yl 54 52 53,xq 55 8,xz 55 54] (xK [xp 56,wI 57 56 1,qf 58 57,wU 59 58 7,wU 60 58 6,xV 61 58 .sub 60 wJ,xV 62 58 .eql 59 (.t 61),wU 63 58 62,xa 64 63 0,qK 65 63 (xQ (xA 64 3)),xu 66 63 .gtr 65 qQ,qJ 67 58 (qN 63 (.t 66) qX),xU 68 58 67] (ye 68 [xq 69 8,qR 1 69 (qi 3)]) (xK [xq 70 8,qt 71 70] (.blk 4 (xF (xW 73 71 1 72 73) 72 (qe [qp 74 3 8,qR 1 74 qQ] (.reg [wg 75,yb 76,xp 77,qn 78 fc [.t 75,.t 76,.t 77],yj 79 1 [xX 78],qp 80 4 8,xz 80 79])) (qe (xW 82 71 2 81 82) (ye 81 [wg 83,yb 84,xp 85,qn 86 fc [.t 83,.t 84,.t 85],wg 87,yb 88,xp 89,qn 90 fc [.t 87,.t 88,.t 89],yj 91 2 [xX 86,wF 1 90],qp 92 4 8,xz 92 91])))) (.reg [xq 93 5,qt 94 93,wt 95 5 8,qM 96 5 [.nils,.nils,qy,qy,.nils] 1 [wq 0 5 95],wT 97 5 88 94 96,xq 98 5,xz 98 97])))))) (yb 27) 28 27 1 7 28) [wt 99 3 5,qS 3 4 99]))
def iG:FK:=⟨100,[xB 4 3],(AK.whole iS)⟩
theorem tW:aq Tryz.prog iP=some iG:=by kernel_rfl
def kj:FK:=⟨43,[xC],qU [wO 2 3 0,qc 4 xI] (xy (yj 8 0 []) 5 8) (wK (wZ 6) (xP 0 [xp 9,xq 10 2,qt 11 10,wi 12 11,wL 13 9 12] 13 0 1 (qe (wZ 7) (xP 2 [yb 16,xq 17 2,qt 18 17,xp 19,wn 20 5 18 19,qp 21 4 20,qt 22 21,wi 23 22,wL 24 16 23] 24 2 3 (qe [xq 27 2,qt 28 27,xp 29,wn 30 5 28 29,qp 31 4 30,qt 32 31,yb 33,wn 34 1 32 33,qt 35 34,xE 36,wo 37 .eql 35 36] (wb 37 (qe [wV 38,xp 39,yj 40 1 [xX 39],wT 41 1 8 38 40,qf 5 41] (.exit 2)))) (yb 25) 26 25 1 7 26)) (xp 14) 15 14 1 6 15) (xy (wV 42) 4 42))⟩
theorem ro:aq Tryz.prog cG=some kj:=by kernel_rfl
def iQ:AK:=qU [qZ 2 xJ] [wv 9 xJ [],qZ 3 xJ,xz 3 9] (xK [wg 10,yj 11 4 [(0,1,wJ),xk 1 2,(2,1,wJ),xk 3 3],yl 12 10 11,qf 4 12] (xO 0 [xx 13,qC 14 .gtr 13 0] 14 0 1 (.reg [xl 17 3,wg 19,qt 18 17,wt 20 1 3,wX 21 iP 19 20,qP 17 18,qM 22 3 (yp qy qy) 1 [wq 0 3 21],qP 17 18,wT 23 3 40 18 22,xl 24 3,xz 24 23]) (xx 15) (xo 16 15 1) 4 16) (wK [wg 25,yj 26 4 [(0,1,qQ),(1,1,qQ),(2,1,wJ),xk 3 3],yl 27 25 26,qf 5 27] (xO 2 [wV 28,qC 29 .gtr 28 0] 29 2 3 (qU [xl 32 3,wg 34,xl 35 3,qt 33 32,qt 36 35,wi 37 36,wh 38 (wN 34 37),qP 32 33,wn 39 3 33 38,qf 6 39] [wg 40,xp 41,qW 42 41,xq 43 42,qt 44 43,wi 45 44,wh 46 (wN 40 45),qf 7 46] (qe [wg 47,xp 48,qW 49 48,xD 50 49,qt 51 50,wh 52 (wN 47 51),wv 53 [qy,.nils] [xX 52],qZ 8 [qy,.nils],qS 2 8 53] (xK [xp 54,qW 55 54,wt 56 3 55,yb 57,wX 58 cG 56 57,wi 59 58,yn 60] (wa 4 (qe [wL 61 60 59] (.seq (wy 61 4) (ww 5 (.reg [xD 62 8,wg 64,xp 65,qW 66 65,xD 67 66,qt 63 62,qt 68 67,wh 69 (wN 64 68),qP 62 63,x9 70 1 xG 1 [xX 69],wT 71 1 8 63 70,xD 72 8,xz 72 71]) (xy (wG 73 60 1) 60 73))))) (qe [yb 74,qC 75 .gtr 74 0] (ye 75 [xp 76,qW 77 76,xq 78 77,yb 80,xp 81,qW 82 81,xq 83 82,yb 85,qt 79 78,qt 84 83,wn 86 5 84 85,xl 87 86,qt 88 87,wt 89 2 8,qM 90 2 [qy,.nils] 1 [wq 0 2 89],qP 78 79,qP 83 84,qP 87 88,wT 91 2 32 88 90,qP 78 79,wn 92 5 79 80,xl 93 92,xz 93 91]))))) (wV 30) (xo 31 30 1) 5 31) [wt 94 1 3,xz 2 94]))
def iT:FK:=⟨95,[xB 2 1],(AK.whole iQ)⟩
theorem tx:aq Tryz.prog dd=some iT:=by kernel_rfl
def dv:AK:=qe [wO 1 5 0,qZ 2 [.nils,.nils,qy,qy,.nils]] (.cut (.ot (.one (wD 3 (.c .any)) (.one [xq 9 1] (.one [qp 11 3 1] (.one [qp 14 4 1] (.one [qt 10 9] (.one [qt 12 11] (.one [qt 15 14] (wj [qM 7 2 [qy,.nils] 0 [],yg,yi,qP 14 15] (wj [qM 8 4 [qy,qy,.nils,qy] 0 [],yg,yi,qP 14 15] (wS [yj 13 0 [],yg,yi,qP 14 15] (wS [wT 16 1 8 13 15,yg,yi] (.one [wv 17 [.nils,.nils,qy,qy,.nils] [xX 7,wF 1 8,wF 2 10,wF 3 12,wF 4 16]] (wS [qZ 3 [.nils,.nils,qy,qy,.nils]] (wS [qS 5 3 17] .done))))) (wS [yj 13 0 [],yg,yi,qP 14 15] (wj [qM 8 4 [qy,qy,.nils,qy] 0 [],yg,yi,qP 14 15] (wS [wT 16 1 8 13 15,yg,yi] (.one [wv 17 [.nils,.nils,qy,qy,.nils] [xX 7,wF 1 8,wF 2 10,wF 3 12,wF 4 16]] (wS [qZ 3 [.nils,.nils,qy,qy,.nils]] (wS [qS 5 3 17] .done)))) (wS [wT 16 1 8 13 15,yg,yi] (wS [qM 8 4 [qy,qy,.nils,qy] 0 [],yg,yi,qP 14 15] (.one [wv 17 [.nils,.nils,qy,qy,.nils] [xX 7,wF 1 8,wF 2 10,wF 3 12,wF 4 16]] (wS [qZ 3 [.nils,.nils,qy,qy,.nils]] (wS [qS 5 3 17] .done)))))))) (wj [qM 8 4 [qy,qy,.nils,qy] 0 [],yg,yi,qP 14 15] (wj [qM 7 2 [qy,.nils] 0 [],yg,yi,qP 14 15] (wS [yj 13 0 [],yg,yi,qP 14 15] (wS [wT 16 1 8 13 15,yg,yi] (.one [wv 17 [.nils,.nils,qy,qy,.nils] [xX 7,wF 1 8,wF 2 10,wF 3 12,wF 4 16]] (wS [qZ 3 [.nils,.nils,qy,qy,.nils]] (wS [qS 5 3 17] .done))))) (wS [yj 13 0 [],yg,yi,qP 14 15] (wj [qM 7 2 [qy,.nils] 0 [],yg,yi,qP 14 15] (wS [wT 16 1 8 13 15,yg,yi] (.one [wv 17 [.nils,.nils,qy,qy,.nils] [xX 7,wF 1 8,wF 2 10,wF 3 12,wF 4 16]] (wS [qZ 3 [.nils,.nils,qy,qy,.nils]] (wS [qS 5 3 17] .done)))) (wS [wT 16 1 8 13 15,yg,yi] (wS [qM 7 2 [qy,.nils] 0 [],yg,yi,qP 14 15] (.one [wv 17 [.nils,.nils,qy,qy,.nils] [xX 7,wF 1 8,wF 2 10,wF 3 12,wF 4 16]] (wS [qZ 3 [.nils,.nils,qy,qy,.nils]] (wS [qS 5 3 17] .done)))))))) (wS [yj 13 0 [],yg,yi,qP 14 15] (wj [qM 7 2 [qy,.nils] 0 [],yg,yi,qP 14 15] (wj [qM 8 4 [qy,qy,.nils,qy] 0 [],yg,yi,qP 14 15] (wS [wT 16 1 8 13 15,yg,yi] (.one [wv 17 [.nils,.nils,qy,qy,.nils] [xX 7,wF 1 8,wF 2 10,wF 3 12,wF 4 16]] (wS [qZ 3 [.nils,.nils,qy,qy,.nils]] (wS [qS 5 3 17] .done)))) (wS [wT 16 1 8 13 15,yg,yi] (wS [qM 8 4 [qy,qy,.nils,qy] 0 [],yg,yi,qP 14 15] (.one [wv 17 [.nils,.nils,qy,qy,.nils] [xX 7,wF 1 8,wF 2 10,wF 3 12,wF 4 16]] (wS [qZ 3 [.nils,.nils,qy,qy,.nils]] (wS [qS 5 3 17] .done)))))) (wj [qM 8 4 [qy,qy,.nils,qy] 0 [],yg,yi,qP 14 15] (wj [qM 7 2 [qy,.nils] 0 [],yg,yi,qP 14 15] (wS [wT 16 1 8 13 15,yg,yi] (.one [wv 17 [.nils,.nils,qy,qy,.nils] [xX 7,wF 1 8,wF 2 10,wF 3 12,wF 4 16]] (wS [qZ 3 [.nils,.nils,qy,qy,.nils]] (wS [qS 5 3 17] .done)))) (wS [wT 16 1 8 13 15,yg,yi] (wS [qM 7 2 [qy,.nils] 0 [],yg,yi,qP 14 15] (.one [wv 17 [.nils,.nils,qy,qy,.nils] [xX 7,wF 1 8,wF 2 10,wF 3 12,wF 4 16]] (wS [qZ 3 [.nils,.nils,qy,qy,.nils]] (wS [qS 5 3 17] .done)))))) (wS [wT 16 1 8 13 15,yg,yi] (wj [qM 7 2 [qy,.nils] 0 [],yg,yi,qP 14 15] (wS [qM 8 4 [qy,qy,.nils,qy] 0 [],yg,yi,qP 14 15] (.one [wv 17 [.nils,.nils,qy,qy,.nils] [xX 7,wF 1 8,wF 2 10,wF 3 12,wF 4 16]] (wS [qZ 3 [.nils,.nils,qy,qy,.nils]] (wS [qS 5 3 17] .done)))) (wS [qM 8 4 [qy,qy,.nils,qy] 0 [],yg,yi,qP 14 15] (wS [qM 7 2 [qy,.nils] 0 [],yg,yi,qP 14 15] (.one [wv 17 [.nils,.nils,qy,qy,.nils] [xX 7,wF 1 8,wF 2 10,wF 3 12,wF 4 16]] (wS [qZ 3 [.nils,.nils,qy,qy,.nils]] (wS [qS 5 3 17] .done)))))))))))))))))))) (xK (wZ 4) (xP 0 [xx 18,xl 19 1,qt 20 19,wi 21 20,wL 22 18 21] 22 0 1 (.reg [xl 25 3,xl 27 1,xx 29,xl 34 1,xx 36,qt 26 25,qt 28 27,wn 30 2 28 29,xl 31 30,qt 32 31,qt 35 34,wn 37 2 35 36,xD 38 37,qt 39 38,yj 33 0 [],qP 25 26,qP 27 28,qP 31 32,qP 34 35,qP 38 39,wT 40 1 8 33 39,qP 25 26,qP 27 28,qP 31 32,wv 41 [qy,.nils] [xX 32,wF 1 40],qM 42 2 [qy,.nils] 1 [wq 0 2 41],qP 25 26,wT 43 2 32 26 42,xl 44 3,xz 44 43]) (xx 23) 24 23 1 4 24) (wK (wZ 5) (xP 2 [wV 45,xD 46 1,qt 47 46,wi 48 47,wL 49 45 48] 49 2 3 (qe [xD 52 1,qt 53 52,wV 54,wn 55 4 53 54,wt 56 4 55,qZ 6 [qy,qy,.nils,qy],qS 4 6 56] (.reg [xD 57 3,xl 59 6,xD 61 6,xq 64 6,qp 67 3 6,qt 58 57,qt 60 59,qt 62 61,qt 65 64,qt 68 67,yj 63 0 [],qP 57 58,qP 59 60,qP 61 62,qP 64 65,qP 67 68,wT 66 1 8 63 65,qP 57 58,qP 59 60,qP 61 62,qP 67 68,wv 69 [qy,qy,.nils,qy] [xX 60,wF 1 62,wF 2 66,wF 3 68],qM 70 4 [qy,qy,.nils,qy] 1 [wq 0 4 69],qP 57 58,wT 71 4 48 58 70,xD 72 3,xz 72 71])) (wV 50) 51 50 1 5 51) [wt 73 5 3,qS 5 2 73])))
def dE:FK:=⟨74,[xB 2 5],(AK.whole dv)⟩
theorem mH:aq Tryz.prog dt=some dE:=by kernel_rfl
def mb:FK:=⟨29,[xB 2 3],qU [wO 1 3 0,yq 2 qy qy] [xl 5 1,qt 6 5,xD 7 1,qt 8 7,wv 9 (yp qy qy) [xX 6,wF 1 8],yq 3 qy qy,qS 3 3 9] (wK (wZ 4) (xP 0 [xx 10,xq 11 1,qt 12 11,wi 13 12,wL 14 10 13] 14 0 1 (.reg [xq 17 3,xq 19 1,xx 21,qt 18 17,qt 20 19,wn 22 5 20 21,wt 23 5 22,xi 24 dt 23,qP 17 18,qM 25 5 [.nils,.nils,qy,qy,.nils] 1 [wq 0 5 24],qP 17 18,wT 26 5 88 18 25,xq 27 3,xz 27 26]) (xx 15) 16 15 1 4 16) [wt 28 3 3,qS 3 2 28])⟩
theorem tY:aq Tryz.prog iE=some mb:=by kernel_rfl
def gW:FK:=⟨25,[xB 2 1],qU [wO 1 1 0,qZ 2 xJ] [wv 5 xJ [],qZ 3 xJ,xz 3 5] (wK (wZ 4) (xP 0 [xx 6,xl 7 1,qt 8 7,wi 9 8,wL 10 6 9] 10 0 1 (.reg [xl 13 3,xl 15 1,xx 17,qt 14 13,qt 16 15,wn 18 3 16 17,wt 19 3 18,xi 20 iE 19,qP 13 14,qM 21 3 (yp qy qy) 1 [wq 0 3 20],qP 13 14,wT 22 3 40 14 21,xl 23 3,xz 23 22]) (xx 11) 12 11 1 4 12) [wt 24 1 3,xz 2 24])⟩
theorem ni:aq Tryz.prog en=some gW:=by kernel_rfl
def iB:AK:=qU [qZ 2 xJ] [wg 7,xi 8 dd 7,xi 9 en 8,qZ 3 xJ,xz 3 9] (qU [xl 10 3,wg 12,xl 13 3,qt 11 10,qt 14 13,wi 15 14,wh 16 (wN 12 15),qP 10 11,wn 17 3 11 16,qf 4 17] [xx 18,qW 19 18,xq 20 19,wg 22,xx 23,qW 24 23,xq 25 24,qt 21 20,qt 26 25,wi 27 26,wh 28 (wN 22 27),qP 20 21,wn 29 5 21 28,qf 5 29] (qe [wg 30,xx 31,qW 32 31,xD 33 32,xx 35,qW 36 35,xq 37 36,qt 34 33,qt 38 37,wi 39 38,yj 40 5 [xk 0 (-1),wF 1 34,wF 2 39,(3,1,qQ),(4,1,wJ)],yl 41 30 40,qf 6 41] (xK [wg 42,wh 43 (xA 42 32)] (.blk 0 (xF (xW 45 43 0 44 45) 44 (.reg [wV 46,wg 47,wh 48 (xA 47 5),qW 49 46,xq 50 49,xz 50 48]) (xF (xW 52 43 1 51 52) 51 (qe [wV 53,qW 54 53,qp 55 4 54,qt 56 55,wi 57 56,qC 58 .gtr 57 0] (ye 58 [wV 59,qW 60 59,qp 61 4 60,qt 62 61,xp 63,qb 64 (qF 1 62 qQ),xz 64 63])) (xF (xW 66 43 2 65 66) 65 (.reg [wV 67,xp 68,qW 69 67,qp 70 3 69,xz 70 68]) (xF (xW 72 43 3 71 72) 71 (qe [wV 73,qW 74 73,xD 75 74,qt 76 75,wi 77 76,qC 78 .gtr 77 0] (ye 78 [wV 79,qW 80 79,xD 81 80,qt 82 81,xp 83,qb 84 (qF 4 82 qQ),xD 85 84,xz 85 83])) (xF (xW 87 43 4 86 87) 86 (qe [wV 88,qW 89 88,xD 90 89,qt 91 90,wi 92 91,qC 93 .gtr 92 0] (ye 93 [wV 94,qW 95 94,xD 96 95,wV 98,qW 99 98,xD 100 99,xp 105,x9 106 1 xG 1 [xX 105],qt 97 96,qt 101 100,qb 102 (qF 4 101 qQ),xq 103 102,qt 104 103,wT 107 1 8 104 106,qP 96 97,qb 108 (qF 4 97 qQ),xq 109 108,xz 109 107])) (xF (xW 111 43 5 110 111) 110 (.reg [wV 112,wV 113,qW 114 113,xl 115 114,qt 116 115,xp 117,yj 118 1 [xX 117],wv 119 [qy,.nils] [(0,1,qQ),wF 1 118],qM 120 2 [qy,.nils] 1 [wq 0 2 119],wT 121 2 32 116 120,qW 122 112,xl 123 122,xz 123 121]) (xF (xW 125 43 6 124 125) 124 (.reg [xx 126,xx 127,qW 128 127,xl 129 128,wg 131,qt 130 129,wh 132 (xA 131 2),qP 129 130,wo 133 .add 130 132,qW 134 126,xD 135 134,xz 135 133]) (qe (xW 137 43 7 136 137) (wb 136 (qe [wV 138,qW 139 138,xD 140 139,qt 141 140,wi 142 141,qC 143 .gtr 142 0] (ye 143 [wV 144,qW 145 144,xD 146 145,wg 148,x9 149 1 xG 3 [xk 0 256,xk 1 (-1),(2,1,wJ)],qt 147 146,yl 150 148 149,qP 146 147,qb 151 (qF 4 147 qQ),qp 152 3 151,xz 152 150])))))))))))) (qH [wt 153 1 3,xz 2 153]))))
def iw:FK:=⟨154,[xB 2 1],(AK.whole iB)⟩
theorem tJ:aq Tryz.prog iH=some iw:=by kernel_rfl
def ft:FK:=⟨12,[xC],xT (wD 4 (.c wm)) [xE 5,wg 6,xE 7,wi 8 7,wh 9 (wN 6 8),wn 10 1 5 9,qt 11 10,qf 4 11]⟩
theorem jQ:aq Tryz.prog bA=some ft:=by kernel_rfl
def iK:FK:=⟨21,[xB 4 4],xL [qZ 4 [qy,qy,wm,.nils]] [xE 5,wi 6 5,wI 7 6 0,yb 8,wU 9 8 0,qJ 10 8 (xQ (xA 9 3)),xV 11 8 .eql 10 qQ,xU 12 8 11] (wz 12 [wg 13,yj 14 10 [(0,1,qQ),(1,1,wJ),xk 2 2,xk 3 3,xk 4 5,xk 5 7,xk 6 15,xk 7 16,xk 8 100,xk 9 255],yl 15 13 14,wv 16 [qy,qy,wm,.nils] [(0,1,wJ),wF 1 15],qS 4 4 16]) [wg 17,xE 18,wX 19 bA 17 18,wv 20 [qy,qy,wm,.nils] [xk 0 2,wF 2 19],qS 4 4 20]⟩
theorem tz:aq Tryz.prog eO=some iK:=by kernel_rfl
def eS:FK:=⟨47,[xB 6 4],qe [qZ 6 [qy,qy,wm,.nils]] (qD [qf 8 2,qC 9 .lss 8 2,qf 10 9,wU 11 10 0,qJ 12 10 (xQ (xA 11 4)),xV 13 10 .eql 12 qQ,xU 14 10 13] (wz 14 [wg 15,xE 16,wX 17 eO 15 16,qS 4 6 17]) (qD [wg 18,wh 19 (xA 18 7),wI 20 19 0] (wz 20 [wg 21,yj 22 3 [xk 0 11,xk 1 12,xk 2 11],yl 23 21 22,wg 24,xE 25,qf 26 2,xo 27 26 1,qn 28 bg [.t 24,.t 25,.t 27],qM 29 4 [qy,qy,wm,.nils] 1 [wq 0 4 28],wv 30 [qy,qy,wm,.nils] [xX 23,wF 3 29],qS 4 6 30]) (xT [wg 31,yj 32 9 [xk 0 3,xk 1 3,xk 2 4,xk 3 5,xk 4 6,xk 5 7,xk 6 8,xk 7 9,xk 8 10],yl 33 31 32,qf 7 33] [yb 34,wg 35,xE 36,qf 37 2,xo 38 37 1,qn 39 bg [.t 35,.t 36,.t 38],wg 40,xE 41,qf 42 2,xo 43 42 1,qn 44 bg [.t 40,.t 41,.t 43],qM 45 4 [qy,qy,wm,.nils] 2 [wq 0 4 39,wq 4 4 44],wv 46 [qy,qy,wm,.nils] [xX 34,wF 3 45],qS 4 6 46])))⟩
theorem lU:aq Tryz.prog bg=some eS:=by kernel_rfl
def gX:FK:=⟨99,[xB 4 4],qU [qZ 4 [qy,qy,wm,.nils]] [qc 5 (.c .any),wg 9,qW 10 9,xl 11 10,wg 13,qW 14 13,xq 15 14,xE 17,qt 12 11,qt 16 15,qn 18 bg [.t 12,.t 16,.t 17],qZ 5 [qy,qy,wm,.nils],qS 4 5 18] (qD [wg 19,qW 20 19,xD 21 20,qt 22 21,wi 23 22,wI 24 23 0,qf 25 24,wU 26 25 0,qJ 27 25 (qz 26),xt 28 25 0 27,xf 29 25 28,qJ 30 25 (xQ (xA 29 4)),xV 31 25 .gtr 30 qQ,xU 32 25 31] (wz 32 [wt 33 4 5,qS 4 4 33]) (qU [qc 6 (.c .any),wg 34,qW 35 34,xD 36 35,wg 38,qW 39 38,xl 40 39,wg 42,qW 43 42,xD 44 43,qt 37 36,qt 41 40,qt 45 44,wi 46 45,wh 47 (wN 41 46),qP 36 37,wn 48 3 37 47,wt 49 3 48,yq 6 wm .nils,qS 3 6 49] [xl 50 6,qt 51 50,wv 52 [qy,qy,wm,.nils] [xk 0 13,wF 2 51],qZ 7 [qy,qy,wm,.nils],qS 4 7 52] (qD (wZ 8) (xP 0 [qf 53 8,xD 54 6,qt 55 54,wi 56 55,wL 57 53 56] 57 0 1 (.reg [qp 60 3 7,wg 62,qW 63 62,xl 64 63,wg 66,qW 67 66,xq 68 67,qt 61 60,qt 65 64,qt 69 68,qn 70 bg [.t 65,.t 69,qi 2],qP 60 61,x9 71 4 [qy,qy,wm,.nils] 1 [wq 0 4 70],wT 72 4 56 61 71,qp 73 3 7,xz 73 72]) (qf 58 8) 59 58 1 8 59) (wK [wg 74,qW 75 74,xl 76 75,qt 77 76,wh 78 (xA 77 2),wI 79 78 0] (wz 79 [wt 80 4 7,qS 4 4 80]) [wg 81,qW 82 81,xl 83 82,x9 85 1 xG 4 [xk 0 3,xk 1 4,xk 2 8,xk 3 10],wg 88,qW 89 88,xl 90 89,wg 92,qW 93 92,xq 94 93,qt 84 83,wt 87 4 7,qt 91 90,qt 95 94,yl 86 84 85,qA (some 4) 7 87,qP 90 91,qP 94 95,qn 96 bg [.t 91,.t 95,qi 2],qA (some 4) 7 87,qM 97 4 [qy,qy,wm,.nils] 2 [wq 0 4 87,wq 4 4 96],wv 98 [qy,qy,wm,.nils] [xX 86,wF 3 97],qS 4 4 98]))))⟩
theorem nq:aq Tryz.prog ef=some gX:=by kernel_rfl
def gm:FK:=⟨46,[xR],qU (wD 2 (.c wm)) [wg 3,wg 4,qW 5 4,qp 6 3 5,qt 7 6,wG 8 7 1,qW 9 3,qp 10 3 9,xz 10 8] (wK [wg 11,qW 12 11,xl 13 12,qt 14 13,wh 15 (xA 14 9),wI 16 15 0,qf 17 16,xa 18 17 0,qK 19 17 (qz 18),xm 20 17 2 19,wQ 21 17 20,qK 22 17 (qY 21),xu 23 17 .gtr 22 qQ,ya 24 17 23] (wz 24 [wg 25,qW 26 25,xl 27 26,wg 29,qW 30 29,xq 31 30,qt 28 27,qt 32 31,wX 33 bA 28 32,qf 2 33]) [wg 34,qW 35 34,qp 36 3 35,wg 39,qW 40 39,qp 41 3 40,qt 37 36,qC 38 .rem 37 24,qt 42 41,qC 43 .rem 42 24,wG 44 43 1,qb 45 (.slStr (yr [97,98,99,100,101,103,104,105,106,107,108,109,110,112,113,114,115,116,117,118,119,120,121,122]) (some (.t 38)) (some (.t 44))),qf 2 45])⟩
theorem mL:aq Tryz.prog dz=some gm:=by kernel_rfl
def eF:FK:=⟨24,[xB 4 5],qU [wO 3 4 1,qZ 4 [qy,wm,.nils,.nils,.nils]] (xN (wg 6) (xi 7 dz 6) 5 7) (xT [wg 8,qM 9 1 [wm] 0 [],wg 10,qW 11 10,xq 12 11,qt 13 12,wT 14 1 16 9 13,wV 15,qM 16 1 [wm] 1 [xX 15],wT 17 1 16 14 16,qW 18 8,xq 19 18,xz 19 17] [wV 20,wt 21 4 3,qM 22 4 [qy,qy,wm,.nils] 1 [wq 0 4 21],wv 23 [qy,wm,.nils,.nils,.nils] [(0,1,wJ),wF 1 20,wF 2 22],qS 5 4 23])⟩
theorem iU:aq Tryz.prog cd=some eF:=by kernel_rfl
def ib:FK:=⟨14,[xB 2 4],xT [qZ 2 [qy,qy,wm,.nils]] [wg 3,wg 5,qW 6 5,xl 7 6,x9 9 1 xG 6 [xk 0 16,xk 1 16,xk 2 16,xk 3 8,xk 4 17,(5,1,qQ)],qt 8 7,xS 4 (xA 3 2),qP 7 8,yl 10 8 9,wv 11 [qy,qy,wm,.nils] [(0,1,wJ),wF 1 10],qM 12 4 [qy,qy,wm,.nils] 2 [wq 0 4 4,wq 4 4 11],wv 13 [qy,qy,wm,.nils] [xk 0 7,wF 3 12],qS 4 2 13]⟩
theorem nM:aq Tryz.prog cD=some ib:=by kernel_rfl
def dQ:AK:=qU (wD 4 xI) [wg 9,wg 10,qW 11 10,xl 12 11,qt 13 12,yj 14 5 [xk 0 2,xk 1 3,(2,1,wJ),(3,1,qQ),xk 4 5],yl 15 13 14,wv 16 [qy,qy,wm,.nils] [(0,1,wJ),wF 1 15],wX 17 cd 9 16,qZ 5 [qy,wm,.nils,.nils,.nils],qS 5 5 17] (qU [xD 18 5,qt 19 18,wv 20 [qy,qy,wm,.nils] [xk 0 2,wF 2 19],qZ 6 [qy,qy,wm,.nils],qS 4 6 20] [wg 21,xE 22,xo 23 22 1,wX 24 aN 21 23,qf 7 24] (qe [xD 25 5,qt 26 25,wt 27 4 6,wv 28 [qy,qy,wm,.nils] [(0,1,wJ),(1,1,wJ)],qM 29 4 [qy,qy,wm,.nils] 2 [wq 0 4 27,wq 4 4 28],wv 30 [qy,qy,wm,.nils] [xk 0 4,wF 3 29],qM 31 4 [qy,qy,wm,.nils] 1 [wq 0 4 30],wv 32 [qy,wm,.nils,.nils,.nils] [xk 0 2,wF 1 26,wF 2 31],qZ 8 [qy,wm,.nils,.nils,.nils],qS 5 8 32] (.cut (.reg [wg 33,wg 34,qW 35 34,qp 36 4 35,qt 37 36,xo 38 37 2,qW 39 33,qp 40 4 39,xz 40 38]) (qH [yb 44,wt 41 5 5,wt 42 4 6,x9 43 4 [qy,qy,wm,.nils] 1 [wq 0 4 42],wt 45 5 8,x9 46 5 [qy,wm,.nils,.nils,.nils] 1 [wq 0 5 45],wT 47 5 96 44 46,qA (some 5) 5 41,qA (some 4) 6 42,wv 48 [qy,wm,.nils,.nils,.nils] [xk 0 6,wF 2 43,wF 3 47],qM 49 5 [qy,wm,.nils,.nils,.nils] 2 [wq 0 5 41,wq 5 5 48],qf 4 49]))))
def dL:FK:=⟨50,[xC],(AK.whole dQ)⟩
theorem nH:aq Tryz.prog ec=some dL:=by kernel_rfl
def ii:FK:=⟨128,[xC],qU (wD 4 xI) [wg 7,wg 8,qW 9 8,qp 10 4 9,qt 11 10,xo 12 11 1,qW 13 7,qp 14 4 13,xz 14 12] (qe [wg 15,qW 16 15,xl 17 16,qt 18 17,wh 19 (xA 18 13),qf 5 19] (wd 0 (xF [wV 21,qC 22 .lss 21 3,qf 23 22,xa 24 23 0,qK 25 23 (qz 24),xm 26 23 2 25,wQ 27 23 26,qK 28 23 (qY 27),xu 29 23 .gtr 28 qQ,ya 30 23 29,qf 20 30] 20 (qH [wg 31,qW 32 31,xl 33 32,wg 35,qW 36 35,xq 37 36,wg 40,qt 34 33,qt 38 37,wX 39 bA 34 38,xS 41 (xA 40 3),qM 42 4 [qy,qy,wm,.nils] 1 [wq 0 4 41],wv 43 [qy,wm,.nils,.nils,.nils] [xk 0 2,wF 1 39,wF 2 42],qM 44 5 [qy,wm,.nils,.nils,.nils] 1 [wq 0 5 43],qf 4 44]) (xF (xN (wV 46) (qC 47 .lss 46 5) 45 47) 45 (qH [wg 48,wg 49,xS 50 (xA 49 3),wX 51 cd 48 50,qM 52 5 [qy,wm,.nils,.nils,.nils] 1 [wq 0 5 51],qf 4 52]) (xF [wV 54,qC 55 .lss 54 7,qf 56 55,wU 57 56 1,xV 58 56 .lss 57 (qi 2),xU 59 56 58,qf 53 59] 53 (qH [wg 60,xS 61 (xA 60 3),qM 62 4 [qy,qy,wm,.nils] 1 [wq 0 4 61],wv 63 [qy,wm,.nils,.nils,.nils] [xk 0 3,wF 2 62],qM 64 5 [qy,wm,.nils,.nils,.nils] 1 [wq 0 5 63],qf 4 64]) (xF (xN (wV 66) (wI 67 66 7) 65 67) 65 (qH [wg 68,xi 69 cD 68,wg 70,xS 71 (xA 70 2),qM 72 4 [qy,qy,wm,.nils] 2 [wq 0 4 69,wq 4 4 71],wv 73 [qy,wm,.nils,.nils,.nils] [xk 0 4,wF 2 72],qM 74 5 [qy,wm,.nils,.nils,.nils] 1 [wq 0 5 73],qf 4 74]) (xF (xN (wV 76) (wI 77 76 8) 75 77) 75 (qH [wg 78,xi 79 cD 78,qM 80 4 [qy,qy,wm,.nils] 1 [wq 0 4 79],wv 81 [qy,qy,wm,.nils] [xk 0 12,wF 3 80],qM 82 4 [qy,qy,wm,.nils] 1 [wq 0 4 81],wv 83 [qy,wm,.nils,.nils,.nils] [xk 0 3,wF 2 82],qM 84 5 [qy,wm,.nils,.nils,.nils] 1 [wq 0 5 83],qf 4 84]) (xF (xN (wV 86) (qC 87 .lss 86 11) 85 87) 85 (xL [wg 88,xS 89 (xA 88 3),qM 90 4 [qy,qy,wm,.nils] 1 [wq 0 4 89],wg 91,xE 92,xo 93 92 1,wX 94 aN 91 93,wv 95 [qy,wm,.nils,.nils,.nils] [xk 0 5,wF 2 90,wF 3 94],qZ 6 [qy,wm,.nils,.nils,.nils],qS 5 6 95] [wg 96,qW 97 96,xl 98 97,qt 99 98,wh 100 (xA 99 2),wI 101 100 0] (ye 101 [wg 102,xE 103,xo 104 103 1,wX 105 aN 102 104,qp 106 4 6,xz 106 105]) (xN (wt 107 5 6) (qM 108 5 [qy,wm,.nils,.nils,.nils] 1 [wq 0 5 107]) 4 108)) (qe [wV 110,wI 111 110 11,qf 112 111,xa 113 112 0,qK 114 112 (qz 113),xm 115 112 0 114,wQ 116 112 115,qK 117 112 (xQ (xA 116 3)),xu 118 112 .eql 117 qQ,ya 119 112 118,qf 109 119] (wz 109 [wg 120,xS 121 (xA 120 2),qM 122 4 [qy,qy,wm,.nils] 1 [wq 0 4 121],wv 123 [qy,wm,.nils,.nils,.nils] [xk 0 7,wF 2 122],qM 124 5 [qy,wm,.nils,.nils,.nils] 1 [wq 0 5 123],qf 4 124])))))))) (qH [wg 125,xE 126,wX 127 ec 125 126,qf 4 127])))⟩
theorem nj:aq Tryz.prog dU=some ii:=by kernel_rfl
def gk:FK:=⟨40,[xC],qU (wD 4 xI) [wg 8,qW 9 8,xq 10 9,qt 11 10,qf 5 11] (qe (xy (qM 12 5 [qy,wm,.nils,.nils,.nils] 0 []) 6 12) (qD [wg 13,qW 14 13,xl 15 14,qt 16 15,yj 17 4 [xk 0 2,xk 1 3,(2,1,wJ),xk 3 4],yl 18 16 17,qf 7 18] (xO 0 [yb 19,qC 20 .gtr 19 0,qf 21 20,xa 22 21 0,qK 23 21 (qz 22),xm 24 21 4 23,wQ 25 21 24,xu 26 21 .gtr 25 qQ,ya 27 21 26] 27 0 1 (.reg [xp 30,wg 31,xE 32,wX 33 dU 31 32,wT 34 5 96 30 33,qf 6 34]) (yb 28) (xo 29 28 1) 7 29) (xT [wg 35,wV 36,qW 37 35,xq 38 37,xz 38 36] (xy (xp 39) 4 39))))⟩
theorem mo:aq Tryz.prog aN=some gk:=by kernel_rfl
def fw:AK:=qU [yq 6 wm .nils] [wg 8,qM 9 1 [wm] 3 [(0,1,yr [97]),(1,1,yr [98]),(2,1,yr [99])],qf 10 2,qb 11 (.slS 1 (.t 9) none (some (.t 10))),qW 12 8,xq 13 12,xz 13 11] (qe [wg 14,qf 15 2,xo 16 15 1,qW 17 14,qp 18 3 17,xz 18 16] (.cut (.reg [xE 19,qM 20 1 [wm] 0 [],wg 21,qW 22 21,xq 23 22,qt 24 23,wT 25 1 16 20 24,wv 26 (yp wm .nils) [xX 19,wF 1 25],yq 7 wm .nils,qS 3 7 26]) (xL [wg 27,qn 28 aN (xA 27 3),xq 29 7,xz 29 28] [wg 30,qW 31 30,qp 32 4 31,qt 33 32,qC 34 .gtr 33 0,qf 35 34,xa 36 35 0,qK 37 35 (qz 36),xm 38 35 0 37,wQ 39 35 38,qK 40 35 (xQ (xA 39 4)),xu 41 35 .gtr 40 qQ,ya 42 35 41] (wb 42 (qe [wg 43,wg 44,qW 45 44,qp 46 4 45,qt 47 46,xo 48 47 1,qW 49 43,qp 50 4 49,xz 50 48] (.reg [xq 51 7,wg 53,qt 52 51,xS 54 (xA 53 2),qP 51 52,x9 55 4 [qy,qy,wm,.nils] 1 [wq 0 4 54],wv 56 [qy,wm,.nils,.nils,.nils] [xk 0 7,wF 2 55],x9 57 5 [qy,wm,.nils,.nils,.nils] 1 [wq 0 5 56],wT 58 5 96 52 57,xq 59 7,xz 59 58]))) [wt 60 3 7,qS 3 6 60])))
def fu:FK:=⟨61,[xB 6 3],(AK.whole fw)⟩
theorem pI:aq Tryz.prog dm=some fu:=by kernel_rfl
def kV:FK:=⟨18,[xC],xL (wZ 4) (wZ 5) (xP 0 [wV 6,wg 7,qb 8 (.len true (.t 7)),wL 9 6 8] 9 0 1 (qe [wg 12,wV 13,qb 14 (.idxStr (.t 12) (.t 13)),xE 15,wo 16 .eql 14 15] (wz 16 (xy (wV 17) 4 17))) (wV 10) 11 10 1 5 11) (wD 4 yk)⟩
theorem sZ:aq Tryz.prog gf=some kV:=by kernel_rfl
def kO:FK:=⟨28,[xR],qe (wZ 2) (wd 0 (xF [wg 4,qx 5 .geq 4 (.c (qd .u8 97)),wV 6,xa 7 6 0,xu 8 6 .leq 7 (.c (qd .u8 122)),ya 9 6 8,qf 3 9] 3 (qH (wD 2 wJ)) (xF [wg 11,qx 12 .geq 11 (.c (qd .u8 48)),qf 13 12,xa 14 13 0,xu 15 13 .leq 14 (.c (qd .u8 57)),ya 16 13 15,qf 10 16] 10 (qH (wD 2 (qi 2))) (xF [wg 18,qn 19 gf [yr [40,41,123,125,59,44,43,45,42,47,37,60,61,38,33,64],.t 18],qC 20 .geq 19 0,qf 17 20] 17 (qH (wD 2 (qi 3))) (qe [wg 22,qx 23 .eql 22 (.c (qd .u8 32)),qf 24 23,wU 25 24 0,xV 26 24 .eql 25 (.c (qd .u8 10)),xU 27 24 26,qf 21 27] (wP 21 2 (qi 4)))))) (qH (wZ 2)))⟩
theorem rG:aq Tryz.prog gy=some kO:=by kernel_rfl
def nE:FK:=⟨21,[xC],xL (wD 4 qX) (wZ 5) (xP 0 [wV 6,wg 7,qb 8 (.len true (.t 7)),wL 9 6 8] 9 0 1 (qe [wg 12,wV 13,qb 14 (.idxStr (.t 12) (.t 13)),xi 15 gy 14,xE 16,wo 17 .neq 15 16] (ym 17 4)) (wV 10) 11 10 1 5 11) [wg 18,qb 19 (.len true (.t 18)),qC 20 .gtr 19 0,qf 4 20]⟩
theorem vN:aq Tryz.prog jz=some nE:=by kernel_rfl
def jR:FK:=⟨2,[.t 0],xT (wD 0 xI) (xy (qM 1 1 [wm] 9 [(0,1,yr [102,110]),(1,1,yr [108,101,116]),(2,1,yr [115,97,121]),(3,1,yr [112,117,116]),(4,1,yr [105,102]),(5,1,yr [101,108,115,101]),(6,1,yr [108,111,111,112]),(7,1,yr [98,97,99,107]),(8,1,yr [100,111])]) 0 1)⟩
theorem pK:aq Tryz.prog dk=some jR:=by kernel_rfl
def nD:FK:=⟨18,[xR],qU (wD 2 qX) [qn 5 dk [],wV 3] (wK (wZ 4) (xP 0 [xx 6,yc 7,wi 8 7,wL 9 6 8] 9 0 1 (qe [yc 12,xx 13,wn 14 1 12 13,qt 15 14,wg 16,qb 17 (.bins .eql (.t 15) (.t 16))] (wP 17 2 wH)) (xx 10) 11 10 1 4 11) (wD 2 qX))⟩
theorem uR:aq Tryz.prog jv=some nD:=by kernel_rfl
def lR:FK:=⟨15,[xR],xT (wD 2 qX) [wg 3,qn 4 jz (wM 3 wJ),xx 5,xa 6 5 0,qK 7 5 (.len true (.t 6)),xu 8 5 .leq 7 (qi 4),ya 9 5 8,qf 10 9,xa 11 10 0,qK 12 10 (.call jv (xh 11)),qK 13 10 (wB 12),ya 14 10 13,qf 2 14]⟩
theorem tX:aq Tryz.prog bF=some lR:=by kernel_rfl
def iF:FK:=⟨5,[xR],xL (wZ 2) [wg 3,wI 4 3 4] (wP 4 2 (qi 2)) (wD 2 wJ)⟩
theorem tE:aq Tryz.prog eJ=some iF:=by kernel_rfl
def bU:FK:=⟨13,[xR,.t 3],xL [yn 2,yn 3] [wg 4] (.blk 0 (qD [wI 6 4 1,xp 5] (qu 5 .skip (.reg (xW 7 4 2 5 7))) (qu 5 (qH [yn 2,yn 3]) (qD (xW 9 4 11 8 9) (qu 8 .skip (.reg (xW 10 4 12 8 10))) (qu 8 (qH [qc 2 wJ,qc 3 wJ]) (qe (xW 12 4 13 11 12) (wz 11 [yn 2,qc 3 (qi 3)]))))))) [qc 2 (qi 2),qc 3 (qi 2)]⟩
theorem tL:aq Tryz.prog eM=some bU:=by kernel_rfl
def eR:FK:=⟨86,[xC],qU [wO 2 4 0,qc 4 qX] [xl 10 2,qt 11 10,xi 12 eM 11,qf 9 12,qb 13 (.ext 0 (.t 9)),qb 14 (.ext 1 (.t 9)),qf 5 13,qf 6 14] (qD [xE 15,qC 16 .lss 15 1,qf 17 16,xt 18 17 0 2,xf 19 17 18,qJ 20 17 (xd [.t 19,wJ,qi 13]),qJ 21 17 (wB 20),xU 22 17 21,qf 23 22,xt 24 23 3 2,xf 25 23 24,qJ 26 23 (qY 25),wU 27 23 5,wU 28 23 6,qJ 29 23 (xd [.t 26,.t 27,.t 28]),qJ 30 23 (wB 29),xU 31 23 30] (ym 31 4) (qe [xl 32 2,qt 33 32,wI 34 33 2,qf 35 34,xt 36 35 0 2,xf 37 35 36,xV 38 35 .eql 37 (qi 13),xU 39 35 38,qf 7 39] (qD [yb 40,xq 41 2,qt 42 41,xi 43 bF 42,qb 44 (.beq true (.t 40) (.t 43)),qf 45 44,wU 46 45 7,qJ 47 45 (wB 46),wU 48 45 47,xm 49 48 2 2,wQ 50 48 49,qK 51 48 (.bins .neq (.t 50) (.c wm)),qJ 52 45 (qN 48 (.t 51) qX),xU 53 45 52,qf 54 53,xt 55 54 1 2,xf 56 54 55,qJ 57 54 (xd [.t 56,qQ,qi 255]),qJ 58 54 (wB 57),xU 59 54 58,qf 60 59,xt 61 60 0 2,xf 62 60 61,xV 63 60 .neq 62 wJ,wU 64 60 63,xm 65 64 1 2,wQ 66 64 65,xu 67 64 .neq 66 qQ,qJ 68 60 (qN 64 (.t 67) qX),xU 69 60 68] (ym 69 4) (wK (wZ 8) (xP 0 [qf 70 8,qp 71 3 2,qt 72 71,wi 73 72,wL 74 70 73] 74 0 1 (qe [qp 77 3 2,qt 78 77,qf 79 8,wn 80 4 78 79,wt 81 4 80,xE 82,xo 83 82 1,wX 84 de 81 83,xZ 85 84] (ym 85 4)) (qf 75 8) 76 75 1 8 76) (wD 4 wH)))))⟩
theorem lJ:aq Tryz.prog de=some eR:=by kernel_rfl
def jW:FK:=⟨21,[xR],qU [wO 1 4 0,yn 2] (wD 3 wJ) (wK (wZ 4) (xP 0 [xx 5,qp 6 3 1,qt 7 6,wi 8 7,wL 9 5 8] 9 0 1 (.reg [yc 12,qp 13 3 1,qt 14 13,xx 15,wn 16 4 14 15,wt 17 4 16,xi 18 dW 17,wo 19 .add 12 18,qf 3 19]) (xx 10) 11 10 1 4 11) (xy (yc 20) 2 20))⟩
theorem tn:aq Tryz.prog dW=some jW:=by kernel_rfl
def iZ:FK:=⟨10,[xR],xT [wO 1 4 0,qc 2 qX] [wt 3 4 1,qn 4 de (xA 3 6),xx 5,qK 6 5 (qT 4 1),qK 7 5 (.call dW (xh 6)),xu 8 5 .leq 7 (qi 30),ya 9 5 8,qf 2 9]⟩
theorem oy:aq Tryz.prog cU=some iZ:=by kernel_rfl
def eV:FK:=⟨108,[xC],qe [wO 2 5 0,qc 4 qX] (qD [xE 7,qC 8 .lss 7 1,qf 9 8,xt 10 9 0 2,xf 11 9 10,qJ 12 9 (xd [.t 11,wJ,qi 8]),qJ 13 9 (wB 12),xU 14 9 13,qf 15 14,xt 16 15 2 2,xt 19 15 0 2,xf 17 15 16,qJ 18 15 (qY 17),xf 20 15 19,qJ 21 15 (.qcall eJ (xh 20)),xV 22 15 .neq 18 (.t 21),xU 23 15 22] (ym 23 4) (qe [xl 24 2,qt 25 24,wI 26 25 1,qf 27 26,xt 28 27 0 2,xf 29 27 28,xV 30 27 .eql 29 (qi 2),xU 31 27 30,qf 5 31] (qD [wV 32,xD 33 2,qt 34 33,xi 35 bF 34,qb 36 (.beq true (.t 32) (.t 35)),qf 37 36,wU 38 37 5,qJ 39 37 (wB 38),wU 40 37 39,xm 41 40 1 2,wQ 42 40 41,qK 43 40 (.bins .neq (.t 42) (.c wm)),qJ 44 37 (qN 40 (.t 43) qX),xU 45 37 44] (ym 45 4) (qD (wZ 6) (xP 0 [xp 46,xq 47 2,qt 48 47,wi 49 48,wL 50 46 49] 50 0 1 (qe [xq 53 2,qt 54 53,xp 55,wn 56 4 54 55,wt 57 4 56,xi 58 cU 57,xZ 59 58] (ym 59 4)) (xp 51) 52 51 1 6 52) (qD [xl 60 2,qt 61 60,wI 62 61 8,qf 63 62,xm 64 63 2 2,wQ 65 63 64,qK 66 63 (qF 4 65 qQ),xm 67 63 0 66,wQ 68 63 67,xu 69 63 .neq 68 (qi 13),ya 70 63 69] (ym 70 4) (wK [qp 71 4 2,qt 72 71,wi 73 72,qC 74 .gtr 73 0,qf 75 74,xm 76 75 0 2,wQ 77 75 76,xu 78 75 .neq 77 (qi 5),ya 79 75 78,qf 80 79,xt 81 80 3 2,xf 82 80 81,qJ 83 80 (qY 82),xV 84 80 .gtr 83 qQ,wU 85 80 84,xm 86 85 0 2,wQ 87 85 86,xu 88 85 .neq 87 (qi 5),qJ 89 80 (qN 85 (.t 88) qX),wU 90 80 89,xm 91 90 0 2,wQ 92 90 91,xu 93 90 .neq 92 (qi 6),qJ 94 80 (qN 90 (.t 93) qX),xU 95 80 94] (ym 95 4) [qp 96 3 2,qt 97 96,xE 98,xo 99 98 1,wX 100 bt 97 99,qf 101 100,xm 102 101 4 2,wQ 103 101 102,xa 104 101 1,xu 105 101 .sub 104 wJ,qK 106 101 (.call bt (wN 103 105)),ya 107 101 106,qf 4 107]))))))⟩
theorem ma:aq Tryz.prog eT=some eV:=by kernel_rfl
def kf:FK:=⟨19,[xC],xL (wD 4 qX) (wZ 5) (xP 0 [wV 6,wg 7,wi 8 7,wL 9 6 8] 9 0 1 (qe [wg 12,wV 13,wn 14 5 12 13,wt 15 5 14,xE 16,wX 17 eT 15 16,xZ 18 17] (ym 18 4)) (wV 10) 11 10 1 5 11) (wD 4 wH)⟩
theorem tt:aq Tryz.prog bt=some kf:=by kernel_rfl
def pt:FK:=⟨32,[xR],xL [wO 1 3 0,qc 2 qX] (wZ 3) (xP 0 [yc 4,xD 5 1,qt 6 5,wi 7 6,wL 8 4 7] 8 0 1 (qe [xD 11 1,qt 12 11,yc 13,wn 14 1 12 13,qt 15 14,xi 16 bF 15,xZ 17 16] (ym 17 2)) (yc 9) 10 9 1 3 10) [xl 18 1,qt 19 18,xi 20 bF 19,qf 21 20,xm 22 21 1 1,wQ 23 21 22,qK 24 21 (qY 23),xu 25 21 .leq 24 (qi 3),ya 26 21 25,qf 27 26,xm 28 27 2 1,wQ 29 27 28,qK 30 27 (.call bt (xA 29 4)),ya 31 27 30,qf 2 31]⟩
theorem yX:aq Tryz.prog kD=some pt:=by kernel_rfl
def gJ:FK:=⟨29,[xR],qU (wZ 2) [wg 5,wi 6 5,xp 3] (wK (wZ 4) (xP 0 [xx 7,wg 8,wi 9 8,wL 10 7 9] 10 0 1 (.reg [yc 13,wg 14,xx 15,wn 16 5 14 15,qp 17 3 16,wg 21,xx 22,wn 23 5 21 22,qp 24 4 23,qt 18 17,qt 25 24,xi 19 cI 18,qP 24 25,wo 20 .add 13 19,xi 26 cI 25,wo 27 .add 20 26,qf 3 27]) (xx 11) 12 11 1 4 12) (xy (yc 28) 2 28))⟩
theorem kR:aq Tryz.prog cI=some gJ:=by kernel_rfl
def nk:FK:=⟨22,[xR],qU [wO 1 1 0,yn 2] (wZ 3) (wK (wZ 4) (xP 0 [xx 5,xl 6 1,qt 7 6,wi 8 7,wL 9 5 8] 9 0 1 (.reg [yc 12,xl 13 1,qt 14 13,xx 15,wn 16 3 14 15,xq 17 16,qt 18 17,xi 19 cI 18,wo 20 .add 12 19,qf 3 20]) (xx 10) 11 10 1 4 11) (xy (yc 21) 2 21))⟩
theorem uL:aq Tryz.prog jD=some nk:=by kernel_rfl
def fx:FK:=⟨26,[xR],qe [wO 1 1 0,qc 2 qX] (qD [xl 4 1,qt 5 4,wi 6 5,xY 7 [.t 6,wJ,qi 4],xZ 8 7] (ym 8 2) (wK (wZ 3) (xP 0 [yc 9,xl 10 1,qt 11 10,wi 12 11,wL 13 9 12] 13 0 1 (qe [xl 16 1,qt 17 16,yc 18,wn 19 3 17 18,wt 20 3 19,xi 21 kD 20,xZ 22 21] (ym 22 2)) (yc 14) 15 14 1 3 15) [wt 23 1 1,xi 24 jD 23,qC 25 .leq 24 40,qf 2 25]))⟩
theorem lG:aq Tryz.prog db=some fx:=by kernel_rfl
def lQ:FK:=⟨69,[xB 2 1],qU [qZ 2 xJ] [wg 8,wg 9,yj 10 4 [xk 0 14,xk 1 20,xk 2 8,xk 3 26],yl 11 9 10,wv 12 [.nilp,.nils,.nils,qy,qy] [xX 8,wF 4 11],wO 13 5 12,qf 3 13] (qD [wg 14,yj 15 4 [(0,1,qQ),(1,1,wJ),(2,1,wJ),xk 3 2],yl 16 14 15,qf 4 16] (xO 0 [xx 17,qC 18 .gtr 17 0] 18 0 1 (qe [qc 5 (.c .any),yc 21,x9 22 1 [wm] 3 [(0,1,yr [102]),(1,1,yr [103]),(2,1,yr [104])],yc 23,qW 24 23,xD 25 24,wg 30,qt 26 25,wi 27 26,wn 28 1 22 27,qt 29 28,wh 31 (xA 30 3),qP 25 26,qP 28 29,qn 32 dm [.t 21,.t 29,.t 31],yq 5 wm .nils,qS 3 5 32] (.reg [yc 33,yc 34,qW 35 34,xD 36 35,qt 37 36,wt 38 3 5,x9 39 3 (yp wm .nils) 1 [wq 0 3 38],wT 40 3 64 37 39,qW 41 33,xD 42 41,xz 42 40])) (xx 19) (xo 20 19 1) 4 20) (qU [yc 43,wg 44,yj 45 4 [(0,1,qQ),(1,1,wJ),xk 2 2,(3,1,wJ)],yl 46 44 45,qn 47 dm [.t 43,yr [109],.t 46],yq 6 wm .nils,qS 3 6 47] [qc 7 (.c .any),yc 49,qW 50 49,xD 51 50,qt 52 51,wt 54 3 6,x9 55 3 (yp wm .nils) 1 [wq 0 3 54],qM 48 3 (yp wm .nils) 0 [],qP 51 52,qA (some 3) 6 54,wT 53 3 64 48 52,qA (some 3) 6 54,wT 56 3 64 53 55,wv 57 xJ [xX 56],qZ 7 xJ,xz 7 57] (wK [wt 58 1 7,xi 59 db 58,xZ 60 59] (wz 60 [wv 61 [qy,qy,wm,.nils] [(0,1,wJ),(1,1,wJ)],qM 62 4 [qy,qy,wm,.nils] 1 [wq 0 4 61],wv 63 [qy,wm,.nils,.nils,.nils] [xk 0 3,wF 2 62],qM 64 5 [qy,wm,.nils,.nils,.nils] 1 [wq 0 5 63],wv 65 (yp wm .nils) [(0,1,yr [109]),wF 2 64],qM 66 3 (yp wm .nils) 1 [wq 0 3 65],wv 67 xJ [xX 66],xz 2 67]) [wt 68 1 7,xz 2 68])))⟩
theorem tK:aq Tryz.prog eQ=some lQ:=by kernel_rfl
def kK:FK:=⟨4,[xR],xL (wZ 2) [wg 3] (wP 3 2 wJ) (wZ 2)⟩
theorem rZ:aq Tryz.prog dK=some kK:=by kernel_rfl
def iO:FK:=⟨35,[xR],qU (wZ 2) (wZ 3) (wK (wZ 4) (xP 0 [xx 5,wg 6,wi 7 6,wL 8 5 7] 8 0 1 (.reg [yc 11,wg 12,xx 13,wn 14 5 12 13,xl 15 14,wg 20,xx 21,wn 22 5 20 21,qp 23 3 22,wg 27,xx 28,wn 29 5 27 28,qp 30 4 29,qt 16 15,wI 17 16 1,qt 24 23,qt 31 30,xi 18 dK 17,qP 23 24,qP 30 31,wo 19 .add 11 18,xi 25 dg 24,qP 30 31,wo 26 .add 19 25,xi 32 dg 31,wo 33 .add 26 32,qf 3 33]) (xx 9) 10 9 1 4 10) (xy (yc 34) 2 34))⟩
theorem lX:aq Tryz.prog dg=some iO:=by kernel_rfl
def dD:FK:=⟨25,[xR],qU (wZ 2) [wg 3,wg 4,qW 5 4,xD 6 5,xq 7 6,qt 8 7,qM 9 2 [qy,.nils] 0 [],qM 10 4 [qy,qy,.nils,qy] 0 [],yj 11 0 [],wv 12 [.nils,.nils,qy,qy,.nils] [xX 9,wF 1 10,wF 4 11],qM 13 5 [.nils,.nils,qy,qy,.nils] 1 [wq 0 5 12],wT 14 5 88 8 13,qW 15 3,xD 16 15,xq 17 16,xz 17 14] (qH [wg 18,qW 19 18,xD 20 19,xq 21 20,qt 22 21,wi 23 22,xo 24 23 1,qf 2 24])⟩
theorem fZ:aq Tryz.prog bL=some dD:=by kernel_rfl
def ie:FK:=⟨37,[],qU [wg 11,qW 12 11,xD 13 12,xq 14 13,wg 16,qW 17 16,qp 18 4 17,qt 15 14,qt 19 18,wn 20 5 15 19,qf 10 20] [qf 21 10,xE 22,qW 23 21,xq 24 23,xz 24 22] (qU [qf 25 10,qf 26 2,qW 27 25,qp 28 3 27,xz 28 26] [qf 29 10,yc 30,qW 31 29,qp 32 4 31,xz 32 30] (.reg [wg 33,xx 34,qW 35 33,qp 36 4 35,xz 36 34]))⟩
theorem mZ:aq Tryz.prog bi=some ie:=by kernel_rfl
def fY:FK:=⟨19,[xR],qU (wZ 2) [wg 3,wg 4,qW 5 4,xD 6 5,xD 7 6,qt 8 7,wG 9 8 1,qW 10 3,xD 11 10,xD 12 11,xz 12 9] (qH [wg 13,qW 14 13,xD 15 14,xD 16 15,qt 17 16,xo 18 17 1,qf 2 18])⟩
theorem mm:aq Tryz.prog bp=some fY:=by kernel_rfl
def eu:FK:=⟨37,[.t 10],qU (wZ 10) [wg 12,qW 13 12,xD 14 13,xq 15 14,wg 17,qW 18 17,qp 19 4 18,qt 16 15,qt 20 19,wn 21 5 16 20,qf 11 21] (xT [qf 22 11,qf 23 11,qW 24 23,xD 25 24,qt 26 25,xE 27,qf 28 2,xx 29,yc 30,wv 31 [qy,qy,.nils,qy] [xX 27,wF 1 28,wF 2 29,wF 3 30],qM 32 4 [qy,qy,.nils,qy] 1 [wq 0 4 31],wT 33 4 48 26 32,qW 34 22,xD 35 34,xz 35 33] (xy (qf 36 2) 10 36))⟩
theorem oA:aq Tryz.prog bH=some eu:=by kernel_rfl
def ey:FK:=⟨34,[xC],xL (wZ 4) [wg 6,qW 7 6,qp 8 5 7,qt 9 8,wi 10 9,xo 11 10 1,qf 5 11] (xO 0 [wV 12,qC 13 .geq 12 0] 13 0 1 (qe [wg 16,qW 17 16,qp 18 5 17,qt 19 18,wV 20,wn 21 3 19 20,xl 22 21,qt 23 22,xE 24,qb 25 (.bins .eql (.t 23) (.t 24))] (wz 25 [wg 26,qW 27 26,qp 28 5 27,qt 29 28,wV 30,wn 31 3 29 30,xD 32 31,qt 33 32,qf 4 33])) (wV 14) (xo 15 14 1) 5 15) (wD 4 yk)⟩
theorem oM:aq Tryz.prog cS=some ey:=by kernel_rfl
def iW:FK:=⟨56,[xC],qU [wO 3 4 1,yn 4] [wg 11,qp 12 3 3,qt 13 12,qb 14 (qF 4 13 qQ),wt 15 4 14,wX 16 aW 11 15,qf 5 16] (qU [wg 17,wg 18,xM 19 18,yj 20 0 [],xb 21 [.t 17,wJ,.t 19,qQ,.t 20],qf 6 21] (xN (wg 22) (xr 23 22) 7 23) (qU (xN (wg 24) (xr 25 24) 8 25) [wg 26,wV 27,yb 28,qf 29 8,yj 30 2 [xX 28,wF 1 29],yb 31,xv 32 [.t 26,qi 2,.t 27,.t 30,.t 31]] (qU [wg 33,qp 34 3 3,qt 35 34,qb 36 (qF 4 35 wJ),wt 37 4 36,wX 38 aW 33 37,qf 9 38] [wg 39,wg 40,xM 41 40,qf 42 9,yj 43 1 [xX 42],xb 44 [.t 39,qi 10,.t 41,qQ,.t 43],qf 10 44] (qU [wg 45,xp 46,qf 47 10,yj 48 1 [xX 47],xb 49 [.t 45,qi 10,.t 46,qQ,.t 48]] [wg 50,qf 51 8,yj 52 1 [xX 51],qf 53 8,xv 54 [.t 50,wJ,qQ,.t 52,.t 53]] (qH (xy (xp 55) 4 55))))))⟩
theorem oB:aq Tryz.prog eC=some iW:=by kernel_rfl
def pD:FK:=⟨22,[xC],xL [wO 2 1 0,yn 4] (wZ 5) (xP 0 [wV 6,xl 7 2,qt 8 7,wi 9 8,wL 10 6 9] 10 0 1 (qe [xl 13 2,qt 14 13,wV 15,wn 16 3 14 15,xl 17 16,qt 18 17,xE 19,qb 20 (.bins .eql (.t 18) (.t 19))] (wz 20 (xy (wV 21) 4 21))) (wV 11) 12 11 1 5 12) (wD 4 yk)⟩
theorem yK:aq Tryz.prog kY=some pD:=by kernel_rfl
def bR:FK:=⟨84,[xC],qe [wO 3 4 1,yn 4] (qD [xl 7 3,qt 8 7] (.blk 0 (xF (xW 10 8 1 9 10) 9 (qH [wg 11,wg 12,xD 14 3,x9 16 1 xG 0 [],qt 15 14,xM 13 12,qP 14 15,xb 17 [.t 11,wJ,.t 13,.t 15,.t 16],qf 4 17]) (xF (xW 19 8 2 18 19) 18 (qH [wg 20,xq 21 3,qt 22 21,wX 23 cS 20 22,qf 4 23]) (qe (xW 25 8 10 24 25) (wz 24 [wg 26,wt 27 4 3,wX 28 eC 26 27,qf 4 28]))))) (qe (xy (yj 29 0 []) 5 29) (qD (wZ 6) (xP 1 [xp 30,qp 31 3 3,qt 32 31,wi 33 32,wL 34 30 33] 34 1 2 (.reg [wV 37,wg 38,qp 39 3 3,qt 40 39,xp 41,wn 42 4 40 41,wt 43 4 42,wX 44 aW 38 43,yj 45 1 [xX 44],wT 46 1 8 37 45,qf 5 46]) (xp 35) 36 35 1 6 36) (wK [xl 47 3,qt 48 47] (.blk 3 (xF (xW 50 48 11 49 50) 49 (qH [wg 51,wg 52,xM 53 52,wV 54,xb 55 [.t 51,qi 10,.t 53,qQ,.t 54],qf 4 55]) (xF (xW 57 48 12 56 57) 56 (qH [wg 58,wg 59,xM 60 59,wV 61,xb 62 [.t 58,qi 11,.t 60,qQ,.t 61],qf 4 62]) (qe (xW 64 48 13 63 64) (wz 63 [wg 65,wg 66,wg 68,qW 69 68,xl 70 69,xq 72 3,wV 75,wt 71 1 70,qt 73 72,xM 67 66,qA (some 1) 70 71,qP 72 73,wX 74 kY 71 73,xb 76 [.t 65,qi 14,.t 67,.t 74,.t 75],qf 4 76]))))) [wg 77,xl 78 3,wg 80,wV 82,qt 79 78,xM 81 80,qP 78 79,xb 83 [.t 77,.t 79,.t 81,qQ,.t 82],qf 4 83]))))⟩
theorem nW:aq Tryz.prog aW=some bR:=by kernel_rfl
def iq:FK:=⟨41,[],qU [wO 3 5 1] (xN (wg 8) (xr 9 8) 4 9) (qU (xN (wg 10) (xr 11 10) 5 11) (xN (wg 12) (xr 13 12) 6 13) (qU [wg 14,xx 15,yj 16 1 [xX 15],xx 17,xv 18 [.t 14,wJ,qQ,.t 16,.t 17]] [wg 19,xq 20 3,qt 21 20,qb 22 (qF 4 21 qQ),wt 23 4 22,wX 24 aW 19 23,qf 7 24] (qU [wg 25,yb 26,wV 27,xp 28,yj 29 2 [xX 27,wF 1 28],wV 30,xv 31 [.t 25,qi 2,.t 26,.t 29,.t 30]] [wg 32,qp 33 3 3,qt 34 33,wX 35 aZ 32 34] (.reg [wg 36,xx 37,yj 38 1 [xX 37],xp 39,xv 40 [.t 36,wJ,qQ,.t 38,.t 39]]))))⟩
theorem nY:aq Tryz.prog dR=some iq:=by kernel_rfl
def ee:FK:=⟨132,[],qe [wO 3 5 1] (qD [xl 9 3,qt 10 9,wI 11 10 6] (wz 11 [wg 12,wt 13 5 3,wX 14 dR 12 13]) (qe (xy (yj 15 0 []) 4 15) (qD (wZ 5) (xP 0 [wV 16,xq 17 3,qt 18 17,wi 19 18,wL 20 16 19] 20 0 1 (.reg [xx 23,wg 24,xq 25 3,qt 26 25,wV 27,wn 28 4 26 27,wt 29 4 28,wX 30 aW 24 29,yj 31 1 [xX 30],wT 32 1 8 23 31,qf 4 32]) (wV 21) 22 21 1 5 22) (qe [xl 33 3,qt 34 33] (.blk 2 (xF (xW 36 34 1 35 36) 35 (qU [wg 37,wg 38,qW 39 38,qp 40 6 39,qt 41 40,xx 42,xb 43 [.t 37,qi 2,.t 41,qQ,.t 42]] [wg 44,wg 45,qW 46 45,qp 47 5 46,xD 49 3,wg 51,qW 52 51,qp 53 6 52,qt 48 47,qt 50 49,qt 54 53,wv 55 [wm,qy,qy] [xX 50,wF 1 54,(2,1,qQ)],x9 56 3 [wm,qy,qy] 1 [wq 0 3 55],wT 57 3 32 48 56,qW 58 44,qp 59 5 58,xz 59 57] (.reg [wg 60,wg 61,qW 62 61,qp 63 6 62,qt 64 63,wG 65 64 1,qW 66 60,qp 67 6 66,xz 67 65])) (xF (xW 69 34 2 68 69) 68 (.reg [wg 70,wg 71,xD 72 3,qt 73 72,wX 74 cS 71 73,xx 75,xb 76 [.t 70,qi 2,.t 74,qQ,.t 75]]) (xF (xW 78 34 3 77 78) 77 (.reg [wg 79,xx 80,xb 81 [.t 79,qi 13,yk,qQ,.t 80]]) (xF (xW 83 34 4 82 83) 82 (.reg [wg 84,xx 85,xb 86 [.t 84,qi 12,yk,qQ,.t 85]]) (xF (xW 88 34 7 87 88) 87 (.reg [wg 89,xx 90,qb 91 (qF 1 90 qQ),x9 93 1 xG 0 [],wg 94,qt 92 91,xr 95 94,qP 91 92,xv 96 [.t 89,qi 3,.t 92,.t 93,.t 95]]) (qe (xW 98 34 5 97 98) (wb 97 (qU (xN (wg 99) (xr 100 99) 6 100) (xN (wg 101) (xr 102 101) 7 102) (qU (xN (wg 103) (xr 104 103) 8 104) [wg 105,xx 106,qb 107 (qF 1 106 qQ),qt 108 107,xp 109,yb 110,yj 111 2 [xX 109,wF 1 110],xp 112,xv 113 [.t 105,qi 2,.t 108,.t 111,.t 112]] (qU [wg 114,qp 115 3 3,qt 116 115,wX 117 aZ 114 116] [wg 118,qf 119 8,yj 120 1 [xX 119],yb 121,xv 122 [.t 118,wJ,qQ,.t 120,.t 121]] (qe [wg 123,qp 124 4 3,qt 125 124,wX 126 aZ 123 125] (.reg [wg 127,qf 128 8,yj 129 1 [xX 128],qf 130 8,xv 131 [.t 127,wJ,qQ,.t 129,.t 130]])))))))))))))))))⟩
theorem nU:aq Tryz.prog dV=some ee:=by kernel_rfl
def du:FK:=⟨32,[],qe [wg 6,qW 7 6,qp 8 5 7,qt 9 8,wi 10 9,qf 4 10] (qD (wZ 5) (xP 0 [wV 11,xE 12,wi 13 12,wL 14 11 13] 14 0 1 (.reg [wg 17,xE 18,wV 19,wn 20 5 18 19,wt 21 5 20,wX 22 dV 17 21]) (wV 15) 16 15 1 5 16) (.reg [wg 23,wg 24,qW 25 24,qp 26 5 25,qt 27 26,xx 28,qb 29 (.slS 3 (.t 27) none (some (.t 28))),qW 30 23,qp 31 5 30,xz 31 29]))⟩
theorem mv:aq Tryz.prog aZ=some du:=by kernel_rfl
def po:FK:=⟨80,[xB 4 3],qU [wO 2 1 0,yq 4 qy qy] [xl 9 2,qt 10 9,xE 11,wn 12 3 10 11,wt 13 3 12,yq 5 wm .nils,qS 3 5 13] (qU [wt 14 1 2,xD 15 5,qt 16 15,wi 17 16,wv 18 [.nils,qy,qy,.nils,qy,.nils,qy,.nils] [xX 14,wF 6 17],wO 19 8 18,qf 6 19] [xp 20,xD 21 5,qt 22 21,wi 23 22,qW 24 20,xD 25 24,xl 26 25,xz 26 23] (qe [xp 27,xD 28 5,xq 31 5,qt 29 28,wi 30 29,qt 32 31,xi 33 dg 32,qP 28 29,wo 34 .add 30 33,qW 35 27,xD 36 35,xD 37 36,xz 37 34] (qD (wZ 7) (xP 0 [yb 38,xD 39 5,qt 40 39,wi 41 40,wL 42 38 41] 42 0 1 (.reg [xp 45,xp 46,qW 47 46,qp 48 5 47,xD 50 5,yb 52,yb 55,qt 49 48,qt 51 50,wn 53 1 51 52,qt 54 53,wv 56 [wm,qy,qy] [xX 54,wF 1 55,(2,1,qQ)],x9 57 3 [wm,qy,qy] 1 [wq 0 3 56],wT 58 3 32 49 57,qW 59 45,qp 60 5 59,xz 60 58]) (yb 43) 44 43 1 7 44) (qU [xp 61,xr 62 61] [xp 63,xq 64 5,qt 65 64,wX 66 aZ 63 65] (qU [xp 67,xp 68,xM 69 68,yj 70 0 [],xb 71 [.t 67,wJ,.t 69,qQ,.t 70],qf 8 71] [xp 72,qf 73 8,yj 74 0 [],xv 75 [.t 72,qi 3,.t 73,.t 74,qQ]] (qH [xp 76,qW 77 76,xD 78 77,wt 79 3 78,qS 3 4 79]))))))⟩
theorem zO:aq Tryz.prog gY=some po:=by kernel_rfl
def lV:FK:=⟨22,[xB 2 1],qU [wO 1 1 0,qZ 2 xJ] [wv 5 xJ [],qZ 3 xJ,xz 3 5] (wK (wZ 4) (xP 0 [xx 6,xl 7 1,qt 8 7,wi 9 8,wL 10 6 9] 10 0 1 (.reg [xl 13 3,xx 16,qt 14 13,wt 15 1 1,wX 17 gY 15 16,qP 13 14,qM 18 3 (yp qy qy) 1 [wq 0 3 17],qP 13 14,wT 19 3 40 14 18,xl 20 3,xz 20 19]) (xx 11) 12 11 1 4 12) [wt 21 1 3,xz 2 21])⟩
theorem tw:aq Tryz.prog eP=some lV:=by kernel_rfl
def lH:FK:=⟨21,[xC],xL [wO 2 3 0,qc 4 qX] (wZ 5) (xP 0 [wV 6,xE 7,wi 8 7,wL 9 6 8] 9 0 1 (qe [xE 12,wV 13,wn 14 1 12 13,xD 16 2,qt 15 14,qt 17 16,xo 18 17 1,xY 19 [.t 15,qQ,.t 18],xZ 20 19] (ym 20 4)) (wV 10) 11 10 1 5 11) (wD 4 wH)⟩
theorem tI:aq Tryz.prog eN=some lH:=by kernel_rfl
def nh:FK:=⟨88,[.t 6],qU [wO 3 1 0,wO 5 4 2,qc 6 qX] [xl 8 3,qt 9 8,xE 10,wn 11 3 9 10,wt 12 3 11,yq 7 qy qy,qS 3 7 12] (qD [xl 13 5,qt 14 13,xY 15 [.t 14,wJ,qi 14],xZ 16 15,qf 17 16,qJ 18 17 (qT 3 7),xt 19 17 2 5,xf 20 17 19,qJ 21 17 (.call eN (wN 18 20)),qJ 22 17 (wB 21),xU 23 17 22] (ym 23 6) (qD [xl 24 5,xD 27 5,xD 29 7,qt 25 24,qt 28 27,qt 30 29,xo 31 30 1,xi 26 cF 25,qP 27 28,qP 29 30,xY 32 [.t 28,qQ,.t 31],qb 33 (.beq true (.t 26) (.t 32)),qf 34 33,xt 35 34 0 5,xf 36 34 35,qJ 37 34 (.call cF (xh 36)),qJ 38 34 (wB 37),wU 39 34 38,xm 40 39 1 5,wQ 41 39 40,xu 42 39 .neq 41 yk,qJ 43 34 (qN 39 (.t 42) qX),xU 44 34 43] (ym 44 6) (wK [xl 45 5,qt 46 45,wI 47 46 14] (wz 47 [qp 48 3 5,xE 50,xo 51 50 1,qt 49 48,xY 52 [.t 49,qQ,.t 51],qf 53 52,xm 54 53 2 5,xm 57 53 0 3,xm 59 53 3 5,wQ 55 53 54,qK 56 53 (qY 55),wQ 58 53 57,wQ 60 53 59,qK 61 53 (we 3 58 60),xm 62 53 0 61,wQ 63 53 62,xu 64 53 .eql 56 (.t 63),ya 65 53 64,qf 6 65]) [xq 66 5,xl 69 5,qt 67 66,wi 68 67,qt 70 69,xi 71 eU 70,qP 66 67,wo 72 .eql 68 71,qf 73 72,xm 74 73 3 5,wQ 75 73 74,qK 76 73 (xd [.t 75,qQ,qi 255]),ya 77 73 76,qf 78 77,xm 79 78 3 5,wQ 80 78 79,xu 81 78 .eql 80 qQ,xa 82 78 81,xt 83 82 0 5,xf 84 82 83,xV 85 82 .eql 84 wJ,qK 86 78 (qN 82 wH (.t 85)),ya 87 78 86,qf 6 87])))⟩
theorem uP:aq Tryz.prog jE=some nh:=by kernel_rfl
def fN:AK:=qU [wO 3 1 0,qc 6 qX] [xl 14 3,qt 15 14,xE 16,wn 17 3 15 16,wt 18 3 17,yq 7 qy qy,qS 3 7 18] (qU [xq 19 7,qt 20 19,qf 21 2,wn 22 5 20 21,wt 23 5 22,qZ 8 [.nils,.nils,qy,qy,.nils],qS 5 8 23] (wD 9 wJ) (xK [xq 24 8,qt 25 24] (.blk 0 (xF (xW 27 25 1 26 27) 26 (qe [qp 28 3 8,qt 29 28,qC 30 .neq 29 0] (ym 30 6)) (xF (xW 32 25 2 31 32) 31 (.reg (wD 9 (qi 2))) (xF (xW 34 25 3 33 34) 33 (.reg (wZ 9)) (qH (wD 6 qX)))))) (xK [qp 35 4 8,qt 36 35,wi 37 36,qf 38 9,wo 39 .neq 37 38,qf 40 39,xt 41 40 2 8,xf 42 40 41,xV 43 40 .neq 42 wJ,wU 44 40 43,xm 45 44 3 8,wQ 46 44 45,xm 47 44 1 7,wQ 48 44 47,xu 49 44 .sub 48 wJ,qK 50 44 (xd [.t 46,qQ,.t 49]),qK 51 44 (wB 50),qJ 52 40 (qN 44 (.t 51) qX),xU 53 40 52] (ym 53 6) (xK (wZ 10) (xP 1 [qf 54 10,qp 55 4 8,qt 56 55,wi 57 56,wL 58 54 57] 58 1 2 (qe [qp 61 4 8,qf 63 10,xq 66 7,qt 62 61,wn 64 1 62 63,qt 65 64,qt 67 66,wi 68 67,xo 69 68 1,xY 70 [.t 65,wJ,.t 69],xZ 71 70] (ym 71 6)) (qf 59 10) 60 59 1 10 60) (xK (wZ 11) (xP 3 [qf 72 11,xD 73 8,qt 74 73,wi 75 74,wL 76 72 75] 76 3 4 (qe [xE 80,xD 81 8,qf 83 11,wt 79 1 3,qt 82 81,wn 84 4 82 83,wt 85 4 84,qn 86 jE [.t 79,.t 80,.t 85],xZ 87 86] (ym 87 6)) (qf 77 11) 78 77 1 11 78) (qe [wt 88 3 7,qf 89 2,wX 90 cG 88 89,qf 12 90] (xK (wZ 13) (xP 5 [qf 91 13,xl 92 8,qt 93 92,wi 94 93,wL 95 91 94] 95 5 6 (qe [qf 98 2,wI 99 98 0,qf 100 99,xt 101 100 0 8,wU 103 100 13,wU 108 100 12,qJ 109 100 (qY 108),xf 102 100 101,qJ 104 100 (we 2 102 103),xt 105 100 1 104,xf 106 100 105,qJ 107 100 (qY 106),xV 110 100 .neq 107 (.t 109),xU 111 100 110,qf 112 111,xt 114 112 0 8,wU 116 112 13,qJ 113 112 (qT 3 7),xf 115 112 114,qJ 117 112 (we 2 115 116),xt 118 112 1 117,xf 119 112 118,qJ 120 112 (.call eN (wN 113 119)),qJ 121 112 (wB 120),xU 122 112 121,qf 123 122,xt 124 123 0 8,wU 126 123 13,xt 130 123 1 7,xf 125 123 124,qJ 127 123 (we 2 125 126),xt 128 123 0 127,xf 129 123 128,xf 131 123 130,xV 132 123 .sub 131 wJ,qJ 133 123 (xd [.t 129,qQ,.t 132]),qJ 134 123 (wB 133),xU 135 123 134] (ym 135 6)) (qf 96 13) 97 96 1 13 97) (qH (wD 6 wH)))))))))
def gz:FK:=⟨136,[.t 6],(AK.whole fN)⟩
theorem tm:aq Tryz.prog gr=some gz:=by kernel_rfl
def jl:FK:=⟨76,[xR],qe [wO 1 1 0,qc 2 qX] (qD [xl 7 1,qt 8 7,wi 9 8,xY 10 [.t 9,wJ,qi 4],xZ 11 10] (ym 11 2) (xL (wZ 3) (wZ 4) (xP 0 [xx 12,xl 13 1,qt 14 13,wi 15 14,wL 16 12 15] 16 0 1 (qe [xl 19 1,qt 20 19,xx 21,wn 22 3 20 21,wt 23 3 22,yq 5 qy qy,qS 3 5 23] (qD [xl 24 5,qt 25 24,xY 26 [.t 25,qQ,qi 3],xZ 27 26,qf 28 27,xt 29 28 1 5,xf 30 28 29,xt 31 28 0 5,xf 32 28 31,qJ 33 28 (xd [.t 30,.t 32,qi 300]),qJ 34 28 (wB 33),xU 35 28 34,qf 36 35,xt 37 36 2 5,xf 38 36 37,qJ 39 36 (qY 38),qJ 40 36 (xd [.t 39,wJ,qi 160]),qJ 41 36 (wB 40),xU 42 36 41] (ym 42 2) (qe (wZ 6) (xP 2 [xp 43,xq 44 5,qt 45 44,wi 46 45,wL 47 43 46] 47 2 3 (qU [yc 50,xq 51 5,xp 53,xq 59 5,xp 61,qt 52 51,wn 54 5 52 53,xD 55 54,qt 56 55,wi 57 56,wo 58 .add 50 57,qt 60 59,wn 62 5 60 61,xl 63 62,qt 64 63,wi 65 64,wo 66 .add 58 65,qf 3 66] [yc 67,qC 68 .gtr 67 800,qf 69 68,qJ 70 69 (qT 1 1),wU 71 69 4,wU 72 69 6,qJ 73 69 (.call gr [.t 70,.t 71,.t 72]),qJ 74 69 (wB 73),xU 75 69 74] (ym 75 2)) (xp 48) 49 48 1 6 49)))) (xx 17) 18 17 1 4 18) (wD 2 wH)))⟩
theorem oN:aq Tryz.prog eH=some jl:=by kernel_rfl
def kq:FK:=⟨15,[xB 2 1],xL [qZ 2 xJ] [wg 4,wh 5 (xA 4 2),wI 6 5 0] (wb 6 (qU [wg 7,xi 8 eQ 7,xi 9 eP 8,qZ 3 xJ,xz 3 9] [wt 10 1 3,xi 11 eH 10] (wz 11 [wt 12 1 3,xz 2 12]))) [wg 13,xi 14 dd 13,xz 2 14]⟩
theorem rp:aq Tryz.prog fP=some kq:=by kernel_rfl
def jX:FK:=⟨10,[xB 2 1],xL [qZ 2 xJ] [wg 3,wh 4 (xA 3 12),wI 5 4 0] (wz 5 [wg 6,xi 7 iH 6,xz 2 7]) [wg 8,xi 9 fP 8,xz 2 9]⟩
theorem sq:aq Tryz.prog fM=some jX:=by kernel_rfl
def ki:FK:=⟨14,[xB 2 3],qU [yq 2 qy qy] [wg 4,xi 5 fM 4,qZ 3 xJ,xz 3 5] (qH [xl 6 3,qt 7 6,xl 8 3,qt 9 8,wi 10 9,xo 11 10 1,wn 12 3 7 11,wt 13 3 12,qS 3 2 13])⟩
theorem rM:aq Tryz.prog dI=some ki:=by kernel_rfl
def cf:FK:=⟨19,[xC],xL (wZ 4) [wg 6,wi 7 6,yn 8] (wa 0 (qe [wL 9 8 7] (.seq (wy 9 0) (ww 1 (qU (xy (qf 10 8) 5 10) [xE 11,wg 12,wV 13,wn 14 5 12 13,wt 15 5 14,qb 16 (.callv (.t 11) (xh 15))] (wz 16 (xy (wV 17) 4 17))) (xy (wG 18 8 1) 8 18))))) (wD 4 yk)⟩
theorem fh:aq Tryz.prog br=some cf:=by kernel_rfl
def bS:FK:=⟨9,[xC],xT (wD 4 qX) [wg 5,xE 6,wX 7 br 5 6,qC 8 .geq 7 0,qf 4 8]⟩
theorem dM:aq Tryz.prog bk=some bS:=by kernel_rfl
def eg:FK:=⟨19,[xC],xL (wZ 4) [wg 6,wi 7 6,yn 8] (wa 0 (qe [wL 9 8 7] (.seq (wy 9 0) (ww 1 (qU (xy (qf 10 8) 5 10) [xE 11,wg 12,wV 13,wn 14 1 12 13,qt 15 14,qb 16 (.callv (.t 11) (xh 15))] (wz 16 (xy (wV 17) 4 17))) (xy (wG 18 8 1) 8 18))))) (wD 4 yk)⟩
theorem js:aq Tryz.prog cr=some eg:=by kernel_rfl
def cX:FK:=⟨9,[xC],xT (wD 4 qX) [wg 5,xE 6,wX 7 cr 5 6,qC 8 .geq 7 0,qf 4 8]⟩
theorem gM:aq Tryz.prog bN=some cX:=by kernel_rfl
def iA:FK:=⟨15,[.t 6],xT (wD 6 qX) [xE 7,wg 8,wo 9 .leq 7 8,qf 10 9,xa 11 10 0,xa 12 10 2,xu 13 10 .leq 11 (.t 12),ya 14 10 13,qf 6 14]⟩
theorem tO:aq Tryz.prog eI=some iA:=by kernel_rfl
def fR:FK:=⟨11,[.t 3],xT (wD 3 qX) [wg 4,xq 5 1,qt 6 5,wi 7 6,xo 8 7 1,qn 9 eI [.t 4,qQ,.t 8],xZ 10 9,qf 3 10]⟩
theorem mM:aq Tryz.prog dw=some fR:=by kernel_rfl
def jq:FK:=⟨8,[.t 3],xT [wO 2 5 0,qc 3 qX] [qp 4 4 2,qt 5 4,qb 6 (.mkf (.func dw) (xh 1)),wX 7 bN 5 6,yb 3]⟩
theorem oI:aq Tryz.prog cT=some jq:=by kernel_rfl
def fO:FK:=⟨14,[xR],xT [wO 1 3 0,qc 2 qX] [xq 3 1,qt 4 3,wi 5 4,qC 6 .gtr 5 0,xp 7,xm 8 7 2 1,wQ 9 7 8,qK 10 7 (.mkf (.func cT) (xh 1)),qK 11 7 (.call bk (wN 9 10)),qK 12 7 (wB 11),ya 13 7 12,qf 2 13]⟩
theorem sC:aq Tryz.prog cR=some fO:=by kernel_rfl
def ga:FK:=⟨8,[xR],xL (wD 2 xI) [wg 3,qb 4 (.snil false (.t 3))] (wP 4 2 xI) [yj 5 0 [],wg 6,wT 7 1 8 5 6,yb 2]⟩
theorem my:aq Tryz.prog cm=some ga:=by kernel_rfl
def pz:FK:=⟨10,[xR],qU (wD 2 xI) [wg 4,xi 5 cm 4,wV 3] (xT [yc 6,xi 7 mW 6] (xN (yc 8) (xi 9 kL 8) 2 9))⟩
theorem zt:aq Tryz.prog kA=some pz:=by kernel_rfl
def gu:FK:=⟨19,[xC],xL (wZ 4) [wg 6,wi 7 6,yn 8] (wa 0 (qe [wL 9 8 7] (.seq (wy 9 0) (ww 1 (qU (xy (qf 10 8) 5 10) [xE 11,wg 12,wV 13,wn 14 1 12 13,qt 15 14,wo 16 .eql 11 15] (wz 16 (xy (wV 17) 4 17))) (xy (wG 18 8 1) 8 18))))) (wD 4 yk)⟩
theorem mi:aq Tryz.prog gF=some gu:=by kernel_rfl
def kz:FK:=⟨42,[xR],xL [wO 1 3 0,qc 2 qX] (wZ 3) (xP 0 [yc 5,xq 6 1,qt 7 6,wi 8 7,wL 9 5 8] 9 0 1 (qe (wZ 4) (xP 2 [xx 12,xq 13 1,qt 14 13,yc 15,wn 16 5 14 15,qp 17 4 16,qt 18 17,wi 19 18,wL 20 12 19] 20 2 3 (qe [xq 23 1,yc 25,xx 29,xq 32 1,qt 24 23,wn 26 5 24 25,qp 27 4 26,qt 28 27,wn 30 1 28 29,qt 31 30,qt 33 32,wi 34 33,xo 35 34 1,xY 36 [.t 31,qQ,.t 35],xZ 37 36] (ym 37 2)) (xx 21) 22 21 1 4 22)) (yc 10) 11 10 1 3 11) [xq 38 1,qt 39 38,wi 40 39,qC 41 .gtr 40 0,qf 2 41]⟩
theorem sF:aq Tryz.prog gA=some kz:=by kernel_rfl
def jL:FK:=⟨35,[],qe [qt 8 1,wg 9,wn 10 1 8 9,qR 1 10 wH] (qD [xq 11 2,qt 12 11,wg 13,wn 14 5 12 13,qp 15 4 14,qt 16 15,wi 17 16,yn 18] (wa 0 (qe [wL 19 18 17] (.seq (wy 19 0) (ww 1 (qU (xN (wn 20 1 16 18) (qt 21 20) 7 21) [qt 22 1,yb 23,wn 24 1 22 23,qt 25 24,xZ 26 25] (ye 26 [qt 27 3,yb 28,qb 29 (.callv (.t 27) (xh 28))])) (xy (wG 30 18 1) 18 30))))) (.reg [qt 31 4,wg 32,yj 33 1 [xX 32],wT 34 1 8 31 33,xz 4 34]))⟩
theorem pS:aq Tryz.prog cu=some jL:=by kernel_rfl
def lK:FK:=⟨14,[xR],qU [wO 1 3 0,qc 2 xI] [qZ 3 xJ] (qU [xq 6 1,qt 7 6,wi 8 7,qb 9 (.mks 1 1 [qB] (.t 8) (.t 8)),qZ 4 xJ,xz 4 9] [qZ 5 [.nilf]] (qU [qb 10 (.mkf (.func cu) [.t 4,.t 1,.t 5,.t 3]),xz 5 10] [qt 11 5,qb 12 (.callv (.t 11) [qQ])] (qH (xy (qt 13 3) 2 13))))⟩
theorem tT:aq Tryz.prog iJ=some lK:=by kernel_rfl
def gD:FK:=⟨6,[xB 2 3],xT [yq 2 qy qy] [wg 3,xi 4 cP 3,xi 5 dI 4,qS 3 2 5]⟩
theorem mG:aq Tryz.prog gx=some gD:=by kernel_rfl
def jP:FK:=⟨54,[.t 8],qU [wO 4 3 0,qc 8 xI] [qf 10 2,xE 11,wn 12 1 10 11,qR 1 12 wH] (wK (wZ 9) (xP 0 [qf 13 9,xq 14 4,qt 15 14,xE 16,wn 17 5 15 16,qp 18 4 17,qt 19 18,wi 20 19,wL 21 13 20] 21 0 1 (qe [qf 24 2,xq 25 4,qt 26 25,xE 27,wn 28 5 26 27,qp 29 4 28,qt 30 29,qf 31 9,wn 32 1 30 31,qt 33 32,wn 34 1 24 33,qt 35 34,xZ 36 35] (ye 36 [xq 38 4,xE 40,qf 44 9,qf 47 2,yc 48,wt 37 3 4,qt 39 38,wn 41 5 39 40,qp 42 4 41,qt 43 42,wn 45 1 43 44,qt 46 45,qn 49 cy [.t 37,.t 46,.t 47,.t 48],qf 3 49])) (qf 22 9) 23 22 1 9 23) [yc 50,xE 51,yj 52 1 [xX 51],wT 53 1 8 50 52,qf 8 53])⟩
theorem pP:aq Tryz.prog cy=some jP:=by kernel_rfl
def mg:FK:=⟨29,[xC],xL (wD 4 qX) [wg 6,wi 7 6,xE 8,wi 9 8,qb 10 (.mn (.t 7) (.t 9)),yn 11] (wa 0 (qe [wL 12 11 10] (.seq (wy 12 0) (ww 1 (qU (xy (qf 13 11) 5 13) [wg 14,wV 15,wn 16 1 14 15,xE 18,wV 19,wn 20 1 18 19,qt 17 16,qt 21 20,wo 22 .neq 17 21] (ym 22 4)) (xy (wG 23 11 1) 11 23))))) [wg 24,wi 25 24,xE 26,wi 27 26,wo 28 .eql 25 27,qf 4 28]⟩
theorem tR:aq Tryz.prog lW=some mg:=by kernel_rfl
def nL:FK:=⟨17,[xC],xL (wD 4 qX) [wg 7,wi 8 7,yn 9] (wa 0 (qe [wL 10 9 8] (.seq (wy 10 0) (ww 1 (qU (xN (wn 11 1 7 9) (qt 12 11) 6 12) [xp 13,xE 14,wo 15 .eql 13 14] (wP 15 4 wH)) (xy (wG 16 9 1) 9 16))))) (wD 4 qX)⟩
theorem uX:aq Tryz.prog jt=some nL:=by kernel_rfl
def iY:FK:=⟨9,[xR],xL [wO 1 3 0,qc 2 xI] [wt 3 3 1,xi 4 cR 3,xZ 5 4] (wP 5 2 xI) [wt 6 3 1,xi 7 iJ 6,xi 8 kA 7,qf 2 8]⟩
theorem oV:aq Tryz.prog eB=some iY:=by kernel_rfl
def mf:FK:=⟨33,[xB 2 3,.t 3,xC],qU [yq 2 qy qy,yn 3,yn 4] [wg 8,xi 9 dI 8,yq 5 qy qy,qS 3 5 9] (qU [xq 10 5,qt 11 10,wi 12 11,qf 6 12] [wg 13,xp 14,wh 15 (wN 13 14),wg 16,xp 17,wh 18 (wN 16 17),xp 19,xo 20 19 1,wg 21,xp 22,wh 23 (wN 21 22),xp 24,yj 25 7 [xX 15,wF 1 18,(2,1,qQ),wF 3 20,wF 4 23,xk 5 (-1),wF 6 24],qf 7 25] (qH [wg 27,yb 28,wg 30,yb 31,wt 26 3 5,yl 29 27 28,qA (some 3) 5 26,yl 32 30 31,qA (some 3) 5 26,qS 3 2 26,qf 3 29,qf 4 32]))⟩
theorem tH:aq Tryz.prog eY=some mf:=by kernel_rfl
def fb:FK:=⟨11,[xB 2 3,.t 3,xC],xT [yq 2 qy qy,yn 3,yn 4] [wg 5,xi 6 cP 5,xi 7 eY 6,qb 8 (.ext 0 (.t 7)),qb 9 (.ext 1 (.t 7)),qb 10 (.ext 2 (.t 7)),qS 3 2 8,qf 3 9,qf 4 10]⟩
theorem kS:aq Tryz.prog fj=some fb:=by kernel_rfl
def er:FK:=⟨48,[xC],qU [wO 2 3 0,qc 4 xI] [xq 8 2,qt 9 8,wi 10 9,qb 11 (.mks 1 1 [qB] (.t 10) (.t 10)),qf 5 11] (qe (xy (yj 12 1 [(0,1,qQ)]) 6 12) (.seq (wY 0 [xp 13,wi 14 13,qC 15 .gtr 14 0] 15 0 (.blk 1 (qU [xp 16,xp 17,wi 18 17,xo 19 18 1,wn 20 1 16 19,qt 21 20,qf 7 21] [xp 22,xp 23,wi 24 23,xo 25 24 1,qb 26 (.slS 1 (.t 22) none (some (.t 25))),qf 6 26] (qD [yb 27,xE 28,wo 29 .eql 27 28,qf 30 29,wU 31 30 5,wU 32 30 7,qJ 33 30 (we 1 31 32),xf 34 30 33,xU 35 30 34] (wb 35 (.exit 1)) (qe [wV 36,yb 37,wn 38 1 36 37,qR 1 38 wH] (.reg [xp 39,xq 40 2,qt 41 40,yb 42,wn 43 5 41 42,qp 44 4 43,qt 45 44,wT 46 1 8 39 45,qf 6 46])))))) (qH (xy (wV 47) 4 47))))⟩
theorem jT:aq Tryz.prog aL=some er:=by kernel_rfl
def eX:FK:=⟨71,[xR],qe [wO 1 3 0,qc 2 (.c .nilp)] (qD [wt 8 3 1,xi 9 cR 8,xZ 10 9] (wP 10 2 (.c .nilp)) (xL [wt 11 3 1,wt 12 3 1,qn 13 aL (xA 12 (-1)),qA (some 3) 1 11,wv 14 [qy,qy,.nils,.nils,.nils] [wq 0 3 11,wF 4 13],wO 15 5 14,qf 3 15] [xq 16 1,qt 17 16,wi 18 17,yn 19] (wa 0 (qe [wL 20 19 18] (.seq (wy 20 0) (ww 1 (qU (xy (qf 21 19) 4 21) [xq 22 1,qt 23 22,wi 24 23,qb 25 (.mks 1 1 [qB] (.t 24) (.t 24)),qf 5 25] (qD [yc 26,qW 27 26,qp 28 4 27,qt 29 28,xx 30,wn 31 1 29 30,qt 32 31] (wb 32 (qU [wt 33 3 1,xx 34,wX 35 aL 33 34,qf 6 35] [wV 36,wi 37 36,yn 38] (wa 2 (qe [wL 39 38 37] (.seq (wy 39 2) (ww 3 (qe (xy (qf 40 38) 7 40) (.reg [wV 41,yb 42,yc 43,qW 44 43,qp 45 4 44,qt 46 45,yb 47,wn 48 1 46 47,qt 49 48,qf 50 49,xa 51 50 6,xa 52 50 7,qK 53 50 (we 1 51 52),wQ 54 50 53,qK 55 50 (wB 54),ya 56 50 55,wn 57 1 41 42,xz 57 56])) (xy (wG 58 38 1) 38 58))))))) (.reg [yc 59,yc 60,qW 61 60,qp 62 3 61,qt 63 62,wV 64,qM 65 1 xJ 1 [xX 64],wT 66 1 24 63 65,qW 67 59,qp 68 3 67,xz 68 66]))) (xy (wG 69 19 1) 19 69))))) (xy (yc 70) 2 70)))⟩
theorem lY:aq Tryz.prog cz=some eX:=by kernel_rfl
def fq:FK:=⟨26,[xC],xT (wD 4 qX) [wg 5,qb 6 (.pnil 0 true (.t 5)),xp 7,xa 8 7 1,xa 9 7 0,qK 10 7 (qz 9),xm 11 7 4 10,wQ 12 7 11,qK 13 7 (qY 12),xu 14 7 .sub 13 wJ,qK 15 7 (.call eI [.t 8,qQ,.t 14]),ya 16 7 15,qf 17 16,xa 18 17 0,qK 19 17 (qz 18),xm 20 17 4 19,wQ 21 17 20,xa 22 17 1,qK 23 17 (we 1 21 22),wQ 24 17 23,ya 25 17 24,qf 4 25]⟩
theorem pO:aq Tryz.prog fv=some fq:=by kernel_rfl
def nX:FK:=⟨15,[xC],xT [wO 2 3 0,qc 4 qX] [wt 5 3 2,xi 6 gA 5,xp 7,xa 8 7 1,xm 9 7 2 2,wQ 10 7 9,qK 11 7 (qY 10),xu 12 7 .sub 11 wJ,qK 13 7 (xd [.t 8,qQ,.t 12]),ya 14 7 13,qf 4 14]⟩
theorem vv:aq Tryz.prog jG=some nX:=by kernel_rfl
def gE:AK:=qU [wO 1 3 0,qc 2 xI] [xq 10 1,qt 11 10,wi 12 11,qf 3 12] (qU (xy (qM 13 1 xJ 0 []) 4 13) (xN (yc 14) (qb 15 (.mks 1 1 [qB] (.t 14) (.t 14))) 5 15) (xL [wt 16 3 1,wV 17,yj 18 0 [],qn 19 cy [.t 16,qQ,.t 17,.t 18]] (wZ 6) (xP 0 [xp 20,yc 21,wL 22 20 21] 22 0 1 (qU (xN (yc 25) (qb 26 (.mks 1 1 [qB] (.t 25) (.t 25))) 7 26) [yb 27,xp 28,wn 29 1 27 28,qR 1 29 wH] (.cut (xF [xp 30,qC 31 .neq 30 0] 31 (qe [wt 32 3 1,yb 33,yj 34 0 [],qn 35 cy [.t 32,qQ,.t 33,.t 34]] (.reg [yb 36,xp 37,wn 38 1 36 37,qR 1 38 qX])) (.reg [yb 39,xp 40,wn 41 1 39 40,qR 1 41 qX])) (qe (xN (yc 42) (qb 43 (.mks 1 1 [qB] (.t 42) (.t 42))) 8 43) (qD (wZ 9) (xP 2 [qf 44 9,yc 45,wL 46 44 45] 46 2 3 (.reg [qf 49 8,qf 50 9,wV 51,xp 52,wn 53 1 51 52,qt 54 53,qf 55 54,xa 56 55 5,xa 57 55 9,qK 58 55 (we 1 56 57),wQ 59 55 58,ya 60 55 59,qf 61 60,xa 62 61 7,xa 63 61 9,qK 64 61 (we 1 62 63),wQ 65 61 64,qK 66 61 (wB 65),ya 67 61 66,wn 68 1 49 50,xz 68 67]) (qf 47 9) 48 47 1 9 48) (.reg [xx 69,qf 70 8,qM 71 1 xJ 1 [xX 70],wT 72 1 24 69 71,qf 4 72]))))) (xp 23) 24 23 1 6 24) (xy (xx 73) 2 73)))
def gB:FK:=⟨74,[xR],(AK.whole gE)⟩
theorem tu:aq Tryz.prog dH=some gB:=by kernel_rfl
def fy:FK:=⟨46,[xC],qU (wZ 4) (wD 5 yk) (wK [wg 7,qW 8 7,qp 9 3 8,qt 10 9,wi 11 10,yn 12] (wa 0 (qe [wL 13 12 11] (.seq (wy 13 0) (ww 1 (qU (xy (qf 14 12) 6 14) [wg 15,qW 16 15,qp 17 4 16,qt 18 17,xp 19,wn 20 1 18 19,qt 21 20,qf 22 21,xa 23 22 1,xa 24 22 6,qK 25 22 (.callv (.t 23) (xh 24)),ya 26 22 25,qf 27 26,xa 28 27 5,xu 29 27 .lss 28 qQ,xa 30 27 29,wU 31 30 0,qJ 32 30 (qz 31),xt 33 30 3 32,xf 34 30 33,wU 35 30 5,qJ 36 30 (we 1 34 35),xf 37 30 36,wU 38 30 6,qJ 39 30 (we 1 37 38),xf 40 30 39,qK 41 27 (qN 30 wH (.t 40)),ya 42 27 41] (ye 42 (xy (xp 43) 5 43))) (xy (wG 44 12 1) 12 44))))) (xy (wV 45) 4 45))⟩
theorem lE:aq Tryz.prog cY=some fy:=by kernel_rfl
def dB:FK:=⟨20,[xC],xT (wD 4 qX) [wg 5,qt 6 1,wo 7 .neq 5 6,yb 8,xa 13 8 0,wQ 9 8 2,qK 10 8 (qz 9),xm 11 8 3 10,wQ 12 8 11,qK 14 8 (we 1 12 13),wQ 15 8 14,wQ 16 8 1,qK 17 8 (we 1 15 16),wQ 18 8 17,ya 19 8 18,qf 4 19]⟩
theorem mC:aq Tryz.prog ck=some dB:=by kernel_rfl
def ji:FK:=⟨8,[xC],xT [wO 2 1 0,wO 3 1 1,yn 4] [qt 5 2,qb 6 (.mkf (.func ck) (wN 3 2)),wX 7 cY 5 6,yb 4]⟩
theorem oY:aq Tryz.prog ew=some ji:=by kernel_rfl
def kb:FK:=⟨37,[xR],qU [wO 1 3 0,qc 2 xI] (xN (wt 6 3 1) (xi 7 cz 6) 3 7) (qD [yc 8,qb 9 (.pnil 0 false (.t 8))] (wP 9 2 xI) (xL [xq 10 1,qt 11 10,wi 12 11,qb 13 (.mks 1 8 xG (.t 12) (.t 12)),qf 4 13] [xx 14,wi 15 14,yn 16] (wa 0 (qe [wL 17 16 15] (.seq (wy 17 0) (ww 1 (qU (xy (qf 18 16) 5 18) [xx 19,wV 20,wn 21 1 19 20,qR 1 21 yk] (qe [yc 22,qW 23 22,qp 24 4 23,qt 25 24,wV 26,wn 27 1 25 26,qt 28 27] (ye 28 [xx 29,wV 30,yc 31,wV 32,wX 33 ew 31 32,wn 34 1 29 30,xz 34 33]))) (xy (wG 35 16 1) 16 35))))) (xy (xx 36) 2 36)))⟩
theorem rU:aq Tryz.prog gd=some kb:=by kernel_rfl
def fB:FK:=⟨16,[xB 2 3,.t 3],qU [yq 2 qy qy,yn 3] [wg 8,xi 9 cP 8,xi 10 eY 9,qf 7 10,qb 11 (.ext 0 (.t 7)),qb 12 (.ext 1 (.t 7)),qb 13 (.ext 2 (.t 7)),yq 4 qy qy,qS 3 4 11,qf 5 12,qf 6 13] (qH [wt 14 3 4,wV 15,qS 3 2 14,qf 3 15])⟩
theorem lF:aq Tryz.prog cZ=some fB:=by kernel_rfl
def gZ:FK:=⟨29,[xC],qU (wZ 4) (wD 5 yk) (wK [wg 7,qW 8 7,qp 9 3 8,qt 10 9,wi 11 10,yn 12] (wa 0 (qe [wL 13 12 11] (.seq (wy 13 0) (ww 1 (qU (xy (qf 14 12) 6 14) [wg 15,qW 16 15,qp 17 3 16,qt 18 17,xp 19,wn 20 1 18 19,qt 21 20,xE 22,wn 23 1 21 22,qt 24 23] (ye 24 (xN (wV 25) (wG 26 25 1) 5 26))) (xy (wG 27 12 1) 12 27))))) (xy (wV 28) 4 28))⟩
theorem ny:aq Tryz.prog dS=some gZ:=by kernel_rfl
def jK:FK:=⟨15,[xC],qU [wO 2 3 0,yn 4] (xN (wt 6 3 2) (xi 7 cz 6) 5 7) (wK [wV 8,xE 9,wX 10 fv 8 9,xZ 11 10] (wP 11 4 yk) [wV 12,xE 13,wX 14 dS 12 13,qf 4 14])⟩
theorem pV:aq Tryz.prog dj=some jK:=by kernel_rfl
def jM:FK:=⟨31,[xC],qe [wO 2 3 0,yn 4] (qD [wt 8 3 2,xE 9,wX 10 jG 8 9,xZ 11 10] (wP 11 4 yk) (qU (xN (wt 12 3 2) (xi 13 dH 12) 5 13) (wD 6 yk) (wK (wZ 7) (xP 0 [yb 14,wV 15,wi 16 15,wL 17 14 16] 17 0 1 (.reg [xp 20,wV 21,yb 22,wn 23 1 21 22,qt 24 23,xE 25,wn 26 1 24 25,qt 27 26,xi 28 dK 27,wo 29 .add 20 28,qf 6 29]) (yb 18) 19 18 1 7 19) (xy (xp 30) 4 30))))⟩
theorem pJ:aq Tryz.prog dp=some jM:=by kernel_rfl
def ij:FK:=⟨72,[xR],qe (wD 2 qX) (qD [wg 7,wi 8 7,qC 9 .gtr 8 1048576] (wP 9 2 wH) (qU [wg 11,xi 12 cZ 11,qf 10 12,qb 13 (.ext 0 (.t 10)),qb 14 (.ext 1 (.t 10)),yq 3 qy qy,qS 3 3 13,qf 4 14] [wt 15 3 3,xx 16,wX 17 dj 15 16,qf 5 17] (qD [wV 18,wt 19 3 3,xx 20,wX 21 dp 19 20,wo 22 .neq 18 21,qf 23 22,wU 24 23 5,xV 25 23 .lss 24 qQ,xU 26 23 25] (wz 26 [wV 27,wt 28 3 3,xx 29,wX 30 dp 28 29,wo 31 .eql 27 30,qf 32 31,xa 33 32 5,xu 34 32 .eql 33 yk,ya 35 32 34,qf 36 35,qK 37 36 (qT 3 3),qK 38 36 (.call eB (xh 37)),xa 39 36 4,qK 40 36 (.call jt (wN 38 39)),qK 41 36 (wB 40),ya 42 36 41,qf 2 42]) (xT [wt 43 3 3,xi 44 gd 43,xx 45,wn 46 1 44 45,qt 47 46,qf 6 47] [wV 48,wI 49 48 0,xx 50,wI 51 50 0,qb 52 (.beq false (.t 49) (.t 51)),qf 53 52,xa 54 53 6,xu 55 53 .lss 54 qQ,xa 56 53 55,qJ 57 56 (qT 3 3),wU 58 56 6,qJ 59 56 (.call dj (wN 57 58)),wU 60 56 5,xV 61 56 .sub 60 wJ,xV 62 56 .eql 59 (.t 61),qK 63 53 (qN 56 wH (.t 62)),ya 64 53 63,qf 65 64,xa 66 65 5,xm 67 65 2 3,wQ 68 65 67,qK 69 65 (qY 68),xu 70 65 .lss 66 (.t 69),ya 71 65 70,qf 2 71]))))⟩
theorem nF:aq Tryz.prog gV=some ij:=by kernel_rfl
end Go.Proofs.YtdfplkcigiblcaaGreat
