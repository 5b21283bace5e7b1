/-
  Contracts and lemmas that the card needs, part 4.
-/
import Derived.Test.YtdfplkcigiblcaaGreatFb3
import Derived.Test.YtdfplkcigiblcaaGreatRows
namespace Go.Proofs.YtdfplkcigiblcaaGreat
open Go Go.Aw
set_option maxRecDepth 100000
abbrev dD:FuncId:=54
abbrev bt:FuncId:=104
abbrev aY:FuncId:=105
abbrev gz:FuncId:=95
abbrev eH:FuncId:=168
abbrev cJ:FuncId:=169
abbrev iy:FuncId:=153
abbrev eL:FuncId:=154
abbrev ii:FuncId:=141
abbrev cE:FuncId:=96
abbrev cW:FuncId:=125
abbrev dj:FuncId:=152
abbrev iu:FuncId:=140
abbrev dP:FuncId:=124
abbrev im:FuncId:=118
abbrev bw:FuncId:=179
abbrev eI:FuncId:=183
abbrev be:FuncId:=172
abbrev dR:FuncId:=162
abbrev dg:FuncId:=189
abbrev bZ:FuncId:=180
abbrev cy:FuncId:=181
abbrev dz:FuncId:=182
abbrev dM:FuncId:=171
abbrev aN:FuncId:=161
abbrev de:FuncId:=143
abbrev gr:FuncId:=194
abbrev ga:FuncId:=190
abbrev jp:FuncId:=184
abbrev db:FuncId:=191
abbrev jd:FuncId:=185
abbrev bC:FuncId:=173
abbrev eD:FuncId:=192
abbrev er:FuncId:=197
abbrev da:FuncId:=195
abbrev dO:FuncId:=196
abbrev cM:FuncId:=193
abbrev ew:FuncId:=186
abbrev bm:FuncId:=174
abbrev jL:FuncId:=163
abbrev cD:FuncId:=175
abbrev jj:FuncId:=164
abbrev cT:FuncId:=144
abbrev eB:FuncId:=127
abbrev fI:FuncId:=76
abbrev cY:FuncId:=155
abbrev bG:FuncId:=156
abbrev bi:FuncId:=160
abbrev bk:FuncId:=159
abbrev bE:FuncId:=158
abbrev cP:FuncId:=178
abbrev dZ:FuncId:=187
abbrev kA:FuncId:=188
abbrev aU:FuncId:=177
abbrev dA:FuncId:=176
abbrev dG:FuncId:=170
abbrev aX:FuncId:=157
abbrev gN:FuncId:=142
abbrev eG:FuncId:=126
abbrev eF:FuncId:=166
abbrev jl:FuncId:=165
abbrev fV:FuncId:=145
abbrev dV:FuncId:=128
abbrev fH:FuncId:=119
abbrev gg:FuncId:=90
abbrev dF:FuncId:=53
abbrev bp:FuncId:=120
abbrev bh:FuncId:=91
abbrev ck:FuncId:=121
abbrev bK:FuncId:=93
abbrev ie:FuncId:=61
abbrev dm:FuncId:=94
abbrev cL:FuncId:=92
abbrev gk:FuncId:=55
abbrev cg:FuncId:=100
abbrev nB:FuncId:=101
abbrev kG:FuncId:=102
abbrev eR:FuncId:=64
abbrev fW:FuncId:=98
abbrev fK:FuncId:=57
abbrev cq:FuncId:=97
abbrev ir:FuncId:=59
abbrev cA:FuncId:=60
abbrev dx:FuncId:=17
abbrev gi:FuncId:=19
abbrev bP:FuncId:=99
abbrev dd:FuncId:=63
abbrev iv:FuncId:=20
abbrev fh:FuncId:=22
abbrev bO:FuncId:=103
abbrev eb:FuncId:=65
abbrev cH:FuncId:=29
abbrev ee:FuncId:=30
abbrev eW:FuncId:=71
abbrev ed:FuncId:=31
abbrev fU:FuncId:=7
@[reducible] def qa(a:Nat)(b:Option (Nat × Bool))(c:AI):CO:=⟨some a,b,c⟩
@[reducible] def qb(a:Nat)(b:AI):CO:=qa a none b
@[reducible] def qc(a:Nat)(b:AOp):CO:=qb a (.mov b)
@[reducible] def qd(a:IntKind)(b:Int):AV:= .p (.int a b)
@[reducible] def qe(a:List CO)(b:AK):AK:= .seq (.reg a) b
@[reducible] def qf(a b:Nat):CO:=qc a (.t b)
@[reducible] def qg(a:Int):AV:=qd .i64 a
@[reducible] def qh(a b:Nat):AI:= .fldA a (.t b)
@[reducible] def qi(a:Int):AOp:= .c (qg a)
@[reducible] def qj(a:Option Nat)(b:Nat):AI:= .ld a (.t b)
@[reducible] def qk(a:Nat)(b:Nat × Bool)(c:AI):CO:=qa a (some b) c
@[reducible] def ql(a:BinOp)(b:Nat)(c:AOp):AI:= .bin a (.t b) c
@[reducible] def qm(a:Nat):AI:=qj none a
@[reducible] def qn(a:Nat)(b:FuncId)(c:List AOp):CO:=qb a (.call b c)
@[reducible] def qo(a:Option (Nat × Bool))(b:AI):CO:=⟨none,a,b⟩
@[reducible] def qp(a b c:Nat):CO:=qb a (qh b c)
@[reducible] def qt(a b:Nat):CO:=qb a (qm b)
@[reducible] def qu(a:Nat)(b:BinOp)(c:Nat)(d:AOp):CO:=qb a (ql b c d)
@[reducible] def qv(a:Nat)(b c:AK):AK:= .cond (.t a) b c
@[reducible] def qw(a:AI):CO:=qo none a
@[reducible] def qx:AV:=qg 0
@[reducible] def qy(a:Bool):AV:= .p (.bool a)
@[reducible] def qz(a:Option Nat)(b c:Nat):CO:=qw (.chk a b c)
@[reducible] def qA(a:Nat):AI:= .nilck (.t a)
@[reducible] def qB(a:Nat)(b:BinOp)(c:Nat)(d:Int):CO:=qu a b c (qi d)
@[reducible] def qC(a:List CO)(b c:AK):AK:= .seq (qe a b) c
@[reducible] def qD(a:AOp):AI:= .len false a
@[reducible] def qF(a b:Nat)(c:AOp):AI:= .idxS a (.t b) c
@[reducible] def qG:AV:=qy false
@[reducible] def qH(a:List CO):AK:=qe a .ret
@[reducible] def qI(a b:Nat)(c:List AV)(d:Nat)(e:List (Nat × Nat × AOp)):CO:=qb a (.bsl b c d e)
@[reducible] def qJ(a:Nat)(b c:AOp):CO:=qw (.st a b c)
@[reducible] def qK(a:List UInt8):AV:= .p (.str a)
@[reducible] def qL(a b:Nat):CO:=qz none a b
@[reducible] def qM(a b:Nat)(c:Bool)(d:AI):CO:=qk a (b,c) d
@[reducible] def qN(a b:Nat)(c:AI):CO:=qM a b false c
@[reducible] def qO(a b:Nat)(c:AI):CO:=qM a b true c
@[reducible] def qP:AOp:=qi 0
@[reducible] def qQ(a:Nat)(b c:AOp):AI:= .pick (.t a) b c
@[reducible] def qR(a b:Nat)(c:AOp):CO:=qJ a (.t b) c
@[reducible] def qS(a:Nat)(b:AK):AK:= .blk a (.loop b)
@[reducible] def qT(a b c:Nat):CO:=qR a b (.t c)
@[reducible] def qU(a:Nat):AI:=qD (.t a)
@[reducible] def qV(a:Nat)(b c:AK):AK:= .seq (.blk a b) c
@[reducible] def qW(a:Nat)(b:List AV):CO:=qb a (.alloc b)
@[reducible] def qX(a b:List CO)(c:AK):AK:=qe a (qe b c)
@[reducible] def qY(a:List CO)(b c:OT):OT:= .alt (.one a b) c
@[reducible] def qZ(a b:Nat):CO:=qb a (qA b)
@[reducible] def wa:AOp:= .c qG
@[reducible] def wb(a:Nat)(b:AK):AK:=qv a b .skip
@[reducible] def wd(a:Nat):CO:=qf a 0
@[reducible] def we(a b:Nat):CO:=qb a (qU b)
@[reducible] def wg(a b:Nat):AI:=qj (some a) b
@[reducible] def wh(a b c:Nat)(d:AOp):CO:=qb a (qF b c d)
@[reducible] def wi(a:Nat)(b:AK)(c:Nat):AK:=qv a b (.exit c)
@[reducible] def wj(a:Nat):AI:= .mov (.t a)
@[reducible] def wl(a:Nat)(b:List AOp):CO:=qn a bt b
@[reducible] def wm(a:Nat)(b:BinOp)(c d:Nat):CO:=qu a b c (.t d)
@[reducible] def wn:AV:=qK []
@[reducible] def wo(a b c d:Nat):CO:=wh a b c (.t d)
@[reducible] def wq(a:Nat)(b:AK)(c:List CO):AK:=qV a b (.reg c)
@[reducible] def wt(a b c:Nat):Nat × Nat × AOp:=(a,b,.t c)
@[reducible] def wu(a:Nat)(b:List AV)(c:List (Nat × Nat × AOp)):CO:=qb a (.bld b c)
@[reducible] def wv:AV:=qy true
@[reducible] def ww(a b:Nat):AK:=wi a .skip b
@[reducible] def wx(a:Nat)(b:List CO):AK:=wb a (qH b)
@[reducible] def wy(a b c:Nat):CO:=qb a (wg b c)
@[reducible] def wz(a b c:Nat)(d:AOp):AI:= .app a b (.t c) d
@[reducible] def wA(a b:Nat)(c d:AOp):CO:=qb a (qQ b c d)
@[reducible] def wB(a:Nat)(b:AOp):List CO:=[qc a b]
@[reducible] def wC(a b:Nat):Nat × Nat × AOp:=wt a 1 b
@[reducible] def wD(a b:Nat)(c:Int):CO:=qB a .add b c
@[reducible] def wE(a:Nat)(b:List AOp):CO:=qn a aY b
@[reducible] def wF(a:Nat):AI:= .not (.t a)
@[reducible] def wG(a b c:Nat):CO:=wm a .lss b c
@[reducible] def wH:AOp:= .c wv
@[reducible] def wI(a b:Nat)(c:Int):CO:=qB a .eql b c
@[reducible] def wJ:AOp:=qi 1
@[reducible] def wK(a b:Nat):AI:= .box a (.t b)
@[reducible] def wL(a:List CO)(b:AK)(c:List CO):AK:=qC a b (qH c)
@[reducible] def wM(a:List CO)(b:OT):OT:=qY a b .tru
@[reducible] def wN(a b c d:Nat):AI:=wz a b c (.t d)
@[reducible] def wO(a:Nat)(b:List CO)(c d:AK):AK:=qS a (qC b c d)
@[reducible] def wP(a b c d e:Nat):CO:=qb a (wN b c d e)
@[reducible] def wQ(a:Nat)(b:List CO)(c d:Nat)(e:AK):AK:=wO a b (ww c d) e
@[reducible] def wR(a:Nat)(b:AOp):List AOp:=[.t a,b]
@[reducible] def wS(a b:Nat):List AOp:=wR a (.t b)
@[reducible] def wT(a b:Nat)(c:AOp):AK:=wx a (wB b c)
@[reducible] def wU(a:Nat)(b:List CO)(c d e:Nat)(f:AK)(g:List CO):AK:=wQ a b c d (wq e f g)
@[reducible] def wV(a:Nat):CO:=qf a 5
@[reducible] def wW(a:Nat):List CO:=wB a qP
@[reducible] def wX(a:Nat)(b:List AOp):CO:=qn a bE b
@[reducible] def wY(a:Nat)(b:FuncId)(c d:Nat):CO:=qn a b (wS c d)
@[reducible] def wZ(a b:Nat)(c:AOp)(d:Nat):CO:=wA a b c (.t d)
@[reducible] def xa(a b c:Nat):CO:=qb a (wK b c)
@[reducible] def xb(a b c:Nat):CO:=qO a b (qm c)
@[reducible] def xc(a b:Nat):CO:=qp a 0 b
@[reducible] def xd(a b:Nat)(c:Int):Nat × Nat × AOp:=(a,b,qi c)
@[reducible] def xe(a:Nat)(b:Int):Nat × Nat × AOp:=xd a 1 b
@[reducible] def xf(a:List AOp):AI:= .call gz a
@[reducible] def xg(a b c:Nat):CO:=qN a b (wj c)
@[reducible] def xh(a:Nat):List AOp:=[.t a]
@[reducible] def xi(a:Nat)(b:FuncId)(c:Nat):CO:=qn a b (xh c)
@[reducible] def xj(a b:Nat)(c:Int):CO:=qB a .sub b c
@[reducible] def xk(a b:Nat):CO:=xi a bG b
@[reducible] def xl(a b c:Nat):CO:=qN a b (qm c)
@[reducible] def xm(a b:Nat):CO:=qp a 2 b
@[reducible] def xo(a b c d:Nat):CO:=qN a b (qh c d)
@[reducible] def xp(a:Nat)(b:List AOp):CO:=qn a bi b
@[reducible] def xq:AOp:= .c .nils
@[reducible] def xr(a b c d:Nat):CO:=qO a b (qh c d)
@[reducible] def xt(a:Nat):CO:=qf a 4
@[reducible] def xu:List AV:=[qx]
@[reducible] def xv(a b c:Nat)(d:List (Nat × Nat × AOp)):CO:=qI a b xu c d
@[reducible] def xx(a b:Nat)(c:BinOp)(d:Nat)(e:AOp):CO:=qO a b (ql c d e)
@[reducible] def xy(a b:Nat):CO:=qp a 1 b
@[reducible] def xz(a b:Nat):CO:=qT 1 a b
@[reducible] def xA(a:CO)(b c:Nat):List CO:=[a,qf b c]
@[reducible] def xB(a b:CO)(c d:Nat):List CO:=[a,b,qf c d]
@[reducible] def xC(a:Nat)(b:List CO)(c d e:Nat)(f:AK)(g h:CO)(i j:Nat):AK:=wU a b c d e f (xB g h i j)
@[reducible] def xD(a:Nat)(b:List CO)(c d e:Nat)(f:AK)(g:CO)(h i:Nat)(j:Int)(k l:Nat):AK:=xC a b c d e f g (wD h i j) k l
@[reducible] def xE(a:Nat)(b:Int):List AOp:=wR a (qi b)
@[reducible] def xF(a b c:Nat):CO:=qO a b (wj c)
@[reducible] def xG(a:CO)(b c:Nat)(d:AK):AK:=qe (xA a b c) d
@[reducible] def xH(a b:Nat):RV:= .c a (some b)
@[reducible] def xI(a:Nat):CO:=qf a 1
@[reducible] def xJ(a:Nat):CO:=qf a 6
@[reducible] def xK(a:Nat):List RV:=[.t a]
@[reducible] def xL(a b c:Nat)(d:AOp):CO:=wA a b (.t c) d
@[reducible] def xM(a b:Nat):CO:=xi a bk b
@[reducible] def xN(a:List AOp):AI:= .call bt a
@[reducible] def xO:List RV:=xK 2
@[reducible] def xP:List AV:=[.nils]
@[reducible] def xQ(a:List CO)(b c:AK):AK:= .cut (qe a b) c
@[reducible] def xR(a:Nat):Nat × Nat × AOp:=wC 0 a
@[reducible] def xS(a:Nat)(b:List AOp):CO:=qn a dR b
@[reducible] def xT(a:Nat)(b:AK)(c:List CO):AK:=wL (wW a) b c
@[reducible] def xU(a:Nat)(b:List AOp):CO:=qn a gz b
@[reducible] def xV(a b:Nat)(c:List AV)(d:Nat)(e:List (Nat × Nat × AOp)):CO:=qb a (.bslP b c d e)
@[reducible] def xW(a b c:Nat):CO:=wZ a b wH c
@[reducible] def xX(a b:Nat)(c:List (Nat × Nat × AOp)):CO:=xv a 1 b c
@[reducible] def xY:List RV:=xK 4
@[reducible] def xZ(a b:Nat):CO:=qb a (wF b)
@[reducible] def x4(a b:Nat):AK:=wT a b wa
@[reducible] def x6(a b:Nat)(c:BinOp)(d:Nat)(e:AOp):CO:=qN a b (ql c d e)
@[reducible] def x7(a b:List CO):AK:=qe a (qH b)
@[reducible] def x8(a:Nat):CO:=qL a 10
@[reducible] def x9:CO:=x8 9
@[reducible] def ya(a:Nat):CO:=qL 11 a
@[reducible] def yb:CO:=ya 12
@[reducible] def yc(a:Nat):CO:=qf a 3
@[reducible] def ye(a b:Nat)(c:Int)(d e:Nat)(f:AK):AK:=xG (wI a b c) d e f
@[reducible] def yf(a b:List CO)(c:OT):OT:=wM a (wM b c)
@[reducible] def yg(a:Nat)(b:List CO):AK:=wb a (.reg b)
@[reducible] def yh(a:Nat):CO:=qf a 7
@[reducible] def yi(a:List UInt8):AOp:= .c (qK a)
def kh:FK:=⟨11,xO,qe (wB 2 (.c .nilp)) (wL [wd 3,we 4 3,qB 5 .gtr 4 2000] (yg 5 (xB (wd 6) (qb 7 (.slS 1 (.t 6) none (some (qi 2000)))) 0 7)) [wd 8,wu 9 [.nils,qx] [xR 8],xa 10 2 9,qf 2 10])⟩
theorem sh:aA Tryz.prog dD=some kh:=by kernel_rfl
def cz:FK:=⟨99,xY,qX (wW 4) [wd 7,wd 8,qZ 9 8,xy 10 9,qt 11 10,wD 12 11 1,qZ 13 7,xy 14 13,xz 14 12] (qC [xI 15,qB 16 .lss 15 1,qf 17 16,xg 18 17 0,qN 19 17 (qA 18),xo 20 17 0 19,xl 21 17 20,qN 22 17 (qU 21),x6 23 17 .eql 22 qP,xW 24 17 23] (wT 24 4 qP) (qe [wd 25,qZ 26 25,xy 27 26,qt 28 27,xj 29 28 1,qf 5 29] (qC [wV 30,wd 31,qZ 32 31,xc 33 32,qt 34 33,we 35 34,wG 36 30 35] (wx 36 [wd 37,qZ 38 37,xc 39 38,qt 40 39,wV 41,wo 42 1 40 41,qt 43 42,qb 44 (.conv .i64 (.t 43)),xI 45,wm 46 .rem 44 45,qf 4 46]) (qX [wd 47,qZ 48 47,xc 49 48,wV 51,wd 52,qZ 53 52,xc 54 53,wd 62,qZ 63 62,xc 64 63,wV 66,qB 67 .mul 66 7,wD 68 67 3,wd 69,qZ 70 69,xc 71 70,wV 80,qB 81 .mul 80 29,wV 83,wd 84,qZ 85 84,xc 86 85,qt 50 49,qt 55 54,we 56 55,wm 57 .rem 51 56,wo 58 1 50 57,qt 59 58,qb 60 (.conv .i64 (.t 59)),qB 61 .mul 60 131,qt 65 64,qt 72 71,we 73 72,wm 74 .rem 68 73,wo 75 1 65 74,qt 76 75,qb 77 (.conv .i64 (.t 76)),qB 78 .mul 77 1117,wm 79 .add 61 78,wm 82 .add 79 81,qt 87 86,we 88 87,wm 89 .quo 83 88,qB 90 .mul 89 53,wm 91 .add 82 90,qf 6 91] [xJ 92,xJ 93,qB 94 .quo 93 64,wm 95 .xor 92 94,qf 6 95] (qH [xJ 96,xI 97,wm 98 .rem 96 97,qf 4 98])))))⟩
theorem mt:aA Tryz.prog bt=some cz:=by kernel_rfl
def cQ:FK:=⟨12,xY,x7 (wW 4) [xI 5,wd 6,xI 7,we 8 7,wl 9 (wS 6 8),wo 10 1 5 9,qt 11 10,qf 4 11]⟩
theorem en:aA Tryz.prog aY=some cQ:=by kernel_rfl
def jR:FK:=⟨15,xK 6,x7 (wB 6 wa) [wd 7,xI 8,wm 9 .geq 7 8,qf 10 9,xF 11 10 0,xF 12 10 2,xx 13 10 .leq 11 (.t 12),xL 14 10 13 wa,qf 6 14]⟩
theorem uU:aA Tryz.prog gz=some jR:=by kernel_rfl
def bU:FK:=⟨28,xO,qe (wW 2) (qV 0 (qe [wd 4,wI 5 4 1,wV 3] (qv 3 (qH (wW 2)) (qe [wd 7,wI 8 7 2,qf 9 8,xg 10 9 0,x6 11 9 .eql 10 (qi 10),xW 12 9 11,qf 13 12,xg 14 13 0,x6 15 13 .eql 14 (qi 11),xW 16 13 15,qf 17 16,xg 18 17 0,x6 19 17 .eql 18 (qi 13),xW 20 17 19,qf 6 20] (qv 6 (qH (wB 2 wJ)) (qe [wd 22,xU 23 [.t 22,qi 3,qi 9],qf 24 23,xg 25 24 0,x6 26 24 .eql 25 (qi 12),xW 27 24 26,qf 21 27] (wT 21 2 (qi 2))))))) (qH (wB 2 (qi (-1)))))⟩
theorem sV:aA Tryz.prog eH=some bU:=by kernel_rfl
def jQ:FK:=⟨13,xO,x7 (wB 2 wa) [wd 3,xU 4 [.t 3,wJ,qi 14],xt 5,xF 6 5 0,xx 7 5 .neq 6 (qi 12),xL 8 5 7 wa,qf 9 8,xF 10 9 0,xx 11 9 .neq 10 (qi 13),xL 12 9 11 wa,qf 2 12]⟩
theorem re:aA Tryz.prog cJ=some jQ:=by kernel_rfl
def iq:AK:=qX [xa 4 1 1,qW 6 [qx,qx,.nils,qx]] [wd 11,xX 12 16 [(0,1,wJ),(1,1,wJ),xe 2 2,xe 3 3,xe 4 4,xe 5 5,xe 6 8,xe 7 9,xe 8 10,xe 9 13,xe 10 3,xe 11 6,xe 12 7,xe 13 11,xe 14 12,xe 15 14],wE 13 (wS 11 12),qf 7 13] (qX [yh 14,wd 15,qf 16 2,wl 17 (wS 15 16),wu 18 [qx,qx,.nils,qx] [xR 14,wC 1 17],qW 8 [qx,qx,.nils,qx],qT 4 8 18] (xB (yh 19) (xi 20 eH 19) 9 20) (xQ [yh 21,wI 22 21 14] (wb 22 (qC [xc 23 4,qt 24 23,we 25 24,wI 26 25 0] (wx 26 [wd 27,qf 28 2,wl 29 (wS 27 28),xX 30 1 [xR 29],wu 31 [qx,qx,.nils,qx] [xe 0 13,xe 1 (-1),wC 2 30],qT 4 6 31]) (qe [wd 32,xc 33 4,qt 34 33,we 35 34,wl 36 (wS 32 35),qp 37 3 8,xz 37 36] (.reg [xc 38 4,qt 39 38,qp 40 3 8,qt 41 40,wo 42 3 39 41,xc 43 42,qt 44 43,qf 9 44])))) (xQ [yh 45,wI 46 45 1] (yg 46 [wd 47,xX 48 7 [(0,1,qP),(1,1,wJ),xe 2 2,xe 3 3,xe 4 15,xe 5 16,xe 6 255],wE 49 (wS 47 48),qp 50 3 8,xz 50 49]) (xQ [yh 51,xi 52 cJ 51,xZ 53 52] (yg 53 [xy 54 8,qR 1 54 (qi (-1))]) (xT 10 (xD 0 [qf 55 10,qf 56 9,wG 57 55 56] 57 0 1 (.reg [xm 60 8,wd 62,qf 63 2,qt 61 60,wl 64 (wS 62 63),qL 60 61,xV 65 1 xu 1 [xR 64],wP 66 1 8 61 65,xm 67 8,xz 67 66]) (qf 58 10) 59 58 1 10 59) [wy 68 4 8,qT 4 6 68])))))
def gY:FK:=⟨69,[xH 6 4],(AK.whole iq)⟩
theorem sM:aA Tryz.prog iy=some gY:=by kernel_rfl
def ki:FK:=⟨30,xK 6,qe (wW 6) (wL [xI 7,qf 8 2,xj 9 8 1,wG 10 7 9,qf 11 10,xF 12 11 0,qO 13 11 (xN (xE 12 4)),xx 14 11 .gtr 13 qP,xL 15 11 14 wa] (wx 15 [xI 16,wD 17 16 1,wd 18,qf 19 2,xj 20 19 1,xI 21,wm 22 .sub 20 21,wl 23 (wS 18 22),wm 24 .add 17 23,qf 6 24]) [wd 25,qf 26 2,xj 27 26 1,wl 28 (wS 25 27),qb 29 (.bin .add wJ (.t 28)),qf 6 29])⟩
theorem vR:aA Tryz.prog eL=some ki:=by kernel_rfl
def iw:AK:=qX [xa 3 1 1,qW 4 [qx,qx,.nils]] [wd 10,xX 11 4 [(0,1,wJ),(1,1,qP),xe 2 2,xe 3 3],wE 12 (wS 10 11),wu 13 [qx,qx,.nils] [xR 12],qW 5 [qx,qx,.nils],qT 3 5 13] (qX [xc 14 5,wd 17,qt 15 14,wD 16 15 2,wl 18 (xE 17 5),qL 14 15,wm 19 .add 16 18,xy 20 5,xz 20 19] [wd 21,xX 22 6 [xe 0 3,xe 1 5,xe 2 2,(3,1,wJ),xe 4 7,xe 5 4],wE 23 (wS 21 22),qf 6 23] (xT 7 (xD 0 [yh 24,xJ 25,wG 26 24 25] 26 0 1 (qe [wu 29 [.nils,.nils,qx,qx,.nils] [],qW 8 [.nils,.nils,qx,qx,.nils],qT 5 8 29] (xQ [wd 30,xX 31 5 [(0,1,wJ),xe 1 2,(2,1,qP),xe 3 3,xe 4 4],wE 32 (wS 30 31),qf 9 32] (xC 2 [qf 33 9,qB 34 .gtr 33 0] 34 2 3 (.reg [xy 37 8,wd 39,xy 41 5,qt 38 37,wy 40 1 3,qt 42 41,qn 43 iy [.t 39,.t 40,.t 42],qL 37 38,qI 44 4 [qx,qx,.nils,qx] 1 [wt 0 4 43],qL 37 38,wP 45 4 48 38 44,xy 46 8,xz 46 45]) (qf 35 9) (xj 36 35 1) 9 36) (qX [wd 47,xy 48 5,qt 49 48,wl 50 (wS 47 49),qp 51 3 8,xz 51 50] [wd 52,xX 53 5 [xe 0 2,(1,1,wJ),xe 2 2,(3,1,wJ),xe 4 3],wE 54 (wS 52 53),xm 55 8,xz 55 54] (xQ [xJ 56,wI 57 56 1,qf 58 57,xg 59 58 7,xg 60 58 6,x6 61 58 .sub 60 wJ,x6 62 58 .eql 59 (.t 61),xg 63 58 62,xF 64 63 0,qO 65 63 (xN (xE 64 3)),xx 66 63 .gtr 65 qP,qN 67 58 (qQ 63 (.t 66) wa),xW 68 58 67] (yg 68 [xm 69 8,qR 1 69 (qi 3)]) (xQ [xm 70 8,qt 71 70] (.blk 4 (ye 73 71 1 72 73 (qv 72 (qe [qp 74 3 8,qR 1 74 qP] (.reg [wd 75,yh 76,xJ 77,qn 78 eL [.t 75,.t 76,.t 77],xX 79 1 [xR 78],qp 80 4 8,xz 80 79])) (ye 82 71 2 81 82 (yg 81 [wd 83,yh 84,xJ 85,qn 86 eL [.t 83,.t 84,.t 85],wd 87,yh 88,xJ 89,qn 90 eL [.t 87,.t 88,.t 89],xX 91 2 [xR 86,wC 1 90],qp 92 4 8,xz 92 91]))))) (.reg [xm 93 5,qt 94 93,wy 95 5 8,qI 96 5 [.nils,.nils,qx,qx,.nils] 1 [wt 0 5 95],wP 97 5 88 94 96,xm 98 5,xz 98 97])))))) (yh 27) 28 27 1 7 28) [wy 99 3 5,qT 3 4 99]))
def ib:FK:=⟨100,[xH 4 3],(AK.whole iw)⟩
theorem sT:aA Tryz.prog ii=some ib:=by kernel_rfl
def jU:FK:=⟨43,xY,qX [xa 2 3 0,qc 4 xq] (xA (xX 8 0 []) 5 8) (xT 6 (xD 0 [xJ 9,xm 10 2,qt 11 10,we 12 11,wG 13 9 12] 13 0 1 (qe (wW 7) (xD 2 [yh 16,xm 17 2,qt 18 17,xJ 19,wo 20 5 18 19,qp 21 4 20,qt 22 21,we 23 22,wG 24 16 23] 24 2 3 (qe [xm 27 2,qt 28 27,xJ 29,wo 30 5 28 29,qp 31 4 30,qt 32 31,yh 33,wo 34 1 32 33,qt 35 34,xI 36,wm 37 .eql 35 36] (wb 37 (qe [wV 38,xJ 39,xX 40 1 [xR 39],wP 41 1 8 38 40,qf 5 41] (.exit 2)))) (yh 25) 26 25 1 7 26)) (xJ 14) 15 14 1 6 15) (xA (wV 42) 4 42))⟩
theorem ry:aA Tryz.prog cE=some jU:=by kernel_rfl
def ip:AK:=qX [qW 2 xP] [wu 9 xP [],qW 3 xP,xz 3 9] (xQ [wd 10,xX 11 4 [(0,1,wJ),xe 1 2,(2,1,wJ),xe 3 3],wE 12 (wS 10 11),qf 4 12] (xC 0 [xt 13,qB 14 .gtr 13 0] 14 0 1 (.reg [xc 17 3,wd 19,qt 18 17,wy 20 1 3,wY 21 ii 19 20,qL 17 18,qI 22 3 [qx,qx,.nils] 1 [wt 0 3 21],qL 17 18,wP 23 3 40 18 22,xc 24 3,xz 24 23]) (xt 15) (xj 16 15 1) 4 16) (wL [wd 25,xX 26 4 [(0,1,qP),(1,1,qP),(2,1,wJ),xe 3 3],wE 27 (wS 25 26),qf 5 27] (xC 2 [wV 28,qB 29 .gtr 28 0] 29 2 3 (qX [xc 32 3,wd 34,xc 35 3,qt 33 32,qt 36 35,we 37 36,wl 38 (wS 34 37),qL 32 33,wo 39 3 33 38,qf 6 39] [wd 40,xJ 41,qZ 42 41,xm 43 42,qt 44 43,we 45 44,wl 46 (wS 40 45),qf 7 46] (qe [wd 47,xJ 48,qZ 49 48,xy 50 49,qt 51 50,wl 52 (wS 47 51),wu 53 [qx,.nils] [xR 52],qW 8 [qx,.nils],qT 2 8 53] (xQ [xJ 54,qZ 55 54,wy 56 3 55,yh 57,wY 58 cE 56 57,we 59 58,qc 60 qP] (qS 4 (qe [wG 61 60 59] (.seq (ww 61 4) (wq 5 (.reg [xy 62 8,wd 64,xJ 65,qZ 66 65,xy 67 66,qt 63 62,qt 68 67,wl 69 (wS 64 68),qL 62 63,xV 70 1 xu 1 [xR 69],wP 71 1 8 63 70,xy 72 8,xz 72 71]) (xA (wD 73 60 1) 60 73))))) (qe [yh 74,qB 75 .gtr 74 0] (yg 75 [xJ 76,qZ 77 76,xm 78 77,yh 80,xJ 81,qZ 82 81,xm 83 82,yh 85,qt 79 78,qt 84 83,wo 86 5 84 85,xc 87 86,qt 88 87,wy 89 2 8,qI 90 2 [qx,.nils] 1 [wt 0 2 89],qL 78 79,qL 83 84,qL 87 88,wP 91 2 32 88 90,qL 78 79,wo 92 5 79 80,xc 93 92,xz 93 91]))))) (wV 30) (xj 31 30 1) 5 31) [wy 94 1 3,xz 2 94]))
def gZ:FK:=⟨95,[xH 2 1],(AK.whole ip)⟩
theorem sG:aA Tryz.prog cW=some gZ:=by kernel_rfl
def di:AK:=qe [xa 1 5 0,qW 2 [.nils,.nils,qx,qx,.nils]] (.cut (.ot (.one (wB 3 (.c .any)) (.one [xm 9 1] (.one [qp 11 3 1] (.one [qp 14 4 1] (.one [qt 10 9] (.one [qt 12 11] (.one [qt 15 14] (qY [qI 7 2 [qx,.nils] 0 [],x9,yb,qL 14 15] (qY [qI 8 4 [qx,qx,.nils,qx] 0 [],x9,yb,qL 14 15] (yf [xX 13 0 [],x9,yb,qL 14 15] [wP 16 1 8 13 15,x9,yb] (.one [wu 17 [.nils,.nils,qx,qx,.nils] [xR 7,wC 1 8,wC 2 10,wC 3 12,wC 4 16]] (yf [qW 3 [.nils,.nils,qx,qx,.nils]] [qT 5 3 17] .done))) (wM [xX 13 0 [],x9,yb,qL 14 15] (qY [qI 8 4 [qx,qx,.nils,qx] 0 [],x9,yb,qL 14 15] (wM [wP 16 1 8 13 15,x9,yb] (.one [wu 17 [.nils,.nils,qx,qx,.nils] [xR 7,wC 1 8,wC 2 10,wC 3 12,wC 4 16]] (yf [qW 3 [.nils,.nils,qx,qx,.nils]] [qT 5 3 17] .done))) (yf [wP 16 1 8 13 15,x9,yb] [qI 8 4 [qx,qx,.nils,qx] 0 [],x9,yb,qL 14 15] (.one [wu 17 [.nils,.nils,qx,qx,.nils] [xR 7,wC 1 8,wC 2 10,wC 3 12,wC 4 16]] (yf [qW 3 [.nils,.nils,qx,qx,.nils]] [qT 5 3 17] .done)))))) (qY [qI 8 4 [qx,qx,.nils,qx] 0 [],x9,yb,qL 14 15] (qY [qI 7 2 [qx,.nils] 0 [],x9,yb,qL 14 15] (yf [xX 13 0 [],x9,yb,qL 14 15] [wP 16 1 8 13 15,x9,yb] (.one [wu 17 [.nils,.nils,qx,qx,.nils] [xR 7,wC 1 8,wC 2 10,wC 3 12,wC 4 16]] (yf [qW 3 [.nils,.nils,qx,qx,.nils]] [qT 5 3 17] .done))) (wM [xX 13 0 [],x9,yb,qL 14 15] (qY [qI 7 2 [qx,.nils] 0 [],x9,yb,qL 14 15] (wM [wP 16 1 8 13 15,x9,yb] (.one [wu 17 [.nils,.nils,qx,qx,.nils] [xR 7,wC 1 8,wC 2 10,wC 3 12,wC 4 16]] (yf [qW 3 [.nils,.nils,qx,qx,.nils]] [qT 5 3 17] .done))) (yf [wP 16 1 8 13 15,x9,yb] [qI 7 2 [qx,.nils] 0 [],x9,yb,qL 14 15] (.one [wu 17 [.nils,.nils,qx,qx,.nils] [xR 7,wC 1 8,wC 2 10,wC 3 12,wC 4 16]] (yf [qW 3 [.nils,.nils,qx,qx,.nils]] [qT 5 3 17] .done)))))) (wM [xX 13 0 [],x9,yb,qL 14 15] (qY [qI 7 2 [qx,.nils] 0 [],x9,yb,qL 14 15] (qY [qI 8 4 [qx,qx,.nils,qx] 0 [],x9,yb,qL 14 15] (wM [wP 16 1 8 13 15,x9,yb] (.one [wu 17 [.nils,.nils,qx,qx,.nils] [xR 7,wC 1 8,wC 2 10,wC 3 12,wC 4 16]] (yf [qW 3 [.nils,.nils,qx,qx,.nils]] [qT 5 3 17] .done))) (yf [wP 16 1 8 13 15,x9,yb] [qI 8 4 [qx,qx,.nils,qx] 0 [],x9,yb,qL 14 15] (.one [wu 17 [.nils,.nils,qx,qx,.nils] [xR 7,wC 1 8,wC 2 10,wC 3 12,wC 4 16]] (yf [qW 3 [.nils,.nils,qx,qx,.nils]] [qT 5 3 17] .done)))) (qY [qI 8 4 [qx,qx,.nils,qx] 0 [],x9,yb,qL 14 15] (qY [qI 7 2 [qx,.nils] 0 [],x9,yb,qL 14 15] (wM [wP 16 1 8 13 15,x9,yb] (.one [wu 17 [.nils,.nils,qx,qx,.nils] [xR 7,wC 1 8,wC 2 10,wC 3 12,wC 4 16]] (yf [qW 3 [.nils,.nils,qx,qx,.nils]] [qT 5 3 17] .done))) (yf [wP 16 1 8 13 15,x9,yb] [qI 7 2 [qx,.nils] 0 [],x9,yb,qL 14 15] (.one [wu 17 [.nils,.nils,qx,qx,.nils] [xR 7,wC 1 8,wC 2 10,wC 3 12,wC 4 16]] (yf [qW 3 [.nils,.nils,qx,qx,.nils]] [qT 5 3 17] .done)))) (wM [wP 16 1 8 13 15,x9,yb] (qY [qI 7 2 [qx,.nils] 0 [],x9,yb,qL 14 15] (wM [qI 8 4 [qx,qx,.nils,qx] 0 [],x9,yb,qL 14 15] (.one [wu 17 [.nils,.nils,qx,qx,.nils] [xR 7,wC 1 8,wC 2 10,wC 3 12,wC 4 16]] (yf [qW 3 [.nils,.nils,qx,qx,.nils]] [qT 5 3 17] .done))) (yf [qI 8 4 [qx,qx,.nils,qx] 0 [],x9,yb,qL 14 15] [qI 7 2 [qx,.nils] 0 [],x9,yb,qL 14 15] (.one [wu 17 [.nils,.nils,qx,qx,.nils] [xR 7,wC 1 8,wC 2 10,wC 3 12,wC 4 16]] (yf [qW 3 [.nils,.nils,qx,qx,.nils]] [qT 5 3 17] .done)))))))))))))))))) (xQ (wW 4) (xD 0 [xt 18,xc 19 1,qt 20 19,we 21 20,wG 22 18 21] 22 0 1 (.reg [xc 25 3,xc 27 1,xt 29,xc 34 1,xt 36,qt 26 25,qt 28 27,wo 30 2 28 29,xc 31 30,qt 32 31,qt 35 34,wo 37 2 35 36,xy 38 37,qt 39 38,xX 33 0 [],qL 25 26,qL 27 28,qL 31 32,qL 34 35,qL 38 39,wP 40 1 8 33 39,qL 25 26,qL 27 28,qL 31 32,wu 41 [qx,.nils] [xR 32,wC 1 40],qI 42 2 [qx,.nils] 1 [wt 0 2 41],qL 25 26,wP 43 2 32 26 42,xc 44 3,xz 44 43]) (xt 23) 24 23 1 4 24) (xT 5 (xD 2 [wV 45,xy 46 1,qt 47 46,we 48 47,wG 49 45 48] 49 2 3 (qe [xy 52 1,qt 53 52,wV 54,wo 55 4 53 54,wy 56 4 55,qW 6 [qx,qx,.nils,qx],qT 4 6 56] (.reg [xy 57 3,xc 59 6,xy 61 6,xm 64 6,qp 67 3 6,qt 58 57,qt 60 59,qt 62 61,qt 65 64,qt 68 67,xX 63 0 [],qL 57 58,qL 59 60,qL 61 62,qL 64 65,qL 67 68,wP 66 1 8 63 65,qL 57 58,qL 59 60,qL 61 62,qL 67 68,wu 69 [qx,qx,.nils,qx] [xR 60,wC 1 62,wC 2 66,wC 3 68],qI 70 4 [qx,qx,.nils,qx] 1 [wt 0 4 69],qL 57 58,wP 71 4 48 58 70,xy 72 3,xz 72 71])) (wV 50) 51 50 1 5 51) [wy 73 5 3,qT 5 2 73])))
def dq:FK:=⟨74,[xH 2 5],(AK.whole di)⟩
theorem lT:aA Tryz.prog dj=some dq:=by kernel_rfl
def lz:FK:=⟨29,[xH 2 3],qX [xa 1 3 0,qW 2 [qx,qx,.nils]] [xc 5 1,qt 6 5,xy 7 1,qt 8 7,wu 9 [qx,qx,.nils] [xR 6,wC 1 8],qW 3 [qx,qx,.nils],qT 3 3 9] (xT 4 (xD 0 [xt 10,xm 11 1,qt 12 11,we 13 12,wG 14 10 13] 14 0 1 (.reg [xm 17 3,xm 19 1,xt 21,qt 18 17,qt 20 19,wo 22 5 20 21,wy 23 5 22,xi 24 dj 23,qL 17 18,qI 25 5 [.nils,.nils,qx,qx,.nils] 1 [wt 0 5 24],qL 17 18,wP 26 5 88 18 25,xm 27 3,xz 27 26]) (xt 15) 16 15 1 4 16) [wy 28 3 3,qT 3 2 28])⟩
theorem sW:aA Tryz.prog iu=some lz:=by kernel_rfl
def gR:FK:=⟨25,[xH 2 1],qX [xa 1 1 0,qW 2 xP] [wu 5 xP [],qW 3 xP,xz 3 5] (xT 4 (xD 0 [xt 6,xc 7 1,qt 8 7,we 9 8,wG 10 6 9] 10 0 1 (.reg [xc 13 3,xc 15 1,xt 17,qt 14 13,qt 16 15,wo 18 3 16 17,wy 19 3 18,xi 20 iu 19,qL 13 14,qI 21 3 [qx,qx,.nils] 1 [wt 0 3 20],qL 13 14,wP 22 3 40 14 21,xc 23 3,xz 23 22]) (xt 11) 12 11 1 4 12) [wy 24 1 3,xz 2 24])⟩
theorem my:aA Tryz.prog dP=some gR:=by kernel_rfl
def iC:AK:=qX [qW 2 xP] [wd 7,xi 8 cW 7,xi 9 dP 8,qW 3 xP,xz 3 9] (qX [xc 10 3,wd 12,xc 13 3,qt 11 10,qt 14 13,we 15 14,wl 16 (wS 12 15),qL 10 11,wo 17 3 11 16,qf 4 17] [xt 18,qZ 19 18,xm 20 19,wd 22,xt 23,qZ 24 23,xm 25 24,qt 21 20,qt 26 25,we 27 26,wl 28 (wS 22 27),qL 20 21,wo 29 5 21 28,qf 5 29] (qe [wd 30,xt 31,qZ 32 31,xy 33 32,xt 35,qZ 36 35,xm 37 36,qt 34 33,qt 38 37,we 39 38,xX 40 5 [xe 0 (-1),wC 1 34,wC 2 39,(3,1,qP),(4,1,wJ)],wE 41 (wS 30 40),qf 6 41] (xQ [wd 42,wl 43 (xE 42 32)] (.blk 0 (ye 45 43 0 44 45 (qv 44 (.reg [wV 46,wd 47,wl 48 (xE 47 5),qZ 49 46,xm 50 49,xz 50 48]) (ye 52 43 1 51 52 (qv 51 (qe [wV 53,qZ 54 53,qp 55 4 54,qt 56 55,we 57 56,qB 58 .gtr 57 0] (yg 58 [wV 59,qZ 60 59,qp 61 4 60,qt 62 61,xJ 63,wh 64 1 62 qP,xz 64 63])) (ye 66 43 2 65 66 (qv 65 (.reg [wV 67,xJ 68,qZ 69 67,qp 70 3 69,xz 70 68]) (ye 72 43 3 71 72 (qv 71 (qe [wV 73,qZ 74 73,xy 75 74,qt 76 75,we 77 76,qB 78 .gtr 77 0] (yg 78 [wV 79,qZ 80 79,xy 81 80,qt 82 81,xJ 83,wh 84 4 82 qP,xy 85 84,xz 85 83])) (ye 87 43 4 86 87 (qv 86 (qe [wV 88,qZ 89 88,xy 90 89,qt 91 90,we 92 91,qB 93 .gtr 92 0] (yg 93 [wV 94,qZ 95 94,xy 96 95,wV 98,qZ 99 98,xy 100 99,xJ 105,xV 106 1 xu 1 [xR 105],qt 97 96,qt 101 100,wh 102 4 101 qP,xm 103 102,qt 104 103,wP 107 1 8 104 106,qL 96 97,wh 108 4 97 qP,xm 109 108,xz 109 107])) (ye 111 43 5 110 111 (qv 110 (.reg [wV 112,wV 113,qZ 114 113,xc 115 114,qt 116 115,xJ 117,xX 118 1 [xR 117],wu 119 [qx,.nils] [(0,1,qP),wC 1 118],qI 120 2 [qx,.nils] 1 [wt 0 2 119],wP 121 2 32 116 120,qZ 122 112,xc 123 122,xz 123 121]) (ye 125 43 6 124 125 (qv 124 (.reg [xt 126,xt 127,qZ 128 127,xc 129 128,wd 131,qt 130 129,wl 132 (xE 131 2),qL 129 130,wm 133 .add 130 132,qZ 134 126,xy 135 134,xz 135 133]) (ye 137 43 7 136 137 (wb 136 (qe [wV 138,qZ 139 138,xy 140 139,qt 141 140,we 142 141,qB 143 .gtr 142 0] (yg 143 [wV 144,qZ 145 144,xy 146 145,wd 148,xV 149 1 xu 3 [xe 0 256,xe 1 (-1),(2,1,wJ)],qt 147 146,wE 150 (wS 148 149),qL 146 147,wh 151 4 147 qP,qp 152 3 151,xz 152 150]))))))))))))))))))) (qH [wy 153 1 3,xz 2 153]))))
def ic:FK:=⟨154,[xH 2 1],(AK.whole iC)⟩
theorem ta:aA Tryz.prog im=some ic:=by kernel_rfl
def eU:FK:=⟨12,xY,x7 (wB 4 (.c wn)) [xI 5,wd 6,xI 7,we 8 7,wl 9 (wS 6 8),wo 10 1 5 9,qt 11 10,qf 4 11]⟩
theorem jz:aA Tryz.prog bw=some eU:=by kernel_rfl
def gX:FK:=⟨21,[xH 4 4],qe [qW 4 [qx,qx,wn,.nils]] (wL [xI 5,we 6 5,wI 7 6 0,yh 8,xg 9 8 0,qN 10 8 (xN (xE 9 3)),x6 11 8 .eql 10 qP,xW 12 8 11] (wx 12 [wd 13,xX 14 10 [(0,1,qP),(1,1,wJ),xe 2 2,xe 3 3,xe 4 5,xe 5 7,xe 6 15,xe 7 16,xe 8 100,xe 9 255],wE 15 (wS 13 14),wu 16 [qx,qx,wn,.nils] [(0,1,wJ),wC 1 15],qT 4 4 16]) [wd 17,xI 18,wY 19 bw 17 18,wu 20 [qx,qx,wn,.nils] [xe 0 2,wC 2 19],qT 4 4 20])⟩
theorem td:aA Tryz.prog eI=some gX:=by kernel_rfl
def eA:FK:=⟨47,[xH 6 4],qe [qW 6 [qx,qx,wn,.nils]] (qC [qf 8 2,qB 9 .lss 8 2,qf 10 9,xg 11 10 0,qN 12 10 (xN (xE 11 4)),x6 13 10 .eql 12 qP,xW 14 10 13] (wx 14 [wd 15,xI 16,wY 17 eI 15 16,qT 4 6 17]) (qC [wd 18,wl 19 (xE 18 7),wI 20 19 0] (wx 20 [wd 21,xX 22 3 [xe 0 11,xe 1 12,xe 2 11],wE 23 (wS 21 22),wd 24,xI 25,qf 26 2,xj 27 26 1,qn 28 be [.t 24,.t 25,.t 27],qI 29 4 [qx,qx,wn,.nils] 1 [wt 0 4 28],wu 30 [qx,qx,wn,.nils] [xR 23,wC 3 29],qT 4 6 30]) (x7 [wd 31,xX 32 9 [xe 0 3,xe 1 3,xe 2 4,xe 3 5,xe 4 6,xe 5 7,xe 6 8,xe 7 9,xe 8 10],wE 33 (wS 31 32),qf 7 33] [yh 34,wd 35,xI 36,qf 37 2,xj 38 37 1,qn 39 be [.t 35,.t 36,.t 38],wd 40,xI 41,qf 42 2,xj 43 42 1,qn 44 be [.t 40,.t 41,.t 43],qI 45 4 [qx,qx,wn,.nils] 2 [wt 0 4 39,wt 4 4 44],wu 46 [qx,qx,wn,.nils] [xR 34,wC 3 45],qT 4 6 46])))⟩
theorem lh:aA Tryz.prog be=some eA:=by kernel_rfl
def gT:FK:=⟨99,[xH 4 4],qX [qW 4 [qx,qx,wn,.nils]] [qc 5 (.c .any),wd 9,qZ 10 9,xc 11 10,wd 13,qZ 14 13,xm 15 14,xI 17,qt 12 11,qt 16 15,qn 18 be [.t 12,.t 16,.t 17],qW 5 [qx,qx,wn,.nils],qT 4 5 18] (qC [wd 19,qZ 20 19,xy 21 20,qt 22 21,we 23 22,wI 24 23 0,qf 25 24,xg 26 25 0,qN 27 25 (qA 26),xo 28 25 0 27,xl 29 25 28,qN 30 25 (xN (xE 29 4)),x6 31 25 .gtr 30 qP,xW 32 25 31] (wx 32 [wy 33 4 5,qT 4 4 33]) (qX [qc 6 (.c .any),wd 34,qZ 35 34,xy 36 35,wd 38,qZ 39 38,xc 40 39,wd 42,qZ 43 42,xy 44 43,qt 37 36,qt 41 40,qt 45 44,we 46 45,wl 47 (wS 41 46),qL 36 37,wo 48 3 37 47,wy 49 3 48,qW 6 [wn,.nils,.nils],qT 3 6 49] [xc 50 6,qt 51 50,wu 52 [qx,qx,wn,.nils] [xe 0 13,wC 2 51],qW 7 [qx,qx,wn,.nils],qT 4 7 52] (qC (wW 8) (xD 0 [qf 53 8,xy 54 6,qt 55 54,we 56 55,wG 57 53 56] 57 0 1 (.reg [qp 60 3 7,wd 62,qZ 63 62,xc 64 63,wd 66,qZ 67 66,xm 68 67,qt 61 60,qt 65 64,qt 69 68,qn 70 be [.t 65,.t 69,qi 2],qL 60 61,xV 71 4 [qx,qx,wn,.nils] 1 [wt 0 4 70],wP 72 4 56 61 71,qp 73 3 7,xz 73 72]) (qf 58 8) 59 58 1 8 59) (wL [wd 74,qZ 75 74,xc 76 75,qt 77 76,wl 78 (xE 77 2),wI 79 78 0] (wx 79 [wy 80 4 7,qT 4 4 80]) [wd 81,qZ 82 81,xc 83 82,xV 85 1 xu 4 [xe 0 3,xe 1 4,xe 2 8,xe 3 10],wd 88,qZ 89 88,xc 90 89,wd 92,qZ 93 92,xm 94 93,qt 84 83,wy 87 4 7,qt 91 90,qt 95 94,wE 86 (wS 84 85),qz (some 4) 7 87,qL 90 91,qL 94 95,qn 96 be [.t 91,.t 95,qi 2],qz (some 4) 7 87,qI 97 4 [qx,qx,wn,.nils] 2 [wt 0 4 87,wt 4 4 96],wu 98 [qx,qx,wn,.nils] [xR 86,wC 3 97],qT 4 4 98]))))⟩
theorem mI:aA Tryz.prog dR=some gT:=by kernel_rfl
def gf:FK:=⟨46,xO,qX (wB 2 (.c wn)) [wd 3,wd 4,qZ 5 4,qp 6 3 5,qt 7 6,wD 8 7 1,qZ 9 3,qp 10 3 9,xz 10 8] (wL [wd 11,qZ 12 11,xc 13 12,qt 14 13,wl 15 (xE 14 9),wI 16 15 0,qf 17 16,xF 18 17 0,qO 19 17 (qA 18),xr 20 17 2 19,xb 21 17 20,qO 22 17 (qU 21),xx 23 17 .gtr 22 qP,xL 24 17 23 wa] (wx 24 [wd 25,qZ 26 25,xc 27 26,wd 29,qZ 30 29,xm 31 30,qt 28 27,qt 32 31,wY 33 bw 28 32,qf 2 33]) [wd 34,qZ 35 34,qp 36 3 35,wd 39,qZ 40 39,qp 41 3 40,qt 37 36,qB 38 .rem 37 24,qt 42 41,qB 43 .rem 42 24,wD 44 43 1,qb 45 (.slStr (yi [97,98,99,100,101,103,104,105,106,107,108,109,110,112,113,114,115,116,117,118,119,120,121,122]) (some (.t 38)) (some (.t 44))),qf 2 45])⟩
theorem lK:aA Tryz.prog dg=some gf:=by kernel_rfl
def ef:FK:=⟨24,[xH 4 5],qX [xa 3 4 1,qW 4 [qx,wn,.nils,.nils,.nils]] (xB (wd 6) (xi 7 dg 6) 5 7) (x7 [wd 8,qI 9 1 [wn] 0 [],wd 10,qZ 11 10,xm 12 11,qt 13 12,wP 14 1 16 9 13,wV 15,qI 16 1 [wn] 1 [xR 15],wP 17 1 16 14 16,qZ 18 8,xm 19 18,xz 19 17] [wV 20,wy 21 4 3,qI 22 4 [qx,qx,wn,.nils] 1 [wt 0 4 21],wu 23 [qx,wn,.nils,.nils,.nils] [(0,1,wJ),wC 1 20,wC 2 22],qT 5 4 23])⟩
theorem iG:aA Tryz.prog bZ=some ef:=by kernel_rfl
def gQ:FK:=⟨14,[xH 2 4],x7 [qW 2 [qx,qx,wn,.nils]] [wd 3,wd 5,qZ 6 5,xc 7 6,xV 9 1 xu 6 [xe 0 16,xe 1 16,xe 2 16,xe 3 8,xe 4 17,(5,1,qP)],qt 8 7,xS 4 (xE 3 2),qL 7 8,wE 10 (wS 8 9),wu 11 [qx,qx,wn,.nils] [(0,1,wJ),wC 1 10],qI 12 4 [qx,qx,wn,.nils] 2 [wt 0 4 4,wt 4 4 11],wu 13 [qx,qx,wn,.nils] [xe 0 7,wC 3 12],qT 4 2 13]⟩
theorem mQ:aA Tryz.prog cy=some gQ:=by kernel_rfl
def dB:AK:=qX (wB 4 xq) [wd 9,wd 10,qZ 11 10,xc 12 11,qt 13 12,xX 14 5 [xe 0 2,xe 1 3,(2,1,wJ),(3,1,qP),xe 4 5],wE 15 (wS 13 14),wu 16 [qx,qx,wn,.nils] [(0,1,wJ),wC 1 15],wY 17 bZ 9 16,qW 5 [qx,wn,.nils,.nils,.nils],qT 5 5 17] (qX [xy 18 5,qt 19 18,wu 20 [qx,qx,wn,.nils] [xe 0 2,wC 2 19],qW 6 [qx,qx,wn,.nils],qT 4 6 20] [wd 21,xI 22,xj 23 22 1,wY 24 aN 21 23,qf 7 24] (qe [xy 25 5,qt 26 25,wy 27 4 6,wu 28 [qx,qx,wn,.nils] [(0,1,wJ),(1,1,wJ)],qI 29 4 [qx,qx,wn,.nils] 2 [wt 0 4 27,wt 4 4 28],wu 30 [qx,qx,wn,.nils] [xe 0 4,wC 3 29],qI 31 4 [qx,qx,wn,.nils] 1 [wt 0 4 30],wu 32 [qx,wn,.nils,.nils,.nils] [xe 0 2,wC 1 26,wC 2 31],qW 8 [qx,wn,.nils,.nils,.nils],qT 5 8 32] (.cut (.reg [wd 33,wd 34,qZ 35 34,qp 36 4 35,qt 37 36,xj 38 37 2,qZ 39 33,qp 40 4 39,xz 40 38]) (qH [yh 44,wy 41 5 5,wy 42 4 6,xV 43 4 [qx,qx,wn,.nils] 1 [wt 0 4 42],wy 45 5 8,xV 46 5 [qx,wn,.nils,.nils,.nils] 1 [wt 0 5 45],wP 47 5 96 44 46,qz (some 5) 5 41,qz (some 4) 6 42,wu 48 [qx,wn,.nils,.nils,.nils] [xe 0 6,wC 2 43,wC 3 47],qI 49 5 [qx,wn,.nils,.nils,.nils] 2 [wt 0 5 41,wt 5 5 48],qf 4 49]))))
def dw:FK:=⟨50,xY,(AK.whole dB)⟩
theorem mB:aA Tryz.prog dz=some dw:=by kernel_rfl
def gJ:FK:=⟨128,xY,qX (wB 4 xq) [wd 7,wd 8,qZ 9 8,qp 10 4 9,qt 11 10,xj 12 11 1,qZ 13 7,qp 14 4 13,xz 14 12] (qe [wd 15,qZ 16 15,xc 17 16,qt 18 17,wl 19 (xE 18 13),qf 5 19] (qV 0 (qe [wV 21,qB 22 .lss 21 3,qf 23 22,xF 24 23 0,qO 25 23 (qA 24),xr 26 23 2 25,xb 27 23 26,qO 28 23 (qU 27),xx 29 23 .gtr 28 qP,xL 30 23 29 wa,qf 20 30] (qv 20 (qH [wd 31,qZ 32 31,xc 33 32,wd 35,qZ 36 35,xm 37 36,wd 40,qt 34 33,qt 38 37,wY 39 bw 34 38,xS 41 (xE 40 3),qI 42 4 [qx,qx,wn,.nils] 1 [wt 0 4 41],wu 43 [qx,wn,.nils,.nils,.nils] [xe 0 2,wC 1 39,wC 2 42],qI 44 5 [qx,wn,.nils,.nils,.nils] 1 [wt 0 5 43],qf 4 44]) (qe (xB (wV 46) (qB 47 .lss 46 5) 45 47) (qv 45 (qH [wd 48,wd 49,xS 50 (xE 49 3),wY 51 bZ 48 50,qI 52 5 [qx,wn,.nils,.nils,.nils] 1 [wt 0 5 51],qf 4 52]) (qe [wV 54,qB 55 .lss 54 7,qf 56 55,xg 57 56 1,x6 58 56 .lss 57 (qi 2),xW 59 56 58,qf 53 59] (qv 53 (qH [wd 60,xS 61 (xE 60 3),qI 62 4 [qx,qx,wn,.nils] 1 [wt 0 4 61],wu 63 [qx,wn,.nils,.nils,.nils] [xe 0 3,wC 2 62],qI 64 5 [qx,wn,.nils,.nils,.nils] 1 [wt 0 5 63],qf 4 64]) (qe (xB (wV 66) (wI 67 66 7) 65 67) (qv 65 (qH [wd 68,xi 69 cy 68,wd 70,xS 71 (xE 70 2),qI 72 4 [qx,qx,wn,.nils] 2 [wt 0 4 69,wt 4 4 71],wu 73 [qx,wn,.nils,.nils,.nils] [xe 0 4,wC 2 72],qI 74 5 [qx,wn,.nils,.nils,.nils] 1 [wt 0 5 73],qf 4 74]) (qe (xB (wV 76) (wI 77 76 8) 75 77) (qv 75 (qH [wd 78,xi 79 cy 78,qI 80 4 [qx,qx,wn,.nils] 1 [wt 0 4 79],wu 81 [qx,qx,wn,.nils] [xe 0 12,wC 3 80],qI 82 4 [qx,qx,wn,.nils] 1 [wt 0 4 81],wu 83 [qx,wn,.nils,.nils,.nils] [xe 0 3,wC 2 82],qI 84 5 [qx,wn,.nils,.nils,.nils] 1 [wt 0 5 83],qf 4 84]) (qe (xB (wV 86) (qB 87 .lss 86 11) 85 87) (qv 85 (qe [wd 88,xS 89 (xE 88 3),qI 90 4 [qx,qx,wn,.nils] 1 [wt 0 4 89],wd 91,xI 92,xj 93 92 1,wY 94 aN 91 93,wu 95 [qx,wn,.nils,.nils,.nils] [xe 0 5,wC 2 90,wC 3 94],qW 6 [qx,wn,.nils,.nils,.nils],qT 5 6 95] (wL [wd 96,qZ 97 96,xc 98 97,qt 99 98,wl 100 (xE 99 2),wI 101 100 0] (yg 101 [wd 102,xI 103,xj 104 103 1,wY 105 aN 102 104,qp 106 4 6,xz 106 105]) (xB (wy 107 5 6) (qI 108 5 [qx,wn,.nils,.nils,.nils] 1 [wt 0 5 107]) 4 108))) (qe [wV 110,wI 111 110 11,qf 112 111,xF 113 112 0,qO 114 112 (qA 113),xr 115 112 0 114,xb 116 112 115,qO 117 112 (xN (xE 116 3)),xx 118 112 .eql 117 qP,xL 119 112 118 wa,qf 109 119] (wx 109 [wd 120,xS 121 (xE 120 2),qI 122 4 [qx,qx,wn,.nils] 1 [wt 0 4 121],wu 123 [qx,wn,.nils,.nils,.nils] [xe 0 7,wC 2 122],qI 124 5 [qx,wn,.nils,.nils,.nils] 1 [wt 0 5 123],qf 4 124])))))))))))))) (qH [wd 125,xI 126,wY 127 dz 125 126,qf 4 127])))⟩
theorem mz:aA Tryz.prog dM=some gJ:=by kernel_rfl
def fS:FK:=⟨40,xY,qX (wB 4 xq) [wd 8,qZ 9 8,xm 10 9,qt 11 10,qf 5 11] (xG (qI 12 5 [qx,wn,.nils,.nils,.nils] 0 []) 6 12 (qC [wd 13,qZ 14 13,xc 15 14,qt 16 15,xX 17 4 [xe 0 2,xe 1 3,(2,1,wJ),xe 3 4],wE 18 (wS 16 17),qf 7 18] (xC 0 [yh 19,qB 20 .gtr 19 0,qf 21 20,xF 22 21 0,qO 23 21 (qA 22),xr 24 21 4 23,xb 25 21 24,xx 26 21 .gtr 25 qP,xL 27 21 26 wa] 27 0 1 (.reg [xJ 30,wd 31,xI 32,wY 33 dM 31 32,wP 34 5 96 30 33,qf 6 34]) (yh 28) (xj 29 28 1) 7 29) (x7 [wd 35,wV 36,qZ 37 35,xm 38 37,xz 38 36] (xA (xJ 39) 4 39))))⟩
theorem lW:aA Tryz.prog aN=some fS:=by kernel_rfl
def eZ:AK:=qX [qW 6 [wn,.nils,.nils]] [wd 8,qI 9 1 [wn] 3 [(0,1,yi [97]),(1,1,yi [98]),(2,1,yi [99])],qf 10 2,qb 11 (.slS 1 (.t 9) none (some (.t 10))),qZ 12 8,xm 13 12,xz 13 11] (qe [wd 14,qf 15 2,xj 16 15 1,qZ 17 14,qp 18 3 17,xz 18 16] (.cut (.reg [xI 19,qI 20 1 [wn] 0 [],wd 21,qZ 22 21,xm 23 22,qt 24 23,wP 25 1 16 20 24,wu 26 [wn,.nils,.nils] [xR 19,wC 1 25],qW 7 [wn,.nils,.nils],qT 3 7 26]) (qe [wd 27,qn 28 aN (xE 27 3),xm 29 7,xz 29 28] (wL [wd 30,qZ 31 30,qp 32 4 31,qt 33 32,qB 34 .gtr 33 0,qf 35 34,xF 36 35 0,qO 37 35 (qA 36),xr 38 35 0 37,xb 39 35 38,qO 40 35 (xN (xE 39 4)),xx 41 35 .gtr 40 qP,xL 42 35 41 wa] (wb 42 (qe [wd 43,wd 44,qZ 45 44,qp 46 4 45,qt 47 46,xj 48 47 1,qZ 49 43,qp 50 4 49,xz 50 48] (.reg [xm 51 7,wd 53,qt 52 51,xS 54 (xE 53 2),qL 51 52,xV 55 4 [qx,qx,wn,.nils] 1 [wt 0 4 54],wu 56 [qx,wn,.nils,.nils,.nils] [xe 0 7,wC 2 55],xV 57 5 [qx,wn,.nils,.nils,.nils] 1 [wt 0 5 56],wP 58 5 96 52 57,xm 59 7,xz 59 58]))) [wy 60 3 7,qT 3 6 60]))))
def eV:FK:=⟨61,[xH 6 3],(AK.whole eZ)⟩
theorem oW:aA Tryz.prog de=some eV:=by kernel_rfl
def kj:FK:=⟨18,xY,qe (wW 4) (xT 5 (xD 0 [wV 6,wd 7,qb 8 (.len true (.t 7)),wG 9 6 8] 9 0 1 (qe [wd 12,wV 13,qb 14 (.idxStr (.t 12) (.t 13)),xI 15,wm 16 .eql 14 15] (wx 16 (xA (wV 17) 4 17))) (wV 10) 11 10 1 5 11) (wB 4 (qi (-1))))⟩
theorem rb:aA Tryz.prog gr=some kj:=by kernel_rfl
def kC:FK:=⟨28,xO,qe (wW 2) (qV 0 (qe [wd 4,qu 5 .geq 4 (.c (qd .u8 97)),wV 6,xF 7 6 0,xx 8 6 .leq 7 (.c (qd .u8 122)),xL 9 6 8 wa,qf 3 9] (qv 3 (qH (wB 2 wJ)) (qe [wd 11,qu 12 .geq 11 (.c (qd .u8 48)),qf 13 12,xF 14 13 0,xx 15 13 .leq 14 (.c (qd .u8 57)),xL 16 13 15 wa,qf 10 16] (qv 10 (qH (wB 2 (qi 2))) (qe [wd 18,qn 19 gr [yi [40,41,123,125,59,44,43,45,42,47,37,60,61,38,33,64],.t 18],qB 20 .geq 19 0,qf 17 20] (qv 17 (qH (wB 2 (qi 3))) (qe [wd 22,qu 23 .eql 22 (.c (qd .u8 32)),qf 24 23,xg 25 24 0,x6 26 24 .eql 25 (.c (qd .u8 10)),xW 27 24 26,qf 21 27] (wT 21 2 (qi 4))))))))) (qH (wW 2)))⟩
theorem rJ:aA Tryz.prog ga=some kC:=by kernel_rfl
def mF:FK:=⟨21,xY,qe (wB 4 wa) (xT 5 (xD 0 [wV 6,wd 7,qb 8 (.len true (.t 7)),wG 9 6 8] 9 0 1 (qe [wd 12,wV 13,qb 14 (.idxStr (.t 12) (.t 13)),xi 15 ga 14,xI 16,wm 17 .neq 15 16] (x4 17 4)) (wV 10) 11 10 1 5 11) [wd 18,qb 19 (.len true (.t 18)),qB 20 .gtr 19 0,qf 4 20])⟩
theorem uD:aA Tryz.prog jp=some mF:=by kernel_rfl
def jB:FK:=⟨2,xK 0,x7 (wB 0 xq) (xA (qI 1 1 [wn] 9 [(0,1,yi [102,110]),(1,1,yi [108,101,116]),(2,1,yi [115,97,121]),(3,1,yi [112,117,116]),(4,1,yi [105,102]),(5,1,yi [101,108,115,101]),(6,1,yi [108,111,111,112]),(7,1,yi [98,97,99,107]),(8,1,yi [100,111])]) 0 1)⟩
theorem pt:aA Tryz.prog db=some jB:=by kernel_rfl
def mH:FK:=⟨18,xO,qX (wB 2 wa) [qn 5 db [],wV 3] (xT 4 (xD 0 [xt 6,yc 7,we 8 7,wG 9 6 8] 9 0 1 (qe [yc 12,xt 13,wo 14 1 12 13,qt 15 14,wd 16,qb 17 (.bins .eql (.t 15) (.t 16))] (wT 17 2 wH)) (xt 10) 11 10 1 4 11) (wB 2 wa))⟩
theorem uJ:aA Tryz.prog jd=some mH:=by kernel_rfl
def lw:FK:=⟨15,xO,x7 (wB 2 wa) [wd 3,qn 4 jp (wR 3 wJ),xt 5,xF 6 5 0,qO 7 5 (.len true (.t 6)),xx 8 5 .leq 7 (qi 4),xL 9 5 8 wa,qf 10 9,xF 11 10 0,qO 12 10 (.call jd (xh 11)),qO 13 10 (wF 12),xL 14 10 13 wa,qf 2 14]⟩
theorem sN:aA Tryz.prog bC=some lw:=by kernel_rfl
def il:FK:=⟨5,xO,qe (wW 2) (wL [wd 3,wI 4 3 4] (wT 4 2 (qi 2)) (wB 2 wJ))⟩
theorem sP:aA Tryz.prog eD=some il:=by kernel_rfl
def bT:FK:=⟨13,[.t 2,.t 3],qe [qc 2 qP,qc 3 qP] (wL [wd 4] (.blk 0 (qC (xA (wI 6 4 1) 5 6) (qv 5 .skip (.reg (xA (wI 7 4 2) 5 7))) (qv 5 (qH [qc 2 qP,qc 3 qP]) (qC (xA (wI 9 4 11) 8 9) (qv 8 .skip (.reg (xA (wI 10 4 12) 8 10))) (qv 8 (qH [qc 2 wJ,qc 3 wJ]) (ye 12 4 13 11 12 (wx 11 [qc 2 qP,qc 3 (qi 3)]))))))) [qc 2 (qi 2),qc 3 (qi 2)])⟩
theorem sJ:aA Tryz.prog er=some bT:=by kernel_rfl
def eu:FK:=⟨86,xY,qX [xa 2 4 0,qc 4 wa] [xc 10 2,qt 11 10,xi 12 er 11,qf 9 12,qb 13 (.ext 0 (.t 9)),qb 14 (.ext 1 (.t 9)),qf 5 13,qf 6 14] (qC [xI 15,qB 16 .lss 15 1,qf 17 16,xo 18 17 0 2,xl 19 17 18,qN 20 17 (xf [.t 19,wJ,qi 13]),qN 21 17 (wF 20),xW 22 17 21,qf 23 22,xo 24 23 3 2,xl 25 23 24,qN 26 23 (qU 25),xg 27 23 5,xg 28 23 6,qN 29 23 (xf [.t 26,.t 27,.t 28]),qN 30 23 (wF 29),xW 31 23 30] (x4 31 4) (qe [xc 32 2,qt 33 32,wI 34 33 2,qf 35 34,xo 36 35 0 2,xl 37 35 36,x6 38 35 .eql 37 (qi 13),xW 39 35 38,qf 7 39] (qC [yh 40,xm 41 2,qt 42 41,xi 43 bC 42,qb 44 (.beq true (.t 40) (.t 43)),qf 45 44,xg 46 45 7,qN 47 45 (wF 46),xg 48 45 47,xr 49 48 2 2,xb 50 48 49,qO 51 48 (.bins .neq (.t 50) (.c wn)),qN 52 45 (qQ 48 (.t 51) wa),xW 53 45 52,qf 54 53,xo 55 54 1 2,xl 56 54 55,qN 57 54 (xf [.t 56,qP,qi 255]),qN 58 54 (wF 57),xW 59 54 58,qf 60 59,xo 61 60 0 2,xl 62 60 61,x6 63 60 .neq 62 wJ,xg 64 60 63,xr 65 64 1 2,xb 66 64 65,xx 67 64 .neq 66 qP,qN 68 60 (qQ 64 (.t 67) wa),xW 69 60 68] (x4 69 4) (xT 8 (xD 0 [qf 70 8,qp 71 3 2,qt 72 71,we 73 72,wG 74 70 73] 74 0 1 (qe [qp 77 3 2,qt 78 77,qf 79 8,wo 80 4 78 79,wy 81 4 80,xI 82,xj 83 82 1,wY 84 da 81 83,xZ 85 84] (x4 85 4)) (qf 75 8) 76 75 1 8 76) (wB 4 wH)))))⟩
theorem lD:aA Tryz.prog da=some eu:=by kernel_rfl
def jK:FK:=⟨21,xO,qX [xa 1 4 0,qc 2 qP] (wB 3 wJ) (xT 4 (xD 0 [xt 5,qp 6 3 1,qt 7 6,we 8 7,wG 9 5 8] 9 0 1 (.reg [yc 12,qp 13 3 1,qt 14 13,xt 15,wo 16 4 14 15,wy 17 4 16,xi 18 dO 17,wm 19 .add 12 18,qf 3 19]) (xt 10) 11 10 1 4 11) (xA (yc 20) 2 20))⟩
theorem pX:aA Tryz.prog dO=some jK:=by kernel_rfl
def iM:FK:=⟨10,xO,x7 [xa 1 4 0,qc 2 wa] [wy 3 4 1,qn 4 da (xE 3 6),xt 5,qO 6 5 (wg 4 1),qO 7 5 (.call dO (xh 6)),xx 8 5 .leq 7 (qi 30),xL 9 5 8 wa,qf 2 9]⟩
theorem oo:aA Tryz.prog cM=some iM:=by kernel_rfl
def eE:FK:=⟨108,xY,qe [xa 2 5 0,qc 4 wa] (qC [xI 7,qB 8 .lss 7 1,qf 9 8,xo 10 9 0 2,xl 11 9 10,qN 12 9 (xf [.t 11,wJ,qi 8]),qN 13 9 (wF 12),xW 14 9 13,qf 15 14,xo 16 15 2 2,xo 19 15 0 2,xl 17 15 16,qN 18 15 (qU 17),xl 20 15 19,qN 21 15 (.qcall eD (xh 20)),x6 22 15 .neq 18 (.t 21),xW 23 15 22] (x4 23 4) (qe [xc 24 2,qt 25 24,wI 26 25 1,qf 27 26,xo 28 27 0 2,xl 29 27 28,x6 30 27 .eql 29 (qi 2),xW 31 27 30,qf 5 31] (qC [wV 32,xy 33 2,qt 34 33,xi 35 bC 34,qb 36 (.beq true (.t 32) (.t 35)),qf 37 36,xg 38 37 5,qN 39 37 (wF 38),xg 40 37 39,xr 41 40 1 2,xb 42 40 41,qO 43 40 (.bins .neq (.t 42) (.c wn)),qN 44 37 (qQ 40 (.t 43) wa),xW 45 37 44] (x4 45 4) (qC (wW 6) (xD 0 [xJ 46,xm 47 2,qt 48 47,we 49 48,wG 50 46 49] 50 0 1 (qe [xm 53 2,qt 54 53,xJ 55,wo 56 4 54 55,wy 57 4 56,xi 58 cM 57,xZ 59 58] (x4 59 4)) (xJ 51) 52 51 1 6 52) (qC [xc 60 2,qt 61 60,wI 62 61 8,qf 63 62,xr 64 63 2 2,xb 65 63 64,qO 66 63 (qF 4 65 qP),xr 67 63 0 66,xb 68 63 67,xx 69 63 .neq 68 (qi 13),xL 70 63 69 wa] (x4 70 4) (wL [qp 71 4 2,qt 72 71,we 73 72,qB 74 .gtr 73 0,qf 75 74,xr 76 75 0 2,xb 77 75 76,xx 78 75 .neq 77 (qi 5),xL 79 75 78 wa,qf 80 79,xo 81 80 3 2,xl 82 80 81,qN 83 80 (qU 82),x6 84 80 .gtr 83 qP,xg 85 80 84,xr 86 85 0 2,xb 87 85 86,xx 88 85 .neq 87 (qi 5),qN 89 80 (qQ 85 (.t 88) wa),xg 90 80 89,xr 91 90 0 2,xb 92 90 91,xx 93 90 .neq 92 (qi 6),qN 94 80 (qQ 90 (.t 93) wa),xW 95 80 94] (x4 95 4) [qp 96 3 2,qt 97 96,xI 98,xj 99 98 1,wY 100 bm 97 99,qf 101 100,xr 102 101 4 2,xb 103 101 102,xF 104 101 1,xx 105 101 .sub 104 wJ,qO 106 101 (.call bm (wS 103 105)),xL 107 101 106 wa,qf 4 107]))))))⟩
theorem ln:aA Tryz.prog ew=some eE:=by kernel_rfl
def kD:FK:=⟨19,xY,qe (wB 4 wa) (xT 5 (xD 0 [wV 6,wd 7,we 8 7,wG 9 6 8] 9 0 1 (qe [wd 12,wV 13,wo 14 5 12 13,wy 15 5 14,xI 16,wY 17 ew 15 16,xZ 18 17] (x4 18 4)) (wV 10) 11 10 1 5 11) (wB 4 wH))⟩
theorem pL:aA Tryz.prog bm=some kD:=by kernel_rfl
def oJ:FK:=⟨32,xO,qe [xa 1 3 0,qc 2 wa] (xT 3 (xD 0 [yc 4,xy 5 1,qt 6 5,we 7 6,wG 8 4 7] 8 0 1 (qe [xy 11 1,qt 12 11,yc 13,wo 14 1 12 13,qt 15 14,xi 16 bC 15,xZ 17 16] (x4 17 2)) (yc 9) 10 9 1 3 10) [xc 18 1,qt 19 18,xi 20 bC 19,qf 21 20,xr 22 21 1 1,xb 23 21 22,qO 24 21 (qU 23),xx 25 21 .leq 24 (qi 3),xL 26 21 25 wa,qf 27 26,xr 28 27 2 1,xb 29 27 28,qO 30 27 (.call bm (xE 29 4)),xL 31 27 30 wa,qf 2 31])⟩
theorem vv:aA Tryz.prog jL=some oJ:=by kernel_rfl
def gt:FK:=⟨29,xO,qX (wW 2) (xB (wd 5) (we 6 5) 3 6) (xT 4 (xD 0 [xt 7,wd 8,we 9 8,wG 10 7 9] 10 0 1 (.reg [yc 13,wd 14,xt 15,wo 16 5 14 15,qp 17 3 16,wd 21,xt 22,wo 23 5 21 22,qp 24 4 23,qt 18 17,qt 25 24,xi 19 cD 18,qL 24 25,wm 20 .add 13 19,xi 26 cD 25,wm 27 .add 20 26,qf 3 27]) (xt 11) 12 11 1 4 12) (xA (yc 28) 2 28))⟩
theorem jN:aA Tryz.prog cD=some gt:=by kernel_rfl
def nz:FK:=⟨22,xO,qX [xa 1 1 0,qc 2 qP] (wW 3) (xT 4 (xD 0 [xt 5,xc 6 1,qt 7 6,we 8 7,wG 9 5 8] 9 0 1 (.reg [yc 12,xc 13 1,qt 14 13,xt 15,wo 16 3 14 15,xm 17 16,qt 18 17,xi 19 cD 18,wm 20 .add 12 19,qf 3 20]) (xt 10) 11 10 1 4 11) (xA (yc 21) 2 21))⟩
theorem uq:aA Tryz.prog jj=some nz:=by kernel_rfl
def fe:FK:=⟨26,xO,qe [xa 1 1 0,qc 2 wa] (qC [xc 4 1,qt 5 4,we 6 5,xU 7 [.t 6,wJ,qi 4],xZ 8 7] (x4 8 2) (xT 3 (xD 0 [yc 9,xc 10 1,qt 11 10,we 12 11,wG 13 9 12] 13 0 1 (qe [xc 16 1,qt 17 16,yc 18,wo 19 3 17 18,wy 20 3 19,xi 21 jL 20,xZ 22 21] (x4 22 2)) (yc 14) 15 14 1 3 15) [wy 23 1 1,xi 24 jj 23,qB 25 .leq 24 40,qf 2 25]))⟩
theorem kV:aA Tryz.prog cT=some fe:=by kernel_rfl
def lg:FK:=⟨69,[xH 2 1],qX [qW 2 xP] [wd 8,wd 9,xX 10 4 [xe 0 14,xe 1 20,xe 2 8,xe 3 26],wE 11 (wS 9 10),wu 12 [.nilp,.nils,.nils,qx,qx] [xR 8,wC 4 11],xa 13 5 12,qf 3 13] (qC [wd 14,xX 15 4 [(0,1,qP),(1,1,wJ),(2,1,wJ),xe 3 2],wE 16 (wS 14 15),qf 4 16] (xC 0 [xt 17,qB 18 .gtr 17 0] 18 0 1 (qe [qc 5 (.c .any),yc 21,xV 22 1 [wn] 3 [(0,1,yi [102]),(1,1,yi [103]),(2,1,yi [104])],yc 23,qZ 24 23,xy 25 24,wd 30,qt 26 25,we 27 26,wo 28 1 22 27,qt 29 28,wl 31 (xE 30 3),qL 25 26,qL 28 29,qn 32 de [.t 21,.t 29,.t 31],qW 5 [wn,.nils,.nils],qT 3 5 32] (.reg [yc 33,yc 34,qZ 35 34,xy 36 35,qt 37 36,wy 38 3 5,xV 39 3 [wn,.nils,.nils] 1 [wt 0 3 38],wP 40 3 64 37 39,qZ 41 33,xy 42 41,xz 42 40])) (xt 19) (xj 20 19 1) 4 20) (qX [yc 43,wd 44,xX 45 4 [(0,1,qP),(1,1,wJ),xe 2 2,(3,1,wJ)],wE 46 (wS 44 45),qn 47 de [.t 43,yi [109],.t 46],qW 6 [wn,.nils,.nils],qT 3 6 47] [qc 7 (.c .any),yc 49,qZ 50 49,xy 51 50,qt 52 51,wy 54 3 6,xV 55 3 [wn,.nils,.nils] 1 [wt 0 3 54],qI 48 3 [wn,.nils,.nils] 0 [],qL 51 52,qz (some 3) 6 54,wP 53 3 64 48 52,qz (some 3) 6 54,wP 56 3 64 53 55,wu 57 xP [xR 56],qW 7 xP,xz 7 57] (wL [wy 58 1 7,xi 59 cT 58,xZ 60 59] (wx 60 [wu 61 [qx,qx,wn,.nils] [(0,1,wJ),(1,1,wJ)],qI 62 4 [qx,qx,wn,.nils] 1 [wt 0 4 61],wu 63 [qx,wn,.nils,.nils,.nils] [xe 0 3,wC 2 62],qI 64 5 [qx,wn,.nils,.nils,.nils] 1 [wt 0 5 63],wu 65 [wn,.nils,.nils] [(0,1,yi [109]),wC 2 64],qI 66 3 [wn,.nils,.nils] 1 [wt 0 3 65],wu 67 xP [xR 66],xz 2 67]) [wy 68 1 7,xz 2 68])))⟩
theorem tc:aA Tryz.prog eB=some lg:=by kernel_rfl
def jY:FK:=⟨4,xO,qe (wW 2) (wL [wd 3] (wT 3 2 wJ) (wW 2))⟩
theorem rH:aA Tryz.prog fI=some jY:=by kernel_rfl
def io:FK:=⟨35,xO,qX (wW 2) (wW 3) (xT 4 (xD 0 [xt 5,wd 6,we 7 6,wG 8 5 7] 8 0 1 (.reg [yc 11,wd 12,xt 13,wo 14 5 12 13,xc 15 14,wd 20,xt 21,wo 22 5 20 21,qp 23 3 22,wd 27,xt 28,wo 29 5 27 28,qp 30 4 29,qt 16 15,wI 17 16 1,qt 24 23,qt 31 30,xi 18 fI 17,qL 23 24,qL 30 31,wm 19 .add 11 18,xi 25 cY 24,qL 30 31,wm 26 .add 19 25,xi 32 cY 31,wm 33 .add 26 32,qf 3 33]) (xt 9) 10 9 1 4 10) (xA (yc 34) 2 34))⟩
theorem ll:aA Tryz.prog cY=some io:=by kernel_rfl
def dr:FK:=⟨25,xO,qX (wW 2) [wd 3,wd 4,qZ 5 4,xy 6 5,xm 7 6,qt 8 7,qI 9 2 [qx,.nils] 0 [],qI 10 4 [qx,qx,.nils,qx] 0 [],xX 11 0 [],wu 12 [.nils,.nils,qx,qx,.nils] [xR 9,wC 1 10,wC 4 11],qI 13 5 [.nils,.nils,qx,qx,.nils] 1 [wt 0 5 12],wP 14 5 88 8 13,qZ 15 3,xy 16 15,xm 17 16,xz 17 14] (qH [wd 18,qZ 19 18,xy 20 19,xm 21 20,qt 22 21,we 23 22,xj 24 23 1,qf 2 24])⟩
theorem fP:aA Tryz.prog bG=some dr:=by kernel_rfl
def gD:FK:=⟨37,[],qX [wd 11,qZ 12 11,xy 13 12,xm 14 13,wd 16,qZ 17 16,qp 18 4 17,qt 15 14,qt 19 18,wo 20 5 15 19,qf 10 20] [qf 21 10,xI 22,qZ 23 21,xm 24 23,xz 24 22] (qX [qf 25 10,qf 26 2,qZ 27 25,qp 28 3 27,xz 28 26] [qf 29 10,yc 30,qZ 31 29,qp 32 4 31,xz 32 30] (.reg [wd 33,xt 34,qZ 35 33,qp 36 4 35,xz 36 34]))⟩
theorem nq:aA Tryz.prog bi=some gD:=by kernel_rfl
def gh:FK:=⟨19,xO,qX (wW 2) [wd 3,wd 4,qZ 5 4,xy 6 5,xy 7 6,qt 8 7,wD 9 8 1,qZ 10 3,xy 11 10,xy 12 11,xz 12 9] (qH [wd 13,qZ 14 13,xy 15 14,xy 16 15,qt 17 16,xj 18 17 1,qf 2 18])⟩
theorem lR:aA Tryz.prog bk=some gh:=by kernel_rfl
def ec:FK:=⟨37,xK 10,qX (wW 10) [wd 12,qZ 13 12,xy 14 13,xm 15 14,wd 17,qZ 18 17,qp 19 4 18,qt 16 15,qt 20 19,wo 21 5 16 20,qf 11 21] (x7 [qf 22 11,qf 23 11,qZ 24 23,xy 25 24,qt 26 25,xI 27,qf 28 2,xt 29,yc 30,wu 31 [qx,qx,.nils,qx] [xR 27,wC 1 28,wC 2 29,wC 3 30],qI 32 4 [qx,qx,.nils,qx] 1 [wt 0 4 31],wP 33 4 48 26 32,qZ 34 22,xy 35 34,xz 35 33] (xA (qf 36 2) 10 36))⟩
theorem nY:aA Tryz.prog bE=some ec:=by kernel_rfl
def eg:FK:=⟨34,xY,qe (wW 4) (wL [wd 6,qZ 7 6,qp 8 5 7,qt 9 8,we 10 9,xj 11 10 1,qf 5 11] (xC 0 [wV 12,qB 13 .geq 12 0] 13 0 1 (qe [wd 16,qZ 17 16,qp 18 5 17,qt 19 18,wV 20,wo 21 3 19 20,xc 22 21,qt 23 22,xI 24,qb 25 (.bins .eql (.t 23) (.t 24))] (wx 25 [wd 26,qZ 27 26,qp 28 5 27,qt 29 28,wV 30,wo 31 3 29 30,xy 32 31,qt 33 32,qf 4 33])) (wV 14) (xj 15 14 1) 5 15) (wB 4 (qi (-1))))⟩
theorem nZ:aA Tryz.prog cP=some eg:=by kernel_rfl
def iS:FK:=⟨56,xY,qX [xa 3 4 1,qc 4 qP] [wd 11,qp 12 3 3,qt 13 12,wh 14 4 13 qP,wy 15 4 14,wY 16 aU 11 15,qf 5 16] (qX [wd 17,wd 18,xM 19 18,xX 20 0 [],wX 21 [.t 17,wJ,.t 19,qP,.t 20],qf 6 21] (xB (wd 22) (xk 23 22) 7 23) (qX (xB (wd 24) (xk 25 24) 8 25) [wd 26,wV 27,yh 28,qf 29 8,xX 30 2 [xR 28,wC 1 29],yh 31,xp 32 [.t 26,qi 2,.t 27,.t 30,.t 31]] (qX [wd 33,qp 34 3 3,qt 35 34,wh 36 4 35 wJ,wy 37 4 36,wY 38 aU 33 37,qf 9 38] [wd 39,wd 40,xM 41 40,qf 42 9,xX 43 1 [xR 42],wX 44 [.t 39,qi 10,.t 41,qP,.t 43],qf 10 44] (qX [wd 45,xJ 46,qf 47 10,xX 48 1 [xR 47],wX 49 [.t 45,qi 10,.t 46,qP,.t 48]] [wd 50,qf 51 8,xX 52 1 [xR 51],qf 53 8,xp 54 [.t 50,wJ,qP,.t 52,.t 53]] (qH (xA (xJ 55) 4 55))))))⟩
theorem ow:aA Tryz.prog dZ=some iS:=by kernel_rfl
def oO:FK:=⟨22,xY,qe [xa 2 1 0,qc 4 qP] (xT 5 (xD 0 [wV 6,xc 7 2,qt 8 7,we 9 8,wG 10 6 9] 10 0 1 (qe [xc 13 2,qt 14 13,wV 15,wo 16 3 14 15,xc 17 16,qt 18 17,xI 19,qb 20 (.bins .eql (.t 18) (.t 19))] (wx 20 (xA (wV 21) 4 21))) (wV 11) 12 11 1 5 12) (wB 4 (qi (-1))))⟩
theorem vj:aA Tryz.prog kA=some oO:=by kernel_rfl
def bR:FK:=⟨84,xY,qe [xa 3 4 1,qc 4 qP] (qC [xc 7 3,qt 8 7] (.blk 0 (ye 10 8 1 9 10 (qv 9 (qH [wd 11,wd 12,xy 14 3,xV 16 1 xu 0 [],qt 15 14,xM 13 12,qL 14 15,wX 17 [.t 11,wJ,.t 13,.t 15,.t 16],qf 4 17]) (ye 19 8 2 18 19 (qv 18 (qH [wd 20,xm 21 3,qt 22 21,wY 23 cP 20 22,qf 4 23]) (ye 25 8 10 24 25 (wx 24 [wd 26,wy 27 4 3,wY 28 dZ 26 27,qf 4 28]))))))) (xG (xX 29 0 []) 5 29 (qC (wW 6) (xD 1 [xJ 30,qp 31 3 3,qt 32 31,we 33 32,wG 34 30 33] 34 1 2 (.reg [wV 37,wd 38,qp 39 3 3,qt 40 39,xJ 41,wo 42 4 40 41,wy 43 4 42,wY 44 aU 38 43,xX 45 1 [xR 44],wP 46 1 8 37 45,qf 5 46]) (xJ 35) 36 35 1 6 36) (wL [xc 47 3,qt 48 47] (.blk 3 (ye 50 48 11 49 50 (qv 49 (qH [wd 51,wd 52,xM 53 52,wV 54,wX 55 [.t 51,qi 10,.t 53,qP,.t 54],qf 4 55]) (ye 57 48 12 56 57 (qv 56 (qH [wd 58,wd 59,xM 60 59,wV 61,wX 62 [.t 58,qi 11,.t 60,qP,.t 61],qf 4 62]) (ye 64 48 13 63 64 (wx 63 [wd 65,wd 66,wd 68,qZ 69 68,xc 70 69,xm 72 3,wV 75,wy 71 1 70,qt 73 72,xM 67 66,qz (some 1) 70 71,qL 72 73,wY 74 kA 71 73,wX 76 [.t 65,qi 14,.t 67,.t 74,.t 75],qf 4 76]))))))) [wd 77,xc 78 3,wd 80,wV 82,qt 79 78,xM 81 80,qL 78 79,wX 83 [.t 77,.t 79,.t 81,qP,.t 82],qf 4 83]))))⟩
theorem ny:aA Tryz.prog aU=some bR:=by kernel_rfl
def gA:FK:=⟨41,[],qX [xa 3 5 1] (xB (wd 8) (xk 9 8) 4 9) (qX (xB (wd 10) (xk 11 10) 5 11) (xB (wd 12) (xk 13 12) 6 13) (qX [wd 14,xt 15,xX 16 1 [xR 15],xt 17,xp 18 [.t 14,wJ,qP,.t 16,.t 17]] [wd 19,xm 20 3,qt 21 20,wh 22 4 21 qP,wy 23 4 22,wY 24 aU 19 23,qf 7 24] (qX [wd 25,yh 26,wV 27,xJ 28,xX 29 2 [xR 27,wC 1 28],wV 30,xp 31 [.t 25,qi 2,.t 26,.t 29,.t 30]] [wd 32,qp 33 3 3,qt 34 33,wY 35 aX 32 34] (.reg [wd 36,xt 37,xX 38 1 [xR 37],xJ 39,xp 40 [.t 36,wJ,qP,.t 38,.t 39]]))))⟩
theorem nh:aA Tryz.prog dA=some gA:=by kernel_rfl
def dE:FK:=⟨132,[],qe [xa 3 5 1] (qC [xc 9 3,qt 10 9,wI 11 10 6] (wx 11 [wd 12,wy 13 5 3,wY 14 dA 12 13]) (xG (xX 15 0 []) 4 15 (qC (wW 5) (xD 0 [wV 16,xm 17 3,qt 18 17,we 19 18,wG 20 16 19] 20 0 1 (.reg [xt 23,wd 24,xm 25 3,qt 26 25,wV 27,wo 28 4 26 27,wy 29 4 28,wY 30 aU 24 29,xX 31 1 [xR 30],wP 32 1 8 23 31,qf 4 32]) (wV 21) 22 21 1 5 22) (qe [xc 33 3,qt 34 33] (.blk 2 (ye 36 34 1 35 36 (qv 35 (qX [wd 37,wd 38,qZ 39 38,qp 40 6 39,qt 41 40,xt 42,wX 43 [.t 37,qi 2,.t 41,qP,.t 42]] [wd 44,wd 45,qZ 46 45,qp 47 5 46,xy 49 3,wd 51,qZ 52 51,qp 53 6 52,qt 48 47,qt 50 49,qt 54 53,wu 55 [wn,qx,qx] [xR 50,wC 1 54,(2,1,qP)],xV 56 3 [wn,qx,qx] 1 [wt 0 3 55],wP 57 3 32 48 56,qZ 58 44,qp 59 5 58,xz 59 57] (.reg [wd 60,wd 61,qZ 62 61,qp 63 6 62,qt 64 63,wD 65 64 1,qZ 66 60,qp 67 6 66,xz 67 65])) (ye 69 34 2 68 69 (qv 68 (.reg [wd 70,wd 71,xy 72 3,qt 73 72,wY 74 cP 71 73,xt 75,wX 76 [.t 70,qi 2,.t 74,qP,.t 75]]) (ye 78 34 3 77 78 (qv 77 (.reg [wd 79,xt 80,wX 81 [.t 79,qi 13,qi (-1),qP,.t 80]]) (ye 83 34 4 82 83 (qv 82 (.reg [wd 84,xt 85,wX 86 [.t 84,qi 12,qi (-1),qP,.t 85]]) (ye 88 34 7 87 88 (qv 87 (.reg [wd 89,xt 90,wh 91 1 90 qP,xV 93 1 xu 0 [],wd 94,qt 92 91,xk 95 94,qL 91 92,xp 96 [.t 89,qi 3,.t 92,.t 93,.t 95]]) (ye 98 34 5 97 98 (wb 97 (qX (xB (wd 99) (xk 100 99) 6 100) (xB (wd 101) (xk 102 101) 7 102) (qX (xB (wd 103) (xk 104 103) 8 104) [wd 105,xt 106,wh 107 1 106 qP,qt 108 107,xJ 109,yh 110,xX 111 2 [xR 109,wC 1 110],xJ 112,xp 113 [.t 105,qi 2,.t 108,.t 111,.t 112]] (qX [wd 114,qp 115 3 3,qt 116 115,wY 117 aX 114 116] [wd 118,qf 119 8,xX 120 1 [xR 119],yh 121,xp 122 [.t 118,wJ,qP,.t 120,.t 121]] (qe [wd 123,qp 124 4 3,qt 125 124,wY 126 aX 123 125] (.reg [wd 127,qf 128 8,xX 129 1 [xR 128],qf 130 8,xp 131 [.t 127,wJ,qP,.t 129,.t 130]]))))))))))))))))))))))⟩
theorem ml:aA Tryz.prog dG=some dE:=by kernel_rfl
def dt:FK:=⟨32,[],qe [wd 6,qZ 7 6,qp 8 5 7,qt 9 8,we 10 9,qf 4 10] (qC (wW 5) (xD 0 [wV 11,xI 12,we 13 12,wG 14 11 13] 14 0 1 (.reg [wd 17,xI 18,wV 19,wo 20 5 18 19,wy 21 5 20,wY 22 dG 17 21]) (wV 15) 16 15 1 5 16) (.reg [wd 23,wd 24,qZ 25 24,qp 26 5 25,qt 27 26,xt 28,qb 29 (.slS 3 (.t 27) none (some (.t 28))),qZ 30 23,qp 31 5 30,xz 31 29]))⟩
theorem lP:aA Tryz.prog aX=some dt:=by kernel_rfl
def oL:FK:=⟨80,[xH 4 3],qX [xa 2 1 0,qW 4 [qx,qx,.nils]] [xc 9 2,qt 10 9,xI 11,wo 12 3 10 11,wy 13 3 12,qW 5 [wn,.nils,.nils],qT 3 5 13] (qX [wy 14 1 2,xy 15 5,qt 16 15,we 17 16,wu 18 [.nils,qx,qx,.nils,qx,.nils,qx,.nils] [xR 14,wC 6 17],xa 19 8 18,qf 6 19] [xJ 20,xy 21 5,qt 22 21,we 23 22,qZ 24 20,xy 25 24,xc 26 25,xz 26 23] (qe [xJ 27,xy 28 5,xm 31 5,qt 29 28,we 30 29,qt 32 31,xi 33 cY 32,qL 28 29,wm 34 .add 30 33,qZ 35 27,xy 36 35,xy 37 36,xz 37 34] (qC (wW 7) (xD 0 [yh 38,xy 39 5,qt 40 39,we 41 40,wG 42 38 41] 42 0 1 (.reg [xJ 45,xJ 46,qZ 47 46,qp 48 5 47,xy 50 5,yh 52,yh 55,qt 49 48,qt 51 50,wo 53 1 51 52,qt 54 53,wu 56 [wn,qx,qx] [xR 54,wC 1 55,(2,1,qP)],xV 57 3 [wn,qx,qx] 1 [wt 0 3 56],wP 58 3 32 49 57,qZ 59 45,qp 60 5 59,xz 60 58]) (yh 43) 44 43 1 7 44) (qX [xJ 61,xk 62 61] [xJ 63,xm 64 5,qt 65 64,wY 66 aX 63 65] (qX [xJ 67,xJ 68,xM 69 68,xX 70 0 [],wX 71 [.t 67,wJ,.t 69,qP,.t 70],qf 8 71] [xJ 72,qf 73 8,xX 74 0 [],xp 75 [.t 72,qi 3,.t 73,.t 74,qP]] (qH [xJ 76,qZ 77 76,xy 78 77,wy 79 3 78,qT 3 4 79]))))))⟩
theorem yG:aA Tryz.prog gN=some oL:=by kernel_rfl
def lA:FK:=⟨22,[xH 2 1],qX [xa 1 1 0,qW 2 xP] [wu 5 xP [],qW 3 xP,xz 3 5] (xT 4 (xD 0 [xt 6,xc 7 1,qt 8 7,we 9 8,wG 10 6 9] 10 0 1 (.reg [xc 13 3,xt 16,qt 14 13,wy 15 1 1,wY 17 gN 15 16,qL 13 14,qI 18 3 [qx,qx,.nils] 1 [wt 0 3 17],qL 13 14,wP 19 3 40 14 18,xc 20 3,xz 20 19]) (xt 11) 12 11 1 4 12) [wy 21 1 3,xz 2 21])⟩
theorem sZ:aA Tryz.prog eG=some lA:=by kernel_rfl
def lm:FK:=⟨21,xY,qe [xa 2 3 0,qc 4 wa] (xT 5 (xD 0 [wV 6,xI 7,we 8 7,wG 9 6 8] 9 0 1 (qe [xI 12,wV 13,wo 14 1 12 13,xy 16 2,qt 15 14,qt 17 16,xj 18 17 1,xU 19 [.t 15,qP,.t 18],xZ 20 19] (x4 20 4)) (wV 10) 11 10 1 5 11) (wB 4 wH))⟩
theorem sD:aA Tryz.prog eF=some lm:=by kernel_rfl
def mm:FK:=⟨88,xK 6,qX [xa 3 1 0,xa 5 4 2,qc 6 wa] [xc 8 3,qt 9 8,xI 10,wo 11 3 9 10,wy 12 3 11,qW 7 [qx,qx,.nils],qT 3 7 12] (qC [xc 13 5,qt 14 13,xU 15 [.t 14,wJ,qi 14],xZ 16 15,qf 17 16,qN 18 17 (wg 3 7),xo 19 17 2 5,xl 20 17 19,qN 21 17 (.call eF (wS 18 20)),qN 22 17 (wF 21),xW 23 17 22] (x4 23 6) (qC [xc 24 5,xy 27 5,xy 29 7,qt 25 24,qt 28 27,qt 30 29,xj 31 30 1,xi 26 cJ 25,qL 27 28,qL 29 30,xU 32 [.t 28,qP,.t 31],qb 33 (.beq true (.t 26) (.t 32)),qf 34 33,xo 35 34 0 5,xl 36 34 35,qN 37 34 (.call cJ (xh 36)),qN 38 34 (wF 37),xg 39 34 38,xr 40 39 1 5,xb 41 39 40,xx 42 39 .neq 41 (qi (-1)),qN 43 34 (qQ 39 (.t 42) wa),xW 44 34 43] (x4 44 6) (wL [xc 45 5,qt 46 45,wI 47 46 14] (wx 47 [qp 48 3 5,xI 50,xj 51 50 1,qt 49 48,xU 52 [.t 49,qP,.t 51],qf 53 52,xr 54 53 2 5,xr 57 53 0 3,xr 59 53 3 5,xb 55 53 54,qO 56 53 (qU 55),xb 58 53 57,xb 60 53 59,qO 61 53 (qF 3 58 (.t 60)),xr 62 53 0 61,xb 63 53 62,xx 64 53 .eql 56 (.t 63),xL 65 53 64 wa,qf 6 65]) [xm 66 5,xc 69 5,qt 67 66,we 68 67,qt 70 69,xi 71 eH 70,qL 66 67,wm 72 .eql 68 71,qf 73 72,xr 74 73 3 5,xb 75 73 74,qO 76 73 (xf [.t 75,qP,qi 255]),xL 77 73 76 wa,qf 78 77,xr 79 78 3 5,xb 80 78 79,xx 81 78 .eql 80 qP,xF 82 78 81,xo 83 82 0 5,xl 84 82 83,x6 85 82 .eql 84 wJ,qO 86 78 (qQ 82 wH (.t 85)),xL 87 78 86 wa,qf 6 87])))⟩
theorem tN:aA Tryz.prog jl=some mm:=by kernel_rfl
def fB:AK:=qX [xa 3 1 0,qc 6 wa] [xc 14 3,qt 15 14,xI 16,wo 17 3 15 16,wy 18 3 17,qW 7 [qx,qx,.nils],qT 3 7 18] (qX [xm 19 7,qt 20 19,qf 21 2,wo 22 5 20 21,wy 23 5 22,qW 8 [.nils,.nils,qx,qx,.nils],qT 5 8 23] (wB 9 wJ) (xQ [xm 24 8,qt 25 24] (.blk 0 (ye 27 25 1 26 27 (qv 26 (qe [qp 28 3 8,qt 29 28,qB 30 .neq 29 0] (x4 30 6)) (ye 32 25 2 31 32 (qv 31 (.reg (wB 9 (qi 2))) (ye 34 25 3 33 34 (qv 33 (.reg (wW 9)) (qH (wB 6 wa))))))))) (xQ [qp 35 4 8,qt 36 35,we 37 36,qf 38 9,wm 39 .neq 37 38,qf 40 39,xo 41 40 2 8,xl 42 40 41,x6 43 40 .neq 42 wJ,xg 44 40 43,xr 45 44 3 8,xb 46 44 45,xr 47 44 1 7,xb 48 44 47,xx 49 44 .sub 48 wJ,qO 50 44 (xf [.t 46,qP,.t 49]),qO 51 44 (wF 50),qN 52 40 (qQ 44 (.t 51) wa),xW 53 40 52] (x4 53 6) (xQ (wW 10) (xD 1 [qf 54 10,qp 55 4 8,qt 56 55,we 57 56,wG 58 54 57] 58 1 2 (qe [qp 61 4 8,qf 63 10,xm 66 7,qt 62 61,wo 64 1 62 63,qt 65 64,qt 67 66,we 68 67,xj 69 68 1,xU 70 [.t 65,wJ,.t 69],xZ 71 70] (x4 71 6)) (qf 59 10) 60 59 1 10 60) (xQ (wW 11) (xD 3 [qf 72 11,xy 73 8,qt 74 73,we 75 74,wG 76 72 75] 76 3 4 (qe [xI 80,xy 81 8,qf 83 11,wy 79 1 3,qt 82 81,wo 84 4 82 83,wy 85 4 84,qn 86 jl [.t 79,.t 80,.t 85],xZ 87 86] (x4 87 6)) (qf 77 11) 78 77 1 11 78) (qe [wy 88 3 7,qf 89 2,wY 90 cE 88 89,qf 12 90] (xQ (wW 13) (xD 5 [qf 91 13,xc 92 8,qt 93 92,we 94 93,wG 95 91 94] 95 5 6 (qe [qf 98 2,wI 99 98 0,qf 100 99,xo 101 100 0 8,xg 103 100 13,xg 108 100 12,qN 109 100 (qU 108),xl 102 100 101,qN 104 100 (qF 2 102 (.t 103)),xo 105 100 1 104,xl 106 100 105,qN 107 100 (qU 106),x6 110 100 .neq 107 (.t 109),xW 111 100 110,qf 112 111,xo 114 112 0 8,xg 116 112 13,qN 113 112 (wg 3 7),xl 115 112 114,qN 117 112 (qF 2 115 (.t 116)),xo 118 112 1 117,xl 119 112 118,qN 120 112 (.call eF (wS 113 119)),qN 121 112 (wF 120),xW 122 112 121,qf 123 122,xo 124 123 0 8,xg 126 123 13,xo 130 123 1 7,xl 125 123 124,qN 127 123 (qF 2 125 (.t 126)),xo 128 123 0 127,xl 129 123 128,xl 131 123 130,x6 132 123 .sub 131 wJ,qN 133 123 (xf [.t 129,qP,.t 132]),qN 134 123 (wF 133),xW 135 123 134] (x4 135 6)) (qf 96 13) 97 96 1 13 97) (qH (wB 6 wH)))))))))
def fE:FK:=⟨136,xK 6,(AK.whole fB)⟩
theorem pT:aA Tryz.prog fV=some fE:=by kernel_rfl
def iH:FK:=⟨76,xO,qe [xa 1 1 0,qc 2 wa] (qC [xc 7 1,qt 8 7,we 9 8,xU 10 [.t 9,wJ,qi 4],xZ 11 10] (x4 11 2) (qe (wW 3) (xT 4 (xD 0 [xt 12,xc 13 1,qt 14 13,we 15 14,wG 16 12 15] 16 0 1 (qe [xc 19 1,qt 20 19,xt 21,wo 22 3 20 21,wy 23 3 22,qW 5 [qx,qx,.nils],qT 3 5 23] (qC [xc 24 5,qt 25 24,xU 26 [.t 25,qP,qi 3],xZ 27 26,qf 28 27,xo 29 28 1 5,xl 30 28 29,xo 31 28 0 5,xl 32 28 31,qN 33 28 (xf [.t 30,.t 32,qi 300]),qN 34 28 (wF 33),xW 35 28 34,qf 36 35,xo 37 36 2 5,xl 38 36 37,qN 39 36 (qU 38),qN 40 36 (xf [.t 39,wJ,qi 160]),qN 41 36 (wF 40),xW 42 36 41] (x4 42 2) (qe (wW 6) (xD 2 [xJ 43,xm 44 5,qt 45 44,we 46 45,wG 47 43 46] 47 2 3 (qX [yc 50,xm 51 5,xJ 53,xm 59 5,xJ 61,qt 52 51,wo 54 5 52 53,xy 55 54,qt 56 55,we 57 56,wm 58 .add 50 57,qt 60 59,wo 62 5 60 61,xc 63 62,qt 64 63,we 65 64,wm 66 .add 58 65,qf 3 66] [yc 67,qB 68 .gtr 67 800,qf 69 68,qN 70 69 (wg 1 1),xg 71 69 4,xg 72 69 6,qN 73 69 (.call fV [.t 70,.t 71,.t 72]),qN 74 69 (wF 73),xW 75 69 74] (x4 75 2)) (xJ 48) 49 48 1 6 49)))) (xt 17) 18 17 1 4 18) (wB 2 wH))))⟩
theorem nJ:aA Tryz.prog dV=some iH:=by kernel_rfl
def kz:FK:=⟨15,[xH 2 1],qe [qW 2 xP] (wL [wd 4,wl 5 (xE 4 2),wI 6 5 0] (wb 6 (qX [wd 7,xi 8 eB 7,xi 9 eG 8,qW 3 xP,xz 3 9] [wy 10 1 3,xi 11 dV 10] (wx 11 [wy 12 1 3,xz 2 12]))) [wd 13,xi 14 cW 13,xz 2 14])⟩
theorem rL:aA Tryz.prog fH=some kz:=by kernel_rfl
def kI:FK:=⟨10,[xH 2 1],qe [qW 2 xP] (wL [wd 3,wl 4 (xE 3 12),wI 5 4 0] (wx 5 [wd 6,xi 7 im 6,xz 2 7]) [wd 8,xi 9 fH 8,xz 2 9])⟩
theorem pU:aA Tryz.prog gg=some kI:=by kernel_rfl
def ka:FK:=⟨14,[xH 2 3],qX [qW 2 [qx,qx,.nils]] [wd 4,xi 5 gg 4,qW 3 xP,xz 3 5] (qH [xc 6 3,qt 7 6,xc 8 3,qt 9 8,we 10 9,xj 11 10 1,wo 12 3 7 11,wy 13 3 12,qT 3 2 13])⟩
theorem ro:aA Tryz.prog dF=some ka:=by kernel_rfl
def cf:FK:=⟨19,xY,qe (wW 4) (wL [wd 6,we 7 6,qc 8 qP] (qS 0 (qe [wG 9 8 7] (.seq (ww 9 0) (wq 1 (qX (xA (qf 10 8) 5 10) [xI 11,wd 12,wV 13,wo 14 5 12 13,wy 15 5 14,qb 16 (.callv (.t 11) (xh 15))] (wx 16 (xA (wV 17) 4 17))) (xA (wD 18 8 1) 8 18))))) (wB 4 (qi (-1))))⟩
theorem eT:aA Tryz.prog bp=some cf:=by kernel_rfl
def bS:FK:=⟨9,xY,x7 (wB 4 wa) [wd 5,xI 6,wY 7 bp 5 6,qB 8 .geq 7 0,qf 4 8]⟩
theorem dJ:aA Tryz.prog bh=some bS:=by kernel_rfl
def dH:FK:=⟨19,xY,qe (wW 4) (wL [wd 6,we 7 6,qc 8 qP] (qS 0 (qe [wG 9 8 7] (.seq (ww 9 0) (wq 1 (qX (xA (qf 10 8) 5 10) [xI 11,wd 12,wV 13,wo 14 1 12 13,qt 15 14,qb 16 (.callv (.t 11) (xh 15))] (wx 16 (xA (wV 17) 4 17))) (xA (wD 18 8 1) 8 18))))) (wB 4 (qi (-1))))⟩
theorem ji:aA Tryz.prog ck=some dH:=by kernel_rfl
def cS:FK:=⟨9,xY,x7 (wB 4 wa) [wd 5,xI 6,wY 7 ck 5 6,qB 8 .geq 7 0,qf 4 8]⟩
theorem gx:aA Tryz.prog bK=some cS:=by kernel_rfl
def ik:FK:=⟨15,xK 6,x7 (wB 6 wa) [xI 7,wd 8,wm 9 .leq 7 8,qf 10 9,xF 11 10 0,xF 12 10 2,xx 13 10 .leq 11 (.t 12),xL 14 10 13 wa,qf 6 14]⟩
theorem sI:aA Tryz.prog ie=some ik:=by kernel_rfl
def fT:FK:=⟨11,xK 3,x7 (wB 3 wa) [wd 4,xm 5 1,qt 6 5,we 7 6,xj 8 7 1,qn 9 ie [.t 4,qP,.t 8],xZ 10 9,qf 3 10]⟩
theorem lF:aA Tryz.prog dm=some fT:=by kernel_rfl
def iJ:FK:=⟨8,xK 3,x7 [xa 2 5 0,qc 3 wa] [qp 4 4 2,qt 5 4,qb 6 (.mkf (.func dm) (xh 1)),wY 7 bK 5 6,yh 3]⟩
theorem nR:aA Tryz.prog cL=some iJ:=by kernel_rfl
def fx:FK:=⟨14,xO,x7 [xa 1 3 0,qc 2 wa] [xm 3 1,qt 4 3,we 5 4,qB 6 .gtr 5 0,xJ 7,xr 8 7 2 1,xb 9 7 8,qO 10 7 (.mkf (.func cL) (xh 1)),qO 11 7 (.call bh (wS 9 10)),qO 12 7 (wF 11),xL 13 7 12 wa,qf 2 13]⟩
theorem rm:aA Tryz.prog gk=some fx:=by kernel_rfl
def fZ:FK:=⟨8,xO,qe (wB 2 xq) (wL [wd 3,qb 4 (.snil false (.t 3))] (wT 4 2 xq) [xX 5 0 [],wd 6,wP 7 1 8 5 6,yh 2])⟩
theorem lM:aA Tryz.prog cg=some fZ:=by kernel_rfl
def oI:FK:=⟨10,xO,qX (wB 2 xq) [wd 4,xi 5 cg 4,wV 3] (x7 [yc 6,xi 7 nB 6] (xB (yc 8) (xi 9 kG 8) 2 9))⟩
theorem vh:aA Tryz.prog eR=some oI:=by kernel_rfl
def fy:FK:=⟨19,xY,qe (wW 4) (wL [wd 6,we 7 6,qc 8 qP] (qS 0 (qe [wG 9 8 7] (.seq (ww 9 0) (wq 1 (qX (xA (qf 10 8) 5 10) [xI 11,wd 12,wV 13,wo 14 1 12 13,qt 15 14,wm 16 .eql 11 15] (wx 16 (xA (wV 17) 4 17))) (xA (wD 18 8 1) 8 18))))) (wB 4 (qi (-1))))⟩
theorem mb:aA Tryz.prog fW=some fy:=by kernel_rfl
def jE:FK:=⟨42,xO,qe [xa 1 3 0,qc 2 wa] (xT 3 (xD 0 [yc 5,xm 6 1,qt 7 6,we 8 7,wG 9 5 8] 9 0 1 (qe (wW 4) (xD 2 [xt 12,xm 13 1,qt 14 13,yc 15,wo 16 5 14 15,qp 17 4 16,qt 18 17,we 19 18,wG 20 12 19] 20 2 3 (qe [xm 23 1,yc 25,xt 29,xm 32 1,qt 24 23,wo 26 5 24 25,qp 27 4 26,qt 28 27,wo 30 1 28 29,qt 31 30,qt 33 32,we 34 33,xj 35 34 1,xU 36 [.t 31,qP,.t 35],xZ 37 36] (x4 37 2)) (xt 21) 22 21 1 4 22)) (yc 10) 11 10 1 3 11) [xm 38 1,qt 39 38,we 40 39,qB 41 .gtr 40 0,qf 2 41])⟩
theorem rW:aA Tryz.prog fK=some jE:=by kernel_rfl
def jv:FK:=⟨35,[],qe [qt 8 1,wd 9,wo 10 1 8 9,qR 1 10 wH] (qC [xm 11 2,qt 12 11,wd 13,wo 14 5 12 13,qp 15 4 14,qt 16 15,we 17 16,qc 18 qP] (qS 0 (qe [wG 19 18 17] (.seq (ww 19 0) (wq 1 (qX (xB (wo 20 1 16 18) (qt 21 20) 7 21) [qt 22 1,yh 23,wo 24 1 22 23,qt 25 24,xZ 26 25] (yg 26 [qt 27 3,yh 28,qb 29 (.callv (.t 27) (xh 28))])) (xA (wD 30 18 1) 18 30))))) (.reg [qt 31 4,wd 32,xX 33 1 [xR 32],wP 34 1 8 31 33,xz 4 34]))⟩
theorem oX:aA Tryz.prog cq=some jv:=by kernel_rfl
def lv:FK:=⟨14,xO,qX [xa 1 3 0,qc 2 xq] [qW 3 xP] (qX [xm 6 1,qt 7 6,we 8 7,qb 9 (.mks 1 1 [qG] (.t 8) (.t 8)),qW 4 xP,xz 4 9] [qW 5 [.nilf]] (qX [qb 10 (.mkf (.func cq) [.t 4,.t 1,.t 5,.t 3]),xz 5 10] [qt 11 5,qb 12 (.callv (.t 11) [qP])] (qH (xA (qt 13 3) 2 13))))⟩
theorem sX:aA Tryz.prog ir=some lv:=by kernel_rfl
def eM:FK:=⟨28,[],qe [wd 4,we 5 4,xj 6 5 1,qc 2 qP,xJ 3] (wU 0 [qf 7 2,yc 8,wG 9 7 8] 9 0 1 (.reg [wd 14,qf 15 2,wd 16,yc 17,wd 18,yc 19,wo 20 1 18 19,wd 22,qf 23 2,wo 24 1 22 23,qt 21 20,qt 25 24,wo 26 1 14 15,xz 26 21,wo 27 1 16 17,xz 27 25]) [qf 10 2,wD 11 10 1,yc 12,xj 13 12 1,qf 2 11,qf 3 13])⟩
theorem ke:aA Tryz.prog cA=some eM:=by kernel_rfl
def kw:FK:=⟨12,xO,qe [xa 1 3 0,qc 2 xq] (qC [wy 4 3 1,xi 5 gk 4,xZ 6 5] (wT 6 2 xq) (qX (xB (wy 7 3 1) (xi 8 ir 7) 3 8) [yc 9,xi 10 cA 9] (qH (xA (yc 11) 2 11))))⟩
theorem pS:aA Tryz.prog dx=some kw:=by kernel_rfl
def fO:FK:=⟨6,[xH 2 3],x7 [qW 2 [qx,qx,.nils]] [wd 3,xi 4 dD 3,xi 5 dF 4,qT 3 2 5]⟩
theorem lH:aA Tryz.prog gi=some fO:=by kernel_rfl
def jy:FK:=⟨54,xK 8,qX [xa 4 3 0,qc 8 xq] [qf 10 2,xI 11,wo 12 1 10 11,qR 1 12 wH] (xT 9 (xD 0 [qf 13 9,xm 14 4,qt 15 14,xI 16,wo 17 5 15 16,qp 18 4 17,qt 19 18,we 20 19,wG 21 13 20] 21 0 1 (qe [qf 24 2,xm 25 4,qt 26 25,xI 27,wo 28 5 26 27,qp 29 4 28,qt 30 29,qf 31 9,wo 32 1 30 31,qt 33 32,wo 34 1 24 33,qt 35 34,xZ 36 35] (yg 36 [xm 38 4,xI 40,qf 44 9,qf 47 2,yc 48,wy 37 3 4,qt 39 38,wo 41 5 39 40,qp 42 4 41,qt 43 42,wo 45 1 43 44,qt 46 45,qn 49 bP [.t 37,.t 46,.t 47,.t 48],qf 3 49])) (qf 22 9) 23 22 1 9 23) [yc 50,xI 51,xX 52 1 [xR 51],wP 53 1 8 50 52,qf 8 53])⟩
theorem oZ:aA Tryz.prog bP=some jy:=by kernel_rfl
def eY:AK:=qe [xa 1 3 0,qc 2 xq] (.cut (.ot (.one [] (.one [xm 7 1] (.one [wy 6 3 1] (.one [qt 8 7] (.one [we 9 8] (qY [qb 10 (.mks 1 1 [qG] (.t 9) (.t 9)),qz (some 3) 1 6] (yf [xX 11 0 [],qz (some 3) 1 6,qL 7 8] [qn 12 bP [.t 6,qP,.t 10,.t 11]] (.one [qf 3 12] .done)) (yf [xX 11 0 [],qz (some 3) 1 6,qL 7 8] [qb 10 (.mks 1 1 [qG] (.t 9) (.t 9)),qz (some 3) 1 6] (wM [qn 12 bP [.t 6,qP,.t 10,.t 11]] (.one [qf 3 12] .done)))))))))) (xG (xX 13 0 []) 4 13 (wL [yc 14,we 15 14,xj 16 15 1,qf 5 16] (xC 0 [wV 17,qB 18 .geq 17 0] 18 0 1 (.reg [xt 21,yc 22,wV 23,wo 24 1 22 23,qt 25 24,xX 26 1 [xR 25],wP 27 1 8 21 26,qf 4 27]) (wV 19) (xj 20 19 1) 5 20) (xA (xt 28) 2 28))))
def eX:FK:=⟨29,xO,(AK.whole eY)⟩
theorem pn:aA Tryz.prog dd=some eX:=by kernel_rfl
def lE:FK:=⟨29,xY,qe (wB 4 wa) (wL [wd 6,we 7 6,xI 8,we 9 8,qb 10 (.mn (.t 7) (.t 9)),qc 11 qP] (qS 0 (qe [wG 12 11 10] (.seq (ww 12 0) (wq 1 (qX (xA (qf 13 11) 5 13) [wd 14,wV 15,wo 16 1 14 15,xI 18,wV 19,wo 20 1 18 19,qt 17 16,qt 21 20,wm 22 .neq 17 21] (x4 22 4)) (xA (wD 23 11 1) 11 23))))) [wd 24,we 25 24,xI 26,we 27 26,wm 28 .eql 25 27,qf 4 28])⟩
theorem tf:aA Tryz.prog iv=some lE:=by kernel_rfl
def mP:FK:=⟨17,xY,qe (wB 4 wa) (wL [wd 7,we 8 7,qc 9 qP] (qS 0 (qe [wG 10 9 8] (.seq (ww 10 0) (wq 1 (qX (xB (wo 11 1 7 9) (qt 12 11) 6 12) [xJ 13,xI 14,wm 15 .eql 13 14] (wT 15 4 wH)) (xA (wD 16 9 1) 9 16))))) (wB 4 wa))⟩
theorem uG:aA Tryz.prog fh=some mP:=by kernel_rfl
def jx:FK:=⟨47,xY,qX (wB 4 xq) (wW 5) (.seq (wQ 0 [wV 7,wd 8,we 9 8,wG 10 7 9,qf 11 10,xF 12 11 0,xF 13 11 5,qO 14 11 (qF 1 12 (.t 13)),xb 15 11 14,xF 16 11 1,xx 17 11 .lss 15 (.t 16),xL 18 11 17 wa] 18 0 (.blk 1 (.reg (xB (wV 19) (wD 20 19 1) 5 20)))) (qC [wV 21,wd 22,we 23 22,wG 24 21 23,qf 25 24,xF 26 25 0,xF 27 25 5,qO 28 25 (qF 1 26 (.t 27)),xb 29 25 28,xF 30 25 1,xx 31 25 .eql 29 (.t 30),xL 32 25 31 wa] (wx 32 (xA (wd 33) 4 33)) (x7 [xX 34 0 [],wd 35,wV 36,qb 37 (.slS 1 (.t 35) none (some (.t 36))),wP 38 1 8 34 37,qf 6 38] [xJ 39,xI 40,wd 43,wV 44,qb 45 (.slS 1 (.t 43) (some (.t 44)) none),xX 41 1 [xR 40],wP 42 1 8 39 41,wP 46 1 8 42 45,qf 4 46])))⟩
theorem oU:aA Tryz.prog bO=some jx:=by kernel_rfl
def iV:FK:=⟨19,xO,qX (wB 2 xq) [xX 5 0 [],wV 3] (xT 4 (xD 0 [xt 6,wd 7,we 8 7,wG 9 6 8] 9 0 1 (.reg [yc 12,wd 13,xt 14,wo 15 1 13 14,qt 16 15,wY 17 bO 12 16,qf 3 17]) (xt 10) 11 10 1 4 11) (xA (yc 18) 2 18))⟩
theorem nQ:aA Tryz.prog eb=some iV:=by kernel_rfl
def eP:FK:=⟨6,[xH 2 3],x7 [qW 2 [qx,qx,.nils]] [wd 3,xi 4 dD 3,xi 5 dF 4,qT 3 2 5]⟩
theorem kr:aA Tryz.prog cH=some eP:=by kernel_rfl
def iN:FK:=⟨61,xO,qX [xa 1 3 0,qc 2 xq] (xB (wy 12 3 1) (xi 13 dx 12) 3 13) (xG (qb 14 .mkm) 4 14 (qC [yc 15,we 16 15,qc 17 qP] (qS 0 (qe [wG 18 17 16] (.seq (ww 18 0) (wq 1 (qe [qf 19 17,wo 20 1 15 17,qt 21 20,qf 5 19,qf 6 21] (.reg [xt 22,xJ 23,wV 24,qw (.mup 0 (.t 22) (.t 23) (.t 24))])) (xA (wD 25 17 1) 17 25))))) (qe (wB 7 xq) (wL [yc 26,xi 27 eR 26,we 28 27,qc 29 qP] (qS 2 (qe [wG 30 29 28] (.seq (ww 30 2) (wq 3 (qX (xB (wo 31 1 27 29) (qt 32 31) 9 32) [xm 33 1,qt 34 33,qf 35 9,wo 36 5 34 35,qp 37 4 36,qt 38 37,xi 39 eR 38,we 40 39,qc 41 qP] (qS 4 (qe [wG 42 41 40] (.seq (ww 42 4) (wq 5 (qX (xB (wo 43 1 39 41) (qt 44 43) 11 44) [xt 45,qf 46 11,qb 47 (.lk 0 qx false (.t 45) (.t 46)),xt 48,qf 49 9,qb 50 (.lk 0 qx false (.t 48) (.t 49)),wm 51 .leq 47 50] (yg 51 [yh 52,qf 53 9,qf 54 11,xX 55 2 [xR 53,wC 1 54],qI 56 1 xP 1 [xR 55],wP 57 1 24 52 56,qf 7 57])) (xA (wD 58 41 1) 41 58)))))) (xA (wD 59 29 1) 29 59))))) (xA (yh 60) 2 60)))))⟩
theorem ox:aA Tryz.prog ee=some iN:=by kernel_rfl
def jw:FK:=⟨32,xY,qX (wB 4 xq) (xB (wd 8) (qb 9 (.mks 1 8 xu (.t 8) (.t 8))) 5 9) (qC (wW 6) (xD 0 [xJ 10,wd 11,wG 12 10 11] 12 0 1 (.reg [wV 15,xJ 16,wo 17 1 15 16,qR 1 17 (qi (-1))]) (xJ 13) 14 13 1 6 14) (xT 7 (xD 2 [yh 18,xI 19,we 20 19,wG 21 18 20] 21 2 3 (.reg [wV 24,xI 25,yh 26,wo 27 1 25 26,qt 28 27,yh 29,wo 30 1 24 28,xz 30 29]) (yh 22) 23 22 1 7 23) (xA (wV 31) 4 31)))⟩
theorem oT:aA Tryz.prog eW=some jw:=by kernel_rfl
def iQ:FK:=⟨68,xO,qX [xa 1 3 0,qc 2 xq] (xA (qI 8 1 xP 0 []) 3 8) (qC [wy 9 3 1,xi 10 fK 9,xZ 11 10] (wx 11 (xA (yc 12) 2 12)) (qe [xm 13 1,qt 14 13,we 15 14,wy 16 3 1,xi 17 dd 16,qL 13 14,wY 18 eW 15 17,qf 4 18] (xT 5 (xD 0 [wV 19,xm 20 1,qt 21 20,we 22 21,wG 23 19 22] 23 0 1 (qX [xm 26 1,qt 27 26,wV 28,wo 29 5 27 28,qp 30 4 29,qt 31 30,xi 32 eb 31,qf 6 32] (wW 7) (xD 2 [yh 33,xJ 34,we 35 34,wG 36 33 35] 36 2 3 (qe [xt 39,wV 40,wo 41 1 39 40,qt 42 41,qB 43 .geq 42 0,qf 44 43,xF 45 44 4,xF 46 44 6,xF 47 44 7,qO 48 44 (qF 1 46 (.t 47)),xF 52 44 4,xF 53 44 5,qO 54 44 (qF 1 52 (.t 53)),xb 49 44 48,qO 50 44 (qF 1 45 (.t 49)),xb 51 44 50,xb 55 44 54,xx 56 44 .leq 51 (.t 55),xL 57 44 56 wa] (yg 57 [yc 58,wV 59,xJ 60,yh 61,wo 62 1 60 61,qt 63 62,xX 64 2 [xR 59,wC 1 63],qI 65 1 xP 1 [xR 64],wP 66 1 24 58 65,qf 3 66])) (yh 37) 38 37 1 7 38)) (wV 24) 25 24 1 5 25) (xA (yc 67) 2 67))))⟩
theorem og:aA Tryz.prog ed=some iQ:=by kernel_rfl
def fQ:FK:=⟨96,xO,qe (wB 2 wa) (qC [wd 14,we 15 14,qB 16 .gtr 15 1048576] (wT 16 2 wH) (qX [wd 17,xi 18 cH 17,qW 3 [qx,qx,.nils],qT 3 3 18] (xB (wy 19 3 3) (xi 20 ee 19) 4 20) (qe (xB (wy 21 3 3) (xi 22 ed 21) 5 22) (qC [xt 23,we 24 23,wV 25,we 26 25,wm 27 .neq 24 26] (x4 27 2) (xG (xX 28 0 []) 6 28 (qC [xt 29,we 30 29,qc 31 qP] (qS 0 (qe [wG 32 31 30] (.seq (ww 32 0) (wq 1 (qe [qf 33 31,wo 34 1 29 31,qt 35 34,qf 7 33,qf 8 35] (qC [qf 36 8,wV 37,yh 38,wo 39 1 37 38,qt 40 39,wY 41 iv 36 40,xZ 42 41] (x4 42 2) (.reg [xJ 43,qf 44 8,wh 45 1 44 qP,qf 48 8,wh 49 1 48 wJ,qt 46 45,qB 47 .mul 46 1000,qt 50 49,wm 51 .add 47 50,xX 52 1 [xR 51],wP 53 1 8 43 52,qf 6 53]))) (xA (wD 54 31 1) 31 54))))) (qe (xB (wy 55 3 3) (xi 56 dx 55) 9 56) (wL [qf 57 9,we 58 57,qc 59 qP] (qS 2 (qe [wG 60 59 58] (.seq (ww 60 2) (wq 3 (qX [qf 61 59,wo 62 1 57 59,qt 63 62,qf 10 61,qf 11 63] [xm 64 3,qt 65 64,qf 66 11,wo 67 5 65 66,qp 68 4 67,qt 69 68,we 70 69,qc 71 qP] (qS 4 (qe [wG 72 71 70] (.seq (ww 72 4) (wq 5 (qX (xB (wo 73 1 69 71) (qt 74 73) 13 74) [xJ 75,qf 76 11,qB 77 .mul 76 1000,qf 78 13,wm 79 .add 77 78,qf 81 9,qf 82 10,wD 83 82 1,qb 84 (.slS 1 (.t 81) none (some (.t 83))),qf 85 13,wY 80 fh 75 79,wY 86 fh 84 85,qb 87 (.beq true (.t 80) (.t 86))] (x4 87 2)) (xA (wD 88 71 1) 71 88)))))) (xA (wD 89 59 1) 59 89))))) [xt 90,we 91 90,qf 92 9,we 93 92,qb 94 (.bin .mul (qi 2) (.t 93)),wm 95 .leq 91 94,qf 2 95]))))))))⟩
theorem lQ:aA Tryz.prog fU=some fQ:=by kernel_rfl
end Go.Proofs.YtdfplkcigiblcaaGreat
