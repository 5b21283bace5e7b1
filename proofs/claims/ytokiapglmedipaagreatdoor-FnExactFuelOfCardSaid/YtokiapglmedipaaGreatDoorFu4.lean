/-
  Contracts and lemmas that the card needs, part 4.
-/
import Derived.Test.YtokiapglmedipaaGreatDoorFu3
import Derived.Test.YtokiapglmedipaaGreatDoorRows
namespace Go.Proofs.YtokiapglmedipaaGreatDoor
open Go Go.Aw
set_option maxRecDepth 100000
abbrev gn:FuncId:=148
abbrev gD:FuncId:=231
abbrev dB:FuncId:=207
abbrev gC:FuncId:=183
abbrev bX:FuncId:=149
abbrev jZ:FuncId:=100
abbrev lS:FuncId:=49
abbrev dT:FuncId:=13
abbrev dS:FuncId:=152
abbrev gE:FuncId:=232
abbrev cM:FuncId:=211
abbrev gF:FuncId:=188
abbrev bY:FuncId:=153
abbrev kf:FuncId:=103
abbrev iO:FuncId:=52
abbrev cT:FuncId:=15
abbrev dm:FuncId:=16
abbrev ib:FuncId:=56
abbrev ji:FuncId:=239
abbrev jb:FuncId:=235
abbrev lY:FuncId:=221
abbrev eO:FuncId:=236
abbrev lK:FuncId:=222
abbrev bS:FuncId:=195
abbrev gI:FuncId:=237
abbrev gN:FuncId:=242
abbrev eL:FuncId:=240
abbrev fv:FuncId:=241
abbrev dN:FuncId:=238
abbrev gQ:FuncId:=223
abbrev bE:FuncId:=196
abbrev mU:FuncId:=164
abbrev dH:FuncId:=197
abbrev lH:FuncId:=165
abbrev dY:FuncId:=114
abbrev gR:FuncId:=199
abbrev aY:FuncId:=200
abbrev da:FuncId:=224
abbrev gJ:FuncId:=225
abbrev dx:FuncId:=201
abbrev du:FuncId:=227
abbrev bZ:FuncId:=226
abbrev bP:FuncId:=202
abbrev kn:FuncId:=169
abbrev ey:FuncId:=119
abbrev kw:FuncId:=70
abbrev iq:FuncId:=101
abbrev kL:FuncId:=50
abbrev bH:FuncId:=184
abbrev dy:FuncId:=150
abbrev iN:FuncId:=186
abbrev dv:FuncId:=208
abbrev cP:FuncId:=209
abbrev lT:FuncId:=210
abbrev aL:FuncId:=185
abbrev fC:FuncId:=187
abbrev fL:FuncId:=151
abbrev aC:FuncId:=102
abbrev jK:FuncId:=51
abbrev eK:FuncId:=14
abbrev dk:FuncId:=57
abbrev ed:FuncId:=172
abbrev eB:FuncId:=122
abbrev dt:FuncId:=173
abbrev cy:FuncId:=124
abbrev cr:FuncId:=123
abbrev bT:FuncId:=75
abbrev ck:FuncId:=125
abbrev bM:FuncId:=76
abbrev bK:FuncId:=174
abbrev br:FuncId:=126
abbrev eQ:FuncId:=175
abbrev gB:FuncId:=156
abbrev jj:FuncId:=228
abbrev eU:FuncId:=203
abbrev dP:FuncId:=176
abbrev gG:FuncId:=128
abbrev bU:FuncId:=127
abbrev ca:FuncId:=78
abbrev fB:FuncId:=129
abbrev dO:FuncId:=130
abbrev iW:FuncId:=79
abbrev aU:FuncId:=77
abbrev ep:FuncId:=37
abbrev bW:FuncId:=80
abbrev eM:FuncId:=81
abbrev gZ:FuncId:=39
abbrev bN:FuncId:=72
abbrev cx:FuncId:=73
abbrev iM:FuncId:=170
abbrev bI:FuncId:=121
abbrev bv:FuncId:=171
abbrev cH:FuncId:=120
abbrev be:FuncId:=74
abbrev eu:FuncId:=36
abbrev mT:FuncId:=68
abbrev dc:FuncId:=189
abbrev cm:FuncId:=154
abbrev bV:FuncId:=155
abbrev ju:FuncId:=104
abbrev kJ:FuncId:=53
abbrev aQ:FuncId:=157
abbrev oM:FuncId:=105
abbrev cZ:FuncId:=108
abbrev kg:FuncId:=212
abbrev cF:FuncId:=190
abbrev dQ:FuncId:=215
abbrev jo:FuncId:=205
abbrev fQ:FuncId:=180
abbrev cK:FuncId:=216
abbrev bp:FuncId:=213
abbrev fS:FuncId:=214
abbrev eg:FuncId:=191
abbrev aN:FuncId:=158
abbrev cJ:FuncId:=107
abbrev cI:FuncId:=106
abbrev dw:FuncId:=54
abbrev eG:FuncId:=17
abbrev gq:FuncId:=159
abbrev gL:FuncId:=233
abbrev dI:FuncId:=217
abbrev gO:FuncId:=192
abbrev cQ:FuncId:=160
abbrev jT:FuncId:=109
abbrev lI:FuncId:=55
abbrev gk:FuncId:=18
abbrev kM:FuncId:=19
abbrev gW:FuncId:=3
@[reducible] def qa(a:Nat)(b:Option (Nat × Bool))(c:AI):CO:=⟨some a,b,c⟩
@[reducible] def qb(a:Nat)(b:AI):CO:=qa a none b
@[reducible] def qd(a:Nat)(b:AOp):CO:=qb a (.mov b)
@[reducible] def qe(a:List CO)(b:AK):AK:= .seq (.reg a) b
@[reducible] def qf(a b:Nat):CO:=qd a (.t b)
@[reducible] def qg(a:IntKind)(b:Int):AV:= .p (.int a b)
@[reducible] def qh(a b:Nat):AI:= .fldA a (.t b)
@[reducible] def qi(a:Int):AV:=qg .i64 a
@[reducible] def qj(a:Option Nat)(b:Nat):AI:= .ld a (.t b)
@[reducible] def qk(a:Int):AOp:= .c (qi a)
@[reducible] def ql(a:BinOp)(b:Nat)(c:AOp):AI:= .bin a (.t b) c
@[reducible] def qm(a:Nat)(b:Nat × Bool)(c:AI):CO:=qa a (some b) c
@[reducible] def qn(a:Nat)(b c:AK):AK:= .cond (.t a) b c
@[reducible] def qo(a:Nat)(b:Option Nat)(c:Nat):CO:=qb a (qj b c)
@[reducible] def qp(a:Bool):AV:= .p (.bool a)
@[reducible] def qq(a b c:Nat):CO:=qb a (qh b c)
@[reducible] def qr(a:Nat)(b:BinOp)(c:Nat)(d:AOp):CO:=qb a (ql b c d)
@[reducible] def qt(a:Nat)(b:FuncId)(c:List AOp):CO:=qb a (.call b c)
@[reducible] def qu(a b:Nat):CO:=qo a none b
@[reducible] def qv:AV:=qp false
@[reducible] def qw(a:List CO):AK:=qe a .ret
@[reducible] def qx(a:List CO)(b c:AK):AK:= .seq (qe a b) c
@[reducible] def qy(a:Nat)(b:BinOp)(c:Nat)(d:Int):CO:=qr a b c (qk d)
@[reducible] def qz(a:Nat)(b:Int):CO:=qd a (qk b)
@[reducible] def qA(a:Nat)(b:AK):AK:=qn a b .skip
@[reducible] def qB(a:Nat)(b:AV):CO:=qd a (.c b)
@[reducible] def qC(a:Nat):AI:= .nilck (.t a)
@[reducible] def qD(a:AOp):AI:= .len false a
@[reducible] def qF(a b:Nat)(c:AOp):AI:= .idxS a (.t b) c
@[reducible] def qG(a b c:Nat):CO:=qo a (some b) c
@[reducible] def qH(a b:Nat)(c:Bool)(d:AI):CO:=qm a (b,c) d
@[reducible] def qI(a b:Nat)(c:AI):CO:=qH a b true c
@[reducible] def qJ(a b:Nat)(c:AI):CO:=qH a b false c
@[reducible] def qK(a:Option (Nat × Bool))(b:AI):CO:=⟨none,a,b⟩
@[reducible] def qL(a:Nat)(b c:AOp):AI:= .pick (.t a) b c
@[reducible] def qM(a:Nat)(b:List CO):AK:=qA a (qw b)
@[reducible] def qN(a:Nat)(b:AK):AK:= .blk a (.loop b)
@[reducible] def qO(a:AI):CO:=qK none a
@[reducible] def qQ(a:Nat):AI:=qD (.t a)
@[reducible] def qS(a:Nat)(b c:AK):AK:= .seq (.blk a b) c
@[reducible] def qT(a b:Nat):AI:= .box a (.t b)
@[reducible] def qU:AV:=qp true
@[reducible] def qV(a:Nat)(b c:AOp):CO:=qO (.st a b c)
@[reducible] def qW(a:Nat)(b:BinOp)(c d:Nat):CO:=qr a b c (.t d)
@[reducible] def qX(a:Nat):AI:= .not (.t a)
@[reducible] def qY(a b:List CO)(c d:AK):AK:=qe a (qx b c d)
@[reducible] def qZ(a:Nat)(b:AK)(c:Nat):AK:=qn a b (.exit c)
@[reducible] def wa(a:List UInt8):AV:= .p (.str a)
@[reducible] def wb(a b:Nat):CO:=qb a (qC b)
@[reducible] def wc(a b:Nat):CO:=qb a (qQ b)
@[reducible] def wd:AV:=qi 0
@[reducible] def we(a b c:Nat)(d:AOp):CO:=qb a (qF b c d)
@[reducible] def wg(a b:Nat)(c:Int):CO:=qy a .eql b c
@[reducible] def wh(a:Nat):CO:=qf a 0
@[reducible] def wj(a b:Nat)(c:AOp):CO:=qV a (.t b) c
@[reducible] def wl(a b c:Nat):CO:=wj a b (.t c)
@[reducible] def wm(a:Nat)(b:AK)(c:List CO):AK:=qS a b (.reg c)
@[reducible] def wn(a:Nat):AI:=qj none a
@[reducible] def wo(a:Nat):CO:=qB a qv
@[reducible] def wq(a b c d:Nat):CO:=we a b c (.t d)
@[reducible] def wt(a:Nat):AI:= .mov (.t a)
@[reducible] def wu(a b:Nat):AK:=qZ a .skip b
@[reducible] def ww(a b:Nat)(c d:AOp):CO:=qb a (qL b c d)
@[reducible] def wx(a b c:Nat):CO:=qb a (qT b c)
@[reducible] def wy(a b:Nat)(c:Int):CO:=qy a .add b c
@[reducible] def wz(a b:Nat):AI:= .ext a (.t b)
@[reducible] def wA:CO:=wo 4
@[reducible] def wB(a b:List CO)(c:AK):AK:=qe a (qe b c)
@[reducible] def wD(a:Nat)(b:List AV):CO:=qb a (.alloc b)
@[reducible] def wE(a:Nat):CO:=qz a 0
@[reducible] def wF:AV:=wa []
@[reducible] def wG(a:Nat):CO:=qf a 1
@[reducible] def wH(a b c:Nat):CO:=qW a .lss b c
@[reducible] def wI:AOp:= .c qv
@[reducible] def wJ(a b:Nat):CO:=qb a (qX b)
@[reducible] def wK(a:Nat)(b:AK)(c:List CO)(d:AK):AK:=qn a b (qe c d)
@[reducible] def wL(a:CO)(b c:Nat):List CO:=[a,qf b c]
@[reducible] def wM(a b:Nat)(c:Int)(d e:Nat):List CO:=wL (wg a b c) d e
@[reducible] def wN(a b c:Nat):CO:=qb a (wz b c)
@[reducible] def wP(a b:List CO)(c:AK)(d:List CO):AK:=qY a b c (qw d)
@[reducible] def wQ(a b:Nat):CO:=qq a 0 b
@[reducible] def wR(a b c:Nat):CO:=qI a b (wn c)
@[reducible] def wS:AOp:= .c qU
@[reducible] def wT(a b c d:Nat):CO:=qI a b (qh c d)
@[reducible] def wU:RV:= .t 4
@[reducible] def wV(a:BinOp)(b:Nat)(c:Int):AI:=ql a b (qk c)
@[reducible] def wW(a:Nat)(b:AOp):List AOp:=[.t a,b]
@[reducible] def wX(a:Nat)(b:FuncId)(c:Nat)(d:AOp):CO:=qt a b (wW c d)
@[reducible] def wY(a:Nat)(b:FuncId)(c d:Nat):CO:=wX a b c (.t d)
@[reducible] def wZ(a:Nat)(b:List CO)(c d:AK):AK:=qN a (qx b c d)
@[reducible] def w6(a:Nat)(b:List CO)(c d:Nat)(e:AK):AK:=wZ a b (wu c d) e
@[reducible] def w7(a:Nat)(b:CO):AK:=qM a [b]
@[reducible] def w8(a:Nat):List AOp:=[.t a]
@[reducible] def w9(a:Nat)(b:FuncId)(c:Nat):CO:=qt a b (w8 c)
@[reducible] def xa(a b c:Nat)(d:AOp):CO:=ww a b (.t c) d
@[reducible] def xb(a:Nat):CO:=qf a 5
@[reducible] def xc(a b:List CO):AK:=qe a (qw b)
@[reducible] def xd(a b:Nat)(c:AOp)(d:Nat):CO:=ww a b c (.t d)
@[reducible] def xe:CO:=wE 4
@[reducible] def xf(a:Nat)(b:List CO)(c d e:Nat)(f:AK)(g:List CO):AK:=w6 a b c d (wm e f g)
@[reducible] def xg(a:Option Nat)(b c:Nat):CO:=qO (.chk a b c)
@[reducible] def xh(a:Nat)(b:List AOp):CO:=qt a bp b
@[reducible] def xi(a:Nat):CO:=qf a 2
@[reducible] def xj:RV:= .t 2
@[reducible] def xk(a:Nat)(b:List CO):AK:=qA a (.reg b)
@[reducible] def xm(a b c:Nat):CO:=qJ a b (wn c)
@[reducible] def xn(a:List CO)(b c:AK):AK:=qe a (.seq b c)
@[reducible] def xo(a b:List CO)(c:Nat)(d:CO)(e:AK):AK:=qY a b (w7 c d) e
@[reducible] def xp(a b:Nat):CO:=qq a 2 b
@[reducible] def xq(a b c d:Nat):CO:=qJ a b (qh c d)
@[reducible] def xr(a b:Nat):CO:=qq a 1 b
@[reducible] def xt(a:Nat)(b:AK)(c d:Nat)(e:Int)(f g:Nat)(h:AK):AK:=wK a b (wM c d e f g) h
@[reducible] def xu(a b:Nat):CO:=wy a b 1
@[reducible] def xv(a:BinOp)(b:Nat)(c:AOp):AI:= .bins a (.t b) c
@[reducible] def xw(a b:Nat)(c:Int):CO:=qy a .lss b c
@[reducible] def xx(a b c:Nat):CO:=qJ a b (wt c)
@[reducible] def xy(a b:Nat):CO:=qq a 3 b
@[reducible] def xz(a:List CO)(b:AK)(c:List CO):AK:=qx a b (qw c)
@[reducible] def xA(a b c:Nat):CO:=qI a b (wt c)
@[reducible] def xB(a b:Nat)(c:BinOp)(d:Nat)(e:Int):CO:=qI a b (wV c d e)
@[reducible] def xC(a:Nat):CO:=qf 6 a
@[reducible] def xD(a:Nat)(b c:AOp):List AOp:=[.t a,b,c]
@[reducible] def xE(a b:Nat)(c:AOp):List AOp:=xD a (.t b) c
@[reducible] def xF(a b c:Nat):List AOp:=xE a b (.t c)
@[reducible] def xG(a:Nat)(b:FuncId)(c d e:Nat):CO:=qt a b (xF c d e)
@[reducible] def xH(a b:Nat)(c:AOp):CO:=wX a bN b c
@[reducible] def xI(a:Nat):CO:=qf a 8
@[reducible] def xJ(a:List AOp):AI:= .call ib a
@[reducible] def xK(a b:Nat):CO:=wl 1 a b
@[reducible] def xL(a b c:Nat):CO:=xa a b c wI
@[reducible] def xM(a b:Nat)(c:List AV)(d:Nat)(e:List (Nat × Nat × AOp)):CO:=qb a (.bsl b c d e)
@[reducible] def xN:List RV:=[wU]
@[reducible] def xO(a:Nat):AK:=w7 a wA
@[reducible] def xP(a:Nat):CO:=qz a (-1)
@[reducible] def xQ:CO:=xP 4
@[reducible] def xR(a b c:Nat):CO:=xd a b wS c
@[reducible] def xS:CO:=wo 2
@[reducible] def xT(a b:List CO):AK:=qe a (.reg b)
@[reducible] def xU(a:Nat):CO:=qB a qU
@[reducible] def xV(a b c d:Nat):CO:=xG a aL b c d
def gm:FK:=⟨28,xN,qe [xe] (xo [wG 6,wh 7,wc 8 7,qW 9 .sub 6 8,qf 1 9] [wG 10,xw 11 10 0] 11 xQ (xz [wE 5] (xf 0 [xb 12,wh 13,wc 14 13,wH 15 12 14] 15 0 1 (wB [wG 18,wh 19,xb 20,wq 21 1 19 20,qu 22 21,qb 23 (.len true (.t 22)),qW 24 .sub 18 23,qf 1 24] [wG 25,xw 26 25 0] (w7 26 xQ)) [xb 16,xu 17 16,qf 5 17]) (wL (wG 27) 4 27)))⟩
theorem sq:ae Tryz.prog gn=some gm:=by kernel_rfl
def kH:FK:=⟨19,xN,qe [wx 2 4 0,xe] (xo [wG 5,xp 6 2,qu 7 6,qb 8 (.len true (.t 7)),qW 9 .sub 5 8,qf 1 9] [wG 10,xw 11 10 0] 11 xQ (wP [xy 12 2,qu 13 12,wG 14,wY 15 dB 13 14,qf 1 15] [wG 16,xw 17 16 0] (w7 17 xQ) (wL (wG 18) 4 18)))⟩
theorem yL:ae Tryz.prog gD=some kH:=by kernel_rfl
def jf:FK:=⟨27,xN,qe [xe] (xo [wG 6,wh 7,wc 8 7,qW 9 .sub 6 8,qf 1 9] [wG 10,xw 11 10 0] 11 xQ (xz [wE 5] (xf 0 [xb 12,wh 13,wc 14 13,wH 15 12 14] 15 0 1 (wB [wh 18,xb 19,wq 20 4 18 19,qG 21 4 20,wG 22,wY 23 gD 21 22,qf 1 23] [wG 24,xw 25 24 0] (w7 25 xQ)) [xb 16,xu 17 16,qf 5 17]) (wL (wG 26) 4 26)))⟩
theorem vq:ae Tryz.prog dB=some jf:=by kernel_rfl
def kz:FK:=⟨31,xN,qe [wx 2 5 0,xe] (xo [wG 5,xr 6 2,qu 7 6,qb 8 (.len true (.t 7)),qW 9 .sub 5 8,qf 1 9] [wG 10,xw 11 10 0] 11 xQ (xo [xp 12 2,qu 13 12,wG 14,wY 15 dB 13 14,qf 1 15] [wG 16,xw 17 16 0] 17 xQ (xo [xy 18 2,qu 19 18,wG 20,wY 21 bX 19 20,qf 1 21] [wG 22,xw 23 22 0] 23 xQ (wP [qq 24 4 2,qu 25 24,wG 26,wY 27 bX 25 26,qf 1 27] [wG 28,xw 29 28 0] (w7 29 xQ) (wL (wG 30) 4 30)))))⟩
theorem yH:ae Tryz.prog gC=some kz:=by kernel_rfl
def jC:FK:=⟨27,xN,qe [xe] (xo [wG 6,wh 7,wc 8 7,qW 9 .sub 6 8,qf 1 9] [wG 10,xw 11 10 0] 11 xQ (xz [wE 5] (xf 0 [xb 12,wh 13,wc 14 13,wH 15 12 14] 15 0 1 (wB [wh 18,xb 19,wq 20 5 18 19,qG 21 5 20,wG 22,wY 23 gC 21 22,qf 1 23] [wG 24,xw 25 24 0] (w7 25 xQ)) [xb 16,xu 17 16,qf 5 17]) (wL (wG 26) 4 26)))⟩
theorem vw:ae Tryz.prog bX=some jC:=by kernel_rfl
def mW:FK:=⟨25,xN,qe [wx 2 3 0,xe] (xo [wG 5,wQ 6 2,qu 7 6,qb 8 (.len true (.t 7)),qW 9 .sub 5 8,qf 1 9] [wG 10,xw 11 10 0] 11 xQ (xo [xr 12 2,qu 13 12,wG 14,wY 15 gn 13 14,qf 1 15] [wG 16,xw 17 16 0] 17 xQ (wP [xp 18 2,qu 19 18,wG 20,wY 21 bX 19 20,qf 1 21] [wG 22,xw 23 22 0] (w7 23 xQ) (wL (wG 24) 4 24))))⟩
theorem Cn:ae Tryz.prog jZ=some mW:=by kernel_rfl
def lD:FK:=⟨27,xN,qe [xe] (xo [wG 6,wh 7,wc 8 7,qW 9 .sub 6 8,qf 1 9] [wG 10,xw 11 10 0] 11 xQ (xz [wE 5] (xf 0 [xb 12,wh 13,wc 14 13,wH 15 12 14] 15 0 1 (wB [wh 18,xb 19,wq 20 3 18 19,qG 21 3 20,wG 22,wY 23 jZ 21 22,qf 1 23] [wG 24,xw 25 24 0] (w7 25 xQ)) [xb 16,xu 17 16,qf 5 17]) (wL (wG 26) 4 26)))⟩
theorem Ax:ae Tryz.prog lS=some lD:=by kernel_rfl
def kY:FK:=⟨12,xN,qe [wx 2 1 0,xe] (wP [wQ 5 2,qu 6 5,wG 7,wY 8 lS 6 7,xI 1] [wG 9,xw 10 9 0] (w7 10 xQ) (wL (wG 11) 4 11))⟩
theorem tj:ae Tryz.prog dT=some kY:=by kernel_rfl
def kQ:FK:=⟨22,[xj],qe [qB 2 .nils] (wP [wh 5,wc 6 5,qb 7 (.mks 1 16 [wF] (.t 6) (.t 6)),qf 3 7] [xe] (xf 0 [qf 8 4,wh 9,wc 10 9,wH 11 8 10] 11 0 1 (.reg [qf 14 3,qf 15 4,wh 16,qf 17 4,wq 18 1 16 17,qu 19 18,wq 20 1 14 15,xK 20 19]) [qf 12 4,xu 13 12,qf 4 13]) (wL (qf 21 3) 2 21))⟩
theorem sR:ae Tryz.prog dS=some kQ:=by kernel_rfl
def oT:FK:=⟨18,[.c 2 (some 4)],wB [wx 1 4 0,wD 2 [wd,wd,wF,.nils]] [wD 3 [wd,wd,wF,.nils]] (wB [wQ 4 1,qu 5 4,wQ 6 3,xK 6 5] [xr 7 1,qu 8 7,xr 9 3,xK 9 8] (wB [xp 10 1,qu 11 10,xp 12 3,xK 12 11] [xy 13 1,qu 14 13,w9 15 cM 14,xy 16 3,xK 16 15] (qw [qG 17 4 3,wl 4 2 17])))⟩
theorem yT:ae Tryz.prog gE=some oT:=by kernel_rfl
def mr:FK:=⟨23,[xj],qe [qB 2 .nils] (wP [wh 5,wc 6 5,qb 7 (.mks 4 56 [wd,wd,wF,.nils] (.t 6) (.t 6)),qf 3 7] [xe] (xf 0 [qf 8 4,wh 9,wc 10 9,wH 11 8 10] 11 0 1 (.reg [qf 14 3,qf 15 4,wh 16,qf 17 4,wq 18 4 16 17,qG 19 4 18,w9 20 gE 19,wq 21 4 14 15,wl 4 21 20]) [qf 12 4,xu 13 12,qf 4 13]) (wL (qf 22 3) 2 22))⟩
theorem vg:ae Tryz.prog cM=some mr:=by kernel_rfl
def oQ:FK:=⟨23,[.c 2 (some 5)],wB [wx 1 5 0,wD 2 [wd,wF,.nils,.nils,.nils]] [wD 3 [wd,wF,.nils,.nils,.nils]] (wB [wQ 4 1,qu 5 4,wQ 6 3,xK 6 5] [xr 7 1,qu 8 7,xr 9 3,xK 9 8] (wB [xp 10 1,qu 11 10,w9 12 cM 11,xp 13 3,xK 13 12] [xy 14 1,qu 15 14,w9 16 bY 15,xy 17 3,xK 17 16] (xc [qq 18 4 1,qu 19 18,w9 20 bY 19,qq 21 4 3,xK 21 20] [qG 22 5 3,wl 5 2 22])))⟩
theorem yE:ae Tryz.prog gF=some oQ:=by kernel_rfl
def mu:FK:=⟨23,[xj],qe [qB 2 .nils] (wP [wh 5,wc 6 5,qb 7 (.mks 5 96 [wd,wF,.nils,.nils,.nils] (.t 6) (.t 6)),qf 3 7] [xe] (xf 0 [qf 8 4,wh 9,wc 10 9,wH 11 8 10] 11 0 1 (.reg [qf 14 3,qf 15 4,wh 16,qf 17 4,wq 18 5 16 17,qG 19 5 18,w9 20 gF 19,wq 21 5 14 15,wl 5 21 20]) [qf 12 4,xu 13 12,qf 4 13]) (wL (qf 22 3) 2 22))⟩
theorem yx:ae Tryz.prog bY=some mu:=by kernel_rfl
def tJ:FK:=⟨16,[.c 2 (some 3)],wB [wx 1 3 0,wD 2 [wF,.nils,.nils]] [wD 3 [wF,.nils,.nils]] (wB [wQ 4 1,qu 5 4,wQ 6 3,xK 6 5] [xr 7 1,qu 8 7,w9 9 dS 8,xr 10 3,xK 10 9] (xc [xp 11 1,qu 12 11,w9 13 bY 12,xp 14 3,xK 14 13] [qG 15 3 3,wl 3 2 15]))⟩
theorem CE:ae Tryz.prog kf=some tJ:=by kernel_rfl
def rF:FK:=⟨23,[xj],qe [qB 2 .nils] (wP [wh 5,wc 6 5,qb 7 (.mks 3 64 [wF,.nils,.nils] (.t 6) (.t 6)),qf 3 7] [xe] (xf 0 [qf 8 4,wh 9,wc 10 9,wH 11 8 10] 11 0 1 (.reg [qf 14 3,qf 15 4,wh 16,qf 17 4,wq 18 3 16 17,qG 19 3 18,w9 20 kf 19,wq 21 3 14 15,wl 3 21 20]) [qf 12 4,xu 13 12,qf 4 13]) (wL (qf 22 3) 2 22))⟩
theorem AJ:ae Tryz.prog iO=some rF:=by kernel_rfl
def lh:FK:=⟨9,[.c 2 (some 1)],wB [wx 1 1 0,wD 2 [.nils]] [wD 3 [.nils]] (xc [wQ 4 1,qu 5 4,w9 6 iO 5,wQ 7 3,xK 7 6] [qG 8 1 3,xK 2 8])⟩
theorem tf:ae Tryz.prog cT=some lh:=by kernel_rfl
def oO:FK:=⟨22,[xj],qe [qB 2 .nils] (wP [wh 5,wc 6 5,qb 7 (.mks 1 8 [wd] (.t 6) (.t 6)),qf 3 7] [xe] (xf 0 [qf 8 4,wh 9,wc 10 9,wH 11 8 10] 11 0 1 (.reg [qf 14 3,qf 15 4,wh 16,qf 17 4,wq 18 1 16 17,qu 19 18,wq 20 1 14 15,xK 20 19]) [qf 12 4,xu 13 12,qf 4 13]) (wL (qf 21 3) 2 21))⟩
theorem yz:ae Tryz.prog dm=some oO:=by kernel_rfl
def mG:FK:=⟨15,[.t 6],xc [wo 6] [wh 7,wG 8,qW 9 .geq 7 8,qf 10 9,xA 11 10 0,xA 12 10 2,qI 13 10 (ql .leq 11 (.t 12)),xL 14 10 13,xC 14]⟩
theorem BD:ae Tryz.prog ib=some mG:=by kernel_rfl
def mo:FK:=⟨18,xN,wP [xe] [wE 5] (xf 0 [xb 6,wh 7,qb 8 (.len true (.t 7)),wH 9 6 8] 9 0 1 (qe [wh 12,xb 13,qb 14 (.idxStr (.t 12) (.t 13)),wG 15,qW 16 .eql 14 15] (qM 16 (wL (xb 17) 4 17))) [xb 10,xu 11 10,qf 5 11]) [xQ]⟩
theorem vI:ae Tryz.prog ji=some mo:=by kernel_rfl
def nB:FK:=⟨28,[xj],qe [wE 2] (qS 0 (qe [wh 4,qr 5 .geq 4 (.c (qg .u8 97)),xb 6,xA 7 6 0,qI 8 6 (ql .leq 7 (.c (qg .u8 122))),xL 9 6 8,qf 3 9] (wK 3 (qw [qz 2 1]) [wh 11,qr 12 .geq 11 (.c (qg .u8 48)),qf 13 12,xA 14 13 0,qI 15 13 (ql .leq 14 (.c (qg .u8 57))),xL 16 13 15,qf 10 16] (wK 10 (qw [qz 2 2]) [wh 18,qt 19 ji [.c (wa [40,41,123,125,59,44,43,45,42,47,37,60,61,38,33,64]),.t 18],qy 20 .geq 19 0,qf 17 20] (wK 17 (qw [qz 2 3]) [wh 22,qr 23 .eql 22 (.c (qg .u8 32)),qf 24 23,xx 25 24 0,qJ 26 24 (ql .eql 25 (.c (qg .u8 10))),xR 27 24 26,qf 21 27] (w7 21 (qz 2 4)))))) (qw [wE 2]))⟩
theorem vb:ae Tryz.prog jb=some nB:=by kernel_rfl
def se:FK:=⟨21,xN,wP [wA] [wE 5] (xf 0 [xb 6,wh 7,qb 8 (.len true (.t 7)),wH 9 6 8] 9 0 1 (qe [wh 12,xb 13,qb 14 (.idxStr (.t 12) (.t 13)),w9 15 jb 14,wG 16,qW 17 .neq 15 16] (xO 17)) [xb 10,xu 11 10,qf 5 11]) [wh 18,qb 19 (.len true (.t 18)),qy 20 .gtr 19 0,qf 4 20]⟩
theorem zO:ae Tryz.prog lY=some se:=by kernel_rfl
def mb:FK:=⟨2,[.t 0],xc [qB 0 .nils] [xM 1 1 [wF] 9 [(0,1,.c (wa [102,110])),(1,1,.c (wa [108,101,116])),(2,1,.c (wa [115,97,121])),(3,1,.c (wa [112,117,116])),(4,1,.c (wa [105,102])),(5,1,.c (wa [101,108,115,101])),(6,1,.c (wa [108,111,111,112])),(7,1,.c (wa [98,97,99,107])),(8,1,.c (wa [100,111]))],wG 0]⟩
theorem tY:ae Tryz.prog eO=some mb:=by kernel_rfl
def pT:FK:=⟨18,[xj],qe [xS] (wP (wL (qt 5 eO []) 3 5) [xe] (xf 0 [xC 4,qf 7 3,wc 8 7,wH 9 6 8] 9 0 1 (qe [qf 12 3,qf 13 4,wq 14 1 12 13,qu 15 14,wh 16,qb 17 (xv .eql 15 (.t 16))] (w7 17 (xU 2))) [qf 10 4,xu 11 10,qf 4 11]) [xS])⟩
theorem AS:ae Tryz.prog lK=some pT:=by kernel_rfl
def oE:FK:=⟨15,[xj],xc [xS] [wh 3,wX 4 lY 3 (qk 1),qf 5 4,xA 6 5 0,qI 7 5 (.len true (.t 6)),xB 8 5 .leq 7 4,xL 9 5 8,qf 10 9,xA 11 10 0,qI 12 10 (.call lK (w8 11)),qI 13 10 (qX 12),xL 14 10 13,qf 2 14]⟩
theorem yU:ae Tryz.prog bS=some oE:=by kernel_rfl
def kx:FK:=⟨5,[xj],wP [wE 2] [wh 3,wg 4 3 4] (w7 4 (qz 2 2)) [qz 2 1]⟩
theorem yM:ae Tryz.prog gI=some kx:=by kernel_rfl
def cA:FK:=⟨13,[xj,.t 3],wP [wE 2,wE 3] [wh 4] (.blk 0 (qx (wM 6 4 1 5 6) (qn 5 .skip (.reg (wM 7 4 2 5 7))) (qn 5 (qw [wE 2,wE 3]) (qx (wM 9 4 11 8 9) (qn 8 .skip (.reg (wM 10 4 12 8 10))) (xt 8 (qw [qz 2 1,qz 3 1]) 12 4 13 11 12 (qM 11 [wE 2,qz 3 3])))))) [qz 2 2,qz 3 2]⟩
theorem yX:ae Tryz.prog gN=some cA:=by kernel_rfl
def gA:FK:=⟨86,xN,qe [wx 2 4 0,wA] (xo [wQ 10 2,qu 11 10,w9 12 gN 11,qf 9 12,wN 13 0 9,wN 14 1 9,qf 5 13,xC 14] [wG 15,xw 16 15 1,qf 17 16,xq 18 17 0 2,xm 19 17 18,qJ 20 17 (xJ (xD 19 (qk 1) (qk 13))),qJ 21 17 (qX 20),xR 22 17 21,qf 23 22,xq 24 23 3 2,xm 25 23 24,qJ 26 23 (qQ 25),xx 27 23 5,xx 28 23 6,qJ 29 23 (xJ (xF 26 27 28)),qJ 30 23 (qX 29),xR 31 23 30] 31 wA (xo [wQ 32 2,qu 33 32,wg 34 33 2,qf 35 34,xq 36 35 0 2,xm 37 35 36,qJ 38 35 (wV .eql 37 13),xR 39 35 38,qf 7 39] [qf 40 7,xp 41 2,qu 42 41,w9 43 bS 42,qb 44 (.beq true (.t 40) (.t 43)),qf 45 44,xx 46 45 7,qJ 47 45 (qX 46),xx 48 45 47,wT 49 48 2 2,wR 50 48 49,qI 51 48 (xv .neq 50 (.c wF)),qJ 52 45 (qL 48 (.t 51) wI),xR 53 45 52,qf 54 53,xq 55 54 1 2,xm 56 54 55,qJ 57 54 (xJ (xD 56 (qk 0) (qk 255))),qJ 58 54 (qX 57),xR 59 54 58,qf 60 59,xq 61 60 0 2,xm 62 60 61,qJ 63 60 (wV .neq 62 1),xx 64 60 63,wT 65 64 1 2,wR 66 64 65,xB 67 64 .neq 66 0,qJ 68 60 (qL 64 (.t 67) wI),xR 69 60 68] 69 wA (xz [wE 8] (xf 0 [xI 70,xy 71 2,qu 72 71,wc 73 72,wH 74 70 73] 74 0 1 (qe [xy 77 2,qu 78 77,xI 79,wq 80 4 78 79,qG 81 4 80,wG 82,qy 83 .sub 82 1,wY 84 eL 81 83,wJ 85 84] (xO 85)) [xI 75,xu 76 75,qf 8 76]) [xU 4])))⟩
theorem oD:ae Tryz.prog eL=some gA:=by kernel_rfl
def mR:FK:=⟨21,[xj],qe [wx 1 4 0,wE 2] (wP [qz 3 1] [xe] (xf 0 [qf 5 4,xy 6 1,qu 7 6,wc 8 7,wH 9 5 8] 9 0 1 (.reg [qf 12 3,xy 13 1,qu 14 13,qf 15 4,wq 16 4 14 15,qG 17 4 16,w9 18 fv 17,qW 19 .add 12 18,qf 3 19]) [qf 10 4,xu 11 10,qf 4 11]) (wL (qf 20 3) 2 20))⟩
theorem vv:ae Tryz.prog fv=some mR:=by kernel_rfl
def lf:FK:=⟨10,[xj],xc [wx 1 4 0,xS] [qG 3 4 1,wX 4 eL 3 (qk 6),qf 5 4,qI 6 5 (qj (some 4) 1),qI 7 5 (.call fv (w8 6)),xB 8 5 .leq 7 30,xL 9 5 8,qf 2 9]⟩
theorem sw:ae Tryz.prog dN=some lf:=by kernel_rfl
def gP:FK:=⟨108,xN,xo [wx 2 5 0,wA] [wG 7,xw 8 7 1,xI 9,xq 10 9 0 2,xm 11 9 10,qJ 12 9 (xJ (xD 11 (qk 1) (qk 8))),qJ 13 9 (qX 12),xR 14 9 13,qf 15 14,xq 16 15 2 2,xq 19 15 0 2,xm 17 15 16,qJ 18 15 (qQ 17),xm 20 15 19,qJ 21 15 (.qcall gI (w8 20)),qJ 22 15 (ql .neq 18 (.t 21)),xR 23 15 22] 23 wA (xo [wQ 24 2,qu 25 24,wg 26 25 1,qf 27 26,xq 28 27 0 2,xm 29 27 28,qJ 30 27 (wV .eql 29 2),xR 31 27 30,qf 5 31] [xb 32,xr 33 2,qu 34 33,w9 35 bS 34,qb 36 (.beq true (.t 32) (.t 35)),qf 37 36,xx 38 37 5,qJ 39 37 (qX 38),xx 40 37 39,wT 41 40 1 2,wR 42 40 41,qI 43 40 (xv .neq 42 (.c wF)),qJ 44 37 (qL 40 (.t 43) wI),xR 45 37 44] 45 wA (qx [wE 6] (xf 0 [qf 46 6,xp 47 2,qu 48 47,wc 49 48,wH 50 46 49] 50 0 1 (qe [xp 53 2,qu 54 53,qf 55 6,wq 56 4 54 55,qG 57 4 56,w9 58 dN 57,wJ 59 58] (xO 59)) [qf 51 6,xu 52 51,xC 52]) (qx [wQ 60 2,qu 61 60,wg 62 61 8,qf 63 62,wT 64 63 2 2,wR 65 63 64,qI 66 63 (qF 4 65 (qk 0)),wT 67 63 0 66,wR 68 63 67,xB 69 63 .neq 68 13,xL 70 63 69] (xO 70) (xz [qq 71 4 2,qu 72 71,wc 73 72,qy 74 .gtr 73 0,qf 75 74,wT 76 75 0 2,wR 77 75 76,xB 78 75 .neq 77 5,xL 79 75 78,qf 80 79,xq 81 80 3 2,xm 82 80 81,qJ 83 80 (qQ 82),qJ 84 80 (wV .gtr 83 0),xx 85 80 84,wT 86 85 0 2,wR 87 85 86,xB 88 85 .neq 87 5,qJ 89 80 (qL 85 (.t 88) wI),xx 90 80 89,wT 91 90 0 2,wR 92 90 91,xB 93 90 .neq 92 6,qJ 94 80 (qL 90 (.t 93) wI),xR 95 80 94] (xO 95) [xy 96 2,qu 97 96,wG 98,qy 99 .sub 98 1,wY 100 bE 97 99,qf 101 100,wT 102 101 4 2,wR 103 101 102,xA 104 101 1,xB 105 101 .sub 104 1,qI 106 101 (.call bE (wW 103 (.t 105))),xL 107 101 106,qf 4 107]))))⟩
theorem oS:ae Tryz.prog gQ=some gP:=by kernel_rfl
def mw:FK:=⟨19,xN,wP [wA] [wE 5] (xf 0 [xb 6,wh 7,wc 8 7,wH 9 6 8] 9 0 1 (qe [wh 12,xb 13,wq 14 5 12 13,qG 15 5 14,wG 16,wY 17 gQ 15 16,wJ 18 17] (xO 18)) [xb 10,xu 11 10,qf 5 11]) [xU 4]⟩
theorem uQ:ae Tryz.prog bE=some mw:=by kernel_rfl
def tz:FK:=⟨32,[xj],wP [wx 1 3 0,xS] [wE 3] (xf 0 [qf 4 3,xr 5 1,qu 6 5,wc 7 6,wH 8 4 7] 8 0 1 (qe [xr 11 1,qu 12 11,qf 13 3,wq 14 1 12 13,qu 15 14,w9 16 bS 15,wJ 17 16] (w7 17 xS)) [qf 9 3,xu 10 9,qf 3 10]) [wQ 18 1,qu 19 18,w9 20 bS 19,qf 21 20,wT 22 21 1 1,wR 23 21 22,qI 24 21 (qQ 23),xB 25 21 .leq 24 3,xL 26 21 25,qf 27 26,wT 28 27 2 1,wR 29 27 28,qI 30 27 (.call bE (wW 29 (qk 4))),xL 31 27 30,qf 2 31]⟩
theorem Cq:ae Tryz.prog mU=some tz:=by kernel_rfl
def jm:FK:=⟨29,[xj],qe [wE 2] (wP [wh 5,wc 6 5,qf 3 6] [xe] (xf 0 [qf 7 4,wh 8,wc 9 8,wH 10 7 9] 10 0 1 (.reg [qf 13 3,wh 14,qf 15 4,wq 16 5 14 15,xy 17 16,wh 21,qf 22 4,wq 23 5 21 22,qq 24 4 23,qu 18 17,qu 25 24,w9 19 dH 18,xg none 24 25,qW 20 .add 13 19,w9 26 dH 25,qW 27 .add 20 26,qf 3 27]) [qf 11 4,xu 12 11,qf 4 12]) (wL (qf 28 3) 2 28))⟩
theorem ng:ae Tryz.prog dH=some jm:=by kernel_rfl
def rL:FK:=⟨22,[xj],qe [wx 1 1 0,wE 2] (wP [wE 3] [xe] (xf 0 [qf 5 4,wQ 6 1,qu 7 6,wc 8 7,wH 9 5 8] 9 0 1 (.reg [qf 12 3,wQ 13 1,qu 14 13,qf 15 4,wq 16 3 14 15,xp 17 16,qu 18 17,w9 19 dH 18,qW 20 .add 12 19,qf 3 20]) [qf 10 4,xu 11 10,qf 4 11]) (wL (qf 21 3) 2 21))⟩
theorem AP:ae Tryz.prog lH=some rL:=by kernel_rfl
def iC:FK:=⟨26,[xj],xo [wx 1 1 0,xS] [wQ 4 1,qu 5 4,wc 6 5,qt 7 ib (xD 6 (qk 1) (qk 4)),wJ 8 7] 8 xS (xz [wE 3] (xf 0 [qf 9 3,wQ 10 1,qu 11 10,wc 12 11,wH 13 9 12] 13 0 1 (qe [wQ 16 1,qu 17 16,qf 18 3,wq 19 3 17 18,qG 20 3 19,w9 21 mU 20,wJ 22 21] (w7 22 xS)) [qf 14 3,xu 15 14,qf 3 15]) [qG 23 1 1,w9 24 lH 23,qy 25 .leq 24 40,qf 2 25])⟩
theorem oy:ae Tryz.prog dY=some iC:=by kernel_rfl
def tA:FK:=⟨22,xN,wP [wx 2 1 0,xe] [wE 5] (xf 0 [xb 6,wQ 7 2,qu 8 7,wc 9 8,wH 10 6 9] 10 0 1 (qe [wQ 13 2,qu 14 13,xb 15,wq 16 3 14 15,wQ 17 16,qu 18 17,wG 19,qb 20 (xv .eql 18 (.t 19))] (qM 20 (wL (xb 21) 4 21))) [xb 11,xu 12 11,qf 5 12]) [xQ]⟩
theorem Ba:ae Tryz.prog gR=some tA:=by kernel_rfl
def fh:FK:=⟨13,[],qe [wh 4,wb 5 4,qq 6 4 5,qu 7 6,wg 8 7 0] (xk 8 [wh 9,wG 10,wb 11 9,qq 12 4 11,xK 12 10])⟩
theorem pI:ae Tryz.prog aY=some fh:=by kernel_rfl
def eV:FK:=⟨27,xN,wP [xe] [wh 6,wb 7 6,xp 8 7,qu 9 8,wc 10 9,qy 11 .sub 10 1,qf 5 11] (xf 0 [xb 12,qy 13 .geq 12 0] 13 0 1 (qe [wh 16,wb 17 16,xp 18 17,qu 19 18,xb 20,wq 21 3 19 20,wQ 22 21,qu 23 22,wG 24,qb 25 (xv .eql 23 (.t 24))] (qM 25 (wL (xb 26) 4 26))) [xb 14,qy 15 .sub 14 1,qf 5 15]) [xQ]⟩
theorem pu:ae Tryz.prog da=some eV:=by kernel_rfl
def oV:FK:=⟨11,[xj],wB [qB 2 wF] [wh 4,qy 5 .rem 4 26,xb 3] (qw [xC 3,qf 7 3,xu 8 7,qb 9 (.slStr (.c (wa [97,98,99,100,101,102,103,104,105,106,107,108,109,110,111,112,113,114,115,116,117,118,119,120,121,122])) (some (.t 6)) (some (.t 8))),qb 10 (.bins .add (.c (wa [118])) (.t 9)),qf 2 10])⟩
theorem yJ:ae Tryz.prog gJ=some oV:=by kernel_rfl
def ft:AK:=wB [qB 6 wF] [wh 8,wG 9,wY 10 da 8 9,qf 7 10] (.cut (qe [qf 11 7,qy 12 .geq 11 0,qf 13 12,xA 14 13 0,qI 15 13 (qC 14),wT 16 13 2 15,wR 17 13 16,xA 18 13 7,qI 19 13 (qF 3 17 (.t 18)),wT 20 13 2 19,wR 21 13 20,xA 22 13 2,qI 23 13 (ql .eql 21 (.t 22)),xL 24 13 23] (xk 24 [wh 25,wX 26 aY 25 (qk 2)])) (wB [wh 27,wh 28,wb 29 28,xp 30 29,wG 32,wh 33,wb 34 33,xy 35 34,xi 37,qu 31 30,qu 36 35,qb 38 (.bld [wF,wd,wd] [(0,1,.t 32),(1,1,.t 36),(2,1,.t 37)]),qb 39 (.bslP 3 [wF,wd,wd] 1 [(0,3,.t 38)]),qb 40 (.app 3 32 (.t 31) (.t 39)),wb 41 27,xp 42 41,xK 42 40] [wh 43,wh 44,wb 45 44,xy 46 45,qu 47 46,xu 48 47,wb 49 43,xy 50 49,xK 50 48] (qw [wh 51,wb 52 51,xy 53 52,qu 54 53,qy 55 .sub 54 1,w9 56 gJ 55,xC 56])))
def fR:FK:=⟨57,[.t 6],(AK.whole ft)⟩
theorem pN:ae Tryz.prog dx=some fR:=by kernel_rfl
def jU:FK:=⟨23,xN,qe [qB 4 wF] (wP [wh 6,wG 7,wY 8 da 6 7,xI 5] [xb 9,xw 10 9 0] (qA 10 (xc [wh 11,wX 12 aY 11 (qk 3)] (wL (wG 13) 4 13))) [wh 14,wb 15 14,xp 16 15,qu 17 16,xb 18,wq 19 3 17 18,xr 20 19,qu 21 20,w9 22 gJ 21,qf 4 22])⟩
theorem rp:ae Tryz.prog du=some jU:=by kernel_rfl
def fg:AK:=qe [wx 3 4 1,wD 4 [wd,wd,wF,.nils]] (.cut (qe [wQ 8 3,qu 9 8,wg 10 9 2] (xk 10 [wh 11,xp 12 3,qu 13 12,wY 14 du 11 13,xp 15 3,xK 15 14])) (.cut (qe [wQ 16 3,qu 17 16,wg 18 17 13] (qA 18 (wB [wh 19,wb 20 19,wQ 21 20,xp 23 3,qG 22 1 21,qu 24 23,wY 25 gR 22 24,qf 5 25] [xb 26,xw 27 26 0,qf 28 27,xx 29 28 5,xx 30 28 0,qJ 31 28 (qC 30),xq 32 28 1 31,xm 33 28 32,qJ 34 28 (ql .geq 29 (.t 33)),xR 35 28 34] (wK 35 (.reg [wh 36,wX 37 aY 36 (qk 4)]) [wh 38,wb 39 38,wQ 40 39,wQ 41 40,xb 43,xy 48 3,qu 42 41,wq 44 3 42 43,xr 45 44,qu 46 45,wc 47 46,qu 49 48,wc 50 49,qW 51 .neq 47 50] (xk 51 [wh 52,wX 53 aY 52 (qk 5)]))))) (qY (wL (xM 54 4 [wd,wd,wF,.nils] 0 []) 6 54) [wE 7] (xf 0 [qf 55 7,xy 56 3,qu 57 56,wc 58 57,wH 59 55 58] 59 0 1 (.reg [qf 62 6,wh 63,xy 64 3,qu 65 64,qf 66 7,wq 67 4 65 66,qG 68 4 67,wY 69 bZ 63 68,xM 70 4 [wd,wd,wF,.nils] 1 [(0,4,.t 69)],qb 71 (.app 4 56 (.t 62) (.t 70)),xC 71]) [qf 60 7,xu 61 60,qf 7 61]) (xc [qf 72 6,xy 73 3,xK 73 72] [qG 74 4 3,wl 4 4 74]))))
def fe:FK:=⟨75,[.c 4 (some 4)],(AK.whole fg)⟩
theorem pF:ae Tryz.prog bZ=some fe:=by kernel_rfl
def ec:AK:=wB [qB 6 .nils] (wL (xM 13 5 [wd,wF,.nils,.nils,.nils] 0 []) 7 13) (qY [wh 14,wb 15 14,xp 16 15,qu 17 16,wc 18 17,qf 8 18] [wE 9] (xf 0 [qf 19 9,wG 20,wc 21 20,wH 22 19 21] 22 0 1 (qe [wG 25,qf 26 9,wq 27 5 25 26,qG 28 5 27,wD 10 [wd,wF,.nils,.nils,.nils],wl 5 10 28] (qY (wL (xM 29 4 [wd,wd,wF,.nils] 0 []) 11 29) [wE 12] (xf 2 [qf 30 12,xp 31 10,qu 32 31,wc 33 32,wH 34 30 33] 34 2 3 (.reg [qf 37 11,wh 38,xp 39 10,qu 40 39,qf 41 12,wq 42 4 40 41,qG 43 4 42,wY 44 bZ 38 43,xM 45 4 [wd,wd,wF,.nils] 1 [(0,4,.t 44)],qb 46 (.app 4 56 (.t 37) (.t 45)),qf 11 46]) [qf 35 12,xu 36 35,qf 12 36]) (.cut (.reg [qf 47 11,xp 48 10,xK 48 47]) (.cut (qe [wQ 49 10,qu 50 49,wg 51 50 1] (xk 51 [wh 52,xr 53 10,qu 54 53,xi 55,xG 56 dx 52 54 55,xr 57 10,xK 57 56])) (.cut (qe [wQ 58 10,qu 59 58,wg 60 59 2] (xk 60 [wh 61,xr 62 10,qu 63 62,wY 64 du 61 63,xr 65 10,xK 65 64])) (wB [wh 66,xy 67 10,qu 68 67,xi 69,xu 70 69,xG 71 bP 66 68 70,xy 72 10,xK 72 71] [wh 73,qq 74 4 10,qu 75 74,xi 76,xu 77 76,xG 78 bP 73 75 77,qq 79 4 10,xK 79 78] (.reg [qf 80 7,qG 81 5 10,xM 82 5 [wd,wF,.nils,.nils,.nils] 1 [(0,5,.t 81)],qb 83 (.app 5 96 (.t 80) (.t 82)),qf 7 83]))))))) [qf 23 9,xu 24 23,qf 9 24]) (.cut (qe [xi 84,qy 85 .gtr 84 0] (xk 85 [wh 86,wh 87,wb 88 87,xp 89 88,qu 90 89,xI 91,qb 92 (.slS 3 (.t 90) none (some (.t 91))),wb 93 86,xp 94 93,xK 94 92])) (qw (wL (qf 95 7) 6 95))))
def dZ:FK:=⟨96,[.t 6],(AK.whole ec)⟩
theorem nW:ae Tryz.prog bP=some dZ:=by kernel_rfl
def mA:AK:=wB [wx 2 1 0,wD 4 [wF,.nils,.nils],wE 5,wE 6] [qG 11 1 2,wG 12,qb 13 (.bld [.nils,wd,.nils,wd,wd] [(0,1,.t 11),(1,1,.t 12)]),wx 14 5 13,qf 7 14] (.cut (.reg [wQ 15 2,qu 16 15,wG 17,wq 18 3 16 17,qG 19 3 18,wD 8 [wF,.nils,.nils],wl 3 8 19]) (.cut (qe [qG 20 1 2,wQ 21 8,qu 22 21,wY 23 gR 20 22,wG 24,qW 25 .neq 23 24] (xk 25 [qf 26 7,wX 27 aY 26 (qk 2)])) (qY (wL (xM 28 1 [wF] 0 []) 9 28) [wE 10] (xf 0 [qf 29 10,xr 30 8,qu 31 30,wc 32 31,wH 33 29 32] 33 0 1 (.reg [qf 36 9,qf 37 7,xr 38 8,qu 39 38,qf 40 10,wq 41 1 39 40,qu 42 41,qt 43 dx (xE 37 42 (qk 0)),xM 44 1 [wF] 1 [(0,1,.t 43)],qb 45 (.app 1 16 (.t 36) (.t 44)),qf 9 45]) [qf 34 10,xu 35 34,qf 10 35]) (wB [qf 46 9,xr 47 8,xK 47 46] [qf 48 7,xp 49 8,qu 50 49,qt 51 bP (xE 48 50 (qk 0)),xp 52 8,xK 52 51] (qw [qf 54 7,wb 55 54,qq 56 4 55,qf 58 7,wb 59 58,xy 60 59,qG 53 3 8,qu 57 56,qu 61 60,wl 3 4 53,xg none 56 57,xg none 60 61,qf 5 57,xC 61])))))
def nt:FK:=⟨62,[.c 4 (some 3),.t 5,.t 6],(AK.whole mA)⟩
theorem Ch:ae Tryz.prog kn=some nt:=by kernel_rfl
def iF:FK:=⟨27,[xj],xo [wx 1 1 0,wE 2] [qG 7 1 1,w9 8 dY 7,wJ 9 8] 9 (qz 2 1) (xz [wE 3] (xf 0 [qf 10 3,wQ 11 1,qu 12 11,wc 13 12,wH 14 10 13] 14 0 1 (wB [qG 18 1 1,qf 19 3,wY 20 kn 18 19,qf 17 20,wN 21 0 17,wN 22 1 17,wN 23 2 17,wD 4 [wF,.nils,.nils],wl 3 4 21,qf 5 22,xC 23] [xb 24,qy 25 .neq 24 0] (qM 25 (wL (xb 26) 2 26))) [qf 15 3,xu 16 15,qf 3 16]) [wE 2])⟩
theorem nV:ae Tryz.prog ey=some iF:=by kernel_rfl
def oW:FK:=⟨6,[xj],xc [wx 1 1 0,xS] [qG 3 1 1,w9 4 ey 3,wg 5 4 0,xb 2]⟩
theorem yy:ae Tryz.prog kw=some oW:=by kernel_rfl
def ma:FK:=⟨16,[xj],wP [xS] [wE 3] (xf 0 [qf 4 3,wh 5,wc 6 5,wH 7 4 6] 7 0 1 (qe [wh 10,qf 11 3,wq 12 1 10 11,qu 13 12,qt 14 ib (xD 13 (qk 0) (qk 255)),wJ 15 14] (w7 15 xS)) [qf 8 3,xu 9 8,qf 3 9]) [xU 2]⟩
theorem tT:ae Tryz.prog iq=some ma:=by kernel_rfl
def oY:FK:=⟨26,xN,xc [wx 2 1 0,wA] [qG 5 1 2,w9 6 kw 5,qf 7 6,xA 8 7 1,qI 9 7 (.call iq (w8 8)),xL 10 7 9,qf 11 10,xA 12 11 1,qI 13 11 (qQ 12),wT 14 11 0 2,wR 15 11 14,wT 16 11 0 2,wR 17 11 16,qI 18 11 (qQ 17),xB 19 11 .sub 18 1,qI 20 11 (qF 3 15 (.t 19)),wT 21 11 1 20,wR 22 11 21,qI 23 11 (qQ 22),qI 24 11 (ql .eql 13 (.t 23)),xL 25 11 24,qf 4 25]⟩
theorem yA:ae Tryz.prog kL=some oY:=by kernel_rfl
def fT:FK:=⟨17,[],qe [wh 4,wb 5 4,qq 6 6 5,qu 7 6,wJ 8 7] (qA 8 (xT [wh 9,wG 10,wb 11 9,xr 12 11,xr 13 12,xK 13 10] [wh 14,wb 15 14,qq 16 6 15,wj 1 16 wS]))⟩
theorem rh:ae Tryz.prog bH=some fT:=by kernel_rfl
def fG:FK:=⟨17,[],qx [wh 2,wb 3 2,qq 4 5 3,qu 5 4,wg 6 5 0] (qM 6 [wh 7,wX 8 bH 7 (qk 3)]) (.reg [wh 9,wh 10,wb 11 10,qq 12 5 11,qu 13 12,qy 14 .sub 13 1,wb 15 9,qq 16 5 15,xK 16 14])⟩
theorem ru:ae Tryz.prog dy=some fG:=by kernel_rfl
def rE:FK:=⟨20,xN,wP [xe] [wh 6,wc 7 6,qy 8 .sub 7 1,xI 5] (xf 0 [xb 9,qy 10 .geq 9 0] 10 0 1 (qe [wh 13,xb 14,wq 15 1 13 14,qu 16 15,wG 17,qb 18 (xv .eql 16 (.t 17))] (qM 18 (wL (xb 19) 4 19))) [xb 11,qy 12 .sub 11 1,qf 5 12]) [xQ]⟩
theorem Al:ae Tryz.prog iN=some rE:=by kernel_rfl
def jX:FK:=⟨67,[.t 6],wB [wx 4 4 1,wE 6] [qB 7 .any,wh 10,wb 11 10,wQ 12 11,wQ 13 12,wh 15,wb 16 15,wQ 17 16,xp 19 4,qu 14 13,qG 18 1 17,qu 20 19,wY 21 gR 18 20,xg none 13 14,wq 22 3 14 21,qG 23 3 22,wD 7 [wF,.nils,.nils],wl 3 7 23] (qY [xM 24 1 [wF] 0 [],xr 25 7,qu 26 25,qb 27 (.app 1 16 (.t 24) (.t 26)),qb 28 (.bld [.nils,.nils,qv,wd] [(0,1,.t 27)]),wx 29 4 28,qf 8 29] [wE 9] (xf 0 [qf 30 9,xy 31 4,qu 32 31,wc 33 32,wH 34 30 33] 34 0 1 (.reg [xI 37,xI 38,wb 39 38,xr 40 39,wh 42,xy 43 4,qf 45 9,xi 48,qu 41 40,qu 44 43,wq 46 4 44 45,qG 47 4 46,xV 49 42 47 48,xg none 40 41,qb 50 (.bslP 1 [wd] 1 [(0,1,.t 49)]),qb 51 (.app 1 8 (.t 41) (.t 50)),wb 52 37,xr 53 52,xK 53 51]) [qf 35 9,xu 36 35,qf 9 36]) (wP [wh 54,xp 55 7,qu 56 55,xI 57,xG 58 aC 54 56 57] [wh 59,wb 60 59,qq 61 6 60,qu 62 61] (w7 62 (wE 6)) [xI 63,wb 64 63,xy 65 64,qu 66 65,xC 66]))⟩
theorem rv:ae Tryz.prog dv=some jX:=by kernel_rfl
def mP:FK:=⟨4,[xj],wP [wE 2] [wh 3] (w7 3 (qz 2 1)) [wE 2]⟩
theorem vP:ae Tryz.prog cP=some mP:=by kernel_rfl
def rj:FK:=⟨50,[.t 6,.t 7],qY [wE 6,wE 7] [wh 8] (.blk 0 (qe (wM 10 8 3 9 10) (xt 9 (qw [wG 11,xi 12,qW 13 .add 11 12,qy 14 .rem 13 256,xC 14,wE 7]) 16 8 4 15 16 (xt 15 (qw [wG 17,xi 18,qW 19 .sub 17 18,wy 20 19 256,qy 21 .rem 20 256,xC 21,wE 7]) 23 8 5 22 23 (xt 22 (qw [wG 24,xi 25,qW 26 .mul 24 25,qy 27 .rem 26 256,xC 27,wE 7]) 29 8 8 28 29 (xt 28 (qw [wG 30,xi 31,wH 32 30 31,w9 33 cP 32,xC 33,wE 7]) 35 8 9 34 35 (qM 34 [wG 36,xi 37,qW 38 .eql 36 37,w9 39 cP 38,xC 39,wE 7]))))))) (qx [xi 40,wg 41 40 0] (qM 41 [wE 6,qz 7 1]) (xz [wh 42,wg 43 42 6] (qM 43 [wG 44,xi 45,qW 46 .quo 44 45,xC 46,wE 7]) [wG 47,xi 48,qW 49 .rem 47 48,xC 49,wE 7]))⟩
theorem zQ:ae Tryz.prog lT=some rj:=by kernel_rfl
def az:FK:=⟨108,[.t 6],xo [wx 4 4 1,wE 6] [wh 11,wb 12 11,qq 13 6 12,qu 14 13] 14 (wE 6) (qx [wQ 15 4,qu 16 15] (.blk 0 (qe (wM 18 16 1 17 18) (xt 17 (qw [xr 19 4,qu 20 19,xC 20]) 22 16 2 21 22 (xt 21 (qw [xi 23,wb 24 23,xr 25 24,xi 27,wb 28 27,wQ 29 28,xp 31 4,qu 26 25,qu 30 29,qu 32 31,wY 33 iN 30 32,xg none 25 26,wq 34 1 26 33,qu 35 34,xC 35]) 37 16 13 36 37 (qM 36 [wh 38,qG 39 4 4,xi 40,xG 41 dv 38 39 40,xC 41]))))) (qY [wh 42,xy 43 4,qu 44 43,we 45 4 44 (qk 0),qG 46 4 45,xi 47,xV 48 42 46 47,qf 7 48] [wQ 49 4,qu 50 49] (.blk 1 (qe (wM 52 50 11 51 52) (xt 51 (qw [qf 53 7,wg 54 53 0,w9 55 cP 54,xC 55]) 57 50 12 56 57 (xt 56 (xz [qf 58 7,qy 59 .geq 58 16] (qA 59 (xc [wh 60,wX 61 bH 60 (qk 2)] [wE 6])) [wh 62,wb 63 62,xr 64 63,xy 65 64,qu 66 65,qf 67 7,wq 68 1 66 67,qu 69 68,xC 69]) 71 50 10 70 71 (qA 70 (xz [qf 72 7,wg 73 72 0] (w7 73 (wE 6)) [wh 74,xy 75 4,qu 76 75,we 77 4 76 (qk 1),qG 78 4 77,xi 79,xV 80 74 78 79,qy 81 .neq 80 0,w9 82 cP 81,xC 82])))))) (xo [wh 83,xy 84 4,qu 85 84,we 86 4 85 (qk 1),qG 87 4 86,xi 88,xV 89 83 87 88,qf 8 89] [wh 90,wb 91 90,qq 92 6 91,qu 93 92] 93 (wE 6) (wP [wQ 95 4,qu 96 95,qf 97 7,xI 98,xG 99 lT 96 97 98,qf 94 99,wN 100 0 94,wN 101 1 94,qf 9 100,qf 10 101] [qf 102 10,qy 103 .neq 102 0] (xk 103 [wh 104,qf 105 10,wY 106 bH 104 105]) (wL (qf 107 9) 6 107)))))⟩
theorem fz:ae Tryz.prog aL=some az:=by kernel_rfl
def ka:FK:=⟨41,[],qe [wx 5 5 1] (w6 0 [xi 8,qy 9 .neq 8 0,qf 10 9,xA 11 10 0,qI 12 10 (qC 11),wT 13 10 6 12,wR 14 10 13,qI 15 10 (qX 14),xL 16 10 15] 16 0 (.blk 1 (qY [wh 17,xy 18 5,qu 19 18,qf 20 3,xG 21 aC 17 19 20] [wh 22,wb 23 22,qq 24 6 23,qu 25 24,qf 26 25,xx 27 26 3,qJ 28 26 (qC 27),xq 29 26 2 28,xm 30 26 29,xR 31 26 30] (qA 31 .ret) (xT [wh 32,w9 33 dy 32] [wh 34,xp 35 5,qu 36 35,we 37 4 36 (qk 0),qG 38 4 37,qf 39 3,xV 40 34 38 39,qf 2 40]))))⟩
theorem sb:ae Tryz.prog fC=some ka:=by kernel_rfl
def ko:FK:=⟨127,[],wB [wx 4 5 1] [wh 8,xp 9 4,qu 10 9,we 11 4 10 (qk 0),qG 12 4 11,xi 13,xV 14 8 12 13,xC 14] (qY [wE 7] [wQ 15 4,qu 16 15,wg 17 16 4] (xk 17 [wh 18,xp 19 4,qu 20 19,we 21 4 20 (qk 1),qG 22 4 21,xi 23,xV 24 18 22 23,qf 7 24]) (qx [wh 25,wb 26 25,qq 27 6 26,qu 28 27] (qA 28 .ret) (qe [wQ 29 4,qu 30 29] (.blk 0 (qe (wM 32 30 1 31 32) (xt 31 (xT [xi 33,xi 34,wb 35 34,wQ 36 35,xr 38 4,qu 37 36,qu 39 38,qb 40 (.bslP 1 [wF] 1 [(0,1,.t 39)]),qb 41 (.app 1 16 (.t 37) (.t 40)),wb 42 33,wQ 43 42,xK 43 41] [xi 44,xi 45,wb 46 45,xr 47 46,qu 48 47,qf 49 6,xM 50 1 [wd] 1 [(0,1,.t 49)],qb 51 (.app 1 8 (.t 48) (.t 50)),wb 52 44,xr 53 52,xK 53 51]) 55 30 2 54 55 (xt 54 (.reg [xi 56,wb 57 56,xr 58 57,xi 60,wb 61 60,wQ 62 61,xr 64 4,qf 67 6,qu 59 58,qu 63 62,qu 65 64,wY 66 iN 63 65,xg none 58 59,wq 68 1 59 66,xK 68 67]) 70 30 3 69 70 (xt 69 (.reg [wh 71,wh 72,wb 73 72,xr 74 73,wQ 75 74,qu 76 75,qf 77 6,xM 78 1 [wd] 1 [(0,1,.t 77)],qb 79 (.app 1 8 (.t 76) (.t 78)),wb 80 71,xr 81 80,wQ 82 81,xK 82 79]) 84 30 4 83 84 (xt 83 (qx [qf 85 6,qy 86 .geq 85 16] (qM 86 [wh 87,wX 88 bH 87 (qk 2)]) (.reg [wh 89,wb 90 89,xr 91 90,xy 92 91,qu 93 92,qf 94 6,qf 95 7,wq 96 1 93 94,xK 96 95])) 98 30 5 97 98 (xt 97 (qe [qf 99 6,qy 100 .neq 99 0] (qn 100 (.reg [wh 101,xy 102 4,qu 103 102,xi 104,xG 105 aC 101 103 104]) (.reg [wh 106,qq 107 4 4,qu 108 107,xi 109,xG 110 aC 106 108 109]))) 112 30 6 111 112 (xt 111 (.reg [wh 113,qG 114 5 4,qf 115 6,xi 116,qt 117 fC [.t 113,.t 114,.t 115,.t 116]]) 119 30 7 118 119 (qA 118 (xT [xi 120,wb 121 120,xp 122 121,wj 1 122 wS] [xi 123,qf 124 6,wb 125 123,xy 126 125,xK 126 124])))))))))))))⟩
theorem rD:ae Tryz.prog fL=some ko:=by kernel_rfl
def ff:FK:=⟨65,[],qY [xi 8,wb 9 8,wQ 10 9,qu 11 10,wc 12 11,xC 12] [wE 7] (xf 0 [qf 13 7,wG 14,wc 15 14,wH 16 13 15,qf 17 16,xA 18 17 0,qI 19 17 (qC 18),wT 20 17 6 19,wR 21 17 20,qI 22 17 (qX 21),xL 23 17 22,qf 24 23,xA 25 24 2,qI 26 24 (qC 25),wT 27 24 2 26,wR 28 24 27,qI 29 24 (qX 28),xL 30 24 29] 30 0 1 (wB [wh 33,w9 34 dy 33] [wh 35,wb 36 35,qq 37 6 36,qu 38 37,wJ 39 38] (xk 39 [wh 40,wG 41,qf 42 7,wq 43 5 41 42,qG 44 5 43,xi 45,xG 46 fL 40 44 45])) [qf 31 7,xu 32 31,qf 7 32]) (xT [xi 47,xi 48,wb 49 48,wQ 50 49,qu 51 50,qf 52 6,qb 53 (.slS 1 (.t 51) none (some (.t 52))),wb 54 47,wQ 55 54,xK 55 53] [xi 56,xi 57,wb 58 57,xr 59 58,qu 60 59,qf 61 6,qb 62 (.slS 1 (.t 60) none (some (.t 61))),wb 63 56,xr 64 63,xK 64 62])⟩
theorem jz:ae Tryz.prog aC=some ff:=by kernel_rfl
def tv:FK:=⟨61,[.c 6 (some 4),.t 7],xn [wx 3 1 0,wD 6 [.nils,wd,wd,.nils],wE 7] (.ot (.one [] (.one [xi 12] (.one [qG 11 1 3] (.alt (.one [xM 13 1 [wd] 0 [],xg (some 1) 3 11] (.alt (.one [qb 14 (.mks 1 8 [wd] (qk 16) (qk 16)),xg (some 1) 3 11] (.one [qb 15 (.bld [.nils,wd,wd,.nils] [(0,1,.t 13),(3,1,.t 14)])] (.one [qb 16 (.bld [.nils,.nils,wd,wd,.nils,wd,qv] [(0,1,.t 11),(5,1,.t 12),(1,4,.t 15)])] (.alt (.one [wx 17 7 16] (.one [qf 8 17] .done)) .tru)))) .tru)) (.alt (.one [qb 14 (.mks 1 8 [wd] (qk 16) (qk 16)),xg (some 1) 3 11] (.alt (.one [xM 13 1 [wd] 0 [],xg (some 1) 3 11] (.one [qb 15 (.bld [.nils,wd,wd,.nils] [(0,1,.t 13),(3,1,.t 14)])] (.one [qb 16 (.bld [.nils,.nils,wd,wd,.nils,wd,qv] [(0,1,.t 11),(5,1,.t 12),(1,4,.t 15)])] (.alt (.one [wx 17 7 16] (.one [qf 8 17] .done)) .tru)))) .tru)) .tru)))))) (wB [wQ 18 3,qu 19 18,wQ 20 3,qu 21 20,wc 22 21,qy 23 .sub 22 1,wq 24 3 19 23,qG 25 3 24,wD 9 [wF,.nils,.nils],wl 3 9 25] [xM 26 1 [wF] 0 [],xr 27 9,qu 28 27,qb 29 (.app 1 16 (.t 26) (.t 28)),xM 30 1 [wd] 0 [],wG 31,qb 32 (.app 1 8 (.t 30) (.t 31)),qb 33 (.bld [.nils,.nils,qv,wd] [(0,1,.t 29),(1,1,.t 32)]),wx 34 4 33,qf 10 34] (wP [xI 35,xp 36 9,qu 37 36,qf 38 10,xG 39 aC 35 37 38] [xI 40,wb 41 40,qq 42 6 41,qu 43 42,wJ 44 43] (xk 44 [xI 45,qf 46 10,wb 47 46,xy 48 47,qu 49 48,wb 50 45,xr 51 50,xp 52 51,xK 52 49]) [xI 53,wb 54 53,xr 55 54,xI 57,wb 58 57,qq 59 5 58,qG 56 4 55,qu 60 59,wl 4 6 56,xg none 59 60,qf 7 60]))⟩
theorem Bn:ae Tryz.prog jK=some tv:=by kernel_rfl
def kK:FK:=⟨22,xN,xo [wx 2 1 0,xe] [qG 7 1 2,wG 8,wY 9 kL 7 8,wJ 10 9] 10 xQ (wP [qG 12 1 2,wG 13,qt 14 jK (xE 12 13 (qk 4000)),qf 11 14,wN 15 0 11,wN 16 1 11,wD 5 [.nils,wd,wd,.nils],wl 4 5 15,xC 16] [xr 17 5,qu 18 17,wg 19 18 3] (w7 19 xQ) [qf 20 6,qb 21 (.bin .sub (qk 4000) (.t 20)),qf 4 21])⟩
theorem oH:ae Tryz.prog eK=some kK:=by kernel_rfl
def ky:FK:=⟨15,[.t 6],xc [wo 6] [wG 7,wh 8,qW 9 .leq 7 8,qf 10 9,xA 11 10 0,xA 12 10 2,qI 13 10 (ql .leq 11 (.t 12)),xL 14 10 13,xC 14]⟩
theorem yR:ae Tryz.prog dk=some ky:=by kernel_rfl
def iI:FK:=⟨21,[.t 6],wP [wE 6] [wh 9,qb 10 (.rngS (.t 9))] (qN 0 (xn [qb 11 (.nxtS (.t 10)),wN 12 0 11] (wu 12 0) (.blk 1 (wB [wN 13 1 11,wN 14 2 11,qf 7 13,qf 8 14] [wG 15,xI 16,qb 17 (.callv (.t 15) (w8 16)),xi 18,qb 19 (.beq false (.t 17) (.t 18))] (qM 19 (wL (qf 20 7) 6 20)))))) [xP 6]⟩
theorem ox:ae Tryz.prog ed=some iI:=by kernel_rfl
def iE:FK:=⟨8,xN,xc [xe] [wh 5,wG 6,qt 7 ed (xE 5 6 wS),qf 4 7]⟩
theorem od:ae Tryz.prog eB=some iE:=by kernel_rfl
def gb:FK:=⟨19,xN,wP [xe] [wh 6,wc 7 6,wE 8] (qN 0 (xn [wH 9 8 7] (wu 9 0) (wm 1 (wB (wL (xI 10) 5 10) [wG 11,wh 12,xb 13,wq 14 1 12 13,qu 15 14,qb 16 (xv .eql 11 (.t 15))] (qM 16 (wL (xb 17) 4 17))) (wL (xu 18 8) 8 18)))) [xQ]⟩
theorem mf:ae Tryz.prog dt=some gb:=by kernel_rfl
def eI:FK:=⟨9,xN,xc [wA] [wh 5,wG 6,wY 7 dt 5 6,qy 8 .geq 7 0,xI 4]⟩
theorem kq:ae Tryz.prog cy=some eI:=by kernel_rfl
def md:FK:=⟨9,[xj],xc [xS] [wh 3,qr 4 .lss 3 (.c (qg .i32 97)),qf 5 4,xx 6 5 0,qJ 7 5 (ql .gtr 6 (.c (qg .i32 122))),xR 8 5 7,xI 2]⟩
theorem tX:ae Tryz.prog cr=some md:=by kernel_rfl
def pc:FK:=⟨17,[xj],xc [xS] [wh 3,qb 4 (.len true (.t 3)),qt 5 dk (xD 4 (qk 1) (qk 4)),xb 6,xA 7 6 0,qI 8 6 (.call eB (wW 7 (.c (.fn (.func cr) [])))),xB 9 6 .lss 8 0,xL 10 6 9,qf 11 10,qI 12 11 (.slA 9 1 (.c (.gp 1 0)) none none),xA 13 11 0,qI 14 11 (.call cy (wW 12 (.t 13))),qI 15 11 (qX 14),xL 16 11 15,qf 2 16]⟩
theorem yF:ae Tryz.prog bT=some pc:=by kernel_rfl
def dW:FK:=⟨19,xN,wP [xe] [wh 6,wc 7 6,wE 8] (qN 0 (xn [wH 9 8 7] (wu 9 0) (wm 1 (wB (wL (xI 10) 5 10) [wG 11,wh 12,xb 13,wq 14 1 12 13,qu 15 14,qb 16 (.callv (.t 11) (w8 15))] (qM 16 (wL (xb 17) 4 17))) (wL (xu 18 8) 8 18)))) [xQ]⟩
theorem jE:ae Tryz.prog ck=some dW:=by kernel_rfl
def dj:FK:=⟨9,xN,xc [wA] [wh 5,wG 6,wY 7 ck 5 6,qy 8 .geq 7 0,xI 4]⟩
theorem ie:ae Tryz.prog bM=some dj:=by kernel_rfl
def di:FK:=⟨19,xN,wP [xe] [wh 6,wc 7 6,wE 8] (qN 0 (xn [wH 9 8 7] (wu 9 0) (wm 1 (wB (wL (xI 10) 5 10) [wG 11,wh 12,xb 13,wq 14 5 12 13,qG 15 5 14,qb 16 (.callv (.t 11) (w8 15))] (qM 16 (wL (xb 17) 4 17))) (wL (xu 18 8) 8 18)))) [xQ]⟩
theorem im:ae Tryz.prog bK=some di:=by kernel_rfl
def cC:FK:=⟨9,xN,xc [wA] [wh 5,wG 6,wY 7 bK 5 6,qy 8 .geq 7 0,xI 4]⟩
theorem fW:ae Tryz.prog br=some cC:=by kernel_rfl
def aP:FK:=⟨20,[xj,.t 3,wU,.t 5],wP [wE 2,wo 3,wA,wo 5] [wh 6] (.blk 0 (qx (wM 8 6 1 7 8) (qn 7 .skip (.reg (wM 9 6 2 7 9))) (qn 7 (qw [qz 2 1,xU 3,wA,wo 5]) (qx (wM 11 6 3 10 11) (xt 10 .skip 12 6 7 10 12 (qn 10 .skip (.reg (wM 13 6 8 10 13)))) (xt 10 (qw [qz 2 1,wo 3,wA,wo 5]) 15 6 4 14 15 (xt 14 (qw [qz 2 2,wo 3,wA,wo 5]) 17 6 5 16 17 (xt 16 (qw [qz 2 1,wo 3,xU 4,xU 5]) 19 6 6 18 19 (qM 18 [qz 2 1,wo 3,xU 4,wo 5])))))))) [xP 2,wo 3,wA,wo 5]⟩
theorem tW:ae Tryz.prog eQ=some aP:=by kernel_rfl
def oZ:FK:=⟨5,[xj],xc [xS] [wh 3,qt 4 dk (xD 3 (qk 0) (qk 255)),qf 2 4]⟩
theorem za:ae Tryz.prog gB=some oZ:=by kernel_rfl
def dG:FK:=⟨20,[xj],qe [wE 2] (qS 0 (qe [qb 4 (.ld none (.c (.gp 2 0))),wh 5,qb 6 (.lk 0 (.agg [wF,wd]) false (.t 4) (.t 5)),qb 7 (.fldv 1 none (.t 6)),qy 8 .gtr 7 0,xI 3] (wK 3 (qw [qb 9 (.ld none (.c (.gp 2 0))),wh 10,qb 11 (.lk 0 (.agg [wF,wd]) false (.t 9) (.t 10)),qb 12 (.fldv 1 none (.t 11)),qf 2 12]) [wh 14,wg 15 14 11,qf 16 15,xx 17 16 0,qJ 18 16 (wV .eql 17 12),xR 19 16 18,qf 13 19] (w7 13 (qz 2 5)))) (qw [qz 2 6]))⟩
theorem xX:ae Tryz.prog jj=some dG:=by kernel_rfl
def iv:AK:=wB [wx 2 4 0,xe,wE 5,wo 6] [wE 7,wE 8] (.cut (.blk 0 (qe [wQ 17 2,qu 18 17,wg 19 18 1,qf 16 19] (wK 16 (qe [xr 20 2,qu 21 20,w9 22 gB 21,wJ 23 22,qf 24 23,xq 25 24 2 2,xm 26 24 25,qJ 27 24 (xv .neq 26 (.c wF)),xR 28 24 27] (qM 28 [xe,wE 5,wo 6])) [wQ 30 2,qu 31 30,wg 32 31 2,qf 29 32] (wK 29 (qe [xp 33 2,qu 34 33,w9 35 bT 34,wJ 36 35,qf 37 36,xq 38 37 1 2,xm 39 37 38,qJ 40 37 (wV .neq 39 0),xR 41 37 40] (qM 41 [xe,wE 5,wo 6])) [wQ 43 2,qu 44 43,wg 45 44 13,qf 42 45] (wK 42 (wB [qz 8 3] [xp 46 2,qu 47 46,w9 48 bT 47,wJ 49 48,qf 50 49,xq 51 50 1 2,xm 52 50 51,qJ 53 50 (wV .neq 52 0),xR 54 50 53] (qM 54 [xe,wE 5,wo 6])) [qb 56 (.ld none (.c (.gp 2 0))),wQ 57 2,qu 58 57,qb 59 (.lk 0 (.agg [wF,wd]) false (.t 56) (.t 58)),qb 60 (.fldv 1 none (.t 59)),qy 61 .gtr 60 0,qf 55 61] (wK 55 (.reg [qz 7 2,qz 8 2]) [wQ 63 2,qu 64 63,wg 65 64 11,qf 66 65,xq 67 66 0 2,xm 68 66 67,qJ 69 66 (wV .eql 68 12),xR 70 66 69,qf 62 70] (qn 62 (.reg [qz 7 1,qz 8 1]) (qw [xe,wE 5,wo 6])))))))) (.cut (qe [wQ 71 2,qu 72 71,w9 73 jj 72,xw 74 73 6,qf 75 74,wT 76 75 1 2,wR 77 75 76,xB 78 75 .neq 77 0,xA 79 75 78,xq 80 79 2 2,xm 81 79 80,qJ 82 79 (xv .neq 81 (.c wF)),qI 83 75 (qL 79 wS (.t 82)),xL 84 75 83,qf 85 84,xq 86 85 3 2,xm 87 85 86,qJ 88 85 (qQ 87),xx 89 85 7,xx 90 85 8,qJ 91 85 (.call dk (xF 88 89 90)),qJ 92 85 (qX 91),xR 93 85 92,qf 94 93,xx 95 94 1,qJ 96 94 (wV .lss 95 1),xR 97 94 96] (qM 97 [xe,wE 5,wo 6])) (wP [qz 9 1,qz 10 1] [xy 98 2,qu 99 98,wc 100 99,wE 101] (qN 1 (xn [wH 102 101 100] (wu 102 1) (wm 2 (qe [wq 103 4 99 101,qG 104 4 103,wD 12 [wd,wd,wF,.nils],wl 4 12 104] (qY [qG 106 4 12,wG 107,qy 108 .sub 107 1,wY 109 eU 106 108,qf 105 109,wN 110 0 105,wN 111 1 105,wN 112 2 105,qf 13 110,qf 14 111,qf 15 112] [qf 113 15,wJ 114 113] (qM 114 [xe,wE 5,wo 6]) (xT [qf 115 9,qf 116 13,qW 117 .add 115 116,qf 9 117] [qf 118 10,qf 119 14,xu 120 119,qb 121 (.mx (.t 118) (.t 120)),qf 10 121]))) (wL (xu 122 101) 101 122)))) [qf 123 9,qf 124 10,qf 125 9,qy 126 .leq 125 30,qf 4 123,qf 5 124,xC 126])))
def ig:FK:=⟨127,[wU,.t 5,.t 6],(AK.whole iv)⟩
theorem tQ:ae Tryz.prog eU=some ig:=by kernel_rfl
def kZ:FK:=⟨13,[xj],wB [wx 1 4 0,xS] [qG 7 4 1,wX 8 eU 7 (qk 6),xC 8,wN 9 0 6,wN 10 1 6,wN 11 2 6,qf 3 9,qf 4 10,qf 5 11] (qw (wL (xb 12) 2 12))⟩
theorem sZ:ae Tryz.prog dP=some kZ:=by kernel_rfl
def gM:FK:=⟨91,xN,wB [wx 2 5 0,wA] [wQ 12 2,qu 13 12,w9 14 eQ 13,qf 11 14,wN 15 0 11,wN 16 1 11,wN 17 2 11,wN 18 3 11,qf 5 15,xC 16,qf 7 17,qf 8 18] (qS 0 (qx [wG 20,qy 21 .gtr 20 4,qf 19 21] (wK 19 .skip [xp 22 2,qu 23 22,wc 24 23,xb 25,qW 26 .neq 24 25,qf 19 26] (wK 19 .skip [qf 27 6,qf 28 27,wT 29 28 1 2,wR 30 28 29,qI 31 28 (.call bT (w8 30)),qI 32 28 (qX 31),xL 33 28 32,qf 19 33] (wK 19 .skip [qf 34 6,wJ 35 34,qf 36 35,wT 37 36 1 2,wR 38 36 37,qI 39 36 (xv .neq 38 (.c wF)),xL 40 36 39,qf 19 40] (wK 19 .skip [qf 41 7,wJ 42 41,qf 43 42,wT 44 43 3 2,wR 45 43 44,qI 46 43 (qQ 45),xB 47 43 .gtr 46 0,xL 48 43 47,qf 19 48] (wK 19 .skip [xI 49,wJ 50 49,qf 51 50,wT 52 51 4 2,wR 53 51 52,qI 54 51 (qQ 53),xB 55 51 .gtr 54 0,xL 56 51 55,qf 19 56] (qn 19 .skip (.reg [wQ 57 2,qu 58 57,wg 59 58 8,qf 60 59,wT 61 60 2 2,wR 62 60 61,qI 63 60 (qF 4 62 (qk 0)),wT 64 60 0 63,wR 65 60 64,xB 66 60 .neq 65 13,xL 67 60 66,qf 19 67]))))))) (xO 19)) (xz [xp 68 2,qu 69 68,wc 70 69,wE 71] (qN 1 (xn [wH 72 71 70] (wu 72 1) (wm 2 (wB [wq 73 4 69 71,qG 74 4 73,wD 10 [wd,wd,wF,.nils],wl 4 10 74] [qG 75 4 10,w9 76 dP 75,wJ 77 76] (xO 77)) (wL (xu 78 71) 71 78)))) [xy 79 2,qu 80 79,wG 81,xu 82 81,wY 83 ca 80 82,qf 84 83,wT 85 84 4 2,wR 86 84 85,xA 87 84 1,xB 88 84 .add 87 1,qI 89 84 (.call ca (wW 86 (.t 88))),xL 90 84 89,qf 4 90]))⟩
theorem pf:ae Tryz.prog gG=some gM:=by kernel_rfl
def kO:FK:=⟨8,[.t 3],xc [wx 2 5 0,wo 3] [qG 4 5 2,qu 5 1,wY 6 gG 4 5,wJ 7 6,qf 3 7]⟩
theorem sF:ae Tryz.prog bU=some kO:=by kernel_rfl
def nr:FK:=⟨9,xN,xc [wx 3 1 1,wA] [wh 5,qb 6 (.mkf (.func bU) (w8 3)),wY 7 br 5 6,wJ 8 7,xI 4]⟩
theorem vr:ae Tryz.prog ca=some nr:=by kernel_rfl
def rA:FK:=⟨31,[],qe [wh 8,wc 9 8,wE 10] (qN 0 (xn [wH 11 10 9] (wu 11 0) (wm 1 (wB [wq 12 5 8 10,qG 13 5 12,wD 7 [wd,wF,.nils,.nils,.nils],wl 5 7 13] [xi 14,qG 15 5 7,wG 16,qb 17 (.callv (.t 14) (wW 15 (.t 16)))] (xT [xy 18 7,qu 19 18,wG 20,xu 21 20,xi 22,xG 23 fB 19 21 22] [qq 24 4 7,qu 25 24,wG 26,xu 27 26,xi 28,xG 29 fB 25 27 28])) (wL (xu 30 10) 10 30))))⟩
theorem AB:ae Tryz.prog fB=some rA:=by kernel_rfl
def kV:FK:=⟨11,[],wB [wx 4 5 0] [qu 6 2,xu 7 6,xK 2 7] (.reg [qu 8 3,wG 9,qb 10 (.mx (.t 8) (.t 9)),xK 3 10])⟩
theorem sk:ae Tryz.prog dO=some kV:=by kernel_rfl
def mF:FK:=⟨20,[.c 2 none,.c 3 none],wP [wx 1 1 0,wD 2 [wd],wD 3 [wd]] [wQ 6 1,qu 7 6,wc 8 7,wE 9] (qN 0 (xn [wH 10 9 8] (wu 10 0) (wm 1 (xT [wq 11 3 7 9,qG 12 3 11,wD 5 [wF,.nils,.nils],wl 3 5 12] [xp 13 5,qu 14 13,qb 15 (.mkf (.func dO) (wW 2 (.t 3))),qt 16 fB (xD 14 (qk 1) (.t 15))]) (wL (xu 17 9) 9 17)))) [qu 18 2,qu 19 3,xK 2 18,xg none 3 19,xK 3 19]⟩
theorem yn:ae Tryz.prog iW=some mF:=by kernel_rfl
def fZ:FK:=⟨6,[xj],xc [xS] [wh 3,w9 4 bT 3,wJ 5 4,xb 2]⟩
theorem mg:ae Tryz.prog aU=some fZ:=by kernel_rfl
def iH:FK:=⟨48,[xj],xo [wx 1 1 0,xS] [wQ 7 1,qu 8 7,wc 9 8,qt 10 dk (xD 9 (qk 1) (qk 4)),wJ 11 10] 11 xS (qx [wQ 12 1,qu 13 12,wc 14 13,wE 15] (qN 0 (xn [wH 16 15 14] (wu 16 0) (wm 1 (wB [wq 17 3 13 15,qG 18 3 17,wD 4 [wF,.nils,.nils],wl 3 4 18] [wQ 19 4,qu 20 19,w9 21 bT 20,wJ 22 21,qf 23 22,xq 24 23 1 4,xm 25 23 24,qJ 26 23 (qQ 25),qJ 27 23 (wV .gtr 26 3),xR 28 23 27,qf 29 28,xq 30 29 1 4,xm 31 29 30,qJ 32 29 (.call bM (wW 31 (.c (.fn (.func aU) [])))),xR 33 29 32,qf 34 33,xq 35 34 2 4,xm 36 34 35,qJ 37 34 (.call ca (wW 36 (qk 1))),qJ 38 34 (qX 37),xR 39 34 38] (w7 39 xS)) (wL (xu 40 15) 15 40)))) (xc [qG 42 1 1,w9 43 iW 42,qf 41 43,wN 44 0 41,wN 45 1 41,qf 5 44,xC 45] [xb 46,qy 47 .leq 46 40,qf 2 47]))⟩
theorem ov:ae Tryz.prog ep=some iH:=by kernel_rfl
def dz:FK:=⟨19,xN,wP [xe] [wh 6,wc 7 6,wE 8] (qN 0 (xn [wH 9 8 7] (wu 9 0) (wm 1 (wB (wL (xI 10) 5 10) [wG 11,wh 12,xb 13,wq 14 3 12 13,qG 15 3 14,qb 16 (.callv (.t 11) (w8 15))] (qM 16 (wL (xb 17) 4 17))) (wL (xu 18 8) 8 18)))) [xQ]⟩
theorem je:ae Tryz.prog bW=some dz:=by kernel_rfl
def oJ:FK:=⟨8,[.t 3],xc [wx 2 3 0,wo 3] [wQ 4 2,qu 5 4,qu 6 1,qb 7 (xv .eql 5 (.t 6)),qf 3 7]⟩
theorem yS:ae Tryz.prog eM=some oJ:=by kernel_rfl
def tp:FK:=⟨9,xN,xc [wx 2 1 0,wx 3 1 1,xe] [wQ 5 2,qu 6 5,qb 7 (.mkf (.func eM) (w8 3)),wY 8 bW 6 7,xI 4]⟩
theorem Bw:ae Tryz.prog gZ=some tp:=by kernel_rfl
def ew:FK:=⟨13,[],qe [wh 4,wb 5 4,xp 6 5,qu 7 6,wg 8 7 0] (xk 8 [wh 9,wG 10,wb 11 9,xp 12 11,xK 12 10])⟩
theorem oo:ae Tryz.prog bN=some ew:=by kernel_rfl
def fU:FK:=⟨7,[xj],xc [qB 2 .nilp] [qb 3 .mkm,wh 4,qb 5 (.bld [.nilm,.nilp] [(0,1,.t 3),(1,1,.t 4)]),wx 6 2 5,qf 2 6]⟩
theorem rc:ae Tryz.prog cx=some fU:=by kernel_rfl
def pX:FK:=⟨20,[],wB [wx 2 4 0] [wG 6,qG 7 4 2,qb 8 (.callv (.t 6) (w8 7))] (qe [xy 9 2,qu 10 9,wc 11 10,wE 12] (qN 0 (xn [wH 13 12 11] (wu 13 0) (wm 1 (xT [wq 14 4 10 12,qG 15 4 14,wD 5 [wd,wd,wF,.nils],wl 4 5 15] [qG 16 4 5,wG 17,wY 18 iM 16 17]) (wL (xu 19 12) 12 19)))))⟩
theorem Ad:ae Tryz.prog iM=some pX:=by kernel_rfl
def jL:FK:=⟨25,[wU,.t 5],xn [xe,wo 5] (xf 0 [wh 8,qb 9 (.pnil 0 true (.t 8))] 9 0 1 (wB [wh 15,wb 16 15,wQ 17 16,qu 18 17,wG 19,qb 20 (.lk 1 wd true (.t 18) (.t 19)),qf 14 20,wN 21 0 14,wN 22 1 14,xC 21,qf 7 22] [qf 23 7] (qM 23 [qf 24 6,qf 4 24,xU 5])) [wh 10,wb 11 10,xr 12 11,qu 13 12,qf 0 13]) (qw [xe,wo 5])⟩
theorem rJ:ae Tryz.prog bI=some jL:=by kernel_rfl
def gd:FK:=⟨58,[],wB [wx 3 4 0] [wQ 7 3,qu 8 7] (.blk 0 (qe (wM 10 8 2 9 10) (xt 9 (wB [qu 12 1,xp 13 3,qu 14 13,wY 15 bI 12 14,qf 11 15,wN 16 0 11,wN 17 1 11,qf 4 16,qf 5 17] [xb 18,wJ 19 18] (xk 19 [qu 20 2,xH 21 20 (qk 3)])) 23 8 13 22 23 (qA 22 (wB [xp 35 3,qu 24 2,wb 25 24,wQ 26 25,wQ 27 26,qu 28 27,qu 29 2,wb 30 29,xr 31 30,qu 32 31,qb 33 (.slS 3 (.t 28) none (some (.t 32))),qb 34 (.bld [.nils] [(0,1,.t 33)]),qu 36 35,wY 37 gZ 34 36,xC 37] [qf 38 6,xw 39 38 0] (wK 39 (.reg [qu 40 2,xH 41 40 (qk 4)]) [qf 47 6,xy 52 3,qu 42 2,wb 43 42,wQ 44 43,wQ 45 44,qu 46 45,wq 48 3 46 47,xr 49 48,qu 50 49,wc 51 50,qu 53 52,wc 54 53,qW 55 .neq 51 54] (xk 55 [qu 56 2,xH 57 56 (qk 5)])))))))⟩
theorem ml:ae Tryz.prog bv=some gd:=by kernel_rfl
def eD:FK:=⟨9,[],xT [wx 3 1 0,wx 4 4 1,wx 5 1 2] [qG 6 4 4,qb 7 (.mkf (.func bv) (wW 5 (.t 3))),wY 8 iM 6 7]⟩
theorem om:ae Tryz.prog cH=some eD:=by kernel_rfl
def dK:AK:=qe [wG 14,wc 15 14,wE 16] (qN 0 (xn [wH 17 16 15] (wu 17 0) (wm 1 (qY [wq 18 5 14 16,qG 19 5 18,wD 7 [wd,wF,.nils,.nils,.nils],wl 5 7 19] [xp 20 7,qu 21 20,wc 22 21,wE 23] (qN 2 (xn [wH 24 23 22] (wu 24 2) (wm 3 (xT [wq 25 4 21 23,qG 26 4 25,wD 9 [wd,wd,wF,.nils],wl 4 9 26] [wh 27,qG 28 4 9,xi 29,xG 30 cH 27 28 29]) (wL (xu 31 23) 23 31)))) (.cut (qe [wQ 32 7,qu 33 32] (.blk 4 (qe (wM 35 33 1 34 35) (xt 34 (qx [xi 37,wb 38 37,wQ 39 38,xr 41 7,qu 40 39,qu 42 41,qb 43 (.lk 1 wd true (.t 40) (.t 42)),qf 36 43,wN 44 0 36,wN 45 1 36,qf 10 44,qf 11 45] (qe [qf 46 11] (xk 46 [wh 47,xH 48 47 (qk 2)])) (.reg [xi 49,wb 50 49,wQ 51 50,xr 53 7,qu 52 51,qu 54 53,qO (.mup 1 (.t 52) (.t 54) (qk 0))])) 56 33 2 55 56 (qA 55 (wB [xi 58,xr 59 7,qu 60 59,wY 61 bI 58 60,qf 57 61,wN 62 0 57,wN 63 1 57,qf 12 62,qf 13 63] [qf 64 13,wJ 65 64] (xk 65 [wh 66,xH 67 66 (qk 3)]))))))) (qe [wQ 68 7,qu 69 68,wg 70 69 5,qf 71 70,xq 72 71 0 7,xm 73 71 72,qJ 74 71 (wV .eql 73 6),xR 75 71 74] (qA 75 (xT [wh 76,xy 77 7,xi 79,qu 78 77,w9 80 cx 79,xg none 77 78,xG 81 be 76 78 80] [wh 82,qq 83 4 7,xi 85,qu 84 83,w9 86 cx 85,xg none 83 84,xG 87 be 82 84 86]))))) (wL (xu 88 16) 16 88))))
def dA:FK:=⟨89,[],(AK.whole dK)⟩
theorem ny:ae Tryz.prog be=some dA:=by kernel_rfl
def eA:AK:=xo [wx 1 1 0,wE 2] [qG 11 1 1,w9 12 ep 11,wJ 13 12] 13 (qz 2 1) (wP [qG 14 1 1,qb 15 (.bld [.nils,wd,wd] [(0,1,.t 14)]),wx 16 3 15,qf 3 16] [wQ 17 1,qu 18 17,wc 19 18,wE 20] (qN 0 (xn [wH 21 20 19] (wu 21 0) (wm 1 (wB [qf 22 20,wq 23 3 18 20,qG 24 3 23,wD 5 [wF,.nils,.nils],qf 4 22,wl 3 5 24] [qf 25 3,qf 26 4,wb 27 25,xr 28 27,xK 28 26] (.cut (qe [qG 29 1 1,wQ 30 5,qu 31 30,wY 32 gZ 29 31,qf 33 4,wH 34 32 33] (xk 34 [qf 35 3,xH 36 35 (qk 2)])) (qY (wL (qt 37 cx [.c .nilp]) 6 37) [xr 38 5,qu 39 38,wc 40 39,wE 41] (qN 2 (xn [wH 42 41 40] (wu 42 2) (wm 3 (qY [wq 43 1 39 41,qu 44 43,qf 8 44] [qf 46 6,wb 47 46,wQ 48 47,qu 49 48,xI 50,qb 51 (.lk 1 wd true (.t 49) (.t 50)),qf 45 51,wN 52 0 45,wN 53 1 45,qf 9 52,qf 10 53] (qe [qf 54 10] (xk 54 [qf 55 3,xH 56 55 (qk 2)])) (.reg [qf 57 6,wb 58 57,wQ 59 58,qu 60 59,xI 61,qO (.mup 1 (.t 60) (.t 61) (qk 0))])) (wL (xu 62 41) 41 62)))) (.reg [qf 63 3,xp 64 5,qu 65 64,qf 66 6,xG 67 be 63 65 66])))) (wL (xu 68 20) 20 68)))) [qf 69 3,wb 70 69,xp 71 70,qu 72 71,qf 2 72])
def dX:FK:=⟨73,[xj],(AK.whole eA)⟩
theorem nY:ae Tryz.prog eu=some dX:=by kernel_rfl
def tB:FK:=⟨6,[xj],xc [wx 1 1 0,xS] [qG 3 1 1,w9 4 eu 3,wg 5 4 0,xb 2]⟩
theorem Cy:ae Tryz.prog mT=some tB:=by kernel_rfl
def fM:FK:=⟨19,xN,wP [xe] [wh 6,wc 7 6,wE 8] (qN 0 (xn [wH 9 8 7] (wu 9 0) (wm 1 (wB (wL (xI 10) 5 10) [wG 11,wh 12,xb 13,wq 14 1 12 13,qu 15 14,qb 16 (.callv (.t 11) (w8 15))] (qM 16 (wL (xb 17) 4 17))) (wL (xu 18 8) 8 18)))) [xQ]⟩
theorem lG:ae Tryz.prog dc=some fM:=by kernel_rfl
def dU:FK:=⟨9,xN,xc [wA] [wh 5,wG 6,wY 7 dc 5 6,qy 8 .geq 7 0,xI 4]⟩
theorem jH:ae Tryz.prog cm=some dU:=by kernel_rfl
def lb:FK:=⟨6,[xj],xc [xS] [wh 3,w9 4 gB 3,wJ 5 4,xb 2]⟩
theorem sE:ae Tryz.prog bV=some lb:=by kernel_rfl
def iY:FK:=⟨14,xN,xc [wA] [wh 5,wc 6 5,wG 7,qW 8 .eql 6 7,xI 9,xA 10 9 0,qI 11 9 (.call cm (wW 10 (.c (.fn (.func bV) [])))),qI 12 9 (qX 11),xL 13 9 12,qf 4 13]⟩
theorem vo:ae Tryz.prog ju=some iY:=by kernel_rfl
def oI:FK:=⟨21,xN,xc [wx 2 1 0,wA] [qG 5 1 2,w9 6 mT 5,qf 7 6,xA 8 7 1,wT 9 7 0 2,wR 10 7 9,wT 11 7 0 2,wR 12 7 11,qI 13 7 (qQ 12),xB 14 7 .sub 13 1,qI 15 7 (qF 3 10 (.t 14)),wT 16 7 1 15,wR 17 7 16,qI 18 7 (qQ 17),qI 19 7 (.call ju (wW 8 (.t 18))),xL 20 7 19,qf 4 20]⟩
theorem yQ:ae Tryz.prog kJ=some oI:=by kernel_rfl
def jy:FK:=⟨8,[xj],wP [qB 2 .nils] [wh 3,qb 4 (.snil false (.t 3))] (w7 4 (qB 2 .nils)) [xM 5 1 [wd] 0 [],wh 6,qb 7 (.app 1 8 (.t 5) (.t 6)),qf 2 7]⟩
theorem pr:ae Tryz.prog cZ=some jy:=by kernel_rfl
def eh:FK:=⟨19,[],qx [wh 2,wb 3 2,xp 4 3,wh 6,wb 7 6,xr 8 7,qu 5 4,qu 9 8,qW 10 .eql 5 9] (xk 10 [qt 11 kg [qk 3]]) (.reg [wh 12,wb 13 12,xp 14 13,qu 15 14,xu 16 15,wb 17 12,xp 18 17,xK 18 16])⟩
theorem nX:ae Tryz.prog cF=some eh:=by kernel_rfl
def lA:FK:=⟨28,xN,xn [qB 4 .nilp] (xf 0 [wh 7,wb 8 7,xr 9 8,qu 10 9,qb 11 (.pnil 0 true (.t 10))] 11 0 1 (wB [wh 17,wb 18 17,wQ 19 18,qu 20 19,wG 21,qb 22 (.lk 1 wd true (.t 20) (.t 21)),qf 16 22,wN 23 0 16,wN 24 1 16,qf 5 23,xC 24] [qf 25 6] (qM 25 (wL (wh 26) 4 26))) [wh 12,wb 13 12,xr 14 13,qu 15 14,qf 0 15]) (qw (wL (wh 27) 4 27))⟩
theorem sT:ae Tryz.prog dQ=some lA:=by kernel_rfl
def mD:FK:=⟨4,[xj],wP [wE 2] [wh 3] (w7 3 (qz 2 1)) [wE 2]⟩
theorem uU:ae Tryz.prog jo=some mD:=by kernel_rfl
def lF:FK:=⟨70,[.t 6,.t 7],qe [wE 6,wo 7] (wP [qB 8 (.fn (.func jo) [])] [wh 9] (.blk 0 (qe (wM 11 9 3 10 11) (xt 10 (qw [wG 12,xi 13,qW 14 .add 12 13,qy 15 .rem 14 256,xC 15,xU 7]) 17 9 4 16 17 (xt 16 (qw [wG 18,xi 19,qW 20 .sub 18 19,wy 21 20 256,qy 22 .rem 21 256,xC 22,xU 7]) 24 9 5 23 24 (qn 23 (qw [wG 25,xi 26,qW 27 .mul 25 26,qy 28 .rem 27 256,xC 28,xU 7]) (qx (wM 30 9 6 29 30) (qn 29 .skip (.reg (wM 31 9 7 29 31))) (xt 29 (qx [xi 32,wg 33 32 0] (qM 33 [wE 6,wo 7]) (xz [wh 34,wg 35 34 6] (qM 35 [wG 36,xi 37,qW 38 .quo 36 37,xC 38,xU 7]) [wG 39,xi 40,qW 41 .rem 39 40,xC 41,xU 7])) 43 9 8 42 43 (xt 42 (qw [xI 44,wG 45,xi 46,wH 47 45 46,qb 48 (.callv (.t 44) (w8 47)),xC 48,xU 7]) 50 9 9 49 50 (xt 49 (qw [xI 51,wG 52,xi 53,qW 54 .eql 52 53,qb 55 (.callv (.t 51) (w8 54)),xC 55,xU 7]) 57 9 10 56 57 (qM 56 [xI 58,wG 59,qy 60 .neq 59 0,qf 61 60,xA 62 61 2,xB 63 61 .neq 62 0,xL 64 61 63,qb 65 (.callv (.t 58) (w8 64)),xC 65,xU 7])))))))))) [xI 66,wG 67,wg 68 67 0,qb 69 (.callv (.t 66) (w8 68)),xC 69,xU 7])⟩
theorem ro:ae Tryz.prog fQ=some lF:=by kernel_rfl
def eb:FK:=⟨13,xN,wP [qB 4 .nilp] [wG 5,qy 6 .geq 5 16] (xk 6 [qt 7 kg [qk 2]]) [wh 8,wG 9,wb 10 8,qq 11 4 10,qb 12 (.idxA 16 1 (.t 11) (.t 9)),qf 4 12]⟩
theorem oq:ae Tryz.prog cK=some eb:=by kernel_rfl
def am:FK:=⟨126,[.t 6],qY [wx 4 4 1,wE 6] [wQ 16 4,qu 17 16] (.blk 0 (qe (wM 19 17 1 18 19) (xt 18 (qw [xr 20 4,qu 21 20,xC 21]) 23 17 2 22 23 (xt 22 (qw [xi 24,xp 25 4,xp 31 4,qu 26 25,qu 32 31,wY 27 dQ 24 26,xg none 31 32,wb 28 27,wQ 29 28,qu 30 29,qb 33 (.lk 1 wd false (.t 30) (.t 32)),xC 33]) 35 17 10 34 35 (xt 34 (qx [wh 36,xy 37 4,qu 38 37,we 39 4 38 (qk 0),qG 40 4 39,xi 41,xh 42 (xF 36 40 41),wg 43 42 0] (w7 43 (wE 6)) (xc [wh 45,xy 46 4,qu 47 46,we 48 4 47 (qk 1),qG 49 4 48,xi 50,xh 51 (xF 45 49 50),qt 52 fQ [qk 10,qk 1,.t 51],qf 44 52,wN 53 0 44,wN 54 1 44,qf 7 53,qf 8 54] (wL (qf 55 7) 6 55))) 57 17 12 56 57 (xt 56 (qw [wh 58,wh 59,xy 60 4,qu 61 60,we 62 4 61 (qk 0),qG 63 4 62,xi 64,xh 65 (xF 59 63 64),wY 66 cK 58 65,wb 67 66,qu 68 67,xC 68]) 70 17 13 69 70 (qA 69 (wP [qB 9 .nils] [xy 71 4,qu 72 71,wc 73 72,wE 74] (qN 1 (xn [wH 75 74 73] (wu 75 1) (wm 2 (xT [wq 76 4 72 74,qG 77 4 76,wD 11 [wd,wd,wF,.nils],wl 4 11 77] [qf 78 9,wh 79,qG 80 4 11,xi 81,xh 82 (xF 79 80 81),xM 83 1 [wd] 1 [(0,1,.t 82)],qb 84 (.app 1 8 (.t 78) (.t 83)),qf 9 84]) (wL (xu 85 74) 74 85)))) [wh 86,wh 87,wb 88 87,wQ 89 88,xp 91 4,qf 94 9,qG 90 1 89,qu 92 91,wY 93 gZ 90 92,xG 95 cJ 86 93 94,xC 95])))))))) (qY [wh 96,xy 97 4,qu 98 97,we 99 4 98 (qk 0),qG 100 4 99,xi 101,xh 102 (xF 96 100 101),qf 12 102,wE 13] [xy 103 4,qu 104 103,wc 105 104,qy 106 .gtr 105 1] (xk 106 [wh 107,xy 108 4,qu 109 108,we 110 4 109 (qk 1),qG 111 4 110,xi 112,xh 113 (xF 107 111 112),qf 13 113]) (wP [wQ 115 4,qu 116 115,qf 117 12,qf 118 13,xG 119 fQ 116 117 118,qf 114 119,wN 120 0 114,wN 121 1 114,qf 14 120,qf 15 121] [qf 122 15,wJ 123 122] (xk 123 [qt 124 kg [qk 1]]) (wL (qf 125 14) 6 125)))⟩
theorem iA:ae Tryz.prog bp=some am:=by kernel_rfl
def ry:FK:=⟨7,[xj],xc [qB 2 .nilp] [qb 3 .mkm,wh 4,qb 5 (.bld [.nilm,.nilp] [(0,1,.t 3),(1,1,.t 4)]),wx 6 2 5,qf 2 6]⟩
theorem Au:ae Tryz.prog fS=some ry:=by kernel_rfl
def eq:FK:=⟨109,[.t 6],qY [wx 4 5 1,qB 6 .nilp] [wQ 10 4,qu 11 10,wg 12 11 6] (qA 12 (.seq (w6 0 [wh 13,xp 14 4,qu 15 14,we 16 4 15 (qk 0),qG 17 4 16,xi 18,xh 19 (xF 13 17 18),qy 20 .neq 19 0] 20 0 (.blk 1 (qx [wh 21,xy 22 4,xi 24,qu 23 22,w9 25 fS 24,xg none 22 23,xG 26 aN 21 23 25,qf 7 26] (qe [qf 27 7,qb 28 (.pnil 0 true (.t 27))] (qM 28 (wL (qf 29 7) 6 29))) (.reg [wh 30,w9 31 cF 30])))) (qw [qB 6 .nilp]))) (wP [wh 32,xp 33 4,qu 34 33,we 35 4 34 (qk 0),qG 36 4 35,xi 37,xh 38 (xF 32 36 37),qf 8 38] [wQ 39 4,qu 40 39] (.blk 2 (qe (wM 42 40 1 41 42) (xt 41 (.reg [xi 43,wb 44 43,wQ 45 44,xr 47 4,xI 49,qu 46 45,qu 48 47,qO (.mup 1 (.t 46) (.t 48) (.t 49))]) 51 40 2 50 51 (xt 50 (.reg [xi 52,xr 53 4,xr 59 4,xI 61,qu 54 53,qu 60 59,wY 55 dQ 52 54,xg none 59 60,wb 56 55,wQ 57 56,qu 58 57,qO (.mup 1 (.t 58) (.t 60) (.t 61))]) 63 40 3 62 63 (xt 62 (.reg [wh 64,wh 65,wb 66 65,xy 67 66,qu 68 67,xI 69,xM 70 1 [wd] 1 [(0,1,.t 69)],qb 71 (.app 1 8 (.t 68) (.t 70)),wb 72 64,xy 73 72,xK 73 71]) 75 40 4 74 75 (xt 74 (xT [wh 76,xp 77 4,qu 78 77,we 79 4 78 (qk 1),qG 80 4 79,xi 81,xh 82 (xF 76 80 81),qf 9 82] [wh 83,xI 84,wY 85 cK 83 84,qf 86 9,wb 87 85,xK 87 86]) 89 40 5 88 89 (xt 88 (xz [xI 90,qy 91 .neq 90 0] (qM 91 [wh 92,xy 93 4,xi 95,qu 94 93,w9 96 fS 95,xg none 93 94,xG 97 aN 92 94 96,xC 97]) [wh 98,qq 99 4 4,xi 101,qu 100 99,w9 102 fS 101,xg none 99 100,xG 103 aN 98 100 102,xC 103]) 105 40 7 104 105 (qM 104 [xI 106,qb 107 (.bld [wd] [(0,1,.t 106)]),wx 108 1 107,xC 108])))))))) [qB 6 .nilp])⟩
theorem iy:ae Tryz.prog eg=some eq:=by kernel_rfl
def gT:FK:=⟨26,[.t 6],wP [qB 6 .nilp] [wG 10,wc 11 10,wE 12] (qN 0 (xn [wH 13 12 11] (wu 13 0) (wm 1 (wB [wq 14 5 10 12,qG 15 5 14,wD 8 [wd,wF,.nils,.nils,.nils],wl 5 8 15] [wh 16,w9 17 cF 16] (wB [wh 18,qG 19 5 8,xi 20,xG 21 eg 18 19 20,qf 9 21] [qf 22 9,qb 23 (.pnil 0 true (.t 22))] (qM 23 (wL (qf 24 9) 6 24)))) (wL (xu 25 12) 12 25)))) [qB 6 .nilp]⟩
theorem nb:ae Tryz.prog aN=some gT:=by kernel_rfl
def iB:FK:=⟨57,[.t 6],qe [wE 6] (qY [qb 11 .mkm,qb 12 (.bld [.nilm,.nilp] [(0,1,.t 11)]),wx 13 2 12,qf 7 13] [wh 14,wb 15 14,wQ 16 15,wQ 17 16,qu 18 17,wG 19,wq 20 3 18 19,xr 21 20,qu 22 21,wc 23 22,wE 24] (qN 0 (xn [wH 25 24 23] (wu 25 0) (wm 1 (xT [qf 26 24,wq 27 1 22 24,qu 28 27,qf 8 26,qf 9 28] [qf 29 7,wb 30 29,wQ 31 30,qf 33 9,xi 34,xI 35,wq 36 1 34 35,qu 32 31,qu 37 36,qO (.mup 1 (.t 32) (.t 33) (.t 37))]) (wL (xu 38 24) 24 38)))) (xz [wh 39,wh 40,wb 41 40,wQ 42 41,wQ 43 42,qu 44 43,wG 45,wq 46 3 44 45,xp 47 46,qu 48 47,qf 49 7,xG 50 aN 39 48 49,qf 10 50] (qe [qf 51 10,qb 52 (.pnil 0 true (.t 51))] (qM 52 [qf 53 10,wb 54 53,wQ 55 54,qu 56 55,xC 56])) [wE 6]))⟩
theorem nZ:ae Tryz.prog cJ=some iB:=by kernel_rfl
def iz:FK:=⟨12,[],.reg [qu 4 0,wQ 5 1,qu 6 5,wc 7 6,qy 8 .sub 7 1,qu 9 2,xG 10 cJ 4 8 9,xp 11 3,xK 11 10]⟩
theorem oe:ae Tryz.prog cI=some iz:=by kernel_rfl
def fH:AK:=wB [wx 3 1 0,wx 4 1 1,wD 6 [.nils,wd,wd,.nils],wE 7] [qG 10 1 3,xi 11,qb 12 (.bld [.nils,wd,wd,.nils,wd,wd,wd,wd,wd,wd,wd,wd,wd,wd,wd,wd,wd,wd,wd,wd] [(0,1,.t 10),(1,1,.t 11)]),wx 13 20 12,wD 8 [.nilp],xK 8 13] (qe [wD 9 [.nils,wd,wd,.nils]] (.cut (.reg [qb 14 (.mkf (.func cI) [.t 8,.t 3,.t 4,.t 9]),w9 15 oM 14,xr 16 9,xK 16 15]) (xc [qu 17 8,wb 18 17,xy 19 18,qu 20 19,wQ 26 9,qu 21 8,wb 22 21,qq 23 4 22,qb 24 (.slA 16 1 (.t 23) none none),w9 25 cZ 24,xg none 8 17,xg none 19 20,xK 26 20,xy 27 9,xK 27 25] [qG 28 4 9,qu 29 8,wb 30 29,xp 31 30,qu 32 31,wl 4 6 28,xg none 8 29,xg none 31 32,qf 7 32])))
def fy:FK:=⟨33,[.c 6 (some 4),.t 7],(AK.whole fH)⟩
theorem rf:ae Tryz.prog dw=some fy:=by kernel_rfl
def ku:FK:=⟨21,xN,xo [wx 2 1 0,xe] [qG 7 1 2,wG 8,wY 9 kJ 7 8,wJ 10 9] 10 xQ (wP [qG 12 1 2,wG 13,qt 14 dw (xE 12 13 (qk 4000)),qf 11 14,wN 15 0 11,wN 16 1 11,wD 5 [.nils,wd,wd,.nils],wl 4 5 15,xC 16] [xr 17 5,qu 18 17,wg 19 18 3] (w7 19 xQ) (wL (qf 20 6) 4 20))⟩
theorem oL:ae Tryz.prog eG=some ku:=by kernel_rfl
def kX:FK:=⟨26,xN,xo [wA] [wh 6,wc 7 6,wG 8,wc 9 8,qW 10 .neq 7 9] 10 wA (xz [wE 5] (xf 0 [xb 11,wh 12,wc 13 12,wH 14 11 13] 14 0 1 (qe [wh 17,xb 18,wq 19 1 17 18,wG 21,xb 22,wq 23 1 21 22,qu 20 19,qu 24 23,qb 25 (xv .neq 20 (.t 24))] (xO 25)) [xb 15,xu 16 15,qf 5 16]) [xU 4])⟩
theorem sV:ae Tryz.prog gq=some kX:=by kernel_rfl
def pg:FK:=⟨26,xN,xo [wx 2 4 0,wx 3 4 1,wA] [wQ 5 2,qu 6 5,wQ 7 3,qu 8 7,qW 9 .neq 6 8] 9 wA (qx [xr 10 2,qu 11 10,xr 12 3,qu 13 12,qW 14 .neq 11 13] (xO 14) (qx [xp 15 2,qu 16 15,xp 17 3,qu 18 17,qb 19 (xv .neq 16 (.t 18))] (xO 19) (xz [xy 20 2,qu 21 20,xy 22 3,qu 23 22,wY 24 dI 21 23,wJ 25 24] (xO 25) [xU 4])))⟩
theorem yO:ae Tryz.prog gL=some pg:=by kernel_rfl
def nC:FK:=⟨27,xN,xo [wA] [wh 6,wc 7 6,wG 8,wc 9 8,qW 10 .neq 7 9] 10 wA (xz [wE 5] (xf 0 [xb 11,wh 12,wc 13 12,wH 14 11 13] 14 0 1 (qe [wh 17,xb 18,wq 19 4 17 18,wG 21,xb 22,wq 23 4 21 22,qG 20 4 19,qG 24 4 23,wY 25 gL 20 24,wJ 26 25] (xO 26)) [xb 15,xu 16 15,qf 5 16]) [xU 4])⟩
theorem vh:ae Tryz.prog dI=some nC:=by kernel_rfl
def oX:FK:=⟨33,xN,xo [wx 2 5 0,wx 3 5 1,wA] [wQ 5 2,qu 6 5,wQ 7 3,qu 8 7,qW 9 .neq 6 8] 9 wA (qx [xr 10 2,qu 11 10,xr 12 3,qu 13 12,qb 14 (xv .neq 11 (.t 13))] (xO 14) (qx [xp 15 2,qu 16 15,xp 17 3,qu 18 17,wY 19 dI 16 18,wJ 20 19] (xO 20) (qx [xy 21 2,qu 22 21,xy 23 3,qu 24 23,wY 25 cQ 22 24,wJ 26 25] (xO 26) (xz [qq 27 4 2,qu 28 27,qq 29 4 3,qu 30 29,wY 31 cQ 28 30,wJ 32 31] (xO 32) [xU 4]))))⟩
theorem yI:ae Tryz.prog gO=some oX:=by kernel_rfl
def mz:FK:=⟨27,xN,xo [wA] [wh 6,wc 7 6,wG 8,wc 9 8,qW 10 .neq 7 9] 10 wA (xz [wE 5] (xf 0 [xb 11,wh 12,wc 13 12,wH 14 11 13] 14 0 1 (qe [wh 17,xb 18,wq 19 5 17 18,wG 21,xb 22,wq 23 5 21 22,qG 20 5 19,qG 24 5 23,wY 25 gO 20 24,wJ 26 25] (xO 26)) [xb 15,xu 16 15,qf 5 16]) [xU 4])⟩
theorem vE:ae Tryz.prog cQ=some mz:=by kernel_rfl
def tx:FK:=⟨22,xN,xo [wx 2 3 0,wx 3 3 1,wA] [wQ 5 2,qu 6 5,wQ 7 3,qu 8 7,qb 9 (xv .neq 6 (.t 8))] 9 wA (qx [xr 10 2,qu 11 10,xr 12 3,qu 13 12,wY 14 gq 11 13,wJ 15 14] (xO 15) (xz [xp 16 2,qu 17 16,xp 18 3,qu 19 18,wY 20 cQ 17 19,wJ 21 20] (xO 21) [xU 4]))⟩
theorem BF:ae Tryz.prog jT=some tx:=by kernel_rfl
def pO:FK:=⟨27,xN,xo [wA] [wh 6,wc 7 6,wG 8,wc 9 8,qW 10 .neq 7 9] 10 wA (xz [wE 5] (xf 0 [xb 11,wh 12,wc 13 12,wH 14 11 13] 14 0 1 (qe [wh 17,xb 18,wq 19 3 17 18,wG 21,xb 22,wq 23 3 21 22,qG 20 3 19,qG 24 3 23,wY 25 jT 20 24,wJ 26 25] (xO 26)) [xb 15,xu 16 15,qf 5 16]) [xU 4])⟩
theorem Ak:ae Tryz.prog lI=some pO:=by kernel_rfl
def lq:FK:=⟨11,xN,wP [wx 2 1 0,wx 3 1 1,wA] [wQ 5 2,qu 6 5,wQ 7 3,qu 8 7,wY 9 lI 6 8,wJ 10 9] (xO 10) [xU 4]⟩
theorem tk:ae Tryz.prog gk=some lq:=by kernel_rfl
def pa:FK:=⟨26,xN,xo [wA] [wh 6,wc 7 6,wG 8,wc 9 8,qW 10 .neq 7 9] 10 wA (xz [wE 5] (xf 0 [xb 11,wh 12,wc 13 12,wH 14 11 13] 14 0 1 (qe [wh 17,xb 18,wq 19 1 17 18,wG 21,xb 22,wq 23 1 21 22,qu 20 19,qu 24 23,qW 25 .neq 20 24] (xO 25)) [xb 15,xu 16 15,qf 5 16]) [xU 4])⟩
theorem yC:ae Tryz.prog kM=some pa:=by kernel_rfl
def dD:FK:=⟨43,xN,xo [wx 2 1 0,wA] [wG 10,wc 11 10,qy 12 .gtr 11 1048576] 12 (xU 4) (qe [qz 5 1048576] (xo [qG 13 1 2,xb 14,wY 15 dT 13 14,qf 5 15] [xb 16,xw 17 16 0] 17 (xU 4) (wB [qG 18 1 2,w9 19 cT 18,wG 20,w9 21 dm 20,wY 22 eK 19 21,xC 22] [qG 23 1 2,w9 24 cT 23,wD 7 [.nils],xK 7 24] (qe [wG 25,w9 26 dm 25,qf 8 26] (xo [qG 27 1 7,xI 28,wY 29 eG 27 28,qf 9 29] [qf 30 9,qf 31 6,qW 32 .neq 30 31] 32 wA (qx [qG 33 1 7,qG 34 1 2,w9 35 cT 34,xg (some 1) 7 33,wY 36 gk 33 35,wJ 37 36] (xO 37) (xz [xI 38,wG 39,w9 40 dm 39,wY 41 kM 38 40,wJ 42 41] (xO 42) [xU 4])))))))⟩
theorem nk:ae Tryz.prog gW=some dD:=by kernel_rfl
end Go.Proofs.YtokiapglmedipaaGreatDoor
