/-
  Contracts and lemmas that the card needs, part 6.
-/
import Derived.Test.YtghpabfdmbdpfaaGreatDoorKd5
namespace Go.Proofs.YtghpabfdmbdpfaaGreatDoor
open Go Go.Aw
set_option maxRecDepth 100000
set_option maxHeartbeats 4000000
section
def sj:AK:=wo [yA 2 5,xq] [wP 12 2,qq 13 12,wY 14 gn 13,qf 11 14,xr 15 0 11,xr 16 1 11,xr 17 2 11,xr 18 3 11,qf 5 15,qf 6 16,qf 7 17,qf 8 18] (.cut (.blk 0 (wD (xV (xw 20) (qx 21 .gtr 20 4) 19 21) 19 (wA [xi 22 2,qq 23 22,q8 24 23,xf 25,wh 26 .neq 24 25,qf 19 26] 19 (.cut (.reg [yh 27,qf 28 27,wT 29 28 1 2,wM 30 28 29,yK 31 28 cA (wX 30),qI 32 28 (wa 31),xX 33 28 32,qf 19 33]) (xx 19 (.cut (.reg [yh 34,xd 35 34,qf 36 35,wT 37 36 1 2,wM 38 36 37,qI 39 36 (yP .neq 38 (.c qN)),xX 40 36 39,qf 19 40]) (xx 19 (.cut (.reg [yH 41,xd 42 41,qf 43 42,wT 44 43 3 2,wM 45 43 44,qI 46 43 (qY 45),xh 47 43 .gtr 46 ww,xX 48 43 47,qf 19 48]) (xx 19 (.cut (.reg [yz 49,xd 50 49,qf 51 50,wT 52 51 4 2,wM 53 51 52,qI 54 51 (qY 53),xh 55 51 .gtr 54 ww,xX 56 51 55,qf 19 56]) (xx 19 (.reg [wP 57 2,qq 58 57,wd 59 58 8,qf 60 59,wT 61 60 2 2,wM 62 60 61,qI 63 60 (qQ 4 62 ww),wT 64 60 0 63,wM 65 60 64,xh 66 60 .neq 65 (qi 13),xX 67 60 66,qf 19 67])))))))))) (qo 19 (qB [xq]) .skip))) (yT (yu [xi 68 2,qq 69 68,q8 70 69,wL 71] 1 [wI 72 71 70] 72 (.exit 1) (yv 2 (qd [wt 73 4 69 71,yO 74 73,qX 10 [qA,qA,qN,.nils],qS 4 10 74] (wl [yO 75 10,wY 76 fm 75,xd 77 76] 77 [xq])) 78 71 71 78)) [yr 79 2,qq 80 79,xw 81,xB 82 81,wH 83 cL 80 82,qf 84 83,wT 85 84 4 2,wM 86 84 85,xU 87 84 1,xh 88 84 .add 87 wV,yK 89 84 cL (yQ 86 88),xX 90 84 89,qf 4 90]))
theorem CM:AK.whole sj=FK.ak jw:=rfl
variable (G:aK)
def rD(op:Int):Int:=if op=4 then 2 else if inR op 1 8 then 1 else-1
def jX(op:Int):Bool:=decide (op=5)||decide (op=6)
theorem Ad(op:Int):VF Tryz.prog G gn [.p (.int .i64 op)] (.tup [.p (.int .i64 (rD op)),.p (.bool (cR op)),.p (.bool (jX op)),.p (.bool (decide (op=5)))]):=by
 refine AC.go ze ?_
 by_cases h1:op=1
 ·subst h1;simp-implicitDefEqProofs[br,rD,inR,cR,jX]
 by_cases h2:op=2
 ·subst h2;simp-implicitDefEqProofs[br,rD,inR,cR,jX]
 by_cases h3:op=3
 ·subst h3;simp-implicitDefEqProofs[br,rD,inR,cR,jX]
 by_cases h4:op=4
 ·subst h4;simp-implicitDefEqProofs[br,rD,inR,cR,jX]
 by_cases h5:op=5
 ·subst h5;simp-implicitDefEqProofs[br,rD,inR,cR,jX]
 by_cases h6:op=6
 ·subst h6;simp-implicitDefEqProofs[br,rD,inR,cR,jX]
 by_cases h7:op=7
 ·subst h7;simp-implicitDefEqProofs[br,rD,inR,cR,jX]
 by_cases h8:op=8
 ·subst h8;simp-implicitDefEqProofs[br,rD,inR,cR,jX]
 have ha:rD op= -1:=by
  have:inR op 1 8=false:=by simp[inR];omega
  rw[rD,if_neg h4,this];rfl
 have hn:cR op=false:=by simp[cR,h1,h2]
 have hb:jX op=false:=by simp[jX,h5,h6]
 rw[ha,hn,hb]
 simp-implicitDefEqProofs[br,h1,h2,h3,h4,h5,h6,h7,h8]
def Hf:List Ex->Bool
 |a::_=>decide (a.op=13)
 |[]=>false
def jY(s:Sm):Bool:=decide ((s.args.length:Int)=rD s.op)&&(!cR s.op||aP s.name)&&(cR s.op||decide (s.name=[]))&&(jX s.op||decide (s.body=[]))&&(decide (s.op=5)||decide (s.els=[]))&&
 (!decide (s.op=8)||Hf s.args)
theorem Ki(s:Sm):fU s=(inR s.op 1 8&&decide (s.args.length=jF s.op)&&(cR s.op==aP s.name)&&(cR s.op||decide (s.name=[]))&&s.args.all lV&&
 (!decide (s.op=8)||Hf s.args)&&(s.els.isEmpty||decide (s.op=5))&&(s.body.isEmpty||decide (s.op=5)||decide (s.op=6))):=by
 unfold fU
 cases s.args<;>rfl
theorem Fw(s:Sm):fU s=(jY s&&s.args.all lV):=by
 have ha:decide ((s.args.length:Int)=rD s.op)=(inR s.op 1 8&&decide (s.args.length=jF s.op)):=by
  unfold rD jF
  by_cases h4:s.op=4
  ·have:inR s.op 1 8=true:=by simp[inR,h4]
   rw[this,if_pos h4,if_pos h4];simp;omega
  ·rw[if_neg h4,if_neg h4]
   cases h:inR s.op 1 8 with
   |true=>simp;omega
   |false=>simp
 have hn:(cR s.op==aP s.name&&(cR s.op||decide (s.name=[])))=((!cR s.op||aP s.name)&&(cR s.op||decide (s.name=[]))):=by
  cases cR s.op with
  |true=>cases aP s.name<;>rfl
  |false=>
   by_cases h:s.name=[]
   ·rw[h,sC];rfl
   ·simp[h]
 have hb:(s.body.isEmpty||decide (s.op=5)||decide (s.op=6))=(jX s.op||decide (s.body=[])):=by
  rw[jX]
  cases s.body<;>cases decide (s.op=5)<;>cases decide (s.op=6)<;>simp
 have he:(s.els.isEmpty||decide (s.op=5))=(decide (s.op=5)||decide (s.els=[])):=by
  cases s.els<;>cases decide (s.op=5)<;>simp
 rw[Ki]
 unfold jY
 rw[ha,hb,he]
 generalize Hf s.args=z
 generalize (cR s.op==aP s.name)=c at hn⊢
 generalize (!cR s.op||aP s.name)=c' at hn⊢
 generalize (cR s.op||decide (s.name=[]))=d at hn⊢
 generalize s.args.all lV=x
 generalize (jX s.op||decide (s.body=[]))=y
 generalize (decide (s.op=5)||decide (s.els=[]))=y'
 generalize (!decide (s.op=8))=u
 cases inR s.op 1 8<;>cases decide (s.args.length=jF s.op)<;>cases c<;>cases c'<;>cases d<;>cases x<;>cases y<;>cases y'<;>cases u<;>cases z<;>simp_all
variable (hK:G jl=some gY) (hS:G dU=some [.tbl opK opV])
def Hu(d:Nat)(L:List Sm):Int:=match L.findIdx? (λs=> !aJ d s) with|some i=>i|none=> -1
theorem Mc(d:Nat)(L:List Sm):decide (0<=Hu d L)= !(L.all (aJ d)):=by
 unfold Hu
 cases h:L.findIdx? (λx=> !aJ d x) with
 |none=>
  rw[WJ] at h
  have:L.all (aJ d)=true:=Wj.2 λx hx=>by have:=h x hx;simpa using this
  simp[this]
 |some i=>
  rw[Ww] at h
  obtain⟨h1,h2,_⟩:=h
  have:L.all (aJ d)=false:=List.all_eq_false.2 ⟨_,Wo h1,by simpa using h2⟩
  rw[this];simp
theorem vL(d:Nat)(nest:Int)(hs:∀s:Sm,s.sz<=1073741824->VF Tryz.prog G jv [.agg (s.cs.map .p),.p (.int .i64 nest)] (.p (.bool (aJ d s))))(L:List Sm)(hL:aD L<=1073741824):
 VF Tryz.prog G cL [.p (smL L),.p (.int .i64 nest)] (.p (.bool (L.all (aJ d)))):=by
 have hsl:smL L= .lst 5 (L.map Sm.cs):=rfl
 have hll:=bM L
 have dP:∀s:Sm,s.sz<=1073741824->AC Tryz.prog G cF [.agg (s.cs.map .p),.ptr 0 1 0 0] [.row 1 [[.p (.int .i64 nest)]]] λx h=>x= .ret (.p (.bool (!aJ d s)))/\h=[.row 1 [[.p (.int .i64 nest)]]]:=by
  intro s hz
  refine AC.trim (AC.go vg ?_) (by simp[below])
  have hse:=s.cs_eq
  have h1:=hs s hz
  rw[hse] at h1
  simp-implicitDefEqProofs[nn,hse]
  refine h1.use ?_
  simp-implicitDefEqProofs[]
 have idx:AC Tryz.prog G cg [.p (smL L),.fn (.func cF) [.ptr 0 1 0 0]] [.row 1 [[.p (.int .i64 nest)]]] λx h=>x= .ret (.p (.int .i64 (Hu d L)))/\h=[.row 1 [[.p (.int .i64 nest)]]]:=by
  refine AC.go kf ?_
  simp-implicitDefEqProofs[dX,hsl]
  refine aN (λi:Nat=>az 19 [(0,.p (smL L)),(1,.fn (.func cF) [.ptr 0 1 0 0]),(7,.p (.int .i64 L.length)),(8,.p (.int .i64 i))]) (λ_=>[.row 1 [[.p (.int .i64 nest)]]]) (λi=>i<=L.length/\∀w∈L.take i,aJ d w=true) (λi=>L.length-i) 0 (by simp) ?_ ?_
  ·exact am (by simp) (by simp[okO,below]) (by simp[below,ay,hsl])
  ·intro i ⟨hi,hn⟩
   simp-implicitDefEqProofs[hsl]
   refine aO (λh1=>?_) (λh1=>?_)
   ·simp at h1
    have hg:=Wa h1
    have hz:=fV (Wo h1)
    simp-implicitDefEqProofs[hg]
    refine(dP L[i] (by omega)).mono ?_
    rintro r h ⟨rfl,rfl⟩
    by_cases he:aJ d L[i]=true
    ·simp-implicitDefEqProofs[aa,he]
     refine⟨i+1,⟨h1,λp hp=>?_⟩,by omega,am (by simp) (by simp[okO,below]) (by simp[below,ay,hsl,w1 (i:=i) (by omega)])⟩
     rw[aw h1] at hp
     rcases Wf.1 hp with hp|hp
     ·exact hn p hp
     ·rw[Wh.1 hp];exact he
    ·have hf:Hu d L=i:=by
      have:L.findIdx? (λw=> !aJ d w)=some i:=by
       rw[Ww]
       exact⟨h1,by simpa using he,λj hj=>by have:=hn L[j] (List.mem_take_iff_getElem.2 ⟨j,by omega,rfl⟩);simpa using this⟩
      rw[Hu,this]
     simp-implicitDefEqProofs[aa,he,hf]
   ·simp at h1
    rw[Wg h1] at hn
    have hf:Hu d L= -1:=by
     have:L.findIdx? (λw=> !aJ d w)=none:=by
      rw[WJ];intro x hx;simpa using hn x hx
     rw[Hu,this]
    simp-implicitDefEqProofs[hf]
 have con:AC Tryz.prog G bS [.p (smL L),.fn (.func cF) [.ptr 0 1 0 0]] [.row 1 [[.p (.int .i64 nest)]]] λx h=>x= .ret (.p (.bool (!L.all (aJ d))))/\h=[.row 1 [[.p (.int .i64 nest)]]]:=by
  refine AC.go iL ?_
  simp-implicitDefEqProofs[dr]
  refine idx.mono ?_
  rintro r h ⟨rfl,rfl⟩
  have:=Mc d L
  simp-implicitDefEqProofs[aa]
  simpa using this
 refine AC.go AZ ?_
 simp-implicitDefEqProofs[pA]
 refine con.mono ?_
 rintro r h ⟨rfl,rfl⟩
 simp-implicitDefEqProofs[aa]
include hS hK
theorem Me:∀d:Nat,d<=4->∀s:Sm,s.sz<=1073741824->VF Tryz.prog G jv [.agg (s.cs.map .p),.p (.int .i64 (5-d))] (.p (.bool (aJ d s))):=by
 intro d
 induction d with
 |zero=>
  intro _ s hz
  have hse:=s.cs_eq
  refine AC.go sx ?_
  simp-implicitDefEqProofs[jw,hse]
  refine(Ad G _).use ?_
  simp-implicitDefEqProofs[aJ]
 |succ d ih=>
  intro hd s hz
  have hse:=s.cs_eq
  have hsz:=s.sz_eq
  have hal:=bK s.args
  have hblk:=vL G d (5-d) (ih (by omega))
  have hnn:(5:Int)-((d+1:Nat):Int)=4-d:=by omega
  have hnw:IntKind.i64.wrap (4-(d:Int)+1)=5-d:=by rw[ab (by omega) (by omega)];omega
  have hn4:¬(4:Int)<4-d:=by omega
  have hxl:exL s.args= .lst 4 (s.args.map Ex.cs):=rfl
  have hsl:∀l,smL l= .lst 5 (l.map Sm.cs):=λ_=>rfl
  rw[hnn]
  have hbad:jY s=false->aJ (d+1) s=false:=λh=>by rw[aJ,Fw,h];rfl
  refine AC.goK sx CM ?_
  simp-implicitDefEqProofs[sj,jw,hse]
  refine(Ad G _).use ?_
  simp-implicitDefEqProofs[]
  refine lT (λ_:Unit=>az 91 [(1,.p (.int .i64 (4-d))),(2,.ptr 0 5 0 0)]) (λ_=>[.row 5 [[.p (.int .i64 s.op),.p (.str s.name),.p (exL s.args),.p (smL s.body),.p (smL s.els)]]]) (λ_=>jY s=true) ?_ ?_
  ·have fin:∀(r1:List (Nat × AV)),Aw.look r1 1= .p (.int .i64 (4-d))->Aw.look r1 2= .ptr 0 5 0 0->
    Wk 0 (az 91 r1) [.row 5 [[.p (.int .i64 s.op),.p (.str s.name),.p (exL s.args),.p (smL s.body),.p (smL s.els)]]] (az 91 [(1,.p (.int .i64 (4-d))),(2,.ptr 0 5 0 0)]) [.row 5 [[.p (.int .i64 s.op),.p (.str s.name),.p (exL s.args),.p (smL s.body),.p (smL s.els)]]]:=λr1 a b=>
    am (by simp) (by simp[okO,below]) (by simp[below,a,b])
   have hb0:s.body=[]\/0<s.body.length:=by cases s.body<;>simp
   have he0:s.els=[]\/0<s.els.length:=by cases s.els<;>simp
   by_cases hl:(s.args.length:Int)=rD s.op
   case neg=>
    rw[hbad (by simp[jY,hl])]
    simp-implicitDefEqProofs[hn4,hxl,hl]
   have hel:(decide (s.els=[]))= !decide (0<s.els.length):=by cases s.els<;>simp
   have hbo:(decide (s.body=[]))= !decide (0<s.body.length):=by cases s.body<;>simp
   simp-implicitDefEqProofs[hn4,hxl,hl]
   refine oX (az 91 [(1,.p (.int .i64 (4-d))),(2,.ptr 0 5 0 0),(6,.p (.bool (cR s.op))),(7,.p (.bool (jX s.op))),(8,.p (.bool (decide (s.op=5)))),(19,.p (.bool (cR s.op&& !aP s.name)))]) ([.row 5 [[.p (.int .i64 s.op),.p (.str s.name),.p (exL s.args),.p (smL s.body),.p (smL s.els)]]]) ?_ ?_
   ·cases hn:cR s.op with
    |true=>
     simp-implicitDefEqProofs[]
     refine(pq G hK _ (by omega)).use ?_
     simp-implicitDefEqProofs[]
     exact am (by simp) (by simp[okO,below]) (by simp[below])
    |false=>
     simp-implicitDefEqProofs[]
     exact am (by simp) (by simp[okO,below]) (by simp[below])
   by_cases h2:(cR s.op&& !aP s.name)=true
   ·rw[hbad (by simp only[jY];cases h:cR s.op<;>cases h':aP s.name<;>simp[h,h'] at h2⊢)]
    simp-implicitDefEqProofs[h2]
   have h2':(cR s.op&& !aP s.name)=false:=by simpa using h2
   rw[h2']
   simp-implicitDefEqProofs[]
   refine oX (az 91 [(1,.p (.int .i64 (4-d))),(2,.ptr 0 5 0 0),(6,.p (.bool (cR s.op))),(7,.p (.bool (jX s.op))),(8,.p (.bool (decide (s.op=5)))),(19,.p (.bool (!cR s.op&& !decide (s.name=[]))))]) ([.row 5 [[.p (.int .i64 s.op),.p (.str s.name),.p (exL s.args),.p (smL s.body),.p (smL s.els)]]]) ?_ ?_
   ·cases hn:cR s.op with
    |true=>
     simp-implicitDefEqProofs[]
     exact am (by simp) (by simp[okO,below]) (by simp[below])
    |false=>
     simp-implicitDefEqProofs[]
     exact am (by simp) (by simp[okO,below]) (by simp[below])
   by_cases h3:(!cR s.op&& !decide (s.name=[]))=true
   ·rw[hbad (by simp only[jY];cases h:cR s.op<;>cases h':decide (s.name=[])<;>simp[h,h'] at h3⊢)]
    simp-implicitDefEqProofs[h3]
   have h3':(!cR s.op&& !decide (s.name=[]))=false:=by simpa using h3
   rw[h3']
   simp-implicitDefEqProofs[]
   refine oX (az 91 [(1,.p (.int .i64 (4-d))),(2,.ptr 0 5 0 0),(6,.p (.bool (cR s.op))),(7,.p (.bool (jX s.op))),(8,.p (.bool (decide (s.op=5)))),(19,.p (.bool (!jX s.op&&decide (0<s.body.length))))]) ([.row 5 [[.p (.int .i64 s.op),.p (.str s.name),.p (exL s.args),.p (smL s.body),.p (smL s.els)]]]) ?_ ?_
   ·cases hn:jX s.op with
    |true=>
     simp-implicitDefEqProofs[hsl]
     exact am (by simp) (by simp[okO,below]) (by simp[below])
    |false=>
     simp-implicitDefEqProofs[hsl]
     exact am (by simp) (by simp[okO,below]) (by simp[below])
   by_cases h4:(!jX s.op&&decide (0<s.body.length))=true
   ·rw[hbad (by simp only[jY,hbo];cases h:jX s.op<;>cases h':decide (0<s.body.length)<;>simp[h,h'] at h4⊢)]
    simp-implicitDefEqProofs[h4]
   have h4':(!jX s.op&&decide (0<s.body.length))=false:=by simpa using h4
   rw[h4']
   simp-implicitDefEqProofs[]
   refine oX (az 91 [(1,.p (.int .i64 (4-d))),(2,.ptr 0 5 0 0),(6,.p (.bool (cR s.op))),(7,.p (.bool (jX s.op))),(8,.p (.bool (decide (s.op=5)))),(19,.p (.bool (!decide (s.op=5)&&decide (0<s.els.length))))]) ([.row 5 [[.p (.int .i64 s.op),.p (.str s.name),.p (exL s.args),.p (smL s.body),.p (smL s.els)]]]) ?_ ?_
   ·cases hn:decide (s.op=5) with
    |true=>
     simp-implicitDefEqProofs[hsl]
     exact am (by simp) (by simp[okO,below]) (by simp[below])
    |false=>
     simp-implicitDefEqProofs[hsl]
     exact am (by simp) (by simp[okO,below]) (by simp[below])
   by_cases h5:(!decide (s.op=5)&&decide (0<s.els.length))=true
   ·rw[hbad (by simp only[jY,hel];cases h:decide (s.op=5)<;>cases h':decide (0<s.els.length)<;>simp[h,h'] at h5⊢)]
    simp-implicitDefEqProofs[h5]
   have h5':(!decide (s.op=5)&&decide (0<s.els.length))=false:=by simpa using h5
   rw[h5']
   have hh1:jY s=(!decide (s.op=8)||Hf s.args):=by
    simp only[jY,hl,decide_true,Bool.true_and,hel,hbo]
    cases h:cR s.op<;>cases hi:aP s.name<;>cases hm:decide (s.name=[])<;>cases hb:jX s.op<;>cases hc:decide (0<s.body.length)<;>cases ho:decide (s.op=5)<;>cases he:decide (0<s.els.length)<;>simp[h,hi,hm,hb,hc,ho,he] at h2' h3' h4' h5'⊢
   by_cases o8:s.op=8
   ·have ha1:s.args.length=1:=by
     have:rD s.op=1:=by rw[o8];rfl
     omega
    obtain⟨a0,ha0⟩:∃a0,s.args=[a0]:=by
     match hh:s.args,ha1 with
     |[x],_=>exact⟨x,rfl⟩
    have hae:=a0.cs_eq
    rw[hh1,o8,ha0]
    rw[o8,ha0] at fin
    have hxa:exL [a0]= .lst 4 [a0.cs]:=rfl
    by_cases hc:a0.op=13
    ·have h13:Hf [a0]=true:=by simp[Hf,hc]
     simp-implicitDefEqProofs[o8,hae,hc,h13,hxa]
     rw[hxa,hae,hc] at fin
     exact fin _ (by simp) (by simp)
    ·rw[hbad (by rw[hh1,o8,ha0];simp[Hf,hc])]
     simp-implicitDefEqProofs[o8,hae,hc,hxa]
   ·have hh2:jY s=true:=by rw[hh1];simp[o8]
    simp-implicitDefEqProofs[o8,hh2]
    exact fin _ (by simp) (by simp)
  intro _ h1
  have hh:aJ (d+1) s=(s.args.all lV&&(s.body.all (aJ d)&&s.els.all (aJ d))):=by rw[aJ,Fw,h1,Bool.true_and,Bool.and_assoc]
  simp-implicitDefEqProofs[hxl]
  refine aN (λi:Nat=>az 91 [(1,.p (.int .i64 (4-d))),(2,.ptr 0 5 0 0),(69,.p (exL s.args)),(70,.p (.int .i64 s.args.length)),(71,.p (.int .i64 i))]) (λ_=>[.row 5 [[.p (.int .i64 s.op),.p (.str s.name),.p (exL s.args),.p (smL s.body),.p (smL s.els)]]]) (λi=>i<=s.args.length/\(s.args.take i).all lV=true) (λi=>s.args.length-i) 0 (by simp) ?_ ?_
  ·exact am (by simp) (by simp[okO,below]) (by simp[below,hxl])
  rintro i ⟨hi,ha⟩
  simp-implicitDefEqProofs[hxl]
  refine aO (λh=>?_) (λh=>?_)
  ·simp at h
   have hg:=Wa h
   have hks:=cJ (Wo h)
   have hkc:=s.args[i].cs_eq
   have hx:=FH G hK hS s.args[i] (by omega)
   rw[hkc] at hx
   simp-implicitDefEqProofs[hg,hkc]
   refine hx.use ?_
   by_cases ho:lV s.args[i]=true
   ·simp-implicitDefEqProofs[ho]
    refine⟨i+1,⟨h,by rw[←Wj,eb h,ha,ho];rfl⟩,by omega,?_⟩
    refine di (m:=1) (by omega) (bP rfl rfl (by simp[okO,below])) (by simp[below,hxl,w1 (i:=i) (by omega)])
   ·have ho':lV s.args[i]=false:=by simpa using ho
    rw[hh,nU h ho']
    simp-implicitDefEqProofs[ho']
  ·simp at h
   have ha2:s.args.all lV=true:=iI h ha
   rw[hh,ha2,Bool.true_and]
   simp-implicitDefEqProofs[hnw]
   refine(hblk s.body (by omega)).use ?_
   cases hb:s.body.all (aJ d) with
   |true=>
    simp-implicitDefEqProofs[hnw]
    refine(hblk s.els (by omega)).use ?_
    simp-implicitDefEqProofs[]
   |false=>
    simp-implicitDefEqProofs[]
end
section
variable (G:aK)
structure Vis (σ:Type) where
 I:σ->List AO
 n:Nat
 F:FuncId
 caps:List AV
 len:∀st,(I st).length=n
 ok:∀st,∀o∈I st,okO n o
 capsOk:ay n caps
theorem Vis.pre{σ:Type}(V:Vis σ){f:FuncId}{args:List AV}{st st':σ}{v:AV}(H:AC Tryz.prog G f args (V.I st) λx h=>x= .ret v/\h=V.I st')(rest:List AO)(ha:ay V.n args):
 AC Tryz.prog G f args (V.I st++rest) λx h=>x= .ret v/\h=V.I st'++rest:=by
 refine(AC.pre H rest (by rw[V.len];exact ha) (by rw[V.len];exact V.ok st) ?_).mono ?_
 ·rintro x h ⟨_,rfl⟩;rw[V.len,V.len]
 ·rintro x h ⟨h1,⟨rfl,rfl⟩,rfl⟩
  exact⟨rfl,rfl⟩
theorem Vis.trim{σ:Type}(V:Vis σ){f:FuncId}{args:List AV}{st st':σ}{v:AV}(H:AC Tryz.prog G f args (V.I st) λx h=>x= .ret v/\∃l,h=V.I st'++l)(hv:below V.n v):
 AC Tryz.prog G f args (V.I st) λx h=>x= .ret v/\h=V.I st':=by
 refine H.wk (λt v h ⟨e,_⟩=>by cases e) ?_
 rintro u h ⟨e,l,rfl⟩
 cases e
 refine⟨v,V.I st',AY (n:=V.n) (by rw[V.len];exact Wn _) (bP (by rw[←V.len st',List.take_left'];rfl) (V.len _) (V.ok _)) ?_,rfl,rfl⟩
 simp[Fgt,hv]
theorem tT{n m:Nat}(h:n<=m){o:AO}(ho:okO n o):okO m o:=by
 cases o with
 |dead=>trivial
 |sit=>trivial
 |row sz es=>exact λe he=>aT h _ (ho e he)
 |mp es=>exact λe he=>(aT h [e.2] ⟨ho e he,trivial⟩).1
theorem Vis.oks{σ:Type}(V:Vis σ)(st:σ){m:Nat}(hm:V.n<=m){r:List AO}(hr:∀o∈r,okO m o):∀o∈V.I st++r,okO m o:=by
 intro o ho
 rcases Wf.1 ho with h|h
 ·exact tT hm (V.ok st o h)
 ·exact hr o h
theorem Vis.same{σ:Type}(V:Vis σ)(st:σ){k n:Nat}(hk:k<=V.n){r s:List AO}{l l1:List (Nat × AV)}(hr:∀o∈r,okO (V.n+r.length) o)(H:FgA (V.n+r.length) l l1):Wk k (az n l) (V.I st++(r++s)) (az n l1) (V.I st++r):=by
 have hl:(V.I st++r).length=V.n+r.length:=by rw[Wq,V.len]
 refine di (m:=V.n+r.length) (by omega) (bP ?_ hl (V.oks st (by omega) hr)) H
 rw[←WL,←hl,List.take_left'];rfl
theorem Vis.same0{σ:Type}(V:Vis σ)(st:σ){k n:Nat}(hk:k<=V.n){s:List AO}{l l1:List (Nat × AV)}(H:FgA V.n l l1):Wk k (az n l) (V.I st++s) (az n l1) (V.I st):=by
 refine di (m:=V.n) (by omega) (bP ?_ (V.len _) (V.ok st)) H
 rw[←V.len st,List.take_left'];rfl
theorem PY{α:Type}{a b:List α}{n:Nat}(h:a.length=n)(i:Nat):(a++b)[n+i]?=b[i]?:=by
 rw[←h,We (by omega)];congr 1;omega
theorem Pt{σ:Type}(V:Vis σ)(step:σ->Ex->σ)(inv:σ->Prop)(B:Nat)(hB:B<=1073741824)
 (hv:∀st e,inv st->e.sz<=B->inv (step st e)/\AC Tryz.prog G V.F (.agg (e.cs.map .p)::V.caps) (V.I st) λx h=>x= .ret (.tup [])/\h=V.I (step st e)):
 ∀(N:Nat) (e:Ex),e.sz<N->e.sz<=B->∀st,inv st->inv (e.pre.foldl step st)/\AC Tryz.prog G kF [.agg (e.cs.map .p),.fn (.func V.F) V.caps] (V.I st) λx h=>x= .ret (.tup [])/\h=V.I (e.pre.foldl step st):=by
 intro N
 induction N with
 |zero=>intro e h;omega
 |succ N ih=>
  intro e he hz st hi
  have hec:=e.cs_eq
  have hsz:=e.sz_eq
  have hkl:=bK e.kids
  have hxl:exL e.kids= .lst 4 (e.kids.map Ex.cs):=rfl
  have hlen:=V.len
  obtain⟨i1,h1⟩:=hv st e hi hz
  have hinv:∀i,i<=e.kids.length->inv ((cI (e.kids.take i)).foldl step (step st e)):=by
   intro i
   induction i with
   |zero=>intro _;exact i1
   |succ i ihi=>
    intro hl
    have hg:i<e.kids.length:=by omega
    have hks:=cJ (Wo hg)
    rw[aw hg,tY,List.foldl_append,cI,cI,Wu]
    exact(ih e.kids[i] (by omega) (by omega) _ (ihi (by omega))).1
  refine⟨?_,?_⟩
  ·rw[Ex.pre_eq,List.foldl_cons]
   have:=hinv e.kids.length (Wn _)
   rwa[WA] at this
  refine V.trim G (AC.go EA ?_) (by simp[below])
  have hcb:=V.capsOk
  have hcb1:ay (V.n+1) V.caps:=aT (by omega) _ hcb
  rw[hec] at h1
  simp-implicitDefEqProofs[ud,hec,hlen]
  refine(V.pre G h1 _ ⟨by simp[below],hcb⟩).mono ?_
  rintro r h ⟨rfl,rfl⟩
  simp-implicitDefEqProofs[aa,hlen,hxl]
  refine aN (λi:Nat=>az 20 [(1,.fn (.func V.F) V.caps),(2,.ptr V.n 4 0 0),(10,.p (exL e.kids)),(11,.p (.int .i64 e.kids.length)),(12,.p (.int .i64 i))])
   (λi=>V.I ((cI (e.kids.take i)).foldl step (step st e))++[.row 4 [[.p (.int .i64 e.op),.p (.int .i64 e.n),.p (.str e.name),.p (exL e.kids)]]]) (λi=>i<=e.kids.length) (λi=>e.kids.length-i) 0 (by simp) ?_ ?_
  ·refine V.same (r:=[_]) (s:=[]) _ (Wn _) (by simp[okO,below]) ?_
   simp[below,hxl,hcb1]
  intro i hil
  simp-implicitDefEqProofs[hxl]
  refine aO (λhc=>?_) (λhc=>?_)
  ·simp at hc
   have hg:=Wa hc
   have hks:=cJ (Wo hc)
   have hkc:=e.kids[i].cs_eq
   have hI:=(ih e.kids[i] (by omega) (by omega) _ (hinv i hil)).2
   rw[hkc] at hI
   simp-implicitDefEqProofs[hg,hkc,hlen]
   refine(V.pre G hI _ ⟨by simp[below],by simp[below,hcb],trivial⟩).mono ?_
   rintro r h ⟨rfl,rfl⟩
   simp-implicitDefEqProofs[aa]
   refine⟨i+1,hc,by omega,?_⟩
   have hf:(cI (e.kids.take (i+1))).foldl step (step st e)=e.kids[i].pre.foldl step ((cI (e.kids.take i)).foldl step (step st e)):=by
    rw[aw hc,tY,List.foldl_append,cI,cI,Wu]
   rw[hf]
   refine V.same (r:=[_]) (s:=[_]) _ (Wn _) (by simp[okO,below]) ?_
   simp[below,hxl,hcb1,w1 (i:=i) (by omega)]
  ·simp at hc
   have hie:i=e.kids.length:=by omega
   subst hie
   rw[WA,Ex.pre_eq,List.foldl_cons]
   simp-implicitDefEqProofs[]
theorem Iv{σ:Type}(V:Vis σ)(step:σ->Sm × Nat->σ)(inv:σ->Prop)(B:Nat)(hB:B<=1073741824)
 (hv:∀st s d,inv st->s.sz<=B->inv (step st (s,d))/\AC Tryz.prog G V.F (.agg (s.cs.map .p):: .p (.int .i64 (d:Nat))::V.caps) (V.I st) λx h=>x= .ret (.tup [])/\h=V.I (step st (s,d))):
 ∀(N:Nat) (l:List Sm),aD l<N->aD l<=B->∀(d:Nat),d+aD l<=1099511627776->∀st,inv st->inv ((bN d l).foldl step st)/\AC Tryz.prog G fe [.p (smL l),.p (.int .i64 d),.fn (.func V.F) V.caps] (V.I st) λx h=>x= .ret (.tup [])/\h=V.I ((bN d l).foldl step st):=by
 intro N
 induction N with
 |zero=>intro l h;omega
 |succ N ih=>
  intro l hl hz d hd st hi
  have hll:=bM l
  have hlen:=V.len
  have hsl:∀l,smL l= .lst 5 (l.map Sm.cs):=λ_=>rfl
  have hone:∀s:Sm,s∈l->∀st,inv st->inv ((s.pre d).foldl step st):=by
   intro s hs st hi
   have hm:=fV hs
   have hsz:=s.sz_eq
   have i1:=(hv st s d hi (by omega)).1
   have i2:=(ih s.body (by omega) (by omega) (d+1) (by omega) _ i1).1
   have i3:=(ih s.els (by omega) (by omega) (d+1) (by omega) _ i2).1
   rw[Sm.pre_eq,List.foldl_cons,List.foldl_append]
   exact i3
  have hinv:∀i,i<=l.length->inv ((bN d (l.take i)).foldl step st):=by
   intro i
   induction i with
   |zero=>intro _;exact hi
   |succ i ihi=>
    intro hl
    have hg:i<l.length:=by omega
    rw[aw hg,sR,List.foldl_append,bN,bN,Wu]
    exact hone _ (Wo hg) _ (ihi (by omega))
  refine⟨?_,?_⟩
  ·have:=hinv l.length (Wn _)
   rwa[WA] at this
  refine V.trim G (AC.go DW ?_) (by simp[below])
  have hcb:=V.capsOk
  simp-implicitDefEqProofs[tt,hsl]
  refine aN (λi:Nat=>az 31 [(1,.p (.int .i64 d)),(2,.fn (.func V.F) V.caps),(8,.p (smL l)),(9,.p (.int .i64 l.length)),(10,.p (.int .i64 i))])
   (λi=>V.I ((bN d (l.take i)).foldl step st)) (λi=>i<=l.length) (λi=>l.length-i) 0 (by simp) ?_ ?_
  ·rw[hlen]
   have:=V.same0 (s:=[]) st (k:=V.n) (n:=31) (Wn _) (l:=[(10,.p (.int .i64 0)),(9,.p (.int .i64 l.length)),(8,.p (smL l)),(0,.p (smL l)),(1,.p (.int .i64 d)),(2,.fn (.func V.F) V.caps)]) (l1:=[(1,.p (.int .i64 d)),(2,.fn (.func V.F) V.caps),(8,.p (smL l)),(9,.p (.int .i64 l.length)),(10,.p (.int .i64 0))]) (by simp[below,hcb])
   rw[Wu] at this
   exact this
  intro i hil
  simp-implicitDefEqProofs[hsl]
  refine aO (λhc=>?_) (λhc=>?_)
  ·simp at hc
   have hg:=Wa hc
   have hks:=fV (Wo hc)
   have hkc:=l[i].cs_eq
   have hsz:=l[i].sz_eq
   have hf:(bN d (l.take (i+1))).foldl step st=(l[i].pre d).foldl step ((bN d (l.take i)).foldl step st):=by
    rw[aw hc,sR,List.foldl_append,bN,bN,Wu]
   have ii:=hinv i hil
   obtain⟨i1,h1⟩:=hv _ l[i] d ii (by omega)
   obtain⟨i2,h2⟩:=ih l[i].body (by omega) (by omega) (d+1) (by omega) _ i1
   obtain⟨i3,h3⟩:=ih l[i].els (by omega) (by omega) (d+1) (by omega) _ i2
   rw[Sm.pre_eq,List.foldl_cons,List.foldl_append] at hf
   have hwd:IntKind.i64.wrap ((d:Int)+1)=((d+1:Nat):Int):=by rw[ab (by omega) (by omega)];omega
   rw[hkc] at h1
   simp-implicitDefEqProofs[hg,hkc,hlen]
   refine(V.pre G h1 _ ⟨by simp,by simp,hcb⟩).mono ?_
   rintro r h ⟨rfl,rfl⟩
   simp-implicitDefEqProofs[aa,hlen,hwd]
   refine(V.pre G h2 _ ⟨by simp,by simp,by simp[below,hcb],trivial⟩).mono ?_
   rintro r h ⟨rfl,rfl⟩
   simp-implicitDefEqProofs[aa,hlen,hwd]
   refine(V.pre G h3 _ ⟨by simp,by simp,by simp[below,hcb],trivial⟩).mono ?_
   rintro r h ⟨rfl,rfl⟩
   simp-implicitDefEqProofs[aa]
   refine⟨i+1,hc,by omega,?_⟩
   rw[hf]
   refine V.same0 (s:=[_]) _ (Wn _) ?_
   simp[below,hsl,hcb,w1 (i:=i) (by omega)]
  ·simp at hc
   have hie:i=l.length:=by omega
   subst hie
   rw[WA]
   simp-implicitDefEqProofs[]
end
section
variable (G:aK)
abbrev MS:=Int × Int
def sr(st:MS)(x:Sm × Nat):MS:=(IntKind.i64.wrap (st.1+1),if st.2<(x.2:Int) then(x.2:Int) else st.2)
def sb(l:List Fd)(st:MS):MS:=l.foldl (λst f=>(bN 1 f.body).foldl sr st) st
theorem BI:∀(l:List (Sm × Nat)) (st:MS),0<=st.1->st.1+l.length<=1099511627776->(l.foldl sr st).1=st.1+l.length
 |[],st,_,_=>by simp
 |x::r,st,h0,h=>by
  have hw:IntKind.i64.wrap (st.1+1)=st.1+1:=ab (by omega) (by simp at h;omega)
  rw[List.foldl_cons,BI r _ (by simp only[sr,hw];omega) (by simp only[sr,hw];simp at h;omega)]
  simp only[sr,hw,Wr]
  omega
theorem An:∀(l:List Fd) (st:MS),0<=st.1->st.1+iD l<=1099511627776->(sb l st).1=st.1+iD l
 |[],st,_,_=>by simp[sb,iD]
 |f::r,st,h0,h=>by
  have ha:iD (f::r)=dI f.body+iD r:=by simp[iD]
  have hs:=BI (bN 1 f.body) st h0 (by rw[lw];omega)
  rw[lw] at hs
  have:=An r ((bN 1 f.body).foldl sr st) (by omega) (by omega)
  simp only[sb,List.foldl_cons] at this⊢
  omega
theorem GQ{l:List Fd}{st:MS}{i:Nat}(h:i<l.length):sb (l.take (i+1)) st=(bN 1 l[i].body).foldl sr (sb (l.take i) st):=by
 rw[sb,aw h,List.foldl_append];rfl
def oV(p:PV):Vis MS where
 I:=λst=>[.row 1 [[.p p]],.row 1 [[.p (.int .i64 st.1)]],.row 1 [[.p (.int .i64 st.2)]]]
 n:=3
 F:=eY
 caps:=[.ptr 1 1 0 0,.ptr 2 1 0 0]
 len:=λ_=>rfl
 ok:=λst=>by simp[okO,below]
 capsOk:=by simp[below]
theorem EQ(p:PV)(st:MS)(s:Sm)(d:Nat):AC Tryz.prog G eY [.agg (s.cs.map .p),.p (.int .i64 d),.ptr 1 1 0 0,.ptr 2 1 0 0] ((oV p).I st) λx h=>x= .ret (.tup [])/\h=(oV p).I (sr st (s,d)):=by
 refine(oV p).trim G (AC.go uz ?_) (by simp[below])
 have hse:=s.cs_eq
 simp-implicitDefEqProofs[nJ,hse,oV,sr]
theorem KG(l:List Fd)(hl:aW l<=1073741824):VF Tryz.prog G kW [.agg [.p (fdL l)]] (.tup [.p (.int .i64 (iD l)),.p (.int .i64 (sb l (0,0)).2)]):=by
 refine AC.go AT ?_
 have hll:=iz l
 have hfl:∀l,fdL l= .lst 3 (l.map Fd.cs):=λ_=>rfl
 have hn:(sb l (0,0)).1=iD l:=by rw[An l (0,0) (by simp) (by simp only;have:=Eb l;omega)];simp
 simp-implicitDefEqProofs[pz,hfl]
 refine aN (λi:Nat=>az 20 [(2,.ptr 1 1 0 0),(3,.ptr 2 1 0 0),(7,.p (fdL l)),(8,.p (.int .i64 l.length)),(9,.p (.int .i64 i))])
  (λi=>(oV (fdL l)).I (sb (l.take i) (0,0))) (λi=>i<=l.length) (λi=>l.length-i) 0 (by simp) ?_ ?_
 ·exact am (h:=(oV (fdL l)).I (0,0)) (by simp) ((oV (fdL l)).ok _) (by simp[below,hfl,oV])
 intro i hil
 simp-implicitDefEqProofs[hfl]
 refine aO (λhc=>?_) (λhc=>?_)
 ·simp at hc
  have hg:=Wa hc
  have hks:=gf (Wo hc)
  have hcs:l[i].cs=[.str l[i].name,aL l[i].params,smL l[i].body]:=rfl
  have hfz:l[i].sz=1+l[i].name.length+(l[i].params.length+(l[i].params.map List.length).sum)+aD l[i].body:=rfl
  have hI:=(Iv G (oV (fdL l)) sr (λ_=>True) 1073741824 (by omega) (λst s d _ _=>⟨trivial,EQ G _ st s d⟩) (aD l[i].body+1) l[i].body (by omega) (by omega) 1 (by omega) (sb (l.take i) (0,0)) trivial).2
  have hlen:=(oV (fdL l)).len
  have h3:(oV (.lst 3 (l.map Fd.cs))).n=3:=rfl
  have hlen':∀st,((oV (.lst 3 (l.map Fd.cs))).I st).length=3:=λ_=>rfl
  simp-implicitDefEqProofs[hg,hcs,hlen']
  refine((oV (fdL l)).pre G hI [_] ⟨by simp,by simp,by simp[below,oV],trivial⟩).mono ?_
  rintro r h ⟨rfl,rfl⟩
  simp-implicitDefEqProofs[aa]
  refine⟨i+1,hc,by omega,?_⟩
  rw[GQ hc]
  refine(oV (fdL l)).same0 (s:=[_]) _ (by simp[oV]) ?_
  simp[below,hfl,oV,w1 (i:=i) (by omega)]
 ·simp at hc
  have hie:i=l.length:=by omega
  subst hie
  rw[WA]
  simp-implicitDefEqProofs[oV,hn]
theorem uY(hK:G jl=some gY)(s:List UInt8)(hb:s.length<=140737488355328):VF Tryz.prog G bz [.p (.str s)] (.p (.bool (!aP s))):=by
 refine AC.go oO ?_
 simp-implicitDefEqProofs[iN]
 refine(pq G hK s hb).use ?_
 simp-implicitDefEqProofs[]
def GY(L:List (List UInt8)):Int:=match L.findIdx? (λw=> !aP w) with|some i=>i|none=> -1
theorem Mn(L:List (List UInt8)):decide (0<=GY L)= !(L.all aP):=by
 unfold GY
 cases h:L.findIdx? (λx=> !aP x) with
 |none=>
  rw[WJ] at h
  have:L.all aP=true:=Wj.2 λx hx=>by have:=h x hx;simpa using this
  simp[this]
 |some i=>
  rw[Ww] at h
  obtain⟨h1,h2,_⟩:=h
  have:L.all aP=false:=List.all_eq_false.2 ⟨_,Wo h1,by simpa using h2⟩
  rw[this];simp
theorem Nh{L:List (List UInt8)}{n:Nat}(h:(L.map List.length).sum<=n):∀x∈L,x.length<=n:=by
 induction L with
 |nil=>intro x hx;cases hx
 |cons y r ih=>
  intro x hx
  simp only[Wz,List.sum_cons] at h
  rcases Wd.1 hx with rfl|hx
  ·omega
  ·exact ih (by omega) x hx
variable (hK:G jl=some gY)
include hK
theorem Ih(L:List (List UInt8))(hb:L.length<=1073741824)(hw:∀x∈L,x.length<=140737488355328):VF Tryz.prog G cX [.p (aL L),.fn (.func bz) []] (.p (.int .i64 (GY L))):=by
 refine AC.go lR ?_
 have hsl:aL L= .lst 1 (L.map λw=>[.str w]):=rfl
 simp-implicitDefEqProofs[ft,hsl]
 refine aN (λi:Nat=>az 19 [(0,.p (aL L)),(1,.fn (.func bz) []),(6,.p (aL L)),(7,.p (.int .i64 L.length)),(8,.p (.int .i64 i))]) (λ_=>[]) (λi=>i<=L.length/\∀w∈L.take i,aP w=true) (λi=>L.length-i) 0 (by simp) ?_ ?_
 ·exact am (by simp) (by simp[okO]) (by simp[below,ay,aL])
 ·intro i ⟨hi,hn⟩
  simp-implicitDefEqProofs[hsl]
  refine aO (λh1=>?_) (λh1=>?_)
  ·simp at h1
   have hg:=Wa h1
   simp-implicitDefEqProofs[hg]
   refine(uY G hK _ (hw _ (Wo h1))).use ?_
   by_cases he:aP L[i]=true
   ·simp-implicitDefEqProofs[he]
    refine⟨i+1,⟨h1,λp hp=>?_⟩,by omega,am (by simp) (by simp[okO]) ?_⟩
    ·rw[aw h1] at hp
     rcases Wf.1 hp with hp|hp
     ·exact hn p hp
     ·rw[Wh.1 hp];exact he
    ·simp[below,ay,aL,w1 (i:=i) (by omega)]
   ·have hf:GY L=i:=by
     have:L.findIdx? (λw=> !aP w)=some i:=by
      rw[Ww]
      exact⟨h1,by simpa using he,λj hj=>by have:=hn L[j] (List.mem_take_iff_getElem.2 ⟨j,by omega,rfl⟩);simpa using this⟩
     rw[GY,this]
    simp-implicitDefEqProofs[he,hf]
  ·simp at h1
   rw[Wg h1] at hn
   have hf:GY L= -1:=by
    have:L.findIdx? (λw=> !aP w)=none:=by
     rw[WJ];intro x hx;simpa using hn x hx
    rw[GY,this]
   simp-implicitDefEqProofs[hf]
theorem CL(L:List (List UInt8))(hb:L.length<=1073741824)(hw:∀x∈L,x.length<=140737488355328):VF Tryz.prog G ck [.p (aL L),.fn (.func bz) []] (.p (.bool (!L.all aP))):=by
 rw[←Mn]
 refine AC.go ki ?_
 simp-implicitDefEqProofs[dZ]
 refine(Ih G hK L hb hw).use ?_
 simp-implicitDefEqProofs[]
variable (hS:G dU=some [.tbl opK opV])
include hS
theorem BU(l:List Fd)(hl:aW l<=1073741824):VF Tryz.prog G fL [.agg [.p (fdL l)]] (.p (.bool (bn l))):=by
 refine AC.go rL ?_
 have hll:=iz l
 have hfl:∀l,fdL l= .lst 3 (l.map Fd.cs):=λ_=>rfl
 have hm:=KG G l hl
 rw[hfl] at hm
 simp-implicitDefEqProofs[kr,hfl]
 refine(cM G _ _ _).use ?_
 by_cases h1:inR l.length 1 4=true
 case neg=>simp-implicitDefEqProofs[h1,bn]
 simp-implicitDefEqProofs[h1]
 refine aN (λi:Nat=>az 48 [(1,.ptr 0 1 0 0),(13,.p (fdL l)),(14,.p (.int .i64 l.length)),(15,.p (.int .i64 i))]) (λ_=>[.row 1 [[.p (.lst 3 (l.map Fd.cs))]]]) (λi=>i<=l.length/\(l.take i).all jP=true) (λi=>l.length-i) 0 (by simp) (am (by simp) (by simp[okO]) (by simp[below,hfl])) ?_
 intro i ⟨hi,ha⟩
 simp-implicitDefEqProofs[hfl]
 refine aO (λh=>?_) (λh=>?_)
 ·simp at h
  have hg:=Wa h
  have hks:=gf (Wo h)
  have hbadF:jP l[i]=false->bn l=false:=λhk'=>by simp only[bn,nU h hk',Bool.and_false,Bool.false_and]
  have hcs:l[i].cs=[.str l[i].name,aL l[i].params,smL l[i].body]:=rfl
  have hfz:l[i].sz=1+l[i].name.length+(l[i].params.length+(l[i].params.map List.length).sum)+aD l[i].body:=rfl
  have hokF:jP l[i]=(l[i].params.all aP&&aP l[i].name&&decide (l[i].params.length<=3)&&l[i].body.all (aJ 4)):=rfl
  have hblk:=vL G 4 1 (λs hs=>by simpa using Me G hK hS 4 (by omega) s hs) l[i].body (by omega)
  have hcon:=CL G hK l[i].params (by omega) (Nh (by omega))
  have hst:aL l[i].params= .lst 1 (l[i].params.map λw=>[.str w]):=rfl
  generalize l[i]=f at*
  rw[hst] at hcon
  simp-implicitDefEqProofs[hg,hcs,hst]
  refine(pq G hK _ (by omega)).use ?_
  by_cases k1:aP f.name=true
  case neg=>
   rw[hbadF (by rw[hokF];simp[k1])]
   simp-implicitDefEqProofs[k1]
  by_cases k2:f.params.length<=3
  case neg=>
   have k2':(3:Int)<f.params.length:=by omega
   rw[hbadF (by rw[hokF];simp[k2])]
   simp-implicitDefEqProofs[k1,k2']
  have k2':¬(3:Int)<f.params.length:=by omega
  simp-implicitDefEqProofs[k1,k2']
  refine hcon.use ?_
  by_cases k3:f.params.all aP=true
  case neg=>
   have k3':f.params.all aP=false:=by simpa using k3
   rw[hbadF (by rw[hokF,k3'];simp)]
   simp-implicitDefEqProofs[k3']
  simp only[k3]
  simp-implicitDefEqProofs[]
  refine hblk.use ?_
  by_cases k4:f.body.all (aJ 4)=true
  case neg=>
   have k4':f.body.all (aJ 4)=false:=by simpa using k4
   rw[hbadF (by rw[hokF,k4'];simp)]
   simp only[k4']
   simp-implicitDefEqProofs[]
  simp only[k4]
  simp-implicitDefEqProofs[]
  have hk:jP f=true:=by rw[hokF,k1,k3,k4];simp[k2]
  refine⟨i+1,⟨h,by rw[←Wj,rc hg,ha,hk];rfl⟩,by omega,di (m:=1) (by omega) (bP rfl rfl (by simp[okO,below])) (by simp[below,hfl,w1 (i:=i) (by omega)])⟩
 ·simp at h
  have h2:l.all jP=true:=iI h ha
  simp-implicitDefEqProofs[]
  refine hm.use ?_
  have hff:bn l=decide (iD l<=40):=by simp only[bn,h1,h2,Bool.true_and]
  simp-implicitDefEqProofs[hff]
  omega
end
section
def ixI:Option Nat->Int|none=> -1|some i=>i
def vaC(nf:Bool)(id n:Nat):AV:=if nf then .nils else .sl id 3 0 n
def lvC(v:LV):List AV:=[.p (.str v.name),.p (.int .i64 v.num),.p (.int .i64 v.block)]
def lvR(vs:List LV):List (List AV):=vs.reverse.map lvC
def roC(nf:Bool)(vs:List LV):AO:=if nf then .dead else .row 3 (lvR vs)
def wC(id:Nat)(nf:Bool)(fns:List Fd)(k:Nat)(w:WS):List AV:=[.p (fdL fns),.p (.int .i64 k),vaC nf id w.vs.length,.p (.int .i64 w.count),.p (.int .i64 w.code)]
def wO(id:Nat)(nf:Bool)(fns:List Fd)(k:Nat)(w:WS):AO:= .row 5 [wC id nf fns k w]
def HWk(nf:Bool)(fns:List Fd)(k:Nat)(w:WS):List AO:=[wO 1 nf fns k w,roC nf w.vs]
theorem zK(vs:List LV):(lvR vs).length=vs.length:=by simp[lvR]
theorem Gb(vs:List LV):∀x∈lvR vs,ay 0 x:=by
 intro x hx;obtain⟨m,_,rfl⟩:=WC.1 hx;simp[lvC,ay,below]
theorem gL(nf:Bool)(vs:List LV)(n:Nat):okO n (roC nf vs):=by
 cases nf
 ·exact ew (λe he=>Gb vs e he)
 ·exact trivial
theorem Kh{nf:Bool}{id n m:Nat}(h:id<m):below m (vaC nf id n):=by cases nf<;>simp[vaC,below,h]
theorem AN{id:Nat}{nf:Bool}{fns:List Fd}{k:Nat}{w:WS}{m:Nat}(h:id<m):ay m (wC id nf fns k w):=⟨by simp,by simp,Kh h,by simp,by simp,trivial⟩
theorem vU{id:Nat}{nf:Bool}{fns:List Fd}{k:Nat}{w:WS}{m:Nat}(h:id<m):okO m (wO id nf fns k w):=by
 intro e he;rw[Wh.1 he];exact AN h
theorem PP(σ:List Nat)(nf:Bool)(id n:Nat):ren σ (vaC nf id n)=vaC nf (σ.getD id 0) n:=by cases nf<;>rfl
theorem DO(σ:List Nat)(id:Nat)(nf:Bool)(fns:List Fd)(k:Nat)(w:WS):bq σ (wC id nf fns k w)=wC (σ.getD id 0) nf fns k w:=by
 simp only[wC,bq,PP];rfl
theorem IL(σ:List Nat)(id:Nat)(nf:Bool)(fns:List Fd)(k:Nat)(w:WS):ij σ (wO id nf fns k w)=wO (σ.getD id 0) nf fns k w:=by
 simp only[wO,ij,Wz,WY,DO]
theorem Gf(σ:List Nat)(nf:Bool)(vs:List LV):ij σ (roC nf vs)=roC nf vs:=by
 cases nf
 ·show AO.row 3 ((lvR vs).map (bq σ))= .row 3 (lvR vs)
  rw[WB (g:=id) λx hx=>ep σ x (Gb vs x hx)];simp
 ·rfl
theorem HV(pre:List LV)(v:LV)(r:List LV):(lvR (pre++v::r))[r.length]?=some (lvC v):=by
 simp[lvR]
theorem MT(v:LV)(r:List LV):lvR (v::r)=lvR r++[lvC v]:=by simp[lvR]
def uP:List LV->List UInt8->Int
 |[],_=> -1
 |v::r,s=>if v.name=s then r.length else uP r s
theorem vh:∀(vs:List LV) (s:List UInt8),(lkV vs s=none/\uP vs s= -1)\/∃pre v r,vs=pre++v::r/\lkV vs s=some v/\uP vs s=r.length
 |[],s=> .inl ⟨rfl,rfl⟩
 |v::r,s=>by
  by_cases h:v.name=s
  ·exact .inr ⟨[],v,r,rfl,by simp[lkV,h],by simp[uP,h]⟩
  ·have h1:lkV (v::r) s=lkV r s:=by simp[lkV,h]
   have h2:uP (v::r) s=uP r s:=by simp[uP,h]
   rw[h1,h2]
   rcases vh r s with h|⟨pre,u,q,e,h⟩
   ·exact .inl h
   ·exact .inr ⟨v::pre,u,q,by rw[e];rfl,h⟩
theorem tq:AK.whole ie=FK.ak im:=rfl
variable (G:aK)
theorem GV(l:List Fd)(s:List UInt8)(hl:l.length<=1099511627776):VF Tryz.prog G jE [.agg [.p (fdL l)],.p (.str s)] (.p (.int .i64 (ixI (bU l s)))):=by
 refine AC.go EK ?_
 have hfl:∀l,fdL l= .lst 3 (l.map Fd.cs):=λ_=>rfl
 simp-implicitDefEqProofs[vW,hfl]
 refine aN (λi:Nat=>az 22 [(1,.p (.str s)),(2,.ptr 0 1 0 0),(5,.p (.int .i64 i))]) (λ_=>[.row 1 [[.p (.lst 3 (l.map Fd.cs))]]]) (λi=>i<=l.length/\∀f∈l.take i,f.name≠s) (λi=>l.length-i) 0 (by simp) (am (by simp) (by simp[okO]) (by simp[below])) ?_
 intro i ⟨hi,hn⟩
 simp-implicitDefEqProofs[]
 refine aO (λh=>?_) (λh=>?_)
 ·simp at h
  have hg:=Wa h
  have hce:l[i].cs=[.str l[i].name,aL l[i].params,smL l[i].body]:=rfl
  by_cases he:l[i].name=s
  ·have hf:bU l s=some i:=by
    rw[bU,Ww]
    exact⟨h,by simpa using he,λj hj=>by have:=hn l[j] (List.mem_take_iff_getElem.2 ⟨j,by omega,rfl⟩);simpa using this⟩
   simp-implicitDefEqProofs[hg,hce,he,hf,ixI]
  ·simp-implicitDefEqProofs[hg,hce,he]
   refine⟨i+1,⟨h,λp hp=>?_⟩,by omega,am (by simp) (by simp[okO]) (by simp[below,w1 (i:=i) (by omega)])⟩
   rw[aw h] at hp
   rcases Wf.1 hp with hp|hp
   ·exact hn p hp
   ·rw[Wh.1 hp];exact he
 ·simp at h
  rw[Wg h] at hn
  have hf:bU l s=none:=by
   rw[bU,WJ];intro x hx;simpa using hn x hx
  simp-implicitDefEqProofs[hf,ixI]
theorem QR:∀m:Nat,m<26->((([97,98,99,100,101,102,103,104,105,106,107,108,109,110,111,112,113,114,115,116,117,118,119,120,121,122]:List UInt8).take (m+1)).drop m)=[UInt8.ofNat (97+m)]:=by decide
theorem OW:∀m:Nat,m<26->List.drop m ((97:UInt8)::List.take m [98,99,100,101,102,103,104,105,106,107,108,109,110,111,112,113,114,115,116,117,118,119,120,121,122])=[97+UInt8.ofNat m]:=by decide
theorem Bm(n:Nat):VF Tryz.prog G js [.p (.int .i64 n)] (.p (.str (vnm n))):=by
 refine AC.go Cz ?_
 have hm:n%26<26:=Nat.mod_lt _ (by omega)
 have ht:(n:Int).tmod 26=((n%26:Nat):Int):=rfl
 have hw:IntKind.i64.wrap (((n%26:Nat):Int)+1)=((n%26+1:Nat):Int):=w1 (by omega)
 have habc:=QR _ hm
 rw[vnm]
 generalize n%26=m at hm ht hw habc
 have h0:(0:Int)<=(m:Int)+1:=by omega
 have h1:m+1<=26:=by omega
 simp-implicitDefEqProofs[rR,ht,hw,h0,h1]
 exact⟨by omega,OW m hm⟩
theorem rd(nf:Bool)(fns:List Fd)(k:Nat)(w:WS)(c:Int):AC Tryz.prog G bF [.ptr 0 5 0 0,.p (.int .i64 c)] (HWk nf fns k w) λx h=>x= .ret (.tup [])/\h=HWk nf fns k ⟨w.vs,w.count,fl w.code c⟩:=by
 refine AC.go sV ?_
 by_cases h0:w.code=0
 ·simp-implicitDefEqProofs[gz,HWk,wO,wC,h0,fl]
 ·simp-implicitDefEqProofs[gz,HWk,wO,wC,h0,fl]
theorem Ak(nf:Bool)(fns:List Fd)(k:Nat)(w:WS):∀o∈HWk nf fns k w,okO 2 o:=by
 intro o ho
 simp only[HWk,Wd,WV,or_false] at ho
 rcases ho with rfl|rfl
 ·exact vU (by omega)
 ·exact gL _ _ _
theorem IV(nf:Bool)(fns:List Fd)(k:Nat)(w:WS)(hn:nf=true->w.vs=[])(hl:w.vs.length<=1099511627776)(s:List UInt8):AC Tryz.prog G dS [.ptr 0 5 0 0,.p (.str s)] (HWk nf fns k w) λx h=>x= .ret (.p (.int .i64 (uP w.vs s)))/\h=HWk nf fns k w:=by
 refine AC.go sX ?_
 have hok:=Ak nf fns k w
 cases nf with
 |true=>
  have hv:=hn rfl
  rw[HWk] at hok⊢
  simp-implicitDefEqProofs[gM,wO,wC,vaC,hv]
  refine aN (λ_:Unit=>az 27 [(0,.ptr 0 5 0 0),(1,.p (.str s)),(5,.p (.int .i64 (-1)))]) (λ_=>[wO 1 true fns k w,roC true w.vs]) (λ_=>True) (λ_=>0) () trivial ?_ ?_
  ·have e:wO 1 true fns k w= .row 5 [[.p (fdL fns),.p (.int .i64 k),.nils,.p (.int .i64 w.count),.p (.int .i64 w.code)]]:=by simp[wO,wC,vaC]
   rw[←e,←hv]
   exact am (by simp) hok (by simp[below,ab (x:= -1) (by omega) (by omega)])
  ·intro _ _
   simp-implicitDefEqProofs[uP]
   simp[wO,wC,vaC,hv]
 |false=>
  rw[HWk] at hok⊢
  have e:∀r,roC false r= .row 3 (lvR r):=λ_=>rfl
  have hw0:IntKind.i64.wrap ((w.vs.length:Int)-1)=(w.vs.length:Int)-1:=ab (by omega) (by omega)
  simp-implicitDefEqProofs[gM,wO,wC,vaC,hw0]
  refine aN (λr:List LV=>az 27 [(0,.ptr 0 5 0 0),(1,.p (.str s)),(5,.p (.int .i64 ((r.length:Int)-1)))]) (λ_=>[wO 1 false fns k w,roC false w.vs]) (λr=>∃pre,w.vs=pre++r/\uP w.vs s=uP r s) (λr=>r.length) w.vs ⟨[],rfl,rfl⟩ ?_ ?_
  ·exact am (h:=[wO 1 false fns k w,roC false w.vs]) (by simp) hok (by simp[below])
  ·rintro r ⟨pre,e1,e2⟩
   cases r with
   |nil=>
    simp-implicitDefEqProofs[wO,wC,vaC]
    rw[e2];rfl
   |cons v r=>
    have hat:=HV pre v r
    rw[←e1] at hat
    have hlen:r.length<w.vs.length:=by rw[e1];simp;omega
    have hll:=zK w.vs
    have c1:((r.length+1:Nat):Int)-1=(r.length:Int):=by omega
    have hw1:IntKind.i64.wrap ((r.length:Int)-1)=(r.length:Int)-1:=ab (by omega) (by omega)
    by_cases hs:v.name=s
    ·simp-implicitDefEqProofs[wO,wC,vaC,e,c1,hat,hlen,lvC,hs]
     rw[e2];simp[uP,hs]
    ·simp-implicitDefEqProofs[wO,wC,vaC,e,c1,hat,hlen,lvC,hs]
     refine⟨r,⟨⟨pre++[v],by rw[e1];simp⟩,by rw[e2];simp[uP,hs]⟩,by simp,?_⟩
     refine am (h:=[wO 1 false fns k w,roC false w.vs]) (by simp) hok ?_
     simp[below,hw1]
theorem Nw(nf:Bool)(fns:List Fd)(k:Nat)(w:WS)(hn:nf=true->w.vs=[])(hl:w.vs.length<=1099511627776)(s:List UInt8):AC Tryz.prog G eG [.ptr 0 5 0 0,.p (.str s)] (HWk nf fns k w) λx h=>x= .ret (.p (.str (Bb w.vs s)))/\h=HWk nf fns k ⟨w.vs,w.count,zu w.vs s w.code⟩:=by
 refine AC.go tS ?_
 simp-implicitDefEqProofs[mo]
 refine(IV G nf fns k w hn hl s).mono ?_
 rintro r h ⟨rfl,rfl⟩
 rcases vh w.vs s with⟨e1,e2⟩|⟨pre,v,q,e0,e1,e2⟩
 ·simp-implicitDefEqProofs[aa,e2]
  refine(rd G nf fns k w 3).mono ?_
  rintro r h ⟨rfl,rfl⟩
  simp-implicitDefEqProofs[aa,Bb,zu,e1]
 ·have hat:=HV pre v q
  rw[←e0] at hat
  have hlen:q.length<w.vs.length:=by rw[e0];simp;omega
  have hnf:nf=false:=by
   cases nf with
   |false=>rfl
   |true=>rw[hn rfl] at e0;simp at e0
  subst hnf
  have e:∀r,roC false r= .row 3 (lvR r):=λ_=>rfl
  have hq:¬(q.length:Int)<0:=by omega
  simp-implicitDefEqProofs[aa,e2,hq,HWk,wO,wC,vaC,e,hat,hlen,lvC]
  refine(Bm G v.num).use ?_
  simp-implicitDefEqProofs[Bb,zu,e1]
theorem Oi(nf:Bool)(fns:List Fd)(k:Nat)(w:WS)(hn:nf=true->w.vs=[])(hl:w.vs.length<=1099511627776)(hc:w.count<=1099511627776)(s:List UInt8)(b:Nat):AC Tryz.prog G eA [.ptr 0 5 0 0,.p (.str s),.p (.int .i64 b)] (HWk nf fns k w) λx h=>x= .ret (.p (.str (vnm w.count)))/\h=[wO 2 false fns k (nF w s b),.dead,roC false (nF w s b).vs]:=by
 refine AC.goK tj tq ?_
 have hw1:IntKind.i64.wrap ((w.count:Int)+1)=(w.count:Int)+1:=ab (by omega) (by omega)
 have hw2:IntKind.i64.wrap ((w.count:Int)+1-1)=(w.count:Int):=by rw[ab (by omega) (by omega)];omega
 have hw3:IntKind.i64.wrap (w.count:Int)=(w.count:Int):=ab (by omega) (by omega)
 have hll:=zK w.vs
 simp-implicitDefEqProofs[ie,im]
 refine(IV G nf fns k w hn hl s).mono ?_
 rintro r h ⟨rfl,rfl⟩
 simp-implicitDefEqProofs[aa]
 refine oX (az 57 [(0,.ptr 0 5 0 0),(1,.p (.str s)),(2,.p (.int .i64 b))]) (HWk nf fns k ⟨w.vs,w.count,Cp w.vs s b w.code⟩) ?_ ?_
 ·rcases vh w.vs s with⟨e1,e2⟩|⟨pre,v,q,e0,e1,e2⟩
  ·simp-implicitDefEqProofs[e2,Cp,e1]
   exact am (by simp[HWk]) (Ak nf fns k w) (by simp[below,HWk])
  ·have hat:=HV pre v q
   rw[←e0] at hat
   have hlen:q.length<w.vs.length:=by rw[e0];simp;omega
   have hnf:nf=false:=by
    cases nf with
    |false=>rfl
    |true=>rw[hn rfl] at e0;simp at e0
   subst hnf
   have e:∀r,roC false r= .row 3 (lvR r):=λ_=>rfl
   have hq:(0:Int)<=(q.length:Int):=by omega
   by_cases hb:v.block=b
   ·have:=rd G false fns k w 2
    simp only[HWk,wO,wC,vaC,e] at this
    simp-implicitDefEqProofs[e2,HWk,wO,wC,vaC,e,hat,hlen,lvC,hb]
    refine this.mono ?_
    rintro r h ⟨rfl,rfl⟩
    have hp:Cp w.vs s b w.code=fl w.code 2:=by simp[Cp,e1,hb]
    rw[hp]
    simp-implicitDefEqProofs[aa]
    refine am (h:=HWk false fns k ⟨w.vs,w.count,fl w.code 2⟩) ?_ (Ak _ _ _ _) ?_
    ·simp[HWk]
    ·simp[below,HWk]
   ·have hp:Cp w.vs s b w.code=w.code:=by simp[Cp,e1,hb]
    have hbi:¬(v.block:Int)=(b:Int):=by omega
    rw[hp]
    simp-implicitDefEqProofs[e2,HWk,wO,wC,vaC,e,hat,hlen,lvC,hbi]
    refine am (h:=HWk false fns k w) ?_ (Ak _ _ _ _) ?_
    ·simp[HWk]
    ·simp[below,HWk]
 ·cases nf with
  |true=>
   have hv:=hn rfl
   simp-implicitDefEqProofs[HWk,wO,wC,vaC,roC,hv,hw1,hw2,hw3]
   refine(Bm G w.count).use ?_
   simp-implicitDefEqProofs[nF,lvR,lvC,hv]
  |false=>
   have e:∀r,roC false r= .row 3 (lvR r):=λ_=>rfl
   simp-implicitDefEqProofs[HWk,wO,wC,vaC,e,hw1,hw2,hw3,hll]
   refine⟨by omega,?_⟩
   refine(Bm G w.count).use ?_
   simp-implicitDefEqProofs[nF,MT,lvC]
   rw[Wg (by omega)]
end
section
variable (G:aK)
theorem GW(l:List Fd)(s:List UInt8)(hl:l.length<=1073741824):VF Tryz.prog G jM [.agg [.p (fdL l)],.p (.str s)] (.p (.int .i64 (ixI (bU l s)))):=by
 have hfl:∀l,fdL l= .lst 3 (l.map Fd.cs):=λ_=>rfl
 have dP:∀f:Fd,AC Tryz.prog G fT [.agg (f.cs.map .p),.ptr 1 1 0 0] [.row 1 [[.p (fdL l)]],.row 1 [[.p (.str s)]]] λx h=>x= .ret (.p (.bool (decide (f.name=s))))/\h=[.row 1 [[.p (fdL l)]],.row 1 [[.p (.str s)]]]:=by
  intro f
  have hcs:f.cs=[.str f.name,aL f.params,smL f.body]:=rfl
  refine AC.trim (AC.go Ch ?_) (by simp[below])
  simp-implicitDefEqProofs[rQ,hcs]
 have idx:AC Tryz.prog G cK [.p (fdL l),.fn (.func fT) [.ptr 1 1 0 0]] [.row 1 [[.p (fdL l)]],.row 1 [[.p (.str s)]]] λx h=>x= .ret (.p (.int .i64 (ixI (bU l s))))/\h=[.row 1 [[.p (fdL l)]],.row 1 [[.p (.str s)]]]:=by
  refine AC.go kZ ?_
  simp-implicitDefEqProofs[eS,hfl]
  refine aN (λi:Nat=>az 19 [(0,.p (fdL l)),(1,.fn (.func fT) [.ptr 1 1 0 0]),(7,.p (.int .i64 l.length)),(8,.p (.int .i64 i))]) (λ_=>[.row 1 [[.p (fdL l)]],.row 1 [[.p (.str s)]]]) (λi=>i<=l.length/\∀f∈l.take i,f.name≠s) (λi=>l.length-i) 0 (by simp) ?_ ?_
  ·exact am (by simp) (by simp[okO,below]) (by simp[below,ay,hfl])
  ·intro i ⟨hi,hn⟩
   simp-implicitDefEqProofs[hfl]
   refine aO (λh1=>?_) (λh1=>?_)
   ·simp at h1
    have hg:=Wa h1
    simp-implicitDefEqProofs[hg]
    refine(dP l[i]).mono ?_
    rintro r h ⟨rfl,rfl⟩
    by_cases he:l[i].name=s
    ·have hf:bU l s=some i:=by
      rw[bU,Ww]
      exact⟨h1,by simpa using he,λj hj=>by have:=hn l[j] (List.mem_take_iff_getElem.2 ⟨j,by omega,rfl⟩);simpa using this⟩
     simp-implicitDefEqProofs[aa,he,hf,ixI]
     exact hfl l
    ·simp-implicitDefEqProofs[aa,he]
     refine⟨i+1,⟨h1,λp hp=>?_⟩,by omega,am (h:=[.row 1 [[.p (fdL l)]],.row 1 [[.p (.str s)]]]) (by simp) (by simp[okO,below]) (by simp[below,ay,hfl,w1 (i:=i) (by omega)])⟩
     rw[aw h1] at hp
     rcases Wf.1 hp with hp|hp
     ·exact hn p hp
     ·rw[Wh.1 hp];exact he
   ·simp at h1
    rw[Wg h1] at hn
    have hf:bU l s=none:=by
     rw[bU,WJ];intro x hx;simpa using hn x hx
    simp-implicitDefEqProofs[hf,ixI]
 refine AC.go FO ?_
 simp-implicitDefEqProofs[vT]
 refine idx.mono ?_
 rintro r h ⟨rfl,rfl⟩
 simp-implicitDefEqProofs[aa]
structure GS where (gap:List AO) (m:Scp)
def mpE(m:Scp):List (PV × AV):=m.map λx=>(.str x.1,.p (.int .i64 x.2))
def scL:List GS->Nat
 |[]=>0
 |g::up=>scL up+g.gap.length+2
def upV:List GS->AV
 |[]=> .nilp
 |g::up=> .ptr (2+scL up+g.gap.length+1) 2 0 0
def scH:List GS->List AO
 |[]=>[]
 |g::up=>scH up++(g.gap++[.mp (mpE g.m),.row 2 [[.mp (2+scL up+g.gap.length),upV up]]])
theorem mg:∀ch:List GS,(scH ch).length=scL ch
 |[]=>rfl
 |g::up=>by simp only[scH,scL,Wq,mg up,Wr,WP];omega
def cO(fns:List Fd)(k:Nat)(c:Int):AO:= .row 3 [[.p (fdL fns),.p (.int .i64 k),.p (.int .i64 c)]]
def CH(b0:AO)(fns:List Fd)(k:Nat)(c:Int)(ch:List GS):List AO:=b0::cO fns k c::scH ch
theorem ji(b0:AO)(fns:List Fd)(k:Nat)(c:Int)(ch:List GS):(CH b0 fns k c ch).length=2+scL ch:=by
 simp only[CH,Wr,mg];omega
def AR:List GS->Prop
 |[]=>True
 |g::up=>(∀o∈g.gap,okO (2+scL up+g.gap.length) o)/\AR up
theorem kM:∀(ch:List GS) {n:Nat},2+scL ch<=n->below n (upV ch)
 |[],_,_=>by simp[upV,below]
 |g::up,n,h=>by simp only[scL] at h;simp only[upV,below];omega
theorem Ik:∀(ch:List GS) {n:Nat},AR ch->2+scL ch<=n->∀o∈scH ch,okO n o
 |[],_,_,_,o,ho=>by cases ho
 |g::up,n,⟨h1,h2⟩,hn,o,ho=>by
  simp only[scL] at hn
  rw[scH] at ho
  rcases Wf.1 ho with h|h
  ·exact Ik up h2 (by omega) o h
  ·rcases Wf.1 h with h|h
   ·exact tT (by omega) (h1 o h)
   ·simp only[Wd,WV,or_false] at h
    rcases h with rfl|rfl
    ·intro e he
     obtain⟨x,_,rfl⟩:=WC.1 he
     simp[below]
    ·intro e he
     rw[Wh.1 he]
     exact⟨by simp only[below];omega,kM up (by omega),trivial⟩
theorem FG{b0:AO}{fns:List Fd}{k:Nat}{c:Int}{ch:List GS}(hb:okO 0 b0)(hs:AR ch){n:Nat}(hn:2+scL ch<=n):∀o∈CH b0 fns k c ch,okO n o:=
 aC (ew hb) (aC (by intro e he;rw[Wh.1 he];simp[below]) (Ik ch hs hn))
theorem na(s:List UInt8):∀m:Scp,iu (.str s) (mpE m)=some ((fO m s).map λn=>AV.p (.int .i64 n))
 |[]=>rfl
 |x::r=>by
  have ih:=na s r
  by_cases h:x.1=s
  ·simp[mpE,iu,keq,h,fO]
  ·have h':¬s=x.1:=λe=>h e.symm
   simp only[mpE,Wz,iu,keq,h',decide_false]
   simp only[mpE] at ih
   rw[ih];simp[fO,h]
theorem pX(s:List UInt8)(n:Nat):∀m:Scp,lM (.str s) (.p (.int .i64 n)) (mpE m)=some (mpE (eV m s n))
 |[]=>rfl
 |x::r=>by
  have ih:=pX s n r
  by_cases h:x.1=s
  ·simp[mpE,lM,keq,h,eV]
  ·have h':¬s=x.1:=λe=>h e.symm
   simp only[mpE,Wz,lM,keq,h',decide_false]
   simp only[mpE] at ih
   rw[ih];simp[eV,h]
abbrev sco(ch:List GS):List Scp:=ch.map GS.m
theorem LM:∀(pre:List GS) (g:GS) (up:List GS),(scH (pre++g::up))[scL up+g.gap.length]?=some (.mp (mpE g.m))/\(scH (pre++g::up))[scL up+g.gap.length+1]?=some (.row 2 [[.mp (2+scL up+g.gap.length),upV up]])
 |[],g,up=>by
  have hl:(scH up++g.gap).length=scL up+g.gap.length:=by rw[Wq,mg]
  have e:scH (g::up)=(scH up++g.gap)++[.mp (mpE g.m),.row 2 [[.mp (2+scL up+g.gap.length),upV up]]]:=by rw[scH,WL]
  rw[List.nil_append,e]
  exact⟨by rw[←hl,We (Wn _)];simp,by rw[←hl,We (by omega)];simp⟩
 |p::pre,g,up=>by
  obtain⟨h1,h2⟩:=LM pre g up
  have hm1:=(VZ.1 h1).1
  have hm2:=(VZ.1 h2).1
  rw[WR,scH]
  exact⟨by rw[VY hm1];exact h1,by rw[VY hm2];exact h2⟩
theorem GI(ch:List GS):(upV ch).isCell=true:=by cases ch<;>rfl
theorem JV(ch:List GS):(upV ch).cells=[upV ch]:=by cases ch<;>rfl
attribute [simp ↓] GI JV
theorem DL(b0:AO)(fns:List Fd)(k:Nat)(c e:Int)(r:List AO):AC Tryz.prog G cu [.ptr 1 3 0 0,.p (.int .i64 e)] (b0::cO fns k c::r) λx h=>x= .ret (.tup [])/\h=b0::cO fns k (fl c e)::r:=by
 refine AC.go rO ?_
 by_cases h0:c=0
 ·simp-implicitDefEqProofs[fx,cO,h0,fl]
 ·simp-implicitDefEqProofs[fx,cO,h0,fl]
theorem nM(up:AV)(hu:up= .nilp\/∃i,up= .ptr i 2 0 0)(h:List AO):AC Tryz.prog G bj [up] h λx h'=>x= .ret (.ptr (h.length+1) 2 0 0)/\h'=h++[.mp [],.row 2 [[.mp h.length,up]]]:=by
 refine AC.go tC ?_
 rcases hu with rfl|⟨i,rfl⟩
 ·simp-implicitDefEqProofs[gV]
 ·simp-implicitDefEqProofs[gV]
theorem Nd(b0 c0:AO)(ch:List GS)(rest:List AO)(s:List UInt8):AC Tryz.prog G bk [upV ch,.p (.str s)] (b0::c0::(scH ch++rest)) λx h=>x= .ret (.tup [.p (.int .i64 (((cY (sco ch) s).getD 0:Nat):Int)),.p (.bool (cY (sco ch) s).isSome)])/\h=b0::c0::(scH ch++rest):=by
 refine AC.goB my λhb=>?_
 simp-implicitDefEqProofs[iq]
 have hHl:(b0::c0::(scH ch++rest)).length=2+scL ch+rest.length:=by simp only[Wr,Wq,mg];omega
 refine aN (λr:List GS=>az 25 [(0,upV r),(1,.p (.str s))]) (λ_=>b0::c0::(scH ch++rest)) (λr=>∃pre,ch=pre++r/\cY (sco ch) s=cY (sco r) s) (λr=>r.length) ch ⟨[],rfl,rfl⟩ ?_ ?_
 ·refine Bf (by simp) hb ?_
  rw[hHl]
  exact⟨⟨kM ch (by omega),by simp⟩,⟨by simp,by simp⟩,trivial⟩
 rintro r ⟨pre,e1,e2⟩
 cases r with
 |nil=>
  rw[e2]
  simp-implicitDefEqProofs[upV,cY]
 |cons g up=>
  obtain⟨a1,a2⟩:=LM pre g up
  rw[←e1] at a1 a2
  have b1:=(VZ.1 a1).1
  have b2:=(VZ.1 a2).1
  have l1:(b0::c0::(scH ch++rest))[2+scL up+g.gap.length]?=some (.mp (mpE g.m)):=by
   rw[show 2+scL up+g.gap.length=(scL up+g.gap.length)+1+1 by omega,Ws,Ws,VY b1,a1]
  have l2:(b0::c0::(scH ch++rest))[2+scL up+g.gap.length+1]?=some (.row 2 [[.mp (2+scL up+g.gap.length),upV up]]):=by
   rw[show 2+scL up+g.gap.length+1=(scL up+g.gap.length+1)+1+1 by omega,Ws,Ws,VY b2,a2]
  have hmg:=na s g.m
  have hle:=mg ch
  rw[e2]
  generalize hH:b0::c0::(scH ch++rest)=H at*
  have hup:upV (g::up)= .ptr (2+scL up+g.gap.length+1) 2 0 0:=rfl
  cases hh:fO g.m s with
  |some n=>
   rw[hh] at hmg
   simp-implicitDefEqProofs[hup,l1,l2,hmg,cY,hh]
  |none=>
   rw[hh] at hmg
   simp-implicitDefEqProofs[hup,l1,l2,hmg,cY,hh]
   refine⟨up,⟨⟨pre++[g],by rw[e1];simp⟩,rfl⟩,by simp,?_⟩
   refine Bf ?_ hb ?_
   ·rw[hHl,mg];omega
   ·refine⟨⟨kM up ?_,?_⟩,⟨by simp,by simp⟩,trivial⟩
    ·rw[hHl]
     have:=congrArg List.length e1
     have h3:=(VZ.1 l2).1
     rw[hHl] at h3
     omega
    ·simp
end
section
variable (G:aK)
theorem LS.reg{l:List Fd}{pr:Int}{L:Nat}{w:Lw}{h:List AO}{K:AV}{I:List Nat}(H:LS (lwO l pr) L w h K I):LS (lwO l pr) L w.reg (h.set L (lwO l pr w.reg K)) K I:=
 ⟨Wi H.lt,H.own.frame λi hi=>Wc λe=>(Wy.1 H.nd).1 (by rw[e];exact hi),H.nd,H.noc.1,λkid n rows eK hg=>by
   have ho:=H.own
   rw[eK] at ho
   rw[Wc λe=>(Wy.1 H.nd).1 (by rw[e];exact zJ ho)] at hg
   exact H.noc.2 kid n rows eK hg⟩
theorem RG{l:List Fd}{pr:Int}{L:Nat}{w:Lw}{h:List AO}{K:AV}{I:List Nat}(H:LS (lwO l pr) L w h K I)(hw:w.regs<=1073741824):
 AC Tryz.prog G fy [.ptr L 5 0 0] h λx h'=>x= .ret (.p (.int .i64 w.regs))/\h'=h.set L (lwO l pr w.reg K):=by
 have hg:=H.here
 have hw1:IntKind.i64.wrap ((w.regs:Int)+1)=((w.regs+1:Nat):Int):=by rw[ab (by omega) (by omega)];omega
 have hw2:IntKind.i64.wrap (((w.regs+1:Nat):Int)-1)=w.regs:=by rw[ab (by omega) (by omega)];omega
 simp only[lwO] at hg
 refine AC.go rM ?_
 have hgs:∀o,(h.set L o)[L]?=some o:=λo=>Wi H.lt
 simp-implicitDefEqProofs[-AV.cells,-AV.isCell,aH,aI,kx,hg, ↓hgs]
 rw[hw1,hw2]
 exact⟨rfl,rfl⟩
theorem uM{l:List Fd}{pr:Int}{L:Nat}{w:Lw}{h:List AO}{K:AV}{I:List Nat}(H:LS (lwO l pr) L w h K I){B:Nat}(hok:w.Ok B)(hB:B<=1073741824)(x:Ii){A:AV}{J:List Nat}(hA:OwnL false h [A] [bC x.args] J)(ndJ:J.Nodup)(hJ:∀j∈J,j≠L/\j∉I):
 AC Tryz.prog G bh [.ptr L 5 0 0,.agg [.p (.int .i64 x.op),.p (.int .i64 x.to),A,.p (.int .i64 x.n)]] h λr h'=>r= .ret (.tup [])/\LR (lwO l pr) L (w.put x) (I++J) h h':=by
 have hg:=H.here
 obtain⟨kid,rows,b,P,N,X,rfl,hrow,hlen,hb,hcur,⟨p1,p2⟩,⟨n1,n2⟩,⟨x1,x2⟩,hkl,hN⟩:=H.putAt (Ny l pr) hok.pos x hA ndJ hJ
 obtain⟨a1,a2⟩:=gy hA
 have hins:b.ins.length<=B:=hok.ins _ (Wm hb)
 have hpos:=hok.pos
 have hrow0:h[kid]?=some (.row 5 rows):=by simpa using hrow []
 simp only[lwO] at hg
 refine AC.go rI ?_
 have hgm:∀t,(h++t)[L]?=some (.row 5 [[.p (fdL l),.p (.int .i64 pr),.p (.int .i64 w.regs),.sl kid 5 0 w.bs.length,.p (.int .i64 w.pos)]]):=λt=>by rw[VY H.lt];exact hg
 rcases hN with⟨rfl,hi0,close⟩|⟨iid,rowsN,rfl,hir,hil,hiil,hik,close⟩
 ·simp-implicitDefEqProofs[-AV.cells,-AV.isCell,aH,af,ag,aq,aI,ae,au,a1,a2,p1,p2,x1,x2,fw,hg,hgm,hrow,hrow0,hcur,hlen]
  exact⟨hok.pos,close [_,_]⟩
 ·have htk:List.take b.ins.length rowsN=rowsN:=Wg (by omega)
  have hk2:∀t u,((h++t).set iid .dead++u)[kid]?=some (.row 5 rows):=λt u=>by rw[VY (by simp;omega),Wc hik];exact hrow t
  simp-implicitDefEqProofs[-AV.cells,-AV.isCell,aH,af,ag,aq,aI,ae,au,a1,a2,p1,p2,x1,x2,fw,hg,hgm,hrow,hrow0,hcur,hlen,hir,htk, ↓hk2]
  exact⟨hok.pos,⟨by omega,by omega,by omega⟩,close [_,_]⟩
theorem mR{l:List Fd}{pr:Int}{L:Nat}{w:Lw}{h:List AO}{K:AV}{I:List Nat}(H:LS (lwO l pr) L w h K I){B:Nat}(hok:w.Ok B)(j o:Int)(g:Nat)(nx:List Int){V:AV}{J:List Nat}(hV:OwnL false h [V] [bC nx] J)(ndJ:J.Nodup)(hJ:∀j∈J,j≠L/\j∉I):
 AC Tryz.prog G fI [.ptr L 5 0 0,.p (.int .i64 j),.p (.int .i64 o),.p (.int .i64 g),V] h λr h'=>r= .ret (.tup [])/\LR (lwO l pr) L (w.fin j o g nx) (I++J) h h':=by
 have hg:=H.here
 obtain⟨kid,rows,b,P,N,X,rfl,hrow,hlen,hb,hcur,⟨p1,p2⟩,⟨n1,n2⟩,⟨x1,x2⟩,hkl,hkL,close⟩:=H.finAt (Ny l pr) hok.pos
 obtain⟨a1,a2⟩:=gy hV
 have hrow0:h[kid]?=some (.row 5 rows):=by simpa using hrow []
 have hcl:=close j o g nx V J hV ndJ hJ
 have hLl:=H.lt
 simp only[lwO] at hg
 have hs1:∀o,(h.set kid o)[kid]?=some o:=λo=>Wi hkl
 have hs2:∀o,(h.set kid o)[L]?=h[L]?:=λo=>Wc hkL
 have hrs:∀r,(rows.set w.pos r)[w.pos]?=some r:=λr=>Wi (by rw[hlen];exact hok.pos)
 refine AC.go rN ?_
 simp-implicitDefEqProofs[-AV.cells,-AV.isCell,aH,af,ag,aq,aI,ae,au,a1,a2,n1,n2,p1,p2,x1,x2,ky,hg,hrow,hrow0,hcur,hlen, ↓hs1, ↓hs2, ↓hrs]
 exact⟨hok.pos,hcl⟩
theorem zH{l:List Fd}{pr:Int}{L:Nat}{w:Lw}{h:List AO}{K:AV}{I:List Nat}(H:LS (lwO l pr) L w h K I){B:Nat}(hok:w.Ok B)(hB:B<=1073741824)(n:Nat)(h0:0<n)(hn:n<=3):
 AC Tryz.prog G aY [.ptr L 5 0 0,.p (.int .i64 n)] h λr h'=>r= .ret (.p (.int .i64 w.bs.length))/\LR (lwO l pr) L (w.name n) I h h':=by
 have hg:=H.here
 have hp0:=hok.pos
 have hbl:=hok.bs
 obtain⟨kid,rows,rfl,hrow,hlen,hkl,hkL,close⟩:=H.nameAt (by omega) n []
 have hrow0:h[kid]?=some (.row 5 rows):=by simpa using hrow []
 simp only[lwO] at hg
 have htk:List.take w.bs.length rows=rows:=Wg (by omega)
 have hs2:∀u,(h.set kid .dead++u)[L]?=h[L]?:=λu=>by rw[VY (by simpa using H.lt)];exact Wc hkL
 refine AC.go jG ?_
 simp-implicitDefEqProofs[-AV.cells,-AV.isCell,aH,af,ag,aq,aI,ae,au,eX,hg,hrow,hrow0,hlen,htk, ↓hs2]
 exact⟨⟨h0,by omega⟩,⟨by omega,by omega⟩,by simpa[lwO,Lw.name] using close⟩
theorem uk{l:List Fd}{pr:Int}{L:Nat}{w:Lw}{h:List AO}{K:AV}{I:List Nat}(H:LS (lwO l pr) L w h K I){B:Nat}(hok:w.Ok B)(hB:B<=1073741823)(op n:Int)(args:List Int){A:AV}{J:List Nat}(hA:OwnL false h [A] [bC args] J)(ndJ:J.Nodup)(hJ:∀j∈J,j≠L/\j∉I):
 AC Tryz.prog G eJ [.ptr L 5 0 0,.p (.int .i64 op),.p (.int .i64 n),A] h λr h'=>r= .ret (.p (.int .i64 w.regs))/\LR (lwO l pr) L (w.mk' op n args) (I++J) h h':=by
 obtain⟨a1,a2⟩:=gy hA
 have hr:=RG G H (by have:=hok.regs;omega)
 have hA':OwnL false (h.set L (lwO l pr w.reg K)) [A] [bC args] J:=hA.frame λi hi=>Wc λe=>(hJ i hi).1 e.symm
 have hp:=uM G H.reg hok.reg (by omega) ⟨op,w.regs,args,n⟩ hA' ndJ hJ
 refine AC.go ph ?_
 simp-implicitDefEqProofs[-AV.cells,-AV.isCell,aH,af,ag,aq,aI,ae,au,a1,a2,jK]
 refine hr.mono ?_
 rintro x h1 ⟨rfl,rfl⟩
 simp-implicitDefEqProofs[-AV.cells,-AV.isCell,aH,af,ag,aq,aI,ae,au,a1,a2,aa]
 refine hp.mono ?_
 rintro x h1 ⟨rfl,hlr⟩
 simp-implicitDefEqProofs[aa]
 obtain⟨K2,I2,b1,b2,b3⟩:=hlr
 refine⟨K2,I2,b1,⟨by simpa using b2.1,λi hi hn=>?_⟩,λj hj=>by simpa using b3 j hj⟩
 rw[b2.2 i (by simpa using hi) hn]
 exact Wc λe=>hn (by simp[e])
end
section
inductive ChN (h:List AO):AV->List Scp->List Nat->Prop where
 |nil:ChN h .nilp [] []
 |cons (e m:Nat) (c:Scp) (u:AV) (v:List Scp) (C:List Nat):h[e]?=some (.row 2 [[.mp m,u]])->h[m]?=some (.mp (mpE c))->ChN h u v C->ChN h (.ptr e 2 0 0) (c::v) (e::m::C)
section
variable {h h':List AO} {u:AV} {v:List Scp} {C:List Nat}
theorem ChN.frame(H:ChN h u v C)(e:∀i∈C,h'[i]?=h[i]?):ChN h' u v C:=by
 induction H with
 |nil=>exact .nil
 |cons a m c u v C h1 h2 _ ih=>exact .cons a m c u v C (by rw[e a (by simp)];exact h1) (by rw[e m (by simp)];exact h2) (ih λi hi=>e i (by simp[hi]))
theorem ChN.lt(H:ChN h u v C):∀i∈C,i<h.length:=by
 induction H with
 |nil=>intro i hi;cases hi
 |cons a m c u v C h1 h2 _ ih=>
  intro i hi
  simp only[Wd] at hi
  rcases hi with rfl|rfl|hi
  ·exact(VZ.1 h1).1
  ·exact(VZ.1 h2).1
  ·exact ih i hi
theorem ChN.more(H:ChN h u v C)(os:List AO):ChN (h++os) u v C:=H.frame λi hi=>VY (H.lt i hi)
theorem ChN.is(H:ChN h u v C):Aw.below h.length u/\u.isCell=true/\u.cells=[u]:=by
 cases H with
 |nil=>exact⟨trivial,rfl,rfl⟩
 |cons a m c u v C h1 h2 _=>exact⟨(VZ.1 h1).1,rfl,rfl⟩
end
variable (G:aK)
structure FdS where (u:AV) (v:List Scp) (C:List Nat)
theorem JJ{u:AV}{v:List Scp}{C:List Nat}{h:List AO}(H:ChN h u v C)(s:List UInt8):AC Tryz.prog G bk [u,.p (.str s)] h λx h'=>x= .ret (.tup [.p (.int .i64 (scF 0 v s)),.p (.bool (cY v s).isSome)])/\h'=h:=by
 refine AC.go my ?_
 simp-implicitDefEqProofs[iq]
 refine aN (λa:FdS=>az 25 [(0,a.u),(1,.p (.str s))]) (λ_=>h) (λa=>ChN h a.u a.v a.C/\cY v s=cY a.v s) (λa=>a.v.length) ⟨u,v,C⟩ ⟨H,rfl⟩ ?_ ?_
 ·refine al (Wn _) ?_
  exact⟨⟨H.is.1,by simp⟩,⟨by simp,by simp⟩,trivial⟩
 rintro⟨u1,v1,C1⟩ ⟨H1,e⟩
 simp only at H1 e
 cases H1 with
 |nil=>
  have e0:scF 0 v s=0:=by simp[scF,e,cY]
  rw[e,e0]
  simp-implicitDefEqProofs[cY]
 |cons a m c u2 v2 C2 h1 h2 H2=>
  have hmg:=na s c
  have hb:=H2.is.1
  cases hs:fO c s with
  |some n=>
   rw[hs] at hmg
   have e1:cY v s=some n:=by rw[e,cY,hs]
   have e0:scF 0 v s=n:=by simp[scF,e1]
   rw[e1,e0]
   simp-implicitDefEqProofs[h1,h2,hmg]
  |none=>
   rw[hs] at hmg
   have e1:cY v s=cY v2 s:=by rw[e,cY,hs]
   have hu2:u2= .nilp\/∃e,u2= .ptr e 2 0 0:=by
    cases H2 with
    |nil=>exact .inl rfl
    |cons k _ _ _ _ _ _ _ _=>exact .inr ⟨k,rfl⟩
   rcases hu2 with rfl|⟨e2,rfl⟩
   ·simp-implicitDefEqProofs[h1,h2,hmg]
    exact⟨⟨.nilp,v2,C2⟩,⟨H2,e1⟩,by simp,al (Wn _) ⟨⟨hb,by simp⟩,⟨by simp,by simp⟩,trivial⟩⟩
   ·simp-implicitDefEqProofs[h1,h2,hmg]
    exact⟨⟨.ptr e2 2 0 0,v2,C2⟩,⟨H2,e1⟩,by simp,al (Wn _) ⟨⟨hb,by simp⟩,⟨by simp,by simp⟩,trivial⟩⟩
structure MpS where (i:Nat) (X:List AO) (x:AV)
def oc(l:List Int):AO:= .row 1 (l.map λn=>[AV.p (.int .i64 n)])
theorem FN{mk:Lw->AV->AO}{L:Nat}(fa sc:List UInt8->Int)(F:FuncId)(caps:List AV)(a:List Ex){w:Lw}{h:List AO}{K:AV}{I:List Nat}{B:Nat}(E:List Nat)(H:LS mk L w h K I)(hok:w.Ok B)(hB:B+8*aM a<=1073741823)(hE:∀i∈E,i<h.length/\i∉L::I)(hcb:ay h.length caps)
 (hF:∀e∈a,∀(w1:Lw) (h1:List AO) (K1:AV) (I1:List Nat) (B1:Nat),LS mk L w1 h1 K1 I1->w1.Ok B1->B1+8*e.sz<=1073741823->(∀i∈E,h1[i]?=h[i]?)->h.length<=h1.length->(∀i∈E,i∉L::I1)->
   AC Tryz.prog G F (.agg (e.cs.map .p)::caps) h1 λx h'=>x= .ret (.p (.int .i64 (lwE fa sc e w1).1))/\LR mk L (lwE fa sc e w1).2 I1 h1 h'):
 AC Tryz.prog G eF [.p (exL a),.fn (.func F) caps] h λx h'=>∃A J K' I',x= .ret A/\LS mk L (bg fa sc a w).2 h' K' I'/\Frm (L::I) h h'/\(∀j∈I',j∈I\/h.length<=j)/\OwnL false h' [A] [bC (bg fa sc a w).1] J/\J.Nodup/\(∀j∈J,h.length<=j/\j≠L/\j∉I')/\(a≠[]->∃oid,A= .sl oid 1 0 a.length/\h'[oid]?=some (oc (bg fa sc a w).1)/\J=[oid]):=by
 have hal:=bK a
 have hxl:∀l,exL l= .lst 4 (l.map Ex.cs):=λ_=>rfl
 have hLl:=H.lt
 refine AC.go tp ?_
 simp-implicitDefEqProofs[md,hxl]
 refine aN (λs:MpS=>az 22 [(5,s.x),(0,.p (exL a)),(1,.fn (.func F) caps),(8,.p (exL a)),(9,.p (.int .i64 a.length)),(10,.p (.int .i64 s.i))]) (λs=>s.X)
  (λs=>s.i<=a.length/\∃K1 I1,LS mk L (bg fa sc (a.take s.i) w).2 s.X K1 I1/\Frm (L::I) h s.X/\(∀j∈I1,j∈I\/h.length<=j)/\((s.i=0/\s.x= .nils)\/∃oid,s.x= .sl oid 1 0 s.i/\s.X[oid]?=some (oc (bg fa sc (a.take s.i) w).1)/\h.length<=oid/\oid∉I1)) (λs=>a.length-s.i) ⟨0,h,.nils⟩ ⟨WH _,K,I,by rw[List.take_zero,bg];exact H,Frm.refl _ _,λj hj=> .inl hj,.inl ⟨rfl,rfl⟩⟩ ?_ ?_
 ·exact al (Wn _) (by simp[below,hxl,hcb])
 rintro⟨i,X,x⟩ ⟨hi,K1,I1,H1,hfr,hI1,hx⟩
 simp only at hi H1 hfr hI1 hx
 have hXl:=hfr.1
 have hlen:(bg fa sc (a.take i) w).1.length=i:=by rw[fZ,Wv];omega
 simp-implicitDefEqProofs[hxl]
 refine aO (λhc=>?_) (λhc=>?_)
 ·simp at hc
  have hg:=Wa hc
  have hm:=Wo hc
  have htk:=uE (fa:=fa) (sc:=sc) hc w
  have hsz:=cJ hm
  have hok1:=(jp fa sc (a.take i) w B hok).1
  have hzt:aM (a.take i)+a[i].sz<=aM a:=by
   have h1:=WI (i+1) a
   have h2:aM a=aM (a.take (i+1))+aM (a.drop (i+1)):=by
    conv=>lhs;rw[←h1]
    rw[bH]
   rw[aw hc,bH] at h2
   simp only[aM] at h2
   omega
  have hcall:=hF a[i] hm (bg fa sc (a.take i) w).2 (X++[.row 4 [a[i].cs.map .p]]) K1 I1 _ (H1.more _) hok1 (by omega) (λj hj=>by
   obtain⟨h1,h2⟩:=hE j hj
   rw[VY (by omega)]
   exact hfr.2 j h1 h2) (by simp;omega) (λj hj hm=>by
   obtain⟨h1,h2⟩:=hE j hj
   rcases Wd.1 hm with rfl|hm
   ·simp at h2
   ·rcases hI1 j hm with h|h
    ·exact h2 (by simp[h])
    ·omega)
  generalize a[i]=e at hg hm htk hcall
  have hkc:=e.cs_eq
  generalize bg fa sc (a.take i) w=cur at*
  obtain⟨out,w1⟩:=cur
  simp only at htk hcall hok1 H1 hx hlen
  rw[hkc] at hcall
  simp-implicitDefEqProofs[hg,hkc]
  refine hcall.mono ?_
  rintro r h2 ⟨rfl,K2,I2,H2,hfr2,hI2⟩
  have hl2:X.length+1<=h2.length:=by have:=hfr2.1;simpa using this
  have hI2':∀j∈I2,j∈I\/h.length<=j:=λj hj=>by
   rcases hI2 j hj with h|h
   ·exact hI1 j h
   ·simp at h;exact .inr (by omega)
  have hfr2':Frm (L::I) h h2:=hfr.trans (Frm.trans (S:=L::I1) (Frm.more _ X [.row 4 [e.cs.map .p]]) (by rw[hkc];exact hfr2) λj hj=> .inl hj) (λj hj=>by
   rcases Wd.1 hj with rfl|hj
   ·exact .inl (by simp)
   ·rcases hI1 j hj with h|h
    ·exact .inl (by simp[h])
    ·exact .inr h)
  rcases hx with⟨rfl,rfl⟩|⟨oid,rfl,hxo,hol,hoI⟩
  ·have ho0:out=[]:=List.length_eq_zero_iff.1 hlen
   subst ho0
   simp-implicitDefEqProofs[aa]
   rw[WT] at htk
   refine⟨⟨1,_,.sl (h2.length+1) 1 0 1⟩,⟨by simp only;omega,K2,I2,by rw[htk];exact H2.more _,hfr2'.trans (Frm.more (L::I) h2 _) (λj hj=> .inl hj),hI2',.inr ⟨_,rfl,?_,by omega,λhm=>by have:=H2.own.lt hm;omega⟩⟩,by simp only;omega,al (by simp;omega) ?_⟩
   ·rw[htk,We (by omega)];simp[oc]
   ·simp[below,hxl,show IntKind.i64.wrap 1=1 from ab (by omega) (by omega)]
    exact aT (by omega) _ hcb
  ·have hox:oid<X.length:=(VZ.1 hxo).1
   have hx2:h2[oid]?=some (oc out):=by
    rw[hfr2.2 oid (by simp;omega) (by
     simp only[Wd,not_or]
     exact⟨by omega,hoI⟩),VY hox];exact hxo
   have hx2':∀t,(h2++t)[oid]?=some (.row 1 (out.map λn=>[AV.p (.int .i64 n)])):=λt=>by rw[VY (by omega)];exact hx2
   have hot:List.take i (out.map λn=>[AV.p (.int .i64 n)])=out.map λn=>[AV.p (.int .i64 n)]:=Wg (by simp;omega)
   simp-implicitDefEqProofs[aa,hx2',hlen,hot]
   have hoI2:oid∉L::I2:=by
    simp only[Wd,not_or]
    refine⟨by omega,λhm=>?_⟩
    rcases hI2 oid hm with h|h
    ·exact hoI h
    ·simp at h;omega
   have hset:∀t u,∀j∈L::I2,((h2++t).set oid .dead++u)[j]?=h2[j]?:=λt u j hj=>by
    have hjl:j<h2.length:=by
     rcases Wd.1 hj with rfl|hj
     ·exact H2.lt
     ·exact H2.own.lt hj
    rw[VY (by simp;omega),Wc (λe=>hoI2 (by rw[e];exact hj)),VY hjl]
   refine⟨by omega,⟨i+1,_,.sl (h2.length+1) 1 0 (i+1)⟩,⟨by simp only;omega,K2,I2,by rw[htk];exact H2.frame (hset _ _),?_,hI2',.inr ⟨_,rfl,?_,by omega,λhm=>by have:=H2.own.lt hm;omega⟩⟩,by simp only;omega,al (by simp;omega) ?_⟩
   ·refine⟨by simp;omega,λj hj hn=>?_⟩
    rw[VY (by simp;omega),Wc (by omega),VY (by omega)]
    exact hfr2'.2 j hj hn
   ·rw[htk,We (by simp)];simp[oc]
   ·simp[below,hxl,show IntKind.i64.wrap ((i:Int)+1)=(i:Int)+1 from ab (by omega) (by omega)]
    exact aT (by omega) _ hcb
 ·simp at hc
  have hie:i=a.length:=by omega
  subst hie
  rw[WA] at H1 hx hlen
  simp-implicitDefEqProofs[]
  rcases hx with⟨h0,rfl⟩|⟨oid,rfl,hxo,hol,hoI⟩
  ·have ho0:(bg fa sc a w).1=[]:=List.length_eq_zero_iff.1 (by rw[hlen,h0])
   exact⟨[],K1,I1,H1,hfr,hI1,by rw[ho0];exact .nils 1 .nil,List.nodup_nil,λj hj=>(by cases hj),λhn=>(hn (List.length_eq_zero_iff.1 h0)).elim⟩
  ·exact⟨[oid],K1,I1,H1,hfr,hI1,tI hxo hlen.symm,by simp,λj hj=>by
    rw[Wh.1 hj];exact⟨hol,by omega,hoI⟩,λ_=>⟨oid,rfl,hxo,rfl⟩⟩
end
section
variable (G:aK)
theorem NT(l:List Fd)(s:List UInt8):faI l s=ixI (bU l s):=by
 unfold faI;cases bU l s<;>rfl
theorem ja{d:Nat}{e a:Ex}(h:bY (d+1) e=true)(ha:a∈e.kids):bY d a=true:=by
 rw[bY,Wl] at h
 exact Wj.1 h.2 a ha
theorem CS{d:Nat}{e:Ex}(h:bY d e=true)(ho:e.op=10):∃a b,e.kids=[a,b]:=by
 cases d with
 |zero=>cases h
 |succ d=>
  rw[bY,Wl] at h
  have h:=h.1
  simp only[lC,Wl,inR,decide_eq_true_eq] at h
  obtain⟨⟨⟨⟨⟨_,h2⟩,_⟩,_⟩,_⟩,_⟩:=h
  rw[ho,show loK 10=2 from rfl,show hiK 10=2 from rfl] at h2
  match e.kids,h2 with
  |[a,b],_=>exact⟨a,b,rfl⟩
  |[],h=>simp at h
  |[_],h=>simp at h
  |_::_::_::r,h=>simp only[Wr] at h;omega
structure Stg (mk:Lw->AV->AO) (L:Nat) (I0 E:List Nat) (h hB:List AO) (w:Lw) (X:List AO) (K:AV) (I:List Nat):Prop where
 ls:LS mk L w X K I
 fr:Frm (L::I0) h X
 sub:∀j∈I,j∈I0\/h.length<=j
 keep:∀i∈E,X[i]?=hB[i]?
 ap:∀i∈E,i<X.length/\i∉L::I
 ge:hB.length<=X.length
section
variable {mk:Lw->AV->AO} {L:Nat} {I0 E:List Nat} {h hB:List AO} {w w2:Lw} {X X2:List AO} {K:AV} {I:List Nat}
theorem Stg.more(S:Stg mk L I0 E h hB w X K I)(os:List AO):Stg mk L I0 E h hB w (X++os) K I:=
 ⟨S.ls.more os,S.fr.trans (Frm.more (L::I0) X os) λj hj=> .inl hj,S.sub,λi hi=>by rw[VY (S.ap i hi).1];exact S.keep i hi,λi hi=>⟨by have:=(S.ap i hi).1;simp;omega,(S.ap i hi).2⟩,by have:=S.ge;simp;omega⟩
theorem Stg.step(S:Stg mk L I0 E h hB w X K I){J:List Nat}(hJ:∀j∈J,h.length<=j/\j∉E)(H:LR mk L w2 (I++J) X X2):∃K2 I2,Stg mk L I0 E h hB w2 X2 K2 I2:=by
 obtain⟨K2,I2,a1,a2,a3⟩:=H
 have hE:∀i∈E,i∉L::(I++J):=λi hi hm=>by
  have h1:=(S.ap i hi).2
  simp only[Wd,Wf,not_or] at hm h1
  rcases hm with hm|hm|hm
  ·exact h1.1 hm
  ·exact h1.2 hm
  ·exact(hJ i hm).2 hi
 have hX:=S.fr.1
 refine⟨K2,I2,a1,S.fr.trans a2 λj hj=>?_,λj hj=>?_,λi hi=>?_,λi hi=>⟨?_,λhm=>?_⟩,?_⟩
 ·simp only[Wd,Wf] at hj⊢
  rcases hj with rfl|hj|hj
  ·exact .inl (.inl rfl)
  ·rcases S.sub j hj with h|h
   ·exact .inl (.inr h)
   ·exact .inr h
  ·exact .inr (hJ j hj).1
 ·rcases a3 j hj with h|h
  ·rcases Wf.1 h with h|h
   ·exact S.sub j h
   ·exact .inr (hJ j h).1
  ·exact .inr (by omega)
 ·rw[a2.2 i (S.ap i hi).1 (hE i hi)];exact S.keep i hi
 ·have:=(S.ap i hi).1;have:=a2.1;omega
 ·have h1:=hE i hi
  simp only[Wd,not_or] at hm h1
  rcases hm with hm|hm
  ·exact h1.1 hm
  ·rcases a3 i hm with h|h
   ·exact h1.2 h
   ·have:=(S.ap i hi).1;omega
 ·have:=a2.1;have:=S.ge;omega
theorem Stg.lr(S:Stg mk L I0 E h hB w X K I):LR mk L w I0 h X:=⟨K,I,S.ls,S.fr,S.sub⟩
theorem Stg.of(H:LS mk L w h K I)(os:List AO)(hE:∀i∈E,i<(h++os).length/\i∉L::I):Stg mk L I E h (h++os) w (h++os) K I:=
 ⟨H.more os,Frm.more _ _ _,λj hj=> .inl hj,λ_ _=>rfl,hE,Wn _⟩
end
theorem Stg.fresh{mk:Lw->AV->AO}{L:Nat}{I0 E:List Nat}{h hB:List AO}{w:Lw}{X:List AO}{K:AV}{I:List Nat}(S:Stg mk L I0 E h hB w X K I):(∀j∈[X.length],h.length<=j/\j∉E)/\(∀j∈[X.length],j≠L/\j∉I):=by
 refine⟨λj hj=>?_,λj hj=>?_⟩
 ·rw[Wh.1 hj]
  exact⟨S.fr.1,λhm=>by have:=(S.ap _ hm).1;omega⟩
 ·rw[Wh.1 hj]
  exact⟨λe=>by have:=S.ls.lt;omega,λhm=>by have:=S.ls.own.lt hm;omega⟩
theorem cU(X:List AO)(l:List Int){n:Nat}(hn:n=l.length):OwnL false (X++[.row 1 (l.map λn=>[AV.p (.int .i64 n)])]) [.sl X.length 1 0 n] [bC l] [X.length]:=
 tI (by rw[We (Wn _)];simp) hn
theorem Jn(l:List Fd)(hl:l.length<=1073741824)(pr:Int)(L:Nat):∀(d:Nat) (e:Ex),bY d e=true->∀(w:Lw) (h:List AO) (K:AV) (I:List Nat) (B:Nat) (C:List Nat) (u:AV) (ch:List Scp),LS (lwO l pr) L w h K I->w.Ok B->B+8*e.sz<=1073741823->ChN h u ch C->(∀i∈C,i∉L::I)->
 AC Tryz.prog G bm [.ptr L 5 0 0,.agg (e.cs.map .p),u] h λx h'=>x= .ret (.p (.int .i64 (lwE (faI l) (scF 0 ch) e w).1))/\LR (lwO l pr) L (lwE (faI l) (scF 0 ch) e w).2 I h h':=by
 intro d
 induction d with
 |zero=>intro e h;cases h
 |succ d ih=>
 intro e hf w h K I B C u ch H hok hB hC hCd
 have hc:=e.cs_eq
 have hzz:=e.sz_eq
 have hLl:=H.lt
 obtain⟨hub,hu1,hu2⟩:=hC.is
 have hxl:∀l,exL l= .lst 4 (l.map Ex.cs):=λ_=>rfl
 obtain⟨bx,hbx⟩:∃bx,bx=[AO.row 1 [[.ptr L 5 0 0]],.row 4 [[.p (.int .i64 e.op),.p (.int .i64 e.n),.p (.str e.name),.p (exL e.kids)]],.row 1 [[u]]]:=⟨_,rfl⟩
 obtain⟨E,hE⟩:∃E,E=h.length::(h.length+1)::(h.length+2)::C:=⟨_,rfl⟩
 have hIlt:=λj (hj:j∈I)=>H.own.lt hj
 have hS0:Stg (lwO l pr) L I E h (h++bx) w (h++bx) K I:=Stg.of H bx (λi hi=>by
  rw[hE] at hi
  simp only[Wd] at hi
  simp only[hbx,Wq,Wr,WP,Wd,not_or]
  rcases hi with rfl|rfl|rfl|hi
  ·exact⟨by omega,by omega,λhm=>by have:=hIlt _ hm;omega⟩
  ·exact⟨by omega,by omega,λhm=>by have:=hIlt _ hm;omega⟩
  ·exact⟨by omega,by omega,λhm=>by have:=hIlt _ hm;omega⟩
  ·have h1:=hC.lt i hi
   have h2:=hCd i hi
   simp only[Wd,not_or] at h2
   exact⟨by omega,h2⟩)
 have kB:∀{w2:Lw} {X:List AO} {K2:AV} {I2:List Nat},Stg (lwO l pr) L I E h (h++bx) w2 X K2 I2->(∀t,(X++t)[h.length]?=some (.row 1 [[.ptr L 5 0 0]]))/\(∀t,(X++t)[h.length+1]?=some (.row 4 [[.p (.int .i64 e.op),.p (.int .i64 e.n),.p (.str e.name),.p (exL e.kids)]]))/\(∀t,(X++t)[h.length+2]?=some (.row 1 [[u]]))/\ChN X u ch C/\(∀i∈C,i∉L::I2):=λ{w2 X K2 I2} S=>by
  have hge:=S.ge
  simp only[hbx,Wq,Wr,WP] at hge
  have k0:=S.keep h.length (by simp[hE])
  have k1:=S.keep (h.length+1) (by simp[hE])
  have k2:=S.keep (h.length+2) (by simp[hE])
  rw[We (by omega)] at k0 k1 k2
  refine⟨λt=>?_,λt=>?_,λt=>?_,(hC.more bx).frame λi hi=>S.keep i (by simp[hE,hi]),λi hi=>(S.ap i (by simp[hE,hi])).2⟩
  ·rw[VY (by omega),k0,hbx];simp
  ·rw[VY (by omega),k1,hbx];simp
  ·rw[VY (by omega),k2,hbx];simp
 have lp:∀{w2:Lw} {X:List AO} {K2:AV} {I2:List Nat},Stg (lwO l pr) L I E h (h++bx) w2 X K2 I2->∀t,(X++t)[L]?=some (lwO l pr w2 K2):=λS t=>by rw[VY S.ls.lt];exact S.ls.here
 have hfE:=Lc (faI l) (scF 0 ch) e w
 refine AC.go pJ ?_
 obtain⟨z0,z1,z2,zC,zD⟩:=kB hS0
 have z0':=z0 []
 have z1':=z1 []
 have z2':=z2 []
 rw[Wu] at z0' z1' z2'
 by_cases o1:e.op=1
 ·rw[if_pos o1] at hfE
  have hmk:=uk G hS0.ls hok (by omega) 1 e.n [] (A:= .nils) (J:=[]) (.nils 1 .nil) List.nodup_nil (λj hj=>by cases hj)
  rw[o1] at hbx
  rw[hbx] at hmk
  rw[hfE]
  simp-implicitDefEqProofs[-AV.cells,-AV.isCell,aH,af,ag,aq,aj,aI,ae,au,ah,hu1,hu2,ca,hc,o1]
  refine hmk.mono ?_
  rintro x h1 ⟨rfl,hlr⟩
  simp-implicitDefEqProofs[aa]
  rw[←hbx] at hlr
  obtain⟨K2,I2,S2⟩:=hS0.step (J:=[]) (λj hj=>by cases hj) hlr
  exact S2.lr
 by_cases o2:e.op=2
 ·rw[if_neg o1,if_pos o2] at hfE
  have hfd:=JJ G zC e.name
  rw[o2] at hbx
  rw[hbx] at hfd
  rw[hfE]
  simp-implicitDefEqProofs[-AV.cells,-AV.isCell,aH,af,ag,aq,aj,aI,ae,au,ah,hu1,hu2,ca,hc,o1,o2]
  refine hfd.mono ?_
  rintro x h1 ⟨rfl,rfl⟩
  simp-implicitDefEqProofs[aa]
  rw[←hbx]
  exact hS0.lr
 by_cases o10:e.op=10
 ·rw[if_neg o1,if_neg o2,if_pos o10] at hfE
  obtain⟨a,b,hk⟩:=CS hf o10
  have hac:=a.cs_eq
  have hbc:=b.cs_eq
  have hkz:aM e.kids=a.sz+b.sz:=by rw[hk];simp[aM]
  rw[hk,lwA] at hfE
  have h1c:=ih a (ja hf (by rw[hk];simp)) w (h++bx) K I B C u ch hS0.ls hok (by omega) zC zD
  obtain⟨ok1,len1⟩:=mW (faI l) (scF 0 ch) a w B hok
  generalize lwE (faI l) (scF 0 ch) a w=x1 at*
  obtain⟨t,ht⟩:∃t,t=x1.2.bs.length:=⟨_,rfl⟩
  simp only[Lw.mk'_len,←ht] at hfE
  rw[hfE]
  have hkx:exL e.kids= .lst 4 [[.int .i64 a.op,.int .i64 a.n,.str a.name,exL a.kids],[.int .i64 b.op,.int .i64 b.n,.str b.name,exL b.kids]]:=by rw[hk,hxl,Wz,Wz,hac,hbc];rfl
  rw[hac] at h1c
  rw[o10,hkx] at hbx
  rw[hbx] at h1c
  have hkB:= @kB
  rw[hkx] at hkB
  simp-implicitDefEqProofs[-AV.cells,-AV.isCell,aH,af,ag,aq,aj,aI,ae,au,ah,hu1,hu2,ca,hc,o1,o2,o10,hkx]
  refine h1c.mono ?_
  rintro x X1 ⟨rfl,hlr⟩
  rw[←hbx] at hlr
  obtain⟨K1,I1,S1⟩:=hS0.step (J:=[]) (λj hj=>by cases hj) (by rw[Wu];exact hlr)
  obtain⟨y0,y1,y2,yC,yD⟩:=hkB S1
  have y0':=y0 []
  rw[Wu] at y0'
  simp-implicitDefEqProofs[-AV.cells,-AV.isCell,aH,af,ag,aq,aj,aI,ae,au,ah,hu1,hu2,aa,y0']
  have hm1:=uk G S1.ls ok1 (by omega) 1 0 [] (A:= .nils) (J:=[]) (.nils 1 .nil) List.nodup_nil (λj hj=>by cases hj)
  refine hm1.mono ?_
  rintro x X2 ⟨rfl,hlr⟩
  obtain⟨K2,I2,S2⟩:=S1.step (J:=[]) (λj hj=>by cases hj) hlr
  clear y0 y1 y2 yC yD y0'
  obtain⟨y0,y1,y2,yC,yD⟩:=hkB S2
  have y0':=y0 []
  rw[Wu] at y0'
  simp-implicitDefEqProofs[-AV.cells,-AV.isCell,aH,af,ag,aq,aj,aI,ae,au,ah,hu1,hu2,aa,y0']
  have ok2:=ok1.mk' 1 0 []
  have hm2:=zH G S2.ls ok2 (by omega) 2 (by omega) (by omega)
  refine hm2.mono ?_
  rintro x X3 ⟨rfl,hlr⟩
  obtain⟨K3,I3,S3⟩:=S2.step (J:=[]) (λj hj=>by cases hj) (by rw[Wu];exact hlr)
  clear y0 y1 y2 yC yD y0'
  obtain⟨y0,y1,y2,yC,yD⟩:=hkB S3
  have y0':=y0 []
  rw[Wu] at y0'
  simp-implicitDefEqProofs[-AV.cells,-AV.isCell,aH,af,ag,aq,aj,aI,ae,au,ah,hu1,hu2,aa,y0']
  have htb:t<=B+8*a.sz+2:=by have:=ok2.bs;simp only[Lw.mk'_len,←ht] at this;exact this
  have hwt:IntKind.i64.wrap ((t:Int)+1)=(t:Int)+1:=ab (by omega) (by omega)
  have ok3:=ok2.name 2
  have ok4:=ok3.fin 2 x1.1 (g:=t) (by simp only[Lw.name_len,Lw.mk'_len,←ht];omega) [(t:Int),(t:Int)+1]
  obtain⟨f1,f2⟩:=S3.fresh
  have hm3:=mR G (S3.ls.more [.row 1 ([(t:Int),(t:Int)+1].map λn=>[AV.p (.int .i64 n)])]) ok3 2 x1.1 t [(t:Int),(t:Int)+1] (cU X3 [(t:Int),(t:Int)+1] rfl) (by simp) f2
  simp only[Wz,WY,Wr,WP] at hm3
  simp-implicitDefEqProofs[-AV.cells,-AV.isCell,aH,af,ag,aq,aj,aI,ae,au,ah,hu1,hu2,←ht,hwt]
  refine hm3.mono ?_
  rintro x X4 ⟨rfl,hlr⟩
  obtain⟨K4,I4,S4⟩:=(S3.more _).step f1 hlr
  clear y0 y1 y2 yC yD y0'
  obtain⟨y0,y1,y2,yC,yD⟩:=hkB S4
  have y0':=y0 []
  rw[Wu] at y0'
  have y1':=y1 []
  have y2':=y2 []
  rw[Wu] at y1' y2'
  have h2c:=ih b (ja hf (by rw[hk];simp)) _ X4 K4 I4 _ C u ch S4.ls ok4 (by omega) yC yD
  obtain⟨ok5,len5⟩:=mW (faI l) (scF 0 ch) b _ _ ok4
  generalize lwE (faI l) (scF 0 ch) b (((x1.2.mk' 1 0 []).name 2).fin 2 x1.1 t [(t:Int),(t:Int)+1])=x2 at*
  rw[hbc] at h2c
  simp-implicitDefEqProofs[-AV.cells,-AV.isCell,aH,af,ag,aq,aj,aI,ae,au,ah,hu1,hu2,aa,y0',y1',y2']
  refine h2c.mono ?_
  rintro x X5 ⟨rfl,hlr⟩
  obtain⟨K5,I5,S5⟩:=S4.step (J:=[]) (λj hj=>by cases hj) (by rw[Wu];exact hlr)
  clear y1' y2'
  clear y0 y1 y2 yC yD y0'
  obtain⟨y0,y1,y2,yC,yD⟩:=hkB S5
  have y0':=y0 []
  rw[Wu] at y0'
  obtain⟨f1,f2⟩:=S5.fresh
  have hm4:=uk G (S5.ls.more [.row 1 ([x2.1].map λn=>[AV.p (.int .i64 n)])]) ok5 (by omega) 10 0 [x2.1] (cU X5 [x2.1] rfl) (by simp) f2
  simp only[Wz,WY,Wr,WP] at hm4
  simp-implicitDefEqProofs[-AV.cells,-AV.isCell,aH,af,ag,aq,aj,aI,ae,au,ah,hu1,hu2,aa,y0']
  refine hm4.mono ?_
  rintro x X6 ⟨rfl,hlr⟩
  obtain⟨K6,I6,S6⟩:=(S5.more _).step f1 hlr
  have ok6:=ok5.mk' 10 0 [x2.1]
  clear y0 y1 y2 yC yD y0'
  obtain⟨y0,y1,y2,yC,yD⟩:=hkB S6
  have y0':=y0 []
  rw[Wu] at y0'
  obtain⟨f1,f2⟩:=S6.fresh
  have hm5:=uM G (S6.ls.more [.row 1 ([(x2.2.regs:Int)].map λn=>[AV.p (.int .i64 n)])]) ok6 (by omega) ⟨10,x1.2.regs,[(x2.2.regs:Int)],0⟩ (cU X6 [(x2.2.regs:Int)] rfl) (by simp) f2
  simp only[Wz,WY,Wr,WP] at hm5
  simp-implicitDefEqProofs[-AV.cells,-AV.isCell,aH,af,ag,aq,aj,aI,ae,au,ah,hu1,hu2,aa,y0']
  refine hm5.mono ?_
  rintro x X7 ⟨rfl,hlr⟩
  obtain⟨K7,I7,S7⟩:=(S6.more _).step f1 hlr
  have ok7:=ok6.put ⟨10,x1.2.regs,[(x2.2.regs:Int)],0⟩
  clear y0 y1 y2 yC yD y0'
  obtain⟨y0,y1,y2,yC,yD⟩:=hkB S7
  have y0':=y0 []
  rw[Wu] at y0'
  obtain⟨f1,f2⟩:=S7.fresh
  have hm6:=mR G (S7.ls.more [.row 1 ([(t:Int)+1].map λn=>[AV.p (.int .i64 n)])]) ok7 1 0 (t+1) [(t:Int)+1] (cU X7 [(t:Int)+1] rfl) (by simp) f2
  simp only[Wz,WY,Wr,WP] at hm6
  simp-implicitDefEqProofs[-AV.cells,-AV.isCell,aH,af,ag,aq,aj,aI,ae,au,ah,hu1,hu2,aa,y0',hwt]
  rw[show((t+1:Nat):Int)=(t:Int)+1 by omega] at hm6
  refine hm6.mono ?_
  rintro x X8 ⟨rfl,hlr⟩
  obtain⟨K8,I8,S8⟩:=(S7.more _).step f1 hlr
  simp-implicitDefEqProofs[aa]
  exact S8.lr
 ·rw[if_neg o1,if_neg o2,if_neg o10] at hfE
  have hmap:=FN G (faI l) (scF 0 ch) dL [.ptr h.length 1 0 0,.ptr (h.length+2) 1 0 0] e.kids (h.length::(h.length+2)::C) hS0.ls hok (by omega) (λi hi=>hS0.ap i (by
   rw[hE];simp only[Wd] at hi⊢
   rcases hi with rfl|rfl|hi
   ·exact .inl rfl
   ·exact .inr (.inr (.inl rfl))
   ·exact .inr (.inr (.inr hi)))) (by simp[below,hbx]) (λk hk w1 h1 K1 I1 B1 H1 hok1 hB1 hEq hle hap=>by
   have hkc:=k.cs_eq
   have g0:∀t,(h1++t)[h.length]?=some (.row 1 [[.ptr L 5 0 0]]):=λt=>by
    have:=hEq h.length (by simp)
    rw[VY (by simp[hbx] at hle;omega),this];exact z0'
   have g2:∀t,(h1++t)[h.length+2]?=some (.row 1 [[u]]):=λt=>by
    have:=hEq (h.length+2) (by simp)
    rw[VY (by simp[hbx] at hle;omega),this];exact z2'
   have hC1:ChN h1 u ch C:=zC.frame λi hi=>hEq i (by simp[hi])
   have hcall:=ih k (ja hf hk) w1 (h1++[.row 4 [k.cs.map .p]]) K1 I1 B1 C u ch (H1.more _) hok1 hB1 (hC1.more _) (λi hi=>hap i (by simp[hi]))
   refine AC.go nY ?_
   rw[hkc] at hcall⊢
   simp-implicitDefEqProofs[-AV.cells,-AV.isCell,aH,af,ag,aq,aj,aI,ae,au,ah,hu1,hu2,il,g0,g2]
   refine hcall.mono ?_
   rintro x h2 ⟨rfl,hlr⟩
   simp-implicitDefEqProofs[aa]
   exact LR.seq (Frm.more _ h1 _) (λj hj=> .inl hj) hlr (λj hj=> .inl hj))
  obtain⟨okM,lenM⟩:=jp (faI l) (scF 0 ch) e.kids w B hok
  rw[hfE]
  generalize bg (faI l) (scF 0 ch) e.kids w=m at*
  rw[hbx] at hmap
  simp-implicitDefEqProofs[-AV.cells,-AV.isCell,aH,af,ag,aq,aj,aI,ae,au,ah,hu1,hu2,ca,hc,o1,o2,o10]
  refine hmap.mono ?_
  rintro x X1 ⟨A,J,K1,I1,rfl,H1,hfr,hI1,hA,ndJ,hJ,_⟩
  rw[←hbx] at hfr hI1 hJ
  obtain⟨a1,a2⟩:=gy hA
  have hbl:(h++bx).length=h.length+3:=by simp[hbx]
  have S1:Stg (lwO l pr) L I E h (h++bx) m.2 X1 K1 I1:=⟨H1,hS0.fr.trans hfr λj hj=> .inl hj,λj hj=>by
   rcases hI1 j hj with h|h
   ·exact .inl h
   ·exact .inr (by omega),λi hi=>hfr.2 i (hS0.ap i hi).1 (hS0.ap i hi).2,λi hi=>⟨by have:=(hS0.ap i hi).1;have:=hfr.1;omega,λhm=>by
    have h1:=(hS0.ap i hi).2
    have h2:=(hS0.ap i hi).1
    simp only[Wd,not_or] at hm h1
    rcases hm with hm|hm
    ·exact h1.1 hm
    ·rcases hI1 i hm with h|h
     ·exact h1.2 h
     ·omega⟩,hfr.1⟩
  have hJE:∀j∈J,h.length<=j/\j∉E:=λj hj=>by
   have h1:=(hJ j hj).1
   exact⟨by omega,λhm=>by have:=(hS0.ap j hm).1;omega⟩
  obtain⟨y0,y1,y2,yC,yD⟩:=kB S1
  have y0':=y0 []
  have y1':=y1 []
  rw[Wu] at y0' y1'
  have ylp:=lp S1 []
  rw[Wu] at ylp
  simp only[lwO] at ylp
  have hFn:=λq=>uk G H1 okM (by omega) (iR e.op) q m.1 hA ndJ (λj hj=>(hJ j hj).2)
  have hdone:∀q X2,LR (lwO l pr) L (m.2.mk' (iR e.op) q m.1) (I1++J) X1 X2->LR (lwO l pr) L (m.2.mk' (iR e.op) q m.1) I h X2:=λq X2 hlr=>by
   obtain⟨K2,I2,S2⟩:=S1.step hJE hlr
   exact S2.lr
  simp-implicitDefEqProofs[-AV.cells,-AV.isCell,aH,af,ag,aq,aj,aI,ae,au,ah,hu1,hu2,a1,a2,aa,y0',y1',ylp]
  refine aO (λc11=>?_) (λc11=>?_)
  ·have c11:e.op=11:=by simpa using c11
   have hq:(if e.op=13 then faI l e.name else 0)=0:=if_neg (by omega)
   rw[hq]
   have hm:=hFn 0
   have hd:=hdone 0
   rw[show iR e.op=10 by rw[c11];rfl] at hm hd⊢
   simp-implicitDefEqProofs[-AV.cells,-AV.isCell,aH,af,ag,aq,aj,aI,ae,au,ah,hu1,hu2,a1,a2,aa,y0',y1',ylp]
   refine hm.mono ?_
   rintro x X2 ⟨rfl,hlr⟩
   simp-implicitDefEqProofs[aa]
   exact hd _ hlr
  have c11:¬e.op=11:=by simpa using c11
  simp-implicitDefEqProofs[-AV.cells,-AV.isCell,aH,af,ag,aq,aj,aI,ae,au,ah,hu1,hu2,a1,a2,aa,y0',y1',ylp]
  refine aO (λc12=>?_) (λc12=>?_)
  ·have c12:e.op=12:=by simpa using c12
   have hq:(if e.op=13 then faI l e.name else 0)=0:=if_neg (by omega)
   rw[hq]
   have hm:=hFn 0
   have hd:=hdone 0
   rw[show iR e.op=11 by rw[c12];rfl] at hm hd⊢
   simp-implicitDefEqProofs[-AV.cells,-AV.isCell,aH,af,ag,aq,aj,aI,ae,au,ah,hu1,hu2,a1,a2,aa,y0',y1',ylp]
   refine hm.mono ?_
   rintro x X2 ⟨rfl,hlr⟩
   simp-implicitDefEqProofs[aa]
   exact hd _ hlr
  have c12:¬e.op=12:=by simpa using c12
  simp-implicitDefEqProofs[-AV.cells,-AV.isCell,aH,af,ag,aq,aj,aI,ae,au,ah,hu1,hu2,a1,a2,aa,y0',y1',ylp]
  refine aO (λc13=>?_) (λc13=>?_)
  ·have c13:e.op=13:=by simpa using c13
   have hq:(if e.op=13 then faI l e.name else 0)=ixI (bU l e.name):=by rw[if_pos c13,NT]
   rw[hq]
   have hm:=hFn (ixI (bU l e.name))
   have hd:=hdone (ixI (bU l e.name))
   rw[show iR e.op=14 by rw[c13];rfl] at hm hd⊢
   simp-implicitDefEqProofs[-AV.cells,-AV.isCell,aH,af,ag,aq,aj,aI,ae,au,ah,hu1,hu2,a1,a2,aa,y0',y1',ylp]
   refine((GW G l e.name hl).ac (by simp[below]) (by simp[below]) _).mono ?_
   rintro x X2 ⟨rfl,rfl⟩
   simp-implicitDefEqProofs[-AV.cells,-AV.isCell,aH,af,ag,aq,aj,aI,ae,au,ah,hu1,hu2,a1,a2,aa,y0',y1',ylp]
   refine hm.mono ?_
   rintro x X2 ⟨rfl,hlr⟩
   simp-implicitDefEqProofs[aa]
   exact hd _ hlr
  ·have c13:¬e.op=13:=by simpa using c13
   have hq:(if e.op=13 then faI l e.name else 0)=0:=if_neg c13
   rw[hq]
   have hm:=hFn 0
   have hd:=hdone 0
   rw[show iR e.op=e.op by rw[iR,if_neg c11,if_neg c12,if_neg c13]] at hm hd⊢
   simp-implicitDefEqProofs[-AV.cells,-AV.isCell,aH,af,ag,aq,aj,aI,ae,au,ah,hu1,hu2,a1,a2,aa,y0',y1',ylp]
   refine hm.mono ?_
   rintro x X2 ⟨rfl,hlr⟩
   simp-implicitDefEqProofs[aa]
   exact hd _ hlr
end
section
theorem EU{d:Nat}{e:Sm}(h:aJ d e=true):∃c,d=c+1:=by
 cases d with
 |zero=>cases h
 |succ d=>exact⟨d,rfl⟩
theorem Fc{d:Nat}{x:Sm}(h:aJ d x=true):∀a∈x.args,bY 6 a=true:=by
 obtain⟨d,rfl⟩:=EU h
 rw[aJ,Wl,Wl] at h
 have h1:=h.1.1
 simp only[fU,Wl,Wj] at h1
 intro a ha
 have:=h1.1.1.1.2 a ha
 rw[lV,Wl] at this
 exact this.1
theorem LF{d:Nat}{x:Sm}(h:aJ d x=true):x.args≠[]:=by
 obtain⟨d,rfl⟩:=EU h
 rw[aJ,Wl,Wl] at h
 have h1:=h.1.1
 simp only[fU,Wl,decide_eq_true_eq] at h1
 have h2:=h1.1.1.1.1.1.1.2
 intro e
 rw[e] at h2
 simp only[WP,jF] at h2
 split at h2<;>omega
theorem FV{d:Nat}{x:Sm}(h:aJ (d+1) x=true):∀y∈x.body,aJ d y=true:=by
 rw[aJ,Wl,Wl] at h
 exact Wj.1 h.1.2
theorem Jl{d:Nat}{x:Sm}(h:aJ (d+1) x=true):∀y∈x.els,aJ d y=true:=by
 rw[aJ,Wl,Wl] at h
 exact Wj.1 h.2
structure Stb (mk:Lw->AV->AO) (L:Nat) (S I0 E:List Nat) (h:List AO) (w:Lw) (X:List AO) (K:AV) (I:List Nat):Prop where
 ls:LS mk L w X K I
 fr:Frm S h X
 hL:L∈S
 hS:∀j∈I0,j∈S
 sub:∀j∈I,j∈I0\/h.length<=j
 ap:∀i∈E,i<X.length/\i∉L::I
section
variable {mk:Lw->AV->AO} {L:Nat} {S I0 E:List Nat} {h:List AO} {w w2:Lw} {X X2:List AO} {K:AV} {I:List Nat}
theorem Stb.more(T:Stb mk L S I0 E h w X K I)(os:List AO):Stb mk L S I0 E h w (X++os) K I:=
 ⟨T.ls.more os,T.fr.trans (Frm.more S X os) λj hj=> .inl hj,T.hL,T.hS,T.sub,λi hi=>⟨by have:=(T.ap i hi).1;simp;omega,(T.ap i hi).2⟩⟩
theorem Stb.fresh(T:Stb mk L S I0 E h w X K I):(∀j∈[X.length],h.length<=j/\j∉E)/\(∀j∈[X.length],j≠L/\j∉I):=by
 refine⟨λj hj=>?_,λj hj=>?_⟩
 ·rw[Wh.1 hj]
  exact⟨T.fr.1,λhm=>by have:=(T.ap _ hm).1;omega⟩
 ·rw[Wh.1 hj]
  exact⟨λe=>by have:=T.ls.lt;omega,λhm=>by have:=T.ls.own.lt hm;omega⟩
theorem Stb.stepG(T:Stb mk L S I0 E h w X K I){J V:List Nat}{K2:AV}{I2:List Nat}(hJ:∀j∈J,h.length<=j/\j∉E)(hV:∀j∈V,(j∈S\/h.length<=j))(a1:LS mk L w2 X2 K2 I2)(a2:Frm (L::(V++(I++J))) X X2)(a3:∀j∈I2,j∈I++J\/X.length<=j):
 Stb mk L S I0 E h w2 X2 K2 I2/\∀i∈E,i∉V->X2[i]?=X[i]?:=by
 have hX:=T.fr.1
 have hE:∀i∈E,i≠L/\i∉I/\i∉J:=λi hi=>by
  have h1:=(T.ap i hi).2
  simp only[Wd,not_or] at h1
  exact⟨h1.1,h1.2,λhm=>(hJ i hm).2 hi⟩
 refine⟨⟨a1,T.fr.trans a2 λj hj=>?_,T.hL,T.hS,λj hj=>?_,λi hi=>⟨by have:=(T.ap i hi).1;have:=a2.1;omega,λhm=>?_⟩⟩,λi hi hv=>?_⟩
 ·simp only[Wd,Wf] at hj
  rcases hj with rfl|hj|hj|hj
  ·exact .inl T.hL
  ·exact hV j hj
  ·rcases T.sub j hj with h|h
   ·exact .inl (T.hS j h)
   ·exact .inr h
  ·exact .inr (hJ j hj).1
 ·rcases a3 j hj with h|h
  ·rcases Wf.1 h with h|h
   ·exact T.sub j h
   ·exact .inr (hJ j h).1
  ·exact .inr (by omega)
 ·obtain⟨h1,h2,h3⟩:=hE i hi
  simp only[Wd] at hm
  rcases hm with hm|hm
  ·exact h1 hm
  ·rcases a3 i hm with h|h
   ·rcases Wf.1 h with h|h
    ·exact h2 h
    ·exact h3 h
   ·have:=(T.ap i hi).1;omega
 ·obtain⟨h1,h2,h3⟩:=hE i hi
  refine a2.2 i (T.ap i hi).1 ?_
  simp only[Wd,Wf,not_or]
  exact⟨h1,hv,h2,h3⟩
theorem Stb.step(T:Stb mk L S I0 E h w X K I){J:List Nat}(hJ:∀j∈J,h.length<=j/\j∉E)(H:LR mk L w2 (I++J) X X2):∃K2 I2,Stb mk L S I0 E h w2 X2 K2 I2/\∀i∈E,X2[i]?=X[i]?:=by
 obtain⟨K2,I2,a1,a2,a3⟩:=H
 obtain⟨b1,b2⟩:=T.stepG (V:=[]) hJ (λj hj=>by cases hj) a1 a2 a3
 exact⟨K2,I2,b1,λi hi=>b2 i hi (by simp)⟩
end
structure Bx (L Q b0 b1 se sm:Nat) (C:List Nat) (m:Scp) (up:List Scp) (nx:Nat) (X:List AO):Prop where
 box0:X[b0]?=some (.row 1 [[.ptr L 5 0 0]])
 box1:X[b1]?=some (.row 1 [[.ptr se 2 0 0]])
 ch:ChN X (.ptr se 2 0 0) (m::up) (se::sm::C)
 q:X[Q]?=some (.row 1 [[.p (.int .i64 nx)]])
theorem Bx.frame{L Q b0 b1 se sm:Nat}{C:List Nat}{m:Scp}{up:List Scp}{nx:Nat}{X X2:List AO}(H:Bx L Q b0 b1 se sm C m up nx X)(e:∀i∈b0::b1::Q::se::sm::C,X2[i]?=X[i]?):Bx L Q b0 b1 se sm C m up nx X2:=
 ⟨by rw[e b0 (by simp)];exact H.box0,by rw[e b1 (by simp)];exact H.box1,H.ch.frame λi hi=>e i (by simp only[Wd] at hi⊢;rcases hi with rfl|rfl|hi<;>simp[*]),by rw[e Q (by simp)];exact H.q⟩
theorem Bx.more{L Q b0 b1 se sm:Nat}{C:List Nat}{m:Scp}{up:List Scp}{nx:Nat}{X:List AO}(H:Bx L Q b0 b1 se sm C m up nx X)(os:List AO):Bx L Q b0 b1 se sm C m up nx (X++os):=
 H.frame λi hi=>VY (by
  have h0:=(VZ.1 H.box0).1
  have h1:=(VZ.1 H.box1).1
  have h3:=(VZ.1 H.q).1
  simp only[Wd] at hi
  rcases hi with rfl|rfl|rfl|hi
  ·exact h0
  ·exact h1
  ·exact h3
  ·exact H.ch.lt i (by simpa using hi))
end
section
def lwR(l:List Fd)(pr:Int)(V:AV)(nx:Nat)(w:Lw)(K:AV):AO:= .row 8 [[.p (fdL l),.p (.int .i64 pr),.p (.int .i64 w.regs),K,.p (.int .i64 w.pos),V,.p (.int .i64 nx),.nils]]
theorem Mj(l:List Fd)(pr:Int)(V:AV)(nx:Nat):MkF (lwR l pr V nx):=λw w2 K h1 h2=>by simp[lwR,h1,h2]
theorem LS.swap{mk mk2:Lw->AV->AO}{L:Nat}{w w2:Lw}{h:List AO}{K:AV}{I:List Nat}(H:LS mk L w h K I)(hb:w2.bs=w.bs):LS mk2 L w2 (h.set L (mk2 w2 K)) K I:=
 ⟨Wi H.lt,by rw[hb];exact H.own.frame λi hi=>Wc λe=>(Wy.1 H.nd).1 (by rw[e];exact hi),H.nd,H.noc.1,λkid n rows eK hg=>by
   have ho:=H.own
   rw[eK] at ho
   rw[Wc λe=>(Wy.1 H.nd).1 (by rw[e];exact zJ ho)] at hg
   exact H.noc.2 kid n rows eK hg⟩
theorem Iy{h:List AO}{p q r:Nat}(h1:h[p]?=some (AO.row 2 []))(h2:h[q]?=some (AO.row 4 []))(h3:h[r]?=some (AO.row 1 [])):OwnL false h [.sl p 2 0 0,.sl q 4 0 0,.p (.int .i64 0),.p (.int .i64 0),.sl r 1 0 0] bk0.cs [p,q,r]:=by
 have e1:OwnL false h [.sl p 2 0 0] [phL []] [p]:=(⟨h1,rfl,by simp,by simp,.nil,by simp⟩:RowOwn false h p 2 [] [] []).tree rfl
 have e2:OwnL false h [.sl q 4 0 0] [inL []] [q]:=(⟨h2,rfl,by simp,by simp,.nil,by simp⟩:RowOwn false h q 4 [] [] []).tree rfl
 have e3:OwnL false h [.sl r 1 0 0] [bC []] [r]:=(⟨h3,rfl,by simp,by simp,.nil,by simp⟩:RowOwn false h r 1 [] [] []).tree rfl
 exact Hs (b:=bk0) e1 e2 e3
theorem LS.blockAt{mk:Lw->AV->AO}{L:Nat}{w:Lw}{h:List AO}{K:AV}{I:List Nat}(H:LS mk L w h K I)(hp:0<w.bs.length)(os:List AO){p q r:Nat}(hpq:p<q/\q<r/\h.length<=p)(h1:(h++os)[p]?=some (.row 2 []))(h2:(h++os)[q]?=some (.row 4 []))(h3:(h++os)[r]?=some (.row 1 [])):
 ∃kid rows,K= .sl kid 5 0 w.bs.length/\(∀t,(h++t)[kid]?=some (.row 5 rows))/\rows.length=w.bs.length/\kid<h.length/\kid≠L/\
  LR mk L (w.name 1) I h (((h++os).set kid AO.dead++[AO.row 5 (rows++[[.sl p 2 0 0,.sl q 4 0 0,.p (.int .i64 0),.p (.int .i64 0),.sl r 1 0 0]])]).set L (mk (w.name 1) (.sl (h.length+os.length) 5 0 (w.bs.length+1)))):=by
 obtain⟨kid,rows,J,rfl,rfl,hr⟩:=H.rows hp
 have hkl:=hr.lt
 have hLl:=H.lt
 have hlen:=hr.len
 rw[WD] at hlen
 have hnd:=H.nd
 simp only[Wy,Wd,not_or] at hnd
 have hrl:r<(h++os).length:=(VZ.1 h3).1
 rw[Wq] at hrl
 refine⟨kid,rows,rfl,λt=>by rw[VY hkl];exact hr.here,hlen,hkl,λe=>hnd.1.1 e.symm,?_⟩
 have hJl:=λj (hj:j∈J)=>hr.own.lt hj
 have hra:=GH hr (h2:=h++os) rfl (rs:=[[.sl p 2 0 0,.sl q 4 0 0,.p (.int .i64 0),.p (.int .i64 0),.sl r 1 0 0]]) (es:=[bk0.cs]) (I2:=[p,q,r]) (by
  rw[List.flatten_singleton,List.flatten_singleton];exact Iy h1 h2 h3) rfl (by simp) (by simp[bk0,Bk.cs]) (by simp;omega) (λj hj=>by
  simp only[Wd,WV,or_false] at hj
  rcases hj with rfl|rfl|rfl
  ·exact⟨by omega,λhm=>by have:=hJl _ hm;omega⟩
  ·exact⟨by omega,λhm=>by have:=hJl _ hm;omega⟩
  ·exact⟨by omega,λhm=>by have:=hJl _ hm;omega⟩)
 have hl0:(h++os).length=h.length+os.length:=by simp
 rw[hl0] at hra
 have hra2:=hra.frame (h':=(((h++os).set kid AO.dead++[AO.row 5 (rows++[[.sl p 2 0 0,.sl q 4 0 0,.p (.int .i64 0),.p (.int .i64 0),.sl r 1 0 0]])]).set L (mk (w.name 1) (.sl (h.length+os.length) 5 0 (w.bs.length+1))))) (λi hi=>Wc λe=>by
  subst e
  simp only[Wd,Wf,WV,or_false] at hi
  rcases hi with h|h|h|h|h
  ·omega
  ·exact hnd.1.2 h
  ·omega
  ·omega
  ·omega)
 refine⟨_,(h.length+os.length)::(J++[p,q,r]),⟨Wi (by simp;omega),?_,?_,?_⟩,⟨by simp;omega,λi hi hn=>?_⟩,λj hj=>?_⟩
 ·rw[show bkL (w.name 1).bs= .lst 5 (w.bs.map Bk.cs++[bk0.cs]) by simp[bkL,Lw.name]]
  exact hra2.tree (by simp)
 ·simp only[Wy,Wd,Wf,WV,or_false,not_or]
  exact⟨⟨by omega,hnd.1.2,by omega,by omega,by omega⟩,by have:=hra.nd;simpa using this⟩
 ·refine⟨λq e=>(by cases e),?_⟩
  intro kid2 n2 rows2 eK hg2 r hr2
  cases eK
  rw[hra2.here] at hg2
  cases hg2
  rcases Wf.1 hr2 with h1|h1
  ·exact H.noc.2 kid _ rows rfl hr.here r h1
  ·rw[Wh.1 h1];simp
 ·simp only[Wd,not_or] at hn
  rw[Wc (Ne.symm hn.1),VY (by simp;omega),Wc (Ne.symm hn.2.1),VY hi]
 ·simp only[Wd,Wf,WV,or_false] at hj
  rcases hj with rfl|hj|rfl|rfl|rfl
  ·exact .inr (by omega)
  ·exact .inl (by simp[hj])
  ·exact .inr (by omega)
  ·exact .inr (by omega)
  ·exact .inr (by omega)
variable (G:aK)
section
variable {l:List Fd} {pr:Int} {V:AV} {nx:Nat} {L:Nat} {w:Lw} {h:List AO} {K:AV} {I:List Nat}
theorem Nf(H:LS (lwR l pr V nx) L w h K I)(hw:w.regs<=1073741824):
 AC Tryz.prog G bW [.ptr L 8 0 0] h λx h'=>x= .ret (.p (.int .i64 w.regs))/\h'=h.set L (lwR l pr V nx w.reg K):=by
 have hg:=H.here
 have hw1:IntKind.i64.wrap ((w.regs:Int)+1)=((w.regs+1:Nat):Int):=by rw[ab (by omega) (by omega)];omega
 have hw2:IntKind.i64.wrap (((w.regs+1:Nat):Int)-1)=w.regs:=by rw[ab (by omega) (by omega)];omega
 simp only[lwR] at hg
 refine AC.go sZ ?_
 have hgs:∀o,(h.set L o)[L]?=some o:=λo=>Wi H.lt
 simp-implicitDefEqProofs[-AV.cells,-AV.isCell,aH,aI,lB,hg, ↓hgs]
 rw[hw1,hw2]
 exact⟨rfl,rfl⟩
theorem ti(H:LS (lwR l pr V nx) L w h K I){B:Nat}(hok:w.Ok B)(hB:B<=1073741824)(x:Ii){A:AV}{J:List Nat}(hA:OwnL false h [A] [bC x.args] J)(ndJ:J.Nodup)(hJ:∀j∈J,j≠L/\j∉I):
 AC Tryz.prog G cD [.ptr L 8 0 0,.p (.int .i64 x.op),.p (.int .i64 x.to),.p (.int .i64 x.n),A] h λr h'=>r= .ret (.p (.int .i64 x.to))/\LR (lwR l pr V nx) L (w.put x) (I++J) h h':=by
 have hg:=H.here
 obtain⟨kid,rows,b,P,N,X,rfl,hrow,hlen,hb,hcur,⟨p1,p2⟩,⟨n1,n2⟩,⟨x1,x2⟩,hkl,hN⟩:=H.putAt (Mj l pr V nx) hok.pos x hA ndJ hJ
 obtain⟨a1,a2⟩:=gy hA
 have hins:b.ins.length<=B:=hok.ins _ (Wm hb)
 have hpos:=hok.pos
 have hrow0:h[kid]?=some (.row 5 rows):=by simpa using hrow []
 simp only[lwR] at hg
 refine AC.go uA ?_
 have hgm:∀t,(h++t)[L]?=some (.row 8 [[.p (fdL l),.p (.int .i64 pr),.p (.int .i64 w.regs),.sl kid 5 0 w.bs.length,.p (.int .i64 w.pos),V,.p (.int .i64 nx),.nils]]):=λt=>by rw[VY H.lt];exact hg
 rcases hN with⟨rfl,hi0,close⟩|⟨iid,rowsN,rfl,hir,hil,hiil,hik,close⟩
 ·simp-implicitDefEqProofs[-AV.cells,-AV.isCell,aH,af,ag,aq,aI,ae,au,a1,a2,p1,p2,x1,x2,iX,hg,hgm,hrow,hrow0,hcur,hlen]
  exact⟨hok.pos,close [_]⟩
 ·have htk:List.take b.ins.length rowsN=rowsN:=Wg (by omega)
  have hk2:∀t u,((h++t).set iid .dead++u)[kid]?=some (.row 5 rows):=λt u=>by rw[VY (by simp;omega),Wc hik];exact hrow t
  simp-implicitDefEqProofs[-AV.cells,-AV.isCell,aH,af,ag,aq,aI,ae,au,a1,a2,p1,p2,x1,x2,iX,hg,hgm,hrow,hrow0,hcur,hlen,hir,htk, ↓hk2]
  exact⟨hok.pos,⟨by omega,by omega,by omega⟩,close [_]⟩
theorem rm(H:LS (lwR l pr V nx) L w h K I){B:Nat}(hok:w.Ok B)(j o:Int)(g:Nat)(ne:List Int){Y:AV}{J:List Nat}(hY:OwnL false h [Y] [bC ne] J)(ndJ:J.Nodup)(hJ:∀j∈J,j≠L/\j∉I):
 AC Tryz.prog G bO [.ptr L 8 0 0,.p (.int .i64 j),.p (.int .i64 o),Y,.p (.int .i64 g)] h λr h'=>r= .ret (.tup [])/\LR (lwR l pr V nx) L (w.fin j o g ne) (I++J) h h':=by
 have hg:=H.here
 obtain⟨kid,rows,b,P,N,X,rfl,hrow,hlen,hb,hcur,⟨p1,p2⟩,⟨n1,n2⟩,⟨x1,x2⟩,hkl,hkL,close⟩:=H.finAt (Mj l pr V nx) hok.pos
 obtain⟨a1,a2⟩:=gy hY
 have hrow0:h[kid]?=some (.row 5 rows):=by simpa using hrow []
 have hcl:=close j o g ne Y J hY ndJ hJ
 have hLl:=H.lt
 simp only[lwR] at hg
 have hs1:∀o,(h.set kid o)[kid]?=some o:=λo=>Wi hkl
 have hs2:∀o,(h.set kid o)[L]?=h[L]?:=λo=>Wc hkL
 have hrs:∀r,(rows.set w.pos r)[w.pos]?=some r:=λr=>Wi (by rw[hlen];exact hok.pos)
 refine AC.go tr ?_
 simp-implicitDefEqProofs[-AV.cells,-AV.isCell,aH,af,ag,aq,aI,ae,au,a1,a2,n1,n2,p1,p2,x1,x2,mt,hg,hrow,hrow0,hcur,hlen, ↓hs1, ↓hs2, ↓hrs]
 exact⟨hok.pos,hcl⟩
theorem BF(H:LS (lwR l pr V nx) L w h K I){B:Nat}(hok:w.Ok B)(hB:B<=1073741824)(hV:V.cells=[V]/\V.isCell=true):
 AC Tryz.prog G cN [.ptr L 8 0 0] h λr h'=>r= .ret (.p (.int .i64 w.bs.length))/\LR (lwR l pr V nx) L (w.name 1) I h h':=by
 have hg:=H.here
 have hp0:=hok.pos
 have hbl:=hok.bs
 obtain⟨v1,v2⟩:=hV
 have hLl:=H.lt
 obtain⟨kid,rows,rfl,hrow,hlen,hkl,hkL,close⟩:=H.blockAt (by omega) [.row 2 [],.row 4 [],.row 1 [],.row 5 [[.sl h.length 2 0 0,.sl (h.length+1) 4 0 0,.p (.int .i64 0),.p (.int .i64 0),.sl (h.length+2) 1 0 0]]] (p:=h.length) (q:=h.length+1) (r:=h.length+2) ⟨by omega,by omega,by omega⟩ (by rw[We (Wn _)];simp) (by rw[We (by omega)];simp) (by rw[We (by omega)];simp)
 have hrow0:h[kid]?=some (.row 5 rows):=by simpa using hrow []
 simp only[lwR] at hg
 have htk:List.take w.bs.length rows=rows:=Wg (by omega)
 have hgm:∀t,(h++t)[L]?=some (.row 8 [[.p (fdL l),.p (.int .i64 pr),.p (.int .i64 w.regs),.sl kid 5 0 w.bs.length,.p (.int .i64 w.pos),V,.p (.int .i64 nx),.nils]]):=λt=>by rw[VY H.lt];exact hg
 have hs2:∀t u,((h++t).set kid .dead++u)[L]?=some (.row 8 [[.p (fdL l),.p (.int .i64 pr),.p (.int .i64 w.regs),.sl kid 5 0 w.bs.length,.p (.int .i64 w.pos),V,.p (.int .i64 nx),.nils]]):=λt u=>by rw[VY (by simp;omega),Wc hkL];exact hgm t
 have hs3:∀t u o,(((h++t).set kid .dead++u).set L o)[L]?=some o:=λt u o=>Wi (by simp;omega)
 have hw1:IntKind.i64.wrap (((w.bs.length+1:Nat):Int)-1)=w.bs.length:=by rw[ab (by omega) (by omega)];omega
 refine AC.go le ?_
 simp-implicitDefEqProofs[-AV.cells,-AV.isCell,aH,af,ag,aq,aI,ae,au,v1,v2,gD,hg,hgm,hrow,hrow0,hlen,htk, ↓hs2, ↓hs3]
 exact⟨⟨by omega,by omega⟩,ab (by omega) (by omega),close⟩
end
end
section
theorem Af:AK.whole kR=FK.ak la:=rfl
variable (G:aK)
theorem rn(o:Int):VF Tryz.prog G iy [.p (.int .i64 o)] (.p (.bool (gg o))):=by
 refine AC.go AW ?_
 simp-implicitDefEqProofs[pK]
 refine(dm G o 1 14).use ?_
 cases hb:inR o 1 14 with
 |false=>simp-implicitDefEqProofs[gg,hb]
 |true=>
  by_cases h1:o=12
  ·simp-implicitDefEqProofs[gg,hb,h1]
  ·simp-implicitDefEqProofs[gg,hb,h1]
def l7N(o:Int):Int:=if o=1 then 0 else if o=2\/o=10\/o=11\/o=13 then 1 else if inR o 3 9=true\/o=12 then 2 else-1
theorem Fi(o:Int):VF Tryz.prog G mN [.p (.int .i64 o)] (.p (.int .i64 (l7N o))):=by
 refine AC.go CD ?_
 by_cases h1:o=1
 ·simp-implicitDefEqProofs[dj,l7N,h1]
 by_cases h2:o=2
 ·simp-implicitDefEqProofs[dj,l7N,h2]
 by_cases h3:o=10
 ·simp-implicitDefEqProofs[dj,l7N,h3]
 by_cases h4:o=11
 ·simp-implicitDefEqProofs[dj,l7N,h4]
 by_cases h5:o=13
 ·simp-implicitDefEqProofs[dj,l7N,h5]
 simp-implicitDefEqProofs[dj,h1,h2,h3,h4,h5]
 refine(dm G o 3 9).use ?_
 cases hb:inR o 3 9 with
 |true=>simp-implicitDefEqProofs[l7N,hb,h1,h2,h3,h4,h5]
 |false=>
  by_cases h6:o=12
  ·simp-implicitDefEqProofs[l7N,h6,hb]
  ·simp-implicitDefEqProofs[l7N,hb,h1,h2,h3,h4,h5,h6]
theorem FB(c:Cd)(h0:0<=c.regs)(h1:c.regs<=300)(l:List Int)(hl:l.length<=1073741824):VF Tryz.prog G jy [.agg (c.cs.map .p),.p (bC l)] (.p (.bool (l.all (dV c.regs)))):=by
 have hcs:=c.cs_eq2
 have hnl:bC l= .lst 1 (l.map λn=>[.int .i64 n]):=rfl
 have hwr:IntKind.i64.wrap (c.regs-1)=c.regs-1:=ab (by omega) (by omega)
 refine AC.go Cq ?_
 simp-implicitDefEqProofs[rS,hcs,hnl]
 refine aN (λi:Nat=>az 21 [(1,.p (bC l)),(2,.ptr 0 3 0 0),(5,.p (.int .i64 i))]) (λ_=>[.row 3 [[.p (.int .i64 c.params),.p (.int .i64 c.regs),.p (bkL c.blocks)]]]) (λi=>i<=l.length/\∀r∈l.take i,dV c.regs r=true) (λi=>l.length-i) 0 (by simp) ?_ ?_
 ·exact al (by simp) (by simp[below,hnl])
 rintro i ⟨hi,hp⟩
 simp-implicitDefEqProofs[hnl]
 refine aO (λhc=>?_) (λhc=>?_)
 ·simp at hc
  have hg:=Wa hc
  have htk:=aw hc
  have hm:=Wo hc
  generalize l[i]=r at hg htk hm
  simp-implicitDefEqProofs[hg,hwr]
  refine(dm G r 0 (c.regs-1)).use ?_
  cases hb:inR r 0 (c.regs-1) with
  |false=>simp-implicitDefEqProofs[no hm (p:=dV c.regs) hb]
  |true=>
   simp-implicitDefEqProofs[]
   refine⟨i+1,⟨by omega,λx hx=>?_⟩,by omega,al (by simp) (by simp[below,hnl,w1 (i:=i) (by omega)])⟩
   rw[htk] at hx
   rcases Wf.1 hx with hx|hx
   ·exact hp x hx
   ·rw[Wh.1 hx];exact hb
 ·simp at hc
  rw[Wg hc] at hp
  simp-implicitDefEqProofs[Wj.2 hp]
theorem OG(u:List Cd)(k:Nat)(c:Cd)(hk:u[k]?=some c)(h0:0<=c.regs)(h1:c.regs<=300)(hu:u.length<=1073741824)(x:Ii)(hl:x.args.length<=1073741824):VF Tryz.prog G oa [.agg [.p (cdL u)],.p (.int .i64 k),.agg (x.cs.map .p)] (.p (.bool (fS u k c.regs x))):=by
 have hcs:=c.cs_eq2
 have hxs:=x.cs_eq2
 have hul:cdL u= .lst 3 (u.map Cd.cs):=rfl
 have hnl:bC x.args= .lst 1 (x.args.map λn=>[.int .i64 n]):=rfl
 have hku:=(VZ.1 hk).1
 have hwr:IntKind.i64.wrap (c.regs-1)=c.regs-1:=ab (by omega) (by omega)
 have hwk:IntKind.i64.wrap ((k:Int)-1)=(k:Int)-1:=ab (by omega) (by omega)
 have hR:=FB G c h0 h1 x.args hl
 rw[hcs,hnl] at hR
 clear hku
 refine AC.go DX ?_
 simp-implicitDefEqProofs[uv,hxs,hul,hk,hcs,hnl]
 refine(dm G x.op 1 14).use ?_
 cases hb1:inR x.op 1 14 with
 |false=>simp-implicitDefEqProofs[fS,hb1]
 |true=>
 simp-implicitDefEqProofs[]
 refine hR.use ?_
 cases hb2:x.args.all (dV c.regs) with
 |false=>simp-implicitDefEqProofs[fS,hb2]
 |true=>
 simp-implicitDefEqProofs[]
 refine(rn G x.op).use ?_
 simp-implicitDefEqProofs[hwr]
 refine(dm G x.to 0 (c.regs-1)).use ?_
 have hlast:∀b:Bool,(if gg x.op then dV c.regs x.to else decide (x.to= -1))=true->fS u k c.regs x=(if x.op=14 then inR x.n 0 ((k:Int)-1)&&decide ((x.args.length:Int)=zs u x.n)
  else if x.op=1 then decide (x.args.length=0)&&inR x.n 0 255
  else decide (x.n=0)&&decide ((x.args.length:Int)=pg x.op)):=λ_ h=>by rw[fS,hb1,hb2,h];simp
 have hbad:(if gg x.op then dV c.regs x.to else decide (x.to= -1))=false->fS u k c.regs x=false:=λh=>by rw[fS,h];simp
 have hrb:dV c.regs x.to=inR x.to 0 (c.regs-1):=rfl
 have rest:∀Q:AKW Tryz.prog G 0 .skip [] [] (λ_ _ _=>True),True:=λ_=>trivial
 have hins:fS u k c.regs x=(if x.op=14 then inR x.n 0 ((k:Int)-1)&&decide ((x.args.length:Int)=zs u x.n) else decide ((x.args.length:Int)=l7N x.op)&&inR x.n 0 255&&(decide (x.n=0)||decide (x.op=1)))\/(if gg x.op then dV c.regs x.to else decide (x.to= -1))=false:=by
  cases hs:(if gg x.op then dV c.regs x.to else decide (x.to= -1)) with
  |false=>exact .inr rfl
  |true=>
   refine .inl ?_
   rw[hlast true hs]
   by_cases o14:x.op=14
   ·rw[if_pos o14,if_pos o14]
   ·rw[if_neg o14,if_neg o14]
    by_cases o1:x.op=1
    ·rw[if_pos o1,l7N,if_pos o1]
     simp[o1]
    ·rw[if_neg o1,l7N,if_neg o1,pg,if_neg o1]
     have hr39:¬(x.op=2\/x.op=10\/x.op=11\/x.op=13)->(inR x.op 3 9=true\/x.op=12):=λh=>by
      simp only[inR,Wl,decide_eq_true_eq] at hb1⊢
      omega
     have h255:x.n=0->inR x.n 0 255=true:=λh=>by rw[h];rfl
     by_cases o2:x.op=2\/x.op=10\/x.op=11\/x.op=13
     ·rw[if_pos o2,if_pos o2,Bool.eq_iff_iff]
      simp[o1]
      constructor
      ·rintro⟨a,b⟩;exact⟨⟨b,h255 a⟩,a⟩
      ·rintro⟨⟨a,_⟩,b⟩;exact⟨b,a⟩
     ·rw[if_neg o2,if_neg o2,if_pos (hr39 o2),Bool.eq_iff_iff]
      simp[o1]
      constructor
      ·rintro⟨a,b⟩;exact⟨⟨b,h255 a⟩,a⟩
      ·rintro⟨⟨a,_⟩,b⟩;exact⟨b,a⟩
 have mQ:(if gg x.op then dV c.regs x.to else decide (x.to= -1))=true->fS u k c.regs x=(if x.op=14 then inR x.n 0 ((k:Int)-1)&&decide ((x.args.length:Int)=zs u x.n) else decide ((x.args.length:Int)=l7N x.op)&&inR x.n 0 255&&(decide (x.n=0)||decide (x.op=1))):=λh=>by
  rcases hins with h1|h1
  ·exact h1
  ·rw[h] at h1;cases h1
 clear hins hlast rest
 have hgo:gg x.op=true/\inR x.to 0 (c.regs-1)=true\/(gg x.op=false/\inR x.to 0 (c.regs-1)=false/\x.to= -1)\/(if gg x.op then dV c.regs x.to else decide (x.to= -1))=false:=by
  cases hs:gg x.op with
  |true=>
   rw[hrb]
   cases inR x.to 0 (c.regs-1)<;>simp
  |false=>
   by_cases h:x.to= -1
   ·rw[h];refine .inr (.inl ⟨rfl,?_,rfl⟩);simp[inR]
   ·simp[h]
 rcases hgo with⟨hs,ht⟩|⟨hs,ht,hto⟩|hf
 ·have tl:=mQ (by rw[hs,if_pos rfl,hrb];exact ht)
  rw[tl]
  simp-implicitDefEqProofs[hs,ht]
  refine(rn G x.op).use ?_
  simp-implicitDefEqProofs[hs]
  by_cases o14:x.op=14
  ·simp-implicitDefEqProofs[o14,hwk]
   refine(dm G x.n 0 ((k:Int)-1)).use ?_
   cases hn:inR x.n 0 ((k:Int)-1) with
   |false=>simp-implicitDefEqProofs[]
   |true=>
    simp only[inR,Wl,decide_eq_true_eq] at hn
    have hlt:x.n.toNat<u.length:=by
     have:=(VZ.1 hk).1
     omega
    obtain⟨c2,hc2⟩:∃c2,u[x.n.toNat]?=some c2:=⟨_,Wa hlt⟩
    have hc2s:=c2.cs_eq2
    clear hlt
    obtain⟨m,hm⟩:∃m:Nat,x.n=m:=⟨x.n.toNat,by omega⟩
    rw[hm] at hc2⊢
    simp only[Int.toNat_natCast] at hc2
    simp-implicitDefEqProofs[hc2,hc2s,zs]
  ·simp-implicitDefEqProofs[o14]
   refine(Fi G x.op).use ?_
   by_cases hla:(x.args.length:Int)=l7N x.op
   ·simp-implicitDefEqProofs[hla]
    refine(dm G x.n 0 255).use ?_
    cases hn:inR x.n 0 255 with
    |false=>simp-implicitDefEqProofs[]
    |true=>
     by_cases hx0:x.n=0
     ·simp-implicitDefEqProofs[hx0]
     ·simp-implicitDefEqProofs[hx0]
   ·simp-implicitDefEqProofs[hla]
 ·have tl:=mQ (by rw[hs];simp[hto])
  rw[tl]
  simp-implicitDefEqProofs[hs,ht]
  refine(rn G x.op).use ?_
  simp-implicitDefEqProofs[hs,hto]
  by_cases o14:x.op=14
  ·simp-implicitDefEqProofs[o14,hwk]
   refine(dm G x.n 0 ((k:Int)-1)).use ?_
   cases hn:inR x.n 0 ((k:Int)-1) with
   |false=>simp-implicitDefEqProofs[]
   |true=>
    simp only[inR,Wl,decide_eq_true_eq] at hn
    have hlt:x.n.toNat<u.length:=by
     have:=(VZ.1 hk).1
     omega
    obtain⟨c2,hc2⟩:∃c2,u[x.n.toNat]?=some c2:=⟨_,Wa hlt⟩
    have hc2s:=c2.cs_eq2
    clear hlt
    obtain⟨m,hm⟩:∃m:Nat,x.n=m:=⟨x.n.toNat,by omega⟩
    rw[hm] at hc2⊢
    simp only[Int.toNat_natCast] at hc2
    simp-implicitDefEqProofs[hc2,hc2s,zs]
  ·simp-implicitDefEqProofs[o14]
   refine(Fi G x.op).use ?_
   by_cases hla:(x.args.length:Int)=l7N x.op
   ·simp-implicitDefEqProofs[hla]
    refine(dm G x.n 0 255).use ?_
    cases hn:inR x.n 0 255 with
    |false=>simp-implicitDefEqProofs[]
    |true=>
     by_cases hx0:x.n=0
     ·simp-implicitDefEqProofs[hx0]
     ·simp-implicitDefEqProofs[hx0]
   ·simp-implicitDefEqProofs[hla]
 ·rw[hbad hf]
  cases hs:gg x.op with
  |true=>
   rw[hs,if_pos rfl,hrb] at hf
   simp-implicitDefEqProofs[hf]
  |false=>
   rw[hs] at hf
   have hto:¬x.to= -1:=by simpa using hf
   cases ht:inR x.to 0 (c.regs-1) with
   |true=>simp-implicitDefEqProofs[]
   |false=>
    simp-implicitDefEqProofs[]
    refine(rn G x.op).use ?_
    simp-implicitDefEqProofs[hs,hto]
def fq(l:List Int):List (List AV):=l.map λn=>[AV.p (.int .i64 n)]
structure PrS where (i:Nat) (X:List AO) (o:Nat)
theorem HU(c:Cd)(b:Int)(hl:c.blocks.length<=1073741824)(hn:∀x∈c.blocks,x.next.length<=1073741824):AC Tryz.prog G iF [.agg (c.cs.map .p),.p (.int .i64 b)] [] λx h=>∃id,x= .ret (.sl id 1 0 (cZ c.blocks b).length)/\h[id]?=some (.row 1 (fq (cZ c.blocks b))):=by
 have hcs:=c.cs_eq2
 have hbl:bkL c.blocks= .lst 5 (c.blocks.map Bk.cs):=rfl
 refine AC.go Bz ?_
 simp-implicitDefEqProofs[pM,hcs,hbl]
 obtain⟨bo,hbo⟩:∃bo,bo=AO.row 3 [[.p (.int .i64 c.params),.p (.int .i64 c.regs),.p (.lst 5 (c.blocks.map Bk.cs))]]:=⟨_,rfl⟩
 refine aN (λa:PrS=>az 43 [(1,.p (.int .i64 b)),(2,.ptr 0 3 0 0),(5,.sl a.o 1 0 (cZ (c.blocks.take a.i) b).length),(6,.p (.int .i64 a.i))]) (λa=>a.X)
  (λa=>a.i<=c.blocks.length/\a.X[0]?=some (.row 3 [[.p (.int .i64 c.params),.p (.int .i64 c.regs),.p (.lst 5 (c.blocks.map Bk.cs))]])/\1<=a.o/\a.X[a.o]?=some (.row 1 (fq (cZ (c.blocks.take a.i) b)))) (λa=>c.blocks.length-a.i) ⟨0,[.row 3 [[.p (.int .i64 c.params),.p (.int .i64 c.regs),.p (.lst 5 (c.blocks.map Bk.cs))]],.row 1 []],1⟩ ⟨WH _,rfl,by simp,rfl⟩ ?_ ?_
 ·exact al (by simp) (by simp[below,cZ])
 rintro⟨i,X,o⟩ ⟨hi,hx0,ho,hxo⟩
 simp only at hi hx0 ho hxo
 have hX0:=(VZ.1 hx0).1
 have hXo:=(VZ.1 hxo).1
 simp-implicitDefEqProofs[hx0]
 refine aO (λhc=>?_) (λhc=>?_)
 ·simp at hc
  have hg:=Wa hc
  have hm:=Wo hc
  have hpt:=vC (b:=b) hg
  have hpl:=oo (c.blocks.take i) b
  rw[Wv,Nat.min_eq_left (by omega)] at hpl
  have hnx:=hn _ hm
  generalize c.blocks[i]=x at hg hpt hnx
  generalize cZ (c.blocks.take i) b=out at hxo hpt hpl
  have hxs:=x.cs_eq2
  have hnl:bC x.next= .lst 1 (x.next.map λn=>[.int .i64 n]):=rfl
  simp-implicitDefEqProofs[]
  have hw1:=w1 (i:=i) (by omega)
  refine aN (λj:Nat=>az 43 [(7,.p (.int .i64 j)),(1,.p (.int .i64 b)),(2,.ptr 0 3 0 0),(5,.sl o 1 0 out.length),(6,.p (.int .i64 i))]) (λ_=>X) (λj=>j<=x.next.length/\b∉x.next.take j) (λj=>x.next.length-j) 0 (by simp) ?_ ?_
  ·exact al (by simp) (by simp[below,hXo,hX0])
  rintro j ⟨hj,hnb⟩
  simp-implicitDefEqProofs[hx0,hg,hxs,hnl]
  refine aO (λhc2=>?_) (λhc2=>?_)
  ·simp at hc2
   have hg2:=Wa hc2
   have htk:=aw hc2
   have hm2:=Wo hc2
   generalize x.next[j]=r at hg2 htk hm2
   simp-implicitDefEqProofs[hx0,hg,hxs,hnl,hg2]
   refine aO (λhe=>?_) (λhe=>?_)
   ·have he:r=b:=by simpa using he
    rw[if_pos (he▸hm2)] at hpt
    have hxm:∀t,(X++t)[o]?=some (.row 1 (fq out)):=λt=>by rw[VY hXo];exact hxo
    have htl:List.take out.length (fq out)=fq out:=Wg (by simp[fq])
    have hrl:(fq out).length=out.length:=by simp[fq]
    simp-implicitDefEqProofs[hxm,htl,hrl]
    refine⟨⟨by omega,by omega⟩,⟨i+1,_,X.length+1⟩,⟨by simp only;omega,?_,by simp only;omega,?_⟩,by simp only;omega,al (WH _) ?_⟩
    ·rw[VY (by simp),Wc (by omega),VY hX0];exact hx0
    ·rw[hpt,We (by simp)];simp[fq]
    ·simp[below,hpt,hw1]
   ·have he:¬r=b:=by simpa using he
    simp-implicitDefEqProofs[]
    refine⟨j+1,⟨by omega,λhm=>?_⟩,by omega,al (by simp) (by simp[below,hXo,hX0,w1 (i:=j) (by omega)])⟩
    rw[htk] at hm
    rcases Wf.1 hm with hm|hm
    ·exact hnb hm
    ·exact he (Wh.1 hm).symm
  ·simp at hc2
   rw[Wg hc2] at hnb
   rw[if_neg hnb,Wu] at hpt
   simp-implicitDefEqProofs[]
   refine⟨⟨i+1,X,o⟩,⟨by simp only;omega,hx0,ho,by rw[hpt];exact hxo⟩,by simp only;omega,al (WH _) ?_⟩
   simp[below,hpt,hw1,hXo,hX0]
 ·simp at hc
  have hie:i=c.blocks.length:=by omega
  subst hie
  rw[WA] at hxo
  simp-implicitDefEqProofs[hxo]
theorem CW{h:List AO}{id:Nat}{l:List Int}(e:h[id]?=some (.row 1 (fq l))):View h (.sl id 1 0 l.length) (bC l):=by
 have hh:fq l=(l.map λn=>[PV.int .i64 n]).map (·.map .p):=by simp[fq]
 rw[hh] at e
 exact iA e (by simp) (λx hx=>by obtain⟨b,_,rfl⟩:=WC.1 hx;rfl)
theorem JO(c:Cd)(b:Int)(hl:c.blocks.length<=1073741824)(hn:∀x∈c.blocks,x.next.length<=1073741824):VF Tryz.prog G iF [.agg (c.cs.map .p),.p (.int .i64 b)] (.p (bC (cZ c.blocks b))):=
 (HU G c b hl hn).freezeR (λt v h ⟨_,e,_⟩=>by cases e) λv h ⟨id,e1,e2⟩=>by
   cases e1
   exact .one (CW e2) .nil
theorem Kw(u:List Cd)(k b:Nat)(c:Cd)(x:Bk)(hk:u[k]?=some c)(hb:c.blocks[b]?=some x)(h0:0<=c.regs)(h1:c.regs<=300)(hu:Fh 1073741824 u):VF Tryz.prog G kX [.agg [.p (cdL u)],.p (.int .i64 k),.p (.int .i64 b)] (.p (.bool (bkB u k c b x))):=by
 have hcf:=hu.2 c (Wm hk)
 have hxf:=hcf.2 x (Wm hb)
 have hcs:=c.cs_eq2
 have hxs:=x.cs_eq2
 have hul:cdL u= .lst 3 (u.map Cd.cs):=rfl
 have hbl:bkL c.blocks= .lst 5 (c.blocks.map Bk.cs):=rfl
 have hnl:bC x.next= .lst 1 (x.next.map λn=>[.int .i64 n]):=rfl
 have hil:inL x.ins= .lst 4 (x.ins.map Ii.cs):=rfl
 have hpl:phL x.phis= .lst 2 (x.phis.map Ph.cs):=rfl
 have hwr:IntKind.i64.wrap (c.regs-1)=c.regs-1:=ab (by omega) (by omega)
 have hcl:=hcf.1
 have hwb:IntKind.i64.wrap ((c.blocks.length:Int)-1)=(c.blocks.length:Int)-1:=ab (by omega) (by omega)
 refine AC.goK BY Af ?_
 obtain⟨H0,hH0⟩:∃H0,H0=[AO.row 1 [[.p (.lst 3 (u.map Cd.cs))]],.row 3 [[.p (.int .i64 c.params),.p (.int .i64 c.regs),.p (.lst 5 (c.blocks.map Bk.cs))]],.row 5 [[.p (phL x.phis),.p (inL x.ins),.p (.int .i64 x.jump),.p (.int .i64 x.on),.p (bC x.next)]]]:=⟨_,rfl⟩
 have g0:H0[0]?=some (.row 1 [[.p (.lst 3 (u.map Cd.cs))]]):=by rw[hH0];rfl
 have g1:H0[1]?=some (.row 3 [[.p (.int .i64 c.params),.p (.int .i64 c.regs),.p (.lst 5 (c.blocks.map Bk.cs))]]):=by rw[hH0];rfl
 have g2:H0[2]?=some (.row 5 [[.p (phL x.phis),.p (inL x.ins),.p (.int .i64 x.jump),.p (.int .i64 x.on),.p (bC x.next)]]):=by rw[hH0];rfl
 have gl:H0.length=3:=by rw[hH0];rfl
 obtain⟨SL,hSL⟩:∃SL:List (Nat × AV),SL=[(8,.ptr 2 5 0 0),(7,.ptr 1 3 0 0),(3,.ptr 0 1 0 0),(1,.p (.int .i64 k)),(2,.p (.int .i64 b))]:=⟨_,rfl⟩
 simp-implicitDefEqProofs[kR,la,hul,hk,hcs,hbl,hb,hxs]
 rw[←hH0]
 refine lT (λ_:Unit=>az 136 ((9,.p (.int .i64 (nxN x.jump)))::[(8,.ptr 2 5 0 0),(7,.ptr 1 3 0 0),(3,.ptr 0 1 0 0),(1,.p (.int .i64 k)),(2,.p (.int .i64 b))])) (λ_=>H0) (λ_=>(x.jump=1/\x.on=0)\/x.jump=2\/x.jump=3) ?_ ?_
 ·by_cases j1:x.jump=1
  ·by_cases jo:x.on=0
   ·simp-implicitDefEqProofs[g2,j1,jo]
    exact al (by simp) (by simp[below,gl,nxN])
   ·have hf:bkB u k c b x=false:=by simp[bkB,onU,j1,jo]
    simp-implicitDefEqProofs[g2,j1,jo,hf]
  ·by_cases j2:x.jump=2
   ·simp-implicitDefEqProofs[g2,j2]
    exact al (by simp) (by simp[below,gl,nxN])
   ·by_cases j3:x.jump=3
    ·simp-implicitDefEqProofs[g2,j3]
     exact al (by simp) (by simp[below,gl,nxN])
    ·have hnn:nxN x.jump= -1:=by simp[nxN,j1,j2,j3]
     have hf:bkB u k c b x=false:=by
      have:¬((x.next.length:Int)= -1):=by omega
      simp[bkB,hnn,this]
     simp-implicitDefEqProofs[g2,j1,j2,j3,hf]
 rintro⟨⟩ hj
 refine lT (λ_:Unit=>az 136 [(8,.ptr 2 5 0 0),(7,.ptr 1 3 0 0),(3,.ptr 0 1 0 0),(1,.p (.int .i64 k)),(2,.p (.int .i64 b))]) (λ_=>H0) (λ_=>(decide ((x.next.length:Int)=nxN x.jump)&&(if onU x.jump then dV c.regs x.on else decide (x.on=0)))=true) ?_ ?_
 ·by_cases hlen:(x.next.length:Int)=nxN x.jump
  ·by_cases j1:x.jump=1
   ·have jo:x.on=0:=by omega
    simp-implicitDefEqProofs[g2,hlen,hnl,j1,jo]
    refine⟨by simp[onU],al (by simp) (by simp[below,gl])⟩
   ·have hon:onU x.jump=true:=by
     simp only[onU,Bool.or_eq_true,decide_eq_true_eq];omega
    simp-implicitDefEqProofs[g2,g1,hlen,hnl,j1,hwr]
    refine(dm G x.on 0 (c.regs-1)).use ?_
    cases hr:inR x.on 0 (c.regs-1) with
    |false=>
     have hf:bkB u k c b x=false:=by simp[bkB,hon,dV,hr]
     simp-implicitDefEqProofs[hf]
    |true=>
     simp-implicitDefEqProofs[hon,dV,hr]
     exact al (by simp) (by simp[below,gl])
  ·have hf:bkB u k c b x=false:=by simp[bkB,hlen]
   simp-implicitDefEqProofs[g2,hlen,hnl,hf]
 rintro⟨⟩ hc1
 refine lT (λ_:Unit=>az 136 [(8,.ptr 2 5 0 0),(7,.ptr 1 3 0 0),(3,.ptr 0 1 0 0),(1,.p (.int .i64 k)),(2,.p (.int .i64 b))]) (λ_=>H0) (λ_=>x.next.all (λn=>inR n 1 ((c.blocks.length:Int)-1))=true) ?_ ?_
 ·simp-implicitDefEqProofs[]
  refine aN (λi:Nat=>az 136 [(10,.p (.int .i64 i)),(8,.ptr 2 5 0 0),(7,.ptr 1 3 0 0),(3,.ptr 0 1 0 0),(1,.p (.int .i64 k)),(2,.p (.int .i64 b))]) (λ_=>H0) (λi=>i<=x.next.length/\∀n∈x.next.take i,inR n 1 ((c.blocks.length:Int)-1)=true) (λi=>x.next.length-i) 0 (by simp) (al (by simp) (by simp[below,gl])) ?_
  rintro i ⟨hi,hp⟩
  simp-implicitDefEqProofs[g2,hnl]
  refine aO (λhc=>?_) (λhc=>?_)
  ·simp at hc
   have hg:=Wa hc
   have htk:=aw hc
   have hm:=Wo hc
   have hxn:=hxf.next
   generalize x.next[i]=n at hg htk hm
   simp-implicitDefEqProofs[g2,g1,hnl,hg,hwb]
   refine(dm G n 1 ((c.blocks.length:Int)-1)).use ?_
   cases hr:inR n 1 ((c.blocks.length:Int)-1) with
   |false=>
    have hf:bkB u k c b x=false:=by
     rw[bkB,no hm (p:=λn=>inR n 1 ((c.blocks.length:Int)-1)) hr];simp
    simp-implicitDefEqProofs[hf]
   |true=>
    simp-implicitDefEqProofs[]
    refine⟨i+1,⟨by omega,λy hy=>?_⟩,by omega,al (by simp) (by simp[below,gl,w1 (i:=i) (by omega)])⟩
    rw[htk] at hy
    rcases Wf.1 hy with hy|hy
    ·exact hp y hy
    ·rw[Wh.1 hy];exact hr
  ·simp at hc
   rw[Wg hc] at hp
   simp-implicitDefEqProofs[]
   exact⟨hp,al (by simp) (by simp[below,gl])⟩
 rintro⟨⟩ hc2
 refine lT (λ_:Unit=>az 136 [(8,.ptr 2 5 0 0),(7,.ptr 1 3 0 0),(3,.ptr 0 1 0 0),(1,.p (.int .i64 k)),(2,.p (.int .i64 b))]) (λ_=>H0) (λ_=>x.ins.all (fS u k c.regs)=true) ?_ ?_
 ·simp-implicitDefEqProofs[]
  refine aN (λi:Nat=>az 136 [(11,.p (.int .i64 i)),(8,.ptr 2 5 0 0),(7,.ptr 1 3 0 0),(3,.ptr 0 1 0 0),(1,.p (.int .i64 k)),(2,.p (.int .i64 b))]) (λ_=>H0) (λi=>i<=x.ins.length/\∀n∈x.ins.take i,fS u k c.regs n=true) (λi=>x.ins.length-i) 0 (by simp) (al (by simp) (by simp[below,gl])) ?_
  rintro i ⟨hi,hp⟩
  simp-implicitDefEqProofs[g2,hil]
  refine aO (λhc=>?_) (λhc=>?_)
  ·simp at hc
   have hg:=Wa hc
   have htk:=aw hc
   have hm:=Wo hc
   have hxn:=hxf.ins
   have hargs:=hxf.ia _ hm
   generalize x.ins[i]=n at hg htk hm hargs
   have hns:=n.cs_eq2
   have hI:=OG G u k c hk h0 h1 hu.1 n hargs
   rw[hns,hul] at hI
   simp-implicitDefEqProofs[g2,g0,hil,hg,hns]
   refine hI.use ?_
   cases hr:fS u k c.regs n with
   |false=>
    have hf:bkB u k c b x=false:=by
     rw[bkB,no hm (p:=fS u k c.regs) hr];simp
    simp-implicitDefEqProofs[hf]
   |true=>
    simp-implicitDefEqProofs[]
    refine⟨i+1,⟨by omega,λy hy=>?_⟩,by omega,al (by simp) (by simp[below,gl,w1 (i:=i) (by omega)])⟩
    rw[htk] at hy
    rcases Wf.1 hy with hy|hy
    ·exact hp y hy
    ·rw[Wh.1 hy];exact hr
  ·simp at hc
   rw[Wg hc] at hp
   simp-implicitDefEqProofs[]
   exact⟨hp,al (by simp) (by simp[below,gl])⟩
 rintro⟨⟩ hc3
 have hP:=JO G c b hcl (λy hy=>(hcf.2 y hy).next)
 rw[hcs,hbl] at hP
 obtain⟨P,hPe⟩:∃P,P=cZ c.blocks b:=⟨_,rfl⟩
 have hPl:P.length<=1073741824:=by rw[hPe];exact WQ (oo _ _) hcl
 rw[←hPe] at hP
 have hPL:bC P= .lst 1 (P.map λn=>[.int .i64 n]):=rfl
 rw[hPL] at hP
 simp-implicitDefEqProofs[g1]
 refine hP.use ?_
 simp-implicitDefEqProofs[]
 refine lT (λ_:Unit=>az 136 [(8,.ptr 2 5 0 0)]) (λ_=>H0) (λ_=>x.phis.all (phB c.regs b P.length)=true) ?_ ?_
 ·simp-implicitDefEqProofs[]
  refine aN (λi:Nat=>az 136 [(13,.p (.int .i64 i)),(12,.p (.lst 1 (P.map λn=>[.int .i64 n]))),(8,.ptr 2 5 0 0),(7,.ptr 1 3 0 0),(3,.ptr 0 1 0 0),(1,.p (.int .i64 k)),(2,.p (.int .i64 b))]) (λ_=>H0) (λi=>i<=x.phis.length/\∀n∈x.phis.take i,phB c.regs b P.length n=true) (λi=>x.phis.length-i) 0 (by simp) (al (by simp) (by simp[below,gl])) ?_
  rintro i ⟨hi,hp⟩
  simp-implicitDefEqProofs[g2,hpl]
  refine aO (λhc=>?_) (λhc=>?_)
  ·simp at hc
   have hg:=Wa hc
   have htk:=aw hc
   have hm:=Wo hc
   have hxn:=hxf.phis
   have hargs:=hxf.pa _ hm
   generalize x.phis[i]=n at hg htk hm hargs
   have hns:=n.cs_eq2
   have hna:bC n.args= .lst 1 (n.args.map λn=>[.int .i64 n]):=rfl
   have hbad:phB c.regs b P.length n=false->bkB u k c b x=false:=λh=>by
    rw[bkB,←hPe,no hm (p:=phB c.regs b P.length) h];simp
   have hR:=FB G c h0 h1 n.args hargs
   rw[hcs,hbl,hna] at hR
   by_cases hb0:b=0
   ·subst hb0
    have hf:=hbad (by simp[phB])
    simp-implicitDefEqProofs[hf]
   ·have hb0':¬(b:Int)=0:=by omega
    by_cases hl:n.args.length=P.length
    ·have hl':(n.args.length:Int)=(P.length:Int):=by omega
     simp-implicitDefEqProofs[hb0,hb0',g2,g1,hpl,hg,hns,hna,hl']
     refine hR.use ?_
     cases hr:n.args.all (dV c.regs) with
     |false=>
      have hf:=hbad (by simp[phB,hr])
      simp-implicitDefEqProofs[hf]
     |true=>
      simp-implicitDefEqProofs[g2,g1,hpl,hg,hns,hna,hwr]
      refine(dm G n.to 0 (c.regs-1)).use ?_
      cases ht:inR n.to 0 (c.regs-1) with
      |false=>
       have hf:=hbad (by simp[phB,dV,ht])
       simp-implicitDefEqProofs[hf]
      |true=>
       simp-implicitDefEqProofs[]
       refine⟨i+1,⟨by omega,λy hy=>?_⟩,by omega,al (by simp) (by simp[below,gl,w1 (i:=i) (by omega)])⟩
       rw[htk] at hy
       rcases Wf.1 hy with hy|hy
       ·exact hp y hy
       ·rw[Wh.1 hy]
        simp only[phB,hb0,hl,hr,dV,ht]
        rfl
    ·have hl':¬(n.args.length:Int)=(P.length:Int):=by omega
     have hf:=hbad (by simp[phB,hl])
     simp-implicitDefEqProofs[hb0,hb0',g2,g1,hpl,hg,hns,hna,hl',hf]
  ·simp at hc
   rw[Wg hc] at hp
   simp-implicitDefEqProofs[]
   exact⟨hp,al (by simp) (by simp[below,gl])⟩
 rintro⟨⟩ hc4
 have ht:bkB u k c b x=true:=by
  rw[bkB,←hPe,hc1,hc2,hc3,hc4];rfl
 simp-implicitDefEqProofs[ht]
theorem LP{u:List Cd}{k:Nat}{c:Cd}(h1:inR c.params 0 3=true)(h2:inR c.regs c.params 300=true)(h3:inR c.blocks.length 1 160=true)(h4:∀(j:Nat) (x:Bk),c.blocks[j]?=some x->bkB u k c j x=true):cdB u k c=true:=by
 rw[cdB,h1,h2,h3,allI_iff.2 h4];rfl
def bkS(N:Nat)(l:List Bk)(j:Nat):Nat:=N+((l.take j).map bkN).sum
theorem ut(N:Nat)(l:List Bk):bkS N l 0=N:=by simp[bkS]
theorem Dx(N:Nat)(l:List Bk):bkS N l l.length=N+(l.map bkN).sum:=by rw[bkS,WA]
theorem Ah(N:Nat){l:List Bk}{j:Nat}{x:Bk}(h:l[j]?=some x):bkS N l (j+1)=bkS N l j+x.ins.length+x.phis.length:=by rw[bkS,bkS,lK bkN h,bkN];omega
theorem vZ(u:List Cd)(hu:Fh 1073741824 u):VF Tryz.prog G fj [.agg [.p (cdL u)]] (.p (.bool (unB u))):=by
 have hul:cdL u= .lst 3 (u.map Cd.cs):=rfl
 have hu1:=hu.1
 refine AC.go uX ?_
 simp-implicitDefEqProofs[nw,hul]
 refine(dm G u.length 1 4).use ?_
 cases hr:inR u.length 1 4 with
 |false=>
  have hf:unB u=false:=by simp[unB,hr]
  simp-implicitDefEqProofs[hf]
 |true=>
 simp-implicitDefEqProofs[]
 refine aN (λi:Nat=>az 76 [(4,.p (.int .i64 i)),(3,.p (.int .i64 (unN (u.take i)))),(1,.ptr 0 1 0 0)]) (λ_=>[.row 1 [[.p (.lst 3 (u.map Cd.cs))]]]) (λi=>i<=u.length/\(∀(j:Nat) (c:Cd),j<i->u[j]?=some c->cdB u j c=true)/\unN (u.take i)<=800) (λi=>u.length-i) 0 ⟨WH _,λj c h=>(by omega),WH _⟩ (al (by simp) (by simp[below,show unN ([]:List Cd)=0 from rfl])) ?_
 rintro i ⟨hi,hp,hn8⟩
 simp-implicitDefEqProofs[]
 refine aO (λhc=>?_) (λhc=>?_)
 ·simp at hc
  have hg:=Wa hc
  have htn:=lK cdN hg
  have hle:=λj=>vH u hg j
  have hcf:=hu.2 _ (Wo hc)
  generalize u[i]=c at hg htn hle hcf
  have hcs:=c.cs_eq2
  have hbl:bkL c.blocks= .lst 5 (c.blocks.map Bk.cs):=rfl
  obtain⟨N,hN⟩:∃N,N=unN (u.take i):=⟨_,rfl⟩
  rw[←hN] at hn8⊢
  have hbad:cdB u i c=false->unB u=false:=λh=>by rw[unB,nW hg h];simp
  simp-implicitDefEqProofs[hg,hcs,hbl]
  refine(dm G c.params 0 3).use ?_
  cases h1:inR c.params 0 3 with
  |false=>
   have hf:=hbad (by simp[cdB,h1])
   simp-implicitDefEqProofs[hf]
  |true=>
  simp-implicitDefEqProofs[]
  refine(dm G c.regs c.params 300).use ?_
  cases h2:inR c.regs c.params 300 with
  |false=>
   have hf:=hbad (by simp[cdB,h2])
   simp-implicitDefEqProofs[hf]
  |true=>
  simp-implicitDefEqProofs[]
  refine(dm G c.blocks.length 1 160).use ?_
  cases h3:inR c.blocks.length 1 160 with
  |false=>
   have hf:=hbad (by simp[cdB,h3])
   simp-implicitDefEqProofs[hf]
  |true=>
  have hrg:0<=c.regs/\c.regs<=300:=by
   simp only[inR,Wl,decide_eq_true_eq] at h1 h2
   omega
  have hcl:=hcf.1
  simp-implicitDefEqProofs[]
  refine aN (λj:Nat=>az 76 [(6,.p (.int .i64 j)),(3,.p (.int .i64 (bkS N c.blocks j))),(5,.ptr 1 3 0 0),(4,.p (.int .i64 i)),(1,.ptr 0 1 0 0)]) (λ_=>[.row 1 [[.p (.lst 3 (u.map Cd.cs))]],.row 3 [[.p (.int .i64 c.params),.p (.int .i64 c.regs),.p (.lst 5 (c.blocks.map Bk.cs))]]]) (λj=>j<=c.blocks.length/\(∀(q:Nat) (x:Bk),q<j->c.blocks[q]?=some x->bkB u i c q x=true)/\bkS N c.blocks j<=800) (λj=>c.blocks.length-j) 0 ⟨WH _,λj c h=>(by omega),by rw[ut];exact hn8⟩ (al (by simp) (by simp[below,ut])) ?_
  rintro j ⟨hj,hq,hm8⟩
  simp-implicitDefEqProofs[]
  refine aO (λhc2=>?_) (λhc2=>?_)
  ·simp at hc2
   have hg2:=Wa hc2
   have hM2:=Ah N hg2
   have hxf:=hcf.2 _ (Wo hc2)
   generalize c.blocks[j]=x at hg2 hM2 hxf
   have hxs:=x.cs_eq2
   have hxi:=hxf.ins
   have hxp:=hxf.phis
   have hil:inL x.ins= .lst 4 (x.ins.map Ii.cs):=rfl
   have hpl:phL x.phis= .lst 2 (x.phis.map Ph.cs):=rfl
   obtain⟨M,hM⟩:∃M,M=bkS N c.blocks j:=⟨_,rfl⟩
   rw[←hM] at hm8 hM2⊢
   have w1':IntKind.i64.wrap ((M:Int)+(x.ins.length:Int))=(M:Int)+(x.ins.length:Int):=ab (by omega) (by omega)
   have w2':IntKind.i64.wrap ((M:Int)+(x.ins.length:Int)+(x.phis.length:Int))=(M:Int)+(x.ins.length:Int)+(x.phis.length:Int):=ab (by omega) (by omega)
   have hwj:=w1 (i:=j) (by omega)
   by_cases h8:800<M+x.ins.length+x.phis.length
   ·have h8':(800:Int)<(M:Int)+(x.ins.length:Int)+(x.phis.length:Int):=by omega
    have hf:unB u=false:=by
     have:=hle (j+1)
     rw[←hN] at this
     have h3:N+((c.blocks.take (j+1)).map bkN).sum=bkS N c.blocks (j+1):=rfl
     rw[h3,hM2] at this
     have hd:decide (unN u<=800)=false:=by simp;omega
     rw[unB,hd];simp
    simp-implicitDefEqProofs[hg2,hxs,hil,hpl,w1',w2',h8',hf]
   ·have h8':¬(800:Int)<(M:Int)+(x.ins.length:Int)+(x.phis.length:Int):=by omega
    have hB:=Kw G u i j c x hg hg2 hrg.1 hrg.2 hu
    rw[hul] at hB
    simp-implicitDefEqProofs[hg2,hxs,hil,hpl,w1',w2',h8']
    refine hB.use ?_
    cases hbb:bkB u i c j x with
    |false=>
     have hf:=hbad (by rw[cdB,nW hg2 hbb];simp)
     simp-implicitDefEqProofs[hf]
    |true=>
     simp-implicitDefEqProofs[]
     refine⟨j+1,⟨by omega,λq y hqj hy=>?_,by omega⟩,by omega,al (by simp) ?_⟩
     ·rcases WM q j with h|h
      ·exact hq q y h hy
      ·have:q=j:=by omega
       subst this
       rw[hg2] at hy
       cases hy
       exact hbb
     ·have hcast:(bkS N c.blocks (j+1):Int)=(M:Int)+(x.ins.length:Int)+(x.phis.length:Int):=by omega
      simp-implicitDefEqProofs only[hcast]
      simp[below,hwj]
  ·simp at hc2
   have hje:j=c.blocks.length:=by omega
   subst hje
   have hcd:=LP h1 h2 h3 (λq x hx=>hq q x (VZ.1 hx).1 hx)
   have hcN:bkS N c.blocks c.blocks.length=N+cdN c:=Dx N c.blocks
   rw[hcN] at hm8⊢
   have htn2:unN (u.take (i+1))=N+cdN c:=by rw[hN];exact htn
   simp-implicitDefEqProofs[]
   refine⟨i+1,⟨by omega,λq y hqj hy=>?_,by omega⟩,by omega,di (m:=1) (by omega) (bP rfl rfl (by simp[okO,below])) ?_⟩
   ·rcases WM q i with h|h
    ·exact hp q y h hy
    ·have:q=i:=by omega
     subst this
     rw[hg] at hy
     cases hy
     exact hcd
   ·have hcast:((unN (u.take (i+1)):Nat):Int)=(N:Int)+(cdN c:Int):=by omega
    simp-implicitDefEqProofs only[hcast]
    simp[below,w1 (i:=i) (by omega)]
 ·simp at hc
  have hie:i=u.length:=by omega
  subst hie
  rw[WA] at hn8
  have ht:unB u=true:=by
   rw[unB,hr,allI_iff.2 (λq c hq=>hp q c (VZ.1 hq).1 hq)]
   simp[hn8]
  simp-implicitDefEqProofs[ht]
end
section
theorem DA:AK.whole nT=FK.ak ov:=rfl
variable (G:aK)
theorem Jv(o:Int):VF Tryz.prog G kA [.p (.int .i64 o)] (.p (.bool (inR o 1 14))):=by
 refine AC.go DK ?_
 simp-implicitDefEqProofs[tn]
 refine(cM G o 1 14).use ?_
 simp-implicitDefEqProofs[]
theorem DD(o:Int):VF Tryz.prog G mw [.p (.int .i64 o)] (.p (.bool (gg o))):=by
 refine AC.go FX ?_
 simp-implicitDefEqProofs[yZ]
 refine(Jv G o).use ?_
 cases hb:inR o 1 14 with
 |false=>simp-implicitDefEqProofs[gg,hb]
 |true=>
  by_cases h1:o=12
  ·simp-implicitDefEqProofs[gg,hb,h1]
  ·simp-implicitDefEqProofs[gg,hb,h1]
theorem Ks(o:Int):VF Tryz.prog G lJ [.p (.int .i64 o)] (.p (.int .i64 (pg o))):=by
 refine AC.go BS ?_
 by_cases h1:o=1
 ·simp-implicitDefEqProofs[cP,pg,h1]
 by_cases h2:o=2
 ·simp-implicitDefEqProofs[cP,pg,h2]
 by_cases h3:o=10
 ·simp-implicitDefEqProofs[cP,pg,h3]
 by_cases h4:o=11
 ·simp-implicitDefEqProofs[cP,pg,h4]
 by_cases h5:o=13
 ·simp-implicitDefEqProofs[cP,pg,h5]
 simp-implicitDefEqProofs[cP,pg,h1,h2,h3,h4,h5]
theorem Fq(o:Int):VF Tryz.prog G jc [.p (.int .i64 o)] (.p (.int .i64 (nxN o))):=by
 refine AC.go uG ?_
 by_cases h1:o=1
 ·simp-implicitDefEqProofs[dG,nxN,h1]
 by_cases h2:o=2
 ·simp-implicitDefEqProofs[dG,nxN,h2]
 by_cases h3:o=3
 ·simp-implicitDefEqProofs[dG,nxN,h3]
 simp-implicitDefEqProofs[dG,nxN,h1,h2,h3]
theorem Bv(o:Int):VF Tryz.prog G jC [.p (.int .i64 o)] (.p (.bool (onU o))):=by
 refine AC.go Cg ?_
 by_cases h1:o=2
 ·simp-implicitDefEqProofs[mE,onU,h1]
 simp-implicitDefEqProofs[mE,onU,h1]
theorem GF(l:List Int)(v:Int)(hl:l.length<=1073741824):VF Tryz.prog G gE [.p (bC l),.p (.int .i64 v)] (.p (.int .i64 (ixI (l.findIdx? λx=>decide (v=x))))):=by
 have hnl:bC l= .lst 1 (l.map λn=>[.int .i64 n]):=rfl
 refine AC.go sP ?_
 simp-implicitDefEqProofs[lI,hnl]
 refine aN (λi:Nat=>az 19 [(8,.p (.int .i64 i)),(7,.p (.int .i64 l.length)),(0,.p (.lst 1 (l.map λn=>[.int .i64 n]))),(1,.p (.int .i64 v))]) (λ_=>[]) (λi=>i<=l.length/\∀x∈l.take i,¬v=x) (λi=>l.length-i) 0 (by simp) (cy rfl (by simp[below])) ?_
 rintro i ⟨hi,hp⟩
 simp-implicitDefEqProofs[]
 refine aO (λhc=>?_) (λhc=>?_)
 ·simp at hc
  have hg:=Wa hc
  have htk:=aw hc
  have hfi:v=l[i]->(l.findIdx? λx=>decide (v=x))=some i:=λe=>by
   rw[Ww]
   exact⟨hc,by simpa using e,λj hj=>by have:=hp l[j] (List.mem_take_iff_getElem.2 ⟨j,by omega,rfl⟩);simpa using this⟩
  generalize l[i]=x at hg htk hfi
  simp-implicitDefEqProofs[hg]
  refine aO (λhe=>?_) (λhe=>?_)
  ·have he:v=x:=by simpa using he
   rw[hfi he]
   simp-implicitDefEqProofs[ixI]
  ·have he:¬v=x:=by simpa using he
   simp-implicitDefEqProofs[]
   refine⟨i+1,⟨by omega,λy hy=>?_⟩,by omega,cy rfl (by simp[below,w1 (i:=i) (by omega)])⟩
   rw[htk] at hy
   rcases Wf.1 hy with hy|hy
   ·exact hp y hy
   ·rw[Wh.1 hy];exact he
 ·simp at hc
  rw[Wg hc] at hp
  have hf:(l.findIdx? λx=>decide (v=x))=none:=by
   rw[WJ]
   intro x hx
   simpa using hp x hx
  rw[hf]
  simp-implicitDefEqProofs[ixI]
theorem Ct(l:List Int)(v:Int)(hl:l.length<=1073741824):VF Tryz.prog G er [.p (bC l),.p (.int .i64 v)] (.p (.bool (decide (v∈l)))):=by
 refine AC.go oY ?_
 simp-implicitDefEqProofs[iP]
 refine(GF G l v hl).use ?_
 simp-implicitDefEqProofs[]
 cases hf:l.findIdx? λx=>decide (v=x) with
 |none=>
  rw[WJ] at hf
  have:¬v∈l:=λhm=>by have:=hf v hm;simp at this
  simp[ixI,this]
 |some i=>
  rw[Ww] at hf
  obtain⟨h1,h2,_⟩:=hf
  have:v∈l:=by
   have h2:v=l[i]:=by simpa using h2
   rw[h2];exact Wo h1
  simp[ixI,this]
theorem JD{α:Type}(l:List α)(p:α->Bool):decide (0<=ixI (l.findIdx? p))=l.any p:=by
 cases hf:l.findIdx? p with
 |none=>
  rw[WJ] at hf
  have:l.any p=false:=by rw[List.any_eq_false];intro x hx;simp[hf x hx]
  simp[ixI,this]
 |some i=>
  rw[Ww] at hf
  obtain⟨h1,h2,_⟩:=hf
  have:l.any p=true:=by rw[List.any_eq_true];exact⟨_,Wo h1,h2⟩
  simp[ixI,this]
section
variable {h:List AO} {f:FuncId} {caps:List AV}
theorem Fp(xs:List Int)(p:Int->Bool)(hl:xs.length<=1073741824)(hcap:ay h.length caps)
 (hcall:∀x∈xs,AC Tryz.prog G f (.p (.int .i64 x)::caps) h λr h'=>r= .ret (.p (.bool (p x)))/\h'=h):
 AC Tryz.prog G dQ [.p (bC xs),.fn (.func f) caps] h λr h'=>r= .ret (.p (.int .i64 (ixI (xs.findIdx? p))))/\h'=h:=by
 have hnl:bC xs= .lst 1 (xs.map λn=>[.int .i64 n]):=rfl
 refine AC.go nZ ?_
 simp-implicitDefEqProofs[gW,hnl]
 refine aN (λi:Nat=>az 19 [(8,.p (.int .i64 i)),(7,.p (.int .i64 xs.length)),(0,.p (.lst 1 (xs.map λn=>[.int .i64 n]))),(1,.fn (.func f) caps)]) (λ_=>h) (λi=>i<=xs.length/\∀x∈xs.take i,p x=false) (λi=>xs.length-i) 0 (by simp) (al (Wn _) (by simp[below,hcap])) ?_
 rintro i ⟨hi,hp⟩
 simp-implicitDefEqProofs[]
 refine aO (λhc=>?_) (λhc=>?_)
 ·simp at hc
  have hg:=Wa hc
  have htk:=aw hc
  have hfi:p xs[i]=true->xs.findIdx? p=some i:=λe=>by
   rw[Ww]
   exact⟨hc,e,λj hj=>by have:=hp xs[j] (List.mem_take_iff_getElem.2 ⟨j,by omega,rfl⟩);simp[this]⟩
  have hcl:=hcall _ (Wo hc)
  generalize xs[i]=x at hg htk hfi hcl
  simp-implicitDefEqProofs[hg]
  refine hcl.mono ?_
  rintro r h' ⟨rfl,rfl⟩
  cases hpx:p x with
  |true=>
   rw[hfi hpx]
   simp-implicitDefEqProofs[aa,ixI]
  |false=>
   simp-implicitDefEqProofs[aa]
   refine⟨i+1,⟨by omega,λy hy=>?_⟩,by omega,al (Wn _) (by simp[below,hcap,w1 (i:=i) (by omega)])⟩
   rw[htk] at hy
   rcases Wf.1 hy with hy|hy
   ·exact hp y hy
   ·rw[Wh.1 hy];exact hpx
 ·simp at hc
  rw[Wg hc] at hp
  have hf:xs.findIdx? p=none:=by rw[WJ];exact hp
  rw[hf]
  simp-implicitDefEqProofs[ixI]
theorem sL(xs:List Int)(p:Int->Bool)(hl:xs.length<=1073741824)(hcap:ay h.length caps)
 (hcall:∀x∈xs,AC Tryz.prog G f (.p (.int .i64 x)::caps) h λr h'=>r= .ret (.p (.bool (p x)))/\h'=h):
 AC Tryz.prog G bv [.p (bC xs),.fn (.func f) caps] h λr h'=>r= .ret (.p (.bool (xs.any p)))/\h'=h:=by
 refine AC.go lU ?_
 simp-implicitDefEqProofs[fu]
 refine(Fp G xs p hl hcap hcall).mono ?_
 rintro r h' ⟨rfl,rfl⟩
 simp-implicitDefEqProofs[aa,JD]
theorem ER(xs:List Ii)(p:Ii->Bool)(hl:xs.length<=1073741824)(hcap:ay h.length caps)
 (hcall:∀x∈xs,AC Tryz.prog G f (.agg (x.cs.map .p)::caps) h λr h'=>r= .ret (.p (.bool (p x)))/\h'=h):
 AC Tryz.prog G cx [.p (inL xs),.fn (.func f) caps] h λr h'=>r= .ret (.p (.int .i64 (ixI (xs.findIdx? p))))/\h'=h:=by
 have hnl:inL xs= .lst 4 (xs.map Ii.cs):=rfl
 refine AC.go kC ?_
 simp-implicitDefEqProofs[ey,hnl]
 refine aN (λi:Nat=>az 19 [(8,.p (.int .i64 i)),(7,.p (.int .i64 xs.length)),(0,.p (.lst 4 (xs.map Ii.cs))),(1,.fn (.func f) caps)]) (λ_=>h) (λi=>i<=xs.length/\∀x∈xs.take i,p x=false) (λi=>xs.length-i) 0 (by simp) (al (Wn _) (by simp[below,hcap])) ?_
 rintro i ⟨hi,hp⟩
 simp-implicitDefEqProofs[]
 refine aO (λhc=>?_) (λhc=>?_)
 ·simp at hc
  have hg:=Wa hc
  have htk:=aw hc
  have hfi:p xs[i]=true->xs.findIdx? p=some i:=λe=>by
   rw[Ww]
   exact⟨hc,e,λj hj=>by have:=hp xs[j] (List.mem_take_iff_getElem.2 ⟨j,by omega,rfl⟩);simp[this]⟩
  have hcl:=hcall _ (Wo hc)
  generalize xs[i]=x at hg htk hfi hcl
  have hxs:=x.cs_eq2
  rw[hxs] at hcl
  simp-implicitDefEqProofs[hg,hxs]
  refine hcl.mono ?_
  rintro r h' ⟨rfl,rfl⟩
  cases hpx:p x with
  |true=>
   rw[hfi hpx]
   simp-implicitDefEqProofs[aa,ixI]
  |false=>
   simp-implicitDefEqProofs[aa]
   refine⟨i+1,⟨by omega,λy hy=>?_⟩,by omega,al (Wn _) (by simp[below,hcap,w1 (i:=i) (by omega)])⟩
   rw[htk] at hy
   rcases Wf.1 hy with hy|hy
   ·exact hp y hy
   ·rw[Wh.1 hy];exact hpx
 ·simp at hc
  rw[Wg hc] at hp
  have hf:xs.findIdx? p=none:=by rw[WJ];exact hp
  rw[hf]
  simp-implicitDefEqProofs[ixI]
theorem Hd(xs:List Ii)(p:Ii->Bool)(hl:xs.length<=1073741824)(hcap:ay h.length caps)
 (hcall:∀x∈xs,AC Tryz.prog G f (.agg (x.cs.map .p)::caps) h λr h'=>r= .ret (.p (.bool (p x)))/\h'=h):
 AC Tryz.prog G bX [.p (inL xs),.fn (.func f) caps] h λr h'=>r= .ret (.p (.bool (xs.any p)))/\h'=h:=by
 refine AC.go iV ?_
 simp-implicitDefEqProofs[dB]
 refine(ER G xs p hl hcap hcall).mono ?_
 rintro r h' ⟨rfl,rfl⟩
 simp-implicitDefEqProofs[aa,JD]
end
theorem Du{h:List AO}{c:Cd}{q:Nat}(hq:h[q]?=some (.row 3 [[.p (.int .i64 c.params),.p (.int .i64 c.regs),.p (bkL c.blocks)]]))(h0:0<=c.regs)(h1:c.regs<=300)(r:Int):AC Tryz.prog G dF [.p (.int .i64 r),.ptr q 3 0 0] h λx h'=>x= .ret (.p (.bool (dV c.regs r)))/\h'=h:=by
 have hwr:IntKind.i64.wrap (c.regs-1)=c.regs-1:=ab (by omega) (by omega)
 refine AC.go AU ?_
 simp-implicitDefEqProofs[pF,hq,hwr]
 refine(cM G r 0 (c.regs-1)).use ?_
 simp-implicitDefEqProofs[dV]
theorem tg{h:List AO}{c:Cd}{q:Nat}(hq:h[q]?=some (.row 3 [[.p (.int .i64 c.params),.p (.int .i64 c.regs),.p (bkL c.blocks)]]))(h0:0<=c.regs)(h1:c.regs<=300)(r:Int):AC Tryz.prog G bR [.p (.int .i64 r),.ptr q 3 0 0] h λx h'=>x= .ret (.p (.bool (dV c.regs r)))/\h'=h:=by
 have hwr:IntKind.i64.wrap (c.regs-1)=c.regs-1:=ab (by omega) (by omega)
 refine AC.go zy ?_
 simp-implicitDefEqProofs[oG,hq,hwr]
 refine(cM G r 0 (c.regs-1)).use ?_
 simp-implicitDefEqProofs[dV]
theorem Kp{h:List AO}{c:Cd}{q p:Nat}(hq:h[q]?=some (.row 3 [[.p (.int .i64 c.params),.p (.int .i64 c.regs),.p (bkL c.blocks)]]))(hp:h[p]?=some (.row 1 [[.fn (.func dF) [.ptr q 3 0 0]]]))(h0:0<=c.regs)(h1:c.regs<=300)(r:Int):AC Tryz.prog G lq [.p (.int .i64 r),.ptr p 1 0 0] h λx h'=>x= .ret (.p (.bool (!dV c.regs r)))/\h'=h:=by
 refine AC.go BO ?_
 simp-implicitDefEqProofs[pk,hp]
 refine(Du G hq h0 h1 r).mono ?_
 rintro x h' ⟨rfl,rfl⟩
 simp-implicitDefEqProofs[aa]
theorem Il{h:List AO}{c:Cd}{q p:Nat}(hq:h[q]?=some (.row 3 [[.p (.int .i64 c.params),.p (.int .i64 c.regs),.p (bkL c.blocks)]]))(hp:h[p]?=some (.row 1 [[.fn (.func bR) [.ptr q 3 0 0]]]))(h0:0<=c.regs)(h1:c.regs<=300)(r:Int):AC Tryz.prog G kg [.p (.int .i64 r),.ptr p 1 0 0] h λx h'=>x= .ret (.p (.bool (!dV c.regs r)))/\h'=h:=by
 refine AC.go zB ?_
 simp-implicitDefEqProofs[oJ,hp]
 refine(tg G hq h0 h1 r).mono ?_
 rintro x h' ⟨rfl,rfl⟩
 simp-implicitDefEqProofs[aa]
theorem Hi{h:List AO}{c:Cd}{q:Nat}(hq:h[q]?=some (.row 3 [[.p (.int .i64 c.params),.p (.int .i64 c.regs),.p (bkL c.blocks)]]))(hl:c.blocks.length<=1073741824)(r:Int):AC Tryz.prog G jU [.p (.int .i64 r),.ptr q 3 0 0] h λx h'=>x= .ret (.p (.bool (!inR r 1 ((c.blocks.length:Int)-1))))/\h'=h:=by
 have hbl:bkL c.blocks= .lst 5 (c.blocks.map Bk.cs):=rfl
 have hwb:IntKind.i64.wrap ((c.blocks.length:Int)-1)=(c.blocks.length:Int)-1:=ab (by omega) (by omega)
 refine AC.go zm ?_
 simp-implicitDefEqProofs[oF,hq,hbl,hwb]
 refine(cM G r 1 ((c.blocks.length:Int)-1)).use ?_
 simp-implicitDefEqProofs[]
theorem zS{α:Type}(l:List α)(p:α->Bool):l.any (λx=> !p x)= !l.all p:=by
 rw[List.not_all_eq_any_not]
theorem Qg(u:List Cd)(k:Nat)(c:Cd)(hk:u[k]?=some c)(h0:0<=c.regs)(h1:c.regs<=300)(hu:u.length<=1073741824)(x:Ii)(hl:x.args.length<=1073741824):VF Tryz.prog G ow [.agg [.p (cdL u)],.p (.int .i64 k),.agg (x.cs.map .p)] (.p (.bool (fS u k c.regs x))):=by
 have hcs:=c.cs_eq2
 have hxs:=x.cs_eq2
 have hul:cdL u= .lst 3 (u.map Cd.cs):=rfl
 have hnl:bC x.args= .lst 1 (x.args.map λn=>[.int .i64 n]):=rfl
 have hku:=(VZ.1 hk).1
 have hwk:IntKind.i64.wrap ((k:Int)-1)=(k:Int)-1:=ab (by omega) (by omega)
 obtain⟨H0,hH0⟩:∃H0,H0=[AO.row 1 [[.p (.lst 3 (u.map Cd.cs))]],.row 4 [[.p (.int .i64 x.op),.p (.int .i64 x.to),.p (.lst 1 (x.args.map λn=>[.int .i64 n])),.p (.int .i64 x.n)]],.row 3 [[.p (.int .i64 c.params),.p (.int .i64 c.regs),.p (bkL c.blocks)]],.row 1 [[.fn (.func dF) [.ptr 2 3 0 0]]]]:=⟨_,rfl⟩
 have g0:H0[0]?=some (.row 1 [[.p (.lst 3 (u.map Cd.cs))]]):=by rw[hH0];rfl
 have g1:H0[1]?=some (.row 4 [[.p (.int .i64 x.op),.p (.int .i64 x.to),.p (.lst 1 (x.args.map λn=>[.int .i64 n])),.p (.int .i64 x.n)]]):=by rw[hH0];rfl
 have g2:H0[2]?=some (.row 3 [[.p (.int .i64 c.params),.p (.int .i64 c.regs),.p (bkL c.blocks)]]):=by rw[hH0];rfl
 have g3:H0[3]?=some (.row 1 [[.fn (.func dF) [.ptr 2 3 0 0]]]):=by rw[hH0];rfl
 have gl:H0.length=4:=by rw[hH0];rfl
 refine AC.goK DI DA ?_
 clear hku
 simp-implicitDefEqProofs[nT,ov,hxs,hul,hk,hcs,hnl]
 rw[←hH0]
 refine lT (λ_:Unit=>az 91 [(8,.ptr 3 1 0 0),(7,.ptr 2 3 0 0),(5,.ptr 1 4 0 0),(3,.ptr 0 1 0 0),(1,.p (.int .i64 k))]) (λ_=>H0) (λ_=>inR x.op 1 14=true/\x.args.all (dV c.regs)=true) ?_ ?_
 ·simp-implicitDefEqProofs[g1]
  refine(Jv G x.op).use ?_
  cases hb1:inR x.op 1 14 with
  |false=>simp-implicitDefEqProofs[fS,hb1]
  |true=>
  simp-implicitDefEqProofs[g1]
  rw[←hnl]
  refine(sL G x.args (λr=> !dV c.regs r) hl (by simp[below,gl]) (λr _=>Kp G g2 g3 h0 h1 r)).mono ?_
  rintro y h' ⟨rfl,rfl⟩
  rw[zS]
  cases hb2:x.args.all (dV c.regs) with
  |false=>simp-implicitDefEqProofs[aa,fS,hb2]
  |true=>
   simp-implicitDefEqProofs[aa]
   exact⟨Wj.1 hb2,al (by simp) (by simp[below,gl])⟩
 rintro⟨⟩ ⟨hb1,hb2⟩
 refine lT (λ_:Unit=>az 91 [(8,.ptr 3 1 0 0),(7,.ptr 2 3 0 0),(5,.ptr 1 4 0 0),(3,.ptr 0 1 0 0),(1,.p (.int .i64 k))]) (λ_=>H0) (λ_=>(if gg x.op then dV c.regs x.to else decide (x.to= -1))=true) ?_ ?_
 ·simp-implicitDefEqProofs[g1]
  refine(DD G x.op).use ?_
  cases hs:gg x.op with
  |true=>
   simp-implicitDefEqProofs[g1,g3]
   refine(Du G g2 h0 h1 x.to).mono ?_
   rintro y h' ⟨rfl,rfl⟩
   cases hr:dV c.regs x.to with
   |false=>simp-implicitDefEqProofs[aa,fS,hs,hr]
   |true=>
    simp-implicitDefEqProofs[aa,g1]
    refine(DD G x.op).use ?_
    simp-implicitDefEqProofs[hs]
    exact al (by simp) (by simp[below,gl])
  |false=>
   simp-implicitDefEqProofs[g1]
   refine(DD G x.op).use ?_
   by_cases hto:x.to= -1
   ·simp-implicitDefEqProofs[hs,g1,hto]
    exact al (by simp) (by simp[below,gl])
   ·have hf:fS u k c.regs x=false:=by simp[fS,hs,hto]
    simp-implicitDefEqProofs[hs,g1,hto,hf]
 rintro⟨⟩ hb3
 have hI:fS u k c.regs x=(if x.op=14 then inR x.n 0 ((k:Int)-1)&&decide ((x.args.length:Int)=zs u x.n)
  else if x.op=1 then decide (x.args.length=0)&&inR x.n 0 255
  else decide (x.n=0)&&decide ((x.args.length:Int)=pg x.op)):=by rw[fS,hb1,hb2,hb3];simp
 rw[hI]
 by_cases o1:x.op=1
 ·by_cases hal:x.args.length=0
  ·have hal':(x.args.length:Int)=0:=by omega
   simp-implicitDefEqProofs[g1,o1,hal,hal']
   refine(Gr G x.n).use ?_
   simp-implicitDefEqProofs[]
  ·have hal':¬(x.args.length:Int)=0:=by omega
   have hal2:¬x.args=[]:=λe=>hal (by rw[e];rfl)
   simp-implicitDefEqProofs[g1,o1,hal,hal',hal2]
 by_cases o14:x.op=14
 ·simp-implicitDefEqProofs[g1,o14,hwk]
  refine(cM G x.n 0 ((k:Int)-1)).use ?_
  cases hn:inR x.n 0 ((k:Int)-1) with
  |false=>simp-implicitDefEqProofs[]
  |true=>
   simp only[inR,Wl,decide_eq_true_eq] at hn
   have hlt:x.n.toNat<u.length:=by
    have:=(VZ.1 hk).1
    omega
   obtain⟨c2,hc2⟩:∃c2,u[x.n.toNat]?=some c2:=⟨_,Wa hlt⟩
   have hc2s:=c2.cs_eq2
   clear hlt
   obtain⟨m,hm⟩:∃m:Nat,x.n=m:=⟨x.n.toNat,by omega⟩
   rw[hm] at hc2 g1⊢
   simp only[Int.toNat_natCast] at hc2
   simp-implicitDefEqProofs[g1,g0,hc2,hc2s,zs]
 by_cases hx0:x.n=0
 ·simp-implicitDefEqProofs[g1,o1,o14,hx0]
  refine(Ks G x.op).useQ ?_
  simp-implicitDefEqProofs[]
 ·simp-implicitDefEqProofs[g1,o1,o14,hx0]
def om(c:Cd)(b:Int):List Int:=if inR b 0 ((c.blocks.length:Int)-1)=true then cZ c.blocks b else[]
structure PsS where (i:Nat) (X:List AO) (V:AV)
theorem He(c:Cd)(b:Int)(hl:c.blocks.length<=1073741824)(hn:∀x∈c.blocks,x.next.length<=1073741824):AC Tryz.prog G ir [.agg (c.cs.map .p),.p (.int .i64 b)] [] λx h=>∃V,x= .ret V/\((V= .nils/\om c b=[])\/∃id,V= .sl id 1 0 (om c b).length/\h[id]?=some (.row 1 (fq (om c b)))):=by
 have hcs:=c.cs_eq2
 have hbl:bkL c.blocks= .lst 5 (c.blocks.map Bk.cs):=rfl
 have hwb:IntKind.i64.wrap ((c.blocks.length:Int)-1)=(c.blocks.length:Int)-1:=ab (by omega) (by omega)
 refine AC.go Bi ?_
 simp-implicitDefEqProofs[pc,hcs,hbl,hwb]
 refine(cM G b 0 ((c.blocks.length:Int)-1)).use ?_
 cases hb:inR b 0 ((c.blocks.length:Int)-1) with
 |false=>simp-implicitDefEqProofs[om,hb]
 |true=>
 have hpe:om c b=cZ c.blocks b:=by rw[om,hb,if_pos rfl]
 rw[hpe]
 simp-implicitDefEqProofs[]
 refine aN (λa:PsS=>az 33 [(18,.p (.int .i64 a.i)),(17,.p (.int .i64 c.blocks.length)),(16,.p (.lst 5 (c.blocks.map Bk.cs))),(5,a.V),(1,.p (.int .i64 b))]) (λa=>a.X)
  (λa=>a.i<=c.blocks.length/\((a.V= .nils/\cZ (c.blocks.take a.i) b=[])\/∃id,a.V= .sl id 1 0 (cZ (c.blocks.take a.i) b).length/\a.X[id]?=some (.row 1 (fq (cZ (c.blocks.take a.i) b))))) (λa=>c.blocks.length-a.i) ⟨0,[.row 3 [[.p (.int .i64 c.params),.p (.int .i64 c.regs),.p (.lst 5 (c.blocks.map Bk.cs))]]],.nils⟩ ⟨WH _,.inl ⟨rfl,rfl⟩⟩ (al (by simp) (by simp[below])) ?_
 rintro⟨i,X,V⟩ ⟨hi,hV⟩
 simp only at hi hV
 simp-implicitDefEqProofs[]
 refine aO (λhc=>?_) (λhc=>?_)
 ·simp at hc
  have hg:=Wa hc
  have hm:=Wo hc
  have hpt:=vC (b:=b) hg
  have hpl:=oo (c.blocks.take i) b
  rw[Wv,Nat.min_eq_left (by omega)] at hpl
  have hnx:=hn _ hm
  generalize c.blocks[i]=x at hg hpt hnx
  generalize cZ (c.blocks.take i) b=out at hV hpt hpl
  have hxs:=x.cs_eq2
  have hw1:=w1 (i:=i) (by omega)
  simp-implicitDefEqProofs[hg,hxs]
  refine(Ct G x.next b hnx).use ?_
  by_cases hbn:b∈x.next
  ·rw[if_pos hbn] at hpt
   have hd:decide (b∈x.next)=true:=by simpa using hbn
   rcases hV with⟨rfl,rfl⟩|⟨id,rfl,hid⟩
   ·simp-implicitDefEqProofs[hd,hbn]
    refine⟨⟨i+1,_,.sl (X.length+2) 1 0 1⟩,⟨by simp only;omega,.inr ⟨X.length+2,by rw[hpt];rfl,?_⟩⟩,by simp only;omega,al (WH _) ?_⟩
    ·rw[hpt,We (by omega)];simp[fq]
    ·simp[below,hw1]
   ·have hiX:=(VZ.1 hid).1
    have hxm:∀t,(X++t)[id]?=some (.row 1 (fq out)):=λt=>by rw[VY hiX];exact hid
    have htl:List.take out.length (fq out)=fq out:=Wg (by simp[fq])
    have hrl:(fq out).length=out.length:=by simp[fq]
    simp-implicitDefEqProofs[hd,hbn,hxm,htl,hrl]
    refine⟨⟨by omega,by omega⟩,⟨i+1,_,.sl (X.length+2) 1 0 (out.length+1)⟩,⟨by simp only;omega,.inr ⟨X.length+2,by rw[hpt];simp,?_⟩⟩,by simp only;omega,al (WH _) ?_⟩
    ·rw[hpt,We (by simp)];simp[fq]
    ·simp[below,hw1]
  ·rw[if_neg hbn,Wu] at hpt
   have hd:decide (b∈x.next)=false:=by simpa using hbn
   simp-implicitDefEqProofs[hd,hbn]
   rcases hV with⟨rfl,rfl⟩|⟨id,rfl,hid⟩
   ·exact⟨⟨i+1,_,.nils⟩,⟨by simp only;omega,.inl ⟨rfl,hpt⟩⟩,by simp only;omega,al (WH _) (by simp[below,hw1])⟩
   ·have hiX:=(VZ.1 hid).1
    refine⟨⟨i+1,_,.sl id 1 0 out.length⟩,⟨by simp only;omega,.inr ⟨id,by rw[hpt],?_⟩⟩,by simp only;omega,al (WH _) (by simp[below,hw1];omega)⟩
    rw[hpt,VY hiX];exact hid
 ·simp at hc
  have hie:i=c.blocks.length:=by omega
  subst hie
  rw[WA] at hV
  simp-implicitDefEqProofs[]
  exact hV
theorem Kg(c:Cd)(b:Int)(hl:c.blocks.length<=1073741824)(hn:∀x∈c.blocks,x.next.length<=1073741824):VF Tryz.prog G ir [.agg (c.cs.map .p),.p (.int .i64 b)] (.p (bC (om c b))):=
 (He G c b hl hn).freezeR (λt v h ⟨_,e,_⟩=>by cases e) λv h ⟨V,e1,e2⟩=>by
   cases e1
   rcases e2 with⟨rfl,e⟩|⟨id,rfl,e⟩
   ·rw[e];exact .one (View.nils 1) .nil
   ·exact .one (CW e) .nil
theorem zb(c:Cd)(M:Nat)(hM:M<=1073741824)(hf:IQ M c)(hl:cdN c<=1152921504606846976):VF Tryz.prog G fh [.agg (c.cs.map .p)] (.p (.int .i64 (cdN c))):=by
 have hcs:=c.cs_eq2
 have hbl:bkL c.blocks= .lst 5 (c.blocks.map Bk.cs):=rfl
 have hcl:=hf.1
 refine AC.go uD ?_
 simp-implicitDefEqProofs[nj,hcs,hbl]
 refine aN (λj:Nat=>az 24 [(9,.p (.int .i64 j)),(3,.p (.int .i64 (bkS 0 c.blocks j))),(8,.p (.int .i64 c.blocks.length)),(7,.p (.lst 5 (c.blocks.map Bk.cs)))]) (λ_=>[.row 3 [[.p (.int .i64 c.params),.p (.int .i64 c.regs),.p (.lst 5 (c.blocks.map Bk.cs))]]]) (λj=>j<=c.blocks.length) (λj=>c.blocks.length-j) 0 (WH _) (al (by simp) (by simp[below,ut])) ?_
 rintro j hj
 simp-implicitDefEqProofs[]
 refine aO (λhc2=>?_) (λhc2=>?_)
 ·simp at hc2
  have hg2:=Wa hc2
  have hM2:=Ah 0 hg2
  have hxf:=hf.2 _ (Wo hc2)
  have hle:bkS 0 c.blocks (j+1)<=cdN c:=by
   have:=gP bkN c.blocks (j+1)
   simp only[bkS,cdN];omega
  generalize c.blocks[j]=x at hg2 hM2 hxf
  have hxs:=x.cs_eq2
  have hxi:=hxf.ins
  have hxp:=hxf.phis
  have hil:inL x.ins= .lst 4 (x.ins.map Ii.cs):=rfl
  have hpl:phL x.phis= .lst 2 (x.phis.map Ph.cs):=rfl
  obtain⟨N,hN⟩:∃N,N=bkS 0 c.blocks j:=⟨_,rfl⟩
  rw[←hN] at hM2⊢
  have w1':IntKind.i64.wrap ((x.phis.length:Int)+(x.ins.length:Int))=(x.phis.length:Int)+(x.ins.length:Int):=ab (by omega) (by omega)
  have w2':IntKind.i64.wrap ((N:Int)+((x.phis.length:Int)+(x.ins.length:Int)))=(bkS 0 c.blocks (j+1):Int):=by rw[ab (by omega) (by omega)];omega
  simp-implicitDefEqProofs[hg2,hxs,hil,hpl,w1',w2']
  exact⟨j+1,by omega,by omega,di (m:=1) (by omega) (bP rfl rfl (by simp[okO,below])) (by simp[below,w1 (i:=j) (by omega)])⟩
 ·simp at hc2
  have hje:j=c.blocks.length:=by omega
  subst hje
  have:=Dx 0 c.blocks
  rw[WT] at this
  simp-implicitDefEqProofs[this,cdN]
end
end Go.Proofs.YtghpabfdmbdpfaaGreatDoor
