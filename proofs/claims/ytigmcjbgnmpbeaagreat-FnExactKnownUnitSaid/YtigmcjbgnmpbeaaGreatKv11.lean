/-
  Contracts and lemmas that the card needs, part 11.
-/
import Derived.Test.YtigmcjbgnmpbeaaGreatKv10
import Derived.Test.YtigmcjbgnmpbeaaGreatRows
import Derived.WalkKit
import Derived.ProofKit
import Derived.LaidMore
namespace Go.Proofs.YtigmcjbgnmpbeaaGreat
open Go Go.Aw
set_option maxRecDepth 100000
set_option maxHeartbeats 4000000
section
def tD(rl:List Nat):List (Int × Int):=rl.zipIdx.map λx=>((x.1:Int),(x.2:Int))
theorem LR(rl:List Nat)(b:Nat):tD (rl++[b])=tD rl++[((b:Int),(rl.length:Int))]:=by simp[tD,YZ]
theorem Gx(p:Int)(hp:0<=p):∀(rl:List Nat) (o:Nat),(((rl.zipIdx o).map λx=>((x.1:Int),(x.2:Int))).find? λe=>decide (p=e.1))=if p.toNat∈rl then some (p,((o+rl.idxOf p.toNat:Nat):Int)) else none
 |[],_=>rfl
 |b::r,o=>by
  have ih:=Gx p hp r (o+1);rw[ZG,WJ,ZQ]
  by_cases h:p=(b:Int)
  ·subst h;simp
  ·have hb:p.toNat≠b:=by omega
   have hb2:¬b=p.toNat:=λe=>hb e.symm;simp only[h,decide_false];rw[ih];simp only[WE,hb,false_or]
   by_cases hm:p.toNat∈r
   ·rw[Wz hm,Wz hm,List.idxOf_cons];have:(b==p.toNat)=false:=(by simp[hb2]);rw[this];simp only[cond_false,WO,Xc,true_and];omega
   ·rw[WB hm,WB hm]
theorem JQ{p:Int}(hp:0<=p)(rl:List Nat):((tD rl).find? λe=>decide (p=e.1))=if p.toNat∈rl then some (p,plI rl p) else none:=by
 rw[tD,Gx p hp rl 0]
 by_cases h:p.toNat∈rl
 ·rw[Wz h,Wz h,plI,Wz h];simp
 ·rw[WB h,WB h]
def iM(rl:List Nat)(by':List (Int × Int)):List (Int × Int):=by'.filterMap λe=>if e.1.toNat∈rl then some (plI rl e.1,e.2) else none
theorem rj(rl:List Nat)(e:Int × Int)(l:List (Int × Int)):iM rl (e::l)=if e.1.toNat∈rl then(plI rl e.1,e.2)::iM rl l else iM rl l:=by
 simp only[iM,List.filterMap_cons]
 by_cases h:e.1.toNat∈rl<;>simp[h]
theorem JS{p v:Int}:∀{l:List (Int × Int)},(l.map (·.1)).Nodup->(p,v)∈l->lkM l p=v
 |[],_,h=>by cases h
 |e::l,nd,h=>by
  rw[WJ,WR] at nd;rw[BH];rcases WE.1 h with rfl|h
  ·simp
  ·have:¬p=e.1:=λx=>nd.1 (by rw[←x];exact Ww.2 ⟨(p,v),h,rfl⟩);rw[WB this];exact JS nd.2 h
theorem JV{rl:List Nat}{p q:Int}(hp:0<=p)(hq:0<=q)(hpm:p.toNat∈rl)(hqm:q.toNat∈rl)(e:plI rl p=plI rl q):p=q:=by
 rw[plI,Wz hpm,plI,Wz hqm] at e;have e2:rl.idxOf p.toNat=rl.idxOf q.toNat:=by omega
 have h1:=Za (List.idxOf_lt_length_iff.2 hpm);have h2:=Za (List.idxOf_lt_length_iff.2 hqm)
 have:p.toNat=q.toNat:=by
  rw[←h1,←h2];simp only[e2]
 omega
theorem Dr{rl:List Nat}:∀(preds args:List Int),preds.Nodup->(∀p∈preds,0<=p)->((iM rl (preds.zip args)).map (·.1)).Nodup/\∀k∈(iM rl (preds.zip args)).map (·.1),∃p∈preds,p.toNat∈rl/\k=plI rl p
 |[],_,_,_=>⟨Yk,λk h=>by cases h⟩
 |q::qs,[],_,_=>⟨Yk,λk h=>by cases h⟩
 |q::qs,a::l2,nd,h0=>by
  rw[WR] at nd;obtain⟨i1,i2⟩:=Dr (rl:=rl) qs l2 nd.2 λp hp=>h0 p (by simp[hp]);rw[ZC,rj]
  by_cases h:q.toNat∈rl
  ·rw[Wz h,WJ,WR];refine⟨⟨λhm=>?_,i1⟩,λk hk=>?_⟩
   ·obtain⟨p,hp,hpr,e⟩:=i2 _ hm;have:=JV (h0 q (by simp)) (h0 p (by simp[hp])) h hpr e;exact nd.1 (this▸hp)
   ·rcases WE.1 hk with rfl|hk
    ·exact⟨q,by simp,h,rfl⟩
    ·obtain⟨p,hp,hpr,e⟩:=i2 _ hk;exact⟨p,by simp[hp],hpr,e⟩
  ·rw[WB h]
   exact⟨i1,λk hk=>by
    obtain⟨p,hp,hpr,e⟩:=i2 _ hk;exact⟨p,by simp[hp],hpr,e⟩⟩
theorem Ps{rl:List Nat}{p to:Int}(hpr:p.toNat∈rl):∀(preds args:List Int),args.length=preds.length->p∈preds->(plI rl p,nE preds ⟨to,args⟩ p)∈iM rl (preds.zip args):=λpreds args hl hm=>by
 have:(p,nE preds ⟨to,args⟩ p)∈preds.zip args:=by
  rw[←EF (to:=to) preds args hl hm];clear to
  induction preds generalizing args with
  |nil=>cases hm
  |cons q qs ih=>
   cases args with
   |nil=>simp at hl
   |cons a l2=>
    rw[ZC,BH]
    by_cases h:p=q
    ·simp[h]
    ·rw[WB h];refine Xb _ (ih l2 (by simpa using hl) ?_);rcases WE.1 hm with e|e
     ·exact absurd e h
     ·exact e
 rw[iM,List.mem_filterMap];exact⟨_,this,by simp[hpr]⟩
theorem OG{c:Cd}(h:DrpC c){rl:List Nat}(nd:rl.Nodup)(hin:∀b∈rl,b<c.blocks.length){L:Nat->List (List (Int × Int))}
 (hL:∀(i b:Nat) (x:Bk),rl[i]?=some b->c.blocks[b]?=some x->(L i).length=x.phis.length/\∀(k:Nat) (f:Ph) (l:List (Int × Int)),x.phis[k]?=some f->(L i)[k]?=some l->l.Perm (iM rl ((ab c.blocks b).zip f.args))):
 (aH c.blocks rl).mapIdx (eD L (aH c.blocks rl))=ff c.blocks rl:=by
 refine WT λi=>?_;rw[ff,WH,WH];have hg:(aH c.blocks rl)[i]?=(rl[i]?).map λb=>{mj c.blocks b with next:=(mj c.blocks b).next.map (plI rl)}:=by rw[aH,Wl]
 cases hi:rl[i]? with
 |none=>rw[hg,hi];rfl
 |some b=>
  rw[hi] at hg;rw[hg];have hbl:=hin b (Wq hi);obtain⟨x,hx⟩:∃x,c.blocks[b]?=some x:=⟨_,Wc hbl⟩;have hba:mj c.blocks b=x:=by rw[mj,hx];rfl
  obtain⟨hll,hlp⟩:=hL i b x hi hx;simp only[Xx,WO,eD,hba,Yb,Bk.mk.injEq,and_true];refine WT λk=>?_;rw[WH,Wl];cases hk:x.phis[k]? with
  |none=>rfl
  |some f=>
   have hkl:=(Wa.1 hk).1;obtain⟨l,hl⟩:∃l,(L i)[k]?=some l:=⟨_,Wc (by omega)⟩;have hp:=hlp k f l hk hl;simp only[Xx,WO,uS,hl,Yb,Ph.mk.injEq,true_and];refine WY λj hj=>?_;obtain⟨hj0,p,hp1,hp2⟩:=KA nd hin h.nx i b hi j hj;rw[hp1];have hpr:p∈rl:=Wq hp1;have hkey:=Dr (rl:=rl) (ab c.blocks b) f.args (sH _ _) (λq hq=>by obtain⟨k,_,e,_⟩:=eW hq;omega)
   have hpl:plI rl p=j:=by
    have h1:rl.idxOf p=j.toNat:=by
     obtain⟨q1,q2⟩:=Wa.1 hp1;rw[←q2];exact nd.idxOf_getElem _ q1
    rw[plI,XF,Wz hpr,h1];omega
   have hmm:=Ps (rl:=rl) (p:=(p:Int)) (to:=f.to) (by simpa using hpr) (ab c.blocks b) f.args (h.pa b x hx f (Wq hk)) hp2;rw[hpl] at hmm;exact JS ((hp.map (·.1)).nodup_iff.2 hkey.1) (hp.mem_iff.2 hmm)
end
section
theorem ME{α β:Type}{f:α->β}{m1 m2:List β}(h:m1.Perm m2):∀l:List α,m1=l.map f->∃l2,m2=l2.map f/\l.Perm l2:=by
 induction h with
 |nil=>intro l e;exact⟨[],rfl,by rw[WK.1 e.symm]⟩
 |cons x _ ih=>
  intro l e;cases l with
  |nil=>cases e
  |cons a r=>
   simp only[WJ,Yh] at e;obtain⟨l2,e2,p⟩:=ih r e.2;exact⟨a::l2,by rw[WJ,e2,e.1],p.cons a⟩
 |swap x y r=>
  intro l e
  match l,e with
  |a::b::s,e=>
   simp only[WJ,Yh] at e;exact⟨b::a::s,by simp only[WJ];rw[e.1,e.2.1,e.2.2],List.Perm.swap b a s⟩
 |trans _ _ ih1 ih2=>
  intro l e;obtain⟨l2,e2,p2⟩:=ih1 l e;obtain⟨l3,e3,p3⟩:=ih2 l2 e2;exact⟨l3,e3,p2.trans p3⟩
theorem QQ{l:List (Int × Int)}{e:PV × AV}{m:List (PV × AV)}(h:(mqE l).Perm (e::m)):∃p r l2,e=(.int .i64 p,.p (.int .i64 r))/\m=mqE l2/\l.Perm ((p,r)::l2):=by
 obtain⟨l2,e2,p⟩:=ME h l rfl
 match l2,e2 with
 |(a,b)::s,e2=>
  simp only[WJ,Yh] at e2;exact⟨a,b,s,e2.1,e2.2,p⟩
theorem Lc(l:List (Int × Int)):Ns (mqE l)=true:=by
 rw[Ns,Wu];intro e he;obtain⟨a,_,rfl⟩:=Ww.1 he;rfl
theorem Ow(rl:List Nat)(a b:List (Int × Int)):iM rl (a++b)=iM rl a++iM rl b:=List.filterMap_append ..
theorem Li(rl:List Nat){a b:List (Int × Int)}(h:a.Perm b):(iM rl a).Perm (iM rl b):=h.filterMap _
theorem Fu{rl:List Nat}{p:Int}(hp:0<=p)(hpr:p.toNat∈rl):∀{d:List (Int × Int)},(∀e∈d,0<=e.1)->p∉d.map (·.1)->∀e∈iM rl d,plI rl p≠e.1
 |[],_,_,e,he=>by cases he
 |x::d,h0,hn,e,he=>by
  rw[rj] at he;simp only[WJ,WE,not_or] at hn;have ih:=Fu hp hpr (d:=d) (λe he=>h0 e (by simp[he])) hn.2
  by_cases h:x.1.toNat∈rl
  ·rw[Wz h] at he;rcases WE.1 he with rfl|he
   ·exact λee=>hn.1 (JV hp (h0 x (by simp)) hpr h ee)
   ·exact ih e he
  ·rw[WB h] at he;exact ih e he
theorem RowM.push1{X:List AO}{A:AV}{l:List (List (Int × Int))}{J:List Nat}(h:RowM X A l J)(mi:Nat)(hb:l.length+1<=2000000000):∃A' Y,Cp X 1 8 (some [[.mp mi]]) A=some (A',Y)/\Psh X A 1 [.mp mi] Y A':=by
 rcases h with⟨rfl,_,_⟩|⟨jd,ids,rfl,_,hg,hl,_⟩
 ·exact⟨_,_,by rw[mM,Wz (by simp),WB (by simp)];rfl,.inl ⟨rfl,rfl,rfl⟩⟩
 ·have hml:(gr ids).length=l.length:=by rw[gr,Wj];exact hl
  refine⟨_,_,by rw[tz,hg];simp only[Xf,true_and,WV,Zh];rw[Wz (by omega),Wi (by omega)],.inr ⟨jd,gr ids,_,rfl,hg,hml,rfl,rfl⟩⟩
theorem RowM.cell{X:List AO}{A:AV}{l:List (List (Int × Int))}{J:List Nat}(h:RowM X A l J):A.cells=[A]/\A.isCell=true:=by rcases h with⟨rfl,_⟩|⟨jd,ids,rfl,_⟩<;>exact⟨rfl,rfl⟩
end
section
def MvL(c:Cd)(rl:List Nat)(b:Nat)(n:Nat)(l:List (List (Int × Int)))(x:Bk):Prop:=l.length=n/\∀(j:Nat) (f:Ph) (l':List (Int × Int)),x.phis[j]?=some f->l[j]?=some l'->l'.Perm (iM rl ((ab c.blocks b).zip f.args))
structure PkI (c:Cd) (rl:List Nat) (Y:List AO) (i:Nat) (X:List AO):Prop where
 kp:KpF Y X
 ex:∃B I rows L JJ,X[Y.length]?=some (.row 3 [[.p (.int .i64 c.params),.p (.int .i64 c.regs),B]])/\Own (Y.length+2) X [B] [bkL ((aH c.blocks rl).take i)] I/\TabH X (Y.length+1) rl.length rows L JJ rl.length/\
  (∀k,k<rl.length->∀j∈JJ k,Y.length+2<=j/\j∉I)/\(∀(k b:Nat) (x:Bk),k<i->rl[k]?=some b->c.blocks[b]?=some x->MvL c rl b x.phis.length (L k) x)/\∀k,i<=k->k<rl.length->rows[k]?=some [.nils]/\L k=[]/\JJ k=[]
theorem PkI.lt{c:Cd}{rl:List Nat}{Y X:List AO}{i:Nat}(H:PkI c rl Y i X):Y.length+2<=X.length:=by
 obtain⟨B,I,rows,L,JJ,h1,h2,h3,_⟩:=H.ex;have:=h3.lt.1;omega
structure PjI (c:Cd) (rl:List Nat) (x:Bk) (b i q n:Nat) (W:List AO) (rows:List (List AV)) (L:Nat->List (List (Int × Int))) (JJ:Nat->List Nat) (k:Nat) (X:List AO):Prop where
 le:W.length<=X.length
 fr:∀j,j<W.length->j≠q->X[j]?=W[j]?
 ex:∃rows3 L3 JJ3,TabH X q n rows3 L3 JJ3 n/\(∀k',k'≠i->L3 k'=L k'/\JJ3 k'=JJ k'/\rows3[k']?=rows[k']?)/\(∀j∈JJ3 i,W.length<=j)/\MvL c rl b k (L3 i) x
theorem PU{P:Program}{G:aw}{k:Nat}{cs cs3:List CO}{x:AOp}{t6 t7 t8 t9 id1 id2:Nat}{b:AK}{ts:List AV}{h:List AO}{Q:Go.Aw.AX->List AV->List AO->Prop}:AKW P G k (.rng cs x t6 t7 t8 t9 id1 id2 cs3 b) ts h Q=Oj P G (λk=>AKW P G k b) cs x t6 t7 t8 t9 id1 id2 cs3 ts h Q:=rfl
def rZ:AK:= .seq (.reg [⟨(some 2),none,.box 3 (.t 0)⟩,⟨(some 4),none,.alloc [(.p (.int .i64 0)),(.p (.int .i64 0)),.nils]⟩]) (.seq (.reg [⟨(some 23),none,.mkm⟩,⟨(some 5),none,.mov (.t 23)⟩]) (.cut (.seq (.reg [⟨(some 24),none,.mov (.t 1)⟩,⟨(some 25),none,.len false (.t 24)⟩,⟨(some 26),none,.mov (.c (.p (.int .i64 0)))⟩]) (.blk 0 (.loop (.seq (.reg [⟨(some 27),none,.bin .lss (.t 26) (.t 25)⟩]) (.seq (.cond (.t 27) (.skip) (.exit 0)) (.seq (.blk 1 (.seq (.reg [⟨(some 28),none,.mov (.t 26)⟩,⟨(some 29),none,.idxS 1 (.t 24) (.t 26)⟩,⟨(some 30),none,.ld none (.t 29)⟩,⟨(some 6),none,.mov (.t 28)⟩,⟨(some 7),none,.mov (.t 30)⟩]) (.reg [⟨(some 31),none,.mov (.t 5)⟩,⟨(some 32),none,.mov (.t 7)⟩,⟨(some 33),none,.mov (.t 6)⟩,⟨none,none,.mup 0 (.t 31) (.t 32) (.t 33)⟩]))) (.reg [⟨(some 34),none,.bin .add (.t 26) (.c (.p (.int .i64 1)))⟩,⟨(some 26),none,.mov (.t 34)⟩]))))))) (.seq (.reg [⟨(some 35),none,.ld (some 3) (.t 2)⟩,⟨(some 36),none,.call cn [(.t 35)]⟩,⟨(some 8),none,.mov (.t 36)⟩]) (.seq (.reg [⟨(some 37),none,.fldA 0 (.t 2)⟩,⟨(some 38),none,.ld none (.t 37)⟩,⟨(some 39),none,.fldA 1 (.t 2)⟩,⟨(some 40),none,.ld none (.t 39)⟩,⟨(some 41),none,.bld [(.p (.int .i64 0)),(.p (.int .i64 0)),.nils] [(0,1,(.t 38)),(1,1,(.t 40))]⟩,⟨(some 9),none,.alloc [(.p (.int .i64 0)),(.p (.int .i64 0)),.nils]⟩,⟨none,none,.st 3 (.t 9) (.t 41)⟩]) (.seq (.reg [⟨(some 42),none,.mov (.t 1)⟩,⟨(some 43),none,.len false (.t 42)⟩,⟨(some 44),none,.mks 1 24 [.nils] (.t 43) (.t 43)⟩,⟨(some 10),none,.mov (.t 44)⟩]) (.cut (.seq (.reg [⟨(some 45),none,.mov (.t 1)⟩,⟨(some 46),none,.len false (.t 45)⟩,⟨(some 47),none,.mov (.c (.p (.int .i64 0)))⟩]) (.blk 2 (.loop (.seq (.reg [⟨(some 48),none,.bin .lss (.t 47) (.t 46)⟩]) (.seq (.cond (.t 48) (.skip) (.exit 2)) (.seq (.blk 3 (.seq (.reg [⟨(some 49),none,.mov (.t 47)⟩,⟨(some 50),none,.idxS 1 (.t 45) (.t 47)⟩,⟨(some 51),none,.ld none (.t 50)⟩,⟨(some 11),none,.mov (.t 49)⟩,⟨(some 12),none,.mov (.t 51)⟩]) (.seq (.reg [⟨(some 52),none,.fldA 2 (.t 2)⟩,⟨(some 53),none,.ld none (.t 52)⟩,⟨(some 54),none,.mov (.t 12)⟩,⟨(some 55),none,.idxS 5 (.t 53) (.t 54)⟩,⟨(some 56),none,.ld (some 5) (.t 55)⟩,⟨(some 57),none,.call bB [(.t 56)]⟩,⟨(some 13),none,.alloc [.nils,.nils,(.p (.int .i64 0)),(.p (.int .i64 0)),.nils]⟩,⟨none,none,.st 5 (.t 13) (.t 57)⟩]) (.cut (.seq (.reg [⟨(some 58),none,.fldA 4 (.t 13)⟩,⟨(some 59),none,.ld none (.t 58)⟩,⟨(some 60),none,.len false (.t 59)⟩,⟨(some 61),none,.mov (.c (.p (.int .i64 0)))⟩]) (.blk 4 (.loop (.seq (.reg [⟨(some 62),none,.bin .lss (.t 61) (.t 60)⟩]) (.seq (.cond (.t 62) (.skip) (.exit 4)) (.seq (.blk 5 (.seq (.reg [⟨(some 63),none,.mov (.t 61)⟩,⟨(some 64),none,.idxS 1 (.t 59) (.t 61)⟩,⟨(some 65),none,.ld none (.t 64)⟩,⟨(some 14),none,.mov (.t 63)⟩,⟨(some 15),none,.mov (.t 65)⟩]) (.reg [⟨(some 66),none,.fldA 4 (.t 13)⟩,⟨(some 67),none,.ld none (.t 66)⟩,⟨(some 68),none,.mov (.t 14)⟩,⟨(some 69),none,.mov (.t 5)⟩,⟨(some 70),none,.mov (.t 15)⟩,⟨(some 71),none,.lk 0 (.p (.int .i64 0)) false (.t 69) (.t 70)⟩,⟨(some 72),none,.idxS 1 (.t 67) (.t 68)⟩,⟨none,none,.st 1 (.t 72) (.t 71)⟩]))) (.reg [⟨(some 73),none,.bin .add (.t 61) (.c (.p (.int .i64 1)))⟩,⟨(some 61),none,.mov (.t 73)⟩]))))))) (.cut (.seq (.reg [⟨(some 74),none,.mov (.t 8)⟩,⟨(some 75),none,.mov (.t 12)⟩,⟨(some 76),none,.idxS 1 (.t 74) (.t 75)⟩,⟨(some 77),none,.ld none (.t 76)⟩,⟨(some 78),none,.len false (.t 77)⟩,⟨(some 79),none,.mov (.c (.p (.int .i64 0)))⟩]) (.blk 6 (.loop (.seq (.reg [⟨(some 80),none,.bin .lss (.t 79) (.t 78)⟩]) (.seq (.cond (.t 80) (.skip) (.exit 6)) (.seq (.blk 7 (.seq (.reg [⟨(some 81),none,.idxS 1 (.t 77) (.t 79)⟩,⟨(some 82),none,.ld none (.t 81)⟩,⟨(some 17),none,.mov (.t 82)⟩]) (.seq (.reg [⟨(some 83),none,.mkm⟩,⟨(some 18),none,.mov (.t 83)⟩]) (.cut (.rng [⟨(some 84),none,.mov (.t 17)⟩] (.t 84) 85 86 87 88 8 9 [⟨(some 89),none,.ext 0 (.t 88)⟩,⟨(some 90),none,.ext 1 (.t 88)⟩,⟨(some 19),none,.mov (.t 89)⟩,⟨(some 20),none,.mov (.t 90)⟩] (.seq (.reg [⟨(some 92),none,.mov (.t 5)⟩,⟨(some 93),none,.mov (.t 19)⟩,⟨(some 94),none,.lk 0 (.p (.int .i64 0)) true (.t 92) (.t 93)⟩,⟨(some 91),none,.mov (.t 94)⟩,⟨(some 95),none,.ext 0 (.t 91)⟩,⟨(some 96),none,.ext 1 (.t 91)⟩,⟨(some 21),none,.mov (.t 95)⟩,⟨(some 22),none,.mov (.t 96)⟩]) (.seq (.reg [⟨(some 97),none,.mov (.t 22)⟩]) (.cond (.t 97) (.reg [⟨(some 98),none,.mov (.t 18)⟩,⟨(some 99),none,.mov (.t 21)⟩,⟨(some 100),none,.mov (.t 20)⟩,⟨none,none,.mup 0 (.t 98) (.t 99) (.t 100)⟩]) (.skip))))) (.reg [⟨(some 101),none,.mov (.t 10)⟩,⟨(some 102),none,.mov (.t 11)⟩,⟨(some 103),none,.mov (.t 10)⟩,⟨(some 104),none,.mov (.t 11)⟩,⟨(some 105),none,.idxS 1 (.t 103) (.t 104)⟩,⟨(some 106),none,.ld none (.t 105)⟩,⟨(some 107),none,.mov (.t 18)⟩,⟨(some 108),none,.bsl 1 [.nilm] 1 [(0,1,(.t 107))]⟩,⟨(some 109),none,.app 1 8 (.t 106) (.t 108)⟩,⟨(some 110),none,.idxS 1 (.t 101) (.t 102)⟩,⟨none,none,.st 1 (.t 110) (.t 109)⟩]))))) (.reg [⟨(some 111),none,.bin .add (.t 79) (.c (.p (.int .i64 1)))⟩,⟨(some 79),none,.mov (.t 111)⟩]))))))) (.reg [⟨(some 112),none,.fldA 2 (.t 9)⟩,⟨(some 113),none,.ld none (.t 112)⟩,⟨(some 114),none,.ld (some 5) (.t 13)⟩,⟨(some 115),none,.bsl 5 [.nils,.nils,(.p (.int .i64 0)),(.p (.int .i64 0)),.nils] 1 [(0,5,(.t 114))]⟩,⟨(some 116),none,.app 5 88 (.t 113) (.t 115)⟩,⟨(some 117),none,.fldA 2 (.t 9)⟩,⟨none,none,.st 1 (.t 117) (.t 116)⟩])))))) (.reg [⟨(some 118),none,.bin .add (.t 47) (.c (.p (.int .i64 1)))⟩,⟨(some 47),none,.mov (.t 118)⟩]))))))) (.seq (.reg [⟨(some 119),none,.mov (.t 10)⟩,⟨(some 120),none,.call eh [(.t 9),(.t 119)]⟩]) (.seq (.reg [⟨(some 121),none,.ld (some 3) (.t 9)⟩,⟨none,none,.st 3 (.t 4) (.t 121)⟩]) (.ret)))))))))
theorem Df:AK.whole rZ=FK.ak lF:=rfl
variable (G:aw)
theorem Oi(c:Cd)(hf:en 1073741824 c)(hd:DrpC c)(rl:List Nat)(nd:rl.Nodup)(hin:∀b∈rl,b<c.blocks.length)(hne:rl≠[])(hcl:∀(b:Nat) (x:Bk),b∈rl->c.blocks[b]?=some x->∀t∈x.next,t.toNat∈rl):
 AC Tryz.prog G lR [.agg (c.cs.map .p),.p (ah (an rl))] [] (OwW .agg (jh c rl).cs):=by
 have hcs:=c.cs_eq2;have hbl:bkL c.blocks= .lst 5 (c.blocks.map Bk.cs):=rfl;have hPo:=λX:List AO=>Gr (h:=X) G c hd hf;rw[hcs,hbl] at hPo;have hrl:ah (an rl)= .lst 1 ((an rl).map λn=>[.int .i64 n]):=rfl;have hrlen:rl.length<=c.blocks.length:=by have:=vp (b:=List.range c.blocks.length) nd (λv hv=>Xn.2 (hin v hv));rwa[Xq] at this
 have h160:=hd.b160;have hnl:(an rl).length=rl.length:=Wj ..
 obtain⟨RC,hRC⟩:∃RC,RC=AO.row 3 [[.p (.int .i64 c.params),.p (.int .i64 c.regs),.p (.lst 5 (c.blocks.map Bk.cs))]]:=⟨_,rfl⟩;refine AC.goK Do Df ?_;simp[rZ,lF,hcs,hbl];refine Um (aj 122 [(5,.mp 2),(4,.ptr 1 3 0 0),(2,.ptr 0 3 0 0),(1,.p (ah (an rl)))]) [RC,.row 3 [[.p (.int .i64 0),.p (.int .i64 0),.nils]],.mp (mqE (tD rl))] ?_ ?_
 ·simp[hrl];refine am (λi:Nat=>aj 122 [(26,.p (.int .i64 i)),(25,.p (.int .i64 rl.length)),(24,.p (.lst 1 ((an rl).map λn=>[.int .i64 n]))),(5,.mp 2),(4,.ptr 1 3 0 0),(2,.ptr 0 3 0 0),(1,.p (.lst 1 ((an rl).map λn=>[.int .i64 n])))]) (λi=>[RC,.row 3 [[.p (.int .i64 0),.p (.int .i64 0),.nils]],.mp (mqE (tD (rl.take i)))]) (λi=>i<=rl.length) (λi=>rl.length-i) 0 (We _) ?_ ?_
  ·rw[hnl,←hRC];exact aa (by simp) (by simp[below])
  intro i hi;simp[];refine aA (λhcc=>?_) (λhcc=>?_)
  ·have hcc:i<rl.length:=by simpa using hcc
   have hg:(an rl)[i]?=some ((rl[i]:Nat):Int):=(by rw[an,Wl,Wc hcc];rfl);have htk:rl.take (i+1)=rl.take i++[rl[i]]:=by rw[WQ,Wc hcc];rfl
   have hms:=Aq (rl[i]:Nat) (i:Nat) (tD (rl.take i)) (λe he hpe=>by
    obtain⟨y,hy,rfl⟩:=Ww.1 he;have h1:=(List.mem_zipIdx hy).2.2;simp only at hpe;have h2:y.1∈rl.take i:=(by have:=List.mem_zipIdx' hy;rw[this.2];exact Wm _);have h3:rl[i]=y.1:=(by omega);obtain⟨k,hk,hk2⟩:=YB h2;rw[WD] at hk;rw[List.getElem_take] at hk2;have h4:=Ys.1 nd;rw[Yd] at h4;exact h4 k i (by omega) hcc (by omega) (by rw[hk2,h3]))
   have hsn:=LR (rl.take i) rl[i];rw[WD,XK hi,←htk] at hsn;rw[←hsn] at hms;have hwi:=w1 (i:=i) (by omega);generalize rl[i]=b at hg hms;simp[hg,hms];exact⟨i+1,by omega,by omega,aa (by simp) (by simp[below,hwi])⟩
  ·have hcc:rl.length<=i:=by simpa using hcc
   rw[Wi hcc];exact aa (by simp) (by simp[below])
 rw[hRC,hrl];simp[];refine(hPo _).mono ?_;rintro z Y ⟨T,rfl,hP⟩;have hP':=hP;obtain⟨rowsT,JT,hT,p1,p3,p4,p5⟩:=hP;simp only[WC,WL] at p1 p3 p4 p5;have u0:Y[0]?=some (.row 3 [[.p (.int .i64 c.params),.p (.int .i64 c.regs),.p (.lst 5 (c.blocks.map Bk.cs))]]):=(p4 0 (by simp)).trans rfl;have u1:Y[1]?=some (.row 3 [[.p (.int .i64 0),.p (.int .i64 0),.nils]]):=(p4 1 (by simp)).trans rfl;have u2:Y[2]?=some (.mp (mqE (tD rl))):=(p4 2 (by simp)).trans rfl;have u0c:∀t,(Y++t)[0]?=_:=λt=>(Wb (by omega)).trans u0;have u0e:=λhh=>ag u0 hh;have u0d:=λt hh=>ag (u0c t) hh;simp[u0,hnl];refine⟨⟨by omega,by omega⟩,?_⟩;have hTl:=hP'.lt
 have hPk0:PkI c rl Y 0 (Y++[AO.row 3 [[.p (.int .i64 c.params),.p (.int .i64 c.regs),.nils]],.row 1 (List.replicate rl.length [.nils])]):=by
  have hr:∀k,k<rl.length->(List.replicate rl.length [AV.nils])[k]?=some [.nils]:=λk hk=>by rw[Xi,Wz hk]
  refine⟨λj hj=>Wb hj,.nils,[],_,λ_=>[],λ_=>[],by simp,by rw[Yc];exact Own.nil _ _ 5,⟨by rw[Wg (by omega)];simp,by simp,λk hk=>⟨_,hr k hk⟩,λk A hk _ hA=>by rw[hr k hk] at hA;cases hA;exact .inl ⟨rfl,rfl,rfl⟩,(λ_ _ _ h=>by cases h),(λ_ _ _ _ _ _ _ j h=>by cases h)⟩,(λ_ _ j h=>by cases h),λk b x h=>by omega,λk _ hk=>⟨hr k hk,rfl,rfl⟩⟩
 refine dc (λs:RdS=>aj 122 [(10,.sl (Y.length+1) 1 0 rl.length),(9,.ptr Y.length 3 0 0),(4,.ptr 1 3 0 0)]) (λs=>s.X) (λs=>s.i=rl.length/\PkI c rl Y rl.length s.X) ?_ ?_
 ·simp[];rw[hnl];refine am (λs:RdS=>aj 122 [(47,.p (.int .i64 s.i)),(46,.p (.int .i64 rl.length)),(45,.p (.lst 1 ((an rl).map λn=>[.int .i64 n]))),(10,.sl (Y.length+1) 1 0 rl.length),(9,.ptr Y.length 3 0 0),(8,.sl T 1 0 c.blocks.length),(5,.mp 2),(4,.ptr 1 3 0 0),(2,.ptr 0 3 0 0)]) (λs=>s.X) (λs=>s.i<=rl.length/\PkI c rl Y s.i s.X) (λs=>rl.length-s.i) ⟨0,_⟩ ⟨We _,hPk0⟩ (aa (We _) (by simp[below];omega)) ?_;clear hPk0;rintro⟨i,X⟩ ⟨hi,hX⟩;simp only at hi hX⊢;have hXl:=hX.lt;simp[];refine aA (λhcc=>?_) (λhcc=>?_)
  ·have hcc:i<rl.length:=by simpa using hcc
   have hg:(an rl)[i]?=some ((rl[i]:Nat):Int):=(by rw[an,Wl,Wc hcc];rfl);have hri:=Wc hcc;have hbm:=Wm hcc;generalize rl[i]=b at hg hri hbm;have hbl2:=hin b hbm;have hgb:=Wc hbl2;generalize c.blocks[b]=x at hgb;have hxf:=hf.2 x (Wq hgb);have hxs:=x.cs_eq2;have v0:X[0]?=_:=(hX.kp 0 (by omega)).trans u0;have v0e:=λhh=>ag v0 hh;have hCb:=AC.ownLift G bC (uu G x hxf) (h:=X) (by simp[hxs,below]);rw[hxs] at hCb;simp[hg,v0,hgb,hxs];refine hCb.mono ?_;rintro z W ⟨vs,I0,os,rfl,rfl,hO⟩;rw[←hxs] at hO;obtain⟨P,N,Z,IP,IN,IZ,rfl,rfl,hP2,hN2,hZ2⟩:=eF hO;obtain⟨q1,q2⟩:=hP2.cell;obtain⟨n1,n2⟩:=hN2.cell;obtain⟨z1,z2⟩:=hZ2.cell;simp[-AV.cells,-AV.isCell,az,aO,q2,n2,z2];have hwi:=w1 (i:=i) (by omega);have hTl:=hP'.lt;obtain⟨r,hr⟩:∃r,r=X.length+os.length:=⟨_,rfl⟩;have hxl:=hxf.next;have ndo:=WG.1 hO.nd;have ndo2:=WG.1 ndo.2.1;have hPl:=hP2.lt;have hNl:=hN2.lt;have hZl:=hZ2.lt;simp only[Wn] at hPl hNl hZl;have hpl:∀t∈x.next,0<=t/\t.toNat∈rl:=λt ht=>⟨(hd.nx b x hgb t ht).1,hcl b x hbm hgb t ht⟩
   refine dc (λs:RdS=>aj 122 [(13,.ptr r 5 0 0),(12,.p (.int .i64 b)),(11,.p (.int .i64 i)),(47,.p (.int .i64 i)),(46,.p (.int .i64 rl.length)),(45,.p (.lst 1 ((an rl).map λn=>[.int .i64 n]))),(10,.sl (Y.length+1) 1 0 rl.length),(9,.ptr Y.length 3 0 0),(8,.sl T 1 0 c.blocks.length),(5,.mp 2),(4,.ptr 1 3 0 0),(2,.ptr 0 3 0 0)]) (λs=>s.X)
    (λs=>KpF X s.X/\s.X.length=r+1/\s.X[r]?=some (.row 5 [[P,N,.p (.int .i64 x.jump),.p (.int .i64 x.on),Z]])/\∃I',Own X.length s.X [P,N,.p (.int .i64 x.jump),.p (.int .i64 x.on),Z] (Bk.cs {x with next:=x.next.map (plI rl)}) I'/\r∉I') ?_ ?_
   ·have w0:∀j,j<X.length+os.length->(X++(os++[AO.row 5 [[P,N,.p (.int .i64 x.jump),.p (.int .i64 x.on),Z]]]))[j]?=(X++os)[j]?:=λj hj=>(by rw[←Wp];exact Wb (by simpa using hj));have wr:(X++(os++[AO.row 5 [[P,N,.p (.int .i64 x.jump),.p (.int .i64 x.on),Z]]]))[r]?=some (.row 5 [[P,N,.p (.int .i64 x.jump),.p (.int .i64 x.on),Z]]):=(by rw[hr,←Wp,Wg (by simp)];simp);have wl:(X++(os++[AO.row 5 [[P,N,.p (.int .i64 x.jump),.p (.int .i64 x.on),Z]]])).length=r+1:=(by rw[hr];simp;omega);rw[←hr] at w0 hPl hNl hZl⊢;have wk:∀j,j<X.length->(X++(os++[AO.row 5 [[P,N,.p (.int .i64 x.jump),.p (.int .i64 x.on),Z]]]))[j]?=X[j]?:=λj hj=>Wb hj;have hPw:=hP2.frame (h2:=X++(os++[AO.row 5 [[P,N,.p (.int .i64 x.jump),.p (.int .i64 x.on),Z]]])) λj hj=>w0 j (hPl j hj);have hNw:=hN2.frame (h2:=X++(os++[AO.row 5 [[P,N,.p (.int .i64 x.jump),.p (.int .i64 x.on),Z]]])) λj hj=>w0 j (hNl j hj);have hZw:=hZ2.frame (h2:=X++(os++[AO.row 5 [[P,N,.p (.int .i64 x.jump),.p (.int .i64 x.on),Z]]])) λj hj=>w0 j (hZl j hj);have hrX:X.length<=r:=(by omega);generalize X++(os++[AO.row 5 [[P,N,.p (.int .i64 x.jump),.p (.int .i64 x.on),Z]]])=W at w0 wr wl wk hPw hNw hZw⊢;have wre:=λhh=>ag wr hh;rcases io (λn=>PV.int .i64 n) (λ_ _ _ e=>by cases e) hZw with⟨rfl,z,rfl⟩|⟨zid,rfl,rfl,f3,f4⟩
    ·simp[-AV.cells,-AV.isCell,eG,wr];refine am (λ_:Unit=>aj 122 [(61,.p (.int .i64 0)),(60,.p (.int .i64 0)),(13,.ptr r 5 0 0),(12,.p (.int .i64 b)),(11,.p (.int .i64 i)),(47,.p (.int .i64 i)),(46,.p (.int .i64 rl.length)),(45,.p (.lst 1 ((an rl).map λn=>[.int .i64 n]))),(10,.sl (Y.length+1) 1 0 rl.length),(9,.ptr Y.length 3 0 0),(8,.sl T 1 0 c.blocks.length),(5,.mp 2),(4,.ptr 1 3 0 0),(2,.ptr 0 3 0 0)]) (λ_=>W) (λ_=>True) (λ_=>0) () trivial (aa (We _) (by simp[below];omega)) ?_;intro _ _;simp[];exact⟨⟨0,W⟩,⟨wk,wl,wr,_,by rw[z];exact gX (b:={x with next:=[]}) hPw hNw (Own.nil _ _ 1) (λj hj=>⟨λhm=>ndo.2.2 j hj j (by simp[hm]) rfl,λhm=>by cases hm⟩) (λj hj hm=>by cases hm),by simp;exact⟨λhm=>by have:=hPl _ hm;omega,λhm=>by have:=hNl _ hm;omega⟩⟩,aa (We _) (by simp[below];omega)⟩
    ·have hzr:zid<r:=hZl zid (by simp);have hzl':zid<W.length:=(by omega);have hml:∀k,(ae (mxT (λ_ n=>plI rl n) x.next k)).length=x.next.length:=λk=>(by rw[ae,Wj,fu]);have hzr':zid≠r:=(by omega);simp[-AV.cells,-AV.isCell,cI,wr];refine am (λk:Nat=>aj 122 [(61,.p (.int .i64 k)),(60,.p (.int .i64 x.next.length)),(59,.sl zid 1 0 x.next.length),(13,.ptr r 5 0 0),(12,.p (.int .i64 b)),(11,.p (.int .i64 i)),(47,.p (.int .i64 i)),(46,.p (.int .i64 rl.length)),(45,.p (.lst 1 ((an rl).map λn=>[.int .i64 n]))),(10,.sl (Y.length+1) 1 0 rl.length),(9,.ptr Y.length 3 0 0),(8,.sl T 1 0 c.blocks.length),(5,.mp 2),(4,.ptr 1 3 0 0),(2,.ptr 0 3 0 0)]) (λk=>W.set zid (.row 1 (ae (mxT (λ_ n=>plI rl n) x.next k)))) (λk=>k<=x.next.length) (λk=>x.next.length-k) 0 (We _) ?_ ?_
     ·rw[fw]
      have hs:W.set zid (.row 1 (ae x.next))=W:=by
       obtain⟨h1,h2⟩:=Wa.1 f3;have h3:W[zid]= .row 1 (ae x.next):=h2;rw[←h3,Xl]
      rw[hs];exact aa (We _) (by simp[below];omega)
     intro k hk;simp[];refine aA (λhc2=>?_) (λhc2=>?_)
     ·have hc2:k<x.next.length:=(by simpa using hc2);have hgk:=Wc hc2;have hmk:=Wm hc2;generalize x.next[k]=t at hgk hmk;obtain⟨t0,t1⟩:=hpl t hmk;have hmg:=ic (F:=λ_ n=>plI rl n) hgk;have hms:=gS (F:=λ_ n=>plI rl n) hgk;have hmk2:=hml k;have hrow:(ae (mxT (λ_ n=>plI rl n) x.next k))[k]?=some [.p (.int .i64 t)]:=(by rw[ae,Wl,hmg];rfl);have hset:(ae (mxT (λ_ n=>plI rl n) x.next k)).set k [.p (.int .i64 (plI rl t))]=ae (mxT (λ_ n=>plI rl n) x.next (k+1)):=(by rw[←hms,ae,ae,Ym]);have s1:∀o,(W.set zid o)[zid]?=some o:=λo=>Wh hzl';have s1e:=λo hh=>ag (s1 o) hh;have s2:∀o,(W.set zid o)[r]?=some (.row 5 [[P,N,.p (.int .i64 x.jump),.p (.int .i64 x.on),.sl zid 1 0 x.next.length]]):=λo=>(by rw[Wd hzr'];exact wr);have s2e:=λo hh=>ag (s2 o) hh;have s3:∀o,(W.set zid o)[2]?=some (.mp (mqE (tD rl))):=λo=>(by rw[Wd (by omega),wk 2 (by omega),hX.kp 2 (by omega)];exact u2);have hgt:bU (.int .i64 t) (mqE (tD rl))=some (some (.p (.int .i64 (plI rl t)))):=(by rw[An,JQ t0,Wz t1];rfl);have hwk:=w1 (i:=k) (by omega);have hrowe:=λhh=>ag hrow hh;generalize hR:ae (mxT (λ_ n=>plI rl n) x.next k)=R at*
      simp[-AV.cells,-AV.isCell,kR,aO,cI,s1,s2,s3,hgt,hrowe,hmk2,hc2,hset,Yf];exact⟨k+1,hc2,by omega,aa (We _) (by simp[below,hwk];omega)⟩
     ·have hc2:x.next.length<=k:=(by simpa using hc2);rw[jn hc2]
      have hmm:(x.next.mapIdx λ_ n=>plI rl n)=x.next.map (plI rl):=by
       refine WT λk=>?_;rw[WH,Wl]
      rw[hmm];have hfr:∀j,j≠zid->(W.set zid (.row 1 (ae (x.next.map (plI rl)))))[j]?=W[j]?:=λj hj=>Wd (Ne.symm hj);refine⟨⟨0,_⟩,⟨λj hj=>?_,by rw[Wy];exact wl,by rw[hfr r (Ne.symm hzr')];exact wr,IP++(IN++[zid]),gX (b:={x with next:=x.next.map (plI rl)}) (hPw.frame λj hj=>hfr j λe=>ndo.2.2 j hj j (by simp[e]) rfl) (hNw.frame λj hj=>hfr j λe=>ndo2.2.2 j hj j (by simp[e]) rfl) (aX (by rw[Wh hzl'];rfl) f4 (by simp)) (λj hj=>⟨λhm=>ndo.2.2 j hj j (by simp[hm]) rfl,λhm=>ndo.2.2 j hj j (by simp[Wt.1 hm]) rfl⟩) (λj hj hm=>ndo2.2.2 j hj j (by simp[Wt.1 hm]) rfl),by simp;exact⟨λhm=>by have:=hPl _ hm;omega,λhm=>by have:=hNl _ hm;omega,λe=>hzr' e.symm⟩⟩,aa (We _) (by simp[below];omega)⟩;rw[hfr j (by omega)];exact wk j hj
   rintro⟨_,W⟩ ⟨hkW,hwl,hwr,I',hOw,hrI⟩;simp only at hkW hwl hwr hOw;obtain⟨B,I,rows,L,JJ,x1,x2,x3,x4,x5,x6⟩:=hX.ex;have x3l:=x3.lt;have hrX:X.length<=r:=(by omega);have hTW:TabH W (Y.length+1) rl.length rows L JJ rl.length:=x3.frame (hkW _ x3l.1) λk hk hq j hj=>hkW j (x3l.2 k hk hq j hj);have hKY:∀j,j<Y.length->W[j]?=Y[j]?:=λj hj=>(hkW j (by omega)).trans (hX.kp j hj);obtain⟨AT,hAT⟩:=hT.r1 b hbl2;have hATe:=λhh=>ag hAT hh;have hRT:=hT.rw b AT hbl2 (by omega) hAT;have hLb:phF c b=phR c b x:=(by rw[phF,hgb]);rw[hLb] at hRT;have wT:W[T]?=some (.row 1 rowsT):=(hKY T hTl).trans hT.tt;have wTe:=λhh=>ag wT hh;have hrTl:=hT.rl;obtain⟨a1,a2⟩:=hRT.cell;obtain⟨xi1,xi2,xi3⟩:=x6 i (Wo _) hcc;have hJ0:PjI c rl x b i (Y.length+1) rl.length W rows L JJ 0 W:=⟨Wo _,λ_ _ _=>rfl,rows,L,JJ,hTW,λ_ _=>⟨rfl,rfl,rfl⟩,(by rw[xi3];intro j hj;cases hj),(by rw[xi2];exact⟨rfl,λj f l' _ h=>by simp at h⟩)⟩;have hRl:(phR c b x).length=x.phis.length:=(by rw[phR,Wj]);have hpb:=hxf.phis;simp[];refine dc (λs:RdS=>aj 122 [(13,.ptr r 5 0 0),(12,.p (.int .i64 b)),(11,.p (.int .i64 i)),(47,.p (.int .i64 i)),(46,.p (.int .i64 rl.length)),(45,.p (.lst 1 ((an rl).map λn=>[.int .i64 n]))),(10,.sl (Y.length+1) 1 0 rl.length),(9,.ptr Y.length 3 0 0),(8,.sl T 1 0 c.blocks.length),(5,.mp 2),(4,.ptr 1 3 0 0),(2,.ptr 0 3 0 0)]) (λs=>s.X) (λs=>PjI c rl x b i (Y.length+1) rl.length W rows L JJ x.phis.length s.X) ?_ ?_
   ·rcases hRT with⟨rfl,z,_⟩|⟨jd,ids,rfl,hJ,h3,h4,h5⟩
    ·have z2:x.phis=[]:=WK.1 z;simp[wT,hATe,hrTl,hbl2];refine am (λ_:Unit=>aj 122 [(79,.p (.int .i64 0)),(78,.p (.int .i64 0)),(13,.ptr r 5 0 0),(12,.p (.int .i64 b)),(11,.p (.int .i64 i)),(47,.p (.int .i64 i)),(46,.p (.int .i64 rl.length)),(45,.p (.lst 1 ((an rl).map λn=>[.int .i64 n]))),(10,.sl (Y.length+1) 1 0 rl.length),(9,.ptr Y.length 3 0 0),(8,.sl T 1 0 c.blocks.length),(5,.mp 2),(4,.ptr 1 3 0 0),(2,.ptr 0 3 0 0)]) (λ_=>W) (λ_=>True) (λ_=>0) () trivial (aa (We _) (by simp[below];omega)) ?_;intro _ _;simp[];exact⟨⟨0,W⟩,by rw[z2];exact hJ0,aa (We _) (by simp[below];omega)⟩
    ·rw[hRl] at h4 hAT hATe;have hjl:=(Wa.1 h3).1;have hmrl:(gr ids).length=x.phis.length:=(by rw[gr,Wj];exact h4);simp[wT,hATe,hrTl,hbl2];refine am (λs:RdS=>aj 122 [(79,.p (.int .i64 s.i)),(78,.p (.int .i64 x.phis.length)),(77,.sl jd 1 0 x.phis.length),(13,.ptr r 5 0 0),(12,.p (.int .i64 b)),(11,.p (.int .i64 i)),(47,.p (.int .i64 i)),(46,.p (.int .i64 rl.length)),(45,.p (.lst 1 ((an rl).map λn=>[.int .i64 n]))),(10,.sl (Y.length+1) 1 0 rl.length),(9,.ptr Y.length 3 0 0),(8,.sl T 1 0 c.blocks.length),(5,.mp 2),(4,.ptr 1 3 0 0),(2,.ptr 0 3 0 0)]) (λs=>s.X) (λs=>s.i<=x.phis.length/\PjI c rl x b i (Y.length+1) rl.length W rows L JJ s.i s.X) (λs=>x.phis.length-s.i) ⟨0,W⟩ ⟨We _,hJ0⟩ (aa (We _) (by simp[below];omega)) ?_;clear hJ0;rintro⟨k,X3⟩ ⟨hk,hJk⟩;simp only at hk hJk⊢;have hle3:=hJk.le;simp[];refine aA (λhc2=>?_) (λhc2=>?_)
     ·have hc2:k<x.phis.length:=(by simpa using hc2);have hgk:=Wc hc2;have hmk:=Wm hc2;generalize x.phis[k]=f at hgk hmk;obtain⟨mi,hmi⟩:∃mi,ids[k]?=some mi:=⟨_,Wc (by omega)⟩;have hRk:(phR c b x)[k]?=some ((ab c.blocks b).zip f.args):=(by rw[phR,Wl,hgk];rfl);have hmx:=h5 k mi _ hmi hRk;have hmr:(gr ids)[k]?=some [.mp mi]:=(by rw[gr,Wl,hmi];rfl);have hmre:=λhh=>ag hmr hh;have hmiJ:mi∈JT b:=(by rw[hJ];exact Xb _ (Wq hmi));have hmil:=(Wa.1 hmx).1;have hmi3:=p3 b hbl2 mi hmiJ;have hKY3:∀j,j<Y.length->X3[j]?=Y[j]?:=λj hj=>(hJk.fr j (by omega) (by omega)).trans (hKY j hj);have w3:X3[jd]?=some (.row 1 (gr ids)):=(hKY3 jd hjl).trans h3;have w3e:=λhh=>ag w3 hh;have wm:∀t,(X3++t)[mi]?=some (.mp (mqE ((ab c.blocks b).zip f.args))):=λt=>(by rw[Wb (by omega)];exact(hKY3 mi hmil).trans hmx);have w2:∀t,(X3++t)[2]?=some (.mp (mqE (tD rl))):=λt=>(by rw[Wb (by omega)];exact(hKY3 2 (by omega)).trans u2);have hwk:=w1 (i:=k) (by omega);simp[w3,hmre,hmrl,hc2];refine dc (λl':List (Int × Int)=>aj 122 [(18,.mp X3.length),(79,.p (.int .i64 k)),(78,.p (.int .i64 x.phis.length)),(77,.sl jd 1 0 x.phis.length),(13,.ptr r 5 0 0),(12,.p (.int .i64 b)),(11,.p (.int .i64 i)),(47,.p (.int .i64 i)),(46,.p (.int .i64 rl.length)),(45,.p (.lst 1 ((an rl).map λn=>[.int .i64 n]))),(10,.sl (Y.length+1) 1 0 rl.length),(9,.ptr Y.length 3 0 0),(8,.sl T 1 0 c.blocks.length),(5,.mp 2),(4,.ptr 1 3 0 0),(2,.ptr 0 3 0 0)]) (λl'=>X3++[.mp (mqE l')]) (λl'=>l'.Perm (iM rl ((ab c.blocks b).zip f.args))) ?_ ?_
      ·rw[PU,Oj];simp[]
       have hby0:∀e∈(ab c.blocks b).zip f.args,0<=e.1:=λe he=>by
        obtain⟨k2,_,e2,_⟩:=eW (List.of_mem_zip (a:=e.1) (b:=e.2) he).1;omega
       have hbyn:(((ab c.blocks b).zip f.args).map (·.1)).Nodup:=by
        rw[List.map_fst_zip (by have:=hd.pa b x hgb f hmk;omega)];exact sH _ _
       generalize (ab c.blocks b).zip f.args=by' at wm hby0 hbyn⊢;refine⟨mqE by',wm _,Lc _,λr1=>⟨λrem ts h=>∃done rem',rem=mqE rem'/\(done++rem').Perm by'/\ts=aj 122 [(85,.gp r1 0),(84,.mp mi),(18,.mp X3.length),(83,.mp X3.length),(17,.mp mi),(82,.mp mi),(81,.ptr jd 1 k 0),(80,.p (.bool true)),(79,.p (.int .i64 k)),(78,.p (.int .i64 x.phis.length)),(77,.sl jd 1 0 x.phis.length),(13,.ptr r 5 0 0),(12,.p (.int .i64 b)),(11,.p (.int .i64 i)),(47,.p (.int .i64 i)),(46,.p (.int .i64 rl.length)),(45,.p (.lst 1 ((an rl).map λn=>[.int .i64 n]))),(10,.sl (Y.length+1) 1 0 rl.length),(9,.ptr Y.length 3 0 0),(8,.sl T 1 0 c.blocks.length),(5,.mp 2),(4,.ptr 1 3 0 0),(2,.ptr 0 3 0 0)]/\h=(X3++[AO.mp (mqE (iM rl done))]).set mi AO.dead,⟨[],by',rfl,List.Perm.refl _,rfl,rfl⟩,?_⟩⟩;rintro _ _ _ ⟨done,rem',rfl,hperm,rfl,rfl⟩;have hmil3:mi<X3.length:=(by omega);have s1:∀u,((X3++[u]).set mi .dead)[2]?=some (.mp (mqE (tD rl))):=λu=>(by rw[Wd (by omega)];exact w2 _);have s2:∀u,((X3++[u]).set mi .dead)[X3.length]?=some u:=λu=>(by rw[Wd (by omega)];simp);have s3:∀u v,((X3++[u]).set mi .dead).set X3.length v=(X3++[v]).set mi .dead:=λu v=>(by rw[List.set_comm _ _ (by omega),Xy _ _ (Wo _),Xd];rfl);have s1e:=λu hh=>ag (s1 u) hh;have s2e:=λu hh=>ag (s2 u) hh;have hgd:∀(l:List (Nat × AV)) (a:Nat),a<122->(aj 122 l).getD a .any=Go.Aw.look l a:=λl a ha=>(by rw[Wv,ke ha];rfl);have hln:∀l,(aj 122 l).length=122:=λl=>(by rw[aj,Wj,Xq]);refine⟨by rw[hln];omega,by rw[hln];omega,by rw[hln];omega,by rw[hln];omega,by rw[hgd _ _ (by omega)];rfl,Wh (by simp;omega),λhr=>?_,λe rem2 hp=>?_⟩
       ·obtain rfl:rem'=[]:=WK.1 hr;rw[WI] at hperm
        have hs:((X3++[AO.mp (mqE (iM rl done))]).set mi .dead).set mi (.mp (mqE by'))=X3++[.mp (mqE (iM rl done))]:=by
         rw[Yf];obtain⟨h1,h2⟩:=Wa.1 (wm [.mp (mqE (iM rl done))]);rw[←h2,Xl]
        rw[hs];simp[];exact⟨iM rl done,Li rl hperm,aa (We _) (by simp[below];omega)⟩
       ·obtain⟨p,v,rem3,rfl,rfl,hp2⟩:=QQ hp
        have hperm2:((done++[(p,v)])++rem3).Perm by':=by
         rw[Wp];exact((hp2.append_left done).symm).trans hperm
        have hmem:(p,v)∈by':=hperm2.mem_iff.1 (by simp);have hp0:=hby0 _ hmem;have hnk:=(hperm2.map (·.1)).nodup_iff.2 hbyn
        have hpn:p∉done.map (·.1):=λhm=>by
         rw[WF,WF] at hnk;have h1:=WG.1 (WG.1 hnk).1;exact h1.2.2 p hm p (by simp) rfl
        have hd0:∀e∈done,0<=e.1:=λe he=>hby0 e (hperm2.mem_iff.1 (by simp[he]));have hap:=Ow rl done [(p,v)]
        have hgt:bU (.int .i64 p) (mqE (tD rl))=some (if p.toNat∈rl then some (.p (.int .i64 (plI rl p))) else none):=by
         rw[An,JQ hp0]
         by_cases h:p.toNat∈rl
         ·rw[Wz h,Wz h];rfl
         ·rw[WB h,WB h];rfl
        by_cases hpr:p.toNat∈rl
        ·have hms:=Aq (plI rl p) v (iM rl done) (Fu hp0 hpr hd0 hpn);have hm1:iM rl [(p,v)]=[(plI rl p,v)]:=(by rw[rj,Wz hpr];rfl);rw[hm1] at hap;rw[←hap] at hms;rw[Wz hpr] at hgt;simp[s1,hgt,s2e,hms,s3];exact⟨_,_,aa (by simp) (by simp[below];omega),done++[(p,v)],rem3,rfl,hperm2,rfl,rfl⟩
        ·have hm1:iM rl [(p,v)]=[]:=(by rw[rj,WB hpr];rfl);rw[hm1,WI] at hap;rw[WB hpr] at hgt;simp[s1,hgt];exact⟨_,_,aa (by simp) (by simp[below];omega),done++[(p,v)],rem3,rfl,hperm2,rfl,by rw[hap]⟩
      intro l' hp;obtain⟨rows3,L3,JJ3,hT3,hoth,hge3,hM1,hM2⟩:=hJk.ex;have hq3:=hT3.lt;obtain⟨A2,hA2⟩:=hT3.r1 i hcc;have hA2e:=λhh=>ag hA2 hh;have hR3:=hT3.rw i A2 hcc (by omega) hA2;obtain⟨d1,d2⟩:=hR3.cell;have hr3l:=hT3.rl;have n1:∀t,(X3++t)[Y.length+1]?=some (.row 1 rows3):=λt=>(by rw[Wb hq3.1];exact hT3.tt);have n1e:=λt hh=>ag (n1 t) hh;have hfA:∀t,∀j,j<X3.length->(X3++t)[j]?=X3[j]?:=λt j hj=>Wb hj;have hR4:RowM (X3++[.mp (mqE l'),.row 1 [[.mp X3.length]]]) A2 (L3 i) (JJ3 i):=hR3.frame λj hj=>hfA _ j (hR3.lt j hj);obtain⟨A',Y',happ,hpsh⟩:=hR4.push1 X3.length (by omega);obtain⟨J',hR5,g2,g3,g4,_⟩:=hR4.push (e:=l') (by rw[Wg (Wo _),Xd];rfl) hpsh;simp only[Wn,WC,WL] at g2 g3 g4;have hqn:Y.length+1∉JJ3 i:=hT3.nT i hcc (by omega);have hYq:Y'[Y.length+1]?=some (.row 1 rows3):=(g4 _ (by omega) λ_=>hqn).trans (n1 _);have hYqe:=λhh=>ag hYq hh
      have hT4:TabH Y' (Y.length+1) rl.length rows3 L3 JJ3 i:=(hT3.opn i).frame (by rw[hYq,hT3.tt]) λk' hk' hne j hj=>by
       have hjl:=hq3.2 k' hk' (by omega) j hj;rw[g4 j (by omega) λ_=>hT3.dj k' i hk' hcc (by omega) (by omega) hne j hj];exact hfA _ j hjl
      have hT5:=hT4.put hcc hR5 (λhm=>by
       rcases g2 _ hm with h1|h1|h1
       ·exact hqn h1
       ·omega
       ·omega) (λk' hk' hne j hj hm=>by
       have hjl:=hq3.2 k' hk' (by omega) j hj;rcases g2 _ hm with h1|h1|h1
       ·exact hT3.dj k' i hk' hcc (by omega) (by omega) hne j hj h1
       ·omega
       ·omega)
      have hge':∀j∈J',W.length<=j:=λj hj=>by
       rcases g2 j hj with h1|h1|h1
       ·exact hge3 j h1
       ·omega
       ·omega
      have hfin:PjI c rl x b i (Y.length+1) rl.length W rows L JJ (k+1) (Y'.set (Y.length+1) (.row 1 (rows3.set i [A']))):=by
       refine⟨by rw[Wy,g3];omega,λj hj hne=>?_,_,_,_,hT5,λk' hk'=>?_,by simp only[Wz];exact hge',by simp only[Wz];rw[Wn,hM1];rfl,λj f2 l2 hj hl2=>?_⟩
       ·rw[Wd (Ne.symm hne),g4 j (by omega) λ_ hm=>by have:=hge3 j hm;omega];rw[hfA _ j (by omega)];exact hJk.fr j hj hne
       ·simp only[WB hk'];obtain⟨o1,o2,o3⟩:=hoth k' hk';exact⟨o1,o2,by rw[Wd (Ne.symm hk')];exact o3⟩
       ·simp only[Wz] at hl2
        by_cases hjk:j<k
        ·rw[Wb (by omega)] at hl2;exact hM2 j f2 l2 hj hl2
        ·rw[Wg (by omega)] at hl2
         have hjk2:j=k:=by
          have:=(Wa.1 hl2).1;simp only[Xf] at this;omega
         subst hjk2;rw[hM1,Xd] at hl2;rw[hgk] at hj;cases hj;simp only[XP,WO] at hl2;rw[←hl2];exact hp
      obtain⟨d3,d4⟩:=hR5.cell;have hcm:(AV.mp X3.length).cells=[.mp X3.length]:=rfl;have him:(AV.mp X3.length).isCell=true:=rfl;simp[-AV.cells,-AV.isCell,hcm,him,d2,d3,d4,n1,hA2e,hr3l,hcc,happ,hYq];exact⟨⟨k+1,_⟩,⟨by simp only;omega,hfin⟩,by simp only;omega,aa (We _) (by simp[below,hwk];omega)⟩
     ·have hc2:x.phis.length<=k:=(by simpa using hc2);obtain rfl:k=x.phis.length:=(by omega);exact⟨⟨0,X3⟩,hJk,aa (We _) (by simp[below];omega)⟩
   rintro⟨_,X4⟩ hJ4;simp only at hJ4;obtain⟨rows3,L3,JJ3,hT3,hoth,hge3,hMv⟩:=hJ4.ex;have hq3:=hT3.lt;have hle4:=hJ4.le;have hIl:=x2.lt;have hIg:=x2.ge;have hI'l:=hOw.lt;have hI'g:=hOw.ge;have k4:∀j,j<X.length->j≠Y.length+1->X4[j]?=X[j]?:=λj hj hne=>(hJ4.fr j (by omega) hne).trans (hkW j hj);have y1:X4[Y.length]?=some (.row 3 [[.p (.int .i64 c.params),.p (.int .i64 c.regs),B]]):=(k4 _ (by omega) (by omega)).trans x1;have y1e:=λhh=>ag y1 hh;have y2:X4[r]?=some (.row 5 [[P,N,.p (.int .i64 x.jump),.p (.int .i64 x.on),Z]]):=(hJ4.fr r (by omega) (by omega)).trans hwr;have y2e:=λhh=>ag y2 hh;have y1c:∀t,(X4++t)[Y.length]?=_:=λt=>(Wb (by omega)).trans y1;have hB4:Own (Y.length+2) (X4++[.row 5 [[P,N,.p (.int .i64 x.jump),.p (.int .i64 x.on),Z]]]) [B] [bkL ((aH c.blocks rl).take i)] I:=(x2.frame (h2:=X4) λj hj=>k4 j (hIl j hj) (by have:=hIg j hj;omega)).more _
   have hO4:Own (Y.length+2) (X4++[.row 5 [[P,N,.p (.int .i64 x.jump),.p (.int .i64 x.on),Z]]]) [P,N,.p (.int .i64 x.jump),.p (.int .i64 x.on),Z] (Bk.cs {x with next:=x.next.map (plI rl)}) I':=
    ⟨((hOw.frame (h2:=X4) λj hj=>hJ4.fr j (hI'l j hj) (by have:=hI'g j hj;omega)).more _).own,hOw.nd,((hOw.frame (h2:=X4) λj hj=>hJ4.fr j (hI'l j hj) (by have:=hI'g j hj;omega)).more _).no,hOw.nv,λj hj=>by have:=hI'g j hj;omega⟩
   have hpl1:(aH c.blocks rl).length=rl.length:=(by rw[aH,Wj]);have hDl:(((aH c.blocks rl).take i).map Bk.cs).length=i:=(by rw[Wj,WD];omega);obtain⟨V',Y4,happ,hpsh⟩:=Own.push1 (b:=88) (D:=((aH c.blocks rl).take i).map Bk.cs) hB4 [P,N,.p (.int .i64 x.jump),.p (.int .i64 x.on),Z] (by rw[hDl];omega);obtain⟨IV',g1,g2,g3,g4⟩:=Own.psh (D:=((aH c.blocks rl).take i).map Bk.cs) hB4 hO4 (λj hj hm=>by have:=hIl j hj;have:=hI'g j hm;omega) rfl (by simp;omega) hpsh;simp only[Wn,WC,WL] at g2 g3 g4;have hpk:(aH c.blocks rl)[i]?=some {x with next:=x.next.map (plI rl)}:=(by rw[aH,Wl,hri];simp[mj,hgb]);have htk:((aH c.blocks rl).take i).map Bk.cs++[Bk.cs {x with next:=x.next.map (plI rl)}]=((aH c.blocks rl).take (i+1)).map Bk.cs:=(by rw[WQ,hpk];simp);rw[htk] at g1;have hqI:∀j,j<Y.length+2->j∉I:=λj hj hm=>(by have:=hIg j hm;omega);have hY4:∀j,j<X4.length->j∉I->Y4[j]?=X4[j]?:=λj hj hn=>(g3 j (by omega) hn).trans (Wb hj);have yq:Y4[Y.length]?=some (.row 3 [[.p (.int .i64 c.params),.p (.int .i64 c.regs),B]]):=(hY4 _ (by omega) (hqI _ (by omega))).trans y1;have yqe:=λhh=>ag yq hh;have hYl:Y.length<Y4.length:=by omega
   have hJd:∀k,k<rl.length->∀j∈JJ3 k,Y.length+2<=j/\j∉I/\j∉I'/\j<X4.length:=λk hk j hj=>by
    have hjl:=hq3.2 k hk (by omega) j hj
    by_cases e:k=i
    ·subst e;have h1:=hge3 j hj;exact⟨by omega,λhm=>by have:=hIl j hm;omega,λhm=>by have:=hI'l j hm;omega,hjl⟩
    ·rw[(hoth k e).2.1] at hj;have h1:=x4 k hk j hj;have h2:=x3l.2 k hk (by omega) j hj;exact⟨h1.1,h1.2,λhm=>by have:=hI'g j hm;omega,hjl⟩
   have hfin:PkI c rl Y (i+1) (Y4.set Y.length (.row 3 [[.p (.int .i64 c.params),.p (.int .i64 c.regs),V']])):=by
    refine⟨λj hj=>?_,V',IV',rows3,L3,JJ3,Wh hYl,g1.frame λj hj=>Wd (by have:=g1.ge j hj;omega),hT3.frame ?_ λk hk _ j hj=>?_,λk hk j hj=>⟨(hJd k hk j hj).1,λhm=>?_⟩,λk b' x' hk hb' hx'=>?_,λk hk hkl=>?_⟩
    ·rw[Wd (by omega),hY4 j (by omega) (hqI j (by omega)),k4 j (by omega) (by omega)];exact hX.kp j hj
    ·rw[Wd (by omega)];exact hY4 _ hq3.1 (hqI _ (by omega))
    ·have h1:=hJd k hk j hj;rw[Wd (by omega)];exact hY4 j h1.2.2.2 h1.2.1
    ·have h1:=hJd k hk j hj;rcases g2 j hm with h2|h2|h2
     ·exact h1.2.1 h2
     ·exact h1.2.2.1 h2
     ·omega
    ·by_cases e:k=i
     ·subst e;rw[hri] at hb';cases hb';rw[hgb] at hx';cases hx';exact hMv
     ·rw[(hoth k e).1];exact x5 k b' x' (by omega) hb' hx'
    ·obtain⟨o1,o2,o3⟩:=hoth k (by omega);obtain⟨o4,o5,o6⟩:=x6 k (by omega) hkl;exact⟨o3.trans o4,o1.trans o5,o2.trans o6⟩
   obtain⟨b1,b2⟩:=hB4.cell;obtain⟨v1,v2⟩:=g1.cell;simp[-AV.cells,-AV.isCell,az,aO,q2,n2,z2,b2,v1,v2,y1,y2,happ,yq];exact⟨⟨i+1,_⟩,⟨hcc,hfin⟩,by simp only;omega,aa (We _) (by simp[below,hwi];omega)⟩
  ·have hcc:rl.length<=i:=by simpa using hcc
   obtain rfl:i=rl.length:=(by omega);exact⟨⟨rl.length,X⟩,⟨rfl,hX⟩,aa (We _) (by simp[below];omega)⟩
 clear hPk0;rintro⟨_,X⟩ ⟨rfl,hX⟩;simp only at hX⊢;obtain⟨B,I,rows,L,JJ,x1,x2,x3,x4,x5,_⟩:=hX.ex;have hpl1:(aH c.blocks rl).length=rl.length:=by rw[aH,Wj]
 rw[Wi (by omega)] at x2;have hrl1:1<=rl.length:=YS.2 hne;have hXl:=hX.lt;have hIg:=x2.ge
 have hgm:∀(k:Nat) (y:Bk),(aH c.blocks rl)[k]?=some y->∃b x,rl[k]?=some b/\c.blocks[b]?=some x/\y={x with next:=x.next.map (plI rl)}:=λk y hk=>by
  rw[aH,Wl] at hk;cases hb:rl[k]? with
  |none=>rw[hb] at hk;cases hk
  |some b=>
   rw[hb] at hk;have hbl2:=hin b (Wq hb);refine⟨b,c.blocks[b],rfl,Wc hbl2,?_⟩;have hba:mj c.blocks b=c.blocks[b]:=(by rw[mj,Wc hbl2];rfl);have:=Option.some.inj hk;simp only[hba] at this;exact this.symm
 have hSe:=Ft (n:=Y.length+2) (X:=X) (q:=Y.length) (T:=Y.length+1) (pm:=c.params) (rg:=c.regs) G x1 x2 (λhm=>by have:=hIg _ hm;omega) hXl (by rw[hpl1];exact x3) (λhm=>by have:=hIg _ hm;omega) (λk hk j hj=>(x4 k (by omega) j hj).2)
  (λk y hk=>by obtain⟨b,x,h1,h2,rfl⟩:=hgm k y hk;exact(x5 k b x (Wa.1 h1).1 h1 h2).1) (by omega) (by omega)
  (λy hy=>by
    obtain⟨k,hk⟩:=WA hy;obtain⟨b,x,h1,h2,rfl⟩:=hgm k y hk;simp only[Wj];exact(hf.2 x (Wq h2)).next)
  (λy hy=>by
    obtain⟨k,hk⟩:=WA hy;obtain⟨b,x,h1,h2,rfl⟩:=hgm k y hk;have:=(hd.sm x (Wq h2)).1;show x.phis.length<=_;omega)
 rw[hpl1,OG hd nd hin (λk b x h1 h2=>x5 k b x (Wa.1 h1).1 h1 h2)] at hSe;simp[];refine hSe.mono ?_;rintro zz Z ⟨rfl,I',g1,g2,g3,g4⟩;have hx1:Z[1]?=some (.row 3 [[.p (.int .i64 0),.p (.int .i64 0),.nils]]):=(g4.2 1 (by omega) λhm=>by have:=hIg _ hm;omega).trans ((hX.kp 1 (by omega)).trans u1);have hZl:=g4.1;obtain⟨b1,b2⟩:=g2.cell;have g1e:=λhh=>ag g1 hh;have hs1:∀o,(Z.set 1 o)[1]?=some o:=λo=>Wh (by omega);have hs1e:=λo hh=>ag (hs1 o) hh;have hx1e:=λhh=>ag hx1 hh;simp[-AV.cells,-AV.isCell,az,aO,b2,g1,hx1,hs1];have hfin:=nB (c:=jh c rl) (g2.frame (h2:=Z.set 1 (.row 3 [[.p (.int .i64 c.params),.p (.int .i64 c.regs),B]])) λj hj=>Wd λe=>by have:=g2.ge j hj;omega);exact⟨_,I',rfl,⟨hfin.own,hfin.nd,hfin.no,hfin.nv,λ_ _=>We _⟩⟩
theorem DrpC.cfit{c:Cd}(h:DrpC c):en 1073741824 c:=⟨by have:=h.b160;omega,λx hx=>by
 have h1:=h.sm x hx;exact⟨by have:=h1.1;omega,by have:=h1.2.1;omega,by have:=h1.2.2.1;omega,λy hy=>by have:=h1.2.2.2.2 y hy;omega,λy hy=>by have:=h1.2.2.2.1 y hy;omega⟩⟩
theorem LG{bs:List Bk}(h:be bs=true):0∈oA bs:=WM.2 ⟨Xn.2 (cf h),Nb bs⟩
theorem Mu{c:Cd}(h:DrpC c)(b:Nat)(x:Bk)(hb:b∈oA c.blocks)(hx:c.blocks[b]?=some x):∀t∈x.next,t.toNat∈oA c.blocks:=λt ht=>
 WM.2 ⟨Xn.2 (h.nx b x hx t ht).2,Pb (WM.1 hb).2 (by rw[nxC,hx];exact Ww.2 ⟨t,ht,rfl⟩)⟩
theorem CM(c:Cd)(h:DrpC c):AC Tryz.prog G cL [.agg (c.cs.map .p)] [] (OwW .agg (jh c (oA c.blocks)).cs):=by
 have hcs:=c.cs_eq2;have hbl:bkL c.blocks= .lst 5 (c.blocks.map Bk.cs):=rfl;have hc:CBd c:=⟨by have:=h.b160;omega,λx hx=>by have:=(h.sm x hx).2.2.1;omega⟩;have hR:=Gh G c hc;have hre:lS c.blocks=an (oA c.blocks):=by rw[sN h.fit];rfl
 rw[hre,hcs,hbl] at hR;have hP:=Oi G c h.cfit h (oA c.blocks) (EH _) EN (List.ne_nil_of_mem (LG h.fit)) (λb x hb hx=>Mu h b x hb hx);refine AC.go sT ?_;simp[kz,hcs,hbl];refine hR.use ?_;have hP2:=AC.ownLift G bC hP (h:=[AO.row 3 [[.p (.int .i64 c.params),.p (.int .i64 c.regs),.p (.lst 5 (c.blocks.map Bk.cs))]],.row 3 [[.p (.int .i64 0),.p (.int .i64 0),.nils]]]) (by simp);rw[hcs,hbl] at hP2;simp[];refine hP2.mono ?_;rintro r X ⟨vs,IA,os,rfl,rfl,hO⟩;obtain⟨B,rfl,hB⟩:=jG hO;obtain⟨b1,b2⟩:=hB.cell;simp[-AV.cells,-AV.isCell,az,aO,b2]
 exact⟨_,IA,rfl,nB (c:=jh c (oA c.blocks)) ((hB.frame λi hi=>by
  have h2:=hB.ge i hi;simp only[WC,WL] at h2;obtain⟨k,rfl⟩:∃k,i=k+2:=⟨i-2,by omega⟩;rfl).low λj _=>We _)⟩
end
section
variable (G:aw)
theorem FW{n:Nat}{h:List AO}{V:AV}{I:List Nat}(u:List Cd)(hu:rH 1073741824 u)(hV:Own n h [V] [cdL u] I):AC Tryz.prog G gI [.agg [V],.p (.bool true)] h λx Y=>x= .ret (if unB u=true then .tup [.agg [V],.p (.bool true)] else .tup [.agg [.nils],.p (.bool false)])/\KpF h Y:=by
 obtain⟨c1,c2⟩:=hV.cell;have hUV:=λt:List AO=>(vP G u hu).lend (h:=h++t) (args:=[.agg [V]]) (.agg (.one (hV.more t).view .nil) .nil) rfl;refine AC.go vc ?_;simp[mc,-AV.cells,-AV.isCell,az,c2];refine(hUV _).mono ?_;rintro z Z ⟨rfl,rfl⟩;cases e:unB u with
 |false=>
  simp[-AV.cells,-AV.isCell,az,eG];exact λj hj=>Wb hj
 |true=>
  simp[-AV.cells,-AV.isCell,az,c2];exact λj hj=>Wb hj
theorem zm(u:List Cd)(hu:rH 1073741824 u):AC Tryz.prog G bI [.agg [.p (cdL u)]] [] (MkW (Ov (fq u).2) true [cdL (fq u).1]):=by
 have hS:=HL G u hu;refine AC.go vI ?_;simp[mz];refine hS.use ?_;cases e:mR u with
 |false=>
  have hk:fq u=([],false):=by rw[fq,e];simp
  rw[hk];simp[];exact⟨[.nils],[],rfl,.nils 3 .nil,Yk⟩
 |true=>
  have hun:unB u=true:=by rw[mR,Wr] at e;exact e.1
  have hall:∀c∈u,CdA c/\KFit c:=λc hc=>by
   obtain⟨k,hk⟩:=WA hc;rw[mR,Wr,Wu] at e;exact⟨BC hun hk,Kv (Sl hun hk) (e.2 c hc)⟩
  have hM:=λh:List AO=>AC.ownLift G dQ (Ik G dO u mh hu.1 λc hc=>Fy G (CM G) c (hall c hc).1 (hall c hc).2) (h:=h) (by simp[below]);have hkf:=Dy hun hu.1;simp[];refine(hM _).mono ?_;rintro z Z ⟨vs,I,os,rfl,rfl,hO⟩;obtain⟨V,rfl⟩:=br hO.own;obtain⟨c1,c2⟩:=hO.cell;simp[-AV.cells,-AV.isCell,c1,c2,dM];refine(FW G (bH u) hkf hO).mono ?_;rintro z Z ⟨rfl,hK⟩;have hz1:Z[1]?=some (.row 1 [[.nils]]):=(hK 1 (by simp)).trans rfl;have hz1e:=λhh=>ag hz1 hh;have hO2:Own 2 Z [V] [cdL (bH u)] I:=hO.frame λj hj=>hK j (hO.lt j hj);have hIg:=hO.ge;have hzl:=(Wa.1 hz1).1;have hs1:∀o,(Z.set 1 o)[1]?=some o:=λo=>Wh hzl;have hs1e:=λo hh=>ag (hs1 o) hh;cases eu:unB (bH u) with
  |false=>
   have hk:fq u=([],false):=(by rw[fq,e,eu];simp);rw[hk];simp[hz1,hs1];exact⟨[.nils],[],rfl,.nils 3 .nil,Yk⟩
  |true=>
   have hk:fq u=(bH u,true):=(by rw[fq,e,eu];simp);rw[hk];simp[-AV.cells,-AV.isCell,az,c2,hz1,hs1];exact⟨[V],I,rfl,(hO2.frame (h2:=Z.set 1 (.row 1 [[V]])) λj hj=>Wd (by have:=hIg j hj;simp at this;omega)).own,hO2.nd⟩
end
section
theorem tG{α:Type}{f g:α->Nat}(h:∀x,f x<=3*g x):∀l:List α,szL f l<=3*szL g l
 |[]=>We _
 |x::r=>by
  have ih:=tG h r;have:=h x;simp only[szL,WJ,XC] at ih⊢;omega
theorem MK(u:List Cd):szL Cd.q u<=3*unZ u:=by
 have h1:∀x:Ph,x.q<=3*x.sz:=λx=>by unfold Ph.q Ph.sz;omega
 have h2:∀x:Ii,x.q<=3*x.sz:=λx=>by unfold Ii.q Ii.sz;omega
 have h3:∀x:Bk,x.q<=3*x.sz:=λx=>by have:=tG h1 x.phis;have:=tG h2 x.ins;unfold Bk.q Bk.sz;omega
 exact tG (λx=>by have:=tG h3 x.blocks;unfold Cd.q Cd.sz;omega) u
theorem AL{α:Type}{f g:α->Nat}{a b:Nat}:∀{l:List α},(∀x∈l,f x<=a*g x+b)->szL f l<=a*szL g l+b*l.length
 |[],_=>We _
 |x::r,h=>by
  have ih:=AL (l:=r) λy hy=>h y (by simp[hy]);have:=h x (by simp);simp only[szL,WJ,XC,WC] at ih⊢;rw[Nat.mul_add,Nat.mul_add];omega
theorem He{α:Type}(l:List α):szL (λ_=>1) l=l.length:=by
 induction l with
 |nil=>rfl
 |cons x r ih=>simp only[szL,WJ,XC,WC] at ih⊢;omega
theorem RS{c:Cd}(h:CdA c):c.sz<=130000:=by
 have hb:∀x∈c.blocks,x.sz<=161*bkN x+3:=λx hx=>by
  obtain⟨b,hb⟩:=WA hx;obtain⟨q1,q2,q3⟩:=h.bk hb;have p1:=AL (f:=Ph.sz) (g:=λ_=>1) (a:=161) (b:=0) (l:=x.phis) λf hf=>by have:=q3 f hf;unfold Ph.sz;omega
  have p2:=AL (f:=Ii.sz) (g:=λ_=>1) (a:=4) (b:=0) (l:=x.ins) λy hy=>by have:=h.a3 x hx y hy;unfold Ii.sz;omega
  rw[He] at p1 p2;unfold Bk.sz bkN;omega
 have h1:=AL (f:=Bk.sz) (g:=bkN) (a:=161) (b:=3) (l:=c.blocks) hb;have h2:szL bkN c.blocks=cdN c:=rfl;have h3:=h.n8;have h4:=h.v.b160;rw[h2] at h1;unfold Cd.sz;omega
theorem RI{u:List Cd}(h:unB u=true):unZ u<=1048576:=by
 have hl:u.length<=4:=by
  simp only[unB,inR,Wr,Wx] at h;omega
 have h1:=AL (f:=Cd.sz) (g:=λ_=>1) (a:=130000) (b:=0) (l:=u) λc hc=>by
  obtain⟨k,hk⟩:=WA hc;have:=RS (BC h hk);omega
 rw[He] at h1;have:unZ u=szL Cd.sz u:=rfl;omega
theorem PL{u:List Cd}(h:unZ u<=1048576):rH 1073741824 u:=by
 have hz:unZ u=szL Cd.sz u:=rfl;refine⟨by have:=bv (f:=Cd.sz) Cd.sz1 u;omega,λc hc=>?_⟩;have h1:=bA (f:=Cd.sz) hc;have h2:c.sz=1+szL Bk.sz c.blocks:=rfl;refine⟨by have:=bv (f:=Bk.sz) Bk.sz1 c.blocks;omega,λb hb=>?_⟩;have h3:=bA (f:=Bk.sz) hb;have h4:b.sz=1+szL Ph.sz b.phis+szL Ii.sz b.ins+b.next.length:=rfl;exact⟨by have:=bv (f:=Ph.sz) Ph.sz1 b.phis;omega,by have:=bv (f:=Ii.sz) Ii.sz1 b.ins;omega,by omega,λx hx=>by have:=bA (f:=Ph.sz) hx;have:x.sz=1+x.args.length:=rfl;omega,λx hx=>by have:=bA (f:=Ii.sz) hx;have:x.sz=1+x.args.length:=rfl;omega⟩
theorem QM(u:List Cd):unZ (fq u).1<=1048576:=by
 rw[fq];split
 ·exact RI (by assumption:_/\_).2
 ·exact We _
variable (G:aw)
theorem Dh(u:List Cd)(hf:rH BL u):VF Tryz.prog G fk [.agg [.p (cdL u)]] (.p (.bool true)):=by
 refine AC.go mQ ?_;have hsz':VF Tryz.prog G gY [.agg [.p (cdL u)],.p (.int .i64 1048576)] (.p (.int .i64 (ed 1048576 (unZ u)))):=NB G u hf 1048576 (Wo _);simp-implicitDefEqProofs[fg];refine hsz'.use ?_
 by_cases hz:unZ u<=1048576
 case neg=>
  rw[aC hz];simp-implicitDefEqProofs[]
 have hu:=PL hz;have hto:=Ng G u hz;have hnn:¬((1048576-unZ u:Nat):Int)<0:=by omega
 have hrz:=QM u;have hot:=λh:List AO=>AC.mkLift bC (FB G u hz) (h:=h) (by simp);have hin:∀(h:List AO) (v:AV) (I:List Nat),OwnL true h [v] [cdL u] I->AC Tryz.prog G bI [.agg [v]] h (Mk (Ov (fq u).2) true [cdL (fq u).1] h):=λh v I ho=>AC.mkLend (Gl _) (zm G u hu) (.agg ho.views .nil);have hpu:VF Tryz.prog G bI [.agg [.p (cdL u)]] (.tup [.agg [.p (cdL (fq u).1)],.p (.bool (fq u).2)]):=AC.mkFreeze (Gl _) (zm G u hu);have hsR:=Gy G u hu;have hQ:=MK u;have hQr:=MK (fq u).1;have heq:=GI G (fq u).1 hrz;have hmr:=λh v I=>BA G (fq u).1 h v I 1;have hhr:=IK G (fq u).1 1 (by omega);generalize (fq u).1=rp at*
 generalize (fq u).2=ok at*
 rw[aQ hz];simp-implicitDefEqProofs[hnn];refine hto.use ?_;simp-implicitDefEqProofs[];refine hsR.use ?_;simp-implicitDefEqProofs[];refine(hot _).mono ?_;rintro x h2 ⟨vs,I,os,rfl,e2,ho,nd,hf⟩;obtain⟨v,rfl⟩:=br ho;obtain⟨c1,c2⟩:=dU ho;simp-implicitDefEqProofs[-AV.cells,-AV.isCell,az,c2];refine(hin _ v I (ho.more _)).mono ?_;rintro x h3 ⟨vs6,I6,os6,rfl,e3,ho6,nd6,hf6⟩;obtain⟨v6,rfl⟩:=br ho6;obtain⟨c3,c4⟩:=dU ho6;have hb0:h3[0]?=some (.row 1 [[.p (cdL u)]]):=by rw[e3,e2];rfl
 have hb4:h3[1]?=some (.row 1 [[.p (cdL rp)]]):=by rw[e3,e2];rfl
 have hb5:h3[h2.length]?=some (.row 1 [[v]]):=by rw[e3];simp
 have ho3:OwnL true h3 [v] [cdL u] I:=by rw[e3];exact(ho.more _).more _
 have hlen3:h2.length<h3.length:=(Wa.1 hb5).1;have hI1:∀i∈I,2<=i:=λi hi=>hf i hi;have h6:∀i∈I6,h2.length<i:=λi hi=>by have:=hf6 i hi;simp at this;omega
 have hnil:1<h2.length:=by rw[e2];simp
 have hg0:∀t,(h3++t)[0]?=some (.row 1 [[.p (cdL u)]]):=λt=>by rw[Wb (by omega)];exact hb0
 have hg4:∀t,(h3++t)[1]?=some (.row 1 [[.p (cdL rp)]]):=λt=>by rw[Wb (by omega)];exact hb4
 have hg5:∀t,(h3++t)[h2.length]?=some (.row 1 [[v]]):=λt=>by rw[Wb (by omega)];exact hb5
 have hdl:=λh v6 I6 (ho6:OwnL true h [v6] [cdL rp] I6)=>heq.lend (h:=h) (args:=[.agg [v6],.agg [.p (cdL rp)]]) (.agg ho6.views (.keep (by simp[below]) .nil)) rfl;simp-implicitDefEqProofs[-AV.cells,-AV.isCell,az,c4,Ov,hg4];have hG0:=hg0 [.row 1 [[v6]]];have hG4:=hg4 [.row 1 [[v6]]];have hG5:=hg5 [.row 1 [[v6]]];have hG7:(h3++[AO.row 1 [[v6]]])[h3.length]?=some (.row 1 [[v6]]):=by simp
 have ho3':=ho3.more [.row 1 [[v6]]];have ho6':=ho6.more [.row 1 [[v6]]];have h6':∀i∈I6,h2.length<i/\i<h3.length:=λi hi=>⟨h6 i hi,ho6.lt hi⟩;have hI2:∀i∈I,i<h2.length:=λi hi=>ho.lt hi;generalize hn3:h3.length=n3 at*
 generalize hn2:h2.length=n2 at*
 generalize h3++[AO.row 1 [[v6]]]=h4 at*
 clear hg0 hg4 hg5 hb0 hb4 hb5 ho3 ho6 ho e3 hf6 h6;refine(hdl _ v6 I6 ho6').mono ?_;rintro x h5 ⟨rfl,rfl⟩;simp-implicitDefEqProofs[hG0,hG5];refine hto.use ?_;simp-implicitDefEqProofs[hG5];have hep:=λh v I (ho:OwnL true h [v] [cdL u] I)=>(GI G u hz).lend (h:=h) (args:=[.agg [v],.agg [.p (cdL u)]]) (.agg ho.views (.keep (by simp[below]) .nil)) rfl;refine(hep _ v I ho3').mono ?_;rintro x h5 ⟨rfl,rfl⟩;simp-implicitDefEqProofs[hG5];refine(BA G u _ v I 1 ho3' nd (by omega)).mono ?_;rintro x h6 ⟨rfl,o7,f7,l7⟩;have hnn7:¬(1:Int)+(szL Cd.q u:Int)<0:=by omega
 have hL4:n3<h5.length:=(Wa.1 hG7).1;have fG0:h6[0]?=some (.row 1 [[.p (cdL u)]]):=by rw[f7 _ (by omega) λhm=>by have:=hI1 _ hm;omega,hG0]
 have fG4:h6[1]?=some (.row 1 [[.p (cdL rp)]]):=by rw[f7 _ (by omega) λhm=>by have:=hI1 _ hm;omega,hG4]
 have fG7:h6[n3]?=some (.row 1 [[v6]]):=by rw[f7 _ hL4 λhm=>by have:=hI2 _ hm;omega,hG7]
 have fo6:OwnL true h6 [v6] [cdL rp] I6:=ho6'.frame λi hi=>f7 i (ho6'.lt hi) λhm=>by have:=h6' i hi;have:=hI2 i hm;omega
 clear hG0 hG4 hG5 hG7;simp-implicitDefEqProofs[fG4,fG7,hnn7];refine(hdl _ v6 I6 fo6).mono ?_;rintro x h7 ⟨rfl,rfl⟩;simp-implicitDefEqProofs[fG7];refine(hmr _ v6 I6 fo6 nd6 (by omega)).mono ?_;rintro x h8 ⟨rfl,o8,f8,l8⟩;have hL7:n3<h7.length:=(Wa.1 fG7).1;have gG0:h8[0]?=some (.row 1 [[.p (cdL u)]]):=by rw[f8 _ (by omega) λhm=>by have:=h6' _ hm;omega,fG0]
 have gG4:h8[1]?=some (.row 1 [[.p (cdL rp)]]):=by rw[f8 _ (by omega) λhm=>by have:=h6' _ hm;omega,fG4]
 have gG7:h8[n3]?=some (.row 1 [[v6]]):=by rw[f8 _ hL7 λhm=>by have:=h6' _ hm;omega,fG7]
 clear fG0 fG4 fG7;have hhe:=λh v6 I6 (ho6:OwnL true h [v6] [cdL (mkL Cd.q Cd.mkd 1 rp)] I6)=>hhr.lend (h:=h) (args:=[.agg [v6],.p (.int .i64 1)]) (.agg ho6.views (.keep (by simp[below]) .nil)) rfl;have hnn9:¬(1:Int)+(szL Cd.q rp:Int)<0:=by omega
 simp-implicitDefEqProofs[gG7];refine(hhe _ v6 I6 o8).mono ?_;rintro x h9 ⟨rfl,rfl⟩;simp-implicitDefEqProofs[gG0,hnn9];refine hto.use ?_;simp-implicitDefEqProofs[];refine hpu.use ?_;have kG4:(h9++[AO.row 1 [[.p (cdL rp)]]])[1]?=some (.row 1 [[.p (cdL rp)]]):=by rw[Wb (by omega)];exact gG4
 have kG7:(h9++[AO.row 1 [[.p (cdL rp)]]])[n3]?=some (.row 1 [[v6]]):=by rw[Wb (by omega)];exact gG7
 have kG9:(h9++[AO.row 1 [[.p (cdL rp)]]])[h9.length]?=some (.row 1 [[.p (cdL rp)]]):=by simp
 have ko:=o8.more [AO.row 1 [[.p (cdL rp)]]];simp-implicitDefEqProofs[kG4];refine heq.use ?_;simp-implicitDefEqProofs[kG7];refine(hhe _ v6 I6 ko).mono ?_;rintro x h10 ⟨rfl,rfl⟩;simp-implicitDefEqProofs[hnn9]
end
end Go.Proofs.YtigmcjbgnmpbeaaGreat
namespace Go.Proofs.YtigmcjbgnmpbeaaGreat
open Go Go.Aw Go.ChangeShapes Go.WideShapes Go.ChangeAt Go.RowKit
set_option maxRecDepth 100000
abbrev OJ:TypeId:=24
abbrev Kk:TypeId:=22
abbrev DX:TypeId:=50
abbrev GU:TypeId:=48
abbrev Af:TypeId:=147
abbrev NA:TypeId:=145
abbrev KO:TypeId:=234
abbrev OU:TypeId:=144
abbrev Ku:TypeId:=232
abbrev AY:TypeId:=58
abbrev pg:TypeId:=3
theorem Ts:Kids Tryz.prog (· <Tryz.prog.types.size):=kids_rows (by kernel_rfl) (by kernel_rfl)
theorem Uf:∀t e,t<Tryz.prog.types.size->Tryz.prog.underlying t=some (.slice e)->0<Tryz.prog.cellsOf e:=slices_full_of Tryz.prog (by kernel_rfl)
def KC:List TypeId:=[OJ,Kk,DX,GU,Af,NA,KO,OU,Ku,AY,pg]
theorem Sq:Plain Tryz.prog KC=true:=by kernel_rfl
theorem Vz:ownKnob Tryz.prog.godebug=none:=by kernel_rfl
theorem Cu{H:Type}:∀l:List (DataW H),Rows.uptoBulkAll l=(l.map Rows.uptoBulk).sum
 |[]=>by simp[Rows.uptoBulkAll]
 |d::r=>by simp[Rows.uptoBulkAll,Cu r]
theorem QA{H:Type}:BulkOk (Rows.uptoBulk (H:=H)) where
 lit:=λl=>by cases l<;>simp[Rows.uptoBulk]
 str:=λs=>by simp[Rows.uptoBulk]
 nil:=by simp[Rows.uptoBulk]
 slice:=λes sp=>by simp only[Rows.uptoBulk,Cu];omega
 agg:=λps=>by simp only[Rows.uptoBulk,Cu];omega
theorem pT{t e:TypeId}{vs:List PV}(h:Conf Tryz.prog t vs)(hu:Tryz.prog.underlying t=some (.slice e)):∃es,vs=[.lst (Tryz.prog.cellsOf e) es]/\es.length<=9223372036854775807/\∀x∈es,Conf Tryz.prog e x:=by
 cases h with
 |sl es e' hl hs=>rw[hu] at e';cases e';exact⟨es,rfl,hl,hs⟩
 |bool b e=>rw[e] at hu;cases hu
 |int n e=>rw[e] at hu;cases hu
 |str s e=>rw[e] at hu;cases hu
 |st vs e=>rw[e] at hu;cases hu
 |arr vs e=>rw[e] at hu;cases hu
theorem uT{vs:List PV}(h:Conf Tryz.prog AY vs):∃l:List Int,vs=[ah l]/\l.length<=BL:=by
 obtain⟨es,rfl,hl,h4⟩:=pT h (e:=pg) (by kernel_rfl);have hk:∀x∈es,∃n:Int,x=[PV.int .i64 n]/\(Lit.int .i64 n).wf=true:=λx hx=>gb (h4 x hx) (by kernel_rfl);obtain⟨l,rfl⟩:=JF (λn:Int=>[PV.int .i64 n]) (λx hx=>by obtain⟨n,e,_⟩:=hk x hx;exact⟨n,e⟩);rw[show Tryz.prog.cellsOf pg=1 by kernel_rfl];exact⟨l,rfl,by rwa[Wj] at hl⟩
theorem oQ{α β:Type}(g:β->α)(p:β->Prop):∀{es:List α},(∀x∈es,∃m,x=g m/\p m)->∃ms:List β,es=ms.map g/\∀m∈ms,p m
 |[],_=>⟨[],rfl,λm hm=>by cases hm⟩
 |e::r,h=>by
  obtain⟨m,hm,hp⟩:=h e (by simp);obtain⟨ms,hms,hps⟩:=oQ g p (es:=r) λx hx=>h x (by simp[hx])
  exact⟨m::ms,by simp[hm,hms],λx hx=>by
   rcases WE.1 hx with rfl|hx
   ·exact hp
   ·exact hps x hx⟩
theorem NX{vs:List PV}(h:Conf Tryz.prog Ku vs):∃x:Ph,vs=x.cs/\x.args.length<=BL:=by
 have h:=tX (ts:=[pg,AY]) h (by kernel_rfl);obtain⟨a,r,rfl,h1,h⟩:=aY h;obtain⟨b,r,rfl,h2,h⟩:=aY h;cases mA h;obtain⟨n1,rfl,_⟩:=gb h1 (k:= .i64) (by kernel_rfl);obtain⟨ns,rfl,l2⟩:=uT h2;exact⟨⟨n1,ns⟩,rfl,l2⟩
theorem Nu{vs:List PV}(h:Conf Tryz.prog KO vs):∃x:Ii,vs=x.cs/\x.args.length<=BL:=by
 have h:=tX (ts:=[pg,pg,AY,pg]) h (by kernel_rfl);obtain⟨a,r,rfl,h1,h⟩:=aY h;obtain⟨b,r,rfl,h2,h⟩:=aY h;obtain⟨c,r,rfl,h3,h⟩:=aY h;obtain⟨d,r,rfl,h4,h⟩:=aY h;cases mA h;obtain⟨n1,rfl,_⟩:=gb h1 (k:= .i64) (by kernel_rfl);obtain⟨n2,rfl,_⟩:=gb h2 (k:= .i64) (by kernel_rfl);obtain⟨ns,rfl,l3⟩:=uT h3;obtain⟨n4,rfl,_⟩:=gb h4 (k:= .i64) (by kernel_rfl);exact⟨⟨n1,n2,ns,n4⟩,rfl,l3⟩
theorem Ip{vs:List PV}(h:Conf Tryz.prog Af vs):∃x:Bk,vs=x.cs/\BkFit BL x:=by
 have h:=tX (ts:=[OU,NA,pg,pg,AY]) h (by kernel_rfl);obtain⟨a,r,rfl,h1,h⟩:=aY h;obtain⟨b,r,rfl,h2,h⟩:=aY h;obtain⟨c,r,rfl,h3,h⟩:=aY h;obtain⟨d,r,rfl,h4,h⟩:=aY h;obtain⟨e,r,rfl,h5,h⟩:=aY h;cases mA h;obtain⟨e1,rfl,l1,k1⟩:=pT h1 (e:=Ku) (by kernel_rfl);obtain⟨ps,rfl,p1⟩:=oQ Ph.cs (λx=>x.args.length<=BL) λx hx=>NX (k1 x hx);obtain⟨e2,rfl,l2,k2⟩:=pT h2 (e:=KO) (by kernel_rfl);obtain⟨is,rfl,p2⟩:=oQ Ii.cs (λx=>x.args.length<=BL) λx hx=>Nu (k2 x hx);obtain⟨n1,rfl,_⟩:=gb h3 (k:= .i64) (by kernel_rfl);obtain⟨n2,rfl,_⟩:=gb h4 (k:= .i64) (by kernel_rfl);obtain⟨ns,rfl,l5⟩:=uT h5;rw[show Tryz.prog.cellsOf Ku=2 by kernel_rfl,show Tryz.prog.cellsOf KO=4 by kernel_rfl];rw[Wj] at l1 l2;exact⟨⟨ps,is,n1,n2,ns⟩,rfl,⟨l1,l2,l5,p1,p2⟩⟩
theorem MC{vs:List PV}(h:Conf Tryz.prog DX vs):∃x:Cd,vs=x.cs/\en BL x:=by
 have h:=tX (ts:=[pg,pg,GU]) h (by kernel_rfl);obtain⟨a,r,rfl,h1,h⟩:=aY h;obtain⟨b,r,rfl,h2,h⟩:=aY h;obtain⟨c,r,rfl,h3,h⟩:=aY h;cases mA h;obtain⟨n1,rfl,_⟩:=gb h1 (k:= .i64) (by kernel_rfl);obtain⟨n2,rfl,_⟩:=gb h2 (k:= .i64) (by kernel_rfl);obtain⟨e1,rfl,l1,k1⟩:=pT h3 (e:=Af) (by kernel_rfl);obtain⟨bs,rfl,p1⟩:=oQ Bk.cs (BkFit BL) λx hx=>Ip (k1 x hx);rw[show Tryz.prog.cellsOf Af=5 by kernel_rfl];rw[Wj] at l1;exact⟨⟨n1,n2,bs⟩,rfl,l1,p1⟩
theorem Mp{vs:List PV}(h:Conf Tryz.prog OJ vs):∃u:List Cd,vs=[cdL u]/\rH BL u:=by
 have h:=tX (ts:=[Kk]) h (by kernel_rfl);obtain⟨a,r,rfl,h1,h⟩:=aY h;cases mA h;obtain⟨e1,rfl,l1,k1⟩:=pT h1 (e:=DX) (by kernel_rfl);obtain⟨cs,rfl,p1⟩:=oQ Cd.cs (en BL) λx hx=>MC (k1 x hx);rw[show Tryz.prog.cellsOf DX=3 by kernel_rfl];rw[Wj] at l1;exact⟨cs,rfl,l1,p1⟩
def G0:aw:=λ_=>none
end Go.Proofs.YtigmcjbgnmpbeaaGreat
