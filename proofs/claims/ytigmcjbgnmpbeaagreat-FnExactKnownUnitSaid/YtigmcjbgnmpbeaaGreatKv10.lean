/-
  Contracts and lemmas that the card needs, part 10.
-/
import Derived.Test.YtigmcjbgnmpbeaaGreatKv9
namespace Go.Proofs.YtigmcjbgnmpbeaaGreat
open Go Go.Aw
set_option maxRecDepth 100000
set_option maxHeartbeats 4000000
section
def flK(S T:KS):Bool:=decide (gk T≠gk S)
theorem uX{c:Cd}{S T U:KS}(h1:KStep c S T)(h2:KStep c T U):(flK T U||flK S T)=flK S U:=by
 have a:=h1.pot;have b:=h2.pot;rw[Yg];simp only[flK,XA,Wx];omega
theorem rc{S T:KS}{p:Prop}[Decidable p](h:p↔gk T=gk S):flK S T= !decide p:=by
 rw[Yg];simp[flK,h]
theorem NE(S:KS):flK S S=false:=by simp[flK]
structure KMg (c:Cd) (S:KS) (k r o m:Nat) (X Y:List AO):Prop where
 mm:KMm c S k r o m Y
 len:X.length<=Y.length
 fr:∀j,j<X.length->j≠r->j≠o->j≠m->Y[j]?=X[j]?
theorem KMf.g{c:Cd}{S:KS}{k r o m:Nat}{X Y:List AO}(h:KMf c S k r o m X Y):KMg c S k r o m X Y:=⟨h.mm,by rw[h.len];exact Wo _,λj _=>h.fr j⟩
theorem KMg.trans{c:Cd}{S S':KS}{k r o m:Nat}{X Y Z:List AO}(h:KMg c S k r o m X Y)(h2:KMg c S' k r o m Y Z):KMg c S' k r o m X Z:=
 ⟨h2.mm,by have:=h.len;have:=h2.len;omega,λj hj h3 h4 h5=>by rw[h2.fr j (by have:=h.len;omega) h3 h4 h5,h.fr j hj h3 h4 h5]⟩
theorem KMg.app{c:Cd}{S:KS}{k r o m:Nat}{X Y:List AO}(h:KMg c S k r o m X Y)(t:List AO):KMg c S k r o m X (Y++t):=
 ⟨h.mm.app t,by have:=h.len;simp;omega,λj hj h3 h4 h5=>by rw[Wb (by have:=h.len;omega),h.fr j hj h3 h4 h5]⟩
theorem KMm.g{c:Cd}{S:KS}{k r o m:Nat}{X:List AO}(h:KMm c S k r o m X):KMg c S k r o m X X:=⟨h,Wo _,λ_ _ _ _ _=>rfl⟩
theorem KMm.lt{c:Cd}{S:KS}{k r o m:Nat}{X:List AO}(h:KMm c S k r o m X):k<X.length/\r<X.length/\o<X.length/\m<X.length:=
 ⟨(Wa.1 h.hk).1,(Wa.1 h.hr).1,(Wa.1 h.ho).1,(Wa.1 h.hm).1⟩
theorem KMg.box{c:Cd}{S S0:KS}{k r o m:Nat}{X Y:List AO}(h:KMg c S k r o m X Y)(h0:KMm c S0 k r o m X){j:Nat}{x:AO}(hx:X[j]?=some x)(hj:j≠r/\j≠o/\j≠m):Y[j]?=some x:=by rw[h.fr j (Wa.1 hx).1 hj.1 hj.2.1 hj.2.2];exact hx
theorem Qu{bs:List Bk}{S:KS}{b:Nat}{x:Bk}(hb:bs[b]?=some x)(ho:S.opn[b]?=some true):fS bs S b=mC (x.ins.foldl cQ (x.phis.foldl (λS f=>jF S bs b f) S)) b x:=by rw[fS];simp[hb,ho]
theorem OQ{bs:List Bk}{S:KS}{b:Nat}{x:Bk}(hb:bs[b]?=some x)(ho:S.opn[b]?=some false):fS bs S b=S:=by rw[fS];simp[hb,ho]
structure RdS where (i:Nat) (X:List AO)
section
variable (G:aw) {c:Cd} {S:KS} {k r o m:Nat} {X:List AO}
theorem Oq(H:KMm c S k r o m X)(hk:KFit c)(hv:CVal c)(hf:en 1073741824 c)(hV:KV c S):AC Tryz.prog G eV [.ptr k 6 0 0] X λx Y=>x= .ret (.p (.bool (flK S (Le c.blocks S))))/\KMg c (Le c.blocks S) k r o m X Y:=by
 have hc:CBd c:=⟨hf.1,λx hx=>(hf.2 x hx).next⟩;have hcs:=c.cs_eq2;have hbl:bkL c.blocks= .lst 5 (c.blocks.map Bk.cs):=rfl;have hl160:=hv.b160;have hX:=H.lt;refine AC.go tm ?_;have hkg:=H.hk;rw[hbl] at hkg;simp[ku,hkg];refine am (λa:RdS=>aj 158 [(18,.p (.int .i64 a.i)),(17,.p (.int .i64 c.blocks.length)),(16,.p (.lst 5 (c.blocks.map Bk.cs))),(3,.p (.bool (flK S ((List.range a.i).foldl (fS c.blocks) S)))),(0,.ptr k 6 0 0)]) (λa=>a.X) (λa=>a.i<=c.blocks.length/\KMg c ((List.range a.i).foldl (fS c.blocks) S) k r o m X a.X) (λa=>c.blocks.length-a.i) ⟨0,X⟩ ⟨We _,H.g⟩ ?_ ?_
 ·simp only[List.range_zero,ZS,NE];exact aa (Wo _) (by simp[below];omega)
 rintro⟨b,Y⟩ ⟨hb,hY⟩;simp only at hb hY⊢;have hst:=uY hk (List.range b) hV.j;have hVb:=KV.blks hk hv (List.range b) hV;have hrs:(List.range (b+1)).foldl (fS c.blocks) S=fS c.blocks ((List.range b).foldl (fS c.blocks) S) b:=by rw[Yz,Zf];rfl
 simp[];refine aA (λhcc=>?_) (λhcc=>?_)
 ·have hcc:b<c.blocks.length:=by simpa using hcc
  have hgb:=Wc hcc;generalize c.blocks[b]=x at hgb;have hxs:=x.cs_eq2;have hxf:=hf.2 x (Wq hgb);have hil:inL x.ins= .lst 4 (x.ins.map Ii.cs):=rfl;have hpl:phL x.phis= .lst 2 (x.phis.map Ph.cs):=rfl;have hnl:ah x.next= .lst 1 (x.next.map λn=>[.int .i64 n]):=rfl;have hwb:=w1 (i:=b) (by omega);have hPr:=rt G c b hc.1 hc.2;rw[rb hcc] at hPr;have hpn:ah (ab c.blocks b)= .lst 1 ((ab c.blocks b).map λn=>[.int .i64 n]):=rfl;rw[hcs,hbl,hpn] at hPr;have hpl2:=aU c.blocks b;generalize (List.range b).foldl (fS c.blocks) S=S1 at hst hVb hY hrs⊢;obtain⟨ob,hob⟩:∃ob,S1.opn[b]?=some ob:=⟨_,Wc (by rw[hVb.ol];exact hcc)⟩;have hog:=bh hob;have hoge:=λhh=>ag hog hh;have hol:(aG S1.opn).length=c.blocks.length:=by rw[jT,hVb.ol]
  obtain⟨RX,hRX⟩:∃RX,RX=AO.row 5 [[.p (.lst 2 (x.phis.map Ph.cs)),.p (.lst 4 (x.ins.map Ii.cs)),.p (.int .i64 x.jump),.p (.int .i64 x.on),.p (.lst 1 (x.next.map λn=>[.int .i64 n]))]]:=⟨_,rfl⟩;have hY1:=hY.mm.app [RX];have y1:=hY1.hk;have y2:=hY1.ho;have hYl:=hY.mm.lt;rw[hbl] at y1;rw[hRX] at y1 y2;have y1e:=λhh=>ag y1 hh;have y2e:=λhh=>ag y2 hh;have hgbe:=λhh=>ag hgb hh;cases ob with
  |false=>
   have hbo:=OQ hgb hob;rw[hbo] at hrs;simp[hgbe,hxs,hil,hpl,hnl,y1,y2,hoge,hol,hcc];rw[←hRX];exact⟨⟨b+1,_⟩,⟨by simp only;omega,by simp only;rw[hrs];exact hY.app [RX]⟩,by simp only;omega,aa (by have:=hY.len;simp;omega) (by simp[below,hwb,hrs];omega)⟩
  |true=>
   have hbo:=Qu hgb hob;simp[hgbe,hxs,hil,hpl,hnl,y1,y2,hoge,hol,hcc];refine hPr.use ?_;rw[←hRX];have hYX:=hY.len;have hY1g:=hY.app [RX];have yq:(Y++[RX])[Y.length]?=some RX:=(by simp);have hqn:Y.length≠r/\Y.length≠o/\Y.length≠m:=(by omega);generalize Y.length=q at yq hqn hYl hYX⊢;generalize Y++[RX]=Y1 at hY1 hY1g yq⊢;have hq1:=(Wa.1 yq).1;have yqc:=yq;rw[hRX] at yqc;have yqce:=λhh=>ag yqc hh;simp[yqc];refine am (λa:RdS=>aj 158 [(40,.p (.int .i64 a.i)),(39,.p (.int .i64 x.phis.length)),(38,.p (.lst 2 (x.phis.map Ph.cs))),(6,.p (.lst 1 ((ab c.blocks b).map λn=>[.int .i64 n]))),(5,.ptr q 5 0 0),(4,.p (.int .i64 b)),(18,.p (.int .i64 b)),(17,.p (.int .i64 c.blocks.length)),(16,.p (.lst 5 (c.blocks.map Bk.cs))),(3,.p (.bool (flK S ((x.phis.take a.i).foldl (λS f=>jF S c.blocks b f) S1)))),(0,.ptr k 6 0 0)]) (λa=>a.X) (λa=>a.i<=x.phis.length/\KMg c ((x.phis.take a.i).foldl (λS f=>jF S c.blocks b f) S1) k r o m Y1 a.X) (λa=>x.phis.length-a.i) ⟨0,Y1⟩ ⟨We _,hY1.g⟩ ?_ ?_
   ·simp only[Yc,ZS];exact aa (by omega) (by simp[below];omega)
   rintro⟨j,Z⟩ ⟨hj,hZ⟩;simp only at hj hZ⊢;have hst2:=vl hk hgb (x.phis.take j) (λf hf=>Xp hf) hVb.j;have hV2:=KV.phis hk hgb (x.phis.take j) (λf hf=>Xp hf) hVb;simp[];refine aA (λhc2=>?_) (λhc2=>?_)
   ·have hc2:j<x.phis.length:=(by simpa using hc2);have hgj:=Wc hc2;have hmj:=Wm hc2;generalize x.phis[j]=f at hgj hmj;have hft:=np (λS f=>jF S c.blocks b f) S1 hgj;generalize (x.phis.take j).foldl (λS f=>jF S c.blocks b f) S1=S2 at hst2 hV2 hZ hft⊢;have hfs:=f.cs_eq2;obtain⟨pa1,pa2,pa3,pa4⟩:=hv.pa b x hgb f hmj;have hwj:=w1 (i:=j) (by have:=hxf.phis;omega);obtain⟨FO,hFO⟩:∃FO,FO=AO.row 2 [[.p (.int .i64 f.to),.p (ah f.args)]]:=⟨_,rfl⟩;have hZ1:=hZ.mm.app [FO];have hP:=Sa G hZ1 b (ab c.blocks b) f (by omega) (by omega) pa2;rw[hfs,hpn] at hP;have hps:=Ha hk hV2.j hgb hmj;have hfl:=rc hps.2;have hK:=Hl (n:=vE S2 c.blocks b f) G hZ1 pa3 pa4;simp[hgj,hfs];rw[←hFO];refine hP.mono ?_;rintro z W ⟨rfl,rfl⟩;rw[show mW S2 b ((ab c.blocks b).zip f.args) (-2)=vE S2 c.blocks b f from rfl];have hFs:some FO=some (AO.row 2 [[.p (.int .i64 f.to),.p (ah f.args)]]):=(by rw[hFO]);simp[hFs];refine hK.mono ?_;rintro z W ⟨rfl,hW⟩;have hZW:=(hZ.app [FO]).trans hW.g;have hor:=uX (hst.trans hst2) hps.1;rw[hfl] at hor
    by_cases he:rg S2.regs f.to=vE S2 c.blocks b f
    ·simp[he] at hor;simp[he];exact⟨⟨j+1,W⟩,⟨by simp only;omega,by simp only;rw[hft];exact hZW⟩,by simp only;omega,aa (by have:=hZW.len;omega) (by simp[below,hwj,hft,hor];have:=hZW.len;omega)⟩
    ·simp[he] at hor;simp[he];exact⟨⟨j+1,W⟩,⟨by simp only;omega,by simp only;rw[hft];exact hZW⟩,by simp only;omega,aa (by have:=hZW.len;omega) (by simp[below,hwj,hft,hor];have:=hZW.len;omega)⟩
   ·have hc2:x.phis.length<=j:=(by simpa using hc2);rw[Wi hc2] at hZ hst2 hV2⊢;have hst3:=hst.trans hst2;generalize x.phis.foldl (λS f=>jF S c.blocks b f) S1=S2 at hZ hst3 hV2 hbo⊢;clear hst2;have zq:=hZ.box hY1 yq hqn;have zqc:=zq;rw[hRX] at zqc;have zqce:=λhh=>ag zqc hh;have hZl:=hZ.len;simp[zqc];refine am (λa:RdS=>aj 158 [(60,.p (.int .i64 a.i)),(59,.p (.int .i64 x.ins.length)),(58,.p (.lst 4 (x.ins.map Ii.cs))),(5,.ptr q 5 0 0),(4,.p (.int .i64 b)),(18,.p (.int .i64 b)),(17,.p (.int .i64 c.blocks.length)),(16,.p (.lst 5 (c.blocks.map Bk.cs))),(3,.p (.bool (flK S ((x.ins.take a.i).foldl cQ S2)))),(0,.ptr k 6 0 0)]) (λa=>a.X) (λa=>a.i<=x.ins.length/\KMg c ((x.ins.take a.i).foldl cQ S2) k r o m Y1 a.X) (λa=>x.ins.length-a.i) ⟨0,Z⟩ ⟨We _,hZ⟩ ?_ ?_
    ·simp only[Yc,ZS];exact aa (by omega) (by simp[below];omega)
    clear hZ zq zqc zqce hZl;rintro⟨j,Z⟩ ⟨hj,hZ⟩;simp only at hj hZ⊢;have hst4:=vh hk hgb (x.ins.take j) (λf hf=>Xp hf) hV2.j;have hV3:=KV.inss hk hv hgb (x.ins.take j) (λf hf=>Xp hf) hV2;have hZl:=hZ.len;simp[];refine aA (λhc2=>?_) (λhc2=>?_)
    ·have hc2:j<x.ins.length:=(by simpa using hc2);have hgj:=Wc hc2;have hmj:=Wm hc2;generalize x.ins[j]=y at hgj hmj;have hft:=np cQ S2 hgj;generalize (x.ins.take j).foldl cQ S2=S3 at hst4 hV3 hZ hft⊢;have hys:=y.cs_eq2;have hia:=hv.ia b x hgb y hmj;have hwj:=w1 (i:=j) (by have:=hxf.ins;omega);obtain⟨YO,hYO⟩:∃YO,YO=AO.row 4 [[.p (.int .i64 y.op),.p (.int .i64 y.to),.p (ah y.args),.p (.int .i64 y.n)]]:=⟨_,rfl⟩;have hYs:some YO=some (AO.row 4 [[.p (.int .i64 y.op),.p (.int .i64 y.to),.p (ah y.args),.p (.int .i64 y.n)]]):=(by rw[hYO]);have hZ1:=hZ.mm.app [YO];have hM:=Az G y;rw[hys] at hM;simp[hgj,hys];rw[←hYO];refine hM.use ?_;cases hs:aI y.op with
     |false=>
      have hmd:mdB y= -1:=(by rw[mdB,hs];rfl);have hin:cQ S3 y=S3:=(by rw[cQ,hs];rfl);rw[hin] at hft;simp[hmd];exact⟨⟨j+1,_⟩,⟨by simp only;omega,by simp only;rw[hft];exact hZ.app [YO]⟩,by simp only;omega,aa (by simp;omega) (by simp[below,hwj,hft];omega)⟩
     |true=>
      have hmd:mdB y=y.to:=(by rw[mdB,hs];rfl);obtain⟨hto0,hto1⟩:=hia.2.2.2.1 hs;have hin:cQ S3 y=S3.bec y.to (fp S3.regs y):=(by rw[cQ,Wz hs]);have hI:=Sj G hZ1 hV3.vk y ⟨hia.1,hia.2.1⟩ hs hia.2.2.1 hia.2.2.2.2.2.1;rw[hys] at hI;have hps:=FN hk hV3.j hgb hmj;have hfl:=rc (hps.2 hs);have hK:=Hl (n:=fp S3.regs y) G hZ1 hto0 hto1;rw[hmd];simp[hto0,hYs];refine hI.mono ?_;rintro z W ⟨rfl,rfl⟩;simp[];refine hK.mono ?_;rintro z W ⟨rfl,hW⟩;rw[←hin] at hW;have hZW:=(hZ.app [YO]).trans hW.g;have hor:=uX (hst3.trans hst4) hps.1;rw[hfl] at hor
      by_cases he:rg S3.regs y.to=fp S3.regs y
      ·simp[he] at hor;simp[he];exact⟨⟨j+1,W⟩,⟨by simp only;omega,by simp only;rw[hft];exact hZW⟩,by simp only;omega,aa (by have:=hZW.len;omega) (by simp[below,hwj,hft,hor];have:=hZW.len;omega)⟩
      ·simp[he] at hor;simp[he];exact⟨⟨j+1,W⟩,⟨by simp only;omega,by simp only;rw[hft];exact hZW⟩,by simp only;omega,aa (by have:=hZW.len;omega) (by simp[below,hwj,hft,hor];have:=hZW.len;omega)⟩
    ·have hc2:x.ins.length<=j:=(by simpa using hc2);rw[Wi hc2] at hZ hst4 hV3⊢;have hst5:=hst3.trans hst4;generalize x.ins.foldl cQ S2=S3 at hZ hst5 hV3 hbo⊢;clear hst4 hst3;have zq:=hZ.box hY1 yq hqn;rw[hRX] at zq;have zqe:=λhh=>ag zq hh;have hZX:=hY1g.trans hZ;have hZm:=hZ.mm;have hZg:=hZm.hk;have hZr:=hZm.hr;have hZle:=hZm.lt;have hZXl:=hZX.len;rcases hv.jp b x hgb with hj1|hj1|hj1
     ·have hn1:=hk.n1 b x hgb hj1;obtain⟨t,ht⟩:∃t,x.next=[t]:=Yn.1 hn1;have htr:=hv.nx b x hgb t (by rw[ht];simp);have hjf:mC S3 b x=S3.way b t:=(by rw[mC,Wz hj1,ht];rfl);rw[hbo,hjf] at hrs;have hps:=fP (b:=(b:Int)) hV3.j ⟨by omega,by omega⟩ ⟨(by omega:0<=t),htr.2⟩;have hfl:=rc hps.2;have hK:=JL (b:=(b:Int)) G hZm (by omega:0<=t) htr.2;have hor:=uX hst5 hps.1;rw[hfl] at hor;simp[zq,hj1,ht];refine hK.mono ?_;rintro z W ⟨rfl,hW⟩;have hXW:=hZX.trans hW.g
      by_cases he:((b:Int),t)∈S3.W
      ·simp[he] at hor;simp[he];exact⟨⟨b+1,W⟩,⟨by simp only;omega,by simp only;rw[hrs];exact hXW⟩,by simp only;omega,aa (by have:=hXW.len;omega) (by simp[below,hwb,hrs,hor];have:=hXW.len;omega)⟩
      ·simp[he] at hor;simp[he];exact⟨⟨b+1,W⟩,⟨by simp only;omega,by simp only;rw[hrs];exact hXW⟩,by simp only;omega,aa (by have:=hXW.len;omega) (by simp[below,hwb,hrs,hor];have:=hXW.len;omega)⟩
     ·have hn2:=hk.n2 b x hgb hj1
      obtain⟨t0,t1,ht⟩:∃t0 t1,x.next=[t0,t1]:=by
       match x.next,hn2 with
       |[t0,t1],_=>exact⟨t0,t1,rfl⟩
      have htr0:=hv.nx b x hgb t0 (by rw[ht];simp);have htr1:=hv.nx b x hgb t1 (by rw[ht];simp);have hon:=hv.on b x hgb (by omega);have hrg:=ip (l:=S3.regs) (i:=x.on) (by rw[hZm.rl];omega);have hrge:=λhh=>ag hrg hh;have hrl:(ae S3.regs).length=c.regs.toNat:=(by rw[ae,Wj,hZm.rl]);have hmx:max c.regs 0=c.regs:=(by omega);have hgt:x.on.toNat<c.regs.toNat:=(by omega);have hjf:mC S3 b x=(if rg S3.regs x.on= -2 then S3 else if rg S3.regs x.on=0 then S3.way b t1 else if rg S3.regs x.on= -1 then(S3.way b t0).way b t1 else S3.way b t0):=(by rw[mC,WB (by omega),Wz hj1,ht];rfl);rw[hbo,hjf] at hrs;have hw1:∀t:Int,(S3.way b t).regs=S3.regs:=λt=>(by rw[KS.way];split<;>rfl);have hps0:=fP (b:=(b:Int)) hV3.j ⟨by omega,by omega⟩ ⟨(by omega:0<=t0),htr0.2⟩;have hps1:=fP (b:=(b:Int)) hV3.j ⟨by omega,by omega⟩ ⟨(by omega:0<=t1),htr1.2⟩;have hps2:=fP (b:=(b:Int)) hps0.1.j ⟨by omega,by omega⟩ ⟨(by omega:0<=t1),htr1.2⟩;have hK0:=JL (b:=(b:Int)) G hZm (by omega:0<=t0) htr0.2;have hK1:=JL (b:=(b:Int)) G hZm (by omega:0<=t1) htr1.2;have hor0:=uX hst5 hps0.1;have hor1:=uX hst5 hps1.1;have hor2:=uX (hst5.trans hps0.1) hps2.1;rw[rc hps0.2] at hor0;rw[rc hps1.2] at hor1;rw[rc hps2.2] at hor2;generalize hvv:rg S3.regs x.on=v at hrg hrge hrs
      by_cases v2:v= -2
      ·rw[Wz v2] at hrs;simp[zq,hj1,ht,hZg,hZr,hrge,hrl,hmx,hgt,hon.1,hon.2,v2];exact⟨⟨b+1,Z⟩,⟨by simp only;omega,by simp only;rw[hrs];exact hZX⟩,by simp only;omega,aa (by omega) (by simp[below,hwb,hrs];omega)⟩
      rw[WB v2] at hrs
      by_cases v0:v=0
      ·rw[Wz v0] at hrs;simp[zq,hj1,ht,hZg,hZr,hrge,hrl,hmx,hgt,hon.1,hon.2,v0];refine hK1.mono ?_;rintro z W ⟨rfl,hW⟩;have hXW:=hZX.trans hW.g;have hXl:=hXW.len
       by_cases he:((b:Int),t1)∈S3.W
       ·simp[he] at hor1;simp[he];exact⟨⟨b+1,W⟩,⟨by simp only;omega,by simp only;rw[hrs];exact hXW⟩,by simp only;omega,aa (by omega) (by simp[below,hwb,hrs,hor1];omega)⟩
       ·simp[he] at hor1;simp[he];exact⟨⟨b+1,W⟩,⟨by simp only;omega,by simp only;rw[hrs];exact hXW⟩,by simp only;omega,aa (by omega) (by simp[below,hwb,hrs,hor1];omega)⟩
      rw[WB v0] at hrs;simp[zq,hj1,ht,hZg,hZr,hrge,hrl,hmx,hgt,hon.1,hon.2,v2,v0];refine hK0.mono ?_;rintro z W ⟨rfl,hW⟩;have hXW:=hZX.trans hW.g;have hXl:=hXW.len;have wq:W[q]?=some (.row 5 [[.p (.lst 2 (x.phis.map Ph.cs)),.p (.lst 4 (x.ins.map Ii.cs)),.p (.int .i64 x.jump),.p (.int .i64 x.on),.p (.lst 1 (x.next.map λn=>[.int .i64 n]))]]):=(by rw[hW.fr q hqn.1 hqn.2.1 hqn.2.2];exact zq);have wqe:=λhh=>ag wq hh;have hWg:=hW.mm.hk;have hWr:=hW.mm.hr;rw[hw1] at hWr;have hWl:=hW.mm.lt
      by_cases v1:v= -1
      ·rw[Wz v1] at hrs;have hK2:=JL (b:=(b:Int)) G hW.mm (by omega:0<=t1) htr1.2
       by_cases he:((b:Int),t0)∈S3.W
       ·simp[he] at hor0;simp[he,wq,hj1,ht,hWg,hWr,hrge,hrl,hmx,hgt,hon.1,hon.2,v1];refine hK2.mono ?_;rintro z W2 ⟨rfl,hW2⟩;have hXW2:=hXW.trans hW2.g;have hXl2:=hXW2.len
        by_cases he2:((b:Int),t1)∈(S3.way b t0).W
        ·simp[he2] at hor2;simp[he2];exact⟨⟨b+1,W2⟩,⟨by simp only;omega,by simp only;rw[hrs];exact hXW2⟩,by simp only;omega,aa (by omega) (by simp[below,hwb,hrs,hor0,←hor2];omega)⟩
        ·simp[he2] at hor2;simp[he2];exact⟨⟨b+1,W2⟩,⟨by simp only;omega,by simp only;rw[hrs];exact hXW2⟩,by simp only;omega,aa (by omega) (by simp[below,hwb,hrs,hor0,←hor2];omega)⟩
       ·simp[he] at hor0;simp[he,wq,hj1,ht,hWg,hWr,hrge,hrl,hmx,hgt,hon.1,hon.2,v1];refine hK2.mono ?_;rintro z W2 ⟨rfl,hW2⟩;have hXW2:=hXW.trans hW2.g;have hXl2:=hXW2.len
        by_cases he2:((b:Int),t1)∈(S3.way b t0).W
        ·simp[he2] at hor2;simp[he2];exact⟨⟨b+1,W2⟩,⟨by simp only;omega,by simp only;rw[hrs];exact hXW2⟩,by simp only;omega,aa (by omega) (by simp[below,hwb,hrs,hor0,←hor2];omega)⟩
        ·simp[he2] at hor2;simp[he2];exact⟨⟨b+1,W2⟩,⟨by simp only;omega,by simp only;rw[hrs];exact hXW2⟩,by simp only;omega,aa (by omega) (by simp[below,hwb,hrs,←hor2];omega)⟩
      ·rw[WB v1] at hrs
       by_cases he:((b:Int),t0)∈S3.W
       ·simp[he] at hor0;simp[he,wq,hj1,ht,hWg,hWr,hrge,hrl,hmx,hgt,hon.1,hon.2,v0,v1];exact⟨⟨b+1,W⟩,⟨by simp only;omega,by simp only;rw[hrs];exact hXW⟩,by simp only;omega,aa (by omega) (by simp[below,hwb,hrs,hor0];omega)⟩
       ·simp[he] at hor0;simp[he,wq,hj1,ht,hWg,hWr,hrge,hrl,hmx,hgt,hon.1,hon.2,v0,v1];exact⟨⟨b+1,W⟩,⟨by simp only;omega,by simp only;rw[hrs];exact hXW⟩,by simp only;omega,aa (by omega) (by simp[below,hwb,hrs,hor0];omega)⟩
     ·have hjf:mC S3 b x=S3:=(by rw[mC,WB (by omega),WB (by omega)]);rw[hbo,hjf] at hrs;simp[zq,hj1];exact⟨⟨b+1,Z⟩,⟨by simp only;omega,by simp only;rw[hrs];exact hZX⟩,by simp only;omega,aa (by omega) (by simp[below,hwb,hrs];omega)⟩
 ·have hcc:c.blocks.length<=b:=by simpa using hcc
  have hbe:b=c.blocks.length:=by omega
  subst hbe;simp[];exact⟨rfl,hY⟩
end
end
section
section
variable (G:aw)
theorem PF(e:Nat)(he:e<=300):VF Tryz.prog G fU [.p (.int .u64 1),.p (.int .u64 e)] (.tup [.p (.int .u64 0),.p (.int .u64 e)]):=by
 have b64:IntKind.u64.bits=64:=rfl
 have hand:(e%18446744073709551616&&& 4294967295)=e:=by rw[show(4294967295:Nat)=2^32-1 from rfl,Nat.and_two_pow_sub_one_eq_mod];omega
 have hw:∀z:Int,0<=z->z<=300->IntKind.u64.wrap z=z:=λz h0 h1=>by simp[IntKind.wrap,IntKind.bits,IntKind.signed];omega
 have hwe:=hw e (by omega) (by omega);have hw0:=hw 0 (by omega) (by omega);have hw1:=hw 1 (by omega) (by omega);have hfe:(e:Int).fdiv 4294967296=0:=by rw[Int.fdiv_eq_ediv_of_nonneg _ (by omega)];omega
 have hf1:(1:Int).fdiv 4294967296=0:=by decide
 have hf0:(0:Int).fdiv 4294967296=0:=by decide
 refine AC.go ty ?_;simp-implicitDefEqProofs[lm,b64,hand,hwe,hw0,hw1,hfe,hf1,hf0]
theorem Tl(e:Nat)(he:e<=300):VF Tryz.prog G iF [.p (.int .u64 1),.p (.int .u64 e)] (.tup [.p (.int .u64 0),.p (.int .u64 e)]):=by
 refine AC.go zo ?_;simp-implicitDefEqProofs[ox];refine(PF G e he).use ?_;simp-implicitDefEqProofs
def rpI(v:Int)(n e:Nat):List (List AV):=List.replicate n [.p (.int .i64 v)]++List.replicate (e-n) [.p (.int .i64 0)]
theorem QG{v:Int}{n e:Nat}(h:n<=e):(rpI v n e).length=e:=by simp[rpI];omega
theorem OA{v:Int}{n e:Nat}(h:n<=e):List.take n (rpI v n e)++List.take (e-n) (List.take n (rpI v n e))++List.drop (n+min n (e-n)) (rpI v n e)=rpI v (n+min n (e-n)) e:=by
 have h1:List.take n (rpI v n e)=List.replicate n [.p (.int .i64 v)]:=by rw[rpI,ZP (by simp)]
 rw[h1,List.take_replicate,rpI,List.drop_append,List.drop_replicate,List.drop_replicate,Xs,rpI];rw[show n-(n+min n (e-n))=0 by omega,show e-n-(n+min n (e-n)-n)=e-(n+min n (e-n)) by omega,List.replicate_zero,Xj,←List.replicate_append_replicate,Nat.min_comm (e-n) n,Wp]
theorem NP(v:Int)(e:Nat)(he:e<=300):AC Tryz.prog G aR [.p (ah [v]),.p (.int .i64 e)] [] λr h=>r= .ret (.sl 0 1 0 e)/\h=[.row 1 (List.replicate e [.p (.int .i64 v)])]:=by
 have hnl:ah [v]= .lst 1 [[.int .i64 v]]:=rfl;refine AC.go rI ?_;have w1':IntKind.u64.wrap 1=1:=rfl;have we:IntKind.u64.wrap (e:Int)=e:=by simp[IntKind.wrap,IntKind.bits,IntKind.signed];omega
 have wi:IntKind.i64.wrap (e:Int)=e:=al (by omega) (by omega);simp-implicitDefEqProofs[jf,hnl,w1',we];refine(Tl G e he).use ?_;have hng:¬(9223372036854775807:Int)<e:=by omega
 simp-implicitDefEqProofs[hng,wi];refine⟨by omega,?_⟩;refine am (λn:Nat=>aj 48 [(7,.sl 0 1 0 e),(8,.p (.int .i64 n))]) (λn=>[.row 1 (rpI v n e)]) (λn=>n<=e/\(e=0\/0<n)) (λn=>e-n) (min 1 e) (by omega) ?_ ?_
 ·have:(List.take e [[AV.p (.int .i64 v)]]++List.replicate (e-min 1 e) [AV.p (PV.int IntKind.i64 0)])=rpI v (min 1 e) e:=by
   rcases YY e with rfl|h
   ·rfl
   ·rw[show min 1 e=1 by omega,rpI,Wi (by simp;omega)];rfl
  rw[this];exact aa (We _) (by simp[below])
 ·intro n ⟨hn,hp⟩;have hl:=QG (v:=v) hn;simp-implicitDefEqProofs[];refine aA (λh1=>?_) (λh1=>?_)
  ·simp at h1;simp-implicitDefEqProofs[hl];refine⟨by omega,?_⟩;have hne:n+(e-n)<=e:=by omega
   have hrs:=OA (v:=v) hn;rw[Wp] at hrs;have w2:IntKind.i64.wrap ((n:Int)+(min n (e-n):Nat))=((n+min n (e-n):Nat):Int):=(by rw[al (by omega) (by omega)];omega);simp-implicitDefEqProofs[hn,hl,hrs,XK hn,w2];exact⟨n+min n (e-n),⟨by omega,by omega⟩,by omega,aa (We _) (by simp[below])⟩
  ·simp at h1;have:n=e:=by omega
   subst this;simp-implicitDefEqProofs[rpI]
end
end
section
structure KoS where (i k r o m:Nat) (X:List AO)
def KoI(c:Cd)(h:List AO)(S:KS)(a:KoS):Prop:=KMm c S a.k a.r a.o a.m a.X/\h.length<=a.k/\h.length<=a.r/\h.length<=a.o/\h.length<=a.m/\h.length<=a.X.length/\KpF h a.X
def kS0(c:Cd)(i:Nat):KS:=⟨(List.replicate c.regs.toNat (-2)).mapIdx λj v=>if j<i then-1 else v,List.replicate c.blocks.length false,[]⟩
theorem Fo(c:Cd)(i:Nat):(kS0 c i).bec i (-1)=kS0 c (i+1):=by
 have:((List.replicate c.regs.toNat (-2:Int)).mapIdx λj v=>if j<i then-1 else v).set i (-1)=(List.replicate c.regs.toNat (-2:Int)).mapIdx λj v=>if j<i+1 then-1 else v:=by
  refine WT λj=>?_;rw[Xu];simp only[WH,Xi,XN,Xs]
  by_cases hj:j<c.regs.toNat
  ·by_cases e:i=j
   ·subst e;simp[hj]
   ·simp only[e,if_false,hj,if_true,Xx];have:(j<i+1)↔j<i:=(by omega);simp[this]
  ·simp[hj];intro e;omega
 simp only[KS.bec,kS0,XF,this]
theorem rh{c:Cd}{h L:List AO}{n:Nat}(r o m:Nat)(hn:c.regs=(n:Int))(hl:L.length=5)(hr:1<=r/\r<=3)(ho:1<=o/\o<=3)(hm:1<=m/\m<=3)(h1:r≠o/\r≠m/\o≠m)
 (e0:L[0]?=some (.row 3 [[.p (.int .i64 c.params),.p (.int .i64 n),.p (.lst 5 (c.blocks.map Bk.cs))]]))(er:L[r]?=some (.row 1 (List.replicate n [.p (.int .i64 (-2))])))(eo:L[o]?=some (.row 1 (List.replicate c.blocks.length [.p (.bool false)])))(em:L[m]?=some (.mp []))
 (ek:L[4]?=some (.row 6 [[.p (.int .i64 c.params),.p (.int .i64 n),.p (.lst 5 (c.blocks.map Bk.cs)),.sl (h.length+r) 1 0 n,.sl (h.length+o) 1 0 c.blocks.length,.mp (h.length+m)]])):
 (KoI c h (kS0 c 0) ⟨0,h.length+4,h.length+r,h.length+o,h.length+m,h++L⟩/\(h++L)[h.length]?=some (.row 3 [[.p (.int .i64 c.params),.p (.int .i64 n),.p (.lst 5 (c.blocks.map Bk.cs))]])/\¬h.length=h.length+r/\¬h.length=h.length+o/\¬h.length=h.length+m):=by
 have g:∀i,(h++L)[h.length+i]?=L[i]?:=λi=>by rw[Wg (by omega),WP]
 have hnt:c.regs.toNat=n:=by omega
 have hR:(List.replicate c.regs.toNat (-2:Int)).mapIdx (λj v=>if j<0 then-1 else v)=List.replicate n (-2):=by
  rw[hnt];refine WT λj=>?_;rw[WH];simp only[Zs,if_false];cases (List.replicate n (-2:Int))[j]?<;>rfl
 have hS:kS0 c 0=⟨List.replicate n (-2),List.replicate c.blocks.length false,[]⟩:=by rw[kS0,hR]
 rw[hS];refine⟨⟨⟨?_,?_,?_,?_,?_,?_,?_⟩,Zn _ _,Zn _ _,Zn _ _,Zn _ _,by simp,λj hj=>Wb hj⟩,by have:=g 0;rw[Yq] at this;rw[this,e0],by omega,by omega,by omega⟩
 ·show(h++L)[h.length+4]?=_;rw[g,ek,hn];simp;rfl
 ·show(h++L)[h.length+r]?=_;rw[g,er];simp[ae]
 ·show(h++L)[h.length+o]?=_;rw[g,eo];simp[aG]
 ·show(h++L)[h.length+m]?=_;rw[g,em];rfl
 ·simp[hnt]
 ·simp
 ·show h.length+4≠h.length+r/\h.length+4≠h.length+o/\h.length+4≠h.length+m/\h.length+r≠h.length+o/\h.length+r≠h.length+m/\h.length+o≠h.length+m;omega
section
variable (G:aw) {X:List AO}
theorem LI(v:Int)(e:Nat)(he:e<=300):AC Tryz.prog G aR [.p (ah [v]),.p (.int .i64 e)] X λr h=>r= .ret (.sl X.length 1 0 e)/\h=X++[.row 1 (List.replicate e [.p (.int .i64 v)])]:=by
 refine(AC.lift (NP G v e he) (by simp[below]) (by simp[uR]) (by simp[GH,tp,uR])).mono ?_;rintro r h ⟨rfl,rfl⟩;refine⟨by simp[bx],?_⟩;simp[cS,cm,bx]
end
theorem Cm:AK.whole jR=FK.ak kj:=rfl
variable (G:aw)
theorem Mq{h:List AO}(c:Cd)(hk:KFit c)(hv:CVal c)(hf:en 1073741824 c):AC Tryz.prog G fG [.agg (c.cs.map .p)] h λx Y=>∃k r o m,x= .ret (.ptr k 6 0 0)/\KoI c h (KF c) ⟨0,k,r,o,m,Y⟩:=by
 have hc:CBd c:=⟨hf.1,λx hx=>(hf.2 x hx).next⟩;have hcs:=c.cs_eq2;have hbl:bkL c.blocks= .lst 5 (c.blocks.map Bk.cs):=rfl;have hp0:=hk.p0;have hpr:=hk.pr;have hr3:=hk.r3;have hl160:=hv.b160;obtain⟨n,hn⟩:∃n:Nat,c.regs=(n:Int):=⟨c.regs.toNat,by omega⟩;have hnt:c.regs.toNat=n:=by omega
 have hR:=λX:List AO=>LI (X:=X) G (-2) n (by omega);rw[show ah [-2]= .lst 1 [[.int .i64 (-2)]] from rfl] at hR;refine AC.goK BZ Cm ?_;simp[jR,kj,hcs,hbl,hn];refine dc (λa:KoS=>aj 37 [(3,.ptr a.k 6 0 0),(1,.ptr h.length 3 0 0)]) (λa=>a.X) (λa=>KoI c h (kS0 c 0) a/\a.X[h.length]?=some (.row 3 [[.p (.int .i64 c.params),.p (.int .i64 n),.p (.lst 5 (c.blocks.map Bk.cs))]])/\h.length≠a.r/\h.length≠a.o/\h.length≠a.m) ?_ ?_
 ·have hnn:(0:Int)<=(n:Int):=by omega
  simp[];refine⟨(hR _).mono ?_,?_,?_⟩
  ·rintro r Y ⟨rfl,rfl⟩;simp[];exact⟨⟨by omega,⟨⟨0,h.length+4,h.length+1,h.length+2,h.length+3,_⟩,rh 1 2 3 hn rfl (by omega) (by omega) (by omega) (by omega) rfl rfl rfl rfl rfl,aa (by simp) (by simp[below])⟩⟩,by omega,⟨⟨0,h.length+4,h.length+1,h.length+3,h.length+2,_⟩,rh 1 3 2 hn rfl (by omega) (by omega) (by omega) (by omega) rfl rfl rfl rfl rfl,aa (by simp) (by simp[below])⟩⟩
  ·refine⟨by omega,(hR _).mono ?_,(hR _).mono ?_⟩
   ·rintro r Y ⟨rfl,rfl⟩;simp[];exact⟨⟨0,h.length+4,h.length+2,h.length+1,h.length+3,_⟩,rh 2 1 3 hn rfl (by omega) (by omega) (by omega) (by omega) rfl rfl rfl rfl rfl,aa (by simp) (by simp[below])⟩
   ·rintro r Y ⟨rfl,rfl⟩;simp[];exact⟨⟨0,h.length+4,h.length+3,h.length+1,h.length+2,_⟩,rh 3 1 2 hn rfl (by omega) (by omega) (by omega) (by omega) rfl rfl rfl rfl rfl,aa (by simp) (by simp[below])⟩
  ·refine⟨(hR _).mono ?_,by omega,(hR _).mono ?_⟩
   ·rintro r Y ⟨rfl,rfl⟩;simp[];exact⟨by omega,⟨⟨0,h.length+4,h.length+2,h.length+3,h.length+1,_⟩,rh 2 3 1 hn rfl (by omega) (by omega) (by omega) (by omega) rfl rfl rfl rfl rfl,aa (by simp) (by simp[below])⟩⟩
   ·rintro r Y ⟨rfl,rfl⟩;simp[];exact⟨⟨0,h.length+4,h.length+3,h.length+2,h.length+1,_⟩,rh 3 2 1 hn rfl (by omega) (by omega) (by omega) (by omega) rfl rfl rfl rfl rfl,aa (by simp) (by simp[below])⟩
 rintro⟨_,k,r,o,m,X⟩ ⟨hI,hx,hr,ho,hm⟩;simp only at hx hr ho hm;have hxl:=(Wa.1 hx).1;have hpn:((c.params.toNat:Nat):Int)=c.params:=by omega
 simp[hx];refine am (λa:RdS=>aj 37 [(19,.p (.int .i64 a.i)),(18,.p (.int .i64 c.params)),(3,.ptr k 6 0 0),(1,.ptr h.length 3 0 0)]) (λa=>a.X) (λa=>a.i<=c.params.toNat/\KoI c h (kS0 c a.i) ⟨0,k,r,o,m,a.X⟩) (λa=>c.params.toNat-a.i) ⟨0,X⟩ ⟨We _,hI⟩ (aa (by have:=hI.2.2.2.2.2.1;exact this) (by simp[below,hI.1.lt.1];omega)) ?_;rintro⟨i,Z⟩ ⟨hi,hZ⟩;simp only at hi hZ⊢;obtain⟨hM,q1,q2,q3,q4,q5,q6⟩:=hZ;simp only at hM q1 q2 q3 q4 q5 q6;simp[];refine aA (λhcc=>?_) (λhcc=>?_)
 ·have hcc:(i:Int)<c.params:=by simpa using hcc
  have hB:=hM.bec i (-1);rw[Fo] at hB;have hgk:=hM.hk;have hgr:=hM.hr;have hrl:(ae (kS0 c i).regs).length=n:=by rw[ae,Wj,hM.rl];exact hnt
  have hst:(ae (kS0 c i).regs).set i [.p (.int .i64 (-1))]=ae (kS0 c (i+1)).regs:=by rw[←Fo,KS.bec,ae,ae,Ym,XF]
  obtain⟨z,hz⟩:∃z,(kS0 c i).regs[i]?=some z:=⟨_,Wc (by rw[hM.rl];omega)⟩;have hzg:(ae (kS0 c i).regs)[i]?=some [.p (.int .i64 z)]:=by rw[ae,Wl,hz];rfl
  have hze:=λhh=>ag hzg hh;have hin:i<n:=by omega
  have hwi:=w1 (i:=i) (by omega);have hgke:=λhh=>ag hgk hh;have hgre:=λhh=>ag hgr hh;simp[hgk,hgr,hrl,hst,hze,hin,hn];have hBl:=hB.len;refine⟨⟨i+1,_⟩,⟨by simp only;omega,hB.mm,q1,q2,q3,q4,by simp only;omega,λj hj=>?_⟩,by simp only;omega,aa (by omega) (by simp[below,hwi];have:=hM.lt.1;omega)⟩;simp only;rw[Wd (by omega)];exact q6 j hj
 ·have hcc:c.params<=(i:Int):=by simpa using hcc
  have hie:i=c.params.toNat:=by omega
  subst hie;have hgk:=hM.hk;have hgo:=hM.ho;have hgke:=λhh=>ag hgk hh;have hgoe:=λhh=>ag hgo hh;have hbl1:=hv.bl;have hol:(aG (kS0 c c.params.toNat).opn).length=c.blocks.length:=by rw[jT,hM.ol]
  have hz:(kS0 c c.params.toNat).opn[0]?=some false:=by simp only[kS0];rw[Xi,Wz (by omega)]
  have hzg:=bh hz;have hze:=λhh=>ag hzg hh;have hst:=bP (kS0 c c.params.toNat).opn 0 true;have hne:0<c.blocks.length:=by omega
  have hX2:KoI c h (ksC c) ⟨0,k,r,o,m,Z.set o (.row 1 (aG ((kS0 c c.params.toNat).opn.set 0 true)))⟩:=by
   obtain⟨d1,d2,d3,d4,d5,d6⟩:=hM.dj;have hl:=(Wa.1 hgo).1;refine⟨⟨?_,?_,?_,?_,?_,?_,hM.dj⟩,q1,q2,q3,q4,by simpa using q5,λj hj=>?_⟩
   ·simp only;rw[Wd (Ne.symm d2)];exact hM.hk
   ·simp only;rw[Wd (Ne.symm d4)];exact hM.hr
   ·simp only;rw[Wh hl];rfl
   ·simp only;rw[Wd d6];exact hM.hm
   ·exact hM.rl
   ·simp[ksC]
   ·simp only;rw[Wd (by omega)];exact q6 j hj
  simp[hgk,hgo,hol,hst,hze,hne];generalize Z.set o (.row 1 (aG ((kS0 c c.params.toNat).opn.set 0 true)))=Z2 at hX2⊢;refine am (λa:RdS=>aj 37 [(3,.ptr k 6 0 0)]) (λa=>a.X) (λa=>KoI c h (rndN c.blocks (ksC c) a.i) ⟨0,k,r,o,m,a.X⟩) (λa=>Sb c-gk (rndN c.blocks (ksC c) a.i)) ⟨0,Z2⟩ hX2 (aa hX2.2.2.2.2.2.1 (by simp[below,hX2.1.lt.1])) ?_;rintro⟨N,W⟩ hW;obtain⟨hM2,r1,r2,r3,r4,r5,r6⟩:=hW;simp only at hM2 r1 r2 r3 r4 r5 r6⊢;have hVN:=KV.rndN hk hv N;have hst2:=MA hk N;have hpot:=(Jn hk (N+1)).pot;have hRd:=Oq G hM2 hk hv hf hVN;rw[show Le c.blocks (rndN c.blocks (ksC c) N)=rndN c.blocks (ksC c) (N+1) from rfl] at hRd;simp[];refine hRd.mono ?_;rintro z W2 ⟨rfl,hW2⟩
  have hK2:KoI c h (rndN c.blocks (ksC c) (N+1)) ⟨0,k,r,o,m,W2⟩:=by
   refine⟨hW2.mm,r1,r2,r3,r4,by have:=hW2.len;simp only;omega,λj hj=>?_⟩;rw[hW2.fr j (by omega) (by omega) (by omega) (by omega)];exact r6 j hj
  by_cases he:gk (rndN c.blocks (ksC c) (N+1))=gk (rndN c.blocks (ksC c) N)
  ·have hfl:flK (rndN c.blocks (ksC c) N) (rndN c.blocks (ksC c) (N+1))=false:=by simp[flK,he]
   have hse:=hst2.same he;have hKF:=Rs hse;rw[hfl];simp[];rw[hKF,←hse];exact⟨r,o,m,hK2⟩
  ·have hfl:flK (rndN c.blocks (ksC c) N) (rndN c.blocks (ksC c) (N+1))=true:=by simp[flK,he]
   have hpo:=hst2.pot;rw[hfl];simp[];exact⟨⟨N+1,W2⟩,hK2,by simp only;omega,aa (by have:=hW2.len;omega) (by simp[below];have:=hW2.mm.lt.1;omega)⟩
end
section
def mqE(l:List (Int × Int)):List (PV × AV):=l.map λe=>(.int .i64 e.1,.p (.int .i64 e.2))
theorem An(p:Int):∀l:List (Int × Int),bU (.int .i64 p) (mqE l)=some ((l.find? λe=>decide (p=e.1)).map λe=> .p (.int .i64 e.2))
 |[]=>rfl
 |e::l=>by
  have ih:=An p l;rw[mqE] at ih;rw[mqE,WJ,bU,keq,Wz rfl,ZQ]
  by_cases h:p=e.1
  ·simp[h]
  ·simp only[h,decide_false];exact ih
theorem Aq(p v:Int):∀l:List (Int × Int),(∀e∈l,p≠e.1)->dC (.int .i64 p) (.p (.int .i64 v)) (mqE l)=some (mqE (l++[(p,v)]))
 |[],_=>rfl
 |e::l,h=>by
  have ih:=Aq p v l λx hx=>h x (by simp[hx]);have h1:¬p=e.1:=h e (by simp);rw[mqE] at ih;rw[mqE,WJ,dC,keq,Wz rfl];simp only[h1,decide_false,ih];rfl
def gr(ids:List Nat):List (List AV):=ids.map λi=>[AV.mp i]
def RowM(X:List AO)(A:AV)(l:List (List (Int × Int)))(J:List Nat):Prop:=
 (A= .nils/\l=[]/\J=[])\/∃jd ids,A= .sl jd 1 0 l.length/\J=jd::ids/\X[jd]?=some (.row 1 (gr ids))/\ids.length=l.length/\∀(k:Nat) (i:Nat) (e:List (Int × Int)),ids[k]?=some i->l[k]?=some e->X[i]?=some (.mp (mqE e))
theorem RowM.frame{X Y:List AO}{A:AV}{l:List (List (Int × Int))}{J:List Nat}(h:RowM X A l J)(hf:∀j∈J,Y[j]?=X[j]?):RowM Y A l J:=by
 rcases h with h|⟨jd,ids,h1,h2,h3,h4,h5⟩
 ·exact .inl h
 ·refine .inr ⟨jd,ids,h1,h2,by rw[hf jd (by rw[h2];simp)];exact h3,h4,λk i e hk he=>?_⟩;rw[hf i (by rw[h2];exact Xb _ (Wq hk))];exact h5 k i e hk he
theorem RowM.lt{X:List AO}{A:AV}{l:List (List (Int × Int))}{J:List Nat}(h:RowM X A l J):∀j∈J,j<X.length:=λj hj=>by
 rcases h with⟨_,_,h⟩|⟨jd,ids,h1,h2,h3,h4,h5⟩
 ·rw[h] at hj;cases hj
 ·rw[h2] at hj;rcases WE.1 hj with rfl|hj
  ·exact(Wa.1 h3).1
  ·obtain⟨k,hk⟩:=WA hj;have hkl:=(Wa.1 hk).1;exact(Wa.1 (h5 k j _ hk (Wc (by omega)))).1
theorem RowM.app{X:List AO}{A:AV}{l:List (List (Int × Int))}{J:List Nat}(h:RowM X A l J)(t:List AO):RowM (X++t) A l J:=
 h.frame λj hj=>Wb (h.lt j hj)
theorem RowM.push{X Y:List AO}{A A':AV}{l:List (List (Int × Int))}{J:List Nat}{mi:Nat}{e:List (Int × Int)}(h:RowM X A l J)(hm:X[mi]?=some (.mp (mqE e)))(hp:Psh X A 1 [.mp mi] Y A'):
 ∃J',RowM Y A' (l++[e]) J'/\(∀j∈J',j∈J\/j=mi\/j=X.length)/\Y.length=X.length+1/\(∀j,j<X.length->(A≠ .nils->j∉J)->Y[j]?=X[j]?)/\(∀j,j<X.length->(∃es,X[j]?=some (.mp es))->Y[j]?=X[j]?):=by
 have hml:=(Wa.1 hm).1;rcases hp with⟨rfl,rfl,rfl⟩|⟨id,rows,m,rfl,hg,hrm,rfl,rfl⟩
 ·rcases h with⟨_,rfl,rfl⟩|⟨jd,ids,h1,_⟩
  ·refine⟨[X.length,mi],.inr ⟨X.length,[mi],rfl,rfl,by simp[gr],rfl,λk i x hk hx=>?_⟩,λj hj=>?_,by simp,λj hj _=>Wb hj,λj hj _=>Wb hj⟩
   ·match k,hk,hx with
    |0,hk,hx=>
     cases hk;cases hx;rw[Wb hml];exact hm
   ·simp at hj;rcases hj with rfl|rfl<;>simp
  ·cases h1
 ·rcases h with⟨h1,_⟩|⟨jd,ids,h1,h2,h3,h4,h5⟩
  ·cases h1
  simp only[AV.sl.injEq,true_and] at h1;obtain⟨rfl,rfl⟩:=h1;rw[hg] at h3;cases h3;have hidl:=(Wa.1 hg).1;have hmp:∀j es,X[j]?=some (.mp es)->id≠j:=λj es he hh=>by rw[←hh,hg] at he;cases he
  have hkeep:∀j,j<X.length->id≠j->(X.set id AO.dead++[AO.row 1 (gr ids++[[.mp mi]])])[j]?=X[j]?:=λj hj hne=>by rw[Wb (by simpa using hj),Wd hne]
  refine⟨X.length::(ids++[mi]),.inr ⟨X.length,ids++[mi],by simp,rfl,?_,by simp[h4],λk i x hk hx=>?_⟩,λj hj=>?_,by simp,λj hj hn=>hkeep j hj λe=>hn (by simp) (by rw[h2,e];simp),λj hj ⟨es,he⟩=>hkeep j hj (hmp j es he)⟩
  ·rw[Wg (by simp),Wy,Xd];simp[gr]
  ·rw[XI] at hk hx
   by_cases hkl:k<ids.length
   ·rw[Wz hkl] at hk;rw[Wz (by omega)] at hx;have:=h5 k i x hk hx;rw[hkeep i (Wa.1 this).1 (hmp i _ this)];exact this
   ·rw[WB hkl] at hk;rw[WB (by omega)] at hx
    have h0:k-ids.length=0:=by have:=(Wa.1 hk).1;simp at this;omega
    rw[h0] at hk;rw[show k-l.length=0 by omega] at hx;cases hk;cases hx;rw[hkeep mi hml (hmp mi _ hm)];exact hm
  ·rcases WE.1 hj with rfl|hj
   ·simp
   ·rcases Ws.1 hj with hj|hj
    ·exact .inl (by rw[h2];simp[hj])
    ·simp at hj;simp[hj]
structure TabH (X:List AO) (T nb:Nat) (rows:List (List AV)) (L:Nat->List (List (Int × Int))) (JJ:Nat->List Nat) (q:Nat):Prop where
 tt:X[T]?=some (.row 1 rows)
 rl:rows.length=nb
 r1:∀i,i<nb->∃A,rows[i]?=some [A]
 rw:∀i A,i<nb->i≠q->rows[i]?=some [A]->RowM X A (L i) (JJ i)
 nT:∀i,i<nb->i≠q->T∉JJ i
 dj:∀i i',i<nb->i'<nb->i≠q->i'≠q->i≠i'->∀j∈JJ i,j∉JJ i'
section
variable {X Y:List AO} {T nb q:Nat} {rows:List (List AV)} {L:Nat->List (List (Int × Int))} {JJ:Nat->List Nat}
theorem TabH.frame(h:TabH X T nb rows L JJ q)(hT:Y[T]?=X[T]?)(hf:∀i,i<nb->i≠q->∀j∈JJ i,Y[j]?=X[j]?):TabH Y T nb rows L JJ q:=
 ⟨by rw[hT];exact h.tt,h.rl,h.r1,λi A hi hq hA=>(h.rw i A hi hq hA).frame (hf i hi hq),h.nT,h.dj⟩
theorem TabH.lt(h:TabH X T nb rows L JJ q):T<X.length/\∀i,i<nb->i≠q->∀j∈JJ i,j<X.length:=
 ⟨(Wa.1 h.tt).1,λi hi hq j hj=>by obtain⟨A,hA⟩:=h.r1 i hi;exact(h.rw i A hi hq hA).lt j hj⟩
theorem TabH.app(h:TabH X T nb rows L JJ q)(t:List AO):TabH (X++t) T nb rows L JJ q:=
 h.frame (Wb h.lt.1) λi hi hq j hj=>Wb (h.lt.2 i hi hq j hj)
theorem TabH.opn(h:TabH X T nb rows L JJ nb)(b:Nat):TabH X T nb rows L JJ b:=
 ⟨h.tt,h.rl,h.r1,λi A hi _ hA=>h.rw i A hi (by omega) hA,λi hi _=>h.nT i hi (by omega),λi i' hi hi' _ _=>h.dj i i' hi hi' (by omega) (by omega)⟩
theorem TabH.put{b:Nat}{A':AV}{l':List (List (Int × Int))}{J':List Nat}(h:TabH X T nb rows L JJ b)(hb:b<nb)(hR:RowM X A' l' J')(hTJ:T∉J')(hd:∀i,i<nb->i≠b->∀j∈JJ i,j∉J'):
 TabH (X.set T (.row 1 (rows.set b [A']))) T nb (rows.set b [A']) (λi=>if i=b then l' else L i) (λi=>if i=b then J' else JJ i) nb:=by
 have hTl:=h.lt.1;refine⟨Wh hTl,by rw[Wy,h.rl],λi hi=>?_,λi A hi _ hA=>?_,λi hi _=>?_,λi i' hi hi' _ _ hne j hj=>?_⟩
 ·rw[Xu]
  by_cases e:b=i
  ·rw[Wz e,Wz (by rw[h.rl];omega)];exact⟨_,rfl⟩
  ·rw[WB e];exact h.r1 i hi
 ·rw[Xu] at hA
  by_cases e:b=i
  ·rw[Wz e,Wz (by rw[h.rl];omega)] at hA;cases hA;subst e;simp only[if_true];exact hR.frame λj hj=>Wd λe=>hTJ (by rw[e];exact hj)
  ·rw[WB e] at hA;have e':¬i=b:=λx=>e x.symm;simp only[WB e'];exact(h.rw i A hi e' hA).frame λj hj=>Wd λx=>h.nT i hi e' (by rw[x];exact hj)
 ·by_cases e:i=b
  ·simp only[Wz e];exact hTJ
  ·simp only[WB e];exact h.nT i hi e
 ·by_cases e:i=b
  ·have e2:¬i'=b:=λx=>hne (by rw[e,x]);simp only[Wz e] at hj;simp only[WB e2];exact λhm=>hd i' hi' e2 j hm hj
  ·simp only[WB e] at hj
   by_cases e2:i'=b
   ·simp only[Wz e2];exact hd i hi e j hj
   ·simp only[WB e2];exact h.dj i i' hi hi' e e2 hne j hj
end
end
section
theorem RowM.not{X:List AO}{A:AV}{l:List (List (Int × Int))}{J:List Nat}(h:RowM X A l J){q sz:Nat}{es:List (List AV)}(hq:X[q]?=some (.row sz es))(hs:sz≠1):q∉J:=λhj=>by
 rcases h with⟨_,_,h⟩|⟨jd,ids,h1,h2,h3,h4,h5⟩
 ·rw[h] at hj;cases hj
 ·rw[h2] at hj;rcases WE.1 hj with rfl|hj
  ·rw[h3] at hq;cases hq;exact hs rfl
  ·obtain⟨k,hk⟩:=WA hj;have hkl:=(Wa.1 hk).1;rw[h5 k q _ hk (Wc (by omega))] at hq;cases hq
def phR(c:Cd)(b:Nat)(x:Bk):List (List (Int × Int)):=x.phis.map λf=>(ab c.blocks b).zip f.args
def phF(c:Cd)(b:Nat):List (List (Int × Int)):=match c.blocks[b]? with|some x=>phR c b x|none=>[]
def PhI(c:Cd)(h:List AO)(T:Nat)(L:Nat->List (List (Int × Int)))(X:List AO):Prop:=
 ∃rows JJ,TabH X T c.blocks.length rows L JJ c.blocks.length/\h.length<=T/\(∀i,i<c.blocks.length->∀j∈JJ i,h.length<=j)/\KpF h X/\h.length<=X.length
theorem sH(bs:List Bk)(b:Int):(ab bs b).Nodup:=by
 have hp:(bs.zipIdx.filter λx=>decide (b∈x.1.next)).Pairwise λa c=>a.2<c.2:=by
  refine List.Pairwise.filter _ ?_;rw[Yd];intro i j hi hj hij;simp;exact hij
 rw[ab,Ys,YN];exact hp.imp λh=>by omega
theorem PhI.lt{c:Cd}{h X:List AO}{T:Nat}{L:Nat->List (List (Int × Int))}(H:PhI c h T L X):T<X.length:=by obtain⟨_,_,h1,_⟩:=H;exact h1.lt.1
theorem PhI.push{c:Cd}{h Z os:List AO}{T b mi:Nat}{L:Nat->List (List (Int × Int))}{e:List (Int × Int)}(hZ:PhI c h T L Z)(hb:b<c.blocks.length)(hmi:Z.length<=mi)(hm:(Z++os)[mi]?=some (.mp (mqE e))):
 ∃rows A,Z[T]?=some (.row 1 rows)/\rows.length=c.blocks.length/\rows[b]?=some [A]/\h.length<=T/\(A= .nils\/∃jd es,A= .sl jd 1 0 (L b).length/\Z[jd]?=some (.row 1 es)/\es.length=(L b).length/\jd≠T/\h.length<=jd)/\
  ∀Y A',Psh (Z++os) A 1 [.mp mi] Y A'->PhI c h T (λi=>if i=b then L b++[e] else L i) (Y.set T (.row 1 (rows.set b [A'])))/\(∀j,j<Z.length->(∃sz es,sz≠1/\Z[j]?=some (.row sz es))->(Y.set T (.row 1 (rows.set b [A'])))[j]?=Z[j]?):=by
 obtain⟨rows,JJ,h1,h2,h3,h4,h5⟩:=hZ;obtain⟨A,hA⟩:=h1.r1 b hb;have hR:=h1.rw b A hb (by omega) hA;have hTl:=h1.lt;have hJd:∀i,i<c.blocks.length->i≠b->∀j∈JJ i,j∉JJ b:=λi hi hn=>h1.dj i b hi hb (by omega) (by omega) hn;refine⟨rows,A,h1.tt,h1.rl,hA,h2,?_,λY A' hp=>?_⟩
 ·rcases hR with⟨h6,_⟩|⟨jd,ids,h6,h7,h8,h9,_⟩
  ·exact .inl h6
  ·exact .inr ⟨jd,gr ids,h6,h8,by simp[gr,h9],λe=>h1.nT b hb (by omega) (by rw[h7,e];simp),h3 b hb jd (by rw[h7];simp)⟩
 ·obtain⟨J',k1,k2,k3,k4,_⟩:=(hR.app os).push hm hp;have hml:=(Wa.1 hm).1;have hZl:Z.length<=(Z++os).length:=by simp
  have hTJ:T∉JJ b:=h1.nT b hb (by omega)
  have hf:∀j,j<Z.length->j∉JJ b->Y[j]?=Z[j]?:=λj hj hn=>by rw[k4 j (by omega) λ_=>hn,Wb hj]
  have hO:=(h1.opn b).frame (Y:=Y) (hf T hTl.1 hTJ) λi hi hq j hj=>hf j (hTl.2 i hi (by omega) j hj) (hJd i hi hq j hj)
  have hTJ':T∉J':=λhm=>by
   rcases k2 T hm with h|h|h
   ·exact hTJ h
   ·have:=hTl.1;omega
   ·have:=hTl.1;omega
  have hP:=hO.put (A':=A') hb k1 hTJ' λi hi hn j hj hm=>by
   have hjl:=hTl.2 i hi (by omega) j hj;rcases k2 j hm with h|h|h
   ·exact hJd i hi hn j hj h
   ·omega
   ·omega
  refine⟨⟨_,_,hP,h2,λi hi j hj=>?_,λj hj=>?_,?_⟩,λj hj ⟨sz,es,hs,hg⟩=>?_⟩
  ·have hZh:h.length<=Z.length:=h5
   by_cases e:i=b
   ·simp only[Wz e] at hj;rcases k2 j hj with h|h|h
    ·exact h3 b hb j h
    ·omega
    ·omega
   ·simp only[WB e] at hj;exact h3 i hi j hj
  ·rw[Wd (by omega),hf j (by omega) λhm=>by have:=h3 b hb j hm;omega];exact h4 j hj
  ·rw[Wy,k3];omega
  ·have hjT:T≠j:=λe=>by
    rw[←e,h1.tt] at hg;cases hg;exact hs rfl
   rw[Wd hjT,hf j hj (hR.not hg hs)]
variable (G:aw)
theorem Gr{h:List AO}(c:Cd)(hd:DrpC c)(hf:en 1073741824 c):AC Tryz.prog G cn [.agg (c.cs.map .p)] h λx Y=>∃T,x= .ret (.sl T 1 0 c.blocks.length)/\PhI c h T (phF c) Y:=by
 have hc:CBd c:=⟨hf.1,λx hx=>(hf.2 x hx).next⟩;have hcs:=c.cs_eq2;have hbl:bkL c.blocks= .lst 5 (c.blocks.map Bk.cs):=rfl;have hl160:=hd.b160;obtain⟨RC,hRC⟩:∃RC,RC=AO.row 3 [[.p (.int .i64 c.params),.p (.int .i64 c.regs),.p (.lst 5 (c.blocks.map Bk.cs))]]:=⟨_,rfl⟩;refine AC.go CX ?_;simp[rX,hcs,hbl];refine⟨by omega,?_⟩;rw[←hRC];have hrep:∀i,i<c.blocks.length->(List.replicate c.blocks.length [AV.nils])[i]?=some [AV.nils]:=λi hi=>by rw[Xi,Wz hi]
 refine am (λa:RdS=>aj 63 [(19,.p (.int .i64 a.i)),(18,.p (.int .i64 c.blocks.length)),(17,.p (.lst 5 (c.blocks.map Bk.cs))),(3,.sl (h.length+1) 1 0 c.blocks.length),(1,.ptr h.length 3 0 0)]) (λa=>a.X) (λa=>a.i<=c.blocks.length/\a.X[h.length]?=some RC/\PhI c h (h.length+1) (λi=>if i<a.i then phF c i else[]) a.X) (λa=>c.blocks.length-a.i) ⟨0,h++[RC,.row 1 (List.replicate c.blocks.length [.nils])]⟩ ⟨We _,?_,List.replicate c.blocks.length [.nils],λ_=>[],⟨?_,by simp,λi hi=>⟨_,hrep i hi⟩,λi A hi _ hA=>?_,(λi _ _ hm=>by cases hm),(λi i' _ _ _ _ _ j hj=>by cases hj)⟩,by omega,(λi _ j hj=>by cases hj),λj hj=>Wb hj,by simp⟩ ?_ ?_
 ·simp
 ·simp only;rw[Wg (by omega)];simp
 ·rw[hrep i hi] at hA;cases hA;exact .inl ⟨rfl,by simp,rfl⟩
 ·exact aa (by simp) (by simp[below])
 rintro⟨b,X⟩ ⟨hb,g0,hX⟩;simp only at hb g0 hX⊢;have h0l:=(Wa.1 g0).1;simp[];refine aA (λhcc=>?_) (λhcc=>?_)
 ·have hcc:b<c.blocks.length:=by simpa using hcc
  have hgb:=Wc hcc;generalize c.blocks[b]=x at hgb;have hgbe:=λhh=>ag hgb hh;have hxs:=x.cs_eq2;have hxf:=hf.2 x (Wq hgb);have hpl:phL x.phis= .lst 2 (x.phis.map Ph.cs):=rfl;have hwb:=w1 (i:=b) (by omega);have hPr:=rt G c b hc.1 hc.2;rw[rb hcc] at hPr;have hpn:ah (ab c.blocks b)= .lst 1 ((ab c.blocks b).map λn=>[.int .i64 n]):=rfl;rw[hcs,hbl,hpn] at hPr;have hpl2:=aU c.blocks b;have hphF:phF c b=phR c b x:=by rw[phF,hgb]
  obtain⟨RX,hRX⟩:∃RX,RX=AO.row 5 [[.p (.lst 2 (x.phis.map Ph.cs)),.p (inL x.ins),.p (.int .i64 x.jump),.p (.int .i64 x.on),.p (ah x.next)]]:=⟨_,rfl⟩;have g0a:(X++[RX])[h.length]?=some RC:=by rw[Wb h0l];exact g0
  have g0c:=g0a;rw[hRC,hRX] at g0c;have g0ce:=λhh=>ag g0c hh;simp[hgb,hxs,hpl,g0c];refine hPr.use ?_;rw[←hRX]
  have hX1:PhI c h (h.length+1) (λi=>if i<b then phF c i else if i=b then(phR c b x).take 0 else[]) (X++[RX]):=by
   obtain⟨rows,JJ,h1,h2,h3,h4,h5⟩:=hX
   have hfe:(λi=>if i<b then phF c i else if i=b then(phR c b x).take 0 else[])=(λi=>if i<b then phF c i else[]):=by funext i;by_cases hi:i<b<;>simp[hi]
   rw[hfe];exact⟨rows,JJ,h1.app _,h2,h3,λj hj=>by rw[Wb (by omega)];exact h4 j hj,by simp;omega⟩
  have xq:(X++[RX])[X.length]?=some RX:=by simp
  have hXl:h.length<X.length:=h0l;generalize X.length=q at xq hXl⊢;generalize X++[RX]=X1 at hX1 xq g0a⊢;have hq1:=(Wa.1 xq).1;have xqc:=xq;rw[hRX] at xqc;have xqce:=λhh=>ag xqc hh;clear hX g0 g0c g0ce h0l;simp[xqc];refine am (λa:RdS=>aj 63 [(30,.p (.int .i64 a.i)),(29,.p (.int .i64 x.phis.length)),(28,.p (.lst 2 (x.phis.map Ph.cs))),(6,.p (.lst 1 ((ab c.blocks b).map λn=>[.int .i64 n]))),(4,.p (.int .i64 b)),(19,.p (.int .i64 b)),(18,.p (.int .i64 c.blocks.length)),(17,.p (.lst 5 (c.blocks.map Bk.cs))),(3,.sl (h.length+1) 1 0 c.blocks.length),(1,.ptr h.length 3 0 0)]) (λa=>a.X) (λa=>a.i<=x.phis.length/\a.X[h.length]?=some RC/\PhI c h (h.length+1) (λi=>if i<b then phF c i else if i=b then(phR c b x).take a.i else[]) a.X) (λa=>x.phis.length-a.i) ⟨0,X1⟩ ⟨We _,g0a,hX1⟩ (aa (by omega) (by simp[below];omega)) ?_;clear hX1 xq xqc xqce hq1 hXl g0a;rintro⟨j,Z⟩ ⟨hj,g0,hZ⟩;simp only at hj g0 hZ⊢;have h0l:=(Wa.1 g0).1;simp[];refine aA (λhc2=>?_) (λhc2=>?_)
  ·have hc2:j<x.phis.length:=by simpa using hc2
   have hgj:=Wc hc2;have hmj:=Wm hc2;generalize x.phis[j]=f at hgj hmj;have hfs:=f.cs_eq2;have hfa:ah f.args= .lst 1 (f.args.map λn=>[.int .i64 n]):=rfl;have pa1:=hd.pa b x hgb f hmj;have hwj:=w1 (i:=j) (by have:=hxf.phis;omega);have hjb:=hxf.phis;obtain⟨FO,hFO⟩:∃FO,FO=AO.row 2 [[.p (.int .i64 f.to),.p (.lst 1 (f.args.map λn=>[.int .i64 n]))]]:=⟨_,rfl⟩;simp[hgj,hfs,hfa];rw[←hFO];refine am (λi:Nat=>aj 63 [(37,.p (.int .i64 i)),(36,.p (.int .i64 (ab c.blocks b).length)),(35,.p (.lst 1 ((ab c.blocks b).map λn=>[.int .i64 n]))),(9,.mp (Z.length+1)),(8,.ptr Z.length 2 0 0),(30,.p (.int .i64 j)),(29,.p (.int .i64 x.phis.length)),(28,.p (.lst 2 (x.phis.map Ph.cs))),(6,.p (.lst 1 ((ab c.blocks b).map λn=>[.int .i64 n]))),(4,.p (.int .i64 b)),(19,.p (.int .i64 b)),(18,.p (.int .i64 c.blocks.length)),(17,.p (.lst 5 (c.blocks.map Bk.cs))),(3,.sl (h.length+1) 1 0 c.blocks.length),(1,.ptr h.length 3 0 0)]) (λi=>Z++[FO,.mp (mqE (((ab c.blocks b).zip f.args).take i))]) (λi=>i<=(ab c.blocks b).length) (λi=>(ab c.blocks b).length-i) 0 (We _) ?_ ?_
   ·exact aa (by simp;omega) (by simp[below];omega)
   ·intro i hi;simp[];refine aA (λhc3=>?_) (λhc3=>?_)
    ·have hc3:i<(ab c.blocks b).length:=(by simpa using hc3);have hgp:=Wc hc3;generalize (ab c.blocks b)[i]'(hc3)=p at hgp;have hga:=Wc (l:=f.args) (i:=i) (by omega);generalize f.args[i]'(by omega)=g at hga;have hzk:((ab c.blocks b).zip f.args)[i]?=some (p,g):=(by rw[Yo];exact⟨hgp,hga⟩);have hzt:((ab c.blocks b).zip f.args).take (i+1)=((ab c.blocks b).zip f.args).take i++[(p,g)]:=by rw[WQ,hzk];rfl
     have hms:=Aq p g (((ab c.blocks b).zip f.args).take i) (λe he hpe=>by
      obtain⟨k,hk⟩:=WA he;have hkl:=(Wa.1 hk).1;rw[WD] at hkl;rw[YI (by omega),Yo] at hk;have h1:=hk.1;have h2:=(Ys.1 (sH c.blocks b));rw[Yd] at h2;have h3:=h2 k i (by omega) hc3 (by omega);rw[Wc (by omega)] at h1 hgp;simp only[WO] at h1 hgp;rw[h1,hgp,hpe] at h3;exact h3 rfl)
     rw[←hzt] at hms
     have hset:∀u v:AO,(Z++[FO,u]).set (Z.length+1) v=Z++[FO,v]:=λu v=>by rw[Xy _ _ (by omega),WP];rfl
     have hF2:some FO=some (AO.row 2 [[.p (.int .i64 f.to),.p (.lst 1 (f.args.map λn=>[.int .i64 n]))]]):=(by rw[hFO]);have hwi:=w1 (i:=i) (by omega);simp[hgp,hga,hms,hset,hF2];exact⟨i+1,by omega,by omega,aa (by simp;omega) (by simp[below,hwi];omega)⟩
    ·have hc3:(ab c.blocks b).length<=i:=(by simpa using hc3);rw[Wi (by rw[YX];omega)];obtain⟨MO,hMO⟩:∃MO,MO=AO.mp (mqE ((ab c.blocks b).zip f.args)):=⟨_,rfl⟩;rw[←hMO];have hRj:(phR c b x)[j]?=some ((ab c.blocks b).zip f.args):=(by rw[phR,Wl,hgj];rfl);have hRt:(phR c b x).take (j+1)=(phR c b x).take j++[(ab c.blocks b).zip f.args]:=(by rw[WQ,hRj];rfl);obtain⟨rows,A,e1,e2,e3,e4,e5,e6⟩:=hZ.push (os:=[FO,MO,.row 1 [[.mp (Z.length+1)]]]) (mi:=Z.length+1) (e:=(ab c.blocks b).zip f.args) hcc (by omega) (by rw[Wg (by omega),WP,hMO];rfl);have hLb:(if b<b then phF c b else if b=b then(phR c b x).take j else[])=(phR c b x).take j:=(by simp);rw[hLb] at e5 e6
     have hLn:(λi=>if i=b then(phR c b x).take j++[(ab c.blocks b).zip f.args] else if i<b then phF c i else if i=b then(phR c b x).take j else[])=(λi=>if i<b then phF c i else if i=b then(phR c b x).take (j+1) else[]):=by
      funext i
      by_cases hi:i=b
      ·subst hi;simp[hRt]
      ·simp[hi]
     have hRl:((phR c b x).take j).length=j:=(by rw[WD,phR,Wj];omega);rw[hRl] at e5;have hTl:=(Wa.1 e1).1;have n1:∀t,(Z++t)[h.length+1]?=some (.row 1 rows):=λt=>(by rw[Wb hTl];exact e1);have n1e:=λt hh=>ag (n1 t) hh;have e3e:=λhh=>ag e3 hh;rcases e5 with rfl|⟨jd,es,rfl,f1,f2,f3,f4⟩
     ·obtain⟨k1,k2⟩:=e6 (Z++[FO,MO,.row 1 [[.mp (Z.length+1)]]]++[.row 1 [[.mp (Z.length+1)]]]) (.sl (Z.length+3) 1 0 1) (.inl ⟨rfl,rfl,by simp⟩);rw[hLn] at k1;simp only[Wp,Xt,Xj] at k1 k2;simp[n1,e3e,e2,hcc];exact⟨⟨j+1,_⟩,⟨by simp only;omega,by simp only;rw[k2 h.length h0l ⟨3,_,by omega,by rw[g0,hRC]⟩];exact g0,k1⟩,by simp only;omega,aa (by simp;omega) (by simp[below,hwj];omega)⟩
     ·have hjl:=(Wa.1 f1).1;have n2:∀t,(Z++t)[jd]?=some (.row 1 es):=λt=>(by rw[Wb hjl];exact f1);have n2e:=λt hh=>ag (n2 t) hh;have n3:∀t t',((Z++t).set jd .dead++t')[h.length+1]?=some (.row 1 rows):=λt t'=>(by rw[Wb (by simp;omega),Wd f3,Wb hTl];exact e1);have n3e:=λt t' hh=>ag (n3 t t') hh;have htk2:List.take j es=es:=Wi (by omega);obtain⟨k1,k2⟩:=e6 ((Z++[FO,MO,.row 1 [[.mp (Z.length+1)]]]).set jd .dead++[.row 1 (es++[[.mp (Z.length+1)]])]) (.sl (Z.length+3) 1 0 (j+1)) (.inr ⟨jd,es,j,rfl,n2 _,f2,rfl,by simp⟩);rw[hLn] at k1;simp[n1,e3e,e2,hcc,n2,n3,f2,htk2];exact⟨⟨by omega,by omega⟩,⟨j+1,_⟩,⟨by simp only;omega,by simp only;rw[k2 h.length h0l ⟨3,_,by omega,by rw[g0,hRC]⟩];exact g0,k1⟩,by simp only;omega,aa (by simp;omega) (by simp[below,hwj];omega)⟩
  ·have hc2:x.phis.length<=j:=by simpa using hc2
   have hLe:(λi=>if i<b then phF c i else if i=b then(phR c b x).take j else[])=(λi=>if i<b+1 then phF c i else[]):=by
    funext i
    by_cases hi:i<b
    ·simp[hi,show i<b+1 by omega]
    ·by_cases hib:i=b
     ·subst hib;simp[hphF];rw[phR,Wi (by rw[Wj];omega)]
     ·simp[hi,hib,show¬i<b+1 by omega]
   rw[hLe] at hZ;simp[];have hZl:h.length<Z.length:=h0l;have hZt:=hZ.lt;refine⟨⟨b+1,Z⟩,⟨by simp only;omega,g0,hZ⟩,by simp only;omega,aa (Nat.le_of_lt hZl) ?_⟩;simp[below,hwb];omega
 ·have hcc:c.blocks.length<=b:=by simpa using hcc
  simp[];obtain⟨rows,JJ,h1,h2,h3,h4,h5⟩:=hX;refine⟨rows,JJ,⟨h1.tt,h1.rl,h1.r1,λi A hi hq hA=>?_,h1.nT,h1.dj⟩,h2,h3,h4,h5⟩;have:=h1.rw i A hi hq hA;simp only[Wz (show i<b by omega)] at this;exact this
end
section
structure MoS where (i:Nat) (X:List AO) (V:AV)
variable (G:aw)
theorem Fh(l:List Int)(hl:l.length<=1073741824)(h:List AO):AC Tryz.prog G aP [.p (ah l)] h λx h'=>∃V I os,x= .ret V/\h'=h++os/\Own h.length h' [V] [ah l] I:=by
 refine(Qz G l hl h).mono ?_;rintro x h' ⟨V,os,rfl,rfl,hV⟩;rcases hV with⟨rfl,rfl⟩|⟨id,rfl,h1,h2⟩
 ·exact⟨_,[],os,rfl,rfl,Own.nil _ _ 1⟩
 ·exact⟨_,[id],os,rfl,rfl,aX (by rw[h2];rfl) h1 rfl⟩
theorem AC.ownKill{f:FuncId}{args:List AV}{w:List AV->AV}{qs:List PV}(hw:Shp w)(H:AC Tryz.prog G f args [] (OwW w qs)):AC Tryz.prog G f args [] λx h=>∃vs I,x= .ret (w vs)/\Own 0 h vs qs I/\∀(i:Nat) o,h[i]?=some o->o= .dead\/i∈I:=by
 refine(AC.known H).gc (λt v h ⟨⟨_,_,e,_⟩,_⟩=>by cases e) λv h ⟨⟨vs,I,e,ho⟩,hb,hbl,_⟩=>?_;cases e
 have hid:∀i,i<h.length->(List.range h.length).getD i 0=i:=λi hi=>by rw[Wv];simp[hi]
 let g:Nat->AO:=λi=>if i∈I then(h[i]?).getD .dead else .dead
 have hg:∀i,i<h.length->((List.range h.length).map g)[i]?=some (g i):=λi hi=>by simp[hi]
 refine⟨w vs,(List.range h.length).map g,⟨List.range h.length,by simp,λi hi=>by simp at hi,Zl,?_,?_,?_⟩,vs,I,rfl,ho.frame λi hi=>?_,λi o hi=>?_⟩
 ·rw[Xq];exact hw.below _ _ ho.own.blw
 ·rw[hw.ren,pt hid _ ho.own.blw]
 ·have:∀(n k:Nat),k+n=h.length->HW (List.range h.length) h (List.range' k n) ((List.range' k n).map g):=by
   intro n
   induction n with
   |zero=>intro k _;exact True.intro
   |succ n ih=>
    intro k hk;rw[List.range'_succ,WJ];have ih:=ih (k+1) (by omega)
    by_cases hm:k∈I
    ·obtain⟨sz,rows,e⟩:=ho.own.ids k hm;have eg:g k= .row sz rows:=(by simp only[g,Wz hm,e,Yb]);rw[eg];have hb1:=hb.1 k sz rows e;refine Kc (λx hx=>by rw[Xq];exact(hb1 x hx).2.1) ?_ ih;rw[e,WY (g:=id) λx hx=>pt hid x (hb1 x hx).2.1];simp
    ·have eg:g k= .dead:=(by simp only[g,WB hm]);rw[eg];exact JZ (by omega) ih
  have:=this h.length 0 (by omega);rwa[←YQ] at this
 ·have hl:=ho.lt i hi;rw[hg i hl];obtain⟨sz,rows,e⟩:=ho.own.ids i hi;simp only[g,Wz hi,e,Yb]
 ·have hl:i<h.length:=by simpa using(Wa.1 hi).1
  rw[hg i hl] at hi;cases hi
  by_cases hm:i∈I
  ·exact .inr hm
  ·exact .inl (WB hm)
theorem vV(n:Nat)(l:List AV):cm n l=l.map (bx n):=bt n l
theorem AC.ownLend{f:FuncId}{args pargs:List AV}{w:List AV->AV}{qs:List PV}(hw:Shp w)(H:AC Tryz.prog G f pargs [] (OwW w qs)){h:List AO}(hv:Views h args pargs):
 AC Tryz.prog G f args h λx h'=>∃vs I os,x= .ret (w vs)/\h'=h++os/\Own h.length h' vs qs I:=by
 refine((AC.ownKill G hw H).lendR hv (λt v h1 ⟨_,_,e,_⟩=>by cases e) λv h1 ⟨vs,I,e,ho,hd⟩=>?_).mono ?_
 ·cases e;refine⟨hw.clean _ ho.own.clean,Wu.2 λo hm=>?_⟩;obtain⟨i,hi⟩:=WA hm;rcases hd i o hi with rfl|hI
  ·rfl
  ·exact ho.own.cleanO i hI o hi
 ·rintro x h' ⟨r,h1,⟨vs,I,e,ho,hd⟩,rfl,rfl⟩;cases e;refine⟨cm h.length vs,I.map λi=>h.length+i,_,by rw[hw.shift],rfl,⟨ho.own.shift h,mf (λi j e=>by omega) ho.nd,λj hj sz rows hg r hr v hv=>?_,λv hv=>?_,λi hi=>?_⟩⟩
  ·obtain⟨i,hi,rfl⟩:=Ww.1 hj;rw[Wg (by omega),WP,Wl] at hg;have hil:=ho.lt i hi;rw[Wc hil] at hg;have hg3:=Wc hil;generalize h1[i]=o at hg hg3;simp only[Xx,WO] at hg;cases o with
   |row sz0 rows0=>
    simp only[cS,AO.row.injEq] at hg;obtain⟨rfl,rfl⟩:=hg;obtain⟨r0,hr0,rfl⟩:=Ww.1 hr;rw[vV] at hv;obtain⟨v0,hv0,rfl⟩:=Ww.1 hv;rw[Bj];exact ho.no i hi sz0 rows0 hg3 r0 hr0 v0 hv0
   |_=>simp[cS] at hg
  ·rw[vV] at hv;obtain⟨v0,hv0,rfl⟩:=Ww.1 hv;rw[Bj];exact ho.nv v0 hv0
  ·obtain⟨j,hj,rfl⟩:=Ww.1 hi;omega
theorem Hu(F:FuncId)(xs:List Ph)(g:Ph->Ph)(hl:xs.length<=1073741824)(H:∀x∈xs,AC Tryz.prog G F [.agg (x.cs.map .p)] [] (OwW .agg (g x).cs)):
 AC Tryz.prog G cR [.p (phL xs),.fn (.func F) []] [] (OwW dM [phL (xs.map g)]):=by
 have hnl:phL xs= .lst 2 (xs.map Ph.cs):=rfl;refine AC.go nL ?_;simp[fB,hnl];refine am (λa:MoS=>aj 22 [(10,.p (.int .i64 a.i)),(9,.p (.int .i64 xs.length)),(8,.p (.lst 2 (xs.map Ph.cs))),(5,a.V),(1,.fn (.func F) [])]) (λa=>a.X) (λa=>a.i<=xs.length/\∃I,Own 0 a.X [a.V] [phL ((xs.take a.i).map g)] I) (λa=>xs.length-a.i) ⟨0,[],.nils⟩ ⟨We _,[],Own.nil _ _ 2⟩ (aa (Wo _) (by simp[below])) ?_;rintro⟨i,X,V⟩ ⟨hi,I,hV⟩;simp only at hi hV⊢;obtain⟨v1,v2⟩:=hV.cell;simp[];refine aA (λhcc=>?_) (λhcc=>?_)
 ·have hcc:i<xs.length:=by simpa using hcc
  have hg:=Wc hcc;have htk:xs.take (i+1)=xs.take i++[xs[i]]:=aq hcc;have hcl:=H _ (Wm hcc);generalize xs[i]=x at hg htk hcl;have hxs:=x.cs_eq2;have hge:=λhh=>ag hg hh;have hwi:=w1 (i:=i) (by omega);have hmt:(xs.take (i+1)).map g=(xs.take i).map g++[g x]:=by rw[htk,WF];rfl
  have hml:((xs.take i).map g).length=i:=by rw[Wj,WD];omega
  obtain⟨XO,hXO⟩:∃XO,XO=AO.row 2 [x.cs.map .p]:=⟨_,rfl⟩;have hcL:=AC.ownLift G bC hcl (h:=X++[XO]) (by simp[hxs,below]);rw[hxs] at hXO hcL;simp[-AV.cells,-AV.isCell,az,aO,hg,hxs];simp only[WJ,ZM] at hXO;rw[←hXO];refine hcL.mono ?_;rintro z W ⟨vs,I2,os,rfl,rfl,hO⟩;generalize (xs.take i).map g=l at hV hmt hml;have hV1:=hV.more ([XO]++os);rw[←Wp] at hV1;have hlt:=hV.lt;obtain⟨A,rfl,hA⟩:=KP hO;obtain⟨c1,c2⟩:=hA.cell;obtain⟨W,hW⟩:∃W,W=X++[XO]++os:=⟨_,rfl⟩;obtain⟨R,hR⟩:∃R,R=[AV.p (.int .i64 (g x).to),A]:=⟨_,rfl⟩;have hWl:X.length+1<=W.length:=by rw[hW];simp
  rw[←hW] at hO hV1⊢;have hO2:=(hO.more [.row 2 [R]]).low (m:=0) λj _=>We _;have hV2:=hV1.more [.row 2 [R]];rw[←hR] at hO2;have hdj:∀j∈I,j∉I2:=λj hj hm=>by have:=hlt j hj;have:=hO.ge j hm;simp at this;omega
  rcases hV.rowAt with⟨rfl,h0⟩|⟨id,rows,rfl,hg2,hrl,_⟩
  ·have hl0:l=[]:=WK.1 h0;subst hl0;subst hml;obtain⟨I',q1,_⟩:=hV2.psh hO2 hdj rfl (We _) (.inl ⟨rfl,rfl,rfl⟩);simp[-AV.cells,-AV.isCell,az,aO,c2];rw[←hR];refine⟨⟨1,_,.sl (W.length+1) 2 0 1⟩,⟨by simp only;omega,I',?_⟩,by simp only;omega,aa (by simp) (by simp[below,show IntKind.i64.wrap 1=1 from rfl])⟩;simp only[WV,WL] at hmt;simp only[←XX,hmt];rw[show[g x]=[]++[g x] from rfl,phL,WF];simp only[Wp,Xt,Xj,Wn,WC,WL,WV] at q1;exact q1
  ·have hidl:=(Wa.1 hg2).1;have hrl2:rows.length=i:=by rw[hrl,Wj,hml]
   have m7:∀t,(W++t)[id]?=some (.row 2 rows):=λt=>(by rw[hW,Wp,Wp,Wb hidl];exact hg2);have m7e:=λt hh=>ag (m7 t) hh;have htk2:List.take i rows=rows:=Wi (by omega);obtain⟨I',q1,_⟩:=hV2.psh hO2 hdj rfl (We _) (.inr ⟨id,rows,(l.map Ph.cs).length,rfl,m7 _,hrl,rfl,rfl⟩);rw[Wj,hml] at q1⊢;simp[-AV.cells,-AV.isCell,az,aO,c2,m7,htk2,hrl2];rw[←hR];refine⟨⟨by omega,by omega⟩,⟨i+1,_,.sl (W.length+1) 2 0 (i+1)⟩,⟨by simp only;omega,I',?_⟩,by simp only;omega,aa (by simp) (by simp[below,hwi])⟩;simp only[←XX,hmt];rw[phL,WF];simp only[Wn,WC,WL,WV] at q1;exact q1
 ·have hcc:xs.length<=i:=by simpa using hcc
  rw[Wi hcc] at hV;simp[-AV.cells,-AV.isCell];exact⟨[V],I,rfl,hV⟩
theorem IC(F:FuncId)(xs:List Ii)(g:Ii->Ii)(hl:xs.length<=1073741824)(H:∀x∈xs,AC Tryz.prog G F [.agg (x.cs.map .p)] [] (OwW .agg (g x).cs)):
 AC Tryz.prog G cT [.p (inL xs),.fn (.func F) []] [] (OwW dM [inL (xs.map g)]):=by
 have hnl:inL xs= .lst 4 (xs.map Ii.cs):=rfl;refine AC.go mX ?_;simp[fN,hnl];refine am (λa:MoS=>aj 22 [(10,.p (.int .i64 a.i)),(9,.p (.int .i64 xs.length)),(8,.p (.lst 4 (xs.map Ii.cs))),(5,a.V),(1,.fn (.func F) [])]) (λa=>a.X) (λa=>a.i<=xs.length/\∃I,Own 0 a.X [a.V] [inL ((xs.take a.i).map g)] I) (λa=>xs.length-a.i) ⟨0,[],.nils⟩ ⟨We _,[],Own.nil _ _ 4⟩ (aa (Wo _) (by simp[below])) ?_;rintro⟨i,X,V⟩ ⟨hi,I,hV⟩;simp only at hi hV⊢;obtain⟨v1,v2⟩:=hV.cell;simp[];refine aA (λhcc=>?_) (λhcc=>?_)
 ·have hcc:i<xs.length:=by simpa using hcc
  have hg:=Wc hcc;have htk:xs.take (i+1)=xs.take i++[xs[i]]:=aq hcc;have hcl:=H _ (Wm hcc);generalize xs[i]=x at hg htk hcl;have hxs:=x.cs_eq2;have hge:=λhh=>ag hg hh;have hwi:=w1 (i:=i) (by omega);have hmt:(xs.take (i+1)).map g=(xs.take i).map g++[g x]:=by rw[htk,WF];rfl
  have hml:((xs.take i).map g).length=i:=by rw[Wj,WD];omega
  obtain⟨XO,hXO⟩:∃XO,XO=AO.row 4 [x.cs.map .p]:=⟨_,rfl⟩;have hcL:=AC.ownLift G bC hcl (h:=X++[XO]) (by simp[hxs,below]);rw[hxs] at hXO hcL;simp[-AV.cells,-AV.isCell,az,aO,hg,hxs];simp only[WJ,ZM] at hXO;rw[←hXO];refine hcL.mono ?_;rintro z W ⟨vs,I2,os,rfl,rfl,hO⟩;generalize (xs.take i).map g=l at hV hmt hml;have hV1:=hV.more ([XO]++os);rw[←Wp] at hV1;have hlt:=hV.lt;obtain⟨A,rfl,hA⟩:=Er hO;obtain⟨c1,c2⟩:=hA.cell;obtain⟨W,hW⟩:∃W,W=X++[XO]++os:=⟨_,rfl⟩;obtain⟨R,hR⟩:∃R,R=[AV.p (.int .i64 (g x).op),.p (.int .i64 (g x).to),A,.p (.int .i64 (g x).n)]:=⟨_,rfl⟩;have hWl:X.length+1<=W.length:=by rw[hW];simp
  rw[←hW] at hO hV1⊢;have hO2:=(hO.more [.row 4 [R]]).low (m:=0) λj _=>We _;have hV2:=hV1.more [.row 4 [R]];rw[←hR] at hO2;have hdj:∀j∈I,j∉I2:=λj hj hm=>by have:=hlt j hj;have:=hO.ge j hm;simp at this;omega
  rcases hV.rowAt with⟨rfl,h0⟩|⟨id,rows,rfl,hg2,hrl,_⟩
  ·have hl0:l=[]:=WK.1 h0;subst hl0;subst hml;obtain⟨I',q1,_⟩:=hV2.psh hO2 hdj rfl (We _) (.inl ⟨rfl,rfl,rfl⟩);simp[-AV.cells,-AV.isCell,az,aO,c2];rw[←hR];refine⟨⟨1,_,.sl (W.length+1) 4 0 1⟩,⟨by simp only;omega,I',?_⟩,by simp only;omega,aa (by simp) (by simp[below,show IntKind.i64.wrap 1=1 from rfl])⟩;simp only[WV,WL] at hmt;simp only[←XX,hmt];rw[show[g x]=[]++[g x] from rfl,inL,WF];simp only[Wp,Xt,Xj,Wn,WC,WL,WV] at q1;exact q1
  ·have hidl:=(Wa.1 hg2).1;have hrl2:rows.length=i:=by rw[hrl,Wj,hml]
   have m7:∀t,(W++t)[id]?=some (.row 4 rows):=λt=>(by rw[hW,Wp,Wp,Wb hidl];exact hg2);have m7e:=λt hh=>ag (m7 t) hh;have htk2:List.take i rows=rows:=Wi (by omega);obtain⟨I',q1,_⟩:=hV2.psh hO2 hdj rfl (We _) (.inr ⟨id,rows,(l.map Ii.cs).length,rfl,m7 _,hrl,rfl,rfl⟩);rw[Wj,hml] at q1⊢;simp[-AV.cells,-AV.isCell,az,aO,c2,m7,htk2,hrl2];rw[←hR];refine⟨⟨by omega,by omega⟩,⟨i+1,_,.sl (W.length+1) 4 0 (i+1)⟩,⟨by simp only;omega,I',?_⟩,by simp only;omega,aa (by simp) (by simp[below,hwi])⟩;simp only[←XX,hmt];rw[inL,WF];simp only[Wn,WC,WL,WV] at q1;exact q1
 ·have hcc:xs.length<=i:=by simpa using hcc
  rw[Wi hcc] at hV;simp[-AV.cells,-AV.isCell];exact⟨[V],I,rfl,hV⟩
theorem HI(F:FuncId)(xs:List Bk)(g:Bk->Bk)(hl:xs.length<=1073741824)(H:∀x∈xs,AC Tryz.prog G F [.agg (x.cs.map .p)] [] (OwW .agg (g x).cs)):
 AC Tryz.prog G ch [.p (bkL xs),.fn (.func F) []] [] (OwW dM [bkL (xs.map g)]):=by
 have hnl:bkL xs= .lst 5 (xs.map Bk.cs):=rfl;refine AC.go lB ?_;simp[eC,hnl];refine am (λa:MoS=>aj 22 [(10,.p (.int .i64 a.i)),(9,.p (.int .i64 xs.length)),(8,.p (.lst 5 (xs.map Bk.cs))),(5,a.V),(1,.fn (.func F) [])]) (λa=>a.X) (λa=>a.i<=xs.length/\∃I,Own 0 a.X [a.V] [bkL ((xs.take a.i).map g)] I) (λa=>xs.length-a.i) ⟨0,[],.nils⟩ ⟨We _,[],Own.nil _ _ 5⟩ (aa (Wo _) (by simp[below])) ?_;rintro⟨i,X,V⟩ ⟨hi,I,hV⟩;simp only at hi hV⊢;obtain⟨v1,v2⟩:=hV.cell;simp[];refine aA (λhcc=>?_) (λhcc=>?_)
 ·have hcc:i<xs.length:=by simpa using hcc
  have hg:=Wc hcc;have htk:xs.take (i+1)=xs.take i++[xs[i]]:=aq hcc;have hcl:=H _ (Wm hcc);generalize xs[i]=x at hg htk hcl;have hxs:=x.cs_eq2;have hge:=λhh=>ag hg hh;have hwi:=w1 (i:=i) (by omega);have hmt:(xs.take (i+1)).map g=(xs.take i).map g++[g x]:=by rw[htk,WF];rfl
  have hml:((xs.take i).map g).length=i:=by rw[Wj,WD];omega
  obtain⟨XO,hXO⟩:∃XO,XO=AO.row 5 [x.cs.map .p]:=⟨_,rfl⟩;have hcL:=AC.ownLift G bC hcl (h:=X++[XO]) (by simp[hxs,below]);rw[hxs] at hXO hcL;simp[-AV.cells,-AV.isCell,az,aO,hg,hxs];simp only[WJ,ZM] at hXO;rw[←hXO];refine hcL.mono ?_;rintro z W ⟨vs,I2,os,rfl,rfl,hO⟩;generalize (xs.take i).map g=l at hV hmt hml;have hV1:=hV.more ([XO]++os);rw[←Wp] at hV1;have hlt:=hV.lt;obtain⟨P,N,Q,IP,IN,IQ,rfl,rfl,hP,hN,hQ⟩:=eF hO;obtain⟨c1,c2⟩:=hP.cell;obtain⟨c3,c4⟩:=hN.cell;obtain⟨c5,c6⟩:=hQ.cell;obtain⟨W,hW⟩:∃W,W=X++[XO]++os:=⟨_,rfl⟩;obtain⟨R,hR⟩:∃R,R=[P,N,.p (.int .i64 (g x).jump),.p (.int .i64 (g x).on),Q]:=⟨_,rfl⟩;have hWl:X.length+1<=W.length:=by rw[hW];simp
  rw[←hW] at hO hV1⊢;have hO2:=(hO.more [.row 5 [R]]).low (m:=0) λj _=>We _;have hV2:=hV1.more [.row 5 [R]];rw[←hR] at hO2;have hdj:∀j∈I,j∉IP++(IN++IQ):=λj hj hm=>by have:=hlt j hj;have:=hO.ge j hm;simp at this;omega
  rcases hV.rowAt with⟨rfl,h0⟩|⟨id,rows,rfl,hg2,hrl,_⟩
  ·have hl0:l=[]:=WK.1 h0;subst hl0;subst hml;obtain⟨I',q1,_⟩:=hV2.psh hO2 hdj rfl (We _) (.inl ⟨rfl,rfl,rfl⟩);simp[-AV.cells,-AV.isCell,az,aO,c2,c4,c6];rw[←hR];refine⟨⟨1,_,.sl (W.length+1) 5 0 1⟩,⟨by simp only;omega,I',?_⟩,by simp only;omega,aa (by simp) (by simp[below,show IntKind.i64.wrap 1=1 from rfl])⟩;simp only[WV,WL] at hmt;simp only[←XX,hmt];rw[show[g x]=[]++[g x] from rfl,bkL,WF];simp only[Wp,Xt,Xj,Wn,WC,WL,WV] at q1;exact q1
  ·have hidl:=(Wa.1 hg2).1;have hrl2:rows.length=i:=by rw[hrl,Wj,hml]
   have m7:∀t,(W++t)[id]?=some (.row 5 rows):=λt=>(by rw[hW,Wp,Wp,Wb hidl];exact hg2);have m7e:=λt hh=>ag (m7 t) hh;have htk2:List.take i rows=rows:=Wi (by omega);obtain⟨I',q1,_⟩:=hV2.psh hO2 hdj rfl (We _) (.inr ⟨id,rows,(l.map Bk.cs).length,rfl,m7 _,hrl,rfl,rfl⟩);rw[Wj,hml] at q1⊢;simp[-AV.cells,-AV.isCell,az,aO,c2,c4,c6,m7,htk2,hrl2];rw[←hR];refine⟨⟨by omega,by omega⟩,⟨i+1,_,.sl (W.length+1) 5 0 (i+1)⟩,⟨by simp only;omega,I',?_⟩,by simp only;omega,aa (by simp) (by simp[below,hwi])⟩;simp only[←XX,hmt];rw[bkL,WF];simp only[Wn,WC,WL,WV] at q1;exact q1
 ·have hcc:xs.length<=i:=by simpa using hcc
  rw[Wi hcc] at hV;simp[-AV.cells,-AV.isCell];exact⟨[V],I,rfl,hV⟩
theorem Ik(F:FuncId)(xs:List Cd)(g:Cd->Cd)(hl:xs.length<=1073741824)(H:∀x∈xs,AC Tryz.prog G F [.agg (x.cs.map .p)] [] (OwW .agg (g x).cs)):
 AC Tryz.prog G cB [.p (cdL xs),.fn (.func F) []] [] (OwW dM [cdL (xs.map g)]):=by
 have hnl:cdL xs= .lst 3 (xs.map Cd.cs):=rfl;refine AC.go mE ?_;simp[fj,hnl];refine am (λa:MoS=>aj 22 [(10,.p (.int .i64 a.i)),(9,.p (.int .i64 xs.length)),(8,.p (.lst 3 (xs.map Cd.cs))),(5,a.V),(1,.fn (.func F) [])]) (λa=>a.X) (λa=>a.i<=xs.length/\∃I,Own 0 a.X [a.V] [cdL ((xs.take a.i).map g)] I) (λa=>xs.length-a.i) ⟨0,[],.nils⟩ ⟨We _,[],Own.nil _ _ 3⟩ (aa (Wo _) (by simp[below])) ?_;rintro⟨i,X,V⟩ ⟨hi,I,hV⟩;simp only at hi hV⊢;obtain⟨v1,v2⟩:=hV.cell;simp[];refine aA (λhcc=>?_) (λhcc=>?_)
 ·have hcc:i<xs.length:=by simpa using hcc
  have hg:=Wc hcc;have htk:xs.take (i+1)=xs.take i++[xs[i]]:=aq hcc;have hcl:=H _ (Wm hcc);generalize xs[i]=x at hg htk hcl;have hxs:=x.cs_eq2;have hge:=λhh=>ag hg hh;have hwi:=w1 (i:=i) (by omega);have hmt:(xs.take (i+1)).map g=(xs.take i).map g++[g x]:=by rw[htk,WF];rfl
  have hml:((xs.take i).map g).length=i:=by rw[Wj,WD];omega
  obtain⟨XO,hXO⟩:∃XO,XO=AO.row 3 [x.cs.map .p]:=⟨_,rfl⟩;have hcL:=AC.ownLift G bC hcl (h:=X++[XO]) (by simp[hxs,below]);rw[hxs] at hXO hcL;simp[-AV.cells,-AV.isCell,az,aO,hg,hxs];simp only[WJ,ZM] at hXO;rw[←hXO];refine hcL.mono ?_;rintro z W ⟨vs,I2,os,rfl,rfl,hO⟩;generalize (xs.take i).map g=l at hV hmt hml;have hV1:=hV.more ([XO]++os);rw[←Wp] at hV1;have hlt:=hV.lt;obtain⟨A,rfl,hA⟩:=jG hO;obtain⟨c1,c2⟩:=hA.cell;obtain⟨W,hW⟩:∃W,W=X++[XO]++os:=⟨_,rfl⟩;obtain⟨R,hR⟩:∃R,R=[AV.p (.int .i64 (g x).params),.p (.int .i64 (g x).regs),A]:=⟨_,rfl⟩;have hWl:X.length+1<=W.length:=by rw[hW];simp
  rw[←hW] at hO hV1⊢;have hO2:=(hO.more [.row 3 [R]]).low (m:=0) λj _=>We _;have hV2:=hV1.more [.row 3 [R]];rw[←hR] at hO2;have hdj:∀j∈I,j∉I2:=λj hj hm=>by have:=hlt j hj;have:=hO.ge j hm;simp at this;omega
  rcases hV.rowAt with⟨rfl,h0⟩|⟨id,rows,rfl,hg2,hrl,_⟩
  ·have hl0:l=[]:=WK.1 h0;subst hl0;subst hml;obtain⟨I',q1,_⟩:=hV2.psh hO2 hdj rfl (We _) (.inl ⟨rfl,rfl,rfl⟩);simp[-AV.cells,-AV.isCell,az,aO,c2];rw[←hR];refine⟨⟨1,_,.sl (W.length+1) 3 0 1⟩,⟨by simp only;omega,I',?_⟩,by simp only;omega,aa (by simp) (by simp[below,show IntKind.i64.wrap 1=1 from rfl])⟩;simp only[WV,WL] at hmt;simp only[←XX,hmt];rw[show[g x]=[]++[g x] from rfl,cdL,WF];simp only[Wp,Xt,Xj,Wn,WC,WL,WV] at q1;exact q1
  ·have hidl:=(Wa.1 hg2).1;have hrl2:rows.length=i:=by rw[hrl,Wj,hml]
   have m7:∀t,(W++t)[id]?=some (.row 3 rows):=λt=>(by rw[hW,Wp,Wp,Wb hidl];exact hg2);have m7e:=λt hh=>ag (m7 t) hh;have htk2:List.take i rows=rows:=Wi (by omega);obtain⟨I',q1,_⟩:=hV2.psh hO2 hdj rfl (We _) (.inr ⟨id,rows,(l.map Cd.cs).length,rfl,m7 _,hrl,rfl,rfl⟩);rw[Wj,hml] at q1⊢;simp[-AV.cells,-AV.isCell,az,aO,c2,m7,htk2,hrl2];rw[←hR];refine⟨⟨by omega,by omega⟩,⟨i+1,_,.sl (W.length+1) 3 0 (i+1)⟩,⟨by simp only;omega,I',?_⟩,by simp only;omega,aa (by simp) (by simp[below,hwi])⟩;simp only[←XX,hmt];rw[cdL,WF];simp only[Wn,WC,WL,WV] at q1;exact q1
 ·have hcc:xs.length<=i:=by simpa using hcc
  rw[Wi hcc] at hV;simp[-AV.cells,-AV.isCell];exact⟨[V],I,rfl,hV⟩
end
section
variable (G:aw)
theorem nq{α:Type}{l:List α}{i:Nat}{x:α}(h:l[i]?=some x)(o:α):(l.set i o)[i]?=some o:=Wh (Wa.1 h).1
theorem fd{α:Type}{l:List α}{i j:Nat}(h:i≠j)(o:α):(l.set i o)[j]?=l[j]?:=Wd h
theorem Is(x:Ph)(hl:x.args.length<=1073741824):AC Tryz.prog G eN [.agg (x.cs.map .p)] [] (OwW .agg x.cs):=by
 have hxs:=x.cs_eq2;refine AC.go zp ?_;simp-implicitDefEqProofs[nS,hxs];refine(Fh G x.args hl _).mono ?_;rintro z W ⟨V,I,os,rfl,rfl,hV⟩;obtain⟨c1,c2⟩:=hV.cell;obtain⟨W,hW⟩:∃W,W=[AO.row 2 [[.p (.int .i64 x.to),.p (ah x.args)]],.row 2 [[.p (.int .i64 0),.nils]]]++os:=⟨_,rfl⟩;have w0:W[0]?=some (.row 2 [[.p (.int .i64 x.to),.p (ah x.args)]]):=by rw[hW];rfl
 have w1:W[1]?=some (.row 2 [[.p (.int .i64 0),.nils]]):=by rw[hW];rfl
 rw[←hW] at hV⊢;have w0e:=λhh=>ag w0 hh;have w1e:=λhh=>ag w1 hh;have s1:=nq w1;simp-implicitDefEqProofs[-AV.cells,-AV.isCell,kR,az,aO,c1,c2,w0,w1,s1];exact⟨_,I,rfl,hxs▸JK (x:=x) ((hV.frame λj hj=>fd (by have:=hV.ge j hj;simp at this;omega) _).low λj _=>We _)⟩
theorem Il(x:Ii)(hl:x.args.length<=1073741824):AC Tryz.prog G eE [.agg (x.cs.map .p)] [] (OwW .agg x.cs):=by
 have hxs:=x.cs_eq2;refine AC.go zY ?_;simp-implicitDefEqProofs[od,hxs];refine(Fh G x.args hl _).mono ?_;rintro z W ⟨V,I,os,rfl,rfl,hV⟩;obtain⟨c1,c2⟩:=hV.cell;obtain⟨W,hW⟩:∃W,W=[AO.row 4 [[.p (.int .i64 x.op),.p (.int .i64 x.to),.p (ah x.args),.p (.int .i64 x.n)]],.row 4 [[.p (.int .i64 0),.p (.int .i64 0),.nils,.p (.int .i64 0)]]]++os:=⟨_,rfl⟩;have w0:W[0]?=some (.row 4 [[.p (.int .i64 x.op),.p (.int .i64 x.to),.p (ah x.args),.p (.int .i64 x.n)]]):=by rw[hW];rfl
 have w1:W[1]?=some (.row 4 [[.p (.int .i64 0),.p (.int .i64 0),.nils,.p (.int .i64 0)]]):=by rw[hW];rfl
 rw[←hW] at hV⊢;have w0e:=λhh=>ag w0 hh;have w1e:=λhh=>ag w1 hh;have s0:=nq w0;have s0e:=λo hh=>ag (s0 o) hh;have s1:∀o,(W.set 0 o)[1]?=some (.row 4 [[.p (.int .i64 0),.p (.int .i64 0),.nils,.p (.int .i64 0)]]):=λo=>by rw[fd (by omega)];exact w1
 have s1e:=λo hh=>ag (s1 o) hh;have s2:=λo=>nq (s1 o);simp-implicitDefEqProofs[-AV.cells,-AV.isCell,az,aO,c1,c2,w0,s0,s1,s2];exact⟨_,I,rfl,hxs▸rz (x:=x) ((hV.frame λj hj=>by have:=hV.ge j hj;simp at this;rw[fd (by omega),fd (by omega)]).low λj _=>We _)⟩
theorem uu(x:Bk)(hx:BkFit 1073741824 x):AC Tryz.prog G bB [.agg (x.cs.map .p)] [] (OwW .agg x.cs):=by
 have hxs:=x.cs_eq2;have hP:=Hu G eN x.phis (λy=>y) hx.phis λy hy=>Is G y (hx.pa y hy);have hN:=IC G eE x.ins (λy=>y) hx.ins λy hy=>Il G y (hx.ia y hy);rw[List.map_id'] at hP hN;refine AC.go tI ?_;simp-implicitDefEqProofs[kY,hxs];refine(AC.ownLift G dQ hP (by simp[below])).mono ?_;rintro z W ⟨vs,IP,os,rfl,rfl,hP⟩;obtain⟨P,rfl⟩:∃P,vs=[P]:=Yn.1 hP.own.len;obtain⟨c1,c2⟩:=hP.cell;obtain⟨W,hW⟩:∃W,W=[AO.row 5 [[.p (phL x.phis),.p (inL x.ins),.p (.int .i64 x.jump),.p (.int .i64 x.on),.p (ah x.next)]],.row 5 [[.nils,.nils,.p (.int .i64 0),.p (.int .i64 0),.nils]]]++os:=⟨_,rfl⟩;have w0:W[0]?=some (.row 5 [[.p (phL x.phis),.p (inL x.ins),.p (.int .i64 x.jump),.p (.int .i64 x.on),.p (ah x.next)]]):=by rw[hW];rfl
 have w1:W[1]?=some (.row 5 [[.nils,.nils,.p (.int .i64 0),.p (.int .i64 0),.nils]]):=by rw[hW];rfl
 rw[←hW] at hP⊢;have w0e:=λhh=>ag w0 hh;have w1e:=λhh=>ag w1 hh;have s0:=nq w0;have s0e:=λo hh=>ag (s0 o) hh;simp-implicitDefEqProofs[-AV.cells,-AV.isCell,aO,c1,c2,w0,s0,dM];obtain⟨Z,hZ⟩:∃Z,Z=W.set 0 (AO.row 5 [[P,.p (inL x.ins),.p (.int .i64 x.jump),.p (.int .i64 x.on),.p (ah x.next)]]):=⟨_,rfl⟩;have z0:Z[0]?=some (.row 5 [[P,.p (inL x.ins),.p (.int .i64 x.jump),.p (.int .i64 x.on),.p (ah x.next)]]):=by rw[hZ];exact s0 _
 have z1:Z[1]?=some (.row 5 [[.nils,.nils,.p (.int .i64 0),.p (.int .i64 0),.nils]]):=by rw[hZ,fd (by omega)];exact w1
 have hPz:Own 2 Z [P] [phL x.phis] IP:=hP.frame λj hj=>by rw[hZ];exact fd (by have:=hP.ge j hj;simp at this;omega) _
 rw[←hZ];clear hZ hW w0 w1 w0e w1e s0 s0e hP;refine(AC.ownLift G dQ hN (by simp[below])).mono ?_;rintro z W2 ⟨vs,IN,os2,rfl,rfl,hN2⟩;obtain⟨N,rfl⟩:∃N,vs=[N]:=Yn.1 hN2.own.len;obtain⟨c3,c4⟩:=hN2.cell;have hZl:=(Wa.1 z1).1;have hP3:=hPz.more os2;have hN3:=hN2.low (m:=2) λj hj=>by have:=hN2.ge j hj;omega
 have d1:∀j∈IP,j∉IN:=λj hj hm=>by have:=hPz.lt j hj;have:=hN2.ge j hm;omega
 obtain⟨W,hW⟩:∃W,W=Z++os2:=⟨_,rfl⟩;have w0:W[0]?=some (.row 5 [[P,.p (inL x.ins),.p (.int .i64 x.jump),.p (.int .i64 x.on),.p (ah x.next)]]):=by rw[hW,Wb (by omega)];exact z0
 have w1:W[1]?=some (.row 5 [[.nils,.nils,.p (.int .i64 0),.p (.int .i64 0),.nils]]):=by rw[hW,Wb (by omega)];exact z1
 rw[←hW] at hP3 hN3⊢;have w0e:=λhh=>ag w0 hh;have w1e:=λhh=>ag w1 hh;have s0:=nq w0;have s0e:=λo hh=>ag (s0 o) hh;simp-implicitDefEqProofs[-AV.cells,-AV.isCell,aO,c3,c4,w0,s0,dM];clear hPz hN2 z0 z1 hZl hW Z os2;obtain⟨Z,hZ⟩:∃Z,Z=W.set 0 (AO.row 5 [[P,N,.p (.int .i64 x.jump),.p (.int .i64 x.on),.p (ah x.next)]]):=⟨_,rfl⟩;have z0:Z[0]?=some (.row 5 [[P,N,.p (.int .i64 x.jump),.p (.int .i64 x.on),.p (ah x.next)]]):=by rw[hZ];exact s0 _
 have z1:Z[1]?=some (.row 5 [[.nils,.nils,.p (.int .i64 0),.p (.int .i64 0),.nils]]):=by rw[hZ,fd (by omega)];exact w1
 have hPz:Own 2 Z [P] [phL x.phis] IP:=hP3.frame λj hj=>by rw[hZ];exact fd (by have:=hP3.ge j hj;omega) _
 have hNz:Own 2 Z [N] [inL x.ins] IN:=hN3.frame λj hj=>by rw[hZ];exact fd (by have:=hN3.ge j hj;omega) _
 rw[←hZ];clear hZ w0 w1 w0e w1e s0 s0e hP3 hN3;refine(Fh G x.next hx.next _).mono ?_;rintro z W2 ⟨Q,IQ,os2,rfl,rfl,hQ2⟩;obtain⟨c5,c6⟩:=hQ2.cell;have hZl:=(Wa.1 z1).1;have hP3:=hPz.more os2;have hN3:=hNz.more os2;have hQ3:=hQ2.low (m:=2) λj hj=>by have:=hQ2.ge j hj;omega
 have d2:∀j∈IP,j∉IQ:=λj hj hm=>by have:=hPz.lt j hj;have:=hQ2.ge j hm;omega
 have d3:∀j∈IN,j∉IQ:=λj hj hm=>by have:=hNz.lt j hj;have:=hQ2.ge j hm;omega
 obtain⟨W,hW⟩:∃W,W=Z++os2:=⟨_,rfl⟩;have w0:W[0]?=some (.row 5 [[P,N,.p (.int .i64 x.jump),.p (.int .i64 x.on),.p (ah x.next)]]):=by rw[hW,Wb (by omega)];exact z0
 have w1:W[1]?=some (.row 5 [[.nils,.nils,.p (.int .i64 0),.p (.int .i64 0),.nils]]):=by rw[hW,Wb (by omega)];exact z1
 rw[←hW] at hP3 hN3 hQ3⊢;have w0e:=λhh=>ag w0 hh;have w1e:=λhh=>ag w1 hh;have s0:=nq w0;have s0e:=λo hh=>ag (s0 o) hh;have s1:∀o,(W.set 0 o)[1]?=some (.row 5 [[.nils,.nils,.p (.int .i64 0),.p (.int .i64 0),.nils]]):=λo=>by rw[fd (by omega)];exact w1
 have s1e:=λo hh=>ag (s1 o) hh;have s2:=λo=>nq (s1 o);simp-implicitDefEqProofs[-AV.cells,-AV.isCell,az,aO,c2,c4,c5,c6,w0,s0,s1,s2];have hfr:∀{v q J} o o',Own 2 W [v] [q] J->Own 0 ((W.set 0 o).set 1 o') [v] [q] J:=λ{v q J} o o' h=>(h.frame λj hj=>by have:=h.ge j hj;rw[fd (by omega),fd (by omega)]).low λj _=>We _;exact⟨_,_,rfl,hxs▸gX (b:=x) (hfr _ _ hP3) (hfr _ _ hN3) (hfr _ _ hQ3) (λj hj=>⟨d1 j hj,d2 j hj⟩) d3⟩
theorem Gt(c:Cd)(hc:en 1073741824 c):AC Tryz.prog G bJ [.agg (c.cs.map .p)] [] (OwW .agg c.cs):=by
 have hcs:=c.cs_eq2;have hB:=HI G bB c.blocks (λy=>y) hc.1 λy hy=>uu G y (hc.2 y hy);rw[List.map_id'] at hB;refine AC.go ve ?_;simp-implicitDefEqProofs[mJ,hcs];refine(AC.ownLift G dQ hB (by simp[below])).mono ?_;rintro z W ⟨vs,I,os,rfl,rfl,hV⟩;obtain⟨V,rfl⟩:∃V,vs=[V]:=Yn.1 hV.own.len;obtain⟨c1,c2⟩:=hV.cell;obtain⟨W,hW⟩:∃W,W=[AO.row 3 [[.p (.int .i64 c.params),.p (.int .i64 c.regs),.p (bkL c.blocks)]],.row 3 [[.p (.int .i64 0),.p (.int .i64 0),.nils]]]++os:=⟨_,rfl⟩;have w0:W[0]?=some (.row 3 [[.p (.int .i64 c.params),.p (.int .i64 c.regs),.p (bkL c.blocks)]]):=by rw[hW];rfl
 have w1:W[1]?=some (.row 3 [[.p (.int .i64 0),.p (.int .i64 0),.nils]]):=by rw[hW];rfl
 rw[←hW] at hV⊢;have w0e:=λhh=>ag w0 hh;have w1e:=λhh=>ag w1 hh;have s0:=nq w0;have s0e:=λo hh=>ag (s0 o) hh;have s1:∀o,(W.set 0 o)[1]?=some (.row 3 [[.p (.int .i64 0),.p (.int .i64 0),.nils]]):=λo=>by rw[fd (by omega)];exact w1
 have s1e:=λo hh=>ag (s1 o) hh;have s2:=λo=>nq (s1 o);simp-implicitDefEqProofs[-AV.cells,-AV.isCell,az,aO,c1,c2,w0,s0,s1,s2,dM];exact⟨_,I,rfl,hcs▸nB (c:=c) ((hV.frame λj hj=>by have:=hV.ge j hj;simp at this;rw[fd (by omega),fd (by omega)]).low λj _=>We _)⟩
end
section
def lkM(l:List (Int × Int))(p:Int):Int:=((l.find? λe=>decide (p=e.1)).map (·.2)).getD 0
def uS(L:Nat->List (List (Int × Int)))(bs:List Bk)(b:Nat)(j:Nat)(f:Ph):Ph:=⟨f.to,(ab bs b).map (lkM (((L b)[j]?).getD []))⟩
def eD(L:Nat->List (List (Int × Int)))(bs:List Bk)(b:Nat)(x:Bk):Bk:={x with phis:=x.phis.mapIdx (uS L bs b)}
theorem OO{F:Nat->Bk->Bk}(hF:∀b x,(F b x).next=x.next)(bs:List Bk)(b:Nat):(mxT F bs b).map Bk.next=bs.map Bk.next:=by
 conv=>rhs;rw[←XH b bs]
 rw[mxT,WF,WF];congr 1;refine WT λi=>?_;rw[Wl,WH,Wl];cases (bs.take b)[i]? with
 |none=>rfl
 |some x=>simp[hF]
structure SeS where (i:Nat) (Z:List AO)
section
variable (G:aw)
theorem Fp{n:Nat}{h:List AO}{B:AV}{I:List Nat}{c:Cd}(HV:Own n h [B] [bkL c.blocks] I)(hc:CBd c)(b:Int):AC Tryz.prog G bg [.agg [.p (.int .i64 c.params),.p (.int .i64 c.regs),B],.p (.int .i64 b)] h λx h'=>x= .ret (.p (ah (fD c b)))/\h'=h:=
 AC.mkLendF (oS pJ) dQ (w:=dM) (qs:=[ah (fD c b)]) ((Bq G c b hc.1 hc.2).mono λr h ⟨V,e1,e2⟩=>by
  subst e1;rcases e2 with⟨rfl,e⟩|⟨id,rfl,e2⟩
  ·rw[e];exact⟨[.nils],[],rfl,(Own.nil 0 h 1).own,by simp⟩
  ·exact⟨[.sl id 1 0 (fD c b).length],[id],rfl,(aX (n:=0) e2 (We _) rfl).own,by simp⟩) (FC HV b)
theorem Me{X:List AO}{q mi:Nat}{l:List (Int × Int)}(hq:X[q]?=some (.row 1 [[.mp mi]]))(hm:X[mi]?=some (.mp (mqE l)))(p:Int):AC Tryz.prog G eH [.p (.int .i64 p),.ptr q 1 0 0] X λz Y=>z= .ret (.p (.int .i64 (lkM l p)))/\Y=X:=by
 have hg:=An p l;have hl:lkM l p=((l.find? λe=>decide (p=e.1)).map (·.2)).getD 0:=rfl
 rw[hl];generalize l.find? (λe=>decide (p=e.1))=r at hg;refine AC.go zw ?_;cases r with
 |none=>simp[iR,hq,hm,hg]
 |some e=>simp[iR,hq,hm,hg]
theorem Ft{n:Nat}{X:List AO}{q T:Nat}{B:AV}{bs:List Bk}{I:List Nat}{pm rg:Int}{rows:List (List AV)}{L:Nat->List (List (Int × Int))}{JJ:Nat->List Nat}
 (hq:X[q]?=some (.row 3 [[.p (.int .i64 pm),.p (.int .i64 rg),B]]))(HV:Own n X [B] [bkL bs] I)(hqI:q∉I)(hn:n<=X.length)(HT:TabH X T bs.length rows L JJ bs.length)(hTI:T∉I)(hJI:∀i,i<bs.length->∀j∈JJ i,j∉I)
 (hL:∀(b:Nat) (x:Bk),bs[b]?=some x->(L b).length=x.phis.length)(hb1:1<=bs.length)(hbl:bs.length<=160)(hnx:∀x∈bs,x.next.length<=1073741824)(hph:∀x∈bs,x.phis.length<=1000000):
 AC Tryz.prog G eh [.ptr q 3 0 0,.sl T 1 0 bs.length] X λz Y=>z= .ret (.tup [])/\∃I',Y[q]?=some (.row 3 [[.p (.int .i64 pm),.p (.int .i64 rg),B]])/\Own n Y [B] [bkL (bs.mapIdx (eD L bs))] I'/\(∀j∈I',j∈I\/X.length<=j)/\Frm I X Y:=by
 have hql:=(Wa.1 hq).1;have hTl:=HT.lt.1;have hBc:=HV.cell
 obtain⟨gid,rfl⟩:∃gid,B= .sl gid 5 0 bs.length:=by
  rcases HV.rowAt with⟨h1,h2⟩|⟨gid,_,h1,_⟩
  ·rw[WK.1 h2] at hb1;simp at hb1
  ·exact⟨gid,by rw[h1];simp⟩
 have hqe:=λhh=>ag hq hh;refine AC.go CW ?_;simp[rR,hq]
 refine am (λa:SeS=>aj 47 [(13,.p (.int .i64 a.i)),(12,.p (.int .i64 bs.length)),(1,.sl T 1 0 bs.length),(0,.ptr q 3 0 0)]) (λa=>a.Z)
  (λa=>a.i<=bs.length/\a.Z[q]?=some (.row 3 [[.p (.int .i64 pm),.p (.int .i64 rg),.sl gid 5 0 bs.length]])/\Frm I X a.Z/\∃I',Own n a.Z [.sl gid 5 0 bs.length] [bkL (mxT (eD L bs) bs a.i)] I'/\∀j∈I',j∈I\/X.length<=j) (λa=>bs.length-a.i) ⟨0,X⟩ ⟨We _,hq,.refl _ _,I,by simp only[fw];exact HV,λj hj=> .inl hj⟩ (aa (Wo _) (by simp[below];omega)) ?_
 rintro⟨b,Z⟩ ⟨hb,g0,hF,I',hV,hI'⟩;simp only at hb g0 hF hV⊢;simp[];refine aA (λhcc=>?_) (λhcc=>?_)
 ·have hcc:b<bs.length:=by simpa using hcc
  have hgb:=Wc hcc;generalize bs[b]=x at hgb;have hxm:=Wq hgb;have hwb:=w1 (i:=b) (by omega);have g0e:=λhh=>ag g0 hh;have hnxt:=OO (F:=eD L bs) (λb x=>rfl) bs b
  have hxb:CBd ⟨pm,rg,mxT (eD L bs) bs b⟩:=by
   refine⟨by simp only[fu];omega,λy hy=>?_⟩;simp only at hy;have:y.next∈(mxT (eD L bs) bs b).map Bk.next:=Zw hy;rw[hnxt] at this;obtain⟨z,hz,e⟩:=Ww.1 this;rw[←e];exact hnx z hz
  have hP:=Fp G (c:=⟨pm,rg,mxT (eD L bs) bs b⟩) hV hxb b;rw[rb (by simp only[fu];exact hcc)] at hP;simp only at hP;rw[iq hnxt] at hP;simp[g0];refine hP.mono ?_;rintro z Z1 ⟨rfl,rfl⟩;have hTz:=HT.frame (Y:=Z1) (hF.2 T hTl hTI) λi hi hq' j hj=>hF.2 j (HT.lt.2 i hi hq' j hj) (hJI i hi j hj);obtain⟨A,hA⟩:=hTz.r1 b hcc;have hR:=hTz.rw b A hcc (by omega) hA;have hJb:∀j∈JJ b,j<X.length/\j∉I:=λj hj=>⟨HT.lt.2 b hcc (by omega) j hj,hJI b hcc j hj⟩;have hLx:=hL b x hgb;have hpn:ah (ab bs b)= .lst 1 ((ab bs b).map λn=>[.int .i64 n]):=rfl;have hTt:=hTz.tt;have hTte:=λhh=>ag hTt hh;have hAe:=λhh=>ag hA hh;have hrl:=hTz.rl;rcases hR with⟨rfl,hL0,_⟩|⟨jd,ids,rfl,hJ,h3,h4,h5⟩
  ·have hp0:x.phis=[]:=Xr (by rw[←hLx,hL0];rfl);simp[hTt,hAe,hrl,hcc];refine am (λ_:Unit=>aj 47 [(26,.p (.int .i64 0)),(25,.p (.int .i64 0)),(13,.p (.int .i64 b)),(12,.p (.int .i64 bs.length)),(1,.sl T 1 0 bs.length),(0,.ptr q 3 0 0)]) (λ_=>Z1) (λ_=>True) (λ_=>0) () trivial (aa hF.1 (by simp[below];have:=hF.1;omega)) ?_;intro _ _;simp[];have hse:eD L bs b x=x:=by rw[eD,hp0];show({x with phis:=[]}:Bk)=x;rw[←hp0]
   have hms:=gS (F:=eD L bs) hgb;have hmg:=ic (F:=eD L bs) hgb;rw[hse] at hms;obtain⟨h1,h2⟩:=Wa.1 hmg;rw[←h2,Xl] at hms;exact⟨⟨b+1,Z1⟩,⟨by simp only;omega,g0,hF,I',by simp only;rw[←hms];exact hV,hI'⟩,by simp only;omega,aa hF.1 (by simp[below,hwb];have:=hF.1;omega)⟩
  ·rw[hLx] at h4 hA hAe;have hmg:=ic (F:=eD L bs) hgb;have hms:=gS (F:=eD L bs) hgb;have hxp:=hph x hxm;rw[hpn];simp[hTt,hAe,hrl,hcc]
   refine am (λa:SeS=>aj 47 [(26,.p (.int .i64 a.i)),(25,.p (.int .i64 x.phis.length)),(24,.sl jd 1 0 x.phis.length),(5,.p (.lst 1 ((ab bs b).map λn=>[.int .i64 n]))),(4,.p (.int .i64 b)),(13,.p (.int .i64 b)),(12,.p (.int .i64 bs.length)),(1,.sl T 1 0 bs.length),(0,.ptr q 3 0 0)]) (λa=>a.Z)
    (λa=>a.i<=x.phis.length/\a.Z[q]?=some (.row 3 [[.p (.int .i64 pm),.p (.int .i64 rg),.sl gid 5 0 bs.length]])/\Frm I X a.Z/\∃I',Own n a.Z [.sl gid 5 0 bs.length] [bkL ((mxT (eD L bs) bs b).set b {x with phis:=mxT (uS L bs b) x.phis a.i})] I'/\∀j∈I',j∈I\/X.length<=j) (λa=>x.phis.length-a.i) ⟨0,Z1⟩ ⟨We _,g0,hF,I',?_,hI'⟩ (aa hF.1 (by simp[below];have:=hF.1;have:=hJb jd (by rw[hJ];simp);omega)) ?_
   ·simp only[fw];obtain⟨h1,h2⟩:=Wa.1 hmg;have e:({x with phis:=x.phis}:Bk)=(mxT (eD L bs) bs b)[b]:=(by rw[h2]);rw[e,Xl];exact hV
   have hX3:X[jd]?=some (.row 1 (gr ids)):=by
    have:=hJb jd (by rw[hJ];simp);rw[←hF.2 jd this.1 this.2];exact h3
   have hX5:∀(k i:Nat) (e:List (Int × Int)),ids[k]?=some i->(L b)[k]?=some e->X[i]?=some (.mp (mqE e)):=λk i e hk he=>by
    have:=hJb i (by rw[hJ];exact Xb _ (Wq hk));rw[←hF.2 i this.1 this.2];exact h5 k i e hk he
   clear hV hI' hTz hTt hTte hP h3 h5;rintro⟨j,Z⟩ ⟨hj,g0,hF,I',hV,hI'⟩;simp only at hj g0 hF hV⊢;simp[];refine aA (λhc2=>?_) (λhc2=>?_)
   ·have hc2:j<x.phis.length:=(by simpa using hc2);have hgj:=Wc hc2;generalize x.phis[j]=f at hgj;have hbl2:b<(mxT (eD L bs) bs b).length:=(by rw[fu];exact hcc);have hgx:((mxT (eD L bs) bs b).set b {x with phis:=mxT (uS L bs b) x.phis j})[b]?=some {x with phis:=mxT (uS L bs b) x.phis j}:=Wh hbl2;have hgi:=ic (F:=uS L bs b) hgj;have hst:=gS (F:=uS L bs b) hgj;have hpTl:=fu (uS L bs b) x.phis j;obtain⟨gid',rows1,pid,rows2,N,Q,A,IA,e1,e2,e3,e4,e5,e6,e7,e8,e9,e10,e11,e12⟩:=hV.phi hgx hgi;simp only[AV.sl.injEq,true_and] at e1;obtain⟨rfl,_⟩:=e1;simp only at e3 e5;rw[hpTl] at e3 e5;obtain⟨mi,hmi⟩:∃mi,ids[j]?=some mi:=⟨_,Wc (by omega)⟩;obtain⟨l,hl⟩:∃l,(L b)[j]?=some l:=⟨_,Wc (by omega)⟩;have hjdJ:jd∈JJ b:=(by rw[hJ];simp);have hmiJ:mi∈JJ b:=(by rw[hJ];exact Xb _ (Wq hmi));have hzd:Z[jd]?=some (.row 1 (gr ids)):=(by rw[hF.2 jd (hJb jd hjdJ).1 (hJb jd hjdJ).2];exact hX3);have hzm:Z[mi]?=some (.mp (mqE l)):=(by rw[hF.2 mi (hJb mi hmiJ).1 (hJb mi hmiJ).2];exact hX5 j mi l hmi hl);have hzde:=λhh=>ag hzd hh;have hmr:(gr ids)[j]?=some [.mp mi]:=(by rw[gr,Wl,hmi];rfl);have hmre:=λhh=>ag hmr hh;have hml:(gr ids).length=x.phis.length:=(by rw[gr,Wj];exact h4);have hgl:=(Wa.1 e2).1;have hpl':=(Wa.1 e4).1;have hml2:=(Wa.1 hzm).1;have hdl:=(Wa.1 hzd).1;have hql2:=(Wa.1 g0).1;have ap:∀{k:Nat} {o:AO},Z[k]?=some o->∀t,(Z++t)[k]?=some o:=λh t=>(by rw[Wb (Wa.1 h).1];exact h);have hwj:=w1 (i:=j) (by omega);have a0:=ap g0;have a2:=ap e2;have a4:=ap e4;have a0e:=λt hh=>ag (a0 t) hh;have a2e:=λt hh=>ag (a2 t) hh;have a4e:=λt hh=>ag (a4 t) hh;have e3e:=λhh=>ag e3 hh;have e6e:=λhh=>ag e6 hh;have hr1l:b<rows1.length:=(Wa.1 e3).1;have hM:=DI (X:=Z++[.row 1 [[.mp mi]]]) (f:=eH) (caps:=[.ptr Z.length 1 0 0]) G (ab bs b) (lkM l) (by have:=aU bs (b:Int);omega) (by simp[below]) (λt p _=>Me G (by rw[Wp,Wg (Wo _),Xd];rfl) (by rw[Wp];exact ap hzm _) p);rw[hpn] at hM;simp[hzd,hmre,hml,hc2,a0,a2,e3e,hcc,hr1l];refine hM.mono ?_;rintro z Y ⟨V,t,rfl,rfl,hMq⟩
    have hVc:V.cells=[V]/\V.isCell=true:=by rcases hMq with⟨rfl,_⟩|⟨id,rfl,_⟩<;>exact⟨rfl,rfl⟩
    obtain⟨v1,v2⟩:=hVc;simp only[Wp];simp[-AV.cells,-AV.isCell,cI,v1,v2,a0,a2,a4,e3e,e5,e6e,hc2,hr1l];have hZn:n<=Z.length:=by have:=hF.1;omega
    obtain⟨I2,hV2,hI2⟩:∃I2,Own n ((Z++AO.row 1 [[AV.mp mi]]::t).set pid (AO.row 2 (rows2.set j [AV.p (PV.int IntKind.i64 f.to),V]))) [V] [ah ((ab bs b).map (lkM l))] I2/\∀k∈I2,Z.length<=k:=by
     rcases hMq with⟨rfl,h0⟩|⟨id,rfl,h6,h7⟩
     ·rw[h0];exact⟨[],Own.nil _ _ 1,λk hk=>by cases hk⟩
     ·simp only[Wn,Xf] at h7;refine⟨[id],aX ?_ (by omega) rfl,λk hk=>by rw[Wt.1 hk];omega⟩;rw[Wd (by omega)];simp only[Wp,Xt,Xj] at h6;exact h6
    have hZI:∀k∈I',k<Z.length:=hV.lt;obtain⟨I3,k1,k2⟩:=e12 ((Z++AO.row 1 [[AV.mp mi]]::t).set pid (AO.row 2 (rows2.set j [AV.p (PV.int IntKind.i64 f.to),V]))) V ((ab bs b).map (lkM l)) I2 (Wh (by simp;omega)) (λk hk hne _=>by rw[Wd (Ne.symm hne),Wb (hZI k hk)]) hV2 (λk hk=> .inr λhm=>by have:=hI2 k hk;have:=hZI k hm;omega);have hsP:uS L bs b j f=⟨f.to,(ab bs b).map (lkM l)⟩:=(by rw[uS,hl];rfl);rw[hsP] at hst;simp only[Yf,hst] at k1;have hpidI:pid∈I':=e9;have hFl:=hF.1;have hpq:pid≠q:=λe=>(by rw[e,g0] at e4;cases e4);refine⟨⟨j+1,_⟩,⟨by simp only;omega,?_,⟨by simp;have:=hF.1;omega,λk hk hkI=>?_⟩,I3,k1,λk hk=>?_⟩,by simp only;omega,aa (by simp;have:=hF.1;omega) (by simp[below,hwj];omega)⟩
    ·simp only;rw[Wd hpq];exact a0 _
    ·have hkp:pid≠k:=λe=>by
      rcases hI' pid hpidI with h|h
      ·exact hkI (e▸h)
      ·omega
     rw[Wd hkp,Wb (by have:=hF.1;omega)];exact hF.2 k hk hkI
    ·rcases k2 k hk with h|h
     ·exact hI' k h
     ·exact .inr (by have:=hI2 k h;have:=hF.1;omega)
   ·have hc2:x.phis.length<=j:=(by simpa using hc2);rw[jn hc2] at hV;have hse:({x with phis:=x.phis.mapIdx (uS L bs b)}:Bk)=eD L bs b x:=rfl;rw[hse,hms] at hV;simp[];exact⟨⟨b+1,Z⟩,⟨by simp only;omega,g0,hF,I',hV,hI'⟩,by simp only;omega,aa hF.1 (by simp[below,hwb];have:=hF.1;omega)⟩
 ·have hcc:bs.length<=b:=by simpa using hcc
  rw[jn hcc] at hV;simp[];exact⟨g0,I',hV,hI',hF⟩
end
end
section
structure KcP where (q3 k r o m xw T gid n1:Nat)
structure KcD (nb:Nat) (p:KcP) (I:List Nat) (JJ:Nat->List Nat):Prop where
 i:∀j∈I,j≠p.q3/\j≠p.xw/\j≠p.T/\j≠p.k/\j≠p.r/\j≠p.o/\j≠p.m/\j≠1
 j:∀i,i<nb->∀j∈JJ i,j∉I/\j≠p.q3/\j≠p.xw/\j≠p.k/\j≠p.r/\j≠p.o/\j≠p.m/\j≠1
structure KcI (c:Cd) (p:KcP) (X:List AO) (bs:List Bk) (L:Nat->List (List (Int × Int))):Prop where
 x0:X[p.q3]?=some (.row 1 [[.ptr p.k 6 0 0]])
 km:KMm c (KF c) p.k p.r p.o p.m X
 xx:X[p.xw]?=some (.row 3 [[.p (.int .i64 c.params),.p (.int .i64 c.regs),.sl p.gid 5 0 c.blocks.length]])
 x1:X[1]?=some (.row 3 [[.p (.int .i64 0),.p (.int .i64 0),.nils]])
 bl:bs.length=c.blocks.length
 n1:p.n1<=X.length
 t:p.T≠p.q3/\p.T≠p.xw/\p.T≠p.k/\p.T≠p.r/\p.T≠p.o/\p.T≠p.m/\p.T≠1
 own:∃I rows JJ,Own p.n1 X [.sl p.gid 5 0 c.blocks.length] [bkL bs] I/\TabH X p.T c.blocks.length rows L JJ c.blocks.length/\KcD c.blocks.length p I JJ
theorem KMm.frame{c:Cd}{S:KS}{k r o m:Nat}{X Y:List AO}(H:KMm c S k r o m X)(hf:Y[k]?=X[k]?/\Y[r]?=X[r]?/\Y[o]?=X[o]?/\Y[m]?=X[m]?):KMm c S k r o m Y:=
 ⟨by rw[hf.1];exact H.hk,by rw[hf.2.1];exact H.hr,by rw[hf.2.2.1];exact H.ho,by rw[hf.2.2.2];exact H.hm,H.rl,H.ol,H.dj⟩
theorem KcI.upd{c:Cd}{p:KcP}{X Y:List AO}{bs bs2:List Bk}{L L2:Nat->List (List (Int × Int))}{I2:List Nat}{rows2:List (List AV)}{JJ2:Nat->List Nat}(H:KcI c p X bs L)
 (hl:X.length<=Y.length)(hb:bs2.length=bs.length)(hf:∀j,j<X.length->j=p.q3\/j=p.xw\/j=p.k\/j=p.r\/j=p.o\/j=p.m\/j=1->Y[j]?=X[j]?)(ho:Own p.n1 Y [.sl p.gid 5 0 c.blocks.length] [bkL bs2] I2)(ht:TabH Y p.T c.blocks.length rows2 L2 JJ2 c.blocks.length)(hd:KcD c.blocks.length p I2 JJ2):KcI c p Y bs2 L2:=by
 have hkl:=H.km.lt;have g:∀{j:Nat} {x:AO},X[j]?=some x->j=p.q3\/j=p.xw\/j=p.k\/j=p.r\/j=p.o\/j=p.m\/j=1->Y[j]?=some x:=λh h2=>by rw[hf _ (Wa.1 h).1 h2];exact h
 exact⟨g H.x0 (by simp),H.km.frame ⟨hf _ hkl.1 (by simp),hf _ hkl.2.1 (by simp),hf _ hkl.2.2.1 (by simp),hf _ hkl.2.2.2 (by simp)⟩,g H.xx (by simp),g H.x1 (by simp),by rw[hb];exact H.bl,by have:=H.n1;omega,H.t,_,_,_,ho,ht,hd⟩
theorem Ad{c:Cd}{Y1 h2 Y2 Y3 X:List AO}{k r o m T n1 xw q3:Nat}{B:AV}{I:List Nat}(hbl:1<=c.blocks.length)(hk:KMm c (KF c) k r o m Y1)(hP:PhI c h2 T (phF c) Y2)(hC:Own n1 Y3 [B] [bkL c.blocks] I)
 (l12:Y1.length<=h2.length)(l23:Y2.length<=n1)(hn1:n1<=Y3.length)(l3q:Y3.length<=q3)(hxq:xw≠q3)(hr2:2<=k/\2<=r/\2<=o/\2<=m/\2<=xw)
 (e1:∀j,j<Y1.length->j≠xw->X[j]?=Y1[j]?)(e2:∀j,j<Y2.length->j≠xw->X[j]?=Y2[j]?)(e3:∀j,j<Y3.length->j≠xw->X[j]?=Y3[j]?)
 (hx:xw≠k/\xw≠r/\xw≠o/\xw≠m)(hx2:xw<h2.length\/Y2.length<=xw)(hx3:xw<n1\/Y3.length<=xw)
 (g0:X[q3]?=some (.row 1 [[.ptr k 6 0 0]]))(g1:X[xw]?=some (.row 3 [[.p (.int .i64 c.params),.p (.int .i64 c.regs),B]]))(g2:X[1]?=some (.row 3 [[.p (.int .i64 0),.p (.int .i64 0),.nils]])):
 ∃gid,B= .sl gid 5 0 c.blocks.length/\KcI c ⟨q3,k,r,o,m,xw,T,gid,n1⟩ X c.blocks (phF c):=by
 obtain⟨gid,rfl⟩:∃gid,B= .sl gid 5 0 c.blocks.length:=by
  rcases hC.rowAt with⟨h1,h2⟩|⟨gid,_,h1,_⟩
  ·rw[WK.1 h2] at hbl;simp at hbl
  ·exact⟨gid,by rw[h1];simp⟩
 have hkl:=hk.lt;obtain⟨rows,JJ,h1,h3,h4,h5,h6⟩:=hP;have hT:=h1.lt;refine⟨gid,rfl,⟨g0,hk.frame ⟨e1 _ hkl.1 (by omega),e1 _ hkl.2.1 (by omega),e1 _ hkl.2.2.1 (by omega),e1 _ hkl.2.2.2 (by omega)⟩,g1,g2,rfl,?_,⟨by simp only;omega,by simp only;omega,by simp only;omega,by simp only;omega,by simp only;omega,by simp only;omega,by simp only;omega⟩,I,rows,JJ,hC.frame λj hj=>?_,h1.frame (e2 T hT.1 (by omega)) λi hi hq j hj=>?_,λj hj=>?_,λi hi j hj=>?_⟩⟩
 ·have:=(Wa.1 g0).1;simp only;omega
 ·have h7:=hC.lt j hj;have h8:=hC.ge j hj;exact e3 j h7 (by omega)
 ·have h7:=hT.2 i hi hq j hj;have h8:=h4 i hi j hj;exact e2 j h7 (by omega)
 ·have h7:=hC.lt j hj;have h8:=hC.ge j hj;simp only;omega
 ·have h7:=hT.2 i hi (by omega) j hj;have h8:=h4 i hi j hj;refine⟨λhm=>?_,?_⟩
  ·have:=hC.ge j hm;omega
  ·simp only;omega
section
variable (G:aw) {c:Cd} {S:KS} {k r o m:Nat} {X:List AO}
theorem Rp(H:KMm c S k r o m X){q3:Nat}(h3:X[q3]?=some (.row 1 [[.ptr k 6 0 0]])){v:Int}(h0:0<=v)(h1:v<c.regs):AC Tryz.prog G aD [.p (.int .i64 v),.ptr q3 1 0 0] X λz Y=>z= .ret (.tup [.agg [.p (.int .i64 1),.p (.int .i64 v),.nils,.p (.int .i64 (rg S.regs v))],.p (.bool (decide (0<=rg S.regs v)))])/\Y=X:=by
 have hq:v.toNat<S.regs.length:=by rw[H.rl];omega
 have hg:=ip hq;have hge:=λhh=>ag hg hh;have hkl:=H.lt;have hq3:=(Wa.1 h3).1;have ap:∀{k:Nat} {o:AO},X[k]?=some o->∀t,(X++t)[k]?=some o:=λh t=>by rw[Wb (Wa.1 h).1];exact h
 have hk:=ap H.hk;have hr:=ap H.hr;have hx:=ap h3;have hke:=λt hh=>ag (hk t) hh;have hre:=λt hh=>ag (hr t) hh;have hxe:=λt hh=>ag (hx t) hh;have hrl:(ae S.regs).length=c.regs.toNat:=by rw[ae,Wj,H.rl]
 have hmx:max c.regs 0=c.regs:=by omega
 have hrr:v.toNat<c.regs.toNat:=by omega
 refine AC.trim (AC.go td ?_) (by simp[below]);simp[jX,hk,hr,hx,hge,hrl,hmx,h0,h1,hrr]
end
end
section
structure F5S where (i:Nat) (a d w:AV) (X:List AO)
def GeA(n:Nat)(a:AV):Prop:=∀id sz o l,a= .sl id sz o l->n<=id
def kWL(R:List Int)(preds:List Int)(l:List Ph):List (List (Int × Int)):=(aM R l).map λf=>preds.zip f.args
structure F5I (R preds:List Int) (n1:Nat) (X:List AO) (x:Bk) (IP Jb:List Nat) (rows2:List (List AV)) (s:F5S):Prop where
 kp:KpF X s.X
 le:X.length<=s.X.length
 ga:GeA X.length s.a
 gw:GeA X.length s.w
 ex:∃Ia Ib Jr Jw,Own n1 s.X [s.a] [phL (aM R (x.phis.take s.i))] Ia/\Own X.length s.X [s.d] [inL (aB R (x.phis.take s.i))] Ib/\RowM s.X s.w (kWL R preds (x.phis.take s.i)) Jw/\
  (∀j∈Ia,(j∈IP\/X.length<=j)/\j∉Ib/\j∉Jr)/\Own n1 X (rows2.drop s.i).flatten ((x.phis.drop s.i).map Ph.cs).flatten Jr/\(∀j∈Jr,j∈IP)/\(∀j∈Jw,(j∈Jb\/X.length<=j)/\j∉Ia/\j∉Ib)
theorem Psh.fr{H H':List AO}{V V':AV}{sz:Nat}{r:List AV}(hp:Psh H V sz r H' V'):H'.length=H.length+1/\V'= .sl H.length sz 0 (match V with| .sl _ _ _ l=>l+1|_=>1)/\∀j,j<H.length->(∀sz o l,V≠ .sl j sz o l)->H'[j]?=H[j]?:=by
 rcases hp with⟨rfl,rfl,rfl⟩|⟨id,rows,m,rfl,hg,hm,rfl,rfl⟩
 ·exact⟨by simp,rfl,λj hj _=>Wb hj⟩
 ·refine⟨by simp,rfl,λj hj hn=>?_⟩;rw[Wb (by simpa using hj),Wd λe=>hn _ _ _ (by rw[e])]
section
variable {R preds:List Int} {n1:Nat} {X:List AO} {x:Bk} {IP Jb:List Nat} {rows2:List (List AV)} {i:Nat} {a d w a' d' w':AV} {X':List AO}
theorem Cl{l:List Ph}{i:Nat}{f:Ph}(h:l[i]?=some f):aM R (l.take (i+1))=aM R (l.take i)++if 0<=rg R f.to then[] else[f]:=by
 rw[WQ,h,aM,Option.toList_some,Yl,aM];congr 1
 by_cases e:0<=rg R f.to<;>simp[e]
theorem zk{l:List Ph}{i:Nat}{f:Ph}(h:l[i]?=some f):aB R (l.take (i+1))=aB R (l.take i)++if 0<=rg R f.to then[⟨1,f.to,[],rg R f.to⟩] else[]:=by
 rw[WQ,h,aB,Option.toList_some,Yl,WF,aB];congr 1
 by_cases e:0<=rg R f.to<;>simp[e]
theorem F5I.first(H:F5I R preds n1 X x IP Jb rows2 ⟨i,a,d,w,X'⟩)(hn1:n1<=X.length){f:Ph}(hf:x.phis[i]?=some f)(h0:0<=rg R f.to){rf:List AV}(hr2:rows2[i]?=some rf)(hl2:rf.length=2){os H2:List AO}(hp:Psh (X'++os) d 4 [.p (.int .i64 1),.p (.int .i64 f.to),.nils,.p (.int .i64 (rg R f.to))] H2 d'):
 F5I R preds n1 X x IP Jb rows2 ⟨i+1,a,d',w,H2⟩:=by
 obtain⟨Ia,Ib,Jr,Jw,hA,hD,hW,h1,h2,h3,h4⟩:=H.ex;have hkp:=H.kp;have hle:=H.le;simp only at hA hD hW hkp hle h2;have hi:=(Wa.1 hf).1;have hi2:=(Wa.1 hr2).1;obtain⟨p1,p2,p3⟩:=hp.fr;simp only[Wn] at p1 p3;have hLf:=Cl (R:=R) hf;have hFf:=zk (R:=R) hf;rw[Wz h0,WI] at hLf;rw[Wz h0] at hFf
 have hdd:∀j sz o l,d= .sl j sz o l->j∈Ib:=λj sz o l e=>by
  rcases hD.row with⟨h5,_⟩|⟨id,_,J,h5,h6,_⟩
  ·rw[h5] at e;cases e
  ·rw[h5] at e;cases e;rw[h6];simp
 have hdge:∀j sz o l,d= .sl j sz o l->X.length<=j:=λj sz o l e=>hD.ge j (hdd j sz o l e);have hfr:∀j,j<X'.length->j∉Ib->H2[j]?=X'[j]?:=λj hj hn=>by rw[p3 j (by omega) λsz o l e=>hn (hdd j sz o l e),Wb hj]
 have hOR:Own X.length (X'++os) [.p (.int .i64 1),.p (.int .i64 f.to),.nils,.p (.int .i64 (rg R f.to))] (Ii.cs ⟨1,f.to,[],rg R f.to⟩) []:=rz (x:=⟨1,f.to,[],rg R f.to⟩) (Own.nil _ _ 1);obtain⟨IV,k1,k2,_,_⟩:=Own.psh (hD.more os) hOR (λj _ hm=>by cases hm) rfl (by simp;omega) hp;simp only[Wn] at k2;have hIe:inL (aB R (x.phis.take (i+1)))= .lst 4 ((aB R (x.phis.take i)).map Ii.cs++[Ii.cs ⟨1,f.to,[],rg R f.to⟩]):=by rw[hFf,inL,WF];rfl
 have hdr:x.phis.drop i=f::x.phis.drop (i+1):=by rw[Xa hi];rw[Wc hi] at hf;rw[Option.some.inj hf]
 have hdr2:rows2.drop i=rf::rows2.drop (i+1):=by rw[Xa hi2];rw[Wc hi2] at hr2;rw[Option.some.inj hr2]
 obtain⟨u,A,rfl⟩:∃u A,rf=[u,A]:=by
  match rf,hl2 with
  |[u,A],_=>exact⟨u,A,rfl⟩
 rw[hdr2,hdr] at h2;have h2':Own n1 X (u::A::(rows2.drop (i+1)).flatten) (.int .i64 f.to::ah f.args::((x.phis.drop (i+1)).map Ph.cs).flatten) Jr:=h2;obtain⟨us,e0,h2b⟩:=h2'.int;simp only[Yh] at e0;obtain⟨rfl,rfl⟩:=e0;obtain⟨A',us',IA,Jr',e0,rfl,hAo,h2c⟩:=h2b.one;simp only[Yh] at e0;obtain⟨rfl,rfl⟩:=e0;refine⟨λj hj=>?_,by simp only;omega,H.ga,H.gw,Ia,IV,Jr',Jw,?_,?_,?_,λj hj=>?_,h2c,λj hj=>h3 j (by simp[hj]),λj hj=>?_⟩
 ·simp only;rw[p3 j (by omega) λsz o l e=>by have:=hdge j sz o l e;omega,Wb (by omega)];exact hkp j hj
 ·simp only;rw[hLf];exact hA.frame λj hj=>hfr j (hA.lt j hj) (h1 j hj).2.1
 ·simp only;rw[hIe];exact k1
 ·have:kWL R preds (x.phis.take (i+1))=kWL R preds (x.phis.take i):=by rw[kWL,hLf,kWL]
  simp only;rw[this];exact hW.frame λj hj=>hfr j (hW.lt j hj) (h4 j hj).2.2
 ·obtain⟨g1,g2,g3⟩:=h1 j hj;refine⟨g1,λhm=>?_,λhm=>g3 (by simp[hm])⟩;have:=hA.lt j hj;rcases k2 j hm with h5|h5|h5
  ·exact g2 h5
  ·cases h5
  ·omega
 ·obtain⟨g1,g2,g3⟩:=h4 j hj;refine⟨g1,g2,λhm=>?_⟩;have:=hW.lt j hj;rcases k2 j hm with h5|h5|h5
  ·exact g3 h5
  ·cases h5
  ·omega
theorem F5I.keep(H:F5I R preds n1 X x IP Jb rows2 ⟨i,a,d,w,X'⟩)(hn1:n1<=X.length){f:Ph}(hf:x.phis[i]?=some f)(h0:¬0<=rg R f.to){u A:AV}(hr2:rows2[i]?=some [u,A]){os os2 H2 H4:List AO}{mi:Nat}(hp:Psh (X'++os) a 2 [.p (.int .i64 f.to),A] H2 a')(hp2:Psh (H2++os2) w 1 [.mp mi] H4 w')
 (hIP:∀j∈IP,j<X.length/\j∉Jb)(hmi:mi∈Jb)(hmx:X[mi]?=some (.mp (mqE (preds.zip f.args)))):
 F5I R preds n1 X x IP Jb rows2 ⟨i+1,a',d,w',H4⟩:=by
 obtain⟨Ia,Ib,Jr,Jw,hA,hD,hW,h1,h2,h3,h4⟩:=H.ex;have hkp:=H.kp;have hle:=H.le;have hga:=H.ga;have hgw:=H.gw;simp only at hA hD hW hkp hle h2 hga hgw;have hi:=(Wa.1 hf).1;have hi2:=(Wa.1 hr2).1;obtain⟨p1,p2,p3⟩:=hp.fr;obtain⟨s1,s2,s3⟩:=hp2.fr;simp only[Wn] at p1 p2 p3 s1 s2 s3;have hLf:=Cl (R:=R) hf;have hFf:=zk (R:=R) hf;rw[WB h0] at hLf;rw[WB h0,WI] at hFf;have hml:=(Wa.1 hmx).1
 have haa:∀j sz o l,a= .sl j sz o l->j∈Ia:=λj sz o l e=>by
  rcases hA.row with⟨h5,_⟩|⟨id,_,J,h5,h6,_⟩
  ·rw[h5] at e;cases e
  ·rw[h5] at e;cases e;rw[h6];simp
 have hww:∀j sz o l,w= .sl j sz o l->j∈Jw:=λj sz o l e=>by
  rcases hW with⟨h5,_⟩|⟨jd,ids,h5,h6,_⟩
  ·rw[h5] at e;cases e
  ·rw[h5] at e;cases e;rw[h6];simp
 have hf1:∀j,j<X'.length->j∉Ia->H2[j]?=X'[j]?:=λj hj hn=>by rw[p3 j (by omega) λsz o l e=>hn (haa j sz o l e),Wb hj]
 have hf2:∀j,j<H2.length->j∉Jw->H4[j]?=H2[j]?:=λj hj hn=>by rw[s3 j (by omega) λsz o l e=>hn (hww j sz o l e),Wb hj]
 have hdr:x.phis.drop i=f::x.phis.drop (i+1):=by rw[Xa hi];rw[Wc hi] at hf;rw[Option.some.inj hf]
 have hdr2:rows2.drop i=[u,A]::rows2.drop (i+1):=by rw[Xa hi2];rw[Wc hi2] at hr2;rw[Option.some.inj hr2]
 rw[hdr2,hdr] at h2;have h2':Own n1 X (u::A::(rows2.drop (i+1)).flatten) (.int .i64 f.to::ah f.args::((x.phis.drop (i+1)).map Ph.cs).flatten) Jr:=h2;obtain⟨us,e0,h2b⟩:=h2'.int;simp only[Yh] at e0;obtain⟨rfl,rfl⟩:=e0;obtain⟨A',us',IA,Jr',e0,rfl,hAo,h2c⟩:=h2b.one;simp only[Yh] at e0;obtain⟨rfl,rfl⟩:=e0;have hndJ:=WG.1 h2b.nd;have hAo':Own n1 (X'++os) [A] [ah f.args] IA:=(hAo.frame λj hj=>hkp j (hAo.lt j hj)).more _;obtain⟨IV,k1,k2,_,_⟩:=Own.psh (hA.more os) (hAo'.putI f.to) (λj hj hm=>(h1 j hj).2.2 (by simp[hm])) rfl (by simp;omega) hp;simp only[Wn] at k2;have hIe:phL (aM R (x.phis.take (i+1)))= .lst 2 ((aM R (x.phis.take i)).map Ph.cs++[[.int .i64 f.to,ah f.args]]):=by rw[hLf,phL,WF];rfl
 have hWe:kWL R preds (x.phis.take (i+1))=kWL R preds (x.phis.take i)++[preds.zip f.args]:=by rw[kWL,hLf,WF,kWL];rfl
 have hW2:RowM H2 w (kWL R preds (x.phis.take i)) Jw:=hW.frame λj hj=>hf1 j (hW.lt j hj) (h4 j hj).2.1
 have hmIa:mi∉Ia:=λhm=>by
  rcases(h1 mi hm).1 with h5|h5
  ·exact(hIP mi h5).2 hmi
  ·omega
 have hm2:(H2++os2)[mi]?=some (.mp (mqE (preds.zip f.args))):=by rw[Wb (by omega),hf1 mi (by omega) hmIa,hkp mi hml];exact hmx
 obtain⟨Jw',r1,r2,r3,r4,r5⟩:=(hW2.app os2).push hm2 hp2;simp only[Wn] at r2;have hWlt:=hW.lt;have hAlt:=hA.lt;have hDlt:=hD.lt
 have hIVJw:∀j∈IV,j∉Jw:=λj hj hm=>by
  rcases k2 j hj with h5|h5|h5
  ·exact(h4 j hm).2.1 h5
  ·rcases(h4 j hm).1 with h6|h6
   ·exact(hIP j (h3 j (by simp[h5]))).2 h6
   ·have:=hAo.lt j h5;omega
  ·have:=hWlt j hm;omega
 refine⟨λj hj=>?_,by simp only;omega,λid sz o l e=>?_,λid sz o l e=>?_,IV,Ib,Jr',Jw',?_,?_,?_,λj hj=>?_,h2c,λj hj=>h3 j (by simp[hj]),λj hj=>?_⟩
 ·simp only;rw[s3 j (by omega) λsz o l e=>by have:=hgw j sz o l e;omega,Wb (by omega),p3 j (by omega) λsz o l e=>by have:=hga j sz o l e;omega,Wb (by omega)];exact hkp j hj
 ·simp only at e;rw[p2] at e;cases e;omega
 ·simp only at e;rw[s2] at e;cases e;omega
 ·simp only;rw[hIe];exact k1.frame λj hj=>hf2 j (k1.lt j hj) (hIVJw j hj)
 ·simp only;rw[hFf];refine hD.frame λj hj=>?_;have hjl:=hDlt j hj;rw[hf2 j (by omega) λhm=>(h4 j hm).2.2 hj];exact hf1 j hjl λhm=>(h1 j hm).2.1 hj
 ·simp only;rw[hWe];exact r1
 ·rcases k2 j hj with h5|h5|h5
  ·obtain⟨d1,d2,d3⟩:=h1 j h5;exact⟨d1,d2,λhm=>d3 (by simp[hm])⟩
  ·refine⟨.inl (h3 j (by simp[h5])),λhm=>?_,λhm=>hndJ.2.2 j h5 j hm rfl⟩;have:=hD.ge j hm;have:=hAo.lt j h5;omega
  ·refine⟨.inr (by omega),λhm=>?_,λhm=>?_⟩
   ·have:=hDlt j hm;omega
   ·have:=h2c.lt j hm;omega
 ·rcases r2 j hj with h5|h5|h5
  ·obtain⟨d1,d2,d3⟩:=h4 j h5;exact⟨d1,λhm=>hIVJw j hm h5,d3⟩
  ·subst h5;refine⟨.inl hmi,λhm=>?_,λhm=>?_⟩
   ·rcases k2 j hm with h6|h6|h6
    ·exact hmIa h6
    ·exact(hIP j (h3 j (by simp[h6]))).2 hmi
    ·omega
   ·have:=hD.ge j hm;omega
  ·refine⟨.inr (by omega),λhm=>?_,λhm=>?_⟩
   ·have:=k1.lt j hm;omega
   ·have:=hDlt j hm;omega
end
end
section
theorem NQ{c:Cd}{p:KcP}{X Y:List AO}{bs:List Bk}{L:Nat->List (List (Int × Int))}{I:List Nat}{rows:List (List AV)}{JJ:Nat->List Nat}{b:Nat}{y z:Bk}{rows5:List (List AV)}{a V w Q:AV}{IP IN IQ Ia IV Jw:List Nat}{l:List (List (Int × Int))}
 (H:KcI c p X bs L)(hV:Own p.n1 X [.sl p.gid 5 0 c.blocks.length] [bkL bs] I)(hT:TabH X p.T c.blocks.length rows L JJ c.blocks.length)(hD:KcD c.blocks.length p I JJ)(hbb:b<c.blocks.length)(hr5:b<rows5.length)
 (hgid:p.gid∈I)(e7:∀j∈IP++(IN++IQ),j∈I/\j≠p.gid)(nd:(IP++(IN++IQ)).Nodup)
 (e8:∀(h2:List AO) (r':List AV) (b':Bk) (I2:List Nat),h2[p.gid]?=some (.row 5 (rows5.set b r'))->(∀j∈I,j≠p.gid->j∉IP++(IN++IQ)->h2[j]?=X[j]?)->Own p.n1 h2 r' b'.cs I2->(∀j∈I2,j∈IP++(IN++IQ)\/j∉I)->∃I',Own p.n1 h2 [.sl p.gid 5 0 c.blocks.length] [bkL (bs.set b b')] I'/\∀j∈I',j∈I\/j∈I2)
 (hQ:Own p.n1 X [Q] [ah y.next] IQ)(hz:z.jump=y.jump/\z.on=y.on/\z.next=y.next)
 (hl:X.length<=Y.length)(g5:Y[p.gid]?=some (.row 5 (rows5.set b [a,V,.p (.int .i64 y.jump),.p (.int .i64 y.on),Q])))(gT:Y[p.T]?=some (.row 1 (rows.set b [w])))
 (hf:∀j,j<X.length->j≠p.gid->j≠p.T->j∉IN->Y[j]?=X[j]?)
 (hA:Own p.n1 Y [a] [phL z.phis] Ia)(hIa:∀j∈Ia,j∈IP\/X.length<=j)(hN:Own p.n1 Y [V] [inL z.ins] IV)(hIV:∀j∈IV,j∈IN\/X.length<=j)(hW:RowM Y w l Jw)(hJw:∀j∈Jw,j∈JJ b\/X.length<=j)
 (d1:∀j∈Ia,j∉IV)(d2:∀j∈Jw,j∉Ia)(d3:∀j∈Jw,j∉IV):
 KcI c p Y (bs.set b z) (λi=>if i=b then l else L i):=by
 have hlt:=hV.lt;have hTl:=hT.lt;have hKl:=H.km.lt;have ndd:=WG.1 nd;have ndd2:=WG.1 ndd.2.1;have hTI:p.T∉I:=λhm=>(hD.i _ hm).2.2.1 rfl;have hgT:p.gid≠p.T:=(hD.i _ hgid).2.2.1
 have hQf:Own p.n1 Y [Q] [ah y.next] IQ:=hQ.frame λj hj=>by
  have h7:=e7 j (by simp[hj]);exact hf j (hlt j h7.1) h7.2 (hD.i j h7.1).2.2.1 λhm=>ndd2.2.2 j hm j hj rfl
 have hdQ:∀j∈IQ,j∈I/\j<X.length/\j∉IP/\j∉IN:=λj hj=>⟨(e7 j (by simp[hj])).1,hlt j (e7 j (by simp[hj])).1,λhm=>ndd.2.2 j hm j (by simp[hj]) rfl,λhm=>ndd2.2.2 j hm j hj rfl⟩
 have hbk:Own p.n1 Y [a,V,.p (.int .i64 y.jump),.p (.int .i64 y.on),Q] z.cs (Ia++(IV++IQ)):=by
  have:=gX (b:=z) (P:=a) (N:=V) (X:=Q) hA hN (by rw[hz.2.2];exact hQf) (λj hj=>⟨d1 j hj,λhm=>by
   have h1:=hdQ j hm;rcases hIa j hj with h2|h2
   ·exact h1.2.2.1 h2
   ·omega⟩) (λj hj hm=>by
   have h1:=hdQ j hm;rcases hIV j hj with h2|h2
   ·exact h1.2.2.2 h2
   ·omega)
  rw[hz.1,hz.2.1] at this;exact this
 obtain⟨I2,k1,k2⟩:=e8 Y _ z _ g5 (λj hj hne hnj=>hf j (hlt j hj) hne (λe=>hTI (by rw[←e];exact hj)) λhm=>hnj (by simp[hm])) hbk (λj hj=>by
  simp only[Ws] at hj;rcases hj with h1|h1|h1
  ·rcases hIa j h1 with h2|h2
   ·exact .inl (by simp[h2])
   ·exact .inr λhm=>by have:=hlt j hm;omega
  ·rcases hIV j h1 with h2|h2
   ·exact .inl (by simp[h2])
   ·exact .inr λhm=>by have:=hlt j hm;omega
  ·exact .inl (by simp[h1]))
 have hI2:∀j∈I2,j∈I\/(X.length<=j/\(j∈Ia\/j∈IV)):=λj hj=>by
  rcases k2 j hj with h1|h1
  ·exact .inl h1
  ·simp only[Ws] at h1;rcases h1 with h1|h1|h1
   ·rcases hIa j h1 with h2|h2
    ·exact .inl (e7 j (by simp[h2])).1
    ·exact .inr ⟨h2,.inl h1⟩
   ·rcases hIV j h1 with h2|h2
    ·exact .inl (e7 j (by simp[h2])).1
    ·exact .inr ⟨h2,.inr h1⟩
   ·exact .inl (hdQ j h1).1
 have hJf:∀i,i<c.blocks.length->∀j∈JJ i,Y[j]?=X[j]?:=λi hi j hj=>by
  have h1:=(hD.j i hi j hj).1;exact hf j (hTl.2 i hi (by omega) j hj) (λe=>h1 (by rw[e];exact hgid)) (λe=>hT.nT i hi (by omega) (by rw[←e];exact hj)) λhm=>h1 (e7 j (by simp[hm])).1
 have hTab:TabH Y p.T c.blocks.length (rows.set b [w]) (λi=>if i=b then l else L i) (λi=>if i=b then Jw else JJ i) c.blocks.length:=by
  have hrl:=hT.rl;have hJb:∀j∈Jw,j∈JJ b\/X.length<=j:=hJw;refine⟨gT,by rw[Wy,hrl],λi hi=>?_,λi A hi _ hA=>?_,λi hi _=>?_,λi i' hi hi' _ _ hne j hj=>?_⟩
  ·rw[Xu]
   by_cases e:b=i
   ·rw[Wz e,Wz (by omega)];exact⟨_,rfl⟩
   ·rw[WB e];exact hT.r1 i hi
  ·rw[Xu] at hA
   by_cases e:b=i
   ·rw[Wz e,Wz (by omega)] at hA;cases hA;subst e;simp only[if_true];exact hW
   ·rw[WB e] at hA;have e':¬i=b:=λx=>e x.symm;simp only[WB e'];exact(hT.rw i A hi (by omega) hA).frame (hJf i hi)
  ·by_cases e:i=b
   ·simp only[Wz e];intro hm;rcases hJb _ hm with h1|h1
    ·exact hT.nT b hbb (by omega) h1
    ·have:=hTl.1;omega
   ·simp only[WB e];exact hT.nT i hi (by omega)
  ·by_cases e:i=b
   ·have e2:¬i'=b:=λx=>hne (by rw[e,x]);simp only[Wz e] at hj;simp only[WB e2];intro hm;rcases hJb j hj with h1|h1
    ·exact hT.dj b i' hbb hi' (by omega) (by omega) (λx=>e2 x.symm) j h1 hm
    ·have:=hTl.2 i' hi' (by omega) j hm;omega
   ·simp only[WB e] at hj
    by_cases e2:i'=b
    ·simp only[Wz e2];intro hm;rcases hJb j hm with h1|h1
     ·exact hT.dj i b hi hbb (by omega) (by omega) e j hj h1
     ·have:=hTl.2 i hi (by omega) j hj;omega
    ·simp only[WB e2];exact hT.dj i i' hi hi' (by omega) (by omega) hne j hj
 have hXl0:∀j,X.length<=j->j≠p.q3/\j≠p.xw/\j≠p.T/\j≠p.k/\j≠p.r/\j≠p.o/\j≠p.m/\j≠1:=λj hj=>by
  have h1:=(Wa.1 H.x0).1;have h2:=(Wa.1 H.xx).1;have h3:=(Wa.1 H.x1).1;have:=hTl.1;omega
 have hIn:∀j∈IN,j∈I:=λj hj=>(e7 j (by simp[hj])).1;refine H.upd hl (by simp) (λj hj hj2=>?_) k1 hTab ⟨λj hj=>?_,λi hi j hj=>?_⟩
 ·have hnI:j∉I:=λhm=>by
   have:=hD.i j hm;omega
  have ht:=H.t;exact hf j hj (λe=>hnI (by rw[e];exact hgid)) (λe=>by omega) λhm=>hnI (hIn j hm)
 ·rcases hI2 j hj with h1|⟨h1,_⟩
  ·exact hD.i j h1
  ·exact hXl0 j h1
 ·by_cases e:i=b
  ·simp only[Wz e] at hj;rcases hJw j hj with h1|h1
   ·have h3:=hD.j b hbb j h1;refine⟨λhm=>?_,h3.2⟩;rcases hI2 j hm with h4|⟨h4,_⟩
    ·exact h3.1 h4
    ·have:=hTl.2 b hbb (by omega) j h1;omega
   ·refine⟨λhm=>?_,by have:=hXl0 j h1;exact⟨this.1,this.2.1,this.2.2.2.1,this.2.2.2.2.1,this.2.2.2.2.2.1,this.2.2.2.2.2.2.1,this.2.2.2.2.2.2.2⟩⟩;rcases hI2 j hm with h4|⟨_,h4|h4⟩
    ·have:=hlt j h4;omega
    ·exact d2 j hj h4
    ·exact d3 j hj h4
  ·simp only[WB e] at hj;have h3:=hD.j i hi j hj;refine⟨λhm=>?_,h3.2⟩;rcases hI2 j hm with h4|⟨h4,_⟩
   ·exact h3.1 h4
   ·have:=hTl.2 i hi (by omega) j hj;omega
end
section
theorem RowM.pshA{H:List AO}{A:AV}{l:List (List (Int × Int))}{J:List Nat}(h:RowM H A l J)(mi:Nat)(hb:l.length+1<=2000000000):
 Cp H 1 8 (some [[.mp mi]]) A=some (.sl H.length 1 0 (LU A),kU H 1 [.mp mi] A)/\Psh H A 1 [.mp mi] (kU H 1 [.mp mi] A) (.sl H.length 1 0 (LU A)):=
 JP (m:=l.length) (by
  rcases h with⟨rfl,rfl,_⟩|⟨jd,ids,rfl,_,hg,hl,_⟩
  ·exact .inl ⟨rfl,rfl⟩
  ·exact .inr ⟨jd,_,rfl,hg,by rw[gr,Wj];exact hl⟩) _ (by omega)
end
section
def lL(R:List Int)(_:Nat)(x:Bk):Bk:={bE R x with phis:=aM R x.phis,ins:=aB R x.phis++x.ins.map (putI R)}
def phK(R:List Int)(c:Cd)(b:Nat):List (List (Int × Int)):=match c.blocks[b]? with|some x=>kWL R (ab c.blocks b) x.phis|none=>[]
theorem BH(e:Int × Int)(l:List (Int × Int))(p:Int):lkM (e::l) p=if p=e.1 then e.2 else lkM l p:=by
 simp only[lkM,ZQ]
 by_cases h:p=e.1<;>simp[h]
theorem EF{p to:Int}:∀(preds args:List Int),args.length=preds.length->p∈preds->lkM (preds.zip args) p=nE preds ⟨to,args⟩ p
 |[],_,_,h=>by cases h
 |q::qs,[],h,_=>by cases h
 |q::qs,a::l2,hl,hm=>by
  rw[ZC,BH];simp only[nE,List.findIdx?_cons]
  by_cases h:p=q
  ·simp[h]
  ·have h':¬q=p:=λe=>h e.symm
   have hm2:p∈qs:=by
    rcases WE.1 hm with e|e
    ·exact absurd e h
    ·exact e
   have ih:=EF (to:=to) qs l2 (by simpa using hl) hm2;rw[WB h,ih];simp only[nE,h',decide_false,Ye,if_false]
   have hs:(qs.findIdx? λq=>decide (q=p)).isSome:=by rw[List.findIdx?_isSome,List.any_eq_true];exact⟨p,hm2,by simp⟩
   obtain⟨k,hk⟩:=YT.1 hs;rw[hk];simp
theorem Ob(R:List Int)(bs:List Bk):(bs.mapIdx (lL R)).map Bk.next=(bs.map (bE R)).map Bk.next:=by
 refine WT λi=>?_;rw[Wl,WH,Wl,Wl];cases bs[i]?<;>rfl
theorem Np{c:Cd}(h:CdA c)(R:List Int):(c.blocks.mapIdx (lL R)).mapIdx (eD (phK R c) (c.blocks.mapIdx (lL R)))=(iw R c).blocks:=by
 show _=c.blocks.mapIdx (Dd R c.blocks);refine WT λb=>?_;rw[WH,WH,WH];cases hb:c.blocks[b]? with
 |none=>rfl
 |some x=>
  simp only[Xx,WO];have hpk:phK R c b=kWL R (ab c.blocks b) x.phis:=by rw[phK,hb]
  have hm:(lL R b x).phis=aM R x.phis:=rfl
  have:(aM R x.phis).mapIdx (uS (phK R c) (c.blocks.mapIdx (lL R)) b)=(aM R x.phis).map (bD (ab c.blocks b) (ab (c.blocks.map (bE R)) b)):=by
   refine WT λj=>?_;rw[WH,Wl];cases hj:(aM R x.phis)[j]? with
   |none=>rfl
   |some f=>
    simp only[Xx,WO,uS,bD,Ph.mk.injEq,true_and];have hfm:f∈x.phis:=(WM.1 (Wq hj)).1;have hlk:(phK R c b)[j]?.getD []=(ab c.blocks b).zip f.args:=(by rw[hpk,kWL,Wl,hj];rfl);rw[iq (Ob R c.blocks),hlk];refine WY λp hp=>EF _ _ (h.v.pa b x hb f hfm).1 ?_;have:=DC h R b;rw[fx] at this;exact this p hp
  rw[eD,hm,this];rfl
end
section
theorem KcI.lt{c:Cd}{p:KcP}{X:List AO}{bs:List Bk}{L:Nat->List (List (Int × Int))}(H:KcI c p X bs L):p.q3<X.length/\p.xw<X.length/\p.T<X.length/\1<X.length/\p.k<X.length/\p.r<X.length:=by
 obtain⟨_,_,_,_,h1,_⟩:=H.own;exact⟨(Wa.1 H.x0).1,(Wa.1 H.xx).1,h1.lt.1,(Wa.1 H.x1).1,H.km.lt.1,H.km.lt.2.1⟩
structure KcS where (p:KcP) (X:List AO)
theorem vu:AK.whole gP=FK.ak gM:=rfl
variable (G:aw)
theorem Fy(hRO:∀c':Cd,DrpC c'->AC Tryz.prog G cL [.agg (c'.cs.map .p)] [] (OwW .agg (jh c' (oA c'.blocks)).cs))(c:Cd)(h:CdA c)(hk:KFit c):AC Tryz.prog G dO [.agg (c.cs.map .p)] [] (OwW .agg (mh c).cs):=by
 have hcs:=c.cs_eq2;have hbl:bkL c.blocks= .lst 5 (c.blocks.map Bk.cs):=rfl;have hv:=h.v;have hf:=h.fit;have hc:CBd c:=⟨hf.1,λx hx=>(hf.2 x hx).next⟩;have h160:=hv.b160;have hb1:=hv.bl;have hCl:=λX:List AO=>AC.ownLift G bC (Gt G c hf) (h:=X) (by simp[hcs,below]);have hKo:=λX:List AO=>Mq (h:=X) G c hk hv hf;have hdr:DrpC c:=⟨hb1,h160,h.smx,λb x hx t ht=>by have:=hv.nx b x hx t ht;omega,λb x hx f hf=>(hv.pa b x hx f hf).1⟩;have hPo:=λX:List AO=>Gr (h:=X) G c hdr hf;rw[hcs,hbl] at hCl hKo hPo;obtain⟨RC,hRC⟩:∃RC,RC=AO.row 3 [[.p (.int .i64 c.params),.p (.int .i64 c.regs),.p (.lst 5 (c.blocks.map Bk.cs))]]:=⟨_,rfl⟩;refine AC.goK uZ vu ?_;simp-implicitDefEqProofs[gP,gM,hcs,hbl];refine dc (λa:KcS=>aj 179 [(5,.ptr a.p.xw 3 0 0),(4,.sl a.p.T 1 0 c.blocks.length),(3,.ptr a.p.q3 1 0 0),(2,.ptr 1 3 0 0)]) (λa=>a.X) (λa=>KcI c a.p a.X c.blocks (phF c)) ?_ ?_
 ·simp-implicitDefEqProofs[];refine⟨(hKo _).mono ?_,?_⟩
  ·rintro z Y1 ⟨k,r,o,m,rfl,hK1,q1,q2,q3,q4,q5,q6⟩;simp only[WC,WL] at q1 q2 q3 q4 q5;simp only at hK1 q6;have u0:Y1[0]?=some RC:=(q6 0 (by simp)).trans (by rw[hRC];rfl);have u1:Y1[1]?=some (.row 3 [[.p (.int .i64 0),.p (.int .i64 0),.nils]]):=(q6 1 (by simp)).trans rfl;have u0c:∀t,(Y1++t)[0]?=some (.row 3 [[.p (.int .i64 c.params),.p (.int .i64 c.regs),.p (.lst 5 (c.blocks.map Bk.cs))]]):=λt=>by rw[Wb (by omega),u0,hRC]
   have u0d:=u0c [];rw[WI] at u0d;have u0e:=λt hh=>ag (u0c t) hh;have u0f:=λhh=>ag u0d hh;simp-implicitDefEqProofs[u0e,u0d];refine⟨(hPo _).mono ?_,?_⟩
   ·rintro z Y2 ⟨T,rfl,hP2⟩;have hP2':=hP2;obtain⟨_,_,_,p1,_,p4,p5⟩:=hP2;have v0:Y2[0]?=some RC:=(p4 0 (by omega)).trans u0;have v1:Y2[1]?=some (.row 3 [[.p (.int .i64 0),.p (.int .i64 0),.nils]]):=(p4 1 (by omega)).trans u1;have v0c:∀t,(Y2++t)[0]?=some (.row 3 [[.p (.int .i64 c.params),.p (.int .i64 c.regs),.p (.lst 5 (c.blocks.map Bk.cs))]]):=λt=>(by rw[Wb (by omega),v0,hRC]);have v0d:=v0c [];rw[WI] at v0d;have v0e:=λt hh=>ag (v0c t) hh;have v0f:=λhh=>ag v0d hh;simp-implicitDefEqProofs[v0e,v0d];refine⟨(hCl _).mono ?_,(hCl _).mono ?_⟩
    ·rintro z W ⟨vs,I,os,rfl,rfl,hO⟩;obtain⟨B,rfl,hB⟩:=jG hO;obtain⟨b1,b2⟩:=hB.cell;simp-implicitDefEqProofs[-AV.cells,-AV.isCell,az,ET,aO,tj,b2,v0c]
     obtain⟨gid,rfl,hI⟩:=Ad (X:=Y2++(os++[AO.row 3 [[.p (.int .i64 c.params),.p (.int .i64 c.regs),B]],.row 1 [[.ptr k 6 0 0]]])) (xw:=Y2.length+os.length) (q3:=Y2.length+os.length+1) hb1 hK1 hP2' hB (Wo _) (Wo _) (by simp) (by simp) (by omega) (by omega)
      (λj hj _=>by rw[Wb (by omega)];exact p4 j hj) (λj hj _=>Wb hj) (λj hj _=>by rw[←Wp,Wb hj]) (by have:=hK1.lt;omega) (.inr (by omega)) (.inr (by simp))
      (by rw[←Wp,Wg (by simp)];simp) (by rw[←Wp,Wg (by simp)];simp) (by rw[Wb (by omega)];exact v1)
     exact⟨⟨_,_⟩,hI,aa (We _) (by simp[below];have:=hP2'.lt;omega)⟩
    ·rintro z W ⟨vs,I,os,rfl,rfl,hO⟩;obtain⟨B,rfl,hB⟩:=jG hO;obtain⟨b1,b2⟩:=hB.cell;simp only[Wp,Xt,Xj] at hB⊢;simp-implicitDefEqProofs[-AV.cells,-AV.isCell,az,ET,aO,tj,b2]
     obtain⟨gid,rfl,hI⟩:=Ad (X:=Y2++AO.row 3 [[.p (.int .i64 c.params),.p (.int .i64 c.regs),B]]::(os++[.row 1 [[.ptr k 6 0 0]]])) (xw:=Y2.length) (q3:=Y2.length+os.length+1) hb1 hK1 hP2' hB (Wo _) (by simp) (by simp) (by simp;omega) (by omega) (by omega)
      (λj hj _=>by rw[Wb (by omega)];exact p4 j hj) (λj hj _=>Wb hj) (λj hj hne=>by
        by_cases hjl:j<Y2.length
        ·rw[Wb hjl,Wb hjl]
        ·rw[Wg (by omega),Wg (by omega)];obtain⟨i,hi⟩:∃i,j-Y2.length=i+1:=⟨j-Y2.length-1,by omega⟩;rw[hi,Ya,Ya,Wb (by simp at hj;omega)]) (by have:=hK1.lt;omega) (.inr (by omega)) (.inl (by simp))
      (by rw[Wg (by omega),show Y2.length+os.length+1-Y2.length=os.length+1 by omega,Ya];simp) (by simp) (by rw[Wb (by omega)];exact v1)
     exact⟨⟨_,_⟩,hI,aa (We _) (by simp[below];have:=hP2'.lt;omega)⟩
   ·refine(hPo _).mono ?_;rintro z Y2 ⟨T,rfl,hP2⟩;have hP2':=hP2;obtain⟨_,_,_,p1,_,p4,p5⟩:=hP2;simp only[Wn,Xf] at p1 p5;have p4':∀j,j<Y1.length->Y2[j]?=Y1[j]?:=λj hj=>(p4 j (by simp;omega)).trans (Wb hj);have v0:Y2[0]?=some RC:=(p4' 0 (by omega)).trans u0;have v1:Y2[1]?=some (.row 3 [[.p (.int .i64 0),.p (.int .i64 0),.nils]]):=(p4' 1 (by omega)).trans u1;have vx:Y2[Y1.length]?=some (.row 3 [[.p (.int .i64 0),.p (.int .i64 0),.nils]]):=(p4 _ (by simp)).trans (by simp);have v0c:∀t,(Y2++t)[0]?=some (.row 3 [[.p (.int .i64 c.params),.p (.int .i64 c.regs),.p (.lst 5 (c.blocks.map Bk.cs))]]):=λt=>(by rw[Wb (by omega),v0,hRC]);have v0d:=v0c [];rw[WI] at v0d;have v0e:=λt hh=>ag (v0c t) hh;have v0f:=λhh=>ag v0d hh;simp-implicitDefEqProofs[v0d];refine(hCl _).mono ?_;rintro z W ⟨vs,I,os,rfl,rfl,hO⟩;obtain⟨B,rfl,hB⟩:=jG hO;obtain⟨b1,b2⟩:=hB.cell;have vxc:∀t,(Y2++t)[Y1.length]?=some (.row 3 [[.p (.int .i64 0),.p (.int .i64 0),.nils]]):=λt=>(by rw[Wb (by omega)];exact vx);have vxe:=λt hh=>ag (vxc t) hh;simp-implicitDefEqProofs[-AV.cells,-AV.isCell,az,ET,aO,tj,b2,vxc]
    obtain⟨gid,rfl,hI⟩:=Ad (X:=(Y2++(os++[AO.row 1 [[.ptr k 6 0 0]]])).set Y1.length (.row 3 [[.p (.int .i64 c.params),.p (.int .i64 c.regs),B]])) (xw:=Y1.length) (q3:=Y2.length+os.length) hb1 hK1 hP2' hB (by simp) (Wo _) (by simp) (by simp) (by omega) (by omega)
     (λj hj hne=>by rw[Wd (Ne.symm hne),Wb (by omega)];exact p4' j hj) (λj hj hne=>by rw[Wd (Ne.symm hne),Wb hj]) (λj hj hne=>by rw[Wd (Ne.symm hne),←Wp,Wb hj]) (by have:=hK1.lt;omega) (.inl (by simp)) (.inl (by omega))
     (by rw[Wd (by omega),←Wp,Wg (by simp)];simp) (by rw[Wh (by simp;omega)]) (by rw[Wd (by omega),Wb (by omega)];exact v1)
    exact⟨⟨_,_⟩,hI,aa (We _) (by simp[below];have:=hP2'.lt;omega)⟩
  ·refine(hKo _).mono ?_;rintro z Y1 ⟨k,r,o,m,rfl,hK1,q1,q2,q3,q4,q5,q6⟩;simp only[WC,WL] at q1 q2 q3 q4 q5;simp only at hK1 q6;have u0:Y1[0]?=some RC:=(q6 0 (by simp)).trans (by rw[hRC];rfl);have u1:Y1[1]?=some (.row 3 [[.p (.int .i64 0),.p (.int .i64 0),.nils]]):=(q6 1 (by simp)).trans rfl;have ux:Y1[2]?=some (.row 3 [[.p (.int .i64 0),.p (.int .i64 0),.nils]]):=(q6 2 (by simp)).trans rfl;have u0c:∀t,(Y1++t)[0]?=some (.row 3 [[.p (.int .i64 c.params),.p (.int .i64 c.regs),.p (.lst 5 (c.blocks.map Bk.cs))]]):=λt=>by rw[Wb (by omega),u0,hRC]
   have u0d:=u0c [];rw[WI] at u0d;have u0e:=λt hh=>ag (u0c t) hh;have u0f:=λhh=>ag u0d hh;simp-implicitDefEqProofs[u0d];refine(hPo _).mono ?_;rintro z Y2 ⟨T,rfl,hP2⟩;have hP2':=hP2;obtain⟨_,_,_,p1,_,p4,p5⟩:=hP2;have v0:Y2[0]?=some RC:=(p4 0 (by omega)).trans u0;have v1:Y2[1]?=some (.row 3 [[.p (.int .i64 0),.p (.int .i64 0),.nils]]):=(p4 1 (by omega)).trans u1;have vx:Y2[2]?=some (.row 3 [[.p (.int .i64 0),.p (.int .i64 0),.nils]]):=(p4 2 (by omega)).trans ux;have v0c:∀t,(Y2++t)[0]?=some (.row 3 [[.p (.int .i64 c.params),.p (.int .i64 c.regs),.p (.lst 5 (c.blocks.map Bk.cs))]]):=λt=>(by rw[Wb (by omega),v0,hRC]);have v0d:=v0c [];rw[WI] at v0d;have v0e:=λt hh=>ag (v0c t) hh;have v0f:=λhh=>ag v0d hh;simp-implicitDefEqProofs[v0d];refine(hCl _).mono ?_;rintro z W ⟨vs,I,os,rfl,rfl,hO⟩;obtain⟨B,rfl,hB⟩:=jG hO;obtain⟨b1,b2⟩:=hB.cell;have vxc:∀t,(Y2++t)[2]?=some (.row 3 [[.p (.int .i64 0),.p (.int .i64 0),.nils]]):=λt=>(by rw[Wb (by omega)];exact vx);have vxe:=λt hh=>ag (vxc t) hh;simp-implicitDefEqProofs[-AV.cells,-AV.isCell,az,ET,aO,tj,b2,vxc]
   obtain⟨gid,rfl,hI⟩:=Ad (X:=(Y2++(os++[AO.row 1 [[.ptr k 6 0 0]]])).set 2 (.row 3 [[.p (.int .i64 c.params),.p (.int .i64 c.regs),B]])) (xw:=2) (q3:=Y2.length+os.length) hb1 hK1 hP2' hB (Wo _) (Wo _) (by simp) (by simp) (by omega) (by omega)
    (λj hj hne=>by rw[Wd (Ne.symm hne),Wb (by omega)];exact p4 j hj) (λj hj hne=>by rw[Wd (Ne.symm hne),Wb hj]) (λj hj hne=>by rw[Wd (Ne.symm hne),←Wp,Wb hj]) (by omega) (.inl (by omega)) (.inl (by omega))
    (by rw[Wd (by omega),←Wp,Wg (by simp)];simp) (by rw[Wh (by simp;omega)]) (by rw[Wd (by omega),Wb (by omega)];exact v1)
   exact⟨⟨_,_⟩,hI,aa (We _) (by simp[below];have:=hP2'.lt;omega)⟩
 rintro⟨p,X⟩ hX;simp only at hX⊢;have hnd:c.regs.toNat=(KF c).regs.length:=hX.km.rl.symm;have hne1:1<=c.blocks.length:=hb1;have xx:=hX.xx;have xxe:=λhh=>ag xx hh;simp-implicitDefEqProofs[xx]
 refine am (λa:RdS=>aj 179 [(32,.p (.int .i64 a.i)),(31,.p (.int .i64 c.blocks.length)),(6,.fn (.func aD) [.ptr p.q3 1 0 0]),(5,.ptr p.xw 3 0 0),(4,.sl p.T 1 0 c.blocks.length),(3,.ptr p.q3 1 0 0),(2,.ptr 1 3 0 0)]) (λa=>a.X)
  (λa=>a.i<=c.blocks.length/\KcI c p a.X (mxT (lL (KF c).regs) c.blocks a.i) (λi=>if i<a.i then phK (KF c).regs c i else phF c i)) (λa=>c.blocks.length-a.i) ⟨0,X⟩ ⟨We _,by simp only[fw,Zs,if_false];exact hX⟩ (aa (We _) (by simp[below];have:=hX.lt;omega)) ?_
 clear hX xx xxe X;rintro⟨b,X⟩ ⟨hb,hX⟩;simp only at hb hX⊢;have xx:=hX.xx;have xxe:=λhh=>ag xx hh;simp-implicitDefEqProofs[];refine aA (λhcc=>?_) (λhcc=>?_)
 ·have hcc:b<c.blocks.length:=by simpa using hcc
  have hgb:=Wc hcc;generalize c.blocks[b]=x at hgb;have hmg:=ic (F:=lL (KF c).regs) hgb;have hms:=gS (F:=lL (KF c).regs) hgb;have hml:=fu (lL (KF c).regs) c.blocks b;obtain⟨q1,q2,q3⟩:=h.bk hgb;have hwb:=w1 (i:=b) (by omega);simp-implicitDefEqProofs[xx,hcc]
  refine dc (λa:RdS=>aj 179 [(8,.ptr p.gid 5 b 0),(7,.p (.int .i64 b)),(32,.p (.int .i64 b)),(31,.p (.int .i64 c.blocks.length)),(6,.fn (.func aD) [.ptr p.q3 1 0 0]),(5,.ptr p.xw 3 0 0),(4,.sl p.T 1 0 c.blocks.length),(3,.ptr p.q3 1 0 0),(2,.ptr 1 3 0 0)]) (λa=>a.X)
   (λa=>KcI c p a.X ((mxT (lL (KF c).regs) c.blocks b).set b (bE (KF c).regs x)) (λi=>if i<b then phK (KF c).regs c i else phF c i)) ?_ ?_
  ·obtain⟨I,rows,JJ,hV,hT,hD⟩:=hX.own;obtain⟨gid,rows5,rr,Jb,e1,e2,e3,e4,e5,e6,e7,e8⟩:=hV.bks hmg;simp only[AV.sl.injEq,true_and] at e1;obtain⟨rfl,_⟩:=e1;obtain⟨P,N,Q,IP,IN,IQ,rfl,rfl,hP,hN,hQ⟩:=eF e5;obtain⟨p1,p2⟩:=hP.cell;obtain⟨n1,n2⟩:=hN.cell;obtain⟨z1,z2⟩:=hQ.cell;rw[hml] at e3;have hr5:b<rows5.length:=by omega
   have e2e:=λhh=>ag e2 hh;have e4e:=λhh=>ag e4 hh
   by_cases hJ:isJ (KF c).regs x=true
   ·simp only[isJ,Wr,Wx] at hJ;obtain⟨hj2,hon0⟩:=hJ;have hXlt:=hX.lt;have hgl:=(Wa.1 e2).1;have hon:=hv.on b x hgb (by omega);have hrg:=ip (l:=(KF c).regs) (i:=x.on) (by omega);have hrge:=λhh=>ag hrg hh;have hx0:=hX.x0;have hkk:=hX.km.hk;have hrr:=hX.km.hr;have hrl:(ae (KF c).regs).length=c.regs.toNat:=(by rw[ae,Wj,hnd]);have hmx:max c.regs 0=c.regs:=(by omega);have hrr2:x.on.toNat<c.regs.toNat:=(by omega);have hn2:=hk.n2 b x hgb hj2
    obtain⟨t0,t1,hnx⟩:∃t0 t1,x.next=[t0,t1]:=by
     match x.next,hn2 with
     |[t0,t1],_=>exact⟨t0,t1,rfl⟩
    rcases io (λn=>PV.int .i64 n) (λ_ _ _ e=>by cases e) hQ with⟨_,z,_⟩|⟨qid,rfl,rfl,f3,f4⟩
    ·rw[z] at hnx;cases hnx
    have f3':X[qid]?=some (.row 1 [[.p (.int .i64 t0)],[.p (.int .i64 t1)]]):=(by rw[f3,hnx];rfl);have f3e:=λhh=>ag f3' hh;have hxl2:x.next.length=2:=hn2;obtain⟨to,hto⟩:∃to,to=if rg (KF c).regs x.on=0 then t1 else t0:=⟨_,rfl⟩
    have hpj:bE (KF c).regs x={x with jump:=1,on:=0,next:=[to]}:=by rw[bE,Wz (by simp only[isJ,Wr,Wx];exact⟨hj2,hon0⟩),hnx,hto];rfl
    have n2l:=hX.n1;have m2:∀t,(X++t)[p.gid]?=some (.row 5 rows5):=λt=>(by rw[Wb hgl];exact e2);have m2e:=λt hh=>ag (m2 t) hh;have s1:∀t u,((X++t).set p.gid u)[p.gid]?=some u:=λt u=>Wh (by simp;omega);have s1e:=λt u hh=>ag (s1 t u) hh;have s5:∀t,(rows5.set b t)[b]?=some t:=λt=>Wh hr5;have s5e:=λt hh=>ag (s5 t) hh;have hr6:∀t,b<(rows5.set b t).length:=λt=>by rw[Wy];exact hr5
    have hfin:KcI c p ((X++[AO.row 1 [[.p (.int .i64 to)]]]).set p.gid (.row 5 (rows5.set b [P,N,.p (.int .i64 1),.p (.int .i64 0),.sl X.length 1 0 1]))) ((mxT (lL (KF c).regs) c.blocks b).set b (bE (KF c).regs x)) (λi=>if i<b then phK (KF c).regs c i else phF c i):=by
     have hfr:∀j,j<X.length->j≠p.gid->((X++[AO.row 1 [[.p (.int .i64 to)]]]).set p.gid (.row 5 (rows5.set b [P,N,.p (.int .i64 1),.p (.int .i64 0),.sl X.length 1 0 1])))[j]?=X[j]?:=λj hj hne=>(by rw[Wd (Ne.symm hne),Wb hj]);have hgD:=hD.i p.gid e6;have hP5:Own p.n1 ((X++[AO.row 1 [[.p (.int .i64 to)]]]).set p.gid (.row 5 (rows5.set b [P,N,.p (.int .i64 1),.p (.int .i64 0),.sl X.length 1 0 1]))) [P] [phL x.phis] IP:=hP.frame λj hj=>hfr j (hP.lt j hj) (e7 j (by simp[hj])).2;have hN5:Own p.n1 ((X++[AO.row 1 [[.p (.int .i64 to)]]]).set p.gid (.row 5 (rows5.set b [P,N,.p (.int .i64 1),.p (.int .i64 0),.sl X.length 1 0 1]))) [N] [inL x.ins] IN:=hN.frame λj hj=>hfr j (hN.lt j hj) (e7 j (by simp[hj])).2;have hQ5:Own p.n1 ((X++[AO.row 1 [[.p (.int .i64 to)]]]).set p.gid (.row 5 (rows5.set b [P,N,.p (.int .i64 1),.p (.int .i64 0),.sl X.length 1 0 1]))) [.sl X.length 1 0 1] [ah [to]] [X.length]:=aX (by rw[Wd (by omega),Wg (Wo _),Xd];rfl) n2l rfl
     obtain⟨I2,k1,k2⟩:=e8 _ _ (bE (KF c).regs x) _ (s1 _ _) (λj hj hne hnj=>hfr j (hV.lt j hj) hne) (by
      rw[hpj];have hnd5:=WG.1 e5.nd
      exact gX (b:={x with jump:=1,on:=0,next:=[to]}) hP5 hN5 hQ5 (λj hj=>⟨λhm=>hnd5.2.2 j hj j (by simp[hm]) rfl,λhm=>by have:=hP.lt j hj;rw[Wt.1 hm] at this;omega⟩) (λj hj hm=>by have:=hN.lt j hj;rw[Wt.1 hm] at this;omega)) (λj hj=>by
       simp only[Ws] at hj;rcases hj with h1|h1|h1
       ·exact .inl (by simp[h1])
       ·exact .inl (by simp[h1])
       ·rw[Wt.1 h1];exact .inr λhm=>by have:=hV.lt _ hm;omega)
     have hI2:∀j∈I2,j∈I\/j=X.length:=λj hj=>by
      rcases k2 j hj with h1|h1
      ·exact .inl h1
      ·simp only[Ws] at h1;rcases h1 with h1|h1|h1
       ·exact .inl (e7 j (by simp[h1])).1
       ·exact .inl (e7 j (by simp[h1])).1
       ·exact .inr (Wt.1 h1)
     have hTlt:=hT.lt;refine hX.upd (by simp) (by simp) (λj hj hj2=>hfr j hj (by omega)) k1 (hT.frame (hfr _ hTlt.1 (by omega)) λi hi hq j hj=>hfr j (hTlt.2 i hi hq j hj) λe=>(hD.j i hi j hj).1 (by rw[e];exact e6)) ⟨λj hj=>?_,λi hi j hj=>⟨λhm=>?_,(hD.j i hi j hj).2⟩⟩
     ·rcases hI2 j hj with h1|h1
      ·exact hD.i j h1
      ·have:=hX.km.lt;omega
     ·rcases hI2 j hm with h1|h1
      ·exact(hD.j i hi j hj).1 h1
      ·have:=hTlt.2 i hi (by omega) j hj;omega
    by_cases hz:rg (KF c).regs x.on=0
    ·rw[Wz hz] at hto;subst hto;simp-implicitDefEqProofs[-AV.cells,-AV.isCell,kR,iv,aO,cI,tj,e2,e4e,hr5,hj2,hx0,hkk,hrr,hrge,hrl,hmx,hon.1,hon.2,hrr2,hz,f3',hxl2,m2,s1,s5e,Yf];exact⟨⟨0,_⟩,hfin,aa (We _) (by simp[below];omega)⟩
    ·rw[WB hz] at hto;subst hto;simp-implicitDefEqProofs[-AV.cells,-AV.isCell,kR,iv,aO,cI,tj,e2,e4e,hr5,hj2,hx0,hkk,hrr,hrge,hrl,hmx,hon.1,hon.2,hrr2,hon0,hz,f3',hxl2,m2,s1,s5e,Yf];exact⟨⟨0,_⟩,hfin,aa (We _) (by simp[below];omega)⟩
   ·have hpj:bE (KF c).regs x=x:=by rw[bE,WB hJ]
    have hgoal:KcI c p X ((mxT (lL (KF c).regs) c.blocks b).set b (bE (KF c).regs x)) (λi=>if i<b then phK (KF c).regs c i else phF c i):=by
     rw[hpj];obtain⟨h1,h2⟩:=Wa.1 hmg;rw[←h2,Xl];exact hX
    have hXlt:=hX.lt;have hgl:=(Wa.1 e2).1
    by_cases hj2:x.jump=2
    ·have hon:=hv.on b x hgb (by omega);have hrg:=ip (l:=(KF c).regs) (i:=x.on) (by omega);have hrge:=λhh=>ag hrg hh;have hng:¬0<=rg (KF c).regs x.on:=λhh=>hJ (by simp only[isJ,Wr,Wx];exact⟨hj2,hh⟩);have hx0:=hX.x0;have hkk:=hX.km.hk;have hrr:=hX.km.hr;have hrl:(ae (KF c).regs).length=c.regs.toNat:=(by rw[ae,Wj,hnd]);have hmx:max c.regs 0=c.regs:=(by omega);have hrr2:x.on.toNat<c.regs.toNat:=(by omega);simp-implicitDefEqProofs[-AV.cells,-AV.isCell,aO,cI,tj,e2,e4e,hr5,hj2,hx0,hkk,hrr,hrge,hrl,hmx,hon.1,hon.2,hrr2,hng];exact⟨⟨0,X⟩,hgoal,aa (We _) (by simp[below];omega)⟩
    ·simp-implicitDefEqProofs[-AV.cells,-AV.isCell,aO,e2,e4e,hr5,hj2];exact⟨⟨0,X⟩,hgoal,aa (We _) (by simp[below];omega)⟩
  clear hX xx xxe;rintro⟨_,X⟩ hX;simp only at hX⊢;obtain⟨y,hy⟩:∃y,y=bE (KF c).regs x:=⟨_,rfl⟩;have hyp:y.phis=x.phis:=by rw[hy,bE];split<;>rfl
  have hyi:y.ins=x.ins:=by rw[hy,bE];split<;>rfl
  rw[←hy] at hX;have hbl2:b<(mxT (lL (KF c).regs) c.blocks b).length:=by rw[hml];exact hcc
  have hgy:((mxT (lL (KF c).regs) c.blocks b).set b y)[b]?=some y:=Wh hbl2;have hsl:((mxT (lL (KF c).regs) c.blocks b).set b y).length=c.blocks.length:=by rw[Wy,hml]
  obtain⟨I,rows,JJ,hV,hT,hD⟩:=hX.own;obtain⟨gid,rows5,rr,Jb,e1,e2,e3,e4,e5,e6,e7,e8⟩:=hV.bks hgy;simp only[AV.sl.injEq,true_and] at e1;obtain⟨rfl,_⟩:=e1;obtain⟨P,N,Q,IP,IN,IQ,rfl,rfl,hP,hN,hQ⟩:=eF e5;rw[hyp] at hP;rw[hyi] at hN;obtain⟨p1,p2⟩:=hP.cell;obtain⟨n1,n2⟩:=hN.cell;obtain⟨z1,z2⟩:=hQ.cell;rw[hsl] at e3;have hr5:b<rows5.length:=by omega
  have e2e:=λhh=>ag e2 hh;have e4e:=λhh=>ag e4 hh;have hgl:=(Wa.1 e2).1;have hXl:=hX.lt;have hn1X:=hX.n1
  obtain⟨rows2,J0,hPp,r2l,r2c,hR2,hJ0⟩:∃rows2 J0,((P= .nils/\x.phis=[])\/∃pid,P= .sl pid 2 0 x.phis.length/\X[pid]?=some (.row 2 rows2))/\rows2.length=x.phis.length/\(∀r∈rows2,r.length=2)/\Own p.n1 X rows2.flatten (x.phis.map Ph.cs).flatten J0/\∀j∈J0,j∈IP:=by
   have hpl:phL x.phis= .lst 2 (x.phis.map Ph.cs):=rfl;rw[hpl] at hP;rcases hP.row with⟨h1,h2,h3⟩|⟨pid,rows2,J,h1,h2,hr,hnl⟩
   ·have h4:=WK.1 h2;exact⟨[],[],.inl ⟨h1,h4⟩,by rw[h4];rfl,(λr hr=>by cases hr),by rw[h4];exact Own.nix _ _,λj hj=>by cases hj⟩
   ·have hrl:=hr.len;rw[Wj] at hrl h1;have hnd:=hP.nd;rw[h2] at hnd;exact⟨rows2,J,.inr ⟨pid,h1,hr.here⟩,hrl,hr.rl,⟨hr.own,(WR.1 hnd).2,hP.no.sub λj hj=>by rw[h2];simp[hj],λv hv=>(by obtain⟨r,h5,h6⟩:=Yt.1 hv;exact hnl r h5 v h6),λj hj=>hP.ge j (by rw[h2];simp[hj])⟩,λj hj=>by rw[h2];simp[hj]⟩
  simp-implicitDefEqProofs[]
  refine dc (λs:F5S=>aj 179 [(12,s.w),(11,s.a),(10,s.d),(8,.ptr p.gid 5 b 0),(7,.p (.int .i64 b)),(32,.p (.int .i64 b)),(31,.p (.int .i64 c.blocks.length)),(6,.fn (.func aD) [.ptr p.q3 1 0 0]),(5,.ptr p.xw 3 0 0),(4,.sl p.T 1 0 c.blocks.length),(3,.ptr p.q3 1 0 0),(2,.ptr 1 3 0 0)]) (λs=>s.X)
   (λs=>s.i=x.phis.length/\F5I (KF c).regs (ab c.blocks b) p.n1 X x IP (JJ b) rows2 s) ?_ ?_
  ·have hF0:F5I (KF c).regs (ab c.blocks b) p.n1 X x IP (JJ b) rows2 ⟨0,.nils,.nils,.nils,X⟩:=
    ⟨λj _=>rfl,Wo _,(λ_ _ _ _ e=>by cases e),(λ_ _ _ _ e=>by cases e),[],[],J0,[],Own.nil _ _ 2,Own.nil _ _ 4,.inl ⟨rfl,rfl,rfl⟩,(λj hj=>by cases hj),hR2,hJ0,λj hj=>by cases hj⟩
   rcases hPp with⟨rfl,z⟩|⟨pid,rfl,hpid⟩
   ·simp-implicitDefEqProofs[-AV.cells,-AV.isCell,eG,e2,e4e,hr5];refine am (λ_:Unit=>aj 179 [(96,.p (.int .i64 0)),(95,.p (.int .i64 0)),(12,.nils),(11,.nils),(10,.nils),(8,.ptr p.gid 5 b 0),(7,.p (.int .i64 b)),(32,.p (.int .i64 b)),(31,.p (.int .i64 c.blocks.length)),(6,.fn (.func aD) [.ptr p.q3 1 0 0]),(5,.ptr p.xw 3 0 0),(4,.sl p.T 1 0 c.blocks.length),(3,.ptr p.q3 1 0 0),(2,.ptr 1 3 0 0)]) (λ_=>X) (λ_=>True) (λ_=>0) () trivial (aa (We _) (by simp[below];omega)) ?_;intro _ _;simp-implicitDefEqProofs[];exact⟨⟨0,.nils,.nils,.nils,X⟩,⟨by rw[z];rfl,hF0⟩,aa (We _) (by simp[below];omega)⟩
   ·simp-implicitDefEqProofs[-AV.cells,-AV.isCell,cI,e2,e4e,hr5];refine am (λs:F5S=>aj 179 [(96,.p (.int .i64 s.i)),(95,.p (.int .i64 x.phis.length)),(94,.sl pid 2 0 x.phis.length),(12,s.w),(11,s.a),(10,s.d),(8,.ptr p.gid 5 b 0),(7,.p (.int .i64 b)),(32,.p (.int .i64 b)),(31,.p (.int .i64 c.blocks.length)),(6,.fn (.func aD) [.ptr p.q3 1 0 0]),(5,.ptr p.xw 3 0 0),(4,.sl p.T 1 0 c.blocks.length),(3,.ptr p.q3 1 0 0),(2,.ptr 1 3 0 0)]) (λs=>s.X) (λs=>s.i<=x.phis.length/\F5I (KF c).regs (ab c.blocks b) p.n1 X x IP (JJ b) rows2 s) (λs=>x.phis.length-s.i) ⟨0,.nils,.nils,.nils,X⟩ ⟨We _,hF0⟩ (aa (We _) (by simp[below];have:=(Wa.1 hpid).1;omega)) ?_;rintro⟨i,a,d,w,X'⟩ ⟨hi,hF⟩;simp only at hi⊢;obtain⟨Ia,Ib,Jr,Jw,hA,hDo,hW,d1,hRr,hJr,d2⟩:=hF.ex;have hkp:=hF.kp;have hle:=hF.le;simp only at hA hDo hW hkp hle;obtain⟨ac1,ac2⟩:=hA.cell;obtain⟨dc1,dc2⟩:=hDo.cell
    have hwc:w.cells=[w]/\w.isCell=true:=by rcases hW with⟨rfl,_⟩|⟨jd,ids,rfl,_⟩<;>exact⟨rfl,rfl⟩
    obtain⟨wc1,wc2⟩:=hwc;have hba:∀m,X'.length<=m->below m a:=λm hm=>(dx hm _ hA.own.blw).1;have hbd:∀m,X'.length<=m->below m d:=λm hm=>(dx hm _ hDo.own.blw).1
    have hbw:∀m,X'.length<=m->below m w:=λm hm=>by
     rcases hW with⟨rfl,_⟩|⟨jd,ids,rfl,_,h6,_⟩
     ·simp[below]
     ·have:=(Wa.1 h6).1;simp[below];omega
    simp-implicitDefEqProofs[];refine aA (λhc2=>?_) (λhc2=>?_)
    ·have hc2:i<x.phis.length:=(by simpa using hc2);have hgi:=Wc hc2;have hmf:=Wm hc2;generalize x.phis[i]=f at hgi hmf;obtain⟨pa1,pa2,pa3,pa4⟩:=hv.pa b x hgb f hmf;have hi2:i<rows2.length:=(by omega);have hg2:=Wc hi2;have hl2:=r2c _ (Wm hi2);have hdr2:rows2.drop i=rows2[i]::rows2.drop (i+1):=Xa hi2
     have hdr:x.phis.drop i=f::x.phis.drop (i+1):=by rw[Xa hc2];rw[Wc hc2] at hgi;rw[Option.some.inj hgi]
     generalize rows2[i]=rf at hg2 hl2 hdr2
     obtain⟨u,A,rfl⟩:∃u A,rf=[u,A]:=by
      match rf,hl2 with
      |[u,A],_=>exact⟨u,A,rfl⟩
     rw[hdr2,hdr] at hRr;have hRr2:Own p.n1 X (u::A::(rows2.drop (i+1)).flatten) (.int .i64 f.to::ah f.args::((x.phis.drop (i+1)).map Ph.cs).flatten) Jr:=hRr;obtain⟨us,e0,hRr3⟩:=hRr2.int;simp only[Yh] at e0;obtain⟨rfl,rfl⟩:=e0;obtain⟨A',us',IA,Jr',e0,rfl,hAo,hRr4⟩:=hRr3.one;simp only[Yh] at e0;obtain⟨rfl,rfl⟩:=e0;obtain⟨a1,a2⟩:=hAo.cell;have hpl':=(Wa.1 hpid).1;have hwi:=w1 (i:=i) (by omega);have hg2e:=λhh=>ag hg2 hh;have y3:X'[pid]?=some (.row 2 rows2):=(hkp _ hpl').trans hpid;have y3e:=λhh=>ag y3 hh;have hkm:KMm c (KF c) p.k p.r p.o p.m X':=hX.km.frame ⟨hkp _ hX.km.lt.1,hkp _ hX.km.lt.2.1,hkp _ hX.km.lt.2.2.1,hkp _ hX.km.lt.2.2.2⟩;have hx3:X'[p.q3]?=some (.row 1 [[.ptr p.k 6 0 0]]):=(hkp _ hXl.1).trans hX.x0;have hNum:=λt:List AO=>Rp (v:=f.to) G (hkm.app t) (q3:=p.q3) (by rw[Wb (Wa.1 hx3).1];exact hx3) pa3 pa4;simp-implicitDefEqProofs[-AV.cells,-AV.isCell,az,aO,a2,y3,hg2e,r2l,hc2];refine(hNum _).mono ?_;rintro zz Z ⟨rfl,rfl⟩;obtain⟨v,hvv⟩:∃v,v=rg (KF c).regs f.to:=⟨_,rfl⟩;rw[←hvv];have hjb:=(h.bk hgb).1;have hlF:(aB (KF c).regs (x.phis.take i)).length<=i:=(by rw[aB,Wj];exact Xw (Xk _ _) (by rw[WD];omega));have hlL:(aM (KF c).regs (x.phis.take i)).length<=i:=(by rw[aM];exact Xw (Xk _ _) (by rw[WD];omega));have hlW:(kWL (KF c).regs (ab c.blocks b) (x.phis.take i)).length<=i:=by rw[kWL,Wj];exact hlL
     by_cases hv0:0<=v
     ·have hpd:=λos:List AO=>Own.pshA (b:=48) (D:=(aB (KF c).regs (x.phis.take i)).map Ii.cs) hDo [.p (.int .i64 1),.p (.int .i64 f.to),.nils,.p (.int .i64 v)] (by rw[Wj];omega) os;have hFI:=λ(os H2:List AO) (d':AV) hp=>hF.first (os:=os) (H2:=H2) (d':=d') hn1X hgi (by rw[←hvv];exact hv0) hg2 rfl hp;rw[←hvv] at hFI;have hpd1:=λos=>(hpd os).1;have hpl3:=kN;simp-implicitDefEqProofs[-Nt,-AV.cells,-AV.isCell,az,aO,eG,hv0,hpd1];exact⟨⟨i+1,a,_,w,_⟩,⟨by simp only;omega,hFI _ _ _ (hpd _).2⟩,by simp only;omega,aa (We _) (by simp[below,hwi,hpl3];(repeat' apply And.intro)<;>first|omega|exact hbw _ (by omega)|exact hba _ (by omega))⟩
     ·have hRow:=hT.r1 b hcc;obtain⟨AT,hAT⟩:=hRow;have hRT:=hT.rw b AT hcc (by omega) hAT;have hLb:(if b<b then phK (KF c).regs c b else phF c b)=phR c b x:=(by rw[WB (Nat.lt_irrefl _),phF,hgb]);rw[hLb] at hRT;have hRj:(phR c b x)[i]?=some ((ab c.blocks b).zip f.args):=(by rw[phR,Wl,hgi];rfl);have hRl:(phR c b x).length=x.phis.length:=(by rw[phR,Wj]);rcases hRT with⟨_,z,_⟩|⟨jd,ids,rfl,hJ,h3,h4,h5⟩
      ·rw[z] at hRj;simp at hRj
      rw[hRl] at h4 hAT;obtain⟨mi,hmi⟩:∃mi,ids[i]?=some mi:=⟨_,Wc (by omega)⟩;have hmx:=h5 i mi _ hmi hRj;have hmiJ:mi∈JJ b:=(by rw[hJ];exact Xb _ (Wq hmi));have hmr:(gr ids)[i]?=some [.mp mi]:=(by rw[gr,Wl,hmi];rfl);have hmrl:(gr ids).length=x.phis.length:=(by rw[gr,Wj];exact h4);have hjl:=(Wa.1 h3).1;have hTl:=hT.lt.1;have hTI:p.T∉I:=λhm=>(hD.i _ hm).2.2.1 rfl
      have hnA:∀j,j<X.length->(j=p.T\/j∈JJ b)->j∉Ia:=λj hj hh hm=>by
       rcases(d1 j hm).1 with h1|h1
       ·have h2:=(e7 j (by simp[h1])).1;rcases hh with rfl|hh
        ·exact hTI h2
        ·exact(hD.j b hcc j hh).1 h2
       ·omega
      have t1:∀t,(X'++t)[p.T]?=some (.row 1 rows):=λt=>(by rw[Wb (by omega)];exact(hkp _ hTl).trans hT.tt);have t2:∀t,(X'++t)[jd]?=some (.row 1 (gr ids)):=λt=>(by rw[Wb (by omega)];exact(hkp _ hjl).trans h3);have t1e:=λt hh=>ag (t1 t) hh;have t2e:=λt hh=>ag (t2 t) hh;have hATe:=λhh=>ag hAT hh;have hmre:=λhh=>ag hmr hh;have hrowl:=hT.rl;have hKE:=λ(os os2 H2 H4:List AO) (a' w':AV) hp hp2=>hF.keep (os:=os) (os2:=os2) (H2:=H2) (H4:=H4) (a':=a') (w':=w') (mi:=mi) hn1X hgi (by rw[←hvv];exact hv0) hg2 hp hp2 (λj hj=>⟨hP.lt j hj,λhm=>(hD.j b hcc j hm).1 ((e7 j (by simp[hj])).1)⟩) hmiJ hmx;have hpa:=λos:List AO=>Own.pshA (b:=32) (D:=(aM (KF c).regs (x.phis.take i)).map Ph.cs) hA [.p (.int .i64 f.to),A] (by rw[Wj];omega) os;have hpa1:=λos=>(hpa os).1;have hga:=λ(os:List AO) (j:Nat)=>Own.pshG (sz':=2) hA [.p (.int .i64 f.to),A] os j;have hAl:=hA.lt;have t3:∀t,(kU (X'++t) 2 [.p (.int .i64 f.to),A] a)[p.T]?=some (.row 1 rows):=λt=>(hga t _ (by omega) (hnA _ hTl (.inl rfl))).trans (t1 t);have t4:∀t,(kU (X'++t) 2 [.p (.int .i64 f.to),A] a)[jd]?=some (.row 1 (gr ids)):=λt=>(hga t _ (by omega) (hnA _ hjl (.inr (by rw[hJ];simp)))).trans (t2 t);have t5:∀o t,(kU (X'++o::t) 2 [.p (.int .i64 f.to),A] a)[X'.length]?=some o:=λo t=>(hga _ _ (by simp) λhm=>by have:=hAl _ hm;omega).trans (by rw[Wg (Wo _),Xd];rfl);have t6:∀o1 o2 o3 o4 t,(kU (X'++o1::o2::o3::o4::t) 2 [.p (.int .i64 f.to),A] a)[X'.length+3]?=some o4:=λo1 o2 o3 o4 t=>(hga _ _ (by simp) λhm=>by have:=hAl _ hm;omega).trans (by rw[Wg (by omega),WP];rfl);have t7:∀o1 o2 o3 t,(kU (X'++o1::o2::o3::t) 2 [.p (.int .i64 f.to),A] a)[X'.length+2]?=some o3:=λo1 o2 o3 t=>(hga _ _ (by simp) λhm=>by have:=hAl _ hm;omega).trans (by rw[Wg (by omega),WP];rfl);have t8:∀t u,(kU (X'++t) 2 [.p (.int .i64 f.to),A] a++u)[p.T]?=some (.row 1 rows):=λt u=>(by rw[Wb (by rw[kN,Wn];omega)];exact t3 t);have t9:∀t u,(kU (X'++t) 2 [.p (.int .i64 f.to),A] a++u)[jd]?=some (.row 1 (gr ids)):=λt u=>(by rw[Wb (by rw[kN,Wn];omega)];exact t4 t);have tA:∀o t u,(kU (X'++o::t) 2 [.p (.int .i64 f.to),A] a++u)[X'.length]?=some o:=λo t u=>(by rw[Wb (by rw[kN,Wn];omega)];exact t5 o t);have hJwA:∀j∈Jw,j∉Ia:=λj hj=>(d2 j hj).2.1;have hWl:∀j∈Jw,j<X'.length:=RowM.lt hW
      have hW2:∀t u,RowM (kU (X'++t) 2 [.p (.int .i64 f.to),A] a++u) w (kWL (KF c).regs (ab c.blocks b) (x.phis.take i)) Jw:=λt u=>RowM.frame hW λj hj=>by
       have hjl:=hWl j hj;rw[Wb (by rw[kN,Wn];omega),hga t j (by omega) (hJwA j hj)];exact Wb hjl
      have hpw:=λt u=>(hW2 t u).pshA mi (by omega);have hpw1:=λt u=>(hpw t u).1;have hpw0:=λt=>hpw1 t [];simp only[WI] at hpw0;have hpl3:=kN;simp-implicitDefEqProofs[-Nt,-AV.cells,-AV.isCell,az,aO,eG,hv0];have hcm:(AV.mp mi).cells=[.mp mi]:=rfl;have him:(AV.mp mi).isCell=true:=rfl;have t3e:=λt hh=>ag (t3 t) hh;have t4e:=λt hh=>ag (t4 t) hh;have t5e:=λo t hh=>ag (t5 o t) hh;have t6e:=λo1 o2 o3 o4 t hh=>ag (t6 o1 o2 o3 o4 t) hh;have t7e:=λo1 o2 o3 t hh=>ag (t7 o1 o2 o3 t) hh;have t8e:=λt u hh=>ag (t8 t u) hh;have t9e:=λt u hh=>ag (t9 t u) hh;have tAe:=λo t u hh=>ag (tA o t u) hh;simp-implicitDefEqProofs[-AV.cells,-AV.isCell,az,aO,cI,hcm,him,a2,t1,t2,hATe,hmre,hmrl,hrowl,hcc,hc2,t3,t4,t6e,t7e,tA,hpa1,hpw1,hpw0,hpl3];have hG1:=hKE [AO.row 2 [[AV.p (.int .i64 f.to),A]],AO.row 4 [[AV.p (.int .i64 1),AV.p (.int .i64 f.to),.nils,AV.p (.int .i64 v)]],AO.row 2 [[AV.p (.int .i64 f.to),A]]] [AO.row 1 [[AV.mp mi]]] _ _ _ _ (hpa _).2 (hpw _ _).2;have hG2:=hKE [AO.row 2 [[AV.p (.int .i64 f.to),A]],AO.row 4 [[AV.p (.int .i64 1),AV.p (.int .i64 f.to),.nils,AV.p (.int .i64 v)]],AO.row 2 [[AV.p (.int .i64 f.to),A]],AO.row 1 [[AV.mp mi]]] [] _ _ _ _ (hpa _).2 (hpw _ _).2;have hG3:=hKE [AO.row 2 [[AV.p (.int .i64 f.to),A]],AO.row 4 [[AV.p (.int .i64 1),AV.p (.int .i64 f.to),.nils,AV.p (.int .i64 v)]],AO.row 1 [[AV.mp mi]],AO.row 2 [[AV.p (.int .i64 f.to),A]]] [] _ _ _ _ (hpa _).2 (hpw _ _).2;simp only[WI,Wn,kN,WC,WL] at hG1 hG2 hG3
      repeat' apply And.intro
      all_goals first|omega|skip
      ·exact⟨⟨i+1,_,d,_,_⟩,⟨by simp only;omega,hG1⟩,by simp only;omega,aa (We _) (by simp[below,hwi,hpl3];(repeat' apply And.intro)<;>first|omega|exact hbd _ (by omega))⟩
      ·exact⟨⟨i+1,_,d,_,_⟩,⟨by simp only;omega,hG2⟩,by simp only;omega,aa (We _) (by simp[below,hwi,hpl3];(repeat' apply And.intro)<;>first|omega|exact hbd _ (by omega))⟩
      ·exact⟨⟨i+1,_,d,_,_⟩,⟨by simp only;omega,hG3⟩,by simp only;omega,aa (We _) (by simp[below,hwi,hpl3];(repeat' apply And.intro)<;>first|omega|exact hbd _ (by omega))⟩
    ·have hc2:x.phis.length<=i:=(by simpa using hc2);exact⟨⟨i,a,d,w,X'⟩,⟨by simp only;omega,hF⟩,aa (We _) (by simp[below,hba,hbd,hbw];omega)⟩
  clear e2e e4e;rintro⟨_,a,d,w,X'⟩ ⟨rfl,hF⟩;simp only at hF⊢;obtain⟨Ia,Ib,Jr,Jw,hA,hDo,hW,d1,_,_,d2⟩:=hF.ex;have hkp:=hF.kp;have hle:=hF.le;simp only[Xm] at hA hDo hW hkp hle;obtain⟨ac1,ac2⟩:=hA.cell;obtain⟨dc1,dc2⟩:=hDo.cell
  have hwc:w.cells=[w]/\w.isCell=true:=by rcases hW with⟨rfl,_⟩|⟨jd,ids,rfl,_⟩<;>exact⟨rfl,rfl⟩
  obtain⟨wc1,wc2⟩:=hwc;have hba:∀m,X'.length<=m->below m a:=λm hm=>(dx hm _ hA.own.blw).1;have hbd:∀m,X'.length<=m->below m d:=λm hm=>(dx hm _ hDo.own.blw).1
  have hbw:∀m,X'.length<=m->below m w:=λm hm=>by
   rcases hW with⟨rfl,_⟩|⟨jd,ids,rfl,_,h6,_⟩
   ·simp[below]
   ·have:=(Wa.1 h6).1;simp[below];omega
  have f2:X'[p.gid]?=some (.row 5 rows5):=(hkp _ hgl).trans e2;have f2e:=λhh=>ag f2 hh;have e4e:=λhh=>ag e4 hh;have hndI:=WG.1 e5.nd;have hndI2:=WG.1 hndI.2.1;have hgN:p.gid∉IN:=λhm=>(e7 _ (by simp[hm])).2 rfl;have hNX:Own p.n1 X' [N] [inL x.ins] IN:=hN.frame λj hj=>hkp j (hN.lt j hj)
  refine dc (λs:F5S=>aj 179 [(12,w),(11,a),(10,d),(8,.ptr p.gid 5 b 0),(7,.p (.int .i64 b)),(32,.p (.int .i64 b)),(31,.p (.int .i64 c.blocks.length)),(6,.fn (.func aD) [.ptr p.q3 1 0 0]),(5,.ptr p.xw 3 0 0),(4,.sl p.T 1 0 c.blocks.length),(3,.ptr p.q3 1 0 0),(2,.ptr 1 3 0 0)]) (λs=>s.X)
   (λs=>FrN IN X' s.X/\∃IN',Own p.n1 s.X [N] [inL (x.ins.map (putI (KF c).regs))] IN'/\∀j∈IN',j∈IN) ?_ ?_
  ·have hil:inL x.ins= .lst 4 (x.ins.map Ii.cs):=rfl;rcases hNX.rowAt with⟨rfl,z⟩|⟨nid,nrows0,rfl,hng,hnl,hnge⟩
   ·have hi0:x.ins=[]:=WK.1 z;simp-implicitDefEqProofs[-AV.cells,-AV.isCell,eG,f2,e4e,hr5];refine am (λ_:Unit=>aj 179 [(133,.p (.int .i64 0)),(132,.p (.int .i64 0)),(12,w),(11,a),(10,d),(8,.ptr p.gid 5 b 0),(7,.p (.int .i64 b)),(32,.p (.int .i64 b)),(31,.p (.int .i64 c.blocks.length)),(6,.fn (.func aD) [.ptr p.q3 1 0 0]),(5,.ptr p.xw 3 0 0),(4,.sl p.T 1 0 c.blocks.length),(3,.ptr p.q3 1 0 0),(2,.ptr 1 3 0 0)]) (λ_=>X') (λ_=>True) (λ_=>0) () trivial (aa (We _) (by simp[below];exact⟨hbw _ (Wo _),hba _ (Wo _),hbd _ (Wo _),by omega,by omega,by omega,by omega,by omega,by omega⟩)) ?_;intro _ _;simp-implicitDefEqProofs[];refine⟨⟨0,a,d,w,X'⟩,⟨⟨Wo _,λj _ _=>rfl⟩,IN,by rw[hi0] at hNX⊢;exact hNX,λj hj=>hj⟩,aa (We _) (by simp[below];exact⟨hbw _ (Wo _),hba _ (Wo _),hbd _ (Wo _),by omega,by omega,by omega,by omega,by omega,by omega⟩)⟩
   ·have hnl':=(Wa.1 hng).1;rw[Wj] at hnl hNX hN n1 n2 e4⊢;have hN0l:=hN.lt;have e4e:=λhh=>ag e4 hh;simp-implicitDefEqProofs[-AV.cells,-AV.isCell,cI,f2,e4e,hr5]
    refine am (λs:RdS=>aj 179 [(133,.p (.int .i64 s.i)),(132,.p (.int .i64 x.ins.length)),(131,.sl nid 4 0 x.ins.length),(12,w),(11,a),(10,d),(8,.ptr p.gid 5 b 0),(7,.p (.int .i64 b)),(32,.p (.int .i64 b)),(31,.p (.int .i64 c.blocks.length)),(6,.fn (.func aD) [.ptr p.q3 1 0 0]),(5,.ptr p.xw 3 0 0),(4,.sl p.T 1 0 c.blocks.length),(3,.ptr p.q3 1 0 0),(2,.ptr 1 3 0 0)]) (λs=>s.X)
     (λs=>s.i<=x.ins.length/\FrN IN X' s.X/\∃IN',Own p.n1 s.X [.sl nid 4 0 x.ins.length] [inL (mxT (λ_ y=>putI (KF c).regs y) x.ins s.i)] IN'/\∀j∈IN',j∈IN) (λs=>x.ins.length-s.i) ⟨0,X'⟩ ⟨We _,⟨Wo _,λ_ _ _=>rfl⟩,IN,by rw[fw];exact hNX,λj hj=>hj⟩ (aa (We _) (by simp[below];exact⟨by omega,hbw _ (Wo _),hba _ (Wo _),hbd _ (Wo _),by omega,by omega,by omega,by omega,by omega,by omega⟩)) ?_
    rintro⟨i,X2⟩ ⟨hi,hfr,IN',hNn,hIN'⟩;simp only at hi hfr hNn hIN'⊢;have hXf:=hfr.1;simp-implicitDefEqProofs[];have hml2:=fu (λ_ y=>putI (KF c).regs y) x.ins i;refine aA (λhc2=>?_) (λhc2=>?_)
    ·have hc2:i<x.ins.length:=(by simpa using hc2);have hgi:=Wc hc2;have hmy:=Wm hc2;generalize x.ins[i]=y at hgi hmy;have hgm2:=ic (F:=λ_ y=>putI (KF c).regs y) hgi;have hst2:=gS (F:=λ_ y=>putI (KF c).regs y) hgi;have hilm:inL (mxT (λ_ y=>putI (KF c).regs y) x.ins i)= .lst 4 ((mxT (λ_ y=>putI (KF c).regs y) x.ins i).map Ii.cs):=rfl;have hlm:((mxT (λ_ y=>putI (KF c).regs y) x.ins i).map Ii.cs).length=x.ins.length:=(by rw[Wj,hml2]);rw[hilm] at hNn;rcases hNn.row with⟨e0,_⟩|⟨nid',rowsN,JN,e0,eIN,hrN,hnN⟩
     ·cases e0
     simp only[AV.sl.injEq,true_and] at e0;obtain⟨rfl,_⟩:=e0;subst eIN;obtain⟨ry,IA,g1,g2,g3,g4⟩:=Own.upd (D:=(mxT (λ_ y=>putI (KF c).regs y) x.ins i).map Ii.cs) (by rw[hlm];exact hNn) hrN (i:=i) (e:=y.cs) (by rw[Wl,hgm2];rfl);obtain⟨A,rfl,hAy⟩:=Er g2;obtain⟨a1,a2⟩:=hAy.cell;have y3:=hrN.here;have y3e:=λhh=>ag y3 hh;have g1e:=λhh=>ag g1 hh;have hrNl:=hrN.len;rw[hlm] at hrNl;have hrNi:i<rowsN.length:=(by omega);have hnl2:=(Wa.1 y3).1;have hwi:=w1 (i:=i) (by omega);have hMb:=(Az G y).lend (h:=X2++[AO.row 4 [[.p (.int .i64 y.op),.p (.int .i64 y.to),A,.p (.int .i64 y.n)]]]) (args:=[.agg [.p (.int .i64 y.op),.p (.int .i64 y.to),A,.p (.int .i64 y.n)]]) (.agg (.one (.p _) (.one (.p _) (.one (hAy.more _).view (.one (.p _) .nil)))) .nil) rfl;have hkp2:∀j,j<X.length->j∉IN->X2[j]?=X[j]?:=λj hj hn=>(hfr.2 j (by omega) hn).trans (hkp j hj);have hDI:=λj (hj:j∈IN)=>hD.i j (e7 j (by simp[hj])).1;have hkm:KMm c (KF c) p.k p.r p.o p.m X2:=hX.km.frame ⟨hkp2 _ hX.km.lt.1 (λhm=>(hDI _ hm).2.2.2.1 rfl),hkp2 _ hX.km.lt.2.1 (λhm=>(hDI _ hm).2.2.2.2.1 rfl),hkp2 _ hX.km.lt.2.2.1 (λhm=>(hDI _ hm).2.2.2.2.2.1 rfl),hkp2 _ hX.km.lt.2.2.2 (λhm=>(hDI _ hm).2.2.2.2.2.2.1 rfl)⟩;have hx3:X2[p.q3]?=some (.row 1 [[.ptr p.k 6 0 0]]):=(hkp2 _ hXl.1 (λhm=>(hDI _ hm).1 rfl)).trans hX.x0;have y2:X2[p.gid]?=some (.row 5 rows5):=(hkp2 _ hgl hgN).trans e2;have y2c:∀t,(X2++t)[p.gid]?=some (.row 5 rows5):=λt=>(by rw[Wb (Wa.1 y2).1];exact y2);have y2e:=λt hh=>ag (y2c t) hh;have y3c:∀t,(X2++t)[nid]?=some (.row 4 rowsN):=λt=>(by rw[Wb hnl2];exact y3);have y3d:=λt hh=>ag (y3c t) hh;have hgo:∀(X3:List AO) (IN3:List Nat) (z:Ii),putI (KF c).regs y=z->FrN IN X' X3->Own p.n1 X3 [.sl nid 4 0 x.ins.length] [inL ((mxT (λ_ y=>putI (KF c).regs y) x.ins i).set i z)] IN3->(∀j∈IN3,j∈IN)->(i+1<=x.ins.length/\FrN IN X' X3/\∃IN',Own p.n1 X3 [.sl nid 4 0 x.ins.length] [inL (mxT (λ_ y=>putI (KF c).regs y) x.ins (i+1))] IN'/\∀j∈IN',j∈IN):=λX3 IN3 z hz h1 h2 h3=>⟨hc2,h1,IN3,by rw[←hst2,hz];exact h2,h3⟩
     have hkeep:∀t,putI (KF c).regs y=y->(i+1<=x.ins.length/\FrN IN X' (X2++t)/\∃IN',Own p.n1 (X2++t) [.sl nid 4 0 x.ins.length] [inL (mxT (λ_ y=>putI (KF c).regs y) x.ins (i+1))] IN'/\∀j∈IN',j∈IN):=λt hz=>hgo _ _ y hz ⟨by simp;omega,λj hj hn=>by rw[Wb (by omega)];exact hfr.2 j hj hn⟩ (by
      have:(mxT (λ_ y=>putI (KF c).regs y) x.ins i).set i y=mxT (λ_ y=>putI (KF c).regs y) x.ins i:=by
       obtain⟨_,q⟩:=Wa.1 hgm2
       conv=>lhs;arg 3;rw[←q]
       exact Xl _
      rw[this];exact hNn.more t) hIN'
     simp-implicitDefEqProofs[-AV.cells,-AV.isCell,az,aO,a2,y3,g1e,hrNl,hc2];refine hMb.mono ?_;rintro zz Z ⟨rfl,rfl⟩
     by_cases hs:aI y.op=true
     ·have hmd:mdB y=y.to:=(by rw[mdB,Wz hs]);obtain⟨t0,t1⟩:=hk.uni.ir b x y hgb hmy hs;have t0':0<=y.to:=(by have:=hk.p0;omega);rw[hmd];have hNum:=λt:List AO=>Rp (v:=y.to) G (hkm.app t) (q3:=p.q3) (by rw[Wb (Wa.1 hx3).1];exact hx3) t0' t1;simp-implicitDefEqProofs[t0'];refine(hNum _).mono ?_;rintro zz Z ⟨rfl,rfl⟩;obtain⟨v,hvv⟩:∃v,v=rg (KF c).regs y.to:=⟨_,rfl⟩;rw[←hvv]
      by_cases hv0:0<=v
      ·have hpi:putI (KF c).regs y=⟨1,y.to,[],v⟩:=(by rw[putI,hvv,Wz ⟨hs,by rw[←hvv];exact hv0⟩]);simp-implicitDefEqProofs[-AV.cells,-AV.isCell,az,aO,eG,cI,hv0,y2c,e4e,hr5,y3c,hrNl,hc2,g1e];have hnIN:nid∈IN:=hIN' nid (by simp)
       obtain⟨J',r1,r2⟩:=g4 ((X2++[AO.row 4 [[.p (.int .i64 y.op),.p (.int .i64 y.to),A,.p (.int .i64 y.n)]],AO.row 4 [[.p (.int .i64 1),.p (.int .i64 y.to),.nils,.p (.int .i64 v)]]]).set nid (.row 4 (rowsN.set i [.p (.int .i64 1),.p (.int .i64 y.to),.nils,.p (.int .i64 v)]))) [.p (.int .i64 1),.p (.int .i64 y.to),.nils,.p (.int .i64 v)] (Ii.cs ⟨1,y.to,[],v⟩) [] (Wh (by simp;omega)) (λj hj _=>by
        have hjl:=hNn.lt j (by simp[hj]);have hjn:nid≠j:=λe=>(WR.1 hNn.nd).1 (by rw[e];exact hj);rw[Wd hjn,Wb hjl]) (rz (x:=⟨1,y.to,[],v⟩) (Own.nil _ _ 1)) (λj hj=>by cases hj) rfl
       rw[←Ym,hlm] at r1
       exact⟨⟨i+1,_⟩,hgo _ (nid::J') _ hpi ⟨by simp;omega,λj hj hn=>by
        have hjn:nid≠j:=λe=>hn (e▸hnIN);rw[Wd hjn,Wb (by omega)];exact hfr.2 j hj hn⟩ r1 (λj hj=>by
        rcases WE.1 hj with rfl|hj
        ·exact hnIN
        ·rcases r2 j hj with h1|h1
         ·exact hIN' j (by simp[h1])
         ·cases h1),by simp only;omega,aa (We _) (by simp[below,hwi];(repeat' apply And.intro)<;>first|omega|exact hbw _ (by omega)|exact hba _ (by omega)|exact hbd _ (by omega))⟩
      ·have hpi:putI (KF c).regs y=y:=(by rw[putI,WB (λe=>hv0 (by rw[hvv];exact e.2))]);simp-implicitDefEqProofs[hv0];exact⟨⟨i+1,_⟩,hkeep _ hpi,by simp only;omega,aa (We _) (by simp[below,hwi];(repeat' apply And.intro)<;>first|omega|exact hbw _ (by omega)|exact hba _ (by omega)|exact hbd _ (by omega))⟩
     ·have hmd:mdB y= -1:=(by rw[mdB,WB hs]);have hpi:putI (KF c).regs y=y:=(by rw[putI,WB (λe=>hs e.1)]);rw[hmd];simp-implicitDefEqProofs[];exact⟨⟨i+1,_⟩,hkeep _ hpi,by simp only;omega,aa (We _) (by simp[below,hwi];(repeat' apply And.intro)<;>first|omega|exact hbw _ (by omega)|exact hba _ (by omega)|exact hbd _ (by omega))⟩
    ·have hc2:x.ins.length<=i:=(by simpa using hc2);rw[jn hc2] at hNn
     have hmm:(x.ins.mapIdx λ_ y=>putI (KF c).regs y)=x.ins.map (putI (KF c).regs):=by
      refine WT λk=>?_;rw[WH,Wl]
     rw[hmm] at hNn;exact⟨⟨0,a,d,w,X2⟩,⟨hfr,IN',hNn,hIN'⟩,aa (We _) (by simp[below];(repeat' apply And.intro)<;>first|omega|exact hbw _ (by omega)|exact hba _ (by omega)|exact hbd _ (by omega))⟩
  ·clear f2 f2e;rintro⟨_,_,_,_,X2⟩ ⟨hfr,IN',hNn,hIN'⟩;simp only at hfr hNn hIN'⊢;have hXf:=hfr.1;have hDo2:Own X.length X2 [d] [inL (aB (KF c).regs x.phis)] Ib:=hDo.frame λj hj=>hfr.2 j (hDo.lt j hj) λhm=>by have:=hDo.ge j hj;have:=hN.lt j hm;omega
   have hDo3:Own p.n1 X2 [d] [inL (aB (KF c).regs x.phis)] Ib:=⟨hDo2.own,hDo2.nd,hDo2.no,hDo2.nv,λj hj=>Xw hn1X (hDo2.ge j hj)⟩;have hIbX:∀j∈Ib,X.length<=j/\j<X'.length:=λj hj=>⟨hDo.ge j hj,hDo.lt j hj⟩;have hINX:∀j∈IN,j<X.length:=hN.lt;have hfl:(aB (KF c).regs x.phis).length<=x.phis.length:=(by rw[aB,Wj];exact Xk _ _);have hjb:=(h.bk hgb).1;have hla:((aB (KF c).regs x.phis).map Ii.cs).length=(aB (KF c).regs x.phis).length:=Wj ..
   have hlb:((x.ins.map (putI (KF c).regs)).map Ii.cs).length=x.ins.length:=(by rw[Wj,Wj]);obtain⟨V,H3,IV,happ,hVo,hIV,hl3,hf3⟩:=Own.cat (b:=48) (D:=(aB (KF c).regs x.phis).map Ii.cs) (E:=(x.ins.map (putI (KF c).regs)).map Ii.cs) hDo3 hNn (λj hj hm=>by have:=(hIbX j hj).1;have:=hINX j (hIN' j hm);omega) (λe he=>by obtain⟨_,_,rfl⟩:=Ww.1 he;rfl) (by omega) (by rw[hla,hlb];omega);rw[←WF] at hVo;have hVo2:Own p.n1 H3 [V] [inL (aB (KF c).regs x.phis++x.ins.map (putI (KF c).regs))] IV:=hVo;obtain⟨v1,v2⟩:=hVo2.cell;have hTl:=hT.lt;have hTI:p.T∉I:=λhm=>(hD.i _ hm).2.2.1 rfl;have hgT:p.gid≠p.T:=λe=>hTI (e▸e6);have hkp2:∀j,j<X.length->j∉IN->X2[j]?=X[j]?:=λj hj hn=>(hfr.2 j (by omega) hn).trans (hkp j hj);have hkp3:∀j,j<X.length->j∉IN->H3[j]?=X[j]?:=λj hj hn=>(hf3 j (by omega) λhm=>by have:=(hIbX j hm).1;omega).trans (hkp2 j hj hn);have hTN:p.T∉IN:=λhm=>hTI (e7 _ (by simp[hm])).1;have y2:X2[p.gid]?=some (.row 5 rows5):=(hkp2 _ hgl hgN).trans e2;have y2e:=λhh=>ag y2 hh;have y3:H3[p.gid]?=some (.row 5 rows5):=(hkp3 _ hgl hgN).trans e2;have y3e:=λhh=>ag y3 hh;have yT:H3[p.T]?=some (.row 1 rows):=(hkp3 _ hTl.1 hTN).trans hT.tt;have hgl3:p.gid<H3.length:=(by omega);have hTl3:p.T<H3.length:=(by omega);have s1:∀t,(H3.set p.gid t)[p.gid]?=some t:=λt=>Wh hgl3;have s1e:=λt hh=>ag (s1 t) hh;have s2:∀t,(H3.set p.gid t)[p.T]?=some (.row 1 rows):=λt=>(by rw[Wd hgT];exact yT);have s2e:=λt hh=>ag (s2 t) hh;have s5:∀t,(rows5.set b t)[b]?=some t:=λt=>Wh hr5;have s5e:=λt hh=>ag (s5 t) hh;have hr6:∀t,b<(rows5.set b t).length:=λt=>(by rw[Wy];exact hr5);have hrl:=hT.rl;obtain⟨AT,hAT⟩:=hT.r1 b hcc;have hATe:=λhh=>ag hAT hh;have hbr:b<rows.length:=(by omega);simp-implicitDefEqProofs[-elems,-AV.cells,-AV.isCell,n2,ac1,ac2,wc1,wc2,v1,v2,y2,y3,e4e,hr5,happ,s1,s2,s5e,hATe,hcc,hrl,Yf];have hWJ:RowM X' w (kWL (KF c).regs (ab c.blocks b) x.phis) Jw:=hW;have hge:∀j∈Jw,j<X'.length:=hWJ.lt;have ndE:=WG.1 e5.nd
   have hIa:∀j∈Ia,(j∈IP\/X.length<=j)/\j≠p.gid/\j≠p.T/\j∉Ib/\j∉IN/\j<X'.length:=λj hj=>by
    have h1:=d1 j hj;refine⟨h1.1,λe=>?_,λe=>?_,h1.2.1,λhm=>?_,hA.lt j hj⟩
    ·rcases h1.1 with h2|h2
     ·exact(e7 j (by simp[h2])).2 e
     ·omega
    ·rcases h1.1 with h2|h2
     ·exact hTI (e▸(e7 j (by simp[h2])).1)
     ·omega
    ·rcases h1.1 with h2|h2
     ·exact ndE.2.2 j h2 j (by simp[hm]) rfl
     ·have:=hINX j hm;omega
   have hJwn:∀j∈Jw,(j∈JJ b\/X.length<=j)/\j≠p.gid/\j≠p.T/\j∉Ib/\j∉IN:=λj hj=>by
    have h1:=d2 j hj;refine⟨h1.1,λe=>?_,λe=>?_,h1.2.2,λhm=>?_⟩
    ·rcases h1.1 with h2|h2
     ·exact(hD.j b hcc j h2).1 (e▸e6)
     ·omega
    ·rcases h1.1 with h2|h2
     ·exact hT.nT b hcc (by omega) (e▸h2)
     ·omega
    ·rcases h1.1 with h2|h2
     ·exact(hD.j b hcc j h2).1 (e7 j (by simp[hm])).1
     ·have:=hINX j hm;omega
   generalize hYd:(H3.set p.gid (AO.row 5 (rows5.set b [a,V,.p (.int .i64 y.jump),.p (.int .i64 y.on),Q]))).set p.T (.row 1 (rows.set b [w]))=Y;have hY:∀j,j≠p.gid->j≠p.T->Y[j]?=H3[j]?:=λj h1 h2=>(by rw[←hYd,Wd (Ne.symm h2),Wd (Ne.symm h1)]);have hYl:X.length<=Y.length:=(by rw[←hYd];simp;omega);have hY2:∀j,j<X'.length->j∉Ib->j∉IN->j≠p.gid->j≠p.T->Y[j]?=X'[j]?:=λj h1 h2 h3 h4 h5=>(hY j h4 h5).trans ((hf3 j (by omega) h2).trans (hfr.2 j h1 h3))
   have hIVn:∀j∈IV,j∈Ib\/j∈IN\/j=X2.length:=λj hj=>by
    rcases hIV j hj with h1|h1|h1
    ·exact .inl h1
    ·exact .inr (.inl (hIN' j h1))
    ·exact .inr (.inr h1)
   have hgo:=NQ (Y:=Y) (z:=lL (KF c).regs b x) (a:=a) (V:=V) (w:=w) (Ia:=Ia) (IV:=IV) (Jw:=Jw) (l:=kWL (KF c).regs (ab c.blocks b) x.phis) hX hV hT hD hcc hr5 e6 e7 e5.nd e8 hQ (by rw[hy];exact⟨rfl,rfl,rfl⟩) hYl (by rw[←hYd,Wd (Ne.symm hgT)];exact s1 _) (by rw[←hYd];exact Wh (by simp;omega))
    (λj h1 h2 h3 h4=>(hY j h2 h3).trans (hkp3 j h1 h4)) (hA.frame λj hj=>by have h1:=hIa j hj;exact hY2 j h1.2.2.2.2.2 h1.2.2.2.1 h1.2.2.2.2.1 h1.2.1 h1.2.2.1) (λj hj=>(hIa j hj).1)
    (hVo2.frame λj hj=>hY j (λe=>by
      rcases hIVn j hj with h1|h1|h1
      ·have:=(hIbX j h1).1;omega
      ·exact hgN (e▸h1)
      ·omega) λe=>by
      rcases hIVn j hj with h1|h1|h1
      ·have:=(hIbX j h1).1;omega
      ·exact hTN (e▸h1)
      ·omega) (λj hj=>by
      rcases hIVn j hj with h1|h1|h1
      ·exact .inr (hIbX j h1).1
      ·exact .inl h1
      ·exact .inr (by omega))
    (hWJ.frame λj hj=>by have h1:=hJwn j hj;exact hY2 j (hge j hj) h1.2.2.2.1 h1.2.2.2.2 h1.2.1 h1.2.2.1) (λj hj=>(hJwn j hj).1)
    (λj hj hm=>by
      have h1:=hIa j hj;rcases hIVn j hm with h2|h2|h2
      ·exact h1.2.2.2.1 h2
      ·exact h1.2.2.2.2.1 h2
      ·omega) (λj hj=>(d2 j hj).2.1) (λj hj hm=>by
      have h1:=hJwn j hj;rcases hIVn j hm with h2|h2|h2
      ·exact h1.2.2.2.1 h2
      ·exact h1.2.2.2.2 h2
      ·have:=hge j hj;omega)
   rw[Yf,hms] at hgo
   have hLL:(λi=>if i=b then kWL (KF c).regs (ab c.blocks b) x.phis else if i<b then phK (KF c).regs c i else phF c i)=λi=>if i<b+1 then phK (KF c).regs c i else phF c i:=by
    funext i
    by_cases e:i=b
    ·subst e;rw[Wz rfl,Wz (by omega),phK,hgb]
    ·rw[WB e]
     by_cases e2:i<b
     ·rw[Wz e2,Wz (by omega)]
     ·rw[WB e2,WB (by omega)]
   rw[hLL] at hgo;have hYl2:=hgo.lt;exact⟨⟨b+1,Y⟩,⟨hcc,hgo⟩,by simp only;omega,aa (We _) (by simp[below,hwb];omega)⟩
 ·have hcc:c.blocks.length<=b:=by simpa using hcc
  obtain rfl:b=c.blocks.length:=by omega
  rw[jn (Wo _)] at hX;obtain⟨I,rows,JJ,hV,hT,hD⟩:=hX.own;have hml:(c.blocks.mapIdx (lL (KF c).regs)).length=c.blocks.length:=XN ..
  have hgm:∀(i:Nat) (x:Bk),(c.blocks.mapIdx (lL (KF c).regs))[i]?=some x->∃x0,c.blocks[i]?=some x0/\x=lL (KF c).regs i x0:=λi x hi=>by
   rw[WH] at hi;cases hx0:c.blocks[i]? with
   |none=>rw[hx0] at hi;cases hi
   |some x0=>rw[hx0] at hi;exact⟨x0,rfl,(Option.some.inj hi).symm⟩
  have hT2:TabH X p.T (c.blocks.mapIdx (lL (KF c).regs)).length rows (phK (KF c).regs c) JJ (c.blocks.mapIdx (lL (KF c).regs)).length:=by
   rw[hml];exact⟨hT.tt,hT.rl,hT.r1,λi A hi hq hA=>by have:=hT.rw i A hi hq hA;rw[Wz hi] at this;exact this,hT.nT,hT.dj⟩
  have hn1:=hX.n1
  have hSe:=Ft (n:=p.n1) (X:=X) (q:=p.xw) (T:=p.T) (pm:=c.params) (rg:=c.regs) G hX.xx hV (λhm=>(hD.i _ hm).2.1 rfl) hn1 hT2 (λhm=>(hD.i _ hm).2.2.1 rfl) (λi hi j hj=>(hD.j i (by omega) j hj).1)
   (λi x hi=>by obtain⟨x0,h1,rfl⟩:=hgm i x hi;simp only[phK,h1];exact Wj ..) (by omega) (by omega)
   (λx hx=>by
     obtain⟨i,hi⟩:=WA hx;obtain⟨x0,h1,rfl⟩:=hgm i x hi;have h2:=(h.bk h1).2.1;show(bE (KF c).regs x0).next.length<=_;rw[bE];split
     ·simp
     ·omega)
   (λx hx=>by
     obtain⟨i,hi⟩:=WA hx;obtain⟨x0,h1,rfl⟩:=hgm i x hi;have h2:=(h.bk h1).1;have h3:(aM (KF c).regs x0.phis).length<=x0.phis.length:=Xk _ _;show(aM (KF c).regs x0.phis).length<=_;omega)
  rw[hml,Np h] at hSe;have hXl:=hX.lt;simp-implicitDefEqProofs[];refine hSe.mono ?_;rintro zz Y ⟨rfl,I',g1,g2,g3,g4⟩;have hgD:=hD.i;have hx1:Y[1]?=some (.row 3 [[.p (.int .i64 0),.p (.int .i64 0),.nils]]):=(g4.2 _ hXl.2.2.2.1 λhm=>(hgD _ hm).2.2.2.2.2.2.2 rfl).trans hX.x1;have hRo:=AC.ownLend G bC (hRO _ (Ex h (KF c).regs)) (h:=Y) (args:=[.agg [.p (.int .i64 c.params),.p (.int .i64 c.regs),.sl p.gid 5 0 c.blocks.length]]) (.agg (.one (.p _) (.one (.p _) (.one g2.view .nil))) .nil);have g1e:=λhh=>ag g1 hh;simp-implicitDefEqProofs[-AV.cells,-AV.isCell,g1];refine hRo.mono ?_;rintro zz Z ⟨vs,I3,os,rfl,rfl,hO⟩;obtain⟨B',rfl,hB'⟩:=jG hO;obtain⟨c1,c2⟩:=hB'.cell;have hYl:=(Wa.1 hx1).1;have hx1':∀t,(Y++t)[1]?=some (.row 3 [[.p (.int .i64 0),.p (.int .i64 0),.nils]]):=λt=>by rw[Wb hYl];exact hx1
  have hx1e:=λt hh=>ag (hx1' t) hh;have hs1:∀t o,((Y++t).set 1 o)[1]?=some o:=λt o=>Wh (by simp;omega);have hs1e:=λt o hh=>ag (hs1 t o) hh;simp-implicitDefEqProofs[-AV.cells,-AV.isCell,az,aO,c2,hx1',hs1];have hfin:=nB (c:=mh c) (hB'.frame (h2:=(Y++os).set 1 (.row 3 [[.p (.int .i64 c.params),.p (.int .i64 c.regs),B']])) λj hj=>Wd λe=>by have:=hB'.ge j hj;omega);exact⟨_,I3,rfl,⟨hfin.own,hfin.nd,hfin.no,hfin.nv,λ_ _=>We _⟩⟩
end
end Go.Proofs.YtigmcjbgnmpbeaaGreat
