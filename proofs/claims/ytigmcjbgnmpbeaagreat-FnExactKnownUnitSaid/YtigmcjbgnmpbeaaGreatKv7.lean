/-
  Contracts and lemmas that the card needs, part 7.
-/
import Derived.Test.YtigmcjbgnmpbeaaGreatKv6
import Derived.Test.YtigmcjbgnmpbeaaGreatChecked
import Derived.Shelf.Sort.AssemblyIn
import Derived.Shelf.Slices.CompactI
import Derived.Lib.SlicesCompact
import Derived.Shelf.Sort.Plain
import Derived.Shelf.Slices.In.SortNone
namespace Go.Proofs.YtigmcjbgnmpbeaaGreat
open Go Go.Aw
set_option maxRecDepth 100000
set_option maxHeartbeats 4000000
section
theorem Bw:AK.whole jS=FK.ak jV:=rfl
noncomputable def iI (bs:List Bk):List Bool:=(List.range bs.length).map (cz bs)
noncomputable def rwL (bs:List Bk) (a:Nat):List Bool:=(List.range bs.length).map (rwB bs a)
noncomputable def gF (bs:List Bk) (a:Nat):List Bool:=(List.range bs.length).map (rE bs a)
def boL(l:List Bool):PV:= .lst 1 (l.map λb=>[.bool b])
noncomputable def CZ (bs:List Bk):PV:= .lst 1 ((List.range bs.length).map λi=>[boL (gF bs i)])
theorem mU{a b:List Bool}(hl:a.length=b.length)(h:∀x,x<a.length->sn a x=sn b x):a=b:=by
 refine WT λi=>?_
 by_cases hi:i<a.length
 ·rw[nt hi,nt (by omega),h i hi]
 ·rw[WS (by omega),WS (by omega)]
theorem vf{n:Nat}{f:Nat->Bool}{x:Nat}(h:x<n):sn ((List.range n).map f) x=f x:=by simp[sn,Wv,h]
theorem PB{bs:List Bk}(h:be bs=true){f:Nat}(hf:bs.length<=f):(dfs (nxC bs) f (List.replicate bs.length false,[]) 0).1=iI bs:=by
 have hl:=((Ao (nxC bs) f).2 0 (List.replicate bs.length false,[]) (by rw[fc];have:=cf h;exact decide_eq_false (by omega)) (by rw[jB];exact hf)).2.1;rw[Xs] at hl;refine mU (by rw[hl,iI];simp) λx hx=>?_;rw[hl] at hx;rw[QH h hf hx,iI,vf hx]
theorem OY(bs:List Bk)(a:Nat):rwB bs a a=false:=by rw[←Zm,tu];exact λh=>h.ok rfl
theorem Pi(bs:List Bk)(x:Nat):rwB bs 0 x=false:=by rw[←Zm,tu];exact λh=>(Dom.root h.rch).2.2 h
theorem FA{bs:List Bk}(h:be bs=true){a:Nat}(ha:a≠0)(hal:a<bs.length){f:Nat}(hf:bs.length<=f):((dfs (nxC bs) f ((List.replicate bs.length false).set a true,[]) 0).1).set a false=rwL bs a:=by
 have h0:sn ((List.replicate bs.length false).set a true) 0=false:=by rw[kI,fc];have:=cf h;rw[decide_eq_false (by omega),decide_eq_false (Ne.symm ha)];rfl
 have hl:=((Ao (nxC bs) f).2 0 ((List.replicate bs.length false).set a true,[]) h0 (by have:=Av ((List.replicate bs.length false).set a true);simp at this⊢;omega)).2.1;rw[Wy,Xs] at hl;refine mU (by rw[Wy,hl,rwL];simp) λx hx=>?_;rw[Wy,hl] at hx;rw[rwL,vf hx]
 by_cases e:x=a
 ·subst e;rw[OY,sn,Wv,Wh (by omega)];rfl
 ·rw[←Gf h ha hal hf hx e,sn,sn,Wv,Wv,Wd (Ne.symm e)]
theorem Pg{bs:List Bk}:List.replicate bs.length false=rwL bs 0:=by
 refine mU (by simp[rwL]) λx hx=>?_;rw[Xs] at hx;rw[rwL,vf hx,Pi,fc];simp;omega
theorem tU(bs:List Bk):(iI bs).length=bs.length:=by simp[iI]
theorem Ea(bs:List Bk)(a:Nat):(rwL bs a).length=bs.length:=by simp[rwL]
theorem fQ(bs:List Bk)(a:Nat):(gF bs a).length=bs.length:=by simp[gF]
noncomputable def my (bs:List Bk) (i j:Nat):List Bool:=(gF bs i).take j++List.replicate (bs.length-j) false
theorem Hc(bs:List Bk)(i:Nat)(j:Nat)(h:j<=bs.length):(my bs i j).length=bs.length:=by simp[my,fQ];omega
theorem DT(bs:List Bk)(i:Nat):my bs i 0=List.replicate bs.length false:=by simp[my]
theorem FE(bs:List Bk)(i:Nat):my bs i bs.length=gF bs i:=by rw[my,Wi (by rw[fQ];exact Wo _)];simp
theorem Dt{bs:List Bk}{i j:Nat}(h:j<bs.length):(my bs i j).set j (rE bs i j)=my bs i (j+1):=by
 have hl:((gF bs i).take j).length=j:=by rw[WD,fQ];omega
 have ht:(gF bs i).take (j+1)=(gF bs i).take j++[rE bs i j]:=by rw[aq (by rw[fQ];exact h)];simp[gF]
 rw[my,my,ht,Xy _ _ (by omega),hl,Xd,show bs.length-j=(bs.length-(j+1))+1 by omega,XT,XY,Wp];rfl
structure DmS where (i:Nat) (X:List AO) (o:Nat) (rows:List (List AV))
theorem AH(n:Nat):List.replicate n [AV.p (PV.bool false)]=aG (List.replicate n false):=by simp[aG]
variable (G:aw)
theorem IY(c:Cd)(hc:CBd c)(hfit:be c.blocks=true):AC Tryz.prog G gd [.agg (c.cs.map .p)] [] λx h=>∃o rows,x= .ret (.sl o 1 0 c.blocks.length)/\h[o]?=some (.row 1 rows)/\rows.length=c.blocks.length/\∀k,k<c.blocks.length->∃id,rows[k]?=some [.sl id 1 0 c.blocks.length]/\h[id]?=some (.row 1 (aG (gF c.blocks k))):=by
 have hcs:=c.cs_eq2;have hbl:bkL c.blocks= .lst 5 (c.blocks.map Bk.cs):=rfl;have hl1:=hc.1;have hpos:=cf hfit;have hrow:=PB hfit (Wo _);obtain⟨n,hn⟩:∃n,n=c.blocks.length:=⟨_,rfl⟩;have hwt:=λ(a:Nat) (ha:a≠0) (hal:a<c.blocks.length)=>FA hfit ha hal (Wo _);have hzr:=Pg (bs:=c.blocks);have hsl:(List.replicate c.blocks.length false).length=c.blocks.length:=Xs;refine AC.goK BT Bw ?_;simp-implicitDefEqProofs[jS,jV,hcs,hbl,AH];refine⟨by omega,?_⟩;have hv:=sQ G c hc hfit c.blocks.length [.row 3 [[.p (.int .i64 c.params),.p (.int .i64 c.regs),.p (.lst 5 (c.blocks.map Bk.cs))]],.row 1 [],.row 1 (aG (List.replicate c.blocks.length false)),.row 1 []] 0 2 3 (List.replicate c.blocks.length false) [] hpos hsl (by rw[fc];exact decide_eq_false (by omega)) (by rw[jB];exact Wo _) (by decide) rfl rfl (by rw[jB];simp;omega);rw[hrow,hcs,hbl,hsl] at hv;refine hv.mono ?_;rintro rr X ⟨id,rfl,hdX1,x2,hdX2,x4,x5,x6⟩;have y0:=x6 0 (by simp) (by decide) (by decide);have y1:=x6 1 (by simp) (by decide) (by decide);simp only[WC,WL,XP,Ya] at x5 y0 y1;clear x6 hv;simp-implicitDefEqProofs[]
 refine am (λa:DmS=>aj 74 [(6,.p (.int .i64 a.i)),(1,.ptr 0 3 0 0),(3,.p (.int .i64 c.blocks.length)),(4,.sl a.o 1 0 a.i),(5,.sl 2 1 0 c.blocks.length)]) (λa=>a.X)
  (λa=>a.i<=c.blocks.length/\a.X[0]?=some (.row 3 [[.p (.int .i64 c.params),.p (.int .i64 c.regs),.p (.lst 5 (c.blocks.map Bk.cs))]])/\a.X[2]?=some (.row 1 (aG (iI c.blocks)))/\a.X[a.o]?=some (.row 1 a.rows)/\a.o≠0/\a.o≠2/\a.rows.length=a.i/\∀k,k<a.i->∃id,id≠a.o/\a.rows[k]?=some [.sl id 1 0 c.blocks.length]/\a.X[id]?=some (.row 1 (aG (gF c.blocks k)))) (λa=>c.blocks.length-a.i) ⟨0,X,1,[]⟩ ⟨We _,y0,x2,y1,by simp,by simp,rfl,λk hk=>absurd hk (Zs _)⟩ (aa (We _) (by simp[below];omega)) ?_
 clear y0 y1 x2 x4 x5 hdX1 hdX2 X;rintro⟨i,X,o,rows⟩ ⟨hi,g0,g1,g2,ho0,ho2,hrl,hro⟩;simp only at hi g0 g1 g2 ho0 ho2 hrl hro;have hol:=(Wa.1 g2).1;have h2l:=(Wa.1 g1).1;simp-implicitDefEqProofs[];refine aA (λhc1=>?_) (λhc1=>?_)
 ·simp at hc1;have hw1:=w1 (i:=i) (by omega);have hgX:∀t j,j<X.length->(X++t)[j]?=X[j]?:=λt j hj=>Wb hj;have hri:i<(aG (List.replicate c.blocks.length false)).length:=by rw[jT,hsl];exact hc1
  have e2:∀hh,(aG (List.replicate c.blocks.length false))[i]'hh=[.p (.bool false)]:=λhh=>by simp[aG]
  have hX0:∀t,(X++t)[0]?=some (.row 3 [[.p (.int .i64 c.params),.p (.int .i64 c.regs),.p (.lst 5 (c.blocks.map Bk.cs))]]):=λt=>by rw[hgX _ _ (by omega)];exact g0
  have hX1:∀t hh,(X++t)[0]'hh= .row 3 [[.p (.int .i64 c.params),.p (.int .i64 c.regs),.p (.lst 5 (c.blocks.map Bk.cs))]]:=λt hh=>by
   have:=hX0 t;rw[Wc hh] at this;exact Option.some.inj this
  have e3:∀(l:List Bool) (v:Bool),l.length=c.blocks.length->∀hh,(aG (l.set i v))[i]'hh=[.p (.bool v)]:=λl v hl hh=>by simp[aG]
  have e4:∀(l:List Bool) (v:Bool),l.length=c.blocks.length->(aG (l.set i v))[i]?=some [.p (.bool v)]:=λl v hl=>bh (by rw[Wh (by omega)]);simp-implicitDefEqProofs[AH,hri,e2,bP];refine⟨by omega,hc1,?_⟩
  refine dc (λY:List AO=>aj 74 [(7,.sl X.length 1 0 c.blocks.length),(6,.p (.int .i64 i)),(1,.ptr 0 3 0 0),(3,.p (.int .i64 c.blocks.length)),(4,.sl o 1 0 i),(5,.sl 2 1 0 c.blocks.length)]) (λY=>Y)
   (λY=>X.length<Y.length/\(∀j,j<X.length->Y[j]?=X[j]?)/\Y[X.length]?=some (.row 1 (aG (rwL c.blocks i)))) ?_ ?_
  ·by_cases hiz:i=0
   ·subst hiz;simp-implicitDefEqProofs[e4,bP];refine⟨hc1,_,?_,aa (We _) (by simp[below];omega)⟩;refine⟨by simp,λj hj=>Wb hj,?_⟩;rw[Wg (Wo _),←hzr]
    have hs0:(List.replicate c.blocks.length false).set 0 false=List.replicate c.blocks.length false:=by cases c.blocks<;>simp[XT]
    simp[]
   ·simp-implicitDefEqProofs[hiz];have hv:=sQ G c hc hfit c.blocks.length (X++[AO.row 1 (aG ((List.replicate c.blocks.length false).set i true)),.row 1 []]) 0 X.length (X.length+1) ((List.replicate c.blocks.length false).set i true) [] hpos (by simp) (by rw[kI,fc,decide_eq_false (by omega),decide_eq_false (by omega)];rfl) (by have:=Av ((List.replicate c.blocks.length false).set i true);simp at this⊢;omega) (by omega) (by rw[Wg (Wo _)];simp) (by rw[Wg (by omega)];simp[ae,an]) (by have:=Av ((List.replicate c.blocks.length false).set i true);simp at this⊢;omega);rw[hcs,hbl,Wy,hsl] at hv;simp-implicitDefEqProofs[hX1];refine hv.mono ?_;rintro rr Y ⟨id,rfl,d1,d2,d3,d4,d5,d6⟩;simp only[Wn,WC,WL] at d4 d5 d6
    have hzl:(dfs (nxC c.blocks) c.blocks.length ((List.replicate c.blocks.length false).set i true,[]) 0).1.length=c.blocks.length:=by
     have:=congrArg List.length (hwt i hiz hc1);rw[Wy,Ea] at this;exact this
    have hwi:=hwt i hiz hc1;generalize (dfs (nxC c.blocks) c.blocks.length ((List.replicate c.blocks.length false).set i true,[]) 0).1=Z at d2 hzl hwi;have e5:=bh (nt (l:=Z) (i:=i) (by omega));simp-implicitDefEqProofs[d2,e5,bP,hwi];refine⟨hc1,_,⟨?_,?_,?_⟩,aa (We _) (by simp[below];omega)⟩
    ·simp;omega
    ·intro j hj;rw[Wd (by omega),d6 j (by omega) (by omega) (by omega),Wb hj]
    ·rw[Wh (by omega)]
  ·rintro Y ⟨q1,q2,q3⟩;have hYo:Y[o]?=some (.row 1 rows):=by rw[q2 _ hol];exact g2
   have hY2:Y[2]?=some (.row 1 (aG (iI c.blocks))):=(by rw[q2 _ h2l];exact g1);simp-implicitDefEqProofs[AH];refine⟨by omega,?_⟩;have hD:∀j,j<c.blocks.length->(my c.blocks i j).set j (rE c.blocks i j)=my c.blocks i (j+1):=λj hj=>Dt hj;have hDl:=Hc c.blocks i;have hYl:∀(t:List AO) j,j<Y.length->(Y++t)[j]?=Y[j]?:=λt j hj=>Wb hj;have hr1:∀j,j<c.blocks.length->(aG (iI c.blocks))[j]?=some [.p (.bool (cz c.blocks j))]:=λj hj=>bh (by rw[iI];simp[hj]);have hr2:∀j,j<c.blocks.length->(aG (rwL c.blocks i))[j]?=some [.p (.bool (rwB c.blocks i j))]:=λj hj=>bh (by rw[rwL];simp[hj]);rw[←DT c.blocks i]
   refine am (λj:Nat=>aj 74 [(9,.p (.int .i64 j)),(8,.sl Y.length 1 0 c.blocks.length),(7,.sl X.length 1 0 c.blocks.length),(6,.p (.int .i64 i)),(1,.ptr 0 3 0 0),(3,.p (.int .i64 c.blocks.length)),(4,.sl o 1 0 i),(5,.sl 2 1 0 c.blocks.length)])
    (λj=>Y++[.row 1 (aG (my c.blocks i j))]) (λj=>j<=c.blocks.length) (λj=>c.blocks.length-j) 0 (We _) (aa (We _) (by simp[below];omega)) ?_
   intro j hj;have y2:∀t,(Y++t)[2]?=some (.row 1 (aG (iI c.blocks))):=λt=>(by rw[hYl _ _ (by omega)];exact hY2);have y3:∀t,(Y++t)[X.length]?=some (.row 1 (aG (rwL c.blocks i))):=λt=>(by rw[hYl _ _ (by omega)];exact q3);simp-implicitDefEqProofs[];refine aA (λhc2=>?_) (λhc2=>?_)
   ·simp at hc2;have r1:=hr1 i hc1;have r2:=hr1 j hc2;have r3:=hr2 j hc2;have hDj:=hD j hc2;have hle:j<(my c.blocks i j).length:=(by rw[hDl j hj];exact hc2);have hrj:∃z,(aG (my c.blocks i j))[j]?=some [.p (.bool z)]:=⟨_,bh (Wc hle)⟩;obtain⟨z,hz⟩:=hrj;rw[As] at hDj;have hw2:=w1 (i:=j) (by omega);clear hr1 hr2 hD hDl hle;cases c1:cz c.blocks i with
    |false=>
     rw[c1] at r1 hDj;simp only[ZR] at hDj;simp-implicitDefEqProofs[y2,r1,hz,bP,hDj];exact⟨hc1,hc2,j+1,by omega,by omega,aa (We _) (by simp[below,hw2];omega)⟩
    |true=>
     rw[c1] at r1 hDj;cases c2:cz c.blocks j with
     |false=>
      rw[c2] at r2 hDj;simp only[ZR,Yw] at hDj;simp-implicitDefEqProofs[y2,r1,r2,hz,bP,hDj];exact⟨hc1,hc2,j+1,by omega,by omega,aa (We _) (by simp[below,hw2];omega)⟩
     |true=>
      rw[c2] at r2 hDj;simp only[ZU] at hDj;simp-implicitDefEqProofs[y2,y3,r1,r2,r3,hz,bP,hDj];exact⟨hc1,hc2,j+1,by omega,by omega,aa (We _) (by simp[below,hw2];omega)⟩
   ·simp at hc2;have hje:j=c.blocks.length:=(by omega);subst hje;rw[FE];have y4:∀t,(Y++t)[o]?=some (.row 1 rows):=λt=>(by rw[hYl _ _ (by omega)];exact hYo);have htk:rows.take i=rows:=Wi (by omega);simp-implicitDefEqProofs[y4,hrl,htk];refine⟨by omega,⟨i+1,_,Y.length+2,rows++[[.sl Y.length 1 0 c.blocks.length]]⟩,⟨hc1,?_,?_,?_,by simp only;omega,by simp only;omega,by simp[hrl],?_⟩,by simp only;omega,aa (We _) (by simp[below,hw1]<;>omega)⟩
    ·simp only;rw[Wb (by simp<;>omega),Wd (by omega),hYl _ _ (by omega),q2 _ (by omega)];exact g0
    ·simp only;rw[Wb (by simp<;>omega),Wd (by omega),hYl _ _ (by omega)];exact hY2
    ·simp only;rw[Wg (by simp)];simp
    ·intro k hk;simp only at hk⊢
     by_cases hki:k=i
     ·subst hki;refine⟨Y.length,by omega,by rw[Wg (by omega),hrl];simp,?_⟩;rw[Wb (by simp),Wd (by omega),Wg (by omega)];simp
     ·obtain⟨id,e1,e2,e3⟩:=hro k (by omega);have hidl:=(Wa.1 e3).1;refine⟨id,by omega,by rw[Wb (by omega)];exact e2,?_⟩;rw[Wb (by simp<;>omega),Wd (by omega),hYl _ _ (by omega),q2 _ hidl];exact e3
 ·simp at hc1;have hie:i=c.blocks.length:=by omega
  subst hie;simp-implicitDefEqProofs[];exact⟨rows,g2,hrl,λk hk=>(hro k hk).elim λid h=>⟨id,h.2⟩⟩
theorem ut{h:List AO}{id n:Nat}{l:List Bool}(e:h[id]?=some (.row 1 (aG l)))(hn:n=l.length):View h (.sl id 1 0 n) (boL l):=by
 have hh:aG l=(l.map λn=>[PV.bool n]).map (·.map .p):=by simp[aG]
 rw[hh] at e;exact tC e (by simpa using hn) (λx hx=>by obtain⟨b,_,rfl⟩:=Ww.1 hx;rfl)
theorem Lg(c:Cd)(hc:CBd c)(hfit:be c.blocks=true):VF Tryz.prog G gd [.agg (c.cs.map .p)] (.p (CZ c.blocks)):=
 (IY G c hc hfit).freezeR (λt v h ⟨_,_,e,_⟩=>by cases e) λv h ⟨o,rows,e1,e2,e3,e4⟩=>by
   cases e1;refine .one ?_ .nil;refine DE (es:=(List.range c.blocks.length).map λi=>[boL (gF c.blocks i)]) e2 (by simpa using e3) (λe he=>by obtain⟨i,_,rfl⟩:=Ww.1 he;rfl) (λi j e q e' a a1 a2 a3 a4=>?_) (by simp)
   by_cases hi:i<c.blocks.length
   ·obtain⟨id,f1,f2⟩:=e4 i hi;rw[a3] at f1;cases f1;simp only[Wl,YJ hi,Xx,WO] at a1;subst a1;cases j with
    |zero=>
     simp only[XP,WO] at a2 a4;subst a2;subst a4;exact ut f2 (by rw[fQ])
    |succ j=>simp at a2
   ·rw[WS (by simp;omega)] at a1;cases a1
end
section
def inC(bs:List Bk)(b:Int):Bool:=be bs&&inR b 0 ((bs.length:Int)-1)
theorem Ff{bs:List Bk}{b:Int}(h:inC bs b=true):be bs=true/\0<=b/\b.toNat<bs.length/\((b.toNat:Nat):Int)=b:=by
 simp only[inC,inR,Wr,Wx] at h;exact⟨h.1,by omega,by omega,by omega⟩
theorem LJ(bs:List Bk):∃DL:List (List PV),∃BL:Nat->List (List PV),CZ bs= .lst 1 DL/\DL.length=bs.length/\(∀i,i<bs.length->DL[i]?=some [.lst 1 (BL i)])/\(∀i,(BL i).length=bs.length)/\∀i j,j<bs.length->(BL i)[j]?=some [.bool (rE bs i j)]:=
 ⟨_,λi=>(gF bs i).map λb=>[.bool b],rfl,by simp,λi hi=>by simp[hi];rfl,λi=>by simp[fQ],λi j hj=>by simp[gF,hj]⟩
end
section
def tT(xs:List Int)(k:Nat)(x:Int):List Int:=if xs[k]?=some x then xs else xs.take k++x::xs.drop k
theorem PQ(xs:List Int)(i:Nat)(x:Int)(hi:i<=xs.length):List.take (i+1) (List.take i (List.take i (List.map ((λx=>List.map AV.p x)∘λn=>[PV.int IntKind.i64 n]) xs))++[[AV.p (PV.int IntKind.i64 x)]])++List.drop i (List.take xs.length (List.map ((λx=>List.map AV.p x)∘λn=>[PV.int IntKind.i64 n]) xs))=ae (xs.take i++x::xs.drop i):=by
 have e0:List.map ((λx=>List.map AV.p x)∘λn=>[PV.int IntKind.i64 n]) xs=ae xs:=rfl;have hl:=di xs;have ht:∀z,List.take (i+1) (List.take i (ae xs)++[z])=List.take i (ae xs)++[z]:=λz=>Wi (by simp;omega);rw[e0,List.take_take,Nat.min_self,ht,Wi (l:=ae xs) (i:=xs.length) (by omega)];simp[ae,XX,ZV]
theorem Nr(xs:List Int)(x:Int):List.take (xs.length+1) (List.take xs.length (List.take xs.length (List.map ((λx=>List.map AV.p x)∘λn=>[PV.int IntKind.i64 n]) xs))++[[AV.p (PV.int IntKind.i64 x)]])=ae (xs++[x]):=by
 have e0:List.map ((λx=>List.map AV.p x)∘λn=>[PV.int IntKind.i64 n]) xs=ae xs:=rfl;have hl:=di xs;rw[e0,Wi (l:=ae xs) (by omega),Wi (l:=ae xs) (by omega),Wi (by simp[hl])];simp[ae]
variable (G:aw)
theorem GG(xs:List Int)(k:Nat)(x:Int)(hl:xs.length<=1073741824)(hk:k<=xs.length)(h1:∀y∈xs.take k,y<x)(h2:∀y,xs[k]?=some y->¬y<x):VF Tryz.prog G bY [.p (ah xs),.p (.int .i64 x)] (.p (ah (tT xs k x))):=by
 have hnl:ah xs= .lst 1 (xs.map λn=>[.int .i64 n]):=rfl
 have key:AC Tryz.prog G bY [.p (ah xs),.p (.int .i64 x)] [] λr h=>∃v,r= .ret v/\View h v (ah (tT xs k x)):=by
  refine AC.go zs ?_;simp[oh,hnl];refine am (λi:Nat=>aj 47 [(5,.p (.int .i64 i)),(0,.p (.lst 1 (xs.map λn=>[.int .i64 n]))),(1,.p (.int .i64 x))]) (λ_=>[]) (λi=>i<=k) (λi=>xs.length-i) 0 (We _) (aE rfl (by simp[below])) ?_;intro i hi
  by_cases hik:i=k
  ·subst hik
   by_cases hil:i<xs.length
   ·obtain⟨y,hge⟩:∃y,xs[i]=y:=⟨_,rfl⟩;have hg:xs[i]?=some y:=(by rw[Wc hil,hge]);have hy:=h2 y hg
    by_cases hxy:y=x
    ·subst hxy;have hI:tT xs i y=xs:=(by rw[tT,Wz hg]);rw[hI];simp[hil,hge];exact .p _
    ·have hI:tT xs i x=xs.take i++x::xs.drop i:=(by rw[tT,hg,WB (λe=>hxy (Option.some.inj e))]);have hmi:min i xs.length=i:=(by omega);simp[hil,hge,hy,hxy,hmi];refine⟨by omega,⟨by omega,by omega⟩,by omega,⟨by omega,by omega⟩,⟨by omega,by omega⟩,?_⟩;have hn:i+1+(xs.length-i)=(tT xs i x).length:=(by rw[hI];simp;omega);rw[hn];refine dN ?_;rw[hI];exact congrArg (λr=>some (AO.row 1 r)) (PQ xs i x hk)
   ·have hie:i=xs.length:=(by omega);have hI:tT xs i x=xs++[x]:=(by rw[tT,hie,WB (by simp),Xm,List.drop_length]);subst hie;simp[];refine⟨⟨by omega,by omega⟩,⟨by omega,by omega⟩,?_⟩;have hn:xs.length+1=(tT xs xs.length x).length:=(by rw[hI];simp);have hr:=Nr xs x;rw[hr,hn];exact dN (by rw[hI];rfl)
  ·have hil:i<xs.length:=by omega
   have hm:xs[i]∈xs.take k:=XV.2 ⟨i,by omega,rfl⟩;obtain⟨y,hge⟩:∃y,xs[i]=y:=⟨_,rfl⟩;rw[hge] at hm;have hy:=h1 y hm;simp[hil,hge,hy];exact⟨i+1,by omega,by omega,aE rfl (by simp[below,w1 (i:=i) (by omega)])⟩
 exact key.freezeR (λt v h ⟨_,e,_⟩=>by cases e) λv h ⟨_,e1,e2⟩=>by
  cases e1;exact .one e2 .nil
def cF(p:Nat->Bool)(n:Nat):List Int:=((List.range n).filter p).map Int.ofNat
theorem LA(p:Nat->Bool)(n:Nat):cF p (n+1)=cF p n++if p n then[(n:Int)] else[]:=by
 rw[cF,Yz,Yl,WF];cases h:p n<;>simp[cF,h]
theorem tE(p:Nat->Bool)(n:Nat):(cF p n).length<=n:=by
 rw[cF,Wj];exact Xw (Xk _ _) (by simp)
theorem jw{f:FuncId}{args:List AV}{p:PV}(H:AC Tryz.prog G f args [] λr h=>∃v,r= .ret v/\View h v p):VF Tryz.prog G f args (.p p):=
 H.freezeR (λt v h ⟨_,e,_⟩=>by cases e) λv h ⟨_,e1,e2⟩=>by
  cases e1;exact .one e2 .nil
end
section
theorem EX:AK.whole nG=FK.ak nJ:=rfl
variable (G:aw)
theorem Kl(o:Int):VF Tryz.prog G jx [.p (.int .i64 o)] (.p (.bool (inR o 1 14))):=by
 refine AC.go Ew ?_;simp[tP];refine(cb G o 1 14).use ?_;simp[]
theorem At(o:Int):VF Tryz.prog G iu [.p (.int .i64 o)] (.p (.bool (aI o))):=by
 refine AC.go Hk ?_;simp[vW];refine(Kl G o).use ?_;cases hb:inR o 1 14 with
 |false=>simp[aI,hb]
 |true=>
  by_cases h1:o=12
  ·simp[aI,h1]
  ·simp[aI,hb,h1]
theorem Mx(o:Int):VF Tryz.prog G kD [.p (.int .i64 o)] (.p (.int .i64 (da o))):=by
 refine AC.go Cc ?_
 by_cases h1:o=1
 ·simp[bO,da,h1]
 by_cases h2:o=2
 ·simp[bO,da,h2]
 by_cases h3:o=10
 ·simp[bO,da,h3]
 by_cases h4:o=11
 ·simp[bO,da,h4]
 by_cases h5:o=13
 ·simp[bO,da,h5]
 simp[bO,da,h1,h2,h3,h4,h5]
theorem GD(o:Int):VF Tryz.prog G gN [.p (.int .i64 o)] (.p (.int .i64 (nxN o))):=by
 refine AC.go vG ?_
 by_cases h1:o=1
 ·simp[cx,nxN,h1]
 by_cases h2:o=2
 ·simp[cx,nxN,h2]
 by_cases h3:o=3
 ·simp[cx,nxN,h3]
 simp[cx,nxN,h1,h2,h3]
theorem pU(o:Int):VF Tryz.prog G eA [.p (.int .i64 o)] (.p (.bool (onU o))):=by
 refine AC.go Cx ?_
 by_cases h1:o=2
 ·simp[lv,onU,h1]
 simp[lv,onU,h1]
theorem IH(l:List Int)(v:Int)(hl:l.length<=1073741824):VF Tryz.prog G eY [.p (ah l),.p (.int .i64 v)] (.p (.int .i64 (ixI (l.findIdx? λx=>decide (v=x))))):=by
 have hnl:ah l= .lst 1 (l.map λn=>[.int .i64 n]):=rfl;refine AC.go sD ?_;simp[kG,hnl];refine am (λi:Nat=>aj 19 [(8,.p (.int .i64 i)),(7,.p (.int .i64 l.length)),(0,.p (.lst 1 (l.map λn=>[.int .i64 n]))),(1,.p (.int .i64 v))]) (λ_=>[]) (λi=>i<=l.length/\∀x∈l.take i,¬v=x) (λi=>l.length-i) 0 (by simp) (aE rfl (by simp[below])) ?_;rintro i ⟨hi,hp⟩;simp[];refine aA (λhc=>?_) (λhc=>?_)
 ·simp at hc;have hg:=Wc hc;have htk:=aq hc
  have hfi:v=l[i]->(l.findIdx? λx=>decide (v=x))=some i:=λe=>by
   rw[Xe];exact⟨hc,by simpa using e,λj hj=>by have:=hp l[j] (XV.2 ⟨j,by omega,rfl⟩);simpa using this⟩
  generalize l[i]=x at hg htk hfi;simp[hg];refine aA (λhe=>?_) (λhe=>?_)
  ·have he:v=x:=by simpa using he
   rw[hfi he];simp[ixI]
  ·have he:¬v=x:=by simpa using he
   simp[];refine⟨i+1,⟨by omega,λy hy=>?_⟩,by omega,aE rfl (by simp[below,w1 (i:=i) (by omega)])⟩;rw[htk] at hy;rcases Ws.1 hy with hy|hy
   ·exact hp y hy
   ·rw[Wt.1 hy];exact he
 ·simp at hc;rw[Wi hc] at hp
  have hf:(l.findIdx? λx=>decide (v=x))=none:=by
   rw[XD];intro x hx;simpa using hp x hx
  rw[hf];simp[ixI]
theorem sB(l:List Int)(v:Int)(hl:l.length<=1073741824):VF Tryz.prog G bq [.p (ah l),.p (.int .i64 v)] (.p (.bool (decide (v∈l)))):=by
 refine AC.go oz ?_;simp[gu];refine(IH G l v hl).use ?_;simp[];cases hf:l.findIdx? λx=>decide (v=x) with
 |none=>
  rw[XD] at hf;have:¬v∈l:=λhm=>by have:=hf v hm;simp at this
  simp[ixI,this]
 |some i=>
  rw[Xe] at hf;obtain⟨h1,h2,_⟩:=hf
  have:v∈l:=by
   have h2:v=l[i]:=(by simpa using h2);rw[h2];exact Wm h1
  simp[ixI,this]
theorem uf{α:Type}(l:List α)(p:α->Bool):decide (0<=ixI (l.findIdx? p))=l.any p:=by
 cases hf:l.findIdx? p with
 |none=>
  rw[XD] at hf;have:l.any p=false:=by rw[List.any_eq_false];intro x hx;simp[hf x hx]
  simp[ixI,this]
 |some i=>
  rw[Xe] at hf;obtain⟨h1,h2,_⟩:=hf;have:l.any p=true:=by rw[List.any_eq_true];exact⟨_,Wm h1,h2⟩
  simp[ixI,this]
section
variable {h:List AO} {f:FuncId} {caps:List AV}
theorem FG(xs:List Int)(p:Int->Bool)(hl:xs.length<=1073741824)(hcap:au h.length caps)
 (hcall:∀x∈xs,AC Tryz.prog G f (.p (.int .i64 x)::caps) h λr h'=>r= .ret (.p (.bool (p x)))/\h'=h):
 AC Tryz.prog G cN [.p (ah xs),.fn (.func f) caps] h λr h'=>r= .ret (.p (.int .i64 (ixI (xs.findIdx? p))))/\h'=h:=by
 have hnl:ah xs= .lst 1 (xs.map λn=>[.int .i64 n]):=rfl;refine AC.go nn ?_;simp[fL,hnl];refine am (λi:Nat=>aj 19 [(8,.p (.int .i64 i)),(7,.p (.int .i64 xs.length)),(0,.p (.lst 1 (xs.map λn=>[.int .i64 n]))),(1,.fn (.func f) caps)]) (λ_=>h) (λi=>i<=xs.length/\∀x∈xs.take i,p x=false) (λi=>xs.length-i) 0 (by simp) (aa (Wo _) (by simp[below,hcap])) ?_;rintro i ⟨hi,hp⟩;simp[];refine aA (λhc=>?_) (λhc=>?_)
 ·simp at hc;have hg:=Wc hc;have htk:=aq hc
  have hfi:p xs[i]=true->xs.findIdx? p=some i:=λe=>by
   rw[Xe];exact⟨hc,e,λj hj=>by have:=hp xs[j] (XV.2 ⟨j,by omega,rfl⟩);simp[this]⟩
  have hcl:=hcall _ (Wm hc);generalize xs[i]=x at hg htk hfi hcl;simp[hg];refine hcl.mono ?_;rintro r h' ⟨rfl,rfl⟩;cases hpx:p x with
  |true=>
   rw[hfi hpx];simp[ixI]
  |false=>
   simp[];refine⟨i+1,⟨by omega,λy hy=>?_⟩,by omega,aa (Wo _) (by simp[below,hcap,w1 (i:=i) (by omega)])⟩;rw[htk] at hy;rcases Ws.1 hy with hy|hy
   ·exact hp y hy
   ·rw[Wt.1 hy];exact hpx
 ·simp at hc;rw[Wi hc] at hp;have hf:xs.findIdx? p=none:=by rw[XD];exact hp
  rw[hf];simp[ixI]
theorem kJ(xs:List Int)(p:Int->Bool)(hl:xs.length<=1073741824)(hcap:au h.length caps)
 (hcall:∀x∈xs,AC Tryz.prog G f (.p (.int .i64 x)::caps) h λr h'=>r= .ret (.p (.bool (p x)))/\h'=h):
 AC Tryz.prog G aF [.p (ah xs),.fn (.func f) caps] h λr h'=>r= .ret (.p (.bool (xs.any p)))/\h'=h:=by
 refine AC.go kT ?_;simp[dV];refine(FG G xs p hl hcap hcall).mono ?_;rintro r h' ⟨rfl,rfl⟩;simp[uf]
theorem Ga(xs:List Ii)(p:Ii->Bool)(hl:xs.length<=1073741824)(hcap:au h.length caps)
 (hcall:∀x∈xs,AC Tryz.prog G f (.agg (x.cs.map .p)::caps) h λr h'=>r= .ret (.p (.bool (p x)))/\h'=h):
 AC Tryz.prog G bG [.p (inL xs),.fn (.func f) caps] h λr h'=>r= .ret (.p (.int .i64 (ixI (xs.findIdx? p))))/\h'=h:=by
 have hnl:inL xs= .lst 4 (xs.map Ii.cs):=rfl;refine AC.go jt ?_;simp[dr,hnl];refine am (λi:Nat=>aj 19 [(8,.p (.int .i64 i)),(7,.p (.int .i64 xs.length)),(0,.p (.lst 4 (xs.map Ii.cs))),(1,.fn (.func f) caps)]) (λ_=>h) (λi=>i<=xs.length/\∀x∈xs.take i,p x=false) (λi=>xs.length-i) 0 (by simp) (aa (Wo _) (by simp[below,hcap])) ?_;rintro i ⟨hi,hp⟩;simp[];refine aA (λhc=>?_) (λhc=>?_)
 ·simp at hc;have hg:=Wc hc;have htk:=aq hc
  have hfi:p xs[i]=true->xs.findIdx? p=some i:=λe=>by
   rw[Xe];exact⟨hc,e,λj hj=>by have:=hp xs[j] (XV.2 ⟨j,by omega,rfl⟩);simp[this]⟩
  have hcl:=hcall _ (Wm hc);generalize xs[i]=x at hg htk hfi hcl;have hxs:=x.cs_eq2;rw[hxs] at hcl;simp[hg,hxs];refine hcl.mono ?_;rintro r h' ⟨rfl,rfl⟩;cases hpx:p x with
  |true=>
   rw[hfi hpx];simp[ixI]
  |false=>
   simp[];refine⟨i+1,⟨by omega,λy hy=>?_⟩,by omega,aa (Wo _) (by simp[below,hcap,w1 (i:=i) (by omega)])⟩;rw[htk] at hy;rcases Ws.1 hy with hy|hy
   ·exact hp y hy
   ·rw[Wt.1 hy];exact hpx
 ·simp at hc;rw[Wi hc] at hp;have hf:xs.findIdx? p=none:=by rw[XD];exact hp
  rw[hf];simp[ixI]
theorem Jl(xs:List Ii)(p:Ii->Bool)(hl:xs.length<=1073741824)(hcap:au h.length caps)
 (hcall:∀x∈xs,AC Tryz.prog G f (.agg (x.cs.map .p)::caps) h λr h'=>r= .ret (.p (.bool (p x)))/\h'=h):
 AC Tryz.prog G bu [.p (inL xs),.fn (.func f) caps] h λr h'=>r= .ret (.p (.bool (xs.any p)))/\h'=h:=by
 refine AC.go gO ?_;simp[cA];refine(Ga G xs p hl hcap hcall).mono ?_;rintro r h' ⟨rfl,rfl⟩;simp[uf]
end
theorem DS{h:List AO}{c:Cd}{q:Nat}(hq:h[q]?=some (.row 3 [[.p (.int .i64 c.params),.p (.int .i64 c.regs),.p (bkL c.blocks)]]))(h0:0<=c.regs)(h1:c.regs<=300)(r:Int):AC Tryz.prog G cD [.p (.int .i64 r),.ptr q 3 0 0] h λx h'=>x= .ret (.p (.bool (cE c.regs r)))/\h'=h:=by
 have hwr:IntKind.i64.wrap (c.regs-1)=c.regs-1:=al (by omega) (by omega);refine AC.go BO ?_;simp[pz,hq,hwr];refine(cb G r 0 (c.regs-1)).use ?_;simp[cE]
theorem sL{h:List AO}{c:Cd}{q:Nat}(hq:h[q]?=some (.row 3 [[.p (.int .i64 c.params),.p (.int .i64 c.regs),.p (bkL c.blocks)]]))(h0:0<=c.regs)(h1:c.regs<=300)(r:Int):AC Tryz.prog G bn [.p (.int .i64 r),.ptr q 3 0 0] h λx h'=>x= .ret (.p (.bool (cE c.regs r)))/\h'=h:=by
 have hwr:IntKind.i64.wrap (c.regs-1)=c.regs-1:=al (by omega) (by omega);refine AC.go zZ ?_;simp[ov,hq,hwr];refine(cb G r 0 (c.regs-1)).use ?_;simp[cE]
theorem Mh{h:List AO}{c:Cd}{q p:Nat}(hq:h[q]?=some (.row 3 [[.p (.int .i64 c.params),.p (.int .i64 c.regs),.p (bkL c.blocks)]]))(hp:h[p]?=some (.row 1 [[.fn (.func cD) [.ptr q 3 0 0]]]))(h0:0<=c.regs)(h1:c.regs<=300)(r:Int):AC Tryz.prog G kx [.p (.int .i64 r),.ptr p 1 0 0] h λx h'=>x= .ret (.p (.bool (!cE c.regs r)))/\h'=h:=by
 refine AC.go Br ?_;simp[pO,hp];refine(DS G hq h0 h1 r).mono ?_;rintro x h' ⟨rfl,rfl⟩;simp[]
theorem HE{h:List AO}{c:Cd}{q p:Nat}(hq:h[q]?=some (.row 3 [[.p (.int .i64 c.params),.p (.int .i64 c.regs),.p (bkL c.blocks)]]))(hp:h[p]?=some (.row 1 [[.fn (.func bn) [.ptr q 3 0 0]]]))(h0:0<=c.regs)(h1:c.regs<=300)(r:Int):AC Tryz.prog G iX [.p (.int .i64 r),.ptr p 1 0 0] h λx h'=>x= .ret (.p (.bool (!cE c.regs r)))/\h'=h:=by
 refine AC.go Aa ?_;simp[nY,hp];refine(sL G hq h0 h1 r).mono ?_;rintro x h' ⟨rfl,rfl⟩;simp[]
theorem Jt{h:List AO}{c:Cd}{q:Nat}(hq:h[q]?=some (.row 3 [[.p (.int .i64 c.params),.p (.int .i64 c.regs),.p (bkL c.blocks)]]))(hl:c.blocks.length<=1073741824)(r:Int):AC Tryz.prog G iN [.p (.int .i64 r),.ptr q 3 0 0] h λx h'=>x= .ret (.p (.bool (!inR r 1 ((c.blocks.length:Int)-1))))/\h'=h:=by
 have hbl:bkL c.blocks= .lst 5 (c.blocks.map Bk.cs):=rfl;have hwb:IntKind.i64.wrap ((c.blocks.length:Int)-1)=(c.blocks.length:Int)-1:=al (by omega) (by omega);refine AC.go zx ?_;simp[nM,hq,hbl,hwb];refine(cb G r 1 ((c.blocks.length:Int)-1)).use ?_;simp[]
theorem re{α:Type}(l:List α)(p:α->Bool):l.any (λx=> !p x)= !l.all p:=by rw[List.not_all_eq_any_not]
theorem Rf(u:List Cd)(k:Nat)(c:Cd)(hk:u[k]?=some c)(h0:0<=c.regs)(h1:c.regs<=300)(hu:u.length<=1073741824)(x:Ii)(hl:x.args.length<=1073741824):VF Tryz.prog G mY [.agg [.p (cdL u)],.p (.int .i64 k),.agg (x.cs.map .p)] (.p (.bool (gm u k c.regs x))):=by
 have hcs:=c.cs_eq2;have hxs:=x.cs_eq2;have hul:cdL u= .lst 3 (u.map Cd.cs):=rfl;have hnl:ah x.args= .lst 1 (x.args.map λn=>[.int .i64 n]):=rfl;have hku:=(Wa.1 hk).1;have hwk:IntKind.i64.wrap ((k:Int)-1)=(k:Int)-1:=al (by omega) (by omega);obtain⟨H0,hH0⟩:∃H0,H0=[AO.row 1 [[.p (.lst 3 (u.map Cd.cs))]],.row 4 [[.p (.int .i64 x.op),.p (.int .i64 x.to),.p (.lst 1 (x.args.map λn=>[.int .i64 n])),.p (.int .i64 x.n)]],.row 3 [[.p (.int .i64 c.params),.p (.int .i64 c.regs),.p (bkL c.blocks)]],.row 1 [[.fn (.func cD) [.ptr 2 3 0 0]]]]:=⟨_,rfl⟩;have g0:H0[0]?=some (.row 1 [[.p (.lst 3 (u.map Cd.cs))]]):=by rw[hH0];rfl
 have g1:H0[1]?=some (.row 4 [[.p (.int .i64 x.op),.p (.int .i64 x.to),.p (.lst 1 (x.args.map λn=>[.int .i64 n])),.p (.int .i64 x.n)]]):=by rw[hH0];rfl
 have g2:H0[2]?=some (.row 3 [[.p (.int .i64 c.params),.p (.int .i64 c.regs),.p (bkL c.blocks)]]):=by rw[hH0];rfl
 have g3:H0[3]?=some (.row 1 [[.fn (.func cD) [.ptr 2 3 0 0]]]):=by rw[hH0];rfl
 have gl:H0.length=4:=by rw[hH0];rfl
 refine AC.goK Eb EX ?_;clear hku;simp[nG,nJ,hxs,hul,hk,hcs,hnl];rw[←hH0];refine dc (λ_:Unit=>aj 91 [(8,.ptr 3 1 0 0),(7,.ptr 2 3 0 0),(5,.ptr 1 4 0 0),(3,.ptr 0 1 0 0),(1,.p (.int .i64 k))]) (λ_=>H0) (λ_=>inR x.op 1 14=true/\x.args.all (cE c.regs)=true) ?_ ?_
 ·simp[g1];refine(Kl G x.op).use ?_;cases hb1:inR x.op 1 14 with
  |false=>simp[gm,hb1]
  |true=>
  simp[g1];rw[←hnl];refine(kJ G x.args (λr=> !cE c.regs r) hl (by simp[below,gl]) (λr _=>Mh G g2 g3 h0 h1 r)).mono ?_;rintro y h' ⟨rfl,rfl⟩;rw[re];cases hb2:x.args.all (cE c.regs) with
  |false=>simp[gm,hb2]
  |true=>
   simp[];exact⟨Wu.1 hb2,aa (by simp) (by simp[below,gl])⟩
 rintro⟨⟩ ⟨hb1,hb2⟩;refine dc (λ_:Unit=>aj 91 [(8,.ptr 3 1 0 0),(7,.ptr 2 3 0 0),(5,.ptr 1 4 0 0),(3,.ptr 0 1 0 0),(1,.p (.int .i64 k))]) (λ_=>H0) (λ_=>(if aI x.op then cE c.regs x.to else decide (x.to= -1))=true) ?_ ?_
 ·simp[g1];refine(At G x.op).use ?_;cases hs:aI x.op with
  |true=>
   simp[g1,g3];refine(DS G g2 h0 h1 x.to).mono ?_;rintro y h' ⟨rfl,rfl⟩;cases hr:cE c.regs x.to with
   |false=>simp[gm,hs,hr]
   |true=>
    simp[g1];refine(At G x.op).use ?_;simp[hs];exact aa (by simp) (by simp[below,gl])
  |false=>
   simp[g1];refine(At G x.op).use ?_
   by_cases hto:x.to= -1
   ·simp[hs,g1,hto];exact aa (by simp) (by simp[below,gl])
   ·have hf:gm u k c.regs x=false:=(by simp[gm,hs,hto]);simp[hs,g1,hto,hf]
 rintro⟨⟩ hb3
 have hI:gm u k c.regs x=(if x.op=14 then inR x.n 0 ((k:Int)-1)&&decide ((x.args.length:Int)=EP u x.n)
  else if x.op=1 then decide (x.args.length=0)&&inR x.n 0 255
  else decide (x.n=0)&&decide ((x.args.length:Int)=da x.op)):=by rw[gm,hb1,hb2,hb3];simp
 rw[hI]
 by_cases o1:x.op=1
 ·by_cases hal:x.args.length=0
  ·have hal':(x.args.length:Int)=0:=by omega
   simp[g1,o1,hal];refine(pY G x.n).use ?_;simp[]
  ·have hal':¬(x.args.length:Int)=0:=by omega
   have hal2:¬x.args=[]:=λe=>hal (by rw[e];rfl);simp[g1,o1,hal]
 by_cases o14:x.op=14
 ·simp[g1,o14,hwk];refine(cb G x.n 0 ((k:Int)-1)).use ?_;cases hn:inR x.n 0 ((k:Int)-1) with
  |false=>simp[]
  |true=>
   simp only[inR,Wr,Wx] at hn
   have hlt:x.n.toNat<u.length:=by
    have:=(Wa.1 hk).1;omega
   obtain⟨c2,hc2⟩:∃c2,u[x.n.toNat]?=some c2:=⟨_,Wc hlt⟩;have hc2s:=c2.cs_eq2;clear hlt;obtain⟨m,hm⟩:∃m:Nat,x.n=m:=⟨x.n.toNat,by omega⟩;rw[hm] at hc2 g1⊢;simp only[XF] at hc2;simp[g1,g0,hc2,hc2s,EP]
 by_cases hx0:x.n=0
 ·simp[g1,o1,o14,hx0];refine(Mx G x.op).useQ ?_;simp[]
 ·simp[g1,o1,o14,hx0]
def fD(c:Cd)(b:Int):List Int:=if inR b 0 ((c.blocks.length:Int)-1)=true then ab c.blocks b else[]
structure PsS where (i:Nat) (X:List AO) (V:AV)
theorem Bq(c:Cd)(b:Int)(hl:c.blocks.length<=1073741824)(hn:∀x∈c.blocks,x.next.length<=1073741824):AC Tryz.prog G bg [.agg (c.cs.map .p),.p (.int .i64 b)] [] λx h=>∃V,x= .ret V/\((V= .nils/\fD c b=[])\/∃id,V= .sl id 1 0 (fD c b).length/\h[id]?=some (.row 1 (ae (fD c b)))):=by
 have hcs:=c.cs_eq2;have hbl:bkL c.blocks= .lst 5 (c.blocks.map Bk.cs):=rfl;have hwb:IntKind.i64.wrap ((c.blocks.length:Int)-1)=(c.blocks.length:Int)-1:=al (by omega) (by omega);refine AC.go pJ ?_;simp[pI,hcs,hbl,hwb];refine(cb G b 0 ((c.blocks.length:Int)-1)).use ?_;cases hb:inR b 0 ((c.blocks.length:Int)-1) with
 |false=>simp[fD,hb]
 |true=>
 have hpe:fD c b=ab c.blocks b:=by rw[fD,hb,Wz rfl]
 rw[hpe];simp[]
 refine am (λa:PsS=>aj 33 [(18,.p (.int .i64 a.i)),(17,.p (.int .i64 c.blocks.length)),(16,.p (.lst 5 (c.blocks.map Bk.cs))),(5,a.V),(1,.p (.int .i64 b))]) (λa=>a.X)
  (λa=>a.i<=c.blocks.length/\((a.V= .nils/\ab (c.blocks.take a.i) b=[])\/∃id,a.V= .sl id 1 0 (ab (c.blocks.take a.i) b).length/\a.X[id]?=some (.row 1 (ae (ab (c.blocks.take a.i) b))))) (λa=>c.blocks.length-a.i) ⟨0,[.row 3 [[.p (.int .i64 c.params),.p (.int .i64 c.regs),.p (.lst 5 (c.blocks.map Bk.cs))]]],.nils⟩ ⟨We _,.inl ⟨rfl,rfl⟩⟩ (aa (by simp) (by simp[below])) ?_
 rintro⟨i,X,V⟩ ⟨hi,hV⟩;simp only at hi hV;simp[];refine aA (λhc=>?_) (λhc=>?_)
 ·simp at hc;have hg:=Wc hc;have hm:=Wm hc;have hpt:=zh (b:=b) hg;have hpl:=aU (c.blocks.take i) b;rw[WD,XK (by omega)] at hpl;have hnx:=hn _ hm;generalize c.blocks[i]=x at hg hpt hnx;generalize ab (c.blocks.take i) b=out at hV hpt hpl;have hxs:=x.cs_eq2;have hw1:=w1 (i:=i) (by omega);simp[hg,hxs];refine(sB G x.next b hnx).use ?_
  by_cases hbn:b∈x.next
  ·rw[Wz hbn] at hpt;have hd:decide (b∈x.next)=true:=by simpa using hbn
   rcases hV with⟨rfl,rfl⟩|⟨id,rfl,hid⟩
   ·simp[hbn];refine⟨⟨i+1,_,.sl (X.length+2) 1 0 1⟩,⟨by simp only;omega,.inr ⟨X.length+2,by rw[hpt];rfl,?_⟩⟩,by simp only;omega,aa (We _) ?_⟩
    ·rw[hpt,Wg (by omega)];simp[ae]
    ·simp[below,hw1]
   ·have hiX:=(Wa.1 hid).1;have hxm:∀t,(X++t)[id]?=some (.row 1 (ae out)):=λt=>(by rw[Wb hiX];exact hid);have htl:List.take out.length (ae out)=ae out:=Wi (by simp[ae]);have hrl:(ae out).length=out.length:=(by simp[ae]);simp[hbn,hxm,htl,hrl];refine⟨⟨by omega,by omega⟩,⟨i+1,_,.sl (X.length+2) 1 0 (out.length+1)⟩,⟨by simp only;omega,.inr ⟨X.length+2,by rw[hpt];simp,?_⟩⟩,by simp only;omega,aa (We _) ?_⟩
    ·rw[hpt,Wg (by simp)];simp[ae]
    ·simp[below,hw1]
  ·rw[WB hbn,WI] at hpt;have hd:decide (b∈x.next)=false:=by simpa using hbn
   simp[hbn];rcases hV with⟨rfl,rfl⟩|⟨id,rfl,hid⟩
   ·exact⟨⟨i+1,_,.nils⟩,⟨by simp only;omega,.inl ⟨rfl,hpt⟩⟩,by simp only;omega,aa (We _) (by simp[below,hw1])⟩
   ·have hiX:=(Wa.1 hid).1;refine⟨⟨i+1,_,.sl id 1 0 out.length⟩,⟨by simp only;omega,.inr ⟨id,by rw[hpt],?_⟩⟩,by simp only;omega,aa (We _) (by simp[below,hw1];omega)⟩;rw[hpt,Wb hiX];exact hid
 ·simp at hc;have hie:i=c.blocks.length:=by omega
  subst hie;rw[Xm] at hV;simp[];exact hV
theorem rt(c:Cd)(b:Int)(hl:c.blocks.length<=1073741824)(hn:∀x∈c.blocks,x.next.length<=1073741824):VF Tryz.prog G bg [.agg (c.cs.map .p),.p (.int .i64 b)] (.p (ah (fD c b))):=
 (Bq G c b hl hn).freezeR (λt v h ⟨_,e,_⟩=>by cases e) λv h ⟨V,e1,e2⟩=>by
   cases e1;rcases e2 with⟨rfl,e⟩|⟨id,rfl,e⟩
   ·rw[e];exact .one (View.nils 1) .nil
   ·exact .one (dN e) .nil
theorem Hd(c:Cd)(M:Nat)(hM:M<=1073741824)(hf:en M c)(hl:cdN c<=1152921504606846976):VF Tryz.prog G gD [.agg (c.cs.map .p)] (.p (.int .i64 (cdN c))):=by
 have hcs:=c.cs_eq2;have hbl:bkL c.blocks= .lst 5 (c.blocks.map Bk.cs):=rfl;have hcl:=hf.1;refine AC.go vB ?_;simp[mv,hcs,hbl];refine am (λj:Nat=>aj 24 [(9,.p (.int .i64 j)),(3,.p (.int .i64 (bkS 0 c.blocks j))),(8,.p (.int .i64 c.blocks.length)),(7,.p (.lst 5 (c.blocks.map Bk.cs)))]) (λ_=>[.row 3 [[.p (.int .i64 c.params),.p (.int .i64 c.regs),.p (.lst 5 (c.blocks.map Bk.cs))]]]) (λj=>j<=c.blocks.length) (λj=>c.blocks.length-j) 0 (We _) (aa (by simp) (by simp[below,Co])) ?_;rintro j hj;simp[];refine aA (λhc2=>?_) (λhc2=>?_)
 ·simp at hc2;have hg2:=Wc hc2;have hM2:=FZ 0 hg2;have hxf:=hf.2 _ (Wm hc2)
  have hle:bkS 0 c.blocks (j+1)<=cdN c:=by
   have:=dy bkN c.blocks (j+1);simp only[bkS,cdN];omega
  generalize c.blocks[j]=x at hg2 hM2 hxf;have hxs:=x.cs_eq2;have hxi:=hxf.ins;have hxp:=hxf.phis;have hil:inL x.ins= .lst 4 (x.ins.map Ii.cs):=rfl;have hpl:phL x.phis= .lst 2 (x.phis.map Ph.cs):=rfl;obtain⟨N,hN⟩:∃N,N=bkS 0 c.blocks j:=⟨_,rfl⟩;rw[←hN] at hM2⊢;have w1':IntKind.i64.wrap ((x.phis.length:Int)+(x.ins.length:Int))=(x.phis.length:Int)+(x.ins.length:Int):=al (by omega) (by omega);have w2':IntKind.i64.wrap ((N:Int)+((x.phis.length:Int)+(x.ins.length:Int)))=(bkS 0 c.blocks (j+1):Int):=by rw[al (by omega) (by omega)];omega
  simp[hg2,hxs,hil,hpl,w1',w2'];exact⟨j+1,by omega,by omega,tJ (m:=1) (by omega) (oZ rfl rfl (by simp[okO,below])) (by simp[below,w1 (i:=j) (by omega)])⟩
 ·simp at hc2;have hje:j=c.blocks.length:=by omega
  subst hje;have:=JY 0 c.blocks;rw[WV] at this;simp[this,cdN]
end
section
variable (G:aw)
section
variable {h:List AO} {f:FuncId} {caps:List AV}
theorem Hz(xs:List Bk)(p:Bk->Bool)(hl:xs.length<=1073741824)(hcap:au h.length caps)
 (hcall:∀x∈xs,AC Tryz.prog G f (.agg (x.cs.map .p)::caps) h λr h'=>r= .ret (.p (.bool (p x)))/\h'=h):
 AC Tryz.prog G bw [.p (bkL xs),.fn (.func f) caps] h λr h'=>r= .ret (.p (.int .i64 (ixI (xs.findIdx? p))))/\h'=h:=by
 have hnl:bkL xs= .lst 5 (xs.map Bk.cs):=rfl;refine AC.go iy ?_;simp[cG,hnl];refine am (λi:Nat=>aj 19 [(8,.p (.int .i64 i)),(7,.p (.int .i64 xs.length)),(0,.p (.lst 5 (xs.map Bk.cs))),(1,.fn (.func f) caps)]) (λ_=>h) (λi=>i<=xs.length/\∀x∈xs.take i,p x=false) (λi=>xs.length-i) 0 (by simp) (aa (Wo _) (by simp[below,hcap])) ?_;rintro i ⟨hi,hp⟩;simp[];refine aA (λhc=>?_) (λhc=>?_)
 ·simp at hc;have hg:=Wc hc;have htk:=aq hc
  have hfi:p xs[i]=true->xs.findIdx? p=some i:=λe=>by
   rw[Xe];exact⟨hc,e,λj hj=>by have:=hp xs[j] (XV.2 ⟨j,by omega,rfl⟩);simp[this]⟩
  have hcl:=hcall _ (Wm hc);generalize xs[i]=x at hg htk hfi hcl;have hxs:=x.cs_eq2;rw[hxs] at hcl;simp[hg,hxs];refine hcl.mono ?_;rintro r h' ⟨rfl,rfl⟩;cases hpx:p x with
  |true=>
   rw[hfi hpx];simp[ixI]
  |false=>
   simp[];refine⟨i+1,⟨by omega,λy hy=>?_⟩,by omega,aa (Wo _) (by simp[below,hcap,w1 (i:=i) (by omega)])⟩;rw[htk] at hy;rcases Ws.1 hy with hy|hy
   ·exact hp y hy
   ·rw[Wt.1 hy];exact hpx
 ·simp at hc;rw[Wi hc] at hp;have hf:xs.findIdx? p=none:=by rw[XD];exact hp
  rw[hf];simp[ixI]
theorem Mw(xs:List Bk)(p:Bk->Bool)(hl:xs.length<=1073741824)(hcap:au h.length caps)
 (hcall:∀x∈xs,AC Tryz.prog G f (.agg (x.cs.map .p)::caps) h λr h'=>r= .ret (.p (.bool (p x)))/\h'=h):
 AC Tryz.prog G bf [.p (bkL xs),.fn (.func f) caps] h λr h'=>r= .ret (.p (.bool (xs.any p)))/\h'=h:=by
 refine AC.go fF ?_;simp[ce];refine(Hz G xs p hl hcap hcall).mono ?_;rintro r h' ⟨rfl,rfl⟩;simp[uf]
end
theorem CF{h:List AO}{c:Cd}{q:Nat}(hq:h[q]?=some (.row 3 [[.p (.int .i64 c.params),.p (.int .i64 c.regs),.p (bkL c.blocks)]]))(hl:c.blocks.length<=1073741824)(r:Int):AC Tryz.prog G fe [.p (.int .i64 r),.ptr q 3 0 0] h λx h'=>x= .ret (.p (.bool (!inR r 0 ((c.blocks.length:Int)-1))))/\h'=h:=by
 have hbl:bkL c.blocks= .lst 5 (c.blocks.map Bk.cs):=rfl;have hwb:IntKind.i64.wrap ((c.blocks.length:Int)-1)=(c.blocks.length:Int)-1:=al (by omega) (by omega);refine AC.go sZ ?_;simp[ki,hq,hbl,hwb];refine(cb G r 0 ((c.blocks.length:Int)-1)).use ?_;simp[]
theorem Hg{h:List AO}{c:Cd}{q:Nat}(hq:h[q]?=some (.row 3 [[.p (.int .i64 c.params),.p (.int .i64 c.regs),.p (bkL c.blocks)]]))(hl:c.blocks.length<=1073741824)(x:Bk)(hx:x.next.length<=1073741824):AC Tryz.prog G dT [.agg (x.cs.map .p),.ptr q 3 0 0] h λr h'=>r= .ret (.p (.bool (!sF c.blocks.length x.next)))/\h'=h:=by
 have hxs:=x.cs_eq2;have hql:=(Wa.1 hq).1;have hfn:sF c.blocks.length x.next=x.next.all λn=>inR n 0 ((c.blocks.length:Int)-1):=rfl;have hm:∀t,(h++t)[q]?=some (.row 3 [[.p (.int .i64 c.params),.p (.int .i64 c.regs),.p (bkL c.blocks)]]):=λt=>by rw[Wb hql];exact hq
 refine AC.trim (AC.go vH ?_) (by simp[below]);simp[mw,hxs];refine(kJ G x.next (λn=> !inR n 0 ((c.blocks.length:Int)-1)) hx (by simp[below];omega) (λn _=>CF G (hm _) hl n)).mono ?_;rintro r h' ⟨rfl,rfl⟩;simp[re,hfn]
theorem vw(c:Cd)(hc:CBd c):VF Tryz.prog G dF [.agg (c.cs.map .p)] (.p (.bool (be c.blocks))):=by
 have hcs:=c.cs_eq2;have hl1:=hc.1;have hbl:bkL c.blocks= .lst 5 (c.blocks.map Bk.cs):=rfl;refine AC.go Ci ?_;rw[uj]
 by_cases hp:0<c.blocks.length
 ·have hcf:=Mw (h:=[.row 3 [[.p (.int .i64 c.params),.p (.int .i64 c.regs),.p (bkL c.blocks)]]]) (f:=dT) (caps:=[.ptr 0 3 0 0]) G c.blocks (λx=> !sF c.blocks.length x.next) hl1 (by simp[below]) (λx hx=>Hg G rfl hl1 x (hc.2 x hx));rw[hbl] at hcf;simp[kf,hcs,hbl,hp];refine hcf.mono ?_;rintro r h' ⟨rfl,rfl⟩;simp[re,Cf]
 ·simp[kf,hcs,hbl,hp]
def unW:List Bk->List Bool->Nat
 |x::r,s::q=>(if s then 0 else x.next.length)+unW r q
 |_,_=>0
theorem Ko:∀{bs:List Bk} {S:List Bool} {b:Nat} {x:Bk},bs[b]?=some x->S[b]?=some false->unW bs (S.set b true)+x.next.length=unW bs S
 |[],_,_,_,h,_=>by simp at h
 |_::_,[],_,_,_,h=>by simp at h
 |y::r,s::q,0,x,h1,h2=>by
  simp at h1 h2;subst h1;subst h2;simp[unW];omega
 |y::r,s::q,b+1,x,h1,h2=>by
  have:=Ko (bs:=r) (S:=q) (b:=b) (x:=x) (by simpa using h1) (by simpa using h2);simp only[YL,unW];omega
theorem Kj:∀(bs:List Bk),unW bs (List.replicate bs.length false)=(bs.map λx=>x.next.length).sum
 |[]=>rfl
 |x::r=>by
  have:=Kj r;simp only[WC,XT,unW,WJ,XC,Ye,if_false];omega
def CSm(c:Cd):Prop:=CBd c/\(c.blocks.map λx=>x.next.length).sum<=1099511627776
structure RwS (bs:List Bk) (no:Int) (S:List Bool) (T:List Nat):Prop where
 len:S.length=bs.length
 sound:∀x,x<bs.length->sn S x=true->RW (stC bs) (λy=>(y:Int)=no) x
 todo:∀x∈T,x<bs.length/\((x:Int)≠no->RW (stC bs) (λy=>(y:Int)=no) x)
 clo:∀x,x<bs.length->sn S x=true->∀y∈nxC bs x,(y:Int)=no\/sn S y=true\/y∈T
 root:(0:Int)=no\/sn S 0=true\/0∈T
theorem RwS.start{bs:List Bk}(hfit:be bs=true)(no:Int):RwS bs no (List.replicate bs.length false) [0] where
 len:=Xs
 sound x hx h:=by rw[fc,Wx] at h;omega
 todo x hx:=by
  rw[Wt.1 hx];exact⟨cf hfit,λh=> .zero h⟩
 clo x hx h:=by rw[fc,Wx] at h;omega
 root:= .inr (.inr (by simp))
theorem RwS.skip{bs:List Bk}{no:Int}{S:List Bool}{T:List Nat}{b:Nat}(h:RwS bs no S (T++[b]))(hb:(b:Int)=no\/sn S b=true):RwS bs no S T where
 len:=h.len
 sound:=h.sound
 todo x hx:=h.todo x (by simp[hx])
 clo x hx hs y hy:=by
  rcases h.clo x hx hs y hy with h1|h1|h1
  ·exact .inl h1
  ·exact .inr (.inl h1)
  ·rcases Ws.1 h1 with h1|h1
   ·exact .inr (.inr h1)
   ·rw[Wt.1 h1];exact hb.imp id .inl
 root:=by
  rcases h.root with h1|h1|h1
  ·exact .inl h1
  ·exact .inr (.inl h1)
  ·rcases Ws.1 h1 with h1|h1
   ·exact .inr (.inr h1)
   ·have:=Wt.1 h1;subst this;exact hb.imp id .inl
theorem RwS.visit{bs:List Bk}{no:Int}{S:List Bool}{T:List Nat}{b:Nat}(hfit:be bs=true)(h:RwS bs no S (T++[b]))(hb:(b:Int)≠no):RwS bs no (S.set b true) (T++nxC bs b):=by
 have hbR:=(h.todo b (by simp)).2 hb;have hbl:=(h.todo b (by simp)).1
 have hup:∀y:Nat,(y:Int)=no\/sn S y=true\/y∈T++[b]->(y:Int)=no\/sn (S.set b true) y=true\/y∈T++nxC bs b:=λy hy=>by
  rw[kI];rcases hy with h1|h1|h1
  ·exact .inl h1
  ·exact .inr (.inl (by rw[h1];rfl))
  ·rcases Ws.1 h1 with h1|h1
   ·exact .inr (.inr (Zo _ h1))
   ·rw[Wt.1 h1];exact .inr (.inl (by simp))
 refine⟨by rw[Wy];exact h.len,λx hx hs=>?_,λx hx=>?_,λx hx hs y hy=>?_,by have:=hup 0 (by simpa using h.root);simpa using this⟩
 ·rw[kI,XA,Wx] at hs;rcases hs with hs|rfl
  ·exact h.sound x hx hs
  ·exact hbR
 ·rcases Ws.1 hx with hx|hx
  ·exact h.todo x (by simp[hx])
  ·exact⟨(Fe hfit hx).2,λhn=> .step hbR hx hn⟩
 ·rw[kI,XA,Wx] at hs;rcases hs with hs|rfl
  ·exact hup y (h.clo x hx hs y hy)
  ·exact .inr (.inr (YM _ hy))
theorem RwS.done{bs:List Bk}{no:Int}{S:List Bool}(hfit:be bs=true)(h:RwS bs no S []){x:Nat}(hx:x<bs.length):sn S x=true↔RW (stC bs) (λy=>(y:Int)=no) x:=by
 refine⟨h.sound x hx,λhr=>?_⟩;clear hx
 induction hr with
 |zero h0=>
  rcases h.root with h1|h1|h1
  ·exact absurd h1 h0
  ·exact h1
  ·cases h1
 | @step p m hp e hn ih=>
   have hpl:p<bs.length:=(Fe hfit e).1;rcases h.clo p hpl ih m e with h1|h1|h1
   ·exact absurd h1 hn
   ·exact h1
   ·cases h1
theorem RwS.rch{bs:List Bk}{S:List Bool}(hfit:be bs=true)(h:RwS bs (-1) S []):S=iI bs:=by
 refine mU (by rw[h.len,tU]) λx hx=>?_;rw[h.len] at hx;rw[iI,vf hx,Yg,h.done hfit hx,rchB_iff,Rch];have e:(λy:Nat=>(y:Int)= -1)=λ_=>False:=funext λy=>propext ⟨λh=>by omega,λh=>h.elim⟩;rw[e]
theorem RwS.rw{bs:List Bk}{S:List Bool}{a:Nat}(hfit:be bs=true)(h:RwS bs a S []):S=rwL bs a:=by
 refine mU (by rw[h.len,Ea]) λx hx=>?_;rw[h.len] at hx;rw[rwL,vf hx,Yg,h.done hfit hx,tu];have e:(λy:Nat=>(y:Int)=(a:Int))=λy=>y=a:=funext λy=>propext (by omega);rw[e]
theorem NS{bs:List Bk}(hfit:be bs=true){b:Nat}{x:Bk}(hx:bs[b]?=some x):an (nxC bs b)=x.next:=by
 rw[ma hx,an,Yu]
 have:∀n∈x.next,(Int.ofNat∘Int.toNat) n=id n:=λn hn=>by
  have:=Ae hfit hx hn;simp only[Function.comp,id];show((n.toNat:Nat):Int)=n;omega
 rw[WY this,List.map_id]
structure RwT where (S:List Bool) (T:List Nat) (X:List AO) (o:Nat) (R:List (List AV))
theorem Bi(c:Cd)(hc:CSm c)(hfit:be c.blocks=true)(no:Int):AC Tryz.prog G aL [.agg (c.cs.map .p),.p (.int .i64 no)] [] λr h=>∃S,RwS c.blocks no S []/\r= .ret (.sl 1 1 0 c.blocks.length)/\h[1]?=some (.row 1 (aG S)):=by
 have hcs:=c.cs_eq2;have hbl:bkL c.blocks= .lst 5 (c.blocks.map Bk.cs):=rfl;have hl1:=hc.1.1;have hpos:=cf hfit;refine AC.go oD ?_;simp[gv,hcs,hbl,AH];refine⟨by omega,?_⟩
 refine am (λa:RwT=>aj 48 [(1,.p (.int .i64 no)),(2,.ptr 0 3 0 0),(5,.sl 1 1 0 c.blocks.length),(6,.sl a.o 1 0 a.T.length)]) (λa=>a.X)
  (λa=>RwS c.blocks no a.S a.T/\unW c.blocks a.S+a.T.length<=1099511627777/\a.X[0]?=some (.row 3 [[.p (.int .i64 c.params),.p (.int .i64 c.regs),.p (.lst 5 (c.blocks.map Bk.cs))]])/\a.X[1]?=some (.row 1 (aG a.S))/\a.X[a.o]?=some (.row 1 a.R)/\a.o≠0/\a.o≠1/\a.R.take a.T.length=ae (an a.T)/\a.T.length<=a.R.length) (λa=>unW c.blocks a.S+a.T.length)
  ⟨List.replicate c.blocks.length false,[0],_,2,[[.p (.int .i64 0)]]⟩ ⟨RwS.start hfit no,by simp only[Kj];have:=hc.2;simp;omega,rfl,rfl,rfl,by simp,by simp,rfl,by simp⟩ (aa (We _) (by simp[below])) ?_
 rintro⟨S,T,X,o,R⟩ ⟨hS,hM,g0,g1,g2,ho0,ho1,hR,hRl⟩;simp only at hS hM g0 g1 g2 ho0 ho1 hR hRl;have hol:=(Wa.1 g2).1;have h1l:=(Wa.1 g1).1;simp[];refine aA (λhc1=>?_) (λhc1=>?_)
 ·simp at hc1;obtain⟨T',b,rfl⟩:∃T' b,T=T'++[b]:=⟨T.dropLast,T.getLast (by intro e;subst e;simp at hc1),(List.dropLast_concat_getLast _).symm⟩;rw[Wn,Xf] at hR hRl hM;have hTl:(T'++[b]).length=T'.length+1:=by simp
  have hRb:R[T'.length]?=some [.p (.int .i64 b)]:=by
   have:=congrArg (·[T'.length]?) hR
   simp only[YI (YK _)] at this;rw[this,mF];simp[ae,an]
  have hRT:R.take T'.length=ae (an T'):=by
   have:=congrArg (List.take T'.length) hR;rw[List.take_take,XK (Nat.le_succ _),mF] at this;rw[this];simp[ae,an]
  have hwl:IntKind.i64.wrap ((T'.length:Nat):Int)=((T'.length:Nat):Int):=al (by omega) (by omega);have⟨hbl2,hbr⟩:=hS.todo b (by simp);have hTR:T'.length<=R.length:=by omega
  have hbS:b<S.length:=by rw[hS.len];exact hbl2
  have hrow:(aG S)[b]?=some [.p (.bool (sn S b))]:=bh (nt hbS)
  by_cases hno:(b:Int)=no
  ·have hsk:=hS.skip (.inl hno);simp[g2,hwl,hRb,hno];exact⟨by omega,⟨S,T',X,o,R⟩,⟨hsk,by simp only;omega,g0,g1,g2,ho0,ho1,hRT,hTR⟩,by simp only;omega,aa (We _) (by simp[below];omega)⟩
  ·cases hsb:sn S b with
   |true=>
    rw[hsb] at hrow;have hsk:=hS.skip (.inr hsb);simp[g2,hwl,hRb,hno,g1,hrow];exact⟨by omega,hbl2,⟨S,T',X,o,R⟩,⟨hsk,by simp only;omega,g0,g1,g2,ho0,ho1,hRT,hTR⟩,by simp only;omega,aa (We _) (by simp[below];omega)⟩
   |false=>
    rw[hsb] at hrow;have hgb:=Wc hbl2;have hmb:=Wm hbl2;have hvs:=hS.visit hfit hno;generalize c.blocks[b]=x at hgb hmb;have hxs:=x.cs_eq2;have hxn:=hc.1.2 _ hmb;have hnl:ah x.next= .lst 1 (x.next.map λn=>[.int .i64 n]):=rfl;have hW:=Ko hgb (by rw[nt hbS,hsb]);have hTn:∀t,(X.set 1 t)[o]?=some (.row 1 R):=λt=>(by rw[Wd (by omega)];exact g2);have hnn:=NS hfit hgb;have hnxl:(nxC c.blocks b).length=x.next.length:=(by rw[ma hgb,Wj]);have e0:List.map ((λx=>List.map AV.p x)∘λn=>[PV.int IntKind.i64 n]) x.next=ae x.next:=rfl;simp[g2,hwl,hRb,hno,hTR,g1,hrow,bP,g0,hgb,hxs,hnl,hTn,hRT];refine⟨by omega,hbl2,⟨by omega,by omega⟩,⟨S.set b true,T'++nxC c.blocks b,_,X.length,ae (an T')++ae x.next⟩,⟨hvs,by simp only[Wn,hnxl];omega,?_,?_,?_,by simp only;omega,by simp only;omega,?_,?_⟩,by simp only[Wn,hnxl];omega,aa (We _) ?_⟩
    ·simp only;rw[Wb (by simp;omega),Wd (by omega),Wd (by omega)];exact g0
    ·simp only;rw[Wb (by simp;omega),Wd (by omega),Wh h1l]
    ·simp only;rw[Wg (by simp)];simp only[Wy,Xd,XP,e0]
    ·simp only;rw[Wi (by simp[ae,an,hnxl]),mF,hnn];simp[ae]
    ·simp[ae,an,hnxl]
    ·simp[below,hnxl]
     try omega
 ·simp at hc1;subst hc1;simp[];exact⟨S,hS,g1⟩
theorem EK(c:Cd)(hc:CSm c)(hfit:be c.blocks=true):VF Tryz.prog G aL [.agg (c.cs.map .p),.p (.int .i64 (-1))] (.p (boL (iI c.blocks))):=
 jw G ((Bi G c hc hfit (-1)).mono λr h ⟨S,h1,h2,h3⟩=>⟨_,h2,by
  have:=h1.rch hfit;subst this;exact ut h3 (tU _).symm⟩)
theorem Fa(c:Cd)(hc:CSm c)(hfit:be c.blocks=true)(a:Nat):VF Tryz.prog G aL [.agg (c.cs.map .p),.p (.int .i64 a)] (.p (boL (rwL c.blocks a))):=
 jw G ((Bi G c hc hfit a).mono λr h ⟨S,h1,h2,h3⟩=>⟨_,h2,by
  have:=h1.rw hfit;subst this;exact ut h3 (Ea _ _).symm⟩)
end
section
def sA:AK:=yw (yH 1 3 (qP 2 .nilp)) [xR 8 1,w5 9 dF 8,w9 10 9] 10 [qP 2 .nilp] (xn [xR 11 1,xR 12 1,qA 13 aL (xt 12 (qp (-1))),yQ 11,xh 14 [qI,qI,.nils,.nils,.nils] [wX 0 3 11,xg 4 13],wD 15 5 14,qg 3 15] [xd 16 1,qr 17 16,wd 18 17,wL 19] (x8 0 [ww 20 19 18] 20 0 1 (q9 (wU (qg 21 19) 4 21) [xd 22 1,qr 23 22,wd 24 23,yR 25 1 1 [qD] 24 24,qg 5 25] (xN [xI 26,wH 27 26,qy 28 4 27,qr 29 28,yc 30,xz 31 29 30,qr 32 31] (qR 32 (q9 [xR 33 1,yc 34,xv 35 aL 33 34,yV 35] [wR 36,wd 37 36,wL 38] (x8 2 [ww 39 38 37] 39 2 3 (yf (wU (qg 40 38) 7 40) [wR 41,yt 42,xI 43,wH 44 43,qy 45 4 44,qr 46 45,yt 47,xz 48 46 47,qr 49 48,qg 50 49,xa 51 50 6,xa 52 50 7,za 53 50 1 51 52,wP 54 50 53,qW 55 50 (wB 54),yY 56 50 55,xz 57 41 42,xH 57 56]) 58 38 38 58))) (.reg [xI 59,xI 60,wH 61 60,qy 62 3 61,qr 63 62,wR 64,wz 65 1 xP 1 [xg 0 64],xe 66 1 24 63 65,wH 67 59,qy 68 3 67,xH 68 66]))) 69 19 19 69) (wU (xI 70) 2 70))
theorem CP:AK.whole sA=FK.ak gW:=rfl
noncomputable def dmE (c:Cd):List PV:=[.int .i64 c.params,.int .i64 c.regs,bkL c.blocks,CZ c.blocks,boL (iI c.blocks)]
noncomputable def dmV (c:Cd):AV:=if be c.blocks then .eptr (dmE c) 0 else .nilp
theorem Oz{bs:List Bk}{a b:Nat}(h:cz bs a=false):rE bs a b=false:=by rw[As,h];rfl
theorem QI{bs:List Bk}{a:Nat}(h:cz bs a=false):gF bs a=List.replicate bs.length false:=by
 refine mU (by simp[fQ]) λx hx=>?_;rw[fQ] at hx;rw[gF,vf hx,Oz h,fc];simp;omega
theorem BJ(l:List Bool):∃BL:List (List PV),boL l= .lst 1 BL/\BL.length=l.length/\∀(i:Nat) (x:Bool),l[i]?=some x->BL[i]?=some [PV.bool x]:=
 ⟨l.map λb=>[PV.bool b],rfl,by simp,λi x h=>by simp[h]⟩
theorem OL{α:Type}{l:List α}{i:Nat}{x:α}(h:l[i]?=some x)(hh:i<l.length):l[i]'hh=x:=by
 rw[Wc hh] at h;exact Option.some.inj h
structure DpS where (i:Nat) (X:List AO) (V:AV) (rows:List (List AV))
variable (G:aw)
theorem Mc(c:Cd)(hc:CSm c)(hfit:be c.blocks=true):AC Tryz.prog G dk [.agg (c.cs.map .p)] [] λx h=>∃o rows,2<=o/\x= .ret (.ptr 1 5 0 0)/\h[1]?=some (.row 5 [[.p (.int .i64 c.params),.p (.int .i64 c.regs),.p (bkL c.blocks),.sl o 1 0 c.blocks.length,.p (boL (iI c.blocks))]])/\h[o]?=some (.row 1 rows)/\rows.length=c.blocks.length/\∀k,k<c.blocks.length->∃id,2<=id/\rows[k]?=some [.sl id 1 0 c.blocks.length]/\h[id]?=some (.row 1 (aG (gF c.blocks k))):=by
 have hcs:=c.cs_eq2;have hbl:bkL c.blocks= .lst 5 (c.blocks.map Bk.cs):=rfl;have hl1:=hc.1.1;have hpos:=cf hfit;have hg:=vw G c hc.1;have hra:=EK G c hc hfit;have hrb:=λa=>Fa G c hc hfit a;obtain⟨BL,hBL,hBl,hBg⟩:=BJ (iI c.blocks);rw[hcs,hbl] at hg hra hrb;rw[hBL] at hra;rw[hfit] at hg;refine AC.goK rQ CP ?_;rw[hBL];simp[sA,gW,hcs,hbl];refine hg.use ?_;simp[];refine hra.use ?_;simp[]
 refine am (λa:DpS=>aj 71 [(19,.p (.int .i64 a.i)),(18,.p (.int .i64 c.blocks.length)),(3,.ptr 1 5 0 0),(1,.ptr 0 3 0 0)]) (λa=>a.X)
  (λa=>a.i<=c.blocks.length/\a.X[0]?=some (.row 3 [[.p (.int .i64 c.params),.p (.int .i64 c.regs),.p (.lst 5 (c.blocks.map Bk.cs))]])/\a.X[1]?=some (.row 5 [[.p (.int .i64 c.params),.p (.int .i64 c.regs),.p (.lst 5 (c.blocks.map Bk.cs)),a.V,.p (.lst 1 BL)]])/\
    (a.V= .nils/\a.i=0\/∃o,a.V= .sl o 1 0 a.i/\a.X[o]?=some (.row 1 a.rows)/\o≠0/\o≠1)/\a.rows.length=a.i/\∀k,k<a.i->∃id,id≠1/\a.V≠ .sl id 1 0 a.i/\a.rows[k]?=some [.sl id 1 0 c.blocks.length]/\a.X[id]?=some (.row 1 (aG (gF c.blocks k)))) (λa=>c.blocks.length-a.i) ⟨0,_,.nils,[]⟩ ⟨We _,rfl,rfl,.inl ⟨rfl,rfl⟩,rfl,λk hk=>absurd hk (Zs _)⟩ (aa (We _) (by simp[below])) ?_
 rintro⟨i,X,V,rows⟩ ⟨hi,g0,g1,hV,hrl,hro⟩;simp only at hi g0 g1 hV hrl hro;have h1l:=(Wa.1 g1).1;simp[];refine aA (λhc1=>?_) (λhc1=>?_)
 ·simp at hc1;have hw1:=w1 (i:=i) (by omega);have hX0:∀t,(X++t)[0]?=some (.row 3 [[.p (.int .i64 c.params),.p (.int .i64 c.regs),.p (.lst 5 (c.blocks.map Bk.cs))]]):=λt=>by rw[Wb (by omega)];exact g0
  have hX0':∀t hh,(X++t)[0]'hh= .row 3 [[.p (.int .i64 c.params),.p (.int .i64 c.regs),.p (.lst 5 (c.blocks.map Bk.cs))]]:=λt hh=>by
   have:=hX0 t;rw[Wc hh] at this;exact Option.some.inj this
  have hX1:∀t,(X++t)[1]?=some (.row 5 [[.p (.int .i64 c.params),.p (.int .i64 c.regs),.p (.lst 5 (c.blocks.map Bk.cs)),V,.p (.lst 1 BL)]]):=λt=>by rw[Wb (by omega)];exact g1
  have hBi:BL[i]?=some [.bool (cz c.blocks i)]:=hBg i _ (by simp[iI,hc1]);simp[g0,AH];refine⟨by omega,?_⟩
  refine dc (λY:List AO=>aj 71 [(5,.sl X.length 1 0 c.blocks.length),(19,.p (.int .i64 i)),(18,.p (.int .i64 c.blocks.length)),(3,.ptr 1 5 0 0),(1,.ptr 0 3 0 0)]) (λY=>Y)
   (λY=>X.length<Y.length/\(∀j,j<X.length->Y[j]?=X[j]?)/\Y[X.length]?=some (.row 1 (aG (gF c.blocks i)))) ?_ ?_
  ·cases hri:cz c.blocks i with
   |false=>
    rw[hri] at hBi;simp[hX1,hBi];refine⟨_,⟨by simp,λj hj=>Wb hj,?_⟩,aa (We _) (by simp[below];omega)⟩;rw[Wg (Wo _),QI hri];simp
   |true=>
    rw[hri] at hBi;obtain⟨CL,hCL,hCl,hCg⟩:=BJ (rwL c.blocks i);have hrb1:=hrb i;rw[hCL] at hrb1;simp[hX1,hX0',hBi];refine hrb1.use ?_;simp[];have hD:∀j,j<c.blocks.length->(my c.blocks i j).set j (rE c.blocks i j)=my c.blocks i (j+1):=λj hj=>Dt hj;have hDl:=Hc c.blocks i;rw[←DT c.blocks i]
    refine am (λj:Nat=>aj 71 [(38,.p (.int .i64 j)),(37,.p (.int .i64 c.blocks.length)),(6,.p (.lst 1 CL)),(5,.sl X.length 1 0 c.blocks.length),(19,.p (.int .i64 i)),(18,.p (.int .i64 c.blocks.length)),(3,.ptr 1 5 0 0),(1,.ptr 0 3 0 0)])
     (λj=>X++[.row 1 (aG (my c.blocks i j))]) (λj=>j<=c.blocks.length) (λj=>c.blocks.length-j) 0 (We _) (aa (We _) (by simp[below];omega)) ?_
    intro j hj;simp[];refine aA (λhc2=>?_) (λhc2=>?_)
    ·simp at hc2;have r1:BL[j]?=some [.bool (cz c.blocks j)]:=hBg j _ (by simp[iI,hc2]);have r2:CL[j]?=some [.bool (rwB c.blocks i j)]:=hCg j _ (by simp[rwL,hc2]);have hDj:=hD j hc2;have hle:j<(my c.blocks i j).length:=(by rw[hDl j hj];exact hc2);have hrj:∃z,(aG (my c.blocks i j))[j]?=some [.p (.bool z)]:=⟨_,bh (Wc hle)⟩;obtain⟨z,hz⟩:=hrj;rw[As,hri] at hDj;have hw2:=w1 (i:=j) (by omega);clear hD hDl hle;cases c2:cz c.blocks j with
     |false=>
      rw[c2] at r1 hDj;simp only[ZR,Yw] at hDj;simp[hX1,r1,hz,bP,hDj];exact⟨hc2,j+1,by omega,by omega,aa (We _) (by simp[below,hw2];omega)⟩
     |true=>
      rw[c2] at r1 hDj;simp only[ZU] at hDj;simp[hX1,r1,r2,hz,bP,hDj];exact⟨hc2,j+1,by omega,by omega,aa (We _) (by simp[below,hw2];omega)⟩
    ·simp at hc2;have hje:j=c.blocks.length:=(by omega);subst hje;rw[FE];simp[];refine⟨_,⟨by simp,λj hj=>Wb hj,?_⟩,aa (We _) (by simp[below];omega)⟩;rw[Wg (Wo _)];simp
  ·rintro Y ⟨q1,q2,q3⟩;have hY0:Y[0]?=some (.row 3 [[.p (.int .i64 c.params),.p (.int .i64 c.regs),.p (.lst 5 (c.blocks.map Bk.cs))]]):=by rw[q2 _ (by omega)];exact g0
   have hY1:∀t,(Y++t)[1]?=some (.row 5 [[.p (.int .i64 c.params),.p (.int .i64 c.regs),.p (.lst 5 (c.blocks.map Bk.cs)),V,.p (.lst 1 BL)]]):=λt=>(by rw[Wb (by omega),q2 _ h1l];exact g1);have hY1':Y[1]?=some (.row 5 [[.p (.int .i64 c.params),.p (.int .i64 c.regs),.p (.lst 5 (c.blocks.map Bk.cs)),V,.p (.lst 1 BL)]]):=(by rw[q2 _ h1l];exact g1);rcases hV with⟨rfl,rfl⟩|⟨o,rfl,g2,ho0,ho1⟩
   ·have hrn:rows=[]:=XQ.1 hrl;subst hrn;have hYe:=λt hh=>OL (hY1 t) hh;simp[hY1',hYe];refine⟨⟨1,_,.sl (Y.length+1) 1 0 1,[[.sl X.length 1 0 c.blocks.length]]⟩,⟨hc1,?_,?_,.inr ⟨Y.length+1,rfl,?_,by omega,by omega⟩,rfl,?_⟩,by simp only;omega,aa (We _) (by simp[below,al (x:=1)])⟩
    ·simp only;rw[Wd (by omega),Wb (by omega)];exact hY0
    ·simp only;rw[Wh (by simp)]
    ·simp only;rw[Wd (by omega),Wg (by omega)];simp
    ·intro k hk;simp only at hk⊢;have hk0:k=0:=(by omega);subst hk0;refine⟨X.length,by omega,by simp;omega,rfl,?_⟩;rw[Wd (by omega),Wb (by omega)];exact q3
   ·have hol:=(Wa.1 g2).1;have hYo:∀t,(Y++t)[o]?=some (.row 1 rows):=λt=>(by rw[Wb (by omega),q2 _ hol];exact g2);have htk:rows.take i=rows:=Wi (by omega)
    have hYs:∀t t',((Y++t).set o .dead++t')[1]?=some (.row 5 [[.p (.int .i64 c.params),.p (.int .i64 c.regs),.p (.lst 5 (c.blocks.map Bk.cs)),.sl o 1 0 i,.p (.lst 1 BL)]]):=λt t'=>by rw[Wb (by simp;omega),Wd ho1];exact hY1 t
    have hYe:=λt hh=>OL (hY1 t) hh;have hYf:=λt t' hh=>OL (hYs t t') hh;simp[hY1',hYo,hrl,htk,hYf];refine⟨⟨by omega,by omega⟩,⟨i+1,_,.sl (Y.length+1) 1 0 (i+1),rows++[[.sl X.length 1 0 c.blocks.length]]⟩,⟨hc1,?_,?_,.inr ⟨Y.length+1,rfl,?_,by omega,by omega⟩,by simp[hrl],?_⟩,by simp only;omega,aa (We _) (by simp[below,hw1])⟩
    ·simp only;rw[Wd (by omega),Wb (by simp<;>omega),Wd ho0,Wb (by omega)];exact hY0
    ·simp only;rw[Wh (by simp)]
    ·simp only;rw[Wd (by omega),Wg (by simp)];simp
    ·intro k hk;simp only at hk⊢
     by_cases hki:k=i
     ·subst hki;refine⟨X.length,by omega,by simp;omega,by rw[Wg (by omega),hrl];simp,?_⟩;rw[Wd (by omega),Wb (by simp;omega),Wd (by omega),Wb (by omega)];exact q3
     ·obtain⟨id,e0,e1,e2,e3⟩:=hro k (by omega);have hidl:=(Wa.1 e3).1;have hio:id≠o:=λe=>e1 (by rw[e]);refine⟨id,e0,by simp;omega,by rw[Wb (by omega)];exact e2,?_⟩;rw[Wd (by omega),Wb (by simp;omega),Wd (Ne.symm hio),Wb (by omega),q2 _ hidl];exact e3
 ·simp at hc1;have hie:i=c.blocks.length:=by omega
  subst hie;simp[];rcases hV with⟨_,h0⟩|⟨o,rfl,g2,ho0,ho1⟩
  ·omega
  ·refine⟨o,by omega,g1,rows,g2,hrl,λk hk=>(hro k hk).elim λid h=>⟨id,?_,h.2.2⟩⟩
   have hid0:id≠0:=λe=>by
    have:=h.2.2.2;rw[e,g0] at this;cases this
   have:=h.1;omega
theorem Gs{n i:Nat}{h:List AO}(hi:n<=i):(lE n h)[i]?=h[i]?:=by
 rw[lE,Wg (by simp;omega),Xs,WZ];congr 1;omega
theorem Pl(c:Cd)(hc:CSm c):VF Tryz.prog G dk [.agg (c.cs.map .p)] (dmV c):=by
 cases hfit:be c.blocks with
 |false=>
  have hcs:=c.cs_eq2;have hbl:bkL c.blocks= .lst 5 (c.blocks.map Bk.cs):=rfl;have hg:=vw G c hc.1;rw[hcs,hbl,hfit] at hg;have hd:dmV c= .nilp:=by rw[dmV,hfit];rfl
  rw[hd];refine AC.go rQ ?_;simp[gW,hcs,hbl];refine hg.use ?_;simp[]
 |true=>
  have h1:AC Tryz.prog G dk [.agg (c.cs.map .p)] [] λx h=>x= .ret (.ptr 1 5 0 0)/\h=[.dead,.row 5 [(dmE c).map .p]]:=by
   refine AC.frz (Mc G c hc hfit) 2 (by simp) (λt v h ⟨_,_,_,e,_⟩=>by cases e) ?_;rintro v h ⟨o,rows,ho,e1,e2,e3,e4,e5⟩;cases e1;cases h with
   |nil=>simp at e2
   |cons a h=>
    cases h with
    |nil=>simp at e2
    |cons b h=>
     have e2:b= .row 5 [[.p (.int .i64 c.params),.p (.int .i64 c.regs),.p (bkL c.blocks),.sl o 1 0 c.blocks.length,.p (boL (iI c.blocks))]]:=(by simpa using e2);subst e2;refine⟨_,_,by simp,rfl,.keep (by simp[below]) .nil,.dead (.one (e1:=(dmE c).map .p) (.keep (by simp[below]) (.keep (by simp[below]) (.keep (by simp[below]) (.one ?_ (.keep (by simp[below]) .nil))))) (.nil _)),rfl,rfl⟩;refine DE (es:=(List.range c.blocks.length).map λi=>[boL (gF c.blocks i)]) (by rw[Gs ho];exact e3) (by simpa using e4) (λe he=>by obtain⟨i,_,rfl⟩:=Ww.1 he;rfl) (λi j e q e' a a1 a2 a3 a4=>?_) (by simp)
     by_cases hi:i<c.blocks.length
     ·obtain⟨id,f0,f1,f2⟩:=e5 i hi;rw[a3] at f1;cases f1;simp only[Wl,YJ hi,Xx,WO] at a1;subst a1;cases j with
      |zero=>
       simp only[XP,WO] at a2 a4;subst a2;subst a4;exact ut (by rw[Gs f0];exact f2) (by rw[fQ])
      |succ j=>simp at a2
     ·rw[WS (by simp;omega)] at a1;cases a1
  have hd:dmV c= .eptr (dmE c) 0:=by rw[dmV,hfit];rfl
  rw[hd];refine AC.frz h1 0 (by simp) (λt v h ⟨e,_⟩=>by cases e) ?_;rintro v h ⟨e1,rfl⟩;cases e1;exact⟨_,[],by simp,rfl,.ptr rfl rfl .nil,.nil _,rfl⟩
end
section
noncomputable def NZ (bs:List Bk) (a b:Int):Bool:=inC bs a&&inC bs b&&rE bs a.toNat b.toNat
theorem Hv{bs:List Bk}{b:Int}(h:be bs=false):inC bs b=false:=by rw[inC,h];rfl
theorem Ap{bs:List Bk}{b:Int}(h:be bs=true):inC bs b=inR b 0 ((bs.length:Int)-1):=by rw[inC,h];rfl
theorem LK{bs:List Bk}{a b:Nat}(h:cz bs a=false):rE bs a b=false:=Oz h
theorem LH{bs:List Bk}{a b:Nat}(h:cz bs b=false):rE bs a b=false:=by rw[As,h,Yw];rfl
theorem ON(c:Cd):∃DL:List (List PV),∃BL:Nat->List (List PV),∃RL:List (List PV),dmE c=[.int .i64 c.params,.int .i64 c.regs,bkL c.blocks,.lst 1 DL,.lst 1 RL]/\DL.length=c.blocks.length/\(∀i,i<c.blocks.length->DL[i]?=some [.lst 1 (BL i)])/\(∀i,(BL i).length=c.blocks.length)/\(∀i j,j<c.blocks.length->(BL i)[j]?=some [.bool (rE c.blocks i j)])/\RL.length=c.blocks.length/\∀i,i<c.blocks.length->RL[i]?=some [.bool (cz c.blocks i)]:=by
 obtain⟨DL,BL,h1,h2,h3,h4,h5⟩:=LJ c.blocks;obtain⟨RL,r1,r2,r3⟩:=BJ (iI c.blocks);exact⟨DL,BL,RL,by rw[dmE,h1,r1],h2,h3,h4,h5,by rw[r2,tU],λi hi=>r3 i _ (by simp[iI,hi])⟩
variable (G:aw)
theorem Rn(c:Cd)(hc:CBd c)(b:Int):VF Tryz.prog G eP [dmV c,.p (.int .i64 b)] (.p (.bool (inC c.blocks b&&cz c.blocks b.toNat))):=by
 have hl1:=hc.1;refine AC.go Ab ?_;cases hfit:be c.blocks with
 |false=>
  have hd:dmV c= .nilp:=by rw[dmV,hfit];rfl
  rw[hd,Hv hfit];simp[iW]
 |true=>
  have hd:dmV c= .eptr (dmE c) 0:=by rw[dmV,hfit];rfl
  obtain⟨DL,BL,RL,e,hDl,hDg,hBl,hBg,hRl,hRg⟩:=ON c;rw[hd,e,Ap hfit];have hwn:IntKind.i64.wrap ((c.blocks.length:Int)-1)=(c.blocks.length:Int)-1:=al (by omega) (by omega);simp[iW,hRl,hwn];refine(cb G b 0 ((c.blocks.length:Int)-1)).use ?_;cases hi:inR b 0 ((c.blocks.length:Int)-1) with
  |false=>simp[]
  |true=>
   obtain⟨_,h0,h1,h2⟩:=Ff (bs:=c.blocks) (b:=b) (by rw[Ap hfit];exact hi);have hr:=hRg b.toNat h1;simp[hr,h0]
theorem FL(c:Cd)(hc:CBd c)(a b:Int):VF Tryz.prog G dq [dmV c,.p (.int .i64 a),.p (.int .i64 b)] (.p (.bool (NZ c.blocks a b))):=by
 have hl1:=hc.1;have ha:=Rn G c hc a;have hb:=Rn G c hc b;refine AC.go oC ?_;cases hfit:be c.blocks with
 |false=>
  have hd:dmV c= .nilp:=by rw[dmV,hfit];rfl
  rw[NZ,Hv hfit];rw[hd,Hv hfit] at ha hb;rw[hd];simp[dn];refine ha.use ?_;simp[]
 |true=>
  have hd:dmV c= .eptr (dmE c) 0:=by rw[dmV,hfit];rfl
  obtain⟨DL,BL,RL,e,hDl,hDg,hBl,hBg,hRl,hRg⟩:=ON c;rw[hd,e] at ha hb;rw[hd,e];simp[dn];refine ha.use ?_;rw[NZ];cases e1:inC c.blocks a with
  |false=>simp[]
  |true=>
   obtain⟨_,ha0,ha1,ha2⟩:=Ff e1;cases e2:cz c.blocks a.toNat with
   |false=>simp[LK e2]
   |true=>
    simp[];refine hb.use ?_;cases e3:inC c.blocks b with
    |false=>simp[]
    |true=>
     obtain⟨_,hb0,hb1,hb2⟩:=Ff e3;cases e4:cz c.blocks b.toNat with
     |false=>simp[LH e4]
     |true=>
      have h1:=hDg a.toNat ha1;have h2:=hBg a.toNat b.toNat hb1;simp[h1,h2,ha0,hb0]
theorem Gu(c:Cd)(n:Nat):below n (dmV c):=by rw[dmV];split<;>simp[below]
end
section
theorem rb{c:Cd}{x:Nat}(h:x<c.blocks.length):fD c x=ab c.blocks x:=by
 have:inR (x:Int) 0 ((c.blocks.length:Int)-1)=true:=by simp only[inR,Wr,Wx];omega
 rw[fD,this,Wz rfl]
theorem DG{p:Nat->Bool}:∀{n:Nat},(∀i,i<n->p i=false)->cF p n=[]
 |0,_=>rfl
 |n+1,h=>by rw[LA,DG (λi hi=>h i (by omega)),h n (by omega)];rfl
end
section
structure VH (c:Cd) (X:List AO) (seen:List Bool) (out:List Nat):Prop where
 len:5<=X.length
 code:X[0]?=some (.row 3 [[.p (.int .i64 c.params),.p (.int .i64 c.regs),.p (bkL c.blocks)]])
 se:X[2]?=some (.row 1 (aG seen))
 sb:X[3]?=some (.row 1 [[.sl 2 1 0 c.blocks.length]])
 fn:X[4]?=some (.row 1 [[.fn (.func cV) [.ptr 3 1 0 0,.ptr 0 3 0 0,.ptr 4 1 0 0,.ptr 1 1 0 0]]])
 ou:∃V,X[1]?=some (.row 1 [[V]])/\((V= .nils/\out=[])\/∃id,5<=id/\V= .sl id 1 0 out.length/\X[id]?=some (.row 1 (ae (an out))))
 sl:seen.length=c.blocks.length
structure VsS where (i:Nat) (X:List AO)
variable (G:aw)
theorem Ju(c:Cd)(hc:CBd c)(hfit:be c.blocks=true):∀(f:Nat) (X:List AO) (b:Nat) (seen:List Bool) (out:List Nat),b<c.blocks.length->sn seen b=false->fls seen<=f->VH c X seen out->out.length+fls seen<=1073741824->
 AC Tryz.prog G cV [.p (.int .i64 b),.ptr 3 1 0 0,.ptr 0 3 0 0,.ptr 4 1 0 0,.ptr 1 1 0 0] X λx X'=>x= .ret (.tup [])/\X.length<=X'.length/\VH c X' (dfs (nxC c.blocks) f (seen,out) b).1 (dfs (nxC c.blocks) f (seen,out) b).2:=by
 intro f
 induction f with
 |zero=>
  intro X b seen out hb hsb hf;have:=js hsb;omega
 |succ f ih=>
  intro X b seen out hb hsb hf hX hsz;have hsl:=hX.sl;have hbl:bkL c.blocks= .lst 5 (c.blocks.map Bk.cs):=rfl;have hl1:=hc.1;have hgb:=Wc hb;have hmb:=Wm hb;generalize c.blocks[b]=x at hgb hmb;have hnx:=hc.2 _ hmb;have hxs:=x.cs_eq2;have hnl:ah x.next= .lst 1 (x.next.map λn=>[.int .i64 n]):=rfl;have hset:=js hsb
  have hD0:∀i,(cr (nxC c.blocks) f (seen.set b true,out) ((nxC c.blocks b).take i)).2.length+fls (cr (nxC c.blocks) f (seen.set b true,out) ((nxC c.blocks b).take i)).1+1=out.length+fls seen/\(cr (nxC c.blocks) f (seen.set b true,out) ((nxC c.blocks b).take i)).1.length=seen.length/\fls (cr (nxC c.blocks) f (seen.set b true,out) ((nxC c.blocks b).take i)).1<=f:=λi=>by
   have:=(Ao (nxC c.blocks) f).1 ((nxC c.blocks b).take i) (seen.set b true,out) (by simp only;omega);simp only[Wy] at this;omega
  obtain⟨D,hD⟩:∃D:Nat->List Bool × List Nat,D=λi=>cr (nxC c.blocks) f (seen.set b true,out) ((nxC c.blocks b).take i):=⟨_,rfl⟩;have hDz:D 0=(seen.set b true,out):=by rw[hD];rfl
  have hDs:∀(i:Nat) (m:Nat),(nxC c.blocks b)[i]?=some m->D (i+1)=if sn (D i).1 m then D i else dfs (nxC c.blocks) f (D i) m:=λi m h=>by rw[hD];exact Dx h
  have hDe:dfs (nxC c.blocks) (f+1) (seen,out) b=((D x.next.length).1,(D x.next.length).2++[b]):=by
   rw[pK,hD];have:(nxC c.blocks b).take x.next.length=nxC c.blocks b:=(by rw[ma hgb,Wi (by simp)]);simp only[this]
  have hD1:∀i,(D i).2.length+fls (D i).1+1=out.length+fls seen/\(D i).1.length=seen.length/\fls (D i).1<=f:=λi=>by rw[hD];exact hD0 i
  clear hD0 hD;have hXl:=hX.len;have hrow:(aG seen)[b]?=some [.p (.bool false)]:=by rw[←hsb];exact bh (nt (by omega))
  refine AC.go zy ?_;have e0:∀t,(X.set 2 t)[0]?=some (.row 3 [[.p (.int .i64 c.params),.p (.int .i64 c.regs),.p (bkL c.blocks)]]):=λt=>by rw[Wd (by omega)];exact hX.code
  simp-implicitDefEqProofs[nZ,hX.sb,hX.se,hrow,bP,e0,hbl,hgb,hxs,hnl];refine⟨hb,?_⟩
  have hVz:VH c (X.set 2 (.row 1 (aG (seen.set b true)))) (D 0).1 (D 0).2:=by
   rw[hDz];refine⟨by simp;omega,e0 _,by rw[Wh (by omega)],by rw[Wd (by omega)];exact hX.sb,by rw[Wd (by omega)];exact hX.fn,?_,by rw[Wy];exact hsl⟩;obtain⟨V,h1,h2⟩:=hX.ou;refine⟨V,by rw[Wd (by omega)];exact h1,h2.imp id λ⟨id,a1,a2,a3⟩=>⟨id,a1,a2,by rw[Wd (by omega)];exact a3⟩⟩
  have hlz:X.length<=(X.set 2 (.row 1 (aG (seen.set b true)))).length:=by simp
  generalize X.set 2 (.row 1 (aG (seen.set b true)))=X0 at hVz hlz
  refine am (λa:VsS=>aj 35 [(18,.p (.int .i64 a.i)),(17,.p (.int .i64 x.next.length)),(16,.p (.lst 1 (x.next.map λn=>[.int .i64 n]))),(0,.p (.int .i64 b)),(1,.ptr 3 1 0 0),(2,.ptr 0 3 0 0),(3,.ptr 4 1 0 0),(4,.ptr 1 1 0 0)]) (λa=>a.X)
   (λa=>a.i<=x.next.length/\X.length<=a.X.length/\VH c a.X (D a.i).1 (D a.i).2) (λa=>x.next.length-a.i) ⟨0,X0⟩ ⟨We _,hlz,hVz⟩ (aa hlz (by have:=hVz.len;simp[below];omega)) ?_
  clear hVz hlz X0 e0;rintro⟨i,Y⟩ ⟨hi,hYl,hY⟩;simp only at hi hYl hY;have hY5:=hY.len;simp-implicitDefEqProofs[];refine aA (λhc1=>?_) (λhc1=>?_)
  ·simp at hc1;have hg2:=Wc hc1;generalize x.next[i]=r at hg2;have hr:=Ae hfit hgb (Wq hg2);have hrn:((r.toNat:Nat):Int)=r:=by omega
   have hDn:=hDs i r.toNat (Kq hgb hg2);generalize hm:r.toNat=m at hrn hDn;subst hrn;have hml:m<c.blocks.length:=(by omega);have⟨q1,q2,q3⟩:=hD1 i;have hrw:(aG (D i).1)[m]?=some [.p (.bool (sn (D i).1 m))]:=bh (nt (by omega));have hw1:=w1 (i:=i) (by omega);simp-implicitDefEqProofs[hg2,hY.sb,hY.se,hrw,hml];refine aA (λhe=>?_) (λhe=>?_)
   ·have he:sn (D i).1 m=false:=(by simpa using he);simp only[he,Ye,if_false] at hDn;have hcall:=ih Y m (D i).1 (D i).2 hml he q3 hY (by omega);simp-implicitDefEqProofs[hY.fn];refine hcall.mono ?_;rintro rr Z ⟨rfl,z1,z2⟩;rw[show((D i).1,(D i).2)=D i from rfl,←hDn] at z2;simp-implicitDefEqProofs[];exact⟨⟨i+1,Z⟩,⟨by simp only;omega,by simp only;omega,z2⟩,by simp only;omega,aa (by omega) (by have:=z2.len;simp[below,hw1];omega)⟩
   ·have he:sn (D i).1 m=true:=(by simpa using he);simp only[he,if_true] at hDn;simp-implicitDefEqProofs[];exact⟨⟨i+1,Y⟩,⟨by simp only;omega,hYl,by simp only[hDn];exact hY⟩,by simp only;omega,aa (by omega) (by simp[below,hw1];omega)⟩
  ·simp at hc1;have hie:i=x.next.length:=by omega
   subst hie;rw[hDe];have⟨q1,q2,q3⟩:=hD1 x.next.length;generalize D x.next.length=Z at*
   obtain⟨V,v1,v2⟩:=hY.ou;have v1':∀t,(Y++t)[1]?=some (.row 1 [[V]]):=λt=>(by rw[Wb (by omega)];exact v1);have v1e:=λt hh=>OL (v1' t) hh;rcases v2 with⟨rfl,hn⟩|⟨id,hid,rfl,v3⟩
   ·simp-implicitDefEqProofs[v1,v1e];refine⟨by omega,by simp;omega,?_,?_,?_,?_,⟨.sl (Y.length+1) 1 0 1,?_,.inr ⟨Y.length+1,by omega,by rw[hn];rfl,?_⟩⟩,by rw[q2];exact hsl⟩
    ·rw[Wd (by omega),Wb (by omega)];exact hY.code
    ·rw[Wd (by omega),Wb (by omega)];exact hY.se
    ·rw[Wd (by omega),Wb (by omega)];exact hY.sb
    ·rw[Wd (by omega),Wb (by omega)];exact hY.fn
    ·rw[Wh (by simp)]
    ·rw[Wd (by omega),Wg (by omega),hn];simp[ae,an]
   ·have hol:=(Wa.1 v3).1;have htl:List.take Z.2.length (ae (an Z.2))=ae (an Z.2):=Wi (by simp[ae,an]);have hrl:(ae (an Z.2)).length=Z.2.length:=(by simp[ae,an]);have hxm:∀t,(Y++t)[id]?=some (.row 1 (ae (an Z.2))):=λt=>by rw[Wb hol];exact v3
    have v4:∀t t',((Y++t).set id .dead++t')[1]?=some (.row 1 [[.sl id 1 0 Z.2.length]]):=λt t'=>by rw[Wb (by simp;omega),Wd (by omega)];exact v1' t
    have v4e:=λt t' hh=>OL (v4 t t') hh;simp-implicitDefEqProofs[v1,hxm,htl,hrl,v4e];refine⟨⟨by omega,by omega⟩,by omega,by simp;omega,?_,?_,?_,?_,⟨.sl (Y.length+1) 1 0 (Z.2.length+1),?_,.inr ⟨Y.length+1,by omega,by simp,?_⟩⟩,by rw[q2];exact hsl⟩
    ·rw[Wd (by omega),Wb (by simp<;>omega),Wd (by omega),Wb (by omega)];exact hY.code
    ·rw[Wd (by omega),Wb (by simp;omega),Wd (by omega),Wb (by omega)];exact hY.se
    ·rw[Wd (by omega),Wb (by simp;omega),Wd (by omega),Wb (by omega)];exact hY.sb
    ·rw[Wd (by omega),Wb (by simp;omega),Wd (by omega),Wb (by omega)];exact hY.fn
    ·rw[Wh (by simp)]
    ·rw[Wd (by omega),Wg (by simp),mF];simp[ae,an]
def iL(bs:List Bk):List Nat:=(dfs (nxC bs) bs.length (List.replicate bs.length false,[]) 0).2
theorem Mz(c:Cd)(hc:CBd c)(hfit:be c.blocks=true):AC Tryz.prog G lY [.agg (c.cs.map .p)] [] λr h=>∃id,iL c.blocks≠[]/\r= .ret (.sl id 1 0 (iL c.blocks).length)/\h[id]?=some (.row 1 (ae (an (iL c.blocks)))):=by
 have hcs:=c.cs_eq2;have hbl:bkL c.blocks= .lst 5 (c.blocks.map Bk.cs):=rfl;have hl1:=hc.1;have hpos:=cf hfit;have hsl:(List.replicate c.blocks.length false).length=c.blocks.length:=Xs;have h0:sn (List.replicate c.blocks.length false) 0=false:=by rw[fc];exact decide_eq_false (by omega)
 have hne:iL c.blocks≠[]:=by
  rw[iL];obtain⟨n,hn⟩:∃n,c.blocks.length=n+1:=⟨c.blocks.length-1,by omega⟩;rw[hn,pK];simp
 have hv:=Ju G c hc hfit c.blocks.length [.row 3 [[.p (.int .i64 c.params),.p (.int .i64 c.regs),.p (bkL c.blocks)]],.row 1 [[.nils]],.row 1 (aG (List.replicate c.blocks.length false)),.row 1 [[.sl 2 1 0 c.blocks.length]],.row 1 [[.fn (.func cV) [.ptr 3 1 0 0,.ptr 0 3 0 0,.ptr 4 1 0 0,.ptr 1 1 0 0]]]] 0 (List.replicate c.blocks.length false) [] hpos h0 (by rw[jB];exact Wo _) ⟨by simp,rfl,rfl,rfl,rfl,⟨_,rfl,.inl ⟨rfl,rfl⟩⟩,hsl⟩ (by rw[jB];simp;omega);rw[hbl] at hv;refine AC.go Dk ?_;simp-implicitDefEqProofs[sv,hcs,hbl,AH];refine⟨by omega,?_⟩;refine hv.mono ?_;rintro r Y ⟨rfl,hYl,hY⟩;obtain⟨V,v1,v2⟩:=hY.ou;have hY5:=hY.len;change (V= .nils/\iL c.blocks=[])\/∃id,5<=id/\V= .sl id 1 0 (iL c.blocks).length/\Y[id]?=some (.row 1 (ae (an (iL c.blocks)))) at v2;rcases v2 with⟨_,hn⟩|⟨id,hid,rfl,v3⟩
 ·exact absurd hn hne
 ·simp-implicitDefEqProofs[v1];exact⟨hne,v3⟩
theorem bW{l:List Int}{i:Nat}{x:Int}(h:l[i]?=some x):(ae l)[i]?=some [.p (.int .i64 x)]:=by simp[ae,h]
theorem jJ(l:List Int)(i:Nat)(x:Int):(ae l).set i [.p (.int .i64 x)]=ae (l.set i x):=by simp[ae,Ym]
theorem Rd{f:FuncId}{args:List AV}{l:List Int}(H:AC Tryz.prog G f args [] λr h=>∃id,r= .ret (.sl id 1 0 l.length)/\h[id]?=some (.row 1 (ae l))):AC Tryz.prog G f args [] λr h=>r= .ret (.sl 0 1 0 l.length)/\h=[.row 1 (ae l)]:=
 H.gc (λt v h ⟨_,e,_⟩=>by cases e) λv h ⟨id,e1,e2⟩=>by
  cases e1;refine⟨.sl 0 1 0 l.length,[.row 1 (ae l)],⟨[id],by simp,λi hi=>by simp at hi,by simp,by simp[below],by simp[ren],IM e2 (λx hx=>by obtain⟨n,_,rfl⟩:=Ww.1 hx;simp[below]) Ja⟩,rfl,rfl⟩
end
section
theorem Ro{α:Type}{h:List AO}(f:α->PV)(hn:∀x sz es,f x≠ .lst sz es):∀{rows:List (List AV)} {l:List α} {J:List Nat},rows.length=l.length->(∀r∈rows,r.length=1)->OwnL true h rows.flatten (l.map λx=>[f x]).flatten J->rows=l.map (λx=>[AV.p (f x)])/\J=[]
 |[],[],J,_,_,H=>by cases H;exact⟨rfl,rfl⟩
 |r::rows,x::l,J,hl,hr,H=>by
  obtain⟨v,rfl⟩:∃v,r=[v]:=Yn.1 (hr r (by simp));rw[WX,WJ,WX] at H;have H':OwnL true h (v::rows.flatten) (f x::(l.map λx=>[f x]).flatten) J:=H;obtain⟨q,hq⟩:∃q,q=f x:=⟨_,rfl⟩;rw[←hq] at H';cases H' with
  |p q _ H2=>
   obtain⟨h1,h2⟩:=Ro f hn (by simpa using hl) (λr hr'=>hr r (by simp[hr'])) H2;rw[h1,hq];exact⟨rfl,h2⟩
  |nils sz H2=>exact absurd hq.symm (hn x _ _)
  |sl id sz n rows es a1 a2 a3 a4 a5 a6 H2=>exact absurd hq.symm (hn x _ _)
theorem io{α:Type}{n:Nat}{h:List AO}{A:AV}(f:α->PV)(hn:∀x sz es,f x≠ .lst sz es){l:List α}{J:List Nat}(H:Own n h [A] [.lst 1 (l.map λx=>[f x])] J):(A= .nils/\l=[]/\J=[])\/∃kd,A= .sl kd 1 0 l.length/\J=[kd]/\h[kd]?=some (.row 1 (l.map λx=>[AV.p (f x)]))/\n<=kd:=by
 rcases H.row with⟨h1,h2,h3⟩|⟨id,rows,J2,h1,h2,hr,_⟩
 ·exact .inl ⟨h1,WK.1 h2,h3⟩
 ·have hrl:=hr.len;rw[Wj] at hrl h1;obtain⟨e1,e2⟩:=Ro f hn hrl hr.rl hr.own;subst e2;exact .inr ⟨id,h1,h2,by rw[hr.here,e1],H.ge id (by rw[h2];simp)⟩
def boT(Y:List (List Bool)):PV:= .lst 1 (Y.map λl=>[boL l])
theorem QO{n:Nat}{h:List AO}{A:AV}{l:List Bool}{J:List Nat}(H:Own n h [A] [boL l] J):(A= .nils/\l=[]/\J=[])\/∃kd,A= .sl kd 1 0 l.length/\J=[kd]/\h[kd]?=some (.row 1 (aG l))/\n<=kd:=
 io (λb=>PV.bool b) (λ_ _ _ e=>by cases e) H
theorem KR{n:Nat}{h:List AO}{id m:Nat}{l:List Bool}(hg:h[id]?=some (.row 1 (aG l)))(hn:n<=id)(hm:m=l.length):Own n h [.sl id 1 0 m] [boL l] [id]:=by
 have hfl:∀l:List Bool,OwnL true h (aG l).flatten (l.map λb=>[PV.bool b]).flatten []:=λl=>by
  induction l with
  |nil=>exact .nil
  |cons a r ih=>exact .p _ (λ_=>rfl) ih
 exact Own.of ⟨hg,by simp[aG],(λe he=>by obtain⟨b,_,rfl⟩:=Ww.1 he;rfl),(λe he=>by obtain⟨b,_,rfl⟩:=Ww.1 he;rfl),hfl l,by simp⟩ (λr hr v hv=>by obtain⟨b,_,rfl⟩:=Ww.1 hr;rw[Wt.1 hv];rfl) (λj hj=>by cases hj) (λj hj=>by rw[Wt.1 hj];exact hn) (by simp[hm])
theorem JW{h:List AO}{Yv:AV}{I:List Nat}{Y:List (List Bool)}(H:Own 0 h [Yv] [boT Y] I){b:Nat}{l:List Bool}(hb:Y[b]?=some l)(hne:l≠[]):∃yid rows kd,Yv= .sl yid 1 0 Y.length/\h[yid]?=some (.row 1 rows)/\rows.length=Y.length/\rows[b]?=some [.sl kd 1 0 l.length]/\h[kd]?=some (.row 1 (aG l))/\yid∈I/\kd∈I/\yid≠kd/\
 ∀(h2:List AO) (l':List Bool),l'.length=l.length->h2[kd]?=some (.row 1 (aG l'))->(∀j∈I,j≠kd->h2[j]?=h[j]?)->∃I',Own 0 h2 [Yv] [boT (Y.set b l')] I'/\∀j∈I',j∈I:=by
 rcases H.row with⟨_,h2,_⟩|⟨id,rows,J,h1,h2,hr,_⟩
 ·rw[WK.1 h2] at hb;simp at hb
 rw[Wj] at h1;subst h2;have HV2:=H;rw[h1] at HV2;have hl:(Y.map λl=>[boL l]).length=Y.length:=by simp
 obtain⟨r0,Ji,g1,g2,g3,g4⟩:=Own.upd (D:=Y.map λl=>[boL l]) (by rw[hl];exact HV2) hr (i:=b) (e:=[boL l]) (by simp[hb]);obtain⟨A,rfl,hA⟩:=g2.single;rcases QO hA with⟨_,q,_⟩|⟨kd,rfl,rfl,k3,_⟩
 ·exact absurd q hne
 have hkj:=g3 kd (by simp);have hrl:=hr.len;rw[hl] at hrl;refine⟨id,rows,kd,h1,hr.here,hrl,g1,k3,by simp,by simp[hkj.1],Ne.symm hkj.2,λh2 l' hl' e1 e2=>?_⟩
 have hset:rows.set b [.sl kd 1 0 l.length]=rows:=by
  obtain⟨q1,q2⟩:=Wa.1 g1;rw[←q2,Xl]
 obtain⟨J',p1,p2⟩:=g4 h2 [.sl kd 1 0 l.length] [boL l'] [kd] (by rw[hset,e2 id (by simp) (Ne.symm hkj.2)];exact hr.here) (λj hj hn=>e2 j (by simp[hj]) (by simpa using hn)) (KR e1 (We _) hl'.symm) (λj hj=> .inl hj) rfl;rw[hl] at p1;refine⟨id::J',?_,λj hj=>?_⟩
 ·rw[h1];have:boT (Y.set b l')= .lst 1 ((Y.map λl=>[boL l]).set b [boL l']):=by rw[boT,Ym]
  rw[this];exact p1
 ·rcases WE.1 hj with rfl|hj
  ·simp
  ·rcases p2 j hj with q|q
   ·simp[q]
   ·rw[Wt.1 q];simp[hkj.1]
def TJ(x:Bk)(l:List Bool)(t:Int)(i:Nat):Prop:=∀k,k<i->¬(x.next[k]?=some t/\l[k]?=some true)
def rqV(l:List Int)(r:Nat):AV:=if l=[] then .nils else .sl r 1 0 l.length
theorem MG{l:List Int}(h:l≠[])(r:Nat):rqV l r= .sl r 1 0 l.length:=WB h
theorem Qr(l:List Int)(i:Nat)(x:Int)(r:Nat):rqV (l.set i x) r=rqV l r:=by simp[rqV]
theorem tS(l:List Int)(r:Nat):(rqV l r).cells=[rqV l r]/\(rqV l r).isCell=true:=by unfold rqV;split<;>exact⟨rfl,rfl⟩
structure KW (h:List AO) (w r o:Nat) (Yv:AV) (I:List Nat) (S:KS) (Y:List (List Bool)) (m:Bool):Prop where
 hw:h[w]?=some (.row 4 [[rqV S.regs r,.sl o 1 0 S.opn.length,Yv,.p (.bool m)]])
 hr:S.regs≠[]->h[r]?=some (.row 1 (ae S.regs))
 ho:h[o]?=some (.row 1 (aG S.opn))
 own:∃J,Own 0 h [Yv] [boT Y] J/\∀j∈J,j∈I
 li:∀j∈I,j<h.length
 rl:r<h.length
 ra:S.regs≠[]->w≠r/\r≠o/\r∉I
 wo:w≠o
 nw:w∉I
 no:o∉I
theorem KW.lt{h:List AO}{w r o:Nat}{Yv:AV}{I:List Nat}{S:KS}{Y:List (List Bool)}{m:Bool}(H:KW h w r o Yv I S Y m):∀i∈w::r::o::I,i<h.length:=λi hi=>by
 simp only[WE] at hi;rcases hi with rfl|rfl|rfl|hi
 ·exact(Wa.1 H.hw).1
 ·exact H.rl
 ·exact(Wa.1 H.ho).1
 ·exact H.li i hi
theorem KW.fr{h h':List AO}{w r o:Nat}{Yv:AV}{I:List Nat}{S:KS}{Y:List (List Bool)}{m:Bool}(H:KW h w r o Yv I S Y m)(hl:h.length<=h'.length)(e:∀i∈w::r::o::I,h'[i]?=h[i]?):KW h' w r o Yv I S Y m:=by
 obtain⟨J,j1,j2⟩:=H.own;exact⟨by rw[e w (by simp)];exact H.hw,λhne=>by rw[e r (by simp)];exact H.hr hne,by rw[e o (by simp)];exact H.ho,⟨J,j1.frame λi hi=>e i (by simp[j2 i hi]),j2⟩,λj hj=>by have:=H.li j hj;omega,by have:=H.rl;omega,H.ra,H.wo,H.nw,H.no⟩
theorem KW.more{h:List AO}{w r o:Nat}{Yv:AV}{I:List Nat}{S:KS}{Y:List (List Bool)}{m:Bool}(H:KW h w r o Yv I S Y m)(os:List AO):KW (h++os) w r o Yv I S Y m:=H.fr (by simp) λi hi=>Wb (H.lt i hi)
theorem KW.hwN{h:List AO}{w r o:Nat}{Yv:AV}{I:List Nat}{S:KS}{Y:List (List Bool)}{m:Bool}(H:KW h w r o Yv I S Y m)(hne:S.regs≠[]):h[w]?=some (.row 4 [[.sl r 1 0 S.regs.length,.sl o 1 0 S.opn.length,Yv,.p (.bool m)]]):=by rw[H.hw,MG hne]
theorem mH{α:Type}{l:List α}{i:Nat}(h:i<l.length):l≠[]:=λe=>by rw[e] at h;simp at h
theorem oT{l:List Int}{q:Nat}(h:q<l.length):l[q]?=some (rg l q):=by rw[rg,XF,Wc h];rfl
def pf:Option Int->AV
 |some q=> .tup [.p (.int .i64 q),.p (.int .i64 0)]
 |none=> .tup [.p (.int .i64 0),.p (.int .i64 1)]
variable (G:aw)
theorem lZ(b:Bool):VF Tryz.prog G bQ [.p (.bool b)] (.p (.int .i64 (tr5 b))):=by
 refine AC.go Ax ?_;cases b<;>simp[pC,tr5]
theorem Qm(o a b:Int)(ho:3<=o)(h9:o<=9)(ha:V5 a)(hb:V5 b):VF Tryz.prog G mV [.p (.int .i64 o),.p (.int .i64 a),.p (.int .i64 b)] (pf (sX o a b)):=by
 obtain⟨a0,a1⟩:=ha;obtain⟨b0,b1⟩:=hb;refine AC.go Et ?_
 have hm:a*b<=65025:=by
  have h1:=Int.mul_le_mul_of_nonneg_right a1 b0;omega
 have hm0:0<=a*b:=Int.mul_nonneg a0 b0;have ho':o=3\/o=4\/o=5\/o=6\/o=7\/o=8\/o=9:=by omega
 rcases ho' with rfl|rfl|rfl|rfl|rfl|rfl|rfl
 all_goals simp[ui,sX]
 ·rw[al (by omega) (by omega),XM (by omega)];rfl
 ·have hw:IntKind.i64.wrap (a-b)=a-b:=al (by omega) (by omega);rw[hw,al (by omega) (by omega),XM (by omega)];have:(a-b+256)%256=(a-b)%256:=by omega
  rw[this];rfl
 ·rw[al (by omega) (by omega),XM (by omega)];rfl
 ·refine aA (λh=>?_) (λh=>?_)
  ·simp at h;simp[h,pf]
  ·simp at h;simp[h,pf];rw[Int.tdiv_eq_ediv_of_nonneg (by omega)];have h1:a/b<=a:=ZJ b a0;have h2:0<=a/b:=ZO a0 b0;exact al (by omega) (by omega)
 ·refine aA (λh=>?_) (λh=>?_)
  ·simp at h;simp[h,pf]
  ·simp at h;simp[h,pf];rw[XM (by omega)]
 ·refine(lZ G _).use ?_;simp[pf]
 ·refine(lZ G _).use ?_;simp[pf]
theorem Fm(o:Int):VF Tryz.prog G lx [.p (.int .i64 o)] (.p (.bool (inR o 1 10))):=by
 refine AC.go Dn ?_;simp[rO];refine(dm G o 1 10).use ?_;simp[]
theorem RK(o a b:Int)(ho:3<=o)(h9:o<=10)(ha:V5 a)(hb:V5 b):VF Tryz.prog G pH [.p (.int .i64 o),.p (.int .i64 a),.p (.int .i64 b)] (pf (if o=10 then some (tr5 (decide (a=0))) else sX o a b)):=by
 refine AC.go FD ?_
 by_cases h:o=10
 ·subst h;simp[pA];refine(lZ G _).use ?_;simp[pf]
 ·have h1:¬o=1:=by omega
  have h2:¬o=2:=by omega
  have hT:=Qm G o a b ho (by omega) ha hb;simp[pA,h,h1,h2];cases ht:sX o a b with
  |none=>
   rw[ht] at hT;refine VF.use (hr:=by simp[pf,au,below]) hT ?_;simp[pf]
  |some q=>
   rw[ht] at hT;refine VF.use (hr:=by simp[pf,au,below]) hT ?_;simp[pf]
theorem LY(a b:Int):VF Tryz.prog G kq [.p (.int .i64 a),.p (.int .i64 b)] (.p (.int .i64 (jP a b))):=by
 refine AC.go BX ?_
 by_cases h1:a= -2
 ·simp[dI,jP,h1]
 ·by_cases h2:b= -2
  ·simp[dI,jP,h1,h2]
  ·by_cases h3:a=b
   ·simp[dI,jP,h2,h3]
   ·simp[dI,jP,h1,h2,h3]
section
variable {h:List AO} {w r o:Nat} {Yv:AV} {I:List Nat} {S:KS} {Y:List (List Bool)} {m:Bool}
theorem OW(H:KW h w r o Yv I S Y m)(q:Nat)(hq:q<S.regs.length)(n:Int):
 AC Tryz.prog G cP [.ptr w 4 0 0,.p (.int .i64 q),.p (.int .i64 n)] h λx h'=>x= .ret (.tup [])/\KW h' w r o Yv I (S.bec q n) Y (m|| !decide (rg S.regs q=n))/\Frm [w,r] h h':=by
 have hne:=mH hq;obtain⟨ra1,ra2,ra3⟩:=H.ra hne;have hg:=H.hwN hne;have hr:=H.hr hne;have hq1:=bW (oT hq);have hql:q<(ae S.regs).length:=by rw[di];exact hq
 have hwl:=H.lt w (by simp);have hrl:=H.lt r (by simp);refine AC.go th ?_
 by_cases e:rg S.regs q=n
 ·have hb:S.bec q n=S:=by
   have h1:=oT hq;obtain⟨_,h2⟩:=Wa.1 h1;rw[KS.bec,XF,←e,←h2,Xl]
  simp[eZ,hg,hr,hq1,e,hb];exact⟨hq,H,Frm.refl _ _⟩
 ·have hs1:∀o,(h.set r o)[w]?=h[w]?:=λo=>Wd (Ne.symm ra1);simp[eZ,hg,hr,hq1,e,hs1,jJ];refine⟨hq,⟨?_,λ_=>?_,?_,?_,λj hj=>?_,by simpa using H.rl,λ_=>⟨ra1,ra2,ra3⟩,H.wo,H.nw,H.no⟩,by simp,λi hi hn=>?_⟩
  ·rw[Wh (by simpa using hwl),←MG hne];simp[KS.bec,Qr]
  ·rw[Wd ra1,Wh hrl];simp[KS.bec]
  ·rw[Wd H.wo,Wd ra2];exact H.ho
  ·obtain⟨J,j1,j2⟩:=H.own
   exact⟨J,j1.frame λi hi=>by
    have h1:=j2 i hi;rw[Wd (λe=>H.nw (by rw[e];exact h1)),Wd (λe=>ra3 (by rw[e];exact h1))],j2⟩
  ·simpa using H.li j hj
  ·simp only[WE,Zi,or_false,not_or] at hn;rw[Wd (Ne.symm hn.1),Wd (Ne.symm hn.2)]
theorem Sz{c:Cd}(H:KW h w r o Yv I S Y m)(hW:WayR c S.W Y)(hc:CBd c){p:Nat}{x:Bk}(hp:c.blocks[p]?=some x)(t:Int):
 AC Tryz.prog G fa [.ptr w 4 0 0,.agg (c.cs.map .p),.p (.int .i64 p),.p (.int .i64 t)] h λz h'=>z= .ret (.p (.bool (decide (((p:Int),t)∈S.W))))/\h'=h:=by
 have hcs:=c.cs_eq2;have hbl:bkL c.blocks= .lst 5 (c.blocks.map Bk.cs):=rfl;have hxs:=x.cs_eq2;have hnl:ah x.next= .lst 1 (x.next.map λn=>[.int .i64 n]):=rfl;have hnx:=hc.2 x (Wq hp);obtain⟨l,l1,l2,l3⟩:=hW.at' p x hp;obtain⟨J,j1,j2⟩:=H.own;refine AC.trim ?_ (by simp[below]);refine AC.go sI ?_;have hg:=H.hw;have hwl:=H.lt w (by simp);obtain⟨rc1,rc2⟩:=tS S.regs r;generalize rqV S.regs r=RV at hg rc1 rc2;simp[kK,hcs,hbl];refine am (λi:Nat=>aj 44 [(9,.p (.int .i64 i)),(0,.ptr w 4 0 0),(5,.ptr h.length 3 0 0),(2,.p (.int .i64 p)),(3,.p (.int .i64 t))]) (λ_=>h++[AO.row 3 [[.p (.int .i64 c.params),.p (.int .i64 c.regs),.p (.lst 5 (c.blocks.map Bk.cs))]]]) (λi=>i<=x.next.length/\TJ x l t i) (λi=>x.next.length-i) 0 ⟨We _,λk hk=>by omega⟩ (aa (by simp) (by simp[below];omega)) ?_;rintro i ⟨hi,hno⟩;simp[hp,hxs,hnl];refine aA (λhcc=>?_) (λhcc=>?_)
 ·have hcc:i<x.next.length:=by simpa using hcc
  have hgi:=Wc hcc;generalize x.next[i]=q at hgi;have hne:l≠[]:=λe=>by rw[e] at l2;simp at l2;omega
  obtain⟨yid,rows,kd,rfl,y1,y2,y3,y4,y5,y6,y7,_⟩:=JW j1 l1 hne;have hyl:=j1.lt yid y5;have hkl:=j1.lt kd y6;have hil:i<l.length:=by omega
  have hli:=Wc hil;generalize l[i]=v at hli;have hlb:=bh hli;have m1:∀t,(h++t)[w]?=h[w]?:=λt=>Wb hwl;have m2:∀t,(h++t)[yid]?=h[yid]?:=λt=>Wb hyl;have m3:∀t,(h++t)[kd]?=h[kd]?:=λt=>Wb hkl
  by_cases hq:q=t
  ·subst hq;simp[hp,hxs,hnl,hgi,m1,m2,m3,hg,y1,y3,y4,hlb];cases v with
   |true=>
    have hm:((p:Int),q)∈S.W:=(l3 q).2 ⟨i,hgi,hli⟩;simp[hm];exact⟨(Wa.1 l1).1,hil⟩
   |false=>
    simp[];refine⟨(Wa.1 l1).1,hil,i+1,⟨by omega,λk hk hh=>?_⟩,by omega,aa (by simp) (by simp[below,w1 (i:=i) (by omega)];omega)⟩
    by_cases e:k=i
    ·subst e;rw[hli] at hh;simp at hh
    ·exact hno k (by omega) hh
  ·simp[hp,hxs,hnl,hgi,hq];refine⟨i+1,⟨by omega,λk hk hh=>?_⟩,by omega,aa (by simp) (by simp[below,w1 (i:=i) (by omega)];omega)⟩
   by_cases e:k=i
   ·subst e;rw[hgi] at hh;exact hq (by simpa using hh.1)
   ·exact hno k (by omega) hh
 ·have hcc:x.next.length<=i:=by simpa using hcc
  have hm:((p:Int),t)∉S.W:=λhm=>by
   obtain⟨k,k1,k2⟩:=(l3 t).1 hm;exact hno k (by have:=(Wa.1 k1).1;omega) ⟨k1,k2⟩
  simp[hm]
end
end
section
section
variable {n:Nat} {H:List AO} {B:AV} {bs:List Bk} {I:List Nat}
theorem Own.phi(HV:Own n H [B] [bkL bs] I){b i:Nat}{x:Bk}{f:Ph}(hb:bs[b]?=some x)(hi:x.phis[i]?=some f):∃gid rows pid rows2 N Z A IA,B= .sl gid 5 0 bs.length/\H[gid]?=some (.row 5 rows)/\rows[b]?=some [.sl pid 2 0 x.phis.length,N,.p (.int .i64 x.jump),.p (.int .i64 x.on),Z]/\H[pid]?=some (.row 2 rows2)/\rows2.length=x.phis.length/\rows2[i]?=some [.p (.int .i64 f.to),A]/\Own n H [A] [ah f.args] IA/\gid∈I/\pid∈I/\pid≠gid/\(∀j∈IA,j∈I/\j≠gid/\j≠pid)/\
 ∀(h2:List AO) (A':AV) (args:List Int) (I2:List Nat),h2[pid]?=some (.row 2 (rows2.set i [.p (.int .i64 f.to),A']))->(∀j∈I,j≠pid->j∉IA->h2[j]?=H[j]?)->Own n h2 [A'] [ah args] I2->(∀j∈I2,j∈IA\/j∉I)->∃I',Own n h2 [B] [bkL (bs.set b {x with phis:=x.phis.set i ⟨f.to,args⟩})] I'/\∀j∈I',j∈I\/j∈I2:=by
 obtain⟨gid,rows,r,Jb,b1,b2,b3,b4,b5,b6,b7,b8⟩:=HV.bks hb;obtain⟨P,N,Z,IP,IN,IZ,rfl,rfl,hP,hN,hZ⟩:=eF b5;have hnd:=b5.nd;have hpl:phL x.phis= .lst 2 (x.phis.map Ph.cs):=rfl;rw[hpl] at hP;rcases hP.row with⟨_,h2,_⟩|⟨pid,rows2,J,h1,h2,hr,_⟩
 ·rw[WK.1 h2] at hi;simp at hi
 rw[Wj] at h1;subst h2;subst h1;have hl:(x.phis.map Ph.cs).length=x.phis.length:=by simp
 have hD:(x.phis.map Ph.cs)[i]?=some f.cs:=by rw[Wl,hi];rfl
 obtain⟨r2,IA,g1,g2,g3,g4⟩:=Own.upd (D:=x.phis.map Ph.cs) (by rw[hl];exact hP) hr hD;obtain⟨A,rfl,hA⟩:=KP g2;have hr2:=hr.len;rw[hl] at hr2;have hpg:pid≠gid:=(b7 pid (by simp)).2
 have hset:rows.set b [.sl pid 2 0 x.phis.length,N,.p (.int .i64 x.jump),.p (.int .i64 x.on),Z]=rows:=by
  obtain⟨q1,q2⟩:=Wa.1 b4;rw[←q2,Xl]
 have hsub:∀j∈IA,j∈(pid::J)++(IN++IZ):=λj hj=>by simp[(g3 j hj).1]
 refine⟨gid,rows,pid,rows2,N,Z,A,IA,b1,b2,b4,hr.here,hr2,g1,hA,b6,(b7 pid (by simp)).1,hpg,λj hj=>⟨(b7 j (hsub j hj)).1,(b7 j (hsub j hj)).2,(g3 j hj).2⟩,λh2 A' args I2 k1 k2 k3 k4=>?_⟩;have hn:=WG.1 hnd;have hJI:∀j∈J,j∈I/\j≠gid:=λj hj=>b7 j (by simp[hj]);have hpJ:pid∉J:=(WR.1 hn.1).1
 obtain⟨J',p1,p2⟩:=g4 h2 [.p (.int .i64 f.to),A'] (Ph.cs ⟨f.to,args⟩) I2 k1 (λj hj hnn=>k2 j (hJI j hj).1 (λe=>hpJ (e▸hj)) hnn) (k3.putI f.to) (λj hj=>by
  rcases k4 j hj with h|h
  ·exact .inl h
  ·exact .inr ⟨λe=>h (by rw[e];exact(b7 pid (by simp)).1),λhm=>h (hJI j hm).1⟩) rfl
 rw[hl,←Ym] at p1;have hfr:∀j∈IN++IZ,h2[j]?=H[j]?:=λj hj=>k2 j (b7 j (by rw[Ws];exact .inr hj)).1 (λe=>hn.2.2 pid (by simp) j hj e.symm) λhm=>hn.2.2 j (by simp[(g3 j hm).1]) j hj rfl
 have hI2n:∀j∈pid::J',j∉IN++IZ:=λj hj hm=>by
  rcases WE.1 hj with rfl|hj
  ·exact hn.2.2 j (by simp) j hm rfl
  ·rcases p2 j hj with h|h
   ·exact hn.2.2 j (by simp[h]) j hm rfl
   ·rcases k4 j h with h|h
    ·exact hn.2.2 j (by simp[(g3 j h).1]) j hm rfl
    ·exact h (b7 j (by rw[Ws];exact .inr hm)).1
 have hgI:gid∉IA:=λhm=>(b7 gid (hsub gid hm)).2 rfl
 obtain⟨I',q1,q2⟩:=b8 h2 [.sl pid 2 0 x.phis.length,N,.p (.int .i64 x.jump),.p (.int .i64 x.on),Z] {x with phis:=x.phis.set i ⟨f.to,args⟩} ((pid::J')++(IN++IZ)) (by rw[hset,k2 gid b6 (Ne.symm hpg) hgI];exact b2) (λj hj hnn hm=>k2 j hj (λe=>hm (by simp[e])) λh=>hm (hsub j h)) (gX (b:={x with phis:=x.phis.set i ⟨f.to,args⟩}) p1 (hN.frame λj hj=>hfr j (by simp[hj])) (hZ.frame λj hj=>hfr j (by simp[hj])) (λj hj=>⟨λhm=>hI2n j hj (by simp[hm]),λhm=>hI2n j hj (by simp[hm])⟩) (λj hj hm=>(WG.1 hn.2.1).2.2 j hj j hm rfl)) (λj hj=>by
  simp only[Ws] at hj⊢;rcases hj with h|h
  ·rcases WE.1 h with rfl|h
   ·exact .inl (.inl (by simp))
   ·rcases p2 j h with h|h
    ·exact .inl (.inl (by simp[h]))
    ·rcases k4 j h with h|h
     ·exact .inl (.inl (by simp[(g3 j h).1]))
     ·exact .inr h
  ·exact .inl (.inr h))
 refine⟨I',q1,λj hj=>?_⟩;rcases q2 j hj with h|h
 ·exact .inl h
 ·simp only[Ws] at h;rcases h with h|h
  ·rcases WE.1 h with rfl|h
   ·exact .inl (b7 j (by simp)).1
   ·rcases p2 j h with h|h
    ·exact .inl (hJI j h).1
    ·exact .inr h
  ·exact .inl (b7 j (by rw[Ws];exact .inr (Ws.2 h))).1
end
theorem FC{n:Nat}{H:List AO}{B:AV}{I:List Nat}{c:Cd}(HV:Own n H [B] [bkL c.blocks] I)(b:Int):Views H [.agg [.p (.int .i64 c.params),.p (.int .i64 c.regs),B],.p (.int .i64 b)] [.agg (c.cs.map .p),.p (.int .i64 b)]:=
 .agg (.one (.p _) (.one (.p _) (.one HV.view .nil))) (.one (.p _) .nil)
variable (G:aw)
theorem vR{n:Nat}{h:List AO}{B:AV}{I:List Nat}{c:Cd}(HV:Own n h [B] [bkL c.blocks] I)(hc:CBd c)(b:Int):AC Tryz.prog G aS [.agg [.p (.int .i64 c.params),.p (.int .i64 c.regs),B],.p (.int .i64 b)] h λx h'=>x= .ret (.p (ah (ab c.blocks b)))/\h'=h:=
 AC.mkLendF (oS pS) dQ (w:=dM) (qs:=[ah (ab c.blocks b)]) ((Bc G c b hc.1 hc.2).mono λr h ⟨id,e1,e2⟩=>⟨[.sl id 1 0 (ab c.blocks b).length],[id],e1,(aX (n:=0) e2 (We _) rfl).own,by simp⟩) (FC HV b)
end
section
end
end Go.Proofs.YtigmcjbgnmpbeaaGreat
namespace Go.Proofs.YtigmcjbgnmpbeaaGreat
open Go
def lays189_ren:Go.Shelf.Ren:=⟨λ|125=>224|128=>270|129=>271|189=>166|215=>291|216=>267|257=>223|294=>261|295=>262|296=>263|297=>264|298=>265|299=>266|300=>268|301=>269|328=>286|329=>287|330=>288|331=>289|332=>290|343=>295|n=>n,λ|0=>0|3=>3|4=>4|5=>5|9=>9|28=>58|46=>160|51=>207|53=>210|131=>141|182=>258|183=>259|218=>272|222=>140|228=>278|229=>214|n=>n,λn=>n⟩
theorem Ep:Lays.n189 Tryz.prog lays189_ren where
 mixed:=by kernel_rfl
 f125:=Tryz.func224.trans (congrArg some (by kernel_rfl))
 f128:=Tryz.func270.trans (congrArg some (by kernel_rfl))
 f129:=Tryz.func271.trans (congrArg some (by kernel_rfl))
 f189:=Tryz.func166.trans (congrArg some (by kernel_rfl))
 f215:=Tryz.func291.trans (congrArg some (by kernel_rfl))
 f216:=Tryz.func267.trans (congrArg some (by kernel_rfl))
 f257:=Tryz.func223.trans (congrArg some (by kernel_rfl))
 f294:=Tryz.func261.trans (congrArg some (by kernel_rfl))
 f295:=Tryz.func262.trans (congrArg some (by kernel_rfl))
 f296:=Tryz.func263.trans (congrArg some (by kernel_rfl))
 f297:=Tryz.func264.trans (congrArg some (by kernel_rfl))
 f298:=Tryz.func265.trans (congrArg some (by kernel_rfl))
 f299:=Tryz.func266.trans (congrArg some (by kernel_rfl))
 f300:=Tryz.func268.trans (congrArg some (by kernel_rfl))
 f301:=Tryz.func269.trans (congrArg some (by kernel_rfl))
 f328:=Tryz.func286.trans (congrArg some (by kernel_rfl))
 f329:=Tryz.func287.trans (congrArg some (by kernel_rfl))
 f330:=Tryz.func288.trans (congrArg some (by kernel_rfl))
 f331:=Tryz.func289.trans (congrArg some (by kernel_rfl))
 f332:=Tryz.func290.trans (congrArg some (by kernel_rfl))
 f343:=Tryz.func295.trans (congrArg some (by kernel_rfl))
 t0:=Tryz.underlying0
 a0:=Tryz.isAgg0
 z0:=Tryz.sizeOf0
 v0:=Tryz.zeroValue0
 t3:=Tryz.underlying3
 a3:=Tryz.isAgg3
 z3:=Tryz.sizeOf3
 v3:=Tryz.zeroValue3
 t4:=Tryz.underlying4
 a4:=Tryz.isAgg4
 z4:=Tryz.sizeOf4
 v4:=Tryz.zeroValue4
 t5:=Tryz.underlying5
 a5:=Tryz.isAgg5
 z5:=Tryz.sizeOf5
 v5:=Tryz.zeroValue5
 t9:=Tryz.underlying9
 a9:=Tryz.isAgg9
 z9:=Tryz.sizeOf9
 v9:=Tryz.zeroValue9
 t28:=Tryz.underlying58
 a28:=Tryz.isAgg58
 z28:=Tryz.sizeOf58
 v28:=Tryz.zeroValue58
 t46:=Tryz.underlying160
 a46:=Tryz.isAgg160
 z46:=Tryz.sizeOf160
 v46:=Tryz.zeroValue160
 t51:=Tryz.underlying207
 a51:=Tryz.isAgg207
 z51:=Tryz.sizeOf207
 v51:=Tryz.zeroValue207
 t53:=Tryz.underlying210
 a53:=Tryz.isAgg210
 z53:=Tryz.sizeOf210
 v53:=Tryz.zeroValue210
 t131:=Tryz.underlying141
 a131:=Tryz.isAgg141
 z131:=Tryz.sizeOf141
 v131:=Tryz.zeroValue141
 t182:=Tryz.underlying258
 a182:=Tryz.isAgg258
 z182:=Tryz.sizeOf258
 v182:=Tryz.zeroValue258
 t183:=Tryz.underlying259
 a183:=Tryz.isAgg259
 z183:=Tryz.sizeOf259
 v183:=Tryz.zeroValue259
 t218:=Tryz.underlying272
 a218:=Tryz.isAgg272
 z218:=Tryz.sizeOf272
 v218:=Tryz.zeroValue272
 t222:=Tryz.underlying140
 a222:=Tryz.isAgg140
 z222:=Tryz.sizeOf140
 v222:=Tryz.zeroValue140
 t228:=Tryz.underlying278
 a228:=Tryz.isAgg278
 z228:=Tryz.sizeOf278
 v228:=Tryz.zeroValue278
 t229:=Tryz.underlying214
 a229:=Tryz.isAgg214
 z229:=Tryz.sizeOf214
 v229:=Tryz.zeroValue214
def lays20_ren:Go.Shelf.Ren:=⟨λ|20=>217|n=>n,λ|0=>0|3=>3|4=>4|22=>58|n=>n,λn=>n⟩
theorem IE:Lays2.n20 Tryz.prog lays20_ren where
 mixed:=by kernel_rfl
 f20:=Tryz.func217.trans (congrArg some (by kernel_rfl))
 t0:=Tryz.underlying0
 a0:=Tryz.isAgg0
 z0:=Tryz.sizeOf0
 v0:=Tryz.zeroValue0
 t3:=Tryz.underlying3
 a3:=Tryz.isAgg3
 z3:=Tryz.sizeOf3
 v3:=Tryz.zeroValue3
 t4:=Tryz.underlying4
 a4:=Tryz.isAgg4
 z4:=Tryz.sizeOf4
 v4:=Tryz.zeroValue4
 t22:=Tryz.underlying58
 a22:=Tryz.isAgg58
 z22:=Tryz.sizeOf58
 v22:=Tryz.zeroValue58
 i3:=by kernel_rfl
end Go.Proofs.YtigmcjbgnmpbeaaGreat
namespace Go.Proofs.YtigmcjbgnmpbeaaGreat
open Go Go.Aw
set_option maxRecDepth 100000
set_option maxHeartbeats 4000000
section
theorem Nq{l:List Nat}(nd:l.Nodup){i j x:Nat}(hi:l[i]?=some x)(hj:l[j]?=some x):i=j:=by
 obtain⟨h1,e1⟩:=Wa.1 hi;obtain⟨h2,e2⟩:=Wa.1 hj;have hp:=Yd.1 nd;rcases YD i j with h|h|h
 ·exact absurd (e1.trans e2.symm) (hp i j h1 h2 h)
 ·exact h
 ·exact absurd (e2.trans e1.symm) (hp j i h2 h1 h)
theorem Oh{l:List Nat}(nd:l.Nodup):l.reverse.Nodup:=List.pairwise_reverse.2 (List.Pairwise.imp Ne.symm nd)
theorem KN{bs:List Bk}(h:be bs=true):sn (List.replicate bs.length false) 0=false:=by
 rw[fc];have:=cf h;have e1:¬bs.length<=0:=by omega
 simp only[e1,decide_false]
theorem Sh{bs:List Bk}(h:be bs=true):∃l,iL bs=l++[0]/\(l++[0]).Nodup/\(∀x,x∈l++[0]↔cz bs x=true)/\∀x∈l,∃p,Aft (l++[0]) x p/\x∈nxC bs p:=by
 obtain⟨l,o,hl⟩:=BR (nx:=nxC bs) [] (KN h) (f:=bs.length) (by rw[jB];exact Wo _)
 have h0:0∉l:=by
  have:=o.nodup;rw[WG] at this;exact λhm=>this.2.2 0 hm 0 (by simp) rfl
 refine⟨l,by rw[iL,o.outE];rfl,o.nodup,λx=>?_,λx hx=>?_⟩
 ·rw[hl x,rchB_iff]
  have e:(λy=>sn (List.replicate bs.length false) y=true)=λy=>False\/bs.length<=y:=by funext y;rw[fc];simp
  rw[e];exact MH h
 ·rcases o.par x (by simp[hx]) with h1|h1
  ·rw[Wt] at h1;subst h1;exact absurd hx h0
  ·exact h1
def ew(bs:List Bk):List Nat:=(iL bs).reverse
structure OrdOk (bs:List Bk) (l:List Nat):Prop where
 head:∃t,l=0::t
 nd:l.Nodup
 mem:∀x,x∈l↔cz bs x=true
 par:∀(i:Nat) x,l[i+1]?=some x->∃p∈l.take (i+1),x∈nxC bs p
theorem AA{bs:List Bk}(h:be bs=true):OrdOk bs (ew bs):=by
 obtain⟨l,e,nd,hm,hp⟩:=Sh h;have e2:ew bs=0::l.reverse:=by rw[ew,e];simp
 refine⟨⟨_,e2⟩,?_,λx=>?_,λi x hi=>?_⟩
 ·rw[ew,e];exact Oh nd
 ·rw[ew,YR,e];exact hm x
 ·rw[e2,Ya] at hi;have hx:x∈l:=YR.1 (Wq hi);obtain⟨p,⟨u,v,e3,hv⟩,hn⟩:=hp x hx;refine⟨p,?_,hn⟩;rw[ew,e,e3,Zu,ZF,Wp]
  have hil:i+1<((l++[0]).reverse).length:=by
   have:=(Wa.1 hi).1;simp at this⊢;omega
  have hg:(v.reverse++([x]++u.reverse))[i+1]?=some x:=by
   rw[←hi]
   have:v.reverse++([x]++u.reverse)=0::l.reverse:=by rw[←e2,ew,e,e3,Zu,ZF,Wp]
   rw[this,Ya]
  have hnd:(v.reverse++([x]++u.reverse)).Nodup:=by
   have:=Oh nd;rwa[e3,Zu,ZF,Wp] at this
  have hlv:v.length=i+1:=by
   have h1:(v.reverse++([x]++u.reverse))[v.length]?=some x:=by rw[Wg (by simp)];simp
   exact Nq hnd h1 hg
  rw[←hlv,List.take_append_of_le_length (by simp)];rw[Wi (by simp)];exact YR.2 hv
theorem My{l:List Nat}{p:Nat->Bool}{n:Nat}(nd:l.Nodup)(h:∀x,x∈l↔x<n/\p x=true):l.length=((List.range n).filter p).length:=by
 have h2:((List.range n).filter p).Nodup:=List.Nodup.sublist List.filter_sublist Zl;exact((List.perm_ext_iff_of_nodup nd h2).2 λx=>by rw[h x,WM,Xn]).length_eq
theorem Au{bs:List Bk}(h:be bs=true):(ew bs).length=(cF (cz bs) bs.length).length:=by
 rw[cF,Wj]
 exact My (AA h).nd λx=>by
  rw[(AA h).mem x];exact⟨λhx=>⟨Pr h (rchB_iff.1 hx),hx⟩,λhx=>hx.2⟩
theorem uV{l:List Nat}{x:Nat}:(x:Int)∈an l↔x∈l:=by
 simp only[an,Ww];constructor
 ·rintro⟨y,hy,e⟩;have:y=x:=by have e:(y:Int)=(x:Int):=e;omega
  exact this▸hy
 ·exact λh=>⟨x,h,rfl⟩
theorem OZ{p:Nat->Bool}{n x:Nat}:(x:Int)∈cF p n↔x<n/\p x=true:=by
 rw[cF];have:= @uV ((List.range n).filter p) x;rw[an] at this;rw[this,WM,Xn]
theorem OS{p:Nat->Bool}{n:Nat}{x:Int}(h:x∈cF p n):0<=x/\x.toNat<n/\p x.toNat=true/\((x.toNat:Nat):Int)=x:=by
 rw[cF,Ww] at h;obtain⟨y,hy,rfl⟩:=h;rw[WM,Xn] at hy;exact⟨ZB y,by simpa using hy.1,by simpa using hy.2,by simp⟩
theorem Pb{bs:List Bk}{a b:Nat}(h:cz bs a=true)(e:b∈nxC bs a):cz bs b=true:=rchB_iff.2 ((rchB_iff.1 h).step e)
theorem Nb(bs:List Bk):cz bs 0=true:=rchB_iff.2 Rch.zero
end
section
theorem zC{xs:List Int}(hp:xs.Pairwise (· <= ·)):∀j,j<xs.length->∃i,i<=j/\Lib.keeps xs.toArray i=true/\xs[i]! =xs[j]! :=by
 intro j
 induction j with
 |zero=>intro h;exact⟨0,Wo _,Lib.keeps_lt_one _ 0 (by omega),rfl⟩
 |succ j ih=>
  intro h
  by_cases e:xs.toArray[j+1]! =xs.toArray[j+1-1]!
  ·obtain⟨i,h1,h2,h3⟩:=ih (by omega);refine⟨i,by omega,h2,?_⟩;have e':xs[j+1]! =xs[j]! :=by simpa using e
   rw[h3,e']
  ·exact⟨j+1,Wo _,Lib.keeps_pos e,rfl⟩
theorem EW(xs:List Int):(Lib.compact xs).length<=xs.length:=by
 unfold Lib.compact Lib.compactUpTo;rw[Wj];have:=Xk (Lib.keeps xs.toArray) (List.range xs.length);rwa[Xq] at this
theorem Ej{xs:List Int}(hp:xs.Pairwise (· <= ·))(x:Int):x∈Lib.compact xs↔x∈xs:=by
 unfold Lib.compact Lib.compactUpTo;simp only[Ww,WM,Xn];constructor
 ·rintro⟨j,⟨h1,_⟩,rfl⟩;have e:xs.toArray[j]! =xs[j]:=by simp[h1]
  rw[e];exact Wm h1
 ·intro h;obtain⟨j,hj,rfl⟩:=Zp.1 h;obtain⟨i,h1,h2,h3⟩:=zC hp j hj;refine⟨i,⟨by omega,h2⟩,?_⟩;have e:xs.toArray[i]! =xs[i]! :=by simp
  rw[e,h3];simp[hj]
theorem Gg{xs:List Int}(hp:xs.Pairwise (· <= ·)):(Lib.compact xs).Pairwise (· < ·):=by
 unfold Lib.compact Lib.compactUpTo;rw[YN];have hr:((List.range xs.length).filter (Lib.keeps xs.toArray)).Pairwise (· < ·):=List.Pairwise.filter _ List.pairwise_lt_range
 refine List.Pairwise.imp_of_mem (λ{a b} ha hb hab=>?_) hr;simp only[WM,Xn] at ha hb;obtain⟨hbl,hbk⟩:=hb;unfold Lib.keeps at hbk
 have hne:xs.toArray[b]! ≠xs.toArray[b-1]! :=by
  rcases of_decide_eq_true hbk with h|h
  ·omega
  ·exact h
 have h1:xs.toArray[b]! =xs[b]:=by simp[hbl]
 have h2:xs.toArray[b-1]! =xs[b-1]:=by simp[show b-1<xs.length by omega]
 have h3:xs.toArray[a]! =xs[a]:=by simp[ha.1]
 rw[h1,h2] at hne;rw[h1,h3];have k1:xs[b-1]<=xs[b]:=Yd.1 hp (b-1) b (by omega) hbl (by omega)
 have k2:xs[a]<=xs[b-1]:=by
  by_cases e:a=b-1
  ·subst e;exact Int.le_refl _
  ·exact Yd.1 hp a (b-1) ha.1 (by omega) (by omega)
 omega
theorem GB(xs:List Int):(xs.mergeSort λx y=>decide (x<=y)).Pairwise (· <= ·):=by
 have:=List.pairwise_mergeSort (le:=λx y:Int=>decide (x<=y)) (λa b c h1 h2=>by simp at*;omega) (λa b=>by simp;omega) xs;exact this.imp λh=>by simpa using h
theorem AJ{a b:List Int}(ha:a.Pairwise (· < ·))(hb:b.Pairwise (· < ·))(hm:∀x,x∈a↔x∈b):a=b:=by
 refine List.Perm.eq_of_pairwise (le:=(· < ·)) (λx y _ _ h1 h2=>by omega) ha hb ?_
 exact(List.perm_ext_iff_of_nodup (ha.imp λh=>by omega) (hb.imp λh=>by omega)).2 hm
theorem DZ(p:Nat->Bool)(n:Nat):(cF p n).Pairwise (· < ·):=by
 rw[cF,YN]
 exact(List.Pairwise.filter _ List.pairwise_lt_range).imp λh=>by
  have h:_<_:=h;exact Int.ofNat_lt.2 h
theorem vr{p:Nat->Bool}{n:Nat}{x:Int}:x∈cF p n↔0<=x/\x.toNat<n/\p x.toNat=true:=by
 constructor
 ·intro h;obtain⟨h1,h2,h3,_⟩:=OS h;exact⟨h1,h2,h3⟩
 ·rintro⟨h1,h2,h3⟩;have:=(OZ (p:=p) (n:=n) (x:=x.toNat)).2 ⟨h2,h3⟩;rwa[show((x.toNat:Nat):Int)=x by omega] at this
def inI(l:List Int)(k:Nat):Bool:=decide ((k:Int)∈l)
def zi(l:List Int):List Int:=Lib.compact (l.mergeSort λx y=>decide (x<=y))
theorem On{l:List Int}{n:Nat}(h:∀x∈l,0<=x/\x.toNat<n):zi l=cF (inI l) n:=by
 refine AJ (Gg (GB l)) (DZ _ _) λx=>?_;rw[zi,Ej (GB l),List.mem_mergeSort,vr,inI,decide_eq_true_iff];constructor
 ·intro hx;obtain⟨h1,h2⟩:=h x hx;exact⟨h1,h2,by rwa[show((x.toNat:Nat):Int)=x by omega]⟩
 ·rintro⟨h1,_,h3⟩;rwa[show((x.toNat:Nat):Int)=x by omega] at h3
theorem JH(x:Int):∀xs:List Int,∃k,k<=xs.length/\(∀y∈xs.take k,y<x)/\∀y,xs[k]?=some y->¬y<x
 |[]=>⟨0,Wo _,by simp,by simp⟩
 |a::r=>by
  by_cases h:a<x
  ·obtain⟨k,h1,h2,h3⟩:=JH x r;refine⟨k+1,by simp;omega,λy hy=>?_,λy hy=>h3 y (by simpa using hy)⟩;rw[Zt] at hy;rcases WE.1 hy with rfl|hy
   ·exact h
   ·exact h2 y hy
  ·exact⟨0,We _,by simp,λy hy=>by simp at hy;rw[←hy];exact h⟩
theorem PT{xs:List Int}(hp:xs.Pairwise (· < ·)){k:Nat}{x:Int}(hk:k<=xs.length)(h1:∀y∈xs.take k,y<x)(h2:∀y,xs[k]?=some y->¬y<x):(tT xs k x).Pairwise (· < ·)/\∀y,y∈tT xs k x↔y∈xs\/y=x:=by
 rw[tT];split
 ·rename_i he;refine⟨hp,λy=>⟨λh=> .inl h,λh=>h.elim id λe=>e▸Wq he⟩⟩
 ·rename_i he;have e:xs=xs.take k++xs.drop k:=(XH k xs).symm
  have hd:∀y∈xs.drop k,x<y:=by
   intro y hy;have hpd:(xs.drop k).Pairwise (· < ·):=hp.sublist (List.drop_sublist k xs)
   cases hdr:xs.drop k with
   |nil=>rw[hdr] at hy;cases hy
   |cons a r=>
    have ha:xs[k]?=some a:=by
     have:=WZ (xs:=xs) (i:=k) (j:=0);rw[hdr] at this;simpa using this.symm
    have hna:=h2 a ha;have hne:a≠x:=λe=>he (by rw[ha,e]);rw[hdr] at hy hpd;rcases WE.1 hy with rfl|hy
    ·omega
    ·have:=(Zz.1 hpd).1 y hy;omega
  have hpt:(xs.take k).Pairwise (· < ·):=hp.sublist (List.take_sublist k xs)
  have hpd:(xs.drop k).Pairwise (· < ·):=hp.sublist (List.drop_sublist k xs)
  refine⟨?_,λy=>?_⟩
  ·rw[List.pairwise_append,Zz];refine⟨hpt,⟨hd,hpd⟩,λa ha b hb=>?_⟩;rcases WE.1 hb with rfl|hb
   ·exact h1 a ha
   ·have:=h1 a ha;have:=hd b hb;omega
  ·conv=>rhs;rw[e]
   simp only[Ws,WE];constructor
   ·rintro(h|h|h)
    ·exact .inl (.inl h)
    ·exact .inr h
    ·exact .inl (.inr h)
   ·rintro((h|h)|h)
    ·exact .inl h
    ·exact .inr (.inr h)
    ·exact .inr (.inl h)
theorem No(l:List Int)(x:Int)(k:Nat):inI (l++[x]) k=(inI l k||decide ((k:Int)=x)):=by simp[inI]
theorem Pz{l:List Int}{n:Nat}{x:Int}(hx:0<=x/\x.toNat<n){k:Nat}(hk:k<=(cF (inI l) n).length)(h1:∀y∈(cF (inI l) n).take k,y<x)(h2:∀y,(cF (inI l) n)[k]?=some y->¬y<x):tT (cF (inI l) n) k x=cF (inI (l++[x])) n:=by
 obtain⟨a,b⟩:=PT (DZ (inI l) n) hk h1 h2;refine AJ a (DZ _ _) λy=>?_;rw[b,vr,vr,No,XA,decide_eq_true_iff];constructor
 ·rintro(⟨g1,g2,g3⟩|rfl)
  ·exact⟨g1,g2,.inl g3⟩
  ·exact⟨hx.1,hx.2,.inr (by omega)⟩
 ·rintro⟨g1,g2,g3|g3⟩
  ·exact .inl ⟨g1,g2,g3⟩
  ·exact .inr (by omega)
end
section
theorem AC.shelfNil{P:Program}{G:aw}{f:FuncId}{h:List AO}{rv:AV}{r:Value}(hf:dH P f=true)(hr:∀(W:World) (S:Nat->Prop) (φ:Aw.Place) (n:Nat),VRel W S φ n rv r)
 (H:∀W:World,Calls P f #[.slice none 0 0] W λe W'=>e= .returned r/\W'=W):AC P G f [.nils] h λx h'=>x= .ret rv/\h'=h:=by
 refine⟨hf,λW S φ vs hH hA=>?_⟩;have hs1:vs.size=1:=hA.1
 obtain⟨v0,rfl⟩:∃v0,vs=#[v0]:=⟨vs[0],by
  apply Array.ext
  ·simp[hs1]
  ·intro i h1 h2;have:i=0:=by omega
   subst this;rfl⟩
 have hv:=hA.2 0 _ v0 rfl rfl;cases hv;refine(H W).mono ?_;rintro e W' ⟨rfl,rfl⟩;exact⟨.ret rv,S,φ,h,⟨rfl,rfl⟩,hH,.ret _ _ (hr _ _ _ _),Keep.refl hH⟩
theorem AC.shelfEmpty{P:Program}{G:aw}{f:FuncId}{h:List AO}{id sz off:Nat}{rv:AV}{r:Option Addr->Nat->Value}(hf:dH P f=true)(hr:∀(W:World) (S:Nat->Prop) (φ:Aw.Place) (n:Nat) (p:Option Addr) (cap:Nat),VRel W S φ n (.sl id sz off 0) (.slice p 0 cap)->VRel W S φ n rv (r p cap))
 (H:∀(W:World) (p:Option Addr) (cap:Nat),Calls P f #[.slice p 0 cap] W λe W'=>e= .returned (r p cap)/\W'=W):AC P G f [.sl id sz off 0] h λx h'=>x= .ret rv/\h'=h:=by
 refine⟨hf,λW S φ vs hH hA=>?_⟩;have hs1:vs.size=1:=hA.1
 obtain⟨v0,rfl⟩:∃v0,vs=#[v0]:=⟨vs[0],by
  apply Array.ext
  ·simp[hs1]
  ·intro i h1 h2;have:i=0:=by omega
   subst this;rfl⟩
 have hv:=hA.2 0 _ v0 rfl rfl;have hv2:=hv;cases hv with
 |sl _ _ _ _ cap ba _ hl hb hc=>
  refine(H W ba cap).mono ?_;rintro e W' ⟨rfl,rfl⟩;exact⟨.ret rv,S,φ,h,⟨rfl,rfl⟩,hH,.ret _ _ (hr _ _ _ _ _ _ hv2),Keep.refl hH⟩
variable (G:aw)
theorem Sn{h:List AO}{id:Nat}{xs:List Int}(hid:h[id]?=some (jg xs))(hx:xs≠[])(hb:xs.length<4611686018427387904):
 AC Tryz.prog G (lays189_ren.f 189) [.sl id 1 0 xs.length] h λx h'=>x= .ret (.tup [])/\h'=h.set id (jg (xs.mergeSort λx y=>decide (x<=y))):=
 AC.shelfInts (r:=λ_ _ _=> .tuple #[]) (by kernel_rfl) hid hx (by simp) (λ_ _ _ _ _ _ _ _=> .tup [] #[] rfl (λj c v e=>by simp at e))
  λblk off cap W hH hbk _=>Any.slices_Sort_int Ep blk off cap xs W hH hbk hb
theorem KX{h:List AO}{id:Nat}{xs:List Int}(hid:h[id]?=some (jg xs))(hx:xs≠[])(hb:xs.length<=9223372036854775807)(hl:(Lib.compact xs).length<=xs.length):
 AC Tryz.prog G (lays20_ren.f 20) [.sl id 1 0 xs.length] h λx h'=>x= .ret (.sl id 1 0 (Lib.compact xs).length)/\h'=h.set id (jg (Lib.compact xs++List.replicate (xs.length-(Lib.compact xs).length) 0)):=by
 refine AC.shelfInts (r:=λblk off cap=> .slice (some ⟨blk,off,none⟩) (Lib.compact xs).length cap) (by kernel_rfl) hid hx (by simp;omega) (λW S φ n cap hi hc hs=>?_) λblk off cap W hH hbk hcap=>?_
 ·exact .sl id 1 0 _ cap _ hi (by omega) (λ_=>by simp) (λc t fr e=>by have:=hs c t fr e;omega)
 ·refine(Any.slices_Compact_int IE blk off cap xs W hH hb hcap).mono ?_;rintro e W' ⟨rfl,q,rfl⟩;exact⟨rfl,q,#[],by simp⟩
theorem FF(id:Nat)(h:List AO):AC Tryz.prog G (lays189_ren.f 189) [.sl id 1 0 0] h λx h'=>x= .ret (.tup [])/\h'=h:=
 AC.shelfEmpty (r:=λ_ _=> .tuple #[]) (by kernel_rfl) (λ_ _ _ _ _ _ _=> .tup [] #[] rfl (λj c v e=>by simp at e)) λW p cap=>Any.slices_Sort_int_none Ep p cap W
theorem AW(id:Nat)(h:List AO):AC Tryz.prog G (lays20_ren.f 20) [.sl id 1 0 0] h λx h'=>x= .ret (.sl id 1 0 0)/\h'=h:=
 AC.shelfEmpty (r:=λp cap=> .slice p 0 cap) (by kernel_rfl) (λ_ _ _ _ _ _ h=>h) λW p cap=>Any.slices_Compact_int_empty IE p cap W
theorem Ly(h:List AO):AC Tryz.prog G (lays189_ren.f 189) [.nils] h λx h'=>x= .ret (.tup [])/\h'=h:=
 AC.shelfNil (r:= .tuple #[]) (by kernel_rfl) (λ_ _ _ _=> .tup [] #[] rfl (λj c v e=>by simp at e)) λW=>Any.slices_Sort_int_none Ep none 0 W
theorem EJ(h:List AO):AC Tryz.prog G (lays20_ren.f 20) [.nils] h λx h'=>x= .ret .nils/\h'=h:=
 AC.shelfNil (r:= .slice none 0 0) (by kernel_rfl) (λ_ _ _ _=> .nils) λW=>Any.slices_Compact_int_empty IE none 0 W
theorem Qz(l:List Int)(hl:l.length<=1073741824)(h:List AO):AC Tryz.prog G aP [.p (ah l)] h λx h'=>∃V os,x= .ret V/\h'=h++os/\((V= .nils/\l=[])\/∃id,V= .sl id 1 0 l.length/\h.length<=id/\h'[id]?=some (jg l)):=by
 have hsl:ah l= .lst 1 (l.map λw=>[.int .i64 w]):=rfl;refine AC.go jM ?_;simp[eT,hsl];cases l with
 |nil=>simp[HA,jg]
 |cons w r=>
  simp only[WC] at hl;simp[HA];refine⟨⟨by omega,by omega⟩,?_⟩;simp[jg]
theorem Fk{h:List AO}{id m:Nat}{l:List Int}{t:List Int}(e:h[id]?=some (jg (l++t)))(hm:m=l.length):View h (.sl id 1 0 m) (ah l):=by
 have:=View.fl (h:=h) id 1 0 ((l++t).map λn=>[AV.p (.int .i64 n)]) (l.map λn=>PV.int .i64 n) e (λi q hq=>by
  rw[uN,WV,WF,Wb (by have:=(Wa.1 hq).1;simpa using this),Wl];rw[Wl] at hq;cases hh:l[i]? with
  |none=>rw[hh] at hq;cases hq
  |some x=>rw[hh] at hq;cases hq;rfl)
 rw[Wj,Yu] at this;rw[hm];exact this
theorem Oc{h:List AO}{id:Nat}(l:List Int)(hl:l.length<=1073741824)(hn:l≠[])(hg:h[id]?=some (jg l)):AC Tryz.prog G aP [.sl id 1 0 l.length] h λx h'=>∃V os,x= .ret V/\h'=h++os/\((V= .nils/\l=[])\/∃id,V= .sl id 1 0 l.length/\h.length<=id/\h'[id]?=some (jg l)):=by
 have hil:=(Wa.1 hg).1;have hgm:∀t,(h++t)[id]?=some (.row 1 (l.map λx=>[.p (.int .i64 x)])):=λt=>by rw[Wb hil];exact hg
 have hge:=λt hh=>ag (hgm t) hh;refine AC.go jM ?_;have htk:List.take l.length (l.map λx=>[AV.p (.int .i64 x)])=l.map λx=>[AV.p (.int .i64 x)]:=Wi (by simp);have hll:(l.map λx=>[AV.p (.int .i64 x)]).length=l.length:=by simp
 simp[eT,hgm,htk,hll];exact⟨YS.2 hn,⟨by omega,by omega⟩,rfl⟩
theorem Rc(A:AV)(l:List Int)(hl:l.length<=1073741824)(h:List AO)(hclone:AC Tryz.prog G aP [A] h λx h'=>∃V os,x= .ret V/\h'=h++os/\((V= .nils/\l=[])\/∃id,V= .sl id 1 0 l.length/\h.length<=id/\h'[id]?=some (jg l))):
 AC Tryz.prog G oV [A] h λx h'=>h.length<=h'.length/\(∀i,i<h.length->h'[i]?=h[i]?)/\((x= .ret .nils/\zi l=[])\/∃id t,h.length<=id/\x= .ret (.sl id 1 0 (zi l).length)/\h'[id]?=some (jg (zi l++t))):=by
 generalize hS:l.mergeSort (λx y=>decide (x<=y))=S;have hSl:S.length=l.length:=by rw[←hS,List.length_mergeSort]
 have hcl:=EW S;have hO:zi l=Lib.compact S:=by rw[zi,hS]
 rw[hO];refine AC.go GJ ?_;simp[vT];refine hclone.mono ?_;rintro r h1 ⟨V,os,rfl,rfl,⟨rfl,hn⟩|⟨id,rfl,hid,hr⟩⟩
 ·have hS0:S=[]:=by rw[hn] at hSl;exact XQ.1 (by simpa using hSl)
  simp[];refine(Ly G _).mono ?_;rintro r h' ⟨rfl,rfl⟩;simp[];refine(EJ G _).mono ?_;rintro r h'' ⟨rfl,rfl⟩;simp[];rw[hS0];exact⟨λi hi=>Wb hi,rfl⟩
 ·have hidl:=(Wa.1 hr).1
  by_cases hn:l=[]
  ·subst hn;have hS0:S=[]:=XQ.1 (by simpa using hSl);subst hS0;simp[];refine(FF G id _).mono ?_;rintro r h' ⟨rfl,rfl⟩;simp[];refine(AW G id _).mono ?_;rintro r h'' ⟨rfl,rfl⟩;simp[];exact⟨λi hi=>Wb hi,id,hid,⟨rfl,rfl⟩,[],hr⟩
  simp[];refine(Sn G hr hn (by omega)).mono ?_;rintro r h' ⟨rfl,rfl⟩;rw[hS];have hC:=KX G (h:=(h++os).set id (jg S)) (id:=id) (xs:=S) (Wh hidl) (by intro e;rw[e] at hSl;simp at hSl;exact hn (XQ.1 hSl.symm)) (by omega) hcl;rw[hSl] at hC;simp[];refine hC.mono ?_;rintro r h'' ⟨rfl,rfl⟩;simp[];refine⟨λi hi=>?_,id,hid,rfl,_,Wh (by simpa using hidl)⟩;rw[Wd (by omega),Wb hi]
end
section
theorem zA:AK.whole iU=FK.ak iB:=rfl
noncomputable def lS (bs:List Bk):List Int:=if be bs then cF (cz bs) bs.length else[]
theorem sN{bs:List Bk}(h:be bs=true):lS bs=cF (cz bs) bs.length:=by rw[lS,Wz h]
theorem Dp{bs:List Bk}(h:be bs=false):lS bs=[]:=by rw[lS,h];rfl
theorem Jv{bs:List Bk}(h:be bs=true){x:Nat}(hx:x∈ew bs):x<bs.length:=Pr h (rchB_iff.1 (((AA h).mem x).1 hx))
theorem Iv{p q:Nat->Bool}{n:Nat}(h:∀k,k<n->p k=q k):cF p n=cF q n:=by rw[cF,cF,YG λk hk=>h k (Xn.1 hk)]
theorem Ka{bs:List Bk}(h:be bs=true){l:List Int}(hm:∀x:Nat,(x:Int)∈l↔x∈ew bs):cF (inI l) bs.length=lS bs:=by
 rw[sN h];refine Iv λk _=>?_;rw[inI,Yg,decide_eq_true_iff,hm,(AA h).mem]
theorem FS{bs:List Bk}(x:Nat):(x:Int)∈an (iL bs)↔x∈ew bs:=by rw[uV,ew,YR]
variable (G:aw)
theorem Hb(l:List Int)(n:Nat)(x:Int)(hn:n<=1073741824)(hx:0<=x/\x.toNat<n):VF Tryz.prog G bY [.p (ah (cF (inI l) n)),.p (.int .i64 x)] (.p (ah (cF (inI (l++[x])) n))):=by
 obtain⟨k,h1,h2,h3⟩:=JH x (cF (inI l) n);have:=GG G (cF (inI l) n) k x (by have:=tE (inI l) n;omega) h1 h2 h3;rwa[Pz hx h1 h2 h3] at this
theorem GY(l:List Int)(n:Nat)(hn:n<=1073741824)(hl:l.length<=1073741824)(hx:∀x∈l,0<=x/\x.toNat<n):VF Tryz.prog G gz [.p (ah l)] (.p (ah (cF (inI l) n))):=by
 have hnl:ah l= .lst 1 (l.map λw=>[.int .i64 w]):=rfl
 have hT:∀i,i<l.length->∀x,l[i]?=some x->VF Tryz.prog G bY [.p (ah (cF (inI (l.take i)) n)),.p (.int .i64 x)] (.p (ah (cF (inI (l.take (i+1))) n))):=λi hi x hg=>by
  have h1:l.take (i+1)=l.take i++[x]:=by rw[WQ,hg];rfl
  rw[h1];exact Hb G (l.take i) n x hn (hx x (Wq hg))
 obtain⟨F,hF⟩:∃F:Nat->List Int,F=λi=>cF (inI (l.take i)) n:=⟨_,rfl⟩
 have hF0:F 0=[]:=by
  rw[hF];refine DG λi _=>?_;simp[inI]
 have hFe:F l.length=cF (inI l) n:=by rw[hF];simp only[Xm]
 have hFi:∀i,cF (inI (l.take i)) n=F i:=λi=>by rw[hF]
 simp only[hFi] at hT;rw[←hFe];refine AC.go vD ?_;simp[mq,hnl];refine am (λi:Nat=>aj 19 [(4,.p (.int .i64 i)),(3,.p (ah (F i))),(0,.p (.lst 1 (l.map λw=>[.int .i64 w])))]) (λ_=>[]) (λi=>i<=l.length) (λi=>l.length-i) 0 (We _) ?_ ?_
 ·refine Pw 0 (Wo _) (by simp) rfl (.nil _) ?_;rw[hF0];exact⟨.keep (by simp[]) .nil,.one (dN (l:=[]) rfl) .nil,.keep (by simp[]) .nil,trivial⟩
 intro i hi;simp[];refine aA (λhc=>?_) (λhc=>?_)
 ·have hc:i<l.length:=by simpa using hc
  have hg:=Wc hc;have hcall:=hT i hc _ hg;generalize l[i]=x at hg hcall;have hwi:=w1 (i:=i) (by omega);simp[hg];refine hcall.use ?_;simp[];exact⟨i+1,hc,by omega,aE rfl (by simp[below,hwi])⟩
 ·have hc:i=l.length:=by simp at hc;omega
  subst hc;simp[]
structure OrS where (m id:Nat) (Y:List AO)
theorem vX(c:Cd)(hc:CBd c)(hfit:be c.blocks=true):AC Tryz.prog G ca [.agg (c.cs.map .p)] [] λx h=>∃id,x= .ret (.sl id 1 0 (ew c.blocks).length)/\h[id]?=some (.row 1 (ae (an (ew c.blocks)))):=by
 have hcs:=c.cs_eq2;have hbl:bkL c.blocks= .lst 5 (c.blocks.map Bk.cs):=rfl;have hpos:=cf hfit;have hc1:=hc.1
 have hvl:(iL c.blocks).length<=1073741824:=by
  have:=Au hfit;have:=tE (cz c.blocks) c.blocks.length;rw[ew,Zv] at*
  omega
 have hrep:List.replicate c.blocks.length [AV.p (.bool false)]=aG (List.replicate c.blocks.length false):=AH _;have hlr:(List.replicate c.blocks.length false).length=c.blocks.length:=Xs
 have hv:∀(h:List AO) (sid oid:Nat),sid≠oid->h[sid]?=some (.row 1 (aG (List.replicate c.blocks.length false)))->h[oid]?=some (.row 1 [])->AC Tryz.prog G bm [.agg (c.cs.map .p),.p (.int .i64 0),.sl sid 1 0 c.blocks.length,.sl oid 1 0 0] h λx h'=>∃id,x= .ret (.sl id 1 0 (iL c.blocks).length)/\h'[id]?=some (.row 1 (ae (an (iL c.blocks))))/\id<h'.length:=λh sid oid hne h1 h2=>by
  have:=sQ G c hc hfit c.blocks.length h 0 sid oid (List.replicate c.blocks.length false) [] hpos hlr (KN hfit) (by rw[jB];exact Wo _) hne h1 h2 (by rw[jB];simp;omega);rw[hlr] at this;exact this.mono λx h' ⟨id,e1,e2,_⟩=>⟨id,e1,e2,(Wa.1 e2).1⟩
 rw[hcs,hbl] at hv;refine AC.goK zU zA ?_;simp[iU,iB,hcs,hbl];refine dc (λa:OrS=>aj 29 [(3,.sl a.id 1 0 (iL c.blocks).length)]) (λa=>a.Y) (λa=>a.Y[a.id]?=some (.row 1 (ae (an (iL c.blocks))))) ?_ ?_
 ·simp[hrep];refine⟨⟨by omega,?_⟩,by omega,?_⟩
  ·refine(hv _ 1 2 (by decide) rfl rfl).mono ?_;rintro r h ⟨id,rfl,h1,h2⟩;simp[];exact⟨⟨0,id,h⟩,h1,aa (We _) (by simp[below];omega)⟩
  ·refine(hv _ 2 1 (by decide) rfl rfl).mono ?_;rintro r h ⟨id,rfl,h1,h2⟩;simp[];exact⟨⟨0,id,h⟩,h1,aa (We _) (by simp[below];omega)⟩
 rintro⟨_,vid,Y⟩ hY;simp only at hY⊢;have hvd:=(Wa.1 hY).1;have hor:ew c.blocks=(iL c.blocks).reverse:=rfl;rw[hor];generalize iL c.blocks=v at hY hvl;have hw0:IntKind.i64.wrap ((v.length:Int)-1)=(v.length:Int)-1:=al (by omega) (by omega);simp[hw0];refine am (λa:OrS=>aj 29 [(5,.p (.int .i64 ((v.length:Int)-1-a.m))),(4,.sl a.id 1 0 a.m),(3,.sl vid 1 0 v.length)]) (λa=>a.Y) (λa=>a.m<=v.length/\a.id≠vid/\a.Y[vid]?=some (.row 1 (ae (an v)))/\a.Y[a.id]?=some (.row 1 (ae (an (v.reverse.take a.m))))) (λa=>v.length-a.m) ⟨0,Y.length,_⟩ ⟨We _,by simp only;omega,?_,?_⟩ (aa (We _) (by simp[below];omega)) ?_
 ·simp only;rw[Wb hvd];exact hY
 ·simp only;rw[Wg (Wo _),Xd];rfl
 clear hY;rintro⟨m,id,Z⟩ ⟨hm,hne,hz1,hz2⟩;simp only at hm hne hz1 hz2⊢;have hid:=(Wa.1 hz2).1;have hvd:=(Wa.1 hz1).1;simp[];refine aA (λhcc=>?_) (λhcc=>?_)
 ·have hcc:m<v.length:=by simp at hcc;omega
  obtain⟨j,hj⟩:∃j,j=v.length-1-m:=⟨_,rfl⟩;have hjI:(v.length:Int)-1-m=(j:Int):=by omega
  have hjl:j<v.length:=by omega
  have hgj:=Wc hjl;generalize v[j]=x at hgj;have hrj:(ae (an v))[j]?=some [.p (.int .i64 x)]:=by simp[ae,an,hgj]
  have htk:v.reverse.take (m+1)=v.reverse.take m++[x]:=by rw[WQ,List.getElem?_reverse hcc,show v.length-1-m=j by omega,hgj];rfl
  have hlt:(v.reverse.take m).length=m:=by simp;omega
  have hlr2:(ae (an (v.reverse.take m))).length=m:=by simp[ae,an];omega
  have htk2:List.take m (ae (an (v.reverse.take m)))=ae (an (v.reverse.take m)):=Wi (by omega);have hzm:∀t,(Z++t)[id]?=some (.row 1 (ae (an (v.reverse.take m)))):=λt=>by rw[Wb hid];exact hz2
  have hze:=λt hh=>ag (hzm t) hh;have hw2:IntKind.i64.wrap ((j:Int)-1)=(v.length:Int)-1-((m+1:Nat):Int):=by rw[al (by omega) (by omega)];omega
  rw[hjI];simp[hz1,hjl,hrj,hzm,htk2,hlr2];refine⟨⟨by omega,by omega⟩,⟨m+1,Z.length+1,_⟩,⟨hcc,by simp only;omega,?_,?_⟩,by simp only;omega,aa (We _) ?_⟩
  ·simp only;rw[Wb (by simp;omega),Wd hne,Wb hvd];exact hz1
  ·simp only;rw[Wg (by simp),htk,mF];simp[ae,an]
  ·simp[below,hw2];omega
 ·have hcc:m=v.length:=by simp at hcc;omega
  subst hcc;rw[Wi (by simp)] at hz2;simp[hz2]
theorem Ge(c:Cd)(hc:CBd c):VF Tryz.prog G gQ [.agg (c.cs.map .p)] (.p (ah (lS c.blocks))):=by
 have hcs:=c.cs_eq2;have hbl:bkL c.blocks= .lst 5 (c.blocks.map Bk.cs):=rfl;have h1:=Lp G c hc;have h2:=λhf=>jw G ((vX G c hc hf).mono λr h ⟨id,e1,e2⟩=>⟨_,e1,by rw[←dR (ew c.blocks)];exact dN e2⟩);rw[hcs,hbl] at h1 h2;refine jw G ?_;refine AC.go vC ?_;simp[md,hcs,hbl];refine h1.use ?_;cases e1:be c.blocks with
 |false=>
  rw[Dp e1];simp[];exact dN (l:=[]) rfl
 |true=>
  have hin:∀x∈an (ew c.blocks),0<=x/\x.toNat<c.blocks.length:=λx hx=>by
   obtain⟨y,hy,rfl⟩:=Ww.1 hx;exact⟨ZB y,by simpa using Jv e1 hy⟩
  have hle:(an (ew c.blocks)).length<=1073741824:=by
   have:=Au e1;have:=tE (cz c.blocks) c.blocks.length;have:=hc.1;rw[dR];omega
  have h3:=GY G (an (ew c.blocks)) c.blocks.length hc.1 hle hin;rw[Ka e1 λx=>uV] at h3;simp[];refine(h2 e1).use ?_;simp[];refine h3.use ?_;simp[];exact .p _
theorem Gh(c:Cd)(hc:CBd c):VF Tryz.prog G gJ [.agg (c.cs.map .p)] (.p (ah (lS c.blocks))):=by
 have hcs:=c.cs_eq2;have hbl:bkL c.blocks= .lst 5 (c.blocks.map Bk.cs):=rfl;have hgk:=vw G c hc;rw[hcs,hbl] at hgk;refine jw G ?_;refine AC.go vv ?_;simp[mu,hcs,hbl];refine hgk.use ?_;cases e1:be c.blocks with
 |false=>
  rw[Dp e1];simp[];exact .nils 1
 |true=>
  have hv:=Rd (l:=an (iL c.blocks)) G ((Mz G c hc e1).mono λr h ⟨id,_,h1,h2⟩=>⟨id,by rw[dR];exact h1,h2⟩);rw[hcs,hbl] at hv
  have hne:an (iL c.blocks)≠[]:=by
   obtain⟨t,e⟩:=(AA e1).head;intro h0;have:=congrArg List.length h0;rw[dR,←Zv,show(iL c.blocks).reverse=ew c.blocks from rfl,e] at this;simp at this
  have hon:zi (an (iL c.blocks))=lS c.blocks:=by
   rw[On (n:=c.blocks.length) λx hx=>by
    obtain⟨y,hy,rfl⟩:=Ww.1 hx;exact⟨ZB y,by simpa using Jv e1 (by rw[ew];exact YR.2 hy)⟩]
   exact Ka e1 λx=>FS x
  have hle:(an (iL c.blocks)).length<=1073741824:=by
   have:=Au e1;have:=tE (cz c.blocks) c.blocks.length;have:=hc.1;rw[ew,Zv] at*
   rw[dR];omega
  rw[←hon];generalize an (iL c.blocks)=L at hv hne hle;have hsh:∀n,cS n (.row 1 (ae L))= .row 1 (ae L):=λn=>by simp[cS,ae,cm,bx]
  simp[];refine(AC.lift hv (by simp[below]) rfl (by simp[GH,ae,uR,tp])).mono ?_;rintro r h ⟨rfl,rfl⟩;simp[bx,hsh];refine(Rc G (.sl 1 1 0 L.length) L hle _ (Oc G L hle hne rfl)).mono ?_;rintro r h ⟨_,_,⟨rfl,hn⟩|⟨id,t,_,rfl,hid⟩⟩
  ·simp[];rw[hn];exact .nils 1
  ·simp[];exact Fk hid rfl
end
section
theorem Se(n:Nat):List.replicate n [AV.p (PV.int .i64 0)]=ae (List.replicate n 0):=by simp[ae]
end
section
variable (G:aw)
theorem Kd(l:List Int)(v:Int)(hl:l.length<=1073741824):VF Tryz.prog G jm [.p (ah l),.p (.int .i64 v)] (.p (.int .i64 (ixI (l.findIdx? λx=>decide (x=v))))):=by
 have hLn:ah l= .lst 1 (l.map λn=>[.int .i64 n]):=rfl;refine AC.go EY ?_;simp[uw,hLn];refine am (λi:Nat=>aj 19 [(5,.p (.int .i64 i)),(0,.p (.lst 1 (l.map λn=>[.int .i64 n]))),(1,.p (.int .i64 v))]) (λ_=>[]) (λi=>i<=l.length/\v∉l.take i) (λi=>l.length-i) 0 ⟨We _,by simp⟩ (aE rfl (by simp[below])) ?_;rintro i ⟨hi,hn⟩;simp[];refine aA (λhc=>?_) (λhc=>?_)
 ·have hc:i<l.length:=by simpa using hc
  have hwi:=w1 (i:=i) (by omega);have hg:=Wc hc;generalize hx:l[i]=x at hg
  by_cases he:x=v
  ·have hf:(l.findIdx? λx=>decide (x=v))=some i:=by
    rw[Xe]
    exact⟨hc,by simp[hx,he],λj hj=>by
     have:¬l[j]=v:=λe=>hn (XV.2 ⟨j,by omega,e⟩);simpa using this⟩
   simp[hg,he,hf,ixI]
  ·simp[hg,he];refine⟨i+1,⟨hc,λhm=>?_⟩,by omega,aE rfl (by simp[below,hwi])⟩;rw[WQ,hg,Ws] at hm;rcases hm with hm|hm
   ·exact hn hm
   ·simp at hm;exact he hm.symm
 ·have hie:l.length<=i:=by simpa using hc
  rw[Wi hie] at hn
  have hf:(l.findIdx? λx=>decide (x=v))=none:=by
   rw[XD];intro x hx;have:¬x=v:=λe=>hn (e▸hx);simpa using this
  simp[hf,ixI]
end
section
def oE(V:List Int)(i:Nat):List Int:=(V.take i++[0,0]).take 2
theorem LV{V:List Int}{i:Nat}{v:Int}(h2:V.length<=2)(h:V[i]?=some v):(oE V i).set i v=oE V (i+1):=by
 match V,h2 with
 |[],_=>simp at h
 |[a],_=>
  match i with
  |0=>simp at h;subst h;rfl
  |i+1=>simp at h
 |[a,b],_=>
  match i with
  |0=>simp at h;subst h;rfl
  |1=>simp at h;subst h;rfl
  |i+2=>simp at h
theorem DM(V:List Int)(i:Nat):(oE V i).length=2:=by simp[oE]
theorem Ig{V:List Int}{i:Nat}{v:Int}(h2:V.length<=2)(h:V[i]?=some v):(oE V i)[i]?=some 0:=by
 match V,h2 with
 |[],_=>simp at h
 |[a],_=>
  match i with
  |0=>rfl
  |i+1=>simp at h
 |[a,b],_=>
  match i with
  |0=>rfl
  |1=>rfl
  |i+2=>simp at h
def Kw(V:List Int)(i:Nat):Prop:= -1∉V.take i
def DY(V:List Int)(i:Nat):Bool:=decide (-2∈V.take i)
theorem Mm{V:List Int}{i:Nat}{v:Int}(h:V[i]?=some v):DY V (i+1)=(DY V i||decide (v= -2)):=by
 have e:V.take (i+1)=V.take i++[v]:=by rw[WQ,h];rfl
 rw[DY,DY,e,←Bool.decide_or];congr 1;rw[Ws,Wt,eq_comm (a:=v)]
def KWr(c:Cd)(h h':List AO)(w r o:Nat)(Yv:AV)(I:List Nat)(S:KS)(Y:List (List Bool))(m:Bool)(S':KS):Prop:=
 ∃Y' m',KW h' w r o Yv I S' Y' m'/\WayR c S'.W Y'/\RRel S Y m S' Y' m'/\Frm (w::r::o::I) h h'
variable (G:aw)
section
variable {h:List AO} {w r o:Nat} {Yv:AV} {I:List Nat} {S:KS} {Y:List (List Bool)} {m:Bool}
theorem Sp(H:KW h w r o Yv I S Y m)(hvk:∀r,VK (rg S.regs r))(y:Ii)(h1:1<=y.op/\y.op<=14)(hs:aI y.op=true)(ha:∀r∈y.args,0<=r/\r.toNat<S.regs.length)(hl:y.op≠14->(y.args.length:Int)=da y.op)(hne:S.regs≠[]):
 AC Tryz.prog G fb [.ptr w 4 0 0,.agg (y.cs.map .p)] h λz h'=>z= .ret (.p (.int .i64 (fp S.regs y)))/\h'=h:=by
 have hys:=y.cs_eq2;have hnl:ah y.args= .lst 1 (y.args.map λn=>[.int .i64 n]):=rfl;have hg:=H.hwN hne;have hr:=H.hr hne;have hwl:=H.lt w (by simp);have hrl:=H.lt r (by simp);have m1:∀t,(h++t)[w]?=h[w]?:=λt=>Wb hwl;have m2:∀t,(h++t)[r]?=h[r]?:=λt=>Wb hrl
 have hrg:∀q∈y.args,(ae S.regs)[q.toNat]?=some [.p (.int .i64 (rg S.regs q))]:=λq hq=>by
  have h2:=ha q hq;have h3:=bW (oT h2.2);rw[h3];have:((q.toNat:Nat):Int)=q:=by omega
  rw[this]
 refine AC.trim ?_ (by simp[below]);refine AC.go tf ?_
 by_cases o1:y.op=1
 ·simp[bN,hys,hnl,o1,fp]
 by_cases o2:y.op=2
 ·have hll:=hl (by omega);rw[o2] at hll
  obtain⟨a,haa⟩:∃a,y.args=[a]:=by
   have:y.args.length=1:=by have:da 2=1:=rfl
                            omega
   exact Yn.1 this
  have h0:=ha a (by rw[haa];simp);have h3:=hrg a (by rw[haa];simp);simp[bN,hys,o2,fp,haa,m1,m2,hg,hr,h3,h0.1,show ah [a]= .lst 1 [[.int .i64 a]] from rfl];omega
 by_cases o3:y.op=11\/y.op=14
 ·have hp:inR y.op 1 10=false:=by simp[inR];omega
  simp[bN,hys,hnl,o1,o2];refine(Fm G y.op).use ?_;simp[hp,fp,o1,o2,o3]
 have hop:3<=y.op/\y.op<=10:=by
  have h5:y.op≠12/\y.op≠13:=by
   simp only[aI,Wr,Yx,decide_eq_false_iff_not] at hs;exact⟨hs.1.2,hs.2⟩
  omega
 have hp:inR y.op 1 10=true:=by simp[inR];omega
 have hll:=hl (by omega);obtain⟨V,hV⟩:∃V,V=y.args.map (rg S.regs):=⟨_,rfl⟩;have hVl:V.length=y.args.length:=by rw[hV,Wj]
 have hV2:V.length<=2/\1<=V.length:=by
  have:da y.op=1\/da y.op=2:=by
   unfold da;split
   ·omega
   ·split<;>simp
  omega
 have hVk:∀v∈V,VK v:=λv hv=>by
  rw[hV] at hv;obtain⟨q,_,rfl⟩:=Ww.1 hv;exact hvk q
 obtain⟨a0,ha0⟩:∃a,a=V.headD 0:=⟨_,rfl⟩;obtain⟨b0,hb0⟩:∃a,a=V.getLastD 0:=⟨_,rfl⟩
 have hins:fp S.regs y=if-1∈V then-1 else if-2∈V then-2 else doK y.op a0 b0:=by rw[fp,WB o1,WB o2,WB o3,←hV,←ha0,←hb0]
 have hgV:∀i q,y.args[i]?=some q->V[i]?=some (rg S.regs q):=λi q hq=>by rw[hV,Wl,hq];rfl
 rw[hins];simp[bN,hys,hnl,o1,o2];refine(Fm G y.op).use ?_;simp[hp];refine am (λi:Nat=>aj 86 [(7,.p (.int .i64 i)),(6,.sl (h.length+1) 1 0 2),(5,.p (.bool (DY V i))),(3,.ptr h.length 4 0 0),(0,.ptr w 4 0 0)]) (λi=>h++[AO.row 4 [[.p (.int .i64 y.op),.p (.int .i64 y.to),.p (.lst 1 (y.args.map λn=>[.int .i64 n])),.p (.int .i64 y.n)]],.row 1 (ae (oE V i))]) (λi=>i<=y.args.length/\Kw V i) (λi=>y.args.length-i) 0 ⟨We _,by simp[Kw]⟩ (aa (by simp) (by simp[below,DY];omega)) ?_;rintro i ⟨hi,hno⟩;simp[];refine aA (λhcc=>?_) (λhcc=>?_)
 ·have hcc:i<y.args.length:=by simpa using hcc
  have hgi:=Wc hcc;have hmi:=Wm hcc;generalize y.args[i]=q at hgi hmi;have h0:=ha q hmi;have h3:=hrg q hmi;have h4:=hgV i q hgi;have h5:=LV hV2.1 h4;have h6:=DM V i;have h7:=DM V (i+1);have hi2:i<2:=by omega
  have h8:(oE V (i+1))[i]?=some (rg S.regs q):=by rw[←h5,Wh (by omega)]
  have h9:=bW h8;have h10:=bW (Ig hV2.1 h4);have h11:∀hh,(ae (oE V i))[i]'hh=[.p (.int .i64 0)]:=λhh=>ag h10 hh;have hib:=Mm h4;have hwi:=w1 (i:=i) (by omega);have hvq:=hvk q;generalize rg S.regs q=v at h3 h4 h5 h8 h9 hib hvq;have h12:∀hh,(ae (oE V (i+1)))[i]'hh=[.p (.int .i64 v)]:=λhh=>ag h9 hh
  by_cases hv1:v= -1
  ·subst hv1;have hm: -1∈V:=Wq h4;simp[hgi,m1,m2,hg,hr,h3,h0.1,jJ,di,h5,h6,h7,h11,h12,hi2,hm];omega
  ·have hno':Kw V (i+1):=λhm=>by
    rw[WQ,h4] at hm;rcases Ws.1 hm with hm|hm
    ·exact hno hm
    ·simp at hm;exact hv1 hm.symm
   simp[hgi,m1,m2,hg,hr,h3,h0.1,jJ,di,h5,h6,h7,h11,h12,hi2,hv1];refine⟨by omega,by omega,?_⟩;cases hb:DY V i with
   |true=>
    rw[hb,Bool.true_or] at hib;refine aA (λhh=>by cases hh) (λ_=>?_);simp[];exact⟨i+1,⟨by omega,hno'⟩,by omega,aa (by simp) (by simp[below,hwi,hib]<;>omega)⟩
   |false=>
    rw[hb,ZT] at hib;refine aA (λ_=>?_) (λhh=>by cases hh);simp[h9];exact⟨by omega,i+1,⟨by omega,hno'⟩,by omega,aa (by simp) (by simp[below,hwi,hib]<;>omega)⟩
 ·have hcc:y.args.length<=i:=by simpa using hcc
  have htk:V.take i=V:=Wi (by omega);rw[Kw,htk] at hno;have hib:DY V i=decide (-2∈V):=by rw[DY,htk]
  rw[hib]
  by_cases hm2: -2∈V
  ·simp[hno,hm2]
  have hv5:∀v∈V,V5 v:=λv hv=>(hVk v hv).v5 (λe=>hno (e▸hv)) λe=>hm2 (e▸hv)
  have hve:oE V i=[a0,if V.length=2 then b0 else 0]:=by
   rw[oE,htk,ha0,hb0]
   match V,hV2 with
   |[],h=>simp at h
   |[a],_=>rfl
   |[a,b],_=>rfl
  rw[hve]
  have hdo:(if y.op=10 then some (tr5 (decide (a0=0))) else sX y.op (a0) (if V.length=2 then b0 else 0))=(if y.op=10 then some (tr5 (decide (a0=0))) else sX y.op (a0) (b0)):=by
   by_cases e:y.op=10
   ·rw[Wz e,Wz e]
   ·have:da y.op=2:=by
     unfold da;rw[WB o1,WB (by omega)]
    rw[WB e,WB e,Wz (by omega)]
  have ha5:V5 a0:=by
   rw[ha0];exact hv5 _ (rn (by intro e;rw[e] at hV2;simp at hV2))
  have hb5:V5 (if V.length=2 then b0 else 0):=by
   split
   ·rw[hb0];exact hv5 _ (mL (by intro e;rw[e] at hV2;simp at hV2))
   ·exact .zero
  have hD:=RK G y.op (a0) (if V.length=2 then b0 else 0) hop.1 hop.2 ha5 hb5;rw[hdo] at hD
  have hK:doK y.op (a0) (b0)=(if y.op=10 then some (tr5 (decide (a0=0))) else sX y.op (a0) (b0)).getD (-1):=by rw[doK];split<;>rfl
  rw[hK];clear hK hdo;generalize (if y.op=10 then some (tr5 (decide (a0=0))) else sX y.op (a0) (b0))=D at hD;generalize (if V.length=2 then b0 else 0)=b at hD;have hir:∀a b:Int,ae [a,b]=[[.p (.int .i64 a)],[.p (.int .i64 b)]]:=λ_ _=>rfl;simp[hno,hm2,hir];cases D with
  |none=>
   refine VF.use (hr:=by simp[pf,au,below]) hD ?_;simp[pf]
  |some q=>
   refine VF.use (hr:=by simp[pf,au,below]) hD ?_;simp[pf]
theorem Ag{c:Cd}(H:KW h w r o Yv I S Y m)(hV:KV c S)(hW:WayR c S.W Y)(hc:CBd c){b i:Nat}{x:Bk}{t:Int}(hb:c.blocks[b]?=some x)(ht:x.next[i]?=some t)(ht2:0<=t/\t<c.blocks.length):
 AC Tryz.prog G bi [.ptr w 4 0 0,.agg (c.cs.map .p),.p (.int .i64 b),.p (.int .i64 i)] h λz h'=>z= .ret (.tup [])/\KWr c h h' w r o Yv I S Y m (S.way b t):=by
 have hcs:=c.cs_eq2;have hbl:bkL c.blocks= .lst 5 (c.blocks.map Bk.cs):=rfl;have hxs:=x.cs_eq2;have hnl:ah x.next= .lst 1 (x.next.map λn=>[.int .i64 n]):=rfl;obtain⟨l,l1,l2,l3⟩:=hW.at' b x hb;obtain⟨J,j1,j2⟩:=H.own;have hg:=H.hw;have hwl:=H.lt w (by simp);obtain⟨RV,hRV⟩:∃RV,RV=rqV S.regs r:=⟨_,rfl⟩;obtain⟨rc1,rc2⟩:=tS S.regs r;rw[←hRV] at hg rc1 rc2;have hol:=H.lt o (by simp);have hil:i<l.length:=by rw[l2];exact(Wa.1 ht).1
 have hli:=Wc hil;generalize l[i]=v at hli;have hlb:=bh hli;have hne:l≠[]:=λe=>by rw[e] at hil;simp at hil
 obtain⟨yid,rows,kd,rfl,y1,y2,y3,y4,y5,y6,y7,y8⟩:=JW j1 l1 hne;have hyl:=j1.lt yid y5;have hkl:=j1.lt kd y6;have hbY:b<Y.length:=(Wa.1 l1).1;have m1:∀t,(h++t)[w]?=h[w]?:=λt=>Wb hwl;have m2:∀t,(h++t)[yid]?=h[yid]?:=λt=>Wb hyl;have m3:∀t,(h++t)[kd]?=h[kd]?:=λt=>Wb hkl;have m4:∀t,(h++t)[o]?=h[o]?:=λt=>Wb hol
 have htk:((b:Int),t)∈S.W\/v=false:=by
  cases v with
  |true=>exact .inl ((l3 t).2 ⟨i,ht,hli⟩)
  |false=>exact .inr rfl
 have hbb:(0:Int)<=b/\(b:Int)<c.blocks.length:=by have:=(Wa.1 hb).1;omega
 obtain⟨hV2,hop⟩:=hV.way hbb ht2;refine AC.go rF ?_;cases v with
 |true=>
  have hm:((b:Int),t)∈S.W:=(l3 t).2 ⟨i,ht,hli⟩;have he:S.way b t=S:=by rw[KS.way,Wz hm]
  simp[dY,hcs,hbl,m1,m2,m3,hg,y1,y3,y4,hlb];rw[he];exact⟨hbY,hil,Y,m,H.more _,hW,.refl _ _ _,Frm.more _ _ _⟩
 |false=>
  have wk:w≠kd:=λe=>H.nw (by rw[e];exact j2 kd y6);have ok:o≠kd:=λe=>H.no (by rw[e];exact j2 kd y6);have oy:o≠yid:=λe=>H.no (by rw[e];exact j2 yid y5);have wy:w≠yid:=λe=>H.nw (by rw[e];exact j2 yid y5);have n1:∀t u,((h++t).set kd u)[w]?=h[w]?:=λt u=>by rw[Wd (Ne.symm wk)];exact m1 t
  have n2:∀t u,((h++t).set kd u)[o]?=h[o]?:=λt u=>by rw[Wd (Ne.symm ok)];exact m4 t
  have n3:∀t u u',(((h++t).set kd u).set o u')[w]?=h[w]?:=λt u u'=>by rw[Wd (Ne.symm H.wo)];exact n1 t u
  have n4:∀t u,((h++[t]).set kd u)[h.length]?=some t:=λt u=>by rw[Wd (by omega)];simp
  have n4e:=λt u hh=>ag (n4 t u) hh;have ho:=H.ho;have htl:t.toNat<S.opn.length:=by rw[hV.ol];omega
  have hto:=bh (Wc htl);have htl2:t.toNat<(aG S.opn).length:=by rw[jT];exact htl
  simp[dY,hcs,hbl,m1,m2,m3,hg,y1,y3,y4,hlb,n1,n2,n3,n4e,hb,hxs,hnl,ht,ho,hto,ht2.1,bP];refine⟨hbY,hil,hbY,hil,by omega,?_⟩;obtain⟨H2,hH2⟩:∃H2,H2=((((h++[AO.row 3 [[AV.p (PV.int IntKind.i64 c.params),AV.p (PV.int IntKind.i64 c.regs),AV.p (PV.lst 5 (List.map Bk.cs c.blocks))]]]).set kd (AO.row 1 (aG (l.set i true)))).set o (AO.row 1 (aG (S.opn.set t.toNat true)))).set w (AO.row 4 [[RV,AV.sl o 1 0 S.opn.length,AV.sl yid 1 0 Y.length,AV.p (PV.bool true)]])):=⟨_,rfl⟩;have q0:H2.length=h.length+1:=by rw[hH2];simp
  have q1:H2[w]?=some (AO.row 4 [[RV,AV.sl o 1 0 S.opn.length,AV.sl yid 1 0 Y.length,AV.p (PV.bool true)]]):=by rw[hH2,Wh (by simp;omega)]
  have q2:H2[o]?=some (AO.row 1 (aG (S.opn.set t.toNat true))):=by rw[hH2,Wd H.wo,Wh (by simp;omega)]
  have q3:H2[kd]?=some (AO.row 1 (aG (l.set i true))):=by rw[hH2,Wd wk,Wd ok,Wh (by simp;omega)]
  have q4:∀j,j<h.length->j≠w->j≠o->j≠kd->H2[j]?=h[j]?:=λj hj h1 h2 h3=>by rw[hH2,Wd (Ne.symm h1),Wd (Ne.symm h2),Wd (Ne.symm h3),Wb hj]
  rw[←hH2];clear hH2;have hrl:=H.lt r (by simp);obtain⟨I',p1,p2⟩:=y8 H2 (l.set i true) (by simp) q3 (λj hj hn=>q4 j (j1.lt j hj) (λe=>H.nw (by rw[←e];exact j2 j hj)) (λe=>H.no (by rw[←e];exact j2 j hj)) hn);have hlead:sw Y b i=Y.set b (l.set i true):=by rw[sw,l1];rfl
  rw[←hlead] at p1;refine⟨sw Y b i,true,⟨?_,λhne2=>?_,?_,?_,λj hj=>by have:=H.li j hj;omega,by omega,(λhne2=>H.ra (by rw[KS.way_regs] at hne2;exact hne2)),H.wo,H.nw,H.no⟩,hW.lead hb ht (QW S b t),LW l1 hli m,by omega,λj hj hn=>?_⟩
  ·rw[q1,hop,KS.way_regs,hRV];simp
  ·rw[KS.way_regs] at hne2;obtain⟨ra1,ra2,ra3⟩:=H.ra hne2;rw[q4 r hrl (Ne.symm ra1) ra2 (λe=>ra3 (by rw[e];exact j2 kd y6)),KS.way_regs];exact H.hr hne2
  ·rw[q2,hop]
  ·refine⟨I',?_,λj hj=>j2 j (p2 j hj)⟩;exact p1
  ·simp only[WE,not_or] at hn;exact q4 j hj hn.1 hn.2.2.1 λe=>hn.2.2.2 (by rw[e];exact j2 kd y6)
end
end
section
theorem np{α β:Type}(f:β->α->β)(a:β){l:List α}{i:Nat}{x:α}(h:l[i]?=some x):(l.take (i+1)).foldl f a=f ((l.take i).foldl f a) x:=by rw[WQ,h,Zf];rfl
theorem Cb(S:KS)(b:Int):∀(l:List (Int × Int)) (p r:Int) (a:Int),mW S b (l++[(p,r)]) a=if(p,b)∈S.W then jP (mW S b l a) (rg S.regs r) else mW S b l a
 |[],p,r,a=>by simp[mW]
 |(q,s)::l,p,r,a=>by rw[Xt,mW,Cb S b l p r,mW]
def EU(S:KS)(bs:List Bk)(b:Int)(f:Ph)(k:Nat):Int:=mW S b (((ab bs b).zip f.args).take k) (-2)
theorem Md{S:KS}{bs:List Bk}{b:Int}{f:Ph}{k:Nat}{p r:Int}(hp:(ab bs b)[k]?=some p)(hr:f.args[k]?=some r):EU S bs b f (k+1)=if(p,b)∈S.W then jP (EU S bs b f k) (rg S.regs r) else EU S bs b f k:=by
 have:((ab bs b).zip f.args)[k]?=some (p,r):=by rw[Yo];exact⟨hp,hr⟩
 rw[EU,WQ,this];exact Cb S b _ p r _
theorem Pf{S:KS}{bs:List Bk}{b:Int}{f:Ph}{k:Nat}(h:(ab bs b).length<=k):EU S bs b f k=vE S bs b f:=by rw[EU,Wi (by rw[YX];omega)];rfl
theorem eW{bs:List Bk}{b p:Int}(h:p∈ab bs b):∃(k:Nat) (x:Bk),p=(k:Int)/\bs[k]?=some x/\b∈x.next:=by
 obtain⟨y,hy,rfl⟩:=Ww.1 h;obtain⟨h1,h2⟩:=WM.1 hy;exact⟨y.2,y.1,rfl,XW.1 h1,by simpa using h2⟩
theorem KWr.trans{c:Cd}{h h1 h2:List AO}{w r o:Nat}{Yv:AV}{I:List Nat}{S S1 S2:KS}{Y:List (List Bool)}{m:Bool}{Y1:List (List Bool)}{m1:Bool}(hR:RRel S Y m S1 Y1 m1)(hF:Frm (w::r::o::I) h h1)(b:KWr c h1 h2 w r o Yv I S1 Y1 m1 S2):KWr c h h2 w r o Yv I S Y m S2:=by
 obtain⟨Y2,m2,b1,b2,b3,b4⟩:=b;exact⟨Y2,m2,b1,b2,hR.trans b3,hF.trans b4 λj hj=> .inl hj⟩
structure KbS where (i:Nat) (X:List AO)
theorem pW:AK.whole dw=FK.ak dG:=rfl
variable (G:aw)
section
variable {h:List AO} {w r o:Nat} {Yv:AV} {I:List Nat} {S:KS} {Y:List (List Bool)} {m:Bool}
theorem Nd{c:Cd}(H:KW h w r o Yv I S Y m)(hk:KFit c)(hv:CVal c)(hV:KV c S)(hW:WayR c S.W Y)(hf:en 1073741824 c){b:Nat}{x:Bk}(hb:c.blocks[b]?=some x):
 AC Tryz.prog G dv [.ptr w 4 0 0,.agg (c.cs.map .p),.p (.int .i64 b)] h λz h'=>z= .ret (.tup [])/\KWr c h h' w r o Yv I S Y m (mC (x.ins.foldl cQ (x.phis.foldl (λS f=>jF S c.blocks b f) S)) b x):=by
 have hc:CBd c:=⟨hf.1,λx hx=>(hf.2 x hx).next⟩;have hcs:=c.cs_eq2;have hbl:bkL c.blocks= .lst 5 (c.blocks.map Bk.cs):=rfl;have hxs:=x.cs_eq2;have hxf:=hf.2 x (Wq hb);have hnl:ah x.next= .lst 1 (x.next.map λn=>[.int .i64 n]):=rfl;have hil:inL x.ins= .lst 4 (x.ins.map Ii.cs):=rfl;have hpl:phL x.phis= .lst 2 (x.phis.map Ph.cs):=rfl;have hPr:=mI G c b hf.1 hc.2;rw[hcs,hbl] at hPr;have hpn:ah (ab c.blocks b)= .lst 1 ((ab c.blocks b).map λn=>[.int .i64 n]):=rfl;have hwl:=H.lt w (by simp);have hlt:=H.lt;have hp0:=hk.p0;have hr3:=hk.r3;have hpml:=aU c.blocks b;have hcl:=hf.1;obtain⟨RC,hRC⟩:∃RC,RC=AO.row 3 [[.p (.int .i64 c.params),.p (.int .i64 c.regs),.p (.lst 5 (c.blocks.map Bk.cs))]]:=⟨_,rfl⟩;obtain⟨RX,hRX⟩:∃RX,RX=AO.row 5 [[.p (.lst 2 (x.phis.map Ph.cs)),.p (.lst 4 (x.ins.map Ii.cs)),.p (.int .i64 x.jump),.p (.int .i64 x.on),.p (.lst 1 (x.next.map λn=>[.int .i64 n]))]]:=⟨_,rfl⟩;refine AC.goK oO pW ?_;simp[dw,dG,hcs,hbl,hb,hxs,hnl,hil,hpl];refine hPr.use ?_;rw[hpn]
 have hbox:∀(X:List AO) (S':KS),X[h.length]?=some RC->X[h.length+1]?=some RX->∀X',Frm (w::r::o::I) X X'->X'[h.length]?=some RC/\X'[h.length+1]?=some RX:=λX S' h1 h2 X' hF=>by
  have k1:=(Wa.1 h1).1;have k2:=(Wa.1 h2).1;refine⟨?_,?_⟩
  ·rw[hF.2 _ k1 λhm=>by have:=hlt _ hm;omega];exact h1
  ·rw[hF.2 _ k2 λhm=>by have:=hlt _ hm;omega];exact h2
 simp[]
 refine dc (λX:List AO=>aj 156 [(7,.p (.lst 1 ((ab c.blocks b).map λn=>[.int .i64 n]))),(6,.ptr (h.length+1) 5 0 0),(4,.ptr h.length 3 0 0),(2,.p (.int .i64 b)),(0,.ptr w 4 0 0)]) (λX=>X)
  (λX=>X[h.length]?=some RC/\X[h.length+1]?=some RX/\KWr c h X w r o Yv I S Y m (x.phis.foldl (λS f=>jF S c.blocks b f) S)) ?_ ?_
 ·simp[]
  refine am (λa:KbS=>aj 156 [(8,.p (.int .i64 a.i)),(7,.p (.lst 1 ((ab c.blocks b).map λn=>[.int .i64 n]))),(6,.ptr (h.length+1) 5 0 0),(4,.ptr h.length 3 0 0),(2,.p (.int .i64 b)),(0,.ptr w 4 0 0)]) (λa=>a.X)
   (λa=>a.i<=x.phis.length/\a.X[h.length]?=some RC/\a.X[h.length+1]?=some RX/\KWr c h a.X w r o Yv I S Y m ((x.phis.take a.i).foldl (λS f=>jF S c.blocks b f) S)) (λa=>x.phis.length-a.i) ⟨0,h++[RC,RX]⟩ ⟨We _,by simp,by simp,Y,m,H.more _,hW,.refl _ _ _,Frm.more _ _ _⟩ ?_ ?_
  ·rw[hRC,hRX];exact aa (by simp) (by simp[below];omega)
  rintro⟨i,X⟩ ⟨hi,g0,g1,hX⟩;simp only at hi g0 g1 hX;have g0c:=g0;have g1c:=g1;rw[hRC] at g0c;rw[hRX] at g1c;have hV1:KV c ((x.phis.take i).foldl (λS f=>jF S c.blocks b f) S):=KV.phis hk hb _ (λf hf=>Xp hf) hV;have hx0:=(Wa.1 g0).1;have hx1:=(Wa.1 g1).1;simp[g1c];refine aA (λhcc=>?_) (λhcc=>?_)
  ·have hcc:i<x.phis.length:=by simpa using hcc
   have hgi:=Wc hcc;have hmi:=Wm hcc;generalize x.phis[i]=f at hgi hmi;have hft:=np (λS f=>jF S c.blocks b f) S hgi;generalize (x.phis.take i).foldl (λS f=>jF S c.blocks b f) S=S1 at hX hV1 hft;obtain⟨Y1,m1,H1,W1,R1,F1⟩:=hX;have hfs:=f.cs_eq2;have hfa:ah f.args= .lst 1 (f.args.map λn=>[.int .i64 n]):=rfl;obtain⟨pa1,pa2,pa3,pa4⟩:=hv.pa b x hb f hmi;have hwi:=w1 (i:=i) (by have:=hxf.phis;omega);have hwX:=H1.lt w (by simp);simp[];refine am (λk:Nat=>aj 156 [(10,.p (.int .i64 k)),(9,.p (.int .i64 (EU S1 c.blocks b f k))),(8,.p (.int .i64 i)),(7,.p (.lst 1 ((ab c.blocks b).map λn=>[.int .i64 n]))),(6,.ptr (h.length+1) 5 0 0),(4,.ptr h.length 3 0 0),(2,.p (.int .i64 b)),(0,.ptr w 4 0 0)]) (λ_=>X) (λk=>k<=(ab c.blocks b).length) (λk=>(ab c.blocks b).length-k) 0 (We _) (aa (by have:=F1.1;omega) (by simp[below,EU,mW];omega)) ?_;intro k hkk;simp[];refine aA (λhc2=>?_) (λhc2=>?_)
   ·have hc2:k<(ab c.blocks b).length:=(by simpa using hc2);have hgk:=Wc hc2;have hmk:=Wm hc2;generalize (ab c.blocks b)[k]=p at hgk hmk;obtain⟨pn,px,rfl,hpx,_⟩:=eW hmk;have hgr:k<f.args.length:=(by omega);have hgq:=Wc hgr;have hmq:=Wm hgr;generalize f.args[k]=q at hgq hmq;have hq:=pa2 q hmq;have hps:=Md (S:=S1) hgk hgq;have hL:=Sz G H1 W1 hc hpx b;have hwk:=w1 (i:=k) (by omega);have hql:q.toNat<S1.regs.length:=(by rw[hV1.j.len];omega);have hqr:=bW (oT hql);have hqe:((q.toNat:Nat):Int)=q:=(by omega);have hgn:=H1.hwN (mH hql);have hrn:=H1.hr (mH hql);rw[hqe] at hqr;rw[hcs,hbl] at hL;simp[hgk,g0c];refine hL.mono ?_;rintro z h' ⟨rfl,rfl⟩;simp[];refine aA (λhm=>?_) (λhm=>?_)
    ·have hm:((pn:Int),(b:Int))∈S1.W:=(by simpa using hm);rw[Wz hm] at hps;have hB:=LY G (EU S1 c.blocks b f k) (rg S1.regs q);simp[hgn,hrn,g1c,hgi,hfs,hfa,hgq,hqr,hq.1];refine⟨by omega,hB.use ?_⟩;simp[];exact⟨k+1,by omega,by omega,aa (by have:=F1.1;omega) (by simp[below,hwk,hps];omega)⟩
    ·have hm:((pn:Int),(b:Int))∉S1.W:=(by simpa using hm);rw[WB hm] at hps;simp[];exact⟨k+1,by omega,by omega,aa (by have:=F1.1;omega) (by simp[below,hwk,hps];omega)⟩
   ·have hc2:(ab c.blocks b).length<=k:=(by simpa using hc2);rw[Pf hc2];have hte:((f.to.toNat:Nat):Int)=f.to:=(by omega);have hS:=OW G H1 f.to.toNat (by rw[hV1.j.len];omega) (vE S1 c.blocks b f);rw[hte] at hS;have hRb:=GZ hV1.j pa3 pa4 (hV1.j.ph b x f hb hmi) Y1 m1;simp[g1c,hgi,hfs];refine hS.mono ?_;rintro z h' ⟨rfl,H2,F2⟩;have F3:Frm (w::r::o::I) X h':=⟨F2.1,λj hj hn=>F2.2 j hj λhm=>hn (by simp only[WE,Zi,or_false] at hm⊢;rcases hm with h|h;exact .inl h;exact .inr (.inl h))⟩;obtain⟨k0,k1⟩:=hbox X S1 g0 g1 h' F3;simp[];refine⟨⟨i+1,h'⟩,⟨hcc,k0,k1,?_⟩,by simp only;omega,aa (by have:=F1.1;have:=F2.1;omega) (by simp[below,hwi];have:=F2.1;omega)⟩;simp only;rw[hft];exact⟨Y1,_,H2,W1,R1.trans hRb,F1.trans F3 λj hj=> .inl hj⟩
  ·have hcc:x.phis.length<=i:=by simpa using hcc
   rw[Wi hcc] at hX;exact⟨X,⟨g0,g1,hX⟩,aa (by obtain⟨_,_,_,_,_,F⟩:=hX;exact F.1) (by simp[below];omega)⟩
 have hV0:KV c (x.phis.foldl (λS f=>jF S c.blocks b f) S):=KV.phis hk hb _ (λf hf=>hf) hV;generalize x.phis.foldl (λS f=>jF S c.blocks b f) S=S0 at hV0;rintro X ⟨g0,g1,hX⟩
 refine dc (λX:List AO=>aj 156 [(6,.ptr (h.length+1) 5 0 0),(4,.ptr h.length 3 0 0),(2,.p (.int .i64 b)),(0,.ptr w 4 0 0)]) (λX=>X)
  (λX=>X[h.length]?=some RC/\X[h.length+1]?=some RX/\KWr c h X w r o Yv I S Y m (x.ins.foldl cQ S0)) ?_ ?_
 ·have hx0:=(Wa.1 g0).1;have hx1:=(Wa.1 g1).1;simp[]
  refine am (λa:KbS=>aj 156 [(11,.p (.int .i64 a.i)),(6,.ptr (h.length+1) 5 0 0),(4,.ptr h.length 3 0 0),(2,.p (.int .i64 b)),(0,.ptr w 4 0 0)]) (λa=>a.X)
   (λa=>a.i<=x.ins.length/\a.X[h.length]?=some RC/\a.X[h.length+1]?=some RX/\KWr c h a.X w r o Yv I S Y m ((x.ins.take a.i).foldl cQ S0)) (λa=>x.ins.length-a.i) ⟨0,X⟩ ⟨We _,g0,g1,hX⟩ (aa (by omega) (by simp[below];omega)) ?_
  clear g0 g1 hX hx0 hx1;rintro⟨i,X⟩ ⟨hi,g0,g1,hX⟩;simp only at hi g0 g1 hX;have g1c:=g1;rw[hRX] at g1c;have hV1:KV c ((x.ins.take i).foldl cQ S0):=KV.inss hk hv hb _ (λf hf=>Xp hf) hV0;have hx0:=(Wa.1 g0).1;have hx1:=(Wa.1 g1).1;simp[g1c];refine aA (λhcc=>?_) (λhcc=>?_)
  ·have hcc:i<x.ins.length:=by simpa using hcc
   have hgi:=Wc hcc;have hmi:=Wm hcc;generalize x.ins[i]=y at hgi hmi;have hft:=np cQ S0 hgi;generalize (x.ins.take i).foldl cQ S0=S1 at hX hV1 hft;obtain⟨Y1,m1,H1,W1,R1,F1⟩:=hX;have hys:=y.cs_eq2;obtain⟨ia1,ia2,ia3,ia4,ia5,ia6,ia7⟩:=hv.ia b x hb y hmi;have hwi:=w1 (i:=i) (by have:=hxf.ins;omega);simp[g1c,hgi,hys];refine(gA G y.op).use ?_;cases hs:aI y.op with
   |false=>
    have he:cQ S1 y=S1:=(by rw[cQ,hs];rfl);rw[he] at hft;simp[];refine⟨⟨i+1,X⟩,⟨hcc,g0,g1,?_⟩,by simp only;omega,aa (by have:=F1.1;omega) (by simp[below,hwi];omega)⟩;simp only;rw[hft];exact⟨Y1,m1,H1,W1,R1,F1⟩
   |true=>
    obtain⟨q1,q2⟩:=ia4 hs;have he:cQ S1 y=S1.bec y.to (fp S1.regs y):=(by rw[cQ,Wz hs]);have hI:=Sp G H1 hV1.vk y ⟨ia1,ia2⟩ hs (λq hq=>by have:=ia3 q hq;rw[hV1.j.len];omega) ia6 (mH (i:=y.to.toNat) (by rw[hV1.j.len];omega));have hte:((y.to.toNat:Nat):Int)=y.to:=(by omega);have hS:=OW G H1 y.to.toNat (by rw[hV1.j.len];omega) (fp S1.regs y);rw[hte] at hS;rw[hys] at hI;have hRb:=GZ hV1.j q1 q2 (hV1.j.ins b x y hb hmi hs) Y1 m1;simp[g1c,hgi,hys];refine hI.mono ?_;rintro z h' ⟨rfl,rfl⟩;simp[g1c];refine hS.mono ?_;rintro z h2 ⟨rfl,H2,F2⟩;have F3:Frm (w::r::o::I) h' h2:=⟨F2.1,λj hj hn=>F2.2 j hj λhm=>hn (by simp only[WE,Zi,or_false] at hm⊢;rcases hm with h|h;exact .inl h;exact .inr (.inl h))⟩;obtain⟨k0,k1⟩:=hbox h' S1 g0 g1 h2 F3;simp[];refine⟨⟨i+1,h2⟩,⟨hcc,k0,k1,?_⟩,by simp only;omega,aa (by have:=F1.1;have:=F2.1;omega) (by simp[below,hwi];have:=F2.1;omega)⟩;simp only;rw[hft,he];exact⟨Y1,_,H2,W1,R1.trans hRb,F1.trans F3 λj hj=> .inl hj⟩
  ·have hcc:x.ins.length<=i:=by simpa using hcc
   rw[Wi hcc] at hX;exact⟨X,⟨g0,g1,hX⟩,aa (by obtain⟨_,_,_,_,_,F⟩:=hX;exact F.1) (by simp[below];omega)⟩
 have hV2:KV c (x.ins.foldl cQ S0):=KV.inss hk hv hb _ (λf hf=>hf) hV0;generalize x.ins.foldl cQ S0=S1 at hV2;clear g0 g1 hX X;rintro X ⟨g0,g1,hX⟩;have g0c:=g0;have g1c:=g1;rw[hRC] at g0c;rw[hRX] at g1c;obtain⟨Y1,m1,H1,W1,R1,F1⟩:=hX;have hjp:=hv.jp b x hb
 have hn0:¬x.jump=3->x.next[0]?=some (x.next.headD 0):=λh3=>by
  cases hx:x.next with
  |nil=>
   rcases hjp with hj|hj|hj
   ·have:=hk.n1 b x hb hj;rw[hx] at this;cases this
   ·have:=hk.n2 b x hb hj;rw[hx] at this;cases this
   ·exact absurd hj h3
  |cons a t=>rfl
 rcases hjp with hj|hj|hj
 ·have e:mC S1 b x=S1.way b (x.next.headD 0):=by rw[mC,Wz hj]
  rw[e];have hL:=Ag G H1 hV2 W1 hc hb (i:=0) (hn0 (by omega)) (hk.tgt hb (.inl hj)).1;rw[hcs,hbl] at hL;generalize x.next.headD 0=ta at hL;simp[g1c,g0c,hj];refine hL.mono ?_;rintro z h2 ⟨rfl,hK⟩;simp[];exact KWr.trans R1 F1 hK
 ·obtain⟨t0,t1,hne⟩:∃t0 t1,x.next=[t0,t1]:=by
   have h2:=hk.n2 b x hb hj
   match hx:x.next,h2 with
   |[t0,t1],_=>exact⟨t0,t1,rfl⟩
  obtain⟨tg0,tg1⟩:=hk.tgt hb (.inr hj);have hbb:(0:Int)<=b/\(b:Int)<c.blocks.length:=by have:=(Wa.1 hb).1;omega
  have hon:=hv.on b x hb (by omega);have hL0:=Ag G H1 hV2 W1 hc hb (i:=0) (hn0 (by omega)) tg0;have hn1:x.next[1]?=some (x.next.getLastD 0):=by rw[hne];rfl
  have hL1:=Ag G H1 hV2 W1 hc hb (i:=1) hn1 tg1;rw[hcs,hbl] at hL0 hL1;have hql:x.on.toNat<S1.regs.length:=by rw[hV2.j.len];omega
  have hqr:=bW (oT hql);have hqe:((x.on.toNat:Nat):Int)=x.on:=by omega
  rw[hqe] at hqr
  have hjf:mC S1 b x=if rg S1.regs x.on= -2 then S1 else if rg S1.regs x.on=0 then S1.way b (x.next.getLastD 0) else if rg S1.regs x.on= -1 then(S1.way b (x.next.headD 0)).way b (x.next.getLastD 0) else S1.way b (x.next.headD 0):=by rw[mC,WB (by omega),Wz hj]
  have hvk:=hV2.vk x.on;have hg:=H1.hwN (mH hql);have hr:=H1.hr (mH hql);have honl:x.on<S1.regs.length:=by omega
  rw[hjf];have hL1':=λ(h2:List AO) (Y2:List (List Bool)) (m2:Bool) (H2:KW h2 w r o Yv I (S1.way b (x.next.headD 0)) Y2 m2) (W2:WayR c (S1.way b (x.next.headD 0)).W Y2)=>Ag G H2 (hV2.way hbb tg0).1 W2 hc hb (i:=1) hn1 tg1;simp only[hcs,hbl] at hL1';generalize x.next.headD 0=ta at hL0 hL1';generalize x.next.getLastD 0=tb at hL1 hL1'
  by_cases v2:rg S1.regs x.on= -2
  ·rw[Wz v2];rw[v2] at hqr;simp[g1c,hj,hg,hr,hqr,hon.1,honl];exact⟨Y1,m1,H1,W1,R1,F1⟩
  rw[WB v2]
  by_cases v0:rg S1.regs x.on=0
  ·rw[Wz v0];rw[v0] at hqr;simp[g1c,g0c,hj,hg,hr,hqr,hon.1,honl];refine(lZ G true).use ?_;simp[tr5,g0c];refine hL1.mono ?_;rintro z h2 ⟨rfl,hK⟩;simp[];exact KWr.trans R1 F1 hK
  rw[WB v0]
  by_cases v1:rg S1.regs x.on= -1
  ·rw[Wz v1];rw[v1] at hqr;simp[g1c,g0c,hj,hg,hr,hqr,hon.1,honl];refine hL0.mono ?_;rintro z h2 ⟨rfl,hK⟩;have hK2:=hK;obtain⟨Y2,m2,H2,W2,R2,F2⟩:=hK;obtain⟨k0,k1⟩:=hbox X S1 g0 g1 h2 F2;have k0c:=k0;have k1c:=k1;rw[hRC] at k0c;rw[hRX] at k1c;simp[k0c];refine(hL1' h2 Y2 m2 H2 W2).mono ?_;rintro z h3 ⟨rfl,hK3⟩;simp[];exact KWr.trans R1 F1 (KWr.trans R2 F2 hK3)
  ·rw[WB v1];have hvp:=hvk.v5 v1 v2;have hge:0<=rg S1.regs x.on:=hvp.1;generalize rg S1.regs x.on=v at hqr v0 v1 v2 hge;simp[g1c,g0c,hj,hg,hr,hqr,hon.1,v1,v0,hge,honl];refine(lZ G false).use ?_;simp[tr5,g0c];refine hL0.mono ?_;rintro z h2 ⟨rfl,hK⟩;simp[];exact KWr.trans R1 F1 hK
 ·have e:mC S1 b x=S1:=by rw[mC,WB (by omega),WB (by omega)]
  rw[e];simp[g1c,hj];exact⟨Y1,m1,H1,W1,R1,F1⟩
end
end
end Go.Proofs.YtigmcjbgnmpbeaaGreat
