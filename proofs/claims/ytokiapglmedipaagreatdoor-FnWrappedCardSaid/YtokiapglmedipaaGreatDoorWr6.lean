/-
  Contracts and lemmas that the card needs, part 6.
-/
import Derived.Test.YtokiapglmedipaaGreatDoorWr5
import Derived.Lib.SlicesCompact
import Derived.Recover
namespace Go.Proofs.YtokiapglmedipaaGreatDoor
open Go Go.Aw
set_option maxRecDepth 100000
set_option maxHeartbeats 4000000
section
theorem rg:AK.whole fx=FK.ak ft:=rfl
theorem Ej(fns:List Fd)(k b:Nat):∀(x y:List Sm) (w:WS),bv fns k b (x++y) w=bv fns k b y (bv fns k b x w)
 |[],y,w=>rfl
 |s::r,y,w=>by rw[Wn,bv,bv,Ej fns k b r]
theorem EV(fns:List Fd)(k b:Nat):∀(x y:List Sm) (w:WS),iB fns k b (x++y) w=iB fns k b x w++iB fns k b y (bv fns k b x w)
 |[],y,w=>rfl
 |s::r,y,w=>by rw[Wn,iB,iB,EV fns k b r];rfl
theorem Jz{fns:List Fd}{k b:Nat}{l:List Sm}{w:WS}{i:Nat}(h:i<l.length):bv fns k b (l.take (i+1)) w=stW fns k b l[i] (bv fns k b (l.take i) w):=by
 rw[an h,Ej];rfl
theorem IL{fns:List Fd}{k b:Nat}{l:List Sm}{w:WS}{i:Nat}(h:i<l.length):iB fns k b (l.take (i+1)) w=iB fns k b (l.take i) w++[rnS fns k b l[i] (bv fns k b (l.take i) w)]:=by
 rw[an h,EV];rfl
theorem AY(fns:List Fd)(k b:Nat):∀(l:List Sm) (w:WS),(iB fns k b l w).length=l.length
 |[],w=>rfl
 |s::r,w=>by rw[iB,VV,AY fns k b r,VV]
theorem OZ{l:List Sm}{i:Nat}(h:i<l.length):aC (l.take i)+l[i].sz<=aC l:=by
 have e:l=l.take i++l[i]::l.drop (i+1):=by rw[←Wz h,Wu]
 have h2:aC l=aC (l.take i)+(l[i].sz+aC (l.drop (i+1))):=by
  conv=>lhs;rw[e]
  rw[bC];rfl
 omega
def sE(fns:List Fd)(k b:Nat)(l:List Sm)(w:WS):WS:=if 0<b then(bv fns k b l w).back w.vs else bv fns k b l w
theorem Gn(fns:List Fd)(k b:Nat)(l:List Sm)(w:WS):(sE fns k b l w).count=w.count+rC l:=by
 unfold sE
 split
 ·exact iR fns k l b w
 ·exact iR fns k l b w
theorem Ld{e vs:List LV}:(lvR (e++vs)).take vs.length=lvR vs:=by
 have h:lvR (e++vs)=lvR vs++lvR e:=by simp[lvR]
 rw[h,List.take_append_of_le_length (by rw[zd];exact VM _),VE (by rw[zd];exact VM _)]
theorem BY(l:List Sm):rC l<=aC l:=VR (uF l) (pF l)
theorem Gr(nf:Bool)(id n:Nat):(vaC nf id n).isCell=true:=by cases nf<;>rfl
theorem JD(nf:Bool)(id n:Nat):(vaC nf id n).cells=[vaC nf id n]:=by cases nf<;>rfl
attribute [simp ↓] Gr JD
variable (G:al)
def StP(fns:List Fd)(k b:Nat)(l:List Sm)(w:WS)(x:ARes)(h:List AO):Prop:=∃nf' w',x= .ret (.p (smL (iB fns k b l w)))/\h=[wO 2 nf' fns k w',.dead,roC nf' w'.vs]/\(nf'=true->w'.vs=[])/\w'=sE fns k b l w
structure StS where (i:Nat) (nf:Bool)
theorem Lo{fns:List Fd}{k:Nat}(hf:fns.length<=1099511627776):∀(N:Nat) (l:List Sm),aC l<N->∀(b:Nat) (nf:Bool) (w:WS),(nf=true->w.vs=[])->w.vs.length<=w.count->w.count+aC l<=1099511627776->b+aC l<=1099511627776->
 AC Tryz.prog G cw [.ptr 0 5 0 0,.p (smL l),.p (.int .i64 b)] (HWk nf fns k w) (StP fns k b l w):=by
 intro N
 induction N with
 |zero=>
  intro l hl b nf w hn hv hc hb
  omega
 |succ N ih=>
  intro l hl b nf w hn hv hc hb
  have hll:=cr l
  refine AC.goK rn rg ?_
  have hsl:∀l,smL l= .lst 5 (l.map Sm.cs):=λ_=>rfl
  have hlen0:GM (vaC nf 1 w.vs.length)=some (.p (.int .i64 w.vs.length)):=by
   cases nf
   ·rfl
   ·simp[vaC,hn rfl]
  simp-implicitDefEqProofs[fx,ft,HWk,wO,wC,hlen0]
  refine aN (λs:StS=>ah 96 [(0,.ptr 0 5 0 0),(1,.p (smL l)),(2,.p (.int .i64 b)),(7,.sl 2 5 0 s.i),(8,.p (.int .i64 w.vs.length)),(9,.p (.int .i64 s.i))])
   (λs=>[wO 3 s.nf fns k (bv fns k b (l.take s.i) w),.dead,.row 5 (smR (iB fns k b (l.take s.i) w)),roC s.nf (bv fns k b (l.take s.i) w).vs])
   (λs=>s.i<=l.length/\(s.nf=true->(bv fns k b (l.take s.i) w).vs=[])) (λs=>l.length-s.i) ⟨0,nf⟩ ⟨by simp,hn⟩ ?_ ?_
  ·refine Hv [0,1,2,1] (by simp) (by decide) ?_ (zC (by simp) rfl (fb (by simp) (bf rfl (by simp[smR,iB]) (bJ rfl (gv _ _ _) bL)))) (by simp[below,ren])
   cases nf<;>simp[ju,roC,wO,bv]
  ·rintro⟨i,nf⟩ ⟨hi,hn⟩
   simp only at hi hn
   simp-implicitDefEqProofs[hsl]
   refine bh (λh=>?_) (λh=>?_)
   ·simp at h
    have hg:=VA h
    have hat:=OZ h
    have hse:=l[i].cs_eq
    have hsz:=l[i].sz_eq
    have hle:=Hi fns k (l:=l.take i) (b:=b) hv
    have hcn:=iR fns k (l.take i) b w
    have hlz:=BY (l.take i)
    have eW:=Jz (fns:=fns) (k:=k) (b:=b) (w:=w) h
    have eR:=IL (fns:=fns) (k:=k) (b:=b) (w:=w) h
    have hol:=AY fns k b (l.take i) w
    rw[Wb,Nat.min_eq_left hi] at hol
    generalize l[i]=s at hg hat hse hsz eW eR
    generalize bv fns k b (l.take i) w=wi at hn hle hcn eW eR⊢
    generalize iB fns k b (l.take i) w=out at hol eR⊢
    obtain⟨o,nme,a,bd,el⟩:=s
    simp only[Sm.op,Sm.name,Sm.args,Sm.body,Sm.els] at hse hsz
    simp-implicitDefEqProofs[hg,hse]
    have hxl:∀l,exL l= .lst 4 (l.map Ex.cs):=λ_=>rfl
    have hal:=bG a
    have hlE:=BY bd
    have hwl:wi.vs.length<=1099511627776:=by omega
    have hopR:∀(x y z u v:AV),af 0 [x,y,z,u,v]->okO 5 (AO.row 5 [[x,y,z,u,v]]):=λx y z u v hh=>eq (λe he=>by rw[VK.1 he];exact hh)
    refine aN (λj:Nat=>ah 96 [(0,.ptr 0 5 0 0),(1,.p (smL l)),(2,.p (.int .i64 b)),(7,.sl 2 5 0 i),(8,.p (.int .i64 w.vs.length)),(9,.p (.int .i64 i)),(10,.ptr 4 5 0 0),(11,.sl 5 4 0 j),(12,.p (.int .i64 j))])
     (λj=>[wO 3 nf fns k ⟨wi.vs,wi.count,bc fns k wi.vs (a.take j) wi.code⟩,.dead,.row 5 (smR out),roC nf wi.vs,.row 5 [[.p (.int .i64 o),.p (.str nme),.p (exL a),.p (smL bd),.p (smL el)]],.row 4 (exR (kK wi.vs (a.take j)))])
     (λj=>j<=a.length) (λj=>a.length-j) 0 (by simp) ?_ ?_
    ·refine ae (h:=[wO 3 nf fns k wi,.dead,.row 5 (smR out),roC nf wi.vs,.row 5 [[.p (.int .i64 o),.p (.str nme),.p (exL a),.p (smL bd),.p (smL el)]],.row 4 []]) (by simp) (aj (vZ (by simp)) (aj trivial (aj (eq (dX out)) (aj (gv _ _ _) (by simp[okO,below]))))) (by simp[below,hsl])
    intro j hj
    have hrl:(exR (kK wi.vs (a.take j))).length=j:=by rw[Ii,um];simp;omega
    simp-implicitDefEqProofs[hxl]
    refine bh (λhc=>?_) (λhc=>?_)
    ·simp at hc
     have hga:=VA hc
     have hks:=bQ (VT hc)
     have hkc:=(rnE wi.vs a[j]).cs_eq
     simp-implicitDefEqProofs[hga]
     refine(Rc G (id:=3) (NB G hf (a[j].sz) a[j] (VM _) (by omega) nf ⟨wi.vs,wi.count,bc fns k wi.vs (a.take j) wi.code⟩ hn hwl) (by simp) (by simp[below]) (by decide) rfl rfl).mono ?_
     rintro r h' ⟨rfl,rfl⟩
     rw[show(rnE (WS.mk wi.vs wi.count (bc fns k wi.vs (a.take j) wi.code)).vs a[j])=rnE wi.vs a[j] from rfl]
     simp-implicitDefEqProofs[aa,hkc,hrl]
     refine⟨by omega,j+1,by omega,by omega,?_⟩
     have htk:List.take j (exR (kK wi.vs (a.take j)))=exR (kK wi.vs (a.take j)):=VE (by omega)
     rw[AU hc,BQ hc,Ho,htk]
     refine cZ [0,1,2,3,4,7] (by simp) (by decide) (by decide) (zC (by simp) rfl (fb (by simp) (bf rfl (dX out) (bJ rfl (gv _ _ _) (bf rfl (by simp[below]) (bf ?_ ?_ bL)))))) (by simp[below,ren,hsl,w1 (i:=j) (by omega)])
     ·have:exR [rnE wi.vs a[j]]=[[.p (.int .i64 (rnE wi.vs a[j]).op),.p (.int .i64 (rnE wi.vs a[j]).n),.p (.str (rnE wi.vs a[j]).name),.p (exL (rnE wi.vs a[j]).kids)]]:=by rw[exR,WE,hkc];rfl
      rw[this];rfl
     ·intro x hx
      rcases VJ.1 hx with h|h
      ·exact dU _ x h
      ·exact dU _ x h
    simp at hc
    have hje:j=a.length:=by omega
    subst hje
    rw[List.take_length] at hrl⊢
    have hal2:=um wi.vs a
    simp-implicitDefEqProofs[]
    generalize hw1:WS.mk wi.vs wi.count (bc fns k wi.vs a wi.code)=w1
    have e1v:w1.vs=wi.vs:=by rw[←hw1]
    have e1c:w1.count=wi.count:=by rw[←hw1]
    have e1l:w1.vs.length=wi.vs.length:=by rw[e1v]
    rw[←e1v]
    refine lI (ah 96 [(0,.ptr 0 5 0 0),(1,.p (smL l)),(2,.p (.int .i64 b)),(7,.sl 2 5 0 i),(8,.p (.int .i64 w.vs.length)),(9,.p (.int .i64 i)),(10,.ptr 4 5 0 0)])
     [wO 3 nf fns k w1,.dead,.row 5 (smR out),roC nf w1.vs,.row 5 [[.p (.int .i64 o),.p (.str nme),.p (exL (kK w1.vs a)),.p (smL bd),.p (smL el)]]] ?_ ?_
    ·simp-implicitDefEqProofs[]
     refine jj 5 (by omega) (by simp) rfl (.same (vZ (by omega)) (.dead (.same (eq (dX out)) (.same (gv _ _ _) (.one (.keep (by simp[below]) (.keep (by simp[below]) (.one ?_ (.keep (by simp[below]) (.keep (by simp[below]) .nil))))) (.nil _)))))) ?_
     ·rw[←e1v] at hal2
      rw[←hal2]
      exact Ep rfl
     ·refine⟨.keep (by simp[below]) .nil,.keep (by simp[below]) .nil,.keep (by simp[below]) .nil,.keep (by simp[below]) .nil,.keep (by simp[below]) .nil,.keep (by simp[below]) .nil,.keep (by simp[below]) .nil,trivial⟩
    have TT:∀(r1:List (Nat × AV)),Aw.look r1 0= .ptr 0 5 0 0->Aw.look r1 1= .p (smL l)->Aw.look r1 2= .p (.int .i64 b)->Aw.look r1 7= .sl 2 5 0 i->Aw.look r1 8= .p (.int .i64 w.vs.length)->Aw.look r1 9= .p (.int .i64 i)->Aw.look r1 10= .ptr 4 5 0 0->∀ρ:List Nat,ρ.length=5->ρ.getD 0 0=0->ρ.getD 2 0=2->ρ.getD 4 0=4->
     TWA ρ r1 [(0,.ptr 0 5 0 0),(1,.p (smL l)),(2,.p (.int .i64 b)),(7,.sl 2 5 0 i),(8,.p (.int .i64 w.vs.length)),(9,.p (.int .i64 i)),(10,.ptr 4 5 0 0)]:=by
     intro r1 a0 a1 a2 a7 a8 a9 a10 ρ hr r0 r2 r4
     simp[below,ren,hr,a0,a1,a2,a7,a8,a9,a10]
     rw[VP,VA (by omega)] at r0 r2 r4
     exact⟨r0,r2,r4⟩
    have hn1:nf=true->w1.vs=[]:=λh=>by rw[e1v];exact hn h
    have okB:∀(nf:Bool) (w:WS) (r:AO),okO 0 r->∀x∈[wO 3 nf fns k w,.dead,.row 5 (smR out),roC nf w.vs,r],okO 5 x:=λnf w r hr=>
     aj (vZ (by omega)) (aj trivial (aj (eq (dX out)) (aj (gv _ _ _) (aj (eq hr) gf))))
    refine lI (ah 96 [(0,.ptr 0 5 0 0),(1,.p (smL l)),(2,.p (.int .i64 b)),(7,.sl 2 5 0 i),(8,.p (.int .i64 w.vs.length)),(9,.p (.int .i64 i)),(10,.ptr 4 5 0 0)])
     [wO 3 (if o=1 then false else nf) fns k (if o=1 then gt w1 nme b else w1),.dead,.row 5 (smR out),roC (if o=1 then false else nf) (if o=1 then gt w1 nme b else w1).vs,.row 5 [[.p (.int .i64 o),.p (.str (if o=1 then vnm w1.count else nme)),.p (exL (kK w1.vs a)),.p (smL bd),.p (smL el)]]] ?_ ?_
    ·by_cases o1:o=1
     ·simp-implicitDefEqProofs[o1]
      refine(MM G (id:=3) (Q:=λnf' w'=>nf'=false/\w'=gt w1 nme b) ((My G nf fns k w1 hn1 (by omega) (by omega) nme b).mono (by rintro x h ⟨rfl,rfl⟩;exact⟨false,_,rfl,rfl,rfl,rfl⟩)) (by simp) (by simp[below]) (by decide) rfl rfl).mono ?_
      rintro r h' ⟨nf',w',rfl,rfl,rfl,rfl⟩
      simp-implicitDefEqProofs[aa]
      refine cZ [0,1,2,5,4] (by simp) (by decide) (by decide) (zC (by simp) rfl (fb (by simp) (bf rfl (dX out) (bJ rfl (gv _ _ _) (bf rfl (by simp[below]) bL))))) (TT _ (by simp) (by simp) (by simp) (by simp) (by simp) (by simp) (by simp) _ rfl rfl rfl rfl)
     ·simp-implicitDefEqProofs[o1]
      refine ae (by simp) (okB nf w1 _ (by simp[okO,below])) (by simp[below])
    generalize hw2:(if o=1 then gt w1 nme b else w1)=w2
    generalize hnf2:(if o=1 then false else nf)=nf2
    generalize hnm2:(if o=1 then vnm w1.count else nme)=nm2
    have hn2:nf2=true->w2.vs=[]:=by
     intro h
     by_cases o1:o=1
     ·rw[if_pos o1] at hnf2;rw[←hnf2] at h;cases h
     ·rw[if_neg o1] at hnf2 hw2;rw[←hw2];exact hn1 (by rw[hnf2];exact h)
    have h2c:w2.count=w1.count+if o=1 then 1 else 0:=by rw[←hw2];split<;>rfl
    have h2v:w2.vs.length<=w2.count:=by
     rw[←hw2];split
     ·simp[gt];omega
     ·omega
    have h2b:w2.count<=wi.count+1:=by rw[h2c,e1c];split<;>omega
    refine lI (ah 96 [(0,.ptr 0 5 0 0),(1,.p (smL l)),(2,.p (.int .i64 b)),(7,.sl 2 5 0 i),(8,.p (.int .i64 w.vs.length)),(9,.p (.int .i64 i)),(10,.ptr 4 5 0 0)])
     [wO 3 nf2 fns k (opW o nme b w1),.dead,.row 5 (smR out),roC nf2 (opW o nme b w1).vs,.row 5 [[.p (.int .i64 o),.p (.str (opN o nme w1)),.p (exL (kK w1.vs a)),.p (smL bd),.p (smL el)]]] ?_ ?_
    ·by_cases o2:o=2
     ·have o1:¬o=1:=by omega
      rw[if_neg o1] at hw2 hnm2
      subst hw2;subst hnm2
      have eo:opW o nme b w1=⟨w1.vs,w1.count,nX w1.vs nme w1.code⟩:=by rw[opW,if_neg o1,if_pos o2]
      have en:opN o nme w1=zy w1.vs nme:=by rw[opN,if_neg o1,if_pos o2]
      rw[eo,en]
      simp-implicitDefEqProofs[o2]
      refine(Rc G (id:=3) (MY G nf2 fns k w1 hn2 (by omega) nme) (by simp) (by simp[below]) (by decide) rfl rfl).mono ?_
      rintro r h' ⟨rfl,rfl⟩
      simp-implicitDefEqProofs[aa]
      refine ae (h:=[wO 3 nf2 fns k ⟨w1.vs,w1.count,nX w1.vs nme w1.code⟩,.dead,.row 5 (smR out),roC nf2 w1.vs,_]) (by simp) (okB nf2 ⟨w1.vs,w1.count,nX w1.vs nme w1.code⟩ _ (by simp[okO,below])) (by simp[below])
     ·have eo:opW o nme b w1=w2:=by rw[opW,if_neg o2,←hw2]
      have en:opN o nme w1=nm2:=by rw[opN,if_neg o2,←hnm2]
      rw[eo,en]
      simp-implicitDefEqProofs[o2]
      refine ae (by simp) (okB nf2 w2 _ (by simp[okO,below])) (by simp[below])
    have eov:(opW o nme b w1).vs=w2.vs:=by
     rw[opW,←hw2];split
     ·rfl
     ·split<;>rfl
    have eoc:(opW o nme b w1).count=w2.count:=by rw[uO,h2c]
    have hwb:IntKind.i64.wrap ((b:Int)+1)=((b+1:Nat):Int):=by rw[ab (by omega) (by omega)];omega
    have hstw:stW fns k b (.mk o nme a bd el) wi=sE fns k (b+1) el (sE fns k (b+1) bd (opW o nme b w1)):=by
     rw[stW]
     simp only[hw1,sE,Nat.succ_pos,if_true]
     rfl
    have hrns:(rnS fns k b (.mk o nme a bd el) wi).cs=[.int .i64 o,.str (opN o nme w1),exL (kK w1.vs a),smL (iB fns k (b+1) bd (opW o nme b w1)),smL (iB fns k (b+1) el (sE fns k (b+1) bd (opW o nme b w1)))]:=by
     rw[rnS,Sm.cs_eq]
     simp only[hw1,sE,Nat.succ_pos,if_true,Sm.op,Sm.name,Sm.args,Sm.body,Sm.els,e1v]
     have:opN o nme wi=opN o nme w1:=by simp only[opN,e1v,e1c]
     rw[this]
    rw[hstw] at eW
    clear hstw
    generalize opW o nme b w1=w3 at eov eoc hrns eW⊢
    have hn3:nf2=true->w3.vs=[]:=λh=>by rw[eov];exact hn2 h
    have h3v:w3.vs.length<=w3.count:=by rw[eov,eoc];exact h2v
    simp-implicitDefEqProofs[hwb]
    refine(MM G (id:=3) (ih bd (by omega) (b+1) nf2 w3 hn3 h3v (by omega) (by omega)) (by simp) (by simp[below]) (by decide) rfl rfl).mono ?_
    rintro r h' ⟨nf4,w4,rfl,rfl,hn4,hw4⟩
    rw[←hw4] at hrns eW
    have h4c:w4.count=w3.count+rC bd:=by rw[hw4];exact Gn _ _ _ _ _
    have h4v:w4.vs.length<=w4.count:=by
     have:w4.vs=w3.vs:=by rw[hw4];simp[sE,WS.back]
     rw[this,h4c];omega
    simp-implicitDefEqProofs[aa,hwb]
    refine(MM G (id:=5) (ih el (by omega) (b+1) nf4 w4 hn4 h4v (by omega) (by omega)) (by simp) (by simp[below]) (by decide) rfl rfl).mono ?_
    rintro r h' ⟨nf5,w5,rfl,rfl,hn5,hw5⟩
    rw[←hw5] at eW
    have hsl2:(smR out).length=i:=by rw[fY];exact hol
    simp-implicitDefEqProofs[aa,hsl2]
    refine⟨⟨by omega,by omega⟩,⟨i+1,nf5⟩,⟨by simp only;omega,λh=>by simp only at h⊢;rw[eW];exact hn5 h⟩,by simp only;omega,?_⟩
    simp only
    rw[eW,eR,Db]
    have htk:List.take i (smR out)=smR out:=VE (by omega)
    rw[htk]
    have hsm1:smR [rnS fns k b (.mk o nme a bd el) wi]=[[.p (.int .i64 o),.p (.str (opN o nme w1)),.p (exL (kK w1.vs a)),.p (smL (iB fns k (b+1) bd w3)),.p (smL (iB fns k (b+1) el w4))]]:=by rw[smR,WE,hrns];rfl
    rw[hsm1]
    refine cZ [0,1,8,6] (by simp) (by decide) (by decide) (zC (by simp) rfl (fb (by simp) (bf rfl (λx hx=>?_) (bJ rfl (gv _ _ _) bL)))) (by simp[below,ren,hsl,show IntKind.i64.wrap ((i:Int)+1)=((i:Int)+1) from ab (by omega) (by omega)])
    rcases VJ.1 hx with h|h
    ·exact dX out x h
    ·rw[VK.1 h];simp
   ·simp at h
    have hie:i=l.length:=by omega
    subst hie
    rw[List.take_length] at hn⊢
    obtain⟨ext,hext⟩:=Fj fns k l b w
    have hlen:=AY fns k b l w
    refine lI (ah 96 [(7,.p (smL (iB fns k b l w)))]) [wO 2 nf fns k (sE fns k b l w),.dead,roC nf (sE fns k b l w).vs] ?_ ?_
    ·have fin:∀(r1:List (Nat × AV)) (w':WS),w'.vs=w.vs\/w'.vs=(bv fns k b l w).vs->(Aw.look r1 7= .sl 2 5 0 l.length)->
      Wk 2 (ah 96 r1) [wO 3 nf fns k w',.dead,.row 5 (smR (iB fns k b l w)),roC nf (bv fns k b l w).vs] (ah 96 [(7,.p (smL (iB fns k b l w)))]) [wO 2 nf fns k w',.dead,roC nf w'.vs]:=by
      intro r1 w' hv' hr
      refine Wk.trans (Hx (h1:=[wO 3 nf fns k w',.dead,.row 5 (smR (iB fns k b l w)),roC nf w'.vs]) ?_) (Wk.trans (cZ (l1:=[(7,.sl 3 5 0 l.length)]) (h1:=[wO 2 nf fns k w',.dead,roC nf w'.vs,.row 5 (smR (iB fns k b l w))]) [0,1,3,2] (by simp) (by decide) (by decide) (zC (by simp) rfl (fb (by simp) (bJ rfl (gv _ _ _) (bf rfl (dX _) bL)))) (by simp[below,ren,hr]))
       (jj 3 (by omega) (by simp) rfl (.same (vZ (by omega)) (.dead (.same (gv _ _ _) (.nil _)))) ?_))
      ·refine⟨.inl rfl,.inl rfl,.inl rfl,?_,trivial⟩
       rcases hv' with e|e
       ·cases nf with
        |true=>exact .inl rfl
        |false=>
         refine .inr ⟨3,lvR (bv fns k b l w).vs,w.vs.length,rfl,?_⟩
         rw[hext,Ld,e];rfl
       ·rw[e];exact .inl rfl
      ·rw[←hlen]
       exact⟨.one (lb rfl) .nil,trivial⟩
     by_cases hb0:0<b
     ·have hwe:sE fns k b l w=(bv fns k b l w).back w.vs:=if_pos hb0
      rw[hwe]
      have hll2:(bv fns k b l w).vs.length=ext.length+w.vs.length:=by rw[hext,VO]
      cases nf with
      |true=>
       have h0:=hn rfl
       rw[h0] at hext
       have h00:w.vs=[]:=(List.append_eq_nil_iff.1 hext.symm).2
       simp-implicitDefEqProofs[hb0,wO,wC,vaC,h00]
       rw[h00] at fin
       exact fin _ ⟨[],(bv fns k b l w).count,(bv fns k b l w).code⟩ (.inl rfl) (by simp)
      |false=>
       have hle:w.vs.length<=(bv fns k b l w).vs.length:=by omega
       simp-implicitDefEqProofs[hb0,wO,wC,vaC,hle]
       exact fin _ ⟨w.vs,(bv fns k b l w).count,(bv fns k b l w).code⟩ (.inl rfl) (by simp)
     ·have hwe:sE fns k b l w=bv fns k b l w:=if_neg hb0
      have hb0':b=0:=by omega
      subst hb0'
      rw[hwe]
      simp-implicitDefEqProofs[]
      exact fin _ _ (.inr rfl) (by simp)
    ·simp-implicitDefEqProofs[]
     refine⟨nf,_,rfl,rfl,?_,rfl⟩
     intro hnf
     have h0:=hn hnf
     unfold sE
     split
     ·rw[h0] at hext;exact(List.append_eq_nil_iff.1 hext.symm).2
     ·exact h0
end
section
theorem ET:AK.whole oD=FK.ak oM:=rfl
theorem DW:∀(ps:List (List UInt8)) (w:WS),w.vs.length<=w.count->(bw ps w).vs.length<=(bw ps w).count
 |[],w,h=>h
 |s::r,w,h=>DW r (gt w s 0) (by simp[gt];omega)
theorem Js(a b:List (List UInt8))(w:WS):bw (a++b) w=bw b (bw a w):=by simp[bw]
theorem FH{l:List (List UInt8)}{w:WS}{i:Nat}(h:i<l.length):bw (l.take (i+1)) w=gt (bw (l.take i) w) l[i] 0:=by
 rw[an h,Js];rfl
theorem EZ:∀(a b:List (List UInt8)) (w:WS),nw (a++b) w=nw a w++nw b (bw a w)
 |[],b,w=>rfl
 |s::r,b,w=>by rw[Wn,nw,nw,EZ r];rfl
theorem JL{l:List (List UInt8)}{w:WS}{i:Nat}(h:i<l.length):nw (l.take (i+1)) w=nw (l.take i) w++[vnm (bw (l.take i) w).count]:=by
 rw[an h,EZ];rfl
theorem zn:∀(l:List (List UInt8)) (w:WS),(nw l w).length=l.length
 |[],w=>rfl
 |s::r,w=>by rw[nw,VV,zn r,VV]
def w0(fns:List Fd)(k:Nat)(f:Fd):WS:=⟨[],0,if be fns f.name=some k then 0 else 2⟩
theorem QW(fns:List Fd)(k:Nat)(f:Fd):fnW fns k f=bv fns k 0 f.body (bw f.params (w0 fns k f)):=rfl
theorem Mn(fns:List Fd)(k:Nat)(f:Fd):(rnF fns k f).cs=[.str f.name,am (nw f.params (w0 fns k f)),smL (iB fns k 0 f.body (bw f.params (w0 fns k f)))]:=rfl
variable (G:al)
theorem Qx{fns:List Fd}{k:Nat}{f:Fd}(hk:fns[k]?=some f)(hz:aH fns<=1073741824):VF Tryz.prog G lO [.agg [.p (fdL fns)],.p (.int .i64 k)] (.tup [.agg ((rnF fns k f).cs.map .p),.p (.int .i64 (fnW fns k f).code),.p (.int .i64 (fnW fns k f).count)]):=by
 have hfl:=fO fns
 have hfm:=cN (VD hk)
 have hfz:f.sz=1+f.name.length+(f.params.length+(f.params.map List.length).sum)+aC f.body:=rfl
 have hkl:=(Vx.1 hk).1
 have key:AC Tryz.prog G lO [.agg [.p (fdL fns)],.p (.int .i64 k)] [] λx h=>x= .ret (.tup [.agg [.p (.str f.name),.sl 5 1 0 f.params.length,.p (smL (iB fns k 0 f.body (bw f.params (w0 fns k f))))],.p (.int .i64 (fnW fns k f).code),.p (.int .i64 (fnW fns k f).count)])/\h[5]?=some (cJ (nw f.params (w0 fns k f))):=by
  refine AC.goK EA ET ?_
  have hfd:∀l,fdL l= .lst 3 (l.map Fd.cs):=λ_=>rfl
  have hcs:f.cs=[.str f.name,am f.params,smL f.body]:=rfl
  have hst:am f.params= .lst 1 (f.params.map λw=>[.str w]):=rfl
  simp-implicitDefEqProofs[oD,oM]
  refine lI (ah 62 [(1,.p (.int .i64 k)),(2,.ptr 0 1 0 0),(4,.ptr 1 3 0 0),(7,.ptr 2 5 0 0),(8,.ptr 3 3 0 0)])
   [.row 1 [[.p (fdL fns)]],.row 3 [[.p (.str []),.nils,.nils]],wO 4 true fns k ⟨[],0,0⟩,.row 3 [[.p (.str f.name),.p (am f.params),.p (smL f.body)]],.dead] ?_ ?_
  ·simp-implicitDefEqProofs[hfd,hk,hcs]
   refine oo (h:=[.row 1 [[.p (fdL fns)]],.row 3 [[.p (.str []),.nils,.nils]],wO 4 true fns k ⟨[],0,0⟩,.row 3 [[.p (.str f.name),.p (am f.params),.p (smL f.body)]]]) (by simp) (by simp) ?_ (by simp[below])
   refine aj (by simp[okO,below]) (aj (by simp[okO,below]) (aj ?_ (aj (by simp[okO,below]) gf)))
   intro x hx
   rw[VK.1 hx];simp[wC,vaC,below]
  refine lI (ah 62 [(1,.p (.int .i64 k)),(2,.ptr 0 1 0 0),(4,.ptr 1 3 0 0),(7,.ptr 2 5 0 0),(8,.ptr 3 3 0 0)])
   [.row 1 [[.p (fdL fns)]],.row 3 [[.p (.str []),.nils,.nils]],wO 4 true fns k (w0 fns k f),.row 3 [[.p (.str f.name),.p (am f.params),.p (smL f.body)]],.dead] ?_ ?_
  ·simp-implicitDefEqProofs[]
   refine(GU G fns f.name (by omega)).use ?_
   have hok:∀w:WS,∀o∈[AO.row 1 [[.p (fdL fns)]],.row 3 [[.p (.str []),.nils,.nils]],wO 4 true fns k w,.row 3 [[.p (.str f.name),.p (am f.params),.p (smL f.body)]],.dead],okO 5 o:=λw=>
    aj (by simp[okO,below]) (aj (by simp[okO,below]) (aj (vZ (by simp)) (aj (by simp[okO,below]) (aj trivial gf))))
   by_cases he:be fns f.name=some k
   ·have hw:w0 fns k f=⟨[],0,0⟩:=by rw[w0,if_pos he]
    rw[hw,he]
    simp-implicitDefEqProofs[ixI]
    exact ae (by simp) (hok _) (by simp[below])
   ·have hw:w0 fns k f=⟨[],0,2⟩:=by rw[w0,if_neg he]
    have hne:¬ixI (be fns f.name)=(k:Int):=by
     intro h
     apply he
     cases e:be fns f.name with
     |none=>rw[e] at h;simp only[ixI] at h;omega
     |some j=>rw[e] at h;simp only[ixI] at h;have:j=k:=by omega
              rw[this]
    rw[hw]
    simp-implicitDefEqProofs[hne]
    refine(Rc G (wid:=2) (id:=4) (pD G true fns k ⟨[],0,0⟩ 2) (by simp) (by simp[below]) (by decide) rfl rfl).mono ?_
    rintro r h' ⟨rfl,rfl⟩
    simp-implicitDefEqProofs[aa]
    exact ae (h:=[AO.row 1 [[.p (fdL fns)]],.row 3 [[.p (.str []),.nils,.nils]],wO 4 true fns k ⟨[],0,2⟩,.row 3 [[.p (.str f.name),.p (am f.params),.p (smL f.body)]],.dead]) (by simp) (hok _) (by simp[below])
  rw[QW]
  have hw0v:(w0 fns k f).vs=[]:=rfl
  have hw0c:(w0 fns k f).count=0:=rfl
  generalize w0 fns k f=w0 at hw0v hw0c⊢
  simp-implicitDefEqProofs[]
  have hcnt:∀j,j<=f.params.length->(bw (f.params.take j) w0).count=j:=λj hj=>by rw[vK,hw0c];simp;omega
  have hvl:∀j,(bw (f.params.take j) w0).vs.length<=(bw (f.params.take j) w0).count:=λj=>DW _ _ (by rw[hw0v];simp)
  refine aN (λj:Nat=>ah 62 [(1,.p (.int .i64 k)),(2,.ptr 0 1 0 0),(4,.ptr 1 3 0 0),(7,.ptr 2 5 0 0),(8,.ptr 3 3 0 0),(9,.sl 5 1 0 j),(10,.p (.int .i64 j))])
   (λj=>[.row 1 [[.p (fdL fns)]],.row 3 [[.p (.str []),.nils,.nils]],wO 6 (decide (j=0)) fns k (bw (f.params.take j) w0),.row 3 [[.p (.str f.name),.p (am f.params),.p (smL f.body)]],.dead,cJ (nw (f.params.take j) w0),roC (decide (j=0)) (bw (f.params.take j) w0).vs])
   (λj=>j<=f.params.length) (λj=>f.params.length-j) 0 (by simp) ?_ ?_
  ·refine oo (h:=[.row 1 [[.p (fdL fns)]],.row 3 [[.p (.str []),.nils,.nils]],wO 6 true fns k w0,.row 3 [[.p (.str f.name),.p (am f.params),.p (smL f.body)]],.dead,.row 1 []]) (by simp) (by simp) ?_ (by simp[below])
   refine aj (by simp[okO,below]) (aj (by simp[okO,below]) (aj ?_ (aj (by simp[okO,below]) (aj trivial (aj (by simp[okO]) gf)))))
   intro x hx
   rw[VK.1 hx];simp[wC,vaC,below]
  intro j hj
  have hjc:=hcnt j hj
  have hjv:=hvl j
  have hol:=zn (f.params.take j) w0
  rw[Wb,Nat.min_eq_left hj] at hol
  have hnf:decide (j=0)=true->(bw (f.params.take j) w0).vs=[]:=by
   intro h
   have h0:j=0:=by simpa using h
   rw[h0,List.take_zero]
   exact hw0v
  simp-implicitDefEqProofs[hst]
  refine bh (λh=>?_) (λh=>?_)
  ·simp at h
   have hg:=VA h
   have eP:=FH (w:=w0) h
   have eR:=JL (w:=w0) h
   simp-implicitDefEqProofs[hg]
   refine(MM G (wid:=2) (id:=6) (Q:=λnf' w'=>nf'=false/\w'=gt (bw (f.params.take j) w0) f.params[j] 0) ((My G (decide (j=0)) fns k _ hnf (by omega) (by omega) f.params[j] 0).mono (by rintro x h ⟨rfl,rfl⟩;exact⟨false,_,rfl,rfl,rfl,rfl⟩)) (by simp) (by simp[below]) (by decide) rfl rfl).mono ?_
   rintro r h' ⟨nf',w',rfl,rfl,rfl,rfl⟩
   have hso:∀l,cJ l= .row 1 (l.map λn=>[.p (.str n)]):=λ_=>rfl
   simp-implicitDefEqProofs[aa,hso,hol]
   refine⟨by omega,j+1,by omega,by omega,?_⟩
   have htk:List.take j ((nw (f.params.take j) w0).map λn=>[AV.p (.str n)])=(nw (f.params.take j) w0).map λn=>[AV.p (.str n)]:=VE (by rw[Wl];omega)
   have hd:decide (j+1=0)=false:=by simp
   rw[eP,eR,hd,List.map_append,←List.map_take,List.map_take,htk]
   refine th [0,1,2,3,4,9,7] rfl (by decide) (bf rfl (by simp) (bf rfl (by simp[below]) (zC (by simp) rfl (bf rfl (by simp) (fb (by simp) (bf rfl (λx hx=>?_) (bJ rfl (gv _ _ _) bL))))))) (by simp[below,ren,w1 (i:=j) (by omega)])
   rcases VJ.1 hx with h|h
   ·exact pY _ x h
   ·exact pY _ x h
  ·simp at h
   have hje:j=f.params.length:=by omega
   subst hje
   rw[List.take_length] at hol hjc hjv hnf⊢
   generalize decide (f.params.length=0)=nf at hnf⊢
   simp-implicitDefEqProofs[]
   refine(MM G (wid:=2) (id:=6) (Lo G (fns:=fns) (by omega) (aC f.body+1) f.body (by omega) 0 _ (bw f.params w0) hnf hjv (by omega) (by omega)) (by simp) (by simp[below]) (by decide) rfl rfl).mono ?_
   rintro r h' ⟨nf',w',rfl,rfl,hn',hw'⟩
   have hb:sE fns k 0 f.body (bw f.params w0)=bv fns k 0 f.body (bw f.params w0):=rfl
   rw[hb] at hw'
   rw[←hw']
   simp-implicitDefEqProofs[aa,wO,wC]
 refine key.freezeR (λt v h ⟨e,_⟩=>by cases e) λv h ⟨e1,e2⟩=>?_
 cases e1
 rw[Mn]
 have hol:=zn f.params (w0 fns k f)
 have hv:=gB e2
 rw[hol] at hv
 exact .tup (.agg (.keep (by simp) (.one hv (.keep (by simp) .nil))) (.keep (by simp) (.keep (by simp) .nil))) .nil
theorem DR{fns:List Fd}{i:Nat}(h:i<fns.length):iQ fns i (fns.drop i)=if(fnW fns i fns[i]).code=0 then iQ fns (i+1) (fns.drop (i+1)) else(fnW fns i fns[i]).code:=by
 rw[Wz h,iQ]
theorem Av(l:List Fd)(hz:aH l<=1073741824):VF Tryz.prog G fH [.agg [.p (fdL l)]] (.p (.int .i64 (aI l))):=by
 refine AC.go rh ?_
 have hll:=fO l
 have hfd:∀l,fdL l= .lst 3 (l.map Fd.cs):=λ_=>rfl
 simp-implicitDefEqProofs[kh]
 refine(kX G l (by omega)).use ?_
 by_cases hv:bl l=true
 case neg=>
  have:aI l=1:=if_neg hv
  have hv':bl l=false:=by simpa using hv
  simp-implicitDefEqProofs[hv',this]
 have hc:aI l=iQ l 0 (l.drop 0):=if_pos hv
 rw[hc]
 simp-implicitDefEqProofs[hv]
 refine aN (λi:Nat=>ah 27 [(1,.ptr 0 1 0 0),(3,.p (.int .i64 i))]) (λ_=>[.row 1 [[.p (fdL l)]]]) (λi=>i<=l.length/\iQ l 0 l=iQ l i (l.drop i)) (λi=>l.length-i) 0 (by simp) (ae (by simp) (by simp[okO]) (by simp[below])) ?_
 rintro i ⟨hi,he⟩
 simp-implicitDefEqProofs[hfd]
 refine bh (λh=>?_) (λh=>?_)
 ·simp at h
  have hg:=VA h
  have hd:=DR h
  simp-implicitDefEqProofs[]
  refine(Qx G hg hz).use ?_
  have hrc:=Mn l i l[i]
  by_cases h0:(fnW l i l[i]).code=0
  ·rw[if_pos h0] at hd
   simp-implicitDefEqProofs[h0,hrc]
   refine⟨i+1,⟨by omega,by rw[he,hd]⟩,by omega,?_⟩
   refine ij (m:=1) (by omega) (dE rfl rfl (by simp[okO,below])) (by simp[below,hfd,w1 (i:=i) (by omega)])
  ·rw[if_neg h0] at hd
   simp-implicitDefEqProofs[h0,hrc]
   rw[he,hd]
 ·simp at h
  have hie:i=l.length:=by omega
  subst hie
  rw[List.drop_length] at he
  simp-implicitDefEqProofs[]
  rw[he];rfl
end
section
variable (G:al)
theorem mY(n lo hi:Int):VF Tryz.prog G dk [.p (.int .i64 n),.p (.int .i64 lo),.p (.int .i64 hi)] (.p (.bool (inR n lo hi))):=by
 refine AC.go BE ?_
 by_cases h:lo<=n
 ·simp-implicitDefEqProofs[mE,h,inR]
 ·simp-implicitDefEqProofs[mE,h,inR]
theorem DV(n:Int):VF Tryz.prog G jf [.p (.int .i64 n)] (.p (.bool (inR n 0 255))):=by
 refine AC.go BD ?_
 simp-implicitDefEqProofs[rI]
 refine(mY G _ _ _).use ?_
 simp-implicitDefEqProofs[]
theorem FZ(n:Int):VF Tryz.prog G cY [.p (.int .i32 n)] (.p (.bool (decide (n<97)||decide (122<n)))):=by
 refine AC.go yG ?_
 simp-implicitDefEqProofs[nS]
 by_cases h:n<97
 ·simp-implicitDefEqProofs[h]
 ·simp-implicitDefEqProofs[h]
theorem Oa{s:List UInt8}{i:Nat}(h:i<s.length)(hl:dJ s[i]=true):Utf8.decode ⟨⟨s⟩⟩ i=(s[i].toNat,1):=by
 simp only[dJ,VS,decide_eq_true_eq] at hl
 exact decode_ascii ⟨⟨s⟩⟩ i h (by show(s[i]).toNat<128;omega)
theorem Iu{s:List UInt8}{i:Nat}(h:i<s.length)(hl:¬dJ s[i]=true):(((Utf8.decode ⟨⟨s⟩⟩ i).1:Int)<97\/122<((Utf8.decode ⟨⟨s⟩⟩ i).1:Int)):=by
 rcases Wo s[i].toNat 128 with h1|h1
 ·rw[show Utf8.decode ⟨⟨s⟩⟩ i=(s[i].toNat,1) from decode_ascii ⟨⟨s⟩⟩ i h h1]
  simp[dJ] at hl
  simp only
  omega
 ·have:=(decode_high ⟨⟨s⟩⟩ i h h1).1
  omega
theorem Fw(s:List UInt8)(hb:s.length<=140737488355328):VF Tryz.prog G fy [.p (.str s),.fn (.func cY) [],.p (.bool true)] (.p (.int .i64 (CY s))):=by
 refine AC.go ra ?_
 simp-implicitDefEqProofs[ka]
 refine aN (λi:Nat=>ah 21 [(0,.p (.str s)),(1,.fn (.func cY) []),(2,.p (.bool true)),(10,.it 0)]) (λi=>[.sit s i]) (λi=>i<=s.length/\∀x∈s.take i,dJ x=true) (λi=>s.length-i) 0 (by simp) ?_ ?_
 ·exact ae (by simp) (by simp[okO]) (by simp[below,af])
 ·intro i ⟨hi,hn⟩
  simp-implicitDefEqProofs[]
  by_cases h1:i<s.length
  ·have hg:=VA h1
   simp-implicitDefEqProofs[h1]
   refine(FZ G _).use ?_
   by_cases hl:dJ s[i]=true
   ·have hd:=Oa h1 hl
    have hl':=hl
    simp only[dJ,VS,decide_eq_true_eq] at hl'
    have e1:¬((s[i].toNat:Int)<97):=by omega
    have e2:¬(122<(s[i].toNat:Int)):=by omega
    rw[hd]
    simp-implicitDefEqProofs[e1,e2]
    refine⟨i+1,⟨h1,λp hp=>?_⟩,by omega,ae (by simp) (by simp[okO]) (by simp[below,af])⟩
    rw[an h1] at hp
    rcases VJ.1 hp with hp|hp
    ·exact hn p hp
    ·rw[VK.1 hp];exact hl
   ·have hd:=Iu h1 hl
    have hf:CY s=i:=by
     have:s.findIdx? (λx=> !dJ x)=some i:=by
      rw[VU]
      exact⟨h1,by simpa using hl,λj hj=>by have:=hn s[j] (WH.2 ⟨j,by omega,rfl⟩);simpa using this⟩
     rw[CY,this]
    have hdb:(decide (((Utf8.decode ⟨⟨s⟩⟩ i).1:Int)<97)||decide (122<((Utf8.decode ⟨⟨s⟩⟩ i).1:Int)))=true:=by
     rcases hd with h|h<;>simp[h]
    rw[hdb]
    simp-implicitDefEqProofs[hf]
  ·have hn':=hn
   rw[VE (by omega)] at hn'
   have hf:CY s= -1:=by
    have:s.findIdx? (λx=> !dJ x)=none:=by
     rw[Wh];intro x hx;simpa using hn' x hx
    rw[CY,this]
   simp-implicitDefEqProofs[h1,hf]
theorem ER(s:List UInt8)(hb:s.length<=140737488355328):VF Tryz.prog G fJ [.p (.str s),.fn (.func cY) []] (.p (.int .i64 (CY s))):=by
 refine AC.go re ?_
 simp-implicitDefEqProofs[ke]
 refine(Fw G s hb).use ?_
 simp-implicitDefEqProofs[]
theorem Ox(L:List (List UInt8))(s:List UInt8)(hb:L.length<=1048576):VF Tryz.prog G eu [.p (am L),.p (.str s)] (.p (.int .i64 (idxS L s))):=by
 refine AC.go nW ?_
 have hsl:am L= .lst 1 (L.map λw=>[.str w]):=rfl
 simp-implicitDefEqProofs[iH,hsl]
 refine aN (λi:Nat=>ah 19 [(0,.p (am L)),(1,.p (.str s)),(6,.p (am L)),(7,.p (.int .i64 L.length)),(8,.p (.int .i64 i))]) (λ_=>[]) (λi=>i<=L.length/\∀w∈L.take i,w≠s) (λi=>L.length-i) 0 (by simp) ?_ ?_
 ·exact bX rfl (by simp[below,am])
 ·intro i ⟨hi,hn⟩
  simp-implicitDefEqProofs[hsl]
  refine bh (λh1=>?_) (λh1=>?_)
  ·simp at h1
   have hg:=VA h1
   by_cases he:L[i]=s
   ·have hf:idxS L s=i:=by
     have:L.findIdx? (λw=>w==s)=some i:=by
      rw[VU]
      exact⟨h1,by simpa using he,λj hj=>by have:=hn L[j] (WH.2 ⟨j,by omega,rfl⟩);simpa using this⟩
     rw[idxS,this]
    have he':s=L[i]:=he.symm
    simp-implicitDefEqProofs[hg,hf,←he']
   ·have he':¬s=L[i]:=λe=>he e.symm
    simp-implicitDefEqProofs[hg,he']
    refine⟨i+1,⟨h1,λp hp=>?_⟩,by omega,bX rfl ?_⟩
    ·rw[an h1] at hp
     rcases VJ.1 hp with hp|hp
     ·exact hn p hp
     ·rw[VK.1 hp];exact he
    ·simp[below,am,w1 (i:=i) (by omega)]
  ·simp at h1
   rw[VE h1] at hn
   have hf:idxS L s= -1:=by
    have:L.findIdx? (λw=>w==s)=none:=by
     rw[Wh];intro x hx;simpa using hn x hx
    rw[idxS,this]
   simp-implicitDefEqProofs[hf]
theorem GB(L:List (List UInt8))(s:List UInt8)(hb:L.length<=1048576):VF Tryz.prog G dj [.p (am L),.p (.str s)] (.p (.bool (L.contains s))):=by
 rw[←JW]
 refine AC.go mG ?_
 simp-implicitDefEqProofs[fL]
 refine(Ox G L s hb).use ?_
 simp-implicitDefEqProofs[]
abbrev eS:Nat:=1
def ep:List PV:=keyW.map .str
variable (hK:G eS=some ep)
include hK
theorem pj(s:List UInt8)(hb:s.length<=140737488355328):VF Tryz.prog G cA [.p (.str s)] (.p (.bool (aG s))):=by
 refine AC.go BG ?_
 unfold eS at hK
 simp-implicitDefEqProofs[rG]
 refine(mY G _ _ _).use ?_
 have hr:inR (s.length:Int) 1 4=(decide (0<s.length)&&decide (s.length<=4)):=by
  unfold inR
  by_cases h1:0<s.length<;>by_cases h2:s.length<=4<;>simp[h1,h2]<;>omega
 rw[hr]
 have hi:aG s=((decide (0<s.length)&&decide (s.length<=4))&&(s.all dJ&& !keyW.contains s)):=by
  rw[aG];cases s.all dJ<;>cases decide (0<s.length)<;>cases decide (s.length<=4)<;>rfl
 cases h1:(decide (0<s.length)&&decide (s.length<=4)) with
 |false=>
  rw[hi,h1]
  simp-implicitDefEqProofs[]
 |true=>
  rw[hi,h1]
  simp-implicitDefEqProofs[]
  refine(ER G s hb).use ?_
  rw[←JV]
  by_cases hn:CY s<0
  ·simp-implicitDefEqProofs[hn,hK,ep,keyW]
   refine(GB G keyW s (by decide)).use ?_
   simp-implicitDefEqProofs[keyW]
  ·simp-implicitDefEqProofs[hn]
end
section
theorem yH:AK.whole jP=FK.ak jT:=rfl
abbrev cu:Nat:=2
def opK:List PV:=[.int .i64 3,.int .i64 4,.int .i64 5,.int .i64 6,.int .i64 7,.int .i64 8,.int .i64 9,.int .i64 10]
def opV:List (List PV):=[[.str [43],.int .i64 3],[.str [45],.int .i64 3],[.str [42],.int .i64 4],[.str [47],.int .i64 4],[.str [37],.int .i64 4],[.str [60],.int .i64 2],[.str [61],.int .i64 2],[.str [38],.int .i64 1]]
def lvl(op:Int):Int:=if op=10 then 1 else if op=8 then 2 else if op=9 then 2 else if op=3 then 3 else if op=4 then 3 else 4
def sgB(op:Int):UInt8:=if op=3 then 43 else if op=4 then 45 else if op=5 then 42 else if op=6 then 47 else if op=7 then 37 else if op=8 then 60 else if op=9 then 61 else 38
def sgn(op:Int):Option AV:=if 3<=op/\op<=10 then some (.agg [.p (.str [sgB op]),.p (.int .i64 (lvl op))]) else none
theorem Hj(op:Int):(opK.all λk'=>(keq (.int .i64 op) k').isSome)=true:=by simp[opK,keq]
theorem HP(op:Int):fe (.int .i64 op) (Jr opK opV)=some (sgn op):=by
 by_cases h:3<=op/\op<=10
 ·have h8:op=3\/op=4\/op=5\/op=6\/op=7\/op=8\/op=9\/op=10:=by omega
  rcases h8 with rfl|rfl|rfl|rfl|rfl|rfl|rfl|rfl<;>rfl
 ·have e:sgn op=none:=if_neg h
  have h3:¬op=3:=by omega
  have h4:¬op=4:=by omega
  have h5:¬op=5:=by omega
  have h6:¬op=6:=by omega
  have h7:¬op=7:=by omega
  have h8:¬op=8:=by omega
  have h9:¬op=9:=by omega
  have h10:¬op=10:=by omega
  rw[e]
  simp[opK,opV,Jr,fe,keq,h3,h4,h5,h6,h7,h8,h9,h10]
theorem Hp(op:Int):0<lvl op:=by
 unfold lvl
 repeat' split
 all_goals omega
theorem QY(op:Int):lvl op<6:=by
 unfold lvl
 repeat' split
 all_goals omega
def lvI(op:Int):Int:=if 3<=op/\op<=10 then lvl op else if op=11\/op=12 then 5 else 6
mutual
def Ex.deep:Ex->Nat
 | .mk _ _ _ k=>1+mP k
def mP:List Ex->Nat
 |[]=>0
 |e::r=>max e.deep (mP r)
end
theorem Ex.deep_eq(e:Ex):e.deep=1+mP e.kids:=by cases e;rfl
theorem Fe:∀a b:List Ex,mP (a++b)=max (mP a) (mP b)
 |[],b=>by simp[mP]
 |e::r,b=>by rw[Wn,mP,mP,Fe r b];omega
mutual
theorem Ex.deep_le:∀e:Ex,e.deep<=e.sz
 | .mk _ _ s k=>by have:=Do k;simp only[Ex.deep,Ex.sz];omega
theorem Do:∀l:List Ex,mP l<=aX l
 |[]=>VM _
 |e::r=>by have:=e.deep_le;have:=Do r;simp only[mP,aX];omega
end
theorem oF{α:Type}{p:α->Bool}{xs:List α}{i:Nat}{c:α}(h:xs[i]?=some c):(xs.take (i+1)).all p=((xs.take i).all p&&p c):=by
 rw[List.take_add_one,h,List.all_append];simp
def okE(m:Nat)(e:Ex):Bool:=bU m e&&decide (e.parts<=30)
def yK:Nat->Ex->Bool
 |0,_=>false
 |m+1,e=>lA e&&e.kids.all (okE m)
theorem DX:∀{l:List Ex} {e:Ex},e∈l->e.parts<=fz l
 |x::r,e,h=>by
  simp only[fz]
  rcases VL.1 h with rfl|h
  ·omega
  ·have:=DX h;omega
theorem Hb(m:Nat)(e:Ex):(yK m e&&decide (e.parts<=30))=okE m e:=by
 cases m with
 |zero=>simp[yK,okE,bU]
 |succ m=>
  by_cases hp:e.parts<=30
  ·have h2:e.kids.all (okE m)=e.kids.all (bU m):=by
    rw[Bool.eq_iff_iff,VH,VH]
    refine⟨λh x hx=>?_,λh x hx=>?_⟩
    ·have:=h x hx;simp only[okE,VS] at this;exact this.1
    ·have h1:=h x hx
     have:=DX hx
     have:=e.parts_eq
     simp only[okE,h1,Bool.true_and]
     simp;omega
   simp[yK,okE,bU,h2]
  ·simp[okE,hp]
theorem Ou(e:Ex):okE 6 e=kw e:=rfl
def szA(m:Nat)(e:Ex):AV:=if yK m e then .tup [.p (.int .i64 e.parts),.p (.int .i64 e.deep),.p (.bool (decide (e.parts<=30)))] else .tup [.p (.int .i64 0),.p (.int .i64 0),.p (.bool false)]
def cy(e:Ex):Bool:=inR e.op 1 13&&(if e.op=1 then inR e.n 0 255&&decide (e.name=[]) else if e.op=2\/e.op=13 then aG e.name&&decide (e.n=0) else true)
def iE(e:Ex):Bool:=(decide (e.op=1\/e.op=2\/e.op=13)||(decide (e.n=0)&&decide (e.name=[])))&&inR e.kids.length (loK e.op) (hiK e.op)
theorem sN:aG []=false:=rfl
theorem Ee(e:Ex):lA e=(cy e&&iE e):=by
 unfold lA cy iE Gh
 by_cases h1:e.op=1
 ·simp only[h1]
  cases inR (e.kids.length:Int) (loK 1:Nat) (hiK 1:Nat)<;>by_cases hn:e.name=[]<;>cases h2:inR e.n 0 255<;>simp[hn,sN,inR]
 by_cases h2:e.op=2
 ·simp only[h2]
  cases inR (e.kids.length:Int) (loK 2:Nat) (hiK 2:Nat)<;>cases hi:aG e.name<;>by_cases hn:e.n=0<;>simp[hn,inR]
 by_cases h3:e.op=13
 ·simp only[h3]
  cases inR (e.kids.length:Int) (loK 13:Nat) (hiK 13:Nat)<;>cases hi:aG e.name<;>by_cases hn:e.n=0<;>simp[hn,inR]
 ·cases inR e.op 1 13<;>cases inR (e.kids.length:Int) (loK e.op:Nat) (hiK e.op:Nat)<;>by_cases hn:e.n=0<;>by_cases hm:e.name=[]<;>simp[h1,h2,h3,hn,hm,sN,inR]
variable (G:al) (hK:G eS=some ep) (hS:G cu=some [.tbl opK opV])
include hS
theorem Iq(op:Int):VF Tryz.prog G kP [.p (.int .i64 op)] (.p (.int .i64 (lvI op))):=by
 refine AC.go zj ?_
 have hall:=Hj op
 have hget:=HP op
 have hS':=hS
 unfold cu at hS'
 have hlp:=Hp op
 by_cases h:3<=op/\op<=10
 ·have e:sgn op=some (.agg [.p (.str [sgB op]),.p (.int .i64 (lvl op))]):=if_pos h
  have e2:lvI op=lvl op:=if_pos h
  rw[e2]
  generalize lvl op=L at*
  simp-implicitDefEqProofs[eN,hS',hall,hget,e,hlp]
 ·have e:sgn op=none:=if_neg h
  by_cases h11:op=11
  ·subst h11;simp-implicitDefEqProofs[eN,hS',hall,hget,e,lvI]
  by_cases h12:op=12
  ·subst h12;simp-implicitDefEqProofs[eN,hS',hall,hget,e,lvI]
  have e2:lvI op=6:=by rw[lvI,if_neg h,if_neg (by simp[h11,h12])]
  simp-implicitDefEqProofs[eN,hS',hall,hget,e,e2,h11,h12]
include hK
theorem GP:∀(m:Nat) (e:Ex),e.sz<=1073741824->m<=100->VF Tryz.prog G gg [.agg (e.cs.map .p),.p (.int .i64 m)] (szA m e):=by
 intro m
 induction m using Nat.strongRecOn with
 |_ m ih=>
 intro e he hm
 have hec:=e.cs_eq
 have hsz:=e.sz_eq
 have hkl:=bG e.kids
 have hS':=hS
 unfold cu at hS'
 have hall:=Hj e.op
 have hget:=HP e.op
 have hxl:exL e.kids= .lst 4 (e.kids.map Ex.cs):=rfl
 have hbad:(cy e&&iE e&&decide (1<=m))=false->szA m e= .tup [.p (.int .i64 0),.p (.int .i64 0),.p (.bool false)]:=by
  intro h
  have:yK m e=false:=by
   cases m with
   |zero=>rfl
   |succ m=>rw[yK,Ee];simp at h;cases h1:cy e<;>cases h2:iE e<;>simp[h1,h2] at h⊢
  rw[szA,this];rfl
 have hb1:cy e=false->szA m e= .tup [.p (.int .i64 0),.p (.int .i64 0),.p (.bool false)]:=λh=>hbad (by rw[h];rfl)
 refine AC.goK yN yH ?_
 simp-implicitDefEqProofs[jP,jT,hec]
 refine vp (λ_:Unit=>ah 127 [(1,.p (.int .i64 m)),(2,.ptr 0 4 0 0),(7,.p (.int .i64 (loK e.op))),(8,.p (.int .i64 (hiK e.op)))]) (λ_=>[.row 4 [[.p (.int .i64 e.op),.p (.int .i64 e.n),.p (.str e.name),.p (exL e.kids)]]]) (λ_=>cy e=true) ?_ ?_
 ·have fin:∀(r1:List (Nat × AV)),Aw.look r1 1= .p (.int .i64 m)->Aw.look r1 2= .ptr 0 4 0 0->Aw.look r1 7= .p (.int .i64 (loK e.op))->Aw.look r1 8= .p (.int .i64 (hiK e.op))->
   Wk 0 (ah 127 r1) [.row 4 [[.p (.int .i64 e.op),.p (.int .i64 e.n),.p (.str e.name),.p (exL e.kids)]]] (ah 127 [(1,.p (.int .i64 m)),(2,.ptr 0 4 0 0),(7,.p (.int .i64 (loK e.op))),(8,.p (.int .i64 (hiK e.op)))]) [.row 4 [[.p (.int .i64 e.op),.p (.int .i64 e.n),.p (.str e.name),.p (exL e.kids)]]]:=λr1 a b c d=>
   ae (by simp) (by simp[okO,below]) (by simp[below,a,b,c,d])
  have hop1:inR (1:Int) 1 13=true:=rfl
  have hop2:inR (2:Int) 1 13=true:=rfl
  have hop13:inR (13:Int) 1 13=true:=rfl
  by_cases o1:e.op=1
  ·rw[o1] at fin⊢
   simp-implicitDefEqProofs[o1]
   refine(DV G _).use ?_
   by_cases h1:inR e.n 0 255=true
   ·by_cases h2:e.name=[]
    ·have hp:cy e=true:=by simp[cy,o1,h1,h2,hop1]
     rw[h2] at fin
     simp-implicitDefEqProofs[h1,h2,hp]
     exact fin _ (by simp) (by simp) (by simp[loK]) (by simp[hiK])
    ·have hp:cy e=false:=by simp[cy,o1,h1,h2,hop1]
     rw[hb1 hp]
     simp-implicitDefEqProofs[h1,h2]
   ·have hp:cy e=false:=by simp[cy,o1,h1,hop1]
    rw[hb1 hp]
    simp-implicitDefEqProofs[h1]
  by_cases o2:e.op=2
  ·rw[o2] at fin⊢
   simp-implicitDefEqProofs[o2]
   refine(pj G hK _ (by omega)).use ?_
   by_cases h1:aG e.name=true
   ·by_cases h2:e.n=0
    ·have hp:cy e=true:=by simp[cy,o2,h1,h2,hop2]
     rw[h2] at fin
     simp-implicitDefEqProofs[h1,h2,hp]
     exact fin _ (by simp) (by simp) (by simp[loK]) (by simp[hiK])
    ·have hp:cy e=false:=by simp[cy,o2,h1,h2,hop2]
     rw[hb1 hp]
     simp-implicitDefEqProofs[h1,h2]
   ·have hp:cy e=false:=by simp[cy,o2,h1,hop2]
    rw[hb1 hp]
    simp-implicitDefEqProofs[h1]
  by_cases o13:e.op=13
  ·rw[o13] at fin⊢
   simp-implicitDefEqProofs[o13]
   refine(pj G hK _ (by omega)).use ?_
   by_cases h1:aG e.name=true
   ·by_cases h2:e.n=0
    ·have hp:cy e=true:=by simp[cy,o13,h1,h2,hop13]
     rw[h2] at fin
     simp-implicitDefEqProofs[h1,h2,hp]
     exact fin _ (by simp) (by simp) (by simp[loK]) (by simp[hiK])
    ·have hp:cy e=false:=by simp[cy,o13,h1,h2,hop13]
     rw[hb1 hp]
     simp-implicitDefEqProofs[h1,h2]
   ·have hp:cy e=false:=by simp[cy,o13,h1,hop13]
    rw[hb1 hp]
    simp-implicitDefEqProofs[h1]
  have hlp:=Hp e.op
  by_cases h:3<=e.op/\e.op<=10
  ·have es:sgn e.op=some (.agg [.p (.str [sgB e.op]),.p (.int .i64 (lvl e.op))]):=if_pos h
   have hp:cy e=true:=by simp[cy,o1,o2,o13,inR];omega
   have o11:¬e.op=11:=by omega
   have o12:¬e.op=12:=by omega
   have elo:loK e.op=2:=by simp[loK,o1,o2,o11,o12,o13]
   have ehi:hiK e.op=2:=by simp[hiK,o1,o2,o11,o12,o13]
   generalize lvl e.op=L at*
   simp-implicitDefEqProofs[o1,o2,o13,hS',hall,hget,es,hlp,hp]
   exact fin _ (by simp) (by simp) (by simp[elo]) (by simp[ehi])
  have es:sgn e.op=none:=if_neg h
  by_cases o11:e.op=11
  ·have hp:cy e=true:=by simp[cy,o11,inR]
   have elo:loK e.op=1:=by simp[loK,o11]
   have ehi:hiK e.op=1:=by simp[hiK,o11]
   rw[o11] at hall hget es fin
   simp-implicitDefEqProofs[o11,hS',hall,hget,es,hp]
   exact fin _ (by simp) (by simp) (by simp[loK]) (by simp[hiK])
  by_cases o12:e.op=12
  ·have hp:cy e=true:=by simp[cy,o12,inR]
   rw[o12] at hall hget es fin
   simp-implicitDefEqProofs[o12,hS',hall,hget,es,hp]
   exact fin _ (by simp) (by simp) (by simp[loK]) (by simp[hiK])
  ·have hp:cy e=false:=by simp[cy,o1,o2,o13,inR];omega
   rw[hb1 hp]
   simp-implicitDefEqProofs[o1,o2,o13,hS',hall,hget,es,o11,o12]
 intro _ hp
 have hop:1<=e.op/\e.op<=13:=by
  simp only[cy,VS,inR,decide_eq_true_eq] at hp
  exact hp.1
 have hb2:iE e=false->szA m e= .tup [.p (.int .i64 0),.p (.int .i64 0),.p (.bool false)]:=λh=>hbad (by rw[h];simp)
 have hb3:m<1->szA m e= .tup [.p (.int .i64 0),.p (.int .i64 0),.p (.bool false)]:=by
  intro h
  have hd:decide (1<=m)=false:=by simp;omega
  exact hbad (by rw[hd];simp)
 refine vp (λ_:Unit=>ah 127 [(1,.p (.int .i64 m)),(2,.ptr 0 4 0 0)]) (λ_=>[.row 4 [[.p (.int .i64 e.op),.p (.int .i64 e.n),.p (.str e.name),.p (exL e.kids)]]]) (λ_=>iE e=true/\1<=m) ?_ ?_
 ·have fin:∀(r1:List (Nat × AV)),Aw.look r1 1= .p (.int .i64 m)->Aw.look r1 2= .ptr 0 4 0 0->
   Wk 0 (ah 127 r1) [.row 4 [[.p (.int .i64 e.op),.p (.int .i64 e.n),.p (.str e.name),.p (exL e.kids)]]] (ah 127 [(1,.p (.int .i64 m)),(2,.ptr 0 4 0 0)]) [.row 4 [[.p (.int .i64 e.op),.p (.int .i64 e.n),.p (.str e.name),.p (exL e.kids)]]]:=λr1 a b=>
   ae (by simp) (by simp[okO,below]) (by simp[below,a,b])
  simp-implicitDefEqProofs[]
  refine(Iq G hS e.op).use ?_
  by_cases ho:e.op=1\/e.op=2\/e.op=13
  ·have hlv:lvI e.op=6:=by
    rw[lvI,if_neg (by omega),if_neg (by omega)]
   have hd:decide (e.op=1\/e.op=2\/e.op=13)=true:=by simpa using ho
   simp-implicitDefEqProofs[hlv,hxl]
   refine(mY G _ _ _).use ?_
   by_cases hk:inR e.kids.length (loK e.op) (hiK e.op)=true
   ·have hr:iE e=true:=by rw[iE,hd,hk];rfl
    by_cases hm1:m<1
    ·have hm1':(m:Int)<1:=by omega
     rw[hb3 hm1]
     simp-implicitDefEqProofs[hk,hm1']
    ·have hm1':¬(m:Int)<1:=by omega
     have hm2:1<=m:=by omega
     simp-implicitDefEqProofs[hk,hm1',hr,hm2]
     exact fin _ (by simp) (by simp)
   ·have hk':inR e.kids.length (loK e.op) (hiK e.op)=false:=by simpa using hk
    have hr:iE e=false:=by rw[iE,hk',Bool.and_false]
    rw[hb2 hr]
    simp-implicitDefEqProofs[hk']
  ·have hlv:lvI e.op<6:=by
    have:=QY e.op
    unfold lvI
    split
    ·exact this
    ·rw[if_pos (by omega)];omega
   have hd:decide (e.op=1\/e.op=2\/e.op=13)=false:=by simpa using ho
   generalize lvI e.op=L at hlv⊢
   by_cases h1:e.n=0
   ·by_cases h2:e.name=[]
    ·have hz:decide (e.n=0)=true/\decide (e.name=[])=true:=by simp[h1,h2]
     simp-implicitDefEqProofs[hlv,h1,h2,hxl]
     refine(mY G _ _ _).use ?_
     rw[h1,h2] at fin
     by_cases hk:inR e.kids.length (loK e.op) (hiK e.op)=true
     ·have hr:iE e=true:=by rw[iE,hd,hk,hz.1,hz.2];rfl
      by_cases hm1:m<1
      ·have hm1':(m:Int)<1:=by omega
       rw[hb3 hm1]
       simp-implicitDefEqProofs[hk,hm1']
      ·have hm1':¬(m:Int)<1:=by omega
       have hm2:1<=m:=by omega
       simp-implicitDefEqProofs[hk,hm1',hr,hm2]
       exact fin _ (by simp) (by simp)
     ·have hk':inR e.kids.length (loK e.op) (hiK e.op)=false:=by simpa using hk
      have hr:iE e=false:=by rw[iE,hk',Bool.and_false]
      rw[hb2 hr]
      simp-implicitDefEqProofs[hk']
    ·have hr:iE e=false:=by rw[iE,hd];simp[h2]
     rw[hb2 hr]
     simp-implicitDefEqProofs[hlv,h1,h2]
   ·have hr:iE e=false:=by rw[iE,hd];simp[h1]
    rw[hb2 hr]
    simp-implicitDefEqProofs[hlv,h1]
 rintro _ ⟨hr,hm1⟩
 have hhd:lA e=true:=by rw[Ee,hp,hr];rfl
 obtain⟨m',rfl⟩:∃m',m=m'+1:=⟨m-1,by omega⟩
 have hszO:yK (m'+1) e=e.kids.all (okE m'):=by rw[yK,hhd];rfl
 have hpe:=e.parts_eq
 have hde:=e.deep_eq
 have hpl:=e.parts_le
 have hwm:IntKind.i64.wrap (((m'+1:Nat):Int)-1)=(m':Int):=by rw[ab (by omega) (by omega)];omega
 simp-implicitDefEqProofs[hxl]
 refine aN (λi:Nat=>ah 127 [(1,.p (.int .i64 ((m':Int)+1))),(2,.ptr 0 4 0 0),(9,.p (.int .i64 ((1+fz (e.kids.take i):Nat):Int))),(10,.p (.int .i64 ((1+mP (e.kids.take i):Nat):Int))),(99,.p (exL e.kids)),(100,.p (.int .i64 e.kids.length)),(101,.p (.int .i64 i))])
  (λ_=>[.row 4 [[.p (.int .i64 e.op),.p (.int .i64 e.n),.p (.str e.name),.p (exL e.kids)]]]) (λi=>i<=e.kids.length/\(e.kids.take i).all (okE m')=true) (λi=>e.kids.length-i) 0 (by simp) ?_ ?_
 ·exact ae (by simp) (by simp[okO,below]) (by simp[below,hxl,fz,mP])
 rintro i ⟨hi,ha⟩
 have hwm':IntKind.i64.wrap (m':Int)=(m':Int):=ab (by omega) (by omega)
 simp-implicitDefEqProofs[hxl]
 refine bh (λh=>?_) (λh=>?_)
 ·simp at h
  have hg:=VA h
  have hks:=bQ (VT h)
  have hkc:=e.kids[i].cs_eq
  have hpt:fz (e.kids.take (i+1))=fz (e.kids.take i)+e.kids[i].parts:=by rw[an h,jz];simp[fz]
  have hdt:mP (e.kids.take (i+1))=max (mP (e.kids.take i)) e.kids[i].deep:=by rw[an h,Fe];simp[mP]
  have hpl1:fz (e.kids.take (i+1))<=e.parts:=by
   have:=jz (e.kids.take (i+1)) (e.kids.drop (i+1))
   rw[Wu] at this
   omega
  have hok:=Hb m' e.kids[i]
  have hdl:e.kids[i].deep<=e.kids[i].sz:=Ex.deep_le _
  have hdl2:mP (e.kids.take i)<=e.sz:=by
   have h1:=Do (e.kids.take i)
   have h2:=eM (e.kids.take i) (e.kids.drop i)
   rw[Wu] at h2
   omega
  generalize e.kids[i]=c at*
  simp-implicitDefEqProofs[hg,hkc,hwm']
  have hI:=ih m' (by omega) c (by omega) (by omega)
  rw[hkc] at hI
  by_cases ho:okE m' c=true
  ·have h1:yK m' c=true/\c.parts<=30:=by rw[ho] at hok;simpa using hok
   have hA:szA m' c= .tup [.p (.int .i64 c.parts),.p (.int .i64 c.deep),.p (.bool true)]:=by rw[szA,if_pos h1.1];simp[h1.2]
   rw[hA] at hI
   refine hI.use ?_
   have hw1:IntKind.i64.wrap (1+(fz (e.kids.take i):Int)+(c.parts:Int))=((1+fz (e.kids.take (i+1)):Nat):Int):=by rw[ab (by omega) (by omega)];omega
   have hw2:IntKind.i64.wrap ((c.deep:Int)+1)=(c.deep:Int)+1:=ab (by omega) (by omega)
   have hmx:(if 1+(mP (e.kids.take i):Int)<(c.deep:Int)+1 then(c.deep:Int)+1 else 1+(mP (e.kids.take i):Int))=1+(mP (e.kids.take (i+1)):Int):=by
    rw[hdt];split<;>omega
   simp-implicitDefEqProofs[hw1,hw2,hmx]
   refine⟨i+1,⟨h,by rw[←VH,oF hg,ha,ho];rfl⟩,by omega,?_⟩
   refine ij (m:=1) (by omega) (dE rfl rfl (by simp[okO,below])) (by simp[below,hxl,w1 (i:=i) (by omega)])
  ·have hf:e.kids.all (okE m')=false:=List.all_eq_false.2 ⟨c,VD hg,by simpa using ho⟩
   have hA2:szA (m'+1) e= .tup [.p (.int .i64 0),.p (.int .i64 0),.p (.bool false)]:=by rw[szA,hszO,hf];rfl
   rw[hA2]
   by_cases h1:yK m' c=true
   ·have h2:¬c.parts<=30:=λh2=>ho (by rw[←hok,h1];simpa using h2)
    have hA:szA m' c= .tup [.p (.int .i64 c.parts),.p (.int .i64 c.deep),.p (.bool false)]:=by rw[szA,if_pos h1];simp[h2]
    rw[hA] at hI
    refine hI.use ?_
    simp-implicitDefEqProofs[]
   ·have hA:szA m' c= .tup [.p (.int .i64 0),.p (.int .i64 0),.p (.bool false)]:=by rw[szA,if_neg h1]
    rw[hA] at hI
    refine hI.use ?_
    simp-implicitDefEqProofs[]
 ·simp at h
  rw[VE h] at ha⊢
  have hA:szA (m'+1) e= .tup [.p (.int .i64 e.parts),.p (.int .i64 e.deep),.p (.bool (decide (e.parts<=30)))]:=by rw[szA,hszO,ha];rfl
  rw[hA,hpe,hde]
  simp-implicitDefEqProofs[]
  omega
theorem Ed(e:Ex)(he:e.sz<=1073741824):VF Tryz.prog G eZ [.agg (e.cs.map .p)] (.p (.bool (kw e))):=by
 refine AC.go ve ?_
 have hec:=e.cs_eq
 have hx:=GP G hK hS 6 e he (by omega)
 rw[hec] at hx
 simp-implicitDefEqProofs[mU,hec]
 rw[←Ou,←Hb]
 unfold szA at hx
 by_cases h:yK 6 e=true
 ·rw[if_pos h] at hx
  rw[h]
  refine hx.use ?_
  simp-implicitDefEqProofs[]
 ·have h':yK 6 e=false:=by simpa using h
  rw[if_neg h] at hx
  rw[h']
  refine hx.use ?_
  simp-implicitDefEqProofs[]
end
section
def rL:AK:=xD [wG 2 5 0,xo] [wQ 12 2,qv 13 12,xr 14 gd 13,qg 11 14,wN 15 0 11,wN 16 1 11,wN 17 2 11,wN 18 3 11,qg 5 15,x7 16,qg 7 17,qg 8 18] (.cut (.blk 0 (wM [xj 20,qy 21 .gtr 20 4,qg 19 21] 19 (wL [xv 22 2,qv 23 22,wt 24 23,xu 25,ws 26 .neq 24 25,qg 19 26] 19 (ym [yx 27,qg 28 27,wY 29 28 1 2,wU 30 28 29,qK 31 28 (.call cA (xq 30)),qK 32 28 (wq 31),xT 33 28 32,qg 19 33] (xL 19 (ym [yx 34,xn 35 34,qg 36 35,wY 37 36 1 2,wU 38 36 37,qK 39 36 (yp .neq 38 (.c qF)),xT 40 36 39,qg 19 40] (xL 19 (ym [yl 41,xn 42 41,qg 43 42,wY 44 43 3 2,wU 45 43 44,qK 46 43 (wd 45),xM 47 43 .gtr 46 0,xT 48 43 47,qg 19 48] (xL 19 (ym [ye 49,xn 50 49,qg 51 50,wY 52 51 4 2,wU 53 51 52,qK 54 51 (wd 53),xM 55 51 .gtr 54 0,xT 56 51 55,qg 19 56] (xL 19 (.reg [wQ 57 2,qv 58 57,wb 59 58 8,qg 60 59,wY 61 60 2 2,wU 62 60 61,qK 63 60 (qW 4 62 yi),wY 64 60 0 63,wU 65 60 64,xM 66 60 .neq 65 13,xT 67 60 66,qg 19 67])))))))))) (qo 19 (qA [xo]) .skip))) (xZ (wR [xv 68 2,qv 69 68,wt 70 69,wT 71] 1 (qN [xb 72 71 70] (xL 72 (.exit 1)) (wy 2 (qe [wB 73 4 69 71,yf 74 73,qY 10 [qB,qB,qF,.nils],qT 4 10 74] (wh [yf 75 10,xr 76 eZ 75,xn 77 76] 77 [xo])) (wV (x8 78 71) 71 78)))) [xV 79 2,qv 80 79,xj 81,x8 82 81,wJ 83 cK 80 82,qg 84 83,wY 85 84 4 2,wU 86 84 85,xC 87 84 1,xM 88 84 .add 87 1,qK 89 84 (xR cK 86 (.t 88)),xT 90 84 89,qg 4 90]))
theorem Bn:AK.whole rL=FK.ak jg:=rfl
variable (G:al)
def ro(op:Int):Int:=if op=4 then 2 else if inR op 1 8 then 1 else-1
def jU(op:Int):Bool:=decide (op=5)||decide (op=6)
theorem zA(op:Int):VF Tryz.prog G gd [.p (.int .i64 op)] (.tup [.p (.int .i64 (ro op)),.p (.bool (cQ op)),.p (.bool (jU op)),.p (.bool (decide (op=5)))]):=by
 refine AC.go yI ?_
 by_cases h1:op=1
 ·subst h1;simp-implicitDefEqProofs[br,ro,inR,cQ,jU]
 by_cases h2:op=2
 ·subst h2;simp-implicitDefEqProofs[br,ro,inR,cQ,jU]
 by_cases h3:op=3
 ·subst h3;simp-implicitDefEqProofs[br,ro,inR,cQ,jU]
 by_cases h4:op=4
 ·subst h4;simp-implicitDefEqProofs[br,ro,inR,cQ,jU]
 by_cases h5:op=5
 ·subst h5;simp-implicitDefEqProofs[br,ro,inR,cQ,jU]
 by_cases h6:op=6
 ·subst h6;simp-implicitDefEqProofs[br,ro,inR,cQ,jU]
 by_cases h7:op=7
 ·subst h7;simp-implicitDefEqProofs[br,ro,inR,cQ,jU]
 by_cases h8:op=8
 ·subst h8;simp-implicitDefEqProofs[br,ro,inR,cQ,jU]
 have ha:ro op= -1:=by
  have:inR op 1 8=false:=by simp[inR];omega
  rw[ro,if_neg h4,this];rfl
 have hn:cQ op=false:=by simp[cQ,h1,h2]
 have hb:jU op=false:=by simp[jU,h5,h6]
 rw[ha,hn,hb]
 simp-implicitDefEqProofs[br,h1,h2,h3,h4,h5,h6,h7,h8]
def FR:List Ex->Bool
 |a::_=>decide (a.op=13)
 |[]=>false
def jK(s:Sm):Bool:=decide ((s.args.length:Int)=ro s.op)&&(!cQ s.op||aG s.name)&&(cQ s.op||decide (s.name=[]))&&(jU s.op||decide (s.body=[]))&&(decide (s.op=5)||decide (s.els=[]))&&
 (!decide (s.op=8)||FR s.args)
theorem Iz(s:Sm):gP s=(inR s.op 1 8&&decide (s.args.length=gz s.op)&&(cQ s.op==aG s.name)&&(cQ s.op||decide (s.name=[]))&&s.args.all kw&&
 (!decide (s.op=8)||FR s.args)&&(s.els.isEmpty||decide (s.op=5))&&(s.body.isEmpty||decide (s.op=5)||decide (s.op=6))):=by
 unfold gP
 cases s.args<;>rfl
theorem Ea(s:Sm):gP s=(jK s&&s.args.all kw):=by
 have ha:decide ((s.args.length:Int)=ro s.op)=(inR s.op 1 8&&decide (s.args.length=gz s.op)):=by
  unfold ro gz
  by_cases h4:s.op=4
  ·have:inR s.op 1 8=true:=by simp[inR,h4]
   rw[this,if_pos h4,if_pos h4];simp;omega
  ·rw[if_neg h4,if_neg h4]
   cases h:inR s.op 1 8 with
   |true=>simp;omega
   |false=>simp
 have hn:(cQ s.op==aG s.name&&(cQ s.op||decide (s.name=[])))=((!cQ s.op||aG s.name)&&(cQ s.op||decide (s.name=[]))):=by
  cases cQ s.op with
  |true=>cases aG s.name<;>rfl
  |false=>
   by_cases h:s.name=[]
   ·rw[h,sN];rfl
   ·simp[h]
 have hb:(s.body.isEmpty||decide (s.op=5)||decide (s.op=6))=(jU s.op||decide (s.body=[])):=by
  rw[jU]
  cases s.body<;>cases decide (s.op=5)<;>cases decide (s.op=6)<;>simp
 have he:(s.els.isEmpty||decide (s.op=5))=(decide (s.op=5)||decide (s.els=[])):=by
  cases s.els<;>cases decide (s.op=5)<;>simp
 rw[Iz]
 unfold jK
 rw[ha,hb,he]
 generalize FR s.args=z
 generalize (cQ s.op==aG s.name)=c at hn⊢
 generalize (!cQ s.op||aG s.name)=c' at hn⊢
 generalize (cQ s.op||decide (s.name=[]))=d at hn⊢
 generalize s.args.all kw=x
 generalize (jU s.op||decide (s.body=[]))=y
 generalize (decide (s.op=5)||decide (s.els=[]))=y'
 generalize (!decide (s.op=8))=u
 cases inR s.op 1 8<;>cases decide (s.args.length=gz s.op)<;>cases c<;>cases c'<;>cases d<;>cases x<;>cases y<;>cases y'<;>cases u<;>cases z<;>simp_all
variable (hK:G eS=some ep) (hS:G cu=some [.tbl opK opV])
def GR(d:Nat)(L:List Sm):Int:=match L.findIdx? (λs=> !az d s) with|some i=>i|none=> -1
theorem Mu(d:Nat)(L:List Sm):decide (0<=GR d L)= !(L.all (az d)):=by
 unfold GR
 cases h:L.findIdx? (λx=> !az d x) with
 |none=>
  rw[Wh] at h
  have:L.all (az d)=true:=VH.2 λx hx=>by have:=h x hx;simpa using this
  simp[this]
 |some i=>
  rw[VU] at h
  obtain⟨h1,h2,_⟩:=h
  have:L.all (az d)=false:=List.all_eq_false.2 ⟨_,VT h1,by simpa using h2⟩
  rw[this];simp
theorem vX(d:Nat)(nest:Int)(hs:∀s:Sm,s.sz<=1073741824->VF Tryz.prog G ji [.agg (s.cs.map .p),.p (.int .i64 nest)] (.p (.bool (az d s))))(L:List Sm)(hL:aC L<=1073741824):
 VF Tryz.prog G cK [.p (smL L),.p (.int .i64 nest)] (.p (.bool (L.all (az d)))):=by
 have hsl:smL L= .lst 5 (L.map Sm.cs):=rfl
 have hll:=cr L
 have dL:∀s:Sm,s.sz<=1073741824->AC Tryz.prog G cF [.agg (s.cs.map .p),.ptr 0 1 0 0] [.row 1 [[.p (.int .i64 nest)]]] λx h=>x= .ret (.p (.bool (!az d s)))/\h=[.row 1 [[.p (.int .i64 nest)]]]:=by
  intro s hz
  refine AC.trim (AC.go vv ?_) (by simp[below])
  have hse:=s.cs_eq
  have h1:=hs s hz
  rw[hse] at h1
  simp-implicitDefEqProofs[nb,hse]
  refine h1.use ?_
  simp-implicitDefEqProofs[]
 have idx:AC Tryz.prog G ce [.p (smL L),.fn (.func cF) [.ptr 0 1 0 0]] [.row 1 [[.p (.int .i64 nest)]]] λx h=>x= .ret (.p (.int .i64 (GR d L)))/\h=[.row 1 [[.p (.int .i64 nest)]]]:=by
  refine AC.go jI ?_
  simp-implicitDefEqProofs[dV,hsl]
  refine aN (λi:Nat=>ah 19 [(0,.p (smL L)),(1,.fn (.func cF) [.ptr 0 1 0 0]),(7,.p (.int .i64 L.length)),(8,.p (.int .i64 i))]) (λ_=>[.row 1 [[.p (.int .i64 nest)]]]) (λi=>i<=L.length/\∀w∈L.take i,az d w=true) (λi=>L.length-i) 0 (by simp) ?_ ?_
  ·exact ae (by simp) (by simp[okO,below]) (by simp[below,af,hsl])
  ·intro i ⟨hi,hn⟩
   simp-implicitDefEqProofs[hsl]
   refine bh (λh1=>?_) (λh1=>?_)
   ·simp at h1
    have hg:=VA h1
    have hz:=dT (VT h1)
    simp-implicitDefEqProofs[hg]
    refine(dL L[i] (by omega)).mono ?_
    rintro r h ⟨rfl,rfl⟩
    by_cases he:az d L[i]=true
    ·simp-implicitDefEqProofs[aa,he]
     refine⟨i+1,⟨h1,λp hp=>?_⟩,by omega,ae (by simp) (by simp[okO,below]) (by simp[below,af,hsl,w1 (i:=i) (by omega)])⟩
     rw[an h1] at hp
     rcases VJ.1 hp with hp|hp
     ·exact hn p hp
     ·rw[VK.1 hp];exact he
    ·have hf:GR d L=i:=by
      have:L.findIdx? (λw=> !az d w)=some i:=by
       rw[VU]
       exact⟨h1,by simpa using he,λj hj=>by have:=hn L[j] (WH.2 ⟨j,by omega,rfl⟩);simpa using this⟩
      rw[GR,this]
     simp-implicitDefEqProofs[aa,he,hf]
   ·simp at h1
    rw[VE h1] at hn
    have hf:GR d L= -1:=by
     have:L.findIdx? (λw=> !az d w)=none:=by
      rw[Wh];intro x hx;simpa using hn x hx
     rw[GR,this]
    simp-implicitDefEqProofs[hf]
 have con:AC Tryz.prog G bP [.p (smL L),.fn (.func cF) [.ptr 0 1 0 0]] [.row 1 [[.p (.int .i64 nest)]]] λx h=>x= .ret (.p (.bool (!L.all (az d))))/\h=[.row 1 [[.p (.int .i64 nest)]]]:=by
  refine AC.go iA ?_
  simp-implicitDefEqProofs[dq]
  refine idx.mono ?_
  rintro r h ⟨rfl,rfl⟩
  have:=Mu d L
  simp-implicitDefEqProofs[aa]
  simpa using this
 refine AC.go Ad ?_
 simp-implicitDefEqProofs[oU]
 refine con.mono ?_
 rintro r h ⟨rfl,rfl⟩
 simp-implicitDefEqProofs[aa]
include hS hK
theorem Mp:∀d:Nat,d<=4->∀s:Sm,s.sz<=1073741824->VF Tryz.prog G ji [.agg (s.cs.map .p),.p (.int .i64 (5-d))] (.p (.bool (az d s))):=by
 intro d
 induction d with
 |zero=>
  intro _ s hz
  have hse:=s.cs_eq
  refine AC.go rZ ?_
  simp-implicitDefEqProofs[jg,hse]
  refine(zA G _).use ?_
  simp-implicitDefEqProofs[az]
 |succ d ih=>
  intro hd s hz
  have hse:=s.cs_eq
  have hsz:=s.sz_eq
  have hal:=bG s.args
  have hblk:=vX G d (5-d) (ih (by omega))
  have hnn:(5:Int)-((d+1:Nat):Int)=4-d:=by omega
  have hnw:IntKind.i64.wrap (4-(d:Int)+1)=5-d:=by rw[ab (by omega) (by omega)];omega
  have hn4:¬(4:Int)<4-d:=by omega
  have hxl:exL s.args= .lst 4 (s.args.map Ex.cs):=rfl
  have hsl:∀l,smL l= .lst 5 (l.map Sm.cs):=λ_=>rfl
  rw[hnn]
  have hbad:jK s=false->az (d+1) s=false:=λh=>by rw[az,Ea,h];rfl
  refine AC.goK rZ Bn ?_
  simp-implicitDefEqProofs[rL,jg,hse]
  refine(zA G _).use ?_
  simp-implicitDefEqProofs[]
  refine vp (λ_:Unit=>ah 91 [(1,.p (.int .i64 (4-d))),(2,.ptr 0 5 0 0)]) (λ_=>[.row 5 [[.p (.int .i64 s.op),.p (.str s.name),.p (exL s.args),.p (smL s.body),.p (smL s.els)]]]) (λ_=>jK s=true) ?_ ?_
  ·have fin:∀(r1:List (Nat × AV)),Aw.look r1 1= .p (.int .i64 (4-d))->Aw.look r1 2= .ptr 0 5 0 0->
    Wk 0 (ah 91 r1) [.row 5 [[.p (.int .i64 s.op),.p (.str s.name),.p (exL s.args),.p (smL s.body),.p (smL s.els)]]] (ah 91 [(1,.p (.int .i64 (4-d))),(2,.ptr 0 5 0 0)]) [.row 5 [[.p (.int .i64 s.op),.p (.str s.name),.p (exL s.args),.p (smL s.body),.p (smL s.els)]]]:=λr1 a b=>
    ae (by simp) (by simp[okO,below]) (by simp[below,a,b])
   have hb0:s.body=[]\/0<s.body.length:=by cases s.body<;>simp
   have he0:s.els=[]\/0<s.els.length:=by cases s.els<;>simp
   by_cases hl:(s.args.length:Int)=ro s.op
   case neg=>
    rw[hbad (by simp[jK,hl])]
    simp-implicitDefEqProofs[hn4,hxl,hl]
   have hel:(decide (s.els=[]))= !decide (0<s.els.length):=by cases s.els<;>simp
   have hbo:(decide (s.body=[]))= !decide (0<s.body.length):=by cases s.body<;>simp
   simp-implicitDefEqProofs[hn4,hxl,hl]
   refine lI (ah 91 [(1,.p (.int .i64 (4-d))),(2,.ptr 0 5 0 0),(6,.p (.bool (cQ s.op))),(7,.p (.bool (jU s.op))),(8,.p (.bool (decide (s.op=5)))),(19,.p (.bool (cQ s.op&& !aG s.name)))]) ([.row 5 [[.p (.int .i64 s.op),.p (.str s.name),.p (exL s.args),.p (smL s.body),.p (smL s.els)]]]) ?_ ?_
   ·cases hn:cQ s.op with
    |true=>
     simp-implicitDefEqProofs[]
     refine(pj G hK _ (by omega)).use ?_
     simp-implicitDefEqProofs[]
     exact ae (by simp) (by simp[okO,below]) (by simp[below])
    |false=>
     simp-implicitDefEqProofs[]
     exact ae (by simp) (by simp[okO,below]) (by simp[below])
   by_cases h2:(cQ s.op&& !aG s.name)=true
   ·rw[hbad (by simp only[jK];cases h:cQ s.op<;>cases h':aG s.name<;>simp[h,h'] at h2⊢)]
    simp-implicitDefEqProofs[h2]
   have h2':(cQ s.op&& !aG s.name)=false:=by simpa using h2
   rw[h2']
   simp-implicitDefEqProofs[]
   refine lI (ah 91 [(1,.p (.int .i64 (4-d))),(2,.ptr 0 5 0 0),(6,.p (.bool (cQ s.op))),(7,.p (.bool (jU s.op))),(8,.p (.bool (decide (s.op=5)))),(19,.p (.bool (!cQ s.op&& !decide (s.name=[]))))]) ([.row 5 [[.p (.int .i64 s.op),.p (.str s.name),.p (exL s.args),.p (smL s.body),.p (smL s.els)]]]) ?_ ?_
   ·cases hn:cQ s.op with
    |true=>
     simp-implicitDefEqProofs[]
     exact ae (by simp) (by simp[okO,below]) (by simp[below])
    |false=>
     simp-implicitDefEqProofs[]
     exact ae (by simp) (by simp[okO,below]) (by simp[below])
   by_cases h3:(!cQ s.op&& !decide (s.name=[]))=true
   ·rw[hbad (by simp only[jK];cases h:cQ s.op<;>cases h':decide (s.name=[])<;>simp[h,h'] at h3⊢)]
    simp-implicitDefEqProofs[h3]
   have h3':(!cQ s.op&& !decide (s.name=[]))=false:=by simpa using h3
   rw[h3']
   simp-implicitDefEqProofs[]
   refine lI (ah 91 [(1,.p (.int .i64 (4-d))),(2,.ptr 0 5 0 0),(6,.p (.bool (cQ s.op))),(7,.p (.bool (jU s.op))),(8,.p (.bool (decide (s.op=5)))),(19,.p (.bool (!jU s.op&&decide (0<s.body.length))))]) ([.row 5 [[.p (.int .i64 s.op),.p (.str s.name),.p (exL s.args),.p (smL s.body),.p (smL s.els)]]]) ?_ ?_
   ·cases hn:jU s.op with
    |true=>
     simp-implicitDefEqProofs[hsl]
     exact ae (by simp) (by simp[okO,below]) (by simp[below])
    |false=>
     simp-implicitDefEqProofs[hsl]
     exact ae (by simp) (by simp[okO,below]) (by simp[below])
   by_cases h4:(!jU s.op&&decide (0<s.body.length))=true
   ·rw[hbad (by simp only[jK,hbo];cases h:jU s.op<;>cases h':decide (0<s.body.length)<;>simp[h,h'] at h4⊢)]
    simp-implicitDefEqProofs[h4]
   have h4':(!jU s.op&&decide (0<s.body.length))=false:=by simpa using h4
   rw[h4']
   simp-implicitDefEqProofs[]
   refine lI (ah 91 [(1,.p (.int .i64 (4-d))),(2,.ptr 0 5 0 0),(6,.p (.bool (cQ s.op))),(7,.p (.bool (jU s.op))),(8,.p (.bool (decide (s.op=5)))),(19,.p (.bool (!decide (s.op=5)&&decide (0<s.els.length))))]) ([.row 5 [[.p (.int .i64 s.op),.p (.str s.name),.p (exL s.args),.p (smL s.body),.p (smL s.els)]]]) ?_ ?_
   ·cases hn:decide (s.op=5) with
    |true=>
     simp-implicitDefEqProofs[hsl]
     exact ae (by simp) (by simp[okO,below]) (by simp[below])
    |false=>
     simp-implicitDefEqProofs[hsl]
     exact ae (by simp) (by simp[okO,below]) (by simp[below])
   by_cases h5:(!decide (s.op=5)&&decide (0<s.els.length))=true
   ·rw[hbad (by simp only[jK,hel];cases h:decide (s.op=5)<;>cases h':decide (0<s.els.length)<;>simp[h,h'] at h5⊢)]
    simp-implicitDefEqProofs[h5]
   have h5':(!decide (s.op=5)&&decide (0<s.els.length))=false:=by simpa using h5
   rw[h5']
   have hh1:jK s=(!decide (s.op=8)||FR s.args):=by
    simp only[jK,hl,decide_true,Bool.true_and,hel,hbo]
    cases h:cQ s.op<;>cases hi:aG s.name<;>cases hm:decide (s.name=[])<;>cases hb:jU s.op<;>cases hc:decide (0<s.body.length)<;>cases ho:decide (s.op=5)<;>cases he:decide (0<s.els.length)<;>simp[h,hi,hm,hb,hc,ho,he] at h2' h3' h4' h5'⊢
   by_cases o8:s.op=8
   ·have ha1:s.args.length=1:=by
     have:ro s.op=1:=by rw[o8];rfl
     omega
    obtain⟨a0,ha0⟩:∃a0,s.args=[a0]:=by
     match hh:s.args,ha1 with
     |[x],_=>exact⟨x,rfl⟩
    have hae:=a0.cs_eq
    rw[hh1,o8,ha0]
    rw[o8,ha0] at fin
    have hxa:exL [a0]= .lst 4 [a0.cs]:=rfl
    by_cases hc:a0.op=13
    ·have h13:FR [a0]=true:=by simp[FR,hc]
     simp-implicitDefEqProofs[o8,hae,hc,h13,hxa]
     rw[hxa,hae,hc] at fin
     exact fin _ (by simp) (by simp)
    ·rw[hbad (by rw[hh1,o8,ha0];simp[FR,hc])]
     simp-implicitDefEqProofs[o8,hae,hc,hxa]
   ·have hh2:jK s=true:=by rw[hh1];simp[o8]
    simp-implicitDefEqProofs[o8,hh2]
    exact fin _ (by simp) (by simp)
  intro _ h1
  have hh:az (d+1) s=(s.args.all kw&&(s.body.all (az d)&&s.els.all (az d))):=by rw[az,Ea,h1,Bool.true_and,Bool.and_assoc]
  simp-implicitDefEqProofs[hxl]
  refine aN (λi:Nat=>ah 91 [(1,.p (.int .i64 (4-d))),(2,.ptr 0 5 0 0),(69,.p (exL s.args)),(70,.p (.int .i64 s.args.length)),(71,.p (.int .i64 i))]) (λ_=>[.row 5 [[.p (.int .i64 s.op),.p (.str s.name),.p (exL s.args),.p (smL s.body),.p (smL s.els)]]]) (λi=>i<=s.args.length/\(s.args.take i).all kw=true) (λi=>s.args.length-i) 0 (by simp) ?_ ?_
  ·exact ae (by simp) (by simp[okO,below]) (by simp[below,hxl])
  rintro i ⟨hi,ha⟩
  simp-implicitDefEqProofs[hxl]
  refine bh (λh=>?_) (λh=>?_)
  ·simp at h
   have hg:=VA h
   have hks:=bQ (VT h)
   have hkc:=s.args[i].cs_eq
   have hx:=Ed G hK hS s.args[i] (by omega)
   rw[hkc] at hx
   simp-implicitDefEqProofs[hg,hkc]
   refine hx.use ?_
   by_cases ho:kw s.args[i]=true
   ·simp-implicitDefEqProofs[ho]
    refine⟨i+1,⟨h,by rw[←VH,ec h,ha,ho];rfl⟩,by omega,?_⟩
    refine ij (m:=1) (by omega) (dE rfl rfl (by simp[okO,below])) (by simp[below,hxl,w1 (i:=i) (by omega)])
   ·have ho':kw s.args[i]=false:=by simpa using ho
    rw[hh,nF h ho']
    simp-implicitDefEqProofs[ho']
  ·simp at h
   have ha2:s.args.all kw=true:=gS h ha
   rw[hh,ha2,Bool.true_and]
   simp-implicitDefEqProofs[hnw]
   refine(hblk s.body (by omega)).use ?_
   cases hb:s.body.all (az d) with
   |true=>
    simp-implicitDefEqProofs[hnw]
    refine(hblk s.els (by omega)).use ?_
    simp-implicitDefEqProofs[]
   |false=>
    simp-implicitDefEqProofs[]
end
section
variable (G:al)
structure Vis (σ:Type) where
 I:σ->List AO
 n:Nat
 F:FuncId
 caps:List AV
 len:∀st,(I st).length=n
 ok:∀st,∀o∈I st,okO n o
 capsOk:af n caps
theorem Vis.pre{σ:Type}(V:Vis σ){f:FuncId}{args:List AV}{st st':σ}{v:AV}(H:AC Tryz.prog G f args (V.I st) λx h=>x= .ret v/\h=V.I st')(rest:List AO)(ha:af V.n args):
 AC Tryz.prog G f args (V.I st++rest) λx h=>x= .ret v/\h=V.I st'++rest:=by
 refine(AC.pre H rest (by rw[V.len];exact ha) (by rw[V.len];exact V.ok st) ?_).mono ?_
 ·rintro x h ⟨_,rfl⟩;rw[V.len,V.len]
 ·rintro x h ⟨h1,⟨rfl,rfl⟩,rfl⟩
  exact⟨rfl,rfl⟩
theorem Vis.trim{σ:Type}(V:Vis σ){f:FuncId}{args:List AV}{st st':σ}{v:AV}(H:AC Tryz.prog G f args (V.I st) λx h=>x= .ret v/\∃l,h=V.I st'++l)(hv:below V.n v):
 AC Tryz.prog G f args (V.I st) λx h=>x= .ret v/\h=V.I st':=by
 refine H.wk (λt v h ⟨e,_⟩=>by cases e) ?_
 rintro u h ⟨e,l,rfl⟩
 cases e
 refine⟨v,V.I st',zL (n:=V.n) (by rw[V.len];exact VM _) (dE (by rw[←V.len st',List.take_left'];rfl) (V.len _) (V.ok _)) ?_,rfl,rfl⟩
 simp[Fgt,hv]
theorem tP{n m:Nat}(h:n<=m){o:AO}(ho:okO n o):okO m o:=by
 cases o with
 |dead=>trivial
 |sit=>trivial
 |row sz es=>exact λe he=>bj h _ (ho e he)
 |mp es=>exact λe he=>(bj h [e.2] ⟨ho e he,trivial⟩).1
theorem Vis.oks{σ:Type}(V:Vis σ)(st:σ){m:Nat}(hm:V.n<=m){r:List AO}(hr:∀o∈r,okO m o):∀o∈V.I st++r,okO m o:=by
 intro o ho
 rcases VJ.1 ho with h|h
 ·exact tP hm (V.ok st o h)
 ·exact hr o h
theorem Vis.same{σ:Type}(V:Vis σ)(st:σ){k n:Nat}(hk:k<=V.n){r s:List AO}{l l1:List (Nat × AV)}(hr:∀o∈r,okO (V.n+r.length) o)(H:FgA (V.n+r.length) l l1):Wk k (ah n l) (V.I st++(r++s)) (ah n l1) (V.I st++r):=by
 have hl:(V.I st++r).length=V.n+r.length:=by rw[VO,V.len]
 refine ij (m:=V.n+r.length) (by omega) (dE ?_ hl (V.oks st (by omega) hr)) H
 rw[←Wg,←hl,List.take_left'];rfl
theorem Vis.same0{σ:Type}(V:Vis σ)(st:σ){k n:Nat}(hk:k<=V.n){s:List AO}{l l1:List (Nat × AV)}(H:FgA V.n l l1):Wk k (ah n l) (V.I st++s) (ah n l1) (V.I st):=by
 refine ij (m:=V.n) (by omega) (dE ?_ (V.len _) (V.ok st)) H
 rw[←V.len st,List.take_left'];rfl
theorem No{α:Type}{a b:List α}{n:Nat}(h:a.length=n)(i:Nat):(a++b)[n+i]?=b[i]?:=by
 rw[←h,VG (by omega)];congr 1;omega
theorem Ph{σ:Type}(V:Vis σ)(step:σ->Ex->σ)(inv:σ->Prop)(B:Nat)(hB:B<=1073741824)
 (hv:∀st e,inv st->e.sz<=B->inv (step st e)/\AC Tryz.prog G V.F (.agg (e.cs.map .p)::V.caps) (V.I st) λx h=>x= .ret (.tup [])/\h=V.I (step st e)):
 ∀(N:Nat) (e:Ex),e.sz<N->e.sz<=B->∀st,inv st->inv (e.pre.foldl step st)/\AC Tryz.prog G ku [.agg (e.cs.map .p),.fn (.func V.F) V.caps] (V.I st) λx h=>x= .ret (.tup [])/\h=V.I (e.pre.foldl step st):=by
 intro N
 induction N with
 |zero=>intro e h;omega
 |succ N ih=>
  intro e he hz st hi
  have hec:=e.cs_eq
  have hsz:=e.sz_eq
  have hkl:=bG e.kids
  have hxl:exL e.kids= .lst 4 (e.kids.map Ex.cs):=rfl
  have hlen:=V.len
  obtain⟨i1,h1⟩:=hv st e hi hz
  have hinv:∀i,i<=e.kids.length->inv ((dt (e.kids.take i)).foldl step (step st e)):=by
   intro i
   induction i with
   |zero=>intro _;exact i1
   |succ i ihi=>
    intro hl
    have hg:i<e.kids.length:=by omega
    have hks:=bQ (VT hg)
    rw[an hg,ta,List.foldl_append,dt,dt,Ws]
    exact(ih e.kids[i] (by omega) (by omega) _ (ihi (by omega))).1
  refine⟨?_,?_⟩
  ·rw[Ex.pre_eq,List.foldl_cons]
   have:=hinv e.kids.length (VM _)
   rwa[List.take_length] at this
  refine V.trim G (AC.go Dy ?_) (by simp[below])
  have hcb:=V.capsOk
  have hcb1:af (V.n+1) V.caps:=bj (by omega) _ hcb
  rw[hec] at h1
  simp-implicitDefEqProofs[te,hec,hlen]
  refine(V.pre G h1 _ ⟨by simp[below],hcb⟩).mono ?_
  rintro r h ⟨rfl,rfl⟩
  simp-implicitDefEqProofs[aa,hlen,hxl]
  refine aN (λi:Nat=>ah 20 [(1,.fn (.func V.F) V.caps),(2,.ptr V.n 4 0 0),(10,.p (exL e.kids)),(11,.p (.int .i64 e.kids.length)),(12,.p (.int .i64 i))])
   (λi=>V.I ((dt (e.kids.take i)).foldl step (step st e))++[.row 4 [[.p (.int .i64 e.op),.p (.int .i64 e.n),.p (.str e.name),.p (exL e.kids)]]]) (λi=>i<=e.kids.length) (λi=>e.kids.length-i) 0 (by simp) ?_ ?_
  ·refine V.same (r:=[_]) (s:=[]) _ (VM _) (by simp[okO,below]) ?_
   simp[below,hxl,hcb1]
  intro i hil
  simp-implicitDefEqProofs[hxl]
  refine bh (λhc=>?_) (λhc=>?_)
  ·simp at hc
   have hg:=VA hc
   have hks:=bQ (VT hc)
   have hkc:=e.kids[i].cs_eq
   have hI:=(ih e.kids[i] (by omega) (by omega) _ (hinv i hil)).2
   rw[hkc] at hI
   simp-implicitDefEqProofs[hg,hkc,hlen]
   refine(V.pre G hI _ ⟨by simp[below],by simp[below,hcb],trivial⟩).mono ?_
   rintro r h ⟨rfl,rfl⟩
   simp-implicitDefEqProofs[aa]
   refine⟨i+1,hc,by omega,?_⟩
   have hf:(dt (e.kids.take (i+1))).foldl step (step st e)=e.kids[i].pre.foldl step ((dt (e.kids.take i)).foldl step (step st e)):=by
    rw[an hc,ta,List.foldl_append,dt,dt,Ws]
   rw[hf]
   refine V.same (r:=[_]) (s:=[_]) _ (VM _) (by simp[okO,below]) ?_
   simp[below,hxl,hcb1,w1 (i:=i) (by omega)]
  ·simp at hc
   have hie:i=e.kids.length:=by omega
   subst hie
   rw[List.take_length,Ex.pre_eq,List.foldl_cons]
   simp-implicitDefEqProofs[]
theorem Ol{σ:Type}(V:Vis σ)(step:σ->Sm × Nat->σ)(inv:σ->Prop)(B:Nat)(hB:B<=1073741824)
 (hv:∀st s d,inv st->s.sz<=B->inv (step st (s,d))/\AC Tryz.prog G V.F (.agg (s.cs.map .p):: .p (.int .i64 (d:Nat))::V.caps) (V.I st) λx h=>x= .ret (.tup [])/\h=V.I (step st (s,d))):
 ∀(N:Nat) (l:List Sm),aC l<N->aC l<=B->∀(d:Nat),d+aC l<=1099511627776->∀st,inv st->inv ((bI d l).foldl step st)/\AC Tryz.prog G gJ [.p (smL l),.p (.int .i64 d),.fn (.func V.F) V.caps] (V.I st) λx h=>x= .ret (.tup [])/\h=V.I ((bI d l).foldl step st):=by
 intro N
 induction N with
 |zero=>intro l h;omega
 |succ N ih=>
  intro l hl hz d hd st hi
  have hll:=cr l
  have hlen:=V.len
  have hsl:∀l,smL l= .lst 5 (l.map Sm.cs):=λ_=>rfl
  have hone:∀s:Sm,s∈l->∀st,inv st->inv ((s.pre d).foldl step st):=by
   intro s hs st hi
   have hm:=dT hs
   have hsz:=s.sz_eq
   have i1:=(hv st s d hi (by omega)).1
   have i2:=(ih s.body (by omega) (by omega) (d+1) (by omega) _ i1).1
   have i3:=(ih s.els (by omega) (by omega) (d+1) (by omega) _ i2).1
   rw[Sm.pre_eq,List.foldl_cons,List.foldl_append]
   exact i3
  have hinv:∀i,i<=l.length->inv ((bI d (l.take i)).foldl step st):=by
   intro i
   induction i with
   |zero=>intro _;exact hi
   |succ i ihi=>
    intro hl
    have hg:i<l.length:=by omega
    rw[an hg,sF,List.foldl_append,bI,bI,Ws]
    exact hone _ (VT hg) _ (ihi (by omega))
  refine⟨?_,?_⟩
  ·have:=hinv l.length (VM _)
   rwa[List.take_length] at this
  refine V.trim G (AC.go Cu ?_) (by simp[below])
  have hcb:=V.capsOk
  simp-implicitDefEqProofs[tK,hsl]
  refine aN (λi:Nat=>ah 31 [(1,.p (.int .i64 d)),(2,.fn (.func V.F) V.caps),(8,.p (smL l)),(9,.p (.int .i64 l.length)),(10,.p (.int .i64 i))])
   (λi=>V.I ((bI d (l.take i)).foldl step st)) (λi=>i<=l.length) (λi=>l.length-i) 0 (by simp) ?_ ?_
  ·rw[hlen]
   have:=V.same0 (s:=[]) st (k:=V.n) (n:=31) (VM _) (l:=[(10,.p (.int .i64 0)),(9,.p (.int .i64 l.length)),(8,.p (smL l)),(0,.p (smL l)),(1,.p (.int .i64 d)),(2,.fn (.func V.F) V.caps)]) (l1:=[(1,.p (.int .i64 d)),(2,.fn (.func V.F) V.caps),(8,.p (smL l)),(9,.p (.int .i64 l.length)),(10,.p (.int .i64 0))]) (by simp[below,hcb])
   rw[Ws] at this
   exact this
  intro i hil
  simp-implicitDefEqProofs[hsl]
  refine bh (λhc=>?_) (λhc=>?_)
  ·simp at hc
   have hg:=VA hc
   have hks:=dT (VT hc)
   have hkc:=l[i].cs_eq
   have hsz:=l[i].sz_eq
   have hf:(bI d (l.take (i+1))).foldl step st=(l[i].pre d).foldl step ((bI d (l.take i)).foldl step st):=by
    rw[an hc,sF,List.foldl_append,bI,bI,Ws]
   have ii:=hinv i hil
   obtain⟨i1,h1⟩:=hv _ l[i] d ii (by omega)
   obtain⟨i2,h2⟩:=ih l[i].body (by omega) (by omega) (d+1) (by omega) _ i1
   obtain⟨i3,h3⟩:=ih l[i].els (by omega) (by omega) (d+1) (by omega) _ i2
   rw[Sm.pre_eq,List.foldl_cons,List.foldl_append] at hf
   have hwd:IntKind.i64.wrap ((d:Int)+1)=((d+1:Nat):Int):=by rw[ab (by omega) (by omega)];omega
   rw[hkc] at h1
   simp-implicitDefEqProofs[hg,hkc,hlen]
   refine(V.pre G h1 _ ⟨by simp,by simp,hcb⟩).mono ?_
   rintro r h ⟨rfl,rfl⟩
   simp-implicitDefEqProofs[aa,hlen,hwd]
   refine(V.pre G h2 _ ⟨by simp,by simp,by simp[below,hcb],trivial⟩).mono ?_
   rintro r h ⟨rfl,rfl⟩
   simp-implicitDefEqProofs[aa,hlen,hwd]
   refine(V.pre G h3 _ ⟨by simp,by simp,by simp[below,hcb],trivial⟩).mono ?_
   rintro r h ⟨rfl,rfl⟩
   simp-implicitDefEqProofs[aa]
   refine⟨i+1,hc,by omega,?_⟩
   rw[hf]
   refine V.same0 (s:=[_]) _ (VM _) ?_
   simp[below,hsl,hcb,w1 (i:=i) (by omega)]
  ·simp at hc
   have hie:i=l.length:=by omega
   subst hie
   rw[List.take_length]
   simp-implicitDefEqProofs[]
end
section
variable (G:al)
abbrev MS:=Int × Int
def rQ(st:MS)(x:Sm × Nat):MS:=(IntKind.i64.wrap (st.1+1),if st.2<(x.2:Int) then(x.2:Int) else st.2)
def rN(l:List Fd)(st:MS):MS:=l.foldl (λst f=>(bI 1 f.body).foldl rQ st) st
theorem zS:∀(l:List (Sm × Nat)) (st:MS),0<=st.1->st.1+l.length<=1099511627776->(l.foldl rQ st).1=st.1+l.length
 |[],st,_,_=>by simp
 |x::r,st,h0,h=>by
  have hw:IntKind.i64.wrap (st.1+1)=st.1+1:=ab (by omega) (by simp at h;omega)
  rw[List.foldl_cons,zS r _ (by simp only[rQ,hw];omega) (by simp only[rQ,hw];simp at h;omega)]
  simp only[rQ,hw,VV]
  omega
theorem Aa:∀(l:List Fd) (st:MS),0<=st.1->st.1+kx l<=1099511627776->(rN l st).1=st.1+kx l
 |[],st,_,_=>by simp[rN,kx]
 |f::r,st,h0,h=>by
  have ha:kx (f::r)=dr f.body+kx r:=by simp[kx]
  have hs:=zS (bI 1 f.body) st h0 (by rw[lq];omega)
  rw[lq] at hs
  have:=Aa r ((bI 1 f.body).foldl rQ st) (by omega) (by omega)
  simp only[rN,List.foldl_cons] at this⊢
  omega
theorem FX{l:List Fd}{st:MS}{i:Nat}(h:i<l.length):rN (l.take (i+1)) st=(bI 1 l[i].body).foldl rQ (rN (l.take i) st):=by
 rw[rN,an h,List.foldl_append];rfl
def oa(p:PV):Vis MS where
 I:=λst=>[.row 1 [[.p p]],.row 1 [[.p (.int .i64 st.1)]],.row 1 [[.p (.int .i64 st.2)]]]
 n:=3
 F:=eV
 caps:=[.ptr 1 1 0 0,.ptr 2 1 0 0]
 len:=λ_=>rfl
 ok:=λst=>by simp[okO,below]
 capsOk:=by simp[below]
theorem EF(p:PV)(st:MS)(s:Sm)(d:Nat):AC Tryz.prog G eV [.agg (s.cs.map .p),.p (.int .i64 d),.ptr 1 1 0 0,.ptr 2 1 0 0] ((oa p).I st) λx h=>x= .ret (.tup [])/\h=(oa p).I (rQ st (s,d)):=by
 refine(oa p).trim G (AC.go uS ?_) (by simp[below])
 have hse:=s.cs_eq
 simp-implicitDefEqProofs[mS,hse,oa,rQ]
theorem JK(l:List Fd)(hl:aH l<=1073741824):VF Tryz.prog G lh [.agg [.p (fdL l)]] (.tup [.p (.int .i64 (kx l)),.p (.int .i64 (rN l (0,0)).2)]):=by
 refine AC.go zr ?_
 have hll:=fO l
 have hfl:∀l,fdL l= .lst 3 (l.map Fd.cs):=λ_=>rfl
 have hn:(rN l (0,0)).1=kx l:=by rw[Aa l (0,0) (by simp) (by simp only;have:=De l;omega)];simp
 simp-implicitDefEqProofs[oL,hfl]
 refine aN (λi:Nat=>ah 20 [(2,.ptr 1 1 0 0),(3,.ptr 2 1 0 0),(7,.p (fdL l)),(8,.p (.int .i64 l.length)),(9,.p (.int .i64 i))])
  (λi=>(oa (fdL l)).I (rN (l.take i) (0,0))) (λi=>i<=l.length) (λi=>l.length-i) 0 (by simp) ?_ ?_
 ·exact ae (h:=(oa (fdL l)).I (0,0)) (by simp) ((oa (fdL l)).ok _) (by simp[below,hfl,oa])
 intro i hil
 simp-implicitDefEqProofs[hfl]
 refine bh (λhc=>?_) (λhc=>?_)
 ·simp at hc
  have hg:=VA hc
  have hks:=cN (VT hc)
  have hcs:l[i].cs=[.str l[i].name,am l[i].params,smL l[i].body]:=rfl
  have hfz:l[i].sz=1+l[i].name.length+(l[i].params.length+(l[i].params.map List.length).sum)+aC l[i].body:=rfl
  have hI:=(Ol G (oa (fdL l)) rQ (λ_=>True) 1073741824 (by omega) (λst s d _ _=>⟨trivial,EF G _ st s d⟩) (aC l[i].body+1) l[i].body (by omega) (by omega) 1 (by omega) (rN (l.take i) (0,0)) trivial).2
  have hlen:=(oa (fdL l)).len
  have h3:(oa (.lst 3 (l.map Fd.cs))).n=3:=rfl
  have hlen':∀st,((oa (.lst 3 (l.map Fd.cs))).I st).length=3:=λ_=>rfl
  simp-implicitDefEqProofs[hg,hcs,hlen']
  refine((oa (fdL l)).pre G hI [_] ⟨by simp,by simp,by simp[below,oa],trivial⟩).mono ?_
  rintro r h ⟨rfl,rfl⟩
  simp-implicitDefEqProofs[aa]
  refine⟨i+1,hc,by omega,?_⟩
  rw[FX hc]
  refine(oa (fdL l)).same0 (s:=[_]) _ (by simp[oa]) ?_
  simp[below,hfl,oa,w1 (i:=i) (by omega)]
 ·simp at hc
  have hie:i=l.length:=by omega
  subst hie
  rw[List.take_length]
  simp-implicitDefEqProofs[oa,hn]
theorem uG(hK:G eS=some ep)(s:List UInt8)(hb:s.length<=140737488355328):VF Tryz.prog G bx [.p (.str s)] (.p (.bool (!aG s))):=by
 refine AC.go nV ?_
 simp-implicitDefEqProofs[iI]
 refine(pj G hK s hb).use ?_
 simp-implicitDefEqProofs[]
def GY(L:List (List UInt8)):Int:=match L.findIdx? (λw=> !aG w) with|some i=>i|none=> -1
theorem Mz(L:List (List UInt8)):decide (0<=GY L)= !(L.all aG):=by
 unfold GY
 cases h:L.findIdx? (λx=> !aG x) with
 |none=>
  rw[Wh] at h
  have:L.all aG=true:=VH.2 λx hx=>by have:=h x hx;simpa using this
  simp[this]
 |some i=>
  rw[VU] at h
  obtain⟨h1,h2,_⟩:=h
  have:L.all aG=false:=List.all_eq_false.2 ⟨_,VT h1,by simpa using h2⟩
  rw[this];simp
theorem Mb{L:List (List UInt8)}{n:Nat}(h:(L.map List.length).sum<=n):∀x∈L,x.length<=n:=by
 induction L with
 |nil=>intro x hx;cases hx
 |cons y r ih=>
  intro x hx
  simp only[VY,List.sum_cons] at h
  rcases VL.1 hx with rfl|hx
  ·omega
  ·exact ih (by omega) x hx
variable (hK:G eS=some ep)
include hK
theorem Gb(L:List (List UInt8))(hb:L.length<=1073741824)(hw:∀x∈L,x.length<=140737488355328):VF Tryz.prog G cW [.p (am L),.fn (.func bx) []] (.p (.int .i64 (GY L))):=by
 refine AC.go lK ?_
 have hsl:am L= .lst 1 (L.map λw=>[.str w]):=rfl
 simp-implicitDefEqProofs[ff,hsl]
 refine aN (λi:Nat=>ah 19 [(0,.p (am L)),(1,.fn (.func bx) []),(6,.p (am L)),(7,.p (.int .i64 L.length)),(8,.p (.int .i64 i))]) (λ_=>[]) (λi=>i<=L.length/\∀w∈L.take i,aG w=true) (λi=>L.length-i) 0 (by simp) ?_ ?_
 ·exact ae (by simp) (by simp[okO]) (by simp[below,af,am])
 ·intro i ⟨hi,hn⟩
  simp-implicitDefEqProofs[hsl]
  refine bh (λh1=>?_) (λh1=>?_)
  ·simp at h1
   have hg:=VA h1
   simp-implicitDefEqProofs[hg]
   refine(uG G hK _ (hw _ (VT h1))).use ?_
   by_cases he:aG L[i]=true
   ·simp-implicitDefEqProofs[he]
    refine⟨i+1,⟨h1,λp hp=>?_⟩,by omega,ae (by simp) (by simp[okO]) ?_⟩
    ·rw[an h1] at hp
     rcases VJ.1 hp with hp|hp
     ·exact hn p hp
     ·rw[VK.1 hp];exact he
    ·simp[below,af,am,w1 (i:=i) (by omega)]
   ·have hf:GY L=i:=by
     have:L.findIdx? (λw=> !aG w)=some i:=by
      rw[VU]
      exact⟨h1,by simpa using he,λj hj=>by have:=hn L[j] (WH.2 ⟨j,by omega,rfl⟩);simpa using this⟩
     rw[GY,this]
    simp-implicitDefEqProofs[he,hf]
  ·simp at h1
   rw[VE h1] at hn
   have hf:GY L= -1:=by
    have:L.findIdx? (λw=> !aG w)=none:=by
     rw[Wh];intro x hx;simpa using hn x hx
    rw[GY,this]
   simp-implicitDefEqProofs[hf]
theorem Bj(L:List (List UInt8))(hb:L.length<=1073741824)(hw:∀x∈L,x.length<=140737488355328):VF Tryz.prog G cm [.p (am L),.fn (.func bx) []] (.p (.bool (!L.all aG))):=by
 rw[←Mz]
 refine AC.go jJ ?_
 simp-implicitDefEqProofs[dS]
 refine(Gb G hK L hb hw).use ?_
 simp-implicitDefEqProofs[]
variable (hS:G cu=some [.tbl opK opV])
include hS
theorem ou(l:List Fd)(hl:aH l<=1073741824):VF Tryz.prog G dA [.agg [.p (fdL l)]] (.p (.bool (bl l))):=by
 refine AC.go rk ?_
 have hll:=fO l
 have hfl:∀l,fdL l= .lst 3 (l.map Fd.cs):=λ_=>rfl
 have hm:=JK G l hl
 rw[hfl] at hm
 simp-implicitDefEqProofs[kj,hfl]
 refine(mY G _ _ _).use ?_
 by_cases h1:inR l.length 1 4=true
 case neg=>simp-implicitDefEqProofs[h1,bl]
 simp-implicitDefEqProofs[h1]
 refine aN (λi:Nat=>ah 48 [(1,.ptr 0 1 0 0),(13,.p (fdL l)),(14,.p (.int .i64 l.length)),(15,.p (.int .i64 i))]) (λ_=>[.row 1 [[.p (.lst 3 (l.map Fd.cs))]]]) (λi=>i<=l.length/\(l.take i).all iL=true) (λi=>l.length-i) 0 (by simp) (ae (by simp) (by simp[okO]) (by simp[below,hfl])) ?_
 intro i ⟨hi,ha⟩
 simp-implicitDefEqProofs[hfl]
 refine bh (λh=>?_) (λh=>?_)
 ·simp at h
  have hg:=VA h
  have hks:=cN (VT h)
  have hbadF:iL l[i]=false->bl l=false:=λhk'=>by simp only[bl,nF h hk',Bool.and_false,Bool.false_and]
  have hcs:l[i].cs=[.str l[i].name,am l[i].params,smL l[i].body]:=rfl
  have hfz:l[i].sz=1+l[i].name.length+(l[i].params.length+(l[i].params.map List.length).sum)+aC l[i].body:=rfl
  have hokF:iL l[i]=(l[i].params.all aG&&aG l[i].name&&decide (l[i].params.length<=3)&&l[i].body.all (az 4)):=rfl
  have hblk:=vX G 4 1 (λs hs=>by simpa using Mp G hK hS 4 (by omega) s hs) l[i].body (by omega)
  have hcon:=Bj G hK l[i].params (by omega) (Mb (by omega))
  have hst:am l[i].params= .lst 1 (l[i].params.map λw=>[.str w]):=rfl
  generalize l[i]=f at*
  rw[hst] at hcon
  simp-implicitDefEqProofs[hg,hcs,hst]
  refine(pj G hK _ (by omega)).use ?_
  by_cases k1:aG f.name=true
  case neg=>
   rw[hbadF (by rw[hokF];simp[k1])]
   simp-implicitDefEqProofs[k1]
  by_cases k2:f.params.length<=3
  case neg=>
   have k2':(3:Int)<f.params.length:=by omega
   rw[hbadF (by rw[hokF];simp[k2])]
   simp-implicitDefEqProofs[k1,k2']
  have k2':¬(3:Int)<f.params.length:=by omega
  simp-implicitDefEqProofs[k1,k2']
  refine hcon.use ?_
  by_cases k3:f.params.all aG=true
  case neg=>
   have k3':f.params.all aG=false:=by simpa using k3
   rw[hbadF (by rw[hokF,k3'];simp)]
   simp-implicitDefEqProofs[k3']
  simp only[k3]
  simp-implicitDefEqProofs[]
  refine hblk.use ?_
  by_cases k4:f.body.all (az 4)=true
  case neg=>
   have k4':f.body.all (az 4)=false:=by simpa using k4
   rw[hbadF (by rw[hokF,k4'];simp)]
   simp only[k4']
   simp-implicitDefEqProofs[]
  simp only[k4]
  simp-implicitDefEqProofs[]
  have hk:iL f=true:=by rw[hokF,k1,k3,k4];simp[k2]
  refine⟨i+1,⟨h,by rw[←VH,oF hg,ha,hk];rfl⟩,by omega,ij (m:=1) (by omega) (dE rfl rfl (by simp[okO,below])) (by simp[below,hfl,w1 (i:=i) (by omega)])⟩
 ·simp at h
  have h2:l.all iL=true:=gS h ha
  simp-implicitDefEqProofs[]
  refine hm.use ?_
  have hff:bl l=decide (kx l<=40):=by simp only[bl,h1,h2,Bool.true_and]
  simp-implicitDefEqProofs[hff]
  omega
end
section
variable (G:al)
theorem DB(l:List Fd)(s:List UInt8)(hl:l.length<=1073741824):VF Tryz.prog G gA [.agg [.p (fdL l)],.p (.str s)] (.p (.int .i64 (ixI (be l s)))):=by
 have hfl:∀l,fdL l= .lst 3 (l.map Fd.cs):=λ_=>rfl
 have dL:∀f:Fd,AC Tryz.prog G fU [.agg (f.cs.map .p),.ptr 1 1 0 0] [.row 1 [[.p (fdL l)]],.row 1 [[.p (.str s)]]] λx h=>x= .ret (.p (.bool (decide (f.name=s))))/\h=[.row 1 [[.p (fdL l)]],.row 1 [[.p (.str s)]]]:=by
  intro f
  have hcs:f.cs=[.str f.name,am f.params,smL f.body]:=rfl
  refine AC.trim (AC.go BF ?_) (by simp[below])
  simp-implicitDefEqProofs[sa,hcs]
 have idx:AC Tryz.prog G cP [.p (fdL l),.fn (.func fU) [.ptr 1 1 0 0]] [.row 1 [[.p (fdL l)]],.row 1 [[.p (.str s)]]] λx h=>x= .ret (.p (.int .i64 (ixI (be l s))))/\h=[.row 1 [[.p (fdL l)]],.row 1 [[.p (.str s)]]]:=by
  refine AC.go kM ?_
  simp-implicitDefEqProofs[eU,hfl]
  refine aN (λi:Nat=>ah 19 [(0,.p (fdL l)),(1,.fn (.func fU) [.ptr 1 1 0 0]),(7,.p (.int .i64 l.length)),(8,.p (.int .i64 i))]) (λ_=>[.row 1 [[.p (fdL l)]],.row 1 [[.p (.str s)]]]) (λi=>i<=l.length/\∀f∈l.take i,f.name≠s) (λi=>l.length-i) 0 (by simp) ?_ ?_
  ·exact ae (by simp) (by simp[okO,below]) (by simp[below,af,hfl])
  ·intro i ⟨hi,hn⟩
   simp-implicitDefEqProofs[hfl]
   refine bh (λh1=>?_) (λh1=>?_)
   ·simp at h1
    have hg:=VA h1
    simp-implicitDefEqProofs[hg]
    refine(dL l[i]).mono ?_
    rintro r h ⟨rfl,rfl⟩
    by_cases he:l[i].name=s
    ·have hf:be l s=some i:=by
      rw[be,VU]
      exact⟨h1,by simpa using he,λj hj=>by have:=hn l[j] (WH.2 ⟨j,by omega,rfl⟩);simpa using this⟩
     simp-implicitDefEqProofs[aa,he,hf,ixI]
     exact hfl l
    ·simp-implicitDefEqProofs[aa,he]
     refine⟨i+1,⟨h1,λp hp=>?_⟩,by omega,ae (h:=[.row 1 [[.p (fdL l)]],.row 1 [[.p (.str s)]]]) (by simp) (by simp[okO,below]) (by simp[below,af,hfl,w1 (i:=i) (by omega)])⟩
     rw[an h1] at hp
     rcases VJ.1 hp with hp|hp
     ·exact hn p hp
     ·rw[VK.1 hp];exact he
   ·simp at h1
    rw[VE h1] at hn
    have hf:be l s=none:=by
     rw[be,Wh];intro x hx;simpa using hn x hx
    simp-implicitDefEqProofs[hf,ixI]
 refine AC.go Fm ?_
 simp-implicitDefEqProofs[vO]
 refine idx.mono ?_
 rintro r h ⟨rfl,rfl⟩
 simp-implicitDefEqProofs[aa]
structure GS where (gap:List AO) (m:Scp)
def mpE(m:Scp):List (PV × AV):=m.map λx=>(.str x.1,.p (.int .i64 x.2))
def scL:List GS->Nat
 |[]=>0
 |g::up=>scL up+g.gap.length+2
def upV:List GS->AV
 |[]=> .nilp
 |g::up=> .ptr (2+scL up+g.gap.length+1) 2 0 0
def scH:List GS->List AO
 |[]=>[]
 |g::up=>scH up++(g.gap++[.mp (mpE g.m),.row 2 [[.mp (2+scL up+g.gap.length),upV up]]])
theorem lZ:∀ch:List GS,(scH ch).length=scL ch
 |[]=>rfl
 |g::up=>by simp only[scH,scL,VO,lZ up,VV,List.length_nil];omega
def cO(fns:List Fd)(k:Nat)(c:Int):AO:= .row 3 [[.p (fdL fns),.p (.int .i64 k),.p (.int .i64 c)]]
def CH(b0:AO)(fns:List Fd)(k:Nat)(c:Int)(ch:List GS):List AO:=b0::cO fns k c::scH ch
theorem iM(b0:AO)(fns:List Fd)(k:Nat)(c:Int)(ch:List GS):(CH b0 fns k c ch).length=2+scL ch:=by
 simp only[CH,VV,lZ];omega
def zH:List GS->Prop
 |[]=>True
 |g::up=>(∀o∈g.gap,okO (2+scL up+g.gap.length) o)/\zH up
theorem kD:∀(ch:List GS) {n:Nat},2+scL ch<=n->below n (upV ch)
 |[],_,_=>by simp[upV,below]
 |g::up,n,h=>by simp only[scL] at h;simp only[upV,below];omega
theorem GO:∀(ch:List GS) {n:Nat},zH ch->2+scL ch<=n->∀o∈scH ch,okO n o
 |[],_,_,_,o,ho=>by cases ho
 |g::up,n,⟨h1,h2⟩,hn,o,ho=>by
  simp only[scL] at hn
  rw[scH] at ho
  rcases VJ.1 ho with h|h
  ·exact GO up h2 (by omega) o h
  ·rcases VJ.1 h with h|h
   ·exact tP (by omega) (h1 o h)
   ·simp only[VL,Wa,or_false] at h
    rcases h with rfl|rfl
    ·intro e he
     obtain⟨x,_,rfl⟩:=VW.1 he
     simp[below]
    ·intro e he
     rw[VK.1 he]
     exact⟨by simp only[below];omega,kD up (by omega),trivial⟩
theorem EP{b0:AO}{fns:List Fd}{k:Nat}{c:Int}{ch:List GS}(hb:okO 0 b0)(hs:zH ch){n:Nat}(hn:2+scL ch<=n):∀o∈CH b0 fns k c ch,okO n o:=
 aj (eq hb) (aj (by intro e he;rw[VK.1 he];simp[below]) (GO ch hs hn))
theorem tE(s:List UInt8):∀m:Scp,fe (.str s) (mpE m)=some ((dN m s).map λn=>AV.p (.int .i64 n))
 |[]=>rfl
 |x::r=>by
  have ih:=tE s r
  by_cases h:x.1=s
  ·simp[mpE,fe,keq,h,dN]
  ·have h':¬s=x.1:=λe=>h e.symm
   simp only[mpE,VY,fe,keq,h',decide_false]
   simp only[mpE] at ih
   rw[ih];simp[dN,h]
theorem AH(s:List UInt8)(n:Nat):∀m:Scp,gX (.str s) (.p (.int .i64 n)) (mpE m)=some (mpE (gx m s n))
 |[]=>rfl
 |x::r=>by
  have ih:=AH s n r
  by_cases h:x.1=s
  ·simp[mpE,gX,keq,h,gx]
  ·have h':¬s=x.1:=λe=>h e.symm
   simp only[mpE,VY,gX,keq,h',decide_false]
   simp only[mpE] at ih
   rw[ih];simp[gx,h]
abbrev sco(ch:List GS):List Scp:=ch.map GS.m
theorem La:∀(pre:List GS) (g:GS) (up:List GS),(scH (pre++g::up))[scL up+g.gap.length]?=some (.mp (mpE g.m))/\(scH (pre++g::up))[scL up+g.gap.length+1]?=some (.row 2 [[.mp (2+scL up+g.gap.length),upV up]])
 |[],g,up=>by
  have hl:(scH up++g.gap).length=scL up+g.gap.length:=by rw[VO,lZ]
  have e:scH (g::up)=(scH up++g.gap)++[.mp (mpE g.m),.row 2 [[.mp (2+scL up+g.gap.length),upV up]]]:=by rw[scH,Wg]
  rw[List.nil_append,e]
  exact⟨by rw[←hl,VG (VM _)];simp,by rw[←hl,VG (by omega)];simp⟩
 |p::pre,g,up=>by
  obtain⟨h1,h2⟩:=La pre g up
  have hm1:=(Vx.1 h1).1
  have hm2:=(Vx.1 h2).1
  rw[Wn,scH]
  exact⟨by rw[Vz hm1];exact h1,by rw[Vz hm2];exact h2⟩
theorem FT(ch:List GS):(upV ch).isCell=true:=by cases ch<;>rfl
theorem Jw(ch:List GS):(upV ch).cells=[upV ch]:=by cases ch<;>rfl
attribute [simp ↓] FT Jw
theorem CD(b0:AO)(fns:List Fd)(k:Nat)(c e:Int)(r:List AO):AC Tryz.prog G cn [.ptr 1 3 0 0,.p (.int .i64 e)] (b0::cO fns k c::r) λx h=>x= .ret (.tup [])/\h=b0::cO fns k (fl c e)::r:=by
 refine AC.go rm ?_
 by_cases h0:c=0
 ·simp-implicitDefEqProofs[fD,cO,h0,fl]
 ·simp-implicitDefEqProofs[fD,cO,h0,fl]
theorem zp(up:AV)(hu:up= .nilp\/∃i,up= .ptr i 2 0 0)(h:List AO):AC Tryz.prog G de [up] h λx h'=>x= .ret (.ptr (h.length+1) 2 0 0)/\h'=h++[.mp [],.row 2 [[.mp h.length,up]]]:=by
 refine AC.go tJ ?_
 rcases hu with rfl|⟨i,rfl⟩
 ·simp-implicitDefEqProofs[gZ]
 ·simp-implicitDefEqProofs[gZ]
theorem Kz(b0 c0:AO)(ch:List GS)(rest:List AO)(s:List UInt8):AC Tryz.prog G cd [upV ch,.p (.str s)] (b0::c0::(scH ch++rest)) λx h=>x= .ret (.tup [.p (.int .i64 (((fP (sco ch) s).getD 0:Nat):Int)),.p (.bool (fP (sco ch) s).isSome)])/\h=b0::c0::(scH ch++rest):=by
 refine AC.goB tx λhb=>?_
 simp-implicitDefEqProofs[mb]
 have hHl:(b0::c0::(scH ch++rest)).length=2+scL ch+rest.length:=by simp only[VV,VO,lZ];omega
 refine aN (λr:List GS=>ah 25 [(0,upV r),(1,.p (.str s))]) (λ_=>b0::c0::(scH ch++rest)) (λr=>∃pre,ch=pre++r/\fP (sco ch) s=fP (sco r) s) (λr=>r.length) ch ⟨[],rfl,rfl⟩ ?_ ?_
 ·refine Ay (by simp) hb ?_
  rw[hHl]
  exact⟨⟨kD ch (by omega),by simp⟩,⟨by simp,by simp⟩,trivial⟩
 rintro r ⟨pre,e1,e2⟩
 cases r with
 |nil=>
  rw[e2]
  simp-implicitDefEqProofs[upV,fP]
 |cons g up=>
  obtain⟨a1,a2⟩:=La pre g up
  rw[←e1] at a1 a2
  have b1:=(Vx.1 a1).1
  have b2:=(Vx.1 a2).1
  have l1:(b0::c0::(scH ch++rest))[2+scL up+g.gap.length]?=some (.mp (mpE g.m)):=by
   rw[show 2+scL up+g.gap.length=(scL up+g.gap.length)+1+1 by omega,VQ,VQ,Vz b1,a1]
  have l2:(b0::c0::(scH ch++rest))[2+scL up+g.gap.length+1]?=some (.row 2 [[.mp (2+scL up+g.gap.length),upV up]]):=by
   rw[show 2+scL up+g.gap.length+1=(scL up+g.gap.length+1)+1+1 by omega,VQ,VQ,Vz b2,a2]
  have hmg:=tE s g.m
  have hle:=lZ ch
  rw[e2]
  generalize hH:b0::c0::(scH ch++rest)=H at*
  have hup:upV (g::up)= .ptr (2+scL up+g.gap.length+1) 2 0 0:=rfl
  cases hh:dN g.m s with
  |some n=>
   rw[hh] at hmg
   simp-implicitDefEqProofs[hup,l1,l2,hmg,fP,hh]
  |none=>
   rw[hh] at hmg
   simp-implicitDefEqProofs[hup,l1,l2,hmg,fP,hh]
   refine⟨up,⟨⟨pre++[g],by rw[e1];simp⟩,rfl⟩,by simp,?_⟩
   refine Ay ?_ hb ?_
   ·rw[hHl,lZ];omega
   ·refine⟨⟨kD up ?_,?_⟩,⟨by simp,by simp⟩,trivial⟩
    ·rw[hHl]
     have:=congrArg List.length e1
     have h3:=(Vx.1 l2).1
     rw[hHl] at h3
     omega
    ·simp
end
section
variable (G:al)
theorem Pr{f:FuncId}{args:List AV}{h h1:List AO}{v:AV}(H:AC Tryz.prog G f args h λx h'=>x= .ret v/\∃l,h'=h1++l)(hl:h1.length=h.length)(ho:∀o∈h1,okO h.length o)(hv:below h.length v):
 AC Tryz.prog G f args h λx h'=>x= .ret v/\h'=h1:=by
 refine H.wk (λt v h ⟨e,_⟩=>by cases e) ?_
 rintro u h' ⟨e,l,rfl⟩
 cases e
 refine⟨v,h1,zL (n:=h.length) (VM _) (dE ?_ hl ho) ?_,rfl,rfl⟩
 ·rw[←hl,List.take_left'];rfl
 ·simp[Fgt,hv]
theorem QO{f:FuncId}{args:List AV}{b0:AO}{fns:List Fd}{k:Nat}{c c':Int}{ch ch':List GS}{v:AV}(H:AC Tryz.prog G f args (CH b0 fns k c ch) λx h=>x= .ret v/\h=CH b0 fns k c' ch')(hb:okO 0 b0)(hs:zH ch)(hl:scL ch'=scL ch)(rest:List AO)(ha:af (2+scL ch) args):
 AC Tryz.prog G f args (CH b0 fns k c ch++rest) λx h=>x= .ret v/\h=CH b0 fns k c' ch'++rest:=by
 refine(AC.pre H rest (by rw[iM];exact ha) (by rw[iM];exact EP hb hs (VM _)) ?_).mono ?_
 ·rintro x h ⟨_,rfl⟩;rw[iM,iM,hl]
 ·rintro x h ⟨h1,⟨rfl,rfl⟩,rfl⟩
  exact⟨rfl,rfl⟩
def bxs(ch:List GS)(q:List AV):List AO:=[.row 1 [[.ptr 1 3 0 0]],.row 4 [q],.row 1 [[upV ch]]]
def rx(b0:AO)(fns:List Fd)(k:Nat)(ch:List GS)(q:List PV)(hb:okO 0 b0)(hs:zH ch):Vis Int where
 I:=λc=>CH b0 fns k c ch++bxs ch (q.map .p)
 n:=2+scL ch+3
 F:=bS
 caps:=[.ptr (2+scL ch+2) 1 0 0,.ptr (2+scL ch) 1 0 0]
 len:=λc=>by rw[VO,iM];rfl
 ok:=λc o ho=>by
  rcases VJ.1 ho with h|h
  ·exact EP hb hs (by omega) o h
  ·simp only[bxs,VL,Wa,or_false] at h
   rcases h with rfl|rfl|rfl
   ·intro e he;rw[VK.1 he];exact⟨by simp only[below];omega,trivial⟩
   ·intro e he;rw[VK.1 he];exact bj (WA _) _ (by simp)
   ·intro e he;rw[VK.1 he];exact⟨kD ch (by omega),trivial⟩
 capsOk:=by simp[below]
def eH(b0:AO)(fns:List Fd)(k:Nat)(ch:List GS)(q:List PV)(e:Ex)(c:Int):List AO:=b0::cO fns k c::(scH ch++(bxs ch (q.map .p)++[.row 4 [[.p (.int .i64 e.op),.p (.int .i64 e.n),.p (.str e.name),.p (exL e.kids)]]]))
section
variable {b0:AO} {fns:List Fd} {k:Nat} {ch:List GS} {q:List PV} {e:Ex} {c:Int}
theorem eH_eq{hb:okO 0 b0}{hs:zH ch}:(rx b0 fns k ch q hb hs).I c++[.row 4 [[.p (.int .i64 e.op),.p (.int .i64 e.n),.p (.str e.name),.p (exL e.kids)]]]=eH b0 fns k ch q e c:=by
 simp[rx,eH,CH]
theorem Og:(eH b0 fns k ch q e c)[1]?=some (.row 3 [[.p (fdL fns),.p (.int .i64 k),.p (.int .i64 c)]]):=rfl
theorem Kt(i:Nat):(eH b0 fns k ch q e c)[2+scL ch+i]?=(bxs ch (q.map .p)++[.row 4 [[.p (.int .i64 e.op),.p (.int .i64 e.n),.p (.str e.name),.p (exL e.kids)]]])[i]?:=by
 rw[eH,show 2+scL ch+i=(scL ch+i)+1+1 by omega,VQ,VQ]
 exact No (lZ ch) i
theorem Ix:(eH b0 fns k ch q e c)[2+scL ch]?=some (.row 1 [[.ptr 1 3 0 0]]):=Kt 0
theorem Tc:(eH b0 fns k ch q e c)[2+scL ch+2]?=some (.row 1 [[upV ch]]):=Kt 2
theorem Ko:(eH b0 fns k ch q e c)[2+scL ch+3]?=some (.row 4 [[.p (.int .i64 e.op),.p (.int .i64 e.n),.p (.str e.name),.p (exL e.kids)]]):=Kt 3
end
theorem ME{fns:List Fd}{s:List UInt8}{j:Nat}(h:be fns s=some j):j<fns.length:=by
 rw[be,VU] at h;exact h.1
theorem JX(b0:AO){fns:List Fd}{k:Nat}(hf:fns.length<=1073741824)(hk:k<=fns.length)(ch:List GS)(q:List PV)(hb:okO 0 b0)(hs:zH ch)(c:Int)(e:Ex)(he:e.sz<=1073741824):
 AC Tryz.prog G bS (.agg (e.cs.map .p)::(rx b0 fns k ch q hb hs).caps) ((rx b0 fns k ch q hb hs).I c) λx h=>x= .ret (.tup [])/\h=(rx b0 fns k ch q hb hs).I (gw fns k (sco ch) c e):=by
 refine(rx b0 fns k ch q hb hs).trim G (AC.go od ?_) (by simp[below])
 have hec:=e.cs_eq
 have hlen:((rx b0 fns k ch q hb hs).I c).length=2+scL ch+3:=(rx b0 fns k ch q hb hs).len c
 have hcaps:(rx b0 fns k ch q hb hs).caps=[.ptr (2+scL ch+2) 1 0 0,.ptr (2+scL ch) 1 0 0]:=rfl
 have fin:∀c',(∃l,eH b0 fns k ch q e c'=(rx b0 fns k ch q hb hs).I c'++l):=λc'=>⟨_,eH_eq.symm⟩
 have hfail:∀n,AC Tryz.prog G cn [.ptr 1 3 0 0,.p (.int .i64 n)] (eH b0 fns k ch q e c) λx h=>x= .ret (.tup [])/\h=eH b0 fns k ch q e (fl c n):=λn=>CD G b0 fns k c n _
 have hkl:=bG e.kids
 have hsz:=e.sz_eq
 rw[hcaps]
 simp-implicitDefEqProofs[iD,hec,hlen]
 rw[eH_eq]
 generalize hV:(rx b0 fns k ch q hb hs).I=VI at fin⊢
 by_cases o2:e.op=2
 ·have hfind:AC Tryz.prog G cd [upV ch,.p (.str e.name)] (eH b0 fns k ch q e c) λx h=>x= .ret (.tup [.p (.int .i64 (((fP (sco ch) e.name).getD 0:Nat):Int)),.p (.bool (fP (sco ch) e.name).isSome)])/\h=eH b0 fns k ch q e c:=Kz G b0 (cO fns k c) ch _ e.name
  simp-implicitDefEqProofs[o2,Ix,Tc,Ko,Og]
  refine hfind.mono ?_
  rintro r h ⟨rfl,rfl⟩
  cases hfs:fP (sco ch) e.name with
  |some n=>
   have hv:gw fns k (sco ch) c e=c:=by simp[gw,o2,hfs]
   rw[hv]
   simp-implicitDefEqProofs[aa]
   exact fin c
  |none=>
   have hv:gw fns k (sco ch) c e=fl c 3:=by simp[gw,o2,hfs]
   rw[hv]
   simp-implicitDefEqProofs[aa,Ix]
   refine(hfail 3).mono ?_
   rintro r h ⟨rfl,rfl⟩
   simp-implicitDefEqProofs[aa]
   exact fin _
 by_cases o13:e.op=13
 ·have hfl:fdL fns= .lst 3 (fns.map Fd.cs):=rfl
  have hfk:fdL (fns.take k)= .lst 3 ((fns.map Fd.cs).take k):=by rw[←List.map_take];rfl
  have hxl:exL e.kids= .lst 4 (e.kids.map Ex.cs):=rfl
  have hAt:=DB G (fns.take k) e.name (by rw[Wb];omega)
  rw[hfk] at hAt
  simp-implicitDefEqProofs[o13,Ix,Tc,Ko,Og,hfl,hk]
  refine hAt.use ?_
  cases hfa:be (fns.take k) e.name with
  |none=>
   have hv:gw fns k (sco ch) c e=fl c 4:=by simp[gw,o13,hfa]
   rw[hv]
   simp-implicitDefEqProofs[ixI,Ix]
   refine(hfail 4).mono ?_
   rintro r h ⟨rfl,rfl⟩
   simp-implicitDefEqProofs[aa]
   exact fin _
  |some j=>
   have hj:=ME hfa
   rw[Wb] at hj
   have hjl:j<fns.length:=by omega
   have hg:=VA hjl
   have hjn:¬(j:Int)<0:=by omega
   have hcs:fns[j].cs=[.str fns[j].name,am fns[j].params,smL fns[j].body]:=rfl
   have hst:am fns[j].params= .lst 1 (fns[j].params.map λw=>[.str w]):=rfl
   have hpn:rt fns j=fns[j].params.length:=by simp[rt,hg]
   by_cases hp:fns[j].params.length=e.kids.length
   ·have hv:gw fns k (sco ch) c e=c:=by simp[gw,o13,hfa,hpn,hp]
    rw[hv]
    simp-implicitDefEqProofs[ixI,Ix,Og,Ko,hjn,hfl,hg,hcs,hst,hxl,hp]
    exact fin _
   ·have hv:gw fns k (sco ch) c e=fl c 5:=by simp[gw,o13,hfa,hpn,hp]
    have hp':¬(fns[j].params.length:Int)=(e.kids.length:Int):=by omega
    rw[hv]
    simp-implicitDefEqProofs[ixI,Ix,Og,Ko,hjn,hfl,hg,hcs,hst,hxl,hp']
    refine(hfail 5).mono ?_
    rintro r h ⟨rfl,rfl⟩
    simp-implicitDefEqProofs[aa]
    exact fin _
 ·have hv:gw fns k (sco ch) c e=c:=by simp[gw,o2,o13]
  rw[hv]
  simp-implicitDefEqProofs[o2,o13,Ko]
  exact fin _
theorem Nq(ch:List GS):upV ch= .nilp\/∃i,upV ch= .ptr i 2 0 0:=by
 cases ch with
 |nil=>exact .inl rfl
 |cons g up=>exact .inr ⟨_,rfl⟩
theorem QM(b0:AO){fns:List Fd}{k:Nat}(hf:fns.length<=1073741824)(hk:k<=fns.length)(ch:List GS)(hb:okO 0 b0)(hs:zH ch)(c:Int)(e:Ex)(he:e.sz<=1073741824):
 AC Tryz.prog G dv [.ptr 1 3 0 0,.agg (e.cs.map .p),upV ch] (CH b0 fns k c ch) λx h=>x= .ret (.tup [])/\h=CH b0 fns k (e.pre.foldl (gw fns k (sco ch)) c) ch:=by
 refine Pr G (h:=CH b0 fns k c ch) (AC.go ru ?_) (by rw[iM,iM]) (by rw[iM];exact EP hb hs (VM _)) (by simp[below])
 have hec:=e.cs_eq
 have hlen:(CH b0 fns k c ch).length=2+scL ch:=iM _ _ _ _ _
 have hI:=(Ph G (rx b0 fns k ch e.cs hb hs) (gw fns k (sco ch)) (λ_=>True) 1073741824 (by omega) (λst x _ hx=>⟨trivial,JX G b0 hf hk ch e.cs hb hs st x hx⟩) (e.sz+1) e (by omega) he c trivial).2
 have hcaps:(rx b0 fns k ch e.cs hb hs).caps=[.ptr (2+scL ch+2) 1 0 0,.ptr (2+scL ch) 1 0 0]:=rfl
 have hF:(rx b0 fns k ch e.cs hb hs).F=bS:=rfl
 have hVI:(rx b0 fns k ch e.cs hb hs).I c=CH b0 fns k c ch++[.row 1 [[.ptr 1 3 0 0]],.row 4 [[.p (.int .i64 e.op),.p (.int .i64 e.n),.p (.str e.name),.p (exL e.kids)]],.row 1 [[upV ch]]]:=by simp[rx,bxs,hec]
 rw[hcaps,hF,hVI,hec] at hI
 have hup:=Nq ch
 generalize upV ch=u at hI hup⊢
 rcases hup with rfl|⟨i,rfl⟩
 ·simp-implicitDefEqProofs[fK,hec,hlen]
  refine hI.mono ?_
  rintro r h ⟨rfl,rfl⟩
  simp-implicitDefEqProofs[aa]
  exact⟨_,rfl⟩
 ·simp-implicitDefEqProofs[fK,hec,hlen]
  refine hI.mono ?_
  rintro r h ⟨rfl,rfl⟩
  simp-implicitDefEqProofs[aa]
  exact⟨_,rfl⟩
end
section
theorem pn:AK.whole eG=FK.ak eQ:=rfl
theorem EY(fns:List Fd)(k:Nat):∀(a b:List Sm) (m:Scp) (up:List Scp) (c:Int),iC fns k (a++b) m up c=iC fns k b (iC fns k a m up c).1 up (iC fns k a m up c).2
 |[],b,m,up,c=>rfl
 |s::r,b,m,up,c=>by rw[Wn,iC,iC,EY fns k r]
theorem IO{fns:List Fd}{k:Nat}{l:List Sm}{m:Scp}{up:List Scp}{c:Int}{i:Nat}(h:i<l.length):iC fns k (l.take (i+1)) m up c=icS fns k l[i] (iC fns k (l.take i) m up c).1 up (iC fns k (l.take i) m up c).2:=by
 rw[an h,EY];rfl
def AX(b0:AO)(fns:List Fd)(k:Nat)(up:List GS)(gap:List AO)(c:Int):List AO:=b0::cO fns k c::(scH up++gap)
theorem Qu(b0:AO)(fns:List Fd)(k:Nat)(up:List GS)(gap:List AO)(c:Int):(AX b0 fns k up gap c).length=2+scL up+gap.length:=by
 simp only[AX,VV,VO,lZ];omega
theorem KK(b0:AO)(fns:List Fd)(k:Nat)(up:List GS)(gap:List AO)(m:Scp)(c:Int)(rest:List AO):CH b0 fns k c (⟨gap,m⟩::up)++rest=AX b0 fns k up gap c++(.mp (mpE m):: .row 2 [[.mp (2+scL up+gap.length),upV up]]::rest):=by
 simp[CH,AX,scH]
theorem LW(b0:AO)(fns:List Fd)(k:Nat)(up:List GS)(gap:List AO)(m:Scp)(c:Int):CH b0 fns k c (⟨gap,m⟩::up)=AX b0 fns k up gap c++[.mp (mpE m),.row 2 [[.mp (2+scL up+gap.length),upV up]]]:=by
 have:=KK b0 fns k up gap m c []
 rwa[Ws] at this
theorem SG{b0:AO}{fns:List Fd}{k:Nat}{up:List GS}{gap:List AO}(hb:okO 0 b0)(hs:zH up)(hg:∀o∈gap,okO (2+scL up+gap.length) o)(c:Int):∀o∈AX b0 fns k up gap c,okO (2+scL up+gap.length) o:=by
 refine aj (eq hb) (aj (by intro e he;rw[VK.1 he];simp[below]) ?_)
 intro o ho
 rcases VJ.1 ho with h|h
 ·exact GO up hs (by omega) o h
 ·exact hg o h
theorem ze{kk L n:Nat}{A r s:List AO}{l l1:List (Nat × AV)}(hl:A.length=L)(hk:kk<=L+r.length)(ha:∀o∈A,okO L o)(hr:∀o∈r,okO (L+r.length) o)(H:FgA (L+r.length) l l1):Wk kk (ah n l) (A++(r++s)) (ah n l1) (A++r):=by
 have hll:(A++r).length=L+r.length:=by rw[VO,hl]
 refine ij (m:=L+r.length) hk (dE ?_ hll ?_) H
 ·rw[←Wg,←hll,List.take_left'];rfl
 ·intro o ho
  rcases VJ.1 ho with h|h
  ·exact tP (by omega) (ha o h)
  ·exact hr o h
theorem DN(m:Scp)(n:Nat):okO n (.mp (mpE m)):=by
 intro e he
 obtain⟨x,_,rfl⟩:=VW.1 he
 simp[below]
variable (G:al)
theorem OV(b0:AO){fns:List Fd}{k:Nat}(hf:fns.length<=1073741824)(hk:k<=fns.length)(hb:okO 0 b0):∀(N:Nat) (l:List Sm),aC l<N->aC l<=1073741824->∀(gap:List AO) (m:Scp) (up:List GS) (c:Int),zH (⟨gap,m⟩::up)->
 AC Tryz.prog G bB [.ptr 1 3 0 0,.p (smL l),upV (⟨gap,m⟩::up)] (CH b0 fns k c (⟨gap,m⟩::up)) λx h=>x= .ret (.tup [])/\h=CH b0 fns k (iC fns k l m (sco up) c).2 (⟨gap,(iC fns k l m (sco up) c).1⟩::up):=by
 intro N
 induction N with
 |zero=>intro l h;omega
 |succ N ih=>
  intro l hl hz gap m up c hs
  have hll:=cr l
  have hsl:∀l,smL l= .lst 5 (l.map Sm.cs):=λ_=>rfl
  have hs':∀m,zH (⟨gap,m⟩::up):=λ_=>hs
  have hscl:∀m,scL (⟨gap,m⟩::up)=scL up+gap.length+2:=λ_=>rfl
  refine Pr G (AC.goK po pn ?_) (by rw[iM,iM];rfl) (by rw[iM];exact EP hb (hs' _) (by rw[hscl];exact Nat.le_of_eq (by rfl))) (by simp[below])
  have hup:upV (⟨gap,m⟩::up)= .ptr (2+scL up+gap.length+1) 2 0 0:=rfl
  have hlenC:∀c m,(CH b0 fns k c (⟨gap,m⟩::up)).length=2+scL up+gap.length+2:=λc m=>by rw[iM,hscl];omega
  have hokC:∀c m,∀o∈CH b0 fns k c (⟨gap,m⟩::up),okO (2+scL up+gap.length+2) o:=λc m=>EP hb (hs' m) (by rw[hscl];omega)
  have hlenA:∀c,(AX b0 fns k up gap c).length=2+scL up+gap.length:=Qu b0 fns k up gap
  simp-implicitDefEqProofs[eG,eQ,hsl,hup]
  refine aN (λi:Nat=>ah 89 [(0,.ptr 1 3 0 0),(2,.ptr (2+scL up+gap.length+1) 2 0 0),(14,.p (smL l)),(15,.p (.int .i64 l.length)),(16,.p (.int .i64 i))])
   (λi=>CH b0 fns k (iC fns k (l.take i) m (sco up) c).2 (⟨gap,(iC fns k (l.take i) m (sco up) c).1⟩::up)) (λi=>i<=l.length) (λi=>l.length-i) 0 (by simp) ?_ ?_
  ·refine ae (h:=CH b0 fns k c (⟨gap,m⟩::up)) (VM _) (by rw[hlenC];exact hokC _ _) ?_
   rw[hlenC]
   simp[below,hsl]
  intro i hi
  have eT:=λh=>IO (fns:=fns) (k:=k) (l:=l) (m:=m) (up:=sco up) (c:=c) (i:=i) h
  rw[hlenC]
  generalize hst:iC fns k (l.take i) m (sco up) c=st at eT⊢
  obtain⟨mi,ci⟩:=st
  simp only at eT⊢
  simp-implicitDefEqProofs[hsl]
  refine bh (λh=>?_) (λh=>?_)
  ·simp at h
   have hg:=VA h
   have hse:=l[i].cs_eq
   have hsz:=l[i].sz_eq
   have hks:=dT (VT h)
   have eT:=eT h
   generalize l[i]=s at hg hse hsz hks eT
   obtain⟨o,nme,a,bd,el⟩:=s
   simp only[Sm.op,Sm.name,Sm.args,Sm.body,Sm.els] at hse hsz
   have hxl:exL a= .lst 4 (a.map Ex.cs):=rfl
   have hal:=bG a
   simp-implicitDefEqProofs[hg,hse,hlenC,hxl]
   have hexpr:∀(c:Int) (e:Ex) (rest:List AO),e.sz<=1073741824->AC Tryz.prog G dv [.ptr 1 3 0 0,.agg (e.cs.map .p),.ptr (2+scL up+gap.length+1) 2 0 0] (AX b0 fns k up gap c++(.mp (mpE mi):: .row 2 [[.mp (2+scL up+gap.length),upV up]]::rest)) λx h=>x= .ret (.tup [])/\h=AX b0 fns k up gap (e.pre.foldl (gw fns k (mi::sco up)) c)++(.mp (mpE mi):: .row 2 [[.mp (2+scL up+gap.length),upV up]]::rest):=by
    intro c e rest he
    have:=QO G (QM G b0 hf hk (⟨gap,mi⟩::up) hb (hs' mi) c e he) hb (hs' mi) rfl rest (by refine⟨by simp only[below];omega,by simp,kD _ (VM _),trivial⟩)
    simp only[KK] at this
    exact this
   have hfail:∀(c e:Int) (t:List AO),AC Tryz.prog G cn [.ptr 1 3 0 0,.p (.int .i64 e)] (AX b0 fns k up gap c++t) λx h=>x= .ret (.tup [])/\h=AX b0 fns k up gap (fl c e)++t:=λc e t=>CD G b0 fns k c e _
   have hfind:∀(c:Int) (m:Scp) (s:List UInt8) (rest:List AO),AC Tryz.prog G cd [.ptr (2+scL up+gap.length+1) 2 0 0,.p (.str s)] (AX b0 fns k up gap c++(.mp (mpE m):: .row 2 [[.mp (2+scL up+gap.length),upV up]]::rest)) λx h=>x= .ret (.tup [.p (.int .i64 (((fP (m::sco up) s).getD 0:Nat):Int)),.p (.bool (fP (m::sco up) s).isSome)])/\h=AX b0 fns k up gap c++(.mp (mpE m):: .row 2 [[.mp (2+scL up+gap.length),upV up]]::rest):=by
    intro c m s rest
    have:=Kz G b0 (cO fns k c) (⟨gap,m⟩::up) rest s
    have e:b0::cO fns k c::(scH (⟨gap,m⟩::up)++rest)=CH b0 fns k c (⟨gap,m⟩::up)++rest:=rfl
    rw[e,KK] at this
    exact this
   have hblk:∀(c:Int) (m2:Scp) (l':List Sm) (gap2:List AO),aC l'<N->aC l'<=1073741824->(∀o∈gap2,okO (2+scL up+gap.length+2+gap2.length) o)->
    AC Tryz.prog G bB [.ptr 1 3 0 0,.p (smL l'),.ptr (2+scL up+gap.length+2+gap2.length+1) 2 0 0] (AX b0 fns k up gap c++(.mp (mpE m2):: .row 2 [[.mp (2+scL up+gap.length),upV up]]::(gap2++[.mp [],.row 2 [[.mp (2+scL up+gap.length+2+gap2.length),.ptr (2+scL up+gap.length+1) 2 0 0]]])))
     λx h=>x= .ret (.tup [])/\∃m',h=AX b0 fns k up gap (iC fns k l' [] (m2::sco up) c).2++(.mp (mpE m2):: .row 2 [[.mp (2+scL up+gap.length),upV up]]::(gap2++[.mp (mpE m'),.row 2 [[.mp (2+scL up+gap.length+2+gap2.length),.ptr (2+scL up+gap.length+1) 2 0 0]]])):=by
    intro c m2 l' gap2 h1 h2 h3
    have e1:2+scL (⟨gap,m2⟩::up)+gap2.length=2+scL up+gap.length+2+gap2.length:=by rw[hscl];omega
    have e2:∀c m',CH b0 fns k c (⟨gap2,m'⟩::⟨gap,m2⟩::up)=AX b0 fns k up gap c++(.mp (mpE m2):: .row 2 [[.mp (2+scL up+gap.length),upV up]]::(gap2++[.mp (mpE m'),.row 2 [[.mp (2+scL up+gap.length+2+gap2.length),.ptr (2+scL up+gap.length+1) 2 0 0]]])):=by
     intro c m'
     rw[←e1]
     simp[CH,AX,scH,upV]
    have:=ih l' h1 h2 gap2 [] (⟨gap,m2⟩::up) c ⟨by rw[e1];exact h3,hs' m2⟩
    rw[show upV (⟨gap2,[]⟩::⟨gap,m2⟩::up)= .ptr (2+scL up+gap.length+2+gap2.length+1) 2 0 0 by rw[←e1];rfl] at this
    rw[e2] at this
    refine this.mono ?_
    rintro x h ⟨hx,hh⟩
    exact⟨hx,(iC fns k l' [] (sco (⟨gap,m2⟩::up)) c).1,by rw[hh,e2];rfl⟩
   rw[LW b0 fns k up gap mi ci,Wg]
   simp only[Wn,List.nil_append]
   have hokA:=SG (fns:=fns) (k:=k) hb hs.2 hs.1
   generalize hL:2+scL up+gap.length=L at hexpr hfind hblk hlenA hlenC hokC hokA⊢
   have hR:okO (L+2) (.row 2 [[.mp L,upV up]]):=by
    intro e he;rw[VK.1 he]
    exact⟨by simp only[below];omega,kD up (by omega),trivial⟩
   have hX:okO 0 (.row 5 [[AV.p (.int .i64 o),.p (.str nme),.p (.lst 4 (a.map Ex.cs)),.p (smL bd),.p (smL el)]]):=by simp[okO]
   have ok3:∀(m:Scp),∀x∈[AO.mp (mpE m),.row 2 [[.mp L,upV up]],.row 5 [[AV.p (.int .i64 o),.p (.str nme),.p (.lst 4 (a.map Ex.cs)),.p (smL bd),.p (smL el)]]],okO (L+3) x:=λm=>
    aj (DN _ _) (aj (tP (by omega) hR) (aj (eq hX) gf))
   refine aN (λj:Nat=>ah 89 [(0,.ptr 1 3 0 0),(2,.ptr (L+1) 2 0 0),(7,.ptr (L+2) 5 0 0),(14,.p (smL l)),(15,.p (.int .i64 l.length)),(16,.p (.int .i64 i)),(21,.p (exL a)),(22,.p (.int .i64 a.length)),(23,.p (.int .i64 j))])
    (λj=>AX b0 fns k up gap ((dt (a.take j)).foldl (gw fns k (mi::sco up)) ci)++[.mp (mpE mi),.row 2 [[.mp L,upV up]],.row 5 [[AV.p (.int .i64 o),.p (.str nme),.p (.lst 4 (a.map Ex.cs)),.p (smL bd),.p (smL el)]]])
    (λj=>j<=a.length) (λj=>a.length-j) 0 (by simp) ?_ ?_
   ·refine ze (s:=[]) (hlenA _) (by simp) (hokA _) (ok3 _) ?_
    simp[below,hsl,hxl]
   intro j hj
   simp-implicitDefEqProofs[hxl]
   refine bh (λhc=>?_) (λhc=>?_)
   ·simp at hc
    have hga:=VA hc
    have hka:=bQ (VT hc)
    have hkc:=a[j].cs_eq
    have hE:=hexpr ((dt (a.take j)).foldl (gw fns k (mi::sco up)) ci) a[j] [.row 5 [[AV.p (.int .i64 o),.p (.str nme),.p (.lst 4 (a.map Ex.cs)),.p (smL bd),.p (smL el)]],.row 4 [[.p (.int .i64 a[j].op),.p (.int .i64 a[j].n),.p (.str a[j].name),.p (exL a[j].kids)]]] (by omega)
    rw[hkc] at hE
    simp-implicitDefEqProofs[hga,hkc,hlenA]
    refine hE.mono ?_
    rintro r h ⟨rfl,rfl⟩
    simp-implicitDefEqProofs[aa]
    refine⟨j+1,hc,by omega,?_⟩
    have hf2:(dt (a.take (j+1))).foldl (gw fns k (mi::sco up)) ci=a[j].pre.foldl (gw fns k (mi::sco up)) ((dt (a.take j)).foldl (gw fns k (mi::sco up)) ci):=by
     rw[an hc,ta,List.foldl_append,dt,dt,Ws]
    rw[hf2]
    refine ze (r:=[_,_,_]) (s:=[_]) (hlenA _) (by simp) (hokA _) (ok3 _) ?_
    simp[below,hsl,hxl,w1 (i:=j) (by omega)]
   simp at hc
   have hje:j=a.length:=by omega
   subst hje
   rw[List.take_length]
   have hic:icS fns k ⟨o,nme,a,bd,el⟩ mi (sco up) ci=(opS o nme mi 0,if o=5\/o=6 then(iC fns k el [] (opS o nme mi 0::sco up) (iC fns k bd [] (opS o nme mi 0::sco up) (opC o nme mi (sco up) (FE fns k (mi::sco up) a ci))).2).2 else opC o nme mi (sco up) (FE fns k (mi::sco up) a ci)):=rfl
   rw[hic] at eT
   clear hic
   rw[show(dt a).foldl (gw fns k (mi::sco up)) ci=FE fns k (mi::sco up) a ci from rfl]
   generalize FE fns k (mi::sco up) a ci=c1 at eT⊢
   simp-implicitDefEqProofs[]
   refine lI (ah 89 [(0,.ptr 1 3 0 0),(2,.ptr (L+1) 2 0 0),(7,.ptr (L+2) 5 0 0),(14,.p (smL l)),(15,.p (.int .i64 l.length)),(16,.p (.int .i64 i))])
    (AX b0 fns k up gap (opC o nme mi (sco up) c1)++[.mp (mpE (opS o nme mi 0)),.row 2 [[.mp L,upV up]],.row 5 [[AV.p (.int .i64 o),.p (.str nme),.p (.lst 4 (a.map Ex.cs)),.p (smL bd),.p (smL el)]]]) ?_ ?_
   ·have fin:∀(r1:List (Nat × AV)) (c2:Int) (m2:Scp),Aw.look r1 0= .ptr 1 3 0 0->Aw.look r1 2= .ptr (L+1) 2 0 0->Aw.look r1 7= .ptr (L+2) 5 0 0->Aw.look r1 14= .p (smL l)->Aw.look r1 15= .p (.int .i64 l.length)->Aw.look r1 16= .p (.int .i64 i)->
     Wk (L+2) (ah 89 r1) (AX b0 fns k up gap c2++[.mp (mpE m2),.row 2 [[.mp L,upV up]],.row 5 [[AV.p (.int .i64 o),.p (.str nme),.p (.lst 4 (a.map Ex.cs)),.p (smL bd),.p (smL el)]]])
      (ah 89 [(0,.ptr 1 3 0 0),(2,.ptr (L+1) 2 0 0),(7,.ptr (L+2) 5 0 0),(14,.p (smL l)),(15,.p (.int .i64 l.length)),(16,.p (.int .i64 i))])
      (AX b0 fns k up gap c2++[.mp (mpE m2),.row 2 [[.mp L,upV up]],.row 5 [[AV.p (.int .i64 o),.p (.str nme),.p (.lst 4 (a.map Ex.cs)),.p (smL bd),.p (smL el)]]]):=by
     intro r1 c2 m2 e0 e2 e7 e14 e15 e16
     refine ze (s:=[]) (hlenA _) (by simp) (hokA _) (ok3 _) ?_
     simp[below,e0,e2,e7,e14,e15,e16]
    by_cases o1:o=1
    ·have hmg:=tE nme mi
     have hms:gX (.str nme) (.p (.int .i64 0)) (mpE mi)=some (mpE (gx mi nme 0)):=by simpa using AH nme 0 mi
     have e2:opS o nme mi 0=gx mi nme 0:=if_pos o1
     rw[e2]
     cases hh:dN mi nme with
     |none=>
      have e1:opC o nme mi (sco up) c1=c1:=by rw[opC,if_pos o1,hh];rfl
      rw[hh] at hmg
      rw[e1]
      subst o1
      simp-implicitDefEqProofs[hlenA,hmg,hms]
      exact fin _ _ _ (by simp) (by simp) (by simp) (by simp[hsl]) (by simp) (by simp)
     |some n=>
      have e1:opC o nme mi (sco up) c1=fl c1 2:=by rw[opC,if_pos o1,hh];rfl
      rw[hh] at hmg
      rw[e1]
      subst o1
      simp-implicitDefEqProofs[hlenA,hmg,hms]
      refine(hfail c1 2 _).mono ?_
      rintro r h ⟨rfl,rfl⟩
      simp-implicitDefEqProofs[aa,hlenA,hms]
      exact fin _ _ _ (by simp) (by simp) (by simp) (by simp[hsl]) (by simp) (by simp)
    have e2:opS o nme mi 0=mi:=if_neg o1
    rw[e2]
    by_cases o2:o=2
    ·cases hh:fP (mi::sco up) nme with
     |none=>
      have e1:opC o nme mi (sco up) c1=fl c1 3:=by rw[opC,if_neg o1,if_pos o2,hh];rfl
      rw[e1]
      subst o2
      have hF:=hfind c1 mi nme [.row 5 [[AV.p (.int .i64 2),.p (.str nme),.p (.lst 4 (a.map Ex.cs)),.p (smL bd),.p (smL el)]]]
      rw[hh] at hF
      simp-implicitDefEqProofs[hlenA]
      refine hF.mono ?_
      rintro r h ⟨rfl,rfl⟩
      simp-implicitDefEqProofs[aa]
      refine(hfail c1 3 _).mono ?_
      rintro r h ⟨rfl,rfl⟩
      simp-implicitDefEqProofs[aa]
      exact fin _ _ _ (by simp) (by simp) (by simp) (by simp[hsl]) (by simp) (by simp)
     |some n=>
      have e1:opC o nme mi (sco up) c1=c1:=by rw[opC,if_neg o1,if_pos o2,hh];rfl
      rw[e1]
      subst o2
      have hF:=hfind c1 mi nme [.row 5 [[AV.p (.int .i64 2),.p (.str nme),.p (.lst 4 (a.map Ex.cs)),.p (smL bd),.p (smL el)]]]
      rw[hh] at hF
      simp-implicitDefEqProofs[hlenA]
      refine hF.mono ?_
      rintro r h ⟨rfl,rfl⟩
      simp-implicitDefEqProofs[aa]
      exact fin _ _ _ (by simp) (by simp) (by simp) (by simp[hsl]) (by simp) (by simp)
    ·have e1:opC o nme mi (sco up) c1=c1:=by rw[opC,if_neg o1,if_neg o2]
     rw[e1]
     simp-implicitDefEqProofs[hlenA,o1,o2]
     exact fin _ _ _ (by simp) (by simp) (by simp) (by simp[hsl]) (by simp) (by simp)
   generalize opC o nme mi (sco up) c1=c2 at eT⊢
   generalize opS o nme mi 0=m2 at eT⊢
   have hdrop:∀(r1:List (Nat × AV)) (c3:Int) (s:List AO),Aw.look r1 0= .ptr 1 3 0 0->Aw.look r1 2= .ptr (L+1) 2 0 0->Aw.look r1 14= .p (smL l)->Aw.look r1 15= .p (.int .i64 l.length)->Aw.look r1 16= .p (.int .i64 ((i:Int)+1))->
    Wk (L+2) (ah 89 r1) (AX b0 fns k up gap c3++([.mp (mpE m2),.row 2 [[.mp L,upV up]]]++s)) (ah 89 [(0,.ptr 1 3 0 0),(2,.ptr (L+1) 2 0 0),(14,.p (smL l)),(15,.p (.int .i64 l.length)),(16,.p (.int .i64 ((i:Int)+1)))]) (CH b0 fns k c3 (⟨gap,m2⟩::up)):=by
    intro r1 c3 s e0 e2 e14 e15 e16
    rw[LW,hL]
    refine ze (hlenA _) (by simp) (hokA _) (aj (DN _ _) (aj hR gf)) ?_
    simp[below,e0,e2,e14,e15,e16]
   by_cases ho:o=5\/o=6
   ·rw[if_pos ho] at eT
    rcases ho with o5|o6
    ·subst o5
     simp-implicitDefEqProofs[hlenA]
     refine(zp G (.ptr (L+1) 2 0 0) (.inr ⟨_,rfl⟩) _).mono ?_
     rintro r h ⟨rfl,rfl⟩
     simp-implicitDefEqProofs[aa,hlenA]
     refine(hblk c2 m2 bd [_] (by omega) (by omega) (λx hx=>by rw[VK.1 hx];exact eq (by simp[okO]))).mono ?_
     rintro r h ⟨rfl,m3,rfl⟩
     simp-implicitDefEqProofs[aa,hlenA]
     refine(zp G (.ptr (L+1) 2 0 0) (.inr ⟨_,rfl⟩) _).mono ?_
     rintro r h ⟨rfl,rfl⟩
     simp-implicitDefEqProofs[aa,hlenA]
     refine(hblk _ m2 el [_,_,_] (by omega) (by omega) (aj (eq (by simp[okO])) (aj (DN _ _) (aj (by
      intro e he;rw[VK.1 he]
      exact⟨by simp only[below];simp,by simp only[below];simp,trivial⟩) gf)))).mono ?_
     rintro r h ⟨rfl,m4,rfl⟩
     simp-implicitDefEqProofs[aa,hlenA]
     refine⟨i+1,by omega,by omega,?_⟩
     rw[eT]
     refine hdrop _ _ _ (by simp) (by simp) (by simp[hsl]) (by simp) (by simp[w1 (i:=i) (by omega)])
    ·subst o6
     simp-implicitDefEqProofs[hlenA]
     refine(zp G (.ptr (L+1) 2 0 0) (.inr ⟨_,rfl⟩) _).mono ?_
     rintro r h ⟨rfl,rfl⟩
     simp-implicitDefEqProofs[aa,hlenA]
     refine(hblk c2 m2 bd [_] (by omega) (by omega) (λx hx=>by rw[VK.1 hx];exact eq (by simp[okO]))).mono ?_
     rintro r h ⟨rfl,m3,rfl⟩
     simp-implicitDefEqProofs[aa,hlenA]
     refine(zp G (.ptr (L+1) 2 0 0) (.inr ⟨_,rfl⟩) _).mono ?_
     rintro r h ⟨rfl,rfl⟩
     simp-implicitDefEqProofs[aa,hlenA]
     refine(hblk _ m2 el [_,_,_] (by omega) (by omega) (aj (eq (by simp[okO])) (aj (DN _ _) (aj (by
      intro e he;rw[VK.1 he]
      exact⟨by simp only[below];simp,by simp only[below];simp,trivial⟩) gf)))).mono ?_
     rintro r h ⟨rfl,m4,rfl⟩
     simp-implicitDefEqProofs[aa,hlenA]
     refine⟨i+1,by omega,by omega,?_⟩
     rw[eT]
     refine hdrop _ _ _ (by simp) (by simp) (by simp[hsl]) (by simp) (by simp[w1 (i:=i) (by omega)])
   ·rw[if_neg ho] at eT
    have o5:¬o=5:=λh=>ho (.inl h)
    have o6:¬o=6:=λh=>ho (.inr h)
    simp-implicitDefEqProofs[hlenA,o5,o6]
    refine⟨i+1,by omega,by omega,?_⟩
    rw[eT]
    refine hdrop _ _ [_] (by simp) (by simp) (by simp[hsl]) (by simp) (by simp[w1 (i:=i) (by omega)])
  ·simp at h
   have hie:i=l.length:=by omega
   subst hie
   rw[List.take_length] at hst
   rw[hst]
   simp-implicitDefEqProofs[]
end
section
theorem rq:AK.whole fj=FK.ak fI:=rfl
theorem Cn(fns:List Fd):∀(a b:List Fd) (k:Nat) (c:Int),kV fns k (a++b) c=kV fns (k+a.length) b (kV fns k a c)
 |[],b,k,c=>rfl
 |f::r,b,k,c=>by rw[Wn,kV,kV,Cn fns r];congr 1;simp only[VV];omega
theorem Gg{fns l:List Fd}{i:Nat}{c:Int}(h:i<l.length):kV fns 0 (l.take (i+1)) c=icF fns i l[i] (kV fns 0 (l.take i) c):=by
 rw[an h,Cn,Wb,Nat.min_eq_left (Nat.le_of_lt h),WC];rfl
theorem JT(a b:List (List UInt8))(m:Scp)(c:Int):jr (a++b) m c=jr b (jr a m c).1 (jr a m c).2:=by simp[jr]
theorem JM{l:List (List UInt8)}{i:Nat}{m:Scp}{c:Int}(h:i<l.length):jr (l.take (i+1)) m c=(gx (jr (l.take i) m c).1 l[i] 0,if(dN (jr (l.take i) m c).1 l[i]).isSome then fl (jr (l.take i) m c).2 2 else(jr (l.take i) m c).2):=by
 rw[an h,JT];rfl
variable (G:al) (hK:G eS=some ep) (hS:G cu=some [.tbl opK opV])
include hK hS
theorem AA(l:List Fd)(hl:aH l<=1073741824):VF Tryz.prog G fq [.agg [.p (fdL l)]] (.p (.int .i64 (aI l))):=by
 have hll:=fO l
 have hfl:∀l,fdL l= .lst 3 (l.map Fd.cs):=λ_=>rfl
 rw[Gx]
 refine AC.goK rp rq ?_
 simp-implicitDefEqProofs[fj,fI]
 refine(ou G hK hS l hl).use ?_
 by_cases hv:bl l=true
 case neg=>
  have hv':bl l=false:=by simpa using hv
  simp-implicitDefEqProofs[hv']
 rw[if_pos hv]
 simp-implicitDefEqProofs[hv,hfl]
 refine aN (λi:Nat=>ah 73 [(1,.ptr 0 1 0 0),(3,.ptr 1 3 0 0),(18,.p (fdL l)),(19,.p (.int .i64 l.length)),(20,.p (.int .i64 i))])
  (λi=>[.row 1 [[.p (fdL l)]],cO l (i-1) (kV l 0 (l.take i) 0)]) (λi=>i<=l.length) (λi=>l.length-i) 0 (by simp) ?_ ?_
 ·refine ae (h:=[.row 1 [[.p (fdL l)]],cO l 0 0]) (by simp) (by simp[okO,below,cO]) (by simp[below,hfl])
 intro i hi
 have hbo:okO 0 (.row 1 [[.p (fdL l)]]):=by simp[okO]
 simp-implicitDefEqProofs[hfl]
 refine bh (λh=>?_) (λh=>?_)
 ·simp at h
  have hg:=VA h
  have hks:=cN (VT h)
  have eT:=Gg (fns:=l) (c:=0) h
  obtain⟨j,ej,ejl⟩:=Cq hg
  generalize l[i]=f at*
  have hcs:f.cs=[.str f.name,am f.params,smL f.body]:=rfl
  have hfz:f.sz=1+f.name.length+(f.params.length+(f.params.map List.length).sum)+aC f.body:=rfl
  have hst:am f.params= .lst 1 (f.params.map λw=>[.str w]):=rfl
  generalize kV l 0 (l.take i) 0=c0 at eT⊢
  simp-implicitDefEqProofs[hg,hcs,cO]
  have hic:icF l i f c0=(iC l i f.body (jr f.params [] (if j<i then fl c0 2 else c0)).1 [] (jr f.params [] (if j<i then fl c0 2 else c0)).2).2:=by
   rw[icF,ej];simp
  rw[hic] at eT
  clear hic
  refine lI (ah 73 [(1,.ptr 0 1 0 0),(3,.ptr 1 3 0 0),(4,.p (.int .i64 i)),(5,.ptr 2 3 0 0),(18,.p (fdL l)),(19,.p (.int .i64 l.length)),(20,.p (.int .i64 i))])
   [.row 1 [[.p (fdL l)]],cO l i (if j<i then fl c0 2 else c0),.row 3 [[.p (.str f.name),.p (am f.params),.p (smL f.body)]]] ?_ ?_
  ·simp-implicitDefEqProofs[]
   refine(DB G l f.name (by omega)).use ?_
   rw[ej]
   by_cases hj:j<i
   ·have hj':(j:Int)<(i:Int):=by omega
    rw[if_pos hj]
    simp-implicitDefEqProofs[ixI,hj']
    refine(CD G (.row 1 [[.p (fdL l)]]) l i c0 2 [.row 3 [[.p (.str f.name),.p (am f.params),.p (smL f.body)]]]).mono ?_
    rintro r h ⟨rfl,rfl⟩
    simp-implicitDefEqProofs[aa]
    exact ae (by simp) (by simp[okO,below,cO]) (by simp[below,hfl])
   ·have hj':¬(j:Int)<(i:Int):=by omega
    rw[if_neg hj]
    simp-implicitDefEqProofs[ixI,hj']
    exact ae (h:=[.row 1 [[.p (fdL l)]],cO l i c0,.row 3 [[.p (.str f.name),.p (am f.params),.p (smL f.body)]]]) (by simp) (by simp[okO,below,cO]) (by simp[below,hfl])
  generalize (if j<i then fl c0 2 else c0)=c1 at eT⊢
  have hCH:∀(c:Int) (m:Scp),CH (.row 1 [[.p (fdL l)]]) l i c [⟨[.row 3 [[.p (.str f.name),.p (am f.params),.p (smL f.body)]]],m⟩]=[.row 1 [[.p (fdL l)]],cO l i c,.row 3 [[.p (.str f.name),.p (am f.params),.p (smL f.body)]],.mp (mpE m),.row 2 [[.mp 3,.nilp]]]:=λ_ _=>rfl
  simp-implicitDefEqProofs[]
  refine(zp G .nilp (.inl rfl) _).mono ?_
  rintro r h ⟨rfl,rfl⟩
  simp-implicitDefEqProofs[aa,hst]
  refine aN (λq:Nat=>ah 73 [(1,.ptr 0 1 0 0),(3,.ptr 1 3 0 0),(4,.p (.int .i64 i)),(5,.ptr 2 3 0 0),(6,.ptr 4 2 0 0),(18,.p (fdL l)),(19,.p (.int .i64 l.length)),(20,.p (.int .i64 i)),(39,.p (am f.params)),(40,.p (.int .i64 f.params.length)),(41,.p (.int .i64 q))])
   (λq=>[.row 1 [[.p (fdL l)]],cO l i (jr (f.params.take q) [] c1).2,.row 3 [[.p (.str f.name),.p (am f.params),.p (smL f.body)]],.mp (mpE (jr (f.params.take q) [] c1).1),.row 2 [[.mp 3,.nilp]]])
   (λq=>q<=f.params.length) (λq=>f.params.length-q) 0 (by simp) ?_ ?_
  ·exact ae (h:=[.row 1 [[.p (fdL l)]],cO l i c1,.row 3 [[.p (.str f.name),.p (am f.params),.p (smL f.body)]],.mp [],.row 2 [[.mp 3,.nilp]]]) (by simp) (by simp[okO,below,cO]) (by simp[below,hfl,hst])
  intro q hq
  have eP:=λh=>JM (l:=f.params) (i:=q) (m:=[]) (c:=c1) h
  generalize hP:jr (f.params.take q) [] c1=st at eP⊢
  obtain⟨mq,cq⟩:=st
  simp only at eP⊢
  simp-implicitDefEqProofs[hst]
  refine bh (λhc=>?_) (λhc=>?_)
  ·simp at hc
   have hga:=VA hc
   have eP:=eP hc
   generalize f.params[q]=nme at hga eP
   have hmg:=tE nme mq
   have hms:gX (.str nme) (.p (.int .i64 0)) (mpE mq)=some (mpE (gx mq nme 0)):=by simpa using AH nme 0 mq
   have fin:∀(r1:List (Nat × AV)) (c2:Int),Aw.look r1 1= .ptr 0 1 0 0->Aw.look r1 3= .ptr 1 3 0 0->Aw.look r1 4= .p (.int .i64 i)->Aw.look r1 5= .ptr 2 3 0 0->Aw.look r1 6= .ptr 4 2 0 0->Aw.look r1 18= .p (fdL l)->Aw.look r1 19= .p (.int .i64 l.length)->Aw.look r1 20= .p (.int .i64 i)->Aw.look r1 39= .p (am f.params)->Aw.look r1 40= .p (.int .i64 f.params.length)->Aw.look r1 41= .p (.int .i64 ((q:Int)+1))->
    Wk 0 (ah 73 r1) [.row 1 [[.p (fdL l)]],cO l i c2,.row 3 [[.p (.str f.name),.p (am f.params),.p (smL f.body)]],.mp (mpE (gx mq nme 0)),.row 2 [[.mp 3,.nilp]]]
     (ah 73 [(1,.ptr 0 1 0 0),(3,.ptr 1 3 0 0),(4,.p (.int .i64 i)),(5,.ptr 2 3 0 0),(6,.ptr 4 2 0 0),(18,.p (fdL l)),(19,.p (.int .i64 l.length)),(20,.p (.int .i64 i)),(39,.p (am f.params)),(40,.p (.int .i64 f.params.length)),(41,.p (.int .i64 ((q:Int)+1)))])
     [.row 1 [[.p (fdL l)]],cO l i c2,.row 3 [[.p (.str f.name),.p (am f.params),.p (smL f.body)]],.mp (mpE (gx mq nme 0)),.row 2 [[.mp 3,.nilp]]]:=by
    intro r1 c2 e1 e3 e4 e5 e6 e18 e19 e20 e39 e40 e41
    refine ae (by simp) (aj (by simp[okO]) (aj (by simp[okO,cO]) (aj (by simp[okO]) (aj (DN _ _) (aj (by simp[okO,below]) gf))))) ?_
    simp[below,e1,e3,e4,e5,e6,e18,e19,e20,e39,e40,e41]
   cases hh:dN mq nme with
   |none=>
    rw[hh] at hmg eP
    simp-implicitDefEqProofs[hga,hmg,hms]
    refine⟨q+1,by omega,by omega,?_⟩
    rw[eP]
    exact fin _ _ (by simp) (by simp) (by simp) (by simp) (by simp) (by simp[hfl]) (by simp) (by simp) (by simp[hst]) (by simp) (by simp[w1 (i:=q) (by omega)])
   |some n=>
    rw[hh] at hmg eP
    simp-implicitDefEqProofs[hga,hmg,hms]
    refine(CD G (.row 1 [[.p (fdL l)]]) l i cq 2 _).mono ?_
    rintro r h ⟨rfl,rfl⟩
    simp-implicitDefEqProofs[aa,hms]
    refine⟨q+1,by omega,by omega,?_⟩
    rw[eP]
    exact fin _ _ (by simp) (by simp) (by simp) (by simp) (by simp) (by simp[hfl]) (by simp) (by simp) (by simp[hst]) (by simp) (by simp[w1 (i:=q) (by omega)])
  ·simp at hc
   have hqe:q=f.params.length:=by omega
   subst hqe
   rw[List.take_length] at hP
   rw[hP] at eT
   simp only at eT
   have hB:=OV G (.row 1 [[.p (fdL l)]]) (fns:=l) (k:=i) (by omega) (by omega) hbo (aC f.body+1) f.body (by omega) (by omega) [.row 3 [[.p (.str f.name),.p (am f.params),.p (smL f.body)]]] mq [] cq ⟨by simp[okO],trivial⟩
   rw[hCH] at hB
   simp-implicitDefEqProofs[]
   refine hB.mono ?_
   rintro r h ⟨rfl,rfl⟩
   simp-implicitDefEqProofs[aa]
   refine⟨i+1,by omega,by omega,?_⟩
   rw[eT]
   refine ij (m:=2) (by omega) (dE rfl rfl (by simp[okO,below,cO])) (by simp[below,hfl,w1 (i:=i) (by omega)])
 ·simp at h
  have hie:i=l.length:=by omega
  subst hie
  rw[List.take_length]
  simp-implicitDefEqProofs[cO]
end
section
variable (G:al)
theorem LR(l:List Fd)(hz:aH l<=1073741824):VF Tryz.prog G mA [.agg [.p (fdL l)]] (.p (.bool (decide (aI l=0)))):=by
 refine AC.go Bs ?_
 simp-implicitDefEqProofs[rA]
 refine(Av G l hz).use ?_
 simp-implicitDefEqProofs[]
variable (hK:G eS=some ep) (hS:G cu=some [.tbl opK opV])
include hK hS
theorem PE(l:List Fd)(hz:aH l<=1073741824):VF Tryz.prog G ox [.agg [.p (fdL l)]] (.p (.bool (decide (aI l=0)))):=by
 refine AC.go Ey ?_
 simp-implicitDefEqProofs[vP]
 refine(AA G hK hS l hz).use ?_
 simp-implicitDefEqProofs[]
end
section
structure HV (σ:Type) where
 F:FuncId
 caps:List AV
 n:Nat
 Inv:σ->Nat->List AO->Prop
 capsOk:af n caps
 len:∀{st id h},Inv st id h->n<=h.length/\id<h.length
 frame:∀{st id h h'},Inv st id h->(∀i,i<h.length->i<n\/i=id->h'[i]?=h[i]?)->Inv st id h'
def HV.Left{σ:Type}(V:HV σ)(id:Nat)(h:List AO)(st':σ)(h':List AO):Prop:=
 ∃id',V.Inv st' id' h'/\h.length<=h'.length/\(∀i,i<h.length->V.n<=i->i≠id->h'[i]?=h[i]?)/\(id'=id\/h.length<=id')
theorem HV.more{σ:Type}(V:HV σ){st:σ}{id:Nat}{h:List AO}(H:V.Inv st id h)(os:List AO):V.Inv st id (h++os):=
 V.frame H λi hi _=>Vz hi
theorem HV.Left.trans{σ:Type}{V:HV σ}{id id1:Nat}{h h1 h2:List AO}{st2:σ}(hl:h.length<=h1.length)(hk:∀i,i<h.length->V.n<=i->i≠id->h1[i]?=h[i]?)(hi:id1=id\/h.length<=id1)(L:V.Left id1 h1 st2 h2):V.Left id h st2 h2:=by
 obtain⟨id2,a1,a2,a3,a4⟩:=L
 refine⟨id2,a1,by omega,λi h1 h2 h3=>?_,?_⟩
 ·rw[a3 i (by omega) h2 (by rcases hi with e|e<;>omega),hk i h1 h2 h3]
 ·rcases a4 with e|e
  ·rw[e];exact hi
  ·right;omega
variable (G:al)
def Sm.own(s:Sm):Nat:=1+s.name.length+aX s.args
end
section
abbrev Wds:=List (List UInt8)
mutual
def nmE(op:Int):Ex->Wds->Wds
 | .mk o _ s ks,out=>KN op ks (if o=op/\s∉out then out++[s] else out)
def KN(op:Int):List Ex->Wds->Wds
 |[],out=>out
 |e::r,out=>KN op r (nmE op e out)
end
variable (G:al)
end
section
def dy(d:Nat)(bd:List Sm):List Ex:=(bI d bd).flatMap λx=>dt x.1.args
mutual
theorem NX(op:Int)(s:List UInt8):∀(e:Ex) (out:Wds),s∈nmE op e out↔s∈out\/∃x∈e.pre,x.op=op/\x.name=s
 | .mk o n t ks,out=>by
   rw[nmE,Fs op s ks,Ex.pre]
   have hh:(s∈if o=op/\t∉out then out++[t] else out)↔s∈out\/(o=op/\t=s):=by
    split
    ·rename_i h
     simp only[VJ,VK]
     constructor
     ·rintro(h1|h1)
      ·exact .inl h1
      ·exact .inr ⟨h.1,h1.symm⟩
     ·rintro(h1|h1)
      ·exact .inl h1
      ·exact .inr h1.2.symm
    ·rename_i h
     constructor
     ·exact .inl
     ·rintro(h1|⟨h1,h2⟩)
      ·exact h1
      ·rw[←h2];exact Classical.byContradiction λhn=>h ⟨h1,hn⟩
   rw[hh]
   constructor
   ·rintro((h|⟨h1,h2⟩)|⟨x,h1,h2⟩)
    ·exact .inl h
    ·exact .inr ⟨_,List.mem_cons_self ..,h1,h2⟩
    ·exact .inr ⟨x,Wq _ h1,h2⟩
   ·rintro(h|⟨x,h1,h2,h3⟩)
    ·exact .inl (.inl h)
    ·rcases VL.1 h1 with rfl|h1
     ·exact .inl (.inr ⟨h2,h3⟩)
     ·exact .inr ⟨x,h1,h2,h3⟩
theorem Fs(op:Int)(s:List UInt8):∀(l:List Ex) (out:Wds),s∈KN op l out↔s∈out\/∃x∈dt l,x.op=op/\x.name=s
 |[],out=>by simp[KN,dt]
 |e::r,out=>by
  rw[KN,Fs op s r,NX op s e,dt]
  constructor
  ·rintro((h|⟨x,h1,h2⟩)|⟨x,h1,h2⟩)
   ·exact .inl h
   ·exact .inr ⟨x,List.mem_append_left _ h1,h2⟩
   ·exact .inr ⟨x,List.mem_append_right _ h1,h2⟩
  ·rintro(h|⟨x,h1,h2⟩)
   ·exact .inl (.inl h)
   ·rcases VJ.1 h1 with h1|h1
    ·exact .inl (.inr ⟨x,h1,h2⟩)
    ·exact .inr ⟨x,h1,h2⟩
end
theorem nz(d:Nat)(s:Sm)(r:List Sm):dy d (s::r)=dt s.args++(dy (d+1) s.body++dy (d+1) s.els)++dy d r:=by
 rw[dy,bI,Sm.pre_eq,List.flatMap_append,List.flatMap_cons,List.flatMap_append];rfl
mutual
theorem GX{fns:List Fd}{k:Nat}{vs:List LV}:∀(e:Ex) (c:Int),jy fns k vs e c=0->∀x∈e.pre,x.op=13->∃j,be fns x.name=some j/\j<k
 | .mk o n t ks,c,h,x,hx,hop=>by
   rw[jy] at h
   rw[Ex.pre] at hx
   have h0:=ck h
   rcases VL.1 hx with rfl|hx
   ·have hop':o=13:=hop
    have hz:¬(13:Int)=2:=by omega
    rw[fg,hop',if_neg hz,if_pos rfl,ki] at h0
    show∃j,be fns t=some j/\j<k
    cases e:be fns t with
    |none=>rw[e] at h0;simp only[fl] at h0;split at h0<;>omega
    |some j=>
     rw[e] at h0
     simp only[fl] at h0
     refine⟨j,rfl,?_⟩
     by_cases hj:k<=j
     ·rw[if_pos hj] at h0;split at h0<;>omega
     ·omega
   ·exact pf ks _ h x hx hop
theorem pf{fns:List Fd}{k:Nat}{vs:List LV}:∀(l:List Ex) (c:Int),bc fns k vs l c=0->∀x∈dt l,x.op=13->∃j,be fns x.name=some j/\j<k
 |[],c,h,x,hx,_=>by simp[dt] at hx
 |e::r,c,h,x,hx,hop=>by
  rw[bc] at h
  rw[dt] at hx
  rcases VJ.1 hx with hx|hx
  ·exact GX e _ (ck h) x hx hop
  ·exact pf r _ h x hx hop
end
mutual
theorem In{fns:List Fd}{k:Nat}:∀(s:Sm) (b d:Nat) (w:WS),(stW fns k b s w).code=0->∀x∈dt s.args++(dy (d+1) s.body++dy (d+1) s.els),x.op=13->∃j,be fns x.name=some j/\j<k
 | .mk o n a bd el,b,d,w,h,x,hx,hop=>by
   rw[stW] at h
   rw[cH] at h
   have h1:=bE h
   rw[cH] at h1
   have h2:=bE h1
   have h3:=tq h2
   simp only[Sm.args,Sm.body,Sm.els,VJ] at hx
   rcases hx with hx|hx|hx
   ·exact pf a _ h3 x hx hop
   ·exact nM bd _ (d+1) _ h1 x hx hop
   ·exact nM el _ (d+1) _ h x hx hop
theorem nM{fns:List Fd}{k:Nat}:∀(l:List Sm) (b d:Nat) (w:WS),(bv fns k b l w).code=0->∀x∈dy d l,x.op=13->∃j,be fns x.name=some j/\j<k
 |[],b,d,w,h,x,hx,_=>by simp[dy,bI] at hx
 |s::r,b,d,w,h,x,hx,hop=>by
  rw[bv] at h
  rw[nz] at hx
  rcases VJ.1 hx with hx|hx
  ·exact In s b d _ (bE h) x hx hop
  ·exact nM r b d _ h x hx hop
end
theorem BP{vs:List LV}{s:List UInt8}{b:Nat}{c:Int}(h:nY vs s b c=0):c=0:=by
 unfold nY at h
 split at h
 ·exact h
 ·split at h
  ·unfold fl at h;split at h<;>omega
  ·exact h
theorem sI:∀{ps:List (List UInt8)} {w:WS},(bw ps w).code=0->w.code=0
 |[],w,h=>h
 |s::r,w,h=>BP (sI (ps:=r) (w:=gt w s 0) h)
theorem BW{fns:List Fd}{k:Nat}{f:Fd}(h:(fnW fns k f).code=0):(∀x∈dy 1 f.body,x.op=13->∃j,be fns x.name=some j/\j<k)/\be fns f.name=some k:=by
 rw[fnW] at h
 refine⟨nM _ _ 1 _ h,?_⟩
 have h1:(if be fns f.name=some k then(0:Int) else 2)=0:=sI (bE h)
 split at h1
 ·assumption
 ·omega
end
section
structure Like (fns fns':List Fd):Prop where
 at_:∀s,be fns' s=be fns s
 par:∀j,rt fns' j=rt fns j
theorem FI{w:WS}{s:List UInt8}{b:Nat}(h:(gt w s b).code=0):w.code=0:=by
 have h:nY w.vs s b w.code=0:=h
 unfold nY at h
 split at h
 ·exact h
 ·split at h
  ·unfold fl at h
   split at h
   ·assumption
   ·exact h
  ·exact h
theorem vY:∀{ps:List (List UInt8)} {w:WS},(bw ps w).code=0->w.code=0
 |[],w,h=>h
 |s::r,w,h=>FI (vY (ps:=r) (w:=gt w s 0) h)
theorem KZ{fns:List Fd}{k:Nat}{f:Fd}(hz:(fnW fns k f).code=0):be fns f.name=some k:=by
 rw[fnW] at hz
 have h1:=vY (bE hz)
 by_cases h:be fns f.name=some k
 ·exact h
 ·rw[if_neg h] at h1;cases h1
end
section
theorem Ih:∀{a b:Nat},a<26->b<26->vnm a=vnm b->a=b:=by
 have key:∀a b:Fin 26,vnm a.val=vnm b.val->a=b:=by decide
 intro a b ha hb h
 exact congrArg Fin.val (key ⟨a,ha⟩ ⟨b,hb⟩ h)
structure NOk (w:WS):Prop where
 down:w.vs.Pairwise (λa b=>b.num<a.num)
 lt:∀v∈w.vs,v.num<w.count
theorem NOk.put{w:WS}(h:NOk w)(s:List UInt8)(b:Nat):NOk (gt w s b):=by
 refine⟨List.pairwise_cons.2 ⟨λv hv=>h.lt v hv,h.down⟩,λv hv=>?_⟩
 rcases VL.1 hv with rfl|hv
 ·exact Nat.lt_succ_self _
 ·exact Nat.lt_succ_of_lt (h.lt v hv)
end
section
structure IN5 (e:List LV) (m m':Sc5):Prop where
 old:m.map (·.1)=e.reverse.map LV.name
 new:m'.map (·.1)=e.reverse.map λx=>vnm x.num
 val:m'.map (·.2)=m.map (·.2)
 uniq:m.Pairwise λa b=>a.1≠b.1
inductive RE5:List (List LV)->List Sc5->List Sc5->Prop where
 |nil:RE5 [] [] []
 |cons {e m m' es v v'}:IN5 e m m'->RE5 es v v'->RE5 (e::es) (m::v) (m'::v')
def Nm(vs:List LV):Prop:=vs.Pairwise (λa b=>b.num<a.num)/\∀x∈vs,x.num<26
theorem pX:∀{m:Sc5} {i:Nat} {s:List UInt8} {n:Int},m.Pairwise (λa b=>a.1≠b.1)->m[i]?=some (s,n)->bO m s=some n
 |x::r,0,s,n,_,h=>by
  simp at h;subst h;simp[bO]
 |x::r,i+1,s,n,hp,h=>by
  obtain⟨h1,h2⟩:=List.pairwise_cons.1 hp
  have hm:=VD (show r[i]?=some (s,n) by simpa using h)
  have hne:x.1≠s:=h1 _ hm
  rw[bO,if_neg hne]
  exact pX h2 (by simpa using h)
theorem CM{m:Sc5}{s:List UInt8}(h:s∉m.map (·.1)):bO m s=none:=by
 induction m with
 |nil=>rfl
 |cons x r ih=>
  simp only[VY,VL,not_or] at h
  rw[bO,if_neg (λe=>h.1 e.symm)]
  exact ih h.2
theorem Kx{m:Sc5}{s:List UInt8}(h:s∈m.map (·.1)):(bO m s).isSome=true:=by
 induction m with
 |nil=>cases h
 |cons x r ih=>
  rw[bO]
  by_cases e:x.1=s
  ·rw[if_pos e];rfl
  ·rw[if_neg e]
   rcases VL.1 h with h|h
   ·exact(e h.symm).elim
   ·exact ih h
theorem Dq:∀{m:Sc5} {i:Nat} {s:List UInt8} {n q:Int},m.Pairwise (λa b=>a.1≠b.1)->m[i]?=some (s,n)->sset m s q=m.set i (s,q)
 |x::r,0,s,n,q,_,h=>by
  simp at h;subst h;simp[sset]
 |x::r,i+1,s,n,q,hp,h=>by
  obtain⟨h1,h2⟩:=List.pairwise_cons.1 hp
  have hm:=VD (show r[i]?=some (s,n) by simpa using h)
  have hne:x.1≠s:=h1 _ hm
  rw[sset,if_neg hne,Dq h2 (by simpa using h)];rfl
theorem Nm.sub{a b:List LV}(h:Nm (a++b)):Nm a/\Nm b/\∀x∈a,∀y∈b,y.num<x.num:=by
 obtain⟨h1,h2⟩:=h
 obtain⟨k1,k2,k3⟩:=List.pairwise_append.1 h1
 exact⟨⟨k1,λx hx=>h2 x (List.mem_append_left _ hx)⟩,⟨k2,λx hx=>h2 x (List.mem_append_right _ hx)⟩,k3⟩
theorem IN5.here{e:List LV}{m m':Sc5}(H:IN5 e m m')(hn:Nm e){x:LV}(hx:x∈e):∃(i:Nat) (n:Int),m[i]?=some (x.name,n)/\m'[i]?=some (vnm x.num,n)/\m'.Pairwise (λa b=>a.1≠b.1):=by
 obtain⟨i,hi,hix⟩:=List.mem_iff_getElem.1 (List.mem_reverse.2 hx)
 have g1:(m.map (·.1))[i]?=some x.name:=by rw[H.old,VN,VA hi,hix];rfl
 have g2:(m'.map (·.1))[i]?=some (vnm x.num):=by rw[H.new,VN,VA hi,hix];rfl
 rw[VN,VB] at g1 g2
 obtain⟨p,p1,p2⟩:=g1
 obtain⟨q,q1,q2⟩:=g2
 have hv:(m'.map (·.2))[i]?=(m.map (·.2))[i]?:=by rw[H.val]
 rw[VN,VN,p1,q1] at hv
 simp only[Option.map_some,Option.some.injEq] at hv
 refine⟨i,p.2,by rw[p1,←p2],by rw[q1,←q2,←hv],?_⟩
 have hu:(e.reverse.map λx=>vnm x.num).Pairwise (· ≠ ·):=by
  rw[List.pairwise_map,List.pairwise_reverse]
  refine List.Pairwise.imp_of_mem (λ{a b} ha hb hab e=>?_) hn.1
  have:=Ih (hn.2 b hb) (hn.2 a ha) e
  omega
 rw[←H.new,List.pairwise_map] at hu
 exact hu
theorem IN5.away{e:List LV}{m m':Sc5}(H:IN5 e m m'){s:List UInt8}(hs:∀x∈e,x.name≠s):bO m s=none:=by
 refine CM ?_
 rw[H.old]
 intro h
 obtain⟨x,hx,rfl⟩:=VW.1 h
 exact hs x (List.mem_reverse.1 hx) rfl
theorem IN5.away'{e:List LV}{m m':Sc5}(H:IN5 e m m'){n:Nat}(hn:n<26)(h26:∀x∈e,x.num<26)(hs:∀x∈e,x.num≠n):bO m' (vnm n)=none:=by
 refine CM ?_
 rw[H.new]
 intro h
 obtain⟨x,hx,e⟩:=VW.1 h
 have hx:=List.mem_reverse.1 hx
 exact hs x hx (Ih (h26 x hx) hn e)
theorem pH{e:List LV}{s:List UInt8}{x:LV}(h:lkV e s=some x):x∈e/\x.name=s:=⟨yU h,by
 have:=List.find?_some h
 exact of_decide_eq_true this⟩
theorem RE5.get:∀{es:List (List LV)} {v v':List Sc5},RE5 es v v'->Nm es.flatten->∀{s:List UInt8} {x:LV},lkV es.flatten s=some x->fQ v' (vnm x.num)=fQ v s
 |_,_,_,.nil,_,s,x,h=>by cases h
 |_,_,_,.cons (e:=e) (m:=m) (m':=m') (es:=es) (v:=v) (v':=v') H R,hn,s,x,h=>by
  rw[Wt] at hn h
  obtain⟨n1,n2,n3⟩:=hn.sub
  rw[zb] at h
  cases he:lkV e s with
  |some y=>
   rw[he] at h;cases h
   obtain⟨y1,y2⟩:=pH he
   obtain⟨i,n,g1,g2,g3⟩:=H.here n1 y1
   rw[y2] at g1
   rw[fQ,fQ,pX H.uniq g1,pX g3 g2]
  |none=>
   rw[he] at h
   obtain⟨x1,x2⟩:=pH h
   have ha:bO m s=none:=H.away λy hy e=>by
    rw[lkV,List.find?_eq_none] at he
    exact he y hy (by simp[e])
   have hb:bO m' (vnm x.num)=none:=H.away' (n2.2 x x1) n1.2 λy hy e=>by have:=n3 y hy x x1;omega
   rw[fQ,fQ,ha,hb]
   exact R.get n2 h
theorem IN5.set{e:List LV}{m m':Sc5}(H:IN5 e m m'){i:Nat}{s t:List UInt8}{n q:Int}(h1:m[i]?=some (s,n))(h2:m'[i]?=some (t,n)):IN5 e (m.set i (s,q)) (m'.set i (t,q)):=by
 have k1:(m.set i (s,q)).map (·.1)=m.map (·.1):=by
  rw[List.map_set]
  refine List.ext_getElem? λj=>?_
  rw[List.getElem?_set]
  split
  ·rename_i e;subst e
   rw[VN,h1]
   have:=(Vx.1 h1).1
   simp[this]
  ·rfl
 have k2:(m'.set i (t,q)).map (·.1)=m'.map (·.1):=by
  rw[List.map_set]
  refine List.ext_getElem? λj=>?_
  rw[List.getElem?_set]
  split
  ·rename_i e;subst e
   rw[VN,h2]
   have:=(Vx.1 h2).1
   simp[this]
  ·rfl
 refine⟨by rw[k1];exact H.old,by rw[k2];exact H.new,by rw[List.map_set,List.map_set,H.val],?_⟩
 have:((m.set i (s,q)).map (·.1)).Pairwise (· ≠ ·):=by rw[k1,List.pairwise_map];exact H.uniq
 rwa[List.pairwise_map] at this
theorem RE5.set:∀{es:List (List LV)} {v v':List Sc5},RE5 es v v'->Nm es.flatten->∀{s:List UInt8} {x:LV} (q:Int),lkV es.flatten s=some x->RE5 es (gq v s q) (gq v' (vnm x.num) q)
 |_,_,_,.nil,_,s,x,q,h=>by cases h
 |_,_,_,.cons (e:=e) (m:=m) (m':=m') (es:=es) (v:=v) (v':=v') H R,hn,s,x,q,h=>by
  rw[Wt] at hn h
  obtain⟨n1,n2,n3⟩:=hn.sub
  rw[zb] at h
  cases he:lkV e s with
  |some y=>
   rw[he] at h;cases h
   obtain⟨y1,y2⟩:=pH he
   obtain⟨i,n,g1,g2,g3⟩:=H.here n1 y1
   rw[y2] at g1
   have s1:=pX H.uniq g1
   have s2:=pX g3 g2
   rw[gq,gq,s1,s2]
   simp only[Option.isSome_some,if_true]
   rw[Dq H.uniq g1,Dq g3 g2]
   exact .cons (H.set g1 g2) R
  |none=>
   rw[he] at h
   obtain⟨x1,x2⟩:=pH h
   have ha:bO m s=none:=H.away λy hy e=>by
    rw[lkV,List.find?_eq_none] at he
    exact he y hy (by simp[e])
   have hb:bO m' (vnm x.num)=none:=H.away' (n2.2 x x1) n1.2 λy hy e=>by have:=n3 y hy x x1;omega
   rw[gq,gq,ha,hb]
   exact .cons H (R.set n2 q h)
theorem RE5.add{e:List LV}{es:List (List LV)}{m m':Sc5}{v v':List Sc5}(R:RE5 (e::es) (m::v) (m'::v')){s:List UInt8}{n b:Nat}(q:Int)(hs:bO m s=none):RE5 ((⟨s,n,b⟩::e)::es) ((m++[(s,q)])::v) ((m'++[(vnm n,q)])::v'):=by
 cases R with
 |cons H R=>
  refine .cons ⟨by simp[H.old],by simp[H.new],by simp[H.val],?_⟩ R
  rw[List.pairwise_append]
  refine⟨H.uniq,by simp,λa ha c hc=>?_⟩
  rw[VK.1 hc]
  intro e
  have:=Kx (m:=m) (s:=s) (VW.2 ⟨a,ha,e⟩)
  rw[hs] at this;cases this
end
section
theorem RE5.opn{es:List (List LV)}{v v':List Sc5}(R:RE5 es v v'):RE5 ([]::es) ([]::v) ([]::v'):= .cons ⟨rfl,rfl,rfl,.nil⟩ R
theorem RE5.tail{e:List LV}{es:List (List LV)}{m m':Sc5}{v v':List Sc5}(R:RE5 (e::es) (m::v) (m'::v')):RE5 es v v':=by
 cases R with|cons _ R=>exact R
theorem RE5.split{e:List LV}{es:List (List LV)}{m:Sc5}{v w':List Sc5}(R:RE5 (e::es) (m::v) w'):∃m' v',w'=m'::v'/\RE5 es v v':=by
 cases R with|cons _ R=>exact⟨_,_,rfl,R⟩
end
section
theorem Di:∀(ps:List (List UInt8)) (w:WS),(bw ps w).vs.reverse.map LV.name=w.vs.reverse.map LV.name++ps/\((bw ps w).vs.reverse.map λx=>vnm x.num)=(w.vs.reverse.map λx=>vnm x.num)++nw ps w
 |[],w=>by simp[bw,nw]
 |s::r,w=>by
  obtain⟨h1,h2⟩:=Di r (gt w s 0)
  have e:bw (s::r) w=bw r (gt w s 0):=rfl
  rw[e,h1,h2,nw]
  simp[gt]
theorem BM:∀(ps:List (List UInt8)) (w:WS),(∀x∈w.vs,x.block=0)->(bw ps w).code=0->(w.vs.map LV.name).Pairwise (· ≠ ·)->((bw ps w).vs.map LV.name).Pairwise (· ≠ ·)
 |[],w,_,_,h=>h
 |s::r,w,hb,hz,h=>by
  have hz':(bw r (gt w s 0)).code=0:=hz
  have hp:=sI hz'
  have hp':nY w.vs s 0 w.code=0:=hp
  refine BM r (gt w s 0) (λx hx=>?_) hz' (List.pairwise_cons.2 ⟨λt ht=>?_,h⟩)
  ·rcases VL.1 hx with rfl|hx
   ·rfl
   ·exact hb x hx
  ·obtain⟨x,hx,rfl⟩:=VW.1 ht
   intro e
   have hc:=BP hp'
   rw[nY] at hp'
   cases hl:lkV w.vs s with
   |none=>
    rw[lkV,List.find?_eq_none] at hl
    exact hl x hx (by simp[←e])
   |some y=>
    rw[hl] at hp'
    have:=hb y (yU hl)
    simp only[this,if_true,fl,hc] at hp'
    simp at hp'
theorem CP{α β:Type}:∀(a:List α) (b:List β),a.length=b.length->(a.zip b).map (·.1)=a/\(a.zip b).map (·.2)=b
 |[],[],_=>⟨rfl,rfl⟩
 |x::r,y::t,h=>by
  obtain⟨h1,h2⟩:=CP r t (by simpa using h)
  simp[h1,h2]
 |[],_::_,h=>by simp at h
 |_::_,[],h=>by simp at h
end
section
theorem Sn{fuel F:Nat}(h:F<=fuel):(s0 fuel).dn (fuel-F)=s0 F:=by
 show S5.mk (fuel-(fuel-F)) _ _=_
 rw[show fuel-(fuel-F)=F by omega];rfl
theorem sH{l:List Fd}{K fuel F:Nat}{us:List Int}{s':S5}{r:O5 Int}(h:Ev l (.cal K us (s0 fuel) s' r))(hF:F<=fuel)(hr:r≠ .st 3)(hl:fuel-F<=s'.left):Ev l (.cal K us (s0 F) (s'.dn (fuel-F)) r):=by
 have:=((QG h).2.2 (fuel-F) (Nat.sub_le _ _)).1 hr hl
 rwa[Sn hF] at this
def vU(f:Fd):Ex:= .mk 13 0 f.name (f.params.map λs=> .mk 2 0 s [])
def bV(f:Fd)(nm:List UInt8):Fd:=⟨nm,f.params,[.mk 7 [] [vU f] [] []]⟩
theorem HS{l:List Fd}{k:Nat}{v:List Sc5}{s:S5}:∀(ps:List (List UInt8)) (us:List Int),ps.length=us.length->(∀(i:Nat) (p:List UInt8) (u:Int),ps[i]?=some p->us[i]?=some u->fQ v p=some u)->Ev l (.exs k v s (ps.map λs=> .mk 2 0 s []) s (.ok us))
 |[],[],_,_=> .nil
 |p::r,u::t,hl,h=> .cons (.var rfl (h 0 p u rfl rfl)) (HS r t (by simpa using hl) λi p u h1 h2=>h (i+1) p u (by simpa using h1) (by simpa using h2))
 |[],_::_,h,_=>by simp at h
 |_::_,[],h,_=>by simp at h
theorem NG{ps:List (List UInt8)}{us:List Int}(hp:ps.Pairwise (· ≠ ·))(hl:ps.length=us.length){i:Nat}{p:List UInt8}{u:Int}(h1:ps[i]?=some p)(h2:us[i]?=some u):fQ [ps.zip us] p=some u:=by
 have hz:(ps.zip us)[i]?=some (p,u):=by rw[List.getElem?_zip_eq_some];exact⟨h1,h2⟩
 have hu:(ps.zip us).Pairwise λa b=>a.1≠b.1:=by
  have:((ps.zip us).map (·.1)).Pairwise (· ≠ ·):=by rw[(CP ps us hl).1];exact hp
  rwa[List.pairwise_map] at this
 rw[fQ,pX hu hz]
theorem kr{l:List Fd}(hc:aI l=0){k:Nat}{f:Fd}(hf:l[k]?=some f):f.params.Pairwise (· ≠ ·):=by
 have hz:=((pK l).1 hc).2 k f hf
 have hat:=(BW hz).2
 rw[fnW,if_pos hat] at hz
 have hpz:=bE hz
 obtain⟨p1,_⟩:=Di f.params ⟨[],0,0⟩
 have hu:=BM f.params ⟨[],0,0⟩ (λx hx=>by cases hx) hpz .nil
 have e:f.params=(bw f.params ⟨[],0,0⟩).vs.reverse.map LV.name:=by rw[p1];rfl
 rw[e,List.map_reverse,List.pairwise_reverse]
 exact hu.imp λh e=>h e.symm
theorem DZ{l:List Fd}(hc:aI l=0){K F:Nat}{us:List Int}{s':S5}{r:O5 Int}{f:Fd}{nm:List UInt8}(hK:K+1=l.length)(hf:l[K]?=some f)(h:Ev l (.cal K us (s0 F) s' r)):
 Ev (l++[bV f nm]) (.cal (K+1) us (s0 (F+1)) s' r):=by
 have hA:∀j,j<K+1->(l++[bV f nm])[j]?=l[j]?:=λj hj=>Vz (by omega)
 have hN:∀s j,be l s=some j->be (l++[bV f nm]) s=some j:=λs j h=>by
  rw[be] at h⊢
  rw[List.findIdx?_append,h];rfl
 have hat:=(BW (((pK l).1 hc).2 K f hf)).2
 have hpa:=kr hc hf
 have hlen:f.params.length=us.length:=by
  cases h with
  |cal h1 h2 _=>rw[hf] at h1;cases h1;exact h2
 have d:Ev (l++[bV f nm]) (.cal K us ((s0 F).pre []) (s'.pre []) r):=Tf (K:=K+1) hA hN [] h (Nat.lt_succ_self K)
 have e1:(s0 F).pre []=s0 F:=rfl
 have e2:s'.pre []=s':=rfl
 rw[e1,e2] at d
 have hcall:Ev (l++[bV f nm]) (.ex (K+1) [f.params.zip us] (s0 F) (vU f) s' r):=
  .call rfl (HS f.params us hlen λi p u h1 h2=>NG hpa hlen h1 h2) (hN _ _ hat) (Nat.lt_succ_self K) d
 have hw:(l++[bV f nm])[K+1]?=some (bV f nm):=by rw[hK,VG (VM _)];simp
 have hs:(s0 (F+1)).at_ F=s0 F:=rfl
 cases r with
 |ok n=>
  have:=Ev.cal (l:=l++[bV f nm]) (k:=K+1) (us:=us) (s:=s0 (F+1)) hw hlen (.bend (F:=F) rfl (.sback rfl rfl hcall) (λh=>by cases h))
  exact this
 |st c=>
  have:=Ev.cal (l:=l++[bV f nm]) (k:=K+1) (us:=us) (s:=s0 (F+1)) hw hlen (.bend (F:=F) rfl (.argS (λh=>by cases h) rfl hcall) (λh=>by cases h))
  exact this
end
section
theorem Un5.tail{m:Sc5}{v:List Sc5}(h:Un5 (m::v)):Un5 v:=λq hq=>h q (by simp[hq])
def UnJ:J5->Prop
 | .stm _ v _ _ v' _ _=>Un5 v->Un5 v'
 | .blk _ v _ _ v' _ _=>Un5 v->Un5 v'
 | .lp _ v _ _ v' _ _=>Un5 v->Un5 v'
 |_=>True
theorem Pq{l:List Fd}{j:J5}(h:Ev l j):UnJ j:=by
 induction h with
 |bnil=>exact id
 |bfuel _=>exact id
 |bgo _ _ _ i1 i2=>exact λh=>i2 (i1 h)
 |bend _ _ _ i1=>exact i1
 |argS _ _ _ _=>exact id
 |slet _ _ _ hv hs _=>
  subst hv
  exact λh=>h.let hs
 |sset _ _ _ _ _=>exact λh=>h.of (yX _ _ _)
 |ssay _ _ _ _=>exact id
 |sput _ _ _ _ _ _ _=>exact id
 |sputC _ _ _ _ _ _ _=>exact id
 |sputS _ _ _ _ _ _=>exact id
 |sif _ _ _ _ _ i2=>exact λh=>(i2 h.opn).tail
 |sloop _ _ i1=>exact i1
 |sback _ _ _ _=>exact id
 |sdo _ _ _ _=>exact id
 |lpS _ _ _=>exact id
 |lp0 _ _ _=>exact id
 |lpEnd _ _ _ _ _ _ i2=>exact λh=>(i2 h.opn).tail
 |lpFuel _ _ _ _ _ _ i2=>exact λh=>(i2 h.opn).tail
 |lpGo _ _ _ _ _ _ _ i2 i3=>exact λh=>i3 (i2 h.opn).tail
 |_=>trivial
theorem vf{ps:List (List UInt8)}{us:List Int}(hp:ps.Pairwise (· ≠ ·))(hl:ps.length=us.length):Un5 [ps.zip us]:=by
 intro m hm
 rw[VK.1 hm]
 have:nmS (ps.zip us)=ps:=(CP ps us hl).1
 rw[this];exact hp
end
section
def aL(l:List Fd)(sid cid:Nat)(s:S5)(e:Int)(o:Bool):AO:= .row 7 [[.p (fdL l),.sl sid 1 0 s.said.length,.p (.int .i64 e),.p (.int .i64 0),.sl cid 1 0 16,.p (.int .i64 s.left),.p (.bool o)]]
def ca(nid n:Nat)(uv:AV)(b:Bool)(x:Int):AO:= .row 4 [[.sl nid 1 0 n,uv,.p (.bool b),.p (.int .i64 x)]]
inductive UV (h:List AO):AV->Nat->List Int->Prop where
 |nn (uid:Nat):UV h .nils uid []
 |ss (uid:Nat) (xs t:List Int):h[uid]?=some (bs (xs++t))->UV h (.sl uid 1 0 xs.length) uid xs
theorem UV.frame{h h':List AO}{uv:AV}{uid:Nat}{xs:List Int}(H:UV h uv uid xs)(e:uid<h.length->h'[uid]?=h[uid]?):UV h' uv uid xs:=by
 cases H with
 |nn=>exact .nn _
 |ss _ _ t h1=>exact .ss _ _ t (by rw[e (Vx.1 h1).1];exact h1)
theorem UV.ne{h:List AO}{uv:AV}{uid:Nat}{xs:List Int}(H:UV h uv uid xs)(hx:0<xs.length):∃t,uv= .sl uid 1 0 xs.length/\h[uid]?=some (bs (xs++t)):=by
 cases H with
 |nn=>simp at hx
 |ss _ _ t h1=>exact⟨t,rfl,h1⟩
theorem UV.cell{h:List AO}{uv:AV}{uid:Nat}{xs:List Int}(H:UV h uv uid xs):uv.isCell=true/\uv.cells=[uv]:=by cases H<;>exact⟨rfl,rfl⟩
structure RI (R cid:Nat) (l:List Fd) (sid:Nat) (s:S5) (e:Int) (o:Bool) (h:List AO):Prop where
 run:h[R]?=some (aL l sid cid s e o)
 said:h[sid]?=some (bs s.said)
 cells:h[cid]?=some (bs s.cells)
 ne:sid≠cid
structure EI (V nid uid:Nat) (uv:AV) (w:Sc5) (b:Bool) (x:Int) (h:List AO):Prop where
 env:h[V]?=some (ca nid w.length uv b x)
 names:∃t,h[nid]?=some (cJ (w.map (·.1)++t))
 vals:UV h uv uid (w.map (·.2))
 ne:nid≠uid
 ul:uid<h.length
structure Ap (R V sid cid nid uid:Nat):Prop where
 ns:nid≠sid
 nc:nid≠cid
 us:uid≠sid
 uc:uid≠cid
 uR:uid≠R
 uV:uid≠V
section
variable {R cid:Nat} {l:List Fd} {sid:Nat} {s:S5} {e:Int} {o:Bool} {h h':List AO} {V nid uid:Nat} {uv:AV} {w:Sc5} {b:Bool} {x:Int}
theorem RI.lt(H:RI R cid l sid s e o h):R<h.length/\sid<h.length/\cid<h.length:=⟨(Vx.1 H.run).1,(Vx.1 H.said).1,(Vx.1 H.cells).1⟩
theorem RI.neR(H:RI R cid l sid s e o h):R≠sid/\R≠cid:=by
 refine⟨λe=>?_,λe=>?_⟩
 ·have h1:=H.run;rw[e,H.said] at h1;simp[aL,bs] at h1
 ·have h1:=H.run;rw[e,H.cells] at h1;simp[aL,bs] at h1
theorem RI.frame(H:RI R cid l sid s e o h)(a:h'[R]?=h[R]?)(b:h'[sid]?=h[sid]?)(c:h'[cid]?=h[cid]?):RI R cid l sid s e o h':=⟨a.trans H.run,b.trans H.said,c.trans H.cells,H.ne⟩
theorem RI.more(H:RI R cid l sid s e o h)(os:List AO):RI R cid l sid s e o (h++os):=
 have hl:=H.lt
 H.frame (Vz hl.1) (Vz hl.2.1) (Vz hl.2.2)
theorem EI.lt(H:EI V nid uid uv w b x h):V<h.length/\nid<h.length/\uid<h.length:=by
 obtain⟨t,h1⟩:=H.names
 exact⟨(Vx.1 H.env).1,(Vx.1 h1).1,H.ul⟩
theorem EI.neN(H:EI V nid uid uv w b x h):V≠nid:=by
 obtain⟨t,h1⟩:=H.names
 intro e
 have h3:=H.env;rw[e,h1] at h3;simp[ca,cJ] at h3
theorem EI.neR(H:EI V nid uid uv w b x h){sid2:Nat}(K:RI R cid l sid2 s e o h):V≠R/\V≠sid2/\V≠cid/\nid≠R:=by
 obtain⟨t,h1⟩:=H.names
 have h3:=H.env
 refine⟨λe=>?_,λe=>?_,λe=>?_,λe=>?_⟩
 ·rw[e,K.run] at h3;simp[ca,aL] at h3
 ·rw[e,K.said] at h3;simp[ca,bs] at h3
 ·rw[e,K.cells] at h3;simp[ca,bs] at h3
 ·rw[e,K.run] at h1;simp[cJ,aL] at h1
theorem EI.frame(H:EI V nid uid uv w b x h)(hl:h.length<=h'.length)(a:h'[V]?=h[V]?)(c:h'[nid]?=h[nid]?)(d:h'[uid]?=h[uid]?):EI V nid uid uv w b x h':=by
 obtain⟨t,h1⟩:=H.names
 exact⟨a.trans H.env,⟨t,c.trans h1⟩,H.vals.frame λ_=>d,H.ne,VX H.ul hl⟩
theorem EI.more(H:EI V nid uid uv w b x h)(os:List AO):EI V nid uid uv w b x (h++os):=
 have hl:=H.lt
 H.frame (by simp) (Vz hl.1) (Vz hl.2.1) (Vz hl.2.2)
theorem EI.keep(H:EI V nid uid uv w b x h)(K:RI R cid l sid s e o h)(A:Ap R V sid cid nid uid)(F:Fr [R,sid,cid] h h'):EI V nid uid uv w b x h':=by
 obtain⟨a1,a2,a3,a4⟩:=H.neR K
 obtain⟨l1,l2,l3⟩:=H.lt
 exact H.frame F.1 (F.2 V l1 (by simp[a1,a2,a3])) (F.2 nid l2 (by simp[a4,A.ns,A.nc])) (F.2 uid l3 (by simp[A.uR,A.us,A.uc]))
theorem Ap.step{sid2:Nat}(H:EI V nid uid uv w b x h)(A:Ap R V sid cid nid uid)(f:sid2=sid\/h.length<=sid2):Ap R V sid2 cid nid uid:=by
 obtain⟨l1,l2,l3⟩:=H.lt
 obtain⟨a,b,c,d,e,f'⟩:=A
 rcases f with rfl|f
 ·exact⟨a,b,c,d,e,f'⟩
 ·exact⟨by omega,b,by omega,d,e,f'⟩
end
def bt{α:Type}:O5 α->Int
 | .ok _=>0
 | .st c=>c
def di{α:Type}:O5 α->Bool
 | .ok _=>false
 | .st _=>true
def ExL(R cid:Nat)(l:List Fd)(sid:Nat)(h:List AO)(s':S5)(r:O5 Int)(x:ARes)(h':List AO):Prop:=
 ∃(n:Int) (sid':Nat),x= .ret (.p (.int .i64 n))/\V5 n/\(∀m,r= .ok m->n=m)/\RI R cid l sid' s' (bt r) (di r) h'/\Fr [R,sid,cid] h h'/\(sid'=sid\/h.length<=sid')
def bkB:O5 (Option Int)->Bool
 | .ok (some _)=>true
 |_=>false
def bkV(x0:Int):O5 (Option Int)->Int
 | .ok (some n)=>n
 |_=>x0
def StL(R cid:Nat)(l:List Fd)(V sid nid uid:Nat)(h:List AO)(w:Sc5)(x0:Int)(s':S5)(r:O5 (Option Int))(x:ARes)(h':List AO):Prop:=
 ∃sid' nid' uid' uv',x= .ret (.tup [])/\RI R cid l sid' s' (bt r) (di r) h'/\EI V nid' uid' uv' w (bkB r) (bkV x0 r) h'/\Ap R V sid' cid nid' uid'/\Fr [R,sid,cid,V,nid,uid] h h'/\(sid'=sid\/h.length<=sid')/\(nid'=nid\/h.length<=nid')/\(uid'=uid\/h.length<=uid')
end
section
def jv(l:List Fd)(fuel:Nat)(sv:AV)(s:S5):AO:= .row 20 [[.p (fdL l),.p (.int .i64 fuel),.p (.int .i64 ((fuel-s.left:Nat):Int)),sv]++s.cells.map λn=> .p (.int .i64 n)]
inductive SaidAt (h:List AO):AV->Nat->List Int->Prop where
 |nn (sid:Nat):sid<h.length->SaidAt h .nils sid []
 |ss (sid:Nat) (xs:List Int):h[sid]?=some (bs xs)->SaidAt h (.sl sid 1 0 xs.length) sid xs
structure MI (M:Nat) (l:List Fd) (fuel:Nat) (sv:AV) (sid:Nat) (s:S5) (h:List AO):Prop where
 men:h[M]?=some (jv l fuel sv s)
 said:SaidAt h sv sid s.said
 le:s.left<=fuel
 fu:fuel<=4000
 len:s.cells.length=16
def mpV(m:Sc5):List (PV × AV):=m.map λx=>(.str x.1,.p (.int .i64 x.2))
inductive Chn (h:List AO):AV->List Sc5->List Nat->Prop where
 |last (e m:Nat) (c:Sc5):h[e]?=some (.row 2 [[.mp m,.nilp]])->h[m]?=some (.mp (mpV c))->Chn h (.ptr e 2 0 0) [c] [e,m]
 |cons (e m:Nat) (c:Sc5) (u:AV) (v:List Sc5) (I:List Nat):h[e]?=some (.row 2 [[.mp m,u]])->h[m]?=some (.mp (mpV c))->Chn h u v I->Chn h (.ptr e 2 0 0) (c::v) (e::m::I)
section
variable {h h':List AO} {u:AV} {v:List Sc5} {I:List Nat}
theorem Chn.frame(H:Chn h u v I)(e:∀i∈I,h'[i]?=h[i]?):Chn h' u v I:=by
 induction H with
 |last a m c h1 h2=>exact .last a m c (by rw[e a (by simp)];exact h1) (by rw[e m (by simp)];exact h2)
 |cons a m c u v I h1 h2 _ ih=>exact .cons a m c u v I (by rw[e a (by simp)];exact h1) (by rw[e m (by simp)];exact h2) (ih λi hi=>e i (by simp[hi]))
theorem Chn.lt(H:Chn h u v I):∀i∈I,i<h.length:=by
 induction H with
 |last a m c h1 h2=>
  intro i hi
  simp only[VL,Wa,or_false] at hi
  rcases hi with rfl|rfl
  ·exact(Vx.1 h1).1
  ·exact(Vx.1 h2).1
 |cons a m c u v I h1 h2 _ ih=>
  intro i hi
  simp only[VL] at hi
  rcases hi with rfl|rfl|hi
  ·exact(Vx.1 h1).1
  ·exact(Vx.1 h2).1
  ·exact ih i hi
theorem Chn.more(H:Chn h u v I)(os:List AO):Chn (h++os) u v I:=H.frame λi hi=>Vz (H.lt i hi)
theorem Chn.is(H:Chn h u v I):∃e,u= .ptr e 2 0 0/\e∈I/\e<h.length:=by
 cases H with
 |last a m c h1 h2=>exact⟨a,rfl,by simp,(Vx.1 h1).1⟩
 |cons a m c u v I h1 h2 _=>exact⟨a,rfl,by simp,(Vx.1 h1).1⟩
theorem Chn.apart(H:Chn h u v I){i sz:Nat}{es:List (List AV)}(hi:h[i]?=some (.row sz es))(hz:sz≠2):i∉I:=by
 induction H with
 |last a m c h1 h2=>
  simp only[VL,Wa,or_false,not_or]
  refine⟨λe=>?_,λe=>?_⟩
  ·subst e;rw[h1] at hi;simp only[Option.some.injEq,AO.row.injEq] at hi;exact hz hi.1.symm
  ·subst e;rw[h2] at hi;cases hi
 |cons a m c u v I h1 h2 _ ih=>
  simp only[VL,not_or]
  refine⟨λe=>?_,λe=>?_,ih⟩
  ·subst e;rw[h1] at hi;simp only[Option.some.injEq,AO.row.injEq] at hi;exact hz hi.1.symm
  ·subst e;rw[h2] at hi;cases hi
theorem zm(s:List UInt8):∀m:Sc5,fe (.str s) (mpV m)=some ((bO m s).map λn=>AV.p (.int .i64 n))
 |[]=>rfl
 |x::r=>by
  have ih:=zm s r
  by_cases h:x.1=s
  ·simp[mpV,fe,keq,h,bO]
  ·have h':¬s=x.1:=λe=>h e.symm
   simp only[mpV,VY,fe,keq,h',decide_false]
   simp only[mpV] at ih
   rw[ih];simp[bO,h]
theorem tC(s:List UInt8)(n:Int):∀m:Sc5,gX (.str s) (.p (.int .i64 n)) (mpV m)=some (mpV (if(bO m s).isSome then sset m s n else m++[(s,n)]))
 |[]=>rfl
 |x::r=>by
  have ih:=tC s n r
  by_cases h:x.1=s
  ·simp[mpV,gX,keq,h,bO,sset]
  ·have h':¬s=x.1:=λe=>h e.symm
   simp only[mpV,VY,gX,keq,h',decide_false]
   simp only[mpV] at ih
   rw[ih,bO,if_neg h,sset,if_neg h]
   cases (bO r s).isSome<;>simp
theorem Chn.var(H:Chn h u v I)(nd:I.Nodup){s:List UInt8}{n:Int}(hv:fQ v s=some n):
 ∃(e m:Nat) (c:Sc5) (w:AV),h[e]?=some (.row 2 [[.mp m,w]])/\h[m]?=some (.mp (mpV c))/\bO c s=some n/\m∈I/\∀k,Chn (h.set m (.mp (mpV (sset c s k)))) u (gq v s k) I:=by
 induction H with
 |last a m c h1 h2=>
  rw[fQ] at hv
  have hm:=(Vx.1 h2).1
  have hne:m≠a:=λe=>by subst e;rw[h1] at h2;cases h2
  cases hs:bO c s with
  |none=>rw[hs] at hv;cases hv
  |some k=>
   rw[hs] at hv;cases hv
   refine⟨a,m,c,.nilp,h1,h2,hs,by simp,λq=>?_⟩
   rw[gq,hs]
   exact .last a m _ (by rw[Vy hne];exact h1) (VC hm)
 |cons a m c u v I h1 h2 H ih=>
  rw[fQ] at hv
  have hm:=(Vx.1 h2).1
  have hne:m≠a:=λe=>by subst e;rw[h1] at h2;cases h2
  simp only[Wy,VL,not_or] at nd
  cases hs:bO c s with
  |some k=>
   rw[hs] at hv;cases hv
   refine⟨a,m,c,u,h1,h2,hs,by simp,λq=>?_⟩
   rw[gq,hs]
   exact .cons a m _ u v I (by rw[Vy hne];exact h1) (VC hm) (H.frame λi hi=>Vy (show m≠i from λe=>nd.2.1 (e▸hi)))
  |none=>
   rw[hs] at hv
   obtain⟨e',m',c',w,g1,g2,g3,g4,g5⟩:=ih nd.2.2 hv
   refine⟨e',m',c',w,g1,g2,g3,by simp[g4],λq=>?_⟩
   rw[gq,hs]
   have n1:m'≠a:=λe=>nd.1.2 (e▸g4)
   have n2:m'≠m:=λe=>nd.2.1 (e▸g4)
   exact .cons a m c u _ I (by rw[Vy n1];exact h1) (by rw[Vy n2];exact h2) (g5 q)
end
section
variable {M:Nat} {l:List Fd} {fuel:Nat} {sv:AV} {sid:Nat} {s:S5} {h h':List AO}
theorem SaidAt.frame{xs:List Int}(H:SaidAt h sv sid xs)(hl:h.length<=h'.length)(e:sv≠ .nils->h'[sid]?=h[sid]?):SaidAt h' sv sid xs:=by
 cases H with
 |nn _ h1=>exact .nn _ (VX h1 hl)
 |ss _ _ h1=>exact .ss _ _ (by rw[e (by simp)];exact h1)
theorem SaidAt.lt{xs:List Int}(H:SaidAt h sv sid xs):sid<h.length:=by
 cases H with
 |nn _ h1=>exact h1
 |ss _ _ h1=>exact(Vx.1 h1).1
theorem MI.lt(H:MI M l fuel sv sid s h):M<h.length:=(Vx.1 H.men).1
theorem MI.frame(H:MI M l fuel sv sid s h)(hl:h.length<=h'.length)(a:h'[M]?=h[M]?)(b:h'[sid]?=h[sid]?):MI M l fuel sv sid s h':=⟨a.trans H.men,H.said.frame hl λ_=>b,H.le,H.fu,H.len⟩
theorem SaidAt.more{xs:List Int}(H:SaidAt h sv sid xs)(os:List AO):SaidAt (h++os) sv sid xs:=H.frame (by simp) λ_=>Vz H.lt
theorem MI.more(H:MI M l fuel sv sid s h)(os:List AO):MI M l fuel sv sid s (h++os):=
 ⟨by rw[Vz H.lt];exact H.men,H.said.more os,H.le,H.fu,H.len⟩
theorem SaidAt.cell{xs:List Int}(H:SaidAt h sv sid xs):sv.isCell=true/\sv.cells=[sv]:=by cases H<;>exact⟨rfl,rfl⟩
end
end
end Go.Proofs.YtokiapglmedipaaGreatDoor
namespace Go.Aw
open Go
section
variable {G:al} {W:World} {S:Nat->Prop} {φ:Aw.Place} {h:List AO}
theorem HRel.box_at(H:HRel G W S φ h){id:Nat}{x:Int}(e:h[id]?=some (.row 1 [[.p (.int .i64 x)]])):
 W.cell? ⟨(φ id).1,(φ id).2,none⟩=some (.int .i64 x)/\W.frozen? ⟨(φ id).1,(φ id).2,none⟩=false/\
  ∀c:Int,HRel G (W.setCell ⟨(φ id).1,(φ id).2,none⟩ (.int .i64 c)) S φ (h.set id (.row 1 [[.p (.int .i64 c)]]))/\Keep W S φ h (W.setCell ⟨(φ id).1,(φ id).2,none⟩ (.int .i64 c)) S φ (h.set id (.row 1 [[.p (.int .i64 c)]])):=by
 obtain⟨c0,t0,fr,a1,a2,a3,a4,a5⟩:=H.obj id 1 _ e
 obtain⟨_,v,b1,b2⟩:=a5 0 (.p (.int .i64 x)) rfl
 have hv:=bA b2
 subst hv
 rw[Nat.add_zero] at b1
 have hlt:(φ id).2<c0.size:=(VZ.1 b1).1
 refine⟨by simp only[World.cell?,a1];simpa using b1,?_,λc=>?_⟩
 ·simp only[World.frozen?,a1]
  have:=a2 _ hlt
  simp only[not_and,Nat.not_lt] at this
  by_cases hq:fr.1<=(φ id).2
  ·have:=this hq
   simp[hq];omega
  ·simp[hq]
 ·have B:=rz (off:=(φ id).2) a1 (.int .i64 c)
  refine H.update e a1 (by simp) B (by simpa using a2) (λq hq=>by rw[VK.1 hq];rfl) (by simpa using a4) λj u hj=>?_
  cases j with
  |zero=>
   cases hj
   refine⟨rfl,.int .i64 c,?_,.p _ _ (.int _ _)⟩
   rw[Nat.add_zero,Array.getElem?_setIfInBounds_self_of_lt hlt]
  |succ j=>simp at hj
end
theorem Mo{P:Program}{ops:Array Oper}{Q:Exit->Act->World->Prop}{o:Oper}{rest:List Oper}{a:Act}{w w':World}{v:Value}(hg:o.guard=none)(hr:(execOp a.eval o).run P w= .halt (.panic v) w')(h:Q (.panic [{v,recovered:=false}]) a w'):wpList P ops Q (o::rest) a w:=by
 simp only[wpList]
 rw[if_pos (by simp[Region.wanted,hg])]
 refine .inl ?_
 unfold Oper.wp
 rw[hr]
 exact h
theorem LP{P:Program}{ops:Array Oper}{Q:Exit->Act->World->Prop}{o:Oper}{rest:List Oper}{a:Act}{w w':World}{d:Deferred}(hg:o.guard=none)(hr:(execOp a.eval o).run P w= .ok (.defer d) w')(h:wpList P ops Q rest ({a with defers:=d::a.defers}.put o.dst undef) w'):wpList P ops Q (o::rest) a w:=by
 simp only[wpList]
 rw[if_pos (by simp[Region.wanted,hg])]
 refine .inl ?_
 unfold Oper.wp
 rw[hr]
 exact h
theorem HD{P:Program}{ops:Array Oper}{Q:Exit->Act->World->Prop}{o:Oper}{rest:List Oper}{a:Act}{w w':World}(hg:o.guard=none)(hr:(execOp a.eval o).run P w= .ok .skip w')(h:wpList P ops Q rest (a.put o.dst undef) w'):wpList P ops Q (o::rest) a w:=by
 simp only[wpList]
 rw[if_pos (by simp[Region.wanted,hg])]
 refine .inl ?_
 unfold Oper.wp
 rw[hr]
 exact h
theorem KU{P:Program}{ops:Array Oper}{Q:Exit->Act->World->Prop}{o:Oper}{rest:List Oper}{a:Act}{w w':World}{f:FuncId}{vs:Array Value}{R:Ending->World->Prop}(hg:o.guard=none)(hr:(execOp a.eval o).run P w= .ok (.enter f vs) w')
 (hc:Calls P f vs w' R)(h1:∀v w2,R (.returned v) w2->wpList P ops Q rest (a.put o.dst v) w2)(h2:∀chain w2,R (.panicked chain) w2->Q (.panic chain) a w2)(h3:∀w2,¬R .outgrown w2):wpList P ops Q (o::rest) a w:=by
 simp only[wpList]
 rw[if_pos (by simp[Region.wanted,hg])]
 refine .inl ?_
 unfold Oper.wp
 rw[hr,Oper.upon_enter]
 refine hc.mono λe w2 r=>?_
 cases e with
 |returned v=>exact h1 v w2 r
 |panicked chain=>exact h2 chain w2 r
 |outgrown=>exact(h3 w2 r).elim
theorem sQ{P:Program}{f:FuncId}(hc:fV P f=true)(args caps:Array Value)(w:World):(invoke (.fn (.func f) caps) args).run P w= .ok (.enter f (args++caps)) w:=by
 unfold fV at hc
 split at hc
 ·rename_i fn hf
  simp only[VS,Bool.not_eq_true',beq_eq_false_iff_ne] at hc
  obtain⟨hb,hn⟩:=hc
  obtain⟨c,hb⟩:=Option.isSome_iff_exists.1 hb
  simp[invoke,callFunc,hf,hn,hb]
 ·cases hc
end Go.Aw
