/-
  Contracts and lemmas that the card needs, part 6.
-/
import Derived.Test.YtokiapglmedipaaGreatDoorFl5
import Derived.Lib.SlicesCompact
import Derived.Recover
namespace Go.Proofs.YtokiapglmedipaaGreatDoor
open Go Go.Aw
set_option maxRecDepth 100000
set_option maxHeartbeats 4000000
section
theorem pZ:AK.whole fe=FK.ak fw:=rfl
theorem Eo(fns:List Fd)(k b:Nat):∀(x y:List Sm) (w:WS),bM fns k b (x++y) w=bM fns k b y (bM fns k b x w)
 |[],y,w=>rfl
 |s::r,y,w=>by rw[Vn,bM,bM,Eo fns k b r]
theorem ES(fns:List Fd)(k b:Nat):∀(x y:List Sm) (w:WS),ir fns k b (x++y) w=ir fns k b x w++ir fns k b y (bM fns k b x w)
 |[],y,w=>rfl
 |s::r,y,w=>by rw[Vn,ir,ir,ES fns k b r];rfl
theorem IY{fns:List Fd}{k b:Nat}{l:List Sm}{w:WS}{i:Nat}(h:i<l.length):bM fns k b (l.take (i+1)) w=stW fns k b l[i] (bM fns k b (l.take i) w):=by
 rw[aq h,Eo];rfl
theorem HY{fns:List Fd}{k b:Nat}{l:List Sm}{w:WS}{i:Nat}(h:i<l.length):ir fns k b (l.take (i+1)) w=ir fns k b (l.take i) w++[rnS fns k b l[i] (bM fns k b (l.take i) w)]:=by
 rw[aq h,ES];rfl
theorem Ao(fns:List Fd)(k b:Nat):∀(l:List Sm) (w:WS),(ir fns k b l w).length=l.length
 |[],w=>rfl
 |s::r,w=>by rw[ir,UW,Ao fns k b r,UW]
theorem Ni{l:List Sm}{i:Nat}(h:i<l.length):aD (l.take i)+l[i].sz<=aD l:=by
 have e:l=l.take i++l[i]::l.drop (i+1):=by rw[←Vz h,Vu]
 have h2:aD l=aD (l.take i)+(l[i].sz+aD (l.drop (i+1))):=by
  conv=>lhs;rw[e]
  rw[bv];rfl
 omega
def su(fns:List Fd)(k b:Nat)(l:List Sm)(w:WS):WS:=if 0<b then(bM fns k b l w).back w.vs else bM fns k b l w
theorem FR(fns:List Fd)(k b:Nat)(l:List Sm)(w:WS):(su fns k b l w).count=w.count+re l:=by
 unfold su
 split
 ·exact iI fns k l b w
 ·exact iI fns k l b w
theorem Ly{e vs:List LV}:(lvR (e++vs)).take vs.length=lvR vs:=by
 have h:lvR (e++vs)=lvR vs++lvR e:=by simp[lvR]
 rw[h,List.take_append_of_le_length (by rw[yJ];exact UM _),UG (by rw[yJ];exact UM _)]
theorem BT(l:List Sm):re l<=aD l:=UR (tg l) (pr l)
theorem FZ(nf:Bool)(id n:Nat):(vaC nf id n).isCell=true:=by cases nf<;>rfl
theorem Jg(nf:Bool)(id n:Nat):(vaC nf id n).cells=[vaC nf id n]:=by cases nf<;>rfl
attribute [simp ↓] FZ Jg
variable (G:al)
def StP(fns:List Fd)(k b:Nat)(l:List Sm)(w:WS)(x:ARes)(h:List AO):Prop:=∃nf' w',x= .ret (.p (smL (ir fns k b l w)))/\h=[wO 2 nf' fns k w',.dead,roC nf' w'.vs]/\(nf'=true->w'.vs=[])/\w'=su fns k b l w
structure StS where (i:Nat) (nf:Bool)
theorem Lz{fns:List Fd}{k:Nat}(hf:fns.length<=1099511627776):∀(N:Nat) (l:List Sm),aD l<N->∀(b:Nat) (nf:Bool) (w:WS),(nf=true->w.vs=[])->w.vs.length<=w.count->w.count+aD l<=1099511627776->b+aD l<=1099511627776->
 AC Tryz.prog G cf [.ptr 0 5 0 0,.p (smL l),.p (.int .i64 b)] (HWk nf fns k w) (StP fns k b l w):=by
 intro N
 induction N with
 |zero=>
  intro l hl b nf w hn hv hc hb
  omega
 |succ N ih=>
  intro l hl b nf w hn hv hc hb
  have hll:=cn l
  refine AC.goK pQ pZ ?_
  have hsl:∀l,smL l= .lst 5 (l.map Sm.cs):=λ_=>rfl
  have hlen0:Gm (vaC nf 1 w.vs.length)=some (.p (.int .i64 w.vs.length)):=by
   cases nf
   ·rfl
   ·simp[vaC,hn rfl]
  simp-implicitDefEqProofs[fe,fw,HWk,wO,wC,hlen0]
  refine aL (λs:StS=>ah 96 [(0,.ptr 0 5 0 0),(1,.p (smL l)),(2,.p (.int .i64 b)),(7,.sl 2 5 0 s.i),(8,.p (.int .i64 w.vs.length)),(9,.p (.int .i64 s.i))])
   (λs=>[wO 3 s.nf fns k (bM fns k b (l.take s.i) w),.dead,.row 5 (smR (ir fns k b (l.take s.i) w)),roC s.nf (bM fns k b (l.take s.i) w).vs])
   (λs=>s.i<=l.length/\(s.nf=true->(bM fns k b (l.take s.i) w).vs=[])) (λs=>l.length-s.i) ⟨0,nf⟩ ⟨by simp,hn⟩ ?_ ?_
  ·refine Hz [0,1,2,1] (by simp) (by decide) ?_ (zS (by simp) rfl (eK (by simp) (bf rfl (by simp[smR,ir]) (bS rfl (fY _ _ _) bR)))) (by simp[below,ren])
   cases nf<;>simp[ji,roC,wO,bM]
  ·rintro⟨i,nf⟩ ⟨hi,hn⟩
   simp only at hi hn
   simp-implicitDefEqProofs[hsl]
   refine bc (λh=>?_) (λh=>?_)
   ·simp at h
    have hg:=UC h
    have hat:=Ni h
    have hse:=l[i].cs_eq
    have hsz:=l[i].sz_eq
    have hle:=Hp fns k (l:=l.take i) (b:=b) hv
    have hcn:=iI fns k (l.take i) b w
    have hlz:=BT (l.take i)
    have eW:=IY (fns:=fns) (k:=k) (b:=b) (w:=w) h
    have eR:=HY (fns:=fns) (k:=k) (b:=b) (w:=w) h
    have hol:=Ao fns k b (l.take i) w
    rw[Vf,Nat.min_eq_left hi] at hol
    generalize l[i]=s at hg hat hse hsz eW eR
    generalize bM fns k b (l.take i) w=wi at hn hle hcn eW eR⊢
    generalize ir fns k b (l.take i) w=out at hol eR⊢
    obtain⟨o,nme,a,bd,el⟩:=s
    simp only[Sm.op,Sm.name,Sm.args,Sm.body,Sm.els] at hse hsz
    simp-implicitDefEqProofs[hg,hse]
    have hxl:∀l,exL l= .lst 4 (l.map Ex.cs):=λ_=>rfl
    have hal:=bB a
    have hlE:=BT bd
    have hwl:wi.vs.length<=1099511627776:=by omega
    have hopR:∀(x y z u v:AV),af 0 [x,y,z,u,v]->okO 5 (AO.row 5 [[x,y,z,u,v]]):=λx y z u v hh=>eb (λe he=>by rw[UL.1 he];exact hh)
    refine aL (λj:Nat=>ah 96 [(0,.ptr 0 5 0 0),(1,.p (smL l)),(2,.p (.int .i64 b)),(7,.sl 2 5 0 i),(8,.p (.int .i64 w.vs.length)),(9,.p (.int .i64 i)),(10,.ptr 4 5 0 0),(11,.sl 5 4 0 j),(12,.p (.int .i64 j))])
     (λj=>[wO 3 nf fns k ⟨wi.vs,wi.count,bI fns k wi.vs (a.take j) wi.code⟩,.dead,.row 5 (smR out),roC nf wi.vs,.row 5 [[.p (.int .i64 o),.p (.str nme),.p (exL a),.p (smL bd),.p (smL el)]],.row 4 (exR (kY wi.vs (a.take j)))])
     (λj=>j<=a.length) (λj=>a.length-j) 0 (by simp) ?_ ?_
    ·refine ae (h:=[wO 3 nf fns k wi,.dead,.row 5 (smR out),roC nf wi.vs,.row 5 [[.p (.int .i64 o),.p (.str nme),.p (exL a),.p (smL bd),.p (smL el)]],.row 4 []]) (by simp) (aj (vD (by simp)) (aj trivial (aj (eb (dN out)) (aj (fY _ _ _) (by simp[okO,below]))))) (by simp[below,hsl])
    intro j hj
    have hrl:(exR (kY wi.vs (a.take j))).length=j:=by rw[GI,sV];simp;omega
    simp-implicitDefEqProofs[hxl]
    refine bc (λhc=>?_) (λhc=>?_)
    ·simp at hc
     have hga:=UC hc
     have hks:=bN (US hc)
     have hkc:=(rnE wi.vs a[j]).cs_eq
     simp-implicitDefEqProofs[hga]
     refine(PJ G (id:=3) (Oo G hf (a[j].sz) a[j] (UM _) (by omega) nf ⟨wi.vs,wi.count,bI fns k wi.vs (a.take j) wi.code⟩ hn hwl) (by simp) (by simp[below]) (by decide) rfl rfl).mono ?_
     rintro r h' ⟨rfl,rfl⟩
     rw[show(rnE (WS.mk wi.vs wi.count (bI fns k wi.vs (a.take j) wi.code)).vs a[j])=rnE wi.vs a[j] from rfl]
     simp-implicitDefEqProofs[aa,hkc,hrl]
     refine⟨by omega,j+1,by omega,by omega,?_⟩
     have htk:List.take j (exR (kY wi.vs (a.take j)))=exR (kY wi.vs (a.take j)):=UG (by omega)
     rw[zf hc,Bu hc,GN,htk]
     refine cY [0,1,2,3,4,7] (by simp) (by decide) (by decide) (zS (by simp) rfl (eK (by simp) (bf rfl (dN out) (bS rfl (fY _ _ _) (bf rfl (by simp[below]) (bf ?_ ?_ bR)))))) (by simp[below,ren,hsl,w1 (i:=j) (by omega)])
     ·have:exR [rnE wi.vs a[j]]=[[.p (.int .i64 (rnE wi.vs a[j]).op),.p (.int .i64 (rnE wi.vs a[j]).n),.p (.str (rnE wi.vs a[j]).name),.p (exL (rnE wi.vs a[j]).kids)]]:=by rw[exR,VE,hkc];rfl
      rw[this];rfl
     ·intro x hx
      rcases UJ.1 hx with h|h
      ·exact dM _ x h
      ·exact dM _ x h
    simp at hc
    have hje:j=a.length:=by omega
    subst hje
    rw[List.take_length] at hrl⊢
    have hal2:=sV wi.vs a
    simp-implicitDefEqProofs[]
    generalize hw1:WS.mk wi.vs wi.count (bI fns k wi.vs a wi.code)=w1
    have e1v:w1.vs=wi.vs:=by rw[←hw1]
    have e1c:w1.count=wi.count:=by rw[←hw1]
    have e1l:w1.vs.length=wi.vs.length:=by rw[e1v]
    rw[←e1v]
    refine nq (ah 96 [(0,.ptr 0 5 0 0),(1,.p (smL l)),(2,.p (.int .i64 b)),(7,.sl 2 5 0 i),(8,.p (.int .i64 w.vs.length)),(9,.p (.int .i64 i)),(10,.ptr 4 5 0 0)])
     [wO 3 nf fns k w1,.dead,.row 5 (smR out),roC nf w1.vs,.row 5 [[.p (.int .i64 o),.p (.str nme),.p (exL (kY w1.vs a)),.p (smL bd),.p (smL el)]]] ?_ ?_
    ·simp-implicitDefEqProofs[]
     refine nk 5 (by omega) (by simp) rfl (.same (vD (by omega)) (.dead (.same (eb (dN out)) (.same (fY _ _ _) (.one (.keep (by simp[below]) (.keep (by simp[below]) (.one ?_ (.keep (by simp[below]) (.keep (by simp[below]) .nil))))) (.nil _)))))) ?_
     ·rw[←e1v] at hal2
      rw[←hal2]
      exact DY rfl
     ·refine⟨.keep (by simp[below]) .nil,.keep (by simp[below]) .nil,.keep (by simp[below]) .nil,.keep (by simp[below]) .nil,.keep (by simp[below]) .nil,.keep (by simp[below]) .nil,.keep (by simp[below]) .nil,trivial⟩
    have TT:∀(r1:List (Nat × AV)),Aw.look r1 0= .ptr 0 5 0 0->Aw.look r1 1= .p (smL l)->Aw.look r1 2= .p (.int .i64 b)->Aw.look r1 7= .sl 2 5 0 i->Aw.look r1 8= .p (.int .i64 w.vs.length)->Aw.look r1 9= .p (.int .i64 i)->Aw.look r1 10= .ptr 4 5 0 0->∀ρ:List Nat,ρ.length=5->ρ.getD 0 0=0->ρ.getD 2 0=2->ρ.getD 4 0=4->
     TWA ρ r1 [(0,.ptr 0 5 0 0),(1,.p (smL l)),(2,.p (.int .i64 b)),(7,.sl 2 5 0 i),(8,.p (.int .i64 w.vs.length)),(9,.p (.int .i64 i)),(10,.ptr 4 5 0 0)]:=by
     intro r1 a0 a1 a2 a7 a8 a9 a10 ρ hr r0 r2 r4
     simp[below,ren,hr,a0,a1,a2,a7,a8,a9,a10]
     rw[UP,UC (by omega)] at r0 r2 r4
     exact⟨r0,r2,r4⟩
    have hn1:nf=true->w1.vs=[]:=λh=>by rw[e1v];exact hn h
    have okB:∀(nf:Bool) (w:WS) (r:AO),okO 0 r->∀x∈[wO 3 nf fns k w,.dead,.row 5 (smR out),roC nf w.vs,r],okO 5 x:=λnf w r hr=>
     aj (vD (by omega)) (aj trivial (aj (eb (dN out)) (aj (fY _ _ _) (aj (eb hr) fS))))
    refine nq (ah 96 [(0,.ptr 0 5 0 0),(1,.p (smL l)),(2,.p (.int .i64 b)),(7,.sl 2 5 0 i),(8,.p (.int .i64 w.vs.length)),(9,.p (.int .i64 i)),(10,.ptr 4 5 0 0)])
     [wO 3 (if o=1 then false else nf) fns k (if o=1 then gV w1 nme b else w1),.dead,.row 5 (smR out),roC (if o=1 then false else nf) (if o=1 then gV w1 nme b else w1).vs,.row 5 [[.p (.int .i64 o),.p (.str (if o=1 then vnm w1.count else nme)),.p (exL (kY w1.vs a)),.p (smL bd),.p (smL el)]]] ?_ ?_
    ·by_cases o1:o=1
     ·simp-implicitDefEqProofs[o1]
      refine(LU G (id:=3) (Q:=λnf' w'=>nf'=false/\w'=gV w1 nme b) ((Lw G nf fns k w1 hn1 (by omega) (by omega) nme b).mono (by rintro x h ⟨rfl,rfl⟩;exact⟨false,_,rfl,rfl,rfl,rfl⟩)) (by simp) (by simp[below]) (by decide) rfl rfl).mono ?_
      rintro r h' ⟨nf',w',rfl,rfl,rfl,rfl⟩
      simp-implicitDefEqProofs[aa]
      refine cY [0,1,2,5,4] (by simp) (by decide) (by decide) (zS (by simp) rfl (eK (by simp) (bf rfl (dN out) (bS rfl (fY _ _ _) (bf rfl (by simp[below]) bR))))) (TT _ (by simp) (by simp) (by simp) (by simp) (by simp) (by simp) (by simp) _ rfl rfl rfl rfl)
     ·simp-implicitDefEqProofs[o1]
      refine ae (by simp) (okB nf w1 _ (by simp[okO,below])) (by simp[below])
    generalize hw2:(if o=1 then gV w1 nme b else w1)=w2
    generalize hnf2:(if o=1 then false else nf)=nf2
    generalize hnm2:(if o=1 then vnm w1.count else nme)=nm2
    have hn2:nf2=true->w2.vs=[]:=by
     intro h
     by_cases o1:o=1
     ·rw[if_pos o1] at hnf2;rw[←hnf2] at h;cases h
     ·rw[if_neg o1] at hnf2 hw2;rw[←hw2];exact hn1 (by rw[hnf2];exact h)
    have h2c:w2.count=w1.count+if o=1 then 1 else 0:=by rw[←hw2];split<;>rfl
    have h2v:w2.vs.length<=w2.count:=by
     rw[←hw2];split
     ·simp[gV];omega
     ·omega
    have h2b:w2.count<=wi.count+1:=by rw[h2c,e1c];split<;>omega
    refine nq (ah 96 [(0,.ptr 0 5 0 0),(1,.p (smL l)),(2,.p (.int .i64 b)),(7,.sl 2 5 0 i),(8,.p (.int .i64 w.vs.length)),(9,.p (.int .i64 i)),(10,.ptr 4 5 0 0)])
     [wO 3 nf2 fns k (opW o nme b w1),.dead,.row 5 (smR out),roC nf2 (opW o nme b w1).vs,.row 5 [[.p (.int .i64 o),.p (.str (opN o nme w1)),.p (exL (kY w1.vs a)),.p (smL bd),.p (smL el)]]] ?_ ?_
    ·by_cases o2:o=2
     ·have o1:¬o=1:=by omega
      rw[if_neg o1] at hw2 hnm2
      subst hw2;subst hnm2
      have eo:opW o nme b w1=⟨w1.vs,w1.count,oT w1.vs nme w1.code⟩:=by rw[opW,if_neg o1,if_pos o2]
      have en:opN o nme w1=yQ w1.vs nme:=by rw[opN,if_neg o1,if_pos o2]
      rw[eo,en]
      simp-implicitDefEqProofs[o2]
      refine(PJ G (id:=3) (La G nf2 fns k w1 hn2 (by omega) nme) (by simp) (by simp[below]) (by decide) rfl rfl).mono ?_
      rintro r h' ⟨rfl,rfl⟩
      simp-implicitDefEqProofs[aa]
      refine ae (h:=[wO 3 nf2 fns k ⟨w1.vs,w1.count,oT w1.vs nme w1.code⟩,.dead,.row 5 (smR out),roC nf2 w1.vs,_]) (by simp) (okB nf2 ⟨w1.vs,w1.count,oT w1.vs nme w1.code⟩ _ (by simp[okO,below])) (by simp[below])
     ·have eo:opW o nme b w1=w2:=by rw[opW,if_neg o2,←hw2]
      have en:opN o nme w1=nm2:=by rw[opN,if_neg o2,←hnm2]
      rw[eo,en]
      simp-implicitDefEqProofs[o2]
      refine ae (by simp) (okB nf2 w2 _ (by simp[okO,below])) (by simp[below])
    have eov:(opW o nme b w1).vs=w2.vs:=by
     rw[opW,←hw2];split
     ·rfl
     ·split<;>rfl
    have eoc:(opW o nme b w1).count=w2.count:=by rw[uB,h2c]
    have hwb:IntKind.i64.wrap ((b:Int)+1)=((b+1:Nat):Int):=by rw[ab (by omega) (by omega)];omega
    have hstw:stW fns k b (.mk o nme a bd el) wi=su fns k (b+1) el (su fns k (b+1) bd (opW o nme b w1)):=by
     rw[stW]
     simp only[hw1,su,Nat.succ_pos,if_true]
     rfl
    have hrns:(rnS fns k b (.mk o nme a bd el) wi).cs=[.int .i64 o,.str (opN o nme w1),exL (kY w1.vs a),smL (ir fns k (b+1) bd (opW o nme b w1)),smL (ir fns k (b+1) el (su fns k (b+1) bd (opW o nme b w1)))]:=by
     rw[rnS,Sm.cs_eq]
     simp only[hw1,su,Nat.succ_pos,if_true,Sm.op,Sm.name,Sm.args,Sm.body,Sm.els,e1v]
     have:opN o nme wi=opN o nme w1:=by simp only[opN,e1v,e1c]
     rw[this]
    rw[hstw] at eW
    clear hstw
    generalize opW o nme b w1=w3 at eov eoc hrns eW⊢
    have hn3:nf2=true->w3.vs=[]:=λh=>by rw[eov];exact hn2 h
    have h3v:w3.vs.length<=w3.count:=by rw[eov,eoc];exact h2v
    simp-implicitDefEqProofs[hwb]
    refine(LU G (id:=3) (ih bd (by omega) (b+1) nf2 w3 hn3 h3v (by omega) (by omega)) (by simp) (by simp[below]) (by decide) rfl rfl).mono ?_
    rintro r h' ⟨nf4,w4,rfl,rfl,hn4,hw4⟩
    rw[←hw4] at hrns eW
    have h4c:w4.count=w3.count+re bd:=by rw[hw4];exact FR _ _ _ _ _
    have h4v:w4.vs.length<=w4.count:=by
     have:w4.vs=w3.vs:=by rw[hw4];simp[su,WS.back]
     rw[this,h4c];omega
    simp-implicitDefEqProofs[aa,hwb]
    refine(LU G (id:=5) (ih el (by omega) (b+1) nf4 w4 hn4 h4v (by omega) (by omega)) (by simp) (by simp[below]) (by decide) rfl rfl).mono ?_
    rintro r h' ⟨nf5,w5,rfl,rfl,hn5,hw5⟩
    rw[←hw5] at eW
    have hsl2:(smR out).length=i:=by rw[fQ];exact hol
    simp-implicitDefEqProofs[aa,hsl2]
    refine⟨⟨by omega,by omega⟩,⟨i+1,nf5⟩,⟨by simp only;omega,λh=>by simp only at h⊢;rw[eW];exact hn5 h⟩,by simp only;omega,?_⟩
    simp only
    rw[eW,eR,Cb]
    have htk:List.take i (smR out)=smR out:=UG (by omega)
    rw[htk]
    have hsm1:smR [rnS fns k b (.mk o nme a bd el) wi]=[[.p (.int .i64 o),.p (.str (opN o nme w1)),.p (exL (kY w1.vs a)),.p (smL (ir fns k (b+1) bd w3)),.p (smL (ir fns k (b+1) el w4))]]:=by rw[smR,VE,hrns];rfl
    rw[hsm1]
    refine cY [0,1,8,6] (by simp) (by decide) (by decide) (zS (by simp) rfl (eK (by simp) (bf rfl (λx hx=>?_) (bS rfl (fY _ _ _) bR)))) (by simp[below,ren,hsl,show IntKind.i64.wrap ((i:Int)+1)=((i:Int)+1) from ab (by omega) (by omega)])
    rcases UJ.1 hx with h|h
    ·exact dN out x h
    ·rw[UL.1 h];simp
   ·simp at h
    have hie:i=l.length:=by omega
    subst hie
    rw[List.take_length] at hn⊢
    obtain⟨ext,hext⟩:=Eh fns k l b w
    have hlen:=Ao fns k b l w
    refine nq (ah 96 [(7,.p (smL (ir fns k b l w)))]) [wO 2 nf fns k (su fns k b l w),.dead,roC nf (su fns k b l w).vs] ?_ ?_
    ·have fin:∀(r1:List (Nat × AV)) (w':WS),w'.vs=w.vs\/w'.vs=(bM fns k b l w).vs->(Aw.look r1 7= .sl 2 5 0 l.length)->
      Wk 2 (ah 96 r1) [wO 3 nf fns k w',.dead,.row 5 (smR (ir fns k b l w)),roC nf (bM fns k b l w).vs] (ah 96 [(7,.p (smL (ir fns k b l w)))]) [wO 2 nf fns k w',.dead,roC nf w'.vs]:=by
      intro r1 w' hv' hr
      refine Wk.trans (GR (h1:=[wO 3 nf fns k w',.dead,.row 5 (smR (ir fns k b l w)),roC nf w'.vs]) ?_) (Wk.trans (cY (l1:=[(7,.sl 3 5 0 l.length)]) (h1:=[wO 2 nf fns k w',.dead,roC nf w'.vs,.row 5 (smR (ir fns k b l w))]) [0,1,3,2] (by simp) (by decide) (by decide) (zS (by simp) rfl (eK (by simp) (bS rfl (fY _ _ _) (bf rfl (dN _) bR)))) (by simp[below,ren,hr]))
       (nk 3 (by omega) (by simp) rfl (.same (vD (by omega)) (.dead (.same (fY _ _ _) (.nil _)))) ?_))
      ·refine⟨.inl rfl,.inl rfl,.inl rfl,?_,trivial⟩
       rcases hv' with e|e
       ·cases nf with
        |true=>exact .inl rfl
        |false=>
         refine .inr ⟨3,lvR (bM fns k b l w).vs,w.vs.length,rfl,?_⟩
         rw[hext,Ly,e];rfl
       ·rw[e];exact .inl rfl
      ·rw[←hlen]
       exact⟨.one (kz rfl) .nil,trivial⟩
     by_cases hb0:0<b
     ·have hwe:su fns k b l w=(bM fns k b l w).back w.vs:=if_pos hb0
      rw[hwe]
      have hll2:(bM fns k b l w).vs.length=ext.length+w.vs.length:=by rw[hext,UN]
      cases nf with
      |true=>
       have h0:=hn rfl
       rw[h0] at hext
       have h00:w.vs=[]:=(List.append_eq_nil_iff.1 hext.symm).2
       simp-implicitDefEqProofs[hb0,wO,wC,vaC,h00]
       rw[h00] at fin
       exact fin _ ⟨[],(bM fns k b l w).count,(bM fns k b l w).code⟩ (.inl rfl) (by simp)
      |false=>
       have hle:w.vs.length<=(bM fns k b l w).vs.length:=by omega
       simp-implicitDefEqProofs[hb0,wO,wC,vaC,hle]
       exact fin _ ⟨w.vs,(bM fns k b l w).count,(bM fns k b l w).code⟩ (.inl rfl) (by simp)
     ·have hwe:su fns k b l w=bM fns k b l w:=if_neg hb0
      have hb0':b=0:=by omega
      subst hb0'
      rw[hwe]
      simp-implicitDefEqProofs[]
      exact fin _ _ (.inr rfl) (by simp)
    ·simp-implicitDefEqProofs[]
     refine⟨nf,_,rfl,rfl,?_,rfl⟩
     intro hnf
     have h0:=hn hnf
     unfold su
     split
     ·rw[h0] at hext;exact(List.append_eq_nil_iff.1 hext.symm).2
     ·exact h0
end
section
theorem EB:AK.whole oe=FK.ak ow:=rfl
theorem Du:∀(ps:List (List UInt8)) (w:WS),w.vs.length<=w.count->(bE ps w).vs.length<=(bE ps w).count
 |[],w,h=>h
 |s::r,w,h=>Du r (gV w s 0) (by simp[gV];omega)
theorem II(a b:List (List UInt8))(w:WS):bE (a++b) w=bE b (bE a w):=by simp[bE]
theorem Gw{l:List (List UInt8)}{w:WS}{i:Nat}(h:i<l.length):bE (l.take (i+1)) w=gV (bE (l.take i) w) l[i] 0:=by
 rw[aq h,II];rfl
theorem EL:∀(a b:List (List UInt8)) (w:WS),ny (a++b) w=ny a w++ny b (bE a w)
 |[],b,w=>rfl
 |s::r,b,w=>by rw[Vn,ny,ny,EL r];rfl
theorem Iq{l:List (List UInt8)}{w:WS}{i:Nat}(h:i<l.length):ny (l.take (i+1)) w=ny (l.take i) w++[vnm (bE (l.take i) w).count]:=by
 rw[aq h,EL];rfl
theorem zM:∀(l:List (List UInt8)) (w:WS),(ny l w).length=l.length
 |[],w=>rfl
 |s::r,w=>by rw[ny,UW,zM r,UW]
def w0(fns:List Fd)(k:Nat)(f:Fd):WS:=⟨[],0,if bQ fns f.name=some k then 0 else 2⟩
theorem Ql(fns:List Fd)(k:Nat)(f:Fd):fnW fns k f=bM fns k 0 f.body (bE f.params (w0 fns k f)):=rfl
theorem KN(fns:List Fd)(k:Nat)(f:Fd):(rnF fns k f).cs=[.str f.name,aw (ny f.params (w0 fns k f)),smL (ir fns k 0 f.body (bE f.params (w0 fns k f)))]:=rfl
variable (G:al)
theorem PS{fns:List Fd}{k:Nat}{f:Fd}(hk:fns[k]?=some f)(hz:aI fns<=1073741824):VF Tryz.prog G lC [.agg [.p (fdL fns)],.p (.int .i64 k)] (.tup [.agg ((rnF fns k f).cs.map .p),.p (.int .i64 (fnW fns k f).code),.p (.int .i64 (fnW fns k f).count)]):=by
 have hfl:=gQ fns
 have hfm:=cS (UF hk)
 have hfz:f.sz=1+f.name.length+(f.params.length+(f.params.map List.length).sum)+aD f.body:=rfl
 have hkl:=(Uz.1 hk).1
 have key:AC Tryz.prog G lC [.agg [.p (fdL fns)],.p (.int .i64 k)] [] λx h=>x= .ret (.tup [.agg [.p (.str f.name),.sl 5 1 0 f.params.length,.p (smL (ir fns k 0 f.body (bE f.params (w0 fns k f))))],.p (.int .i64 (fnW fns k f).code),.p (.int .i64 (fnW fns k f).count)])/\h[5]?=some (cG (ny f.params (w0 fns k f))):=by
  refine AC.goK EV EB ?_
  have hfd:∀l,fdL l= .lst 3 (l.map Fd.cs):=λ_=>rfl
  have hcs:f.cs=[.str f.name,aw f.params,smL f.body]:=rfl
  have hst:aw f.params= .lst 1 (f.params.map λw=>[.str w]):=rfl
  simp-implicitDefEqProofs[oe,ow]
  refine nq (ah 62 [(1,.p (.int .i64 k)),(2,.ptr 0 1 0 0),(4,.ptr 1 3 0 0),(7,.ptr 2 5 0 0),(8,.ptr 3 3 0 0)])
   [.row 1 [[.p (fdL fns)]],.row 3 [[.p (.str []),.nils,.nils]],wO 4 true fns k ⟨[],0,0⟩,.row 3 [[.p (.str f.name),.p (aw f.params),.p (smL f.body)]],.dead] ?_ ?_
  ·simp-implicitDefEqProofs[hfd,hk,hcs]
   refine tP (h:=[.row 1 [[.p (fdL fns)]],.row 3 [[.p (.str []),.nils,.nils]],wO 4 true fns k ⟨[],0,0⟩,.row 3 [[.p (.str f.name),.p (aw f.params),.p (smL f.body)]]]) (by simp) (by simp) ?_ (by simp[below])
   refine aj (by simp[okO,below]) (aj (by simp[okO,below]) (aj ?_ (aj (by simp[okO,below]) fS)))
   intro x hx
   rw[UL.1 hx];simp[wC,vaC,below]
  refine nq (ah 62 [(1,.p (.int .i64 k)),(2,.ptr 0 1 0 0),(4,.ptr 1 3 0 0),(7,.ptr 2 5 0 0),(8,.ptr 3 3 0 0)])
   [.row 1 [[.p (fdL fns)]],.row 3 [[.p (.str []),.nils,.nils]],wO 4 true fns k (w0 fns k f),.row 3 [[.p (.str f.name),.p (aw f.params),.p (smL f.body)]],.dead] ?_ ?_
  ·simp-implicitDefEqProofs[]
   refine(Ft G fns f.name (by omega)).use ?_
   have hok:∀w:WS,∀o∈[AO.row 1 [[.p (fdL fns)]],.row 3 [[.p (.str []),.nils,.nils]],wO 4 true fns k w,.row 3 [[.p (.str f.name),.p (aw f.params),.p (smL f.body)]],.dead],okO 5 o:=λw=>
    aj (by simp[okO,below]) (aj (by simp[okO,below]) (aj (vD (by simp)) (aj (by simp[okO,below]) (aj trivial fS))))
   by_cases he:bQ fns f.name=some k
   ·have hw:w0 fns k f=⟨[],0,0⟩:=by rw[w0,if_pos he]
    rw[hw,he]
    simp-implicitDefEqProofs[ixI]
    exact ae (by simp) (hok _) (by simp[below])
   ·have hw:w0 fns k f=⟨[],0,2⟩:=by rw[w0,if_neg he]
    have hne:¬ixI (bQ fns f.name)=(k:Int):=by
     intro h
     apply he
     cases e:bQ fns f.name with
     |none=>rw[e] at h;simp only[ixI] at h;omega
     |some j=>rw[e] at h;simp only[ixI] at h;have:j=k:=by omega
              rw[this]
    rw[hw]
    simp-implicitDefEqProofs[hne]
    refine(PJ G (wid:=2) (id:=4) (pF G true fns k ⟨[],0,0⟩ 2) (by simp) (by simp[below]) (by decide) rfl rfl).mono ?_
    rintro r h' ⟨rfl,rfl⟩
    simp-implicitDefEqProofs[aa]
    exact ae (h:=[AO.row 1 [[.p (fdL fns)]],.row 3 [[.p (.str []),.nils,.nils]],wO 4 true fns k ⟨[],0,2⟩,.row 3 [[.p (.str f.name),.p (aw f.params),.p (smL f.body)]],.dead]) (by simp) (hok _) (by simp[below])
  rw[Ql]
  have hw0v:(w0 fns k f).vs=[]:=rfl
  have hw0c:(w0 fns k f).count=0:=rfl
  generalize w0 fns k f=w0 at hw0v hw0c⊢
  simp-implicitDefEqProofs[]
  have hcnt:∀j,j<=f.params.length->(bE (f.params.take j) w0).count=j:=λj hj=>by rw[vH,hw0c];simp;omega
  have hvl:∀j,(bE (f.params.take j) w0).vs.length<=(bE (f.params.take j) w0).count:=λj=>Du _ _ (by rw[hw0v];simp)
  refine aL (λj:Nat=>ah 62 [(1,.p (.int .i64 k)),(2,.ptr 0 1 0 0),(4,.ptr 1 3 0 0),(7,.ptr 2 5 0 0),(8,.ptr 3 3 0 0),(9,.sl 5 1 0 j),(10,.p (.int .i64 j))])
   (λj=>[.row 1 [[.p (fdL fns)]],.row 3 [[.p (.str []),.nils,.nils]],wO 6 (decide (j=0)) fns k (bE (f.params.take j) w0),.row 3 [[.p (.str f.name),.p (aw f.params),.p (smL f.body)]],.dead,cG (ny (f.params.take j) w0),roC (decide (j=0)) (bE (f.params.take j) w0).vs])
   (λj=>j<=f.params.length) (λj=>f.params.length-j) 0 (by simp) ?_ ?_
  ·refine tP (h:=[.row 1 [[.p (fdL fns)]],.row 3 [[.p (.str []),.nils,.nils]],wO 6 true fns k w0,.row 3 [[.p (.str f.name),.p (aw f.params),.p (smL f.body)]],.dead,.row 1 []]) (by simp) (by simp) ?_ (by simp[below])
   refine aj (by simp[okO,below]) (aj (by simp[okO,below]) (aj ?_ (aj (by simp[okO,below]) (aj trivial (aj (by simp[okO]) fS)))))
   intro x hx
   rw[UL.1 hx];simp[wC,vaC,below]
  intro j hj
  have hjc:=hcnt j hj
  have hjv:=hvl j
  have hol:=zM (f.params.take j) w0
  rw[Vf,Nat.min_eq_left hj] at hol
  have hnf:decide (j=0)=true->(bE (f.params.take j) w0).vs=[]:=by
   intro h
   have h0:j=0:=by simpa using h
   rw[h0,List.take_zero]
   exact hw0v
  simp-implicitDefEqProofs[hst]
  refine bc (λh=>?_) (λh=>?_)
  ·simp at h
   have hg:=UC h
   have eP:=Gw (w:=w0) h
   have eR:=Iq (w:=w0) h
   simp-implicitDefEqProofs[hg]
   refine(LU G (wid:=2) (id:=6) (Q:=λnf' w'=>nf'=false/\w'=gV (bE (f.params.take j) w0) f.params[j] 0) ((Lw G (decide (j=0)) fns k _ hnf (by omega) (by omega) f.params[j] 0).mono (by rintro x h ⟨rfl,rfl⟩;exact⟨false,_,rfl,rfl,rfl,rfl⟩)) (by simp) (by simp[below]) (by decide) rfl rfl).mono ?_
   rintro r h' ⟨nf',w',rfl,rfl,rfl,rfl⟩
   have hso:∀l,cG l= .row 1 (l.map λn=>[.p (.str n)]):=λ_=>rfl
   simp-implicitDefEqProofs[aa,hso,hol]
   refine⟨by omega,j+1,by omega,by omega,?_⟩
   have htk:List.take j ((ny (f.params.take j) w0).map λn=>[AV.p (.str n)])=(ny (f.params.take j) w0).map λn=>[AV.p (.str n)]:=UG (by rw[Vl];omega)
   have hd:decide (j+1=0)=false:=by simp
   rw[eP,eR,hd,List.map_append,←List.map_take,List.map_take,htk]
   refine Lg [0,1,2,3,4,9,7] rfl (by decide) (bf rfl (by simp) (bf rfl (by simp[below]) (zS (by simp) rfl (bf rfl (by simp) (eK (by simp) (bf rfl (λx hx=>?_) (bS rfl (fY _ _ _) bR))))))) (by simp[below,ren,w1 (i:=j) (by omega)])
   rcases UJ.1 hx with h|h
   ·exact pB _ x h
   ·exact pB _ x h
  ·simp at h
   have hje:j=f.params.length:=by omega
   subst hje
   rw[List.take_length] at hol hjc hjv hnf⊢
   generalize decide (f.params.length=0)=nf at hnf⊢
   simp-implicitDefEqProofs[]
   refine(LU G (wid:=2) (id:=6) (Lz G (fns:=fns) (by omega) (aD f.body+1) f.body (by omega) 0 _ (bE f.params w0) hnf hjv (by omega) (by omega)) (by simp) (by simp[below]) (by decide) rfl rfl).mono ?_
   rintro r h' ⟨nf',w',rfl,rfl,hn',hw'⟩
   have hb:su fns k 0 f.body (bE f.params w0)=bM fns k 0 f.body (bE f.params w0):=rfl
   rw[hb] at hw'
   rw[←hw']
   simp-implicitDefEqProofs[aa,wO,wC]
 refine key.freezeR (λt v h ⟨e,_⟩=>by cases e) λv h ⟨e1,e2⟩=>?_
 cases e1
 rw[KN]
 have hol:=zM f.params (w0 fns k f)
 have hv:=gn e2
 rw[hol] at hv
 exact .tup (.agg (.keep (by simp) (.one hv (.keep (by simp) .nil))) (.keep (by simp) (.keep (by simp) .nil))) .nil
theorem Dm{fns:List Fd}{i:Nat}(h:i<fns.length):iK fns i (fns.drop i)=if(fnW fns i fns[i]).code=0 then iK fns (i+1) (fns.drop (i+1)) else(fnW fns i fns[i]).code:=by
 rw[Vz h,iK]
theorem zN(l:List Fd)(hz:aI l<=1073741824):VF Tryz.prog G eV [.agg [.p (fdL l)]] (.p (.int .i64 (aN l))):=by
 refine AC.go pJ ?_
 have hll:=gQ l
 have hfd:∀l,fdL l= .lst 3 (l.map Fd.cs):=λ_=>rfl
 simp-implicitDefEqProofs[jZ]
 refine(kM G l (by omega)).use ?_
 by_cases hv:bs l=true
 case neg=>
  have:aN l=1:=if_neg hv
  have hv':bs l=false:=by simpa using hv
  simp-implicitDefEqProofs[hv',this]
 have hc:aN l=iK l 0 (l.drop 0):=if_pos hv
 rw[hc]
 simp-implicitDefEqProofs[hv]
 refine aL (λi:Nat=>ah 27 [(1,.ptr 0 1 0 0),(3,.p (.int .i64 i))]) (λ_=>[.row 1 [[.p (fdL l)]]]) (λi=>i<=l.length/\iK l 0 l=iK l i (l.drop i)) (λi=>l.length-i) 0 (by simp) (ae (by simp) (by simp[okO]) (by simp[below])) ?_
 rintro i ⟨hi,he⟩
 simp-implicitDefEqProofs[hfd]
 refine bc (λh=>?_) (λh=>?_)
 ·simp at h
  have hg:=UC h
  have hd:=Dm h
  simp-implicitDefEqProofs[]
  refine(PS G hg hz).use ?_
  have hrc:=KN l i l[i]
  by_cases h0:(fnW l i l[i]).code=0
  ·rw[if_pos h0] at hd
   simp-implicitDefEqProofs[h0,hrc]
   refine⟨i+1,⟨by omega,by rw[he,hd]⟩,by omega,?_⟩
   refine ia (m:=1) (by omega) (dx rfl rfl (by simp[okO,below])) (by simp[below,hfd,w1 (i:=i) (by omega)])
  ·rw[if_neg h0] at hd
   simp-implicitDefEqProofs[h0,hrc]
   rw[he,hd]
 ·simp at h
  have hie:i=l.length:=by omega
  subst hie
  rw[List.drop_length] at he
  simp-implicitDefEqProofs[]
  rw[he];rfl
end
section
variable (G:al)
theorem mT(n lo hi:Int):VF Tryz.prog G dc [.p (.int .i64 n),.p (.int .i64 lo),.p (.int .i64 hi)] (.p (.bool (inR n lo hi))):=by
 refine AC.go Bb ?_
 by_cases h:lo<=n
 ·simp-implicitDefEqProofs[me,h,inR]
 ·simp-implicitDefEqProofs[me,h,inR]
theorem EP(n:Int):VF Tryz.prog G iQ [.p (.int .i64 n)] (.p (.bool (inR n 0 255))):=by
 refine AC.go Bp ?_
 simp-implicitDefEqProofs[rL]
 refine(mT G _ _ _).use ?_
 simp-implicitDefEqProofs[]
theorem Fv(n:Int):VF Tryz.prog G cP [.p (.int .i32 n)] (.p (.bool (decide (n<97)||decide (122<n)))):=by
 refine AC.go vT ?_
 simp-implicitDefEqProofs[nJ]
 by_cases h:n<97
 ·simp-implicitDefEqProofs[h]
 ·simp-implicitDefEqProofs[h]
theorem NY{s:List UInt8}{i:Nat}(h:i<s.length)(hl:dF s[i]=true):Utf8.decode ⟨⟨s⟩⟩ i=(s[i].toNat,1):=by
 simp only[dF,UT,decide_eq_true_eq] at hl
 exact decode_ascii ⟨⟨s⟩⟩ i h (by show(s[i]).toNat<128;omega)
theorem Jl{s:List UInt8}{i:Nat}(h:i<s.length)(hl:¬dF s[i]=true):(((Utf8.decode ⟨⟨s⟩⟩ i).1:Int)<97\/122<((Utf8.decode ⟨⟨s⟩⟩ i).1:Int)):=by
 rcases Vo s[i].toNat 128 with h1|h1
 ·rw[show Utf8.decode ⟨⟨s⟩⟩ i=(s[i].toNat,1) from decode_ascii ⟨⟨s⟩⟩ i h h1]
  simp[dF] at hl
  simp only
  omega
 ·have:=(decode_high ⟨⟨s⟩⟩ i h h1).1
  omega
theorem EE(s:List UInt8)(hb:s.length<=140737488355328):VF Tryz.prog G fy [.p (.str s),.fn (.func cP) [],.p (.bool true)] (.p (.int .i64 (Cf s))):=by
 refine AC.go pT ?_
 simp-implicitDefEqProofs[jO]
 refine aL (λi:Nat=>ah 21 [(0,.p (.str s)),(1,.fn (.func cP) []),(2,.p (.bool true)),(10,.it 0)]) (λi=>[.sit s i]) (λi=>i<=s.length/\∀x∈s.take i,dF x=true) (λi=>s.length-i) 0 (by simp) ?_ ?_
 ·exact ae (by simp) (by simp[okO]) (by simp[below,af])
 ·intro i ⟨hi,hn⟩
  simp-implicitDefEqProofs[]
  by_cases h1:i<s.length
  ·have hg:=UC h1
   simp-implicitDefEqProofs[h1]
   refine(Fv G _).use ?_
   by_cases hl:dF s[i]=true
   ·have hd:=NY h1 hl
    have hl':=hl
    simp only[dF,UT,decide_eq_true_eq] at hl'
    have e1:¬((s[i].toNat:Int)<97):=by omega
    have e2:¬(122<(s[i].toNat:Int)):=by omega
    rw[hd]
    simp-implicitDefEqProofs[e1,e2]
    refine⟨i+1,⟨h1,λp hp=>?_⟩,by omega,ae (by simp) (by simp[okO]) (by simp[below,af])⟩
    rw[aq h1] at hp
    rcases UJ.1 hp with hp|hp
    ·exact hn p hp
    ·rw[UL.1 hp];exact hl
   ·have hd:=Jl h1 hl
    have hf:Cf s=i:=by
     have:s.findIdx? (λx=> !dF x)=some i:=by
      rw[UU]
      exact⟨h1,by simpa using hl,λj hj=>by have:=hn s[j] (VJ.2 ⟨j,by omega,rfl⟩);simpa using this⟩
     rw[Cf,this]
    have hdb:(decide (((Utf8.decode ⟨⟨s⟩⟩ i).1:Int)<97)||decide (122<((Utf8.decode ⟨⟨s⟩⟩ i).1:Int)))=true:=by
     rcases hd with h|h<;>simp[h]
    rw[hdb]
    simp-implicitDefEqProofs[hf]
  ·have hn':=hn
   rw[UG (by omega)] at hn'
   have hf:Cf s= -1:=by
    have:s.findIdx? (λx=> !dF x)=none:=by
     rw[Vi];intro x hx;simpa using hn' x hx
    rw[Cf,this]
   simp-implicitDefEqProofs[h1,hf]
theorem Ez(s:List UInt8)(hb:s.length<=140737488355328):VF Tryz.prog G fk [.p (.str s),.fn (.func cP) []] (.p (.int .i64 (Cf s))):=by
 refine AC.go pH ?_
 simp-implicitDefEqProofs[jQ]
 refine(EE G s hb).use ?_
 simp-implicitDefEqProofs[]
theorem NJ(L:List (List UInt8))(s:List UInt8)(hb:L.length<=1048576):VF Tryz.prog G dZ [.p (aw L),.p (.str s)] (.p (.int .i64 (idxS L s))):=by
 refine AC.go nP ?_
 have hsl:aw L= .lst 1 (L.map λw=>[.str w]):=rfl
 simp-implicitDefEqProofs[iw,hsl]
 refine aL (λi:Nat=>ah 19 [(0,.p (aw L)),(1,.p (.str s)),(6,.p (aw L)),(7,.p (.int .i64 L.length)),(8,.p (.int .i64 i))]) (λ_=>[]) (λi=>i<=L.length/\∀w∈L.take i,w≠s) (λi=>L.length-i) 0 (by simp) ?_ ?_
 ·exact bF rfl (by simp[below,aw])
 ·intro i ⟨hi,hn⟩
  simp-implicitDefEqProofs[hsl]
  refine bc (λh1=>?_) (λh1=>?_)
  ·simp at h1
   have hg:=UC h1
   by_cases he:L[i]=s
   ·have hf:idxS L s=i:=by
     have:L.findIdx? (λw=>w==s)=some i:=by
      rw[UU]
      exact⟨h1,by simpa using he,λj hj=>by have:=hn L[j] (VJ.2 ⟨j,by omega,rfl⟩);simpa using this⟩
     rw[idxS,this]
    have he':s=L[i]:=he.symm
    simp-implicitDefEqProofs[hg,hf,←he']
   ·have he':¬s=L[i]:=λe=>he e.symm
    simp-implicitDefEqProofs[hg,he']
    refine⟨i+1,⟨h1,λp hp=>?_⟩,by omega,bF rfl ?_⟩
    ·rw[aq h1] at hp
     rcases UJ.1 hp with hp|hp
     ·exact hn p hp
     ·rw[UL.1 hp];exact he
    ·simp[below,aw,w1 (i:=i) (by omega)]
  ·simp at h1
   rw[UG h1] at hn
   have hf:idxS L s= -1:=by
    have:L.findIdx? (λw=>w==s)=none:=by
     rw[Vi];intro x hx;simpa using hn x hx
    rw[idxS,this]
   simp-implicitDefEqProofs[hf]
theorem Ga(L:List (List UInt8))(s:List UInt8)(hb:L.length<=1048576):VF Tryz.prog G de [.p (aw L),.p (.str s)] (.p (.bool (L.contains s))):=by
 rw[←KP]
 refine AC.go mu ?_
 simp-implicitDefEqProofs[fD]
 refine(NJ G L s hb).use ?_
 simp-implicitDefEqProofs[]
abbrev gh:Nat:=1
def eZ:List PV:=keyW.map .str
variable (hK:G gh=some eZ)
include hK
theorem ph(s:List UInt8)(hb:s.length<=140737488355328):VF Tryz.prog G cu [.p (.str s)] (.p (.bool (aG s))):=by
 refine AC.go AS ?_
 unfold gh at hK
 simp-implicitDefEqProofs[rM]
 refine(mT G _ _ _).use ?_
 have hr:inR (s.length:Int) 1 4=(decide (0<s.length)&&decide (s.length<=4)):=by
  unfold inR
  by_cases h1:0<s.length<;>by_cases h2:s.length<=4<;>simp[h1,h2]<;>omega
 rw[hr]
 have hi:aG s=((decide (0<s.length)&&decide (s.length<=4))&&(s.all dF&& !keyW.contains s)):=by
  rw[aG];cases s.all dF<;>cases decide (0<s.length)<;>cases decide (s.length<=4)<;>rfl
 cases h1:(decide (0<s.length)&&decide (s.length<=4)) with
 |false=>
  rw[hi,h1]
  simp-implicitDefEqProofs[]
 |true=>
  rw[hi,h1]
  simp-implicitDefEqProofs[]
  refine(Ez G s hb).use ?_
  rw[←Mb]
  by_cases hn:Cf s<0
  ·simp-implicitDefEqProofs[hn,hK,eZ,keyW]
   refine(Ga G keyW s (by decide)).use ?_
   simp-implicitDefEqProofs[keyW]
  ·simp-implicitDefEqProofs[hn]
end
section
theorem vX:AK.whole js=FK.ak jt:=rfl
abbrev cX:Nat:=2
def opK:List PV:=[.int .i64 3,.int .i64 4,.int .i64 5,.int .i64 6,.int .i64 7,.int .i64 8,.int .i64 9,.int .i64 10]
def opV:List (List PV):=[[.str [43],.int .i64 3],[.str [45],.int .i64 3],[.str [42],.int .i64 4],[.str [47],.int .i64 4],[.str [37],.int .i64 4],[.str [60],.int .i64 2],[.str [61],.int .i64 2],[.str [38],.int .i64 1]]
def lvl(op:Int):Int:=if op=10 then 1 else if op=8 then 2 else if op=9 then 2 else if op=3 then 3 else if op=4 then 3 else 4
def sgB(op:Int):UInt8:=if op=3 then 43 else if op=4 then 45 else if op=5 then 42 else if op=6 then 47 else if op=7 then 37 else if op=8 then 60 else if op=9 then 61 else 38
def sgn(op:Int):Option AV:=if 3<=op/\op<=10 then some (.agg [.p (.str [sgB op]),.p (.int .i64 (lvl op))]) else none
theorem GQ(op:Int):(opK.all λk'=>(keq (.int .i64 op) k').isSome)=true:=by simp[opK,keq]
theorem GU(op:Int):eS (.int .i64 op) (Is opK opV)=some (sgn op):=by
 by_cases h:3<=op/\op<=10
 ·have h8:op=3\/op=4\/op=5\/op=6\/op=7\/op=8\/op=9\/op=10:=by omega
  rcases h8 with rfl|rfl|rfl|rfl|rfl|rfl|rfl|rfl<;>rfl
 ·have e:sgn op=none:=if_neg h
  have h3:¬op=3:=by omega
  have h4:¬op=4:=by omega
  have h5:¬op=5:=by omega
  have h6:¬op=6:=by omega
  have h7:¬op=7:=by omega
  have h8:¬op=8:=by omega
  have h9:¬op=9:=by omega
  have h10:¬op=10:=by omega
  rw[e]
  simp[opK,opV,Is,eS,keq,h3,h4,h5,h6,h7,h8,h9,h10]
theorem Hl(op:Int):0<lvl op:=by
 unfold lvl
 repeat' split
 all_goals omega
theorem OO(op:Int):lvl op<6:=by
 unfold lvl
 repeat' split
 all_goals omega
def lvI(op:Int):Int:=if 3<=op/\op<=10 then lvl op else if op=11\/op=12 then 5 else 6
mutual
def Ex.deep:Ex->Nat
 | .mk _ _ _ k=>1+mL k
def mL:List Ex->Nat
 |[]=>0
 |e::r=>max e.deep (mL r)
end
theorem Ex.deep_eq(e:Ex):e.deep=1+mL e.kids:=by cases e;rfl
theorem EG:∀a b:List Ex,mL (a++b)=max (mL a) (mL b)
 |[],b=>by simp[mL]
 |e::r,b=>by rw[Vn,mL,mL,EG r b];omega
mutual
theorem Ex.deep_le:∀e:Ex,e.deep<=e.sz
 | .mk _ _ s k=>by have:=Ca k;simp only[Ex.deep,Ex.sz];omega
theorem Ca:∀l:List Ex,mL l<=bn l
 |[]=>UM _
 |e::r=>by have:=e.deep_le;have:=Ca r;simp only[mL,bn];omega
end
theorem ov{α:Type}{p:α->Bool}{xs:List α}{i:Nat}{c:α}(h:xs[i]?=some c):(xs.take (i+1)).all p=((xs.take i).all p&&p c):=by
 rw[List.take_add_one,h,List.all_append];simp
def okE(m:Nat)(e:Ex):Bool:=cm m e&&decide (e.parts<=30)
def vO:Nat->Ex->Bool
 |0,_=>false
 |m+1,e=>mK e&&e.kids.all (okE m)
theorem DK:∀{l:List Ex} {e:Ex},e∈l->e.parts<=gr l
 |x::r,e,h=>by
  simp only[gr]
  rcases UK.1 h with rfl|h
  ·omega
  ·have:=DK h;omega
theorem GV(m:Nat)(e:Ex):(vO m e&&decide (e.parts<=30))=okE m e:=by
 cases m with
 |zero=>simp[vO,okE,cm]
 |succ m=>
  by_cases hp:e.parts<=30
  ·have h2:e.kids.all (okE m)=e.kids.all (cm m):=by
    rw[Bool.eq_iff_iff,UI,UI]
    refine⟨λh x hx=>?_,λh x hx=>?_⟩
    ·have:=h x hx;simp only[okE,UT] at this;exact this.1
    ·have h1:=h x hx
     have:=DK hx
     have:=e.parts_eq
     simp only[okE,h1,Bool.true_and]
     simp;omega
   simp[vO,okE,cm,h2]
  ·simp[okE,hp]
theorem On(e:Ex):okE 6 e=lZ e:=rfl
def szA(m:Nat)(e:Ex):AV:=if vO m e then .tup [.p (.int .i64 e.parts),.p (.int .i64 e.deep),.p (.bool (decide (e.parts<=30)))] else .tup [.p (.int .i64 0),.p (.int .i64 0),.p (.bool false)]
def ck(e:Ex):Bool:=inR e.op 1 13&&(if e.op=1 then inR e.n 0 255&&decide (e.name=[]) else if e.op=2\/e.op=13 then aG e.name&&decide (e.n=0) else true)
def iz(e:Ex):Bool:=(decide (e.op=1\/e.op=2\/e.op=13)||(decide (e.n=0)&&decide (e.name=[])))&&inR e.kids.length (loK e.op) (hiK e.op)
theorem sr:aG []=false:=rfl
theorem DI(e:Ex):mK e=(ck e&&iz e):=by
 unfold mK ck iz FA
 by_cases h1:e.op=1
 ·simp only[h1]
  cases inR (e.kids.length:Int) (loK 1:Nat) (hiK 1:Nat)<;>by_cases hn:e.name=[]<;>cases h2:inR e.n 0 255<;>simp[hn,sr,inR]
 by_cases h2:e.op=2
 ·simp only[h2]
  cases inR (e.kids.length:Int) (loK 2:Nat) (hiK 2:Nat)<;>cases hi:aG e.name<;>by_cases hn:e.n=0<;>simp[hn,inR]
 by_cases h3:e.op=13
 ·simp only[h3]
  cases inR (e.kids.length:Int) (loK 13:Nat) (hiK 13:Nat)<;>cases hi:aG e.name<;>by_cases hn:e.n=0<;>simp[hn,inR]
 ·cases inR e.op 1 13<;>cases inR (e.kids.length:Int) (loK e.op:Nat) (hiK e.op:Nat)<;>by_cases hn:e.n=0<;>by_cases hm:e.name=[]<;>simp[h1,h2,h3,hn,hm,sr,inR]
variable (G:al) (hK:G gh=some eZ) (hS:G cX=some [.tbl opK opV])
include hS
theorem IX(op:Int):VF Tryz.prog G kP [.p (.int .i64 op)] (.p (.int .i64 (lvI op))):=by
 refine AC.go zl ?_
 have hall:=GQ op
 have hget:=GU op
 have hS':=hS
 unfold cX at hS'
 have hlp:=Hl op
 by_cases h:3<=op/\op<=10
 ·have e:sgn op=some (.agg [.p (.str [sgB op]),.p (.int .i64 (lvl op))]):=if_pos h
  have e2:lvI op=lvl op:=if_pos h
  rw[e2]
  generalize lvl op=L at*
  simp-implicitDefEqProofs[ew,hS',hall,hget,e,hlp]
 ·have e:sgn op=none:=if_neg h
  by_cases h11:op=11
  ·subst h11;simp-implicitDefEqProofs[ew,hS',hall,hget,e,lvI]
  by_cases h12:op=12
  ·subst h12;simp-implicitDefEqProofs[ew,hS',hall,hget,e,lvI]
  have e2:lvI op=6:=by rw[lvI,if_neg h,if_neg (by simp[h11,h12])]
  simp-implicitDefEqProofs[ew,hS',hall,hget,e,e2,h11,h12]
include hK
theorem Gf:∀(m:Nat) (e:Ex),e.sz<=1073741824->m<=100->VF Tryz.prog G fM [.agg (e.cs.map .p),.p (.int .i64 m)] (szA m e):=by
 intro m
 induction m using Nat.strongRecOn with
 |_ m ih=>
 intro e he hm
 have hec:=e.cs_eq
 have hsz:=e.sz_eq
 have hkl:=bB e.kids
 have hS':=hS
 unfold cX at hS'
 have hall:=GQ e.op
 have hget:=GU e.op
 have hxl:exL e.kids= .lst 4 (e.kids.map Ex.cs):=rfl
 have hbad:(ck e&&iz e&&decide (1<=m))=false->szA m e= .tup [.p (.int .i64 0),.p (.int .i64 0),.p (.bool false)]:=by
  intro h
  have:vO m e=false:=by
   cases m with
   |zero=>rfl
   |succ m=>rw[vO,DI];simp at h;cases h1:ck e<;>cases h2:iz e<;>simp[h1,h2] at h⊢
  rw[szA,this];rfl
 have hb1:ck e=false->szA m e= .tup [.p (.int .i64 0),.p (.int .i64 0),.p (.bool false)]:=λh=>hbad (by rw[h];rfl)
 refine AC.goK vU vX ?_
 simp-implicitDefEqProofs[js,jt,hec]
 refine uS (λ_:Unit=>ah 127 [(1,.p (.int .i64 m)),(2,.ptr 0 4 0 0),(7,.p (.int .i64 (loK e.op))),(8,.p (.int .i64 (hiK e.op)))]) (λ_=>[.row 4 [[.p (.int .i64 e.op),.p (.int .i64 e.n),.p (.str e.name),.p (exL e.kids)]]]) (λ_=>ck e=true) ?_ ?_
 ·have fin:∀(r1:List (Nat × AV)),Aw.look r1 1= .p (.int .i64 m)->Aw.look r1 2= .ptr 0 4 0 0->Aw.look r1 7= .p (.int .i64 (loK e.op))->Aw.look r1 8= .p (.int .i64 (hiK e.op))->
   Wk 0 (ah 127 r1) [.row 4 [[.p (.int .i64 e.op),.p (.int .i64 e.n),.p (.str e.name),.p (exL e.kids)]]] (ah 127 [(1,.p (.int .i64 m)),(2,.ptr 0 4 0 0),(7,.p (.int .i64 (loK e.op))),(8,.p (.int .i64 (hiK e.op)))]) [.row 4 [[.p (.int .i64 e.op),.p (.int .i64 e.n),.p (.str e.name),.p (exL e.kids)]]]:=λr1 a b c d=>
   ae (by simp) (by simp[okO,below]) (by simp[below,a,b,c,d])
  have hop1:inR (1:Int) 1 13=true:=rfl
  have hop2:inR (2:Int) 1 13=true:=rfl
  have hop13:inR (13:Int) 1 13=true:=rfl
  by_cases o1:e.op=1
  ·rw[o1] at fin⊢
   simp-implicitDefEqProofs[o1]
   refine(EP G _).use ?_
   by_cases h1:inR e.n 0 255=true
   ·by_cases h2:e.name=[]
    ·have hp:ck e=true:=by simp[ck,o1,h1,h2,hop1]
     rw[h2] at fin
     simp-implicitDefEqProofs[h1,h2,hp]
     exact fin _ (by simp) (by simp) (by simp[loK]) (by simp[hiK])
    ·have hp:ck e=false:=by simp[ck,o1,h1,h2,hop1]
     rw[hb1 hp]
     simp-implicitDefEqProofs[h1,h2]
   ·have hp:ck e=false:=by simp[ck,o1,h1,hop1]
    rw[hb1 hp]
    simp-implicitDefEqProofs[h1]
  by_cases o2:e.op=2
  ·rw[o2] at fin⊢
   simp-implicitDefEqProofs[o2]
   refine(ph G hK _ (by omega)).use ?_
   by_cases h1:aG e.name=true
   ·by_cases h2:e.n=0
    ·have hp:ck e=true:=by simp[ck,o2,h1,h2,hop2]
     rw[h2] at fin
     simp-implicitDefEqProofs[h1,h2,hp]
     exact fin _ (by simp) (by simp) (by simp[loK]) (by simp[hiK])
    ·have hp:ck e=false:=by simp[ck,o2,h1,h2,hop2]
     rw[hb1 hp]
     simp-implicitDefEqProofs[h1,h2]
   ·have hp:ck e=false:=by simp[ck,o2,h1,hop2]
    rw[hb1 hp]
    simp-implicitDefEqProofs[h1]
  by_cases o13:e.op=13
  ·rw[o13] at fin⊢
   simp-implicitDefEqProofs[o13]
   refine(ph G hK _ (by omega)).use ?_
   by_cases h1:aG e.name=true
   ·by_cases h2:e.n=0
    ·have hp:ck e=true:=by simp[ck,o13,h1,h2,hop13]
     rw[h2] at fin
     simp-implicitDefEqProofs[h1,h2,hp]
     exact fin _ (by simp) (by simp) (by simp[loK]) (by simp[hiK])
    ·have hp:ck e=false:=by simp[ck,o13,h1,h2,hop13]
     rw[hb1 hp]
     simp-implicitDefEqProofs[h1,h2]
   ·have hp:ck e=false:=by simp[ck,o13,h1,hop13]
    rw[hb1 hp]
    simp-implicitDefEqProofs[h1]
  have hlp:=Hl e.op
  by_cases h:3<=e.op/\e.op<=10
  ·have es:sgn e.op=some (.agg [.p (.str [sgB e.op]),.p (.int .i64 (lvl e.op))]):=if_pos h
   have hp:ck e=true:=by simp[ck,o1,o2,o13,inR];omega
   have o11:¬e.op=11:=by omega
   have o12:¬e.op=12:=by omega
   have elo:loK e.op=2:=by simp[loK,o1,o2,o11,o12,o13]
   have ehi:hiK e.op=2:=by simp[hiK,o1,o2,o11,o12,o13]
   generalize lvl e.op=L at*
   simp-implicitDefEqProofs[o1,o2,o13,hS',hall,hget,es,hlp,hp]
   exact fin _ (by simp) (by simp) (by simp[elo]) (by simp[ehi])
  have es:sgn e.op=none:=if_neg h
  by_cases o11:e.op=11
  ·have hp:ck e=true:=by simp[ck,o11,inR]
   have elo:loK e.op=1:=by simp[loK,o11]
   have ehi:hiK e.op=1:=by simp[hiK,o11]
   rw[o11] at hall hget es fin
   simp-implicitDefEqProofs[o11,hS',hall,hget,es,hp]
   exact fin _ (by simp) (by simp) (by simp[loK]) (by simp[hiK])
  by_cases o12:e.op=12
  ·have hp:ck e=true:=by simp[ck,o12,inR]
   rw[o12] at hall hget es fin
   simp-implicitDefEqProofs[o12,hS',hall,hget,es,hp]
   exact fin _ (by simp) (by simp) (by simp[loK]) (by simp[hiK])
  ·have hp:ck e=false:=by simp[ck,o1,o2,o13,inR];omega
   rw[hb1 hp]
   simp-implicitDefEqProofs[o1,o2,o13,hS',hall,hget,es,o11,o12]
 intro _ hp
 have hop:1<=e.op/\e.op<=13:=by
  simp only[ck,UT,inR,decide_eq_true_eq] at hp
  exact hp.1
 have hb2:iz e=false->szA m e= .tup [.p (.int .i64 0),.p (.int .i64 0),.p (.bool false)]:=λh=>hbad (by rw[h];simp)
 have hb3:m<1->szA m e= .tup [.p (.int .i64 0),.p (.int .i64 0),.p (.bool false)]:=by
  intro h
  have hd:decide (1<=m)=false:=by simp;omega
  exact hbad (by rw[hd];simp)
 refine uS (λ_:Unit=>ah 127 [(1,.p (.int .i64 m)),(2,.ptr 0 4 0 0)]) (λ_=>[.row 4 [[.p (.int .i64 e.op),.p (.int .i64 e.n),.p (.str e.name),.p (exL e.kids)]]]) (λ_=>iz e=true/\1<=m) ?_ ?_
 ·have fin:∀(r1:List (Nat × AV)),Aw.look r1 1= .p (.int .i64 m)->Aw.look r1 2= .ptr 0 4 0 0->
   Wk 0 (ah 127 r1) [.row 4 [[.p (.int .i64 e.op),.p (.int .i64 e.n),.p (.str e.name),.p (exL e.kids)]]] (ah 127 [(1,.p (.int .i64 m)),(2,.ptr 0 4 0 0)]) [.row 4 [[.p (.int .i64 e.op),.p (.int .i64 e.n),.p (.str e.name),.p (exL e.kids)]]]:=λr1 a b=>
   ae (by simp) (by simp[okO,below]) (by simp[below,a,b])
  simp-implicitDefEqProofs[]
  refine(IX G hS e.op).use ?_
  by_cases ho:e.op=1\/e.op=2\/e.op=13
  ·have hlv:lvI e.op=6:=by
    rw[lvI,if_neg (by omega),if_neg (by omega)]
   have hd:decide (e.op=1\/e.op=2\/e.op=13)=true:=by simpa using ho
   simp-implicitDefEqProofs[hlv,hxl]
   refine(mT G _ _ _).use ?_
   by_cases hk:inR e.kids.length (loK e.op) (hiK e.op)=true
   ·have hr:iz e=true:=by rw[iz,hd,hk];rfl
    by_cases hm1:m<1
    ·have hm1':(m:Int)<1:=by omega
     rw[hb3 hm1]
     simp-implicitDefEqProofs[hk,hm1']
    ·have hm1':¬(m:Int)<1:=by omega
     have hm2:1<=m:=by omega
     simp-implicitDefEqProofs[hk,hm1',hr,hm2]
     exact fin _ (by simp) (by simp)
   ·have hk':inR e.kids.length (loK e.op) (hiK e.op)=false:=by simpa using hk
    have hr:iz e=false:=by rw[iz,hk',Bool.and_false]
    rw[hb2 hr]
    simp-implicitDefEqProofs[hk']
  ·have hlv:lvI e.op<6:=by
    have:=OO e.op
    unfold lvI
    split
    ·exact this
    ·rw[if_pos (by omega)];omega
   have hd:decide (e.op=1\/e.op=2\/e.op=13)=false:=by simpa using ho
   generalize lvI e.op=L at hlv⊢
   by_cases h1:e.n=0
   ·by_cases h2:e.name=[]
    ·have hz:decide (e.n=0)=true/\decide (e.name=[])=true:=by simp[h1,h2]
     simp-implicitDefEqProofs[hlv,h1,h2,hxl]
     refine(mT G _ _ _).use ?_
     rw[h1,h2] at fin
     by_cases hk:inR e.kids.length (loK e.op) (hiK e.op)=true
     ·have hr:iz e=true:=by rw[iz,hd,hk,hz.1,hz.2];rfl
      by_cases hm1:m<1
      ·have hm1':(m:Int)<1:=by omega
       rw[hb3 hm1]
       simp-implicitDefEqProofs[hk,hm1']
      ·have hm1':¬(m:Int)<1:=by omega
       have hm2:1<=m:=by omega
       simp-implicitDefEqProofs[hk,hm1',hr,hm2]
       exact fin _ (by simp) (by simp)
     ·have hk':inR e.kids.length (loK e.op) (hiK e.op)=false:=by simpa using hk
      have hr:iz e=false:=by rw[iz,hk',Bool.and_false]
      rw[hb2 hr]
      simp-implicitDefEqProofs[hk']
    ·have hr:iz e=false:=by rw[iz,hd];simp[h2]
     rw[hb2 hr]
     simp-implicitDefEqProofs[hlv,h1,h2]
   ·have hr:iz e=false:=by rw[iz,hd];simp[h1]
    rw[hb2 hr]
    simp-implicitDefEqProofs[hlv,h1]
 rintro _ ⟨hr,hm1⟩
 have hhd:mK e=true:=by rw[DI,hp,hr];rfl
 obtain⟨m',rfl⟩:∃m',m=m'+1:=⟨m-1,by omega⟩
 have hszO:vO (m'+1) e=e.kids.all (okE m'):=by rw[vO,hhd];rfl
 have hpe:=e.parts_eq
 have hde:=e.deep_eq
 have hpl:=e.parts_le
 have hwm:IntKind.i64.wrap (((m'+1:Nat):Int)-1)=(m':Int):=by rw[ab (by omega) (by omega)];omega
 simp-implicitDefEqProofs[hxl]
 refine aL (λi:Nat=>ah 127 [(1,.p (.int .i64 ((m':Int)+1))),(2,.ptr 0 4 0 0),(9,.p (.int .i64 ((1+gr (e.kids.take i):Nat):Int))),(10,.p (.int .i64 ((1+mL (e.kids.take i):Nat):Int))),(99,.p (exL e.kids)),(100,.p (.int .i64 e.kids.length)),(101,.p (.int .i64 i))])
  (λ_=>[.row 4 [[.p (.int .i64 e.op),.p (.int .i64 e.n),.p (.str e.name),.p (exL e.kids)]]]) (λi=>i<=e.kids.length/\(e.kids.take i).all (okE m')=true) (λi=>e.kids.length-i) 0 (by simp) ?_ ?_
 ·exact ae (by simp) (by simp[okO,below]) (by simp[below,hxl,gr,mL])
 rintro i ⟨hi,ha⟩
 have hwm':IntKind.i64.wrap (m':Int)=(m':Int):=ab (by omega) (by omega)
 simp-implicitDefEqProofs[hxl]
 refine bc (λh=>?_) (λh=>?_)
 ·simp at h
  have hg:=UC h
  have hks:=bN (US h)
  have hkc:=e.kids[i].cs_eq
  have hpt:gr (e.kids.take (i+1))=gr (e.kids.take i)+e.kids[i].parts:=by rw[aq h,jq];simp[gr]
  have hdt:mL (e.kids.take (i+1))=max (mL (e.kids.take i)) e.kids[i].deep:=by rw[aq h,EG];simp[mL]
  have hpl1:gr (e.kids.take (i+1))<=e.parts:=by
   have:=jq (e.kids.take (i+1)) (e.kids.drop (i+1))
   rw[Vu] at this
   omega
  have hok:=GV m' e.kids[i]
  have hdl:e.kids[i].deep<=e.kids[i].sz:=Ex.deep_le _
  have hdl2:mL (e.kids.take i)<=e.sz:=by
   have h1:=Ca (e.kids.take i)
   have h2:=eE (e.kids.take i) (e.kids.drop i)
   rw[Vu] at h2
   omega
  generalize e.kids[i]=c at*
  simp-implicitDefEqProofs[hg,hkc,hwm']
  have hI:=ih m' (by omega) c (by omega) (by omega)
  rw[hkc] at hI
  by_cases ho:okE m' c=true
  ·have h1:vO m' c=true/\c.parts<=30:=by rw[ho] at hok;simpa using hok
   have hA:szA m' c= .tup [.p (.int .i64 c.parts),.p (.int .i64 c.deep),.p (.bool true)]:=by rw[szA,if_pos h1.1];simp[h1.2]
   rw[hA] at hI
   refine hI.use ?_
   have hw1:IntKind.i64.wrap (1+(gr (e.kids.take i):Int)+(c.parts:Int))=((1+gr (e.kids.take (i+1)):Nat):Int):=by rw[ab (by omega) (by omega)];omega
   have hw2:IntKind.i64.wrap ((c.deep:Int)+1)=(c.deep:Int)+1:=ab (by omega) (by omega)
   have hmx:(if 1+(mL (e.kids.take i):Int)<(c.deep:Int)+1 then(c.deep:Int)+1 else 1+(mL (e.kids.take i):Int))=1+(mL (e.kids.take (i+1)):Int):=by
    rw[hdt];split<;>omega
   simp-implicitDefEqProofs[hw1,hw2,hmx]
   refine⟨i+1,⟨h,by rw[←UI,ov hg,ha,ho];rfl⟩,by omega,?_⟩
   refine ia (m:=1) (by omega) (dx rfl rfl (by simp[okO,below])) (by simp[below,hxl,w1 (i:=i) (by omega)])
  ·have hf:e.kids.all (okE m')=false:=List.all_eq_false.2 ⟨c,UF hg,by simpa using ho⟩
   have hA2:szA (m'+1) e= .tup [.p (.int .i64 0),.p (.int .i64 0),.p (.bool false)]:=by rw[szA,hszO,hf];rfl
   rw[hA2]
   by_cases h1:vO m' c=true
   ·have h2:¬c.parts<=30:=λh2=>ho (by rw[←hok,h1];simpa using h2)
    have hA:szA m' c= .tup [.p (.int .i64 c.parts),.p (.int .i64 c.deep),.p (.bool false)]:=by rw[szA,if_pos h1];simp[h2]
    rw[hA] at hI
    refine hI.use ?_
    simp-implicitDefEqProofs[]
   ·have hA:szA m' c= .tup [.p (.int .i64 0),.p (.int .i64 0),.p (.bool false)]:=by rw[szA,if_neg h1]
    rw[hA] at hI
    refine hI.use ?_
    simp-implicitDefEqProofs[]
 ·simp at h
  rw[UG h] at ha⊢
  have hA:szA (m'+1) e= .tup [.p (.int .i64 e.parts),.p (.int .i64 e.deep),.p (.bool (decide (e.parts<=30)))]:=by rw[szA,hszO,ha];rfl
  rw[hA,hpe,hde]
  simp-implicitDefEqProofs[]
  omega
theorem Ew(e:Ex)(he:e.sz<=1073741824):VF Tryz.prog G eL [.agg (e.cs.map .p)] (.p (.bool (lZ e))):=by
 refine AC.go uZ ?_
 have hec:=e.cs_eq
 have hx:=Gf G hK hS 6 e he (by omega)
 rw[hec] at hx
 simp-implicitDefEqProofs[mH,hec]
 rw[←On,←GV]
 unfold szA at hx
 by_cases h:vO 6 e=true
 ·rw[if_pos h] at hx
  rw[h]
  refine hx.use ?_
  simp-implicitDefEqProofs[]
 ·have h':vO 6 e=false:=by simpa using h
  rw[if_neg h] at hx
  rw[h']
  refine hx.use ?_
  simp-implicitDefEqProofs[]
end
section
def rg:AK:=xH [wJ 2 5 0,xk] [wV 12 2,qu 13 12,xt 14 fT 13,qg 11 14,wN 15 0 11,wN 16 1 11,wN 17 2 11,wN 18 3 11,qg 5 15,xX 16,qg 7 17,qg 8 18] (.cut (.blk 0 (wM [xf 20,qx 21 .gtr 20 4,qg 19 21] 19 (wL [xv 22 2,qu 23 22,wn 24 23,xq 25,wl 26 .neq 24 25,qg 19 26] 19 (.cut (.reg [yq 27,qg 28 27,xa 29 28 1 2,wZ 30 28 29,qN 31 28 (.call cu (xr 30)),qN 32 28 (wo 31),xT 33 28 32,qg 19 33]) (xK 19 (.cut (.reg [yq 34,xn 35 34,qg 36 35,xa 37 36 1 2,wZ 38 36 37,qN 39 36 (yk .neq 38 (.c qF)),xT 40 36 39,qg 19 40]) (xK 19 (.cut (.reg [yg 41,xn 42 41,qg 43 42,xa 44 43 3 2,wZ 45 43 44,qN 46 43 (wc 45),xE 47 43 .gtr 46 0,xT 48 43 47,qg 19 48]) (xK 19 (.cut (.reg [yc 49,xn 50 49,qg 51 50,xa 52 51 4 2,wZ 53 51 52,qN 54 51 (wc 53),xE 55 51 .gtr 54 0,xT 56 51 55,qg 19 56]) (xK 19 (.reg [wV 57 2,qu 58 57,wb 59 58 8,qg 60 59,xa 61 60 2 2,wZ 62 60 61,qN 63 60 (qW 4 62 yh),xa 64 60 0 63,wZ 65 60 64,xE 66 60 .neq 65 13,xT 67 60 66,qg 19 67])))))))))) (qo 19 (qA [xk]) .skip))) (xW (wR [xv 68 2,qu 69 68,wn 70 69,wS 71] 1 (qK [xb 72 71 70] (xK 72 (.exit 1)) (wy 2 (qe [wB 73 4 69 71,yd 74 73,qY 10 [qC,qC,qF,.nils],qU 4 10 74] (wg [yd 75 10,xt 76 eL 75,xn 77 76] 77 [xk])) (wT (x9 78 71) 71 78)))) [xZ 79 2,qu 80 79,xf 81,x9 82 81,wI 83 cA 80 82,qg 84 83,xa 85 84 4 2,wZ 86 84 85,xz 87 84 1,xE 88 84 .add 87 1,qN 89 84 (x7 cA 86 (.t 88)),xT 90 84 89,qg 4 90]))
theorem Bc:AK.whole rg=FK.ak iW:=rfl
variable (G:al)
def pL(op:Int):Int:=if op=4 then 2 else if inR op 1 8 then 1 else-1
def jG(op:Int):Bool:=decide (op=5)||decide (op=6)
theorem zi(op:Int):VF Tryz.prog G fT [.p (.int .i64 op)] (.tup [.p (.int .i64 (pL op)),.p (.bool (cI op)),.p (.bool (jG op)),.p (.bool (decide (op=5)))]):=by
 refine AC.go yv ?_
 by_cases h1:op=1
 ·subst h1;simp-implicitDefEqProofs[bl,pL,inR,cI,jG]
 by_cases h2:op=2
 ·subst h2;simp-implicitDefEqProofs[bl,pL,inR,cI,jG]
 by_cases h3:op=3
 ·subst h3;simp-implicitDefEqProofs[bl,pL,inR,cI,jG]
 by_cases h4:op=4
 ·subst h4;simp-implicitDefEqProofs[bl,pL,inR,cI,jG]
 by_cases h5:op=5
 ·subst h5;simp-implicitDefEqProofs[bl,pL,inR,cI,jG]
 by_cases h6:op=6
 ·subst h6;simp-implicitDefEqProofs[bl,pL,inR,cI,jG]
 by_cases h7:op=7
 ·subst h7;simp-implicitDefEqProofs[bl,pL,inR,cI,jG]
 by_cases h8:op=8
 ·subst h8;simp-implicitDefEqProofs[bl,pL,inR,cI,jG]
 have ha:pL op= -1:=by
  have:inR op 1 8=false:=by simp[inR];omega
  rw[pL,if_neg h4,this];rfl
 have hn:cI op=false:=by simp[cI,h1,h2]
 have hb:jG op=false:=by simp[jG,h5,h6]
 rw[ha,hn,hb]
 simp-implicitDefEqProofs[bl,h1,h2,h3,h4,h5,h6,h7,h8]
def Gl:List Ex->Bool
 |a::_=>decide (a.op=13)
 |[]=>false
def jD(s:Sm):Bool:=decide ((s.args.length:Int)=pL s.op)&&(!cI s.op||aG s.name)&&(cI s.op||decide (s.name=[]))&&(jG s.op||decide (s.body=[]))&&(decide (s.op=5)||decide (s.els=[]))&&
 (!decide (s.op=8)||Gl s.args)
theorem Iy(s:Sm):jn s=(inR s.op 1 8&&decide (s.args.length=gz s.op)&&(cI s.op==aG s.name)&&(cI s.op||decide (s.name=[]))&&s.args.all lZ&&
 (!decide (s.op=8)||Gl s.args)&&(s.els.isEmpty||decide (s.op=5))&&(s.body.isEmpty||decide (s.op=5)||decide (s.op=6))):=by
 unfold jn
 cases s.args<;>rfl
theorem DX(s:Sm):jn s=(jD s&&s.args.all lZ):=by
 have ha:decide ((s.args.length:Int)=pL s.op)=(inR s.op 1 8&&decide (s.args.length=gz s.op)):=by
  unfold pL gz
  by_cases h4:s.op=4
  ·have:inR s.op 1 8=true:=by simp[inR,h4]
   rw[this,if_pos h4,if_pos h4];simp;omega
  ·rw[if_neg h4,if_neg h4]
   cases h:inR s.op 1 8 with
   |true=>simp;omega
   |false=>simp
 have hn:(cI s.op==aG s.name&&(cI s.op||decide (s.name=[])))=((!cI s.op||aG s.name)&&(cI s.op||decide (s.name=[]))):=by
  cases cI s.op with
  |true=>cases aG s.name<;>rfl
  |false=>
   by_cases h:s.name=[]
   ·rw[h,sr];rfl
   ·simp[h]
 have hb:(s.body.isEmpty||decide (s.op=5)||decide (s.op=6))=(jG s.op||decide (s.body=[])):=by
  rw[jG]
  cases s.body<;>cases decide (s.op=5)<;>cases decide (s.op=6)<;>simp
 have he:(s.els.isEmpty||decide (s.op=5))=(decide (s.op=5)||decide (s.els=[])):=by
  cases s.els<;>cases decide (s.op=5)<;>simp
 rw[Iy]
 unfold jD
 rw[ha,hb,he]
 generalize Gl s.args=z
 generalize (cI s.op==aG s.name)=c at hn⊢
 generalize (!cI s.op||aG s.name)=c' at hn⊢
 generalize (cI s.op||decide (s.name=[]))=d at hn⊢
 generalize s.args.all lZ=x
 generalize (jG s.op||decide (s.body=[]))=y
 generalize (decide (s.op=5)||decide (s.els=[]))=y'
 generalize (!decide (s.op=8))=u
 cases inR s.op 1 8<;>cases decide (s.args.length=gz s.op)<;>cases c<;>cases c'<;>cases d<;>cases x<;>cases y<;>cases y'<;>cases u<;>cases z<;>simp_all
variable (hK:G gh=some eZ) (hS:G cX=some [.tbl opK opV])
def FX(d:Nat)(L:List Sm):Int:=match L.findIdx? (λs=> !az d s) with|some i=>i|none=> -1
theorem Lc(d:Nat)(L:List Sm):decide (0<=FX d L)= !(L.all (az d)):=by
 unfold FX
 cases h:L.findIdx? (λx=> !az d x) with
 |none=>
  rw[Vi] at h
  have:L.all (az d)=true:=UI.2 λx hx=>by have:=h x hx;simpa using this
  simp[this]
 |some i=>
  rw[UU] at h
  obtain⟨h1,h2,_⟩:=h
  have:L.all (az d)=false:=List.all_eq_false.2 ⟨_,US h1,by simpa using h2⟩
  rw[this];simp
theorem vI(d:Nat)(nest:Int)(hs:∀s:Sm,s.sz<=1073741824->VF Tryz.prog G jb [.agg (s.cs.map .p),.p (.int .i64 nest)] (.p (.bool (az d s))))(L:List Sm)(hL:aD L<=1073741824):
 VF Tryz.prog G cA [.p (smL L),.p (.int .i64 nest)] (.p (.bool (L.all (az d)))):=by
 have hsl:smL L= .lst 5 (L.map Sm.cs):=rfl
 have hll:=cn L
 have dK:∀s:Sm,s.sz<=1073741824->AC Tryz.prog G cy [.agg (s.cs.map .p),.ptr 0 1 0 0] [.row 1 [[.p (.int .i64 nest)]]] λx h=>x= .ret (.p (.bool (!az d s)))/\h=[.row 1 [[.p (.int .i64 nest)]]]:=by
  intro s hz
  refine AC.trim (AC.go uu ?_) (by simp[below])
  have hse:=s.cs_eq
  have h1:=hs s hz
  rw[hse] at h1
  simp-implicitDefEqProofs[mE,hse]
  refine h1.use ?_
  simp-implicitDefEqProofs[]
 have idx:AC Tryz.prog G cd [.p (smL L),.fn (.func cy) [.ptr 0 1 0 0]] [.row 1 [[.p (.int .i64 nest)]]] λx h=>x= .ret (.p (.int .i64 (FX d L)))/\h=[.row 1 [[.p (.int .i64 nest)]]]:=by
  refine AC.go jH ?_
  simp-implicitDefEqProofs[dS,hsl]
  refine aL (λi:Nat=>ah 19 [(0,.p (smL L)),(1,.fn (.func cy) [.ptr 0 1 0 0]),(7,.p (.int .i64 L.length)),(8,.p (.int .i64 i))]) (λ_=>[.row 1 [[.p (.int .i64 nest)]]]) (λi=>i<=L.length/\∀w∈L.take i,az d w=true) (λi=>L.length-i) 0 (by simp) ?_ ?_
  ·exact ae (by simp) (by simp[okO,below]) (by simp[below,af,hsl])
  ·intro i ⟨hi,hn⟩
   simp-implicitDefEqProofs[hsl]
   refine bc (λh1=>?_) (λh1=>?_)
   ·simp at h1
    have hg:=UC h1
    have hz:=dP (US h1)
    simp-implicitDefEqProofs[hg]
    refine(dK L[i] (by omega)).mono ?_
    rintro r h ⟨rfl,rfl⟩
    by_cases he:az d L[i]=true
    ·simp-implicitDefEqProofs[aa,he]
     refine⟨i+1,⟨h1,λp hp=>?_⟩,by omega,ae (by simp) (by simp[okO,below]) (by simp[below,af,hsl,w1 (i:=i) (by omega)])⟩
     rw[aq h1] at hp
     rcases UJ.1 hp with hp|hp
     ·exact hn p hp
     ·rw[UL.1 hp];exact he
    ·have hf:FX d L=i:=by
      have:L.findIdx? (λw=> !az d w)=some i:=by
       rw[UU]
       exact⟨h1,by simpa using he,λj hj=>by have:=hn L[j] (VJ.2 ⟨j,by omega,rfl⟩);simpa using this⟩
      rw[FX,this]
     simp-implicitDefEqProofs[aa,he,hf]
   ·simp at h1
    rw[UG h1] at hn
    have hf:FX d L= -1:=by
     have:L.findIdx? (λw=> !az d w)=none:=by
      rw[Vi];intro x hx;simpa using hn x hx
     rw[FX,this]
    simp-implicitDefEqProofs[hf]
 have con:AC Tryz.prog G bK [.p (smL L),.fn (.func cy) [.ptr 0 1 0 0]] [.row 1 [[.p (.int .i64 nest)]]] λx h=>x= .ret (.p (.bool (!L.all (az d))))/\h=[.row 1 [[.p (.int .i64 nest)]]]:=by
  refine AC.go iq ?_
  simp-implicitDefEqProofs[dj]
  refine idx.mono ?_
  rintro r h ⟨rfl,rfl⟩
  have:=Lc d L
  simp-implicitDefEqProofs[aa]
  simpa using this
 refine AC.go zd ?_
 simp-implicitDefEqProofs[od]
 refine con.mono ?_
 rintro r h ⟨rfl,rfl⟩
 simp-implicitDefEqProofs[aa]
include hS hK
theorem Ke:∀d:Nat,d<=4->∀s:Sm,s.sz<=1073741824->VF Tryz.prog G jb [.agg (s.cs.map .p),.p (.int .i64 (5-d))] (.p (.bool (az d s))):=by
 intro d
 induction d with
 |zero=>
  intro _ s hz
  have hse:=s.cs_eq
  refine AC.go ru ?_
  simp-implicitDefEqProofs[iW,hse]
  refine(zi G _).use ?_
  simp-implicitDefEqProofs[az]
 |succ d ih=>
  intro hd s hz
  have hse:=s.cs_eq
  have hsz:=s.sz_eq
  have hal:=bB s.args
  have hblk:=vI G d (5-d) (ih (by omega))
  have hnn:(5:Int)-((d+1:Nat):Int)=4-d:=by omega
  have hnw:IntKind.i64.wrap (4-(d:Int)+1)=5-d:=by rw[ab (by omega) (by omega)];omega
  have hn4:¬(4:Int)<4-d:=by omega
  have hxl:exL s.args= .lst 4 (s.args.map Ex.cs):=rfl
  have hsl:∀l,smL l= .lst 5 (l.map Sm.cs):=λ_=>rfl
  rw[hnn]
  have hbad:jD s=false->az (d+1) s=false:=λh=>by rw[az,DX,h];rfl
  refine AC.goK ru Bc ?_
  simp-implicitDefEqProofs[rg,iW,hse]
  refine(zi G _).use ?_
  simp-implicitDefEqProofs[]
  refine uS (λ_:Unit=>ah 91 [(1,.p (.int .i64 (4-d))),(2,.ptr 0 5 0 0)]) (λ_=>[.row 5 [[.p (.int .i64 s.op),.p (.str s.name),.p (exL s.args),.p (smL s.body),.p (smL s.els)]]]) (λ_=>jD s=true) ?_ ?_
  ·have fin:∀(r1:List (Nat × AV)),Aw.look r1 1= .p (.int .i64 (4-d))->Aw.look r1 2= .ptr 0 5 0 0->
    Wk 0 (ah 91 r1) [.row 5 [[.p (.int .i64 s.op),.p (.str s.name),.p (exL s.args),.p (smL s.body),.p (smL s.els)]]] (ah 91 [(1,.p (.int .i64 (4-d))),(2,.ptr 0 5 0 0)]) [.row 5 [[.p (.int .i64 s.op),.p (.str s.name),.p (exL s.args),.p (smL s.body),.p (smL s.els)]]]:=λr1 a b=>
    ae (by simp) (by simp[okO,below]) (by simp[below,a,b])
   have hb0:s.body=[]\/0<s.body.length:=by cases s.body<;>simp
   have he0:s.els=[]\/0<s.els.length:=by cases s.els<;>simp
   by_cases hl:(s.args.length:Int)=pL s.op
   case neg=>
    rw[hbad (by simp[jD,hl])]
    simp-implicitDefEqProofs[hn4,hxl,hl]
   have hel:(decide (s.els=[]))= !decide (0<s.els.length):=by cases s.els<;>simp
   have hbo:(decide (s.body=[]))= !decide (0<s.body.length):=by cases s.body<;>simp
   simp-implicitDefEqProofs[hn4,hxl,hl]
   refine nq (ah 91 [(1,.p (.int .i64 (4-d))),(2,.ptr 0 5 0 0),(6,.p (.bool (cI s.op))),(7,.p (.bool (jG s.op))),(8,.p (.bool (decide (s.op=5)))),(19,.p (.bool (cI s.op&& !aG s.name)))]) ([.row 5 [[.p (.int .i64 s.op),.p (.str s.name),.p (exL s.args),.p (smL s.body),.p (smL s.els)]]]) ?_ ?_
   ·cases hn:cI s.op with
    |true=>
     simp-implicitDefEqProofs[]
     refine(ph G hK _ (by omega)).use ?_
     simp-implicitDefEqProofs[]
     exact ae (by simp) (by simp[okO,below]) (by simp[below])
    |false=>
     simp-implicitDefEqProofs[]
     exact ae (by simp) (by simp[okO,below]) (by simp[below])
   by_cases h2:(cI s.op&& !aG s.name)=true
   ·rw[hbad (by simp only[jD];cases h:cI s.op<;>cases h':aG s.name<;>simp[h,h'] at h2⊢)]
    simp-implicitDefEqProofs[h2]
   have h2':(cI s.op&& !aG s.name)=false:=by simpa using h2
   rw[h2']
   simp-implicitDefEqProofs[]
   refine nq (ah 91 [(1,.p (.int .i64 (4-d))),(2,.ptr 0 5 0 0),(6,.p (.bool (cI s.op))),(7,.p (.bool (jG s.op))),(8,.p (.bool (decide (s.op=5)))),(19,.p (.bool (!cI s.op&& !decide (s.name=[]))))]) ([.row 5 [[.p (.int .i64 s.op),.p (.str s.name),.p (exL s.args),.p (smL s.body),.p (smL s.els)]]]) ?_ ?_
   ·cases hn:cI s.op with
    |true=>
     simp-implicitDefEqProofs[]
     exact ae (by simp) (by simp[okO,below]) (by simp[below])
    |false=>
     simp-implicitDefEqProofs[]
     exact ae (by simp) (by simp[okO,below]) (by simp[below])
   by_cases h3:(!cI s.op&& !decide (s.name=[]))=true
   ·rw[hbad (by simp only[jD];cases h:cI s.op<;>cases h':decide (s.name=[])<;>simp[h,h'] at h3⊢)]
    simp-implicitDefEqProofs[h3]
   have h3':(!cI s.op&& !decide (s.name=[]))=false:=by simpa using h3
   rw[h3']
   simp-implicitDefEqProofs[]
   refine nq (ah 91 [(1,.p (.int .i64 (4-d))),(2,.ptr 0 5 0 0),(6,.p (.bool (cI s.op))),(7,.p (.bool (jG s.op))),(8,.p (.bool (decide (s.op=5)))),(19,.p (.bool (!jG s.op&&decide (0<s.body.length))))]) ([.row 5 [[.p (.int .i64 s.op),.p (.str s.name),.p (exL s.args),.p (smL s.body),.p (smL s.els)]]]) ?_ ?_
   ·cases hn:jG s.op with
    |true=>
     simp-implicitDefEqProofs[hsl]
     exact ae (by simp) (by simp[okO,below]) (by simp[below])
    |false=>
     simp-implicitDefEqProofs[hsl]
     exact ae (by simp) (by simp[okO,below]) (by simp[below])
   by_cases h4:(!jG s.op&&decide (0<s.body.length))=true
   ·rw[hbad (by simp only[jD,hbo];cases h:jG s.op<;>cases h':decide (0<s.body.length)<;>simp[h,h'] at h4⊢)]
    simp-implicitDefEqProofs[h4]
   have h4':(!jG s.op&&decide (0<s.body.length))=false:=by simpa using h4
   rw[h4']
   simp-implicitDefEqProofs[]
   refine nq (ah 91 [(1,.p (.int .i64 (4-d))),(2,.ptr 0 5 0 0),(6,.p (.bool (cI s.op))),(7,.p (.bool (jG s.op))),(8,.p (.bool (decide (s.op=5)))),(19,.p (.bool (!decide (s.op=5)&&decide (0<s.els.length))))]) ([.row 5 [[.p (.int .i64 s.op),.p (.str s.name),.p (exL s.args),.p (smL s.body),.p (smL s.els)]]]) ?_ ?_
   ·cases hn:decide (s.op=5) with
    |true=>
     simp-implicitDefEqProofs[hsl]
     exact ae (by simp) (by simp[okO,below]) (by simp[below])
    |false=>
     simp-implicitDefEqProofs[hsl]
     exact ae (by simp) (by simp[okO,below]) (by simp[below])
   by_cases h5:(!decide (s.op=5)&&decide (0<s.els.length))=true
   ·rw[hbad (by simp only[jD,hel];cases h:decide (s.op=5)<;>cases h':decide (0<s.els.length)<;>simp[h,h'] at h5⊢)]
    simp-implicitDefEqProofs[h5]
   have h5':(!decide (s.op=5)&&decide (0<s.els.length))=false:=by simpa using h5
   rw[h5']
   have hh1:jD s=(!decide (s.op=8)||Gl s.args):=by
    simp only[jD,hl,decide_true,Bool.true_and,hel,hbo]
    cases h:cI s.op<;>cases hi:aG s.name<;>cases hm:decide (s.name=[])<;>cases hb:jG s.op<;>cases hc:decide (0<s.body.length)<;>cases ho:decide (s.op=5)<;>cases he:decide (0<s.els.length)<;>simp[h,hi,hm,hb,hc,ho,he] at h2' h3' h4' h5'⊢
   by_cases o8:s.op=8
   ·have ha1:s.args.length=1:=by
     have:pL s.op=1:=by rw[o8];rfl
     omega
    obtain⟨a0,ha0⟩:∃a0,s.args=[a0]:=by
     match hh:s.args,ha1 with
     |[x],_=>exact⟨x,rfl⟩
    have hae:=a0.cs_eq
    rw[hh1,o8,ha0]
    rw[o8,ha0] at fin
    have hxa:exL [a0]= .lst 4 [a0.cs]:=rfl
    by_cases hc:a0.op=13
    ·have h13:Gl [a0]=true:=by simp[Gl,hc]
     simp-implicitDefEqProofs[o8,hae,hc,h13,hxa]
     rw[hxa,hae,hc] at fin
     exact fin _ (by simp) (by simp)
    ·rw[hbad (by rw[hh1,o8,ha0];simp[Gl,hc])]
     simp-implicitDefEqProofs[o8,hae,hc,hxa]
   ·have hh2:jD s=true:=by rw[hh1];simp[o8]
    simp-implicitDefEqProofs[o8,hh2]
    exact fin _ (by simp) (by simp)
  intro _ h1
  have hh:az (d+1) s=(s.args.all lZ&&(s.body.all (az d)&&s.els.all (az d))):=by rw[az,DX,h1,Bool.true_and,Bool.and_assoc]
  simp-implicitDefEqProofs[hxl]
  refine aL (λi:Nat=>ah 91 [(1,.p (.int .i64 (4-d))),(2,.ptr 0 5 0 0),(69,.p (exL s.args)),(70,.p (.int .i64 s.args.length)),(71,.p (.int .i64 i))]) (λ_=>[.row 5 [[.p (.int .i64 s.op),.p (.str s.name),.p (exL s.args),.p (smL s.body),.p (smL s.els)]]]) (λi=>i<=s.args.length/\(s.args.take i).all lZ=true) (λi=>s.args.length-i) 0 (by simp) ?_ ?_
  ·exact ae (by simp) (by simp[okO,below]) (by simp[below,hxl])
  rintro i ⟨hi,ha⟩
  simp-implicitDefEqProofs[hxl]
  refine bc (λh=>?_) (λh=>?_)
  ·simp at h
   have hg:=UC h
   have hks:=bN (US h)
   have hkc:=s.args[i].cs_eq
   have hx:=Ew G hK hS s.args[i] (by omega)
   rw[hkc] at hx
   simp-implicitDefEqProofs[hg,hkc]
   refine hx.use ?_
   by_cases ho:lZ s.args[i]=true
   ·simp-implicitDefEqProofs[ho]
    refine⟨i+1,⟨h,by rw[←UI,dX h,ha,ho];rfl⟩,by omega,?_⟩
    refine ia (m:=1) (by omega) (dx rfl rfl (by simp[okO,below])) (by simp[below,hxl,w1 (i:=i) (by omega)])
   ·have ho':lZ s.args[i]=false:=by simpa using ho
    rw[hh,nv h ho']
    simp-implicitDefEqProofs[ho']
  ·simp at h
   have ha2:s.args.all lZ=true:=ig h ha
   rw[hh,ha2,Bool.true_and]
   simp-implicitDefEqProofs[hnw]
   refine(hblk s.body (by omega)).use ?_
   cases hb:s.body.all (az d) with
   |true=>
    simp-implicitDefEqProofs[hnw]
    refine(hblk s.els (by omega)).use ?_
    simp-implicitDefEqProofs[]
   |false=>
    simp-implicitDefEqProofs[]
end
section
variable (G:al)
structure Vis (σ:Type) where
 I:σ->List AO
 n:Nat
 F:FuncId
 caps:List AV
 len:∀st,(I st).length=n
 ok:∀st,∀o∈I st,okO n o
 capsOk:af n caps
theorem Vis.pre{σ:Type}(V:Vis σ){f:FuncId}{args:List AV}{st st':σ}{v:AV}(H:AC Tryz.prog G f args (V.I st) λx h=>x= .ret v/\h=V.I st')(rest:List AO)(ha:af V.n args):
 AC Tryz.prog G f args (V.I st++rest) λx h=>x= .ret v/\h=V.I st'++rest:=by
 refine(AC.pre H rest (by rw[V.len];exact ha) (by rw[V.len];exact V.ok st) ?_).mono ?_
 ·rintro x h ⟨_,rfl⟩;rw[V.len,V.len]
 ·rintro x h ⟨h1,⟨rfl,rfl⟩,rfl⟩
  exact⟨rfl,rfl⟩
theorem Vis.trim{σ:Type}(V:Vis σ){f:FuncId}{args:List AV}{st st':σ}{v:AV}(H:AC Tryz.prog G f args (V.I st) λx h=>x= .ret v/\∃l,h=V.I st'++l)(hv:below V.n v):
 AC Tryz.prog G f args (V.I st) λx h=>x= .ret v/\h=V.I st':=by
 refine H.wk (λt v h ⟨e,_⟩=>by cases e) ?_
 rintro u h ⟨e,l,rfl⟩
 cases e
 refine⟨v,V.I st',yO (n:=V.n) (by rw[V.len];exact UM _) (dx (by rw[←V.len st',List.take_left'];rfl) (V.len _) (V.ok _)) ?_,rfl,rfl⟩
 simp[Fgt,hv]
theorem td{n m:Nat}(h:n<=m){o:AO}(ho:okO n o):okO m o:=by
 cases o with
 |dead=>trivial
 |sit=>trivial
 |row sz es=>exact λe he=>bi h _ (ho e he)
 |mp es=>exact λe he=>(bi h [e.2] ⟨ho e he,trivial⟩).1
theorem Vis.oks{σ:Type}(V:Vis σ)(st:σ){m:Nat}(hm:V.n<=m){r:List AO}(hr:∀o∈r,okO m o):∀o∈V.I st++r,okO m o:=by
 intro o ho
 rcases UJ.1 ho with h|h
 ·exact td hm (V.ok st o h)
 ·exact hr o h
theorem Vis.same{σ:Type}(V:Vis σ)(st:σ){k n:Nat}(hk:k<=V.n){r s:List AO}{l l1:List (Nat × AV)}(hr:∀o∈r,okO (V.n+r.length) o)(H:FgA (V.n+r.length) l l1):Wk k (ah n l) (V.I st++(r++s)) (ah n l1) (V.I st++r):=by
 have hl:(V.I st++r).length=V.n+r.length:=by rw[UN,V.len]
 refine ia (m:=V.n+r.length) (by omega) (dx ?_ hl (V.oks st (by omega) hr)) H
 rw[←Vh,←hl,List.take_left'];rfl
theorem Vis.same0{σ:Type}(V:Vis σ)(st:σ){k n:Nat}(hk:k<=V.n){s:List AO}{l l1:List (Nat × AV)}(H:FgA V.n l l1):Wk k (ah n l) (V.I st++s) (ah n l1) (V.I st):=by
 refine ia (m:=V.n) (by omega) (dx ?_ (V.len _) (V.ok st)) H
 rw[←V.len st,List.take_left'];rfl
theorem Nh{α:Type}{a b:List α}{n:Nat}(h:a.length=n)(i:Nat):(a++b)[n+i]?=b[i]?:=by
 rw[←h,UH (by omega)];congr 1;omega
theorem NG{σ:Type}(V:Vis σ)(step:σ->Ex->σ)(inv:σ->Prop)(B:Nat)(hB:B<=1073741824)
 (hv:∀st e,inv st->e.sz<=B->inv (step st e)/\AC Tryz.prog G V.F (.agg (e.cs.map .p)::V.caps) (V.I st) λx h=>x= .ret (.tup [])/\h=V.I (step st e)):
 ∀(N:Nat) (e:Ex),e.sz<N->e.sz<=B->∀st,inv st->inv (e.pre.foldl step st)/\AC Tryz.prog G ke [.agg (e.cs.map .p),.fn (.func V.F) V.caps] (V.I st) λx h=>x= .ret (.tup [])/\h=V.I (e.pre.foldl step st):=by
 intro N
 induction N with
 |zero=>intro e h;omega
 |succ N ih=>
  intro e he hz st hi
  have hec:=e.cs_eq
  have hsz:=e.sz_eq
  have hkl:=bB e.kids
  have hxl:exL e.kids= .lst 4 (e.kids.map Ex.cs):=rfl
  have hlen:=V.len
  obtain⟨i1,h1⟩:=hv st e hi hz
  have hinv:∀i,i<=e.kids.length->inv ((dm (e.kids.take i)).foldl step (step st e)):=by
   intro i
   induction i with
   |zero=>intro _;exact i1
   |succ i ihi=>
    intro hl
    have hg:i<e.kids.length:=by omega
    have hks:=bN (US hg)
    rw[aq hg,sU,List.foldl_append,dm,dm,Vs]
    exact(ih e.kids[i] (by omega) (by omega) _ (ihi (by omega))).1
  refine⟨?_,?_⟩
  ·rw[Ex.pre_eq,List.foldl_cons]
   have:=hinv e.kids.length (UM _)
   rwa[List.take_length] at this
  refine V.trim G (AC.go CG ?_) (by simp[below])
  have hcb:=V.capsOk
  have hcb1:af (V.n+1) V.caps:=bi (by omega) _ hcb
  rw[hec] at h1
  simp-implicitDefEqProofs[tU,hec,hlen]
  refine(V.pre G h1 _ ⟨by simp[below],hcb⟩).mono ?_
  rintro r h ⟨rfl,rfl⟩
  simp-implicitDefEqProofs[aa,hlen,hxl]
  refine aL (λi:Nat=>ah 20 [(1,.fn (.func V.F) V.caps),(2,.ptr V.n 4 0 0),(10,.p (exL e.kids)),(11,.p (.int .i64 e.kids.length)),(12,.p (.int .i64 i))])
   (λi=>V.I ((dm (e.kids.take i)).foldl step (step st e))++[.row 4 [[.p (.int .i64 e.op),.p (.int .i64 e.n),.p (.str e.name),.p (exL e.kids)]]]) (λi=>i<=e.kids.length) (λi=>e.kids.length-i) 0 (by simp) ?_ ?_
  ·refine V.same (r:=[_]) (s:=[]) _ (UM _) (by simp[okO,below]) ?_
   simp[below,hxl,hcb1]
  intro i hil
  simp-implicitDefEqProofs[hxl]
  refine bc (λhc=>?_) (λhc=>?_)
  ·simp at hc
   have hg:=UC hc
   have hks:=bN (US hc)
   have hkc:=e.kids[i].cs_eq
   have hI:=(ih e.kids[i] (by omega) (by omega) _ (hinv i hil)).2
   rw[hkc] at hI
   simp-implicitDefEqProofs[hg,hkc,hlen]
   refine(V.pre G hI _ ⟨by simp[below],by simp[below,hcb],trivial⟩).mono ?_
   rintro r h ⟨rfl,rfl⟩
   simp-implicitDefEqProofs[aa]
   refine⟨i+1,hc,by omega,?_⟩
   have hf:(dm (e.kids.take (i+1))).foldl step (step st e)=e.kids[i].pre.foldl step ((dm (e.kids.take i)).foldl step (step st e)):=by
    rw[aq hc,sU,List.foldl_append,dm,dm,Vs]
   rw[hf]
   refine V.same (r:=[_]) (s:=[_]) _ (UM _) (by simp[okO,below]) ?_
   simp[below,hxl,hcb1,w1 (i:=i) (by omega)]
  ·simp at hc
   have hie:i=e.kids.length:=by omega
   subst hie
   rw[List.take_length,Ex.pre_eq,List.foldl_cons]
   simp-implicitDefEqProofs[]
theorem MH{σ:Type}(V:Vis σ)(step:σ->Sm × Nat->σ)(inv:σ->Prop)(B:Nat)(hB:B<=1073741824)
 (hv:∀st s d,inv st->s.sz<=B->inv (step st (s,d))/\AC Tryz.prog G V.F (.agg (s.cs.map .p):: .p (.int .i64 (d:Nat))::V.caps) (V.I st) λx h=>x= .ret (.tup [])/\h=V.I (step st (s,d))):
 ∀(N:Nat) (l:List Sm),aD l<N->aD l<=B->∀(d:Nat),d+aD l<=1099511627776->∀st,inv st->inv ((bD d l).foldl step st)/\AC Tryz.prog G gB [.p (smL l),.p (.int .i64 d),.fn (.func V.F) V.caps] (V.I st) λx h=>x= .ret (.tup [])/\h=V.I ((bD d l).foldl step st):=by
 intro N
 induction N with
 |zero=>intro l h;omega
 |succ N ih=>
  intro l hl hz d hd st hi
  have hll:=cn l
  have hlen:=V.len
  have hsl:∀l,smL l= .lst 5 (l.map Sm.cs):=λ_=>rfl
  have hone:∀s:Sm,s∈l->∀st,inv st->inv ((s.pre d).foldl step st):=by
   intro s hs st hi
   have hm:=dP hs
   have hsz:=s.sz_eq
   have i1:=(hv st s d hi (by omega)).1
   have i2:=(ih s.body (by omega) (by omega) (d+1) (by omega) _ i1).1
   have i3:=(ih s.els (by omega) (by omega) (d+1) (by omega) _ i2).1
   rw[Sm.pre_eq,List.foldl_cons,List.foldl_append]
   exact i3
  have hinv:∀i,i<=l.length->inv ((bD d (l.take i)).foldl step st):=by
   intro i
   induction i with
   |zero=>intro _;exact hi
   |succ i ihi=>
    intro hl
    have hg:i<l.length:=by omega
    rw[aq hg,sq,List.foldl_append,bD,bD,Vs]
    exact hone _ (US hg) _ (ihi (by omega))
  refine⟨?_,?_⟩
  ·have:=hinv l.length (UM _)
   rwa[List.take_length] at this
  refine V.trim G (AC.go Di ?_) (by simp[below])
  have hcb:=V.capsOk
  simp-implicitDefEqProofs[tp,hsl]
  refine aL (λi:Nat=>ah 31 [(1,.p (.int .i64 d)),(2,.fn (.func V.F) V.caps),(8,.p (smL l)),(9,.p (.int .i64 l.length)),(10,.p (.int .i64 i))])
   (λi=>V.I ((bD d (l.take i)).foldl step st)) (λi=>i<=l.length) (λi=>l.length-i) 0 (by simp) ?_ ?_
  ·rw[hlen]
   have:=V.same0 (s:=[]) st (k:=V.n) (n:=31) (UM _) (l:=[(10,.p (.int .i64 0)),(9,.p (.int .i64 l.length)),(8,.p (smL l)),(0,.p (smL l)),(1,.p (.int .i64 d)),(2,.fn (.func V.F) V.caps)]) (l1:=[(1,.p (.int .i64 d)),(2,.fn (.func V.F) V.caps),(8,.p (smL l)),(9,.p (.int .i64 l.length)),(10,.p (.int .i64 0))]) (by simp[below,hcb])
   rw[Vs] at this
   exact this
  intro i hil
  simp-implicitDefEqProofs[hsl]
  refine bc (λhc=>?_) (λhc=>?_)
  ·simp at hc
   have hg:=UC hc
   have hks:=dP (US hc)
   have hkc:=l[i].cs_eq
   have hsz:=l[i].sz_eq
   have hf:(bD d (l.take (i+1))).foldl step st=(l[i].pre d).foldl step ((bD d (l.take i)).foldl step st):=by
    rw[aq hc,sq,List.foldl_append,bD,bD,Vs]
   have ii:=hinv i hil
   obtain⟨i1,h1⟩:=hv _ l[i] d ii (by omega)
   obtain⟨i2,h2⟩:=ih l[i].body (by omega) (by omega) (d+1) (by omega) _ i1
   obtain⟨i3,h3⟩:=ih l[i].els (by omega) (by omega) (d+1) (by omega) _ i2
   rw[Sm.pre_eq,List.foldl_cons,List.foldl_append] at hf
   have hwd:IntKind.i64.wrap ((d:Int)+1)=((d+1:Nat):Int):=by rw[ab (by omega) (by omega)];omega
   rw[hkc] at h1
   simp-implicitDefEqProofs[hg,hkc,hlen]
   refine(V.pre G h1 _ ⟨by simp,by simp,hcb⟩).mono ?_
   rintro r h ⟨rfl,rfl⟩
   simp-implicitDefEqProofs[aa,hlen,hwd]
   refine(V.pre G h2 _ ⟨by simp,by simp,by simp[below,hcb],trivial⟩).mono ?_
   rintro r h ⟨rfl,rfl⟩
   simp-implicitDefEqProofs[aa,hlen,hwd]
   refine(V.pre G h3 _ ⟨by simp,by simp,by simp[below,hcb],trivial⟩).mono ?_
   rintro r h ⟨rfl,rfl⟩
   simp-implicitDefEqProofs[aa]
   refine⟨i+1,hc,by omega,?_⟩
   rw[hf]
   refine V.same0 (s:=[_]) _ (UM _) ?_
   simp[below,hsl,hcb,w1 (i:=i) (by omega)]
  ·simp at hc
   have hie:i=l.length:=by omega
   subst hie
   rw[List.take_length]
   simp-implicitDefEqProofs[]
end
section
variable (G:al)
abbrev MS:=Int × Int
def rC(st:MS)(x:Sm × Nat):MS:=(IntKind.i64.wrap (st.1+1),if st.2<(x.2:Int) then(x.2:Int) else st.2)
def rO(l:List Fd)(st:MS):MS:=l.foldl (λst f=>(bD 1 f.body).foldl rC st) st
theorem zg:∀(l:List (Sm × Nat)) (st:MS),0<=st.1->st.1+l.length<=1099511627776->(l.foldl rC st).1=st.1+l.length
 |[],st,_,_=>by simp
 |x::r,st,h0,h=>by
  have hw:IntKind.i64.wrap (st.1+1)=st.1+1:=ab (by omega) (by simp at h;omega)
  rw[List.foldl_cons,zg r _ (by simp only[rC,hw];omega) (by simp only[rC,hw];simp at h;omega)]
  simp only[rC,hw,UW]
  omega
theorem zJ:∀(l:List Fd) (st:MS),0<=st.1->st.1+mV l<=1099511627776->(rO l st).1=st.1+mV l
 |[],st,_,_=>by simp[rO,mV]
 |f::r,st,h0,h=>by
  have ha:mV (f::r)=dO f.body+mV r:=by simp[mV]
  have hs:=zg (bD 1 f.body) st h0 (by rw[ll];omega)
  rw[ll] at hs
  have:=zJ r ((bD 1 f.body).foldl rC st) (by omega) (by omega)
  simp only[rO,List.foldl_cons] at this⊢
  omega
theorem Fy{l:List Fd}{st:MS}{i:Nat}(h:i<l.length):rO (l.take (i+1)) st=(bD 1 l[i].body).foldl rC (rO (l.take i) st):=by
 rw[rO,aq h,List.foldl_append];rfl
def nS(p:PV):Vis MS where
 I:=λst=>[.row 1 [[.p p]],.row 1 [[.p (.int .i64 st.1)]],.row 1 [[.p (.int .i64 st.2)]]]
 n:=3
 F:=eO
 caps:=[.ptr 1 1 0 0,.ptr 2 1 0 0]
 len:=λ_=>rfl
 ok:=λst=>by simp[okO,below]
 capsOk:=by simp[below]
theorem Eg(p:PV)(st:MS)(s:Sm)(d:Nat):AC Tryz.prog G eO [.agg (s.cs.map .p),.p (.int .i64 d),.ptr 1 1 0 0,.ptr 2 1 0 0] ((nS p).I st) λx h=>x= .ret (.tup [])/\h=(nS p).I (rC st (s,d)):=by
 refine(nS p).trim G (AC.go uY ?_) (by simp[below])
 have hse:=s.cs_eq
 simp-implicitDefEqProofs[mQ,hse,nS,rC]
theorem Jo(l:List Fd)(hl:aI l<=1073741824):VF Tryz.prog G la [.agg [.p (fdL l)]] (.tup [.p (.int .i64 (mV l)),.p (.int .i64 (rO l (0,0)).2)]):=by
 refine AC.go zp ?_
 have hll:=gQ l
 have hfl:∀l,fdL l= .lst 3 (l.map Fd.cs):=λ_=>rfl
 have hn:(rO l (0,0)).1=mV l:=by rw[zJ l (0,0) (by simp) (by simp only;have:=CT l;omega)];simp
 simp-implicitDefEqProofs[oH,hfl]
 refine aL (λi:Nat=>ah 20 [(2,.ptr 1 1 0 0),(3,.ptr 2 1 0 0),(7,.p (fdL l)),(8,.p (.int .i64 l.length)),(9,.p (.int .i64 i))])
  (λi=>(nS (fdL l)).I (rO (l.take i) (0,0))) (λi=>i<=l.length) (λi=>l.length-i) 0 (by simp) ?_ ?_
 ·exact ae (h:=(nS (fdL l)).I (0,0)) (by simp) ((nS (fdL l)).ok _) (by simp[below,hfl,nS])
 intro i hil
 simp-implicitDefEqProofs[hfl]
 refine bc (λhc=>?_) (λhc=>?_)
 ·simp at hc
  have hg:=UC hc
  have hks:=cS (US hc)
  have hcs:l[i].cs=[.str l[i].name,aw l[i].params,smL l[i].body]:=rfl
  have hfz:l[i].sz=1+l[i].name.length+(l[i].params.length+(l[i].params.map List.length).sum)+aD l[i].body:=rfl
  have hI:=(MH G (nS (fdL l)) rC (λ_=>True) 1073741824 (by omega) (λst s d _ _=>⟨trivial,Eg G _ st s d⟩) (aD l[i].body+1) l[i].body (by omega) (by omega) 1 (by omega) (rO (l.take i) (0,0)) trivial).2
  have hlen:=(nS (fdL l)).len
  have h3:(nS (.lst 3 (l.map Fd.cs))).n=3:=rfl
  have hlen':∀st,((nS (.lst 3 (l.map Fd.cs))).I st).length=3:=λ_=>rfl
  simp-implicitDefEqProofs[hg,hcs,hlen']
  refine((nS (fdL l)).pre G hI [_] ⟨by simp,by simp,by simp[below,nS],trivial⟩).mono ?_
  rintro r h ⟨rfl,rfl⟩
  simp-implicitDefEqProofs[aa]
  refine⟨i+1,hc,by omega,?_⟩
  rw[Fy hc]
  refine(nS (fdL l)).same0 (s:=[_]) _ (by simp[nS]) ?_
  simp[below,hfl,nS,w1 (i:=i) (by omega)]
 ·simp at hc
  have hie:i=l.length:=by omega
  subst hie
  rw[List.take_length]
  simp-implicitDefEqProofs[nS,hn]
theorem uX(hK:G gh=some eZ)(s:List UInt8)(hb:s.length<=140737488355328):VF Tryz.prog G br [.p (.str s)] (.p (.bool (!aG s))):=by
 refine AC.go nQ ?_
 simp-implicitDefEqProofs[iB]
 refine(ph G hK s hb).use ?_
 simp-implicitDefEqProofs[]
def Gr(L:List (List UInt8)):Int:=match L.findIdx? (λw=> !aG w) with|some i=>i|none=> -1
theorem LG(L:List (List UInt8)):decide (0<=Gr L)= !(L.all aG):=by
 unfold Gr
 cases h:L.findIdx? (λx=> !aG x) with
 |none=>
  rw[Vi] at h
  have:L.all aG=true:=UI.2 λx hx=>by have:=h x hx;simpa using this
  simp[this]
 |some i=>
  rw[UU] at h
  obtain⟨h1,h2,_⟩:=h
  have:L.all aG=false:=List.all_eq_false.2 ⟨_,US h1,by simpa using h2⟩
  rw[this];simp
theorem JD{L:List (List UInt8)}{n:Nat}(h:(L.map List.length).sum<=n):∀x∈L,x.length<=n:=by
 induction L with
 |nil=>intro x hx;cases hx
 |cons y r ih=>
  intro x hx
  simp only[Ve,List.sum_cons] at h
  rcases UK.1 hx with rfl|hx
  ·omega
  ·exact ih (by omega) x hx
variable (hK:G gh=some eZ)
include hK
theorem Gz(L:List (List UInt8))(hb:L.length<=1073741824)(hw:∀x∈L,x.length<=140737488355328):VF Tryz.prog G cK [.p (aw L),.fn (.func br) []] (.p (.int .i64 (Gr L))):=by
 refine AC.go lm ?_
 have hsl:aw L= .lst 1 (L.map λw=>[.str w]):=rfl
 simp-implicitDefEqProofs[eU,hsl]
 refine aL (λi:Nat=>ah 19 [(0,.p (aw L)),(1,.fn (.func br) []),(6,.p (aw L)),(7,.p (.int .i64 L.length)),(8,.p (.int .i64 i))]) (λ_=>[]) (λi=>i<=L.length/\∀w∈L.take i,aG w=true) (λi=>L.length-i) 0 (by simp) ?_ ?_
 ·exact ae (by simp) (by simp[okO]) (by simp[below,af,aw])
 ·intro i ⟨hi,hn⟩
  simp-implicitDefEqProofs[hsl]
  refine bc (λh1=>?_) (λh1=>?_)
  ·simp at h1
   have hg:=UC h1
   simp-implicitDefEqProofs[hg]
   refine(uX G hK _ (hw _ (US h1))).use ?_
   by_cases he:aG L[i]=true
   ·simp-implicitDefEqProofs[he]
    refine⟨i+1,⟨h1,λp hp=>?_⟩,by omega,ae (by simp) (by simp[okO]) ?_⟩
    ·rw[aq h1] at hp
     rcases UJ.1 hp with hp|hp
     ·exact hn p hp
     ·rw[UL.1 hp];exact he
    ·simp[below,af,aw,w1 (i:=i) (by omega)]
   ·have hf:Gr L=i:=by
     have:L.findIdx? (λw=> !aG w)=some i:=by
      rw[UU]
      exact⟨h1,by simpa using he,λj hj=>by have:=hn L[j] (VJ.2 ⟨j,by omega,rfl⟩);simpa using this⟩
     rw[Gr,this]
    simp-implicitDefEqProofs[he,hf]
  ·simp at h1
   rw[UG h1] at hn
   have hf:Gr L= -1:=by
    have:L.findIdx? (λw=> !aG w)=none:=by
     rw[Vi];intro x hx;simpa using hn x hx
    rw[Gr,this]
   simp-implicitDefEqProofs[hf]
theorem Br(L:List (List UInt8))(hb:L.length<=1073741824)(hw:∀x∈L,x.length<=140737488355328):VF Tryz.prog G cb [.p (aw L),.fn (.func br) []] (.p (.bool (!L.all aG))):=by
 rw[←LG]
 refine AC.go jA ?_
 simp-implicitDefEqProofs[dQ]
 refine(Gz G hK L hb hw).use ?_
 simp-implicitDefEqProofs[]
variable (hS:G cX=some [.tbl opK opV])
include hS
theorem zo(l:List Fd)(hl:aI l<=1073741824):VF Tryz.prog G fa [.agg [.p (fdL l)]] (.p (.bool (bs l))):=by
 refine AC.go pM ?_
 have hll:=gQ l
 have hfl:∀l,fdL l= .lst 3 (l.map Fd.cs):=λ_=>rfl
 have hm:=Jo G l hl
 rw[hfl] at hm
 simp-implicitDefEqProofs[jY,hfl]
 refine(mT G _ _ _).use ?_
 by_cases h1:inR l.length 1 4=true
 case neg=>simp-implicitDefEqProofs[h1,bs]
 simp-implicitDefEqProofs[h1]
 refine aL (λi:Nat=>ah 48 [(1,.ptr 0 1 0 0),(13,.p (fdL l)),(14,.p (.int .i64 l.length)),(15,.p (.int .i64 i))]) (λ_=>[.row 1 [[.p (.lst 3 (l.map Fd.cs))]]]) (λi=>i<=l.length/\(l.take i).all kb=true) (λi=>l.length-i) 0 (by simp) (ae (by simp) (by simp[okO]) (by simp[below,hfl])) ?_
 intro i ⟨hi,ha⟩
 simp-implicitDefEqProofs[hfl]
 refine bc (λh=>?_) (λh=>?_)
 ·simp at h
  have hg:=UC h
  have hks:=cS (US h)
  have hbadF:kb l[i]=false->bs l=false:=λhk'=>by simp only[bs,nv h hk',Bool.and_false,Bool.false_and]
  have hcs:l[i].cs=[.str l[i].name,aw l[i].params,smL l[i].body]:=rfl
  have hfz:l[i].sz=1+l[i].name.length+(l[i].params.length+(l[i].params.map List.length).sum)+aD l[i].body:=rfl
  have hokF:kb l[i]=(l[i].params.all aG&&aG l[i].name&&decide (l[i].params.length<=3)&&l[i].body.all (az 4)):=rfl
  have hblk:=vI G 4 1 (λs hs=>by simpa using Ke G hK hS 4 (by omega) s hs) l[i].body (by omega)
  have hcon:=Br G hK l[i].params (by omega) (JD (by omega))
  have hst:aw l[i].params= .lst 1 (l[i].params.map λw=>[.str w]):=rfl
  generalize l[i]=f at*
  rw[hst] at hcon
  simp-implicitDefEqProofs[hg,hcs,hst]
  refine(ph G hK _ (by omega)).use ?_
  by_cases k1:aG f.name=true
  case neg=>
   rw[hbadF (by rw[hokF];simp[k1])]
   simp-implicitDefEqProofs[k1]
  by_cases k2:f.params.length<=3
  case neg=>
   have k2':(3:Int)<f.params.length:=by omega
   rw[hbadF (by rw[hokF];simp[k2])]
   simp-implicitDefEqProofs[k1,k2']
  have k2':¬(3:Int)<f.params.length:=by omega
  simp-implicitDefEqProofs[k1,k2']
  refine hcon.use ?_
  by_cases k3:f.params.all aG=true
  case neg=>
   have k3':f.params.all aG=false:=by simpa using k3
   rw[hbadF (by rw[hokF,k3'];simp)]
   simp-implicitDefEqProofs[k3']
  simp only[k3]
  simp-implicitDefEqProofs[]
  refine hblk.use ?_
  by_cases k4:f.body.all (az 4)=true
  case neg=>
   have k4':f.body.all (az 4)=false:=by simpa using k4
   rw[hbadF (by rw[hokF,k4'];simp)]
   simp only[k4']
   simp-implicitDefEqProofs[]
  simp only[k4]
  simp-implicitDefEqProofs[]
  have hk:kb f=true:=by rw[hokF,k1,k3,k4];simp[k2]
  refine⟨i+1,⟨h,by rw[←UI,ov hg,ha,hk];rfl⟩,by omega,ia (m:=1) (by omega) (dx rfl rfl (by simp[okO,below])) (by simp[below,hfl,w1 (i:=i) (by omega)])⟩
 ·simp at h
  have h2:l.all kb=true:=ig h ha
  simp-implicitDefEqProofs[]
  refine hm.use ?_
  have hff:bs l=decide (mV l<=40):=by simp only[bs,h1,h2,Bool.true_and]
  simp-implicitDefEqProofs[hff]
  omega
end
section
variable (G:al)
theorem Gc(l:List Fd)(s:List UInt8)(hl:l.length<=1073741824):VF Tryz.prog G jo [.agg [.p (fdL l)],.p (.str s)] (.p (.int .i64 (ixI (bQ l s)))):=by
 have hfl:∀l,fdL l= .lst 3 (l.map Fd.cs):=λ_=>rfl
 have dK:∀f:Fd,AC Tryz.prog G fJ [.agg (f.cs.map .p),.ptr 1 1 0 0] [.row 1 [[.p (fdL l)]],.row 1 [[.p (.str s)]]] λx h=>x= .ret (.p (.bool (decide (f.name=s))))/\h=[.row 1 [[.p (fdL l)]],.row 1 [[.p (.str s)]]]:=by
  intro f
  have hcs:f.cs=[.str f.name,aw f.params,smL f.body]:=rfl
  refine AC.trim (AC.go Bg ?_) (by simp[below])
  simp-implicitDefEqProofs[rq,hcs]
 have idx:AC Tryz.prog G cH [.p (fdL l),.fn (.func fJ) [.ptr 1 1 0 0]] [.row 1 [[.p (fdL l)]],.row 1 [[.p (.str s)]]] λx h=>x= .ret (.p (.int .i64 (ixI (bQ l s))))/\h=[.row 1 [[.p (fdL l)]],.row 1 [[.p (.str s)]]]:=by
  refine AC.go kq ?_
  simp-implicitDefEqProofs[eC,hfl]
  refine aL (λi:Nat=>ah 19 [(0,.p (fdL l)),(1,.fn (.func fJ) [.ptr 1 1 0 0]),(7,.p (.int .i64 l.length)),(8,.p (.int .i64 i))]) (λ_=>[.row 1 [[.p (fdL l)]],.row 1 [[.p (.str s)]]]) (λi=>i<=l.length/\∀f∈l.take i,f.name≠s) (λi=>l.length-i) 0 (by simp) ?_ ?_
  ·exact ae (by simp) (by simp[okO,below]) (by simp[below,af,hfl])
  ·intro i ⟨hi,hn⟩
   simp-implicitDefEqProofs[hfl]
   refine bc (λh1=>?_) (λh1=>?_)
   ·simp at h1
    have hg:=UC h1
    simp-implicitDefEqProofs[hg]
    refine(dK l[i]).mono ?_
    rintro r h ⟨rfl,rfl⟩
    by_cases he:l[i].name=s
    ·have hf:bQ l s=some i:=by
      rw[bQ,UU]
      exact⟨h1,by simpa using he,λj hj=>by have:=hn l[j] (VJ.2 ⟨j,by omega,rfl⟩);simpa using this⟩
     simp-implicitDefEqProofs[aa,he,hf,ixI]
     exact hfl l
    ·simp-implicitDefEqProofs[aa,he]
     refine⟨i+1,⟨h1,λp hp=>?_⟩,by omega,ae (h:=[.row 1 [[.p (fdL l)]],.row 1 [[.p (.str s)]]]) (by simp) (by simp[okO,below]) (by simp[below,af,hfl,w1 (i:=i) (by omega)])⟩
     rw[aq h1] at hp
     rcases UJ.1 hp with hp|hp
     ·exact hn p hp
     ·rw[UL.1 hp];exact he
   ·simp at h1
    rw[UG h1] at hn
    have hf:bQ l s=none:=by
     rw[bQ,Vi];intro x hx;simpa using hn x hx
    simp-implicitDefEqProofs[hf,ixI]
 refine AC.go DC ?_
 simp-implicitDefEqProofs[vC]
 refine idx.mono ?_
 rintro r h ⟨rfl,rfl⟩
 simp-implicitDefEqProofs[aa]
structure GS where (gap:List AO) (m:Scp)
def mpE(m:Scp):List (PV × AV):=m.map λx=>(.str x.1,.p (.int .i64 x.2))
def scL:List GS->Nat
 |[]=>0
 |g::up=>scL up+g.gap.length+2
def upV:List GS->AV
 |[]=> .nilp
 |g::up=> .ptr (2+scL up+g.gap.length+1) 2 0 0
def scH:List GS->List AO
 |[]=>[]
 |g::up=>scH up++(g.gap++[.mp (mpE g.m),.row 2 [[.mp (2+scL up+g.gap.length),upV up]]])
theorem lP:∀ch:List GS,(scH ch).length=scL ch
 |[]=>rfl
 |g::up=>by simp only[scH,scL,UN,lP up,UW,List.length_nil];omega
def cO(fns:List Fd)(k:Nat)(c:Int):AO:= .row 3 [[.p (fdL fns),.p (.int .i64 k),.p (.int .i64 c)]]
def CH(b0:AO)(fns:List Fd)(k:Nat)(c:Int)(ch:List GS):List AO:=b0::cO fns k c::scH ch
theorem iG(b0:AO)(fns:List Fd)(k:Nat)(c:Int)(ch:List GS):(CH b0 fns k c ch).length=2+scL ch:=by
 simp only[CH,UW,lP];omega
def Aj:List GS->Prop
 |[]=>True
 |g::up=>(∀o∈g.gap,okO (2+scL up+g.gap.length) o)/\Aj up
theorem ko:∀(ch:List GS) {n:Nat},2+scL ch<=n->below n (upV ch)
 |[],_,_=>by simp[upV,below]
 |g::up,n,h=>by simp only[scL] at h;simp only[upV,below];omega
theorem FB:∀(ch:List GS) {n:Nat},Aj ch->2+scL ch<=n->∀o∈scH ch,okO n o
 |[],_,_,_,o,ho=>by cases ho
 |g::up,n,⟨h1,h2⟩,hn,o,ho=>by
  simp only[scL] at hn
  rw[scH] at ho
  rcases UJ.1 ho with h|h
  ·exact FB up h2 (by omega) o h
  ·rcases UJ.1 h with h|h
   ·exact td (by omega) (h1 o h)
   ·simp only[UK,Va,or_false] at h
    rcases h with rfl|rfl
    ·intro e he
     obtain⟨x,_,rfl⟩:=UX.1 he
     simp[below]
    ·intro e he
     rw[UL.1 he]
     exact⟨by simp only[below];omega,ko up (by omega),trivial⟩
theorem EO{b0:AO}{fns:List Fd}{k:Nat}{c:Int}{ch:List GS}(hb:okO 0 b0)(hs:Aj ch){n:Nat}(hn:2+scL ch<=n):∀o∈CH b0 fns k c ch,okO n o:=
 aj (eb hb) (aj (by intro e he;rw[UL.1 he];simp[below]) (FB ch hs hn))
theorem tK(s:List UInt8):∀m:Scp,eS (.str s) (mpE m)=some ((dL m s).map λn=>AV.p (.int .i64 n))
 |[]=>rfl
 |x::r=>by
  have ih:=tK s r
  by_cases h:x.1=s
  ·simp[mpE,eS,keq,h,dL]
  ·have h':¬s=x.1:=λe=>h e.symm
   simp only[mpE,Ve,eS,keq,h',decide_false]
   simp only[mpE] at ih
   rw[ih];simp[dL,h]
theorem Ar(s:List UInt8)(n:Nat):∀m:Scp,gR (.str s) (.p (.int .i64 n)) (mpE m)=some (mpE (gt m s n))
 |[]=>rfl
 |x::r=>by
  have ih:=Ar s n r
  by_cases h:x.1=s
  ·simp[mpE,gR,keq,h,gt]
  ·have h':¬s=x.1:=λe=>h e.symm
   simp only[mpE,Ve,gR,keq,h',decide_false]
   simp only[mpE] at ih
   rw[ih];simp[gt,h]
abbrev sco(ch:List GS):List Scp:=ch.map GS.m
theorem JY:∀(pre:List GS) (g:GS) (up:List GS),(scH (pre++g::up))[scL up+g.gap.length]?=some (.mp (mpE g.m))/\(scH (pre++g::up))[scL up+g.gap.length+1]?=some (.row 2 [[.mp (2+scL up+g.gap.length),upV up]])
 |[],g,up=>by
  have hl:(scH up++g.gap).length=scL up+g.gap.length:=by rw[UN,lP]
  have e:scH (g::up)=(scH up++g.gap)++[.mp (mpE g.m),.row 2 [[.mp (2+scL up+g.gap.length),upV up]]]:=by rw[scH,Vh]
  rw[List.nil_append,e]
  exact⟨by rw[←hl,UH (UM _)];simp,by rw[←hl,UH (by omega)];simp⟩
 |p::pre,g,up=>by
  obtain⟨h1,h2⟩:=JY pre g up
  have hm1:=(Uz.1 h1).1
  have hm2:=(Uz.1 h2).1
  rw[Vn,scH]
  exact⟨by rw[UB hm1];exact h1,by rw[UB hm2];exact h2⟩
theorem Fk(ch:List GS):(upV ch).isCell=true:=by cases ch<;>rfl
theorem It(ch:List GS):(upV ch).cells=[upV ch]:=by cases ch<;>rfl
attribute [simp ↓] Fk It
theorem Db(b0:AO)(fns:List Fd)(k:Nat)(c e:Int)(r:List AO):AC Tryz.prog G cg [.ptr 1 3 0 0,.p (.int .i64 e)] (b0::cO fns k c::r) λx h=>x= .ret (.tup [])/\h=b0::cO fns k (fl c e)::r:=by
 refine AC.go pX ?_
 by_cases h0:c=0
 ·simp-implicitDefEqProofs[fb,cO,h0,fl]
 ·simp-implicitDefEqProofs[fb,cO,h0,fl]
theorem Aq(up:AV)(hu:up= .nilp\/∃i,up= .ptr i 2 0 0)(h:List AO):AC Tryz.prog G cU [up] h λx h'=>x= .ret (.ptr (h.length+1) 2 0 0)/\h'=h++[.mp [],.row 2 [[.mp h.length,up]]]:=by
 refine AC.go sZ ?_
 rcases hu with rfl|⟨i,rfl⟩
 ·simp-implicitDefEqProofs[ib]
 ·simp-implicitDefEqProofs[ib]
theorem Mc(b0 c0:AO)(ch:List GS)(rest:List AO)(s:List UInt8):AC Tryz.prog G bY [upV ch,.p (.str s)] (b0::c0::(scH ch++rest)) λx h=>x= .ret (.tup [.p (.int .i64 (((jz (sco ch) s).getD 0:Nat):Int)),.p (.bool (jz (sco ch) s).isSome)])/\h=b0::c0::(scH ch++rest):=by
 refine AC.goB tM λhb=>?_
 simp-implicitDefEqProofs[lY]
 have hHl:(b0::c0::(scH ch++rest)).length=2+scL ch+rest.length:=by simp only[UW,UN,lP];omega
 refine aL (λr:List GS=>ah 25 [(0,upV r),(1,.p (.str s))]) (λ_=>b0::c0::(scH ch++rest)) (λr=>∃pre,ch=pre++r/\jz (sco ch) s=jz (sco r) s) (λr=>r.length) ch ⟨[],rfl,rfl⟩ ?_ ?_
 ·refine zK (by simp) hb ?_
  rw[hHl]
  exact⟨⟨ko ch (by omega),by simp⟩,⟨by simp,by simp⟩,trivial⟩
 rintro r ⟨pre,e1,e2⟩
 cases r with
 |nil=>
  rw[e2]
  simp-implicitDefEqProofs[upV,jz]
 |cons g up=>
  obtain⟨a1,a2⟩:=JY pre g up
  rw[←e1] at a1 a2
  have b1:=(Uz.1 a1).1
  have b2:=(Uz.1 a2).1
  have l1:(b0::c0::(scH ch++rest))[2+scL up+g.gap.length]?=some (.mp (mpE g.m)):=by
   rw[show 2+scL up+g.gap.length=(scL up+g.gap.length)+1+1 by omega,UQ,UQ,UB b1,a1]
  have l2:(b0::c0::(scH ch++rest))[2+scL up+g.gap.length+1]?=some (.row 2 [[.mp (2+scL up+g.gap.length),upV up]]):=by
   rw[show 2+scL up+g.gap.length+1=(scL up+g.gap.length+1)+1+1 by omega,UQ,UQ,UB b2,a2]
  have hmg:=tK s g.m
  have hle:=lP ch
  rw[e2]
  generalize hH:b0::c0::(scH ch++rest)=H at*
  have hup:upV (g::up)= .ptr (2+scL up+g.gap.length+1) 2 0 0:=rfl
  cases hh:dL g.m s with
  |some n=>
   rw[hh] at hmg
   simp-implicitDefEqProofs[hup,l1,l2,hmg,jz,hh]
  |none=>
   rw[hh] at hmg
   simp-implicitDefEqProofs[hup,l1,l2,hmg,jz,hh]
   refine⟨up,⟨⟨pre++[g],by rw[e1];simp⟩,rfl⟩,by simp,?_⟩
   refine zK ?_ hb ?_
   ·rw[hHl,lP];omega
   ·refine⟨⟨ko up ?_,?_⟩,⟨by simp,by simp⟩,trivial⟩
    ·rw[hHl]
     have:=congrArg List.length e1
     have h3:=(Uz.1 l2).1
     rw[hHl] at h3
     omega
    ·simp
end
section
variable (G:al)
theorem Ow{f:FuncId}{args:List AV}{h h1:List AO}{v:AV}(H:AC Tryz.prog G f args h λx h'=>x= .ret v/\∃l,h'=h1++l)(hl:h1.length=h.length)(ho:∀o∈h1,okO h.length o)(hv:below h.length v):
 AC Tryz.prog G f args h λx h'=>x= .ret v/\h'=h1:=by
 refine H.wk (λt v h ⟨e,_⟩=>by cases e) ?_
 rintro u h' ⟨e,l,rfl⟩
 cases e
 refine⟨v,h1,yO (n:=h.length) (UM _) (dx ?_ hl ho) ?_,rfl,rfl⟩
 ·rw[←hl,List.take_left'];rfl
 ·simp[Fgt,hv]
theorem OM{f:FuncId}{args:List AV}{b0:AO}{fns:List Fd}{k:Nat}{c c':Int}{ch ch':List GS}{v:AV}(H:AC Tryz.prog G f args (CH b0 fns k c ch) λx h=>x= .ret v/\h=CH b0 fns k c' ch')(hb:okO 0 b0)(hs:Aj ch)(hl:scL ch'=scL ch)(rest:List AO)(ha:af (2+scL ch) args):
 AC Tryz.prog G f args (CH b0 fns k c ch++rest) λx h=>x= .ret v/\h=CH b0 fns k c' ch'++rest:=by
 refine(AC.pre H rest (by rw[iG];exact ha) (by rw[iG];exact EO hb hs (UM _)) ?_).mono ?_
 ·rintro x h ⟨_,rfl⟩;rw[iG,iG,hl]
 ·rintro x h ⟨h1,⟨rfl,rfl⟩,rfl⟩
  exact⟨rfl,rfl⟩
def bxs(ch:List GS)(q:List AV):List AO:=[.row 1 [[.ptr 1 3 0 0]],.row 4 [q],.row 1 [[upV ch]]]
def pK(b0:AO)(fns:List Fd)(k:Nat)(ch:List GS)(q:List PV)(hb:okO 0 b0)(hs:Aj ch):Vis Int where
 I:=λc=>CH b0 fns k c ch++bxs ch (q.map .p)
 n:=2+scL ch+3
 F:=bO
 caps:=[.ptr (2+scL ch+2) 1 0 0,.ptr (2+scL ch) 1 0 0]
 len:=λc=>by rw[UN,iG];rfl
 ok:=λc o ho=>by
  rcases UJ.1 ho with h|h
  ·exact EO hb hs (by omega) o h
  ·simp only[bxs,UK,Va,or_false] at h
   rcases h with rfl|rfl|rfl
   ·intro e he;rw[UL.1 he];exact⟨by simp only[below];omega,trivial⟩
   ·intro e he;rw[UL.1 he];exact bi (VA _) _ (by simp)
   ·intro e he;rw[UL.1 he];exact⟨ko ch (by omega),trivial⟩
 capsOk:=by simp[below]
def eH(b0:AO)(fns:List Fd)(k:Nat)(ch:List GS)(q:List PV)(e:Ex)(c:Int):List AO:=b0::cO fns k c::(scH ch++(bxs ch (q.map .p)++[.row 4 [[.p (.int .i64 e.op),.p (.int .i64 e.n),.p (.str e.name),.p (exL e.kids)]]]))
section
variable {b0:AO} {fns:List Fd} {k:Nat} {ch:List GS} {q:List PV} {e:Ex} {c:Int}
theorem eH_eq{hb:okO 0 b0}{hs:Aj ch}:(pK b0 fns k ch q hb hs).I c++[.row 4 [[.p (.int .i64 e.op),.p (.int .i64 e.n),.p (.str e.name),.p (exL e.kids)]]]=eH b0 fns k ch q e c:=by
 simp[pK,eH,CH]
theorem Oi:(eH b0 fns k ch q e c)[1]?=some (.row 3 [[.p (fdL fns),.p (.int .i64 k),.p (.int .i64 c)]]):=rfl
theorem Jt(i:Nat):(eH b0 fns k ch q e c)[2+scL ch+i]?=(bxs ch (q.map .p)++[.row 4 [[.p (.int .i64 e.op),.p (.int .i64 e.n),.p (.str e.name),.p (exL e.kids)]]])[i]?:=by
 rw[eH,show 2+scL ch+i=(scL ch+i)+1+1 by omega,UQ,UQ]
 exact Nh (lP ch) i
theorem Im:(eH b0 fns k ch q e c)[2+scL ch]?=some (.row 1 [[.ptr 1 3 0 0]]):=Jt 0
theorem Sb:(eH b0 fns k ch q e c)[2+scL ch+2]?=some (.row 1 [[upV ch]]):=Jt 2
theorem JP:(eH b0 fns k ch q e c)[2+scL ch+3]?=some (.row 4 [[.p (.int .i64 e.op),.p (.int .i64 e.n),.p (.str e.name),.p (exL e.kids)]]):=Jt 3
end
theorem KD{fns:List Fd}{s:List UInt8}{j:Nat}(h:bQ fns s=some j):j<fns.length:=by
 rw[bQ,UU] at h;exact h.1
theorem Mu(b0:AO){fns:List Fd}{k:Nat}(hf:fns.length<=1073741824)(hk:k<=fns.length)(ch:List GS)(q:List PV)(hb:okO 0 b0)(hs:Aj ch)(c:Int)(e:Ex)(he:e.sz<=1073741824):
 AC Tryz.prog G bO (.agg (e.cs.map .p)::(pK b0 fns k ch q hb hs).caps) ((pK b0 fns k ch q hb hs).I c) λx h=>x= .ret (.tup [])/\h=(pK b0 fns k ch q hb hs).I (fW fns k (sco ch) c e):=by
 refine(pK b0 fns k ch q hb hs).trim G (AC.go nL ?_) (by simp[below])
 have hec:=e.cs_eq
 have hlen:((pK b0 fns k ch q hb hs).I c).length=2+scL ch+3:=(pK b0 fns k ch q hb hs).len c
 have hcaps:(pK b0 fns k ch q hb hs).caps=[.ptr (2+scL ch+2) 1 0 0,.ptr (2+scL ch) 1 0 0]:=rfl
 have fin:∀c',(∃l,eH b0 fns k ch q e c'=(pK b0 fns k ch q hb hs).I c'++l):=λc'=>⟨_,eH_eq.symm⟩
 have hfail:∀n,AC Tryz.prog G cg [.ptr 1 3 0 0,.p (.int .i64 n)] (eH b0 fns k ch q e c) λx h=>x= .ret (.tup [])/\h=eH b0 fns k ch q e (fl c n):=λn=>Db G b0 fns k c n _
 have hkl:=bB e.kids
 have hsz:=e.sz_eq
 rw[hcaps]
 simp-implicitDefEqProofs[iv,hec,hlen]
 rw[eH_eq]
 generalize hV:(pK b0 fns k ch q hb hs).I=VI at fin⊢
 by_cases o2:e.op=2
 ·have hfind:AC Tryz.prog G bY [upV ch,.p (.str e.name)] (eH b0 fns k ch q e c) λx h=>x= .ret (.tup [.p (.int .i64 (((jz (sco ch) e.name).getD 0:Nat):Int)),.p (.bool (jz (sco ch) e.name).isSome)])/\h=eH b0 fns k ch q e c:=Mc G b0 (cO fns k c) ch _ e.name
  simp-implicitDefEqProofs[o2,Im,Sb,JP,Oi]
  refine hfind.mono ?_
  rintro r h ⟨rfl,rfl⟩
  cases hfs:jz (sco ch) e.name with
  |some n=>
   have hv:fW fns k (sco ch) c e=c:=by simp[fW,o2,hfs]
   rw[hv]
   simp-implicitDefEqProofs[aa]
   exact fin c
  |none=>
   have hv:fW fns k (sco ch) c e=fl c 3:=by simp[fW,o2,hfs]
   rw[hv]
   simp-implicitDefEqProofs[aa,Im]
   refine(hfail 3).mono ?_
   rintro r h ⟨rfl,rfl⟩
   simp-implicitDefEqProofs[aa]
   exact fin _
 by_cases o13:e.op=13
 ·have hfl:fdL fns= .lst 3 (fns.map Fd.cs):=rfl
  have hfk:fdL (fns.take k)= .lst 3 ((fns.map Fd.cs).take k):=by rw[←List.map_take];rfl
  have hxl:exL e.kids= .lst 4 (e.kids.map Ex.cs):=rfl
  have hAt:=Gc G (fns.take k) e.name (by rw[Vf];omega)
  rw[hfk] at hAt
  simp-implicitDefEqProofs[o13,Im,Sb,JP,Oi,hfl,hk]
  refine hAt.use ?_
  cases hfa:bQ (fns.take k) e.name with
  |none=>
   have hv:fW fns k (sco ch) c e=fl c 4:=by simp[fW,o13,hfa]
   rw[hv]
   simp-implicitDefEqProofs[ixI,Im]
   refine(hfail 4).mono ?_
   rintro r h ⟨rfl,rfl⟩
   simp-implicitDefEqProofs[aa]
   exact fin _
  |some j=>
   have hj:=KD hfa
   rw[Vf] at hj
   have hjl:j<fns.length:=by omega
   have hg:=UC hjl
   have hjn:¬(j:Int)<0:=by omega
   have hcs:fns[j].cs=[.str fns[j].name,aw fns[j].params,smL fns[j].body]:=rfl
   have hst:aw fns[j].params= .lst 1 (fns[j].params.map λw=>[.str w]):=rfl
   have hpn:AZ fns j=fns[j].params.length:=by simp[AZ,hg]
   by_cases hp:fns[j].params.length=e.kids.length
   ·have hv:fW fns k (sco ch) c e=c:=by simp[fW,o13,hfa,hpn,hp]
    rw[hv]
    simp-implicitDefEqProofs[ixI,Im,Oi,JP,hjn,hfl,hg,hcs,hst,hxl,hp]
    exact fin _
   ·have hv:fW fns k (sco ch) c e=fl c 5:=by simp[fW,o13,hfa,hpn,hp]
    have hp':¬(fns[j].params.length:Int)=(e.kids.length:Int):=by omega
    rw[hv]
    simp-implicitDefEqProofs[ixI,Im,Oi,JP,hjn,hfl,hg,hcs,hst,hxl,hp']
    refine(hfail 5).mono ?_
    rintro r h ⟨rfl,rfl⟩
    simp-implicitDefEqProofs[aa]
    exact fin _
 ·have hv:fW fns k (sco ch) c e=c:=by simp[fW,o2,o13]
  rw[hv]
  simp-implicitDefEqProofs[o2,o13,JP]
  exact fin _
theorem NP(ch:List GS):upV ch= .nilp\/∃i,upV ch= .ptr i 2 0 0:=by
 cases ch with
 |nil=>exact .inl rfl
 |cons g up=>exact .inr ⟨_,rfl⟩
theorem Pv(b0:AO){fns:List Fd}{k:Nat}(hf:fns.length<=1073741824)(hk:k<=fns.length)(ch:List GS)(hb:okO 0 b0)(hs:Aj ch)(c:Int)(e:Ex)(he:e.sz<=1073741824):
 AC Tryz.prog G du [.ptr 1 3 0 0,.agg (e.cs.map .p),upV ch] (CH b0 fns k c ch) λx h=>x= .ret (.tup [])/\h=CH b0 fns k (e.pre.foldl (fW fns k (sco ch)) c) ch:=by
 refine Ow G (h:=CH b0 fns k c ch) (AC.go pP ?_) (by rw[iG,iG]) (by rw[iG];exact EO hb hs (UM _)) (by simp[below])
 have hec:=e.cs_eq
 have hlen:(CH b0 fns k c ch).length=2+scL ch:=iG _ _ _ _ _
 have hI:=(NG G (pK b0 fns k ch e.cs hb hs) (fW fns k (sco ch)) (λ_=>True) 1073741824 (by omega) (λst x _ hx=>⟨trivial,Mu G b0 hf hk ch e.cs hb hs st x hx⟩) (e.sz+1) e (by omega) he c trivial).2
 have hcaps:(pK b0 fns k ch e.cs hb hs).caps=[.ptr (2+scL ch+2) 1 0 0,.ptr (2+scL ch) 1 0 0]:=rfl
 have hF:(pK b0 fns k ch e.cs hb hs).F=bO:=rfl
 have hVI:(pK b0 fns k ch e.cs hb hs).I c=CH b0 fns k c ch++[.row 1 [[.ptr 1 3 0 0]],.row 4 [[.p (.int .i64 e.op),.p (.int .i64 e.n),.p (.str e.name),.p (exL e.kids)]],.row 1 [[upV ch]]]:=by simp[pK,bxs,hec]
 rw[hcaps,hF,hVI,hec] at hI
 have hup:=NP ch
 generalize upV ch=u at hI hup⊢
 rcases hup with rfl|⟨i,rfl⟩
 ·simp-implicitDefEqProofs[fh,hec,hlen]
  refine hI.mono ?_
  rintro r h ⟨rfl,rfl⟩
  simp-implicitDefEqProofs[aa]
  exact⟨_,rfl⟩
 ·simp-implicitDefEqProofs[fh,hec,hlen]
  refine hI.mono ?_
  rintro r h ⟨rfl,rfl⟩
  simp-implicitDefEqProofs[aa]
  exact⟨_,rfl⟩
end
section
theorem pi:AK.whole eF=FK.ak eA:=rfl
theorem DV(fns:List Fd)(k:Nat):∀(a b:List Sm) (m:Scp) (up:List Scp) (c:Int),iu fns k (a++b) m up c=iu fns k b (iu fns k a m up c).1 up (iu fns k a m up c).2
 |[],b,m,up,c=>rfl
 |s::r,b,m,up,c=>by rw[Vn,iu,iu,DV fns k r]
theorem Ir{fns:List Fd}{k:Nat}{l:List Sm}{m:Scp}{up:List Scp}{c:Int}{i:Nat}(h:i<l.length):iu fns k (l.take (i+1)) m up c=icS fns k l[i] (iu fns k (l.take i) m up c).1 up (iu fns k (l.take i) m up c).2:=by
 rw[aq h,DV];rfl
def AX(b0:AO)(fns:List Fd)(k:Nat)(up:List GS)(gap:List AO)(c:Int):List AO:=b0::cO fns k c::(scH up++gap)
theorem Pl(b0:AO)(fns:List Fd)(k:Nat)(up:List GS)(gap:List AO)(c:Int):(AX b0 fns k up gap c).length=2+scL up+gap.length:=by
 simp only[AX,UW,UN,lP];omega
theorem Lo(b0:AO)(fns:List Fd)(k:Nat)(up:List GS)(gap:List AO)(m:Scp)(c:Int)(rest:List AO):CH b0 fns k c (⟨gap,m⟩::up)++rest=AX b0 fns k up gap c++(.mp (mpE m):: .row 2 [[.mp (2+scL up+gap.length),upV up]]::rest):=by
 simp[CH,AX,scH]
theorem LJ(b0:AO)(fns:List Fd)(k:Nat)(up:List GS)(gap:List AO)(m:Scp)(c:Int):CH b0 fns k c (⟨gap,m⟩::up)=AX b0 fns k up gap c++[.mp (mpE m),.row 2 [[.mp (2+scL up+gap.length),upV up]]]:=by
 have:=Lo b0 fns k up gap m c []
 rwa[Vs] at this
theorem Rs{b0:AO}{fns:List Fd}{k:Nat}{up:List GS}{gap:List AO}(hb:okO 0 b0)(hs:Aj up)(hg:∀o∈gap,okO (2+scL up+gap.length) o)(c:Int):∀o∈AX b0 fns k up gap c,okO (2+scL up+gap.length) o:=by
 refine aj (eb hb) (aj (by intro e he;rw[UL.1 he];simp[below]) ?_)
 intro o ho
 rcases UJ.1 ho with h|h
 ·exact FB up hs (by omega) o h
 ·exact hg o h
theorem yB{kk L n:Nat}{A r s:List AO}{l l1:List (Nat × AV)}(hl:A.length=L)(hk:kk<=L+r.length)(ha:∀o∈A,okO L o)(hr:∀o∈r,okO (L+r.length) o)(H:FgA (L+r.length) l l1):Wk kk (ah n l) (A++(r++s)) (ah n l1) (A++r):=by
 have hll:(A++r).length=L+r.length:=by rw[UN,hl]
 refine ia (m:=L+r.length) hk (dx ?_ hll ?_) H
 ·rw[←Vh,←hll,List.take_left'];rfl
 ·intro o ho
  rcases UJ.1 ho with h|h
  ·exact td (by omega) (ha o h)
  ·exact hr o h
theorem Er(m:Scp)(n:Nat):okO n (.mp (mpE m)):=by
 intro e he
 obtain⟨x,_,rfl⟩:=UX.1 he
 simp[below]
variable (G:al)
theorem Om(b0:AO){fns:List Fd}{k:Nat}(hf:fns.length<=1073741824)(hk:k<=fns.length)(hb:okO 0 b0):∀(N:Nat) (l:List Sm),aD l<N->aD l<=1073741824->∀(gap:List AO) (m:Scp) (up:List GS) (c:Int),Aj (⟨gap,m⟩::up)->
 AC Tryz.prog G bx [.ptr 1 3 0 0,.p (smL l),upV (⟨gap,m⟩::up)] (CH b0 fns k c (⟨gap,m⟩::up)) λx h=>x= .ret (.tup [])/\h=CH b0 fns k (iu fns k l m (sco up) c).2 (⟨gap,(iu fns k l m (sco up) c).1⟩::up):=by
 intro N
 induction N with
 |zero=>intro l h;omega
 |succ N ih=>
  intro l hl hz gap m up c hs
  have hll:=cn l
  have hsl:∀l,smL l= .lst 5 (l.map Sm.cs):=λ_=>rfl
  have hs':∀m,Aj (⟨gap,m⟩::up):=λ_=>hs
  have hscl:∀m,scL (⟨gap,m⟩::up)=scL up+gap.length+2:=λ_=>rfl
  refine Ow G (AC.goK pf pi ?_) (by rw[iG,iG];rfl) (by rw[iG];exact EO hb (hs' _) (by rw[hscl];exact Nat.le_of_eq (by rfl))) (by simp[below])
  have hup:upV (⟨gap,m⟩::up)= .ptr (2+scL up+gap.length+1) 2 0 0:=rfl
  have hlenC:∀c m,(CH b0 fns k c (⟨gap,m⟩::up)).length=2+scL up+gap.length+2:=λc m=>by rw[iG,hscl];omega
  have hokC:∀c m,∀o∈CH b0 fns k c (⟨gap,m⟩::up),okO (2+scL up+gap.length+2) o:=λc m=>EO hb (hs' m) (by rw[hscl];omega)
  have hlenA:∀c,(AX b0 fns k up gap c).length=2+scL up+gap.length:=Pl b0 fns k up gap
  simp-implicitDefEqProofs[eF,eA,hsl,hup]
  refine aL (λi:Nat=>ah 89 [(0,.ptr 1 3 0 0),(2,.ptr (2+scL up+gap.length+1) 2 0 0),(14,.p (smL l)),(15,.p (.int .i64 l.length)),(16,.p (.int .i64 i))])
   (λi=>CH b0 fns k (iu fns k (l.take i) m (sco up) c).2 (⟨gap,(iu fns k (l.take i) m (sco up) c).1⟩::up)) (λi=>i<=l.length) (λi=>l.length-i) 0 (by simp) ?_ ?_
  ·refine ae (h:=CH b0 fns k c (⟨gap,m⟩::up)) (UM _) (by rw[hlenC];exact hokC _ _) ?_
   rw[hlenC]
   simp[below,hsl]
  intro i hi
  have eT:=λh=>Ir (fns:=fns) (k:=k) (l:=l) (m:=m) (up:=sco up) (c:=c) (i:=i) h
  rw[hlenC]
  generalize hst:iu fns k (l.take i) m (sco up) c=st at eT⊢
  obtain⟨mi,ci⟩:=st
  simp only at eT⊢
  simp-implicitDefEqProofs[hsl]
  refine bc (λh=>?_) (λh=>?_)
  ·simp at h
   have hg:=UC h
   have hse:=l[i].cs_eq
   have hsz:=l[i].sz_eq
   have hks:=dP (US h)
   have eT:=eT h
   generalize l[i]=s at hg hse hsz hks eT
   obtain⟨o,nme,a,bd,el⟩:=s
   simp only[Sm.op,Sm.name,Sm.args,Sm.body,Sm.els] at hse hsz
   have hxl:exL a= .lst 4 (a.map Ex.cs):=rfl
   have hal:=bB a
   simp-implicitDefEqProofs[hg,hse,hlenC,hxl]
   have hexpr:∀(c:Int) (e:Ex) (rest:List AO),e.sz<=1073741824->AC Tryz.prog G du [.ptr 1 3 0 0,.agg (e.cs.map .p),.ptr (2+scL up+gap.length+1) 2 0 0] (AX b0 fns k up gap c++(.mp (mpE mi):: .row 2 [[.mp (2+scL up+gap.length),upV up]]::rest)) λx h=>x= .ret (.tup [])/\h=AX b0 fns k up gap (e.pre.foldl (fW fns k (mi::sco up)) c)++(.mp (mpE mi):: .row 2 [[.mp (2+scL up+gap.length),upV up]]::rest):=by
    intro c e rest he
    have:=OM G (Pv G b0 hf hk (⟨gap,mi⟩::up) hb (hs' mi) c e he) hb (hs' mi) rfl rest (by refine⟨by simp only[below];omega,by simp,ko _ (UM _),trivial⟩)
    simp only[Lo] at this
    exact this
   have hfail:∀(c e:Int) (t:List AO),AC Tryz.prog G cg [.ptr 1 3 0 0,.p (.int .i64 e)] (AX b0 fns k up gap c++t) λx h=>x= .ret (.tup [])/\h=AX b0 fns k up gap (fl c e)++t:=λc e t=>Db G b0 fns k c e _
   have hfind:∀(c:Int) (m:Scp) (s:List UInt8) (rest:List AO),AC Tryz.prog G bY [.ptr (2+scL up+gap.length+1) 2 0 0,.p (.str s)] (AX b0 fns k up gap c++(.mp (mpE m):: .row 2 [[.mp (2+scL up+gap.length),upV up]]::rest)) λx h=>x= .ret (.tup [.p (.int .i64 (((jz (m::sco up) s).getD 0:Nat):Int)),.p (.bool (jz (m::sco up) s).isSome)])/\h=AX b0 fns k up gap c++(.mp (mpE m):: .row 2 [[.mp (2+scL up+gap.length),upV up]]::rest):=by
    intro c m s rest
    have:=Mc G b0 (cO fns k c) (⟨gap,m⟩::up) rest s
    have e:b0::cO fns k c::(scH (⟨gap,m⟩::up)++rest)=CH b0 fns k c (⟨gap,m⟩::up)++rest:=rfl
    rw[e,Lo] at this
    exact this
   have hblk:∀(c:Int) (m2:Scp) (l':List Sm) (gap2:List AO),aD l'<N->aD l'<=1073741824->(∀o∈gap2,okO (2+scL up+gap.length+2+gap2.length) o)->
    AC Tryz.prog G bx [.ptr 1 3 0 0,.p (smL l'),.ptr (2+scL up+gap.length+2+gap2.length+1) 2 0 0] (AX b0 fns k up gap c++(.mp (mpE m2):: .row 2 [[.mp (2+scL up+gap.length),upV up]]::(gap2++[.mp [],.row 2 [[.mp (2+scL up+gap.length+2+gap2.length),.ptr (2+scL up+gap.length+1) 2 0 0]]])))
     λx h=>x= .ret (.tup [])/\∃m',h=AX b0 fns k up gap (iu fns k l' [] (m2::sco up) c).2++(.mp (mpE m2):: .row 2 [[.mp (2+scL up+gap.length),upV up]]::(gap2++[.mp (mpE m'),.row 2 [[.mp (2+scL up+gap.length+2+gap2.length),.ptr (2+scL up+gap.length+1) 2 0 0]]])):=by
    intro c m2 l' gap2 h1 h2 h3
    have e1:2+scL (⟨gap,m2⟩::up)+gap2.length=2+scL up+gap.length+2+gap2.length:=by rw[hscl];omega
    have e2:∀c m',CH b0 fns k c (⟨gap2,m'⟩::⟨gap,m2⟩::up)=AX b0 fns k up gap c++(.mp (mpE m2):: .row 2 [[.mp (2+scL up+gap.length),upV up]]::(gap2++[.mp (mpE m'),.row 2 [[.mp (2+scL up+gap.length+2+gap2.length),.ptr (2+scL up+gap.length+1) 2 0 0]]])):=by
     intro c m'
     rw[←e1]
     simp[CH,AX,scH,upV]
    have:=ih l' h1 h2 gap2 [] (⟨gap,m2⟩::up) c ⟨by rw[e1];exact h3,hs' m2⟩
    rw[show upV (⟨gap2,[]⟩::⟨gap,m2⟩::up)= .ptr (2+scL up+gap.length+2+gap2.length+1) 2 0 0 by rw[←e1];rfl] at this
    rw[e2] at this
    refine this.mono ?_
    rintro x h ⟨hx,hh⟩
    exact⟨hx,(iu fns k l' [] (sco (⟨gap,m2⟩::up)) c).1,by rw[hh,e2];rfl⟩
   rw[LJ b0 fns k up gap mi ci,Vh]
   simp only[Vn,List.nil_append]
   have hokA:=Rs (fns:=fns) (k:=k) hb hs.2 hs.1
   generalize hL:2+scL up+gap.length=L at hexpr hfind hblk hlenA hlenC hokC hokA⊢
   have hR:okO (L+2) (.row 2 [[.mp L,upV up]]):=by
    intro e he;rw[UL.1 he]
    exact⟨by simp only[below];omega,ko up (by omega),trivial⟩
   have hX:okO 0 (.row 5 [[AV.p (.int .i64 o),.p (.str nme),.p (.lst 4 (a.map Ex.cs)),.p (smL bd),.p (smL el)]]):=by simp[okO]
   have ok3:∀(m:Scp),∀x∈[AO.mp (mpE m),.row 2 [[.mp L,upV up]],.row 5 [[AV.p (.int .i64 o),.p (.str nme),.p (.lst 4 (a.map Ex.cs)),.p (smL bd),.p (smL el)]]],okO (L+3) x:=λm=>
    aj (Er _ _) (aj (td (by omega) hR) (aj (eb hX) fS))
   refine aL (λj:Nat=>ah 89 [(0,.ptr 1 3 0 0),(2,.ptr (L+1) 2 0 0),(7,.ptr (L+2) 5 0 0),(14,.p (smL l)),(15,.p (.int .i64 l.length)),(16,.p (.int .i64 i)),(21,.p (exL a)),(22,.p (.int .i64 a.length)),(23,.p (.int .i64 j))])
    (λj=>AX b0 fns k up gap ((dm (a.take j)).foldl (fW fns k (mi::sco up)) ci)++[.mp (mpE mi),.row 2 [[.mp L,upV up]],.row 5 [[AV.p (.int .i64 o),.p (.str nme),.p (.lst 4 (a.map Ex.cs)),.p (smL bd),.p (smL el)]]])
    (λj=>j<=a.length) (λj=>a.length-j) 0 (by simp) ?_ ?_
   ·refine yB (s:=[]) (hlenA _) (by simp) (hokA _) (ok3 _) ?_
    simp[below,hsl,hxl]
   intro j hj
   simp-implicitDefEqProofs[hxl]
   refine bc (λhc=>?_) (λhc=>?_)
   ·simp at hc
    have hga:=UC hc
    have hka:=bN (US hc)
    have hkc:=a[j].cs_eq
    have hE:=hexpr ((dm (a.take j)).foldl (fW fns k (mi::sco up)) ci) a[j] [.row 5 [[AV.p (.int .i64 o),.p (.str nme),.p (.lst 4 (a.map Ex.cs)),.p (smL bd),.p (smL el)]],.row 4 [[.p (.int .i64 a[j].op),.p (.int .i64 a[j].n),.p (.str a[j].name),.p (exL a[j].kids)]]] (by omega)
    rw[hkc] at hE
    simp-implicitDefEqProofs[hga,hkc,hlenA]
    refine hE.mono ?_
    rintro r h ⟨rfl,rfl⟩
    simp-implicitDefEqProofs[aa]
    refine⟨j+1,hc,by omega,?_⟩
    have hf2:(dm (a.take (j+1))).foldl (fW fns k (mi::sco up)) ci=a[j].pre.foldl (fW fns k (mi::sco up)) ((dm (a.take j)).foldl (fW fns k (mi::sco up)) ci):=by
     rw[aq hc,sU,List.foldl_append,dm,dm,Vs]
    rw[hf2]
    refine yB (r:=[_,_,_]) (s:=[_]) (hlenA _) (by simp) (hokA _) (ok3 _) ?_
    simp[below,hsl,hxl,w1 (i:=j) (by omega)]
   simp at hc
   have hje:j=a.length:=by omega
   subst hje
   rw[List.take_length]
   have hic:icS fns k ⟨o,nme,a,bd,el⟩ mi (sco up) ci=(opS o nme mi 0,if o=5\/o=6 then(iu fns k el [] (opS o nme mi 0::sco up) (iu fns k bd [] (opS o nme mi 0::sco up) (opC o nme mi (sco up) (Ge fns k (mi::sco up) a ci))).2).2 else opC o nme mi (sco up) (Ge fns k (mi::sco up) a ci)):=rfl
   rw[hic] at eT
   clear hic
   rw[show(dm a).foldl (fW fns k (mi::sco up)) ci=Ge fns k (mi::sco up) a ci from rfl]
   generalize Ge fns k (mi::sco up) a ci=c1 at eT⊢
   simp-implicitDefEqProofs[]
   refine nq (ah 89 [(0,.ptr 1 3 0 0),(2,.ptr (L+1) 2 0 0),(7,.ptr (L+2) 5 0 0),(14,.p (smL l)),(15,.p (.int .i64 l.length)),(16,.p (.int .i64 i))])
    (AX b0 fns k up gap (opC o nme mi (sco up) c1)++[.mp (mpE (opS o nme mi 0)),.row 2 [[.mp L,upV up]],.row 5 [[AV.p (.int .i64 o),.p (.str nme),.p (.lst 4 (a.map Ex.cs)),.p (smL bd),.p (smL el)]]]) ?_ ?_
   ·have fin:∀(r1:List (Nat × AV)) (c2:Int) (m2:Scp),Aw.look r1 0= .ptr 1 3 0 0->Aw.look r1 2= .ptr (L+1) 2 0 0->Aw.look r1 7= .ptr (L+2) 5 0 0->Aw.look r1 14= .p (smL l)->Aw.look r1 15= .p (.int .i64 l.length)->Aw.look r1 16= .p (.int .i64 i)->
     Wk (L+2) (ah 89 r1) (AX b0 fns k up gap c2++[.mp (mpE m2),.row 2 [[.mp L,upV up]],.row 5 [[AV.p (.int .i64 o),.p (.str nme),.p (.lst 4 (a.map Ex.cs)),.p (smL bd),.p (smL el)]]])
      (ah 89 [(0,.ptr 1 3 0 0),(2,.ptr (L+1) 2 0 0),(7,.ptr (L+2) 5 0 0),(14,.p (smL l)),(15,.p (.int .i64 l.length)),(16,.p (.int .i64 i))])
      (AX b0 fns k up gap c2++[.mp (mpE m2),.row 2 [[.mp L,upV up]],.row 5 [[AV.p (.int .i64 o),.p (.str nme),.p (.lst 4 (a.map Ex.cs)),.p (smL bd),.p (smL el)]]]):=by
     intro r1 c2 m2 e0 e2 e7 e14 e15 e16
     refine yB (s:=[]) (hlenA _) (by simp) (hokA _) (ok3 _) ?_
     simp[below,e0,e2,e7,e14,e15,e16]
    by_cases o1:o=1
    ·have hmg:=tK nme mi
     have hms:gR (.str nme) (.p (.int .i64 0)) (mpE mi)=some (mpE (gt mi nme 0)):=by simpa using Ar nme 0 mi
     have e2:opS o nme mi 0=gt mi nme 0:=if_pos o1
     rw[e2]
     cases hh:dL mi nme with
     |none=>
      have e1:opC o nme mi (sco up) c1=c1:=by rw[opC,if_pos o1,hh];rfl
      rw[hh] at hmg
      rw[e1]
      subst o1
      simp-implicitDefEqProofs[hlenA,hmg,hms]
      exact fin _ _ _ (by simp) (by simp) (by simp) (by simp[hsl]) (by simp) (by simp)
     |some n=>
      have e1:opC o nme mi (sco up) c1=fl c1 2:=by rw[opC,if_pos o1,hh];rfl
      rw[hh] at hmg
      rw[e1]
      subst o1
      simp-implicitDefEqProofs[hlenA,hmg,hms]
      refine(hfail c1 2 _).mono ?_
      rintro r h ⟨rfl,rfl⟩
      simp-implicitDefEqProofs[aa,hlenA,hms]
      exact fin _ _ _ (by simp) (by simp) (by simp) (by simp[hsl]) (by simp) (by simp)
    have e2:opS o nme mi 0=mi:=if_neg o1
    rw[e2]
    by_cases o2:o=2
    ·cases hh:jz (mi::sco up) nme with
     |none=>
      have e1:opC o nme mi (sco up) c1=fl c1 3:=by rw[opC,if_neg o1,if_pos o2,hh];rfl
      rw[e1]
      subst o2
      have hF:=hfind c1 mi nme [.row 5 [[AV.p (.int .i64 2),.p (.str nme),.p (.lst 4 (a.map Ex.cs)),.p (smL bd),.p (smL el)]]]
      rw[hh] at hF
      simp-implicitDefEqProofs[hlenA]
      refine hF.mono ?_
      rintro r h ⟨rfl,rfl⟩
      simp-implicitDefEqProofs[aa]
      refine(hfail c1 3 _).mono ?_
      rintro r h ⟨rfl,rfl⟩
      simp-implicitDefEqProofs[aa]
      exact fin _ _ _ (by simp) (by simp) (by simp) (by simp[hsl]) (by simp) (by simp)
     |some n=>
      have e1:opC o nme mi (sco up) c1=c1:=by rw[opC,if_neg o1,if_pos o2,hh];rfl
      rw[e1]
      subst o2
      have hF:=hfind c1 mi nme [.row 5 [[AV.p (.int .i64 2),.p (.str nme),.p (.lst 4 (a.map Ex.cs)),.p (smL bd),.p (smL el)]]]
      rw[hh] at hF
      simp-implicitDefEqProofs[hlenA]
      refine hF.mono ?_
      rintro r h ⟨rfl,rfl⟩
      simp-implicitDefEqProofs[aa]
      exact fin _ _ _ (by simp) (by simp) (by simp) (by simp[hsl]) (by simp) (by simp)
    ·have e1:opC o nme mi (sco up) c1=c1:=by rw[opC,if_neg o1,if_neg o2]
     rw[e1]
     simp-implicitDefEqProofs[hlenA,o1,o2]
     exact fin _ _ _ (by simp) (by simp) (by simp) (by simp[hsl]) (by simp) (by simp)
   generalize opC o nme mi (sco up) c1=c2 at eT⊢
   generalize opS o nme mi 0=m2 at eT⊢
   have hdrop:∀(r1:List (Nat × AV)) (c3:Int) (s:List AO),Aw.look r1 0= .ptr 1 3 0 0->Aw.look r1 2= .ptr (L+1) 2 0 0->Aw.look r1 14= .p (smL l)->Aw.look r1 15= .p (.int .i64 l.length)->Aw.look r1 16= .p (.int .i64 ((i:Int)+1))->
    Wk (L+2) (ah 89 r1) (AX b0 fns k up gap c3++([.mp (mpE m2),.row 2 [[.mp L,upV up]]]++s)) (ah 89 [(0,.ptr 1 3 0 0),(2,.ptr (L+1) 2 0 0),(14,.p (smL l)),(15,.p (.int .i64 l.length)),(16,.p (.int .i64 ((i:Int)+1)))]) (CH b0 fns k c3 (⟨gap,m2⟩::up)):=by
    intro r1 c3 s e0 e2 e14 e15 e16
    rw[LJ,hL]
    refine yB (hlenA _) (by simp) (hokA _) (aj (Er _ _) (aj hR fS)) ?_
    simp[below,e0,e2,e14,e15,e16]
   by_cases ho:o=5\/o=6
   ·rw[if_pos ho] at eT
    rcases ho with o5|o6
    ·subst o5
     simp-implicitDefEqProofs[hlenA]
     refine(Aq G (.ptr (L+1) 2 0 0) (.inr ⟨_,rfl⟩) _).mono ?_
     rintro r h ⟨rfl,rfl⟩
     simp-implicitDefEqProofs[aa,hlenA]
     refine(hblk c2 m2 bd [_] (by omega) (by omega) (λx hx=>by rw[UL.1 hx];exact eb (by simp[okO]))).mono ?_
     rintro r h ⟨rfl,m3,rfl⟩
     simp-implicitDefEqProofs[aa,hlenA]
     refine(Aq G (.ptr (L+1) 2 0 0) (.inr ⟨_,rfl⟩) _).mono ?_
     rintro r h ⟨rfl,rfl⟩
     simp-implicitDefEqProofs[aa,hlenA]
     refine(hblk _ m2 el [_,_,_] (by omega) (by omega) (aj (eb (by simp[okO])) (aj (Er _ _) (aj (by
      intro e he;rw[UL.1 he]
      exact⟨by simp only[below];simp,by simp only[below];simp,trivial⟩) fS)))).mono ?_
     rintro r h ⟨rfl,m4,rfl⟩
     simp-implicitDefEqProofs[aa,hlenA]
     refine⟨i+1,by omega,by omega,?_⟩
     rw[eT]
     refine hdrop _ _ _ (by simp) (by simp) (by simp[hsl]) (by simp) (by simp[w1 (i:=i) (by omega)])
    ·subst o6
     simp-implicitDefEqProofs[hlenA]
     refine(Aq G (.ptr (L+1) 2 0 0) (.inr ⟨_,rfl⟩) _).mono ?_
     rintro r h ⟨rfl,rfl⟩
     simp-implicitDefEqProofs[aa,hlenA]
     refine(hblk c2 m2 bd [_] (by omega) (by omega) (λx hx=>by rw[UL.1 hx];exact eb (by simp[okO]))).mono ?_
     rintro r h ⟨rfl,m3,rfl⟩
     simp-implicitDefEqProofs[aa,hlenA]
     refine(Aq G (.ptr (L+1) 2 0 0) (.inr ⟨_,rfl⟩) _).mono ?_
     rintro r h ⟨rfl,rfl⟩
     simp-implicitDefEqProofs[aa,hlenA]
     refine(hblk _ m2 el [_,_,_] (by omega) (by omega) (aj (eb (by simp[okO])) (aj (Er _ _) (aj (by
      intro e he;rw[UL.1 he]
      exact⟨by simp only[below];simp,by simp only[below];simp,trivial⟩) fS)))).mono ?_
     rintro r h ⟨rfl,m4,rfl⟩
     simp-implicitDefEqProofs[aa,hlenA]
     refine⟨i+1,by omega,by omega,?_⟩
     rw[eT]
     refine hdrop _ _ _ (by simp) (by simp) (by simp[hsl]) (by simp) (by simp[w1 (i:=i) (by omega)])
   ·rw[if_neg ho] at eT
    have o5:¬o=5:=λh=>ho (.inl h)
    have o6:¬o=6:=λh=>ho (.inr h)
    simp-implicitDefEqProofs[hlenA,o5,o6]
    refine⟨i+1,by omega,by omega,?_⟩
    rw[eT]
    refine hdrop _ _ [_] (by simp) (by simp) (by simp[hsl]) (by simp) (by simp[w1 (i:=i) (by omega)])
  ·simp at h
   have hie:i=l.length:=by omega
   subst hie
   rw[List.take_length] at hst
   rw[hst]
   simp-implicitDefEqProofs[]
end
section
theorem rc:AK.whole fc=FK.ak fv:=rfl
theorem BA(fns:List Fd):∀(a b:List Fd) (k:Nat) (c:Int),kI fns k (a++b) c=kI fns (k+a.length) b (kI fns k a c)
 |[],b,k,c=>rfl
 |f::r,b,k,c=>by rw[Vn,kI,kI,BA fns r];congr 1;simp only[UW];omega
theorem Gu{fns l:List Fd}{i:Nat}{c:Int}(h:i<l.length):kI fns 0 (l.take (i+1)) c=icF fns i l[i] (kI fns 0 (l.take i) c):=by
 rw[aq h,BA,Vf,Nat.min_eq_left (Nat.le_of_lt h),VD];rfl
theorem LR(a b:List (List UInt8))(m:Scp)(c:Int):jp (a++b) m c=jp b (jp a m c).1 (jp a m c).2:=by simp[jp]
theorem ID{l:List (List UInt8)}{i:Nat}{m:Scp}{c:Int}(h:i<l.length):jp (l.take (i+1)) m c=(gt (jp (l.take i) m c).1 l[i] 0,if(dL (jp (l.take i) m c).1 l[i]).isSome then fl (jp (l.take i) m c).2 2 else(jp (l.take i) m c).2):=by
 rw[aq h,LR];rfl
variable (G:al) (hK:G gh=some eZ) (hS:G cX=some [.tbl opK opV])
include hK hS
theorem Ag(l:List Fd)(hl:aI l<=1073741824):VF Tryz.prog G fj [.agg [.p (fdL l)]] (.p (.int .i64 (aN l))):=by
 have hll:=gQ l
 have hfl:∀l,fdL l= .lst 3 (l.map Fd.cs):=λ_=>rfl
 rw[Gj]
 refine AC.goK pI rc ?_
 simp-implicitDefEqProofs[fc,fv]
 refine(zo G hK hS l hl).use ?_
 by_cases hv:bs l=true
 case neg=>
  have hv':bs l=false:=by simpa using hv
  simp-implicitDefEqProofs[hv']
 rw[if_pos hv]
 simp-implicitDefEqProofs[hv,hfl]
 refine aL (λi:Nat=>ah 73 [(1,.ptr 0 1 0 0),(3,.ptr 1 3 0 0),(18,.p (fdL l)),(19,.p (.int .i64 l.length)),(20,.p (.int .i64 i))])
  (λi=>[.row 1 [[.p (fdL l)]],cO l (i-1) (kI l 0 (l.take i) 0)]) (λi=>i<=l.length) (λi=>l.length-i) 0 (by simp) ?_ ?_
 ·refine ae (h:=[.row 1 [[.p (fdL l)]],cO l 0 0]) (by simp) (by simp[okO,below,cO]) (by simp[below,hfl])
 intro i hi
 have hbo:okO 0 (.row 1 [[.p (fdL l)]]):=by simp[okO]
 simp-implicitDefEqProofs[hfl]
 refine bc (λh=>?_) (λh=>?_)
 ·simp at h
  have hg:=UC h
  have hks:=cS (US h)
  have eT:=Gu (fns:=l) (c:=0) h
  obtain⟨j,ej,ejl⟩:=BN hg
  generalize l[i]=f at*
  have hcs:f.cs=[.str f.name,aw f.params,smL f.body]:=rfl
  have hfz:f.sz=1+f.name.length+(f.params.length+(f.params.map List.length).sum)+aD f.body:=rfl
  have hst:aw f.params= .lst 1 (f.params.map λw=>[.str w]):=rfl
  generalize kI l 0 (l.take i) 0=c0 at eT⊢
  simp-implicitDefEqProofs[hg,hcs,cO]
  have hic:icF l i f c0=(iu l i f.body (jp f.params [] (if j<i then fl c0 2 else c0)).1 [] (jp f.params [] (if j<i then fl c0 2 else c0)).2).2:=by
   rw[icF,ej];simp
  rw[hic] at eT
  clear hic
  refine nq (ah 73 [(1,.ptr 0 1 0 0),(3,.ptr 1 3 0 0),(4,.p (.int .i64 i)),(5,.ptr 2 3 0 0),(18,.p (fdL l)),(19,.p (.int .i64 l.length)),(20,.p (.int .i64 i))])
   [.row 1 [[.p (fdL l)]],cO l i (if j<i then fl c0 2 else c0),.row 3 [[.p (.str f.name),.p (aw f.params),.p (smL f.body)]]] ?_ ?_
  ·simp-implicitDefEqProofs[]
   refine(Gc G l f.name (by omega)).use ?_
   rw[ej]
   by_cases hj:j<i
   ·have hj':(j:Int)<(i:Int):=by omega
    rw[if_pos hj]
    simp-implicitDefEqProofs[ixI,hj']
    refine(Db G (.row 1 [[.p (fdL l)]]) l i c0 2 [.row 3 [[.p (.str f.name),.p (aw f.params),.p (smL f.body)]]]).mono ?_
    rintro r h ⟨rfl,rfl⟩
    simp-implicitDefEqProofs[aa]
    exact ae (by simp) (by simp[okO,below,cO]) (by simp[below,hfl])
   ·have hj':¬(j:Int)<(i:Int):=by omega
    rw[if_neg hj]
    simp-implicitDefEqProofs[ixI,hj']
    exact ae (h:=[.row 1 [[.p (fdL l)]],cO l i c0,.row 3 [[.p (.str f.name),.p (aw f.params),.p (smL f.body)]]]) (by simp) (by simp[okO,below,cO]) (by simp[below,hfl])
  generalize (if j<i then fl c0 2 else c0)=c1 at eT⊢
  have hCH:∀(c:Int) (m:Scp),CH (.row 1 [[.p (fdL l)]]) l i c [⟨[.row 3 [[.p (.str f.name),.p (aw f.params),.p (smL f.body)]]],m⟩]=[.row 1 [[.p (fdL l)]],cO l i c,.row 3 [[.p (.str f.name),.p (aw f.params),.p (smL f.body)]],.mp (mpE m),.row 2 [[.mp 3,.nilp]]]:=λ_ _=>rfl
  simp-implicitDefEqProofs[]
  refine(Aq G .nilp (.inl rfl) _).mono ?_
  rintro r h ⟨rfl,rfl⟩
  simp-implicitDefEqProofs[aa,hst]
  refine aL (λq:Nat=>ah 73 [(1,.ptr 0 1 0 0),(3,.ptr 1 3 0 0),(4,.p (.int .i64 i)),(5,.ptr 2 3 0 0),(6,.ptr 4 2 0 0),(18,.p (fdL l)),(19,.p (.int .i64 l.length)),(20,.p (.int .i64 i)),(39,.p (aw f.params)),(40,.p (.int .i64 f.params.length)),(41,.p (.int .i64 q))])
   (λq=>[.row 1 [[.p (fdL l)]],cO l i (jp (f.params.take q) [] c1).2,.row 3 [[.p (.str f.name),.p (aw f.params),.p (smL f.body)]],.mp (mpE (jp (f.params.take q) [] c1).1),.row 2 [[.mp 3,.nilp]]])
   (λq=>q<=f.params.length) (λq=>f.params.length-q) 0 (by simp) ?_ ?_
  ·exact ae (h:=[.row 1 [[.p (fdL l)]],cO l i c1,.row 3 [[.p (.str f.name),.p (aw f.params),.p (smL f.body)]],.mp [],.row 2 [[.mp 3,.nilp]]]) (by simp) (by simp[okO,below,cO]) (by simp[below,hfl,hst])
  intro q hq
  have eP:=λh=>ID (l:=f.params) (i:=q) (m:=[]) (c:=c1) h
  generalize hP:jp (f.params.take q) [] c1=st at eP⊢
  obtain⟨mq,cq⟩:=st
  simp only at eP⊢
  simp-implicitDefEqProofs[hst]
  refine bc (λhc=>?_) (λhc=>?_)
  ·simp at hc
   have hga:=UC hc
   have eP:=eP hc
   generalize f.params[q]=nme at hga eP
   have hmg:=tK nme mq
   have hms:gR (.str nme) (.p (.int .i64 0)) (mpE mq)=some (mpE (gt mq nme 0)):=by simpa using Ar nme 0 mq
   have fin:∀(r1:List (Nat × AV)) (c2:Int),Aw.look r1 1= .ptr 0 1 0 0->Aw.look r1 3= .ptr 1 3 0 0->Aw.look r1 4= .p (.int .i64 i)->Aw.look r1 5= .ptr 2 3 0 0->Aw.look r1 6= .ptr 4 2 0 0->Aw.look r1 18= .p (fdL l)->Aw.look r1 19= .p (.int .i64 l.length)->Aw.look r1 20= .p (.int .i64 i)->Aw.look r1 39= .p (aw f.params)->Aw.look r1 40= .p (.int .i64 f.params.length)->Aw.look r1 41= .p (.int .i64 ((q:Int)+1))->
    Wk 0 (ah 73 r1) [.row 1 [[.p (fdL l)]],cO l i c2,.row 3 [[.p (.str f.name),.p (aw f.params),.p (smL f.body)]],.mp (mpE (gt mq nme 0)),.row 2 [[.mp 3,.nilp]]]
     (ah 73 [(1,.ptr 0 1 0 0),(3,.ptr 1 3 0 0),(4,.p (.int .i64 i)),(5,.ptr 2 3 0 0),(6,.ptr 4 2 0 0),(18,.p (fdL l)),(19,.p (.int .i64 l.length)),(20,.p (.int .i64 i)),(39,.p (aw f.params)),(40,.p (.int .i64 f.params.length)),(41,.p (.int .i64 ((q:Int)+1)))])
     [.row 1 [[.p (fdL l)]],cO l i c2,.row 3 [[.p (.str f.name),.p (aw f.params),.p (smL f.body)]],.mp (mpE (gt mq nme 0)),.row 2 [[.mp 3,.nilp]]]:=by
    intro r1 c2 e1 e3 e4 e5 e6 e18 e19 e20 e39 e40 e41
    refine ae (by simp) (aj (by simp[okO]) (aj (by simp[okO,cO]) (aj (by simp[okO]) (aj (Er _ _) (aj (by simp[okO,below]) fS))))) ?_
    simp[below,e1,e3,e4,e5,e6,e18,e19,e20,e39,e40,e41]
   cases hh:dL mq nme with
   |none=>
    rw[hh] at hmg eP
    simp-implicitDefEqProofs[hga,hmg,hms]
    refine⟨q+1,by omega,by omega,?_⟩
    rw[eP]
    exact fin _ _ (by simp) (by simp) (by simp) (by simp) (by simp) (by simp[hfl]) (by simp) (by simp) (by simp[hst]) (by simp) (by simp[w1 (i:=q) (by omega)])
   |some n=>
    rw[hh] at hmg eP
    simp-implicitDefEqProofs[hga,hmg,hms]
    refine(Db G (.row 1 [[.p (fdL l)]]) l i cq 2 _).mono ?_
    rintro r h ⟨rfl,rfl⟩
    simp-implicitDefEqProofs[aa,hms]
    refine⟨q+1,by omega,by omega,?_⟩
    rw[eP]
    exact fin _ _ (by simp) (by simp) (by simp) (by simp) (by simp) (by simp[hfl]) (by simp) (by simp) (by simp[hst]) (by simp) (by simp[w1 (i:=q) (by omega)])
  ·simp at hc
   have hqe:q=f.params.length:=by omega
   subst hqe
   rw[List.take_length] at hP
   rw[hP] at eT
   simp only at eT
   have hB:=Om G (.row 1 [[.p (fdL l)]]) (fns:=l) (k:=i) (by omega) (by omega) hbo (aD f.body+1) f.body (by omega) (by omega) [.row 3 [[.p (.str f.name),.p (aw f.params),.p (smL f.body)]]] mq [] cq ⟨by simp[okO],trivial⟩
   rw[hCH] at hB
   simp-implicitDefEqProofs[]
   refine hB.mono ?_
   rintro r h ⟨rfl,rfl⟩
   simp-implicitDefEqProofs[aa]
   refine⟨i+1,by omega,by omega,?_⟩
   rw[eT]
   refine ia (m:=2) (by omega) (dx rfl rfl (by simp[okO,below,cO])) (by simp[below,hfl,w1 (i:=i) (by omega)])
 ·simp at h
  have hie:i=l.length:=by omega
  subst hie
  rw[List.take_length]
  simp-implicitDefEqProofs[cO]
end
section
variable (G:al)
theorem Le(l:List Fd)(hz:aI l<=1073741824):VF Tryz.prog G mB [.agg [.p (fdL l)]] (.p (.bool (decide (aN l=0)))):=by
 refine AC.go AY ?_
 simp-implicitDefEqProofs[rj]
 refine(zN G l hz).use ?_
 simp-implicitDefEqProofs[]
variable (hK:G gh=some eZ) (hS:G cX=some [.tbl opK opV])
include hK hS
theorem Pm(l:List Fd)(hz:aI l<=1073741824):VF Tryz.prog G nX [.agg [.p (fdL l)]] (.p (.bool (decide (aN l=0)))):=by
 refine AC.go Es ?_
 simp-implicitDefEqProofs[vj]
 refine(Ag G hK hS l hz).use ?_
 simp-implicitDefEqProofs[]
end
section
structure HV (σ:Type) where
 F:FuncId
 caps:List AV
 n:Nat
 Inv:σ->Nat->List AO->Prop
 capsOk:af n caps
 len:∀{st id h},Inv st id h->n<=h.length/\id<h.length
 frame:∀{st id h h'},Inv st id h->(∀i,i<h.length->i<n\/i=id->h'[i]?=h[i]?)->Inv st id h'
def HV.Left{σ:Type}(V:HV σ)(id:Nat)(h:List AO)(st':σ)(h':List AO):Prop:=
 ∃id',V.Inv st' id' h'/\h.length<=h'.length/\(∀i,i<h.length->V.n<=i->i≠id->h'[i]?=h[i]?)/\(id'=id\/h.length<=id')
theorem HV.more{σ:Type}(V:HV σ){st:σ}{id:Nat}{h:List AO}(H:V.Inv st id h)(os:List AO):V.Inv st id (h++os):=
 V.frame H λi hi _=>UB hi
theorem HV.Left.trans{σ:Type}{V:HV σ}{id id1:Nat}{h h1 h2:List AO}{st2:σ}(hl:h.length<=h1.length)(hk:∀i,i<h.length->V.n<=i->i≠id->h1[i]?=h[i]?)(hi:id1=id\/h.length<=id1)(L:V.Left id1 h1 st2 h2):V.Left id h st2 h2:=by
 obtain⟨id2,a1,a2,a3,a4⟩:=L
 refine⟨id2,a1,by omega,λi h1 h2 h3=>?_,?_⟩
 ·rw[a3 i (by omega) h2 (by rcases hi with e|e<;>omega),hk i h1 h2 h3]
 ·rcases a4 with e|e
  ·rw[e];exact hi
  ·right;omega
variable (G:al)
def Sm.own(s:Sm):Nat:=1+s.name.length+bn s.args
end
section
abbrev Wds:=List (List UInt8)
mutual
def nmE(op:Int):Ex->Wds->Wds
 | .mk o _ s ks,out=>Kg op ks (if o=op/\s∉out then out++[s] else out)
def Kg(op:Int):List Ex->Wds->Wds
 |[],out=>out
 |e::r,out=>Kg op r (nmE op e out)
end
variable (G:al)
end
section
def dq(d:Nat)(bd:List Sm):List Ex:=(bD d bd).flatMap λx=>dm x.1.args
mutual
theorem ND(op:Int)(s:List UInt8):∀(e:Ex) (out:Wds),s∈nmE op e out↔s∈out\/∃x∈e.pre,x.op=op/\x.name=s
 | .mk o n t ks,out=>by
   rw[nmE,EU op s ks,Ex.pre]
   have hh:(s∈if o=op/\t∉out then out++[t] else out)↔s∈out\/(o=op/\t=s):=by
    split
    ·rename_i h
     simp only[UJ,UL]
     constructor
     ·rintro(h1|h1)
      ·exact .inl h1
      ·exact .inr ⟨h.1,h1.symm⟩
     ·rintro(h1|h1)
      ·exact .inl h1
      ·exact .inr h1.2.symm
    ·rename_i h
     constructor
     ·exact .inl
     ·rintro(h1|⟨h1,h2⟩)
      ·exact h1
      ·rw[←h2];exact Classical.byContradiction λhn=>h ⟨h1,hn⟩
   rw[hh]
   constructor
   ·rintro((h|⟨h1,h2⟩)|⟨x,h1,h2⟩)
    ·exact .inl h
    ·exact .inr ⟨_,List.mem_cons_self ..,h1,h2⟩
    ·exact .inr ⟨x,Vq _ h1,h2⟩
   ·rintro(h|⟨x,h1,h2,h3⟩)
    ·exact .inl (.inl h)
    ·rcases UK.1 h1 with rfl|h1
     ·exact .inl (.inr ⟨h2,h3⟩)
     ·exact .inr ⟨x,h1,h2,h3⟩
theorem EU(op:Int)(s:List UInt8):∀(l:List Ex) (out:Wds),s∈Kg op l out↔s∈out\/∃x∈dm l,x.op=op/\x.name=s
 |[],out=>by simp[Kg,dm]
 |e::r,out=>by
  rw[Kg,EU op s r,ND op s e,dm]
  constructor
  ·rintro((h|⟨x,h1,h2⟩)|⟨x,h1,h2⟩)
   ·exact .inl h
   ·exact .inr ⟨x,List.mem_append_left _ h1,h2⟩
   ·exact .inr ⟨x,List.mem_append_right _ h1,h2⟩
  ·rintro(h|⟨x,h1,h2⟩)
   ·exact .inl (.inl h)
   ·rcases UJ.1 h1 with h1|h1
    ·exact .inl (.inr ⟨x,h1,h2⟩)
    ·exact .inr ⟨x,h1,h2⟩
end
theorem mZ(d:Nat)(s:Sm)(r:List Sm):dq d (s::r)=dm s.args++(dq (d+1) s.body++dq (d+1) s.els)++dq d r:=by
 rw[dq,bD,Sm.pre_eq,List.flatMap_append,List.flatMap_cons,List.flatMap_append];rfl
mutual
theorem FS{fns:List Fd}{k:Nat}{vs:List LV}:∀(e:Ex) (c:Int),oJ fns k vs e c=0->∀x∈e.pre,x.op=13->∃j,bQ fns x.name=some j/\j<k
 | .mk o n t ks,c,h,x,hx,hop=>by
   rw[oJ] at h
   rw[Ex.pre] at hx
   have h0:=fU h
   rcases UK.1 hx with rfl|hx
   ·have hop':o=13:=hop
    have hz:¬(13:Int)=2:=by omega
    rw[jU,hop',if_neg hz,if_pos rfl,lv] at h0
    show∃j,bQ fns t=some j/\j<k
    cases e:bQ fns t with
    |none=>rw[e] at h0;simp only[fl] at h0;split at h0<;>omega
    |some j=>
     rw[e] at h0
     simp only[fl] at h0
     refine⟨j,rfl,?_⟩
     by_cases hj:k<=j
     ·rw[if_pos hj] at h0;split at h0<;>omega
     ·omega
   ·exact oL ks _ h x hx hop
theorem oL{fns:List Fd}{k:Nat}{vs:List LV}:∀(l:List Ex) (c:Int),bI fns k vs l c=0->∀x∈dm l,x.op=13->∃j,bQ fns x.name=some j/\j<k
 |[],c,h,x,hx,_=>by simp[dm] at hx
 |e::r,c,h,x,hx,hop=>by
  rw[bI] at h
  rw[dm] at hx
  rcases UJ.1 hx with hx|hx
  ·exact FS e _ (fU h) x hx hop
  ·exact oL r _ h x hx hop
end
mutual
theorem HI{fns:List Fd}{k:Nat}:∀(s:Sm) (b d:Nat) (w:WS),(stW fns k b s w).code=0->∀x∈dm s.args++(dq (d+1) s.body++dq (d+1) s.els),x.op=13->∃j,bQ fns x.name=some j/\j<k
 | .mk o n a bd el,b,d,w,h,x,hx,hop=>by
   rw[stW] at h
   rw[dA] at h
   have h1:=cQ h
   rw[dA] at h1
   have h2:=cQ h1
   have h3:=Al h2
   simp only[Sm.args,Sm.body,Sm.els,UJ] at hx
   rcases hx with hx|hx|hx
   ·exact oL a _ h3 x hx hop
   ·exact nh bd _ (d+1) _ h1 x hx hop
   ·exact nh el _ (d+1) _ h x hx hop
theorem nh{fns:List Fd}{k:Nat}:∀(l:List Sm) (b d:Nat) (w:WS),(bM fns k b l w).code=0->∀x∈dq d l,x.op=13->∃j,bQ fns x.name=some j/\j<k
 |[],b,d,w,h,x,hx,_=>by simp[dq,bD] at hx
 |s::r,b,d,w,h,x,hx,hop=>by
  rw[bM] at h
  rw[mZ] at hx
  rcases UJ.1 hx with hx|hx
  ·exact HI s b d _ (cQ h) x hx hop
  ·exact nh r b d _ h x hx hop
end
theorem BU{vs:List LV}{s:List UInt8}{b:Nat}{c:Int}(h:pU vs s b c=0):c=0:=by
 unfold pU at h
 split at h
 ·exact h
 ·split at h
  ·unfold fl at h;split at h<;>omega
  ·exact h
theorem rZ:∀{ps:List (List UInt8)} {w:WS},(bE ps w).code=0->w.code=0
 |[],w,h=>h
 |s::r,w,h=>BU (rZ (ps:=r) (w:=gV w s 0) h)
theorem Iu{fns:List Fd}{k:Nat}{f:Fd}(h:(fnW fns k f).code=0):(∀x∈dq 1 f.body,x.op=13->∃j,bQ fns x.name=some j/\j<k)/\bQ fns f.name=some k:=by
 rw[fnW] at h
 refine⟨nh _ _ 1 _ h,?_⟩
 have h1:(if bQ fns f.name=some k then(0:Int) else 2)=0:=rZ (cQ h)
 split at h1
 ·assumption
 ·omega
end
section
structure Like (fns fns':List Fd):Prop where
 at_:∀s,bQ fns' s=bQ fns s
 par:∀j,AZ fns' j=AZ fns j
end
section
theorem Hm:∀{a b:Nat},a<26->b<26->vnm a=vnm b->a=b:=by
 have key:∀a b:Fin 26,vnm a.val=vnm b.val->a=b:=by decide
 intro a b ha hb h
 exact congrArg Fin.val (key ⟨a,ha⟩ ⟨b,hb⟩ h)
structure NOk (w:WS):Prop where
 down:w.vs.Pairwise (λa b=>b.num<a.num)
 lt:∀v∈w.vs,v.num<w.count
theorem NOk.put{w:WS}(h:NOk w)(s:List UInt8)(b:Nat):NOk (gV w s b):=by
 refine⟨List.pairwise_cons.2 ⟨λv hv=>h.lt v hv,h.down⟩,λv hv=>?_⟩
 rcases UK.1 hv with rfl|hv
 ·exact Nat.lt_succ_self _
 ·exact Nat.lt_succ_of_lt (h.lt v hv)
end
section
structure IN5 (e:List LV) (m m':Sc5):Prop where
 old:m.map (·.1)=e.reverse.map LV.name
 new:m'.map (·.1)=e.reverse.map λx=>vnm x.num
 val:m'.map (·.2)=m.map (·.2)
 uniq:m.Pairwise λa b=>a.1≠b.1
inductive RE5:List (List LV)->List Sc5->List Sc5->Prop where
 |nil:RE5 [] [] []
 |cons {e m m' es v v'}:IN5 e m m'->RE5 es v v'->RE5 (e::es) (m::v) (m'::v')
def Nm(vs:List LV):Prop:=vs.Pairwise (λa b=>b.num<a.num)/\∀x∈vs,x.num<26
theorem tO:∀{m:Sc5} {i:Nat} {s:List UInt8} {n:Int},m.Pairwise (λa b=>a.1≠b.1)->m[i]?=some (s,n)->bL m s=some n
 |x::r,0,s,n,_,h=>by
  simp at h;subst h;simp[bL]
 |x::r,i+1,s,n,hp,h=>by
  obtain⟨h1,h2⟩:=List.pairwise_cons.1 hp
  have hm:=UF (show r[i]?=some (s,n) by simpa using h)
  have hne:x.1≠s:=h1 _ hm
  rw[bL,if_neg hne]
  exact tO h2 (by simpa using h)
theorem Cp{m:Sc5}{s:List UInt8}(h:s∉m.map (·.1)):bL m s=none:=by
 induction m with
 |nil=>rfl
 |cons x r ih=>
  simp only[Ve,UK,not_or] at h
  rw[bL,if_neg (λe=>h.1 e.symm)]
  exact ih h.2
theorem Mi{m:Sc5}{s:List UInt8}(h:s∈m.map (·.1)):(bL m s).isSome=true:=by
 induction m with
 |nil=>cases h
 |cons x r ih=>
  rw[bL]
  by_cases e:x.1=s
  ·rw[if_pos e];rfl
  ·rw[if_neg e]
   rcases UK.1 h with h|h
   ·exact(e h.symm).elim
   ·exact ih h
theorem Dc:∀{m:Sc5} {i:Nat} {s:List UInt8} {n q:Int},m.Pairwise (λa b=>a.1≠b.1)->m[i]?=some (s,n)->sset m s q=m.set i (s,q)
 |x::r,0,s,n,q,_,h=>by
  simp at h;subst h;simp[sset]
 |x::r,i+1,s,n,q,hp,h=>by
  obtain⟨h1,h2⟩:=List.pairwise_cons.1 hp
  have hm:=UF (show r[i]?=some (s,n) by simpa using h)
  have hne:x.1≠s:=h1 _ hm
  rw[sset,if_neg hne,Dc h2 (by simpa using h)];rfl
theorem Nm.sub{a b:List LV}(h:Nm (a++b)):Nm a/\Nm b/\∀x∈a,∀y∈b,y.num<x.num:=by
 obtain⟨h1,h2⟩:=h
 obtain⟨k1,k2,k3⟩:=List.pairwise_append.1 h1
 exact⟨⟨k1,λx hx=>h2 x (List.mem_append_left _ hx)⟩,⟨k2,λx hx=>h2 x (List.mem_append_right _ hx)⟩,k3⟩
theorem IN5.here{e:List LV}{m m':Sc5}(H:IN5 e m m')(hn:Nm e){x:LV}(hx:x∈e):∃(i:Nat) (n:Int),m[i]?=some (x.name,n)/\m'[i]?=some (vnm x.num,n)/\m'.Pairwise (λa b=>a.1≠b.1):=by
 obtain⟨i,hi,hix⟩:=List.mem_iff_getElem.1 (List.mem_reverse.2 hx)
 have g1:(m.map (·.1))[i]?=some x.name:=by rw[H.old,UO,UC hi,hix];rfl
 have g2:(m'.map (·.1))[i]?=some (vnm x.num):=by rw[H.new,UO,UC hi,hix];rfl
 rw[UO,UD] at g1 g2
 obtain⟨p,p1,p2⟩:=g1
 obtain⟨q,q1,q2⟩:=g2
 have hv:(m'.map (·.2))[i]?=(m.map (·.2))[i]?:=by rw[H.val]
 rw[UO,UO,p1,q1] at hv
 simp only[Option.map_some,Option.some.injEq] at hv
 refine⟨i,p.2,by rw[p1,←p2],by rw[q1,←q2,←hv],?_⟩
 have hu:(e.reverse.map λx=>vnm x.num).Pairwise (· ≠ ·):=by
  rw[List.pairwise_map,List.pairwise_reverse]
  refine List.Pairwise.imp_of_mem (λ{a b} ha hb hab e=>?_) hn.1
  have:=Hm (hn.2 b hb) (hn.2 a ha) e
  omega
 rw[←H.new,List.pairwise_map] at hu
 exact hu
theorem IN5.away{e:List LV}{m m':Sc5}(H:IN5 e m m'){s:List UInt8}(hs:∀x∈e,x.name≠s):bL m s=none:=by
 refine Cp ?_
 rw[H.old]
 intro h
 obtain⟨x,hx,rfl⟩:=UX.1 h
 exact hs x (List.mem_reverse.1 hx) rfl
theorem IN5.away'{e:List LV}{m m':Sc5}(H:IN5 e m m'){n:Nat}(hn:n<26)(h26:∀x∈e,x.num<26)(hs:∀x∈e,x.num≠n):bL m' (vnm n)=none:=by
 refine Cp ?_
 rw[H.new]
 intro h
 obtain⟨x,hx,e⟩:=UX.1 h
 have hx:=List.mem_reverse.1 hx
 exact hs x hx (Hm (h26 x hx) hn e)
theorem pA{e:List LV}{s:List UInt8}{x:LV}(h:lkV e s=some x):x∈e/\x.name=s:=⟨yA h,by
 have:=List.find?_some h
 exact of_decide_eq_true this⟩
theorem RE5.get:∀{es:List (List LV)} {v v':List Sc5},RE5 es v v'->Nm es.flatten->∀{s:List UInt8} {x:LV},lkV es.flatten s=some x->gW v' (vnm x.num)=gW v s
 |_,_,_,.nil,_,s,x,h=>by cases h
 |_,_,_,.cons (e:=e) (m:=m) (m':=m') (es:=es) (v:=v) (v':=v') H R,hn,s,x,h=>by
  rw[Vt] at hn h
  obtain⟨n1,n2,n3⟩:=hn.sub
  rw[yy] at h
  cases he:lkV e s with
  |some y=>
   rw[he] at h;cases h
   obtain⟨y1,y2⟩:=pA he
   obtain⟨i,n,g1,g2,g3⟩:=H.here n1 y1
   rw[y2] at g1
   rw[gW,gW,tO H.uniq g1,tO g3 g2]
  |none=>
   rw[he] at h
   obtain⟨x1,x2⟩:=pA h
   have ha:bL m s=none:=H.away λy hy e=>by
    rw[lkV,List.find?_eq_none] at he
    exact he y hy (by simp[e])
   have hb:bL m' (vnm x.num)=none:=H.away' (n2.2 x x1) n1.2 λy hy e=>by have:=n3 y hy x x1;omega
   rw[gW,gW,ha,hb]
   exact R.get n2 h
theorem IN5.set{e:List LV}{m m':Sc5}(H:IN5 e m m'){i:Nat}{s t:List UInt8}{n q:Int}(h1:m[i]?=some (s,n))(h2:m'[i]?=some (t,n)):IN5 e (m.set i (s,q)) (m'.set i (t,q)):=by
 have k1:(m.set i (s,q)).map (·.1)=m.map (·.1):=by
  rw[List.map_set]
  refine List.ext_getElem? λj=>?_
  rw[List.getElem?_set]
  split
  ·rename_i e;subst e
   rw[UO,h1]
   have:=(Uz.1 h1).1
   simp[this]
  ·rfl
 have k2:(m'.set i (t,q)).map (·.1)=m'.map (·.1):=by
  rw[List.map_set]
  refine List.ext_getElem? λj=>?_
  rw[List.getElem?_set]
  split
  ·rename_i e;subst e
   rw[UO,h2]
   have:=(Uz.1 h2).1
   simp[this]
  ·rfl
 refine⟨by rw[k1];exact H.old,by rw[k2];exact H.new,by rw[List.map_set,List.map_set,H.val],?_⟩
 have:((m.set i (s,q)).map (·.1)).Pairwise (· ≠ ·):=by rw[k1,List.pairwise_map];exact H.uniq
 rwa[List.pairwise_map] at this
theorem RE5.set:∀{es:List (List LV)} {v v':List Sc5},RE5 es v v'->Nm es.flatten->∀{s:List UInt8} {x:LV} (q:Int),lkV es.flatten s=some x->RE5 es (gf v s q) (gf v' (vnm x.num) q)
 |_,_,_,.nil,_,s,x,q,h=>by cases h
 |_,_,_,.cons (e:=e) (m:=m) (m':=m') (es:=es) (v:=v) (v':=v') H R,hn,s,x,q,h=>by
  rw[Vt] at hn h
  obtain⟨n1,n2,n3⟩:=hn.sub
  rw[yy] at h
  cases he:lkV e s with
  |some y=>
   rw[he] at h;cases h
   obtain⟨y1,y2⟩:=pA he
   obtain⟨i,n,g1,g2,g3⟩:=H.here n1 y1
   rw[y2] at g1
   have s1:=tO H.uniq g1
   have s2:=tO g3 g2
   rw[gf,gf,s1,s2]
   simp only[Option.isSome_some,if_true]
   rw[Dc H.uniq g1,Dc g3 g2]
   exact .cons (H.set g1 g2) R
  |none=>
   rw[he] at h
   obtain⟨x1,x2⟩:=pA h
   have ha:bL m s=none:=H.away λy hy e=>by
    rw[lkV,List.find?_eq_none] at he
    exact he y hy (by simp[e])
   have hb:bL m' (vnm x.num)=none:=H.away' (n2.2 x x1) n1.2 λy hy e=>by have:=n3 y hy x x1;omega
   rw[gf,gf,ha,hb]
   exact .cons H (R.set n2 q h)
theorem RE5.add{e:List LV}{es:List (List LV)}{m m':Sc5}{v v':List Sc5}(R:RE5 (e::es) (m::v) (m'::v')){s:List UInt8}{n b:Nat}(q:Int)(hs:bL m s=none):RE5 ((⟨s,n,b⟩::e)::es) ((m++[(s,q)])::v) ((m'++[(vnm n,q)])::v'):=by
 cases R with
 |cons H R=>
  refine .cons ⟨by simp[H.old],by simp[H.new],by simp[H.val],?_⟩ R
  rw[List.pairwise_append]
  refine⟨H.uniq,by simp,λa ha c hc=>?_⟩
  rw[UL.1 hc]
  intro e
  have:=Mi (m:=m) (s:=s) (UX.2 ⟨a,ha,e⟩)
  rw[hs] at this;cases this
end
section
theorem RE5.opn{es:List (List LV)}{v v':List Sc5}(R:RE5 es v v'):RE5 ([]::es) ([]::v) ([]::v'):= .cons ⟨rfl,rfl,rfl,.nil⟩ R
theorem RE5.tail{e:List LV}{es:List (List LV)}{m m':Sc5}{v v':List Sc5}(R:RE5 (e::es) (m::v) (m'::v')):RE5 es v v':=by
 cases R with|cons _ R=>exact R
theorem RE5.split{e:List LV}{es:List (List LV)}{m:Sc5}{v w':List Sc5}(R:RE5 (e::es) (m::v) w'):∃m' v',w'=m'::v'/\RE5 es v v':=by
 cases R with|cons _ R=>exact⟨_,_,rfl,R⟩
end
section
theorem Hv:∀(ps:List (List UInt8)) (w:WS),(bE ps w).vs.reverse.map LV.name=w.vs.reverse.map LV.name++ps/\((bE ps w).vs.reverse.map λx=>vnm x.num)=(w.vs.reverse.map λx=>vnm x.num)++ny ps w
 |[],w=>by simp[bE,ny]
 |s::r,w=>by
  obtain⟨h1,h2⟩:=Hv r (gV w s 0)
  have e:bE (s::r) w=bE r (gV w s 0):=rfl
  rw[e,h1,h2,ny]
  simp[gV]
theorem BW:∀(ps:List (List UInt8)) (w:WS),(∀x∈w.vs,x.block=0)->(bE ps w).code=0->(w.vs.map LV.name).Pairwise (· ≠ ·)->((bE ps w).vs.map LV.name).Pairwise (· ≠ ·)
 |[],w,_,_,h=>h
 |s::r,w,hb,hz,h=>by
  have hz':(bE r (gV w s 0)).code=0:=hz
  have hp:=rZ hz'
  have hp':pU w.vs s 0 w.code=0:=hp
  refine BW r (gV w s 0) (λx hx=>?_) hz' (List.pairwise_cons.2 ⟨λt ht=>?_,h⟩)
  ·rcases UK.1 hx with rfl|hx
   ·rfl
   ·exact hb x hx
  ·obtain⟨x,hx,rfl⟩:=UX.1 ht
   intro e
   have hc:=BU hp'
   rw[pU] at hp'
   cases hl:lkV w.vs s with
   |none=>
    rw[lkV,List.find?_eq_none] at hl
    exact hl x hx (by simp[←e])
   |some y=>
    rw[hl] at hp'
    have:=hb y (yA hl)
    simp only[this,if_true,fl,hc] at hp'
    simp at hp'
theorem GD{α β:Type}:∀(a:List α) (b:List β),a.length=b.length->(a.zip b).map (·.1)=a/\(a.zip b).map (·.2)=b
 |[],[],_=>⟨rfl,rfl⟩
 |x::r,y::t,h=>by
  obtain⟨h1,h2⟩:=GD r t (by simpa using h)
  simp[h1,h2]
 |[],_::_,h=>by simp at h
 |_::_,[],h=>by simp at h
end
section
theorem Oy{fuel F:Nat}(h:F<=fuel):(s0 fuel).dn (fuel-F)=s0 F:=by
 show S5.mk (fuel-(fuel-F)) _ _=_
 rw[show fuel-(fuel-F)=F by omega];rfl
theorem Fo{l:List Fd}{K fuel F:Nat}{us:List Int}{s':S5}{r:O5 Int}(h:Ev l (.cal K us (s0 fuel) s' r))(hF:F<=fuel)(hr:r≠ .st 3)(hl:fuel-F<=s'.left):Ev l (.cal K us (s0 F) (s'.dn (fuel-F)) r):=by
 have:=((Mx h).2.2 (fuel-F) (Nat.sub_le _ _)).1 hr hl
 rwa[Oy hF] at this
theorem IP{l:List Fd}{K fuel F:Nat}{us:List Int}{s':S5}{r:O5 Int}(h:Ev l (.cal K us (s0 fuel) s' r))(hF:F<=fuel)(hl:r= .st 3\/s'.left<fuel-F):∃s1,Ev l (.cal K us (s0 F) s1 (.st 3))/\s1.said<+:s'.said:=by
 have:=((Mx h).2.2 (fuel-F) (Nat.sub_le _ _)).2 hl
 rwa[Oy hF] at this
theorem nC{l:List Fd}(hc:aN l=0){k:Nat}{f:Fd}(hf:l[k]?=some f):f.params.Pairwise (· ≠ ·):=by
 have hz:=((Ck l).1 hc).2 k f hf
 have hat:=(Iu hz).2
 rw[fnW,if_pos hat] at hz
 have hpz:=cQ hz
 obtain⟨p1,_⟩:=Hv f.params ⟨[],0,0⟩
 have hu:=BW f.params ⟨[],0,0⟩ (λx hx=>by cases hx) hpz .nil
 have e:f.params=(bE f.params ⟨[],0,0⟩).vs.reverse.map LV.name:=by rw[p1];rfl
 rw[e,List.map_reverse,List.pairwise_reverse]
 exact hu.imp λh e=>h e.symm
end
section
theorem Un5.tail{m:Sc5}{v:List Sc5}(h:Un5 (m::v)):Un5 v:=λq hq=>h q (by simp[hq])
def UnJ:J5->Prop
 | .stm _ v _ _ v' _ _=>Un5 v->Un5 v'
 | .blk _ v _ _ v' _ _=>Un5 v->Un5 v'
 | .lp _ v _ _ v' _ _=>Un5 v->Un5 v'
 |_=>True
theorem OA{l:List Fd}{j:J5}(h:Ev l j):UnJ j:=by
 induction h with
 |bnil=>exact id
 |bfuel _=>exact id
 |bgo _ _ _ i1 i2=>exact λh=>i2 (i1 h)
 |bend _ _ _ i1=>exact i1
 |argS _ _ _ _=>exact id
 |slet _ _ _ hv hs _=>
  subst hv
  exact λh=>h.let hs
 |sset _ _ _ _ _=>exact λh=>h.of (yI _ _ _)
 |ssay _ _ _ _=>exact id
 |sput _ _ _ _ _ _ _=>exact id
 |sputC _ _ _ _ _ _ _=>exact id
 |sputS _ _ _ _ _ _=>exact id
 |sif _ _ _ _ _ i2=>exact λh=>(i2 h.opn).tail
 |sloop _ _ i1=>exact i1
 |sback _ _ _ _=>exact id
 |sdo _ _ _ _=>exact id
 |lpS _ _ _=>exact id
 |lp0 _ _ _=>exact id
 |lpEnd _ _ _ _ _ _ i2=>exact λh=>(i2 h.opn).tail
 |lpFuel _ _ _ _ _ _ i2=>exact λh=>(i2 h.opn).tail
 |lpGo _ _ _ _ _ _ _ i2 i3=>exact λh=>i3 (i2 h.opn).tail
 |_=>trivial
theorem uT{ps:List (List UInt8)}{us:List Int}(hp:ps.Pairwise (· ≠ ·))(hl:ps.length=us.length):Un5 [ps.zip us]:=by
 intro m hm
 rw[UL.1 hm]
 have:nmS (ps.zip us)=ps:=(GD ps us hl).1
 rw[this];exact hp
end
section
def aK(l:List Fd)(sid cid:Nat)(s:S5)(e:Int)(o:Bool):AO:= .row 7 [[.p (fdL l),.sl sid 1 0 s.said.length,.p (.int .i64 e),.p (.int .i64 0),.sl cid 1 0 16,.p (.int .i64 s.left),.p (.bool o)]]
def bU(nid n:Nat)(uv:AV)(b:Bool)(x:Int):AO:= .row 4 [[.sl nid 1 0 n,uv,.p (.bool b),.p (.int .i64 x)]]
inductive UV (h:List AO):AV->Nat->List Int->Prop where
 |nn (uid:Nat):UV h .nils uid []
 |ss (uid:Nat) (xs t:List Int):h[uid]?=some (bm (xs++t))->UV h (.sl uid 1 0 xs.length) uid xs
theorem UV.frame{h h':List AO}{uv:AV}{uid:Nat}{xs:List Int}(H:UV h uv uid xs)(e:uid<h.length->h'[uid]?=h[uid]?):UV h' uv uid xs:=by
 cases H with
 |nn=>exact .nn _
 |ss _ _ t h1=>exact .ss _ _ t (by rw[e (Uz.1 h1).1];exact h1)
theorem UV.ne{h:List AO}{uv:AV}{uid:Nat}{xs:List Int}(H:UV h uv uid xs)(hx:0<xs.length):∃t,uv= .sl uid 1 0 xs.length/\h[uid]?=some (bm (xs++t)):=by
 cases H with
 |nn=>simp at hx
 |ss _ _ t h1=>exact⟨t,rfl,h1⟩
theorem UV.cell{h:List AO}{uv:AV}{uid:Nat}{xs:List Int}(H:UV h uv uid xs):uv.isCell=true/\uv.cells=[uv]:=by cases H<;>exact⟨rfl,rfl⟩
structure RI (R cid:Nat) (l:List Fd) (sid:Nat) (s:S5) (e:Int) (o:Bool) (h:List AO):Prop where
 run:h[R]?=some (aK l sid cid s e o)
 said:h[sid]?=some (bm s.said)
 cells:h[cid]?=some (bm s.cells)
 ne:sid≠cid
structure EI (V nid uid:Nat) (uv:AV) (w:Sc5) (b:Bool) (x:Int) (h:List AO):Prop where
 env:h[V]?=some (bU nid w.length uv b x)
 names:∃t,h[nid]?=some (cG (w.map (·.1)++t))
 vals:UV h uv uid (w.map (·.2))
 ne:nid≠uid
 ul:uid<h.length
structure Ap (R V sid cid nid uid:Nat):Prop where
 ns:nid≠sid
 nc:nid≠cid
 us:uid≠sid
 uc:uid≠cid
 uR:uid≠R
 uV:uid≠V
section
variable {R cid:Nat} {l:List Fd} {sid:Nat} {s:S5} {e:Int} {o:Bool} {h h':List AO} {V nid uid:Nat} {uv:AV} {w:Sc5} {b:Bool} {x:Int}
theorem RI.lt(H:RI R cid l sid s e o h):R<h.length/\sid<h.length/\cid<h.length:=⟨(Uz.1 H.run).1,(Uz.1 H.said).1,(Uz.1 H.cells).1⟩
theorem RI.neR(H:RI R cid l sid s e o h):R≠sid/\R≠cid:=by
 refine⟨λe=>?_,λe=>?_⟩
 ·have h1:=H.run;rw[e,H.said] at h1;simp[aK,bm] at h1
 ·have h1:=H.run;rw[e,H.cells] at h1;simp[aK,bm] at h1
theorem RI.frame(H:RI R cid l sid s e o h)(a:h'[R]?=h[R]?)(b:h'[sid]?=h[sid]?)(c:h'[cid]?=h[cid]?):RI R cid l sid s e o h':=⟨a.trans H.run,b.trans H.said,c.trans H.cells,H.ne⟩
theorem RI.more(H:RI R cid l sid s e o h)(os:List AO):RI R cid l sid s e o (h++os):=
 have hl:=H.lt
 H.frame (UB hl.1) (UB hl.2.1) (UB hl.2.2)
theorem EI.lt(H:EI V nid uid uv w b x h):V<h.length/\nid<h.length/\uid<h.length:=by
 obtain⟨t,h1⟩:=H.names
 exact⟨(Uz.1 H.env).1,(Uz.1 h1).1,H.ul⟩
theorem EI.neN(H:EI V nid uid uv w b x h):V≠nid:=by
 obtain⟨t,h1⟩:=H.names
 intro e
 have h3:=H.env;rw[e,h1] at h3;simp[bU,cG] at h3
theorem EI.neR(H:EI V nid uid uv w b x h){sid2:Nat}(K:RI R cid l sid2 s e o h):V≠R/\V≠sid2/\V≠cid/\nid≠R:=by
 obtain⟨t,h1⟩:=H.names
 have h3:=H.env
 refine⟨λe=>?_,λe=>?_,λe=>?_,λe=>?_⟩
 ·rw[e,K.run] at h3;simp[bU,aK] at h3
 ·rw[e,K.said] at h3;simp[bU,bm] at h3
 ·rw[e,K.cells] at h3;simp[bU,bm] at h3
 ·rw[e,K.run] at h1;simp[cG,aK] at h1
theorem EI.frame(H:EI V nid uid uv w b x h)(hl:h.length<=h'.length)(a:h'[V]?=h[V]?)(c:h'[nid]?=h[nid]?)(d:h'[uid]?=h[uid]?):EI V nid uid uv w b x h':=by
 obtain⟨t,h1⟩:=H.names
 exact⟨a.trans H.env,⟨t,c.trans h1⟩,H.vals.frame λ_=>d,H.ne,UY H.ul hl⟩
theorem EI.more(H:EI V nid uid uv w b x h)(os:List AO):EI V nid uid uv w b x (h++os):=
 have hl:=H.lt
 H.frame (by simp) (UB hl.1) (UB hl.2.1) (UB hl.2.2)
theorem EI.keep(H:EI V nid uid uv w b x h)(K:RI R cid l sid s e o h)(A:Ap R V sid cid nid uid)(F:Fr [R,sid,cid] h h'):EI V nid uid uv w b x h':=by
 obtain⟨a1,a2,a3,a4⟩:=H.neR K
 obtain⟨l1,l2,l3⟩:=H.lt
 exact H.frame F.1 (F.2 V l1 (by simp[a1,a2,a3])) (F.2 nid l2 (by simp[a4,A.ns,A.nc])) (F.2 uid l3 (by simp[A.uR,A.us,A.uc]))
theorem Ap.step{sid2:Nat}(H:EI V nid uid uv w b x h)(A:Ap R V sid cid nid uid)(f:sid2=sid\/h.length<=sid2):Ap R V sid2 cid nid uid:=by
 obtain⟨l1,l2,l3⟩:=H.lt
 obtain⟨a,b,c,d,e,f'⟩:=A
 rcases f with rfl|f
 ·exact⟨a,b,c,d,e,f'⟩
 ·exact⟨by omega,b,by omega,d,e,f'⟩
end
def bq{α:Type}:O5 α->Int
 | .ok _=>0
 | .st c=>c
def dd{α:Type}:O5 α->Bool
 | .ok _=>false
 | .st _=>true
def ExL(R cid:Nat)(l:List Fd)(sid:Nat)(h:List AO)(s':S5)(r:O5 Int)(x:ARes)(h':List AO):Prop:=
 ∃(n:Int) (sid':Nat),x= .ret (.p (.int .i64 n))/\V5 n/\(∀m,r= .ok m->n=m)/\RI R cid l sid' s' (bq r) (dd r) h'/\Fr [R,sid,cid] h h'/\(sid'=sid\/h.length<=sid')
def bkB:O5 (Option Int)->Bool
 | .ok (some _)=>true
 |_=>false
def bkV(x0:Int):O5 (Option Int)->Int
 | .ok (some n)=>n
 |_=>x0
def StL(R cid:Nat)(l:List Fd)(V sid nid uid:Nat)(h:List AO)(w:Sc5)(x0:Int)(s':S5)(r:O5 (Option Int))(x:ARes)(h':List AO):Prop:=
 ∃sid' nid' uid' uv',x= .ret (.tup [])/\RI R cid l sid' s' (bq r) (dd r) h'/\EI V nid' uid' uv' w (bkB r) (bkV x0 r) h'/\Ap R V sid' cid nid' uid'/\Fr [R,sid,cid,V,nid,uid] h h'/\(sid'=sid\/h.length<=sid')/\(nid'=nid\/h.length<=nid')/\(uid'=uid\/h.length<=uid')
end
section
def jk(l:List Fd)(fuel:Nat)(sv:AV)(s:S5):AO:= .row 20 [[.p (fdL l),.p (.int .i64 fuel),.p (.int .i64 ((fuel-s.left:Nat):Int)),sv]++s.cells.map λn=> .p (.int .i64 n)]
inductive SaidAt (h:List AO):AV->Nat->List Int->Prop where
 |nn (sid:Nat):sid<h.length->SaidAt h .nils sid []
 |ss (sid:Nat) (xs:List Int):h[sid]?=some (bm xs)->SaidAt h (.sl sid 1 0 xs.length) sid xs
structure MI (M:Nat) (l:List Fd) (fuel:Nat) (sv:AV) (sid:Nat) (s:S5) (h:List AO):Prop where
 men:h[M]?=some (jk l fuel sv s)
 said:SaidAt h sv sid s.said
 le:s.left<=fuel
 fu:fuel<=4000
 len:s.cells.length=16
def mpV(m:Sc5):List (PV × AV):=m.map λx=>(.str x.1,.p (.int .i64 x.2))
inductive Chn (h:List AO):AV->List Sc5->List Nat->Prop where
 |last (e m:Nat) (c:Sc5):h[e]?=some (.row 2 [[.mp m,.nilp]])->h[m]?=some (.mp (mpV c))->Chn h (.ptr e 2 0 0) [c] [e,m]
 |cons (e m:Nat) (c:Sc5) (u:AV) (v:List Sc5) (I:List Nat):h[e]?=some (.row 2 [[.mp m,u]])->h[m]?=some (.mp (mpV c))->Chn h u v I->Chn h (.ptr e 2 0 0) (c::v) (e::m::I)
section
variable {h h':List AO} {u:AV} {v:List Sc5} {I:List Nat}
theorem Chn.frame(H:Chn h u v I)(e:∀i∈I,h'[i]?=h[i]?):Chn h' u v I:=by
 induction H with
 |last a m c h1 h2=>exact .last a m c (by rw[e a (by simp)];exact h1) (by rw[e m (by simp)];exact h2)
 |cons a m c u v I h1 h2 _ ih=>exact .cons a m c u v I (by rw[e a (by simp)];exact h1) (by rw[e m (by simp)];exact h2) (ih λi hi=>e i (by simp[hi]))
theorem Chn.lt(H:Chn h u v I):∀i∈I,i<h.length:=by
 induction H with
 |last a m c h1 h2=>
  intro i hi
  simp only[UK,Va,or_false] at hi
  rcases hi with rfl|rfl
  ·exact(Uz.1 h1).1
  ·exact(Uz.1 h2).1
 |cons a m c u v I h1 h2 _ ih=>
  intro i hi
  simp only[UK] at hi
  rcases hi with rfl|rfl|hi
  ·exact(Uz.1 h1).1
  ·exact(Uz.1 h2).1
  ·exact ih i hi
theorem Chn.more(H:Chn h u v I)(os:List AO):Chn (h++os) u v I:=H.frame λi hi=>UB (H.lt i hi)
theorem Chn.is(H:Chn h u v I):∃e,u= .ptr e 2 0 0/\e∈I/\e<h.length:=by
 cases H with
 |last a m c h1 h2=>exact⟨a,rfl,by simp,(Uz.1 h1).1⟩
 |cons a m c u v I h1 h2 _=>exact⟨a,rfl,by simp,(Uz.1 h1).1⟩
theorem Chn.apart(H:Chn h u v I){i sz:Nat}{es:List (List AV)}(hi:h[i]?=some (.row sz es))(hz:sz≠2):i∉I:=by
 induction H with
 |last a m c h1 h2=>
  simp only[UK,Va,or_false,not_or]
  refine⟨λe=>?_,λe=>?_⟩
  ·subst e;rw[h1] at hi;simp only[Option.some.injEq,AO.row.injEq] at hi;exact hz hi.1.symm
  ·subst e;rw[h2] at hi;cases hi
 |cons a m c u v I h1 h2 _ ih=>
  simp only[UK,not_or]
  refine⟨λe=>?_,λe=>?_,ih⟩
  ·subst e;rw[h1] at hi;simp only[Option.some.injEq,AO.row.injEq] at hi;exact hz hi.1.symm
  ·subst e;rw[h2] at hi;cases hi
theorem zm(s:List UInt8):∀m:Sc5,eS (.str s) (mpV m)=some ((bL m s).map λn=>AV.p (.int .i64 n))
 |[]=>rfl
 |x::r=>by
  have ih:=zm s r
  by_cases h:x.1=s
  ·simp[mpV,eS,keq,h,bL]
  ·have h':¬s=x.1:=λe=>h e.symm
   simp only[mpV,Ve,eS,keq,h',decide_false]
   simp only[mpV] at ih
   rw[ih];simp[bL,h]
theorem sP(s:List UInt8)(n:Int):∀m:Sc5,gR (.str s) (.p (.int .i64 n)) (mpV m)=some (mpV (if(bL m s).isSome then sset m s n else m++[(s,n)]))
 |[]=>rfl
 |x::r=>by
  have ih:=sP s n r
  by_cases h:x.1=s
  ·simp[mpV,gR,keq,h,bL,sset]
  ·have h':¬s=x.1:=λe=>h e.symm
   simp only[mpV,Ve,gR,keq,h',decide_false]
   simp only[mpV] at ih
   rw[ih,bL,if_neg h,sset,if_neg h]
   cases (bL r s).isSome<;>simp
theorem Chn.var(H:Chn h u v I)(nd:I.Nodup){s:List UInt8}{n:Int}(hv:gW v s=some n):
 ∃(e m:Nat) (c:Sc5) (w:AV),h[e]?=some (.row 2 [[.mp m,w]])/\h[m]?=some (.mp (mpV c))/\bL c s=some n/\m∈I/\∀k,Chn (h.set m (.mp (mpV (sset c s k)))) u (gf v s k) I:=by
 induction H with
 |last a m c h1 h2=>
  rw[gW] at hv
  have hm:=(Uz.1 h2).1
  have hne:m≠a:=λe=>by subst e;rw[h1] at h2;cases h2
  cases hs:bL c s with
  |none=>rw[hs] at hv;cases hv
  |some k=>
   rw[hs] at hv;cases hv
   refine⟨a,m,c,.nilp,h1,h2,hs,by simp,λq=>?_⟩
   rw[gf,hs]
   exact .last a m _ (by rw[UA hne];exact h1) (UE hm)
 |cons a m c u v I h1 h2 H ih=>
  rw[gW] at hv
  have hm:=(Uz.1 h2).1
  have hne:m≠a:=λe=>by subst e;rw[h1] at h2;cases h2
  simp only[Vy,UK,not_or] at nd
  cases hs:bL c s with
  |some k=>
   rw[hs] at hv;cases hv
   refine⟨a,m,c,u,h1,h2,hs,by simp,λq=>?_⟩
   rw[gf,hs]
   exact .cons a m _ u v I (by rw[UA hne];exact h1) (UE hm) (H.frame λi hi=>UA (show m≠i from λe=>nd.2.1 (e▸hi)))
  |none=>
   rw[hs] at hv
   obtain⟨e',m',c',w,g1,g2,g3,g4,g5⟩:=ih nd.2.2 hv
   refine⟨e',m',c',w,g1,g2,g3,by simp[g4],λq=>?_⟩
   rw[gf,hs]
   have n1:m'≠a:=λe=>nd.1.2 (e▸g4)
   have n2:m'≠m:=λe=>nd.2.1 (e▸g4)
   exact .cons a m c u _ I (by rw[UA n1];exact h1) (by rw[UA n2];exact h2) (g5 q)
end
section
variable {M:Nat} {l:List Fd} {fuel:Nat} {sv:AV} {sid:Nat} {s:S5} {h h':List AO}
theorem SaidAt.frame{xs:List Int}(H:SaidAt h sv sid xs)(hl:h.length<=h'.length)(e:sv≠ .nils->h'[sid]?=h[sid]?):SaidAt h' sv sid xs:=by
 cases H with
 |nn _ h1=>exact .nn _ (UY h1 hl)
 |ss _ _ h1=>exact .ss _ _ (by rw[e (by simp)];exact h1)
theorem SaidAt.lt{xs:List Int}(H:SaidAt h sv sid xs):sid<h.length:=by
 cases H with
 |nn _ h1=>exact h1
 |ss _ _ h1=>exact(Uz.1 h1).1
theorem MI.lt(H:MI M l fuel sv sid s h):M<h.length:=(Uz.1 H.men).1
theorem MI.frame(H:MI M l fuel sv sid s h)(hl:h.length<=h'.length)(a:h'[M]?=h[M]?)(b:h'[sid]?=h[sid]?):MI M l fuel sv sid s h':=⟨a.trans H.men,H.said.frame hl λ_=>b,H.le,H.fu,H.len⟩
theorem SaidAt.more{xs:List Int}(H:SaidAt h sv sid xs)(os:List AO):SaidAt (h++os) sv sid xs:=H.frame (by simp) λ_=>UB H.lt
theorem MI.more(H:MI M l fuel sv sid s h)(os:List AO):MI M l fuel sv sid s (h++os):=
 ⟨by rw[UB H.lt];exact H.men,H.said.more os,H.le,H.fu,H.len⟩
theorem SaidAt.cell{xs:List Int}(H:SaidAt h sv sid xs):sv.isCell=true/\sv.cells=[sv]:=by cases H<;>exact⟨rfl,rfl⟩
end
end
end Go.Proofs.YtokiapglmedipaaGreatDoor
namespace Go.Aw
open Go
section
variable {G:al} {W:World} {S:Nat->Prop} {φ:Aw.Place} {h:List AO}
theorem HRel.box_at(H:HRel G W S φ h){id:Nat}{x:Int}(e:h[id]?=some (.row 1 [[.p (.int .i64 x)]])):
 W.cell? ⟨(φ id).1,(φ id).2,none⟩=some (.int .i64 x)/\W.frozen? ⟨(φ id).1,(φ id).2,none⟩=false/\
  ∀c:Int,HRel G (W.setCell ⟨(φ id).1,(φ id).2,none⟩ (.int .i64 c)) S φ (h.set id (.row 1 [[.p (.int .i64 c)]]))/\Keep W S φ h (W.setCell ⟨(φ id).1,(φ id).2,none⟩ (.int .i64 c)) S φ (h.set id (.row 1 [[.p (.int .i64 c)]])):=by
 obtain⟨c0,t0,fr,a1,a2,a3,a4,a5⟩:=H.obj id 1 _ e
 obtain⟨_,v,b1,b2⟩:=a5 0 (.p (.int .i64 x)) rfl
 have hv:=bw b2
 subst hv
 rw[Nat.add_zero] at b1
 have hlt:(φ id).2<c0.size:=(UZ.1 b1).1
 refine⟨by simp only[World.cell?,a1];simpa using b1,?_,λc=>?_⟩
 ·simp only[World.frozen?,a1]
  have:=a2 _ hlt
  simp only[not_and,Nat.not_lt] at this
  by_cases hq:fr.1<=(φ id).2
  ·have:=this hq
   simp[hq];omega
  ·simp[hq]
 ·have B:=rz (off:=(φ id).2) a1 (.int .i64 c)
  refine H.update e a1 (by simp) B (by simpa using a2) (λq hq=>by rw[UL.1 hq];rfl) (by simpa using a4) λj u hj=>?_
  cases j with
  |zero=>
   cases hj
   refine⟨rfl,.int .i64 c,?_,.p _ _ (.int _ _)⟩
   rw[Nat.add_zero,Array.getElem?_setIfInBounds_self_of_lt hlt]
  |succ j=>simp at hj
end
theorem JZ{P:Program}{ops:Array Oper}{Q:Exit->Act->World->Prop}{o:Oper}{rest:List Oper}{a:Act}{w w':World}{v:Value}(hg:o.guard=none)(hr:(execOp a.eval o).run P w= .halt (.panic v) w')(h:Q (.panic [{v,recovered:=false}]) a w'):wpList P ops Q (o::rest) a w:=by
 simp only[wpList]
 rw[if_pos (by simp[Region.wanted,hg])]
 refine .inl ?_
 unfold Oper.wp
 rw[hr]
 exact h
theorem My{P:Program}{ops:Array Oper}{Q:Exit->Act->World->Prop}{o:Oper}{rest:List Oper}{a:Act}{w w':World}{d:Deferred}(hg:o.guard=none)(hr:(execOp a.eval o).run P w= .ok (.defer d) w')(h:wpList P ops Q rest ({a with defers:=d::a.defers}.put o.dst undef) w'):wpList P ops Q (o::rest) a w:=by
 simp only[wpList]
 rw[if_pos (by simp[Region.wanted,hg])]
 refine .inl ?_
 unfold Oper.wp
 rw[hr]
 exact h
theorem Hg{P:Program}{ops:Array Oper}{Q:Exit->Act->World->Prop}{o:Oper}{rest:List Oper}{a:Act}{w w':World}(hg:o.guard=none)(hr:(execOp a.eval o).run P w= .ok .skip w')(h:wpList P ops Q rest (a.put o.dst undef) w'):wpList P ops Q (o::rest) a w:=by
 simp only[wpList]
 rw[if_pos (by simp[Region.wanted,hg])]
 refine .inl ?_
 unfold Oper.wp
 rw[hr]
 exact h
theorem Ka{P:Program}{ops:Array Oper}{Q:Exit->Act->World->Prop}{o:Oper}{rest:List Oper}{a:Act}{w w':World}{f:FuncId}{vs:Array Value}{R:Ending->World->Prop}(hg:o.guard=none)(hr:(execOp a.eval o).run P w= .ok (.enter f vs) w')
 (hc:Calls P f vs w' R)(h1:∀v w2,R (.returned v) w2->wpList P ops Q rest (a.put o.dst v) w2)(h2:∀chain w2,R (.panicked chain) w2->Q (.panic chain) a w2)(h3:∀w2,¬R .outgrown w2):wpList P ops Q (o::rest) a w:=by
 simp only[wpList]
 rw[if_pos (by simp[Region.wanted,hg])]
 refine .inl ?_
 unfold Oper.wp
 rw[hr,Oper.upon_enter]
 refine hc.mono λe w2 r=>?_
 cases e with
 |returned v=>exact h1 v w2 r
 |panicked chain=>exact h2 chain w2 r
 |outgrown=>exact(h3 w2 r).elim
theorem sw{P:Program}{f:FuncId}(hc:fC P f=true)(args caps:Array Value)(w:World):(invoke (.fn (.func f) caps) args).run P w= .ok (.enter f (args++caps)) w:=by
 unfold fC at hc
 split at hc
 ·rename_i fn hf
  simp only[UT,Bool.not_eq_true',beq_eq_false_iff_ne] at hc
  obtain⟨hb,hn⟩:=hc
  obtain⟨c,hb⟩:=Option.isSome_iff_exists.1 hb
  simp[invoke,callFunc,hf,hn,hb]
 ·cases hc
end Go.Aw
