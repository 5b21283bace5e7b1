/-
  Contracts and lemmas that the card needs, part 7.
-/
import Derived.Test.YtnjbhgpbgmpkcaaGreatDoorFl6
namespace Go.Proofs.YtnjbhgpbgmpkcaaGreatDoor
open Go Go.Aw
set_option maxRecDepth 100000
set_option maxHeartbeats 4000000
def cb(fns:List Fd)(vs:List (List UInt8))(next left:Int):List AV:=[.ptr 0 2 0 0,slE 2 3 (aV fns),.p (az vs),.p (.int .i64 next),.p (.int .i64 left)]
def HG(b:List Int)(p:Nat)(fns:List Fd)(vs:List (List UInt8))(next left:Int):List AO:=[rdO b p,.row 5 [cb fns vs next left],bH 3 (aV fns)]
def DG(b:List Int)(fns:List Fd)(Q:AV→Nat→List (List UInt8)→Int→Int→Prop)(x:ARes)(h:List AO):Prop:=
 ∃v rest q vc v1 vs next left,x= .ret v∧h=rdO b q:: .row 5 [[.ptr 0 2 0 0,slE 2 3 (aV fns),vc,.p (.int .i64 next),.p (.int .i64 left)]]::bH 3 (aV fns)::rest∧
  Fzs (.dead:: .dead:: .dead::rest) 3 [vc] [.p (az vs)]∧Fzs (.dead:: .dead:: .dead::rest) 3 [v] [v1]∧Q v1 q vs next left
def PG(b:List Int)(fns:List Fd)(Q:AV→Nat→List (List UInt8)→Int→Int→Prop)(rest:List AO)(x:ARes)(h:List AO):Prop:=
 ∃v q vs next left,x= .ret v∧h=rdO b q:: .row 5 [cb fns vs next left]::bH 3 (aV fns)::rest∧Q v q vs next left
variable (G:aC)
theorem iD{f:FuncId}{args:List AV}{b:List Int}{p:Nat}{fns:List Fd}{vs:List (List UInt8)}{next left:Int}{Q:AV→Nat→List (List UInt8)→Int→Int→Prop}(H:AC Tryz.prog G f args (HG b p fns vs next left) (DG b fns Q)):
 AC Tryz.prog G f args (HG b p fns vs next left) (PG b fns Q []):=by
 refine H.frz 3 (by simp[HG]) (fun t v h ⟨_,_,_,_,_,_,_,_,e,_⟩=>by cases e) ?_
 rintro v h ⟨v0,rest,q,vc,v1,vs',n',l',e,rfl,hc,hf,r⟩
 cases e
 refine⟨v1,HG b q fns vs' n' l',by simp,rfl,hf,.same (bc _ _ _) (.one ?_ (.same (iR _ _) (.nil _))),v1,q,vs',n',l',rfl,rfl,r⟩
 exact .keep (by simp[below]) (.keep (lw (by omega)) (hc.append (.keep (by simp) (.keep (by simp) .nil))))
theorem BD(b:List Int)(p:Nat)(fns:List Fd)(vs:List (List UInt8))(next left:Int):∀o∈HG b p fns vs next left,okO 3 o:=by
 intro o ho
 simp only[HG,List.mem_cons,List.not_mem_nil,or_false] at ho
 rcases ho with rfl|rfl|rfl
 ·exact bc _ _ _
 ·intro e he
  rw[List.mem_singleton.1 he]
  exact⟨by simp[below],lw (by omega),by simp,by simp,by simp,trivial⟩
 ·exact iR _ _
theorem cC{f:FuncId}{args:List AV}{b:List Int}{p:Nat}{fns:List Fd}{vs:List (List UInt8)}{next left:Int}{Q:AV→Nat→List (List UInt8)→Int→Int→Prop}(H:AC Tryz.prog G f args (HG b p fns vs next left) (PG b fns Q []))(rest:List AO)(ha:ah 3 args):
 AC Tryz.prog G f args (rdO b p:: .row 5 [cb fns vs next left]::bH 3 (aV fns)::rest) (PG b fns Q rest):=by
 refine(AC.pre H rest ha (BD _ _ _ _ _ _) ?_).mono ?_
 ·rintro x h ⟨v,q,vs',n',l',_,rfl,_⟩;rfl
 ·rintro x h ⟨h1,⟨v,q,vs',n',l',e1,rfl,e2⟩,rfl⟩
  exact⟨v,q,vs',n',l',e1,rfl,e2⟩
def Hn(p:Nat)(vs:List (List UInt8))(next left:Int)(v:AV)(q:Nat)(vs':List (List UInt8))(next' left':Int):Prop:=(∃s:List UInt8,v= .p (.str s)∧s.length≤8)∧p≤q∧q≤p+2∧vs'=vs∧next'=next+1∧left'=left
theorem yu{b:List Int}(hb:Byt b)(hl:b.length≤2000){p:Nat}(hp:p+2≤1000000000000)(fns:List Fd)(vs:List (List UInt8))(hv:oQ vs){next:Int}(hn: -1≤next)(hn2:next≤1000000000000)(left:Int):
 AC Tryz.prog G eM [.ptr 1 5 0 0] (HG b p fns vs next left) (PG b fns (Hn p vs next left) []):=by
 refine iD G (AC.go mL ?_)
 have hw:IntKind.i64.wrap (next+1)=next+1:=af (by omega) (by omega)
 have hsl:az vs= .lst 1 (vs.map fun w=>[.str w]):=rfl
 simp-implicitDefEqProofs[iu,HG,cb,hw]
 refine(aU G b hb hl p (by omega) 9 _).mono ?_
 rintro r h ⟨k,rfl,rfl,_⟩
 have fin:∀(s:List UInt8) (q:Nat),s.length≤8→p≤q→q≤p+2→DG b fns (Hn p vs next left) (.ret (.p (.str s))) [rdO b q,.row 5 [[.ptr 0 2 0 0,slE 2 3 (aV fns),.p (az vs),.p (.int .i64 (next+1)),.p (.int .i64 left)]],bH 3 (aV fns)]:=fun s q h1 h2 h3=>
  ⟨_,[],q,_,_,vs,next+1,left,rfl,rfl,.keep (by simp) .nil,.keep (by simp) .nil,⟨s,rfl,h1⟩,h2,h3,rfl,rfl,rfl⟩
 obtain⟨N,hN⟩:∃N:Nat,next+1=N:=⟨(next+1).toNat,by omega⟩
 have hm:N%24<24:=Nat.mod_lt _ (by omega)
 have ht:(N:Int).tmod 24=((N%24:Nat):Int):=rfl
 have hw2:IntKind.i64.wrap (((N%24:Nat):Int)+1)=((N%24+1:Nat):Int):=w1 (by omega)
 rw[hN] at fin⊢
 generalize N%24=m at hm ht hw2
 have hm1:m+1≤24:=by omega
 have h0m:(0:Int)≤(m:Int)+1:=by omega
 by_cases hc:k=0∧vs≠[]
 ·obtain⟨rfl,hne⟩:=hc
  have hpos:0<vs.length:=List.length_pos_iff.2 hne
  simp-implicitDefEqProofs[aa,hsl,hpos]
  rw[←hsl]
  refine(yI G hb hl (by omega) vs hne (by have:=hv.1;omega) _).mono ?_
  rintro r h ⟨s,hs,rfl,rfl⟩
  simp-implicitDefEqProofs[aa]
  exact fin s _ (hv.2 s hs) (by omega) (by omega)
 ·have hcc:(k=0∧0<vs.length)=False:=by
   simp only[eq_iff_iff,iff_false]
   exact fun⟨a,c⟩=>hc ⟨a,List.length_pos_iff.1 c⟩
  by_cases hk:k=0
  ·have hv0:vs=[]:=by
    by_cases e:vs=[]
    ·exact e
    ·exact absurd ⟨hk,e⟩ hc
   subst hv0
   have hs0:az []= .lst 1 []:=rfl
   simp-implicitDefEqProofs[aa,hs0,hk,ht,hw2,hm1,h0m]
   rw[←hs0]
   refine fin _ (p+1) ?_ (by omega) (by omega)
   simp
   omega
  ·simp-implicitDefEqProofs[aa,hk,ht,hw2,hm1,h0m]
   refine fin _ (p+1) ?_ (by omega) (by omega)
   simp
   omega
def qB(fns:List Fd):Prop:=fns.length≤1000∧∀f∈fns,f.name.length≤8∧f.params.length≤3
def GO(p:Nat)(vs:List (List UInt8))(next left:Int)(v:AV)(q:Nat)(vs':List (List UInt8))(next' left':Int):Prop:=(∃e:Ex,v= .agg (e.cs.map .p)∧e.sz≤400)∧p≤q∧q≤p+400∧vs'=vs∧next'=next∧left'=left
theorem uC{b:List Int}(hb:Byt b)(hl:b.length≤2000){p:Nat}(hp:p≤1000000000000)(l:List Int)(hne:l≠[])(hll:l.length≤1000000000000)(rest:List AO):
 AC Tryz.prog G aj [.ptr 0 2 0 0,.p (iZ l)] (rdO b p::rest) fun x h=>∃n,n∈l∧x= .ret (.p (.int .i64 n))∧h=rdO b (p+1)::rest:=by
 have key:AC Tryz.prog G aj [.ptr 0 2 0 0,.p (iZ l)] [rdO b p] fun x h=>∃n,n∈l∧x= .ret (.p (.int .i64 n))∧h=[rdO b (p+1)]:=by
  refine AC.go jj ?_
  have hpos:0<l.length:=List.length_pos_iff.2 hne
  have hnl:iZ l= .lst 1 (l.map fun n=>[.int .i64 n]):=rfl
  simp-implicitDefEqProofs[fO,hnl]
  refine(aU G b hb hl p (by omega) l.length []).mono ?_
  rintro r h ⟨m,rfl,rfl,hm⟩
  have hml:m<l.length:=by omega
  have hg:=List.getElem?_eq_getElem hml
  simp-implicitDefEqProofs[aa,hg]
 refine(key.pre rest (by simp[below]) (fun o ho=>by rw[List.mem_singleton.1 ho];exact bc _ _ _) ?_).mono ?_
 ·rintro x h ⟨n,_,_,rfl⟩;rfl
 ·rintro x h ⟨h1,⟨n,e1,e2,rfl⟩,rfl⟩
  exact⟨n,e1,e2,rfl⟩
structure ExS where (es:List Ex) (q:Nat)
theorem jd{b:List Int}(hb:Byt b)(hl:b.length≤2000){p:Nat}(hp:p+1000≤1000000000000)(fns:List Fd)(hf:qB fns)(vs:List (List UInt8))(hv:oQ vs)(next left:Int){d:Nat}(hd:d≤3):
 AC Tryz.prog G aN [.ptr 1 5 0 0,.p (.int .i64 d)] (HG b p fns vs next left) (PG b fns (GO p vs next left) []):=by
 refine iD G (AC.go ou ?_)
 have hpow:3^d≤27:=by
  have:3^d≤3^3:=Nat.pow_le_pow_right (by omega) hd
  omega
 have sub:∀(k:Nat),k≤3→∀(q:Nat) (rest:List AO),p≤q→q≤p+700→AC Tryz.prog G aT [.ptr 0 2 0 0,.p (az vs),.p (.int .i64 k)] (rdO b q::rest) fun x h=>∃v q',x= .ret v∧h=rdO b q'::rest∧ExQ q (10*3^k) (6*3^k) v q':=fun k hk q rest _ _=>by
  have:3^k≤3^3:=Nat.pow_le_pow_right (by omega) hk
  exact gC G (sq G hb hl vs hv k (by omega) (by omega)) rest (by simp[below])
 simp-implicitDefEqProofs[iP,HG,cb]
 refine(sub d hd p _ (by omega) (by omega)).mono ?_
 rintro r h ⟨v,q0,rfl,rfl,⟨e0,rfl,he0⟩,hq1,hq2⟩
 have hec:=e0.cs_eq
 simp-implicitDefEqProofs[aa,hec]
 have finE:∀(e:Ex) (q:Nat) (rest:List AO) (v:AV),Fzs (.dead:: .dead:: .dead::rest) 3 [v] [.agg (e.cs.map .p)]→e.sz≤400→p≤q→q≤p+400→DG b fns (GO p vs next left) (.ret v) (rdO b q:: .row 5 [[.ptr 0 2 0 0,slE 2 3 (aV fns),.p (az vs),.p (.int .i64 next),.p (.int .i64 left)]]::bH 3 (aV fns)::rest):=fun e q rest v hz h1 h2 h3=>
  ⟨_,rest,q,_,_,vs,next,left,rfl,rfl,.keep (by simp) .nil,hz,⟨e,rfl,h1⟩,h2,h3,rfl,rfl,rfl⟩
 have fz0:∀rest,Fzs (.dead:: .dead:: .dead::rest) 3 [.agg [.p (.int .i64 e0.op),.p (.int .i64 e0.n),.p (.str e0.name),.p (exL e0.kids)]] [.agg (e0.cs.map .p)]:=fun rest=> .agg (by rw[hec];exact fy (by simp)) .nil
 by_cases hfe:fns=[]
 ·have h0:aV fns=[]:=by rw[hfe];rfl
  simp-implicitDefEqProofs[h0]
  rw[←h0]
  have:=finE e0 q0 [.row 4 [[.p (.int .i64 e0.op),.p (.int .i64 e0.n),.p (.str e0.name),.p (exL e0.kids)]],.row 4 [[.p (.int .i64 e0.op),.p (.int .i64 e0.n),.p (.str e0.name),.p (exL e0.kids)]]] _ (fz0 _) (by omega) (by omega) (by omega)
  rw[h0] at this⊢
  exact this
 have hfr:¬aV fns=[]:=fun h=>hfe (List.map_eq_nil_iff.1 h)
 have hfl:(aV fns).length=fns.length:=by simp[aV]
 have hfp:0<fns.length:=List.length_pos_iff.2 hfe
 simp only[dO hfr,cZ hfr,hfl] at finE
 rw[show bH 3 (aV fns)= .row 3 (aV fns) from dO hfr,show slE 2 3 (aV fns)= .sl 2 3 0 (aV fns).length from cZ hfr,hfl]
 generalize hR:aV fns=R at*
 simp-implicitDefEqProofs[hfr]
 refine(aU G b hb hl q0 (by omega) 4 _).mono ?_
 rintro r h ⟨k1,rfl,rfl,_⟩
 simp-implicitDefEqProofs[aa]
 refine aW (fun hc=>?_) (fun hc=>?_)
 ·simp-implicitDefEqProofs[]
  exact finE e0 _ _ _ (fz0 _) (by omega) (by omega) (by omega)
 simp-implicitDefEqProofs[hfl]
 refine(aU G b hb hl (q0+1) (by omega) fns.length _).mono ?_
 rintro r h ⟨k2,rfl,rfl,hk2⟩
 have hk:k2<fns.length:=by omega
 have hg:=List.getElem?_eq_getElem hk
 have hgr:R[k2]?=some (fns[k2].cs.map .p):=by rw[←hR,aV,List.getElem?_map,hg];rfl
 have hfo:=hf.2 _ (List.getElem_mem hk)
 generalize fns[k2]=fd at hg hgr hfo
 have hfc:fd.cs=[.str fd.name,az fd.params,smL fd.body]:=rfl
 have hsp:az fd.params= .lst 1 (fd.params.map fun w=>[.str w]):=rfl
 clear hfl hg
 simp-implicitDefEqProofs[aa,hgr,hk,hfc]
 have hexn:∀(es:List Ex) (e:Ex),exR (es++[e])=exR es++[e.cs.map .p]:=fun es e=>by simp[exR]
 have hRp:∀x∈R,ah 0 x:=by rw[←hR];exact oU fns
 refine aO (fun s:ExS=>am 99 [(8,.p (.int .i64 s.es.length)),(7,.ptr 6 4 0 0),(6,.ptr 5 3 0 0),(4,.ptr 3 4 0 0),(0,.ptr 1 5 0 0)])
  (fun s=>[rdO b s.q,.row 5 [[.ptr 0 2 0 0,.sl 2 3 0 fns.length,.p (az vs),.p (.int .i64 next),.p (.int .i64 left)]],.row 3 R,.row 4 [[.p (.int .i64 0),.p (.int .i64 0),.p (.str []),.nils]],
    .row 4 [[.p (.int .i64 e0.op),.p (.int .i64 e0.n),.p (.str e0.name),.p (exL e0.kids)]],.row 3 [[.p (.str fd.name),.p (az fd.params),.p (smL fd.body)]],.row 4 [[.p (.int .i64 13),.p (.int .i64 0),.p (.str fd.name),slE 7 4 (exR s.es)]],bH 4 (exR s.es)])
  (fun s=>s.es.length≤fd.params.length∧aR s.es≤90*s.es.length∧q0≤s.q∧s.q≤q0+2+54*s.es.length) (fun s=>fd.params.length-s.es.length) ⟨[],q0+1+1⟩ ⟨by simp,by simp[aR],by simp only;omega,by simp⟩
  (nU (by simp) (by simp) (by
    intro o h
    simp only[List.mem_cons,List.not_mem_nil,or_false] at h
    rcases h with rfl|rfl|rfl|rfl|rfl|rfl|rfl
    ·exact bc _ _ _
    ·simp[okO,below]
    ·exact ce (fun e he=>hRp e he)
    ·simp[okO,below]
    ·simp[okO,below]
    ·simp[okO,below]
    ·simp[okO,below]) (by simp[below])) ?_
 rintro⟨es,q⟩ ⟨h1,h2,h3,h4⟩
 simp only at h1 h2 h3 h4
 simp-implicitDefEqProofs[hsp]
 refine aW (fun hc=>?_) (fun hc=>?_)
 ·simp at hc
  have hp3:=hfo.2
  simp-implicitDefEqProofs[]
  refine(sub 2 (by omega) q _ (by omega) (by omega)).mono ?_
  rintro r h ⟨v,q2,rfl,rfl,⟨e,rfl,he⟩,hq3,hq4⟩
  have hec:=e.cs_eq
  simp-implicitDefEqProofs[aa,hec]
  have hxl:(exR es).length=es.length:=by simp[exR]
  refine⟨by rw[hxl];omega,⟨es++[e],q2⟩,⟨by simp;omega,by rw[cF];simp[aR];omega,by simp only;omega,by simp;omega⟩,by simp;omega,?_⟩
  rw[hexn,yK _ (by simp),vl _ (by simp),hec]
  refine cQ [0,1,2,3,4,5,6,8] (by simp) (by decide) (by decide) (bs rfl (bc _ _ _) (cI (by simp[below]) (by simp[ren,aZ]) (bf rfl hRp (bf rfl (by simp[below]) (bf rfl (by simp[below]) (bf rfl (by simp[below]) (cI (by simp[below]) (by simp[ren,aZ]) (bf rfl (fun x hx=>by
   rcases List.mem_append.1 hx with h|h
   ·exact du _ x h
   ·rw[List.mem_singleton.1 h];simp) bq)))))))) ?_
  simp[below,ren,w1 (i:=es.length) (by omega)]
 ·simp at hc
  have hp3:=hfo.2
  have hlen:es.length=fd.params.length:=by omega
  have hxl:(exR es).length=es.length:=by simp[exR]
  have hkids:∀(h:List AO),h[7]?=some (bH 4 (exR es))→View h (slE 7 4 (exR es)) (exL es):=fun h hh=>eX hh
  simp-implicitDefEqProofs[]
  refine(aU G b hb hl q (by omega) 2 _).mono ?_
  rintro r h ⟨k3,rfl,rfl,_⟩
  simp-implicitDefEqProofs[aa]
  refine aW (fun hc2=>?_) (fun hc2=>?_)
  ·simp-implicitDefEqProofs[]
   have hcc:(Ex.mk 13 0 fd.name es).cs=[.int .i64 13,.int .i64 0,.str fd.name,exL es]:=Ex.cs_eq _
   exact finE ⟨13,0,fd.name,es⟩ (q+1) _ _ (.agg (by rw[hcc];exact .keep (by simp) (.keep (by simp) (.keep (by simp) (.one (hkids _ rfl) .nil)))) .nil) (by simp[Ex.sz];omega) (by omega) (by omega)
  ·simp-implicitDefEqProofs[]
   refine(uC G hb hl (p:=q+1) (by omega) [3,4,8,10] (by simp) (by simp) _).mono ?_
   rintro r h ⟨n,_,rfl,rfl⟩
   simp-implicitDefEqProofs[aa]
   refine(sub 2 (by omega) (q+1+1) _ (by omega) (by omega)).mono ?_
   rintro r h ⟨v,q2,rfl,rfl,⟨e,rfl,he⟩,hq3,hq4⟩
   have hec:=e.cs_eq
   simp-implicitDefEqProofs[aa,hec]
   have hcc:(Ex.mk 13 0 fd.name es).cs=[.int .i64 13,.int .i64 0,.str fd.name,exL es]:=Ex.cs_eq _
   exact finE ⟨n,0,[],[⟨13,0,fd.name,es⟩,e]⟩ q2 _ _ (.agg (.keep (by simp) (.keep (by simp) (.keep (by simp) (.one (ow (p0:=(Ex.mk 13 0 fd.name es).cs) (p1:=e.cs) rfl (Ex.cs_len _) (Ex.cs_len _) (fun j q a e1 e2=>by
    rw[hcc] at e1
    match j,e1,e2 with
    |0,e1,e2=>cases e1;cases e2;exact .p _
    |1,e1,e2=>cases e1;cases e2;exact .p _
    |2,e1,e2=>cases e1;cases e2;exact .p _
    |3,e1,e2=>cases e1;cases e2;exact hkids _ rfl
    |j+4,e1,e2=>simp at e1) (fun j q a e1 e2=>by
    rw[hec] at e1
    match j,e1,e2 with
    |0,e1,e2=>cases e1;cases e2;exact .p _
    |1,e1,e2=>cases e1;cases e2;exact .p _
    |2,e1,e2=>cases e1;cases e2;exact .p _
    |3,e1,e2=>cases e1;cases e2;exact .p _
    |j+4,e1,e2=>simp at e1)) .nil)))) .nil) (by simp[Ex.sz,aR];omega) (by omega) (by omega)
end Go.Proofs.YtnjbhgpbgmpkcaaGreatDoor
namespace Go.Proofs.YtnjbhgpbgmpkcaaGreatDoor
open Go Go.Aw
set_option maxRecDepth 100000
set_option maxHeartbeats 4000000
variable (G:aC)
def JE(p:Nat)(vs:List (List UInt8))(next left:Int)(v:AV)(q:Nat)(vs':List (List UInt8))(next' left':Int):Prop:=(∃e:Ex,v= .agg (e.cs.map .p)∧e.sz≤410)∧p≤q∧q≤p+401∧vs'=vs∧next'=next∧left'=left
theorem CV{b:List Int}(hb:Byt b)(hl:b.length≤2000){p:Nat}(hp:p+2000≤1000000000000)(fns:List Fd)(hf:qB fns)(vs:List (List UInt8))(hv:oQ vs)(next left:Int):
 AC Tryz.prog G dB [.ptr 1 5 0 0] (HG b p fns vs next left) (PG b fns (JE p vs next left) []):=by
 refine iD G (AC.go no ?_)
 simp-implicitDefEqProofs[iB,HG,cb]
 refine(cC G (jd G hb hl (p:=p) (by omega) fns hf vs hv next left (d:=2) (by omega)) _ (by simp[below])).mono ?_
 rintro r h ⟨v,q,vs',n',l',rfl,rfl,⟨e,rfl,he⟩,h1,h2,rfl,rfl,rfl⟩
 have hec:=e.cs_eq
 simp-implicitDefEqProofs[aa,cb,hec]
 refine(uC G hb hl (p:=q) (by omega) [16,16,16,8,17,0] (by simp) (by simp) _).mono ?_
 rintro r h ⟨n,_,rfl,rfl⟩
 simp-implicitDefEqProofs[aa]
 have hn:(Ex.mk 1 n [] []).cs=[.int .i64 1,.int .i64 n,.str [],.lst 4 []]:=Ex.cs_eq _
 refine⟨_,[_,_],q+1,_,.agg ((Ex.mk 7 0 [] [e,⟨1,n,[],[]⟩]).cs.map .p),vs',n',l',rfl,rfl,.keep (by simp) .nil,.agg (.keep (by simp) (.keep (by simp) (.keep (by simp) (.one (ow (p0:=e.cs) (p1:=(Ex.mk 1 n [] []).cs) rfl (Ex.cs_len _) (Ex.cs_len _) (fun j q a e1 e2=>?_) (fun j q a e1 e2=>?_)) .nil)))) .nil,⟨_,rfl,by simp[Ex.sz,aR];omega⟩,by omega,by omega,rfl,rfl,rfl⟩
 ·rw[hec] at e1
  match j,e1,e2 with
  |0,e1,e2=>cases e1;cases e2;exact .p _
  |1,e1,e2=>cases e1;cases e2;exact .p _
  |2,e1,e2=>cases e1;cases e2;exact .p _
  |3,e1,e2=>cases e1;cases e2;exact .p _
  |j+4,e1,e2=>simp at e1
 ·rw[hn] at e1
  match j,e1,e2 with
  |0,e1,e2=>cases e1;cases e2;exact .p _
  |1,e1,e2=>cases e1;cases e2;exact .p _
  |2,e1,e2=>cases e1;cases e2;exact .p _
  |3,e1,e2=>cases e1;cases e2;exact View.nils 4
  |j+4,e1,e2=>simp at e1
def Hw(p:Nat)(e:Ex)(vs:List (List UInt8))(next left:Int)(v:AV)(q:Nat)(vs':List (List UInt8))(next' left':Int):Prop:=
 ∃s:List UInt8,s.length≤8∧v= .agg ((Sm.mk 1 s [e] [] []).cs.map .p)∧p≤q∧q≤p+2∧vs'=vs++[s]∧next'=next+1∧left'=left
theorem EL{b:List Int}(hb:Byt b)(hl:b.length≤2000){p:Nat}(hp:p+2≤1000000000000)(fns:List Fd)(vs:List (List UInt8))(hv:oQ vs){next:Int}(hn: -1≤next)(hn2:next≤1000000000000)(left:Int)(e:Ex):
 AC Tryz.prog G cm [.ptr 1 5 0 0,.agg (e.cs.map .p)] (HG b p fns vs next left) (PG b fns (Hw p e vs next left) []):=by
 refine iD G (AC.go jw ?_)
 have hec:=e.cs_eq
 simp-implicitDefEqProofs[fV,HG,cb,hec]
 refine(cC G (yu G hb hl hp fns vs hv hn hn2 left) _ (by simp[below])).mono ?_
 rintro r h ⟨v,q,vs',n',l',rfl,rfl,⟨s,rfl,hs⟩,h1,h2,rfl,rfl,rfl⟩
 have hsl:az vs'= .lst 1 (vs'.map fun w=>[.str w]):=rfl
 simp-implicitDefEqProofs[aa,cb,hsl]
 have hv1:=hv.1
 have hrow:List.take vs'.length (List.map ((fun x=>List.map AV.p x)∘fun w=>[PV.str w]) vs')++[[AV.p (PV.str s)]]=(vs'++[s]).map fun w=>[AV.p (.str w)]:=by
  rw[List.take_of_length_le (by simp)];simp[Function.comp_def]
 have hlen:vs'.length+1=(vs'++[s]).length:=by simp
 refine⟨by omega,by omega,?_⟩
 rw[hrow,hlen]
 have hsm:(Sm.mk 1 s [e] [] []).cs=[.int .i64 1,.str s,exL [e],smL [],smL []]:=Sm.cs_eq _
 refine⟨_,_,q,_,.agg ((Sm.mk 1 s [e] [] []).cs.map .p),vs'++[s],next+1,l',rfl,rfl,.one (dy rfl) .nil,.agg ?_ .nil,⟨s,hs,rfl,h1,h2,rfl,rfl,rfl⟩⟩
 rw[hsm]
 refine .keep (by simp) (.keep (by simp) (.one ?_ (.one (View.nils 5) (.one (View.nils 5) .nil))))
 exact dk (l:=[e]) (by rw[List.map_singleton,hec];rfl)
theorem EU{b:List Int}(hb:Byt b)(hl:b.length≤2000){p:Nat}(hp:p+2≤1000000000000)(fns:List Fd)(vs:List (List UInt8))(hv:oQ vs){next:Int}(hn: -1≤next)(hn2:next≤1000000000000)(left:Int)(N:Int):
 AC Tryz.prog G cm [.ptr 1 5 0 0,.agg [.p (.int .i64 1),.p (.int .i64 N),.p (.str []),.nils]] (HG b p fns vs next left) (PG b fns (Hw p ⟨1,N,[],[]⟩ vs next left) []):=by
 refine iD G (AC.go jw ?_)
 simp-implicitDefEqProofs[fV,HG,cb]
 refine(cC G (yu G hb hl hp fns vs hv hn hn2 left) _ (by simp[below])).mono ?_
 rintro r h ⟨v,q,vs',n',l',rfl,rfl,⟨s,rfl,hs⟩,h1,h2,rfl,rfl,rfl⟩
 have hsl:az vs'= .lst 1 (vs'.map fun w=>[.str w]):=rfl
 simp-implicitDefEqProofs[aa,cb,hsl]
 have hv1:=hv.1
 have hrow:List.take vs'.length (List.map ((fun x=>List.map AV.p x)∘fun w=>[PV.str w]) vs')++[[AV.p (PV.str s)]]=(vs'++[s]).map fun w=>[AV.p (.str w)]:=by
  rw[List.take_of_length_le (by simp)];simp[Function.comp_def]
 have hlen:vs'.length+1=(vs'++[s]).length:=by simp
 refine⟨by omega,by omega,?_⟩
 rw[hrow,hlen]
 have hsm:(Sm.mk 1 s [⟨1,N,[],[]⟩] [] []).cs=[.int .i64 1,.str s,exL [⟨1,N,[],[]⟩],smL [],smL []]:=Sm.cs_eq _
 refine⟨_,_,q,_,.agg ((Sm.mk 1 s [⟨1,N,[],[]⟩] [] []).cs.map .p),vs'++[s],next+1,l',rfl,rfl,.one (dy rfl) .nil,.agg ?_ .nil,⟨s,hs,rfl,h1,h2,rfl,rfl,rfl⟩⟩
 rw[hsm]
 refine .keep (by simp) (.keep (by simp) (.one ?_ (.one (View.nils 5) (.one (View.nils 5) .nil))))
 refine View.sl _ _ _ _ [(Ex.mk 1 N [] []).cs] rfl (by simp) (by simp) fun i j e q e' a a1 a2 a3 a4=>?_
 rw[Nat.zero_add] at a3
 match i,a1,a3 with
 |0,a1,a3=>
  cases a1;cases a3
  have hn:(Ex.mk 1 N [] []).cs=[.int .i64 1,.int .i64 N,.str [],.lst 4 []]:=Ex.cs_eq _
  rw[hn] at a2
  match j,a2,a4 with
  |0,e1,e2=>cases e1;cases e2;exact .p _
  |1,e1,e2=>cases e1;cases e2;exact .p _
  |2,e1,e2=>cases e1;cases e2;exact .p _
  |3,e1,e2=>cases e1;cases e2;exact View.nils 4
  |j+4,e1,e2=>simp at e1
 |i+1,a1,a3=>simp at a1
end Go.Proofs.YtnjbhgpbgmpkcaaGreatDoor
namespace Go.Proofs.YtnjbhgpbgmpkcaaGreatDoor
open Go Go.Aw
set_option maxRecDepth 100000
set_option maxHeartbeats 4000000
def Pd(d:Nat):Nat:=5000*20^d
structure Bd (n:Nat) (p:Nat) (vs:List (List UInt8)) (next left:Int):Prop where
 p:p+n≤100000000000
 v:vs.length+n/50≤900000
 w:∀s∈vs,s.length≤8
 n0: -1≤next
 n1:next+n≤100000000000
 l0: -100000000000≤left-n
 l1:left≤100000000000
theorem Bd.shrt{n p:Nat}{vs:List (List UInt8)}{next left:Int}(h:Bd n p vs next left):oQ vs:=⟨by have:=h.v;omega,h.w⟩
def Mv(n p q:Nat)(next next' left left':Int):Prop:=p≤q∧q≤p+n∧next≤next'∧next'≤next+n∧left-n≤left'∧left'≤left
def Ez(b:List Int)(fns:List Fd)(vs:List (List UInt8))(p n:Nat)(next left:Int)(rest:List AO)(x:ARes)(h:List AO):Prop:=
 ∃(out:List Sm) (q:Nat) (next' left':Int),x= .ret (.sl (3+rest.length) 5 0 out.length)∧h=rdO b q:: .row 5 [cb fns vs next' left']::bH 3 (aV fns)::rest++[.row 5 (smR out)]∧aq out≤n∧out.length≤100∧Mv n p q next next' left left'
def Ag(G:aC)(b:List Int)(fns:List Fd)(d:Nat):Prop:=∀{p:Nat} {vs:List (List UInt8)} {next left:Int},Bd (Pd d) p vs next left→AC Tryz.prog G aJ [.ptr 1 5 0 0,.p (.int .i64 d)] (HG b p fns vs next left) (Ez b fns vs p (Pd d) next left [])
variable (G:aC)
theorem ov{b:List Int}{fns:List Fd}{d p:Nat}{vs:List (List UInt8)}{next left:Int}(H:AC Tryz.prog G aJ [.ptr 1 5 0 0,.p (.int .i64 d)] (HG b p fns vs next left) (Ez b fns vs p (Pd d) next left []))(rest:List AO):
 AC Tryz.prog G aJ [.ptr 1 5 0 0,.p (.int .i64 d)] (rdO b p:: .row 5 [cb fns vs next left]::bH 3 (aV fns)::rest) (Ez b fns vs p (Pd d) next left rest):=by
 have H2:AC Tryz.prog G aJ [.ptr 1 5 0 0,.p (.int .i64 d)] (HG b p fns vs next left) fun x h'=>∃h1 es,h'=h1++[.row 5 es]∧h1.length=(HG b p fns vs next left).length∧x= .ret (.sl (HG b p fns vs next left).length 5 0 es.length)∧(∀e∈es,ah 0 e)∧
  (∃(out:List Sm) (q:Nat) (next' left':Int),es=smR out∧h1=HG b q fns vs next' left'∧aq out≤Pd d∧out.length≤100∧Mv (Pd d) p q next next' left left'):=by
  refine H.mono ?_
  rintro x h ⟨out,q,n',l',rfl,rfl,h1,h2,h3⟩
  exact⟨HG b q fns vs n' l',smR out,rfl,rfl,by simp[HG,eA],dt out,out,q,n',l',rfl,rfl,h1,h2,h3⟩
 refine(AC.pre1 (R:=fun h1 es=>∃(out:List Sm) (q:Nat) (next' left':Int),es=smR out∧h1=HG b q fns vs next' left'∧aq out≤Pd d∧out.length≤100∧Mv (Pd d) p q next next' left left') H2 rest (by simp[below,HG]) (BD _ _ _ _ _ _) ?_).mono ?_
 ·rintro h1 es ⟨out,q,n',l',rfl,rfl,_⟩
  exact BD _ _ _ _ _ _
 ·rintro x h ⟨h1,es,rfl,_,rfl,_,out,q,n',l',rfl,rfl,r⟩
  exact⟨out,q,n',l',by simp[HG,eA],rfl,r⟩
def K_spec_l3Gen_loop:AK:= .seq (.reg [oJ 4 (.mov (.c .nils))]) (.seq (.reg [oM 9 0,oM 10 0,oN 11 10,oF 12 0 11,oL 13 12,oJ 14 (.bsl 1 [(.p (.int .i64 0))] 5 [(0,1,(.c (.p (.int .i64 2)))),(1,1,(.c (.p (.int .i64 3)))),(2,1,(.c (.p (.int .i64 1)))),(3,1,(.c (.p (.int .i64 0)))),(4,1,(.c (.p (.int .i64 5))))]),oJ 15 (.call aj [(.t 13),(.t 14)]),oJ 16 (.bld [(.p (.int .i64 0)),(.p (.int .i64 0)),(.p (.str [])),.nils] [(0,1,(.c (.p (.int .i64 1)))),(1,1,(.t 15))]),oJ 17 (.call cm [(.t 9),(.t 16)]),oJ 5 (.alloc [(.p (.int .i64 0)),(.p (.str [])),.nils,.nils,.nils]),⟨none,none,.st 5 (.t 5) (.t 17)⟩]) (.seq (.reg [oF 18 1 5,oL 19 18,oJ 20 (.bld [(.p (.int .i64 0)),(.p (.int .i64 0)),(.p (.str [])),.nils] [(0,1,(.c (.p (.int .i64 2)))),(2,1,(.t 19))]),oJ 6 (.alloc [(.p (.int .i64 0)),(.p (.int .i64 0)),(.p (.str [])),.nils]),⟨none,none,.st 4 (.t 6) (.t 20)⟩]) (.seq (.reg [oM 21 0,oM 22 1,oJ 23 (.bin .sub (.t 22) (.c (.p (.int .i64 1)))),oJ 24 (.call aJ [(.t 21),(.t 23)]),oM 7 24]) (.seq (.reg [oF 25 1 5,oL 26 25,oJ 27 (.ld (some 4) (.t 6)),oJ 28 (.bld [(.p (.int .i64 0)),(.p (.int .i64 0)),(.p (.str [])),.nils] [(0,1,(.c (.p (.int .i64 1)))),(1,1,(.c (.p (.int .i64 1))))]),oJ 29 (.bsl 4 [(.p (.int .i64 0)),(.p (.int .i64 0)),(.p (.str [])),.nils] 2 [(0,4,(.t 27)),(4,4,(.t 28))]),oJ 30 (.bld [(.p (.int .i64 0)),(.p (.int .i64 0)),(.p (.str [])),.nils] [(0,1,(.c (.p (.int .i64 4)))),(3,1,(.t 29))]),oJ 31 (.bsl 4 [(.p (.int .i64 0)),(.p (.int .i64 0)),(.p (.str [])),.nils] 1 [(0,4,(.t 30))]),oJ 32 (.bld [(.p (.int .i64 0)),(.p (.str [])),.nils,.nils,.nils] [(0,1,(.c (.p (.int .i64 2)))),(1,1,(.t 26)),(2,1,(.t 31))]),oJ 8 (.alloc [(.p (.int .i64 0)),(.p (.str [])),.nils,.nils,.nils]),⟨none,none,.st 5 (.t 8) (.t 32)⟩]) (.cut (.reg [oM 33 0,oM 34 0,oN 35 34,oF 36 4 35,oL 37 36,oJ 38 (.bin .sub (.t 37) (.c (.p (.int .i64 2)))),oN 39 33,oF 40 4 39,oS 40 38]) (.seq (.reg [oM 44 7,oJ 41 (.ld (some 5) (.t 5)),oJ 42 (.ld (some 4) (.t 6)),oJ 43 (.bslP 4 [(.p (.int .i64 0)),(.p (.int .i64 0)),(.p (.str [])),.nils] 1 [(0,4,(.t 42))]),oJ 45 (.ld (some 5) (.t 8)),oJ 46 (.bslP 5 [(.p (.int .i64 0)),(.p (.str [])),.nils,.nils,.nils] 1 [(0,5,(.t 45))]),oJ 47 (.app 5 96 (.t 44) (.t 46)),⟨none,none,.chk (some 5) 5 41⟩,⟨none,none,.chk (some 4) 6 42⟩,oJ 48 (.bld [(.p (.int .i64 0)),(.p (.str [])),.nils,.nils,.nils] [(0,1,(.c (.p (.int .i64 6)))),(2,1,(.t 43)),(3,1,(.t 47))]),oJ 49 (.bsl 5 [(.p (.int .i64 0)),(.p (.str [])),.nils,.nils,.nils] 2 [(0,5,(.t 41)),(5,5,(.t 48))]),oM 4 49]) (.ret)))))))
theorem nX:K_spec_l3Gen_loop.whole=F_spec_l3Gen_loop.ak:=rfl
def Jx(n p:Nat)(vs:List (List UInt8))(next left:Int)(v:AV)(q:Nat)(vs':List (List UInt8))(next' left':Int):Prop:=
 ∃(out:List Sm) (s:List UInt8),v= .p (smL out)∧aq out≤n∧1≤out.length∧out.length≤2∧s.length≤8∧vs'=vs++[s]∧Mv n p q next next' left left'
theorem Bb{b:List Int}(hb:Byt b)(hl:b.length≤2000)(fns:List Fd){d:Nat}(hd:d≤10)(hblk:Ag G b fns d){p:Nat}{vs:List (List UInt8)}{next left:Int}(hB:Bd (Pd d+60) p vs next left):
 AC Tryz.prog G fc [.ptr 1 5 0 0,.p (.int .i64 ((d:Int)+1))] (HG b p fns vs next left) (PG b fns (Jx (Pd d+60) p vs next left) []):=by
 have hp:=hB.p
 have hv:=hB.v
 have hn0:=hB.n0
 have hn1:=hB.n1
 have hl0:=hB.l0
 have hl1:=hB.l1
 refine iD G (AC.goK ng nX ?_)
 simp-implicitDefEqProofs[K_spec_l3Gen_loop,F_spec_l3Gen_loop,HG,cb]
 refine(iE G hb hl (p:=p) (by omega) [2,3,1,0,5] (k:=3) (by simp) (by simp) (by omega) rfl rfl).mono ?_
 rintro r h ⟨N,hN,rfl,rfl⟩
 have hN5:0≤N∧N≤5:=by simp at hN;omega
 simp-implicitDefEqProofs[aa]
 refine(cC G (EU G hb hl (p:=p+1) (by omega) fns vs hB.shrt hn0 (by omega) left N) _ (by simp[below])).mono ?_
 rintro r h ⟨v,q,vs',n',l',rfl,rfl,s,hs,rfl,h1,h2,rfl,rfl,rfl⟩
 have hsm:(Sm.mk 1 s [⟨1,N,[],[]⟩] [] []).cs=[.int .i64 1,.str s,exL [⟨1,N,[],[]⟩],smL [],smL []]:=Sm.cs_eq _
 have hwd:IntKind.i64.wrap ((d:Int)+1-1)=d:=by rw[af (by omega) (by omega)];omega
 have hw2:IntKind.i64.wrap (d:Int)=d:=af (by omega) (by omega)
 simp-implicitDefEqProofs[aa,cb,hsm,hw2]
 have hB2:Bd (Pd d) q (vs++[s]) (next+1) l':=⟨by omega,by simp;omega,fun w hw=>by
  rcases List.mem_append.1 hw with h|h
  ·exact hB.w w h
  ·rw[List.mem_singleton.1 h];exact hs,by omega,by omega,by omega,by omega⟩
 refine(ov G (hblk hB2) _).mono ?_
 rintro r h ⟨out,q2,n2,l2,rfl,rfl,z1,z2,m1,m2,m3,m4,m5,m6⟩
 have hwl:IntKind.i64.wrap (l2-2)=l2-2:=af (by omega) (by omega)
 simp-implicitDefEqProofs[aa,cb,hwl]
 have hHb:∀(l:Int),okO 7 (.row 5 [[.ptr 0 2 0 0,slE 2 3 (aV fns),.p (az (vs++[s])),.p (.int .i64 n2),.p (.int .i64 l)]]):=fun l e he=>by
  rw[List.mem_singleton.1 he];exact⟨by simp[below],lw (by omega),by simp,by simp,by simp,trivial⟩
 refine ji (am 50 [(0,.ptr 1 5 0 0),(5,.ptr 3 5 0 0),(6,.ptr 4 4 0 0),(7,.sl 5 5 0 out.length),(8,.ptr 6 5 0 0)])
  [rdO b q2,.row 5 [[.ptr 0 2 0 0,slE 2 3 (aV fns),.p (az (vs++[s])),.p (.int .i64 n2),.p (.int .i64 (l2-2))]],bH 3 (aV fns),
   .row 5 [[.p (.int .i64 1),.p (.str s),.p (exL [Ex.mk 1 N [] []]),.p (smL []),.p (smL [])]],.row 4 [[.p (.int .i64 2),.p (.int .i64 0),.p (.str s),.p (exL [])]],.row 5 (smR out),
   .row 5 [[.p (.int .i64 2),.p (.str s),.p (exL [Ex.mk 4 0 [] [⟨2,0,s,[]⟩,⟨1,1,[],[]⟩]]),.p (smL []),.p (smL [])]]] ?_ ?_
 ·simp-implicitDefEqProofs[hwl]
  refine Wk.trans (cQ (l1:=[(0,.ptr 1 5 0 0),(5,.ptr 3 5 0 0),(6,.ptr 4 4 0 0),(7,.sl 5 5 0 out.length),(8,.ptr 6 5 0 0)])
   (h1:=[rdO b q2,.row 5 [[.ptr 0 2 0 0,slE 2 3 (aV fns),.p (az (vs++[s])),.p (.int .i64 n2),.p (.int .i64 (l2-2))]],bH 3 (aV fns),
   .row 5 [[.p (.int .i64 1),.p (.str s),.p (exL [Ex.mk 1 N [] []]),.p (smL []),.p (smL [])]],.row 4 [[.p (.int .i64 2),.p (.int .i64 0),.p (.str s),.nils]],.row 5 (smR out),
   .row 5 [[.p (.int .i64 2),.p (.str s),.sl 8 4 0 1,.nils,.nils]],.row 4 [[.p (.int .i64 2),.p (.int .i64 0),.p (.str s),.nils],[.p (.int .i64 1),.p (.int .i64 1),.p (.str []),.nils]],.row 4 [[.p (.int .i64 4),.p (.int .i64 0),.p (.str []),.sl 7 4 0 2]]])
   [0,1,2,4,5,6,9,7,8] (by simp) (by decide) (by decide) (bs rfl (bc _ _ _) (cI (by simp[below]) (by simp[ren,aZ]) (bs rfl (iR _ _) (bf rfl (by simp[below]) (bf rfl (by simp[below]) (bf rfl (dt out) (cI (by simp[below]) (by simp[ren,aZ]) (bf rfl (by simp[below]) (cI (by simp[below]) (by simp[ren,aZ]) bq))))))))) (by simp[below,ren]))
   (jO 7 (by omega) (by simp) rfl (.same (bc _ _ _) (.same (hHb _) (.same (iR _ _) (.same (by simp[okO,below]) (.one (.keep (by simp) (.keep (by simp) (.keep (by simp) (.one (View.nils 4) .nil)))) (.same (ce (dt out)) (.one (.keep (by simp) (.keep (by simp) (.one ?_ (.one (View.nils 5) (.one (View.nils 5) .nil))))) (.nil _)))))))) ?_)
  ·exact bn (p0:=(Ex.mk 4 0 [] [⟨2,0,s,[]⟩,⟨1,1,[],[]⟩]).cs) rfl (Ex.cs_len _) (fz (ow (p0:=(Ex.mk 2 0 s []).cs) (p1:=(Ex.mk 1 1 [] []).cs) rfl (Ex.cs_len _) (Ex.cs_len _) (fz (View.nils 4)) (fz (View.nils 4))))
  ·exact⟨.keep (by simp[below]) .nil,.keep (by simp[below]) .nil,.keep (by simp[below]) .nil,.keep (by simp[below]) .nil,.keep (by simp[below]) .nil,trivial⟩
 ·simp-implicitDefEqProofs[]
  have hless:(Sm.mk 2 s [Ex.mk 4 0 [] [⟨2,0,s,[]⟩,⟨1,1,[],[]⟩]] [] []).cs=[.int .i64 2,.str s,exL [Ex.mk 4 0 [] [⟨2,0,s,[]⟩,⟨1,1,[],[]⟩]],smL [],smL []]:=Sm.cs_eq _
  have hrow:List.take out.length (smR out)++[[AV.p (.int .i64 2),.p (.str s),.p (exL [Ex.mk 4 0 [] [⟨2,0,s,[]⟩,⟨1,1,[],[]⟩]]),.p (smL []),.p (smL [])]]=smR (out++[Sm.mk 2 s [Ex.mk 4 0 [] [⟨2,0,s,[]⟩,⟨1,1,[],[]⟩]] [] []]):=by
   rw[List.take_of_length_le (by rw[eA];exact Nat.le_refl _),uz];exact congrArg (smR out++ ·) (by rw[smR,List.map_singleton,hless];rfl)
  have hlen:out.length+1=(out++[Sm.mk 2 s [Ex.mk 4 0 [] [⟨2,0,s,[]⟩,⟨1,1,[],[]⟩]] [] []]).length:=by simp
  refine⟨⟨by rw[eA];exact Nat.le_refl _,by omega,by omega⟩,?_⟩
  rw[hrow,hlen]
  refine⟨_,_,q2,_,.p (smL [Sm.mk 1 s [⟨1,N,[],[]⟩] [] [],Sm.mk 6 [] [⟨2,0,s,[]⟩] (out++[Sm.mk 2 s [Ex.mk 4 0 [] [⟨2,0,s,[]⟩,⟨1,1,[],[]⟩]] [] []]) []]),vs++[s],n2,l2-2,rfl,rfl,.keep (by simp) .nil,
   .one (ow (p0:=(Sm.mk 1 s [⟨1,N,[],[]⟩] [] []).cs) (p1:=(Sm.mk 6 [] [⟨2,0,s,[]⟩] (out++[Sm.mk 2 s [Ex.mk 4 0 [] [⟨2,0,s,[]⟩,⟨1,1,[],[]⟩]] [] []]) []).cs) rfl (Sm.cs_len _) (Sm.cs_len _)
    (bM (.p _) (.p _) (.p _)) (bM ?_ (gS rfl) (View.nils 5))) .nil,_,s,rfl,?_,by simp,by simp,hs,rfl,?_⟩
  ·have h2:(Ex.mk 2 0 s []).cs=[.int .i64 2,.int .i64 0,.str s,exL []]:=Ex.cs_eq _
   have he:exL [Ex.mk 2 0 s []]= .lst 4 [[.int .i64 2,.int .i64 0,.str s,exL []]]:=by rw[exL,List.map_singleton,h2]
   rw[he]
   exact .p _
  ·simp[aq,bk,Sm.sz,Ex.sz,aR]
   omega
  ·exact⟨by omega,by omega,by omega,by omega,by omega,by omega⟩
end Go.Proofs.YtnjbhgpbgmpkcaaGreatDoor
namespace Go.Proofs.YtnjbhgpbgmpkcaaGreatDoor
open Go Go.Aw
set_option maxRecDepth 100000
set_option maxHeartbeats 4000000
variable (G:aC)
def Ib(n p:Nat)(vs:List (List UInt8))(next left:Int)(v:AV)(q:Nat)(vs':List (List UInt8))(next' left':Int):Prop:=
 ∃out:List Sm,v= .p (smL out)∧aq out≤n∧1≤out.length∧out.length≤2∧(vs'=vs∨∃s:List UInt8,s.length≤8∧vs'=vs++[s])∧Mv n p q next next' left left'
theorem FN{b:List Int}(hb:Byt b)(hl:b.length≤2000)(fns:List Fd)(hf:qB fns){d:Nat}(hd:d≤10)(hblk:1≤d→Ag G b fns d){p:Nat}{vs:List (List UInt8)}{next left:Int}(hB:Bd (2*Pd d+3000) p vs next left):
 AC Tryz.prog G fh [.ptr 1 5 0 0,.p (.int .i64 ((d:Int)+1))] (HG b p fns vs next left) (PG b fns (Ib (2*Pd d+3000) p vs next left) []):=by
 have hp:=hB.p
 have hv:=hB.v
 have hn0:=hB.n0
 have hn1:=hB.n1
 have hl0:=hB.l0
 have hl1:=hB.l1
 refine iD G (AC.go nw ?_)
 have hwl:IntKind.i64.wrap (left-1)=left-1:=af (by omega) (by omega)
 have hsl:az vs= .lst 1 (vs.map fun w=>[.str w]):=rfl
 simp-implicitDefEqProofs[iO,HG,cb,hwl]
 refine(aU G b hb hl p (by omega) 13 _).mono ?_
 rintro r h ⟨k,rfl,rfl,hk⟩
 have cN:∀(m:Sm) (q:Nat) (rest:List AO) (v:AV) (vc:AV) (vs':List (List UInt8)) (next' left':Int),Fzs (.dead:: .dead:: .dead::rest) 3 [vc] [.p (az vs')]→Fzs (.dead:: .dead:: .dead::rest) 3 [v] [.p (smL [m])]→m.sz≤2*Pd d+3000→(vs'=vs∨∃s:List UInt8,s.length≤8∧vs'=vs++[s])→Mv (2*Pd d+3000) p q next next' left left'→
  DG b fns (Ib (2*Pd d+3000) p vs next left) (.ret v) (rdO b q:: .row 5 [[.ptr 0 2 0 0,slE 2 3 (aV fns),vc,.p (.int .i64 next'),.p (.int .i64 left')]]::bH 3 (aV fns)::rest):=fun m q rest v vc vs' next' left' h1 h2 h3 h4 h5=>
  ⟨_,rest,q,_,_,vs',next',left',rfl,rfl,h1,h2,[m],rfl,by simp[aq];omega,by simp,by simp,h4,h5⟩
 by_cases hc:k<3∧vs≠[]
 ·obtain⟨hc1,hne⟩:=hc
  have hpos:0<vs.length:=List.length_pos_iff.2 hne
  have hc1':(k:Int)<3:=by omega
  have hv1:=hB.v
  simp-implicitDefEqProofs[aa,hsl,hc1,hc1',hpos]
  rw[←hsl]
  refine(yI G hb hl (p:=p+1) (by omega) vs hne (by omega) _).mono ?_
  rintro r h ⟨w,hw,rfl,rfl⟩
  have hw8:=hB.w w hw
  simp-implicitDefEqProofs[aa]
  refine(cC G (jd G hb hl (p:=p+1+1) (by omega) fns hf vs hB.shrt next (left-1) (d:=3) (by omega)) _ (by simp[below])).mono ?_
  rintro r h ⟨v,q,vs',n',l',rfl,rfl,⟨e,rfl,he⟩,h1,h2,rfl,rfl,rfl⟩
  have hec:=e.cs_eq
  simp-implicitDefEqProofs[aa,cb,hec]
  exact cN ⟨2,w,[e],[],[]⟩ q _ _ _ vs' n' (left-1) (.keep (by simp) .nil) (.one (bn (p0:=(Sm.mk 2 w [e] [] []).cs) rfl (Sm.cs_len _) (bM (dk (l:=[e]) (by rw[List.map_singleton,hec];rfl)) (View.nils 5) (View.nils 5))) .nil) (by simp[Sm.sz,aR,aq];omega) (.inl rfl) ⟨by omega,by omega,by omega,by omega,by omega,by omega⟩
 have hcc:(k<3∧0<vs.length)=False:=by
  simp only[eq_iff_iff,iff_false]
  exact fun⟨a,c⟩=>hc ⟨a,List.length_pos_iff.1 c⟩
 have hvz:(k:Int)<3→vs.length=0:=fun h=>by
  by_cases e:vs=[]
  ·rw[e];rfl
  ·exact absurd ⟨by omega,e⟩ hc
 have hvx:=hB.shrt
 have hvv:=hB.v
 by_cases k5:(k:Int)<5
 ·by_cases k3:(k:Int)<3
  ·have hv0:=hvz k3
   simp-implicitDefEqProofs[aa,hsl,k3,hv0,k5]
   rw[←hsl]
   refine(cC G (jd G hb hl (p:=p+1) (by omega) fns hf vs hvx next (left-1) (d:=3) (by omega)) _ (by simp[below])).mono ?_
   rintro r h ⟨v,q,vs',n',l',rfl,rfl,⟨e,rfl,he⟩,h1,h2,rfl,rfl,rfl⟩
   have hec:=e.cs_eq
   have hL:=EL G hb hl (p:=q) (by omega) fns vs' hvx hn0 (by omega) (left-1) e
   rw[hec] at hL
   simp-implicitDefEqProofs[aa,cb,hec]
   refine(cC G hL _ (by simp[below])).mono ?_
   rintro r h ⟨v,q2,vs2,n2,l2,rfl,rfl,s,hs,rfl,h3,h4,rfl,rfl,rfl⟩
   have hsm:(Sm.mk 1 s [e] [] []).cs=[.int .i64 1,.str s,exL [e],smL [],smL []]:=Sm.cs_eq _
   simp-implicitDefEqProofs[aa,cb,hsm]
   exact cN ⟨1,s,[e],[],[]⟩ q2 _ _ _ (vs'++[s]) (n'+1) (left-1) (.keep (by simp) .nil) (.one (bn (p0:=(Sm.mk 1 s [e] [] []).cs) rfl (Sm.cs_len _) (bM (.p _) (.p _) (.p _))) .nil) (by simp[Sm.sz,aR,aq];omega) (.inr ⟨s,hs,rfl⟩) ⟨by omega,by omega,by omega,by omega,by omega,by omega⟩
  ·simp-implicitDefEqProofs[aa,hsl,k3,k5]
   rw[←hsl]
   refine(cC G (jd G hb hl (p:=p+1) (by omega) fns hf vs hvx next (left-1) (d:=3) (by omega)) _ (by simp[below])).mono ?_
   rintro r h ⟨v,q,vs',n',l',rfl,rfl,⟨e,rfl,he⟩,h1,h2,rfl,rfl,rfl⟩
   have hec:=e.cs_eq
   have hL:=EL G hb hl (p:=q) (by omega) fns vs' hvx hn0 (by omega) (left-1) e
   rw[hec] at hL
   simp-implicitDefEqProofs[aa,cb,hec]
   refine(cC G hL _ (by simp[below])).mono ?_
   rintro r h ⟨v,q2,vs2,n2,l2,rfl,rfl,s,hs,rfl,h3,h4,rfl,rfl,rfl⟩
   have hsm:(Sm.mk 1 s [e] [] []).cs=[.int .i64 1,.str s,exL [e],smL [],smL []]:=Sm.cs_eq _
   simp-implicitDefEqProofs[aa,cb,hsm]
   exact cN ⟨1,s,[e],[],[]⟩ q2 _ _ _ (vs'++[s]) (n'+1) (left-1) (.keep (by simp) .nil) (.one (bn (p0:=(Sm.mk 1 s [e] [] []).cs) rfl (Sm.cs_len _) (bM (.p _) (.p _) (.p _))) .nil) (by simp[Sm.sz,aR,aq];omega) (.inr ⟨s,hs,rfl⟩) ⟨by omega,by omega,by omega,by omega,by omega,by omega⟩
 have k3:¬(k:Int)<3:=by omega
 by_cases k7:(k:Int)<7∨d=0
 ·by_cases k7':(k:Int)<7
  ·simp-implicitDefEqProofs[aa,k3,k5,k7']
   refine(cC G (jd G hb hl (p:=p+1) (by omega) fns hf vs hvx next (left-1) (d:=3) (by omega)) _ (by simp[below])).mono ?_
   rintro r h ⟨v,q,vs',n',l',rfl,rfl,⟨e,rfl,he⟩,h1,h2,rfl,rfl,rfl⟩
   have hec:=e.cs_eq
   simp-implicitDefEqProofs[aa,cb,hec]
   exact cN ⟨3,[],[e],[],[]⟩ q _ _ _ vs' n' (left-1) (.keep (by simp) .nil) (.one (bn (p0:=(Sm.mk 3 [] [e] [] []).cs) rfl (Sm.cs_len _) (bM (dk (l:=[e]) (by rw[List.map_singleton,hec];rfl)) (View.nils 5) (View.nils 5))) .nil) (by simp[Sm.sz,aR,aq];omega) (.inl rfl) ⟨by omega,by omega,by omega,by omega,by omega,by omega⟩
  ·have hdl:(d:Int)+1<2:=by omega
   simp-implicitDefEqProofs[aa,k3,k5,k7',hdl]
   refine(cC G (jd G hb hl (p:=p+1) (by omega) fns hf vs hvx next (left-1) (d:=3) (by omega)) _ (by simp[below])).mono ?_
   rintro r h ⟨v,q,vs',n',l',rfl,rfl,⟨e,rfl,he⟩,h1,h2,rfl,rfl,rfl⟩
   have hec:=e.cs_eq
   simp-implicitDefEqProofs[aa,cb,hec]
   exact cN ⟨3,[],[e],[],[]⟩ q _ _ _ vs' n' (left-1) (.keep (by simp) .nil) (.one (bn (p0:=(Sm.mk 3 [] [e] [] []).cs) rfl (Sm.cs_len _) (bM (dk (l:=[e]) (by rw[List.map_singleton,hec];rfl)) (View.nils 5) (View.nils 5))) .nil) (by simp[Sm.sz,aR,aq];omega) (.inl rfl) ⟨by omega,by omega,by omega,by omega,by omega,by omega⟩
 have k7':¬(k:Int)<7:=fun h=>k7 (.inl h)
 have hd1:1≤d:=by omega
 have hd2:¬((d:Int)+1)<2:=by omega
 have hblk2:Ag G b fns d:= @hblk hd1
 by_cases e7:(k:Int)=7
 ·simp-implicitDefEqProofs[aa,k3,k5,k7',hd2,e7]
  refine(cC G (CV G hb hl (p:=p+1) (by omega) fns hf vs hvx next (left-1)) _ (by simp[below])).mono ?_
  rintro r h ⟨v,q,vs',n',l',rfl,rfl,⟨e,rfl,he⟩,h1,h2,rfl,rfl,rfl⟩
  have hec:=e.cs_eq
  simp-implicitDefEqProofs[aa,cb,hec]
  refine(cC G (jd G hb hl (p:=q) (by omega) fns hf vs' hvx n' (left-1) (d:=2) (by omega)) _ (by simp[below])).mono ?_
  rintro r h ⟨v,q2,vs2,n2,l2,rfl,rfl,⟨e2,rfl,he2⟩,h3,h4,rfl,rfl,rfl⟩
  have hec2:=e2.cs_eq
  simp-implicitDefEqProofs[aa,cb,hec2]
  exact cN ⟨4,[],[e,e2],[],[]⟩ q2 _ _ _ vs2 n2 (left-1) (.keep (by simp) .nil) (.one (bn (p0:=(Sm.mk 4 [] [e,e2] [] []).cs) rfl (Sm.cs_len _) (bM (dk (l:=[e,e2]) (by rw[List.map_cons,List.map_singleton,hec,hec2];rfl)) (View.nils 5) (View.nils 5))) .nil) (by simp[Sm.sz,aR,aq];omega) (.inl rfl) ⟨by omega,by omega,by omega,by omega,by omega,by omega⟩
 by_cases e8:(k:Int)=8
 ·simp-implicitDefEqProofs[aa,k3,k5,k7',hd2,e7,e8]
  refine(cC G (CV G hb hl (p:=p+1) (by omega) fns hf vs hvx next (left-1)) _ (by simp[below])).mono ?_
  rintro r h ⟨v,q,vs',n',l',rfl,rfl,⟨e,rfl,he⟩,h1,h2,rfl,rfl,rfl⟩
  have hec:=e.cs_eq
  simp-implicitDefEqProofs[aa,cb,hec]
  exact cN ⟨3,[],[⟨12,0,[],[e]⟩],[],[]⟩ q _ _ _ vs' n' (left-1) (.keep (by simp) .nil) (.one (bn (p0:=(Sm.mk 3 [] [⟨12,0,[],[e]⟩] [] []).cs) rfl (Sm.cs_len _) (bM (bn (p0:=(Ex.mk 12 0 [] [e]).cs) rfl (Ex.cs_len _) (fz (dk (l:=[e]) (by rw[List.map_singleton,hec];rfl)))) (View.nils 5) (View.nils 5))) .nil) (by simp[Sm.sz,Ex.sz,aR,aq];omega) (.inl rfl) ⟨by omega,by omega,by omega,by omega,by omega,by omega⟩
 have hwd:IntKind.i64.wrap ((d:Int)+1-1)=d:=by rw[af (by omega) (by omega)];omega
 have hwd2:IntKind.i64.wrap (d:Int)=d:=af (by omega) (by omega)
 by_cases k11:(k:Int)<11
 ·simp-implicitDefEqProofs[aa,k3,k5,k7',hd2,e7,e8,k11]
  refine(cC G (jd G hb hl (p:=p+1) (by omega) fns hf vs hvx next (left-1) (d:=3) (by omega)) _ (by simp[below])).mono ?_
  rintro r h ⟨v,q,vs',n',l',rfl,rfl,⟨e,rfl,he⟩,h1,h2,rfl,rfl,rfl⟩
  have hec:=e.cs_eq
  simp-implicitDefEqProofs[aa,cb,hec,hwd2]
  have hB2:Bd (Pd d) q vs' n' (left-1):=⟨by omega,by omega,hB.w,by omega,by omega,by omega,by omega⟩
  refine(ov G (hblk2 hB2) _).mono ?_
  rintro r h ⟨out,q2,n2,l2,rfl,rfl,z1,z2,m1,m2,m3,m4,m5,m6⟩
  simp-implicitDefEqProofs[aa,cb]
  refine(aU G b hb hl q2 (by omega) 2 _).mono ?_
  rintro r h ⟨k2,rfl,rfl,_⟩
  simp-implicitDefEqProofs[aa]
  refine aW (fun hq=>?_) (fun hq=>?_)
  ·simp-implicitDefEqProofs[hwd2]
   have hB3:Bd (Pd d) (q2+1) vs' n2 l2:=⟨by omega,by omega,hB.w,by omega,by omega,by omega,by omega⟩
   refine(ov G (hblk2 hB3) _).mono ?_
   rintro r h ⟨out2,q3,n3,l3,rfl,rfl,y1,y2,w1,w2,w3,w4,w5,w6⟩
   simp-implicitDefEqProofs[aa,cb]
   exact cN ⟨5,[],[e],out,out2⟩ q3 _ _ _ vs' n3 l3 (.keep (by simp) .nil) (.one (bn (p0:=(Sm.mk 5 [] [e] out out2).cs) rfl (Sm.cs_len _) (bM (dk (l:=[e]) (by rw[List.map_singleton,hec];rfl)) (gS rfl) (gS rfl))) .nil) (by simp[Sm.sz,aR];omega) (.inl rfl) ⟨by omega,by omega,by omega,by omega,by omega,by omega⟩
  ·simp-implicitDefEqProofs[]
   exact cN ⟨5,[],[e],out,[]⟩ (q2+1) _ _ _ vs' n2 l2 (.keep (by simp) .nil) (.one (bn (p0:=(Sm.mk 5 [] [e] out []).cs) rfl (Sm.cs_len _) (bM (dk (l:=[e]) (by rw[List.map_singleton,hec];rfl)) (gS rfl) (View.nils 5))) .nil) (by simp[Sm.sz,aR,aq];omega) (.inl rfl) ⟨by omega,by omega,by omega,by omega,by omega,by omega⟩
 by_cases e11:(k:Int)=11
 ·simp-implicitDefEqProofs[aa,k3,k5,k7',hd2,e7,e8,k11,e11]
  refine(aU G b hb hl (p+1) (by omega) 3 _).mono ?_
  rintro r h ⟨k2,rfl,rfl,_⟩
  simp-implicitDefEqProofs[aa]
  refine aW (fun hq=>?_) (fun hq=>?_)
  ·simp-implicitDefEqProofs[]
   refine(cC G (jd G hb hl (p:=p+1+1) (by omega) fns hf vs hvx next (left-1) (d:=2) (by omega)) _ (by simp[below])).mono ?_
   rintro r h ⟨v,q,vs',n',l',rfl,rfl,⟨e,rfl,he⟩,h1,h2,rfl,rfl,rfl⟩
   have hec:=e.cs_eq
   simp-implicitDefEqProofs[aa,cb,hec]
   exact cN ⟨7,[],[e],[],[]⟩ q _ _ _ vs' n' (left-1) (.keep (by simp) .nil) (.one (bn (p0:=(Sm.mk 7 [] [e] [] []).cs) rfl (Sm.cs_len _) (bM (dk (l:=[e]) (by rw[List.map_singleton,hec];rfl)) (View.nils 5) (View.nils 5))) .nil) (by simp[Sm.sz,aR,aq];omega) (.inl rfl) ⟨by omega,by omega,by omega,by omega,by omega,by omega⟩
  ·simp-implicitDefEqProofs[]
   have hBL:Bd (Pd d+60) (p+1+1) vs next (left-1):=⟨by omega,by omega,hB.w,hn0,by omega,by omega,by omega⟩
   refine(cC G (Bb G hb hl fns hd hblk2 hBL) _ (by simp[below])).mono ?_
   rintro r h ⟨v,q,vs2,n2,l2,rfl,rfl,out,s,rfl,z1,z2,z3,hs,rfl,m1,m2,m3,m4,m5,m6⟩
   simp-implicitDefEqProofs[aa,cb]
   exact⟨_,_,q,_,_,vs++[s],n2,l2,rfl,rfl,.keep (by simp) .nil,.keep (by simp) .nil,out,rfl,by omega,z2,z3,.inr ⟨s,hs,rfl⟩,by omega,by omega,by omega,by omega,by omega,by omega⟩
 ·simp-implicitDefEqProofs[aa,k3,k5,k7',hd2,e7,e8,k11,e11]
  have hBL:Bd (Pd d+60) (p+1) vs next (left-1):=⟨by omega,by omega,hB.w,hn0,by omega,by omega,by omega⟩
  refine(cC G (Bb G hb hl fns hd hblk2 hBL) _ (by simp[below])).mono ?_
  rintro r h ⟨v,q,vs2,n2,l2,rfl,rfl,out,s,rfl,z1,z2,z3,hs,rfl,m1,m2,m3,m4,m5,m6⟩
  simp-implicitDefEqProofs[aa,cb]
  exact⟨_,_,q,_,_,vs++[s],n2,l2,rfl,rfl,.keep (by simp) .nil,.keep (by simp) .nil,out,rfl,by omega,z2,z3,.inr ⟨s,hs,rfl⟩,by omega,by omega,by omega,by omega,by omega,by omega⟩
end Go.Proofs.YtnjbhgpbgmpkcaaGreatDoor
namespace Go.Proofs.YtnjbhgpbgmpkcaaGreatDoor
open Go Go.Aw
set_option maxRecDepth 100000
set_option maxHeartbeats 4000000
variable (G:aC)
structure BkS where (j m:Nat) (out:List Sm) (q:Nat) (vs:List (List UInt8)) (next left:Int)
theorem GZ(d:Nat):5000≤Pd d:=by
 have:1≤20^d:=Nat.one_le_pow _ _ (by omega)
 simp only[Pd];omega
theorem Ea(d:Nat):Pd (d+1)=20*Pd d:=by simp only[Pd,Nat.pow_succ];omega
theorem tL{b:List Int}(hb:Byt b)(hl:b.length≤2000)(fns:List Fd)(hf:qB fns){d:Nat}(hd:d≤10)(hblk:1≤d→Ag G b fns d):Ag G b fns (d+1):=by
 intro p vs next left hB
 have hp:=hB.p
 have hv:=hB.v
 have hn0:=hB.n0
 have hn1:=hB.n1
 have hl0:=hB.l0
 have hl1:=hB.l1
 have hP:=GZ d
 have hPs:=Ea d
 generalize hN:Pd d=N at*
 rw[hPs] at hp hv hn1 hl0⊢
 have hGok:∀(vs:List (List UInt8)) (nx lf:Int),okO 4 (.row 5 [cb fns vs nx lf]):=fun vs nx lf e he=>by
  rw[List.mem_singleton.1 he];exact⟨by simp[below],lw (by omega),by simp,by simp,by simp,trivial⟩
 refine AC.go mS ?_
 simp-implicitDefEqProofs[ir,HG,cb]
 refine(iE G hb hl (p:=p) (by omega) [2,3,1,4] (k:=4) (by simp) (by simp) (by omega) rfl rfl).mono ?_
 rintro r h ⟨I,hI,rfl,rfl⟩
 obtain⟨J,rfl,hJ⟩:∃J:Nat,I=J∧J≤4:=⟨I.toNat,by simp at hI;omega,by simp at hI;omega⟩
 simp-implicitDefEqProofs[aa]
 refine aO (fun s:BkS=>am 40 [(0,.ptr 1 5 0 0),(1,.p (.int .i64 ((d:Int)+1))),(5,.p (az vs)),(6,.sl 3 5 0 s.out.length),(7,.p (.int .i64 s.j))])
  (fun s=>[rdO b s.q,.row 5 [cb fns s.vs s.next s.left],bH 3 (aV fns),.row 5 (smR s.out)])
  (fun s=>s.j+s.m≤4∧aq s.out≤s.m*(2*N+3000)∧s.out.length≤2*s.m∧p≤s.q∧s.q≤p+1+s.m*(2*N+3000)∧s.vs.length≤vs.length+s.m∧(∀w∈s.vs,w.length≤8)∧next≤s.next∧s.next≤next+((s.m*(2*N+3000):Nat):Int)∧left-((s.m*(2*N+3000):Nat):Int)≤s.left∧s.left≤left)
  (fun s=>s.j) ⟨J,0,[],p+1,vs,next,left⟩ ⟨by simp only;omega,by simp[aq],by simp,by simp,by simp,by simp,hB.w,by simp,by simp,by simp,by simp⟩ ?_ ?_
 ·refine eY (m:=4) (by omega) (cY (h1:=[rdO b (p+1),.row 5 [cb fns vs next left],bH 3 (aV fns),.row 5 (smR [])]) rfl rfl (ag (bc _ _ _) (ag (hGok _ _ _) (ag (iR _ _) (ag (ce (dt [])) cH))))) (by simp[below])
 rintro⟨j,m,out,q,vs',nx,lf⟩ ⟨i1,i2,i3,i4,i5,i6,i7,i8,i9,i10,i11⟩
 simp only at i1 i2 i3 i4 i5 i6 i7 i8 i9 i10 i11
 simp-implicitDefEqProofs[cb]
 have hm4:m*(2*N+3000)≤4*(2*N+3000):=Nat.mul_le_mul_right _ (by omega)
 by_cases hc:0<j∧0<lf
 ·obtain⟨c1,c2⟩:=hc
  have hm3:m*(2*N+3000)≤3*(2*N+3000):=Nat.mul_le_mul_right _ (by omega)
  have hms:(m+1)*(2*N+3000)=m*(2*N+3000)+(2*N+3000):=by rw[Nat.add_mul,Nat.one_mul]
  have hmsI:((m+1:Nat):Int)*(2*(N:Int)+3000)=((m*(2*N+3000)+(2*N+3000):Nat):Int):=by rw[←hms];simp
  generalize m*(2*N+3000)=M at*
  have hB2:Bd (2*Pd d+3000) q vs' nx lf:=by
   rw[hN];exact⟨by omega,by omega,i7,by omega,by omega,by omega,by omega⟩
  have hS:=FN G hb hl fns hf hd hblk hB2
  rw[hN] at hS
  simp-implicitDefEqProofs[c1,c2]
  refine(cC G hS _ (by simp[below])).mono ?_
  rintro r h ⟨v,q2,vs2,n2,l2,rfl,rfl,out2,rfl,z1,z2,z3,hvs,m1,m2,m3,m4,m5,m6⟩
  have hsl:smL out2= .lst 5 (out2.map Sm.cs):=rfl
  simp-implicitDefEqProofs[aa,cb,hsl]
  have hol:(smR out).length=out.length:=eA out
  have hwj:IntKind.i64.wrap ((j:Int)-1)=((j-1:Nat):Int):=by rw[af (by omega) (by omega)];omega
  have hrow:List.take out.length (smR out)++List.map ((fun x=>List.map AV.p x)∘Sm.cs) out2=smR (out++out2):=by
   rw[List.take_of_length_le (by omega),uz];rfl
  refine⟨⟨by omega,by omega,by omega⟩,⟨j-1,m+1,out++out2,q2,vs2,n2,l2⟩,⟨by simp only;omega,by simp only;rw[bk,hms];omega,by simp only;rw[List.length_append];omega,by simp only;omega,by simp only;rw[hms];omega,?_,?_,by simp only;omega,by simp only;rw[hmsI];omega,by simp only;rw[hmsI];omega,by simp only;omega⟩,by simp only;omega,?_⟩
  ·simp only
   rcases hvs with rfl|⟨s,_,rfl⟩
   ·omega
   ·rw[List.length_append,List.length_singleton];omega
  ·simp only
   rcases hvs with rfl|⟨s,hs,rfl⟩
   ·exact i7
   ·intro w hw
    rcases List.mem_append.1 hw with h|h
    ·exact i7 w h
    ·rw[List.mem_singleton.1 h];exact hs
  ·rw[hrow]
   refine cQ [0,1,2,4] (by simp) (by decide) (by decide) (bs rfl (bc _ _ _) (cI ?_ ?_ (bs rfl (iR _ _) (bf rfl (dt _) bq)))) (by simp[below,ren,hwj])
   ·intro x hx
    rw[List.mem_singleton.1 hx];exact⟨by simp[below],lw (by simp),by simp,by simp,by simp,trivial⟩
   ·simp[cb,ren,aZ]
 ·have hce:(decide (0<j)&&decide (0<lf))=false:=by
   by_cases h1:0<j
   ·have h2:¬0<lf:=fun h=>hc ⟨h1,h⟩
    simp[h2]
   ·simp[h1]
  have fin:Ez b fns vs p (20*N) next left [] (.ret (.sl 3 5 0 out.length)) [rdO b q,.row 5 [[.ptr 0 2 0 0,slE 2 3 (aV fns),.p (az vs),.p (.int .i64 nx),.p (.int .i64 lf)]],bH 3 (aV fns),.row 5 (smR out)]:=
   ⟨out,q,nx,lf,rfl,rfl,by omega,by omega,by omega,by omega,by omega,by omega,by omega,by omega⟩
  by_cases h1:0<j
  ·have h2:¬0<lf:=fun h=>hc ⟨h1,h⟩
   simp-implicitDefEqProofs[h1,h2]
   exact fin
  ·simp-implicitDefEqProofs[h1]
   exact fin
end Go.Proofs.YtnjbhgpbgmpkcaaGreatDoor
namespace Go.Proofs.YtnjbhgpbgmpkcaaGreatDoor
open Go Go.Aw
set_option maxRecDepth 100000
set_option maxHeartbeats 4000000
def K_spec_l3Gen_fn:AK:= .seq (.reg [oJ 6 (.alloc [(.p (.str [])),.nils,.nils])]) (.seq (.reg [oM 8 0,oJ 9 (.bsl 1 [(.p (.str []))] 3 [(0,1,(.c (.p (.str [97])))),(1,1,(.c (.p (.str [98])))),(2,1,(.c (.p (.str [99]))))]),oM 10 2,oJ 11 (.slS 1 (.t 9) none (some (.t 10))),oN 12 8,oF 13 2 12,oS 13 11]) (.seq (.reg [oM 14 0,oM 15 2,oJ 16 (.bin .sub (.t 15) (.c (.p (.int .i64 1)))),oN 17 14,oF 18 3 17,oS 18 16]) (.cut (.reg [oM 19 1,oJ 20 (.bsl 1 [(.p (.str []))] 0 []),oM 21 0,oN 22 21,oF 23 2 22,oL 24 23,oJ 25 (.app 1 16 (.t 20) (.t 24)),oJ 26 (.bld [(.p (.str [])),.nils,.nils] [(0,1,(.t 19)),(1,1,(.t 25))]),oJ 7 (.alloc [(.p (.str [])),.nils,.nils]),⟨none,none,.st 3 (.t 7) (.t 26)⟩]) (.seq (.reg [oM 27 0,oJ 28 (.call aJ [(.t 27),(.c (.p (.int .i64 3)))]),oF 29 2 7,oS 29 28]) (.seq (.seq (.reg [oM 30 0,oN 31 30,oF 32 4 31,oL 33 32,oJ 34 (.bin .gtr (.t 33) (.c (.p (.int .i64 0)))),oM 35 34,⟨(some 36),some (35,true),.mov (.t 0)⟩,⟨(some 37),some (35,true),.nilck (.t 36)⟩,⟨(some 38),some (35,true),.fldA 0 (.t 37)⟩,⟨(some 39),some (35,true),.ld none (.t 38)⟩,⟨(some 40),some (35,true),.call ae [(.t 39),(.c (.p (.int .i64 4)))]⟩,⟨(some 41),some (35,true),.bin .gtr (.t 40) (.c (.p (.int .i64 0)))⟩,oJ 42 (.pick (.t 35) (.t 41) (.c (.p (.bool false))))]) (.cond (.t 42) (.seq (.reg [oM 43 0,oM 44 0,oN 45 44,oF 46 4 45,oL 47 46,oJ 48 (.bin .sub (.t 47) (.c (.p (.int .i64 1)))),oN 49 43,oF 50 4 49,oS 50 48]) (.reg [oF 51 2 7,oM 53 0,oL 52 51,oJ 54 (.call aN [(.t 53),(.c (.p (.int .i64 2)))]),⟨none,none,.chk none 51 52⟩,oJ 55 (.bslP 4 [(.p (.int .i64 0)),(.p (.int .i64 0)),(.p (.str [])),.nils] 1 [(0,4,(.t 54))]),oJ 56 (.bld [(.p (.int .i64 0)),(.p (.str [])),.nils,.nils,.nils] [(0,1,(.c (.p (.int .i64 7)))),(2,1,(.t 55))]),oJ 57 (.bslP 5 [(.p (.int .i64 0)),(.p (.str [])),.nils,.nils,.nils] 1 [(0,5,(.t 56))]),oJ 58 (.app 5 96 (.t 52) (.t 57)),oF 59 2 7,oS 59 58])) (.skip))) (.seq (.reg [oJ 60 (.ld (some 3) (.t 7)),⟨none,none,.st 3 (.t 6) (.t 60)⟩]) (.ret)))))))
theorem pX:K_spec_l3Gen_fn.whole=F_spec_l3Gen_fn.ak:=rfl
theorem uA{h:List AO}{id:Nat}{out:List Sm}{m:Sm}{c:List AV}(e:h[id]?=some (.row 5 (smR out++[c])))(hc:∀(j:Nat) (q:PV) (a:AV),m.cs[j]?=some q→c[j]?=some a→View h a q):View h (.sl id 5 0 (out.length+1)) (smL (out++[m])):=by
 have hl:((out++[m]).map Sm.cs).length=out.length+1:=by simp
 have:=View.sl (h:=h) id 5 0 _ ((out++[m]).map Sm.cs) e (by rw[hl];simp[eA]) (fun x hx=>by obtain⟨b,_,rfl⟩:=List.mem_map.1 hx;exact b.cs_len) (fun i j e q e' a a1 a2 a3 a4=>?_)
 ·rwa[hl] at this
 rw[Nat.zero_add] at a3
 rw[List.map_append] at a1
 rcases Nat.lt_or_ge i out.length with hi|hi
 ·rw[List.getElem?_append_left (by simpa using hi),List.getElem?_map,List.getElem?_eq_getElem hi] at a1
  rw[List.getElem?_append_left (by simpa[eA] using hi),smR,List.getElem?_map,List.getElem?_eq_getElem hi] at a3
  cases a1;cases a3
  rw[List.getElem?_map,a2] at a4
  cases a4
  exact .p _
 ·rw[List.getElem?_append_right (by simpa using hi)] at a1
  rw[List.getElem?_append_right (by simpa[eA] using hi),eA] at a3
  rw[List.length_map] at a1
  cases hd:i-out.length with
  |zero=>
   rw[hd] at a1 a3
   cases a1;cases a3
   exact hc j q a a2 a4
  |succ n=>rw[hd] at a3;simp at a3
variable (G:aC)
theorem Bj{b:List Int}(hb:Byt b)(hl:b.length≤2000)(fns:List Fd)(hf:qB fns):Ag G b fns 3:=
 tL G hb hl fns hf (d:=2) (by omega) fun _=>tL G hb hl fns hf (d:=1) (by omega) fun _=>tL G hb hl fns hf (d:=0) (by omega) fun h=>absurd h (by omega)
def abcW:List (List UInt8):=[[97],[98],[99]]
def fnQ(p:Nat)(name:List UInt8)(np:Nat)(left:Int)(v:AV)(q:Nat)(vs':List (List UInt8))(next' left':Int):Prop:=
 ∃f:Fd,v= .agg (f.cs.map .p)∧f.name=name∧f.params=abcW.take np∧aq f.body≤40000500∧p≤q∧q≤p+40000500∧left-40000500≤left'∧left'≤left
theorem Hi{b:List Int}(hb:Byt b)(hl:b.length≤2000){p:Nat}(hp:p≤90000000000)(fns:List Fd)(hf:qB fns)(vs:List (List UInt8))(next left:Int)(hl0: -1000000000≤left)(hl1:left≤1000000000)(name:List UInt8)(np:Nat)(hnp:np≤3):
 AC Tryz.prog G eD [.ptr 1 5 0 0,.p (.str name),.p (.int .i64 np)] (HG b p fns vs next left) (PG b fns (fnQ p name np left) []):=by
 refine iD G (AC.goK pS pX ?_)
 have hwn:IntKind.i64.wrap ((np:Int)-1)=(np:Int)-1:=af (by omega) (by omega)
 have h3:(np:Int)≤3:=by omega
 simp-implicitDefEqProofs[K_spec_l3Gen_fn,F_spec_l3Gen_fn,HG,cb,hwn,h3,hnp]
 refine ji (am 61 [(0,.ptr 1 5 0 0),(6,.ptr 3 3 0 0),(7,.ptr 4 3 0 0)]) [rdO b p,.row 5 [cb fns (abcW.take np) ((np:Int)-1) left],bH 3 (aV fns),.row 3 [[.p (.str []),.nils,.nils]],.row 3 [[.p (.str name),.p (az (abcW.take np)),.nils]]] ?_ ?_
 ·have hlen:(abcW.take np).length=np:=by simp[abcW];omega
  simp-implicitDefEqProofs[hnp,hlen]
  refine⟨⟨by omega,by omega⟩,?_⟩
  have hcutR:bC (abcW.take np)= .row 1 (List.take np [[AV.p (PV.str [97])],[AV.p (PV.str [98])],[AV.p (PV.str [99])]]):=by
   simp only[bC,List.map_take];rfl
  rw[←hcutR]
  refine Wk.trans (qn (h1:=[rdO b p,.row 5 [[.ptr 0 2 0 0,slE 2 3 (aV fns),.sl 4 1 0 np,.p (.int .i64 ((np:Int)-1)),.p (.int .i64 left)]],bH 3 (aV fns),.row 3 [[.p (.str []),.nils,.nils]],bC (abcW.take np),.dead,bC (abcW.take np),.row 3 [[.p (.str name),.sl 6 1 0 np,.nils]]])
   ⟨.inl rfl,.inl rfl,.inl rfl,.inl rfl,.inr ⟨1,_,np,rfl,hcutR⟩,.inl rfl,.inl rfl,.inl rfl,trivial⟩) ?_
  refine Wk.trans (cQ (l1:=[(0,.ptr 1 5 0 0),(6,.ptr 3 3 0 0),(7,.ptr 4 3 0 0)])
   (h1:=[rdO b p,.row 5 [[.ptr 0 2 0 0,slE 2 3 (aV fns),.sl 5 1 0 np,.p (.int .i64 ((np:Int)-1)),.p (.int .i64 left)]],bH 3 (aV fns),.row 3 [[.p (.str []),.nils,.nils]],.row 3 [[.p (.str name),.sl 6 1 0 np,.nils]],bC (abcW.take np),bC (abcW.take np)])
   [0,1,2,3,7,4,6] (by simp) (by decide) (by decide) (bs rfl (bc _ _ _) (cI (by simp[below]) (by simp[ren,aZ]) (bs rfl (iR _ _) (bf rfl (by simp[below]) (cI (by simp[below]) (by simp[ren,aZ]) (bs rfl (bm _) (bs rfl (bm _) bq))))))) (by simp[below,ren]))
   (jO 5 (by omega) (by simp) rfl (.same (bc _ _ _) (.one (.keep (by simp[below]) (.keep (lw (by omega)) (.one ?_ (.keep (by simp) (.keep (by simp) .nil))))) (.same (iR _ _) (.same (by simp[okO,below]) (.one (.keep (by simp) (.one ?_ (.keep (by simp[below]) .nil))) (.nil _)))))) ?_)
  ·have:=dy (l:=abcW.take np) (id:=5) (h:=lL 5 [rdO b p,.row 5 [[.ptr 0 2 0 0,slE 2 3 (aV fns),.sl 5 1 0 np,.p (.int .i64 ((np:Int)-1)),.p (.int .i64 left)]],bH 3 (aV fns),.row 3 [[.p (.str []),.nils,.nils]],.row 3 [[.p (.str name),.sl 6 1 0 np,.nils]],bC (abcW.take np),bC (abcW.take np)]) rfl
   rwa[hlen] at this
  ·have:=dy (l:=abcW.take np) (id:=6) (h:=lL 5 [rdO b p,.row 5 [[.ptr 0 2 0 0,slE 2 3 (aV fns),.sl 5 1 0 np,.p (.int .i64 ((np:Int)-1)),.p (.int .i64 left)]],bH 3 (aV fns),.row 3 [[.p (.str []),.nils,.nils]],.row 3 [[.p (.str name),.sl 6 1 0 np,.nils]],bC (abcW.take np),bC (abcW.take np)]) rfl
   rwa[hlen] at this
  ·exact⟨.keep (by simp[below]) .nil,.keep (by simp[below]) .nil,.keep (by simp[below]) .nil,trivial⟩
 have hlen:(abcW.take np).length≤3:=by simp[abcW];omega
 have hw8:∀s∈abcW.take np,s.length≤8:=by
  intro s hs
  have:=List.mem_of_mem_take hs
  simp only[abcW,List.mem_cons,List.not_mem_nil,or_false] at this
  rcases this with rfl|rfl|rfl<;>simp
 have hPd:Pd 3=40000000:=rfl
 have hB:Bd (Pd 3) p (abcW.take np) ((np:Int)-1) left:=by rw[hPd];exact⟨by omega,by omega,hw8,by omega,by omega,by omega,by omega⟩
 simp-implicitDefEqProofs[cb]
 refine(ov G (Bj G hb hl fns hf hB) _).mono ?_
 rintro r h ⟨out,q,n2,l2,rfl,rfl,z1,z2,m1,m2,m3,m4,m5,m6⟩
 rw[hPd] at z1 m2 m4 m5
 simp-implicitDefEqProofs[aa,cb]
 have fin:∀(out:List Sm) (q:Nat) (l2:Int) (rest:List AO) (v:AV) (vc:AV) (vs':List (List UInt8)) (n2:Int),Fzs (.dead:: .dead:: .dead::rest) 3 [vc] [.p (az vs')]→Fzs (.dead:: .dead:: .dead::rest) 3 [v] [.agg ((Fd.mk name (abcW.take np) out).cs.map .p)]→aq out≤40000500→p≤q→q≤p+40000500→left-40000500≤l2→l2≤left→
  DG b fns (fnQ p name np left) (.ret v) (rdO b q:: .row 5 [[.ptr 0 2 0 0,slE 2 3 (aV fns),vc,.p (.int .i64 n2),.p (.int .i64 l2)]]::bH 3 (aV fns)::rest):=fun out q l2 rest v vc vs' n2 h1 h2 h3 h4 h5 h6 h7=>
  ⟨_,rest,q,_,_,vs',n2,l2,rfl,rfl,h1,h2,⟨name,abcW.take np,out⟩,rfl,rfl,rfl,h3,h4,h5,h6,h7⟩
 by_cases hl2:0<l2
 ·simp-implicitDefEqProofs[hl2]
  refine(aU G b hb hl q (by omega) 4 _).mono ?_
  rintro r h ⟨k,rfl,rfl,_⟩
  simp-implicitDefEqProofs[aa]
  refine aW (fun hc=>?_) (fun hc=>?_)
  ·have hwl:IntKind.i64.wrap (l2-1)=l2-1:=af (by omega) (by omega)
   simp-implicitDefEqProofs[hwl]
   have hShrt:oQ (abcW.take np):=⟨by omega,hw8⟩
   refine(cC G (jd G hb hl (p:=q+1) (by omega) fns hf (abcW.take np) hShrt n2 (l2-1) (d:=2) (by omega)) _ (by simp[below])).mono ?_
   rintro r h ⟨v,q2,vs2,n3,l3,rfl,rfl,⟨e,rfl,he⟩,h1,h2,hvs,rfl,rfl⟩
   subst hvs
   have hec:=e.cs_eq
   have hol:(smR out).length=out.length:=eA out
   simp-implicitDefEqProofs[aa,cb,hec,hol]
   refine⟨⟨by omega,by omega⟩,?_⟩
   have htk:List.take out.length (smR out)=smR out:=List.take_of_length_le (by omega)
   rw[htk]
   have hm:(Sm.mk 7 [] [e] [] []).cs=[.int .i64 7,.str [],.lst 4 [[.int .i64 e.op,.int .i64 e.n,.str e.name,exL e.kids]],.lst 5 [],.lst 5 []]:=by
    rw[Sm.cs_eq,←hec];rfl
   refine fin (out++[⟨7,[],[e],[],[]⟩]) q2 (l2-1) _ _ _ (abcW.take np) n3 (.keep (by simp) .nil) (.agg (.keep (by simp) (.keep (by simp) (.one (uA rfl ?_) .nil))) .nil) (by simp[bk,aq,Sm.sz,aR];omega) (by omega) (by omega) (by omega) (by omega)
   intro j q a a1 a2
   rw[hm] at a1
   match j,a1,a2 with
   |0,a1,a2=>cases a1;cases a2;exact .p _
   |1,a1,a2=>cases a1;cases a2;exact .p _
   |2,a1,a2=>cases a1;cases a2;exact .p _
   |3,a1,a2=>cases a1;cases a2;exact View.e 0 5
   |4,a1,a2=>cases a1;cases a2;exact View.e 0 5
   |j+5,a1,a2=>simp at a1
  ·simp-implicitDefEqProofs[]
   exact fin out (q+1) l2 _ _ _ (abcW.take np) n2 (.keep (by simp) .nil) (.agg (.keep (by simp) (.keep (by simp) (.one (gS rfl) .nil))) .nil) (by omega) (by omega) (by omega) (by omega) (by omega)
 ·simp-implicitDefEqProofs[hl2]
  exact fin out q l2 _ _ _ (abcW.take np) n2 (.keep (by simp) .nil) (.agg (.keep (by simp) (.keep (by simp) (.one (gS rfl) .nil))) .nil) (by omega) (by omega) (by omega) (by omega) (by omega)
end Go.Proofs.YtnjbhgpbgmpkcaaGreatDoor
namespace Go.Proofs.YtnjbhgpbgmpkcaaGreatDoor
open Go Go.Aw
set_option maxRecDepth 100000
set_option maxHeartbeats 4000000
theorem qy{h:List AO}{s:List UInt8}{ps:List (List UInt8)}{bd:List Sm}{P B:AV}(hP:View h P (az ps))(hB:View h B (smL bd)):∀(j:Nat) (q:PV) (x:AV),(Fd.mk s ps bd).cs[j]?=some q→[AV.p (.str s),P,B][j]?=some x→View h x q:=by
 intro j q x e1 e2
 match j,e1,e2 with
 |0,e1,e2=>cases e1;cases e2;exact .p _
 |1,e1,e2=>cases e1;cases e2;exact hP
 |2,e1,e2=>cases e1;cases e2;exact hB
 |j+3,e1,e2=>simp[Fd.cs] at e1
theorem pk{h:List AO}{id:Nat}{l:List Fd}(e:h[id]?=some (.row 3 (aV l))):View h (.sl id 3 0 l.length) (fdL l):=by
 have:=gu (h:=h) (id:=id) (sz:=3) (n:=l.length) (ls:=l.map Fd.cs) (by rw[e,aV];simp) (by simp) (fun x hx=>by obtain⟨b,_,rfl⟩:=List.mem_map.1 hx;exact b.cs_len)
 exact this
theorem wq(a b:List Fd):aV (a++b)=aV a++aV b:=by simp[aV]
theorem qr(a:List Fd):(aV a).length=a.length:=by simp[aV]
theorem ju(a b:List Fd):aX (a++b)=aX a+aX b:=by simp[aX]
def Fb:List Fd:=[⟨[109],[],[⟨3,[],[⟨1,1,[],[]⟩],[],[]⟩]⟩]
theorem xY:bp Fb=true:=by decide
theorem xU(k:Nat)(hk:k≤3):(abcW.take k).length+((abcW.take k).map List.length).sum≤6:=by
 have h:k=0∨k=1∨k=2∨k=3:=by omega
 rcases h with rfl|rfl|rfl|rfl<;>decide
variable (G:aC)
structure PgS where (j:Nat) (fns:List Fd) (q:Nat) (vs:List (List UInt8)) (next left:Int)
def Jt(b:List Int)(p n:Nat)(x:ARes)(h:List AO):Prop:=∃(l:List Fd) (q:Nat),x= .ret (.agg [.p (fdL l)])∧h=[rdO b q]∧bp l=true∧aX l≤200000000∧p≤q∧q≤p+n
def Jc(b:List Int)(p n:Nat)(x:ARes)(h:List AO):Prop:=∃(l:List Fd) (q:Nat) (v:AV) (rest:List AO),x= .ret (.agg [v])∧h=rdO b q::rest∧View (lL 1 h) v (fdL l)∧bp l=true∧aX l≤200000000∧p≤q∧q≤p+n
theorem wW{b:List Int}(hb:Byt b)(hl:b.length≤2000){p:Nat}(hp:p≤10000000000):AC Tryz.prog G bI [.ptr 0 2 0 0] [rdO b p] (Jt b p 200000000):=by
 refine AC.frz (R:=Jc b p 200000000) ?_ 1 (by simp) (fun t v h ⟨_,_,_,_,e,_⟩=>by cases e) ?_
 ·refine AC.go sA ?_
  simp-implicitDefEqProofs[mo]
  refine(iE G hb hl (p:=p) (by omega) [14,20,8,26] (k:=2) (by simp) (by simp) (by omega) rfl rfl).mono ?_
  rintro r h ⟨L0,hL0,rfl,rfl⟩
  have hL:0≤L0∧L0≤26:=by simp at hL0;omega
  simp-implicitDefEqProofs[aa]
  refine(iE G hb hl (p:=p+1) (by omega) [0,1,1,2] (k:=4) (by simp) (by simp) (by omega) rfl rfl).mono ?_
  rintro r h ⟨J0,hJ0,rfl,rfl⟩
  obtain⟨J,rfl,hJ⟩:∃J:Nat,J0=J∧J≤2:=⟨J0.toNat,by simp at hJ0;omega,by simp at hJ0;omega⟩
  simp-implicitDefEqProofs[aa]
  refine aO (fun s:PgS=>am 69 [(0,.ptr 0 2 0 0),(2,.ptr 3 1 0 0),(3,.ptr 1 5 0 0),(4,.p (.int .i64 s.j))])
   (fun s=>[rdO b s.q,.row 5 [cb s.fns s.vs s.next s.left],bH 3 (aV s.fns),.row 1 [[.nils]]])
   (fun s=>s.j+s.fns.length≤2∧qB s.fns∧aX s.fns≤s.fns.length*40000600∧p≤s.q∧s.q≤p+2+s.fns.length*40000600∧L0-s.fns.length*40000600≤s.left∧s.left≤L0)
   (fun s=>s.j) ⟨J,[],p+1+1,[],0,L0⟩ ⟨by simp only[List.length_nil];omega,⟨by simp,by simp⟩,by simp[aX],by simp only;omega,by simp,by simp,by simp⟩ ?_ ?_
  ·refine Wk.trans (cQ (l1:=[(0,.ptr 0 2 0 0),(2,.ptr 3 1 0 0),(3,.ptr 1 5 0 0),(4,.p (.int .i64 J))])
    (h1:=[rdO b (p+1+1),.row 5 [[.ptr 0 2 0 0,.nils,.nils,.p (.int .i64 0),.p (.int .i64 L0)]],.dead,.row 1 [[.nils]]])
    [0,3,2,1] (by simp) (by decide) (by decide) (bs rfl (bc _ _ _) (cI (by simp[below]) (by simp[ren,aZ]) (bD (by simp) (bf rfl (by simp[below]) bq)))) (by simp[below,ren]))
    (jO 4 (by omega) (by simp) rfl (.same (bc _ _ _) (.one (.keep (by simp[below]) (.keep (by simp[below,aV,slE]) (.one (View.nils 1) (.keep (by simp) (.keep (by simp) .nil))))) (.dead (.same (by simp[okO,below]) (.nil _))))) ?_)
   exact⟨.keep (by simp[below]) .nil,.keep (by simp[below]) .nil,.keep (by simp[below]) .nil,.keep (by simp[below]) .nil,trivial⟩
  rintro⟨j,fns,q,vs,nx,lf⟩ ⟨i1,i2,i3,i4,i5,i6,i7⟩
  simp only at i1 i2 i3 i4 i5 i6 i7
  simp-implicitDefEqProofs[cb]
  by_cases hj:0<j
  ·have hfl:fns.length<3:=by omega
   have hcl:(aV fns).length=fns.length:=qr fns
   obtain⟨nm,hget,hnm⟩:∃nm:List UInt8,([[PV.str [102]],[PV.str [103]],[PV.str [104]]]:List (List PV))[fns.length]?=some [.str nm]∧nm.length≤8:=by
    have h3:fns.length=0∨fns.length=1∨fns.length=2:=by omega
    rcases h3 with h|h|h<;>rw[h]
    ·exact⟨[102],rfl,by simp⟩
    ·exact⟨[103],rfl,by simp⟩
    ·exact⟨[104],rfl,by simp⟩
   simp-implicitDefEqProofs[hj,hcl,hget]
   refine(aU G b hb hl q (by omega) 3 _).mono ?_
   rintro r h ⟨k,rfl,rfl,hk⟩
   have hk3:k≤3:=by omega
   simp-implicitDefEqProofs[aa,hcl,hget]
   refine(cC G (Hi G hb hl (p:=q+1) (by omega) fns i2 vs nx lf (by omega) (by omega) nm k hk3) _ (by simp[below])).mono ?_
   rintro r h ⟨v,q2,vs2,n2,l2,rfl,rfl,f,rfl,hf1,hf2,z1,z2,z3,z4,z5⟩
   have hcs:=f.cs_len
   have hcf:f.cs=[.str f.name,az f.params,smL f.body]:=rfl
   simp-implicitDefEqProofs[aa,cb,hcf]
   have hfs:f.sz≤40000600:=by
    have h1:f.sz=1+f.name.length+(f.params.length+(f.params.map List.length).sum)+aq f.body:=rfl
    have h2:=xU k hk3
    rw[←hf2] at h2
    rw[hf1] at h1
    omega
   have hwj:IntKind.i64.wrap ((j:Int)-1)=((j-1:Nat):Int):=by rw[af (by omega) (by omega)];omega
   have hfp:f.params.length≤3:=by rw[hf2];simp[abcW];omega
   have hrow:aV fns++[[AV.p (.str f.name),.p (az f.params),.p (smL f.body)]]=aV (fns++[f]):=by rw[wq];rfl
   have hne:aV (fns++[f])≠[]:=by simp[aV]
   have hll:(aV fns).length+1=(aV (fns++[f])).length:=by simp[aV]
   rw[hrow,hll]
   refine⟨⟨by rw[←hll,hcl];omega,by omega⟩,⟨j-1,fns++[f],q2,vs2,n2,l2⟩,⟨by simp;omega,⟨by simp;omega,?_⟩,by simp only[ju,List.length_append];simp[aX] at*;omega,by simp only;omega,by simp;omega,by simp;omega,by simp only;omega⟩,by simp only;omega,?_⟩
   ·intro x hx
    rcases List.mem_append.1 hx with h|h
    ·exact i2.2 x h
    ·rw[List.mem_singleton.1 h,hf1];exact⟨hnm,hfp⟩
   ·rw[cZ hne,dO hne]
    refine cQ [0,1,5,3] (by simp) (by decide) (by decide) (bs rfl (bc _ _ _) (cI (by simp[below]) (by simp[ren,aZ]) (bf rfl (oU _) (bf rfl (by simp[below]) bq)))) (by simp[below,ren,hwj])
  ·simp-implicitDefEqProofs[hj]
   refine(iE G hb hl (p:=q) (by omega) [0,1,2,1] (k:=4) (by simp) (by simp) (by omega) rfl rfl).mono ?_
   rintro r h ⟨N0,hN0,rfl,rfl⟩
   obtain⟨np,rfl,hnp⟩:∃J:Nat,N0=J∧J≤2:=⟨N0.toNat,by simp at hN0;omega,by simp at hN0;omega⟩
   simp-implicitDefEqProofs[aa]
   refine(cC G (Hi G hb hl (p:=q+1) (by omega) fns i2 vs nx lf (by omega) (by omega) [109] np (by omega)) _ (by simp[below])).mono ?_
   rintro r h ⟨v,q2,vs2,n2,l2,rfl,rfl,f,rfl,hf1,hf2,z1,z2,z3,z4,z5⟩
   have hcf:f.cs=[.str f.name,az f.params,smL f.body]:=rfl
   have hcl:(aV fns).length=fns.length:=qr fns
   have hfs:f.sz≤40000600:=by
    have h1:f.sz=1+f.name.length+(f.params.length+(f.params.map List.length).sum)+aq f.body:=rfl
    have h2:=xU np (by omega)
    rw[←hf2] at h2
    rw[hf1] at h1
    simp at h1
    omega
   by_cases hfe:fns=[]
   ·subst hfe
    have h0:aV []=[]:=rfl
    rw[h0]
    simp-implicitDefEqProofs[aa,cb,hcf,h0,ui,ry]
    have hrow:[[AV.p (.str f.name),.p (az f.params),.p (smL f.body)]]=aV [f]:=rfl
    rw[hrow]
    have vw:∀h:List AO,h[8]?=some (.row 3 (aV [f]))→View h (.sl 8 3 0 1) (fdL [f]):=fun h e=>pk (l:=[f]) e
    refine((io G [f] (by simp only[aX,List.map_cons,List.map_nil,List.sum_cons,List.sum_nil] at*;omega)).lend (.agg (.one (vw _ rfl) .nil) .nil) rfl).mono ?_
    rintro r h ⟨rfl,rfl⟩
    simp-implicitDefEqProofs[aa]
    by_cases hok:bp [f]=true
    ·simp-implicitDefEqProofs[hok]
     exact⟨[f],q2,_,_,rfl,rfl,vw _ rfl,hok,by simp only[aX,List.map_cons,List.map_nil,List.sum_cons,List.sum_nil] at*;omega,by omega,by omega⟩
    ·have hok':bp [f]=false:=by simpa using hok
     simp-implicitDefEqProofs[hok']
     exact⟨Fb,q2,_,_,rfl,rfl,bn (p0:=(Fd.mk [109] [] [⟨3,[],[⟨1,1,[],[]⟩],[],[]⟩]).cs) rfl rfl (qy (View.nils 1) (bn (p0:=(Sm.mk 3 [] [⟨1,1,[],[]⟩] [] []).cs) rfl (Sm.cs_len _) (bM (bn (p0:=(Ex.mk 1 1 [] []).cs) rfl (Ex.cs_len _) (fz (View.nils 4))) (View.nils 5) (View.nils 5)))),xY,by decide,by omega,by omega⟩
   ·have h0:aV fns≠[]:=fun h=>hfe (List.map_eq_nil_iff.1 h)
    simp only[cb,dO h0,cZ h0]
    simp-implicitDefEqProofs[aa,hcf,hcl]
    refine⟨⟨by omega,by omega⟩,⟨by omega,by omega⟩,?_⟩
    have hrow:List.take fns.length (List.take fns.length (aV fns))++[[AV.p (.str f.name),.p (az f.params),.p (smL f.body)]]=aV (fns++[f]):=by
     rw[List.take_of_length_le (by rw[List.length_take];omega),List.take_of_length_le (by omega),wq];rfl
    rw[hrow]
    have vw:∀h:List AO,h[8]?=some (.row 3 (aV (fns++[f])))→View h (.sl 8 3 0 (fns.length+1)) (fdL (fns++[f])):=fun h e=>by
     have:=pk e
     rwa[List.length_append,List.length_singleton] at this
    refine((io G (fns++[f]) (by rw[ju];simp only[aX,List.map_cons,List.map_nil,List.sum_cons,List.sum_nil] at*;omega)).lend (.agg (.one (vw _ rfl) .nil) .nil) rfl).mono ?_
    rintro r h ⟨rfl,rfl⟩
    simp-implicitDefEqProofs[aa]
    by_cases hok:bp (fns++[f])=true
    ·simp-implicitDefEqProofs[hok]
     exact⟨fns++[f],q2,_,_,rfl,rfl,vw _ rfl,hok,by rw[ju];simp only[aX,List.map_cons,List.map_nil,List.sum_cons,List.sum_nil] at*;omega,by omega,by omega⟩
    ·have hok':bp (fns++[f])=false:=by simpa using hok
     simp-implicitDefEqProofs[hok']
     exact⟨Fb,q2,_,_,rfl,rfl,bn (p0:=(Fd.mk [109] [] [⟨3,[],[⟨1,1,[],[]⟩],[],[]⟩]).cs) rfl rfl (qy (View.nils 1) (bn (p0:=(Sm.mk 3 [] [⟨1,1,[],[]⟩] [] []).cs) rfl (Sm.cs_len _) (bM (bn (p0:=(Ex.mk 1 1 [] []).cs) rfl (Ex.cs_len _) (fz (View.nils 4))) (View.nils 5) (View.nils 5)))),xY,by decide,by omega,by omega⟩
 ·rintro v h ⟨l,q,v0,rest,e,rfl,hv,h1,h2,h3,h4⟩
  cases e
  exact⟨_,[rdO b q],by simp,rfl,.agg (.one hv .nil) .nil,.same (bc _ _ _) (.nil _),l,q,rfl,rfl,h1,h2,h3,h4⟩
end Go.Proofs.YtnjbhgpbgmpkcaaGreatDoor
namespace Go.Proofs.YtnjbhgpbgmpkcaaGreatDoor
open Go Go.Aw
set_option maxRecDepth 100000
set_option maxHeartbeats 4000000
variable (G:aC)
theorem sX{hF:List AO}{n:Nat}{o k:Int}{w:List UInt8}{ks:List Ex}{K:AV}(hk:View hF K (exL ks)):Fzs hF n [.agg [.p (.int .i64 o),.p (.int .i64 k),.p (.str w),K]] [.agg ((Ex.mk o k w ks).cs.map .p)]:=by
 rw[Ex.cs_eq]
 exact .agg (.keep (by simp) (.keep (by simp) (.keep (by simp) (.one hk .nil)))) .nil
def DB(h:List AO)(kids:List Ex)(K:AV):Prop:=(K= .nils∧kids=[])∨∃id rows hX,K= .sl (id+1) 4 0 kids.length∧kids≠[]∧h[id+1]?=some (.row 4 rows)∧hX.length=h.length∧(∀(i:Nat) o,hX[i]?=some o→o.live→h[i]?=some o)∧¬Live hX 0∧¬Live hX (id+1)∧
 rows.length=kids.length∧∀(j:Nat) (e e1:List AV),rows[j]?=some e→(exR kids)[j]?=some e1→Fzs hX h.length e e1
def DT(b:List Int)(Q:Ex→Nat→Prop)(x:ARes)(h:List AO):Prop:=∃(e:Ex) (q:Nat) (rest:List AO) (K:AV),x= .ret (.agg [.p (.int .i64 e.op),.p (.int .i64 e.n),.p (.str e.name),K])∧h=rdO b q::rest∧DB h e.kids K∧Q e q
def EN(b:List Int)(Q:Ex→Nat→Prop)(x:ARes)(h:List AO):Prop:=∃(e:Ex) (q:Nat),x= .ret (.agg [.p (.int .i64 e.op),.p (.int .i64 e.n),.p (.str e.name),slE 1 4 (exR e.kids)])∧h=[rdO b q,bH 4 (exR e.kids)]∧Q e q
def EoQ(p n m:Nat)(e:Ex)(q:Nat):Prop:=e.sz≤n∧p≤q∧q≤p+m
theorem vW{hF:List AO}{n:Nat}:∀h:List AO,FzO hF n h (List.replicate h.length .dead)
 |[]=> .nil _
 |o::r=>by rw[List.length_cons,List.replicate_succ];exact .dead (vW r)
theorem vI{hF:List AO}{n sz:Nat}{es es1:List (List AV)}(hl:es.length=es1.length)(hv:∀(j:Nat) (e e1:List AV),es[j]?=some e→es1[j]?=some e1→Fzs hF n e e1):∀(h:List AO) (id:Nat),h[id]?=some (.row sz es)→FzO hF n h ((List.replicate h.length .dead).set id (.row sz es1))
 |[],id,e=>by simp at e
 |o::r,0,e=>by
  cases e
  rw[List.length_cons,List.replicate_succ,List.set_cons_zero]
  exact .rows hl hv (vW r)
 |o::r,id+1,e=>by
  rw[List.length_cons,List.replicate_succ,List.set_cons_succ]
  exact .dead (vI hl hv r id (by simpa using e))
theorem uH{f:FuncId}{args:List AV}{b:List Int}{p:Nat}{Q:Ex→Nat→Prop}(H:AC Tryz.prog G f args [rdO b p] (DT b Q)):AC Tryz.prog G f args [rdO b p] (EN b Q):=by
 refine H.wk (fun t v h ⟨_,_,_,_,e,_⟩=>by cases e) ?_
 rintro v h ⟨e,q,rest,K,ev,rfl,hk,hq⟩
 cases ev
 rcases hk with⟨rfl,hk⟩|⟨id,rows,hX,rfl,hne,he,x1,x2,x3,x4,x5,x6⟩
 ·refine⟨_,_,?_,e,q,rfl,rfl,hq⟩
  have h0:exR e.kids=[]:=by rw[hk];rfl
  rw[h0,ui,ry]
  exact Wk.ofL [0,0] (by simp) (by simp) (by simp[rdO,eV]) (by simp[below,ah,ren,aZ]) (bs rfl (bc _ _ _) (bD (by simp) bq))
 ·have hr:exR e.kids≠[]:=fun h=>hne (List.map_eq_nil_iff.1 h)
  have hrl:(exR e.kids).length=e.kids.length:=by simp[exR]
  rw[List.getElem?_cons_succ] at he
  have hid:id<rest.length:=(List.getElem?_eq_some_iff.1 he).1
  refine⟨.agg [.p (.int .i64 e.op),.p (.int .i64 e.n),.p (.str e.name),slE 1 4 (exR e.kids)],[rdO b q,bH 4 (exR e.kids)],?_,e,q,rfl,rfl,hq⟩
  rw[cZ hr,dO hr,hrl]
  refine Wk.trans (ts1:=[.agg [.p (.int .i64 e.op),.p (.int .i64 e.n),.p (.str e.name),.sl (id+1) 4 0 e.kids.length]]) (h1:=rdO b q::(List.replicate rest.length .dead).set id (.row 4 (exR e.kids))) (yp (hX:=hX) (by simp) x1 x2 (fun i ⟨o,e1,l1⟩ ⟨o2,e2,l2⟩=>?_) (by simp) rfl (fun i u hi=>?_) (.same (bc _ _ _) (vI (by rw[hrl];exact x5) x6 rest id he))) ?_
  ·cases i with
   |zero=>exact x3 ⟨o,e1,l1⟩
   |succ i=>
    by_cases hi:i=id
    ·subst hi;exact x4 ⟨o,e1,l1⟩
    ·rw[List.getElem?_cons_succ,List.getElem?_set_ne (Ne.symm hi),List.getElem?_replicate] at e2
     split at e2
     ·cases e2;exact l2
     ·cases e2
  ·cases i with
   |zero=>cases hi;exact .inr ⟨_,rfl,fy (by simp[below,ah];exact hid)⟩
   |succ i=>simp at hi
  ·refine Wk.of [0,id+1] (by simp) (by simp) (by simp) (by simp[below,ah,ren,aZ]) (bs rfl (bc _ _ _) (bf ?_ (du _) bq))
   rw[List.getElem?_cons_succ,List.getElem?_set_self (by simpa using hid)]
theorem qm{f:FuncId}{args:List AV}{b:List Int}{p:Nat}{Q:Ex→Nat→Prop}(H:AC Tryz.prog G f args [rdO b p] (EN b Q))(rest:List AO)(ha:ah 1 args):
 AC Tryz.prog G f args (rdO b p::rest) fun x h=>∃(e:Ex) (q:Nat),x= .ret (.agg [.p (.int .i64 e.op),.p (.int .i64 e.n),.p (.str e.name),slE (rest.length+1) 4 (exR e.kids)])∧h=rdO b q::(rest++[bH 4 (exR e.kids)])∧Q e q:=by
 refine(H.frame (h:=rdO b p::rest) [0] (by simp) (vO (n:=1) ha) (bs rfl (bc _ _ _) bq)).mono ?_
 rintro x h ⟨x0,h0,⟨e,q,rfl,rfl,hq⟩,hl,rfl,rfl⟩
 have hp:∀σ,eK σ (bH 4 (exR e.kids))=bH 4 (exR e.kids):=fun σ=>by
  unfold bH
  split
  ·rfl
  ·simp only[eK]
   rw[List.map_congr_left (g:=id) fun x hx=>cV _ x (du _ x hx)];simp
 have hp2:∀σ,eK σ (rdO b q)=rdO b q:=fun σ=>by simp[rdO,eK,aZ,ren]
 refine⟨e,q,?_,?_,hq⟩
 ·simp[sj,ren,aZ]
 ·have hl2:([rdO b q,bH 4 (exR e.kids)]:List AO).length-[rdO b p].length=1:=rfl
  rw[hl2]
  simp only[List.length_cons,List.length_nil,Nat.zero_add,List.take_succ_cons,List.take_zero,List.map_cons,List.map_nil,hp2,List.drop_succ_cons,List.drop_zero,mrg,List.set_cons_zero,List.cons_append,hp]
def LfQ(p:Nat)(v:AV)(q:Nat):Prop:=(∃(o n:Int) (s:List UInt8),v= .agg [.p (.int .i64 o),.p (.int .i64 n),.p (.str s),.nils]∧s.length≤8)∧p≤q∧q≤p+2
theorem zq{b:List Int}(hb:Byt b)(hl:b.length≤2000){p:Nat}(hp:p≤1000000000000)(names:List (List UInt8))(hn:oQ names):AC Tryz.prog G cK [.ptr 0 2 0 0,.p (az names)] [rdO b p] fun x h=>∃v q,x= .ret v∧h=[rdO b q]∧LfQ p v q:=by
 refine jL G (AC.go ml ?_)
 have hsl:az names= .lst 1 (names.map fun w=>[.str w]):=rfl
 have fin1:∀(o n:Int) (s:List UInt8) (q:Nat) (rest:List AO),p≤q→q≤p+2→s.length≤8→DP b (LfQ p) (.ret (.agg [.p (.int .i64 o),.p (.int .i64 n),.p (.str s),.nils])) (rdO b q::rest):=fun o n s q rest h1 h2 hs=>
  ⟨_,rest,q,_,rfl,rfl,fy (by simp),⟨o,n,s,rfl,hs⟩,h1,h2⟩
 have num:∀(q:Nat) (h:List AO),q≤1000000000001→h[0]?=some (rdO b q)→h[2]?=some (rd [0,1,2,3,5,7,15,16,100,255])→_:=fun q h hq h0 h1=>iE G hb hl (p:=q) (by omega) [0,1,2,3,5,7,15,16,100,255] (h:=h) (k:=2) (by simp) (by simp) (by omega) h0 h1
 by_cases hne:names=[]
 ·subst hne
  have hs0:az []= .lst 1 []:=rfl
  simp-implicitDefEqProofs[ec,hs0]
  refine(num p _ (by omega) rfl rfl).mono ?_
  rintro r h ⟨n,_,rfl,rfl⟩
  simp-implicitDefEqProofs[aa]
  exact fin1 _ _ _ _ _ (by omega) (by omega) (by simp)
 ·have hlen:¬names.length=0:=fun h=>hne (List.eq_nil_of_length_eq_zero h)
  simp-implicitDefEqProofs[ec,hsl,hne]
  refine(aU G b hb hl p (by omega) 3 _).mono ?_
  rintro r h ⟨k,rfl,rfl,_⟩
  simp-implicitDefEqProofs[aa]
  refine aW (fun hc=>?_) (fun hc=>?_)
  ·simp-implicitDefEqProofs[]
   refine(num (p+1) _ (by omega) rfl rfl).mono ?_
   rintro r h ⟨n,_,rfl,rfl⟩
   simp-implicitDefEqProofs[aa]
   exact fin1 _ _ _ _ _ (by omega) (by omega) (by simp)
  ·simp-implicitDefEqProofs[]
   rw[←hsl]
   refine(yI G hb hl (by omega) names hne (by have:=hn.1;omega) _).mono ?_
   rintro r h ⟨s,hs,rfl,rfl⟩
   have:=hn.2 s hs
   simp-implicitDefEqProofs[aa]
   exact fin1 _ _ _ _ _ (by omega) (by omega) this
theorem zO{b:List Int}(hb:Byt b)(hl:b.length≤2000)(names:List (List UInt8))(hn:oQ names)(d:Nat)(hd:d+1≤20){p:Nat}(hp:p+6*3^(d+1)≤1000000000000):AC Tryz.prog G aT [.ptr 0 2 0 0,.p (az names),.p (.int .i64 ((d+1:Nat):Int))] [rdO b p] (EN b (EoQ p (10*3^(d+1)) (6*3^(d+1)))):=by
 have hpow:3^(d+1)=3*3^d:=by rw[Nat.pow_succ];omega
 have h1p:1≤3^d:=Nat.one_le_pow _ _ (by omega)
 have ih:=fun{p:Nat} (hp:p+6*3^d≤1000000000000)=>sq G hb hl names hn d (by omega) (p:=p) hp
 rw[hpow] at hp⊢
 generalize 3^d=t at*
 have hw:IntKind.i64.wrap (d:Int)=(d:Int):=af (by omega) (by omega)
 have leaf:∀(q:Nat) (rest:List AO),p≤q→q≤p+3→AC Tryz.prog G cK [.ptr 0 2 0 0,.p (az names)] (rdO b q::rest) fun x h=>∃v q',x= .ret v∧h=rdO b q'::rest∧LfQ q v q':=fun q rest _ _=>gC G (zq G hb hl (by omega) names hn) rest (by simp[below])
 have sub:∀(q:Nat) (rest:List AO),p≤q→q≤p+6+6*t→AC Tryz.prog G aT [.ptr 0 2 0 0,.p (az names),.p (.int .i64 d)] (rdO b q::rest) fun x h=>∃v q',x= .ret v∧h=rdO b q'::rest∧ExQ q (10*t) (6*t) v q':=fun q rest _ _=>gC G (ih (by omega)) rest (by simp[below])
 refine uH G (AC.go iT ?_)
 have leafCase:∀(o n:Int) (s:List UInt8) (q:Nat) (rest:List AO),s.length≤8→p≤q→q≤p+5→DT b (EoQ p (10*(3*t)) (6*(3*t))) (.ret (.agg [.p (.int .i64 o),.p (.int .i64 n),.p (.str s),.nils])) (rdO b q::rest):=fun o n s q rest h1 h2 h3=>
  ⟨⟨o,n,s,[]⟩,q,rest,_,rfl,rfl,.inl ⟨rfl,rfl⟩,by simp[Ex.sz,aR];omega,h2,by omega⟩
 have top:∀(kids:List Ex) (h:List AO) (k:Nat),h[k+1]?=some (.row 4 (exR kids))→kids≠[]→DB h kids (.sl (k+1) 4 0 kids.length):=fun kids h k hk hne=>
  .inr ⟨k,exR kids,List.replicate h.length .dead,rfl,hne,hk,by simp,fun i o e l=>(by rw[List.getElem?_replicate] at e;split at e<;>cases e;exact l.elim),fun⟨o,e,l⟩=>(by rw[List.getElem?_replicate] at e;split at e<;>cases e;exact l.elim),fun⟨o,e,l⟩=>(by rw[List.getElem?_replicate] at e;split at e<;>cases e;exact l.elim),by simp[exR],fun j e e1 h1 h2=>(by rw[h1] at h2;cases h2;exact fy (aL (Nat.zero_le _) _ (du _ e (List.mem_of_getElem? h1))))⟩
 have bin:∀(o:Int) (e1 e2:Ex) (q:Nat) (rest:List AO) (k:Nat),(rdO b q::rest)[k+1]?=some (.row 4 [e1.cs.map .p,e2.cs.map .p])→e1.sz≤10*t→e2.sz≤10*t→p≤q→q≤p+6*(3*t)→DT b (EoQ p (10*(3*t)) (6*(3*t))) (.ret (.agg [.p (.int .i64 o),.p (.int .i64 0),.p (.str []),.sl (k+1) 4 0 2])) (rdO b q::rest):=fun o e1 e2 q rest k hk h1 h2 h3 h4=>
  ⟨⟨o,0,[],[e1,e2]⟩,q,rest,_,rfl,rfl,top [e1,e2] _ k hk (by simp),by simp[Ex.sz,aR];omega,h3,h4⟩
 have una:∀(o:Int) (e1:Ex) (q:Nat) (rest:List AO) (k:Nat),(rdO b q::rest)[k+1]?=some (.row 4 [e1.cs.map .p])→e1.sz≤10*t→p≤q→q≤p+6*(3*t)→DT b (EoQ p (10*(3*t)) (6*(3*t))) (.ret (.agg [.p (.int .i64 o),.p (.int .i64 0),.p (.str []),.sl (k+1) 4 0 1])) (rdO b q::rest):=fun o e1 q rest k hk h1 h3 h4=>
  ⟨⟨o,0,[],[e1]⟩,q,rest,_,rfl,rfl,top [e1] _ k hk (by simp),by simp[Ex.sz,aR];omega,h3,h4⟩
 by_cases hd0:d=0
 ·subst hd0
  simp-implicitDefEqProofs[dw]
  refine(leaf p _ (by omega) (by omega)).mono ?_
  rintro r h ⟨v,q,rfl,rfl,⟨o,n,s,rfl,he⟩,h1,h2⟩
  simp-implicitDefEqProofs[aa]
  exact leafCase o n s q _ he (by omega) (by omega)
 have hd2:¬(d:Int)+1<2:=by omega
 simp-implicitDefEqProofs[dw,hd2]
 refine(aU G b hb hl p (by omega) 4 _).mono ?_
 rintro r h ⟨k1,rfl,rfl,_⟩
 simp-implicitDefEqProofs[aa]
 refine aW (fun hc=>?_) (fun hc=>?_)
 ·simp-implicitDefEqProofs[]
  refine(leaf (p+1) _ (by omega) (by omega)).mono ?_
  rintro r h ⟨v,q,rfl,rfl,⟨o,n,s,rfl,he⟩,h1,h2⟩
  simp-implicitDefEqProofs[aa]
  exact leafCase o n s q _ he (by omega) (by omega)
 simp-implicitDefEqProofs[]
 refine(aU G b hb hl (p+1) (by omega) 7 _).mono ?_
 rintro r h ⟨k2,rfl,rfl,_⟩
 simp-implicitDefEqProofs[aa]
 refine aW (fun hc=>?_) (fun hc=>?_)
 ·simp-implicitDefEqProofs[]
  refine(iE G hb hl (p:=p+2) (by omega) [11,12,11] (k:=2) (by simp) (by simp) (by omega) rfl rfl).mono ?_
  rintro r h ⟨n,_,rfl,rfl⟩
  simp-implicitDefEqProofs[aa,hw]
  refine(sub (p+3) _ (by omega) (by omega)).mono ?_
  rintro r h ⟨v,q,rfl,rfl,⟨e,rfl,he⟩,h1,h2⟩
  have hec:=e.cs_eq
  simp-implicitDefEqProofs[aa,hec]
  exact una n e q _ 2 (by rw[hec];rfl) he (by omega) (by omega)
 ·simp-implicitDefEqProofs[]
  refine(iE G hb hl (p:=p+2) (by omega) [3,3,4,5,6,7,8,9,10] (k:=2) (by simp) (by simp) (by omega) rfl rfl).mono ?_
  rintro r h ⟨n,_,rfl,rfl⟩
  simp-implicitDefEqProofs[aa,hw]
  refine(sub (p+3) _ (by omega) (by omega)).mono ?_
  rintro r h ⟨v,q,rfl,rfl,⟨e,rfl,he⟩,h1,h2⟩
  have hec:=e.cs_eq
  simp-implicitDefEqProofs[aa,hec,hw]
  refine(sub q _ (by omega) (by omega)).mono ?_
  rintro r h ⟨v,q2,rfl,rfl,⟨e2,rfl,he2⟩,h3,h4⟩
  have hec2:=e2.cs_eq
  simp-implicitDefEqProofs[aa,hec2]
  exact bin n e e2 q2 _ 2 (by rw[hec,hec2];rfl) he he2 (by omega) (by omega)
end Go.Proofs.YtnjbhgpbgmpkcaaGreatDoor
namespace Go.Proofs.YtnjbhgpbgmpkcaaGreatDoor
open Go Go.Aw
set_option maxRecDepth 100000
set_option maxHeartbeats 4000000
variable (G:aC)
theorem Ic{h:List AO}{kids:List Ex}{id:Nat}(he:h[id+1]?=some (bH 4 (exR kids))):DB h kids (slE (id+1) 4 (exR kids)):=by
 by_cases hk:kids=[]
 ·subst hk;exact .inl ⟨rfl,rfl⟩
 ·have hr:exR kids≠[]:=fun h=>hk (List.map_eq_nil_iff.1 h)
  rw[dO hr] at he
  rw[cZ hr]
  have hrl:(exR kids).length=kids.length:=by simp[exR]
  rw[hrl]
  exact .inr ⟨id,exR kids,List.replicate h.length .dead,rfl,hk,he,by simp,fun i o e l=>(by rw[List.getElem?_replicate] at e;split at e<;>cases e;exact l.elim),fun⟨o,e,l⟩=>(by rw[List.getElem?_replicate] at e;split at e<;>cases e;exact l.elim),fun⟨o,e,l⟩=>(by rw[List.getElem?_replicate] at e;split at e<;>cases e;exact l.elim),by simp[exR],fun j e e1 h1 h2=>(by rw[h1] at h2;cases h2;exact fy (aL (Nat.zero_le _) _ (du _ e (List.mem_of_getElem? h1))))⟩
theorem FJ(l:List Ex)(n:Nat):okO n (bH 4 (exR l)):=ce (CC (du l))
theorem Bo{hF:List AO}{n id:Nat}{e:Ex}(he:hF[id]?=some (bH 4 (exR e.kids))):Fzs hF n [.p (.int .i64 e.op),.p (.int .i64 e.n),.p (.str e.name),slE id 4 (exR e.kids)] (e.cs.map .p):=by
 rw[e.cs_eq]
 exact .keep (by simp) (.keep (by simp) (.keep (by simp) (.one (eX he) .nil)))
structure KdS where (k:Nat) (es:List Ex) (q:Nat)
theorem tS{b:List Int}(hb:Byt b)(hl:b.length≤2000){d:Nat}(hd:d+1≤7){p:Nat}(hp:p+20000≤1000000000000):AC Tryz.prog G dL [.ptr 0 2 0 0,.p (.int .i64 ((d+1:Nat):Int))] [rdO b p] (EN b (EoQ p 30000 20000)):=by
 refine uH G (AC.go tK ?_)
 have h3:3^(d+1)≤2187:=by
  have:3^(d+1)≤3^7:=Nat.pow_le_pow_right (by omega) hd
  omega
 have fin:∀(e:Ex) (q:Nat) (rest:List AO) (K:AV),DB (rdO b q::rest) e.kids K→e.sz≤30000→p≤q→q≤p+20000→DT b (EoQ p 30000 20000) (.ret (.agg [.p (.int .i64 e.op),.p (.int .i64 e.n),.p (.str e.name),K])) (rdO b q::rest):=fun e q rest K hk h1 h2 h3=>
  ⟨e,q,rest,K,rfl,rfl,hk,h1,h2,h3⟩
 have hn4:oQ [[97],[98],[120],[103,111]]:=⟨by simp,by simp⟩
 have hn2:oQ [[97],[98]]:=⟨by simp,by simp⟩
 simp-implicitDefEqProofs[nH]
 refine(AC.give (hX:=[.dead,.dead,bC [[97],[98],[120],[103,111]]]) (hR:=[rdO b p,.row 4 [[.p (.int .i64 0),.p (.int .i64 0),.p (.str []),.nils]],.dead]) (pargs:=[.ptr 0 2 0 0,.p (az [[97],[98],[120],[103,111]]),.p (.int .i64 ((d+1:Nat):Int))]) (.keep _ (.keep _ (.give _ .nil))) (.keep (by simp[below]) (.one (dy (l:=[[97],[98],[120],[103,111]]) rfl) (.keep (by simp) .nil))) (qm G (zO G hb hl _ hn4 d (by omega) (by omega)) _ (by simp[below]))).mono ?_
 rintro r h ⟨e0,q,rfl,rfl,he0,h1,h2⟩
 simp-implicitDefEqProofs[aa]
 refine(aU G b hb hl q (by omega) 3 _).mono ?_
 rintro r h ⟨k1,rfl,rfl,_⟩
 simp-implicitDefEqProofs[aa]
 refine aW (fun hc=>?_) (fun hc=>?_)
 ·simp-implicitDefEqProofs[]
  exact fin e0 _ _ _ (Ic rfl) (by omega) (by omega) (by omega)
 simp-implicitDefEqProofs[]
 refine(wj G hb hl (p:=q+1) (by omega) [[102],[103],[97]] (k:=5) (by simp) (by simp) (by omega) rfl rfl).mono ?_
 rintro r h ⟨s,hs,rfl,rfl⟩
 have hsl:s.length≤8:=by simp at hs;rcases hs with rfl|rfl|rfl<;>simp
 simp-implicitDefEqProofs[aa]
 refine(aU G b hb hl (q+1+1) (by omega) 4 _).mono ?_
 rintro r h ⟨k2,rfl,rfl,hk2⟩
 simp-implicitDefEqProofs[aa]
 have hexn:∀(es:List Ex) (e:Ex),exR (es++[e])=exR es++[e.cs.map .p]:=fun es e=>by simp[exR]
 refine aO (fun s:KdS=>am 42 [(7,.p (.int .i64 s.k)),(6,.ptr 6 4 0 0),(5,.ptr 4 4 0 0),(4,.ptr 1 4 0 0),(0,.ptr 0 2 0 0)])
  (fun a=>[rdO b a.q,.row 4 [[.p (.int .i64 0),.p (.int .i64 0),.p (.str []),.nils]],.dead,bH 4 (exR e0.kids),.row 4 [[.p (.int .i64 e0.op),.p (.int .i64 e0.n),.p (.str e0.name),slE 3 4 (exR e0.kids)]],.row 1 [[.p (.str [102])],[.p (.str [103])],[.p (.str [97])]],
    .row 4 [[.p (.int .i64 13),.p (.int .i64 0),.p (.str s),slE 7 4 (exR a.es)]],bH 4 (exR a.es)])
  (fun a=>a.k+a.es.length≤3∧aR a.es≤90*a.es.length∧q≤a.q∧a.q≤q+3+54*a.es.length) (fun a=>a.k) ⟨k2,[],q+1+1+1⟩ ⟨by simp only[List.length_nil];omega,by simp[aR],by simp only;omega,by simp⟩
  (nU (by simp) (by simp) (by
    intro o h
    simp only[List.mem_cons,List.not_mem_nil,or_false] at h
    rcases h with rfl|rfl|rfl|rfl|rfl|rfl|rfl
    ·exact bc _ _ _
    ·simp[okO,below]
    ·simp[okO]
    ·exact FJ _ _
    ·simp[okO,below]
    ·simp[okO,below]
    ·simp[okO,below]) (by simp[below])) ?_
 rintro⟨k,es,q1⟩ ⟨i1,i2,i3,i4⟩
 simp only at i1 i2 i3 i4
 have hxl:(exR es).length=es.length:=by simp[exR]
 simp-implicitDefEqProofs[]
 refine aW (fun hc=>?_) (fun hc=>?_)
 ·simp at hc
  simp-implicitDefEqProofs[]
  have hE:=gC G (sq G hb hl _ hn2 2 (by omega) (p:=q1) (by omega)) ([.row 4 [[.p (.int .i64 0),.p (.int .i64 0),.p (.str []),.nils]],.dead,bH 4 (exR e0.kids),.row 4 [[.p (.int .i64 e0.op),.p (.int .i64 e0.n),.p (.str e0.name),slE 3 4 (exR e0.kids)]],.row 1 [[.p (.str [102])],[.p (.str [103])],[.p (.str [97])]],
   .row 4 [[.p (.int .i64 13),.p (.int .i64 0),.p (.str s),slE 7 4 (exR es)]],bH 4 (exR es)]) (by simp[below])
  refine hE.mono ?_
  rintro r h ⟨v,q2,rfl,rfl,⟨e,rfl,he⟩,hq1,hq2⟩
  have hec':=e.cs_eq
  simp-implicitDefEqProofs[aa,hec']
  refine⟨by rw[hxl];omega,⟨k-1,es++[e],q2⟩,⟨by simp;omega,by rw[cF];simp[aR];omega,by simp only;omega,by simp;omega⟩,by simp;omega,?_⟩
  have hwk:IntKind.i64.wrap ((k:Int)-1)=((k-1:Nat):Int):=by rw[af (by omega) (by omega)];omega
  rw[hexn,yK _ (by simp),vl _ (by simp),hec']
  refine cQ [0,1,2,3,4,5,6,8] (by simp) (by decide) (by decide) (bs rfl (bc _ _ _) (cI (by simp[below]) (by simp[ren,aZ]) (bD (by simp) (Eh rfl (du _) (cI (by simp[below]) (by simp[ren,aZ]) (bf rfl (by simp[below]) (cI (by simp[below]) (by simp[ren,aZ]) (bf rfl (fun x hx=>by
   rcases List.mem_append.1 hx with h|h
   ·exact du _ x h
   ·rw[List.mem_singleton.1 h];simp) bq)))))))) ?_
  simp[below,ren,hwk]
 ·simp at hc
  simp-implicitDefEqProofs[]
  refine(aU G b hb hl q1 (by omega) 2 _).mono ?_
  rintro r h ⟨k3,rfl,rfl,_⟩
  simp-implicitDefEqProofs[aa]
  refine aW (fun hc2=>?_) (fun hc2=>?_)
  ·simp-implicitDefEqProofs[]
   exact fin ⟨13,0,s,es⟩ (q1+1) _ _ (Ic rfl) (by simp[Ex.sz];omega) (by omega) (by omega)
  ·simp-implicitDefEqProofs[]
   have hv:∀hF:List AO,hF[3]?=some (bH 4 (exR e0.kids))→hF[7]?=some (bH 4 (exR es))→∀(n j:Nat) (x x1:List AV),[[AV.p (.int .i64 e0.op),.p (.int .i64 e0.n),.p (.str e0.name),slE 3 4 (exR e0.kids)],[.p (.int .i64 13),.p (.int .i64 0),.p (.str s),slE 7 4 (exR es)]][j]?=some x→(exR [e0,⟨13,0,s,es⟩])[j]?=some x1→Fzs hF n x x1:=by
    intro hF h3 h7 n j x x1 a1 a2
    match j,a1,a2 with
    |0,a1,a2=>cases a1;cases a2;exact Bo h3
    |1,a1,a2=>cases a1;cases a2;exact Bo (e:=⟨13,0,s,es⟩) h7
    |j+2,a1,a2=>simp at a1
   refine fin ⟨3,0,[],[e0,⟨13,0,s,es⟩]⟩ (q1+1) _ _ (.inr ⟨7,_,[.dead,.dead,.dead,bH 4 (exR e0.kids),.dead,.dead,.dead,bH 4 (exR es),.dead],rfl,by simp[Ex.kids],rfl,rfl,fun i o e l=>?_,fun⟨o,e,l⟩=>?_,fun⟨o,e,l⟩=>?_,rfl,hv _ rfl rfl _⟩) (by simp[Ex.sz,aR];omega) (by omega) (by omega)
   ·match i,e with
    |0,e=>cases e;exact l.elim
    |1,e=>cases e;exact l.elim
    |2,e=>cases e;exact l.elim
    |3,e=>exact e
    |4,e=>cases e;exact l.elim
    |5,e=>cases e;exact l.elim
    |6,e=>cases e;exact l.elim
    |7,e=>exact e
    |8,e=>cases e;exact l.elim
    |i+9,e=>simp at e
   ·cases e;exact l
   ·cases e;exact l
theorem AY{b:List Int}(hb:Byt b)(hl:b.length≤2000){p:Nat}(hp:p+50000≤1000000000000):AC Tryz.prog G gf [.ptr 0 2 0 0] [rdO b p] fun x h=>∃v q,x= .ret v∧h=[rdO b q]∧ExQ p 60000 50000 v q:=by
 refine jL G (AC.go sw ?_)
 have fin:∀(e:Ex) (q:Nat) (rest:List AO) (v:AV),Fzs (.dead::rest) 1 [v] [.agg (e.cs.map .p)]→e.sz≤60000→p≤q→q≤p+50000→DP b (ExQ p 60000 50000) (.ret v) (rdO b q::rest):=fun e q rest v hz h1 h2 h3=>
  ⟨_,rest,q,.agg (e.cs.map .p),rfl,rfl,hz,⟨e,rfl,h1⟩,h2,h3⟩
 simp-implicitDefEqProofs[mv]
 refine(qm G (tS G hb hl (d:=3) (by omega) (by omega)) _ (by simp[below])).mono ?_
 rintro r h ⟨e0,q,rfl,rfl,he0,h1,h2⟩
 have hsz:=e0.sz_eq
 have hkl:=bF e0.kids
 have hrl:(exR e0.kids).length=e0.kids.length:=by simp[exR]
 simp-implicitDefEqProofs[aa]
 refine(aU G b hb hl q (by omega) 20 _).mono ?_
 rintro r h ⟨k1,rfl,rfl,_⟩
 by_cases k10:k1=0
 ·subst k10
  simp-implicitDefEqProofs[aa]
  refine(iE G hb hl (p:=q+1) (by omega) [-1,256,3] (k:=4) (by simp) (by simp) (by omega) rfl rfl).mono ?_
  rintro r h ⟨n,_,rfl,rfl⟩
  simp-implicitDefEqProofs[aa]
  exact fin ⟨e0.op,n,e0.name,e0.kids⟩ _ _ _ (sX (eX rfl)) (by simp[Ex.sz];omega) (by omega) (by omega)
 by_cases k11:k1=1
 ·subst k11
  simp-implicitDefEqProofs[aa]
  refine(wj G hb hl (p:=q+1) (by omega) [[],[100,111],[65],[97,98,99,100,101],[113]] (k:=4) (by simp) (by simp) (by omega) rfl rfl).mono ?_
  rintro r h ⟨s,hs,rfl,rfl⟩
  have hsl:s.length≤8:=by simp at hs;rcases hs with rfl|rfl|rfl|rfl|rfl<;>simp
  simp-implicitDefEqProofs[aa]
  exact fin ⟨e0.op,e0.n,s,e0.kids⟩ _ _ _ (sX (eX rfl)) (by simp[Ex.sz];omega) (by omega) (by omega)
 by_cases k12:k1=2
 ·subst k12
  simp-implicitDefEqProofs[aa]
  refine(iE G hb hl (p:=q+1) (by omega) [0,14,-1,5,11] (k:=4) (by simp) (by simp) (by omega) rfl rfl).mono ?_
  rintro r h ⟨n,_,rfl,rfl⟩
  simp-implicitDefEqProofs[aa]
  exact fin ⟨n,e0.n,e0.name,e0.kids⟩ _ _ _ (sX (eX rfl)) (by simp[Ex.sz];omega) (by omega) (by omega)
 by_cases k13:k1=3
 ·subst k13
  simp-implicitDefEqProofs[aa]
  refine(AC.give (pargs:=[.ptr 0 2 0 0,.p (az [])]) (Spl.rest _) (.keep (by simp[below]) (.one (View.nils 1) .nil)) (gC G (qF G hb hl (p:=q+1) (by omega) [] ⟨by simp,by simp⟩) _ (by simp[below]))).mono ?_
  rintro r h ⟨v,q2,rfl,rfl,⟨e1,rfl,he1⟩,h3,h4⟩
  have hec1:=e1.cs_eq
  have hx:exR (e0.kids++[e1])=exR e0.kids++[[.p (.int .i64 e1.op),.p (.int .i64 e1.n),.p (.str e1.name),.p (exL e1.kids)]]:=by simp[exR,hec1]
  have hne:exR (e0.kids++[e1])≠[]:=by simp[exR]
  simp-implicitDefEqProofs[aa,hec1]
  refine⟨by omega,?_⟩
  rw[←hx]
  have hl2:(exR e0.kids).length+1=(exR (e0.kids++[e1])).length:=by simp[exR]
  have hv:∀h:List AO,h[4]?=some (.row 4 (exR (e0.kids++[e1])))→View h (.sl 4 4 0 ((exR e0.kids).length+1)) (exL (e0.kids++[e1])):=fun h e=>by
   have:=eX (h:=h) (id:=4) (l:=e0.kids++[e1]) (by rw[dO hne];exact e)
   rwa[cZ hne,←hl2] at this
  exact fin ⟨e0.op,e0.n,e0.name,e0.kids++[e1]⟩ q2 _ _ (sX (hv _ rfl)) (by simp[Ex.sz,cF,aR];omega) (by omega) (by omega)
 by_cases k14:k1=4
 ·subst k14
  simp-implicitDefEqProofs[aa]
  refine(qm G (tS G hb hl (d:=6) (by omega) (by omega)) _ (by simp[below])).mono ?_
  rintro r h ⟨e1,q2,rfl,rfl,he1,h3,h4⟩
  simp-implicitDefEqProofs[aa]
  have hs1:=e1.sz_eq
  exact fin ⟨e1.op,e1.n,e1.name,e1.kids⟩ _ _ _ (sX (eX rfl)) (by simp[Ex.sz];omega) (by omega) (by omega)
 have c1:¬(k1:Int)=1:=by omega
 have c2:¬(k1:Int)=2:=by omega
 have c3:¬(k1:Int)=3:=by omega
 have c4:¬(k1:Int)=4:=by omega
 simp-implicitDefEqProofs[aa,k10,c1,c2,c3,c4]
 exact fin ⟨e0.op,e0.n,e0.name,e0.kids⟩ _ _ _ (sX (eX rfl)) (by simp[Ex.sz];omega) (by omega) (by omega)
end Go.Proofs.YtnjbhgpbgmpkcaaGreatDoor
namespace Go.Proofs.YtnjbhgpbgmpkcaaGreatDoor
open Go Go.Aw
set_option maxRecDepth 100000
set_option maxHeartbeats 4000000
variable (G:aC)
def PgQ(p n m:Nat)(v:AV)(q:Nat):Prop:=(∃l:List Fd,v= .agg [.p (fdL l)]∧aX l≤n)∧p≤q∧q≤p+m
theorem to{h:List AO}{id sz:Nat}{rows:List (List AV)}{es:List (List PV)}(he:h[id]?=some (.row sz rows))(hl:rows.length=es.length)(hs:∀e∈es,e.length=sz)(hv:∀(i j:Nat) (e:List PV) (q:PV) (e':List AV) (a:AV),es[i]?=some e→e[j]?=some q→rows[i]?=some e'→e'[j]?=some a→View h a q){n:Nat}(hn:n=es.length):View h (.sl id sz 0 n) (.lst sz es):=by
 subst hn
 exact .sl id sz 0 rows es he (by omega) hs fun i j e q e' a a1 a2 a3 a4=>hv i j e q e' a a1 a2 (by rwa[Nat.zero_add] at a3) a4
theorem mJ{h:List AO}{e:List PV}{j:Nat}{q:PV}{a:AV}(h1:e[j]?=some q)(h2:(e.map AV.p)[j]?=some a):View h a q:=by
 rw[List.getElem?_map,h1] at h2;cases h2;exact .p _
theorem zT{h:List AO}{id k:Nat}{l:List Fd}{f:Fd}{P B:AV}(he:h[id]?=some (.row 3 ((aV l).set k [.p (.str f.name),P,B])))(hk:k<l.length)(hP:View h P (az f.params))(hB:View h B (smL f.body)){n:Nat}(hn:n=l.length):View h (.sl id 3 0 n) (fdL (l.set k f)):=by
 refine to (es:=(l.set k f).map Fd.cs) he (by simp[aV]) (fun e he=>by obtain⟨x,_,rfl⟩:=List.mem_map.1 he;simp) (fun i j e q e' a a1 a2 a3 a4=>?_) (by simpa using hn)
 rw[List.getElem?_map] at a1
 by_cases hik:k=i
 ·subst hik
  rw[List.getElem?_set_self hk] at a1
  rw[List.getElem?_set_self (by simpa[aV] using hk)] at a3
  cases a1;cases a3
  exact qy (s:=f.name) (ps:=f.params) (bd:=f.body) hP hB j q a a2 a4
 ·rw[List.getElem?_set_ne hik] at a1 a3
  obtain⟨g,g1,g2⟩:=Option.map_eq_some_iff.1 a1
  subst g2
  rw[aV,List.getElem?_map,g1] at a3
  cases a3
  exact mJ a2 a4
theorem ze{h:List AO}{id:Nat}{l:List (List UInt8)}{s:List UInt8}(he:h[id]?=some (.row 1 (List.take l.length (l.map fun w=>[AV.p (.str w)])++[[.p (.str s)]]))):View h (.sl id 1 0 (l.length+1)) (az (l++[s])):=by
 have e:h[id]?=some (bC (l++[s])):=by rw[he,List.take_of_length_le (by simp)];simp[bC]
 have:=dy e
 rwa[List.length_append,List.length_singleton] at this
theorem oa{h:List AO}{id:Nat}{l:List Sm}{s:Sm}{r:List AV}(he:h[id]?=some (.row 5 (List.take l.length (smR l)++[r])))(hr:∀(j:Nat) (q:PV) (a:AV),s.cs[j]?=some q→r[j]?=some a→View h a q):View h (.sl id 5 0 (l.length+1)) (smL (l++[s])):=by
 have hl:=eA l
 refine to (es:=(l++[s]).map Sm.cs) he (by simp[hl]) (fun e he=>by obtain⟨x,_,rfl⟩:=List.mem_map.1 he;simp) (fun i j e q e' a a1 a2 a3 a4=>?_) (by simp)
 rw[List.take_of_length_le (by omega)] at a3
 rw[List.map_append] at a1
 rcases Nat.lt_or_ge i l.length with hi|hi
 ·rw[List.getElem?_append_left (by simpa using hi)] at a1
  rw[List.getElem?_append_left (by omega)] at a3
  rw[List.getElem?_map] at a1
  obtain⟨g,g1,g2⟩:=Option.map_eq_some_iff.1 a1
  subst g2
  rw[smR,List.getElem?_map,g1] at a3
  cases a3
  exact mJ a2 a4
 ·rw[List.getElem?_append_right (by simpa using hi)] at a1
  rw[List.getElem?_append_right (by omega),hl] at a3
  simp only[List.length_map] at a1
  generalize i-l.length=k at a1 a3
  cases k with
  |zero=>cases a1;cases a3;exact hr j q a a2 a4
  |succ k=>simp at a1
theorem Ax{h:List AO}{id:Nat}{l:List Fd}{f:Fd}(he:h[id]?=some (.row 3 (List.take l.length (aV l)++[f.cs.map .p]))):View h (.sl id 3 0 (l.length+1)) (fdL (l++[f])):=by
 have hl:=qr l
 have:=pk (h:=h) (id:=id) (l:=l++[f]) (by rw[he,List.take_of_length_le (by omega)];simp[aV])
 rwa[List.length_append,List.length_singleton] at this
theorem vU(l:List Fd)(k:Nat)(f:Fd):aX (l.set k f)≤aX l+f.sz:=by
 by_cases hk:k<l.length
 ·rw[ee f hk]
  have e:l=l.take k++l.drop k:=(List.take_append_drop _ _).symm
  have e2:l.drop k=l[k]::l.drop (k+1):=List.drop_eq_getElem_cons hk
  have h1:aX l=aX (l.take k)+aX (l.drop k):=by rw[←ju,←e]
  rw[ju]
  have h3:aX (f::l.drop (k+1))=f.sz+aX (l.drop (k+1)):=by simp[aX]
  have h4:aX (l.drop k)=l[k].sz+aX (l.drop (k+1)):=by rw[e2];unfold aX;rw[List.map_cons,List.sum_cons]
  omega
 ·rw[List.set_eq_of_length_le (by omega)];omega
theorem tl{l:List Fd}{f:Fd}(h:f∈l):f.sz≤aX l:=by
 induction l with
 |nil=>cases h
 |cons x r ih=>
  have e:aX (x::r)=x.sz+aX r:=by simp[aX]
  rcases List.mem_cons.1 h with rfl|h
  ·omega
  ·have:=ih h;omega
def K_spec_l3Bent:AK:= .seq (.reg [oJ 2 (.alloc [.nils])]) (.seq (.reg [oM 9 0,oJ 10 (.call bI [(.t 9)]),oJ 3 (.alloc [.nils]),oS 3 10]) (.seq (.reg [oF 11 0 3,oL 12 11,oF 13 0 3,oL 14 13,oJ 15 (.len false (.t 14)),oJ 16 (.bin .sub (.t 15) (.c (.p (.int .i64 1)))),oJ 17 (.idxS 3 (.t 12) (.t 16)),oJ 18 (.ld (some 3) (.t 17)),oJ 4 (.alloc [(.p (.str [])),.nils,.nils]),⟨none,none,.st 3 (.t 4) (.t 18)⟩]) (.cut (.seq (.reg [oM 19 0,oJ 20 (.call ae [(.t 19),(.c (.p (.int .i64 32)))])]) (.blk 0 (.seq (.reg [oJ 22 (.bin .eql (.t 20) (.c (.p (.int .i64 0)))),oM 21 22]) (.cond (.t 21) (.reg [oM 23 0,oJ 24 (.bsl 1 [(.p (.str []))] 4 [(0,1,(.c (.p (.str [102])))),(1,1,(.c (.p (.str [100,111])))),(2,1,(.c (.p (.str [])))),(3,1,(.c (.p (.str [103]))))]),oJ 25 (.call ay [(.t 23),(.t 24)]),oF 26 0 4,oS 26 25]) (.seq (.reg [oJ 28 (.bin .eql (.t 20) (.c (.p (.int .i64 1)))),oM 27 28]) (.cond (.t 27) (.reg [oJ 29 (.bsl 1 [(.p (.str []))] 0 []),oF 30 1 4,oL 31 30,oJ 32 (.app 1 16 (.t 29) (.t 31)),oM 33 0,oJ 34 (.bsl 1 [(.p (.str []))] 3 [(0,1,(.c (.p (.str [97])))),(1,1,(.c (.p (.str [120])))),(2,1,(.c (.p (.str [105,102]))))]),oJ 35 (.call ay [(.t 33),(.t 34)]),oJ 36 (.bsl 1 [(.p (.str []))] 1 [(0,1,(.t 35))]),oJ 37 (.app 1 16 (.t 32) (.t 36)),oF 38 1 4,oS 38 37]) (.seq (.reg [oJ 40 (.bin .eql (.t 20) (.c (.p (.int .i64 2)))),oM 39 40]) (.cond (.t 39) (.reg [oJ 41 (.bsl 5 [(.p (.int .i64 0)),(.p (.str [])),.nils,.nils,.nils] 0 []),oF 42 2 4,oL 43 42,oJ 44 (.app 5 96 (.t 41) (.t 43)),oM 45 0,oJ 46 (.call gf [(.t 45)]),oJ 47 (.bsl 4 [(.p (.int .i64 0)),(.p (.int .i64 0)),(.p (.str [])),.nils] 1 [(0,4,(.t 46))]),oJ 48 (.bld [(.p (.int .i64 0)),(.p (.str [])),.nils,.nils,.nils] [(0,1,(.c (.p (.int .i64 3)))),(2,1,(.t 47))]),oJ 49 (.bsl 5 [(.p (.int .i64 0)),(.p (.str [])),.nils,.nils,.nils] 1 [(0,5,(.t 48))]),oJ 50 (.app 5 96 (.t 44) (.t 49)),oF 51 2 4,oS 51 50]) (.seq (.reg [oJ 53 (.bin .eql (.t 20) (.c (.p (.int .i64 3)))),oM 52 53]) (.cond (.t 52) (.reg [oJ 54 (.bsl 5 [(.p (.int .i64 0)),(.p (.str [])),.nils,.nils,.nils] 0 []),oF 55 2 4,oL 56 55,oJ 57 (.app 5 96 (.t 54) (.t 56)),oM 58 0,oJ 59 (.call ae [(.t 58),(.c (.p (.int .i64 10)))]),oM 60 0,oJ 61 (.bsl 1 [(.p (.str []))] 3 [(0,1,(.c (.p (.str [])))),(1,1,(.c (.p (.str [97])))),(2,1,(.c (.p (.str [122,122]))))]),oJ 62 (.call ay [(.t 60),(.t 61)]),oM 63 0,oJ 64 (.call dL [(.t 63),(.c (.p (.int .i64 2)))]),oJ 65 (.bsl 4 [(.p (.int .i64 0)),(.p (.int .i64 0)),(.p (.str [])),.nils] 1 [(0,4,(.t 64))]),oJ 66 (.bld [(.p (.int .i64 0)),(.p (.str [])),.nils,.nils,.nils] [(0,1,(.t 59)),(1,1,(.t 62)),(2,1,(.t 65))]),oJ 67 (.bsl 5 [(.p (.int .i64 0)),(.p (.str [])),.nils,.nils,.nils] 1 [(0,5,(.t 66))]),oJ 68 (.app 5 96 (.t 57) (.t 67)),oF 69 2 4,oS 69 68]) (.seq (.reg [oJ 71 (.bin .eql (.t 20) (.c (.p (.int .i64 4)))),oM 70 71]) (.cond (.t 70) (.seq (.reg [oJ 72 (.bld [(.p (.int .i64 0)),(.p (.int .i64 0)),(.p (.str [])),.nils] [(0,1,(.c (.p (.int .i64 1))))]),oJ 73 (.bsl 4 [(.p (.int .i64 0)),(.p (.int .i64 0)),(.p (.str [])),.nils] 1 [(0,4,(.t 72))]),oJ 74 (.bld [(.p (.int .i64 0)),(.p (.str [])),.nils,.nils,.nils] [(0,1,(.c (.p (.int .i64 6)))),(2,1,(.t 73))]),oJ 5 (.alloc [(.p (.int .i64 0)),(.p (.str [])),.nils,.nils,.nils]),⟨none,none,.st 5 (.t 5) (.t 74)⟩]) (.cut (.seq (.reg [oM 75 0,oJ 76 (.call ae [(.t 75),(.c (.p (.int .i64 5)))]),oM 6 76]) (.blk 1 (.loop (.seq (.seq (.reg [oM 77 6,oJ 78 (.bin .gtr (.t 77) (.c (.p (.int .i64 0))))]) (.cond (.t 78) (.skip) (.exit 1))) (.seq (.blk 2 (.reg [oM 81 0,oJ 82 (.bslP 1 [(.p (.int .i64 0))] 2 [(0,1,(.c (.p (.int .i64 5)))),(1,1,(.c (.p (.int .i64 6))))]),oF 84 2 5,oL 85 84,oJ 86 (.ld (some 5) (.t 5)),oJ 87 (.bslP 5 [(.p (.int .i64 0)),(.p (.str [])),.nils,.nils,.nils] 1 [(0,5,(.t 86))]),oJ 83 (.call aj [(.t 81),(.t 82)]),⟨none,none,.chk none 84 85⟩,⟨none,none,.chk (some 5) 5 86⟩,oJ 88 (.bld [(.p (.int .i64 0)),(.p (.str [])),.nils,.nils,.nils] [(0,1,(.t 83)),(2,1,(.t 85)),(3,1,(.t 87))]),⟨none,none,.st 5 (.t 5) (.t 88)⟩])) (.reg [oM 79 6,oJ 80 (.bin .sub (.t 79) (.c (.p (.int .i64 1)))),oM 6 80])))))) (.reg [oF 90 2 4,oL 91 90,oJ 93 (.ld (some 5) (.t 5)),oJ 94 (.bslP 5 [(.p (.int .i64 0)),(.p (.str [])),.nils,.nils,.nils] 1 [(0,5,(.t 93))]),oJ 89 (.bsl 5 [(.p (.int .i64 0)),(.p (.str [])),.nils,.nils,.nils] 0 []),⟨none,none,.chk none 90 91⟩,⟨none,none,.chk (some 5) 5 93⟩,oJ 92 (.app 5 96 (.t 89) (.t 91)),⟨none,none,.chk (some 5) 5 93⟩,oJ 95 (.app 5 96 (.t 92) (.t 94)),oF 96 2 4,oS 96 95]))) (.seq (.reg [oJ 98 (.bin .eql (.t 20) (.c (.p (.int .i64 5)))),oM 97 98]) (.cond (.t 97) (.seq (.reg [oJ 99 (.bld [.nils] []),oS 2 99]) (.ret)) (.seq (.reg [oJ 101 (.bin .eql (.t 20) (.c (.p (.int .i64 6)))),oM 100 101]) (.cond (.t 100) (.seq (.reg [oM 102 0,oJ 103 (.bsl 1 [(.p (.int .i64 0))] 3 [(0,1,(.c (.p (.int .i64 20)))),(1,1,(.c (.p (.int .i64 40)))),(2,1,(.c (.p (.int .i64 41))))]),oJ 104 (.call aj [(.t 102),(.t 103)]),oM 7 104]) (.blk 3 (.loop (.seq (.seq (.reg [oM 105 7,oJ 106 (.bin .gtr (.t 105) (.c (.p (.int .i64 0))))]) (.cond (.t 106) (.skip) (.exit 3))) (.seq (.blk 4 (.reg [oJ 109 (.bsl 5 [(.p (.int .i64 0)),(.p (.str [])),.nils,.nils,.nils] 0 []),oF 110 2 4,oL 111 110,oJ 112 (.app 5 96 (.t 109) (.t 111)),oM 113 7,oJ 114 (.bld [(.p (.int .i64 0)),(.p (.int .i64 0)),(.p (.str [])),.nils] [(0,1,(.c (.p (.int .i64 1)))),(1,1,(.t 113))]),oJ 115 (.bsl 4 [(.p (.int .i64 0)),(.p (.int .i64 0)),(.p (.str [])),.nils] 1 [(0,4,(.t 114))]),oJ 116 (.bld [(.p (.int .i64 0)),(.p (.str [])),.nils,.nils,.nils] [(0,1,(.c (.p (.int .i64 3)))),(2,1,(.t 115))]),oJ 117 (.bsl 5 [(.p (.int .i64 0)),(.p (.str [])),.nils,.nils,.nils] 1 [(0,5,(.t 116))]),oJ 118 (.app 5 96 (.t 112) (.t 117)),oF 119 2 4,oS 119 118])) (.reg [oM 107 7,oJ 108 (.bin .sub (.t 107) (.c (.p (.int .i64 1)))),oM 7 108])))))) (.seq (.reg [oJ 121 (.bin .eql (.t 20) (.c (.p (.int .i64 7)))),oM 120 121]) (.cond (.t 120) (.seq (.reg [oF 123 0 3,oF 126 0 3,oL 124 123,oL 127 126,oJ 128 (.idxS 3 (.t 127) (.c (.p (.int .i64 0)))),oJ 129 (.ld (some 3) (.t 128)),oJ 130 (.bslP 3 [(.p (.str [])),.nils,.nils] 1 [(0,3,(.t 129))]),oJ 122 (.bsl 3 [(.p (.str [])),.nils,.nils] 0 []),⟨none,none,.chk none 123 124⟩,⟨none,none,.chk none 126 127⟩,⟨none,none,.chk (some 3) 128 129⟩,oJ 125 (.app 3 64 (.t 122) (.t 124)),⟨none,none,.chk none 126 127⟩,⟨none,none,.chk (some 3) 128 129⟩,oJ 131 (.app 3 64 (.t 125) (.t 130)),oJ 132 (.bld [.nils] [(0,1,(.t 131))]),oS 2 132]) (.ret)) (.skip))))))))))))))))))) (.seq (.reg [oJ 133 (.bsl 3 [(.p (.str [])),.nils,.nils] 0 []),oF 134 0 3,oL 135 134,oJ 136 (.app 3 64 (.t 133) (.t 135)),oM 8 136]) (.seq (.reg [oM 137 8,oM 138 8,oJ 139 (.len false (.t 138)),oJ 140 (.bin .sub (.t 139) (.c (.p (.int .i64 1)))),oJ 141 (.ld (some 3) (.t 4)),oJ 142 (.idxS 3 (.t 137) (.t 140)),⟨none,none,.st 3 (.t 142) (.t 141)⟩]) (.seq (.reg [oM 143 8,oJ 144 (.bld [.nils] [(0,1,(.t 143))]),oS 2 144]) (.ret)))))))
theorem sV:K_spec_l3Bent.whole=F_spec_l3Bent.ak:=rfl
structure NsS where (i:Nat) (o:Int) (w:List UInt8) (A B C:PV) (q:Nat)
structure BdS where (i:Nat) (bd:List Sm)
structure CfS where (f:Fd) (q:Nat)
theorem AL{b:List Int}(hb:Byt b)(hl:b.length≤2000){p:Nat}(hp:p≤10000000000):AC Tryz.prog G jf [.ptr 0 2 0 0] [rdO b p] fun x h=>∃v q,x= .ret v∧h=[rdO b q]∧PgQ p 500000000 200200000 v q:=by
 refine jL G (AC.goK sD sV ?_)
 have hprog:AC Tryz.prog G bI [.ptr 0 2 0 0] [rdO b p] fun x h=>∃v q,x= .ret v∧h=[rdO b q]∧((∃l:List Fd,v= .agg [.p (fdL l)]∧bp l=true∧aX l≤200000000)∧p≤q∧q≤p+200000000):=
  (wW G hb hl hp).mono fun x h ⟨l,q,e1,e2,e3,e4,e5,e6⟩=>⟨_,q,e1,e2,⟨l,rfl,e3,e4⟩,e5,e6⟩
 simp-implicitDefEqProofs[K_spec_l3Bent,F_spec_l3Bent]
 refine(gC G hprog _ (by simp[below])).mono ?_
 rintro r h ⟨v,q,rfl,rfl,⟨l,rfl,hok,hz⟩,h1,h2⟩
 have hlen:=((mU l).1 hok).1
 obtain⟨n,hn⟩:∃n,l.length=n+1:=⟨l.length-1,by omega⟩
 have hnl:n<l.length:=by omega
 have hfz:=tl (List.getElem_mem hnl)
 obtain⟨f,hfe⟩:∃f,l[n]=f:=⟨_,rfl⟩
 rw[hfe] at hfz
 have hg:l[n]?=some f:=by rw[List.getElem?_eq_getElem hnl,hfe]
 have fin:∀(r1:List (Nat × AV)) (f':Fd) (q':Nat) (rest:List AO) (P B:AV),Aw.look r1 0= .ptr 0 2 0 0→Aw.look r1 2= .ptr 1 1 0 0→Aw.look r1 3= .ptr 2 1 0 0→Aw.look r1 4= .ptr 3 3 0 0→View (.dead:: .dead:: .dead:: .dead::rest) P (az f'.params)→View (.dead:: .dead:: .dead:: .dead::rest) B (smL f'.body)→f'.sz≤300000000→q≤q'→q'≤q+100000→
  ∃s:CfS,(s.f.sz≤300000000∧q≤s.q∧s.q≤q+100000)∧Wk 1 (am 145 r1) (rdO b q':: .row 1 [[.nils]]:: .row 1 [[.p (.lst 3 (l.map Fd.cs))]]:: .row 3 [[.p (.str f'.name),P,B]]::rest) (am 145 [(4,.ptr 3 3 0 0),(3,.ptr 2 1 0 0),(2,.ptr 1 1 0 0),(0,.ptr 0 2 0 0)])
   [rdO b s.q,.row 1 [[.nils]],.row 1 [[.p (.lst 3 (l.map Fd.cs))]],.row 3 [[.p (.str s.f.name),.p (az s.f.params),.p (smL s.f.body)]]]:=fun r1 f' q' rest P B e0 e2 e3 e4 hP hB hz' h3 h4=>
  ⟨⟨f',q'⟩,⟨hz',h3,h4⟩,jO 4 (by omega) (by simp) rfl (.same (bc _ _ _) (.same (by simp[okO,below]) (.same (by simp[okO,below]) (.one (.keep (by simp[below]) (.one hP (.one hB .nil))) (.nil _))))) (by
    simp only[FzA,e0,e2,e3,e4]
    exact⟨.keep (by simp[below]) .nil,.keep (by simp[below]) .nil,.keep (by simp[below]) .nil,.keep (by simp[below]) .nil,trivial⟩)⟩
 have hfsz:f.sz=1+f.name.length+(f.params.length+(f.params.map List.length).sum)+aq f.body:=rfl
 have hln:l.length≤4:=hlen.2
 have hbl:=bV f.body
 have hcs:f.cs=[.str f.name,az f.params,smL f.body]:=rfl
 have hfl:fdL l= .lst 3 (l.map Fd.cs):=rfl
 have hw:IntKind.i64.wrap ((l.length:Int)-1)=(n:Int):=by rw[af (by omega) (by omega)];omega
 have hsl:az f.params= .lst 1 (f.params.map fun w=>[.str w]):=rfl
 have hml:smL f.body= .lst 5 (f.body.map Sm.cs):=rfl
 simp-implicitDefEqProofs[aa,hfl,hw,hg,hcs]
 refine pV (fun _:CfS=>am 145 [(4,.ptr 3 3 0 0),(3,.ptr 2 1 0 0),(2,.ptr 1 1 0 0),(0,.ptr 0 2 0 0)]) (fun s=>[rdO b s.q,.row 1 [[.nils]],.row 1 [[.p (.lst 3 (l.map Fd.cs))]],.row 3 [[.p (.str s.f.name),.p (az s.f.params),.p (smL s.f.body)]]])
  (fun s=>s.f.sz≤300000000∧q≤s.q∧s.q≤q+100000) ?_ ?_
 rotate_left
 ·rintro⟨f',q'⟩ ⟨h3,h4,h5⟩
  simp only at h3 h4 h5
  simp-implicitDefEqProofs[hw,hnl,hfe,hcs]
  exact⟨⟨by omega,by omega⟩,_,_,q',.agg [.p (fdL (l.set n f'))],rfl,rfl,.agg (.one (zT (f:=f') rfl hnl (.p _) (.p _) rfl) .nil) .nil,⟨_,rfl,by have:=vU l n f';omega⟩,by omega,by omega⟩
 simp-implicitDefEqProofs[]
 refine(aU G b hb hl q (by omega) 32 _).mono ?_
 rintro r h ⟨k,rfl,rfl,_⟩
 by_cases k0:k=0
 ·subst k0
  simp-implicitDefEqProofs[aa]
  refine(wj G hb hl (p:=q+1) (by omega) [[102],[100,111],[],[103]] (k:=4) (by simp) (by simp) (by omega) rfl rfl).mono ?_
  rintro r h ⟨s,hs,rfl,rfl⟩
  have hs8:s.length≤8:=by simp at hs;rcases hs with rfl|rfl|rfl|rfl<;>simp
  simp-implicitDefEqProofs[aa]
  exact fin _ ⟨s,f.params,f.body⟩ _ _ _ _ (by simp) (by simp) (by simp) (by simp) (.p _) (.p _) (by simp only[Fd.sz];omega) (by omega) (by omega)
 by_cases k1:k=1
 ·subst k1
  simp-implicitDefEqProofs[aa,hsl]
  refine⟨⟨by omega,by omega⟩,?_⟩
  refine(wj G hb hl (p:=q+1) (by omega) [[97],[120],[105,102]] (k:=6) (by simp) (by simp) (by omega) rfl rfl).mono ?_
  rintro r h ⟨s,hs,rfl,rfl⟩
  have hs8:s.length≤8:=by simp at hs;rcases hs with rfl|rfl|rfl<;>simp
  simp-implicitDefEqProofs[aa]
  refine⟨⟨by omega,by omega⟩,?_⟩
  exact fin _ ⟨f.name,f.params++[s],f.body⟩ _ _ _ _ (by simp) (by simp) (by simp) (by simp) (ze rfl) (.p _) (by simp[Fd.sz];omega) (by omega) (by omega)
 by_cases k2:k=2
 ·subst k2
  simp-implicitDefEqProofs[aa,hml]
  refine⟨⟨by omega,by omega⟩,?_⟩
  refine(gC G (AY G hb hl (p:=q+1) (by omega)) _ (by simp[below])).mono ?_
  rintro r h ⟨v,q2,rfl,rfl,⟨e,rfl,he⟩,h3,h4⟩
  have hec:=e.cs_eq
  simp-implicitDefEqProofs[aa,hec]
  refine⟨⟨by omega,by omega⟩,?_⟩
  exact fin _ ⟨f.name,f.params,f.body++[⟨3,[],[e],[],[]⟩]⟩ _ _ _ _ (by simp) (by simp) (by simp) (by simp) (.p _) (oa rfl (bM (dk (l:=[e]) (by rw[List.map_singleton,hec];rfl)) (View.nils 5) (View.nils 5))) (by simp[Fd.sz,bk,aq,Sm.sz,aR];omega) (by omega) (by omega)
 by_cases k3:k=3
 ·subst k3
  simp-implicitDefEqProofs[aa,hml]
  refine⟨⟨by omega,by omega⟩,?_⟩
  refine(aU G b hb hl (q+1) (by omega) 10 _).mono ?_
  rintro r h ⟨o,rfl,rfl,_⟩
  simp-implicitDefEqProofs[aa]
  refine(wj G hb hl (p:=q+1+1) (by omega) [[],[97],[122,122]] (k:=6) (by simp) (by simp) (by omega) rfl rfl).mono ?_
  rintro r h ⟨s,hs,rfl,rfl⟩
  have hs8:s.length≤8:=by simp at hs;rcases hs with rfl|rfl|rfl<;>simp
  simp-implicitDefEqProofs[aa]
  refine(qm G (tS G hb hl (d:=1) (by omega) (p:=q+1+1+1) (by omega)) _ (by simp[below])).mono ?_
  rintro r h ⟨e,q2,rfl,rfl,he,h3,h4⟩
  simp-implicitDefEqProofs[aa]
  refine⟨⟨by omega,by omega⟩,?_⟩
  obtain⟨eo,en,es,ek⟩:=e
  exact fin _ ⟨f.name,f.params,f.body++[⟨o,s,[⟨eo,en,es,ek⟩],[],[]⟩]⟩ _ _ _ _ (by simp) (by simp) (by simp) (by simp) (.p _) (oa rfl (bM (bn (p0:=(Ex.mk eo en es ek).cs) rfl (Ex.cs_len _) (fz (eX rfl))) (View.nils 5) (View.nils 5))) (by simp[Fd.sz,bk,aq,Sm.sz,aR];omega) (by omega) (by omega)
 by_cases k5:k=5
 ·subst k5
  simp-implicitDefEqProofs[aa]
  exact⟨_,_,q+1,.agg [.p (fdL [])],rfl,rfl,.agg (.one (View.nils 3) .nil) .nil,⟨[],rfl,by simp[aX]⟩,by omega,by omega⟩
 by_cases k7:k=7
 ·subst k7
  simp-implicitDefEqProofs[aa,hfl]
  have hl0:0<l.length:=by omega
  have hf0:=tl (List.getElem_mem hl0)
  obtain⟨f0,hg0,hf0⟩:∃f0,l[0]?=some f0∧f0.sz≤aX l:=⟨_,List.getElem?_eq_getElem hl0,hf0⟩
  have hc0:f0.cs=[.str f0.name,az f0.params,smL f0.body]:=rfl
  have hfa:aX (l++[f0])=aX l+f0.sz:=by rw[ju];simp[aX]
  simp-implicitDefEqProofs[hg0,hc0]
  exact⟨⟨by omega,by omega⟩,⟨by omega,by omega⟩,_,_,q+1,.agg [.p (fdL (l++[f0]))],rfl,rfl,.agg (.one (Ax rfl) .nil) .nil,⟨_,rfl,by omega⟩,by omega,by omega⟩
 by_cases k4:k=4
 ·subst k4
  simp-implicitDefEqProofs[aa]
  refine pV (fun _:NsS=>am 145 [(5,.ptr 5 5 0 0),(4,.ptr 3 3 0 0),(3,.ptr 2 1 0 0),(2,.ptr 1 1 0 0),(0,.ptr 0 2 0 0)])
   (fun a=>[rdO b a.q,.row 1 [[.nils]],.row 1 [[.p (.lst 3 (l.map Fd.cs))]],.row 3 [[.p (.str f.name),.p (az f.params),.p (smL f.body)]],.dead,.row 5 [[.p (.int .i64 a.o),.p (.str a.w),.p a.A,.p a.B,.p a.C]]])
   (fun a=>(∃s:Sm,s.cs=[.int .i64 a.o,.str a.w,a.A,a.B,a.C]∧aR s.args≤1∧s.sz+2*a.i≤20)∧q+2≤a.q∧a.q+a.i≤q+10) ?_ ?_
  rotate_left
  ·rintro⟨i,o,w,A,B,C,q1⟩ ⟨⟨s,hse,j1,j2⟩,j3,j4⟩
   simp only at hse j1 j2 j3 j4
   have hss:∀(h:List AO) (id:Nat),h[id]?=some (.row 5 (List.take f.body.length (smR f.body)++[[.p (.int .i64 o),.p (.str w),.p A,.p B,.p C]]))→View h (.sl id 5 0 (f.body.length+1)) (smL (f.body++[s])):=fun h id e=>oa e (fun j q a a1 a2=>mJ (e:=[.int .i64 o,.str w,A,B,C]) (hse▸a1) a2)
   simp-implicitDefEqProofs[hml]
   refine⟨⟨by omega,by omega⟩,⟨by omega,by omega⟩,?_⟩
   exact fin _ ⟨f.name,f.params,f.body++[s]⟩ _ _ _ _ (by simp) (by simp) (by simp) (by simp) (.p _) (hss _ _ rfl) (by simp[Fd.sz,bk,aq];omega) (by omega) (by omega)
  simp-implicitDefEqProofs[]
  refine(aU G b hb hl (q+1) (by omega) 5 _).mono ?_
  rintro r h ⟨i0,rfl,rfl,hi0⟩
  simp-implicitDefEqProofs[aa]
  have hs0:(Sm.mk 6 [] [⟨1,0,[],[]⟩] [] []).cs=[.int .i64 6,.str [],exL [⟨1,0,[],[]⟩],smL [],smL []]:=Sm.cs_eq _
  refine aO (fun a:NsS=>am 145 [(6,.p (.int .i64 a.i)),(5,.ptr 5 5 0 0),(4,.ptr 3 3 0 0),(3,.ptr 2 1 0 0),(2,.ptr 1 1 0 0),(0,.ptr 0 2 0 0)])
   (fun a=>[rdO b a.q,.row 1 [[.nils]],.row 1 [[.p (.lst 3 (l.map Fd.cs))]],.row 3 [[.p (.str f.name),.p (az f.params),.p (smL f.body)]],.dead,.row 5 [[.p (.int .i64 a.o),.p (.str a.w),.p a.A,.p a.B,.p a.C]]])
   (fun a=>(∃s:Sm,s.cs=[.int .i64 a.o,.str a.w,a.A,a.B,a.C]∧aR s.args≤1∧s.sz+2*a.i≤20)∧q+2≤a.q∧a.q+a.i≤q+10) (fun a=>a.i) ⟨i0,6,[],exL [⟨1,0,[],[]⟩],smL [],smL [],q+1+1⟩ ⟨⟨_,hs0,by simp[Sm.args,aR,Ex.sz],by simp[Sm.sz,aR,Ex.sz,aq];omega⟩,by simp only;omega,by simp only;omega⟩ ?_ ?_
  ·refine vC (hX:=[.dead,.dead,.dead,.dead,.row 4 [[.p (.int .i64 1),.p (.int .i64 0),.p (.str []),.nils]],.dead]) (by simp)
    (.same (bc _ _ _) (.same (by simp[okO,below]) (.same (by simp[okO,below]) (.same (by simp[okO,below]) (.give (.one ?_ .nil)))))) ?_
   ·exact .keep (by simp[below]) (.keep (by simp[below]) (.one (bn (p0:=(Ex.mk 1 0 [] []).cs) rfl (Ex.cs_len _) (fz (View.nils 4))) (.one (View.nils 5) (.one (View.nils 5) .nil))))
   ·exact⟨.keep (by simp[below]) .nil,.keep (by simp[below]) .nil,.keep (by simp[below]) .nil,.keep (by simp[below]) .nil,.keep (by simp[below]) .nil,.keep (by simp[below]) .nil,trivial⟩
  rintro⟨i,o,w,A,B,C,q1⟩ ⟨⟨s,hse,j1,j2⟩,j3,j4⟩
  simp only at hse j1 j2 j3 j4
  have hcs1:∀n:Int,(Sm.mk n [] s.args [s] []).cs=[.int .i64 n,.str [],A,.lst 5 [[.int .i64 o,.str w,A,B,C]],.lst 5 []]:=fun n=>by
   have hsa:=s.cs_eq
   rw[hse] at hsa
   simp only[List.cons.injEq] at hsa
   rw[Sm.cs_eq];simp only[Sm.op,Sm.name,Sm.args,Sm.body,Sm.els];rw[←hse,hsa.2.2.1];rfl
  have hsz:∀n:Int,(Sm.mk n [] s.args [s] []).sz=1+aR s.args+s.sz:=fun n=>by simp[Sm.sz,aq]
  simp-implicitDefEqProofs[]
  refine aW (fun hc=>?_) (fun hc=>?_)
  ·simp at hc
   simp-implicitDefEqProofs[]
   refine(uC G hb hl (p:=q1) (by omega) [5,6] (by simp) (by simp) _).mono ?_
   rintro r h ⟨n1,_,rfl,rfl⟩
   have hwk:IntKind.i64.wrap ((i:Int)-1)=((i-1:Nat):Int):=by rw[af (by omega) (by omega)];omega
   simp-implicitDefEqProofs[aa]
   refine⟨⟨i-1,n1,[],A,.lst 5 [[.int .i64 o,.str w,A,B,C]],.lst 5 [],q1+1⟩,⟨⟨_,hcs1 n1,j1,by simp only[hsz];omega⟩,by simp only;omega,by simp only;omega⟩,by simp only;omega,?_⟩
   refine vC (hX:=[.dead,.dead,.dead,.dead,.dead,.dead]) (by simp) (.same (bc _ _ _) (.same (by simp[okO,below]) (.same (by simp[okO,below]) (.same (by simp[okO,below]) (.drop (.one (.keep (by simp[below]) (.keep (by simp[below]) (.keep (by simp[below]) (.keep (by simp[below]) (.one (View.nils 5) .nil))))) .nil)))))) ?_
   simp only[hwk]
   exact⟨.keep (by simp[below]) .nil,.keep (by simp[below]) .nil,.keep (by simp[below]) .nil,.keep (by simp[below]) .nil,.keep (by simp[below]) .nil,.keep (by simp[below]) .nil,trivial⟩
  ·simp at hc
   exact⟨⟨i,o,w,A,B,C,q1⟩,⟨⟨s,hse,j1,j2⟩,j3,j4⟩,eY (m:=6) (by simp) (cY rfl rfl (ag (bc _ _ _) (ag (by simp[okO,below]) (ag (by simp[okO,below]) (ag (by simp[okO,below]) (ag (by simp[okO]) (ag (by simp[okO,below]) cH))))))) (by simp[below])⟩
 by_cases k6:k=6
 ·subst k6
  simp-implicitDefEqProofs[aa]
  refine(iE G hb hl (p:=q+1) (by omega) [20,40,41] (k:=4) (by simp) (by simp) (by omega) rfl rfl).mono ?_
  rintro r h ⟨i0,hi0,rfl,rfl⟩
  obtain⟨i,rfl,hi⟩:∃J:Nat,i0=J∧J≤41:=⟨i0.toNat,by simp at hi0;omega,by simp at hi0;omega⟩
  simp-implicitDefEqProofs[aa]
  refine aO (fun a:BdS=>am 145 [(7,.p (.int .i64 a.i)),(4,.ptr 3 3 0 0),(3,.ptr 2 1 0 0),(2,.ptr 1 1 0 0),(0,.ptr 0 2 0 0)])
   (fun a=>[rdO b (q+1+1),.row 1 [[.nils]],.row 1 [[.p (.lst 3 (l.map Fd.cs))]],.row 3 [[.p (.str f.name),.p (az f.params),.p (smL a.bd)]]])
   (fun a=>a.i≤41∧aq a.bd+10*a.i≤aq f.body+500) (fun a=>a.i) ⟨i,f.body⟩ ⟨hi,by simp only;omega⟩ ?_ ?_
  ·exact eY (m:=4) (by simp) (cY rfl rfl (ag (bc _ _ _) (ag (by simp[okO,below]) (ag (by simp[okO,below]) (ag (by simp[okO,below]) cH))))) (by simp[below])
  rintro⟨i1,bd⟩ ⟨j1,j2⟩
  simp only at j1 j2
  have hbl2:=bV bd
  have hml2:smL bd= .lst 5 (bd.map Sm.cs):=rfl
  simp-implicitDefEqProofs[hml2]
  refine aW (fun hc=>?_) (fun hc=>?_)
  ·simp at hc
   have hwk:IntKind.i64.wrap ((i1:Int)-1)=((i1-1:Nat):Int):=by rw[af (by omega) (by omega)];omega
   simp-implicitDefEqProofs[hml2]
   refine⟨⟨by omega,by omega⟩,⟨by omega,by omega⟩,⟨i1-1,bd++[⟨3,[],[⟨1,i1,[],[]⟩],[],[]⟩]⟩,⟨by simp only;omega,by simp[bk,aq,Sm.sz,aR,Ex.sz];omega⟩,by simp only;omega,?_⟩
   refine jO 4 (by omega) (by simp) rfl (.same (bc _ _ _) (.same (by simp[okO,below]) (.same (by simp[okO,below]) (.one (.keep (by simp[below]) (.keep (by simp[below]) (.one (oa rfl (bM (bn (p0:=(Ex.mk 1 i1 [] []).cs) rfl (Ex.cs_len _) (fz (View.nils 4))) (View.nils 5) (View.nils 5))) .nil))) (.nil _))))) ?_
   simp only[hwk]
   exact⟨.keep (by simp[below]) .nil,.keep (by simp[below]) .nil,.keep (by simp[below]) .nil,.keep (by simp[below]) .nil,.keep (by simp[below]) .nil,trivial⟩
  ·simp at hc
   exact fin _ ⟨f.name,f.params,bd⟩ _ _ _ _ (by simp) (by simp) (by simp) (by simp) (.p _) (.p _) (by simp[Fd.sz];omega) (by omega) (by omega)
 have c1:¬(k:Int)=1:=by omega
 have c2:¬(k:Int)=2:=by omega
 have c3:¬(k:Int)=3:=by omega
 have c4:¬(k:Int)=4:=by omega
 have c5:¬(k:Int)=5:=by omega
 have c6:¬(k:Int)=6:=by omega
 have c7:¬(k:Int)=7:=by omega
 simp-implicitDefEqProofs[aa,k0,c1,c2,c3,c4,c5,c6,c7]
 exact fin _ ⟨f.name,f.params,f.body⟩ _ _ _ _ (by simp) (by simp) (by simp) (by simp) (.p _) (.p _) (by simp only[Fd.sz];omega) (by omega) (by omega)
end Go.Proofs.YtnjbhgpbgmpkcaaGreatDoor
namespace Go.Proofs.YtnjbhgpbgmpkcaaGreatDoor
open Go Go.Aw
set_option maxRecDepth 100000
set_option maxHeartbeats 4000000
variable (G:aC)
def PshF(s:Bool)(sz:Nat)(D:List (List PV))(h0:List AO)(a:PshS):Prop:=a.i≤D.length∧h0.length≤a.id∧h0.length≤a.h.length∧(∀j,j<h0.length→a.h[j]?=h0[j]?)∧∃rows J,RowOwn s a.h a.id sz rows (D.take a.i) J∧∀j∈J,h0.length≤j
theorem ra{h h2:List AO}(hl:h.length≤h2.length)(hf:∀j,j<h.length→h2[j]?=h[j]?):h2=h++h2.drop h.length:=by
 have e:h2.take h.length=h:=by
  apply List.ext_getElem?
  intro j
  by_cases hj:j<h.length
  ·rw[List.getElem?_take_of_lt hj];exact hf j hj
  ·rw[List.getElem?_eq_none (by rw[List.length_take];omega),List.getElem?_eq_none (by omega)]
 have e2:=List.take_append_drop h.length h2
 rw[e] at e2
 exact e2.symm
theorem PshF.init{s:Bool}{sz:Nat}{D:List (List PV)}(h0 os:List AO):PshF s sz D h0 ⟨0,h0.length,h0++ .row sz []::os⟩:=
 ⟨Nat.zero_le _,Nat.le_refl _,by simp,fun j hj=>List.getElem?_append_left hj,[],[],⟨by simp,rfl,fun _ h=>(by cases h),fun _ h=>(by cases h),.nil,by simp⟩,fun j hj=>by cases hj⟩
theorem PshF.step{s:Bool}{sz i id:Nat}{D:List (List PV)}{h0 h:List AO}(H:PshF s sz D h0 ⟨i,id,h⟩){e:List PV}(hi:D[i]?=some e){h2:List AO}(hl:h.length≤h2.length)(hf:∀j,j<h.length→h2[j]?=h[j]?){r':List AV}{I2:List Nat}(ho:OwnL s h2 r' e I2)(nd2:I2.Nodup)(hn:∀j∈I2,h.length≤j)(he:e.length=sz):
 ∃rows,(∀os,(h2++os)[id]?=some (.row sz rows))∧rows.length=i∧i<D.length∧id<h2.length∧∀os1 os2,PshF s sz D h0 ⟨i+1,(h2++os1).length,(h2++os1).set id .dead++ .row sz (rows++[r'])::os2⟩:=by
 obtain⟨h1,h3,h4,h5,rows,J,hr,hJ⟩:=H
 have hil:i<D.length:=(List.getElem?_eq_some_iff.1 hi).1
 have hlen:=hr.len
 simp only at h1 h3 h4 h5 hlen hr
 rw[List.length_take,Nat.min_eq_left h1] at hlen
 have e2:=ra hl hf
 have hid:=hr.lt
 have h2e:h2[id]?=some (.row sz rows):=by rw[hf id hid];exact hr.here
 refine⟨rows,fun os=>by rw[List.getElem?_append_left (by omega)];exact h2e,hlen,hil,by omega,fun os1 os2=>⟨hil,by simp only[List.length_append];omega,by simp;omega,fun j hj=>?_,rows++[r'],J++I2,?_,fun j hj=>?_⟩⟩
 ·simp only
  rw[List.getElem?_append_left (by simp only[List.length_set,List.length_append,List.length_cons];omega),List.getElem?_set_ne (by omega),List.getElem?_append_left (by omega),hf j (by omega)]
  exact h5 j hj
 ·have hp:=(hr.push (h2:=h2++os1) (os:=h2.drop h.length++os1) (by rw[←List.append_assoc,←e2]) (ho.more os1) nd2 hn he).more os2
  have hd:D.take i++[e]=D.take (i+1):=by rw[List.take_add_one,hi];rfl
  rw[hd,List.append_assoc] at hp
  exact hp
 ·rcases List.mem_append.1 hj with hj|hj
  ·exact hJ j hj
  ·have:=hn j hj;omega
theorem PshF.done{s:Bool}{sz i id:Nat}{D:List (List PV)}{h0 h:List AO}(H:PshF s sz D h0 ⟨i,id,h⟩)(hi:D.length≤i):h0.length≤h.length∧(∀j,j<h0.length→h[j]?=h0[j]?)∧∃I,OwnL s h [.sl id sz 0 i] [.lst sz D] I∧I.Nodup∧∀j∈I,h0.length≤j:=by
 obtain⟨h1,h3,h4,h5,rows,J,hr,hJ⟩:=H
 simp only at h1 h3 h4 h5 hr
 rw[List.take_of_length_le hi] at hr
 exact⟨h4,h5,id::J,hr.tree (by omega),hr.nd,fun j hj=>by
  rcases List.mem_cons.1 hj with rfl|hj
  ·exact h3
  ·exact hJ j hj⟩
theorem uE{s:Bool}{n:Nat}{h1 os:List AO}{a b:List AV}{c d:List PV}{I1 I2:List Nat}(H1:OwnL s h1 a c I1)(n1:I1.Nodup)(f1:∀i∈I1,n≤i)(H2:OwnL s (h1++os) b d I2)(n2:I2.Nodup)(f2:∀i∈I2,h1.length≤i)(hn:n≤h1.length):
 OwnL s (h1++os) (a++b) (c++d) (I1++I2)∧(I1++I2).Nodup∧∀i∈I1++I2,n≤i:=by
 refine⟨(H1.more os).app H2,?_,fun i hi=>?_⟩
 ·rw[List.nodup_append]
  refine⟨n1,n2,fun a ha b hb e=>?_⟩
  have:=H1.lt ha;have:=f2 b hb;omega
 ·rcases List.mem_append.1 hi with hi|hi
  ·exact f1 i hi
  ·have:=f2 i hi;omega
theorem qP{α:Type}(l:List α)(a b:α):(l++[a]).set l.length b=l++[b]:=by
 rw[List.set_append_right _ _ (Nat.le_refl _),Nat.sub_self];rfl
theorem DU{h:List AO}{s:Sm}{A B E:AV}{I:List Nat}(H:OwnL true h ([A]++[B]++[E]) ([exL s.args]++[smL s.body]++[smL s.els]) I):OwnL true h [.p (.int .i64 s.op),.p (.str s.name),A,B,E] s.cs I:=by
 rw[s.cs_eq]
 exact .p _ (fun _=>rfl) (.p _ (fun _=>rfl) H)
theorem gR{s:Bool}{h:List AO}{v:AV}{q:PV}{I:List Nat}(H:OwnL s h [v] [q] I):(∃q',v= .p q')∨v= .nils∨∃a b n,v= .sl a b 0 n:=by
 cases H with
 |p q=>exact .inl ⟨_,rfl⟩
 |nils=>exact .inr (.inl rfl)
 |sl id sz n=>exact .inr (.inr ⟨_,_,_,rfl⟩)
theorem DN{s:Bool}{h:List AO}{e:Ex}{K:AV}{I:List Nat}(H:OwnL s h [K] [exL e.kids] I):OwnL s h [.p (.int .i64 e.op),.p (.int .i64 e.n),.p (.str e.name),K] e.cs I:=by
 rw[e.cs_eq]
 exact .p _ (fun _=>rfl) (.p _ (fun _=>rfl) (.p _ (fun _=>rfl) H))
theorem BB:∀(N:Nat) (e:Ex),e.sz≤N→e.sz≤1073741824→AC Tryz.prog G gk [.agg (e.cs.map .p)] [] (MkW .agg true e.cs):=by
 intro N
 induction N with
 |zero=>intro e he;have:=e.sz_eq;omega
 |succ N ih=>
  intro e he hb
  have hsz:=e.sz_eq
  have hkl:=bF e.kids
  refine AC.go sO ?_
  have hec:=e.cs_eq
  have hsl:exL e.kids= .lst 4 (e.kids.map Ex.cs):=rfl
  simp-implicitDefEqProofs[mr,hec,hsl]
  obtain⟨hb0,ehb⟩:∃hb0:List AO,hb0=[.row 4 [[.p (.int .i64 e.op),.p (.int .i64 e.n),.p (.str e.name),.p (.lst 4 (e.kids.map Ex.cs))]],.row 4 [[.p (.int .i64 0),.p (.int .i64 0),.p (.str []),.nils]]]:=⟨_,rfl⟩
  have hini:PshF true 4 (e.kids.map Ex.cs) hb0 ⟨0,2,[.row 4 [[.p (.int .i64 e.op),.p (.int .i64 e.n),.p (.str e.name),.p (.lst 4 (e.kids.map Ex.cs))]],.row 4 [[.p (.int .i64 0),.p (.int .i64 0),.p (.str []),.nils]],.row 4 []]⟩:=by
   rw[ehb];exact PshF.init _ []
  refine aO (fun a:PshS=>am 25 [(4,.p (.int .i64 a.i)),(3,.sl a.id 4 0 a.i),(2,.ptr 1 4 0 0),(1,.ptr 0 4 0 0)]) (fun a=>a.h) (PshF true 4 (e.kids.map Ex.cs) hb0) (fun a=>e.kids.length-a.i) _ hini ?_ ?_
  ·exact cd (by simp) (by simp[below])
  rintro⟨i,id,h'⟩ hJ
  have hl0:hb0.length=2:=by rw[ehb];rfl
  have g0:h'[0]?=some (.row 4 [[.p (.int .i64 e.op),.p (.int .i64 e.n),.p (.str e.name),.p (.lst 4 (e.kids.map Ex.cs))]]):=by rw[hJ.2.2.2.1 0 (by omega),ehb];rfl
  have g1:h'[1]?=some (.row 4 [[.p (.int .i64 0),.p (.int .i64 0),.p (.str []),.nils]]):=by rw[hJ.2.2.2.1 1 (by omega),ehb];rfl
  have hl2:2≤h'.length:=by have:=hJ.2.2.1;simp only at this;omega
  simp-implicitDefEqProofs[g0]
  refine aW (fun h1=>?_) (fun h1=>?_)
  ·simp at h1
   have hg:=List.getElem?_eq_getElem h1
   have hm:=bN (List.getElem_mem h1)
   have hH:=ih e.kids[i] (by omega) (by omega)
   have hcs:=e.kids[i].cs_eq
   have hDa:(e.kids.map Ex.cs)[i]?=some e.kids[i].cs:=by rw[List.getElem?_map,hg];rfl
   generalize e.kids[i]=k at hg hH hcs hDa
   have hA:=AC.mkLift uj hH (h:=h') (by rw[hcs];simp)
   rw[hcs] at hA
   simp-implicitDefEqProofs[g0,hg,hcs]
   refine hA.mono ?_
   rintro r h2 ⟨vs,I2,os,rfl,e2,ho,nd,hf⟩
   rw[←hcs] at ho
   obtain⟨rows,k1,k2,k3,k4,k5⟩:=hJ.step hDa (h2:=h2) (by rw[e2];simp) (fun x hx=>by rw[e2,List.getElem?_append_left hx]) ho nd hf k.cs_len
   obtain⟨K,rfl,hK⟩:=wH ho
   have hwi:=w1 (i:=i) (by omega)
   rcases gR hK with⟨q1,rfl⟩|rfl|⟨x1,x2,x3,rfl⟩
   ·have k6:=k5 [.row 4 [[.p (.int .i64 k.op),.p (.int .i64 k.n),.p (.str k.name),.p q1]]] []
    simp-implicitDefEqProofs[aa,k1,k2]
    rw[List.take_of_length_le (l:=rows) (i:=i) (by omega)]
    refine⟨⟨by omega,by omega⟩,_,k6,by simp only;omega,cd (by simp) ?_⟩
    simp[below,hwi]
   ·have k6:=k5 [.row 4 [[.p (.int .i64 k.op),.p (.int .i64 k.n),.p (.str k.name),.nils]]] []
    simp-implicitDefEqProofs[aa,k1,k2]
    rw[List.take_of_length_le (l:=rows) (i:=i) (by omega)]
    refine⟨⟨by omega,by omega⟩,_,k6,by simp only;omega,cd (by simp) ?_⟩
    simp[below,hwi]
   ·have k6:=k5 [.row 4 [[.p (.int .i64 k.op),.p (.int .i64 k.n),.p (.str k.name),.sl x1 x2 0 x3]]] []
    simp-implicitDefEqProofs[aa,k1,k2]
    rw[List.take_of_length_le (l:=rows) (i:=i) (by omega)]
    refine⟨⟨by omega,by omega⟩,_,k6,by simp only;omega,cd (by simp) ?_⟩
    simp[below,hwi]
  ·simp at h1
   have hie:i=e.kids.length:=by have:=hJ.1;simp at this;omega
   obtain⟨d1,d2,I,ho,nd,hI⟩:=hJ.done (by simpa using h1)
   subst hie
   have hn0:0∉I:=fun hm=>by have:=hI 0 hm;omega
   have hn1:1∉I:=fun hm=>by have:=hI 1 hm;omega
   have s0:∀x,(h'.set 0 x)[0]?=some x:=fun x=>List.getElem?_set_self (by omega)
   have s1:∀x,(h'.set 0 x)[1]?=some (.row 4 [[.p (.int .i64 0),.p (.int .i64 0),.p (.str []),.nils]]):=fun x=>by rw[List.getElem?_set_ne (by omega)];exact g1
   have s2:∀x y,((h'.set 0 x).set 1 y)[1]?=some y:=fun x y=>List.getElem?_set_self (by rw[List.length_set];omega)
   simp-implicitDefEqProofs[g0,g1,s0,s1,s2]
   rw[←hsl,←hec]
   exact⟨_,I,rfl,DN ((ho.set_out hn0 _).set_out hn1 _),nd⟩
theorem ta:∀(N:Nat) (l:List Sm),aq l<N→aq l≤1073741824→AC Tryz.prog G da [.p (smL l)] [] (MkW cN true [smL l]):=by
 intro N
 induction N with
 |zero=>intro l he;omega
 |succ N ih=>
  intro l hN hz
  have hsl:∀l,smL l= .lst 5 (l.map Sm.cs):=fun _=>rfl
  have hll:=bV l
  refine AC.go sh ?_
  simp-implicitDefEqProofs[kQ,hsl]
  refine aO (fun a:PshS=>am 52 [(4,.p (.int .i64 a.i)),(3,.sl a.id 5 0 a.i),(0,.p (smL l))]) (fun a=>a.h) (PshF true 5 (l.map Sm.cs) []) (fun a=>l.length-a.i) ⟨0,0,[.row 5 []]⟩ (PshF.init [] []) ?_ ?_
  ·exact cd (by simp) (by simp[below,hsl])
  rintro⟨i,id,hh⟩ hI
  simp-implicitDefEqProofs[hsl]
  refine aW (fun h1=>?_) (fun h1=>?_)
  ·simp at h1
   have hg:=List.getElem?_eq_getElem h1
   have hm:=eu (List.getElem_mem h1)
   have hcs:=l[i].cs_eq
   have hse:=l[i].sz_eq
   have hD:(l.map Sm.cs)[i]?=some l[i].cs:=by rw[List.getElem?_map,hg];rfl
   generalize l[i]=s at hg hm hcs hse hD
   simp-implicitDefEqProofs[hg,hcs,qP]
   have hid:id<hh.length:=by obtain⟨_,_,_,_,_,_,hr,_⟩:=hI;exact hr.lt
   have hal:=bF s.args
   have hxl:exL s.args= .lst 4 (s.args.map Ex.cs):=rfl
   obtain⟨hb,ehb⟩:∃hb,hb=hh++[AO.row 5 [[.p (.int .i64 s.op),.p (.str s.name),.p (exL s.args),.p (smL s.body),.p (smL s.els)]]]:=⟨_,rfl⟩
   have hbl:hb.length=hh.length+1:=by rw[ehb];simp
   have hbx:hb[hh.length]?=some (.row 5 [[.p (.int .i64 s.op),.p (.str s.name),.p (exL s.args),.p (smL s.body),.p (smL s.els)]]):=by rw[ehb];simp
   have hini:PshF true 4 (s.args.map Ex.cs) hb ⟨0,hh.length+1,hh++[AO.row 5 [[.p (.int .i64 s.op),.p (.str s.name),.p (exL s.args),.p (smL s.body),.p (smL s.els)]],.row 4 []]⟩:=by
    have:=PshF.init (s:=true) (sz:=4) (D:=s.args.map Ex.cs) hb []
    rw[hbl,ehb,List.append_assoc] at this
    rw[ehb];exact this
   refine aO (fun a:PshS=>am 52 [(7,.p (.int .i64 a.i)),(6,.sl a.id 4 0 a.i),(5,.ptr hh.length 5 0 0),(4,.p (.int .i64 i)),(3,.sl id 5 0 i),(0,.p (smL l))]) (fun a=>a.h) (PshF true 4 (s.args.map Ex.cs) hb) (fun a=>s.args.length-a.i) _ hini ?_ ?_
   ·refine cd (by simp) ?_
    simp[below,hsl]
    omega
   rintro⟨j,id2,h'⟩ hJ
   have hjb:h'[hh.length]?=some (.row 5 [[.p (.int .i64 s.op),.p (.str s.name),.p (exL s.args),.p (smL s.body),.p (smL s.els)]]):=by
    rw[hJ.2.2.2.1 _ (by omega)];exact hbx
   have hlb:hh.length+1≤h'.length:=by have:=hJ.2.2.1;simp only at this;omega
   simp-implicitDefEqProofs[hjb,hxl]
   refine aW (fun h2=>?_) (fun h2=>?_)
   ·simp at h2
    have hga:=List.getElem?_eq_getElem h2
    have hma:=bN (List.getElem_mem h2)
    have hC:=BB G _ s.args[j] (Nat.le_refl _) (by omega)
    have hka:=s.args[j].cs_eq
    have hDa:(s.args.map Ex.cs)[j]?=some s.args[j].cs:=by rw[List.getElem?_map,hga];rfl
    generalize s.args[j]=e at hga hma hC hka hDa
    have hA:=AC.mkLift uj hC (h:=h') (by rw[hka];simp)
    rw[hka] at hA
    simp-implicitDefEqProofs[hjb,hga,hka,hxl]
    refine hA.mono ?_
    rintro r h2 ⟨vs,I2,os,rfl,e2,ho,nd,hf⟩
    rw[←hka] at ho
    obtain⟨rows,k1,k2,k3,k4,k5⟩:=hJ.step hDa (h2:=h2) (by rw[e2];simp) (fun x hx=>by rw[e2,List.getElem?_append_left hx]) ho nd hf e.cs_len
    obtain⟨K,rfl,hK⟩:=wH ho
    have hwj:=w1 (i:=j) (by omega)
    have hl2:h'.length≤h2.length:=by rw[e2];simp
    rcases gR hK with⟨q1,rfl⟩|rfl|⟨x1,x2,x3,rfl⟩
    ·have k6:=k5 [.row 4 [[.p (.int .i64 e.op),.p (.int .i64 e.n),.p (.str e.name),.p q1]]] []
     simp-implicitDefEqProofs[aa,k1,k2]
     rw[List.take_of_length_le (l:=rows) (i:=j) (by omega)]
     refine⟨⟨by omega,by omega⟩,_,k6,by simp only;omega,cd (by simp) ?_⟩
     simp[below,hsl,hwj]
     omega
    ·have k6:=k5 [.row 4 [[.p (.int .i64 e.op),.p (.int .i64 e.n),.p (.str e.name),.nils]]] []
     simp-implicitDefEqProofs[aa,k1,k2]
     rw[List.take_of_length_le (l:=rows) (i:=j) (by omega)]
     refine⟨⟨by omega,by omega⟩,_,k6,by simp only;omega,cd (by simp) ?_⟩
     simp[below,hsl,hwj]
     omega
    ·have k6:=k5 [.row 4 [[.p (.int .i64 e.op),.p (.int .i64 e.n),.p (.str e.name),.sl x1 x2 0 x3]]] []
     simp-implicitDefEqProofs[aa,k1,k2]
     rw[List.take_of_length_le (l:=rows) (i:=j) (by omega)]
     refine⟨⟨by omega,by omega⟩,_,k6,by simp only;omega,cd (by simp) ?_⟩
     simp[below,hsl,hwj]
     omega
   ·simp at h2
    have hjl:j=s.args.length:=by have:=hJ.1;simp at this;omega
    obtain⟨d1,d2,IA,oA,nA,fA⟩:=hJ.done (by simpa using h2)
    subst hjl
    have hB:=ih s.body (by omega) (by omega)
    have hE:=ih s.els (by omega) (by omega)
    simp-implicitDefEqProofs[hjb]
    refine(AC.mkLift jS hB (h:=h') (by simp)).mono ?_
    rintro r h3 ⟨vB,IB,o1,rfl,e3,oB,nB,fB⟩
    obtain⟨B,rfl⟩:=dK oB
    have hjb3:h3[hh.length]?=some (.row 5 [[.p (.int .i64 s.op),.p (.str s.name),.p (exL s.args),.p (smL s.body),.p (smL s.els)]]):=by
     rw[e3,List.getElem?_append_left (by omega)];exact hjb
    simp-implicitDefEqProofs[aa,cN,hjb3]
    refine(AC.mkLift jS hE (h:=h3) (by simp)).mono ?_
    rintro r h4 ⟨vE,IE,o2,rfl,e4,oE,nE,fE⟩
    obtain⟨E,rfl⟩:=dK oE
    have hjb4:h4[hh.length]?=some (.row 5 [[.p (.int .i64 s.op),.p (.str s.name),.p (exL s.args),.p (smL s.body),.p (smL s.els)]]):=by
     have:hh.length<h3.length:=(List.getElem?_eq_some_iff.1 hjb3).1
     rw[e4,List.getElem?_append_left this];exact hjb3
    have cB:=gR oB
    have cE:=gR oE
    obtain⟨a1,a2,a3⟩:=uE oA nA fA (by rw[←e3];exact oB) nB fB d1
    rw[←e3] at a1
    obtain⟨b1,b2,b3⟩:=uE a1 a2 a3 (by rw[←e4];exact oE) nE fE (by rw[e3];simp;omega)
    rw[←e4] at b1
    have hS:=DU (s:=s) b1
    obtain⟨rows,k1,k2,k3,k4,k5⟩:=hI.step hD (h2:=h4) (by rw[e4,e3];simp;omega) (fun x hx=>by
     rw[e4,List.getElem?_append_left (by rw[e3];simp;omega),e3,List.getElem?_append_left (by omega),d2 x (by omega),ehb,List.getElem?_append_left hx]) hS b2 (fun x hx=>by have:=b3 x hx;omega) s.cs_len
    have k6:=k5 [.row 5 [[.p (.int .i64 s.op),.p (.str s.name),.sl id2 4 0 s.args.length,B,E]]] []
    have hwi:=w1 (i:=i) (by omega)
    rcases cB with⟨q1,rfl⟩|rfl|⟨x1,x2,x3,rfl⟩<;>rcases cE with⟨q2,rfl⟩|rfl|⟨y1,y2,y3,rfl⟩<;>
    ·simp-implicitDefEqProofs[aa,cN,hjb4,k1,k2]
     rw[List.take_of_length_le (l:=rows) (i:=i) (by omega)]
     refine⟨⟨by omega,by omega⟩,_,k6,by simp only;omega,cd (by simp) ?_⟩
     simp[below,hsl,hwi]
  ·simp at h1
   obtain⟨_,_,I,ho,nd,_⟩:=hI.done (by simpa using h1)
   have hie:i=l.length:=by have:=hI.1;simp at this;omega
   subst hie
   simp-implicitDefEqProofs[]
   exact⟨_,I,rfl,ho,nd⟩
def cpK(a:PshS):AV:=if a.i=0 then .nils else .sl a.id 3 0 a.i
def CpI(l:List Fd)(a:PshS):Prop:=a.i≤l.length∧a.h[0]?=some (.row 1 [[.p (fdL l)]])∧a.h[1]?=some (.row 1 [[.nils]])∧a.h[2]?=some (.row 1 [[cpK a]])∧
 (0<a.i→3≤a.id∧∃rows J,RowOwn true a.h a.id 3 rows ((l.map Fd.cs).take a.i) J∧∀j∈J,3≤j)
theorem ty:∀l:List Fd,l.length≤aX l
 |[]=>Nat.le_refl _
 |f::r=>by
  have:=ty r
  have h1:aX (f::r)=f.sz+aX r:=by simp[aX]
  have h2:f.sz=1+f.name.length+(f.params.length+(f.params.map List.length).sum)+aq f.body:=rfl
  simp only[List.length_cons];omega
theorem we{h:List AO}{id:Nat}{l:List (List UInt8)}(e:h[id]?=some (bC l)){n:Nat}(hn:n=l.length):OwnL true h [.sl id 1 0 n] [az l] [id]:=by
 have hr:RowOwn true h id 1 (l.map fun w=>[AV.p (.str w)]) (l.map fun w=>[PV.str w]) []:=by
  refine⟨e,by simp,fun x hx=>by obtain⟨w,_,rfl⟩:=List.mem_map.1 hx;rfl,fun x hx=>by obtain⟨w,_,rfl⟩:=List.mem_map.1 hx;rfl,?_,by simp⟩
  clear e hn
  induction l with
  |nil=>exact .nil
  |cons w r ih=>exact .p _ (fun _=>rfl) ih
 exact hr.tree (by simpa using hn)
theorem CE{h3:List AO}(hl:3≤h3.length){r:List AV}{f:Fd}{I2:List Nat}(ho:OwnL true h3 r f.cs I2)(nd:I2.Nodup)(hf:∀j∈I2,3≤j)(o x:AO):∃J,RowOwn true ((h3++[o,.row 3 [r]]).set 2 x) (h3.length+1) 3 [r] [f.cs] J∧∀j∈J,3≤j:=by
 have hr:r.length=3:=by rw[ho.len,Fd.cs_len]
 refine⟨I2,⟨?_,rfl,fun e he=>by rw[List.mem_singleton.1 he];exact hr,fun e he=>by rw[List.mem_singleton.1 he];exact Fd.cs_len f,?_,?_⟩,hf⟩
 ·rw[List.getElem?_set_ne (by omega),List.getElem?_append_right (by omega),Nat.add_sub_cancel_left];rfl
 ·have:=(ho.more [o,.row 3 [r]]).set_out (fun hm=>by have:=hf 2 hm;omega:2∉I2) x
  simpa using this
 ·rw[List.nodup_cons]
  exact⟨fun hm=>by have:=ho.lt hm;omega,nd⟩
theorem CZ{h h3:List AO}{id:Nat}{rows:List (List AV)}{D:List (List PV)}{J:List Nat}(H:RowOwn true h id 3 rows D J)(hJ:∀j∈J,3≤j)(hid:3≤id)(hh:3≤h.length)(e3:h3=h++h3.drop h.length){r:List AV}{f:Fd}{I2:List Nat}(ho:OwnL true h3 r f.cs I2)(nd:I2.Nodup)(hf:∀j∈I2,h.length≤j)(o x:AO):
 ∃J,RowOwn true (((h3++[o]).set id .dead++[AO.row 3 (rows++[r])]).set 2 x) (h3.length+1) 3 (rows++[r]) (D++[f.cs]) J∧∀j∈J,3≤j:=by
 have hp:=H.push (h2:=h3++[o]) (os:=h3.drop h.length++[o]) (by rw[←List.append_assoc,←e3]) (ho.more [o]) nd hf (Fd.cs_len f)
 have hl:(h3++[o]).length=h3.length+1:=by simp
 rw[hl] at hp
 have hl3:h.length≤h3.length:=by rw[e3];simp
 refine⟨J++I2,hp.frame fun k hk=>?_,fun j hj=>?_⟩
 ·have:3≤k:=by
   rcases List.mem_cons.1 hk with rfl|hk
   ·omega
   ·rcases List.mem_append.1 hk with hk|hk
    ·exact hJ k hk
    ·have:=hf k hk;omega
  rw[List.getElem?_set_ne (by omega)]
 ·rcases List.mem_append.1 hj with hj|hj
  ·exact hJ j hj
  ·have:=hf j hj;omega
theorem Be(l:List Fd)(hz:aX l≤1073741824):AC Tryz.prog G jc [.agg [.p (fdL l)]] [] (MkW .agg true [fdL l]):=by
 have hfl:∀l,fdL l= .lst 3 (l.map Fd.cs):=fun _=>rfl
 have hll:l.length≤aX l:=ty l
 refine AC.go sP ?_
 simp-implicitDefEqProofs[mf,hfl]
 refine aO (fun a:PshS=>am 35 [(4,.p (.int .i64 a.i)),(3,.ptr 2 1 0 0),(2,.ptr 1 1 0 0),(1,.ptr 0 1 0 0)]) (fun a=>a.h) (CpI l) (fun a=>l.length-a.i) ⟨0,0,[.row 1 [[.p (fdL l)]],.row 1 [[.nils]],.row 1 [[.nils]]]⟩ ⟨Nat.zero_le _,rfl,rfl,rfl,fun h=>by simp at h⟩ ?_ ?_
 ·exact cd (by simp) (by simp[below])
 rintro⟨i,id,h⟩ ⟨i1,i2,i3,i4,i5⟩
 simp only at i1 i2 i3 i4 i5
 have hl3:3≤h.length:=by have:=(List.getElem?_eq_some_iff.1 i4).1;omega
 have j2:∀os,(h++os)[0]?=some (.row 1 [[.p (fdL l)]]):=fun os=>by rw[List.getElem?_append_left (by omega)];exact i2
 have j4:∀os,(h++os)[2]?=some (.row 1 [[cpK ⟨i,id,h⟩]]):=fun os=>by rw[List.getElem?_append_left (by omega)];exact i4
 simp-implicitDefEqProofs[i2,hfl]
 refine aW (fun h1=>?_) (fun h1=>?_)
 ·simp at h1
  have hg:=List.getElem?_eq_getElem h1
  have hm:=dJ (List.getElem_mem h1)
  have hD:(l.map Fd.cs)[i]?=some l[i].cs:=by rw[List.getElem?_map,hg];rfl
  generalize l[i]=f at hg hm hD
  have hcs:f.cs=[.str f.name,az f.params,smL f.body]:=rfl
  have hsp:az f.params= .lst 1 (f.params.map fun w=>[.str w]):=rfl
  have hfz:f.sz=1+f.name.length+(f.params.length+(f.params.map List.length).sum)+aq f.body:=rfl
  have hB:=ta G _ f.body (Nat.lt_succ_self _) (by omega)
  by_cases hi0:i=0
  ·subst hi0
   have hk:cpK ⟨0,id,h⟩= .nils:=rfl
   rw[hk] at j4 i4
   have fin0:∀(h3:List AO) (r:List AV) (I2:List Nat) (l0:List (Nat × AV)),h.length+3≤h3.length→(∀j,j<h.length→h3[j]?=h[j]?)→OwnL true h3 r f.cs I2→I2.Nodup→(∀j∈I2,h.length≤j)→∀(o:AO) (hw:Aw.look l0 4= .p (.int .i64 (IntKind.i64.wrap 1))∧Aw.look l0 3= .ptr 2 1 0 0∧Aw.look l0 2= .ptr 1 1 0 0∧Aw.look l0 1= .ptr 0 1 0 0),
    ∃a',CpI l a'∧l.length-a'.i<l.length∧Wk 0 (am 35 l0) ((h3++[o,.row 3 [r]]).set 2 (.row 1 [[.sl (h3.length+1) 3 0 1]])) (am 35 [(4,.p (.int .i64 a'.i)),(3,.ptr 2 1 0 0),(2,.ptr 1 1 0 0),(1,.ptr 0 1 0 0)]) a'.h:=by
    intro h3 r I2 l0 hl4 hg3 oR nR fR o ⟨e4,e3,e2,e1⟩
    obtain⟨J,hJ,hJ3⟩:=CE (by omega) oR nR (fun j hj=>by have:=fR j hj;omega) o (.row 1 [[.sl (h3.length+1) 3 0 1]])
    have hd:(l.map Fd.cs).take 1=[f.cs]:=by rw[List.take_add_one,hD];rfl
    refine⟨⟨1,h3.length+1,_⟩,⟨by simp only;omega,?_,?_,?_,fun _=>⟨by simp only;omega,_,J,by simp only[hd];exact hJ,hJ3⟩⟩,by simp only;omega,cd (by simp) ?_⟩
    ·rw[List.getElem?_set_ne (by omega),List.getElem?_append_left (by omega),hg3 0 (by omega)];exact i2
    ·rw[List.getElem?_set_ne (by omega),List.getElem?_append_left (by omega),hg3 1 (by omega)];exact i3
    ·rw[List.getElem?_set_self (by simp;omega)];rfl
    ·simp[e1,e2,e3,e4,below]
     exact⟨by have:=w1 (i:=0) (by omega);simpa using this,by omega⟩
   simp-implicitDefEqProofs[i2,hfl,hg,hcs,hsp,qP, ↓j2, ↓j4]
   refine⟨⟨by omega,by omega⟩,?_⟩
   refine(AC.mkLift jS hB (by simp)).mono ?_
   rintro r h3 ⟨vB,IB,o1,rfl,e3,oB,nB,fB⟩
   obtain⟨B,rfl⟩:=dK oB
   simp at fB
   have hg3:∀j,j<h.length→h3[j]?=h[j]?:=fun j hj=>by rw[e3,List.append_assoc,List.getElem?_append_left hj]
   have p0:h3[h.length]?=some (.row 3 [[.p (.str f.name),.p (.lst 1 (f.params.map fun w=>[.str w])),.p (smL f.body)]]):=by
    rw[e3,List.append_assoc,List.getElem?_append_right (Nat.le_refl _),Nat.sub_self];rfl
   have p2:h3[h.length+2]?=some (bC f.params):=by
    rw[e3,List.append_assoc,List.getElem?_append_right (by omega),Nat.add_sub_cancel_left]
    simp[bC,Function.comp_def]
   have oP:=we p2 (n:=f.params.length) rfl
   have hl4:h.length+3≤h3.length:=by rw[e3];simp
   have q0:∀os,(h3++os)[2]?=some (.row 1 [[.nils]]):=fun os=>by rw[List.getElem?_append_left (by omega),hg3 2 (by omega)];exact i4
   have q1:h3[2]?=some (.row 1 [[.nils]]):=by rw[hg3 2 (by omega)];exact i4
   have q2:∀os,(h3++os)[h.length]?=some (.row 3 [[.p (.str f.name),.p (.lst 1 (f.params.map fun w=>[.str w])),.p (smL f.body)]]):=fun os=>by rw[List.getElem?_append_left (by omega)];exact p0
   clear p2
   have hfR:∀j∈[h.length+2]++IB,h.length≤j:=fun j hj=>by
    rcases List.mem_append.1 hj with hj|hj
    ·rw[List.mem_singleton.1 hj];omega
    ·have:=fB j hj;omega
   have hnR:([h.length+2]++IB).Nodup:=List.nodup_cons.2 ⟨fun hm=>by have:=fB _ hm;omega,nB⟩
   rcases gR oB with⟨b1,rfl⟩|rfl|⟨x1,x2,x3,rfl⟩
   ·have oR:=mW (s:=true) (w:=f.name) oP oB
    simp-implicitDefEqProofs[aa,cN, ↓q1, ↓p0, ↓q0, ↓q2]
    exact fin0 h3 _ _ _ hl4 hg3 oR hnR hfR _ (by simp)
   ·have oR:=mW (s:=true) (w:=f.name) oP oB
    simp-implicitDefEqProofs[aa,cN, ↓q1, ↓p0, ↓q0, ↓q2]
    exact fin0 h3 _ _ _ hl4 hg3 oR hnR hfR _ (by simp)
   ·have oR:=mW (s:=true) (w:=f.name) oP oB
    simp-implicitDefEqProofs[aa,cN, ↓q1, ↓p0, ↓q0, ↓q2]
    exact fin0 h3 _ _ _ hl4 hg3 oR hnR hfR _ (by simp)
  ·have hk:cpK ⟨i,id,h⟩= .sl id 3 0 i:=if_neg hi0
   rw[hk] at j4 i4
   obtain⟨hid3,rows,J,hr,hJ3⟩:=i5 (by omega)
   have hrl:rows.length=i:=by have:=hr.len;rw[List.length_take,List.length_map] at this;omega
   have hidl:=hr.lt
   have fin0:∀(h3:List AO) (r:List AV) (I2:List Nat) (l0:List (Nat × AV)),h.length+3≤h3.length→(∀j,j<h.length→h3[j]?=h[j]?)→OwnL true h3 r f.cs I2→I2.Nodup→(∀j∈I2,h.length≤j)→∀(o:AO) (hw:Aw.look l0 4= .p (.int .i64 (IntKind.i64.wrap ((i:Int)+1)))∧Aw.look l0 3= .ptr 2 1 0 0∧Aw.look l0 2= .ptr 1 1 0 0∧Aw.look l0 1= .ptr 0 1 0 0),
    ∃a',CpI l a'∧l.length-a'.i<l.length-i∧Wk 0 (am 35 l0) (((h3++[o]).set id .dead++[AO.row 3 (rows++[r])]).set 2 (.row 1 [[.sl (h3.length+1) 3 0 (i+1)]])) (am 35 [(4,.p (.int .i64 a'.i)),(3,.ptr 2 1 0 0),(2,.ptr 1 1 0 0),(1,.ptr 0 1 0 0)]) a'.h:=by
    intro h3 r I2 l0 hl4 hg3 oR nR fR o ⟨e4,e3,e2,e1⟩
    obtain⟨J2,hJ,hJ4⟩:=CZ hr hJ3 hid3 hl3 (ra (by omega) hg3) oR nR fR o (.row 1 [[.sl (h3.length+1) 3 0 (i+1)]])
    have hd:(l.map Fd.cs).take i++[f.cs]=(l.map Fd.cs).take (i+1):=by rw[List.take_add_one,hD];rfl
    rw[hd] at hJ
    refine⟨⟨i+1,h3.length+1,_⟩,⟨by simp only;omega,?_,?_,?_,fun _=>⟨by simp only;omega,_,J2,hJ,hJ4⟩⟩,by simp only;omega,cd (by simp) ?_⟩
    ·rw[List.getElem?_set_ne (by omega),List.getElem?_append_left (by simp only[List.length_set,List.length_append,List.length_cons];omega),List.getElem?_set_ne (by omega),List.getElem?_append_left (by omega),hg3 0 (by omega)];exact i2
    ·rw[List.getElem?_set_ne (by omega),List.getElem?_append_left (by simp only[List.length_set,List.length_append,List.length_cons];omega),List.getElem?_set_ne (by omega),List.getElem?_append_left (by omega),hg3 1 (by omega)];exact i3
    ·rw[List.getElem?_set_self (by simp;omega),cpK,if_neg (show¬(i+1=0) by omega)]
    ·simp[e1,e2,e3,e4,below]
     exact⟨w1 (i:=i) (by omega),by omega⟩
   simp-implicitDefEqProofs[i2,hfl,hg,hcs,hsp,qP, ↓j2, ↓j4]
   refine⟨⟨by omega,by omega⟩,?_⟩
   refine(AC.mkLift jS hB (by simp)).mono ?_
   rintro r h3 ⟨vB,IB,o1,rfl,e3,oB,nB,fB⟩
   obtain⟨B,rfl⟩:=dK oB
   simp at fB
   have hg3:∀j,j<h.length→h3[j]?=h[j]?:=fun j hj=>by rw[e3,List.append_assoc,List.getElem?_append_left hj]
   have p0:h3[h.length]?=some (.row 3 [[.p (.str f.name),.p (.lst 1 (f.params.map fun w=>[.str w])),.p (smL f.body)]]):=by
    rw[e3,List.append_assoc,List.getElem?_append_right (Nat.le_refl _),Nat.sub_self];rfl
   have p2:h3[h.length+2]?=some (bC f.params):=by
    rw[e3,List.append_assoc,List.getElem?_append_right (by omega),Nat.add_sub_cancel_left]
    simp[bC,Function.comp_def]
   have oP:=we p2 (n:=f.params.length) rfl
   have hl4:h.length+3≤h3.length:=by rw[e3];simp
   have q0:∀os,(h3++os)[2]?=some (.row 1 [[.sl id 3 0 i]]):=fun os=>by rw[List.getElem?_append_left (by omega),hg3 2 (by omega)];exact i4
   have q1:h3[2]?=some (.row 1 [[.sl id 3 0 i]]):=by rw[hg3 2 (by omega)];exact i4
   have q2:∀os,(h3++os)[h.length]?=some (.row 3 [[.p (.str f.name),.p (.lst 1 (f.params.map fun w=>[.str w])),.p (smL f.body)]]):=fun os=>by rw[List.getElem?_append_left (by omega)];exact p0
   clear p2
   have q4:∀x o y,((h3++x).set id o++y)[2]?=some (.row 1 [[.sl id 3 0 i]]):=fun x o y=>by
    rw[List.getElem?_append_left (by simp only[List.length_set,List.length_append];omega),List.getElem?_set_ne (by omega),List.getElem?_append_left (by omega),hg3 2 (by omega)];exact i4
   have q3:∀os,(h3++os)[id]?=some (.row 3 rows):=fun os=>by rw[List.getElem?_append_left (by omega),hg3 id hidl];exact hr.here
   have hfR:∀j∈[h.length+2]++IB,h.length≤j:=fun j hj=>by
    rcases List.mem_append.1 hj with hj|hj
    ·rw[List.mem_singleton.1 hj];omega
    ·have:=fB j hj;omega
   have hnR:([h.length+2]++IB).Nodup:=List.nodup_cons.2 ⟨fun hm=>by have:=fB _ hm;omega,nB⟩
   rcases gR oB with⟨b1,rfl⟩|rfl|⟨x1,x2,x3,rfl⟩
   ·have oR:=mW (s:=true) (w:=f.name) oP oB
    simp-implicitDefEqProofs[aa,cN, ↓q1, ↓p0, ↓q0, ↓q2, ↓q3, ↓q4,hrl]
    rw[List.take_of_length_le (l:=rows) (i:=i) (by omega)]
    refine⟨⟨by omega,by omega⟩,?_⟩
    exact fin0 h3 _ _ _ hl4 hg3 oR hnR hfR _ (by simp)
   ·have oR:=mW (s:=true) (w:=f.name) oP oB
    simp-implicitDefEqProofs[aa,cN, ↓q1, ↓p0, ↓q0, ↓q2, ↓q3, ↓q4,hrl]
    rw[List.take_of_length_le (l:=rows) (i:=i) (by omega)]
    refine⟨⟨by omega,by omega⟩,?_⟩
    exact fin0 h3 _ _ _ hl4 hg3 oR hnR hfR _ (by simp)
   ·have oR:=mW (s:=true) (w:=f.name) oP oB
    simp-implicitDefEqProofs[aa,cN, ↓q1, ↓p0, ↓q0, ↓q2, ↓q3, ↓q4,hrl]
    rw[List.take_of_length_le (l:=rows) (i:=i) (by omega)]
    refine⟨⟨by omega,by omega⟩,?_⟩
    exact fin0 h3 _ _ _ hl4 hg3 oR hnR hfR _ (by simp)
 ·simp at h1
  have hie:i=l.length:=by omega
  subst hie
  have s1:∀x,(h.set 1 x)[1]?=some x:=fun x=>List.getElem?_set_self (by omega)
  by_cases hi0:l.length=0
  ·have hk:cpK ⟨l.length,id,h⟩= .nils:=if_pos hi0
   rw[hk] at i4
   simp-implicitDefEqProofs[i4,i3,s1]
   obtain rfl:=List.eq_nil_of_length_eq_zero hi0
   exact⟨[.nils],[],rfl,.nils 3 .nil,by simp⟩
  ·have hk:cpK ⟨l.length,id,h⟩= .sl id 3 0 l.length:=if_neg hi0
   rw[hk] at i4
   obtain⟨hid3,rows,J,hr,hJ3⟩:=i5 (by omega)
   rw[List.take_of_length_le (by simp)] at hr
   simp-implicitDefEqProofs[i4,i3,s1]
   have ho:=hr.tree (n:=l.length) (by simp)
   exact⟨[.sl id 3 0 l.length],id::J,rfl,ho.set_out (fun hm=>by
    rcases List.mem_cons.1 hm with hm|hm
    ·omega
    ·have:=hJ3 _ hm;omega) _,hr.nd⟩
end Go.Proofs.YtnjbhgpbgmpkcaaGreatDoor
namespace Go.Proofs.YtnjbhgpbgmpkcaaGreatDoor
open Go Go.Aw
set_option maxRecDepth 100000
set_option maxHeartbeats 4000000
variable (G:aC)
theorem Bz{s:Bool}{b:List Int}{q:Nat}{T:List AO}{vs:List AV}{qs:List PV}{I:List Nat}(H:OwnL s (rdO b q::T) vs qs I)(hI:∀i∈I,1≤i)(o:AO):OwnL s (o::T) vs qs I:=
 H.frame fun i hi=>by
  have:=hI i hi
  obtain⟨k,rfl⟩:∃k,i=k+1:=⟨i-1,by omega⟩
  rfl
theorem CG{b:List Int}{p q:Nat}{T:List AO}{v:AV}{l:List Fd}{I:List Nat}(H:OwnL true (rdO b q::T) [v] [fdL l] I)(hI:∀i∈I,1≤i)(hz:aX l≤900000000)(h1:p≤q)(h2:q≤p+400500000):DP b (PgQ p 900000000 400500000) (.ret (.agg [v])) (rdO b q::T):=
 ⟨_,T,q,.agg [.p (fdL l)],rfl,rfl,.agg (.one ((Bz H hI .dead).view 0 v _ rfl rfl) .nil) .nil,⟨l,rfl,hz⟩,h1,h2⟩
theorem Av{l:List Sm}{k:Nat}{s0:Sm}(s:Sm)(h:l[k]?=some s0):aq (l.set k s)+s0.sz=aq l+s.sz:=by
 obtain⟨hk,h⟩:=List.getElem?_eq_some_iff.1 h
 subst h
 ·rw[ee s hk,bk]
  have e:l=l.take k++l.drop k:=(List.take_append_drop _ _).symm
  have h1:aq l=aq (l.take k)+aq (l.drop k):=by rw[←bk,←e]
  have h4:aq (l.drop k)=l[k].sz+aq (l.drop (k+1)):=by rw[List.drop_eq_getElem_cons hk];rfl
  simp only[aq]
  omega
theorem CJ(l:List Ex)(k:Nat)(s:Ex):aR (l.set k s)≤aR l+s.sz:=by
 by_cases hk:k<l.length
 ·rw[ee s hk,cF]
  have e:l=l.take k++l.drop k:=(List.take_append_drop _ _).symm
  have h1:aR l=aR (l.take k)+aR (l.drop k):=by rw[←cF,←e]
  have h4:aR (l.drop k)=l[k].sz+aR (l.drop (k+1)):=by rw[List.drop_eq_getElem_cons hk];rfl
  simp only[aR]
  omega
 ·rw[List.set_eq_of_length_le (by omega)];omega
theorem uN{α:Type}{l:List α}{k:Nat}{x:α}(h:l[k]?=some x):l.set k x=l:=by
 apply List.ext_getElem?
 intro i
 by_cases hi:k=i
 ·subst hi;rw[List.getElem?_set_self (List.getElem?_eq_some_iff.1 h).1,h]
 ·rw[List.getElem?_set_ne hi]
theorem AD{h:List AO}{id sz n m:Nat}{es:List (List PV)}(H:View h (.sl id sz 0 n) (.lst sz es))(hm:m≤es.length):View h (.sl id sz 0 m) (.lst sz (es.take m)):=by
 cases H with
 |sl _ _ _ rows _ e1 e2 e3 e4=>
  have hl:(es.take m).length=m:=by rw[List.length_take];omega
  have:=View.sl id sz 0 rows (es.take m) e1 (by omega) (fun e he=>e3 e (List.mem_of_mem_take he)) (fun i j e q e' a a1 a2 a3 a4=>by
   have hi:i<m:=by have:=(List.getElem?_eq_some_iff.1 a1).1;omega
   rw[List.getElem?_take_of_lt hi] at a1
   exact e4 i j e q e' a a1 a2 a3 a4)
  rwa[hl] at this
theorem Bs{b:List Int}(hb:Byt b)(hl:b.length≤2000){p:Nat}(hp:p≤5000000000):AC Tryz.prog G gg [.ptr 0 2 0 0] [rdO b p] fun x h=>∃v q,x= .ret v∧h=[rdO b q]∧PgQ p 900000000 400500000 v q:=by
 refine jL G (AC.go su ?_)
 have hprog:AC Tryz.prog G bI [.ptr 0 2 0 0] [rdO b p] fun x h=>∃v q,x= .ret v∧h=[rdO b q]∧((∃l:List Fd,v= .agg [.p (fdL l)]∧bp l=true∧aX l≤200000000)∧p≤q∧q≤p+200000000):=
  (wW G hb hl (by omega)).mono fun x h ⟨l,q,e1,e2,e3,e4,e5,e6⟩=>⟨_,q,e1,e2,⟨l,rfl,e3,e4⟩,e5,e6⟩
 simp-implicitDefEqProofs[my]
 refine(gC G hprog _ (by simp[below])).mono ?_
 rintro r h ⟨v,q,rfl,rfl,⟨l,rfl,hok,hz⟩,h1,h2⟩
 have hlen:=((mU l).1 hok).1
 have hfd:=((mU l).1 hok).2.1
 simp-implicitDefEqProofs[aa]
 refine(aU G b hb hl q (by omega) 5 _).mono ?_
 rintro r h ⟨k1,rfl,rfl,_⟩
 simp-implicitDefEqProofs[aa]
 refine aW (fun hc=>?_) (fun hc=>?_)
 ·simp-implicitDefEqProofs[]
  exact⟨_,_,q+1,.agg [.p (fdL l)],rfl,rfl,.keep (by simp) .nil,⟨l,rfl,by omega⟩,by omega,by omega⟩
 simp-implicitDefEqProofs[]
 refine(aU G b hb hl (q+1) (by omega) 6 _).mono ?_
 rintro r h ⟨k2,rfl,rfl,_⟩
 simp-implicitDefEqProofs[aa]
 refine aW (fun hc2=>?_) (fun hc2=>?_)
 ·simp-implicitDefEqProofs[]
  refine(gC G (AL G hb hl (p:=q+1+1) (by omega)) _ (by simp[below])).mono ?_
  rintro r h ⟨v,q2,rfl,rfl,⟨l2,rfl,hz2⟩,h3,h4⟩
  simp-implicitDefEqProofs[aa]
  exact⟨_,_,q2,.agg [.p (fdL l2)],rfl,rfl,.keep (by simp) .nil,⟨l2,rfl,by omega⟩,by omega,by omega⟩
 simp-implicitDefEqProofs[]
 refine(AC.mkLift uj (Be G l (by omega)) (by simp)).mono ?_
 rintro r h ⟨vs,I,os,rfl,rfl,ho,nd,hI⟩
 obtain⟨v,rfl⟩:=dK ho
 have hne:l.map Fd.cs≠[]:=by intro h;rw[List.map_eq_nil_iff] at h;rw[h] at hlen;simp at hlen
 simp at hI
 rcases ho.inv nd with⟨h0,_⟩|⟨h0,_⟩|⟨id,rowsF,JF,rfl,rfl,hF⟩
 ·exact absurd h0 hne
 ·cases h0
 have hid3:3≤id:=hI id (by simp)
 obtain⟨fF,rfl⟩:∃fF,id=fF+1:=⟨id-1,by omega⟩
 rw[List.length_map]
 simp-implicitDefEqProofs[aa]
 have hF2:∀q',RowOwn true (rdO b q':: .row 1 [[.nils]]:: .row 1 [[.sl (fF+1) 3 0 l.length]]::os) (fF+1) 3 rowsF (l.map Fd.cs) JF:=fun q'=>hF.frame fun i hi=>by
  have:=hI i (by simpa using hi)
  obtain⟨k,rfl⟩:∃k,i=k+3:=⟨i-3,by omega⟩
  rfl
 have hI3:∀j∈JF,3≤j:=fun j hj=>hI j (by simp[hj])
 have hnF:=hF.nd
 clear hF ho
 obtain⟨T,hT⟩:∃T,T= .row 1 [[.nils]]:: .row 1 [[AV.sl (fF+1) 3 0 l.length]]::os:=⟨_,rfl⟩
 rw[←hT] at hF2⊢
 have t0:T[0]?=some (.row 1 [[.nils]]):=by rw[hT];rfl
 have t1:T[1]?=some (.row 1 [[.sl (fF+1) 3 0 l.length]]):=by rw[hT];rfl
 have tF:T[fF]?=some (.row 3 rowsF):=(hF2 0).here
 clear hT
 refine(aU G b hb hl (q+1+1) (by omega) l.length _).mono ?_
 rintro r h ⟨k,rfl,rfl,hk⟩
 have hkl:k<l.length:=by omega
 have hgk:=List.getElem?_eq_getElem hkl
 have hfk:=hfd _ (List.getElem_mem hkl)
 have hzk:=dJ (List.getElem_mem hkl)
 have hDk:(l.map Fd.cs)[k]?=some l[k].cs:=by rw[List.getElem?_map,hgk];rfl
 generalize l[k]=f at hgk hfk hzk hDk
 obtain⟨rF,J1,Jk,J2,r1,rfl,r2,r5⟩:=(hF2 (q+1+1+1)).own.put (hF2 0).len (hF2 0).rl (hF2 0).dl hDk
 obtain⟨A,B,IA,IB,rfl,rfl,oA,oB⟩:=FO r2
 have hltJ:∀j∈J1++(IA++IB++J2),j<T.length+1:=fun j hj=>by have:=(hF2 0).own.lt hj;simpa using this
 have hnd:=hnF
 rw[List.nodup_cons] at hnd
 have hn1:fF+1∉J1++(IA++IB++J2):=hnd.1
 have hn2:=hnd.2
 have hIB:∀j∈IB,3≤j:=fun j hj=>hI3 j (by simp[hj])
 have nIB:IB.Nodup:=(List.nodup_append.1 (List.nodup_append.1 (List.nodup_append.1 hn2).2.1).1).2.1
 have hDl:(l.map Fd.cs).length=l.length:=by simp
 have finG:∀(U:List AO) (q':Nat) (B':AV) (I':List Nat) (sl':List Sm),(∀i,2≤i→i<T.length→i≠fF→i+1∉IB→U[i]?=T[i]?)→U[fF]?=some (.row 3 (rowsF.set k [.p (.str f.name),A,B']))→OwnL true (rdO b q'::U) [B'] [smL sl'] I'→(∀i∈I',1≤i)→
  aq sl'≤450000000→p≤q'→q'≤p+400500000→DP b (PgQ p 900000000 400500000) (.ret (.agg [.sl (fF+1) 3 0 l.length])) (rdO b q'::U):=by
  intro U q' B' I' sl' hU hUF oB' hI' hz' h3 h4
  have hfr:∀j∈J1++J2++IA,(rdO b q'::U)[j]?=(rdO b (q+1+1+1)::T)[j]?:=fun j hj=>by
   have hjm:j∈J1++(IA++IB++J2):=by simp only[List.mem_append] at hj⊢;rcases hj with(hj|hj)|hj<;>simp[hj]
   have hj3:=hI3 j hjm
   have hjl:=hltJ j hjm
   obtain⟨i,rfl⟩:∃i,j=i+1:=⟨j-1,by omega⟩
   rw[List.getElem?_cons_succ,List.getElem?_cons_succ]
   refine hU i (by omega) (by omega) (fun e=>hn1 (e▸hjm)) fun hm=>?_
   simp only[List.nodup_append,List.mem_append] at hn2
   obtain⟨n1,⟨⟨n2,n3,n4⟩,n5,n6⟩,n7⟩:=hn2
   simp only[List.mem_append] at hj
   rcases hj with(hj|hj)|hj
   ·exact n7 _ hj _ (.inl (.inr hm)) rfl
   ·exact n6 _ (.inr hm) _ hj rfl
   ·exact n4 _ hj _ hm rfl
  have oR:=mW (s:=true) (w:=f.name) (oA.frame fun i hi=>hfr i (by simp[hi])) oB'
  have oW:=r5 (rdO b q'::U) _ _ _ (fun j hj=>hfr j (by simp only[List.mem_append] at hj⊢;exact .inl hj)) oR
  have hD':(l.map Fd.cs).set k (Fd.mk f.name f.params sl').cs=(l.set k ⟨f.name,f.params,sl'⟩).map Fd.cs:=by rw[List.map_set]
  have tree:=OwnL.sl (s:=true) (h:=rdO b q'::U) (fF+1) 3 l.length (rowsF.set k [.p (.str f.name),A,B']) ((l.map Fd.cs).set k (Fd.mk f.name f.params sl').cs) hUF (by simp) (by have:=(hF2 0).len;simpa using this) (fun e he=>by
   rcases List.mem_or_eq_of_mem_set he with h|rfl
   ·exact(hF2 0).rl e h
   ·rfl) (fun e he=>by
   rcases List.mem_or_eq_of_mem_set he with h|rfl
   ·exact(hF2 0).dl e h
   ·rfl) oW .nil
  rw[hD'] at tree
  have hsz:=vU l k ⟨f.name,f.params,sl'⟩
  have hfz:f.sz=1+f.name.length+(f.params.length+(f.params.map List.length).sum)+aq f.body:=rfl
  have hfz':(Fd.mk f.name f.params sl').sz=1+f.name.length+(f.params.length+(f.params.map List.length).sum)+aq sl':=rfl
  refine CG (l:=l.set k ⟨f.name,f.params,sl'⟩) tree (fun i hi=>?_) (by omega) h3 h4
  simp only[List.mem_cons,List.mem_append,List.not_mem_nil,or_false] at hi
  rcases hi with rfl|hi|(hi|hi)|hi
  ·omega
  ·have:=hI3 i (by simp[hi]);omega
  ·have:=hI3 i (by simp[hi]);omega
  ·exact hI' i hi
  ·have:=hI3 i (by simp[hi]);omega
 have hset:rowsF.set k [.p (.str f.name),A,B]=rowsF:=by
  apply List.ext_getElem?
  intro i
  by_cases hi:k=i
  ·subst hi;rw[List.getElem?_set_self (List.getElem?_eq_some_iff.1 r1).1,r1]
  ·rw[List.getElem?_set_ne hi]
 have hf2:2≤fF:=by omega
 have s0:∀x,(T.set 0 x)[0]?=some x:=fun x=>List.getElem?_set_self (by have:=(List.getElem?_eq_some_iff.1 t0).1;omega)
 have hbz:f.sz=1+f.name.length+(f.params.length+(f.params.map List.length).sum)+aq f.body:=rfl
 simp-implicitDefEqProofs[aa,t0,t1,tF,r1,hkl]
 have fin0:∀q' x,p≤q'→q'≤p+400500000→DP b (PgQ p 900000000 400500000) (.ret (.agg [.sl (fF+1) 3 0 l.length])) (rdO b q'::T.set 0 x):=fun q' x h3 h4=>
  finG (T.set 0 x) q' B IB f.body (fun i h1 _ _ _=>List.getElem?_set_ne (by omega)) (by rw[List.getElem?_set_ne (by omega),hset];exact tF) (oB.frame fun j hj=>by
   have:=hIB j hj
   obtain⟨i,rfl⟩:∃i,j=i+1:=⟨j-1,by omega⟩
   rw[List.getElem?_cons_succ,List.getElem?_cons_succ,List.getElem?_set_ne (by omega)]) (fun i hi=>by have:=hIB i hi;omega) (by omega) h3 h4
 rcases oB.inv nIB with⟨h0,_,rfl|rfl⟩|⟨h0,_⟩|⟨idB,rowsB,JB,rfl,rfl,hB⟩
 ·simp-implicitDefEqProofs[t0,t1,s0]
  exact fin0 _ _ (by omega) (by omega)
 ·simp-implicitDefEqProofs[t0,t1,s0]
  exact fin0 _ _ (by omega) (by omega)
 ·cases h0
 rw[List.length_map] at*
 by_cases hbe:f.body.length=0
 ·simp-implicitDefEqProofs[hbe,t0,t1,s0]
  have:=fin0 (q+1+1+1) (.row 1 [[.sl (fF+1) 3 0 l.length]]) (by omega) (by omega)
  exact this
 simp-implicitDefEqProofs[hbe,t0,t1,tF,r1]
 refine(aU G b hb hl (q+1+1+1) (by omega) f.body.length _).mono ?_
 rintro r h ⟨j,rfl,rfl,hj⟩
 have hjl:j<f.body.length:=by omega
 obtain⟨fB,rfl⟩:∃fB,idB=fB+1:=⟨idB-1,by have:=hIB idB (by simp);omega⟩
 have hB3:=hIB (fB+1) (by simp)
 have tB:T[fB]?=some (.row 5 rowsB):=hB.here
 have hgj:=List.getElem?_eq_getElem hjl
 have hzj:=eu (List.getElem_mem hjl)
 have hok5:aI 4 f.body[j]=true:=by
  simp only[iy,Bool.and_eq_true] at hfk
  exact List.all_eq_true.1 hfk.2 _ (List.getElem_mem hjl)
 have hDj:(f.body.map Sm.cs)[j]?=some f.body[j].cs:=by rw[List.getElem?_map,hgj];rfl
 generalize f.body[j]=sm at hgj hzj hok5 hDj
 obtain⟨rB,K1,Kj,K2,u1,rfl,u2,u5⟩:=hB.own.put hB.len hB.rl hB.dl hDj
 obtain⟨A1,B1,E1,I1,I2,I3,rfl,rfl,oA1,oB1,oE1⟩:=EW u2
 simp-implicitDefEqProofs[aa,hjl,t0,t1,tF,r1,tB,u1]
 refine(wj G hb hl (p:=q+1+1+1+1) (by omega) [[122,122],[97],[98],[99],[100]] (k:=T.length+1) (by simp) (by simp) (by omega) rfl (by simp[bC])).mono ?_
 rintro r h ⟨s,hs,rfl,rfl⟩
 have hs8:s.length≤8:=by simp at hs;rcases hs with rfl|rfl|rfl|rfl|rfl<;>simp
 have nB:=nIB
 rw[List.nodup_cons] at nB
 have finS:∀(U:List AO) (q':Nat) (o':Int) (nm':List UInt8) (A':AV) (I':List Nat) (ar':List Ex),(∀i,2≤i→i<T.length→i≠fB→i+1∉I1→U[i]?=T[i]?)→U[fB]?=some (.row 5 (rowsB.set j [.p (.int .i64 o'),.p (.str nm'),A',B1,E1]))→OwnL true (rdO b q'::U) [A'] [exL ar'] I'→(∀i∈I',1≤i)→
  aR ar'+nm'.length≤aR sm.args+sm.name.length+1000→p≤q'→q'≤p+400500000→DP b (PgQ p 900000000 400500000) (.ret (.agg [.sl (fF+1) 3 0 l.length])) (rdO b q'::U):=by
  intro U q' o' nm' A' I' ar' hU hUB oA' hI' hz' h3 h4
  have hmem:∀x∈K1++K2++I2++I3,x∈K1++(I1++(I2++I3)++K2):=fun x hx=>by
   simp only[List.mem_append] at hx⊢
   rcases hx with((hx|hx)|hx)|hx<;>simp[hx]
  have hltB:∀x∈K1++(I1++(I2++I3)++K2),x<T.length+1:=fun x hx=>by have:=hB.own.lt hx;simpa using this
  have hfr:∀x∈K1++K2++I2++I3,(rdO b q'::U)[x]?=(rdO b (q+1+1+1)::T)[x]?:=fun x hx=>by
   have hm:=hmem x hx
   have hx3:=hIB x (List.mem_cons_of_mem _ hm)
   have hxl:=hltB x hm
   obtain⟨i,rfl⟩:∃i,x=i+1:=⟨x-1,by omega⟩
   rw[List.getElem?_cons_succ,List.getElem?_cons_succ]
   refine hU i (by omega) (by omega) (fun e=>nB.1 (e▸hm)) fun hm1=>?_
   have hn:=nB.2
   simp only[List.nodup_append,List.mem_append] at hn
   obtain⟨n1,⟨⟨n2,⟨n3,n3',n3''⟩,n4⟩,n5,n6⟩,n7⟩:=hn
   simp only[List.mem_append] at hx
   rcases hx with((hx|hx)|hx)|hx
   ·exact n7 _ hx _ (.inl (.inl hm1)) rfl
   ·exact n6 _ (.inl hm1) _ hx rfl
   ·exact n4 _ hm1 _ (.inl hx) rfl
   ·exact n4 _ hm1 _ (.inr hx) rfl
  have oS:=Fq (s:=true) (o:=o') (w:=nm') oA' (oB1.frame fun i hi=>hfr i (by simp[hi])) (oE1.frame fun i hi=>hfr i (by simp[hi]))
  have oW:=u5 (rdO b q'::U) _ _ _ (fun x hx=>hfr x (by simp only[List.mem_append] at hx⊢;exact .inl (.inl hx))) oS
  have hD':(f.body.map Sm.cs).set j (Sm.mk o' nm' ar' sm.body sm.els).cs=(f.body.set j ⟨o',nm',ar',sm.body,sm.els⟩).map Sm.cs:=by rw[List.map_set]
  have tree:=OwnL.sl (s:=true) (h:=rdO b q'::U) (fB+1) 5 f.body.length (rowsB.set j [.p (.int .i64 o'),.p (.str nm'),A',B1,E1]) ((f.body.map Sm.cs).set j (Sm.mk o' nm' ar' sm.body sm.els).cs) hUB (by simp) (by have:=hB.len;simpa using this) (fun e he=>by
   rcases List.mem_or_eq_of_mem_set he with h|rfl
   ·exact hB.rl e h
   ·rfl) (fun e he=>by
   rcases List.mem_or_eq_of_mem_set he with h|rfl
   ·exact hB.dl e h
   ·exact Sm.cs_len _) oW .nil
  rw[hD'] at tree
  have hsz:=Av (s:=⟨o',nm',ar',sm.body,sm.els⟩) hgj
  have hsm:=sm.sz_eq
  have hsm':(Sm.mk o' nm' ar' sm.body sm.els).sz=1+nm'.length+aR ar'+aq sm.body+aq sm.els:=rfl
  have hFB:fF≠fB:=fun e=>hn1 (by rw[e];simp)
  have hFI:fF+1∉I1:=fun hm=>hn1 (by simp[hm])
  have hFT:fF<T.length:=(List.getElem?_eq_some_iff.1 tF).1
  refine finG U q' (.sl (fB+1) 5 0 f.body.length) _ (f.body.set j ⟨o',nm',ar',sm.body,sm.els⟩) (fun i g1 g2 g3 g4=>hU i g1 g2 (fun e=>g4 (by rw[e];simp)) fun hm=>g4 (by simp[hm])) (by rw[hU fF hf2 hFT hFB hFI,hset];exact tF) tree (fun i hi=>?_) (by omega) h3 h4
  simp only[List.mem_cons,List.mem_append,List.not_mem_nil,or_false] at hi
  rcases hi with rfl|hi|(hi|hi|hi)|hi
  ·omega
  ·have:=hIB i (by simp[hi]);omega
  ·exact hI' i hi
  ·have:=hIB i (by simp[hi]);omega
  ·have:=hIB i (by simp[hi]);omega
  ·have:=hIB i (by simp[hi]);omega
 have hTl:2≤T.length:=by have:=(List.getElem?_eq_some_iff.1 t1).1;omega
 have hBT:fB<T.length:=(List.getElem?_eq_some_iff.1 tB).1
 have hI1:∀i∈I1,3≤i∧i<T.length+1:=fun i hi=>⟨hIB i (by simp[hi]),by have:=oA1.lt hi;simpa using this⟩
 have oA1u:∀(U:List AO) (q':Nat),(∀i,2≤i→i<T.length→i+1∈I1→U[i]?=T[i]?)→OwnL true (rdO b q'::U) [A1] [exL sm.args] I1:=fun U q' hU=>oA1.frame fun x hx=>by
  obtain⟨h3,h4⟩:=hI1 x hx
  obtain⟨i,rfl⟩:∃i,x=i+1:=⟨x-1,by omega⟩
  rw[List.getElem?_cons_succ,List.getElem?_cons_succ]
  exact hU i (by omega) (by omega) hx
 have hsmz:=sm.sz_eq
 have finU:∀(U:List AO) (q':Nat),(∀i,2≤i→i<T.length→U[i]?=T[i]?)→p≤q'→q'≤p+400500000→DP b (PgQ p 900000000 400500000) (.ret (.agg [.sl (fF+1) 3 0 l.length])) (rdO b q'::U):=fun U q' hU h3 h4=>
  finS U q' sm.op sm.name A1 I1 sm.args (fun i a1 a2 _ _=>hU i a1 a2) (by rw[hU fB (by omega) hBT,uN u1];exact tB) (oA1u U q' fun i a1 a2 _=>hU i a1 a2) (fun i hi=>by have:=(hI1 i hi).1;omega) (by omega) h3 h4
 have a0:∀os,(T++os)[0]?=some (.row 1 [[.nils]]):=fun os=>by rw[List.getElem?_append_left (List.getElem?_eq_some_iff.1 t0).1];exact t0
 have a1:∀os,(T++os)[1]?=some (.row 1 [[.sl (fF+1) 3 0 l.length]]):=fun os=>by rw[List.getElem?_append_left (List.getElem?_eq_some_iff.1 t1).1];exact t1
 have aF:∀os,(T++os)[fF]?=some (.row 3 rowsF):=fun os=>by rw[List.getElem?_append_left (List.getElem?_eq_some_iff.1 tF).1];exact tF
 have aB:∀os,(T++os)[fB]?=some (.row 5 (rowsB)):=fun os=>by rw[List.getElem?_append_left (List.getElem?_eq_some_iff.1 tB).1];exact tB
 simp-implicitDefEqProofs[aa]
 refine(aU G b hb hl (q+1+1+1+1+1) (by omega) 4 _).mono ?_
 rintro r h ⟨k3,rfl,rfl,_⟩
 have nI1:I1.Nodup:=(List.nodup_append.1 (List.nodup_append.1 (List.nodup_append.1 nB.2).2.1).1).1
 have hargs:0<sm.args.length:=by
  simp only[aI,gI,Bool.and_eq_true,decide_eq_true_eq] at hok5
  have:=hok5.1.1.1.1.1.1.1.1.2
  rw[this];unfold iM;split<;>omega
 have hA0:sm.args.map Ex.cs≠[]:=by intro h;rw[List.map_eq_nil_iff] at h;rw[h] at hargs;simp at hargs
 obtain⟨idA,rowsA,JA,rfl,rfl,hA⟩:∃id rows J,A1= .sl id 4 0 sm.args.length∧I1=id::J∧RowOwn true (rdO b (q+1+1+1)::T) id 4 rows (sm.args.map Ex.cs) J:=by
  rcases oA1.inv nI1 with⟨h0,_⟩|⟨h0,_⟩|⟨id,rows,J,e1,e2,e3⟩
  ·exact absurd h0 hA0
  ·cases h0
  ·rw[List.length_map] at e1;exact⟨id,rows,J,e1,e2,e3⟩
 obtain⟨fA,rfl⟩:∃fA,idA=fA+1:=⟨idA-1,by have:=(hI1 idA (by simp)).1;omega⟩
 have hA3:=hI1 (fA+1) (by simp)
 have tA:T[fA]?=some (.row 4 rowsA):=hA.here
 have aA:∀os,(T++os)[fA]?=some (.row 4 rowsA):=fun os=>by rw[List.getElem?_append_left (by omega)];exact tA
 have hg0:=List.getElem?_eq_getElem hargs
 have hz0:=bN (List.getElem_mem hargs)
 have hD0:(sm.args.map Ex.cs)[0]?=some sm.args[0].cs:=by rw[List.getElem?_map,hg0];rfl
 generalize sm.args[0]=e0 at hg0 hz0 hD0
 obtain⟨r0,L1,L0,L2,g1,rfl,g3,g5⟩:=hA.own.put hA.len hA.rl hA.dl hD0
 obtain⟨K0,rfl,_⟩:=wH g3
 have nA:=nI1
 rw[List.nodup_cons] at nA
 have finA:∀(U:List AO) (q':Nat) (o n:Int) (w:List UInt8) (K:AV) (IK:List Nat) (ks:List Ex),(∀i,2≤i→i<T.length→i≠fA→U[i]?=T[i]?)→U[fA]?=some (.row 4 (rowsA.set 0 [.p (.int .i64 o),.p (.int .i64 n),.p (.str w),K]))→OwnL true (rdO b q'::U) [K] [exL ks] IK→(∀i∈IK,1≤i)→
  (Ex.mk o n w ks).sz≤500→p≤q'→q'≤p+400500000→DP b (PgQ p 900000000 400500000) (.ret (.agg [.sl (fF+1) 3 0 l.length])) (rdO b q'::U):=by
  intro U q' o n w K IK ks hU hUA oK hIK hz' h3 h4
  have hfr:∀x∈L1++L2,(rdO b q'::U)[x]?=(rdO b (q+1+1+1)::T)[x]?:=fun x hx=>by
   have hm:x∈L1++(L0++L2):=by
    simp only[List.mem_append] at hx⊢
    rcases hx with hx|hx
    ·exact .inl hx
    ·exact .inr (.inr hx)
   obtain⟨hx3,hx4⟩:=hI1 x (List.mem_cons_of_mem _ hm)
   obtain⟨i,rfl⟩:∃i,x=i+1:=⟨x-1,by omega⟩
   rw[List.getElem?_cons_succ,List.getElem?_cons_succ]
   exact hU i (by omega) (by omega) fun e=>nA.1 (e▸hm)
  have oW:=g5 (rdO b q'::U) _ _ _ hfr (Bv (o:=o) (n:=n) (w:=w) oK)
  have hD':(sm.args.map Ex.cs).set 0 (Ex.mk o n w ks).cs=(sm.args.set 0 ⟨o,n,w,ks⟩).map Ex.cs:=by rw[List.map_set]
  have tree:=OwnL.sl (s:=true) (h:=rdO b q'::U) (fA+1) 4 sm.args.length (rowsA.set 0 [.p (.int .i64 o),.p (.int .i64 n),.p (.str w),K]) ((sm.args.map Ex.cs).set 0 (Ex.mk o n w ks).cs) hUA (by simp) (by have:=hA.len;simpa using this) (fun e he=>by
   rcases List.mem_or_eq_of_mem_set he with h|rfl
   ·exact hA.rl e h
   ·rfl) (fun e he=>by
   rcases List.mem_or_eq_of_mem_set he with h|rfl
   ·exact hA.dl e h
   ·exact Ex.cs_len _) oW .nil
  rw[hD'] at tree
  have hsz:=CJ sm.args 0 ⟨o,n,w,ks⟩
  have hBA:fB≠fA:=fun e=>nB.1 (by rw[e];simp)
  refine finS U q' sm.op sm.name (.sl (fA+1) 4 0 sm.args.length) _ (sm.args.set 0 ⟨o,n,w,ks⟩) (fun i g1 g2 _ g4=>hU i g1 g2 fun e=>g4 (by rw[e];simp)) (by rw[hU fB (by omega) hBT hBA,uN u1];exact tB) tree (fun i hi=>?_) (by omega) h3 h4
  simp only[List.mem_cons,List.mem_append,List.not_mem_nil,or_false] at hi
  rcases hi with rfl|hi|hi|hi
  ·omega
  ·have:=(hI1 i (by simp[hi])).1;omega
  ·exact hIK i hi
  ·have:=(hI1 i (by simp[hi])).1;omega
 have w0:∀os x,((T++os).set 0 x)[0]?=some x:=fun os x=>List.getElem?_set_self (by simp only[List.length_append];omega)
 have v0:∀os x,((T++os).set fA x)[0]?=some (.row 1 [[.nils]]):=fun os x=>by rw[List.getElem?_set_ne (by omega)];exact a0 os
 have v1:∀os x,((T++os).set fA x)[1]?=some (.row 1 [[.sl (fF+1) 3 0 l.length]]):=fun os x=>by rw[List.getElem?_set_ne (by omega)];exact a1 os
 have v2:∀os x y,(((T++os).set fA x).set 0 y)[0]?=some y:=fun os x y=>List.getElem?_set_self (by simp only[List.length_set,List.length_append];omega)
 have hv:∀os x y (i:Nat),2≤i→i<T.length→i≠fA→(((T++os).set fA x).set 0 y)[i]?=T[i]?:=fun os x y i h1 h2 h3=>by
  rw[List.getElem?_set_ne (by omega),List.getElem?_set_ne (by omega),List.getElem?_append_left h2]
 have aE:∀x y os,(T++x::y::os)[T.length+1]?=some y:=fun x y os=>by rw[List.getElem?_append_right (by omega),Nat.add_sub_cancel_left];rfl
 have aE2:∀x y z os,(T++x::y::os).set (T.length+1) z=T++x::z::os:=fun x y z os=>by rw[List.set_append_right _ _ (by omega),Nat.add_sub_cancel_left];rfl
 by_cases c1:k3=1
 ·subst c1
  simp-implicitDefEqProofs[aa, ↓a0, ↓a1, ↓aF, ↓aB,u1,hjl]
  refine aW (fun hn=>?_) (fun hn=>?_)
  ·simp-implicitDefEqProofs[]
   refine(wj G hb hl (p:=q+1+1+1+1+1+1) (by omega) [[97],[98],[122,122],[99],[100]] (k:=T.length+2+1) (by simp) (by simp) (by omega) rfl (by simp[bC])).mono ?_
   rintro r h ⟨s2,hs2,rfl,rfl⟩
   have hs28:s2.length≤8:=by simp at hs2;rcases hs2 with rfl|rfl|rfl|rfl|rfl<;>simp
   have v0:∀os x,((T++os).set fB x)[0]?=some (.row 1 [[.nils]]):=fun os x=>by rw[List.getElem?_set_ne (by omega)];exact a0 os
   have v1:∀os x,((T++os).set fB x)[1]?=some (.row 1 [[.sl (fF+1) 3 0 l.length]]):=fun os x=>by rw[List.getElem?_set_ne (by omega)];exact a1 os
   have v2:∀os x y,(((T++os).set fB x).set 0 y)[0]?=some y:=fun os x y=>List.getElem?_set_self (by simp only[List.length_set,List.length_append];omega)
   simp-implicitDefEqProofs[aa, ↓a0, ↓a1, ↓aF, ↓aB,u1,hjl, ↓v0, ↓v1, ↓v2,-getElem?_pos,List.getElem?_cons_zero,List.getElem?_cons_succ]
   have hv:∀os x y (i:Nat),2≤i→i<T.length→i≠fB→(((T++os).set fB x).set 0 y)[i]?=T[i]?:=fun os x y i h1 h2 h3=>by
    rw[List.getElem?_set_ne (by omega),List.getElem?_set_ne (by omega),List.getElem?_append_left h2]
   refine finS _ _ sm.op s2 (.sl (fA+1) 4 0 sm.args.length) _ sm.args ?_ ?_ (oA1u _ _ ?_) (fun i hi=>by have:=(hI1 i hi).1;omega) (by omega) (by omega) (by omega)
   ·intro i h1 h2 h3 _;exact hv _ _ _ i h1 h2 h3
   ·rw[List.getElem?_set_ne (by omega),List.getElem?_set_self (by simp only[List.length_append];omega)]
   ·intro i h1 h2 h3
    exact hv _ _ _ i h1 h2 (fun e=>nB.1 (by rw[←e];simp only[List.mem_append];exact .inr (.inl (.inl h3))))
  ·simp-implicitDefEqProofs[↓a0, ↓a1, ↓w0,-getElem?_pos,List.getElem?_cons_zero,List.getElem?_cons_succ]
   refine finU _ _ ?_ (by omega) (by omega)
   intro i h1 h2
   rw[List.getElem?_set_ne (by omega),List.getElem?_append_left h2]
 by_cases c2:k3=2
 ·subst c2
  have hw:∀(q':Nat) (os:List AO),OwnL true (rdO b q'::(T++os)) [.sl (fB+1) 5 0 f.body.length] [smL f.body] ((fB+1)::(K1++(((fA+1)::(L1++(L0++L2)))++(I2++I3)++K2))):=fun q' os=>oB.frame fun x hx=>by
   have h3:=hIB x hx
   have h4:x<T.length+1:=by have:=oB.lt hx;simpa using this
   obtain⟨i,rfl⟩:∃i,x=i+1:=⟨x-1,by omega⟩
   rw[List.getElem?_cons_succ,List.getElem?_cons_succ,List.getElem?_append_left (by omega)]
  have hv1:∀(q':Nat) (os:List AO),View (rdO b q'::(T++os)) (.sl (fB+1) 5 0 1) (smL (f.body.take 1)):=fun q' os=>by
   have:=AD (m:=1) ((hw q' os).view 0 _ _ rfl rfl) (by simp;omega)
   rw[←List.map_take] at this
   exact this
  have hz1:aq (f.body.take 1)≤aq f.body:=by
   have e:f.body=f.body.take 1++f.body.drop 1:=(List.take_append_drop _ _).symm
   have:aq f.body=aq (f.body.take 1)+aq (f.body.drop 1):=by rw[←bk,←e]
   omega
  have hS:=ta G _ (f.body.take 1) (Nat.lt_succ_self _) (by omega)
  simp-implicitDefEqProofs[aa, ↓a0, ↓a1, ↓aF, ↓aB,r1,hkl]
  refine⟨by omega,?_⟩
  refine(AC.mkLend jS hS (.one (hv1 _ _) .nil)).mono ?_
  rintro r h ⟨vs,IN,os2,rfl,rfl,oN,nN,hN⟩
  obtain⟨vN,rfl⟩:=dK oN
  have hl1:(f.body.take 1).length=1:=by rw[List.length_take];omega
  have hneN:(f.body.take 1).map Sm.cs≠[]:=by intro h;rw[List.map_eq_nil_iff] at h;rw[h] at hl1;simp at hl1
  obtain⟨idN,rowsN,JN,rfl,rfl,hRN⟩:∃id rows J,vN= .sl id 5 0 1∧IN=id::J∧RowOwn true _ id 5 rows ((f.body.take 1).map Sm.cs) J:=by
   rcases oN.inv nN with⟨h0,_⟩|⟨h0,_⟩|⟨id,rows,J,e1,e2,e3⟩
   ·exact absurd h0 hneN
   ·cases h0
   ·rw[List.length_map,hl1] at e1;exact⟨id,rows,J,e1,e2,e3⟩
  have hidN:=hN idN (by simp)
  simp at hidN
  obtain⟨fN,rfl⟩:∃fN,idN=fN+1:=⟨idN-1,by omega⟩
  have hFT:fF<T.length:=(List.getElem?_eq_some_iff.1 tF).1
  have tN:=hRN.here
  simp only[List.cons_append,List.append_assoc,List.getElem?_cons_succ,List.nil_append] at tN
  have hrN:rowsN.length=1:=by have:=hRN.len;rw[List.length_map,hl1] at this;exact this
  have hrB:rowsB.length=f.body.length:=by have:=hB.len;simpa using this
  have z1:∀os o y,((T++os).set fB o++y)[fF]?=some (.row 3 rowsF):=fun os o y=>by
   rw[List.getElem?_append_left (by simp only[List.length_set,List.length_append];omega),List.getElem?_set_ne (fun e=>hn1 (by rw[←e];simp))];exact aF os
  have z2:∀os o y x,(((T++os).set fB o++y).set fF x)[0]?=some (.row 1 [[.nils]]):=fun os o y x=>by
   rw[List.getElem?_set_ne (by omega),List.getElem?_append_left (by simp only[List.length_set,List.length_append];omega),List.getElem?_set_ne (by omega)];exact a0 os
  have z3:∀os o y x,(((T++os).set fB o++y).set fF x)[1]?=some (.row 1 [[.sl (fF+1) 3 0 l.length]]):=fun os o y x=>by
   rw[List.getElem?_set_ne (by omega),List.getElem?_append_left (by simp only[List.length_set,List.length_append];omega),List.getElem?_set_ne (by omega)];exact a1 os
  have z4:∀os o y x w,((((T++os).set fB o++y).set fF x).set 0 w)[0]?=some w:=fun os o y x w=>List.getElem?_set_self (by simp only[List.length_set,List.length_append];omega)
  simp-implicitDefEqProofs[aa,cN, ↓a0, ↓a1, ↓aF, ↓aB, ↓tN, ↓z1, ↓z2, ↓z3, ↓z4,r1,hkl,hrN,hrB,-getElem?_pos,List.getElem?_cons_zero,List.getElem?_cons_succ]
  rw[List.take_of_length_le (l:=rowsB) (by omega),List.take_of_length_le (l:=rowsN) (by omega)]
  have hbl:=bV f.body
  refine⟨⟨by omega,by omega⟩,?_⟩
  have hJB:∀x∈K1++(((fA+1)::(L1++(L0++L2)))++(I2++I3)++K2),3≤x∧x<T.length+1∧x≠fF+1∧x≠fB+1:=fun x hx=>⟨hIB x (List.mem_cons_of_mem _ hx),by have:=hB.own.lt hx;simpa using this,fun e=>hn1 (by rw[←e];simp only[List.mem_append];exact .inr (.inl (.inr (List.mem_cons_of_mem _ hx)))),fun e=>nB.1 (e▸hx)⟩
  have hJN:∀x∈JN,T.length+3≤x∧x<T.length+3+os2.length:=fun x hx=>⟨by have:=hN x (by simp[hx]);simp at this;omega,by have:=hRN.own.lt hx;simp at this;omega⟩
  have nle:∀(W:List AO) (fo bo:AO) (x y:AO),∀i,2≤i→i<T.length→i≠fF→i≠fB→(((((T++W).set fB bo)++[y]).set fF fo).set 0 x)[i]?=T[i]?:=fun W fo bo x y i h1 h2 h3 h4=>by
   rw[List.getElem?_set_ne (by omega),List.getElem?_set_ne (by omega),List.getElem?_append_left (by simp only[List.length_set,List.length_append];omega),List.getElem?_set_ne (by omega),List.getElem?_append_left h2]
  have nri:∀(W:List AO) (fo bo:AO) (x y:AO),∀i,T.length≤i→i<(T++W).length→(((((T++W).set fB bo)++[y]).set fF fo).set 0 x)[i]?=(T++W)[i]?:=fun W fo bo x y i h1 h2=>by
   rw[List.getElem?_set_ne (by omega),List.getElem?_set_ne (by omega),List.getElem?_append_left (by simpa using h2),List.getElem?_set_ne (by omega)]
  have hbl2:=bV f.body
  have hzN:aq (f.body++f.body.take 1)≤400000000:=by rw[bk];omega
  refine finG _ _ (.sl (T.length+(os2.length+1+1)+1) 5 0 (f.body.length+1)) ((T.length+(os2.length+1+1)+1)::((K1++(((fA+1)::(L1++(L0++L2)))++(I2++I3)++K2))++JN++[])) (f.body++f.body.take 1) (fun i g1 g2 g3 g4=>nle _ _ _ _ _ i g1 g2 g3 (fun e=>g4 (by rw[e];simp))) ?_ ?_ ?_ (by omega) (by omega) (by omega)
  ·rw[List.getElem?_set_ne (by omega),List.getElem?_set_self (by simp only[List.length_set,List.length_append];omega)]
  ·refine OwnL.sl _ 5 (f.body.length+1) (rowsB++rowsN) ((f.body++f.body.take 1).map Sm.cs) ?_ (by rw[List.length_map,List.length_append,hl1]) (by rw[List.length_append,List.length_map,List.length_append,hl1,hrB,hrN]) (fun e he=>?_) (fun e he=>by obtain⟨x,_,rfl⟩:=List.mem_map.1 he;simp) ?_ .nil
   ·rw[List.getElem?_cons_succ,List.getElem?_set_ne (by omega),List.getElem?_set_ne (by omega),List.getElem?_append_right (by simp)]
    simp
   ·rcases List.mem_append.1 he with h|h
    ·exact hB.rl e h
    ·exact hRN.rl e h
   ·rw[List.map_append,List.flatten_append,List.flatten_append]
    refine(hB.own.frame fun x hx=>?_).app (hRN.own.frame fun x hx=>?_)
    ·obtain⟨x1,x2,x3,x4⟩:=hJB x hx
     obtain⟨i,rfl⟩:∃i,x=i+1:=⟨x-1,by omega⟩
     rw[List.getElem?_cons_succ,List.getElem?_cons_succ]
     exact nle _ _ _ _ _ i (by omega) (by omega) (by omega) (by omega)
    ·obtain⟨x1,x2⟩:=hJN x hx
     obtain⟨i,rfl⟩:∃i,x=i+1:=⟨x-1,by omega⟩
     simp only[List.cons_append,List.append_assoc,List.getElem?_cons_succ,List.nil_append]
     exact nri _ _ _ _ _ i (by omega) (by simp;omega)
  ·intro i hi
   simp only[List.mem_cons,List.mem_append,List.not_mem_nil,or_false] at hi
   rcases hi with rfl|hi|hi
   ·omega
   ·have:=(hJB i (by simp only[List.mem_cons,List.mem_append];exact hi)).1;omega
   ·have:=(hJN i hi).1;omega
 by_cases c0:k3=0
 ·subst c0
  simp-implicitDefEqProofs[aa]
  refine(wj G hb hl (p:=q+1+1+1+1+1+1) (by omega) [[102],[103],[109],[113]] (k:=T.length+2+1) (by simp) (by simp) (by omega) rfl (by simp[bC])).mono ?_
  rintro r h ⟨s2,hs2,rfl,rfl⟩
  have hs28:s2.length≤8:=by simp at hs2;rcases hs2 with rfl|rfl|rfl|rfl<;>simp
  simp-implicitDefEqProofs[aa, ↓a0, ↓a1, ↓aB,u1,hjl, ↓aE, ↓aE2,-getElem?_pos,List.getElem?_cons_zero,List.getElem?_cons_succ]
  refine aW (fun hn=>?_) (fun hn=>?_)
  ·simp-implicitDefEqProofs[↓a0, ↓a1, ↓aB, ↓aA,u1,hjl,g1,hargs, ↓v0, ↓v1, ↓v2, ↓aE,-getElem?_pos,List.getElem?_cons_zero,List.getElem?_cons_succ]
   refine finA _ _ 13 0 s2 (.sl (T.length+3+1) 4 0 1) [T.length+3+1] [⟨1,1,[],[]⟩] (fun i h1 h2 h3=>hv _ _ _ i h1 h2 h3) ?_ ?_ (by simp) (by simp[Ex.sz,aR];omega) (by omega) (by omega)
   ·rw[List.getElem?_set_ne (by omega),List.getElem?_set_self (by simp only[List.length_append];omega)]
   ·refine RowOwn.tree (rows:=[[.p (.int .i64 1),.p (.int .i64 1),.p (.str []),.nils]]) (J:=[]) ⟨?_,rfl,by simp,by simp,?_,by simp⟩ rfl
    ·rw[List.getElem?_cons_succ,List.getElem?_set_ne (by omega),List.getElem?_set_ne (by omega),List.getElem?_append_right (by omega),Nat.add_sub_cancel_left];rfl
    ·simpa using Bv (s:=true) (o:=1) (n:=1) (w:=[]) (k:=[]) (.nils 4 .nil)
  ·simp-implicitDefEqProofs[↓a0, ↓a1, ↓w0,-getElem?_pos,List.getElem?_cons_zero,List.getElem?_cons_succ]
   refine finU _ _ ?_ (by omega) (by omega)
   intro i h1 h2
   rw[List.getElem?_set_ne (by omega),List.getElem?_append_left h2]
 have d1:¬(k3:Int)=1:=by omega
 have d2:¬(k3:Int)=2:=by omega
 simp-implicitDefEqProofs[aa,c0,d1,d2, ↓a0, ↓a1, ↓aF, ↓aB,u1,hjl]
 refine aW (fun hn=>?_) (fun hn=>?_)
 ·simp-implicitDefEqProofs[↓a0, ↓a1, ↓aB, ↓aA,u1,hjl,g1,hargs, ↓v0, ↓v1, ↓v2, ↓aE,-getElem?_pos,List.getElem?_cons_zero,List.getElem?_cons_succ]
  refine finA _ _ 2 0 s .nils [] [] (fun i h1 h2 h3=>hv _ _ _ i h1 h2 h3) ?_ (.nils 4 .nil) (by simp) (by simp[Ex.sz,aR];omega) (by omega) (by omega)
  rw[List.getElem?_set_ne (by omega),List.getElem?_set_self (by simp only[List.length_append];omega)]
 ·simp-implicitDefEqProofs[↓a0, ↓a1, ↓w0,-getElem?_pos,List.getElem?_cons_zero,List.getElem?_cons_succ]
  refine finU _ _ ?_ (by omega) (by omega)
  intro i h1 h2
  rw[List.getElem?_set_ne (by omega),List.getElem?_append_left h2]
end Go.Proofs.YtnjbhgpbgmpkcaaGreatDoor
namespace Go.Proofs.YtnjbhgpbgmpkcaaGreatDoor
open Go Go.Aw
set_option maxRecDepth 100000
set_option maxHeartbeats 4000000
variable (G:aC)
theorem An{ρ:List Nat}:∀{args:List AV},ah 0 args→TW ρ args args
 |[],_=>trivial
 |v::r,h=>⟨.inr ⟨(aL (Nat.zero_le _) [v] ⟨h.1,trivial⟩).1,by have:=cV ρ [v] ⟨h.1,trivial⟩;simpa[aZ] using this⟩,An h.2⟩
theorem Ds{f:FuncId}{args:List AV}{b:List Int}{p:Nat}{Q:AV→Nat→Prop}(H:AC Tryz.prog G f (.ptr 0 2 0 0::args) [rdO b p] fun x h=>∃v q,x= .ret v∧h=[rdO b q]∧Q v q)(hq:∀v q,Q v q→below 0 v){h:List AO}{k:Nat}(hk:h[k]?=some (rdO b p))(ha:ah 0 args):
 AC Tryz.prog G f (.ptr k 2 0 0::args) h fun x h'=>∃v q,x= .ret v∧h'=h.set k (rdO b q)∧Q v q:=by
 refine(H.frame (h:=h) (args:= .ptr k 2 0 0::args) [k] (by simp) ⟨.inr ⟨by simp[below],by simp[ren]⟩,An ha⟩ (bs hk (bc _ _ _) bq)).mono ?_
 rintro x h' ⟨x0,h0,⟨v,q,rfl,rfl,r⟩,hl,rfl,rfl⟩
 refine⟨v,q,?_,?_,r⟩
 ·simp only[sj]
  have:=cV ([k]++List.range' h.length ([rdO b q].length-[rdO b p].length)) [v] ⟨hq v q r,trivial⟩
  simpa[aZ] using this
 ·have hp2:∀σ,eK σ (rdO b q)=rdO b q:=fun σ=>by simp[rdO,eK,aZ,ren]
  simp[mrg,hp2]
theorem BP{l:List Int}(h:Byt l)(n:Nat):Byt (l.take n):=fun x hx=>h x (List.mem_of_mem_take hx)
theorem CR{f:FuncId}{args:List AV}{R:ARes→Prop}(H:AC Tryz.prog G f args [] fun x _=>R x)(hR:∀x,R x→∃v,x= .ret v∧below 0 v)(ha:ah 0 args)(h:List AO):AC Tryz.prog G f args h fun x h'=>R x∧h'=h:=by
 have H2:AC Tryz.prog G f args [] fun x h'=>R x∧h'=[]:=by
  refine H.wk (fun t v h' r=>by obtain⟨_,e,_⟩:=hR _ r;cases e) fun v h' r=>?_
  obtain⟨v',e,hv⟩:=hR _ r
  cases e
  exact⟨v,[],Cp rfl ⟨.inr ⟨hv,rfl⟩,trivial⟩,r,rfl⟩
 refine(H2.pre h ha (fun o ho=>by cases ho) (fun x h' r=>by rw[r.2])).mono ?_
 rintro x h' ⟨h1,⟨r,rfl⟩,rfl⟩
 exact⟨r,rfl⟩
variable (hK:G fM=some fp) (hS:G dj=some [.tbl opK opV])
include hK hS
end Go.Proofs.YtnjbhgpbgmpkcaaGreatDoor
namespace Go.Proofs.YtnjbhgpbgmpkcaaGreatDoor
open Go Go.Aw
set_option maxRecDepth 100000
set_option maxHeartbeats 4000000
def K_spec_DrawCalledBy:AK:= .seq (.reg [oJ 2 (.alloc [.nils]),oK 3 0]) (.seq (.reg [oM 8 0,oJ 9 (.call fq [(.t 8)]),oM 4 9]) (.seq (.reg [oM 10 4,oJ 11 (.call gg [(.t 10)]),oJ 5 (.alloc [.nils]),oS 5 11]) (.cut (.seq (.reg [oK 6 0]) (.blk 0 (.loop (.seq (.seq (.reg [oM 12 6,oJ 13 (.bin .lss (.t 12) (.c (.p (.int .i64 6)))),oM 14 13,⟨(some 15),some (14,true),.mov (.t 4)⟩,⟨(some 16),some (14,true),.call ae [(.t 15),(.c (.p (.int .i64 8)))]⟩,⟨(some 17),some (14,true),.bin .gtr (.t 16) (.c (.p (.int .i64 0)))⟩,oJ 18 (.pick (.t 14) (.t 17) (.c (.p (.bool false))))]) (.cond (.t 18) (.skip) (.exit 0))) (.seq (.blk 1 (.cut (.seq (.reg [oF 21 0 5,oL 22 21,oJ 23 (.len false (.t 22)),oJ 24 (.bin .sub (.t 23) (.c (.p (.int .i64 1)))),oM 7 24]) (.blk 2 (.loop (.seq (.seq (.reg [oM 25 7,oJ 26 (.bin .gtr (.t 25) (.c (.p (.int .i64 0))))]) (.cond (.t 26) (.skip) (.exit 2))) (.seq (.blk 3 (.seq (.reg [oJ 29 (.ld (some 1) (.t 5)),oM 30 7,oJ 31 (.call bR [(.t 29),(.t 30)]),oJ 32 (.len false (.t 31)),oJ 33 (.bin .gtr (.t 32) (.c (.p (.int .i64 0))))]) (.cond (.t 33) (.seq (.reg [oJ 34 (.ld (some 1) (.t 5)),oM 35 7,oS 2 34,oM 3 35]) (.ret)) (.skip)))) (.reg [oM 27 7,oJ 28 (.bin .sub (.t 27) (.c (.p (.int .i64 1)))),oM 7 28])))))) (.reg [oM 36 4,oJ 37 (.call bI [(.t 36)]),oS 5 37]))) (.reg [oM 19 6,oJ 20 (.bin .add (.t 19) (.c (.p (.int .i64 1)))),oM 6 20])))))) (.seq (.reg [oM 39 4,oF 40 0 5,oF 44 0 5,oJ 38 (.ld (some 1) (.t 5)),oL 41 40,oJ 42 (.len false (.t 41)),oJ 43 (.bin .sub (.t 42) (.c (.p (.int .i64 1)))),oL 45 44,oJ 46 (.len false (.t 45)),oJ 47 (.bslP 1 [(.p (.int .i64 0))] 5 [(0,1,(.t 43)),(1,1,(.c (.p (.int .i64 0)))),(2,1,(.c (.p (.int .i64 1)))),(3,1,(.c (.p (.int .i64 (-1))))),(4,1,(.t 46))]),oJ 48 (.call aj [(.t 39),(.t 47)]),⟨none,none,.chk (some 1) 5 38⟩,oS 2 38,oM 3 48]) (.ret)))))
theorem lU:K_spec_DrawCalledBy.whole=F_spec_DrawCalledBy.ak:=rfl
variable (G:aC)
def DrK(n:Nat)(x:ARes):Prop:=∃(l:List Fd) (k:Int),x= .ret (.tup [.agg [.p (fdL l)],.p (.int .i64 k)])∧aX l≤n
theorem Cr{n:Nat}:∀x,DrK n x→∃v,x= .ret v∧below 0 v:=fun x ⟨l,k,e,_⟩=>⟨_,e,by simp[below]⟩
structure DkS where (l:List Fd) (q i:Nat)
theorem qw(code:List Int)(hb:Byt code):AC Tryz.prog G dW [.p (pp code)] [] fun x _=>DrK 900000000 x:=by
 refine AC.goK lV lU ?_
 simp-implicitDefEqProofs[K_spec_DrawCalledBy,F_spec_DrawCalledBy]
 refine(AC.lift (Fy G code) (by simp) rfl rfl).mono ?_
 rintro r h ⟨rfl,rfl⟩
 have hr:∀n,cA n (rdO (code.take 2000) 0)=rdO (code.take 2000) 0:=fun n=>by simp[rdO,cA,cX,bS]
 have hbt:=BP hb 2000
 have hbl:(code.take 2000).length≤2000:=by rw[List.length_take];omega
 generalize code.take 2000=b at hr hbt hbl
 simp-implicitDefEqProofs[aa,bS,hr]
 refine(Ds G (Bs G hbt hbl (p:=0) (by omega)) (fun v q ⟨⟨l,e,_⟩,_⟩=>by rw[e];simp[below]) (h:=[.row 1 [[.nils]],rdO b 0]) (k:=1) rfl trivial).mono ?_
 rintro r h ⟨v,q,rfl,rfl,⟨l,rfl,hz⟩,hq1,hq2⟩
 simp-implicitDefEqProofs[aa]
 have hok:∀(q:Nat) (l:List Fd),∀o∈[AO.row 1 [[.nils]],rdO b q,.row 1 [[.p (fdL l)]]],okO 3 o:=fun q l=>ag (by simp[okO,below]) (ag (bc _ _ _) (ag (by simp[okO,below]) cH))
 refine pV (fun _:DkS=>am 49 [(2,.ptr 0 1 0 0),(4,.ptr 1 2 0 0),(5,.ptr 2 1 0 0)]) (fun s=>[.row 1 [[.nils]],rdO b s.q,.row 1 [[.p (fdL s.l)]]]) (fun s=>aX s.l≤900000000∧s.q≤5000000000) ?_ ?_
 ·simp-implicitDefEqProofs[]
  refine aO (fun s:DkS=>am 49 [(2,.ptr 0 1 0 0),(4,.ptr 1 2 0 0),(5,.ptr 2 1 0 0),(6,.p (.int .i64 s.i))]) (fun s=>[.row 1 [[.nils]],rdO b s.q,.row 1 [[.p (fdL s.l)]]]) (fun s=>s.i≤6∧aX s.l≤900000000∧s.q≤400500000+s.i*200000010) (fun s=>6-s.i) ⟨l,q,0⟩ ⟨by simp,hz,by simp only[Nat.zero_mul];omega⟩ ?_ ?_
  ·exact ab (h:=[AO.row 1 [[.nils]],rdO b q,.row 1 [[.p (fdL l)]]]) (by simp) (hok q l) (by simp[below])
  rintro⟨l,q,i⟩ ⟨hi,hz,hq⟩
  simp only at hi hz hq
  have hll:=bX l
  have hfl:fdL l= .lst 3 (l.map Fd.cs):=rfl
  have hwl:IntKind.i64.wrap ((l.length:Int)-1)=(l.length:Int)-1:=af (by omega) (by omega)
  by_cases h6:i<6
  case neg=>
   have h6':¬(i:Int)<6:=by omega
   simp-implicitDefEqProofs[h6']
   exact⟨⟨l,q,0⟩,⟨hz,by simp only;omega⟩,ab (h:=[AO.row 1 [[.nils]],rdO b q,.row 1 [[.p (fdL l)]]]) (by simp) (hok q l) (by simp[below])⟩
  have h6':(i:Int)<6:=by omega
  simp-implicitDefEqProofs[h6']
  refine(Ds G (Q:=fun v q2=>∃k:Nat,v= .p (.int .i64 k)∧q2=q+1) ((Bt G b hbt hbl q (by omega) 8).mono fun x h ⟨k,e1,e2,_⟩=>⟨_,_,e1,e2,k,rfl,rfl⟩) (fun v q ⟨k,e,_⟩=>by rw[e];simp[below]) (h:=[.row 1 [[.nils]],rdO b q,.row 1 [[.p (fdL l)]]]) (k:=1) rfl (by simp[below])).mono ?_
  rintro r h ⟨v,q2,rfl,rfl,k,rfl,rfl⟩
  simp-implicitDefEqProofs[aa]
  refine aW (fun hk=>?_) (fun hk=>?_)
  rotate_left
  ·exact⟨⟨l,q+1,0⟩,⟨hz,by simp only;omega⟩,ab (h:=[AO.row 1 [[.nils]],rdO b (q+1),.row 1 [[.p (fdL l)]]]) (by simp) (hok (q+1) l) (by simp[below])⟩
  refine ji (am 49 [(2,.ptr 0 1 0 0),(4,.ptr 1 2 0 0),(5,.ptr 2 1 0 0),(6,.p (.int .i64 i))]) [.row 1 [[.nils]],rdO b (q+1),.row 1 [[.p (fdL l)]]] ?_ ?_
  rotate_left
  ·simp-implicitDefEqProofs[]
   refine(Ds G (Q:=fun v q2=>(∃l:List Fd,v= .agg [.p (fdL l)]∧aX l≤200000000)∧q2≤q+1+200000000) ((wW G hbt hbl (p:=q+1) (by omega)).mono fun x h ⟨l,q,e1,e2,_,e4,_,e6⟩=>⟨_,q,e1,e2,⟨l,rfl,e4⟩,e6⟩) (fun v q ⟨⟨l,e,_⟩,_⟩=>by rw[e];simp[below]) (h:=[.row 1 [[.nils]],rdO b (q+1),.row 1 [[.p (fdL l)]]]) (k:=1) rfl (by simp)).mono ?_
   rintro r h ⟨v,q2,rfl,rfl,⟨l2,rfl,hz2⟩,hq2⟩
   simp-implicitDefEqProofs[aa]
   have hwi:=w1 (i:=i) (by omega)
   exact⟨⟨l2,q2,i+1⟩,⟨h6,by simp only;omega,by simp only;omega⟩,by simp only;omega,ab (h:=[AO.row 1 [[.nils]],rdO b q2,.row 1 [[.p (fdL l2)]]]) (by simp) (hok q2 l2) (by simp[below,hwi])⟩
  simp-implicitDefEqProofs[hfl,hwl]
  rw[←hfl]
  refine aO (fun m:Nat=>am 49 [(2,.ptr 0 1 0 0),(4,.ptr 1 2 0 0),(5,.ptr 2 1 0 0),(6,.p (.int .i64 i)),(7,.p (.int .i64 ((m:Int)-1)))]) (fun _=>[.row 1 [[.nils]],rdO b (q+1),.row 1 [[.p (fdL l)]]]) (fun m=>m≤l.length) (fun m=>m) l.length (Nat.le_refl _) ?_ ?_
  ·exact ab (h:=[AO.row 1 [[.nils]],rdO b (q+1),.row 1 [[.p (fdL l)]]]) (by simp) (hok (q+1) l) (by simp[below])
  intro m hm
  simp-implicitDefEqProofs[]
  refine aW (fun hm1=>?_) (fun hm1=>?_)
  ·simp at hm1
   have hwm:IntKind.i64.wrap ((m:Int)-1-1)=(m:Int)-1-1:=af (by omega) (by omega)
   have hcb:=rj G l (by omega) ((m:Int)-1)
   have hnl:∀l,zJ l= .lst 1 (l.map fun(n:Nat)=>[.int .i64 (n:Int)]):=fun _=>rfl
   simp-implicitDefEqProofs[]
   refine hcb.use ?_
   simp-implicitDefEqProofs[hnl]
   refine aW (fun hc=>?_) (fun hc=>?_)
   ·simp-implicitDefEqProofs[]
    exact⟨l,_,rfl,hz⟩
   ·simp-implicitDefEqProofs[]
    exact⟨m-1,by omega,by omega,ab (h:=[AO.row 1 [[.nils]],rdO b (q+1),.row 1 [[.p (fdL l)]]]) (by simp) (hok (q+1) l) (by simp[below];omega)⟩
  ·exact ab (h:=[AO.row 1 [[.nils]],rdO b (q+1),.row 1 [[.p (fdL l)]]]) (by simp) (hok (q+1) l) (by simp[below])
 ·rintro⟨l,q,i⟩ ⟨hz,hq⟩
  simp only at hz hq
  have hll:=bX l
  have hfl:fdL l= .lst 3 (l.map Fd.cs):=rfl
  have hw:IntKind.i64.wrap ((l.length:Int)-1)=(l.length:Int)-1:=af (by omega) (by omega)
  simp-implicitDefEqProofs[hfl,hw]
  refine(Ds G (args:=[.p (iZ [(l.length:Int)-1,0,1,-1,l.length])]) (Q:=fun v q2=>∃n:Int,v= .p (.int .i64 n)∧q2=q+1) ((uC G hbt hbl (p:=q) (by omega) _ (by simp) (by simp) []).mono fun x h ⟨n,_,e1,e2⟩=>⟨_,_,e1,e2,n,rfl,rfl⟩) (fun v q ⟨k,e,_⟩=>by rw[e];simp[below]) (k:=1) rfl (by simp[below])).mono ?_
  rintro r h ⟨v,q2,rfl,rfl,n,rfl,rfl⟩
  simp-implicitDefEqProofs[aa]
  exact⟨l,n,rfl,hz⟩
def Fd.more(f:Fd):Fd:=⟨f.name,f.params,f.body++[⟨1,[122,113],[⟨1,0,[],[]⟩],[],[]⟩]⟩
variable (hK:G fM=some fp) (hS:G dj=some [.tbl opK opV])
include hK hS
end Go.Proofs.YtnjbhgpbgmpkcaaGreatDoor
namespace Go.Proofs.YtnjbhgpbgmpkcaaGreatDoor
open Go Go.Aw
set_option maxRecDepth 100000
set_option maxHeartbeats 4000000
theorem wo(l:List Fd)(k:Int):(kr (bh l k)).Pairwise (· < ·):=by
 rw[kr,List.pairwise_map]
 have:(bh l k).Pairwise (· < ·):=by
  unfold bh
  split
  ·split
   ·exact List.Pairwise.filter _ List.pairwise_lt_range
   ·exact .nil
  ·exact .nil
 exact this.imp fun h=>by omega
theorem uF(l:List Fd)(k:Int):∀x∈kr (bh l k),0≤x∧x<k:=by
 intro x hx
 obtain⟨n,hn,rfl⟩:=List.mem_map.1 hx
 unfold bh at hn
 split at hn
 ·rename_i h
  split at hn
  ·rw[ey,List.mem_filter,List.mem_range] at hn
   omega
  ·cases hn
 ·cases hn
theorem pC{l:List Fd}{k:Int}(h:¬(cG l=0∧inR k 0 ((l.length:Int)-1)=true)):bh l k=[]:=if_neg h
variable (G:aC)
theorem zZ(xs:List Int)(hb:xs.length≤1073741824):VF Tryz.prog G gh [.p (iZ xs),.p (iZ xs)] (.p (.bool true)):=by
 refine AC.go sS ?_
 have hsl:∀l,iZ l= .lst 1 (l.map fun w=>[.int .i64 w]):=fun _=>rfl
 simp-implicitDefEqProofs[mb,hsl]
 refine aO (fun i:Nat=>am 29 [(0,.p (iZ xs)),(1,.p (iZ xs)),(10,.p (.int .i64 xs.length)),(11,.p (.int .i64 i))]) (fun _=>[]) (fun i=>i≤xs.length) (fun i=>xs.length-i) 0 (by simp) ?_ ?_
 ·exact cJ rfl (by simp[below,iZ])
 intro i hi
 simp-implicitDefEqProofs[hsl]
 refine aW (fun h1=>?_) (fun h1=>?_)
 ·simp at h1
  have hg:xs[i]?=some xs[i]:=List.getElem?_eq_getElem h1
  generalize xs[i]=x at hg
  simp-implicitDefEqProofs[hg]
  refine⟨i+1,by omega,by omega,cJ rfl ?_⟩
  simp[below,iZ,w1 (i:=i) (by omega)]
 ·simp at h1
  simp-implicitDefEqProofs[]
variable (hK:G fM=some fp) (hS:G dj=some [.tbl opK opV])
include hK hS
theorem tI(code:List Int)(hb:Byt code)(hl:code.length≤9223372036854775807):VF Tryz.prog G kb [.p (pp code)] (.p (.bool true)):=by
 refine AC.go qd ?_
 have hbl:pp code= .lst 1 (code.map fun n=>[.int .u8 n]):=rfl
 simp-implicitDefEqProofs[kf,hbl]
 rw[←hbl]
 by_cases hc:(1048576:Int)<code.length
 ·simp-implicitDefEqProofs[hc]
 simp-implicitDefEqProofs[hc]
 refine(CR G (qw G code hb) Cr (by simp) _).mono ?_
 rintro r h ⟨⟨l,k,rfl,hz⟩,rfl⟩
 have hi:=xv G hK hS l (by omega) k
 have hs:=rj G l (by omega) k
 rw[Cg] at hs
 have hup:=wo l k
 have hin:=uF l k
 have hle:(kr (bh l k)).length≤1073741824:=by
  have:=vj l k
  have:=bX l
  rw[kr,List.length_map];omega
 have hw:=zZ G _ hle
 have hll:=bX l
 simp-implicitDefEqProofs[aa]
 refine hi.use ?_
 simp-implicitDefEqProofs[]
 refine hs.use ?_
 simp-implicitDefEqProofs[]
 refine hw.use ?_
 simp-implicitDefEqProofs[]
 refine(kT G hK hS l (by omega)).use ?_
 by_cases h0:cG l=0
 case neg=>
  have e:kr (bh l k)=[]:=by rw[pC (fun h=>h0 h.1)];rfl
  rw[e] at hs hw⊢
  simp-implicitDefEqProofs[h0]
  refine hs.use ?_
  simp-implicitDefEqProofs[]
  refine hw.use ?_
  simp-implicitDefEqProofs[iZ]
 have hend:kr (bh l k)=[]∨(0≤k∧k<(l.length:Int)):=by
  by_cases h1:inR k 0 ((l.length:Int)-1)=true
  ·have hk:0≤k∧k≤(l.length:Int)-1:=by simpa[inR] using h1
   exact .inr ⟨hk.1,by omega⟩
  ·exact .inl (by rw[pC (fun h=>h1 h.2)];rfl)
 generalize kr (bh l k)=xs at*
 have hsl:∀l,iZ l= .lst 1 (l.map fun w=>[.int .i64 w]):=fun _=>rfl
 have hfl:fdL l= .lst 3 (l.map Fd.cs):=rfl
 simp-implicitDefEqProofs[h0,hsl]
 refine aO (fun i:Nat=>am 82 [(3,.ptr 0 1 0 0),(4,.p (.int .i64 k)),(5,.p (iZ xs)),(40,.p (iZ xs)),(41,.p (.int .i64 xs.length)),(42,.p (.int .i64 i))]) (fun _=>[.row 1 [[.p (fdL l)]]]) (fun i=>i≤xs.length) (fun i=>xs.length-i) 0 (by simp) ?_ ?_
 ·exact ab (by simp) (by simp[okO,below]) (by simp[below,hsl])
 intro i hil
 simp-implicitDefEqProofs[hsl]
 refine aW (fun h1=>?_) (fun h1=>?_)
 ·simp at h1
  have hg:=List.getElem?_eq_getElem h1
  obtain⟨q1,q2⟩:=hin _ (List.getElem_mem h1)
  have hprev:∀j,j+1=i→∃y,xs[j]?=some y∧y<xs[i]:=fun j hj=>⟨xs[j],List.getElem?_eq_getElem (by omega),List.pairwise_iff_getElem.1 hup j i (by omega) h1 (by omega)⟩
  generalize xs[i]=x at hg q1 q2 hprev
  have hn1:¬x<0:=by omega
  have hn2:¬k≤x:=by omega
  cases i with
  |zero=>
   simp-implicitDefEqProofs[hg,hn1,hn2]
   refine⟨1,by omega,by omega,ab (h:=[.row 1 [[.p (fdL l)]]]) (by simp) (by simp[okO,below]) (by simp[below,hsl,af (x:=1) (by omega) (by omega)])⟩
  |succ j=>
   obtain⟨y,hy,hyx⟩:=hprev j rfl
   have hw3:IntKind.i64.wrap ((j:Int)+1+1)=(j:Int)+1+1:=af (by omega) (by omega)
   have hw1:IntKind.i64.wrap (j:Int)=(j:Int):=af (by omega) (by omega)
   have hn3:¬x≤y:=by omega
   simp-implicitDefEqProofs[hg,hn1,hn2,hw1,hy,hn3]
   refine⟨by omega,j+1+1,by omega,by omega,ab (h:=[.row 1 [[.p (fdL l)]]]) (by simp) (by simp[okO,below]) (by simp[below,hsl,hw3])⟩
 ·simp at h1
  rcases hend with e|⟨e1,e2⟩
  ·subst e
   by_cases hk0:0≤k
   ·by_cases hk1:k<(l.length:Int)
    ·simp-implicitDefEqProofs[hfl,hk0,hk1]
    ·simp-implicitDefEqProofs[hfl,hk0,hk1]
   ·simp-implicitDefEqProofs[hfl,hk0]
  ·simp-implicitDefEqProofs[hfl,e1,e2]
end Go.Proofs.YtnjbhgpbgmpkcaaGreatDoor
