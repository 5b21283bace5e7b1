/-
  Contracts and lemmas that the card needs, part 7.
-/
import Derived.Test.YthfklclcofcpiaaGreatDoorCq6
namespace Go.Proofs.YthfklclcofcpiaaGreatDoor
open Go Go.Aw
set_option maxRecDepth 100000
set_option maxHeartbeats 4000000
section
theorem yn:AK.whole kw=FK.ak ky:=rfl
theorem ul:AK.whole iX=FK.ak ju:=rfl
variable (G:aq)
theorem tx{l:List Ex}{j:Nat}(h:j<l.length):be (l.take (j+1))=be (l.take j)++[ey l[j]]:=by
 rw[al h,fJ,fJ,Rd];rfl
theorem lN(l:List Ex):(be l).length=l.length:=by rw[fJ,Qu]
theorem Io:∀(d:Nat) (e:Ex),aR d e=true->e.sz<=1099511627776->VF Tryz.prog G hU [.agg (e.cs.map .p)] (.agg ((ey e).cs.map .p)):=by
 intro d
 induction d with
 |zero=>intro e h;cases h
 |succ d ih=>
  intro e hf hz
  have hzz:=e.sz_eq
  have hlen:=aS e.kids
  have hc:=e.cs_eq
  have hxl:∀l,exL l= .lst 4 (l.map Ex.cs):=λ_=>rfl
  refine AC.goK yy yn ?_
  rw[IS]
  simp-implicitDefEqProofs[kw,ky,hc]
  refine an (λj:Nat=>ag 26 [(1,.ptr 0 4 0 0),(2,.ptr 1 4 0 0),(3,.sl 2 4 0 j),(4,.p (.int .i64 j))])
   (λj=>[.row 4 [[.p (.int .i64 e.op),.p (.int .i64 e.n),.p (.str e.name),.p (exL e.kids)]],.row 4 [[.p (.int .i64 0),.p (.int .i64 0),.p (.str []),.nils]],.row 4 (exR (be (e.kids.take j)))])
   (λj=>j<=e.kids.length) (λj=>e.kids.length-j) 0 (by simp) ?_ ?_
  ·refine ab (h:=[_,_,.row 4 []]) (by simp) (by simp[okO,below]) (by simp[below])
  intro j hj
  have hrl:(exR (be (e.kids.take j))).length=j:=by rw[tV,lN];simp;omega
  simp-implicitDefEqProofs[hxl]
  refine aQ (λh=>?_) (λh=>?_)
  ·simp at h
   have hg:=Qd h
   have hks:=aF (Qj h)
   have hkc:=(ey e.kids[j]).cs_eq
   simp-implicitDefEqProofs[hg]
   refine(ih e.kids[j] (iQ hf (Qj h)) (by omega)).use ?_
   simp-implicitDefEqProofs[hkc,hrl]
   refine⟨⟨by omega,by omega⟩,j+1,by omega,by omega,?_⟩
   have htk:List.take j (exR (be (e.kids.take j)))=exR (be (e.kids.take j)):=Qk (by omega)
   rw[tx h,tW,htk]
   have h1:exR [ey e.kids[j]]=[[.p (.int .i64 (ey e.kids[j]).op),.p (.int .i64 (ey e.kids[j]).n),.p (.str (ey e.kids[j]).name),.p (exL (ey e.kids[j]).kids)]]:=by rw[exR,List.map_singleton,hkc];rfl
   rw[h1]
   refine gV [0,1,4] (by simp) (by decide) (by decide) (aN rfl (by simp[below]) (aN rfl (by simp[below]) (aN rfl (λx hx=>?_) bJ))) (by simp[below,ren,hxl,w1 (i:=j) (by omega)])
   rcases Qn.1 hx with h|h
   ·exact kV _ x h
   ·rw[Qt.1 h];simp
  ·simp at h
   have hje:j=e.kids.length:=by omega
   subst hje
   rw[QC] at hrl⊢
   simp-implicitDefEqProofs[]
   refine lF (ag 26 [(1,.ptr 0 4 0 0),(2,.ptr 1 4 0 0)]) [.row 4 [[.p (.int .i64 e.op),.p (.int .i64 e.n),.p (.str e.name),.p (exL (be e.kids))]],.row 4 [[.p (.int .i64 0),.p (.int .i64 0),.p (.str []),.nils]]] ?_ ?_
   ·simp-implicitDefEqProofs[]
    refine lA 2 (by omega) (by simp) rfl (.one (.keep (by simp[below]) (.keep (by simp[below]) (.keep (by simp[below]) (.one ?_ .nil)))) (.same (by simp[okO,below]) (.nil _))) ?_
    ·have hl2:=lN e.kids
     rw[←hl2]
     exact rC rfl
    ·exact⟨.keep (by simp[below]) .nil,.keep (by simp[below]) .nil,trivial⟩
   have H:VF Tryz.prog G gN [.agg [.p (.int .i64 e.op),.p (.int .i64 e.n),.p (.str e.name),.p (exL (be e.kids))]] (.agg ((kJ e.op e.n e.name (be e.kids)).cs.map .p)):=by
    have H0:=IV G (DQ hf) (by
     have h2:=nx e.kids
     rw[Ex.sz_eq]
     show 1+e.name.length+bZ (be e.kids)<=_
     omega)
    rw[Ex.cs_eq (.mk e.op e.n e.name (be e.kids))] at H0
    exact H0
   simp-implicitDefEqProofs[]
   refine H.use ?_
   have hq:=(kJ e.op e.n e.name (be e.kids)).cs_eq
   rw[hq]
   simp-implicitDefEqProofs[]
theorem By{l:List Sm}{j:Nat}(h:j<l.length):bV (l.take (j+1))=bV (l.take j)++[rF l[j]]:=by
 rw[al h,nr,nr,Rd];rfl
theorem uh(l:List Sm):(bV l).length=l.length:=by rw[nr,Qu]
theorem ti(l:List Sm)(hf:∀x∈l,∀a∈x.args,aR 6 a=true)(hz:aG l<=1099511627776)
 (ih:∀x∈l,VF Tryz.prog G bp [.p (smL x.body)] (.p (smL (bV x.body)))/\VF Tryz.prog G bp [.p (smL x.els)] (.p (smL (bV x.els)))):VF Tryz.prog G bp [.p (smL l)] (.p (smL (bV l))):=by
 have hll:=aZ l
 have hsl:∀l,smL l= .lst 5 (l.map Sm.cs):=λ_=>rfl
 have hxl:∀l,exL l= .lst 4 (l.map Ex.cs):=λ_=>rfl
 have key:AC Tryz.prog G bp [.p (smL l)] [] λx h=>∃v,x= .ret v/\View h v (smL (bV l)):=by
  refine AC.goK vl ul ?_
  simp-implicitDefEqProofs[iX,ju]
  refine an (λi:Nat=>ag 51 [(0,.p (smL l)),(3,.sl 0 5 0 i),(4,.p (.int .i64 i))]) (λi=>[.row 5 (smR (bV (l.take i)))])
   (λi=>i<=l.length) (λi=>l.length-i) 0 (by simp) ?_ ?_
  ·refine ab (h:=[.row 5 []]) (by simp) (by simp[okO,below]) (by simp[below])
  intro i hi
  have hol:(smR (bV (l.take i))).length=i:=by rw[Ag,uh];simp;omega
  simp-implicitDefEqProofs[hsl]
  refine aQ (λh=>?_) (λh=>?_)
  ·simp at h
   have hg:=Qd h
   have hat:=zQ h
   have hse:=l[i].cs_eq
   have hsz:=l[i].sz_eq
   have hfx:=hf l[i] (Qj h)
   have hix:=ih l[i] (Qj h)
   have eR:=By h
   have hfc:=(rF l[i]).cs_eq
   rw[Cn] at hfc
   simp only[Sm.op,Sm.name,Sm.args,Sm.body,Sm.els] at hfc
   generalize hgs:l[i]=s at hg hat hse hsz hfx hix eR hfc
   generalize bV (l.take i)=out at hol eR⊢
   simp-implicitDefEqProofs[hg,hse]
   refine an (λj:Nat=>ag 51 [(0,.p (smL l)),(3,.sl 0 5 0 i),(4,.p (.int .i64 i)),(5,.ptr 1 5 0 0),(6,.sl 2 4 0 j),(7,.p (.int .i64 j))])
    (λj=>[.row 5 (smR out),.row 5 [[.p (.int .i64 s.op),.p (.str s.name),.p (exL s.args),.p (smL s.body),.p (smL s.els)]],.row 4 (exR (be (s.args.take j)))])
    (λj=>j<=s.args.length) (λj=>s.args.length-j) 0 (by simp) ?_ ?_
   ·refine ab (h:=[_,_,.row 4 []]) (by simp) (af (cA (br out)) (af (by simp[okO,below]) (by simp[okO,below]))) (by simp[below,hsl])
   intro j hj
   have hrl:(exR (be (s.args.take j))).length=j:=by rw[tV,lN];simp;omega
   have hal:=aS s.args
   simp-implicitDefEqProofs[hxl]
   refine aQ (λhcc=>?_) (λhcc=>?_)
   ·simp at hcc
    have hga:=Qd hcc
    have hks:=aF (Qj hcc)
    have hkc:=(ey s.args[j]).cs_eq
    simp-implicitDefEqProofs[hga]
    refine(Io G 6 s.args[j] (hfx _ (Qj hcc)) (by omega)).use ?_
    simp-implicitDefEqProofs[hkc,hrl]
    refine⟨⟨by omega,by omega⟩,j+1,by omega,by omega,?_⟩
    have htk:List.take j (exR (be (s.args.take j)))=exR (be (s.args.take j)):=Qk (by omega)
    rw[tx hcc,tW,htk]
    have h1:exR [ey s.args[j]]=[[.p (.int .i64 (ey s.args[j]).op),.p (.int .i64 (ey s.args[j]).n),.p (.str (ey s.args[j]).name),.p (exL (ey s.args[j]).kids)]]:=by rw[exR,List.map_singleton,hkc];rfl
    rw[h1]
    refine gV [0,1,4] (by simp) (by decide) (by decide) (aN rfl (br out) (aN rfl (by simp[below]) (aN rfl (λx hx=>?_) bJ))) (by simp[below,ren,hxl,hsl,w1 (i:=j) (by omega)])
    rcases Qn.1 hx with h|h
    ·exact kV _ x h
    ·rw[Qt.1 h];simp
   simp at hcc
   have hje:j=s.args.length:=by omega
   subst hje
   rw[QC] at hrl⊢
   simp-implicitDefEqProofs[]
   refine lF (ag 51 [(0,.p (smL l)),(3,.sl 0 5 0 i),(4,.p (.int .i64 i)),(5,.ptr 1 5 0 0)])
    [.row 5 (smR out),.row 5 [[.p (.int .i64 s.op),.p (.str s.name),.p (exL (be s.args)),.p (smL s.body),.p (smL s.els)]]] ?_ ?_
   ·simp-implicitDefEqProofs[]
    refine lA 2 (by omega) (by simp) rfl (.same (cA (br out)) (.one (.keep (by simp[below]) (.keep (by simp[below]) (.one ?_ (.keep (by simp[below]) (.keep (by simp[below]) .nil))))) (.nil _))) ?_
    ·have hl2:=lN s.args
     rw[←hl2]
     exact rC rfl
    ·exact⟨.keep (by simp[below]) .nil,.keep (by simp[below]) .nil,.keep (by simp[below]) .nil,.keep (by simp[below]) .nil,trivial⟩
   simp-implicitDefEqProofs[]
   refine hix.1.use ?_
   simp-implicitDefEqProofs[]
   refine hix.2.use ?_
   simp-implicitDefEqProofs[hol]
   refine⟨⟨by omega,by omega⟩,i+1,by omega,by omega,?_⟩
   have htk:List.take i (smR out)=smR out:=Qk (by omega)
   rw[eR,AB,htk]
   have h1:smR [rF s]=[[.p (.int .i64 s.op),.p (.str s.name),.p (exL (be s.args)),.p (smL (bV s.body)),.p (smL (bV s.els))]]:=by rw[smR,List.map_singleton,Cn,Sm.cs_eq];rfl
   rw[h1]
   refine gV [3] (by simp) (by decide) (by decide) (aN rfl (λx hx=>?_) bJ) (by simp[below,ren,hsl,w1 (i:=i) (by omega)])
   rcases Qn.1 hx with h|h
   ·exact br out x h
   ·rw[Qt.1 h];simp
  ·simp at h
   have hie:i=l.length:=by omega
   subst hie
   rw[QC] at hol⊢
   simp-implicitDefEqProofs[]
   have hl2:=uh l
   rw[←hl2]
   exact kK rfl
 refine key.freezeR (λt v h ⟨_,e,_⟩=>by cases e) λv h ⟨u,e1,e2⟩=>?_
 cases e1
 exact .one e2 .nil
theorem Fh:∀(d:Nat) (l:List Sm),(∀x∈l,ay d x=true)->aG l<=1099511627776->VF Tryz.prog G bp [.p (smL l)] (.p (smL (bV l))):=by
 intro d
 induction d with
 |zero=>
  intro l hf hz
  exact ti G l (λx hx=>by have:=hf x hx;cases this) hz (λx hx=>by have:=hf x hx;cases this)
 |succ d ih=>
  intro l hf hz
  refine ti G l (λx hx=>DL (hf x hx)) hz (λx hx=>?_)
  have h1:=aM hx
  have h2:=x.sz_eq
  exact⟨ih x.body (px (hf x hx)) (by omega),ih x.els (sv (hf x hx)) (by omega)⟩
end
section
theorem yJ:AK.whole ki=FK.ak kC:=rfl
def nb7(l:List Sm):Prop:=∀x∈l,x.op≠7
theorem sR:∀{a b:List Sm},nb7 a->aI (a++b)=aI a++aI b
 |[],b,_=>by rw[aI];rfl
 |x::r,b,h=>by
  have h2:=sR (a:=r) (b:=b) (λy hy=>h y (by simp[hy]))
  rw[QO,gD,gD,if_neg (h x (by simp)),if_neg (h x (by simp)),h2]
  split<;>rfl
theorem sF{x:Sm}{r:List Sm}:aI (x::r)=if iB x=true then aI r else if x.op=7 then[dM x] else dM x::aI r:=by
 rw[gD]
 split
 ·rfl
 ·split<;>rfl
theorem zh:∀l:List Sm,(aI l).length<=l.length
 |[]=>by rw[aI];exact Qi _
 |x::r=>by
  have h:=zh r
  rw[gD]
  split
  ·simp;omega
  ·split
   ·simp
   ·simp;exact h
theorem KY(x:Sm):(dM x).cs=[.int .i64 x.op,.str x.name,exL x.args,smL (dM x).body,smL (dM x).els]:=by rw[Sm.cs_eq,Kq,Fu,Fe]
variable (G:aq)
theorem uv(l:List Sm)(hf:∀x∈l,x.args≠[])(hz:aG l<=1099511627776)
 (ih:∀x∈l,VF Tryz.prog G bE [.p (smL x.body)] (.p (smL (aI x.body)))/\VF Tryz.prog G bE [.p (smL x.els)] (.p (smL (aI x.els)))):VF Tryz.prog G bE [.p (smL l)] (.p (smL (aI l))):=by
 have hll:=aZ l
 have hsl:∀l,smL l= .lst 5 (l.map Sm.cs):=λ_=>rfl
 have hxl:∀l,exL l= .lst 4 (l.map Ex.cs):=λ_=>rfl
 have key:AC Tryz.prog G bE [.p (smL l)] [] λx h=>∃v,x= .ret v/\View h v (smL (aI l)):=by
  refine AC.goK yN yJ ?_
  simp-implicitDefEqProofs[ki,kC]
  refine an (λi:Nat=>ag 60 [(0,.p (smL l)),(3,.sl 0 5 0 (aI (l.take i)).length),(4,.p (.int .i64 i))]) (λi=>[.row 5 (smR (aI (l.take i)))])
   (λi=>i<=l.length/\nb7 (l.take i)) (λi=>l.length-i) 0 ⟨by simp,λx hx=>by simp at hx⟩ ?_ ?_
  ·have e0:aI (l.take 0)=[]:=by rw[List.take_zero,aI]
   rw[e0]
   refine ab (h:=[.row 5 []]) (by simp) (by simp[okO,below]) (by simp[below])
  rintro i ⟨hi,hnb⟩
  have hol:(smR (aI (l.take i))).length=(aI (l.take i)).length:=by rw[Ag]
  have hle:(aI (l.take i)).length<=i:=by have:=zh (l.take i);rw[QG] at this;omega
  simp-implicitDefEqProofs[hsl]
  refine aQ (λh=>?_) (λh=>?_)
  ·simp at h
   have hg:=Qd h
   have hat:=zQ h
   have hse:=l[i].cs_eq
   have hsz:=l[i].sz_eq
   have hfx:=hf l[i] (Qj h)
   have hix:=ih l[i] (Qj h)
   have htk:=al h
   have hdr:=Rm h
   have hsplit:=QN i l
   generalize hgs:l[i]=s at hg hat hse hsz hfx hix htk hdr
   have hcs:=KY s
   obtain⟨a,r,ha⟩:∃a r,s.args=a::r:=by
    match hx:s.args,hfx with
    |a::r,_=>exact⟨a,r,rfl⟩
   have hac:=a.cs_eq
   have HI:=uK G a 0
   rw[hac] at HI
   simp only[QI,List.map_nil] at HI
   have hNa:∀n,se s n=isN a n:=λn=>by rw[se,ha]
   have hCa:AL s=decide (a.op=1):=by rw[AL,ha]
   have hzl:iB s=(decide (s.op=6)&&isN a 0):=by rw[iB,hNa]
   have eall:aI l=aI (l.take i)++aI (s::l.drop (i+1)):=by
    conv=>lhs;rw[←hsplit,hdr]
    exact sR hnb
   have enxt:aI (l.take (i+1))=aI (l.take i)++aI [s]:=by rw[htk];exact sR hnb
   generalize aI (l.take i)=out at hol hle eall enxt⊢
   simp-implicitDefEqProofs[hg,hse,hxl,ha,hac]
   refine hix.1.use ?_
   simp-implicitDefEqProofs[]
   refine hix.2.use ?_
   simp-implicitDefEqProofs[]
   refine sO (λ_:Unit=>ag 60 [(0,.p (smL l)),(3,.sl 0 5 0 out.length),(4,.p (.int .i64 i)),(5,.ptr 1 5 0 0),(6,.ptr 2 4 0 0)])
    (λ_=>[AO.row 5 (smR out),.row 5 [[.p (.int .i64 s.op),.p (.str s.name),.p (.lst 4 ([.int .i64 a.op,.int .i64 a.n,.str a.name,.lst 4 (a.kids.map Ex.cs)]::r.map Ex.cs)),.p (smL (aI s.body)),.p (smL (aI s.els))]],.row 4 [[.p (.int .i64 a.op),.p (.int .i64 a.n),.p (.str a.name),.p (.lst 4 (a.kids.map Ex.cs))]]])
    (λ_=>iB s=false) ?_ ?_
   ·by_cases o6:s.op=6
    ·simp-implicitDefEqProofs[o6]
     refine HI.use ?_
     by_cases h0:isN a 0=true
     ·have ez:iB s=true:=by rw[hzl,h0,o6];rfl
      have e1:aI [s]=[]:=by rw[sF,if_pos ez,aI]
      rw[e1,QK] at enxt
      simp-implicitDefEqProofs[h0]
      refine⟨i+1,⟨by omega,?_⟩,by omega,?_⟩
      ·rw[htk]
       intro x hx
       rcases Qn.1 hx with hx|hx
       ·exact hnb x hx
       ·rw[Qt.1 hx,o6];omega
      ·rw[enxt]
       refine cV [0] rfl (by decide) (aN rfl (br out) bJ) (by simp[below,ren,hsl,w1 (i:=i) (by omega)])
     ·have h0:isN a 0=false:=by simpa using h0
      simp-implicitDefEqProofs[h0,hzl]
      exact ab (by simp) (af (cA (br out)) (af (by simp[okO,below]) (af (by simp[okO,below]) dI))) (by simp[below,hsl])
    ·simp-implicitDefEqProofs[o6,hzl]
     exact ab (by simp) (af (cA (br out)) (af (by simp[okO,below]) (af (by simp[okO,below]) dI))) (by simp[below,hsl])
   intro _ hzf
   refine lF (ag 60 [(0,.p (smL l)),(3,.sl 0 5 0 out.length),(4,.p (.int .i64 i)),(5,.ptr 1 5 0 0)])
    [AO.row 5 (smR out),.row 5 [[.p (.int .i64 s.op),.p (.str s.name),.p (.lst 4 ([.int .i64 a.op,.int .i64 a.n,.str a.name,.lst 4 (a.kids.map Ex.cs)]::r.map Ex.cs)),.p (smL (dM s).body),.p (smL (dM s).els)]]] ?_ ?_
   ·rw[KJ,Jm,hNa,hCa]
    by_cases o5:s.op=5
    ·by_cases a1:a.op=1
     ·by_cases a0:a.n=0
      ·have hn:isN a 0=true:=isN_iff.2 ⟨a1,a0⟩
       simp-implicitDefEqProofs[o5,a1,a0,hn]
       refine lA 2 (by omega) (by simp) rfl (.same (cA (br out)) (.one (.keep (by simp[below]) (.keep (by simp[below]) (.keep (by simp[below]) (.one ?_ (.keep (by simp[below]) .nil))))) (.nil _))) ?_
       ·exact kK (l:=[]) rfl
       ·exact⟨.keep (by simp[below,hsl]) .nil,.keep (by simp[below]) .nil,.keep (by simp[below]) .nil,.keep (by simp[below]) .nil,trivial⟩
      ·have hn:isN a 0=false:=by
        rw[isN];simp[a1,a0]
       simp-implicitDefEqProofs[o5,a1,a0,hn]
       refine lA 2 (by omega) (by simp) rfl (.same (cA (br out)) (.one (.keep (by simp[below]) (.keep (by simp[below]) (.keep (by simp[below]) (.keep (by simp[below]) (.one ?_ .nil))))) (.nil _))) ?_
       ·exact kK (l:=[]) rfl
       ·exact⟨.keep (by simp[below,hsl]) .nil,.keep (by simp[below]) .nil,.keep (by simp[below]) .nil,.keep (by simp[below]) .nil,trivial⟩
     ·have hn:isN a 0=false:=by
       rw[isN];simp[a1]
      simp-implicitDefEqProofs[o5,a1,hn]
      exact cV [0,1] rfl (by decide) (aN rfl (br out) (aN rfl (by simp[below]) bJ)) (by simp[below,ren,hsl])
    ·simp-implicitDefEqProofs[o5]
     exact cV [0,1] rfl (by decide) (aN rfl (br out) (aN rfl (by simp[below]) bJ)) (by simp[below,ren,hsl])
   simp-implicitDefEqProofs[hol]
   refine⟨⟨by omega,by omega⟩,?_⟩
   have htk2:List.take out.length (smR out)=smR out:=Qk (by omega)
   have h1:smR [dM s]=[[.p (.int .i64 s.op),.p (.str s.name),.p (.lst 4 ([.int .i64 a.op,.int .i64 a.n,.str a.name,.lst 4 (a.kids.map Ex.cs)]::r.map Ex.cs)),.p (smL (dM s).body),.p (smL (dM s).els)]]:=by
    have e3:exL s.args= .lst 4 ([.int .i64 a.op,.int .i64 a.n,.str a.name,.lst 4 (a.kids.map Ex.cs)]::r.map Ex.cs):=by rw[ha,hxl,QI,hac,hxl]
    rw[smR,List.map_singleton,hcs,e3];rfl
   have h2:smR out++[[.p (.int .i64 s.op),.p (.str s.name),.p (.lst 4 ([.int .i64 a.op,.int .i64 a.n,.str a.name,.lst 4 (a.kids.map Ex.cs)]::r.map Ex.cs)),.p (smL (dM s).body),.p (smL (dM s).els)]]=smR (out++[dM s]):=by rw[AB,h1]
   rw[htk2,h2]
   refine aQ (λh7=>?_) (λh7=>?_)
   ·simp at h7
    have e1:aI l=out++[dM s]:=by rw[eall,sF,if_neg (by rw[hzf];simp),if_pos h7]
    have e2:out.length+1=(aI l).length:=by rw[e1];simp
    simp-implicitDefEqProofs[]
    rw[←e1,e2]
    exact kK rfl
   ·simp at h7
    have e1:aI [s]=[dM s]:=by rw[sF,if_neg (by rw[hzf];simp),if_neg h7,aI]
    rw[e1] at enxt
    have e2:out.length+1=(out++[dM s]).length:=by simp
    simp-implicitDefEqProofs[]
    refine⟨i+1,⟨by omega,?_⟩,by omega,?_⟩
    ·rw[htk]
     intro x hx
     rcases Qn.1 hx with hx|hx
     ·exact hnb x hx
     ·rw[Qt.1 hx];exact h7
    ·rw[enxt]
     refine gV [3] (by simp) (by decide) (by decide) (aN rfl (br _) bJ) (by simp[below,ren,hsl,w1 (i:=i) (by omega)])
  ·simp at h
   have hie:i=l.length:=by omega
   subst hie
   rw[QC] at hol⊢
   simp-implicitDefEqProofs[]
   exact kK rfl
 refine key.freezeR (λt v h ⟨_,e,_⟩=>by cases e) λv h ⟨u,e1,e2⟩=>?_
 cases e1
 exact .one e2 .nil
theorem Ca{d:Nat}{x:Sm}(h:ay d x=true):x.args≠[]:=by
 obtain⟨d,rfl⟩:=vZ h
 rw[ay,Qs,Qs] at h
 have h1:=h.1.1
 simp only[ig,Qs,decide_eq_true_eq] at h1
 have h2:=h1.1.1.1.1.1.1.2
 intro e
 rw[e] at h2
 simp only[List.length_nil,jY] at h2
 split at h2<;>omega
theorem GU:∀(d:Nat) (l:List Sm),(∀x∈l,ay d x=true)->aG l<=1099511627776->VF Tryz.prog G bE [.p (smL l)] (.p (smL (aI l))):=by
 intro d
 induction d with
 |zero=>
  intro l hf hz
  exact uv G l (λx hx=>by have:=hf x hx;cases this) hz (λx hx=>by have:=hf x hx;cases this)
 |succ d ih=>
  intro l hf hz
  refine uv G l (λx hx=>Ca (hf x hx)) hz (λx hx=>?_)
  have h1:=aM hx
  have h2:=x.sz_eq
  exact⟨ih x.body (px (hf x hx)) (by omega),ih x.els (sv (hf x hx)) (by omega)⟩
end
section
theorem iv:AK.whole dr=FK.ak dt:=rfl
def fI(x:Sm):Sm:= .mk x.op x.name x.args (if x.op=5/\se x 0=true then[] else x.body) (if x.op=5/\se x 0=false/\AL x=true then[] else x.els)
def dg:List Sm->List Sm
 |[]=>[]
 |x::r=>if iB x=true then dg r else fI x::(if x.op=7 then[] else dg r)
def inS(H:List Sm->List Sm)(x:Sm):Sm:= .mk x.op x.name x.args (H x.body) (H x.els)
theorem Er:∀l:List Sm,dg (l.map (inS aI))=aI l
 |[]=>by rw[aI];rfl
 |x::r=>by
  have hz:iB (inS aI x)=iB x:=rfl
  have ha:fI (inS aI x)=dM x:=by
   obtain⟨o,s,a,bd,el⟩:=x
   rw[dM];rfl
  rw[QI,dg,gD,Er r,hz,ha]
  rfl
theorem xZ:∀{a b:List Sm},nb7 a->dg (a++b)=dg a++dg b
 |[],b,_=>rfl
 |x::r,b,h=>by
  have h2:=xZ (a:=r) (b:=b) (λy hy=>h y (by simp[hy]))
  rw[QO,dg,dg,if_neg (h x (by simp)),if_neg (h x (by simp)),h2]
  split<;>rfl
theorem Bv:∀l:List Sm,(dg l).length<=l.length
 |[]=>Qi _
 |x::r=>by
  have h:=Bv r
  rw[dg]
  split
  ·simp;omega
  ·split
   ·simp
   ·simp;exact h
variable (G:aq)
end
section
theorem aL{s:Bool}{h:List AO}{vs:List AV}{q:PV}{I:List Nat}(H:OwnL s h vs [q] I):∃v,vs=[v]:=by
 have:=H.len
 match vs,this with
 |[v],_=>exact⟨v,rfl⟩
theorem La{s:Bool}{h:List AO}{vs:List AV}{q r:PV}{I:List Nat}(H:OwnL s h vs [q,r] I):∃a b,vs=[a,b]:=by
 have:=H.len
 match vs,this with
 |[a,b],_=>exact⟨a,b,rfl⟩
theorem Fa{s:Bool}{h:List AO}{vs:List AV}{q r t:PV}{I:List Nat}(H:OwnL s h vs [q,r,t] I):∃a b c,vs=[a,b,c]:=by
 have:=H.len
 match vs,this with
 |[a,b,c],_=>exact⟨a,b,c,rfl⟩
theorem sx{s:Bool}{h:List AO}{vs:List AV}{e:Ex}{I:List Nat}(H:OwnL s h vs e.cs I):∃K,vs=[.p (.int .i64 e.op),.p (.int .i64 e.n),.p (.str e.name),K]/\OwnL s h [K] [exL e.kids] I:=by
 rw[e.cs_eq] at H
 cases H with
 |p _ _ H=>
  cases H with
  |p _ _ H=>
   cases H with
   |p _ _ H=>
    obtain⟨v,rfl⟩:=aL H
    exact⟨v,rfl,H⟩
theorem Mv{s:Bool}{h:List AO}{o n:Int}{w:List UInt8}{k:List Ex}{K:AV}{I:List Nat}(H:OwnL s h [K] [exL k] I):OwnL s h [.p (.int .i64 o),.p (.int .i64 n),.p (.str w),K] (Ex.mk o n w k).cs I:=by
 rw[Ex.cs_eq]
 exact .p _ (λ_=>rfl) (.p _ (λ_=>rfl) (.p _ (λ_=>rfl) H))
theorem Au{s:Bool}{h:List AO}{vs:List AV}{e:Sm}{I:List Nat}(H:OwnL s h vs e.cs I):∃A B E I1 I2 I3,vs=[.p (.int .i64 e.op),.p (.str e.name),A,B,E]/\I=I1++(I2++I3)/\OwnL s h [A] [exL e.args] I1/\OwnL s h [B] [smL e.body] I2/\OwnL s h [E] [smL e.els] I3:=by
 rw[e.cs_eq] at H
 cases H with
 |p _ _ H=>
  cases H with
  |p _ _ H=>
   obtain⟨A,B,E,rfl⟩:=Fa H
   obtain⟨I1,I',rfl,h1,H⟩:=H.one
   obtain⟨I2,I3,rfl,h2,h3⟩:=H.one
   exact⟨A,B,E,I1,I2,I3,rfl,rfl,h1,h2,h3⟩
theorem Mb{s:Bool}{h:List AO}{o:Int}{w:List UInt8}{a:List Ex}{b e:List Sm}{A B E:AV}{I1 I2 I3:List Nat}(h1:OwnL s h [A] [exL a] I1)(h2:OwnL s h [B] [smL b] I2)(h3:OwnL s h [E] [smL e] I3):
 OwnL s h [.p (.int .i64 o),.p (.str w),A,B,E] (Sm.mk o w a b e).cs (I1++(I2++I3)):=by
 rw[Sm.cs_eq]
 exact .p _ (λ_=>rfl) (.p _ (λ_=>rfl) (h1.app (h2.app h3)))
theorem Dc{s:Bool}{h:List AO}{vs:List AV}{f:Fd}{I:List Nat}(H:OwnL s h vs f.cs I):∃A B I1 I2,vs=[.p (.str f.name),A,B]/\I=I1++I2/\OwnL s h [A] [aB f.params] I1/\OwnL s h [B] [smL f.body] I2:=by
 rw[show f.cs=[.str f.name,aB f.params,smL f.body] from rfl] at H
 cases H with
 |p _ _ H=>
  obtain⟨A,B,rfl⟩:=La H
  obtain⟨I1,I2,rfl,h1,H⟩:=H.one
  exact⟨A,B,I1,I2,rfl,rfl,h1,H⟩
theorem LW{s:Bool}{h:List AO}{w:List UInt8}{ps:List (List UInt8)}{b:List Sm}{A B:AV}{I1 I2:List Nat}(h1:OwnL s h [A] [aB ps] I1)(h2:OwnL s h [B] [smL b] I2):OwnL s h [.p (.str w),A,B] (Fd.mk w ps b).cs (I1++I2):=
 .p _ (λ_=>rfl) (h1.app h2)
end
section
def Fr(K:List Nat)(h h':List AO):Prop:=h.length<=h'.length/\∀i,i<h.length->i∉K->h'[i]?=h[i]?
theorem Fr.refl(K:List Nat)(h:List AO):Fr K h h:=⟨Qi _,λ_ _ _=>rfl⟩
theorem Fr.more(K:List Nat)(h os:List AO):Fr K h (h++os):=⟨by simp,λi hi _=>Qg hi⟩
theorem Fr.trans{K K':List Nat}{h h1 h2:List AO}(a:Fr K h h1)(b:Fr K' h1 h2)(hk:∀i∈K',i∈K\/h.length<=i):Fr K h h2:=
 ⟨Nat.le_trans a.1 b.1,λi hi hn=>by
   rw[b.2 i (QD hi a.1) (λhm=>by
    rcases hk i hm with q|q
    ·exact hn q
    ·omega),a.2 i hi hn]⟩
theorem Fr.sub{K K':List Nat}{h h1:List AO}(a:Fr K h h1)(hk:∀i∈K,i∈K'\/h.length<=i):Fr K' h h1:=
 ⟨a.1,λi hi hn=>a.2 i hi λhm=>by
   rcases hk i hm with q|q
   ·exact hn q
   ·omega⟩
theorem Fr.from{K:List Nat}{h os h2:List AO}(a:Fr K (h++os) h2):Fr K h h2:=
 ⟨by have:=a.1;simp at this;omega,λi hi hn=>by rw[a.2 i (by simp;omega) hn,Qg hi]⟩
theorem ca(q:PV):(AV.p q).isCell=true:=rfl
theorem mG(a b c d:Nat):(AV.sl a b c d).isCell=true:=rfl
theorem au:AV.nils.isCell=true:=rfl
theorem ce(q:PV):(AV.p q).cells=[AV.p q]:=rfl
theorem mV(a b c d:Nat):(AV.sl a b c d).cells=[AV.sl a b c d]:=rfl
theorem aw:AV.nils.cells=[AV.nils]:=rfl
theorem aJ(cs:List AV):(AV.agg cs).cells=cs:=rfl
end
section
theorem Pt{r:List AV}(h:r.length=4):∃a b c d,r=[a,b,c,d]:=by
 match r,h with
 |[a,b,c,d],_=>exact⟨a,b,c,d,rfl⟩
theorem PE{r:List AV}(h:r.length=5):∃a b c d e,r=[a,b,c,d,e]:=by
 match r,h with
 |[a,b,c,d,e],_=>exact⟨a,b,c,d,e,rfl⟩
theorem PH{r:List AV}(h:r.length=3):∃a b c,r=[a,b,c]:=by
 match r,h with
 |[a,b,c],_=>exact⟨a,b,c,rfl⟩
def zEx:List PV:=[.int .i64 0,.int .i64 0,.str [],.lst 4 []]
def zSm:List PV:=[.int .i64 0,.str [],.lst 4 [],.lst 5 [],.lst 5 []]
def zFd:List PV:=[.str [],.lst 1 [],.lst 5 []]
theorem bf{s:Bool}{h:List AO}{v:AV}{q:PV}{I:List Nat}(H:OwnL s h [v] [q] I):v.cells=[v]/\v.isCell=true:=by
 cases H with
 |p _ _ _=>exact⟨rfl,rfl⟩
 |nils _ _=>exact⟨rfl,rfl⟩
 |sl id sz n rows es _ _ _ _ _ _ _=>exact⟨rfl,rfl⟩
theorem fr3{s:Bool}{a b c a' b' c':AO}{os r:List AO}{vs:List AV}{qs:List PV}{I:List Nat}(H:OwnL s (a::b::c::os) vs qs I)(hI:∀i∈I,3<=i):OwnL s (a'::b'::c'::(os++r)) vs qs I:=by
 have h1:OwnL s (a'::b'::c'::os) vs qs I:=H.frame λi hi=>by
  have:=hI i hi
  obtain⟨k,rfl⟩:∃k,i=k+3:=⟨i-3,by omega⟩
  rfl
 exact h1.more r
theorem sL{I J:List Nat}(k:Nat)(n1:I.Nodup)(n2:J.Nodup)(h1:∀i∈I,i<k)(h2:∀j∈J,k<=j):(I++J).Nodup:=
 Rk.2 ⟨n1,n2,λa ha b hb e=>by have:=h1 a ha;have:=h2 b hb;omega⟩
variable (G:aq)
theorem zl(l:List Ex)(hb:l.length<=1048576)(H:∀e∈l,AC Tryz.prog G dA [.agg (e.cs.map .p)] [] (MkW .agg true e.cs)):AC Tryz.prog G bG [.p (exL l)] [] (MkW bz true [exL l]):=by
 have hsl:∀l,exL l= .lst 4 (l.map Ex.cs):=λ_=>rfl
 refine AC.go mT ?_
 simp-implicitDefEqProofs[iW,hsl]
 refine⟨by omega,?_⟩
 refine an (λa:FilS=>ag 23 [(0,.p (exL l)),(3,.sl 0 4 0 l.length),(4,.p (.int .i64 a.i))]) (λa=>a.h) (FilI true 0 4 (l.map Ex.cs) zEx) (λa=>l.length-a.i) ⟨0,[.row 4 (List.replicate l.length [.p (.int .i64 0),.p (.int .i64 0),.p (.str []),.nils])]⟩
  (FilI.init rfl (by simp) (.p _ (λ_=>rfl) (.p _ (λ_=>rfl) (.p _ (λ_=>rfl) (.nils 4 .nil)))) rfl) ?_ ?_
 ·exact az (by simp) (by simp[below,hsl])
 ·rintro⟨i,hh⟩ hI
  simp-implicitDefEqProofs[hsl]
  refine aQ (λh1=>?_) (λh1=>?_)
  ·simp at h1
   have hg:=Qd h1
   have hH:=H l[i] (Qj h1)
   have hcs:=l[i].cs_eq
   have hD':(l.map Ex.cs)[i]?=some l[i].cs:=by rw[Qo,hg];rfl
   generalize l[i]=e at hg hH hcs hD'
   have hA:=AC.mkLift fk hH (h:=hh) (by rw[hcs];simp)
   rw[hcs] at hA
   simp-implicitDefEqProofs[hg,hcs]
   refine hA.mono ?_
   rintro r h2 ⟨vs,I2,os,rfl,e2,ho,nd,hf⟩
   rw[←hcs] at ho
   obtain⟨rows,r0,k1,k2,k3,k4,k5,k6⟩:=hI.step hD' e2 ho nd hf e.cs_len
   obtain⟨K,rfl,hK⟩:=sx ho
   obtain⟨c1,c2⟩:=bf hK
   obtain⟨z1,z2,z3,z4,rfl⟩:=Pt k3
   have hll:0<h2.length:=(Qf.1 k1).1
   simp-implicitDefEqProofs[-AV.cells,-AV.isCell,ce,aw,aJ,ca,au,c1,c2,aa,k1,k2,h1,dO]
   refine⟨_,k6,by simp;omega,az (by simp) ?_⟩
   simp[below,hsl,w1 (i:=i) (by omega)]
   omega
  ·simp at h1
   obtain⟨rows,J,hr⟩:=hI.done (by simpa using h1)
   simp-implicitDefEqProofs[]
   exact⟨_,_,rfl,hr.tree (by simp),hr.nd⟩
theorem It:∀(N:Nat) (e:Ex),e.sz<=N->e.sz<=1048576->AC Tryz.prog G dA [.agg (e.cs.map .p)] [] (MkW .agg true e.cs):=by
 intro N
 induction N with
 |zero=>intro e he;have:=e.sz_pos;omega
 |succ N ih=>
  intro e he hb
  have hec:=e.cs_eq
  have hsz:=e.sz_eq
  have hkl:=aS e.kids
  have hS:=zl G e.kids (by omega) (λx hx=>ih x (by have:=aF hx;omega) (by have:=aF hx;omega))
  refine AC.go oC ?_
  simp-implicitDefEqProofs[kD,hec]
  refine(AC.mkLift er hS (by simp)).mono ?_
  rintro r h2 ⟨vs,I2,os,rfl,e2,ho,nd,hf⟩
  obtain⟨K,rfl⟩:=aL ho
  obtain⟨c1,c2⟩:=bf ho
  simp at hf
  subst e2
  simp-implicitDefEqProofs[-AV.cells,-AV.isCell,ce,aw,aJ,ca,au,c1,c2,aa,bz]
  refine⟨_,I2,rfl,?_,nd⟩
  have:=Mv (o:=e.op) (n:=e.n) (w:=e.name) (k:=e.kids) (fr3 (r:=[]) (a':= .row 4 [[.p (.int .i64 e.op),.p (.int .i64 e.n),.p (.str e.name),.p (exL e.kids)]]) (b':= .row 4 [[.p (.int .i64 e.op),.p (.int .i64 e.n),.p (.str e.name),K]]) (c':= .row 4 [[.p (.int .i64 e.op),.p (.int .i64 e.n),.p (.str e.name),K]]) ho hf)
  rw[QK,Ex.cs_eq] at this
  exact this
theorem Fk(l:List Ex)(hb:bZ l<=1048576):AC Tryz.prog G bG [.p (exL l)] [] (MkW bz true [exL l]):=
 zl G l (by have:=aS l;omega) (λe he=>It G e.sz e (Qi _) (by have:=aF he;omega))
theorem sJ(l:List Sm)(hb:l.length<=1048576)(H:∀e∈l,AC Tryz.prog G dz [.agg (e.cs.map .p)] [] (MkW .agg true e.cs)):AC Tryz.prog G bn [.p (smL l)] [] (MkW bz true [smL l]):=by
 have hsl:∀l,smL l= .lst 5 (l.map Sm.cs):=λ_=>rfl
 refine AC.go mu ?_
 simp-implicitDefEqProofs[ji,hsl]
 refine⟨by omega,?_⟩
 refine an (λa:FilS=>ag 23 [(0,.p (smL l)),(3,.sl 0 5 0 l.length),(4,.p (.int .i64 a.i))]) (λa=>a.h) (FilI true 0 5 (l.map Sm.cs) zSm) (λa=>l.length-a.i) ⟨0,[.row 5 (List.replicate l.length [.p (.int .i64 0),.p (.str []),.nils,.nils,.nils])]⟩
  (FilI.init rfl (by simp) (.p _ (λ_=>rfl) (.p _ (λ_=>rfl) (.nils 4 (.nils 5 (.nils 5 .nil))))) rfl) ?_ ?_
 ·exact az (by simp) (by simp[below,hsl])
 ·rintro⟨i,hh⟩ hI
  simp-implicitDefEqProofs[hsl]
  refine aQ (λh1=>?_) (λh1=>?_)
  ·simp at h1
   have hg:=Qd h1
   have hH:=H l[i] (Qj h1)
   have hcs:=l[i].cs_eq
   have hD':(l.map Sm.cs)[i]?=some l[i].cs:=by rw[Qo,hg];rfl
   generalize l[i]=e at hg hH hcs hD'
   have hA:=AC.mkLift fk hH (h:=hh) (by rw[hcs];simp)
   rw[hcs] at hA
   simp-implicitDefEqProofs[hg,hcs]
   refine hA.mono ?_
   rintro r h2 ⟨vs,I2,os,rfl,e2,ho,nd,hf⟩
   rw[←hcs] at ho
   obtain⟨rows,r0,k1,k2,k3,k4,k5,k6⟩:=hI.step hD' e2 ho nd hf e.cs_len
   obtain⟨A,B,E,I3,I4,I5,rfl,_,hA1,hA2,hA3⟩:=Au ho
   obtain⟨c1,c2⟩:=bf hA1
   obtain⟨c3,c4⟩:=bf hA2
   obtain⟨c5,c6⟩:=bf hA3
   obtain⟨z1,z2,z3,z4,z5,rfl⟩:=PE k3
   have hll:0<h2.length:=(Qf.1 k1).1
   simp-implicitDefEqProofs[-AV.cells,-AV.isCell,ce,aw,aJ,ca,au,c1,c2,c3,c4,c5,c6,aa,k1,k2,h1,dO]
   refine⟨_,k6,by simp;omega,az (by simp) ?_⟩
   simp[below,hsl,w1 (i:=i) (by omega)]
   omega
  ·simp at h1
   obtain⟨rows,J,hr⟩:=hI.done (by simpa using h1)
   simp-implicitDefEqProofs[]
   exact⟨_,_,rfl,hr.tree (by simp),hr.nd⟩
theorem Hu:∀(N:Nat) (e:Sm),e.sz<=N->e.sz<=1048576->AC Tryz.prog G dz [.agg (e.cs.map .p)] [] (MkW .agg true e.cs):=by
 intro N
 induction N with
 |zero=>intro e he;have:=e.sz_pos;omega
 |succ N ih=>
  intro e he hb
  have hec:=e.cs_eq
  have hsz:=e.sz_eq
  have hA:=Fk G e.args (by omega)
  have hB:=sJ G e.body (by have:=aZ e.body;omega) (λx hx=>ih x (by have:=aM hx;omega) (by have:=aM hx;omega))
  have hE:=sJ G e.els (by have:=aZ e.els;omega) (λx hx=>ih x (by have:=aM hx;omega) (by have:=aM hx;omega))
  refine AC.go og ?_
  simp-implicitDefEqProofs[kh,hec]
  refine(AC.mkLift er hA (by simp)).mono ?_
  rintro r h2 ⟨vs,I1,os1,rfl,e2,o1,n1,f1⟩
  obtain⟨A,rfl⟩:=aL o1
  obtain⟨c1,c2⟩:=bf o1
  have l1:=λi (hi:i∈I1)=>o1.lt hi
  simp at f1
  subst e2
  simp at l1
  simp-implicitDefEqProofs[-AV.cells,-AV.isCell,ce,aw,aJ,ca,au,c1,c2,aa,bz]
  refine(AC.mkLift er hB (by simp)).mono ?_
  rintro r h2 ⟨vs,I2,os2,rfl,e2,o2,n2,f2⟩
  obtain⟨B,rfl⟩:=aL o2
  obtain⟨c3,c4⟩:=bf o2
  have l2:=λi (hi:i∈I2)=>o2.lt hi
  simp at f2
  subst e2
  simp at l2
  simp-implicitDefEqProofs[-AV.cells,-AV.isCell,ce,aw,aJ,ca,au,c1,c2,c3,c4,aa,bz]
  refine(AC.mkLift er hE (by simp)).mono ?_
  rintro r h2 ⟨vs,I3,os3,rfl,e2,o3,n3,f3⟩
  obtain⟨E,rfl⟩:=aL o3
  obtain⟨c5,c6⟩:=bf o3
  simp at f3
  subst e2
  simp-implicitDefEqProofs[-AV.cells,-AV.isCell,ce,aw,aJ,ca,au,c1,c2,c3,c4,c5,c6,aa,bz]
  simp only[QO,List.nil_append,Qv] at o1 o2 o3
  refine⟨_,I1++(I2++I3),rfl,?_,sL (os1.length+3) n1 (sL (os1.length+os2.length+3) n2 n3 (λi hi=>by have:=l2 i hi;omega) (λi hi=>by have:=f3 i hi;omega)) (λi hi=>by have:=l1 i hi;omega) (λi hi=>by
   rcases Qn.1 hi with h|h
   ·have:=f2 i h;omega
   ·have:=f3 i h;omega)⟩
  have hd:=Mb (o:=e.op) (w:=e.name) (a:=e.args) (b:=e.body) (e:=e.els) (A:=A) (B:=B) (E:=E) (I1:=I1) (I2:=I2) (I3:=I3)
   (fr3 (r:=os2++os3) (a':= .row 5 [[.p (.int .i64 e.op),.p (.str e.name),.p (exL e.args),.p (smL e.body),.p (smL e.els)]]) (b':= .row 5 [[.p (.int .i64 e.op),.p (.str e.name),A,B,E]]) (c':= .row 5 [[.p (.int .i64 e.op),.p (.str e.name),A,B,E]]) o1 f1)
   (by
     have:=fr3 (r:=os3) (a':= .row 5 [[.p (.int .i64 e.op),.p (.str e.name),.p (exL e.args),.p (smL e.body),.p (smL e.els)]]) (b':= .row 5 [[.p (.int .i64 e.op),.p (.str e.name),A,B,E]]) (c':= .row 5 [[.p (.int .i64 e.op),.p (.str e.name),A,B,E]]) o2 (λi hi=>by have:=f2 i hi;omega)
     rwa[Qv] at this)
   (by
     have:=fr3 (r:=[]) (a':= .row 5 [[.p (.int .i64 e.op),.p (.str e.name),.p (exL e.args),.p (smL e.body),.p (smL e.els)]]) (b':= .row 5 [[.p (.int .i64 e.op),.p (.str e.name),A,B,E]]) (c':= .row 5 [[.p (.int .i64 e.op),.p (.str e.name),A,B,E]]) o3 (λi hi=>by have:=f3 i hi;omega)
     rwa[QK] at this)
  rw[Sm.cs_eq] at hd
  exact hd
theorem EL(l:List Sm)(hb:aG l<=1048576):AC Tryz.prog G bn [.p (smL l)] [] (MkW bz true [smL l]):=
 sJ G l (by have:=aZ l;omega) (λe he=>Hu G e.sz e (Qi _) (by have:=aM he;omega))
theorem yV{h:List AO}{id:Nat}{l:List (List UInt8)}(e:h[id]?=some (mI l)){n:Nat}(hn:n=l.length):OwnL true h [.sl id 1 0 n] [aB l] [id]:=by
 have hf:∀l:List (List UInt8),OwnL true h (l.map λw=>[AV.p (.str w)]).flatten (l.map λw=>[PV.str w]).flatten []:=by
  intro l
  induction l with
  |nil=>exact .nil
  |cons w r ih=>exact .p _ (λ_=>rfl) ih
 exact .sl id 1 n _ _ (by rw[e];rfl) (by simp[hn]) (by simp) (by simp) (by simp) (hf l) .nil
theorem KM(l:List Fd)(hb:l.length<=1048576)(H:∀e∈l,AC Tryz.prog G fG [.agg (e.cs.map .p)] [] (MkW .agg true e.cs)):AC Tryz.prog G fZ [.p (fdL l)] [] (MkW bz true [fdL l]):=by
 have hsl:∀l,fdL l= .lst 3 (l.map Fd.cs):=λ_=>rfl
 refine AC.go pQ ?_
 simp-implicitDefEqProofs[lz,hsl]
 refine⟨by omega,?_⟩
 refine an (λa:FilS=>ag 23 [(0,.p (fdL l)),(3,.sl 0 3 0 l.length),(4,.p (.int .i64 a.i))]) (λa=>a.h) (FilI true 0 3 (l.map Fd.cs) zFd) (λa=>l.length-a.i) ⟨0,[.row 3 (List.replicate l.length [.p (.str []),.nils,.nils])]⟩
  (FilI.init rfl (by simp) (.p _ (λ_=>rfl) (.nils 1 (.nils 5 .nil))) rfl) ?_ ?_
 ·exact az (by simp) (by simp[below,hsl])
 ·rintro⟨i,hh⟩ hI
  simp-implicitDefEqProofs[hsl]
  refine aQ (λh1=>?_) (λh1=>?_)
  ·simp at h1
   have hg:=Qd h1
   have hH:=H l[i] (Qj h1)
   have hcs:=l[i].cs_eq'
   have hD':(l.map Fd.cs)[i]?=some l[i].cs:=by rw[Qo,hg];rfl
   generalize l[i]=e at hg hH hcs hD'
   have hA:=AC.mkLift fk hH (h:=hh) (by rw[hcs];simp)
   rw[hcs] at hA
   simp-implicitDefEqProofs[hg,hcs]
   refine hA.mono ?_
   rintro r h2 ⟨vs,I2,os,rfl,e2,ho,nd,hf⟩
   rw[←hcs] at ho
   obtain⟨rows,r0,k1,k2,k3,k4,k5,k6⟩:=hI.step hD' e2 ho nd hf e.cs_len
   obtain⟨A,B,I3,I4,rfl,_,hA1,hA2⟩:=Dc ho
   obtain⟨c1,c2⟩:=bf hA1
   obtain⟨c3,c4⟩:=bf hA2
   obtain⟨z1,z2,z3,rfl⟩:=PH k3
   have hll:0<h2.length:=(Qf.1 k1).1
   simp-implicitDefEqProofs[-AV.cells,-AV.isCell,ce,aw,aJ,ca,au,c1,c2,c3,c4,aa,k1,k2,h1,dO]
   refine⟨_,k6,by simp;omega,az (by simp) ?_⟩
   simp[below,hsl,w1 (i:=i) (by omega)]
   omega
  ·simp at h1
   obtain⟨rows,J,hr⟩:=hI.done (by simpa using h1)
   simp-implicitDefEqProofs[]
   exact⟨_,_,rfl,hr.tree (by simp),hr.nd⟩
theorem LM(e:Fd)(hb:e.sz<=1048576):AC Tryz.prog G fG [.agg (e.cs.map .p)] [] (MkW .agg true e.cs):=by
 have hec:=e.cs_eq'
 have hsz:e.sz=1+e.name.length+(e.params.length+(e.params.map List.length).sum)+aG e.body:=rfl
 have hA:AC Tryz.prog G cT [.p (aB e.params)] [] (MkW bz true [aB e.params]):=(th G e.params (by omega)).mono λx h ⟨h1,h2⟩=>⟨[.sl 0 1 0 e.params.length],[0],by rw[h1];rfl,yV (by rw[h2];rfl) rfl,by simp⟩
 have hB:=EL G e.body (by omega)
 refine AC.go sX ?_
 simp-implicitDefEqProofs[mt,hec]
 refine(AC.mkLift er hA (by simp)).mono ?_
 rintro r h2 ⟨vs,I1,os1,rfl,e2,o1,n1,f1⟩
 obtain⟨A,rfl⟩:=aL o1
 obtain⟨c1,c2⟩:=bf o1
 have l1:=λi (hi:i∈I1)=>o1.lt hi
 simp at f1
 subst e2
 simp at l1
 simp-implicitDefEqProofs[-AV.cells,-AV.isCell,ce,aw,aJ,ca,au,c1,c2,aa,bz]
 refine(AC.mkLift er hB (by simp)).mono ?_
 rintro r h2 ⟨vs,I2,os2,rfl,e2,o2,n2,f2⟩
 obtain⟨B,rfl⟩:=aL o2
 obtain⟨c3,c4⟩:=bf o2
 simp at f2
 subst e2
 simp-implicitDefEqProofs[-AV.cells,-AV.isCell,ce,aw,aJ,ca,au,c1,c2,c3,c4,aa,bz]
 simp only[QO,List.nil_append,Qv] at o1 o2
 refine⟨_,I1++I2,rfl,?_,sL (os1.length+3) n1 n2 (λi hi=>by have:=l1 i hi;omega) (λi hi=>by have:=f2 i hi;omega)⟩
 refine LW (fr3 (r:=os2) o1 f1) ?_
 have:=fr3 (r:=[]) (a':= .row 3 [[.p (.str e.name),.p (aB e.params),.p (smL e.body)]]) (b':= .row 3 [[.p (.str e.name),A,B]]) (c':= .row 3 [[.p (.str e.name),A,B]]) o2 (λi hi=>by have:=f2 i hi;omega)
 rwa[QK] at this
theorem BW(l:List Fd)(hb:bl l<=1048576):AC Tryz.prog G bA [.agg [.p (fdL l)]] [] (MkW .agg true [fdL l]):=by
 have hA:=KM G l (by have:=cJ l;omega) (λe he=>LM G e (by have:=cU he;omega))
 refine AC.go kZ ?_
 simp-implicitDefEqProofs[gC]
 refine(AC.mkLift er hA (by simp)).mono ?_
 rintro r h2 ⟨vs,I1,os1,rfl,e2,o1,n1,f1⟩
 obtain⟨A,rfl⟩:=aL o1
 obtain⟨c1,c2⟩:=bf o1
 simp at f1
 subst e2
 simp-implicitDefEqProofs[-AV.cells,-AV.isCell,ce,aw,aJ,ca,au,c1,c2,aa,bz]
 have:=fr3 (r:=[]) (a':= .row 1 [[.p (fdL l)]]) (b':= .row 1 [[A]]) (c':= .row 1 [[A]]) o1 f1
 rw[QK] at this
 exact⟨_,I1,rfl,this,n1⟩
end
section
section
variable {s:Bool} {h:List AO} {id sz:Nat} {rows:List (List AV)} {D:List (List PV)} {J:List Nat}
theorem He(H:RowOwn s h id sz rows D J){h2 os:List AO}(e2:h2=h++os){r':List AV}{e':List PV}{I2:List Nat}(ho:OwnL s h2 r' e' I2)(nd2:I2.Nodup)(hd:∀j∈I2,j≠id/\j∉J)(he:e'.length=sz):
 RowOwn s (h2.set id .dead++[.row sz (rows++[r'])]) h2.length sz (rows++[r']) (D++[e']) (J++I2):=by
 subst e2
 have hid:=H.lt
 have hn:=H.nd
 rw[Ra] at hn
 have hid2:id∉I2:=λhm=>(hd _ hm).1 rfl
 have hlt:∀j∈J,j<h.length:=λj hj=>H.own.lt hj
 have hlt2:∀j∈I2,j<(h++os).length:=λj hj=>ho.lt hj
 refine⟨by rw[Qr (by simp)];simp,by simp[H.len],λe he'=>?_,λe he'=>?_,?_,?_⟩
 ·rcases Qn.1 he' with h1|h1
  ·exact H.rl e h1
  ·rw[Qt.1 h1,ho.len,he]
 ·rcases Qn.1 he' with h1|h1
  ·exact H.dl e h1
  ·rw[Qt.1 h1,he]
 ·rw[QT,QT,List.flatten_singleton,List.flatten_singleton]
  exact(((H.own.more os).set_out hn.1 _).more _).app ((ho.set_out hid2 _).more _)
 ·rw[Ra,Rk]
  refine⟨λhm=>?_,hn.2,nd2,λa ha b hb e=>?_⟩
  ·rcases Qn.1 hm with hm|hm
   ·have:=hlt _ hm;simp at this;omega
   ·have:=hlt2 _ hm;omega
  ·subst e;exact(hd a hb).2 ha
theorem vr:∀{rows:List (List AV)} {D:List (List PV)} {J:List Nat},rows.length=D.length->(∀e∈rows,e.length=sz)->(∀e∈D,e.length=sz)->OwnL s h rows.flatten D.flatten J->
 ∃Js:List (List Nat),Js.length=D.length/\J=Js.flatten/\∀(i:Nat) (r:List AV) (d:List PV) (js:List Nat),rows[i]?=some r->D[i]?=some d->Js[i]?=some js->OwnL s h r d js
 |[],[],J,_,_,_,H=>by
  cases H
  exact⟨[],rfl,rfl,λi r d js h=>by simp at h⟩
 |r::rows,d::D,J,hl,hr,hd,H=>by
  rw[QL,QL] at H
  obtain⟨I1,I2,rfl,h1,h2⟩:=OwnL.split H (by rw[hr r (by simp),hd d (by simp)])
  obtain⟨Js,e1,rfl,e3⟩:=vr (by simpa using hl) (λe he=>hr e (by simp[he])) (λe he=>hd e (by simp[he])) h2
  refine⟨I1::Js,by simp[e1],rfl,λi r' d' js' q1 q2 q3=>?_⟩
  cases i with
  |zero=>cases q1;cases q2;cases q3;exact h1
  |succ i=>exact e3 i r' d' js' (by simpa using q1) (by simpa using q2) (by simpa using q3)
 |[],_::_,_,hl,_,_,_=>by simp at hl
 |_::_,[],_,hl,_,_,_=>by simp at hl
end
variable (G:aq)
structure CbS where (i:Nat) (X:List AO) (K:AV)
def CbI(h:List AO)(Js:List (List Nat))(l:List Sm)(X:List AO)(i:Nat)(K:AV):Prop:=
 (dg (l.take i)=[]/\K= .nils)\/∃oid rowsO Jo,K= .sl oid 5 0 (dg (l.take i)).length/\RowOwn true X oid 5 rowsO ((dg (l.take i)).map Sm.cs) Jo/\h.length<=oid/\∀j∈Jo,j∈(Js.take i).flatten
def Lg(h:List AO)(I:List Nat)(l:List Sm)(x:ARes)(h':List AO):Prop:=∃v' I' os,x= .ret v'/\h'=h++os/\OwnL true h' [v'] [smL (dg l)] I'/\I'.Nodup/\∀i∈I',i∈I\/h.length<=i
theorem CbI.fin{h:List AO}{Js:List (List Nat)}{l:List Sm}{os:List AO}{K:AV}{id:Nat}(H:CbI h Js l (h++os) l.length K):Lg h (id::Js.flatten) l (.ret K) (h++os):=by
 rcases H with⟨e,rfl⟩|⟨oid,rowsO,Jo,rfl,hr,ho,hj⟩
 ·rw[QC] at e
  exact⟨_,[],os,rfl,rfl,by rw[e];exact .nils 5 .nil,List.nodup_nil,λi hi=>by simp at hi⟩
 ·rw[QC] at hr⊢
  refine⟨_,oid::Jo,os,rfl,rfl,hr.tree (by simp),hr.nd,λi hi=>?_⟩
  rcases QH.1 hi with rfl|hi
  ·exact .inr ho
  ·have:=hj i hi
   obtain⟨x,hx,hi⟩:=List.mem_flatten.1 this
   exact .inl (Rb _ (List.mem_flatten.2 ⟨x,QU hx,hi⟩))
def CbJ(h:List AO)(s:Sm)(A:AV)(S:List Nat)(p:AV × AV):Prop:=iB s=false/\p.1.isCell=true/\p.1.cells=[p.1]/\p.2.isCell=true/\p.2.cells=[p.2]/\∃I',OwnL true h [.p (.int .i64 s.op),.p (.str s.name),A,p.1,p.2] (fI s).cs I'/\I'.Nodup/\∀j∈I',j∈S
theorem CbI.below{h:List AO}{Js:List (List Nat)}{l:List Sm}{X:List AO}{i:Nat}{K:AV}(H:CbI h Js l X i K){n:Nat}(hn:X.length<=n):Aw.below n K:=by
 rcases H with⟨_,rfl⟩|⟨oid,_,_,rfl,hr,_⟩
 ·trivial
 ·simp only[Aw.below];have:=hr.lt;omega
theorem CbI.more{h:List AO}{Js:List (List Nat)}{l:List Sm}{X:List AO}{i j:Nat}{K:AV}(H:CbI h Js l X i K)(e:dg (l.take j)=dg (l.take i))(hj:∀x∈(Js.take i).flatten,x∈(Js.take j).flatten)(t:List AO):CbI h Js l (X++t) j K:=by
 rcases H with⟨e0,rfl⟩|⟨oid,rowsO,Jo,rfl,hr,ho,h2⟩
 ·exact .inl ⟨by rw[e,e0],rfl⟩
 ·exact .inr ⟨oid,rowsO,Jo,by rw[e],by rw[e];exact hr.more t,ho,λx hx=>hj x (h2 x hx)⟩
theorem DC(l:List Sm)(hf:∀x∈l,x.args≠[])(hz:l.length<=1073741824)(h:List AO)(v:AV)(I:List Nat)(ho:OwnL true h [v] [smL l] I)(nd:I.Nodup):
 AC Tryz.prog G aX [v] h (Lg h I l):=by
 have hsl:∀l,smL l= .lst 5 (l.map Sm.cs):=λ_=>rfl
 rw[hsl] at ho
 rcases ho.inv nd with⟨h0,rfl,rfl|rfl⟩|⟨hh,_⟩|⟨id,rows,J,rfl,rfl,hr⟩
 ·have hl0:l=[]:=List.map_eq_nil_iff.1 h0
  subst hl0
  have hst:Lg h [] [] (.ret .nils) h:=⟨.nils,[],[],rfl,by simp,.nils 5 .nil,List.nodup_nil,λi hi=>by simp at hi⟩
  refine AC.goK im iv ?_
  simp-implicitDefEqProofs[dr,dt]
  refine an (λ_:Unit=>ag 57 [(3,.nils),(6,.nils),(7,.p (.int .i64 0)),(8,.p (.int .i64 0))]) (λ_=>h) (λ_=>True) (λ_=>0) () trivial (az (Qi _) (by simp[below])) ?_
  intro _ _
  simp-implicitDefEqProofs[]
  exact hst
 ·have hl0:l=[]:=List.map_eq_nil_iff.1 h0
  subst hl0
  have hst:Lg h [] [] (.ret .nils) h:=⟨.nils,[],[],rfl,by simp,.nils 5 .nil,List.nodup_nil,λi hi=>by simp at hi⟩
  refine AC.goK im iv ?_
  simp-implicitDefEqProofs[dr,dt]
  refine an (λ_:Unit=>ag 57 [(3,.nils),(6,.p (.lst 5 [])),(7,.p (.int .i64 0)),(8,.p (.int .i64 0))]) (λ_=>h) (λ_=>True) (λ_=>0) () trivial (az (Qi _) (by simp[below])) ?_
  intro _ _
  simp-implicitDefEqProofs[]
  exact hst
 ·cases hh
 have hn:=hr.nd
 obtain⟨Js,hJl,rfl,hJs⟩:=vr hr.len hr.rl hr.dl hr.own
 rw[Qu] at hJl
 have hrl:rows.length=l.length:=by have:=hr.len;rwa[Qu] at this
 have hidl:=hr.lt
 have hJlt:∀j∈Js.flatten,j<h.length:=λj hj=>hr.own.lt hj
 rw[Qu]
 refine AC.goK im iv ?_
 simp-implicitDefEqProofs[dr,dt]
 refine an (λa:CbS=>ag 57 [(3,a.K),(6,.sl id 5 0 l.length),(7,.p (.int .i64 l.length)),(8,.p (.int .i64 a.i))]) (λa=>a.X)
  (λa=>a.i<=l.length/\nb7 (l.take a.i)/\(∃os,a.X=h++os)/\CbI h Js l a.X a.i a.K) (λa=>l.length-a.i) ⟨0,h,.nils⟩ ⟨Ri _,λx hx=>by simp at hx,⟨[],by simp⟩,.inl ⟨rfl,rfl⟩⟩ ?_ ?_
 ·exact az (Qi _) (by simp[below];omega)
 rintro⟨i,X,K⟩ ⟨hi,hnb,⟨os,hX⟩,hI⟩
 simp only at hi hnb hX hI
 have hXl:h.length<=X.length:=by rw[hX];simp
 have gid:∀t,(X++t)[id]?=some (.row 5 rows):=λt=>by rw[hX,Qv,Qg hidl];exact hr.here
 have gid0:X[id]?=some (.row 5 rows):=by simpa using gid []
 simp-implicitDefEqProofs[]
 refine aQ (λhc=>?_) (λhc=>?_)
 ·simp at hc
  have hg:=Qd hc
  have hfx:=hf l[i] (Qj hc)
  have htk:=al hc
  have hdr:=Rm hc
  have hsplit:=QN i l
  have hjg:Js[i]?=some Js[i]:=Qd (by omega)
  have hrg:rows[i]?=some rows[i]:=Qd (by omega)
  have hown:=hJs i rows[i] l[i].cs Js[i] hrg (by rw[Qo,hg];rfl) hjg
  have hjtk:Js.take (i+1)=Js.take i++[Js[i]]:=List.take_succ_eq_append_getElem (by omega)
  have hjd:=QN i Js
  have hjdr:Js.drop i=Js[i]::Js.drop (i+1):=Rm (by omega)
  generalize l[i]=s at hg hfx htk hdr hown
  generalize rows[i]=r at hrg hown
  generalize Js[i]=js at hjg hown hjtk hjdr
  obtain⟨A,B,E,IA,IB,IE,rfl,rfl,hA,hB,hE⟩:=Au hown
  obtain⟨c1,c2⟩:=bf hA
  obtain⟨c3,c4⟩:=bf hB
  obtain⟨c5,c6⟩:=bf hE
  have hJf:Js.flatten=(Js.take i).flatten++((IA++(IB++IE))++(Js.drop (i+1)).flatten):=by
   conv=>lhs;rw[←hjd,hjdr]
   simp
  have hn2:=(Ra.1 hn).2
  rw[hJf,Rk] at hn2
  obtain⟨_,n2,n3⟩:=hn2
  obtain⟨nel,_,_⟩:=Rk.1 n2
  obtain⟨nA,nBE,nABE⟩:=Rk.1 nel
  obtain⟨nB,nE,_⟩:=Rk.1 nBE
  have hidn:∀j∈IA++(IB++IE),j<h.length:=λj hj=>hJlt j (by rw[hJf];exact QZ _ (Rc _ hj))
  obtain⟨a,ra,ha⟩:∃a r,s.args=a::r:=by
   match hx:s.args,hfx with
   |a::r,_=>exact⟨a,r,rfl⟩
  have hxl:∀l,exL l= .lst 4 (l.map Ex.cs):=λ_=>rfl
  have hA':=hA
  rw[ha,hxl] at hA'
  rcases hA'.inv nA with⟨e,_⟩|⟨e,_⟩|⟨ida,rowsA,JA,rfl,rfl,hrA⟩
  ·simp at e
  ·cases e
  have hm4:((a::ra).map Ex.cs).length=ra.length+1:=by simp
  have hm0:0<ra.length+1:=by omega
  rw[hm4] at hA c1 hrg
  obtain⟨SI,hSI⟩:∃SI,SI=(ida::JA)++(IB++IE):=⟨_,rfl⟩
  obtain⟨Ks,hKl,_,hKs⟩:=vr hrA.len hrA.rl hrA.dl hrA.own
  have hrAl:rowsA.length=ra.length+1:=by rw[hrA.len];simp
  have hr0:rowsA[0]?=some rowsA[0]:=Qd (by omega)
  have hk0:Ks[0]?=some (Ks[0]'(by rw[hKl];simp)):=Qd _
  have hown0:=hKs 0 _ a.cs _ hr0 (by simp) hk0
  generalize rowsA[0]=r0 at hr0 hown0
  obtain⟨Kk,rfl,hKk⟩:=sx hown0
  obtain⟨c7,c8⟩:=bf hKk
  have hidal:=hrA.lt
  have gida:∀t,(X++t)[ida]?=some (.row 4 rowsA):=λt=>by rw[hX,Qv,Qg hidal];exact hrA.here
  have HI:∀t,AC Tryz.prog G fO [.agg [.p (.int .i64 a.op),.p (.int .i64 a.n),.p (.str a.name),Kk],.p (.int .i64 0)] (X++t) λx h'=>x= .ret (.p (.bool (isN a 0)))/\h'=X++t:=λt=>by
   have h0:=JC G a 0
   rw[a.cs_eq] at h0
   have hv:View (X++t) Kk (exL a.kids):=by
    rw[hX,Qv]
    exact(hKk.more _).view 0 _ _ rfl rfl
   exact h0.lend (h:=X++t) (args:=[.agg [.p (.int .i64 a.op),.p (.int .i64 a.n),.p (.str a.name),Kk],.p (.int .i64 0)]) (.agg (.keep (by simp[below]) (.keep (by simp[below]) (.keep (by simp[below]) (.one hv .nil)))) (.keep (by simp[below]) .nil)) rfl
  have hNa:∀n,se s n=isN a n:=λn=>by rw[se,ha]
  have hCa:AL s=decide (a.op=1):=by rw[AL,ha]
  have hzl:iB s=(decide (s.op=6)&&isN a 0):=by rw[iB,hNa]
  have eall:dg l=dg (l.take i)++dg (s::l.drop (i+1)):=by
   conv=>lhs;rw[←hsplit,hdr]
   exact xZ hnb
  have enxt:dg (l.take (i+1))=dg (l.take i)++dg [s]:=by rw[htk];exact xZ hnb
  have h5cs:(fI s).cs=[.int .i64 s.op,.str s.name,exL s.args,smL (fI s).body,smL (fI s).els]:=by rw[Sm.cs_eq];rfl
  have hb5:(fI s).body=if s.op=5/\isN a 0=true then[] else s.body:=by rw[fI,←hNa];rfl
  have he5:(fI s).els=if s.op=5/\isN a 0=false/\decide (a.op=1)=true then[] else s.els:=by rw[fI,←hNa,←hCa];rfl
  simp-implicitDefEqProofs[-AV.cells,-AV.isCell,ce,aw,aJ,mV,ca,au,mG,c1,c2,c3,c4,c5,c6,gid0,hrg]
  refine⟨by omega,?_⟩
  have mkJ:∀(B' E':AV) (IB' IE':List Nat),iB s=false->OwnL true h [B'] [smL (fI s).body] IB'->OwnL true h [E'] [smL (fI s).els] IE'->((ida::JA)++(IB'++IE')).Nodup->(∀j∈IB',j∈IB)->(∀j∈IE',j∈IE)->CbJ h s (.sl ida 4 0 (ra.length+1)) SI (B',E'):=λB' E' IB' IE' hzf o1 o2 ndJ s1 s2=>by
   obtain⟨d1,d2⟩:=bf o1
   obtain⟨d3,d4⟩:=bf o2
   refine⟨hzf,d2,d1,d4,d3,(ida::JA)++(IB'++IE'),by rw[h5cs];exact .p _ (λ_=>rfl) (.p _ (λ_=>rfl) (hA.app (o1.app o2))),ndJ,λj hj=>?_⟩
   rw[hSI]
   rcases Qn.1 hj with h1|h1
   ·exact Rc _ h1
   ·rcases Qn.1 h1 with h2|h2
    ·exact QZ _ (Rc _ (s1 j h2))
    ·exact QZ _ (QZ _ (s2 j h2))
  have ndN1:((ida::JA)++([]++IE)).Nodup:=nel.sublist (List.Sublist.append_left (List.sublist_append_right IB IE) _)
  have ndN2:((ida::JA)++(IB++[])).Nodup:=nel.sublist (List.Sublist.append_left (by simp) _)
  have hKb:=λn (hn:X.length<=n)=>hI.below hn
  refine sO (λp:AV × AV=>ag 57 [(3,K),(5,.ptr X.length 5 0 0),(6,.sl id 5 0 l.length),(7,.p (.int .i64 l.length)),(8,.p (.int .i64 i))])
   (λp=>X++[.row 5 [[.p (.int .i64 s.op),.p (.str s.name),.sl ida 4 0 (ra.length+1),p.1,p.2]]])
   (λp=>CbJ h s (.sl ida 4 0 (ra.length+1)) SI p) ?_ ?_
  ·have wk:∀(l1:List (Nat × AV)) (B' E':AV),Aw.look l1 3=K->Aw.look l1 5= .ptr X.length 5 0 0->Aw.look l1 6= .sl id 5 0 l.length->Aw.look l1 7= .p (.int .i64 l.length)->Aw.look l1 8= .p (.int .i64 i)->Wk h.length (ag 57 l1) (X++[.row 5 [[.p (.int .i64 s.op),.p (.str s.name),.sl ida 4 0 (ra.length+1),B',E']]]) (ag 57 [(3,K),(5,.ptr X.length 5 0 0),(6,.sl id 5 0 l.length),(7,.p (.int .i64 l.length)),(8,.p (.int .i64 i))]) (X++[.row 5 [[.p (.int .i64 s.op),.p (.str s.name),.sl ida 4 0 (ra.length+1),B',E']]]):=λl1 B' E' e3 e5 e6 e7 e8=>
    az (by simp;omega) (by simp[below,e3,e5,e6,e7,e8,hKb (X.length+1) (by omega)];omega)
   by_cases o6:s.op=6
   ·have o5:¬s.op=5:=by omega
    simp-implicitDefEqProofs[-AV.cells,-AV.isCell,ce,aw,aJ,mV,ca,au,mG,c1,c2,c3,c4,c5,c6,c7,c8,o6,gida,hr0,hm0]
    refine(HI _).mono ?_
    rintro x h' ⟨rfl,rfl⟩
    rw[o6] at wk
    by_cases h0:isN a 0=true
    ·have ez:iB s=true:=by rw[hzl,h0,o6];rfl
     have e1:dg [s]=[]:=by rw[dg,if_pos ez];rfl
     rw[e1,QK] at enxt
     simp-implicitDefEqProofs[aa,h0]
     refine⟨⟨i+1,X++[_],K⟩,⟨by simp only;omega,?_,⟨os++[_],by simp only;rw[hX,Qv]⟩,hI.more enxt (λx hx=>by rw[hjtk,QT];exact Rc _ hx) _⟩,by simp only;omega,az (by simp;omega) (by simp[below,hKb (X.length+1) (by omega),w1 (i:=i) (by omega)];omega)⟩
     show nb7 (l.take (i+1))
     rw[htk]
     intro x hx
     rcases Qn.1 hx with hx|hx
     ·exact hnb x hx
     ·rw[Qt.1 hx,o6];omega
    ·have h0:isN a 0=false:=by simpa using h0
     simp-implicitDefEqProofs[aa,h0,hzl]
     exact⟨B,E,mkJ B E IB IE (by rw[hzl,h0];simp) (by rw[hb5,if_neg (by omega)];exact hB) (by rw[he5,if_neg (by omega)];exact hE) nel (λ_ h=>h) (λ_ h=>h),by refine wk _ B E ?_ ?_ ?_ ?_ ?_<;>simp⟩
   ·have hz0:iB s=false:=by rw[hzl];simp[o6]
    by_cases o5:s.op=5
    ·rw[o5] at wk
     by_cases h0:isN a 0=true
     ·simp-implicitDefEqProofs[-AV.cells,-AV.isCell,ce,aw,aJ,mV,ca,au,mG,c1,c2,c3,c4,c5,c6,c7,c8,o5,gida,hr0,hm0]
      refine(HI _).mono ?_
      rintro x h' ⟨rfl,rfl⟩
      simp-implicitDefEqProofs[-AV.cells,-AV.isCell,ce,aw,aJ,mV,ca,au,mG,c1,c2,c3,c4,c5,c6,c7,c8,aa,h0]
      exact⟨.nils,E,mkJ .nils E [] IE hz0 (by rw[hb5,if_pos ⟨o5,h0⟩];exact .nils 5 .nil) (by rw[he5,if_neg (by simp[h0])];exact hE) ndN1 (λ_ h=>by cases h) (λ_ h=>h),by refine wk _ .nils E ?_ ?_ ?_ ?_ ?_<;>simp⟩
     ·have h0:isN a 0=false:=by simpa using h0
      simp-implicitDefEqProofs[-AV.cells,-AV.isCell,ce,aw,aJ,mV,ca,au,mG,c1,c2,c3,c4,c5,c6,c7,c8,o5,gida,hr0,hm0]
      refine(HI _).mono ?_
      rintro x h' ⟨rfl,rfl⟩
      by_cases a1:a.op=1
      ·simp-implicitDefEqProofs[-AV.cells,-AV.isCell,ce,aw,aJ,mV,ca,au,mG,c1,c2,c3,c4,c5,c6,c7,c8,aa,h0,a1,gida,hr0,hm0]
       exact⟨B,.nils,mkJ B .nils IB [] hz0 (by rw[hb5,if_neg (by simp[h0])];exact hB) (by rw[he5,if_pos ⟨o5,h0,by simp[a1]⟩];exact .nils 5 .nil) ndN2 (λ_ h=>h) (λ_ h=>by cases h),by refine wk _ B .nils ?_ ?_ ?_ ?_ ?_<;>simp⟩
      ·simp-implicitDefEqProofs[-AV.cells,-AV.isCell,ce,aw,aJ,mV,ca,au,mG,c1,c2,c3,c4,c5,c6,c7,c8,aa,h0,a1,gida,hr0,hm0]
       exact⟨B,E,mkJ B E IB IE hz0 (by rw[hb5,if_neg (by simp[h0])];exact hB) (by rw[he5,if_neg (by simp[a1])];exact hE) nel (λ_ h=>h) (λ_ h=>h),by refine wk _ B E ?_ ?_ ?_ ?_ ?_<;>simp⟩
    ·simp-implicitDefEqProofs[-AV.cells,-AV.isCell,ce,aw,aJ,mV,ca,au,mG,c1,c2,c3,c4,c5,c6,c7,c8,o6,o5]
     exact⟨B,E,mkJ B E IB IE hz0 (by rw[hb5,if_neg (by omega)];exact hB) (by rw[he5,if_neg (by omega)];exact hE) nel (λ_ h=>h) (λ_ h=>h),by refine wk _ B E ?_ ?_ ?_ ?_ ?_<;>simp⟩
  ·rintro⟨B',E'⟩ ⟨hzf,d1,d2,d3,d4,I',hO,ndI,hsub⟩
   simp only at hO d1 d2 d3 d4
   rcases hI with⟨e0,rfl⟩|⟨oid,rowsO,Jo,rfl,hro,hoid,hJo⟩
   ·have hR1:∀o1,RowOwn true (X++[o1,o1,o1]) (X.length+2) 5 [[.p (.int .i64 s.op),.p (.str s.name),.sl ida 4 0 (ra.length+1),B',E']] [(fI s).cs] I'->True:=λ_ _=>trivial
    have hNew:RowOwn true (X++[.row 5 [[.p (.int .i64 s.op),.p (.str s.name),.sl ida 4 0 (ra.length+1),B',E']],.row 5 [[.p (.int .i64 s.op),.p (.str s.name),.sl ida 4 0 (ra.length+1),B',E']],.row 5 [[.p (.int .i64 s.op),.p (.str s.name),.sl ida 4 0 (ra.length+1),B',E']]]) (X.length+2) 5 [[.p (.int .i64 s.op),.p (.str s.name),.sl ida 4 0 (ra.length+1),B',E']] [(fI s).cs] I':=by
     refine⟨by rw[Qr (by omega)];simp,rfl,by simp,by simp[Sm.cs_len],?_,?_⟩
     ·rw[List.flatten_singleton,List.flatten_singleton,hX,Qv]
      exact hO.more _
     ·rw[Ra]
      exact⟨λhm=>by have:=hO.lt hm;omega,ndI⟩
    clear hR1
    simp-implicitDefEqProofs[-AV.cells,-AV.isCell,ce,aw,aJ,mV,ca,au,mG,d1,d2,d3,d4]
    refine aQ (λh7=>?_) (λh7=>?_)
    ·simp at h7
     have e1:dg l=[fI s]:=by rw[eall,e0,dg,if_neg (by rw[hzf];simp),if_pos h7];rfl
     simp-implicitDefEqProofs[]
     refine⟨_,(X.length+2)::I',os++[_,_,_],rfl,by rw[hX,Qv],by rw[e1];exact hNew.tree rfl,hNew.nd,λj hj=>?_⟩
     rcases QH.1 hj with rfl|hj
     ·exact .inr (by omega)
     ·have:=hsub j hj
      rw[hSI] at this
      exact .inl (Rb _ (by rw[hJf];exact QZ _ (Rc _ this)))
    ·simp at h7
     have e1:dg [s]=[fI s]:=by rw[dg,if_neg (by rw[hzf];simp),if_neg h7];rfl
     rw[e0,e1,List.nil_append] at enxt
     simp-implicitDefEqProofs[]
     refine⟨⟨i+1,X++[_,_,_],.sl (X.length+2) 5 0 1⟩,⟨by simp only;omega,?_,⟨os++[_,_,_],by simp only;rw[hX,Qv]⟩,.inr ⟨X.length+2,_,I',by rw[enxt];rfl,by rw[enxt];exact hNew,by omega,λj hj=>?_⟩⟩,by simp only;omega,az (by simp;omega) (by simp[below,w1 (i:=i) (by omega)];omega)⟩
     ·show nb7 (l.take (i+1))
      rw[htk]
      intro x hx
      rcases Qn.1 hx with hx|hx
      ·exact hnb x hx
      ·rw[Qt.1 hx];exact h7
     ·have:=hsub j hj
      rw[hSI] at this
      rw[hjtk,QT,List.flatten_singleton]
      exact QZ _ this
   ·have goid:∀t,(X++t)[oid]?=some (.row 5 rowsO):=λt=>by rw[Qg hro.lt];exact hro.here
    have hrol:rowsO.length=(dg (l.take i)).length:=by have:=hro.len;rwa[Qu] at this
    have htO:List.take (dg (l.take i)).length rowsO=rowsO:=Qk (by omega)
    have hcbl:(dg (l.take i)).length<=i:=by have:=Bv (l.take i);rw[QG] at this;omega
    have hol:=hro.lt
    have gX:∀o1 u,((X++[o1,o1]).set oid .dead++u)[X.length]?=some o1:=λo1 u=>by
     rw[Qg (by simp),QB (by omega),Qr (by omega)];simp
    have hdis:∀j∈I',j≠oid/\j∉Jo:=λj hj=>by
     have h1:=hsub j hj
     rw[hSI] at h1
     have h2:=hidn j h1
     exact⟨by omega,λhm=>n3 j (hJo j hm) j (Rc _ h1) rfl⟩
    have hNew:∀o1,RowOwn true ((X++[o1,o1]).set oid .dead++[.row 5 (rowsO++[[.p (.int .i64 s.op),.p (.str s.name),.sl ida 4 0 (ra.length+1),B',E']])]) (X.length+2) 5 (rowsO++[[.p (.int .i64 s.op),.p (.str s.name),.sl ida 4 0 (ra.length+1),B',E']]) ((dg (l.take i)).map Sm.cs++[(fI s).cs]) (Jo++I'):=λo1=>by
     have:=He hro (h2:=X++[o1,o1]) rfl (r':=[.p (.int .i64 s.op),.p (.str s.name),.sl ida 4 0 (ra.length+1),B',E']) (e':=(fI s).cs) (I2:=I') (by rw[hX,Qv];exact hO.more _) ndI hdis (Sm.cs_len _)
     simpa using this
    have hpre:∀o1 u,∃os',(X++[o1,o1]).set oid .dead++u=h++os':=λo1 u=>by
     rw[hX,Qv,List.set_append_right _ _ hoid,Qv]
     exact⟨_,rfl⟩
    simp-implicitDefEqProofs[-AV.cells,-AV.isCell,ce,aw,aJ,mV,ca,au,mG,d1,d2,d3,d4,goid,hrol,htO]
    refine⟨⟨by omega,by omega⟩,?_⟩
    simp-implicitDefEqProofs[-AV.cells,-AV.isCell,ce,aw,aJ,mV,ca,au,mG,d1,d2,d3,d4, ↓gX]
    refine aQ (λh7=>?_) (λh7=>?_)
    ·simp at h7
     have e1:dg l=dg (l.take i)++[fI s]:=by rw[eall];congr 1;rw[dg,if_neg (by rw[hzf];simp),if_pos h7]
     simp-implicitDefEqProofs[]
     obtain⟨os',ho'⟩:=hpre _ _
     refine⟨_,(X.length+2)::(Jo++I'),os',rfl,ho',by rw[e1,hsl,Rd];exact(hNew _).tree (by simp),(hNew (.row 0 [])).nd,λj hj=>?_⟩
     rcases QH.1 hj with rfl|hj
     ·exact .inr (by omega)
     ·rcases Qn.1 hj with hj|hj
      ·exact .inl (Rb _ (by rw[hJf];exact Rc _ (hJo j hj)))
      ·have:=hsub j hj
       rw[hSI] at this
       exact .inl (Rb _ (by rw[hJf];exact QZ _ (Rc _ this)))
    ·simp at h7
     have e1:dg [s]=[fI s]:=by rw[dg,if_neg (by rw[hzf];simp),if_neg h7];rfl
     rw[e1] at enxt
     simp-implicitDefEqProofs[]
     refine⟨⟨i+1,_,.sl (X.length+2) 5 0 ((dg (l.take i)).length+1)⟩,⟨by simp only;omega,?_,hpre _ _,.inr ⟨X.length+2,_,Jo++I',by rw[enxt];simp,by rw[enxt,Rd];exact hNew _,by omega,λj hj=>?_⟩⟩,by simp only;omega,az (by simp;omega) (by simp[below,w1 (i:=i) (by omega)];omega)⟩
     ·show nb7 (l.take (i+1))
      rw[htk]
      intro x hx
      rcases Qn.1 hx with hx|hx
      ·exact hnb x hx
      ·rw[Qt.1 hx];exact h7
     ·rw[hjtk,QT,List.flatten_singleton]
      rcases Qn.1 hj with hj|hj
      ·exact Rc _ (hJo j hj)
      ·have:=hsub j hj
       rw[hSI] at this
       exact QZ _ this
 ·simp at hc
  have hie:i=l.length:=by omega
  subst hie
  simp-implicitDefEqProofs[]
  subst hX
  exact hI.fin
end
section
theorem Fp{h:List AO}{id:Nat}{l:List Fd}(e:h[id]?=some (.row 3 (cS l))):View h (.sl id 3 0 l.length) (fdL l):=by
 have:=ib (h:=h) (id:=id) (sz:=3) (n:=l.length) (ls:=l.map Fd.cs) (by rw[e,cS];simp) (by simp) (λx hx=>by obtain⟨b,_,rfl⟩:=Qx.1 hx;exact b.cs_len)
 exact this
theorem IC(a b:List Fd):cS (a++b)=cS a++cS b:=by simp[cS]
theorem rc(a:List Fd):(cS a).length=a.length:=by simp[cS]
variable (G:aq)
end
section
variable (G:aq)
def PshF(s:Bool)(sz:Nat)(D:List (List PV))(h0:List AO)(a:PshS):Prop:=a.i<=D.length/\h0.length<=a.id/\h0.length<=a.h.length/\(∀j,j<h0.length->a.h[j]?=h0[j]?)/\∃rows J,RowOwn s a.h a.id sz rows (D.take a.i) J/\∀j∈J,h0.length<=j
theorem DE{h h2:List AO}(hl:h.length<=h2.length)(hf:∀j,j<h.length->h2[j]?=h[j]?):h2=h++h2.drop h.length:=by
 have e:h2.take h.length=h:=by
  apply List.ext_getElem?
  intro j
  by_cases hj:j<h.length
  ·rw[List.getElem?_take_of_lt hj];exact hf j hj
  ·rw[QM (by rw[QG];omega),QM (by omega)]
 have e2:=QN h.length h2
 rw[e] at e2
 exact e2.symm
theorem PshF.init{s:Bool}{sz:Nat}{D:List (List PV)}(h0 os:List AO):PshF s sz D h0 ⟨0,h0.length,h0++ .row sz []::os⟩:=
 ⟨Ri _,Qi _,by simp,λj hj=>Qg hj,[],[],⟨by simp,rfl,λ_ h=>(by cases h),λ_ h=>(by cases h),.nil,by simp⟩,λj hj=>by cases hj⟩
theorem PshF.step{s:Bool}{sz i id:Nat}{D:List (List PV)}{h0 h:List AO}(H:PshF s sz D h0 ⟨i,id,h⟩){e:List PV}(hi:D[i]?=some e){h2:List AO}(hl:h.length<=h2.length)(hf:∀j,j<h.length->h2[j]?=h[j]?){r':List AV}{I2:List Nat}(ho:OwnL s h2 r' e I2)(nd2:I2.Nodup)(hn:∀j∈I2,h.length<=j)(he:e.length=sz):
 ∃rows,(∀os,(h2++os)[id]?=some (.row sz rows))/\rows.length=i/\i<D.length/\id<h2.length/\∀os1 os2,PshF s sz D h0 ⟨i+1,(h2++os1).length,(h2++os1).set id .dead++ .row sz (rows++[r'])::os2⟩:=by
 obtain⟨h1,h3,h4,h5,rows,J,hr,hJ⟩:=H
 have hil:i<D.length:=(Qf.1 hi).1
 have hlen:=hr.len
 simp only at h1 h3 h4 h5 hlen hr
 rw[QG,Nat.min_eq_left h1] at hlen
 have e2:=DE hl hf
 have hid:=hr.lt
 have h2e:h2[id]?=some (.row sz rows):=by rw[hf id hid];exact hr.here
 refine⟨rows,λos=>by rw[Qg (by omega)];exact h2e,hlen,hil,by omega,λos1 os2=>⟨hil,by simp only[Qq];omega,by simp;omega,λj hj=>?_,rows++[r'],J++I2,?_,λj hj=>?_⟩⟩
 ·simp only
  rw[Qg (by simp only[Rl,Qq,Qw];omega),QB (by omega),Qg (by omega),hf j (by omega)]
  exact h5 j hj
 ·have hp:=(hr.push (h2:=h2++os1) (os:=h2.drop h.length++os1) (by rw[←Qv,←e2]) (ho.more os1) nd2 hn he).more os2
  have hd:D.take i++[e]=D.take (i+1):=by rw[List.take_add_one,hi];rfl
  rw[hd,Qv] at hp
  exact hp
 ·rcases Qn.1 hj with hj|hj
  ·exact hJ j hj
  ·have:=hn j hj;omega
theorem PshF.done{s:Bool}{sz i id:Nat}{D:List (List PV)}{h0 h:List AO}(H:PshF s sz D h0 ⟨i,id,h⟩)(hi:D.length<=i):h0.length<=h.length/\(∀j,j<h0.length->h[j]?=h0[j]?)/\∃I,OwnL s h [.sl id sz 0 i] [.lst sz D] I/\I.Nodup/\∀j∈I,h0.length<=j:=by
 obtain⟨h1,h3,h4,h5,rows,J,hr,hJ⟩:=H
 simp only at h1 h3 h4 h5 hr
 rw[Qk hi] at hr
 exact⟨h4,h5,id::J,hr.tree (by omega),hr.nd,λj hj=>by
  rcases QH.1 hj with rfl|hj
  ·exact h3
  ·exact hJ j hj⟩
theorem AR{s:Bool}{n:Nat}{h1 os:List AO}{a b:List AV}{c d:List PV}{I1 I2:List Nat}(H1:OwnL s h1 a c I1)(n1:I1.Nodup)(f1:∀i∈I1,n<=i)(H2:OwnL s (h1++os) b d I2)(n2:I2.Nodup)(f2:∀i∈I2,h1.length<=i)(hn:n<=h1.length):
 OwnL s (h1++os) (a++b) (c++d) (I1++I2)/\(I1++I2).Nodup/\∀i∈I1++I2,n<=i:=by
 refine⟨(H1.more os).app H2,?_,λi hi=>?_⟩
 ·rw[Rk]
  refine⟨n1,n2,λa ha b hb e=>?_⟩
  have:=H1.lt ha;have:=f2 b hb;omega
 ·rcases Qn.1 hi with hi|hi
  ·exact f1 i hi
  ·have:=f2 i hi;omega
theorem Ip{α:Type}(l:List α)(a b:α):(l++[a]).set l.length b=l++[b]:=by
 rw[List.set_append_right _ _ (Qi _),Nat.sub_self];rfl
theorem Kd{h:List AO}{s:Sm}{A B E:AV}{I:List Nat}(H:OwnL true h ([A]++[B]++[E]) ([exL s.args]++[smL s.body]++[smL s.els]) I):OwnL true h [.p (.int .i64 s.op),.p (.str s.name),A,B,E] s.cs I:=by
 rw[s.cs_eq]
 exact .p _ (λ_=>rfl) (.p _ (λ_=>rfl) H)
theorem nI{s:Bool}{h:List AO}{v:AV}{q:PV}{I:List Nat}(H:OwnL s h [v] [q] I):(∃q',v= .p q')\/v= .nils\/∃a b n,v= .sl a b 0 n:=by
 cases H with
 |p q=>exact .inl ⟨_,rfl⟩
 |nils=>exact .inr (.inl rfl)
 |sl id sz n=>exact .inr (.inr ⟨_,_,_,rfl⟩)
theorem JO{s:Bool}{h:List AO}{e:Ex}{K:AV}{I:List Nat}(H:OwnL s h [K] [exL e.kids] I):OwnL s h [.p (.int .i64 e.op),.p (.int .i64 e.n),.p (.str e.name),K] e.cs I:=by
 rw[e.cs_eq]
 exact .p _ (λ_=>rfl) (.p _ (λ_=>rfl) (.p _ (λ_=>rfl) H))
theorem Jh:∀(N:Nat) (e:Ex),e.sz<=N->e.sz<=1073741824->AC Tryz.prog G gO [.agg (e.cs.map .p)] [] (MkW .agg true e.cs):=by
 intro N
 induction N with
 |zero=>intro e he;have:=e.sz_eq;omega
 |succ N ih=>
  intro e he hb
  have hsz:=e.sz_eq
  have hkl:=aS e.kids
  refine AC.go yE ?_
  have hec:=e.cs_eq
  have hsl:exL e.kids= .lst 4 (e.kids.map Ex.cs):=rfl
  simp-implicitDefEqProofs[oh,hec,hsl]
  obtain⟨hb0,ehb⟩:∃hb0:List AO,hb0=[.row 4 [[.p (.int .i64 e.op),.p (.int .i64 e.n),.p (.str e.name),.p (.lst 4 (e.kids.map Ex.cs))]],.row 4 [[.p (.int .i64 0),.p (.int .i64 0),.p (.str []),.nils]]]:=⟨_,rfl⟩
  have hini:PshF true 4 (e.kids.map Ex.cs) hb0 ⟨0,2,[.row 4 [[.p (.int .i64 e.op),.p (.int .i64 e.n),.p (.str e.name),.p (.lst 4 (e.kids.map Ex.cs))]],.row 4 [[.p (.int .i64 0),.p (.int .i64 0),.p (.str []),.nils]],.row 4 []]⟩:=by
   rw[ehb];exact PshF.init _ []
  refine an (λa:PshS=>ag 25 [(4,.p (.int .i64 a.i)),(3,.sl a.id 4 0 a.i),(2,.ptr 1 4 0 0),(1,.ptr 0 4 0 0)]) (λa=>a.h) (PshF true 4 (e.kids.map Ex.cs) hb0) (λa=>e.kids.length-a.i) _ hini ?_ ?_
  ·exact az (by simp) (by simp[below])
  rintro⟨i,id,h'⟩ hJ
  have hl0:hb0.length=2:=by rw[ehb];rfl
  have g0:h'[0]?=some (.row 4 [[.p (.int .i64 e.op),.p (.int .i64 e.n),.p (.str e.name),.p (.lst 4 (e.kids.map Ex.cs))]]):=by rw[hJ.2.2.2.1 0 (by omega),ehb];rfl
  have g1:h'[1]?=some (.row 4 [[.p (.int .i64 0),.p (.int .i64 0),.p (.str []),.nils]]):=by rw[hJ.2.2.2.1 1 (by omega),ehb];rfl
  have hl2:2<=h'.length:=by have:=hJ.2.2.1;simp only at this;omega
  simp-implicitDefEqProofs[g0]
  refine aQ (λh1=>?_) (λh1=>?_)
  ·simp at h1
   have hg:=Qd h1
   have hm:=aF (Qj h1)
   have hH:=ih e.kids[i] (by omega) (by omega)
   have hcs:=e.kids[i].cs_eq
   have hDa:(e.kids.map Ex.cs)[i]?=some e.kids[i].cs:=by rw[Qo,hg];rfl
   generalize e.kids[i]=k at hg hH hcs hDa
   have hA:=AC.mkLift fk hH (h:=h') (by rw[hcs];simp)
   rw[hcs] at hA
   simp-implicitDefEqProofs[g0,hg,hcs]
   refine hA.mono ?_
   rintro r h2 ⟨vs,I2,os,rfl,e2,ho,nd,hf⟩
   rw[←hcs] at ho
   obtain⟨rows,k1,k2,k3,k4,k5⟩:=hJ.step hDa (h2:=h2) (by rw[e2];simp) (λx hx=>by rw[e2,Qg hx]) ho nd hf k.cs_len
   obtain⟨K,rfl,hK⟩:=sx ho
   have hwi:=w1 (i:=i) (by omega)
   rcases nI hK with⟨q1,rfl⟩|rfl|⟨x1,x2,x3,rfl⟩
   ·have k6:=k5 [.row 4 [[.p (.int .i64 k.op),.p (.int .i64 k.n),.p (.str k.name),.p q1]]] []
    simp-implicitDefEqProofs[aa,k1,k2]
    rw[Qk (l:=rows) (i:=i) (by omega)]
    refine⟨⟨by omega,by omega⟩,_,k6,by simp only;omega,az (by simp) ?_⟩
    simp[below,hwi]
   ·have k6:=k5 [.row 4 [[.p (.int .i64 k.op),.p (.int .i64 k.n),.p (.str k.name),.nils]]] []
    simp-implicitDefEqProofs[aa,k1,k2]
    rw[Qk (l:=rows) (i:=i) (by omega)]
    refine⟨⟨by omega,by omega⟩,_,k6,by simp only;omega,az (by simp) ?_⟩
    simp[below,hwi]
   ·have k6:=k5 [.row 4 [[.p (.int .i64 k.op),.p (.int .i64 k.n),.p (.str k.name),.sl x1 x2 0 x3]]] []
    simp-implicitDefEqProofs[aa,k1,k2]
    rw[Qk (l:=rows) (i:=i) (by omega)]
    refine⟨⟨by omega,by omega⟩,_,k6,by simp only;omega,az (by simp) ?_⟩
    simp[below,hwi]
  ·simp at h1
   have hie:i=e.kids.length:=by have:=hJ.1;simp at this;omega
   obtain⟨d1,d2,I,ho,nd,hI⟩:=hJ.done (by simpa using h1)
   subst hie
   have hn0:0∉I:=λhm=>by have:=hI 0 hm;omega
   have hn1:1∉I:=λhm=>by have:=hI 1 hm;omega
   have s0:∀x,(h'.set 0 x)[0]?=some x:=λx=>QE (by omega)
   have s1:∀x,(h'.set 0 x)[1]?=some (.row 4 [[.p (.int .i64 0),.p (.int .i64 0),.p (.str []),.nils]]):=λx=>by rw[QB (by omega)];exact g1
   have s2:∀x y,((h'.set 0 x).set 1 y)[1]?=some y:=λx y=>QE (by rw[Rl];omega)
   simp-implicitDefEqProofs[g0,g1,s0,s1,s2]
   rw[←hsl,←hec]
   exact⟨_,I,rfl,JO ((ho.set_out hn0 _).set_out hn1 _),nd⟩
theorem FO:∀(N:Nat) (l:List Sm),aG l<N->aG l<=1073741824->AC Tryz.prog G cY [.p (smL l)] [] (MkW bz true [smL l]):=by
 intro N
 induction N with
 |zero=>intro l he;omega
 |succ N ih=>
  intro l hN hz
  have hsl:∀l,smL l= .lst 5 (l.map Sm.cs):=λ_=>rfl
  have hll:=aZ l
  refine AC.go ux ?_
  simp-implicitDefEqProofs[mR,hsl]
  refine an (λa:PshS=>ag 52 [(4,.p (.int .i64 a.i)),(3,.sl a.id 5 0 a.i),(0,.p (smL l))]) (λa=>a.h) (PshF true 5 (l.map Sm.cs) []) (λa=>l.length-a.i) ⟨0,0,[.row 5 []]⟩ (PshF.init [] []) ?_ ?_
  ·exact az (by simp) (by simp[below,hsl])
  rintro⟨i,id,hh⟩ hI
  simp-implicitDefEqProofs[hsl]
  refine aQ (λh1=>?_) (λh1=>?_)
  ·simp at h1
   have hg:=Qd h1
   have hm:=aM (Qj h1)
   have hcs:=l[i].cs_eq
   have hse:=l[i].sz_eq
   have hD:(l.map Sm.cs)[i]?=some l[i].cs:=by rw[Qo,hg];rfl
   generalize l[i]=s at hg hm hcs hse hD
   simp-implicitDefEqProofs[hg,hcs,Ip]
   have hid:id<hh.length:=by obtain⟨_,_,_,_,_,_,hr,_⟩:=hI;exact hr.lt
   have hal:=aS s.args
   have hxl:exL s.args= .lst 4 (s.args.map Ex.cs):=rfl
   obtain⟨hb,ehb⟩:∃hb,hb=hh++[AO.row 5 [[.p (.int .i64 s.op),.p (.str s.name),.p (exL s.args),.p (smL s.body),.p (smL s.els)]]]:=⟨_,rfl⟩
   have hbl:hb.length=hh.length+1:=by rw[ehb];simp
   have hbx:hb[hh.length]?=some (.row 5 [[.p (.int .i64 s.op),.p (.str s.name),.p (exL s.args),.p (smL s.body),.p (smL s.els)]]):=by rw[ehb];simp
   have hini:PshF true 4 (s.args.map Ex.cs) hb ⟨0,hh.length+1,hh++[AO.row 5 [[.p (.int .i64 s.op),.p (.str s.name),.p (exL s.args),.p (smL s.body),.p (smL s.els)]],.row 4 []]⟩:=by
    have:=PshF.init (s:=true) (sz:=4) (D:=s.args.map Ex.cs) hb []
    rw[hbl,ehb,Qv] at this
    rw[ehb];exact this
   refine an (λa:PshS=>ag 52 [(7,.p (.int .i64 a.i)),(6,.sl a.id 4 0 a.i),(5,.ptr hh.length 5 0 0),(4,.p (.int .i64 i)),(3,.sl id 5 0 i),(0,.p (smL l))]) (λa=>a.h) (PshF true 4 (s.args.map Ex.cs) hb) (λa=>s.args.length-a.i) _ hini ?_ ?_
   ·refine az (by simp) ?_
    simp[below,hsl]
    omega
   rintro⟨j,id2,h'⟩ hJ
   have hjb:h'[hh.length]?=some (.row 5 [[.p (.int .i64 s.op),.p (.str s.name),.p (exL s.args),.p (smL s.body),.p (smL s.els)]]):=by
    rw[hJ.2.2.2.1 _ (by omega)];exact hbx
   have hlb:hh.length+1<=h'.length:=by have:=hJ.2.2.1;simp only at this;omega
   simp-implicitDefEqProofs[hjb,hxl]
   refine aQ (λh2=>?_) (λh2=>?_)
   ·simp at h2
    have hga:=Qd h2
    have hma:=aF (Qj h2)
    have hC:=Jh G _ s.args[j] (Qi _) (by omega)
    have hka:=s.args[j].cs_eq
    have hDa:(s.args.map Ex.cs)[j]?=some s.args[j].cs:=by rw[Qo,hga];rfl
    generalize s.args[j]=e at hga hma hC hka hDa
    have hA:=AC.mkLift fk hC (h:=h') (by rw[hka];simp)
    rw[hka] at hA
    simp-implicitDefEqProofs[hjb,hga,hka,hxl]
    refine hA.mono ?_
    rintro r h2 ⟨vs,I2,os,rfl,e2,ho,nd,hf⟩
    rw[←hka] at ho
    obtain⟨rows,k1,k2,k3,k4,k5⟩:=hJ.step hDa (h2:=h2) (by rw[e2];simp) (λx hx=>by rw[e2,Qg hx]) ho nd hf e.cs_len
    obtain⟨K,rfl,hK⟩:=sx ho
    have hwj:=w1 (i:=j) (by omega)
    have hl2:h'.length<=h2.length:=by rw[e2];simp
    rcases nI hK with⟨q1,rfl⟩|rfl|⟨x1,x2,x3,rfl⟩
    ·have k6:=k5 [.row 4 [[.p (.int .i64 e.op),.p (.int .i64 e.n),.p (.str e.name),.p q1]]] []
     simp-implicitDefEqProofs[aa,k1,k2]
     rw[Qk (l:=rows) (i:=j) (by omega)]
     refine⟨⟨by omega,by omega⟩,_,k6,by simp only;omega,az (by simp) ?_⟩
     simp[below,hsl,hwj]
     omega
    ·have k6:=k5 [.row 4 [[.p (.int .i64 e.op),.p (.int .i64 e.n),.p (.str e.name),.nils]]] []
     simp-implicitDefEqProofs[aa,k1,k2]
     rw[Qk (l:=rows) (i:=j) (by omega)]
     refine⟨⟨by omega,by omega⟩,_,k6,by simp only;omega,az (by simp) ?_⟩
     simp[below,hsl,hwj]
     omega
    ·have k6:=k5 [.row 4 [[.p (.int .i64 e.op),.p (.int .i64 e.n),.p (.str e.name),.sl x1 x2 0 x3]]] []
     simp-implicitDefEqProofs[aa,k1,k2]
     rw[Qk (l:=rows) (i:=j) (by omega)]
     refine⟨⟨by omega,by omega⟩,_,k6,by simp only;omega,az (by simp) ?_⟩
     simp[below,hsl,hwj]
     omega
   ·simp at h2
    have hjl:j=s.args.length:=by have:=hJ.1;simp at this;omega
    obtain⟨d1,d2,IA,oA,nA,fA⟩:=hJ.done (by simpa using h2)
    subst hjl
    have hB:=ih s.body (by omega) (by omega)
    have hE:=ih s.els (by omega) (by omega)
    simp-implicitDefEqProofs[hjb]
    refine(AC.mkLift er hB (h:=h') (by simp)).mono ?_
    rintro r h3 ⟨vB,IB,o1,rfl,e3,oB,nB,fB⟩
    obtain⟨B,rfl⟩:=aL oB
    have hjb3:h3[hh.length]?=some (.row 5 [[.p (.int .i64 s.op),.p (.str s.name),.p (exL s.args),.p (smL s.body),.p (smL s.els)]]):=by
     rw[e3,Qg (by omega)];exact hjb
    simp-implicitDefEqProofs[aa,bz,hjb3]
    refine(AC.mkLift er hE (h:=h3) (by simp)).mono ?_
    rintro r h4 ⟨vE,IE,o2,rfl,e4,oE,nE,fE⟩
    obtain⟨E,rfl⟩:=aL oE
    have hjb4:h4[hh.length]?=some (.row 5 [[.p (.int .i64 s.op),.p (.str s.name),.p (exL s.args),.p (smL s.body),.p (smL s.els)]]):=by
     have:hh.length<h3.length:=(Qf.1 hjb3).1
     rw[e4,Qg this];exact hjb3
    have cB:=nI oB
    have cE:=nI oE
    obtain⟨a1,a2,a3⟩:=AR oA nA fA (by rw[←e3];exact oB) nB fB d1
    rw[←e3] at a1
    obtain⟨b1,b2,b3⟩:=AR a1 a2 a3 (by rw[←e4];exact oE) nE fE (by rw[e3];simp;omega)
    rw[←e4] at b1
    have hS:=Kd (s:=s) b1
    obtain⟨rows,k1,k2,k3,k4,k5⟩:=hI.step hD (h2:=h4) (by rw[e4,e3];simp;omega) (λx hx=>by
     rw[e4,Qg (by rw[e3];simp;omega),e3,Qg (by omega),d2 x (by omega),ehb,Qg hx]) hS b2 (λx hx=>by have:=b3 x hx;omega) s.cs_len
    have k6:=k5 [.row 5 [[.p (.int .i64 s.op),.p (.str s.name),.sl id2 4 0 s.args.length,B,E]]] []
    have hwi:=w1 (i:=i) (by omega)
    rcases cB with⟨q1,rfl⟩|rfl|⟨x1,x2,x3,rfl⟩<;>rcases cE with⟨q2,rfl⟩|rfl|⟨y1,y2,y3,rfl⟩<;>
    ·simp-implicitDefEqProofs[aa,bz,hjb4,k1,k2]
     rw[Qk (l:=rows) (i:=i) (by omega)]
     refine⟨⟨by omega,by omega⟩,_,k6,by simp only;omega,az (by simp) ?_⟩
     simp[below,hsl,hwi]
  ·simp at h1
   obtain⟨_,_,I,ho,nd,_⟩:=hI.done (by simpa using h1)
   have hie:i=l.length:=by have:=hI.1;simp at this;omega
   subst hie
   simp-implicitDefEqProofs[]
   exact⟨_,I,rfl,ho,nd⟩
end
section
variable (G:aq)
theorem Fj(l:List Fd)(hz:bl l<=1073741824)(hne:l≠[]):AC Tryz.prog G kz [.agg [.p (fdL l)]] [] λx h=>x= .ret (.agg [.sl 3 3 0 l.length])/\h=[.row 1 [[.p (fdL l)]],.row 1 [[.sl 3 3 0 l.length]],.row 1 [[.sl 3 3 0 l.length]],.row 3 (cS l)]:=by
 have hll:=cJ l
 have hfl:∀l,fdL l= .lst 3 (l.map Fd.cs):=λ_=>rfl
 refine AC.go yv ?_
 simp-implicitDefEqProofs[oy]
 refine an (λi:Nat=>ag 35 [(1,.ptr 0 1 0 0),(2,.ptr 1 1 0 0),(3,.ptr 2 1 0 0),(4,.p (.int .i64 i))]) (λi=>[.row 1 [[.p (fdL l)]],.row 1 [[.nils]],.row 1 [[slE 3 3 (cS (l.take i))]],zP 3 (cS (l.take i))]) (λi=>i<=l.length) (λi=>l.length-i) 0 (by simp) ?_ ?_
 ·have e1:slE 3 3 (cS (l.take 0))= .nils:=rfl
  have e2:zP 3 (cS (l.take 0))= .dead:=rfl
  rw[e1,e2]
  exact ur (h:=[AO.row 1 [[.p (fdL l)]],.row 1 [[.nils]],.row 1 [[.nils]]]) (by simp) (by simp) (by simp[okO,below]) (by simp[below])
 intro i hi
 simp-implicitDefEqProofs[hfl]
 refine aQ (λh=>?_) (λh=>?_)
 ·simp at h
  have hg:=Qd h
  have hT:l.take (i+1)=l.take i++[l[i]]:=al h
  have hmem:=cU (Qj h)
  have hol:(l.take i).length=i:=by rw[QG];omega
  generalize l[i]=f at hg hT hmem
  have hrl:(cS (l.take i)).length=i:=by rw[rc];exact hol
  have hcs:f.cs=[.str f.name,aB f.params,smL f.body]:=rfl
  have hsp:aB f.params= .lst 1 (f.params.map λw=>[.str w]):=rfl
  have hfz:f.sz=1+f.name.length+(f.params.length+(f.params.map List.length).sum)+aG f.body:=rfl
  have hB:VF Tryz.prog G cY [.p (smL f.body)] (.p (smL f.body)):=AC.mkFreeze er (FO G _ f.body (Nat.lt_succ_self _) (by omega))
  generalize l.take i=out at hT hol hrl⊢
  simp-implicitDefEqProofs[hg,hcs,hsp]
  have hpl:f.params.length<=1073741824:=by omega
  refine⟨⟨by omega,by omega⟩,?_⟩
  refine hB.use ?_
  simp-implicitDefEqProofs[hrl]
  refine⟨⟨by omega,by omega⟩,i+1,by omega,by omega,?_⟩
  have hR:cS (out++[f])=cS out++[[.p (.str f.name),.p (aB f.params),.p (smL f.body)]]:=by rw[IC];rfl
  have hR1:slE 3 3 (cS (out++[f]))= .sl 3 3 0 (i+1):=by rw[hR,Jw _ (by simp),hrl];rfl
  have hR2:zP 3 (cS (out++[f]))= .row 3 (cS (out++[f])):=by rw[hR,HD _ (by simp)]
  rw[hT,hR1,hR2]
  refine Wk.trans (gV (l1:=[(1,.ptr 0 1 0 0),(2,.ptr 1 1 0 0),(3,.ptr 2 1 0 0),(4,.p (.int .i64 ((i+1:Nat):Int)))]) (h1:=[.row 1 [[.p (fdL l)]],.row 1 [[.nils]],.row 1 [[.sl 3 3 0 (i+1)]],.row 3 (cS out++[[.p (.str f.name),.sl 4 1 0 f.params.length,.p (smL f.body)]]),mI f.params]) [0,1,2,8,6] (by simp) (by decide) (by decide)
   (aN rfl (by simp[below]) (aN rfl (by simp[below]) (lC (es:=[[.sl 3 3 0 (i+1)]]) (by simp[below]) (by simp[ren,bx]) ?_))) (by simp[below,ren,hfl,w1 (i:=i) (by omega)])) (lA 4 (by omega) (by simp) rfl (.same (by simp[okO,below]) (.same (by simp[okO,below]) (.same (by simp[okO,below]) (.rows ?_ ?_ (.nil _))))) ?_)
  ·refine lC (λx hx=>?_) ?_ (aN rfl (λx hx=>?_) bJ)
   ·rcases Qn.1 hx with hx|hx
    ·exact aH (Ri _) _ (iR out x hx)
    ·rw[Qt.1 hx];simp[below]
   ·rw[Rd,Qz (g:=id) (λx hx=>gB _ x (iR out x hx)),List.map_id]
    simp[ren,bx]
   ·obtain⟨w,_,rfl⟩:=Qx.1 hx
    simp[below]
  ·rw[hR];simp
  ·rw[hR]
   intro j e e1 he he1
   by_cases hj:j<(cS out).length
   ·rw[Qg hj] at he he1
    rw[he] at he1
    cases he1
    have:=iR out e (Ql he)
    exact uk (aH (Ri _) _ this)
   ·have hj2:j=(cS out).length:=by
     have:=(Qf.1 he).1
     simp at this;omega
    subst hj2
    simp at he he1
    subst he;subst he1
    refine .keep (by simp[below]) (.one ?_ (.keep (by simp[below]) .nil))
    exact rY rfl
  ·exact⟨.keep (by simp[below]) .nil,.keep (by simp[below]) .nil,.keep (by simp[below]) .nil,.keep (by simp[below]) .nil,trivial⟩
 ·simp at h
  have hie:i=l.length:=by omega
  subst hie
  rw[QC]
  have h0:cS l≠[]:=by
   intro e;apply hne
   have:=congrArg List.length e
   rw[rc] at this
   exact List.length_eq_zero_iff.1 this
  rw[gv h0,pZ h0,rc]
  simp-implicitDefEqProofs[hfl]
def eaF(h:List Sm->List Sm)(f:Fd):Fd:=⟨f.name,f.params,h f.body⟩
theorem Is(cut:Bool)(l:List Fd)(hz:bl l<=1073741824)(hne:l≠[])(hf:∀f∈l,∀x∈f.body,ay 4 x=true):VF Tryz.prog G fh [.agg [.p (fdL l)],.p (.bool cut)] (.agg [.p (fdL (if cut then jG l else Ll l))]):=by
 have hll:=cJ l
 have hfl:∀l,fdL l= .lst 3 (l.map Fd.cs):=λ_=>rfl
 have hln:0<l.length:=by
  cases l with
  |nil=>exact(hne rfl).elim
  |cons x r=>simp
 let g:Fd->Fd:=if cut then Ja else Ls
 have hg0:(if cut then jG l else Ll l)=l.map g:=by cases cut<;>rfl
 rw[hg0]
 have key:AC Tryz.prog G fh [.agg [.p (fdL l)],.p (.bool cut)] [] λx h=>∃v,x= .ret (.agg [v])/\View h v (fdL (l.map g)):=by
  refine AC.go yH ?_
  simp-implicitDefEqProofs[om]
  refine(AC.lift (Fj G l hz hne) (by simp[below]) (by simp[tJ,ry]) ?_).mono ?_
  ·simp[Ek,ry,tJ]
   intro x hx
   obtain⟨f,_,rfl⟩:=Qx.1 hx
   rfl
  rintro r h ⟨rfl,rfl⟩
  simp-implicitDefEqProofs[lV,aa,bU,cD]
  let L:Nat->List Fd:=λi=>(l.take i).map g++l.drop i
  have hLl:∀i,i<=l.length->(L i).length=l.length:=λi hi=>by simp[L];omega
  have hLg:∀i,i<l.length->(L i)[i]?=l[i]?:=λi hi=>by
   have:((l.take i).map g).length=i:=by simp;omega
   rw[Qr (by omega),this,Nat.sub_self,QV,Nat.add_zero]
  have hLs:∀i f,l[i]?=some f->(L i).set i (g f)=L (i+1):=λi f hi=>by
   have hil:=(Qf.1 hi).1
   have hlen:((l.take i).map g).length=i:=by simp;omega
   show((l.take i).map g++l.drop i).set i (g f)=(l.take (i+1)).map g++l.drop (i+1)
   rw[List.set_append_right _ _ (by omega),hlen,Nat.sub_self,Rm hil,List.set_cons_zero,al hil,Rd,Qv]
   have:l[i]=f:=by rw[Qd hil] at hi;exact Option.some.inj hi
   rw[this];rfl
  have hL0:L 0=l:=by simp[L]
  have hLe:L l.length=l.map g:=by
   show(l.take l.length).map g++l.drop l.length=_
   rw[QC,List.drop_length,QK]
  generalize hLL:L=L2 at hLl hLg hLs hL0 hLe
  refine an (λi:Nat=>ag 42 [(1,.p (.bool cut)),(4,.ptr 0 1 0 0),(5,.ptr 2 1 0 0),(6,.p (.int .i64 i))]) (λi=>[.row 1 [[.nils]],.row 3 (cS (L2 i)),.row 1 [[.sl 1 3 0 l.length]]]) (λi=>i<=l.length) (λi=>l.length-i) 0 (by simp) ?_ ?_
  ·rw[hL0]
   have e:cK 2 (AO.row 3 (cS l))= .row 3 (cS l):=by
    have e2:(cS l).map (cD 2)=cS l:=by
     conv=>rhs;rw[←List.map_id (cS l)]
     refine Qz λx hx=>?_
     obtain⟨f,_,rfl⟩:=Qx.1 hx
     rfl
    show AO.row 3 ((cS l).map (cD 2))=_
    rw[e2]
   rw[e]
   exact cV [1,5,6] rfl (by decide) (aN rfl (by simp[below]) (aN rfl (iR l) (lC (es:=[[.sl 1 3 0 l.length]]) (by simp[below]) (by simp[ren,bx]) bJ))) (by simp[below,ren])
  intro i hi
  have hfl2:=rc (L2 i)
  rw[hLl i hi] at hfl2
  simp-implicitDefEqProofs[hfl2]
  refine aQ (λh=>?_) (λh=>?_)
  ·simp at h
   have hg:=Qd h
   have hm:=Qj h
   have hgi:(cS (L2 i))[i]?=some [.p (.str l[i].name),.p (aB l[i].params),.p (smL l[i].body)]:=by
    rw[cS,Qo,hLg i h,hg];rfl
   have hst:=hLs i l[i] hg
   have hfz:=cU hm
   have hfb:=hf l[i] hm
   generalize l[i]=f at hg hm hgi hst hfz hfb
   have hfz2:f.sz=1+f.name.length+(f.params.length+(f.params.map List.length).sum)+aG f.body:=rfl
   cases cut with
   |true=>
    simp-implicitDefEqProofs[hfl2,hgi]
    refine⟨h,?_⟩
    refine(GU G 4 f.body hfb (by omega)).use ?_
    have hst2:(cS (L2 i)).set i [.p (.str f.name),.p (aB f.params),.p (smL (aI f.body))]=cS (L2 (i+1)):=by
     rw[←hst,cS,cS,List.map_set];rfl
    simp-implicitDefEqProofs[hfl2,hgi,hst2]
    refine⟨h,i+1,by omega,by omega,ab (by simp) (af (by simp[okO,below]) (af (cA (iR _)) (af (by simp[okO,below]) dI))) (by simp[below,w1 (i:=i) (by omega)])⟩
   |false=>
    simp-implicitDefEqProofs[hfl2,hgi]
    refine⟨h,?_⟩
    refine(Fh G 4 f.body hfb (by omega)).use ?_
    have hst2:(cS (L2 i)).set i [.p (.str f.name),.p (aB f.params),.p (smL (bV f.body))]=cS (L2 (i+1)):=by
     rw[←hst,cS,cS,List.map_set];rfl
    simp-implicitDefEqProofs[hfl2,hgi,hst2]
    refine⟨h,i+1,by omega,by omega,ab (by simp) (af (by simp[okO,below]) (af (cA (iR _)) (af (by simp[okO,below]) dI))) (by simp[below,w1 (i:=i) (by omega)])⟩
  ·simp at h
   have hie:i=l.length:=by omega
   subst hie
   simp-implicitDefEqProofs[]
   rw[hLe]
   have hl2:(l.map g).length=l.length:=Qu _
   rw[←hl2]
   exact Fp rfl
 refine key.freezeR (λt v h ⟨_,e,_⟩=>by cases e) λv h ⟨u,e1,e2⟩=>?_
 cases e1
 exact .agg (.one e2 .nil) .nil
end
section
theorem po{l:List Fd}(h:aP l=0):l≠[]/\∀f∈l,∀x∈f.body,ay 4 x=true:=by
 have hp:=((KZ l).1 h).1
 obtain⟨h1,h2,h3⟩:=(Dz l).1 hp
 refine⟨?_,λf hf x hx=>?_⟩
 ·rintro rfl;simp at h1
 ·have:=h2 f hf
  simp only[jH,Qs,Qh] at this
  exact this.2 x hx
variable (G:aq)
theorem JK{l:List Fd}(hz:bl l<=1073741824)(h:aP l=0):VF Tryz.prog G fh [.agg [.p (fdL l)],.p (.bool true)] (.agg [.p (fdL (jG l))]):=Is G true l hz (po h).1 (po h).2
def orN(b:Bool)(l:List Fd):List Fd:=if b then l else[]
theorem An(l:List Fd)(hz:bl l<=1073741824):VF Tryz.prog G dJ [.agg [.p (fdL l)]] (.tup [.agg [.p (fdL (orN (decide (aP l=0)) (jG l)))],.p (.bool (decide (aP l=0)))]):=by
 have key:AC Tryz.prog G dJ [.agg [.p (fdL l)]] [] λx h=>∃v,x= .ret (.tup [.agg [v],.p (.bool (decide (aP l=0)))])/\View h v (fdL (orN (decide (aP l=0)) (jG l))):=by
  refine AC.go rz ?_
  simp-implicitDefEqProofs[jM]
  refine(Ir G l hz).use ?_
  by_cases h0:aP l=0
  ·simp-implicitDefEqProofs[h0]
   refine(JK G hz h0).use ?_
   simp-implicitDefEqProofs[orN]
   exact .p _
  ·simp-implicitDefEqProofs[h0,orN]
   exact .nils 3
 refine key.freezeR (λt v h ⟨_,e,_⟩=>by cases e) λv h ⟨u,e1,e2⟩=>?_
 cases e1
 exact .tup (.agg (.one e2 .nil) (.keep (by simp) .nil)) .nil
end
section
variable (G:aq)
def cH(l:List Fd)(B:AV):List AO:=[.row 1 [[.p (fdL l)]],.row 1 [[B]],.row 1 [[.nils]],.row 1 [[.fn (.func aC) [.ptr 1 1 0 0,.ptr 3 1 0 0]]]]
theorem Lo(l:List Fd){B:AV}(hB:below 0 B){m:Nat}(hm:4<=m):∀o∈cH l B,okO m o:=by
 have hb:=aH (Ri m) [B] ⟨hB,trivial⟩
 refine af (by simp[okO,below]) (af (by intro e he;rw[Qt.1 he];exact hb) (af (by simp[okO,below]) (af ?_ dI)))
 intro e he
 rw[Qt.1 he]
 simp only[aj,below]
 exact⟨⟨by omega,by omega,trivial⟩,trivial⟩
def Kr(l:List Fd)(B:AV)(hB:below 0 B)(F:FuncId)(caps:List AV)(hc:aj 4 caps):Vis Unit where
 I:=λ_=>cH l B
 n:=4
 F:=F
 caps:=caps
 len:=λ_=>rfl
 ok:=λ_=>Lo l hB (Qi _)
 capsOk:=hc
def CB:AV:= .fn (.func aX) []
end
section
theorem Nx{P:Program}{G:aq}{f:FuncId}{args:List AV}{w:List AV->AV}{s:Bool}{qs:List PV}{A A':List AO}(hw:Shp w)(H:AC P G f args A (Mk w s qs A'))(hl:A'.length=A.length)(ha:aj A.length args)(hA:∀o∈A,okO A.length o)(hA':∀o∈A',okO A.length o)(B:List AO):
 AC P G f args (A++B) (Mk w s qs (A'++B)):=by
 refine(H.frame (List.range' 0 A.length) List.nodup_range' (EH ha) (Lk rfl hA)).mono ?_
 rintro x h' ⟨x0,h0,⟨vs,I,os,rfl,rfl,ho,nd,hf⟩,hl0,rfl,rfl⟩
 have hlen:(A'++os).length-A.length=os.length:=by rw[Qq];omega
 rw[hlen]
 have hσ:∀i,i<A.length->(List.range' 0 A.length++List.range' (A++B).length os.length).getD i 0=i:=λi hi=>by
  rw[Qm,Qg (by simpa using hi)];simp[hi]
 have hσ2:∀i,i<os.length->(List.range' 0 A.length++List.range' (A++B).length os.length).getD (A.length+i) 0=(A++B).length+i:=λi hi=>by
  rw[Qm,Qr (by simp)];simp[hi]
 generalize List.range' 0 A.length++List.range' (A++B).length os.length=σ at hσ hσ2⊢
 have em:A'.map (kf σ)=A':=by
  rw[Qz (g:=id) λo ho=>Cl hσ o (hA' o ho)];simp
 have hm:=Ab A A' B 0 hl [] rfl
 simp only[List.nil_append] at hm
 rw[List.take_append_of_le_length (by omega),Qk (by omega),List.drop_append_of_le_length (by omega),List.drop_of_length_le (by omega),em,List.nil_append,hm]
 have hlt:∀i∈I,∃j,i=A.length+j/\j<os.length:=λi hi=>by
  have h1:=hf i hi
  have h2:=ho.lt hi
  rw[Qq] at h2
  exact⟨i-A.length,by omega,by omega⟩
 refine⟨bx σ vs,I.map λi=>σ.getD i 0,os.map (kf σ),by simp only[CM];rw[hw.ren],rfl,ho.ren λi hi sz rows e=>?_,?_,λi hi=>?_⟩
 ·obtain⟨j,rfl,hj⟩:=hlt i hi
  rw[Qr (by omega),hl,Nat.add_sub_cancel_left] at e
  rw[hσ2 j hj,Qr (by rw[Qq,Qq,hl];omega),Qq,Qq,hl,Nat.add_sub_cancel_left,Qo,e]
  rfl
 ·rw[Qz (g:=λi=>B.length+i) λi hi=>by
   obtain⟨j,rfl,hj⟩:=hlt i hi
   rw[hσ2 j hj,Qq];omega]
  exact nC (λi j e=>by omega) nd
 ·obtain⟨i',hi',rfl⟩:=Qx.1 hi
  obtain⟨j,rfl,hj⟩:=hlt i' hi'
  rw[hσ2 j hj,Qq,Qq,hl];omega
theorem Vis.preO{G:aq}{σ:Type}(V:Vis σ){f:FuncId}{args:List AV}{st st':σ}{w:List AV->AV}{qs:List PV}(hw:Shp w)(H:AC Tryz.prog G f args (V.I st) (Mk w true qs (V.I st')))(rest:List AO)(ha:aj V.n args):
 AC Tryz.prog G f args (V.I st++rest) (Mk w true qs (V.I st'++rest)):=
 Nx hw H (by rw[V.len,V.len]) (by rw[V.len];exact ha) (by rw[V.len];exact V.ok st) (by rw[V.len];exact V.ok st') rest
def GroI{σ:Type}(V:Vis σ)(sz:Nat)(D:List (List PV))(st:σ)(h:List AO)(x:AV):Prop:=
 (∃os,h=V.I st++os)/\((D=[]/\x= .nils)\/∃id rows J,x= .sl id sz 0 D.length/\D≠[]/\RowOwn true h id sz rows D J/\∀j∈id::J,V.n<=j)
section
variable {σ:Type} {V:Vis σ} {sz:Nat} {D:List (List PV)} {st st':σ} {h:List AO} {x:AV}
theorem GroI.init:GroI V sz [] st (V.I st) .nils:=⟨⟨[],by simp⟩,.inl ⟨rfl,rfl⟩⟩
theorem GroI.done(H:GroI V sz D st h x):Mk bz true [.lst sz D] (V.I st) (.ret x) h:=by
 obtain⟨⟨os,rfl⟩,⟨rfl,rfl⟩|⟨id,rows,J,rfl,_,hr,hJ⟩⟩:=H
 ·exact⟨[.nils],[],os,rfl,rfl,.nils sz .nil,List.nodup_nil,λ_ h=>by cases h⟩
 ·exact⟨[_],id::J,os,rfl,rfl,hr.tree rfl,hr.nd,λi hi=>by rw[V.len];exact hJ i hi⟩
structure GroS (σ:Type) where (i:Nat) (st:σ) (h:List AO) (x:AV)
theorem GroI.call{G:aq}(H:GroI V sz D st h x){f:FuncId}{args:List AV}{w:List AV->AV}{qs:List PV}(hw:Shp w)(HA:AC Tryz.prog G f args (V.I st) (Mk w true qs (V.I st')))(ha:aj V.n args)(B:List AO):
 AC Tryz.prog G f args (h++B) (Mk w true qs (V.I st'++h.drop V.n++B)):=by
 obtain⟨⟨os,rfl⟩,_⟩:=H
 have hdrop:(V.I st++os).drop V.n=os:=by rw[←V.len st,List.drop_left'];rfl
 rw[hdrop,Qv,Qv]
 exact V.preO hw HA (os++B) ha
theorem GroI.len(H:GroI V sz D st h x):V.n<=h.length:=by
 obtain⟨⟨os,rfl⟩,_⟩:=H
 rw[Qq,V.len];omega
theorem GroI.step(H:GroI V sz D st h x){e:List PV}(he:e.length=sz){h2 os2:List AO}(e2:h2=V.I st'++h.drop V.n++os2){r':List AV}{I2:List Nat}(ho:OwnL true h2 r' e I2)(nd2:I2.Nodup)(hf:∀j∈I2,h.length<=j):
 (x= .nils/\D=[]/\∀m:List AO,GroI V sz [e] st' (h2++(m++[.row sz [r']])) (.sl (h2.length+m.length) sz 0 1))\/
 ∃id rows,x= .sl id sz 0 D.length/\h2[id]?=some (.row sz rows)/\rows.length=D.length/\id<h2.length/\∀m:List AO,GroI V sz (D++[e]) st' ((h2++m).set id .dead++[.row sz (rows++[r'])]) (.sl (h2.length+m.length) sz 0 (D.length+1)):=by
 obtain⟨⟨os,rfl⟩,hx⟩:=H
 have hdrop:(V.I st++os).drop V.n=os:=by rw[←V.len st,List.drop_left'];rfl
 rw[hdrop] at e2
 have hl:(V.I st++os).length=V.n+os.length:=by rw[Qq,V.len]
 rw[hl] at hf
 have hsz:r'.length=sz:=by rw[ho.len,he]
 rcases hx with⟨rfl,rfl⟩|⟨id,rows,J,rfl,hD,hr,hJ⟩
 ·refine .inl ⟨rfl,rfl,λm=>⟨⟨os++os2++(m++[.row sz [r']]),by rw[e2];simp⟩,.inr ⟨_,[r'],I2,rfl,by simp,⟨?_,rfl,by simp[hsz],by simp[he],?_,?_⟩,?_⟩⟩⟩
  ·rw[←Qv,Qr (by simp)];simp
  ·have:=ho.more (m++[.row sz [r']])
   simpa using this
  ·rw[Ra]
   exact⟨λhm=>by have:=ho.lt hm;omega,nd2⟩
  ·intro j hj
   rcases QH.1 hj with rfl|hj
   ·rw[e2];simp[V.len]<;>omega
   ·have:=hf j hj;omega
 ·have hr2:RowOwn true (V.I st'++os) id sz rows D J:=hr.frame λi hi=>by
   have:=hJ i hi
   rw[Qr (by rw[V.len];exact this),Qr (by rw[V.len];exact this),V.len,V.len]
  have hid:h2[id]?=some (.row sz rows):=by rw[e2,Qg hr2.lt];exact hr2.here
  refine .inr ⟨id,rows,rfl,hid,hr.len,(Qf.1 hid).1,λm=>?_⟩
  have hp:=hr2.push (h2:=h2++m) (os:=os2++m) (by rw[e2];simp) (ho.more m) nd2 (λj hj=>by have:=hf j hj;rw[Qq,V.len];exact this) he
  have hid0:=hJ id (by simp)
  refine⟨⟨(os++os2++m).set (id-V.n) .dead++[.row sz (rows++[r'])],?_⟩,.inr ⟨(h2++m).length,rows++[r'],J++I2,by simp,by simp,hp,λj hj=>?_⟩⟩
  ·rw[e2,←Qv]
   congr 1
   rw[Qv,Qv,List.set_append_right _ _ (by rw[V.len];exact hid0),V.len]
   simp
  ·rcases QH.1 hj with rfl|hj
   ·rw[e2];simp[V.len]<;>omega
   ·rcases Qn.1 hj with hj|hj
    ·exact hJ j (by simp[hj])
    ·have:=hf j hj;omega
end
end
section
variable (G:aq)
theorem zt{σ:Type}(V:Vis σ)(g:σ->Ex->Ex × σ)(inv:Nat->σ->Prop)(l:List Ex)(hb:l.length<=1073741824)
 (hv:∀(i:Nat) st (h:i<l.length),inv i st->inv (i+1) (g st l[i]).2/\AC Tryz.prog G V.F (.agg (l[i].cs.map .p)::V.caps) (V.I st) (Mk .agg true (g st l[i]).1.cs (V.I (g st l[i]).2)))(st:σ)(h0:inv 0 st):
 AC Tryz.prog G aV [.p (exL l),.fn (.func V.F) V.caps] (V.I st) (Mk bz true [exL (dG g st l).1] (V.I (dG g st l).2)):=by
 have hxl:∀l,exL l= .lst 4 (l.map Ex.cs):=λ_=>rfl
 have hcb:=V.capsOk
 have hinv:∀i,i<=l.length->inv i (dG g st (l.take i)).2:=λi hi=>by
  have:=pU (g:=g) (inv:=inv) (l:=l) (st:=st) (k:=0) h0 (λi st h hi=>by
   rw[Rh] at hi⊢;exact(hv i st h hi).1) i hi
  rwa[Rh] at this
 refine AC.go lu ?_
 simp-implicitDefEqProofs[fK,hxl]
 refine an (λa:GroS σ=>ag 22 [(5,a.x),(0,.p (exL l)),(1,.fn (.func V.F) V.caps),(8,.p (exL l)),(9,.p (.int .i64 l.length)),(10,.p (.int .i64 a.i))]) (λa=>a.h)
  (λa=>a.i<=l.length/\a.st=(dG g st (l.take a.i)).2/\GroI V 4 ((dG g st (l.take a.i)).1.map Ex.cs) a.st a.h a.x) (λa=>l.length-a.i) ⟨0,st,V.I st,.nils⟩ ⟨Ri _,rfl,GroI.init⟩ ?_ ?_
 ·exact az (Qi _) (by simp[below,hxl,V.len,hcb])
 rintro⟨i,s,hh,x⟩ ⟨hi,hst,hI⟩
 simp only at hi hst hI
 have hT:=λh=>sN (g:=g) (l:=l) (st:=st) (i:=i) h
 have hi2:=hinv i hi
 have hml:=ri g (l.take i) st
 rw[QG,Nat.min_eq_left hi] at hml
 rw[←hst] at hT hi2
 generalize hcur:(dG g st (l.take i)).1=out at hT hml hI
 simp-implicitDefEqProofs[hxl]
 refine aQ (λhc=>?_) (λhc=>?_)
 ·simp at hc
  have hg:=Qd hc
  have hT:=hT hc
  obtain⟨_,hA⟩:=hv i s hc hi2
  generalize l[i]=y at hg hT hA
  have hkc:=y.cs_eq
  rw[hkc] at hA
  simp-implicitDefEqProofs[hg,hkc]
  refine(hI.call fk hA ⟨by simp[below],hcb⟩ _).mono ?_
  rintro r h2 ⟨vs,I2,os2,rfl,e2,ho,nd2,hf⟩
  obtain⟨K,rfl,hK⟩:=sx ho
  obtain⟨c1,c2⟩:=bf hK
  have hll:=hI.len
  have hl2:hh.length+1<=h2.length:=by rw[e2,Qq,Qq,Qq,List.length_drop,V.len];simp;omega
  rcases hI.step (by rw[Ex.cs_len]) (by rw[e2,Qv]) ho nd2 (λj hj=>by have:=hf j hj;simp[V.len] at this;omega) with⟨rfl,hD,hgo⟩|⟨id,rows,rfl,k1,k2,k3,hgo⟩
  ·simp-implicitDefEqProofs[-AV.cells,-AV.isCell,ce,aw,aJ,ca,au,c1,c2,aa]
   have hgo:=hgo [.row 4 [[.p (.int .i64 (g s y).1.op),.p (.int .i64 (g s y).1.n),.p (.str (g s y).1.name),K]]]
   have hD':out=[]:=by simpa using hD
   subst hD'
   refine⟨⟨i+1,(g s y).2,_,.sl (h2.length+1) 4 0 1⟩,⟨hc,?_,?_⟩,?_,az ?_ ?_⟩
   ·rw[hT]
   ·rw[hT];exact hgo
   ·show l.length-(i+1)<l.length-i;omega
   ·simp[V.len];omega
   ·simp[below,hxl,w1 (i:=i) (by omega)]
    exact aH (by omega) _ hcb
  ·have k1':∀m,(h2++m)[id]?=some (.row 4 rows):=λm=>by rw[Qg k3];exact k1
   rw[Qu] at k2
   simp-implicitDefEqProofs[-AV.cells,-AV.isCell,ce,aw,aJ,ca,au,c1,c2,aa,k1',k2]
   have ht:List.take out.length rows=rows:=Qk (by omega)
   have hgo:=hgo [.row 4 [[.p (.int .i64 (g s y).1.op),.p (.int .i64 (g s y).1.n),.p (.str (g s y).1.name),K]]]
   rw[Qu] at hgo
   rw[ht]
   refine⟨⟨by omega,by omega⟩,⟨i+1,(g s y).2,_,.sl (h2.length+1) 4 0 (out.length+1)⟩,⟨hc,?_,?_⟩,?_,az ?_ ?_⟩
   ·rw[hT]
   ·rw[hT,Rd];exact hgo
   ·show l.length-(i+1)<l.length-i;omega
   ·simp[V.len];omega
   ·simp[below,hxl,w1 (i:=i) (by omega)]
    exact aH (by omega) _ hcb
 ·simp at hc
  have hie:i=l.length:=by omega
  subst hie
  rw[QC] at hcur
  simp-implicitDefEqProofs[]
  rw[←hcur,hst] at hI
  have:=hI.done
  rw[QC] at this
  exact this
theorem FE{σ:Type}(V:Vis σ)(g:σ->Sm->Sm × σ)(inv:Nat->σ->Prop)(l:List Sm)(hb:l.length<=1073741824)
 (hv:∀(i:Nat) st (h:i<l.length),inv i st->inv (i+1) (g st l[i]).2/\AC Tryz.prog G V.F (.agg (l[i].cs.map .p)::V.caps) (V.I st) (Mk .agg true (g st l[i]).1.cs (V.I (g st l[i]).2)))(st:σ)(h0:inv 0 st):
 AC Tryz.prog G bM [.p (smL l),.fn (.func V.F) V.caps] (V.I st) (Mk bz true [smL (dG g st l).1] (V.I (dG g st l).2)):=by
 have hxl:∀l,smL l= .lst 5 (l.map Sm.cs):=λ_=>rfl
 have hcb:=V.capsOk
 have hinv:∀i,i<=l.length->inv i (dG g st (l.take i)).2:=λi hi=>by
  have:=pU (g:=g) (inv:=inv) (l:=l) (st:=st) (k:=0) h0 (λi st h hi=>by
   rw[Rh] at hi⊢;exact(hv i st h hi).1) i hi
  rwa[Rh] at this
 refine AC.go kL ?_
 simp-implicitDefEqProofs[fH,hxl]
 refine an (λa:GroS σ=>ag 22 [(5,a.x),(0,.p (smL l)),(1,.fn (.func V.F) V.caps),(8,.p (smL l)),(9,.p (.int .i64 l.length)),(10,.p (.int .i64 a.i))]) (λa=>a.h)
  (λa=>a.i<=l.length/\a.st=(dG g st (l.take a.i)).2/\GroI V 5 ((dG g st (l.take a.i)).1.map Sm.cs) a.st a.h a.x) (λa=>l.length-a.i) ⟨0,st,V.I st,.nils⟩ ⟨Ri _,rfl,GroI.init⟩ ?_ ?_
 ·exact az (Qi _) (by simp[below,hxl,V.len,hcb])
 rintro⟨i,s,hh,x⟩ ⟨hi,hst,hI⟩
 simp only at hi hst hI
 have hT:=λh=>sN (g:=g) (l:=l) (st:=st) (i:=i) h
 have hi2:=hinv i hi
 have hml:=ri g (l.take i) st
 rw[QG,Nat.min_eq_left hi] at hml
 rw[←hst] at hT hi2
 generalize hcur:(dG g st (l.take i)).1=out at hT hml hI
 simp-implicitDefEqProofs[hxl]
 refine aQ (λhc=>?_) (λhc=>?_)
 ·simp at hc
  have hg:=Qd hc
  have hT:=hT hc
  obtain⟨_,hA⟩:=hv i s hc hi2
  generalize l[i]=y at hg hT hA
  have hkc:=y.cs_eq
  rw[hkc] at hA
  simp-implicitDefEqProofs[hg,hkc]
  refine(hI.call fk hA ⟨by simp[below],hcb⟩ _).mono ?_
  rintro r h2 ⟨vs,I2,os2,rfl,e2,ho,nd2,hf⟩
  obtain⟨A,B,E,J1,J2,J3,rfl,rfl,oA,oB,oE⟩:=Au ho
  obtain⟨c1,c2⟩:=bf oA
  obtain⟨c3,c4⟩:=bf oB
  obtain⟨c5,c6⟩:=bf oE
  have hll:=hI.len
  have hl2:hh.length+1<=h2.length:=by rw[e2,Qq,Qq,Qq,List.length_drop,V.len];simp;omega
  rcases hI.step (by rw[Sm.cs_len]) (by rw[e2,Qv]) ho nd2 (λj hj=>by have:=hf j hj;simp[V.len] at this;omega) with⟨rfl,hD,hgo⟩|⟨id,rows,rfl,k1,k2,k3,hgo⟩
  ·simp-implicitDefEqProofs[-AV.cells,-AV.isCell,ce,aw,aJ,ca,au,c1,c2,c3,c4,c5,c6,aa]
   have hgo:=hgo [.row 5 [[.p (.int .i64 (g s y).1.op),.p (.str (g s y).1.name),A,B,E]]]
   have hD':out=[]:=by simpa using hD
   subst hD'
   refine⟨⟨i+1,(g s y).2,_,.sl (h2.length+1) 5 0 1⟩,⟨hc,?_,?_⟩,?_,az ?_ ?_⟩
   ·rw[hT]
   ·rw[hT];exact hgo
   ·show l.length-(i+1)<l.length-i;omega
   ·simp[V.len];omega
   ·simp[below,hxl,w1 (i:=i) (by omega)]
    exact aH (by omega) _ hcb
  ·have k1':∀m,(h2++m)[id]?=some (.row 5 rows):=λm=>by rw[Qg k3];exact k1
   rw[Qu] at k2
   simp-implicitDefEqProofs[-AV.cells,-AV.isCell,ce,aw,aJ,ca,au,c1,c2,c3,c4,c5,c6,aa,k1',k2]
   have ht:List.take out.length rows=rows:=Qk (by omega)
   have hgo:=hgo [.row 5 [[.p (.int .i64 (g s y).1.op),.p (.str (g s y).1.name),A,B,E]]]
   rw[Qu] at hgo
   rw[ht]
   refine⟨⟨by omega,by omega⟩,⟨i+1,(g s y).2,_,.sl (h2.length+1) 5 0 (out.length+1)⟩,⟨hc,?_,?_⟩,?_,az ?_ ?_⟩
   ·rw[hT]
   ·rw[hT,Rd];exact hgo
   ·show l.length-(i+1)<l.length-i;omega
   ·simp[V.len];omega
   ·simp[below,hxl,w1 (i:=i) (by omega)]
    exact aH (by omega) _ hcb
 ·simp at hc
  have hie:i=l.length:=by omega
  subst hie
  rw[QC] at hcur
  simp-implicitDefEqProofs[]
  rw[←hcur,hst] at hI
  have:=hI.done
  rw[QC] at this
  exact this
theorem JS{σ:Type}(V:Vis σ)(g:σ->Fd->Fd × σ)(inv:Nat->σ->Prop)(l:List Fd)(hb:l.length<=1073741824)
 (hv:∀(i:Nat) st (h:i<l.length),inv i st->inv (i+1) (g st l[i]).2/\AC Tryz.prog G V.F (.agg (l[i].cs.map .p)::V.caps) (V.I st) (Mk .agg true (g st l[i]).1.cs (V.I (g st l[i]).2)))(st:σ)(h0:inv 0 st):
 AC Tryz.prog G cw [.p (fdL l),.fn (.func V.F) V.caps] (V.I st) (Mk bz true [fdL (dG g st l).1] (V.I (dG g st l).2)):=by
 have hxl:∀l,fdL l= .lst 3 (l.map Fd.cs):=λ_=>rfl
 have hcb:=V.capsOk
 have hinv:∀i,i<=l.length->inv i (dG g st (l.take i)).2:=λi hi=>by
  have:=pU (g:=g) (inv:=inv) (l:=l) (st:=st) (k:=0) h0 (λi st h hi=>by
   rw[Rh] at hi⊢;exact(hv i st h hi).1) i hi
  rwa[Rh] at this
 refine AC.go mc ?_
 simp-implicitDefEqProofs[gl,hxl]
 refine an (λa:GroS σ=>ag 22 [(5,a.x),(0,.p (fdL l)),(1,.fn (.func V.F) V.caps),(8,.p (fdL l)),(9,.p (.int .i64 l.length)),(10,.p (.int .i64 a.i))]) (λa=>a.h)
  (λa=>a.i<=l.length/\a.st=(dG g st (l.take a.i)).2/\GroI V 3 ((dG g st (l.take a.i)).1.map Fd.cs) a.st a.h a.x) (λa=>l.length-a.i) ⟨0,st,V.I st,.nils⟩ ⟨Ri _,rfl,GroI.init⟩ ?_ ?_
 ·exact az (Qi _) (by simp[below,hxl,V.len,hcb])
 rintro⟨i,s,hh,x⟩ ⟨hi,hst,hI⟩
 simp only at hi hst hI
 have hT:=λh=>sN (g:=g) (l:=l) (st:=st) (i:=i) h
 have hi2:=hinv i hi
 have hml:=ri g (l.take i) st
 rw[QG,Nat.min_eq_left hi] at hml
 rw[←hst] at hT hi2
 generalize hcur:(dG g st (l.take i)).1=out at hT hml hI
 simp-implicitDefEqProofs[hxl]
 refine aQ (λhc=>?_) (λhc=>?_)
 ·simp at hc
  have hg:=Qd hc
  have hT:=hT hc
  obtain⟨_,hA⟩:=hv i s hc hi2
  generalize l[i]=y at hg hT hA
  have hkc:=y.cs_eq'
  rw[hkc] at hA
  simp-implicitDefEqProofs[hg,hkc]
  refine(hI.call fk hA ⟨by simp[below],hcb⟩ _).mono ?_
  rintro r h2 ⟨vs,I2,os2,rfl,e2,ho,nd2,hf⟩
  obtain⟨A,B,J1,J2,rfl,rfl,oA,oB⟩:=Dc ho
  obtain⟨c1,c2⟩:=bf oA
  obtain⟨c3,c4⟩:=bf oB
  have hll:=hI.len
  have hl2:hh.length+1<=h2.length:=by rw[e2,Qq,Qq,Qq,List.length_drop,V.len];simp;omega
  rcases hI.step (by rw[Fd.cs_len]) (by rw[e2,Qv]) ho nd2 (λj hj=>by have:=hf j hj;simp[V.len] at this;omega) with⟨rfl,hD,hgo⟩|⟨id,rows,rfl,k1,k2,k3,hgo⟩
  ·simp-implicitDefEqProofs[-AV.cells,-AV.isCell,ce,aw,aJ,ca,au,c1,c2,c3,c4,aa]
   have hgo:=hgo [.row 3 [[.p (.str (g s y).1.name),A,B]]]
   have hD':out=[]:=by simpa using hD
   subst hD'
   refine⟨⟨i+1,(g s y).2,_,.sl (h2.length+1) 3 0 1⟩,⟨hc,?_,?_⟩,?_,az ?_ ?_⟩
   ·rw[hT]
   ·rw[hT];exact hgo
   ·show l.length-(i+1)<l.length-i;omega
   ·simp[V.len];omega
   ·simp[below,hxl,w1 (i:=i) (by omega)]
    exact aH (by omega) _ hcb
  ·have k1':∀m,(h2++m)[id]?=some (.row 3 rows):=λm=>by rw[Qg k3];exact k1
   rw[Qu] at k2
   simp-implicitDefEqProofs[-AV.cells,-AV.isCell,ce,aw,aJ,ca,au,c1,c2,c3,c4,aa,k1',k2]
   have ht:List.take out.length rows=rows:=Qk (by omega)
   have hgo:=hgo [.row 3 [[.p (.str (g s y).1.name),A,B]]]
   rw[Qu] at hgo
   rw[ht]
   refine⟨⟨by omega,by omega⟩,⟨i+1,(g s y).2,_,.sl (h2.length+1) 3 0 (out.length+1)⟩,⟨hc,?_,?_⟩,?_,az ?_ ?_⟩
   ·rw[hT]
   ·rw[hT,Rd];exact hgo
   ·show l.length-(i+1)<l.length-i;omega
   ·simp[V.len];omega
   ·simp[below,hxl,w1 (i:=i) (by omega)]
    exact aH (by omega) _ hcb
 ·simp at hc
  have hie:i=l.length:=by omega
  subst hie
  rw[QC] at hcur
  simp-implicitDefEqProofs[]
  rw[←hcur,hst] at hI
  have:=hI.done
  rw[QC] at this
  exact this
end
section
variable (G:aq)
theorem rQ{X os Y post:List AO}{vs:List AV}{qs:List PV}{I:List Nat}(ho:OwnL true (X++os) vs qs I)(hf:∀i∈I,X.length<=i)(hl:Y.length=X.length):OwnL true (Y++(os++post)) vs qs I:=
 ho.frame λi hi=>by
  have h1:=hf i hi
  have h2:=ho.lt hi
  rw[Qq] at h2
  rw[Qr h1,Qr (by omega),hl,Qg (by omega)]
theorem Ak{X os Y:List AO}{vs:List AV}{qs:List PV}{I:List Nat}(ho:OwnL true (X++os) vs qs I)(hf:∀i∈I,X.length<=i)(hl:Y.length=X.length):OwnL true (Y++os) vs qs I:=by
 have:=rQ (post:=[]) ho hf hl
 rwa[QK] at this
theorem Po{C P os1 os2 os3 X1 X2 X3:List AO}{KA KB KE:AV}{qa qb qe:PV}{I1 I2 I3:List Nat}(o:Int)(nm:List UInt8)
 (ho1:OwnL true (X1++os1) [KA] [qa] I1)(ho2:OwnL true (X2++os2) [KB] [qb] I2)(ho3:OwnL true (X3++os3) [KE] [qe] I3)(nd1:I1.Nodup)(nd2:I2.Nodup)(nd3:I3.Nodup)
 (hf1:∀i∈I1,X1.length<=i)(hf2:∀i∈I2,X2.length<=i)(hf3:∀i∈I3,X3.length<=i)
 (l1:X1.length=C.length+P.length)(l2:X2.length=C.length+P.length+os1.length)(l3:X3.length=C.length+P.length+os1.length+os2.length):
 Mk .agg true [.int .i64 o,.str nm,qa,qb,qe] C (.ret (.agg [.p (.int .i64 o),.p (.str nm),KA,KB,KE])) (C++(P++(os1++(os2++os3)))):=by
 have m1:=rQ (Y:=C++P) (post:=os2++os3) ho1 hf1 (by simp[l1])
 have m2:=rQ (Y:=C++P++os1) (post:=os3) ho2 hf2 (by simp[l2];omega)
 have m3:=rQ (Y:=C++P++os1++os2) (post:=[]) ho3 hf3 (by simp[l3];omega)
 have e1:(C++P)++(os1++(os2++os3))=C++(P++(os1++(os2++os3))):=by simp
 have e2:C++P++os1++(os2++os3)=C++(P++(os1++(os2++os3))):=by simp
 have e3:C++P++os1++os2++(os3++[])=C++(P++(os1++(os2++os3))):=by simp
 rw[e1] at m1
 rw[e2] at m2
 rw[e3] at m3
 have b1:∀i∈I1,i<C.length+P.length+os1.length:=λi hi=>by
  have h2:=ho1.lt hi
  rw[Qq] at h2
  omega
 have b2:∀i∈I2,C.length+P.length+os1.length<=i/\i<C.length+P.length+os1.length+os2.length:=λi hi=>by
  have h1:=hf2 i hi
  have h2:=ho2.lt hi
  rw[Qq] at h2
  omega
 have b3:∀i∈I3,C.length+P.length+os1.length+os2.length<=i:=λi hi=>by
  have h1:=hf3 i hi
  omega
 refine⟨_,I1++(I2++I3),_,rfl,rfl,.p _ (λ_=>rfl) (.p _ (λ_=>rfl) (m1.app (m2.app m3))),?_,λi hi=>?_⟩
 ·refine sL (C.length+P.length+os1.length) nd1 (sL (C.length+P.length+os1.length+os2.length) nd2 nd3 (λi hi=>(b2 i hi).2) b3) b1 λi hi=>?_
  rcases Qn.1 hi with h|h
  ·have:=b2 i h;omega
  ·have:=b3 i h;omega
 ·rcases Qn.1 hi with h|h
  ·have:=hf1 i h;omega
  ·rcases Qn.1 h with h|h
   ·have:=b2 i h;omega
   ·have:=b3 i h;omega
theorem Py{C P os1 os2 X1 X2:List AO}{KA KB:AV}{qa qb:PV}{I1 I2:List Nat}(nm:List UInt8)
 (ho1:OwnL true (X1++os1) [KA] [qa] I1)(ho2:OwnL true (X2++os2) [KB] [qb] I2)(nd1:I1.Nodup)(nd2:I2.Nodup)
 (hf1:∀i∈I1,X1.length<=i)(hf2:∀i∈I2,X2.length<=i)
 (l1:X1.length=C.length+P.length)(l2:X2.length=C.length+P.length+os1.length):
 Mk .agg true [.str nm,qa,qb] C (.ret (.agg [.p (.str nm),KA,KB])) (C++(P++(os1++os2))):=by
 have m1:=rQ (Y:=C++P) (post:=os2) ho1 hf1 (by simp[l1])
 have m2:=rQ (Y:=C++P++os1) (post:=[]) ho2 hf2 (by simp[l2];omega)
 have e1:(C++P)++(os1++os2)=C++(P++(os1++os2)):=by simp
 have e2:C++P++os1++(os2++[])=C++(P++(os1++os2)):=by simp
 rw[e1] at m1
 rw[e2] at m2
 have b1:∀i∈I1,i<C.length+P.length+os1.length:=λi hi=>by
  have h2:=ho1.lt hi
  rw[Qq] at h2
  omega
 have b2:∀i∈I2,C.length+P.length+os1.length<=i:=λi hi=>by
  have h1:=hf2 i hi
  omega
 refine⟨_,I1++I2,_,rfl,rfl,.p _ (λ_=>rfl) (m1.app m2),sL (C.length+P.length+os1.length) nd1 nd2 b1 b2,λi hi=>?_⟩
 rcases Qn.1 hi with h|h
 ·have:=hf1 i h;omega
 ·have:=b2 i h;omega
theorem CK:∀(N:Nat) (e:Ex),e.sz<=N->e.sz<=1073741824->AC Tryz.prog G bj [.agg (e.cs.map .p)] [] (MkW .agg true e.cs):=by
 intro N
 induction N with
 |zero=>intro e h;have:=e.sz_eq;omega
 |succ N ih=>
  intro e he hz
  have hc:=e.cs_eq
  have hzz:=e.sz_eq
  have hlen:=aS e.kids
  refine AC.go sB ?_
  simp-implicitDefEqProofs[lp,hc]
  have HM:=zt G (LB bj [.row 4 [[.p (.int .i64 e.op),.p (.int .i64 e.n),.p (.str e.name),.p (exL e.kids)]],.row 4 [[.p (.int .i64 0),.p (.int .i64 0),.p (.str []),.nils]]] (by simp[okO,below])) (λ(st:Unit) x=>(x,st)) (λ_ _=>True) e.kids (by omega)
   (λi st hi _=>⟨trivial,by
     have h2:=aF (Qj hi)
     exact(ih e.kids[i] (by omega) (by omega)).mkLift fk (by simp[below])⟩) () trivial
  rw[show(λ(st:Unit) (x:Ex)=>(x,st))=(λ(st:Unit) x=>(id x,st)) from rfl,lm,List.map_id] at HM
  refine HM.mono ?_
  rintro r h ⟨vs,I,os,rfl,rfl,ho,nd,hf⟩
  obtain⟨K,rfl⟩:=aL ho
  obtain⟨c1,c2⟩:=bf ho
  simp-implicitDefEqProofs[-AV.cells,-AV.isCell,ce,aw,aJ,ca,au,c1,c2,aa,LB,bz]
  exact⟨_,I,rfl,.p _ (λ_=>rfl) (.p _ (λ_=>rfl) (.p _ (λ_=>rfl) (Ak (Y:=[_,_]) ho hf rfl))),nd⟩
theorem BC(h:List AO)(hok:∀o∈h,okO h.length o)(a:List Ex)(hz:bZ a<=1073741824):AC Tryz.prog G aV [.p (exL a),.fn (.func bj) []] h (Mk bz true [exL a] h):=by
 have hlen:=aS a
 have HM:=zt G (LB bj h hok) (λ(st:Unit) x=>(id x,st)) (λ_ _=>True) a (by omega)
  (λi st hi _=>⟨trivial,by
    have h2:=aF (Qj hi)
    exact(CK G _ a[i] (Qi _) (by omega)).mkLift fk (by simp[below])⟩) () trivial
 rw[lm,List.map_id] at HM
 exact HM
def te(l0:List Fd)(B:AV)(H:List Sm->List Sm)(l:List Sm):Prop:=AC Tryz.prog G aC [.p (smL l),.ptr 1 1 0 0,.ptr 3 1 0 0] (cH l0 B) (Mk bz true [smL (H l)] (cH l0 B))
theorem Cu(l0:List Fd){B:AV}(hB:below 0 B)(H:List Sm->List Sm)(s:Sm)(hz:s.sz<=1073741824)(hb:te G l0 B H s.body)(he:te G l0 B H s.els):
 AC Tryz.prog G co [.agg (s.cs.map .p),.ptr 3 1 0 0] (cH l0 B) (Mk .agg true (inS H s).cs (cH l0 B)):=by
 have hcs:=s.cs_eq
 have hzz:=s.sz_eq
 have hlen:=aS s.args
 have hic:(inS H s).cs=[.int .i64 s.op,.str s.name,exL s.args,smL (H s.body),smL (H s.els)]:=by rw[Sm.cs_eq];rfl
 let V:=Kr l0 B hB aC [] trivial
 have hl4:(cH l0 B).length=4:=rfl
 have hg30:∀h:3<(cH l0 B).length,(cH l0 B)[3]= .row 1 [[.fn (.func aC) [.ptr 1 1 0 0,.ptr 3 1 0 0]]]:=λ_=>rfl
 have hg3:∀r:List AO,(cH l0 B++r)[3]?=some (.row 1 [[.fn (.func aC) [.ptr 1 1 0 0,.ptr 3 1 0 0]]]):=λr=>rfl
 have hVp:∀(l:List Sm),te G l0 B H l->∀rest,AC Tryz.prog G aC [.p (smL l),.ptr 1 1 0 0,.ptr 3 1 0 0] (cH l0 B++rest) (Mk bz true [smL (H l)] (cH l0 B++rest)):=λl w rest=>
  V.preO (st:=()) (st':=()) er w rest ⟨by simp[below],by simp only[below];show 1<4;omega,by simp only[below];show 3<4;omega,trivial⟩
 have hCl:∀rest,(∀o∈rest,okO 0 o)->AC Tryz.prog G aV [.p (exL s.args),.fn (.func bj) []] (cH l0 B++rest) (Mk bz true [exL s.args] (cH l0 B++rest)):=by
  intro rest hr
  refine BC G _ ?_ s.args (by omega)
  intro o ho
  rcases Qn.1 ho with h|h
  ·exact Lo l0 hB (by rw[Qq,hl4];omega) o h
  ·exact cA (hr o h)
 have icf:∀f c,(AV.fn f c).isCell=true:=λ_ _=>rfl
 refine AC.go pm ?_
 generalize hh:cH l0 B=C at*
 have hg5:∀(a b:AO) t,(C++a::b::t)[5]?=some b:=λa b t=>by rw[Qr (by omega),hl4];rfl
 rw[hic]
 simp-implicitDefEqProofs[jr,hcs,hl4,hg30]
 refine(hCl _ (by simp[okO])).mono ?_
 rintro r h ⟨vs,I1,os1,rfl,rfl,ho1,nd1,hf1⟩
 obtain⟨KA,rfl⟩:=aL ho1
 obtain⟨c1,c2⟩:=bf ho1
 simp-implicitDefEqProofs[-AV.cells,-AV.isCell,ce,aw,aJ,ca,au,c1,c2,aa,hl4,hg30,hg3,hg5,icf,bz]
 refine(hVp _ hb _).mono ?_
 rintro r h ⟨vs,I2,os2,rfl,rfl,ho2,nd2,hf2⟩
 obtain⟨KB,rfl⟩:=aL ho2
 obtain⟨c3,c4⟩:=bf ho2
 simp-implicitDefEqProofs[-AV.cells,-AV.isCell,ce,aw,aJ,ca,au,c1,c2,c3,c4,aa,hl4,hg30,hg3,hg5,icf,bz]
 refine(hVp _ he _).mono ?_
 rintro r h ⟨vs,I3,os3,rfl,rfl,ho3,nd3,hf3⟩
 obtain⟨KE,rfl⟩:=aL ho3
 obtain⟨c5,c6⟩:=bf ho3
 simp-implicitDefEqProofs[-AV.cells,-AV.isCell,ce,aw,aJ,ca,au,c1,c2,c3,c4,c5,c6,aa,hl4,hg30,hg3,hg5,icf,bz]
 exact Po (C:=C) (P:=[_,_]) _ _ ho1 ho2 ho3 nd1 nd2 nd3 hf1 hf2 hf3 (by simp) (by simp;omega) (by simp;omega)
theorem sZ(l0:List Fd)(l:List Sm)(hf:∀x∈l,x.args≠[])(hz:aG l<=1073741824)(ih:∀x∈l,te G l0 CB aI x.body/\te G l0 CB aI x.els):te G l0 CB aI l:=by
 have hll:=aZ l
 have hB:below 0 CB:=by simp[CB,below]
 let V:=Kr l0 CB hB co [.ptr 3 1 0 0] (by simp[below])
 have hl4:(cH l0 CB).length=4:=rfl
 have HM:=FE G V (λ(st:Unit) x=>(inS aI x,st)) (λ_ _=>True) l (by omega)
  (λi st hi _=>⟨trivial,by
    have hm:=Qj hi
    have h2:=aM hm
    exact Cu G l0 hB aI l[i] (by omega) (ih _ hm).1 (ih _ hm).2⟩) () trivial
 rw[lm] at HM
 have HB:=DC G (l.map (inS aI)) (λx hx=>by
  obtain⟨y,hy,rfl⟩:=Qx.1 hx
  exact hf y hy) (by rw[Qu];omega)
 have HM2:AC Tryz.prog G bM [.p (smL l),.fn (.func co) [.ptr 3 1 0 0]] (cH l0 CB) (Mk bz true [smL (l.map (inS aI))] (cH l0 CB)):=HM
 have hg10:∀h:1<(cH l0 CB).length,(cH l0 CB)[1]= .row 1 [[.fn (.func aX) []]]:=λ_=>rfl
 have icf:∀f c,(AV.fn f c).isCell=true:=λ_ _=>rfl
 refine AC.go sG ?_
 generalize hh:cH l0 CB=C at*
 simp-implicitDefEqProofs[kY,hl4,hg10]
 refine HM2.mono ?_
 rintro r h ⟨vs,I1,os1,rfl,rfl,ho1,nd1,hf1⟩
 obtain⟨KA,rfl⟩:=aL ho1
 obtain⟨c1,c2⟩:=bf ho1
 have hg10':∀t:List AO,(C++t)[1]?=some (.row 1 [[.fn (.func aX) []]]):=λt=>by rw[Qg (by omega),Qd (by omega),hg10]
 simp-implicitDefEqProofs[-AV.cells,-AV.isCell,ce,aw,aJ,ca,au,c1,c2,aa,hl4,hg10,hg10',icf,bz]
 refine(HB _ KA I1 ho1 nd1).mono ?_
 rintro r h ⟨K2,I2,os2,rfl,rfl,ho2,nd2,hf2⟩
 simp-implicitDefEqProofs[aa]
 rw[Er] at ho2
 exact⟨[K2],I2,os1++os2,rfl,by simp,by simpa using ho2,nd2,λi hi=>by
  rcases hf2 i hi with h|h
  ·exact hf1 i h
  ·rw[Qq] at h;omega⟩
theorem Ge(l0:List Fd):∀(d:Nat) (l:List Sm),(∀x∈l,ay d x=true)->aG l<=1073741824->te G l0 CB aI l:=by
 intro d
 induction d with
 |zero=>
  intro l hf hz
  exact sZ G l0 l (λx hx=>by have:=hf x hx;cases this) hz (λx hx=>by have:=hf x hx;cases this)
 |succ d ih=>
  intro l hf hz
  refine sZ G l0 l (λx hx=>Ca (hf x hx)) hz (λx hx=>?_)
  have h1:=aM hx
  have h2:=x.sz_eq
  exact⟨ih x.body (px (hf x hx)) (by omega),ih x.els (sv (hf x hx)) (by omega)⟩
theorem Cy(h:List AO):∀l:List (List UInt8),OwnL true h (l.map λw=>[AV.p (.str w)]).flatten (l.map λw=>[PV.str w]).flatten []
 |[]=> .nil
 |w::r=> .p _ (λ_=>rfl) (Cy h r)
theorem GY(l:List (List UInt8))(hl:l.length<=1073741824):AC Tryz.prog G dF [.p (aB l)] [] (MkW bz true [aB l]):=by
 have hsl:aB l= .lst 1 (l.map λw=>[.str w]):=rfl
 have hR:∀l:List (List UInt8),RowOwn true [.dead,.row 1 (l.map λw=>[AV.p (.str w)])] 1 1 (l.map λw=>[AV.p (.str w)]) (l.map λw=>[PV.str w]) []:=λl=>
  ⟨rfl,by simp,λe he=>by obtain⟨w,_,rfl⟩:=Qx.1 he;rfl,λe he=>by obtain⟨w,_,rfl⟩:=Qx.1 he;rfl,Cy _ l,by simp⟩
 have hT:MkW bz true [.lst 1 (l.map λw=>[.str w])] (.ret (.sl 1 1 0 l.length)) [.dead,.row 1 (l.map λw=>[AV.p (.str w)])]:=⟨[_],[1],rfl,(hR l).tree (by simp),by simp⟩
 refine AC.go me ?_
 simp-implicitDefEqProofs[gf,hsl]
 cases l with
 |nil=>
  simp[Dy]
  exact⟨⟨[.nils],[],rfl,.nils 1 .nil,List.nodup_nil⟩,hT⟩
 |cons w r=>
  simp only[Qw] at hl
  simp[Dy]
  refine⟨⟨by omega,by omega⟩,?_⟩
  exact hT
theorem DM(l0:List Fd){B:AV}(hB:below 0 B)(H:List Sm->List Sm)(f:Fd)(hz:f.sz<=1073741824)(hb:te G l0 B H f.body):
 AC Tryz.prog G da [.agg (f.cs.map .p),.ptr 3 1 0 0] (cH l0 B) (Mk .agg true (eaF H f).cs (cH l0 B)):=by
 have hcs:f.cs=[.str f.name,aB f.params,smL f.body]:=rfl
 have hic:(eaF H f).cs=[.str f.name,aB f.params,smL (H f.body)]:=rfl
 have hfz:f.sz=1+f.name.length+(f.params.length+(f.params.map List.length).sum)+aG f.body:=rfl
 let V:=Kr l0 B hB aC [] trivial
 have hl4:(cH l0 B).length=4:=rfl
 have hg30:∀h:3<(cH l0 B).length,(cH l0 B)[3]= .row 1 [[.fn (.func aC) [.ptr 1 1 0 0,.ptr 3 1 0 0]]]:=λ_=>rfl
 have hg3:∀r:List AO,(cH l0 B++r)[3]?=some (.row 1 [[.fn (.func aC) [.ptr 1 1 0 0,.ptr 3 1 0 0]]]):=λr=>rfl
 have hVp:∀rest,AC Tryz.prog G aC [.p (smL f.body),.ptr 1 1 0 0,.ptr 3 1 0 0] (cH l0 B++rest) (Mk bz true [smL (H f.body)] (cH l0 B++rest)):=λrest=>
  V.preO (st:=()) (st':=()) er hb rest ⟨by simp[below],by simp only[below];show 1<4;omega,by simp only[below];show 3<4;omega,trivial⟩
 have icf:∀f c,(AV.fn f c).isCell=true:=λ_ _=>rfl
 refine AC.go sy ?_
 generalize hh:cH l0 B=C at*
 have hg5:∀(a b:AO) t,(C++a::b::t)[5]?=some b:=λa b t=>by rw[Qr (by omega),hl4];rfl
 rw[hic]
 simp-implicitDefEqProofs[kX,hcs,hl4,hg30]
 refine(AC.mkLift er (GY G f.params (by omega)) (by simp[below])).mono ?_
 rintro r h ⟨vs,I1,os1,rfl,rfl,ho1,nd1,hf1⟩
 obtain⟨KA,rfl⟩:=aL ho1
 obtain⟨c1,c2⟩:=bf ho1
 simp-implicitDefEqProofs[-AV.cells,-AV.isCell,ce,aw,aJ,ca,au,c1,c2,aa,hl4,hg30,hg3,hg5,icf,bz]
 refine(hVp _).mono ?_
 rintro r h ⟨vs,I2,os2,rfl,rfl,ho2,nd2,hf2⟩
 obtain⟨KB,rfl⟩:=aL ho2
 obtain⟨c3,c4⟩:=bf ho2
 simp-implicitDefEqProofs[-AV.cells,-AV.isCell,ce,aw,aJ,ca,au,c1,c2,c3,c4,aa,hl4,hg30,hg3,hg5,icf,bz]
 exact Py (C:=C) (P:=[_,_]) _ ho1 ho2 nd1 nd2 hf1 hf2 (by simp) (by simp;omega)
theorem AH(l:List Fd)(hz:bl l<=1073741824)(hf:∀f∈l,∀x∈f.body,ay 4 x=true):AC Tryz.prog G dQ [.agg [.p (fdL l)],CB] [] (MkW .agg true [fdL (jG l)]):=by
 have hll:=cJ l
 have hB:below 0 CB:=by simp[CB,below]
 let V:=Kr l CB hB da [.ptr 3 1 0 0] (by simp[below])
 have HM:=JS G V (λ(st:Unit) x=>(eaF aI x,st)) (λ_ _=>True) l (by omega)
  (λi st hi _=>⟨trivial,by
    have hm:=Qj hi
    have h2:=cU hm
    have h3:l[i].sz=1+l[i].name.length+(l[i].params.length+(l[i].params.map List.length).sum)+aG l[i].body:=rfl
    exact DM G l hB aI l[i] (by omega) (Ge G l 4 _ (hf _ hm) (by omega))⟩) () trivial
 rw[lm] at HM
 have HM2:AC Tryz.prog G cw [.p (fdL l),.fn (.func da) [.ptr 3 1 0 0]] [.row 1 [[.p (fdL l)]],.row 1 [[.fn (.func aX) []]],.row 1 [[.nils]],.row 1 [[.fn (.func aC) [.ptr 1 1 0 0,.ptr 3 1 0 0]]]] (Mk bz true [fdL (jG l)] [.row 1 [[.p (fdL l)]],.row 1 [[.fn (.func aX) []]],.row 1 [[.nils]],.row 1 [[.fn (.func aC) [.ptr 1 1 0 0,.ptr 3 1 0 0]]]]):=HM
 show AC Tryz.prog G dQ [.agg [.p (fdL l)],.fn (.func aX) []] [] (MkW .agg true [fdL (jG l)])
 refine AC.go uy ?_
 simp-implicitDefEqProofs[mm]
 refine HM2.mono ?_
 rintro r h ⟨vs,I1,os1,rfl,rfl,ho1,nd1,hf1⟩
 obtain⟨KA,rfl⟩:=aL ho1
 obtain⟨c1,c2⟩:=bf ho1
 simp-implicitDefEqProofs[-AV.cells,-AV.isCell,ce,aw,aJ,ca,au,c1,c2,aa,bz]
 exact⟨_,I1,rfl,Ak (Y:=[_,_,_,_]) ho1 hf1 rfl,nd1⟩
end
section
variable (G:aq)
variable (hK:G iq=some gr) (hS:G dN=some [PV.tbl opK opV])
include hK hS
theorem re(l:List Fd)(hz:bl l<=1073741824):AC Tryz.prog G bN [.agg [.p (fdL l)]] [] (MkW (Iy (decide (aP l=0))) true [fdL (orN (decide (aP l=0)) (jG l))]):=by
 refine AC.go pS ?_
 simp-implicitDefEqProofs[jV]
 refine(LF G hK hS l hz).use ?_
 by_cases h0:aP l=0
 case neg=>
  have hp:orN (decide (aP l=0)) (jG l)=[]:=by simp[orN,h0]
  rw[hp]
  simp-implicitDefEqProofs[h0]
  exact⟨[.nils],[],rfl,.nils 3 .nil,List.nodup_nil⟩
 have hp:orN (decide (aP l=0)) (jG l)=jG l:=by simp[orN,h0]
 have HC:AC Tryz.prog G dQ [.agg [.p (fdL l)],.fn (.func aX) []] [] (MkW .agg true [fdL (jG l)]):=AH G l hz (po h0).2
 rw[hp]
 simp-implicitDefEqProofs[h0]
 refine(AC.mkLift fk HC (by simp[below])).mono ?_
 rintro r h ⟨vs,I,os,rfl,rfl,ho,nd,hf⟩
 obtain⟨K,rfl⟩:=aL ho
 obtain⟨c1,c2⟩:=bf ho
 simp-implicitDefEqProofs[-AV.cells,-AV.isCell,ce,aw,aJ,ca,au,c1,c2,aa]
 exact⟨[K],I,rfl,Ak (Y:=[_,_]) ho hf rfl,nd⟩
end
section
def Sml(ch:List Scp):Prop:=∀s n,fL ch s=some n->n<26
theorem Sml.getD{ch:List Scp}(h:Sml ch)(s:List UInt8):(fL ch s).getD 0<26:=by
 cases e:fL ch s with
 |none=>simp
 |some n=>exact h s n e
theorem Sml.set{m:Scp}{up:List Scp}(h:Sml (m::up))(s:List UInt8){n:Nat}(hn:n<26):Sml (iM m s n::up):=by
 intro t k e
 rw[fL,vU] at e
 by_cases hst:s=t
 ·rw[if_pos hst] at e;cases e;exact hn
 ·rw[if_neg hst] at e
  exact h t k (by rw[fL];exact e)
theorem Sml.open{ch:List Scp}(h:Sml ch):Sml ([]::ch):=λs n e=>h s n (by rw[fL] at e;exact e)
theorem Sml.opS{m:Scp}{up:List Scp}(h:Sml (m::up))(o:Int)(s:List UInt8){n:Nat}(hn:o=1->n<26):Sml (opS o s m n::up):=by
 unfold Go.Proofs.YthfklclcofcpiaaGreatDoor.opS
 split
 ·rename_i e;exact h.set s (hn e)
 ·exact h
variable (G:aq)
end
section
variable (G:aq)
theorem Sml.base:Sml [[]]:=λs n e=>by simp[fL,gt] at e
variable (hK:G iq=some gr) (hS:G dN=some [.tbl opK opV])
include hK hS
end
section
theorem Mu(n:Int):IntKind.u8.wrap n=n%256:=by simp[IntKind.wrap,IntKind.bits,IntKind.signed]
theorem Hm{x:Int}{n:Nat}(h:x=n)(hn:n<=9223372036854775807):IntKind.i64.wrap x=n:=by rw[ah (by omega) (by omega),h]
def ye(n:Nat)(acc:List UInt8):List UInt8:=if n=0 then acc else ye (n/10) (UInt8.ofNat (48+n%10)::acc)
termination_by n
theorem FM(acc:List UInt8):ye 0 acc=acc:=by rw[ye,if_pos rfl]
theorem EX{n:Nat}(h:¬n=0)(acc:List UInt8):ye n acc=ye (n/10) (UInt8.ofNat (48+n%10)::acc):=by rw[ye,if_neg h]
def dx(n:Nat):List UInt8:=if n=0 then[109,48] else 109::ye n []
structure DGm where (n:Nat) (acc:List UInt8)
variable (G:aq)
theorem fv(n:Nat)(hn:n<=1152921504606846976):VF Tryz.prog G cG [.p (.int .i64 n)] (.p (.str (dx n))):=by
 refine AC.go tK ?_
 by_cases h0:n=0
 ·subst h0
  simp-implicitDefEqProofs[iu,dx]
 have h1:¬(n:Int)<=0:=by omega
 simp-implicitDefEqProofs[iu,h1,h0]
 refine an (λd:DGm=>ag 20 [(0,.p (.int .i64 d.n)),(3,.p (.str d.acc))]) (λ_=>[]) (λd=>ye d.n d.acc=ye n []/\d.acc.length+d.n<=n) (λd=>d.n) ⟨n,[]⟩ (by simp) ?_ ?_
 ·exact aE rfl (by simp[below])
 ·rintro⟨m,acc⟩ ⟨i1,i2⟩
  simp only at i1 i2
  simp-implicitDefEqProofs[]
  refine aQ (λh2=>?_) (λh2=>?_)
  ·simp at h2
   have hm0:¬m=0:=by omega
   have e10:(m:Int).tmod 10=(m:Int)%10:=Int.tmod_eq_emod_of_nonneg (by omega)
   have ew:IntKind.i64.wrap (48+(m:Int)%10)=48+(m:Int)%10:=ah (by omega) (by omega)
   have e8:IntKind.u8.wrap (48+(m:Int)%10)=48+(m:Int)%10:=by rw[Mu];omega
   have et:(48+(m:Int)%10).toNat=48+m%10:=by omega
   have ed:IntKind.i64.wrap ((m:Int)/10)=((m/10:Nat):Int):=Hm (by omega) (by omega)
   simp-implicitDefEqProofs[e10,ew,e8,et,ed]
   refine⟨by omega,⟨m/10,UInt8.ofNat (48+m%10)::acc⟩,⟨?_,?_⟩,by simp only;omega,aE rfl ?_⟩
   ·rw[←i1];exact(EX hm0 acc).symm
   ·simp only[Qw];omega
   ·simp[below]
  ·simp at h2
   have:m=0:=by omega
   subst this
   rw[FM] at i1
   have hl:1+(ye n []).length<=9223372036854775807:=by rw[←i1];omega
   simp-implicitDefEqProofs[dx,h0,i1]
   exact hl
def kT(k n:Nat):List (List UInt8):=(List.range n).map λj=>dx (k+j)
theorem Br(k n:Nat):(kT k n).length=n:=by simp[kT]
theorem tv(k i:Nat)(hn:k+i<=1152921504606846976):VF Tryz.prog G cG [.p (.int .i64 ((k:Int)+(i:Int)))] (.p (.str (dx (k+i)))):=by
 have:=fv G (k+i) hn
 rwa[Int.natCast_add] at this
theorem yi{h:List AO}{id:Nat}{xs:List (List UInt8)}{k:Nat}(hr:h[id]?=some (mI xs))(hk:k+xs.length<=1152921504606846976):
 AC Tryz.prog G dk [.sl id 1 0 xs.length,.p (.int .i64 k)] h λx h'=>x= .ret (.p (.int .i64 ((k+xs.length:Nat):Int)))/\h'=h.set id (mI (kT k xs.length)):=by
 refine AC.enterB dh λhb=>AC.go dh ?_
 have hid:id<h.length:=(Qf.1 hr).1
 have hbs:∀ys:List (List UInt8),HB (h.set id (mI ys)):=λys=>hb.set_row λe he=>by
  obtain⟨x,_,rfl⟩:=Qx.1 he
  simp
 simp-implicitDefEqProofs[di]
 have e0:kT k 0++xs.drop 0=xs:=by simp[kT]
 refine an (λa:Nat × List (List UInt8)=>ag 20 [(0,.sl id 1 0 xs.length),(1,.p (.int .i64 ((k+a.1:Nat):Int))),(5,.p (.int .i64 a.1))]) (λa=>h.set id (mI a.2)) (λa=>a.1<=xs.length/\a.2=kT k a.1++xs.drop a.1) (λa=>xs.length-a.1) (0,xs) ⟨by simp,e0.symm⟩ ?_ ?_
 ·have e:h.set id (mI xs)=h:=by
   obtain⟨hi,e⟩:=Qf.1 hr
   rw[←e];simp
  rw[e]
  exact mw (by simp) hb (by simp-implicitDefEqProofs[below,hid])
 ·rintro⟨i,ys⟩ ⟨hi,hy⟩
  simp only at hi hy
  simp-implicitDefEqProofs[]
  refine aQ (λh1=>?_) (λh1=>?_)
  ·simp at h1
   have hyl:ys.length=xs.length:=by rw[hy];simp[kT];omega
   have hys:ys.set i (dx (k+i))=kT k (i+1)++xs.drop (i+1):=by
    rw[hy,List.set_append_right _ _ (by simp[kT])]
    simp only[kT,Qu,List.length_range,Nat.sub_self]
    rw[Rm h1,List.set_cons_zero,List.range_succ]
    simp
   have hg:(List.map (λn=>[AV.p (.str n)]) ys)[i]?=some [AV.p (.str (ys[i]'(by omega)))]:=by rw[Qo,Qd (by omega)];rfl
   have hw1:IntKind.i64.wrap ((k:Int)+(i:Int)+1)=(k:Int)+(i:Int)+1:=ah (by omega) (by omega)
   simp-implicitDefEqProofs[]
   refine(tv G k i (by omega)).use ?_
   simp-implicitDefEqProofs[mI,hid,h1,hg,hw1]
   refine⟨i+1,ys.set i (dx (k+i)),⟨h1,hys⟩,by omega,?_⟩
   have e:(List.map (λn=>[AV.p (PV.str n)]) ys).set i [AV.p (PV.str (dx (k+i)))]=List.map (λn=>[AV.p (PV.str n)]) (ys.set i (dx (k+i))):=by
    rw[List.map_set]
   rw[e]
   refine mw ?_ (hbs (ys.set i (dx (k+i)))) ?_
   ·simp
   simp[w1 (i:=i) (by omega),below,hid]
   omega
  ·simp at h1
   have:i=xs.length:=by omega
   subst this
   simp[hy]
theorem yF(k n:Nat)(hk:k+n<=1152921504606846976):VF Tryz.prog G fw [.p (aB (kT k n)),.p (.int .i64 k)] (.p (.int .i64 ((k+n:Nat):Int))):=by
 refine AC.go oY ?_
 have hsl:∀l,aB l= .lst 1 (l.map λw=>[.str w]):=λ_=>rfl
 have hl:=Br k n
 simp-implicitDefEqProofs[jv]
 refine an (λi:Nat=>ag 22 [(0,.p (aB (kT k n))),(1,.p (.int .i64 ((k+i:Nat):Int))),(5,.p (.int .i64 i))]) (λ_=>[]) (λi=>i<=n) (λi=>n-i) 0 (by simp) ?_ ?_
 ·exact aE rfl (by simp[below,aB])
 intro i hi
 simp-implicitDefEqProofs[hsl,hl]
 refine aQ (λh1=>?_) (λh1=>?_)
 ·simp at h1
  have hg:(kT k n)[i]?=some (dx (k+i)):=by simp[kT,h1]
  have hw1:IntKind.i64.wrap ((k:Int)+(i:Int)+1)=(k:Int)+(i:Int)+1:=ah (by omega) (by omega)
  clear hl
  simp-implicitDefEqProofs[hg]
  refine(tv G k i (by omega)).use ?_
  simp-implicitDefEqProofs[hw1]
  refine⟨i+1,h1,by omega,aE rfl ?_⟩
  simp[below,aB,w1 (i:=i) (by omega)]
  omega
 ·simp at h1
  have:i=n:=by omega
  subst this
  simp-implicitDefEqProofs[]
end
section
mutual
def mkE(k:Nat):Ex->Ex
 | .mk _ _ _ ks=> .mk k ((k+1:Nat):Int) (dx (k+2)) (lZ (k+3) ks)
def lZ(k:Nat):List Ex->List Ex
 |[]=>[]
 |e::r=>mkE k e::lZ (k+3*e.parts) r
end
theorem rg:∀(l:List Ex) (k:Nat),(lZ k l).length=l.length
 |[],k=>rfl
 |e::r,k=>by rw[lZ,Qw,rg r,Qw]
theorem Ad:∀(l:List Ex) (k i:Nat) (e:Ex),l[i]?=some e->(lZ k l)[i]?=some (mkE (k+3*aK (l.take i)) e)
 |x::r,k,0,e,h=>by cases h;rfl
 |x::r,k,i+1,e,h=>by
  have:=Ad r (k+3*x.parts) i e h
  rw[lZ,QW,this,List.take_succ_cons,aK]
  congr 2
  omega
theorem HZ(k:Nat)(e:Ex):(mkE k e).cs=[.int .i64 k,.int .i64 ((k+1:Nat):Int),.str (dx (k+2)),exL (lZ (k+3) e.kids)]:=by
 obtain⟨o,n,s,ks⟩:=e;rw[mkE,Ex.cs_eq];rfl
theorem vt{l:List Ex}{i:Nat}(h:i<l.length):aK (l.take (i+1))=aK (l.take i)+l[i].parts:=by
 rw[al h,dT];simp[aK]
theorem zx(l:List Ex)(i:Nat):aK (l.take i)<=aK l:=by
 have e:aK l=aK (l.take i)+aK (l.drop i):=by rw[←dT,QN]
 omega
theorem zu{l:List Ex}{e:Ex}(h:e∈l):e.parts<=aK l:=by
 induction l with
 |nil=>cases h
 |cons x r ih=>
  rw[aK]
  rcases QH.1 h with rfl|h
  ·omega
  ·have:=ih h;omega
theorem yU(l:List Ex):l.length<=aK l:=by
 induction l with
 |nil=>exact Qi _
 |cons x r ih=>have:=x.parts_eq;rw[aK,Qw];omega
variable (G:aq)
theorem Cq:∀(N:Nat) (l:List Ex),aK l<N->∀(h:List AO) (v:AV) (I:List Nat) (k:Nat),OwnL true h [v] [exL l] I->I.Nodup->k+3*aK l<=1152921504606846976->
 AC Tryz.prog G ec [v,.p (.int .i64 k)] h (Mkd h v I (exL (lZ k l)) (.int .i64 ((k+3*aK l:Nat):Int))):=by
 intro N
 induction N with
 |zero=>intro l hl;omega
 |succ N ih=>
  intro l hl h v I k ho nd hk
  have hxl:∀l,exL l= .lst 4 (l.map Ex.cs):=λ_=>rfl
  have hll:=yU l
  rcases ho.inv nd with⟨h0,rfl,rfl|rfl⟩|⟨h0,_⟩|⟨id,rows,J,rfl,rfl,hr⟩
  ·have hl0:l=[]:=List.map_eq_nil_iff.1 h0
   subst hl0
   refine AC.go gH ?_
   have hst:Mkd h .nils [] (exL (lZ k [])) (.int .i64 ((k+3*aK []:Nat):Int)) (.ret (.p (.int .i64 k))) h:=⟨rfl,.nils 4 .nil,λ_ _ _=>rfl,Qi _⟩
   simp-implicitDefEqProofs[ee]
   refine an (λ_:Unit=>ag 42 [(0,.nils),(1,.p (.int .i64 k)),(5,.p (.int .i64 0))]) (λ_=>h) (λ_=>True) (λ_=>0) () trivial (az (Qi _) (by simp[below])) ?_
   intro _ _
   simp-implicitDefEqProofs[]
   exact hst
  ·have hl0:l=[]:=List.map_eq_nil_iff.1 h0
   subst hl0
   refine AC.go gH ?_
   have hst:Mkd h (.p (.lst 4 [])) [] (exL (lZ k [])) (.int .i64 ((k+3*aK []:Nat):Int)) (.ret (.p (.int .i64 k))) h:=⟨rfl,.p _ (λ_=>rfl) .nil,λ_ _ _=>rfl,Qi _⟩
   simp-implicitDefEqProofs[ee]
   refine an (λ_:Unit=>ag 42 [(0,(.p (.lst 4 []))),(1,.p (.int .i64 k)),(5,.p (.int .i64 0))]) (λ_=>h) (λ_=>True) (λ_=>0) () trivial (az (Qi _) (by simp[below])) ?_
   intro _ _
   simp-implicitDefEqProofs[]
   exact hst
  ·cases h0
  rw[Qu]
  refine AC.go gH ?_
  simp-implicitDefEqProofs[ee]
  refine an (λa:FilS=>ag 42 [(0,.sl id 4 0 l.length),(1,.p (.int .i64 ((k+3*aK (l.take a.i):Nat):Int))),(5,.p (.int .i64 a.i))]) (λa=>a.h) (MkI h id 4 ((lZ k l).map Ex.cs) (l.map Ex.cs) J) (λa=>l.length-a.i) ⟨0,h⟩ (MkI.init hr) ?_ ?_
  ·exact az (Qi _) (by simp[below,aK,hr.lt])
  rintro⟨i,hh⟩ hI
  simp-implicitDefEqProofs[]
  refine aQ (λh1=>?_) (λh1=>?_)
  ·simp at h1
   have hg:=Qd h1
   have hP:=vt h1
   have hM:=zu (Qj h1)
   have hT:=zx l (i+1)
   generalize l[i]=e at hg hP hM
   have hD:(l.map Ex.cs)[i]?=some e.cs:=by rw[Qo,hg];rfl
   have hA:((lZ k l).map Ex.cs)[i]?=some (mkE (k+3*aK (l.take i)) e).cs:=by rw[Qo,Ad l k i e hg];rfl
   obtain⟨rows',r,Ji,s1,s2,s3,s4,s5,s6,s7⟩:=hI.step hD hA
   obtain⟨K,rfl,hK⟩:=sx s3
   obtain⟨c1,c2⟩:=bf hK
   have q1:∀x,(hh.set id x)[id]?=some x:=λx=>QE s5
   have q2:∀x,(rows'.set i x)[i]?=some x:=λx=>QE s6
   have hnid:id∉Ji:=λhm=>by rw[Ra] at s4;exact s4.1 hm
   have hpe:=e.parts_eq
   have hmt:=fv G (k+3*aK (l.take i)+2) (by omega)
   generalize hkk:k+3*aK (l.take i)=kk at*
   have hkI:(k:Int)+3*(aK (l.take i):Int)=(kk:Int):=by omega
   have w0:IntKind.i64.wrap ((kk:Int)+1)=(kk:Int)+1:=ah (by omega) (by omega)
   have w2:IntKind.i64.wrap ((kk:Int)+1+1)=(kk:Int)+1+1:=ah (by omega) (by omega)
   have w3:IntKind.i64.wrap ((kk:Int)+1+1+1)=(kk:Int)+1+1+1:=ah (by omega) (by omega)
   have hm2:VF Tryz.prog G cG [.p (.int .i64 ((kk:Int)+1+1))] (.p (.str (dx (kk+2)))):=by
    have e:((kk+2:Nat):Int)=(kk:Int)+1+1:=by omega
    rw[←e];exact hmt
   have hIH:=λh1 ho=>ih e.kids (by have:=e.parts_eq;omega) h1 K Ji (kk+3) ho (Ra.1 s4).2 (by have:=e.parts_eq;omega)
   have e3:((kk+3:Nat):Int)=(kk:Int)+1+1+1:=by omega
   rw[e3] at hIH
   simp-implicitDefEqProofs[-AV.cells,-AV.isCell,ce,aw,aJ,ca,au,c1,c2,s1,s2,q1,q2,hkI,w0,w2,w3]
   refine⟨h1,?_⟩
   refine hm2.use ?_
   simp-implicitDefEqProofs[-AV.cells,-AV.isCell,ce,aw,aJ,ca,au,c1,c2,s1,s2,q1,q2,w3]
   refine⟨h1,(hIH _ (hK.set_out hnid _)).mono ?_⟩
   rintro r h2 ⟨rfl,o2,f2,l2⟩
   rw[Rl] at f2 l2
   have hgo:=s7 h2 [.p (.int .i64 kk),.p (.int .i64 ((kk+1:Nat):Int)),.p (.str (dx (kk+2))),K] (by rw[f2 id s5 hnid,q1];simp) (λj hj hn hm=>by rw[f2 j hj hm,QB (λe=>hn e.symm)]) (by rw[HZ];exact .p _ (λ_=>rfl) (.p _ (λ_=>rfl) (.p _ (λ_=>rfl) o2))) (Ex.cs_len _) l2
   have hid2:id<h2.length:=by omega
   have hwi:=w1 (i:=i) (by omega)
   have hkn:k+3*aK (l.take (i+1))=kk+3+3*aK e.kids:=by omega
   simp-implicitDefEqProofs[aa]
   refine⟨⟨i+1,h2⟩,hgo,by simp only;omega,az hgo.2.2.2 ?_⟩
   simp[below,hid2,hwi]
   omega
  ·simp at h1
   have hie:i=l.length:=by have:=hI.1;simp at this;omega
   obtain⟨⟨rows2,d1⟩,d2,d3⟩:=hI.done (by simpa using h1) (by simp[rg])
   subst hie
   rw[QC]
   simp-implicitDefEqProofs[]
   refine⟨by simp,?_,d2,d3⟩
   have:=d1.tree (n:=l.length) (by simp[rg])
   exact this
theorem Cf{h:List AO}:∀{ps:List (List UInt8)} {vs:List AV} {J:List Nat},OwnL true h vs (ps.map PV.str) J->vs=ps.map (λw=> .p (.str w))/\J=[]
 |[],vs,J,H=>by
  cases H
  exact⟨rfl,rfl⟩
 |w::r,vs,J,H=>by
  rw[QI] at H
  cases H with
  |p _ _ H=>
   obtain⟨e1,e2⟩:=Cf H
   exact⟨by rw[e1];rfl,e2⟩
theorem AP{α:Type}:∀{rows:List (List α)} {l:List α},rows.flatten=l->(∀e∈rows,e.length=1)->rows=l.map λx=>[x]
 |[],l,e,_=>by subst e;rfl
 |r::rs,l,e,h=>by
  subst e
  have h1:=h r (by simp)
  match r,h1 with
  |[x],_=>
   have ih:=AP (rows:=rs) rfl λe he=>h e (by simp[he])
   rw[QL,List.singleton_append,QI,←ih]
theorem zD:∀ps:List (List UInt8),(ps.map λw=>[PV.str w]).flatten=ps.map PV.str
 |[]=>rfl
 |w::r=>by rw[QI,QL,zD r];rfl
theorem LX(h:List AO)(v:AV)(I:List Nat)(ps:List (List UInt8))(k:Nat)(ho:OwnL true h [v] [aB ps] I)(nd:I.Nodup)(hk:k+ps.length<=1152921504606846976):
 AC Tryz.prog G dk [v,.p (.int .i64 k)] h (Mkd h v I (aB (kT k ps.length)) (.int .i64 ((k+ps.length:Nat):Int))):=by
 rcases ho.inv nd with⟨h0,rfl,rfl|rfl⟩|⟨h0,_⟩|⟨id,rows,J,rfl,rfl,hr⟩
 ·have hl0:ps=[]:=List.map_eq_nil_iff.1 h0
  subst hl0
  refine AC.go dh ?_
  have hst:Mkd h .nils [] (aB (kT k 0)) (.int .i64 ((k+0:Nat):Int)) (.ret (.p (.int .i64 k))) h:=⟨rfl,.nils 1 .nil,λ_ _ _=>rfl,Qi _⟩
  simp-implicitDefEqProofs[di]
  refine an (λ_:Unit=>ag 20 [(0,.nils),(1,.p (.int .i64 k)),(5,.p (.int .i64 0))]) (λ_=>h) (λ_=>True) (λ_=>0) () trivial (az (Qi _) (by simp[below])) ?_
  intro _ _
  simp-implicitDefEqProofs[]
  exact hst
 ·have hl0:ps=[]:=List.map_eq_nil_iff.1 h0
  subst hl0
  refine AC.go dh ?_
  have hst:Mkd h (.p (.lst 1 [])) [] (aB (kT k 0)) (.int .i64 ((k+0:Nat):Int)) (.ret (.p (.int .i64 k))) h:=⟨rfl,.p _ (λ_=>rfl) .nil,λ_ _ _=>rfl,Qi _⟩
  simp-implicitDefEqProofs[di]
  refine an (λ_:Unit=>ag 20 [(0,.p (.lst 1 [])),(1,.p (.int .i64 k)),(5,.p (.int .i64 0))]) (λ_=>h) (λ_=>True) (λ_=>0) () trivial (az (Qi _) (by simp[below])) ?_
  intro _ _
  simp-implicitDefEqProofs[]
  exact hst
 ·cases h0
 rw[Qu]
 have hfl:(ps.map λw=>[PV.str w]).flatten=ps.map PV.str:=by
  exact zD ps
 have hown:=hr.own
 rw[hfl] at hown
 obtain⟨e1,e2⟩:=Cf hown
 subst e2
 have e3:=AP e1 hr.rl
 have hh:h[id]?=some (mI ps):=by rw[hr.here,e3,List.map_map];rfl
 refine(yi G hh hk).mono ?_
 rintro x h' ⟨rfl,rfl⟩
 have hid:id<h.length:=hr.lt
 refine⟨rfl,yV (QE hid) (by simp[Br]),λj hj hn=>?_,by simp⟩
 simp at hn
 exact QB λe=>hn e.symm
mutual
def Sm.mq:Sm->Nat
 | .mk _ _ a b e=>2+3*aK a+aU b+aU e
def aU:List Sm->Nat
 |[]=>0
 |s::r=>s.mq+aU r
end
mutual
def mkS(k:Nat):Sm->Sm
 | .mk _ _ a b e=> .mk k (dx (k+1)) (lZ (k+2) a) (kM (k+2+3*aK a) b) (kM (k+2+3*aK a+aU b) e)
def kM(k:Nat):List Sm->List Sm
 |[]=>[]
 |s::r=>mkS k s::kM (k+s.mq) r
end
theorem Sm.mq_eq(s:Sm):s.mq=2+3*aK s.args+aU s.body+aU s.els:=by cases s;rfl
theorem uN:∀a b:List Sm,aU (a++b)=aU a+aU b
 |[],b=>by simp[aU]
 |s::r,b=>by rw[QO,aU,aU,uN r b];omega
theorem rN:∀(l:List Sm) (k:Nat),(kM k l).length=l.length
 |[],k=>rfl
 |e::r,k=>by rw[kM,Qw,rN r,Qw]
theorem zR:∀(l:List Sm) (k i:Nat) (e:Sm),l[i]?=some e->(kM k l)[i]?=some (mkS (k+aU (l.take i)) e)
 |x::r,k,0,e,h=>by cases h;rfl
 |x::r,k,i+1,e,h=>by
  have:=zR r (k+x.mq) i e h
  rw[kM,QW,this,List.take_succ_cons,aU]
  congr 2
  omega
theorem Jl(k:Nat)(e:Sm):(mkS k e).cs=[.int .i64 k,.str (dx (k+1)),exL (lZ (k+2) e.args),smL (kM (k+2+3*aK e.args) e.body),smL (kM (k+2+3*aK e.args+aU e.body) e.els)]:=by
 obtain⟨o,s,a,b,el⟩:=e;rw[mkS,Sm.cs_eq];rfl
theorem yR{l:List Sm}{i:Nat}(h:i<l.length):aU (l.take (i+1))=aU (l.take i)+l[i].mq:=by
 rw[al h,uN];simp[aU]
theorem rm(l:List Sm)(i:Nat):aU (l.take i)<=aU l:=by
 have e:aU l=aU (l.take i)+aU (l.drop i):=by rw[←uN,QN]
 omega
theorem Cm{l:List Sm}{e:Sm}(h:e∈l):e.mq<=aU l:=by
 induction l with
 |nil=>cases h
 |cons x r ih=>
  rw[aU]
  rcases QH.1 h with rfl|h
  ·omega
  ·have:=ih h;omega
theorem Ce(l:List Sm):l.length<=aU l:=by
 induction l with
 |nil=>exact Qi _
 |cons x r ih=>have:=x.mq_eq;rw[aU,Qw];omega
theorem BP:∀(N:Nat) (l:List Sm),aU l<N->∀(h:List AO) (v:AV) (I:List Nat) (k:Nat),OwnL true h [v] [smL l] I->I.Nodup->k+aU l<=1152921504606846976->
 AC Tryz.prog G cR [v,.p (.int .i64 k)] h (Mkd h v I (smL (kM k l)) (.int .i64 ((k+aU l:Nat):Int))):=by
 intro N
 induction N with
 |zero=>intro l hl;omega
 |succ N ih=>
  intro l hl h v I k ho nd hk
  have hll:=Ce l
  rcases ho.inv nd with⟨h0,rfl,rfl|rfl⟩|⟨h0,_⟩|⟨id,rows,J,rfl,rfl,hr⟩
  ·have hl0:l=[]:=List.map_eq_nil_iff.1 h0
   subst hl0
   refine AC.go gm ?_
   have hst:Mkd h .nils [] (smL (kM k [])) (.int .i64 ((k+aU []:Nat):Int)) (.ret (.p (.int .i64 k))) h:=⟨rfl,.nils 5 .nil,λ_ _ _=>rfl,Qi _⟩
   simp-implicitDefEqProofs[eh]
   refine an (λ_:Unit=>ag 49 [(0,.nils),(1,.p (.int .i64 k)),(5,.p (.int .i64 0))]) (λ_=>h) (λ_=>True) (λ_=>0) () trivial (az (Qi _) (by simp[below])) ?_
   intro _ _
   simp-implicitDefEqProofs[]
   exact hst
  ·have hl0:l=[]:=List.map_eq_nil_iff.1 h0
   subst hl0
   refine AC.go gm ?_
   have hst:Mkd h (.p (.lst 5 [])) [] (smL (kM k [])) (.int .i64 ((k+aU []:Nat):Int)) (.ret (.p (.int .i64 k))) h:=⟨rfl,.p _ (λ_=>rfl) .nil,λ_ _ _=>rfl,Qi _⟩
   simp-implicitDefEqProofs[eh]
   refine an (λ_:Unit=>ag 49 [(0,(.p (.lst 5 []))),(1,.p (.int .i64 k)),(5,.p (.int .i64 0))]) (λ_=>h) (λ_=>True) (λ_=>0) () trivial (az (Qi _) (by simp[below])) ?_
   intro _ _
   simp-implicitDefEqProofs[]
   exact hst
  ·cases h0
  rw[Qu]
  refine AC.go gm ?_
  simp-implicitDefEqProofs[eh]
  refine an (λa:FilS=>ag 49 [(0,.sl id 5 0 l.length),(1,.p (.int .i64 ((k+aU (l.take a.i):Nat):Int))),(5,.p (.int .i64 a.i))]) (λa=>a.h) (MkI h id 5 ((kM k l).map Sm.cs) (l.map Sm.cs) J) (λa=>l.length-a.i) ⟨0,h⟩ (MkI.init hr) ?_ ?_
  ·exact az (Qi _) (by simp[below,aU,hr.lt])
  rintro⟨i,hh⟩ hI
  simp-implicitDefEqProofs[]
  refine aQ (λh1=>?_) (λh1=>?_)
  ·simp at h1
   have hg:=Qd h1
   have hP:=yR h1
   have hM:=Cm (Qj h1)
   have hT:=rm l (i+1)
   generalize l[i]=e at hg hP hM
   have hD:(l.map Sm.cs)[i]?=some e.cs:=by rw[Qo,hg];rfl
   have hA:((kM k l).map Sm.cs)[i]?=some (mkS (k+aU (l.take i)) e).cs:=by rw[Qo,zR l k i e hg];rfl
   obtain⟨rows',r,Ji,s1,s2,s3,s4,s5,s6,s7⟩:=hI.step hD hA
   obtain⟨A,B,E,I1,I2,I3,rfl,rfl,oA,oB,oE⟩:=Au s3
   obtain⟨c1,c2⟩:=bf oA
   obtain⟨c3,c4⟩:=bf oB
   obtain⟨c5,c6⟩:=bf oE
   have q1:∀x,(hh.set id x)[id]?=some x:=λx=>QE s5
   have q2:∀x,(rows'.set i x)[i]?=some x:=λx=>QE s6
   rw[Ra] at s4
   obtain⟨hnid,n123⟩:=s4
   simp only[Qn,not_or] at hnid
   obtain⟨x1,x2,x3⟩:=hnid
   obtain⟨n1,n23,d123⟩:=Rk.1 n123
   obtain⟨n2,n3,d23⟩:=Rk.1 n23
   have hpe:=e.mq_eq
   have hmt:=fv G (k+aU (l.take i)+1) (by omega)
   generalize hkk:k+aU (l.take i)=kk at*
   have hkI:(k:Int)+(aU (l.take i):Int)=(kk:Int):=by omega
   have w0:IntKind.i64.wrap ((kk:Int)+1)=(kk:Int)+1:=ah (by omega) (by omega)
   have w2:IntKind.i64.wrap ((kk:Int)+1+1)=(kk:Int)+1+1:=ah (by omega) (by omega)
   have hm2:VF Tryz.prog G cG [.p (.int .i64 ((kk:Int)+1))] (.p (.str (dx (kk+1)))):=by
    have e:((kk+1:Nat):Int)=(kk:Int)+1:=by omega
    rw[←e];exact hmt
   have e2:((kk+2:Nat):Int)=(kk:Int)+1+1:=by omega
   have mA:=λh1 ho=>Cq G (aK e.args+1) e.args (by omega) h1 A I1 (kk+2) ho n1 (by omega)
   have mB:=λh1 ho=>ih e.body (by omega) h1 B I2 (kk+2+3*aK e.args) ho n2 (by omega)
   have mE:=λh1 ho=>ih e.els (by omega) h1 E I3 (kk+2+3*aK e.args+aU e.body) ho n3 (by omega)
   rw[e2] at mA
   simp-implicitDefEqProofs[-AV.cells,-AV.isCell,ce,aw,aJ,ca,au,c1,c2,c3,c4,c5,c6,s1,s2,q1,q2,hkI,w0,w2]
   refine⟨h1,?_⟩
   refine hm2.use ?_
   simp-implicitDefEqProofs[-AV.cells,-AV.isCell,ce,aw,aJ,ca,au,c1,c2,c3,c4,c5,c6,s1,s2,q1,q2,w2]
   refine⟨h1,(mA _ (oA.set_out x1 _)).mono ?_⟩
   rintro r h2 ⟨rfl,o2,f2,l2⟩
   rw[Rl] at f2 l2
   have g2:h2[id]?=some (.row 5 (rows'.set i [.p (.int .i64 kk),.p (.str (dx (kk+1))),A,B,E])):=by rw[f2 id s5 x1,q1]
   simp-implicitDefEqProofs[-AV.cells,-AV.isCell,ce,aw,aJ,ca,au,c1,c2,c3,c4,c5,c6,aa,g2,q2]
   have oB2:OwnL true h2 [B] [smL e.body] I2:=oB.frame λj hj=>by
    have hne:id≠j:=λe=>x2 (by rw[e];exact hj)
    rw[f2 j (oB.lt hj) (λhm=>d123 j hm j (Rc _ hj) rfl),QB hne]
   refine⟨h1,(mB _ oB2).mono ?_⟩
   rintro r h3 ⟨rfl,o3,f3,l3⟩
   have g3:h3[id]?=some (.row 5 (rows'.set i [.p (.int .i64 kk),.p (.str (dx (kk+1))),A,B,E])):=by rw[f3 id (by omega) x2,g2]
   simp-implicitDefEqProofs[-AV.cells,-AV.isCell,ce,aw,aJ,ca,au,c1,c2,c3,c4,c5,c6,aa,g3,q2]
   have oE3:OwnL true h3 [E] [smL e.els] I3:=oE.frame λj hj=>by
    have:=oE.lt hj
    have hne:id≠j:=λe=>x3 (by rw[e];exact hj)
    rw[f3 j (by omega) (λhm=>d23 j hm j hj rfl),f2 j this (λhm=>d123 j hm j (QZ _ hj) rfl),QB hne]
   refine⟨h1,(mE _ oE3).mono ?_⟩
   rintro r h4 ⟨rfl,o4,f4,l4⟩
   have hid4:id<h4.length:=by omega
   have hwi:=w1 (i:=i) (by omega)
   have hkn:k+aU (l.take (i+1))=kk+2+3*aK e.args+aU e.body+aU e.els:=by omega
   have oA4:OwnL true h4 [A] [exL (lZ (kk+2) e.args)] I1:=o2.frame λj hj=>by
    have:=o2.lt hj
    rw[f4 j (by omega) (λhm=>d123 j hj j (QZ _ hm) rfl),f3 j this (λhm=>d123 j hj j (Rc _ hm) rfl)]
   have oB4:OwnL true h4 [B] [smL (kM (kk+2+3*aK e.args) e.body)] I2:=o3.frame λj hj=>by
    have:=o3.lt hj
    rw[f4 j this (λhm=>d23 j hj j hm rfl)]
   have hgo:=s7 h4 [.p (.int .i64 kk),.p (.str (dx (kk+1))),A,B,E] (by rw[f4 id (by omega) x3,g3]) (λj hj hn hm=>by
    simp only[Qn,not_or] at hm
    rw[f4 j (by omega) hm.2.2,f3 j (by omega) hm.2.1,f2 j hj hm.1,QB (λe=>hn e.symm)]) (by
    rw[Jl];exact .p _ (λ_=>rfl) (.p _ (λ_=>rfl) (oA4.app (oB4.app o4)))) (Sm.cs_len _) (by omega)
   simp-implicitDefEqProofs[aa]
   refine⟨⟨i+1,h4⟩,hgo,by simp only;omega,az hgo.2.2.2 ?_⟩
   simp[below,hid4,hwi]
   omega
  ·simp at h1
   have hie:i=l.length:=by have:=hI.1;simp at this;omega
   obtain⟨⟨rows2,d1⟩,d2,d3⟩:=hI.done (by simpa using h1) (by simp[rN])
   subst hie
   rw[QC]
   simp-implicitDefEqProofs[]
   refine⟨by simp,?_,d2,d3⟩
   have:=d1.tree (n:=l.length) (by simp[rN])
   exact this
def Fd.mq(f:Fd):Nat:=1+f.params.length+aU f.body
def bu(l:List Fd):Nat:=(l.map Fd.mq).sum
def mkF(k:Nat)(f:Fd):Fd:=⟨dx k,kT (k+1) f.params.length,kM (k+1+f.params.length) f.body⟩
def nW(k:Nat):List Fd->List Fd
 |[]=>[]
 |s::r=>mkF k s::nW (k+s.mq) r
theorem BE(a b:List Fd):bu (a++b)=bu a+bu b:=by simp[bu]
theorem rt:∀(l:List Fd) (k:Nat),(nW k l).length=l.length
 |[],k=>rfl
 |e::r,k=>by rw[nW,Qw,rt r,Qw]
theorem zH:∀(l:List Fd) (k i:Nat) (e:Fd),l[i]?=some e->(nW k l)[i]?=some (mkF (k+bu (l.take i)) e)
 |x::r,k,0,e,h=>by cases h;rfl
 |x::r,k,i+1,e,h=>by
  have:=zH r (k+x.mq) i e h
  have e1:bu (x::r.take i)=x.mq+bu (r.take i):=by simp[bu]
  rw[nW,QW,this,List.take_succ_cons,e1]
  congr 2
  omega
theorem HP(k:Nat)(e:Fd):(mkF k e).cs=[.str (dx k),aB (kT (k+1) e.params.length),smL (kM (k+1+e.params.length) e.body)]:=rfl
theorem zB{l:List Fd}{i:Nat}(h:i<l.length):bu (l.take (i+1))=bu (l.take i)+l[i].mq:=by
 rw[al h,BE];simp[bu]
theorem pB(l:List Fd)(i:Nat):bu (l.take i)<=bu l:=by
 have e:bu l=bu (l.take i)+bu (l.drop i):=by rw[←BE,QN]
 omega
theorem BR{l:List Fd}{e:Fd}(h:e∈l):e.mq<=bu l:=by
 induction l with
 |nil=>cases h
 |cons x r ih=>
  have e1:bu (x::r)=x.mq+bu r:=by simp[bu]
  rw[e1]
  rcases QH.1 h with rfl|h
  ·omega
  ·have:=ih h;omega
theorem Cw(l:List Fd):l.length<=bu l:=by
 induction l with
 |nil=>exact Ri _
 |cons x r ih=>
  have e1:bu (x::r)=x.mq+bu r:=by simp[bu]
  have e2:x.mq=1+x.params.length+aU x.body:=rfl
  rw[e1,Qw];omega
theorem Gk(l:List Fd)(h:List AO)(v:AV)(I:List Nat)(k:Nat)(ho:OwnL true h [v] [fdL l] I)(nd:I.Nodup)(hk:k+bu l<=1152921504606846976):
 AC Tryz.prog G iZ [v,.p (.int .i64 k)] h (Mkd h v I (fdL (nW k l)) (.int .i64 ((k+bu l:Nat):Int))):=by
 have hll:=Cw l
 rcases ho.inv nd with⟨h0,rfl,rfl|rfl⟩|⟨h0,_⟩|⟨id,rows,J,rfl,rfl,hr⟩
 ·have hl0:l=[]:=List.map_eq_nil_iff.1 h0
  subst hl0
  refine AC.go jj ?_
  have hst:Mkd h .nils [] (fdL (nW k [])) (.int .i64 ((k+bu []:Nat):Int)) (.ret (.p (.int .i64 k))) h:=⟨rfl,.nils 3 .nil,λ_ _ _=>rfl,Qi _⟩
  simp-implicitDefEqProofs[fT]
  refine an (λ_:Unit=>ag 35 [(0,.nils),(1,.p (.int .i64 k)),(5,.p (.int .i64 0))]) (λ_=>h) (λ_=>True) (λ_=>0) () trivial (az (Qi _) (by simp[below])) ?_
  intro _ _
  simp-implicitDefEqProofs[]
  exact hst
 ·have hl0:l=[]:=List.map_eq_nil_iff.1 h0
  subst hl0
  refine AC.go jj ?_
  have hst:Mkd h (.p (.lst 3 [])) [] (fdL (nW k [])) (.int .i64 ((k+bu []:Nat):Int)) (.ret (.p (.int .i64 k))) h:=⟨rfl,.p _ (λ_=>rfl) .nil,λ_ _ _=>rfl,Qi _⟩
  simp-implicitDefEqProofs[fT]
  refine an (λ_:Unit=>ag 35 [(0,(.p (.lst 3 []))),(1,.p (.int .i64 k)),(5,.p (.int .i64 0))]) (λ_=>h) (λ_=>True) (λ_=>0) () trivial (az (Qi _) (by simp[below])) ?_
  intro _ _
  simp-implicitDefEqProofs[]
  exact hst
 ·cases h0
 rw[Qu]
 refine AC.go jj ?_
 simp-implicitDefEqProofs[fT]
 refine an (λa:FilS=>ag 35 [(0,.sl id 3 0 l.length),(1,.p (.int .i64 ((k+bu (l.take a.i):Nat):Int))),(5,.p (.int .i64 a.i))]) (λa=>a.h) (MkI h id 3 ((nW k l).map Fd.cs) (l.map Fd.cs) J) (λa=>l.length-a.i) ⟨0,h⟩ (MkI.init hr) ?_ ?_
 ·exact az (Qi _) (by simp[below,bu,hr.lt])
 rintro⟨i,hh⟩ hI
 simp-implicitDefEqProofs[]
 refine aQ (λh1=>?_) (λh1=>?_)
 ·simp at h1
  have hg:=Qd h1
  have hP:=zB h1
  have hM:=BR (Qj h1)
  have hT:=pB l (i+1)
  generalize l[i]=e at hg hP hM
  have hD:(l.map Fd.cs)[i]?=some e.cs:=by rw[Qo,hg];rfl
  have hA:((nW k l).map Fd.cs)[i]?=some (mkF (k+bu (l.take i)) e).cs:=by rw[Qo,zH l k i e hg];rfl
  obtain⟨rows',r,Ji,s1,s2,s3,s4,s5,s6,s7⟩:=hI.step hD hA
  obtain⟨A,B,I1,I2,rfl,rfl,oA,oB⟩:=Dc s3
  obtain⟨c1,c2⟩:=bf oA
  obtain⟨c3,c4⟩:=bf oB
  have q1:∀x,(hh.set id x)[id]?=some x:=λx=>QE s5
  have q2:∀x,(rows'.set i x)[i]?=some x:=λx=>QE s6
  rw[Ra] at s4
  obtain⟨hnid,n12⟩:=s4
  simp only[Qn,not_or] at hnid
  obtain⟨x1,x2⟩:=hnid
  obtain⟨n1,n2,d12⟩:=Rk.1 n12
  have hpe:e.mq=1+e.params.length+aU e.body:=rfl
  have hmt:=fv G (k+bu (l.take i)) (by omega)
  generalize hkk:k+bu (l.take i)=kk at*
  have hkI:(k:Int)+(bu (l.take i):Int)=(kk:Int):=by omega
  have w0:IntKind.i64.wrap ((kk:Int)+1)=(kk:Int)+1:=ah (by omega) (by omega)
  have e2:((kk+1:Nat):Int)=(kk:Int)+1:=by omega
  have mA:=λh1 ho=>LX G h1 A I1 e.params (kk+1) ho n1 (by omega)
  have mB:=λh1 ho=>BP G (aU e.body+1) e.body (by omega) h1 B I2 (kk+1+e.params.length) ho n2 (by omega)
  rw[e2] at mA
  simp-implicitDefEqProofs[-AV.cells,-AV.isCell,ce,aw,aJ,ca,au,c1,c2,c3,c4,s1,s2,q1,q2,hkI,w0]
  refine hmt.use ?_
  simp-implicitDefEqProofs[-AV.cells,-AV.isCell,ce,aw,aJ,ca,au,c1,c2,c3,c4,s1,s2,q1,q2,w0]
  refine⟨h1,(mA _ (oA.set_out x1 _)).mono ?_⟩
  rintro r h2 ⟨rfl,o2,f2,l2⟩
  rw[Rl] at f2 l2
  have g2:h2[id]?=some (.row 3 (rows'.set i [.p (.str (dx kk)),A,B])):=by rw[f2 id s5 x1,q1]
  simp-implicitDefEqProofs[-AV.cells,-AV.isCell,ce,aw,aJ,ca,au,c1,c2,c3,c4,aa,g2,q2]
  have oB2:OwnL true h2 [B] [smL e.body] I2:=oB.frame λj hj=>by
   have hne:id≠j:=λe=>x2 (by rw[e];exact hj)
   rw[f2 j (oB.lt hj) (λhm=>d12 j hm j hj rfl),QB hne]
  refine⟨h1,(mB _ oB2).mono ?_⟩
  rintro r h3 ⟨rfl,o3,f3,l3⟩
  have hid3:id<h3.length:=by omega
  have hwi:=w1 (i:=i) (by omega)
  have hkn:k+bu (l.take (i+1))=kk+1+e.params.length+aU e.body:=by omega
  have oA3:OwnL true h3 [A] [aB (kT (kk+1) e.params.length)] I1:=o2.frame λj hj=>by
   have:=o2.lt hj
   rw[f3 j this (λhm=>d12 j hj j hm rfl)]
  have hgo:=s7 h3 [.p (.str (dx kk)),A,B] (by rw[f3 id (by omega) x2,g2]) (λj hj hn hm=>by
   simp only[Qn,not_or] at hm
   rw[f3 j (by omega) hm.2,f2 j hj hm.1,QB (λe=>hn e.symm)]) (by
   rw[HP];exact .p _ (λ_=>rfl) (oA3.app o3)) (Fd.cs_len _) (by omega)
  simp-implicitDefEqProofs[aa]
  refine⟨⟨i+1,h3⟩,hgo,by simp only;omega,az hgo.2.2.2 ?_⟩
  simp[below,hid3,hwi]
  omega
 ·simp at h1
  have hie:i=l.length:=by have:=hI.1;simp at this;omega
  obtain⟨⟨rows2,d1⟩,d2,d3⟩:=hI.done (by simpa using h1) (by simp[rt])
  subst hie
  rw[QC]
  simp-implicitDefEqProofs[]
  refine⟨by simp,?_,d2,d3⟩
  have:=d1.tree (n:=l.length) (by simp[rt])
  exact this
theorem oS(l:List Fd)(h:List AO)(v:AV)(I:List Nat)(k:Nat)(ho:OwnL true h [v] [fdL l] I)(nd:I.Nodup)(hk:k+bu l<=1152921504606846976):
 AC Tryz.prog G dp [.agg [v],.p (.int .i64 k)] h (Mkd h v I (fdL (nW k l)) (.int .i64 ((k+bu l:Nat):Int))):=by
 obtain⟨c1,c2⟩:=bf ho
 have hm:=Gk G l (h++[.row 1 [[v]]]) v I k (ho.more _) nd hk
 refine AC.go pg ?_
 simp-implicitDefEqProofs[-AV.cells,-AV.isCell,ce,aw,aJ,ca,au,c1,c2,jE]
 refine hm.mono ?_
 rintro r h2 ⟨rfl,o2,f2,l2⟩
 simp-implicitDefEqProofs[aa]
 rw[Qq] at f2 l2
 refine⟨by simp,o2,λj hj hn=>?_,by omega⟩
 rw[f2 j (by omega) hn,Qg hj]
end
section
variable (G:aq)
theorem BK:∀(N:Nat) (l:List Ex),aK l<N->∀(k:Nat),k+3*aK l<=1152921504606846976->VF Tryz.prog G eq [.p (exL (lZ k l)),.p (.int .i64 k)] (.p (.int .i64 ((k+3*aK l:Nat):Int))):=by
 intro N
 induction N with
 |zero=>intro l hl;omega
 |succ N ih=>
  intro l hl k hk
  have hxl:∀l,exL l= .lst 4 (l.map Ex.cs):=λ_=>rfl
  have hll:=yU l
  have hlen:=rg l k
  refine AC.go rU ?_
  simp-implicitDefEqProofs[kS]
  refine an (λi:Nat=>ag 50 [(0,.p (exL (lZ k l))),(1,.p (.int .i64 ((k+3*aK (l.take i):Nat):Int))),(5,.p (.int .i64 i))]) (λ_=>[]) (λi=>i<=l.length) (λi=>l.length-i) 0 (by simp) ?_ ?_
  ·exact aE rfl (by simp[below,hxl,aK])
  intro i hi
  simp-implicitDefEqProofs[hxl,hlen]
  refine aQ (λh1=>?_) (λh1=>?_)
  ·simp at h1
   have hg0:=Qd h1
   have hP:=vt h1
   have hM:=zu (Qj h1)
   have hT:=zx l (i+1)
   generalize l[i]=e at hg0 hP hM
   have hpe:=e.parts_eq
   have hg:(lZ k l)[i]?=some (mkE (k+3*aK (l.take i)) e):=Ad l k i e hg0
   have hcs:=HZ (k+3*aK (l.take i)) e
   clear hlen
   have hh:=ih e.kids (by omega) (k+3*aK (l.take i)+3) (by omega)
   have hmt:=fv G (k+3*aK (l.take i)+2) (by omega)
   generalize hkk:k+3*aK (l.take i)=kk at*
   have hkI:(k:Int)+3*(aK (l.take i):Int)=(kk:Int):=by omega
   have w0:IntKind.i64.wrap ((kk:Int)+1)=((kk+1:Nat):Int):=by rw[ah (by omega) (by omega)];omega
   have w2:IntKind.i64.wrap (((kk+1:Nat):Int)+1)=((kk+2:Nat):Int):=by rw[ah (by omega) (by omega)];omega
   have w3:IntKind.i64.wrap (((kk+2:Nat):Int)+1)=((kk+3:Nat):Int):=by rw[ah (by omega) (by omega)];omega
   have hnn:¬((kk+3+3*aK e.kids:Nat):Int)<0:=by omega
   have hev:kk+3+3*aK e.kids=k+3*aK (l.take (i+1)):=by omega
   generalize hq:kk+3+3*aK e.kids=q at*
   generalize hk1:((kk+1:Nat):Int)=k1 at*
   generalize hk2:((kk+2:Nat):Int)=k2 at*
   generalize hk3:((kk+3:Nat):Int)=k3 at*
   rw[hxl] at hh hcs
   simp-implicitDefEqProofs[hg,hcs,hkI,w0,w2,w3]
   refine hmt.use ?_
   simp-implicitDefEqProofs[hg,hcs,w3]
   refine hh.use ?_
   simp-implicitDefEqProofs[hnn]
   refine⟨i+1,h1,by omega,aE rfl ?_⟩
   simp[below,hxl,w1 (i:=i) (by omega)]
   omega
  ·simp at h1
   have hie:i=l.length:=by omega
   subst hie
   rw[QC]
   simp-implicitDefEqProofs[]
theorem Cc:∀(N:Nat) (l:List Sm),aU l<N->∀(k:Nat),k+aU l<=1152921504606846976->VF Tryz.prog G cZ [.p (smL (kM k l)),.p (.int .i64 k)] (.p (.int .i64 ((k+aU l:Nat):Int))):=by
 intro N
 induction N with
 |zero=>intro l hl;omega
 |succ N ih=>
  intro l hl k hk
  have hxl:∀l,smL l= .lst 5 (l.map Sm.cs):=λ_=>rfl
  have hll:=Ce l
  have hlen:=rN l k
  refine AC.go sT ?_
  simp-implicitDefEqProofs[lc]
  refine an (λi:Nat=>ag 59 [(0,.p (smL (kM k l))),(1,.p (.int .i64 ((k+aU (l.take i):Nat):Int))),(5,.p (.int .i64 i))]) (λ_=>[]) (λi=>i<=l.length) (λi=>l.length-i) 0 (by simp) ?_ ?_
  ·exact aE rfl (by simp[below,hxl,aU])
  intro i hi
  simp-implicitDefEqProofs[hxl,hlen]
  refine aQ (λh1=>?_) (λh1=>?_)
  ·simp at h1
   have hg0:=Qd h1
   have hP:=yR h1
   have hM:=Cm (Qj h1)
   have hT:=rm l (i+1)
   generalize l[i]=e at hg0 hP hM
   have hpe:=e.mq_eq
   have hg:(kM k l)[i]?=some (mkS (k+aU (l.take i)) e):=zR l k i e hg0
   have hcs:=Jl (k+aU (l.take i)) e
   clear hlen
   generalize hkk:k+aU (l.take i)=kk at*
   have hA:=BK G (aK e.args+1) e.args (by omega) (kk+2) (by omega)
   have hB:=ih e.body (by omega) (kk+2+3*aK e.args) (by omega)
   have hE:=ih e.els (by omega) (kk+2+3*aK e.args+aU e.body) (by omega)
   have hmt:=fv G (kk+1) (by omega)
   have hkI:(k:Int)+(aU (l.take i):Int)=(kk:Int):=by omega
   have w0:IntKind.i64.wrap ((kk:Int)+1)=((kk+1:Nat):Int):=by rw[ah (by omega) (by omega)];omega
   have w2:IntKind.i64.wrap (((kk+1:Nat):Int)+1)=((kk+2:Nat):Int):=by rw[ah (by omega) (by omega)];omega
   have hn1:¬((kk+2+3*aK e.args:Nat):Int)<0:=by omega
   have hn2:¬((kk+2+3*aK e.args+aU e.body:Nat):Int)<0:=by omega
   have hn3:¬((kk+2+3*aK e.args+aU e.body+aU e.els:Nat):Int)<0:=by omega
   have hev:kk+2+3*aK e.args+aU e.body+aU e.els=k+aU (l.take (i+1)):=by omega
   generalize hk2:((kk+2:Nat):Int)=k2 at*
   generalize hk1:((kk+1:Nat):Int)=k1 at*
   generalize hqe:kk+2+3*aK e.args+aU e.body+aU e.els=qe at*
   generalize hqb:kk+2+3*aK e.args+aU e.body=qb at*
   generalize hqa:kk+2+3*aK e.args=qa at*
   rw[hxl] at hB hE
   simp only[hxl] at hcs
   simp-implicitDefEqProofs[hg,hcs,hkI,w0,w2]
   refine hmt.use ?_
   simp-implicitDefEqProofs[hg,hcs,w2]
   refine hA.use ?_
   simp-implicitDefEqProofs[hg,hcs,hn1]
   refine hB.use ?_
   simp-implicitDefEqProofs[hg,hcs,hn2]
   refine hE.use ?_
   simp-implicitDefEqProofs[hn3]
   refine⟨i+1,h1,by omega,aE rfl ?_⟩
   simp[below,hxl,w1 (i:=i) (by omega)]
   omega
  ·simp at h1
   have hie:i=l.length:=by omega
   subst hie
   rw[QC]
   simp-implicitDefEqProofs[]
theorem Gi(l:List Fd)(k:Nat)(hk:k+bu l<=1152921504606846976):VF Tryz.prog G jb [.p (fdL (nW k l)),.p (.int .i64 k)] (.p (.int .i64 ((k+bu l:Nat):Int))):=by
 have hxl:∀l,fdL l= .lst 3 (l.map Fd.cs):=λ_=>rfl
 have hll:=Cw l
 have hlen:=rt l k
 refine AC.go ui ?_
 simp-implicitDefEqProofs[mr]
 refine an (λi:Nat=>ag 41 [(0,.p (fdL (nW k l))),(1,.p (.int .i64 ((k+bu (l.take i):Nat):Int))),(5,.p (.int .i64 i))]) (λ_=>[]) (λi=>i<=l.length) (λi=>l.length-i) 0 (by simp) ?_ ?_
 ·exact aE rfl (by simp[below,hxl,bu])
 intro i hi
 simp-implicitDefEqProofs[hxl,hlen]
 refine aQ (λh1=>?_) (λh1=>?_)
 ·simp at h1
  have hg0:=Qd h1
  have hP:=zB h1
  have hM:=BR (Qj h1)
  have hT:=pB l (i+1)
  generalize l[i]=e at hg0 hP hM
  have hpe:e.mq=1+e.params.length+aU e.body:=rfl
  have hg:(nW k l)[i]?=some (mkF (k+bu (l.take i)) e):=zH l k i e hg0
  have hcs:=HP (k+bu (l.take i)) e
  clear hlen
  generalize hkk:k+bu (l.take i)=kk at*
  have hA:=yF G (kk+1) e.params.length (by omega)
  have hB:=Cc G (aU e.body+1) e.body (by omega) (kk+1+e.params.length) (by omega)
  have hmt:=fv G kk (by omega)
  have hkI:(k:Int)+(bu (l.take i):Int)=(kk:Int):=by omega
  have w0:IntKind.i64.wrap ((kk:Int)+1)=((kk+1:Nat):Int):=by rw[ah (by omega) (by omega)];omega
  have hn1:¬((kk+1+e.params.length:Nat):Int)<0:=by omega
  have hn2:¬((kk+1+e.params.length+aU e.body:Nat):Int)<0:=by omega
  have hev:kk+1+e.params.length+aU e.body=k+bu (l.take (i+1)):=by omega
  generalize hk1:((kk+1:Nat):Int)=k1 at*
  generalize hqb:kk+1+e.params.length+aU e.body=qb at*
  generalize hqa:kk+1+e.params.length=qa at*
  simp-implicitDefEqProofs[hg,hcs,hkI,w0]
  refine hmt.use ?_
  simp-implicitDefEqProofs[hg,hcs,w0]
  refine hA.use ?_
  simp-implicitDefEqProofs[hg,hcs,hn1]
  refine hB.use ?_
  simp-implicitDefEqProofs[hn2]
  refine⟨i+1,h1,by omega,aE rfl ?_⟩
  simp[below,hxl,w1 (i:=i) (by omega)]
  omega
 ·simp at h1
  have hie:i=l.length:=by omega
  subst hie
  rw[QC]
  simp-implicitDefEqProofs[]
theorem yM(l:List Fd)(k:Nat)(hk:k+bu l<=1152921504606846976):VF Tryz.prog G dj [.agg [.p (fdL (nW k l))],.p (.int .i64 k)] (.p (.int .i64 ((k+bu l:Nat):Int))):=by
 have hF:=Gi G l k hk
 have hn1:¬((k+bu l:Nat):Int)<0:=by omega
 generalize hqa:k+bu l=qa at*
 refine AC.go ph ?_
 simp-implicitDefEqProofs[je]
 refine hF.use ?_
 simp-implicitDefEqProofs[hn1]
end
section
mutual
theorem Ex.parts_szI:∀e:Ex,e.parts<=e.sz
 | .mk _ _ w k=>by
   have:=vG k
   rw[Ex.parts_eq,Ex.sz_eq]
   simp only[Ex.kids,Ex.name]
   omega
theorem vG:∀l:List Ex,aK l<=bZ l
 |[]=>by simp[aK]
 |e::r=>by
  have h1:=Ex.parts_szI e
  have h2:=vG r
  rw[aK,bZ]
  omega
end
mutual
theorem Sm.mq_sz:∀s:Sm,s.mq<=3*s.sz
 | .mk _ w a b e=>by
   have h1:=vG a
   have h2:=rH b
   have h3:=rH e
   rw[Sm.mq_eq,Sm.sz_eq]
   simp only[Sm.args,Sm.body,Sm.els,Sm.name]
   omega
theorem rH:∀l:List Sm,aU l<=3*aG l
 |[]=>by simp[aU]
 |s::r=>by
  have h1:=Sm.mq_sz s
  have h2:=rH r
  rw[aU,aG]
  omega
end
theorem ud:∀l:List Fd,bu l<=3*bl l
 |[]=>by simp[bu]
 |f::r=>by
  have h1:=rH f.body
  have h2:=ud r
  have e1:bl (f::r)=f.sz+bl r:=by simp[bl]
  have e2:bu (f::r)=f.mq+bu r:=by simp[bu]
  have e3:f.mq=1+f.params.length+aU f.body:=rfl
  have e4:f.sz=1+f.name.length+(f.params.length+(f.params.map List.length).sum)+aG f.body:=rfl
  omega
end
section
variable (G:aq) (hK:G iq=some gr) (hS:G dN=some [.tbl opK opV])
include hK hS
theorem vv(l:List Fd)(hf:Ly l):VF Tryz.prog G fe [.agg [.p (fdL l)]] (.p (.bool true)):=by
 refine AC.go kg ?_
 have hsz':VF Tryz.prog G ep [.agg [.p (fdL l)],.p (.int .i64 1048576)] (.p (.int .i64 (bv 1048576 (bl l)))):=BM G l hf 1048576 (Qi _)
 simp-implicitDefEqProofs[eS]
 refine hsz'.use ?_
 by_cases hz:bl l<=1048576
 case neg=>
  rw[bs hz]
  simp-implicitDefEqProofs[]
 have hto:=BH G l hz
 have hnn:¬((1048576-bl l:Nat):Int)<0:=by omega
 have hrz:bl (orN (decide (aP l=0)) (jG l))<=bl l:=by
  rw[orN];split
  ·exact FC l
  ·exact Ri _
 have hot:=λh:List AO=>AC.mkLift fk (BW G l hz) (h:=h) (by simp)
 have hin:∀(h:List AO) (v:AV) (I:List Nat),OwnL true h [v] [fdL l] I->AC Tryz.prog G bN [.agg [v]] h (Mk (Iy (decide (aP l=0))) true [fdL (orN (decide (aP l=0)) (jG l))] h):=λh v I ho=>AC.mkLend (Bl _) (re G hK hS l (by omega)) (.agg ho.views .nil)
 have hpu:VF Tryz.prog G bN [.agg [.p (fdL l)]] (.tup [.agg [.p (fdL (orN (decide (aP l=0)) (jG l)))],.p (.bool (decide (aP l=0)))]):=AC.mkFreeze (Bl _) (re G hK hS l (by omega))
 have hsR:=An G l (by omega)
 have hQ:=ud l
 have hQr:=ud (orN (decide (aP l=0)) (jG l))
 have heq:=to G (orN (decide (aP l=0)) (jG l)) (by omega)
 have hmr:=λh v I=>oS G (orN (decide (aP l=0)) (jG l)) h v I 1
 have hhr:=yM G (orN (decide (aP l=0)) (jG l)) 1 (by omega)
 generalize orN (decide (aP l=0)) (jG l)=rp at*
 generalize decide (aP l=0)=ok at*
 rw[dC hz]
 simp-implicitDefEqProofs[hnn]
 refine hto.use ?_
 simp-implicitDefEqProofs[]
 refine hsR.use ?_
 simp-implicitDefEqProofs[]
 refine(hot _).mono ?_
 rintro x h2 ⟨vs,I,os,rfl,e2,ho,nd,hf⟩
 obtain⟨v,rfl⟩:=aL ho
 obtain⟨c1,c2⟩:=bf ho
 simp-implicitDefEqProofs[-AV.cells,-AV.isCell,ce,aw,aJ,ca,au,c1,c2,aa]
 refine(hin _ v I (ho.more _)).mono ?_
 rintro x h3 ⟨vs6,I6,os6,rfl,e3,ho6,nd6,hf6⟩
 obtain⟨v6,rfl⟩:=aL ho6
 obtain⟨c3,c4⟩:=bf ho6
 have hb0:h3[0]?=some (.row 1 [[.p (fdL l)]]):=by rw[e3,e2];rfl
 have hb4:h3[1]?=some (.row 1 [[.p (fdL rp)]]):=by rw[e3,e2];rfl
 have hb5:h3[h2.length]?=some (.row 1 [[v]]):=by rw[e3];simp
 have ho3:OwnL true h3 [v] [fdL l] I:=by rw[e3];exact(ho.more _).more _
 have hlen3:h2.length<h3.length:=(Qf.1 hb5).1
 have hI1:∀i∈I,2<=i:=λi hi=>hf i hi
 have h6:∀i∈I6,h2.length<i:=λi hi=>by have:=hf6 i hi;simp at this;omega
 have hnil:1<h2.length:=by rw[e2];simp
 have hg0:∀t,(h3++t)[0]?=some (.row 1 [[.p (fdL l)]]):=λt=>by rw[Qg (by omega)];exact hb0
 have hg4:∀t,(h3++t)[1]?=some (.row 1 [[.p (fdL rp)]]):=λt=>by rw[Qg (by omega)];exact hb4
 have hg5:∀t,(h3++t)[h2.length]?=some (.row 1 [[v]]):=λt=>by rw[Qg (by omega)];exact hb5
 have hdl:=λh v6 I6 (ho6:OwnL true h [v6] [fdL rp] I6)=>heq.lend (h:=h) (args:=[.agg [v6],.agg [.p (fdL rp)]]) (.agg ho6.views (.keep (by simp[below]) .nil)) rfl
 simp-implicitDefEqProofs[-AV.cells,-AV.isCell,ce,aw,aJ,ca,au,c1,c2,c3,c4,aa,Iy,hg0,hg4,hg5]
 have hG0:=hg0 [.row 1 [[v6]]]
 have hG4:=hg4 [.row 1 [[v6]]]
 have hG5:=hg5 [.row 1 [[v6]]]
 have hG7:(h3++[AO.row 1 [[v6]]])[h3.length]?=some (.row 1 [[v6]]):=by simp
 have ho3':=ho3.more [.row 1 [[v6]]]
 have ho6':=ho6.more [.row 1 [[v6]]]
 have h6':∀i∈I6,h2.length<i/\i<h3.length:=λi hi=>⟨h6 i hi,ho6.lt hi⟩
 have hI2:∀i∈I,i<h2.length:=λi hi=>ho.lt hi
 generalize hn3:h3.length=n3 at*
 generalize hn2:h2.length=n2 at*
 generalize h3++[AO.row 1 [[v6]]]=h4 at*
 clear hg0 hg4 hg5 hb0 hb4 hb5 ho3 ho6 ho e3 hf6 h6
 refine(hdl _ v6 I6 ho6').mono ?_
 rintro x h5 ⟨rfl,rfl⟩
 simp-implicitDefEqProofs[aa,hG0,hG4,hG5,hG7]
 refine hto.use ?_
 simp-implicitDefEqProofs[aa,hG0,hG4,hG5,hG7]
 have hep:=λh v I (ho:OwnL true h [v] [fdL l] I)=>(to G l hz).lend (h:=h) (args:=[.agg [v],.agg [.p (fdL l)]]) (.agg ho.views (.keep (by simp[below]) .nil)) rfl
 refine(hep _ v I ho3').mono ?_
 rintro x h5 ⟨rfl,rfl⟩
 simp-implicitDefEqProofs[aa,hG0,hG4,hG5,hG7]
 refine(oS G l _ v I 1 ho3' nd (by omega)).mono ?_
 rintro x h6 ⟨rfl,o7,f7,l7⟩
 have hnn7:¬(1:Int)+(bu l:Int)<0:=by omega
 have hL4:n3<h5.length:=(Qf.1 hG7).1
 have fG0:h6[0]?=some (.row 1 [[.p (fdL l)]]):=by rw[f7 _ (by omega) λhm=>by have:=hI1 _ hm;omega,hG0]
 have fG4:h6[1]?=some (.row 1 [[.p (fdL rp)]]):=by rw[f7 _ (by omega) λhm=>by have:=hI1 _ hm;omega,hG4]
 have fG7:h6[n3]?=some (.row 1 [[v6]]):=by rw[f7 _ hL4 λhm=>by have:=hI2 _ hm;omega,hG7]
 have fo6:OwnL true h6 [v6] [fdL rp] I6:=ho6'.frame λi hi=>f7 i (ho6'.lt hi) λhm=>by have:=h6' i hi;have:=hI2 i hm;omega
 clear hG0 hG4 hG5 hG7
 simp-implicitDefEqProofs[aa,fG0,fG4,fG7,hnn7]
 refine(hdl _ v6 I6 fo6).mono ?_
 rintro x h7 ⟨rfl,rfl⟩
 simp-implicitDefEqProofs[aa,fG0,fG4,fG7,hnn7]
 refine(hmr _ v6 I6 fo6 nd6 (by omega)).mono ?_
 rintro x h8 ⟨rfl,o8,f8,l8⟩
 have hL7:n3<h7.length:=(Qf.1 fG7).1
 have gG0:h8[0]?=some (.row 1 [[.p (fdL l)]]):=by rw[f8 _ (by omega) λhm=>by have:=h6' _ hm;omega,fG0]
 have gG4:h8[1]?=some (.row 1 [[.p (fdL rp)]]):=by rw[f8 _ (by omega) λhm=>by have:=h6' _ hm;omega,fG4]
 have gG7:h8[n3]?=some (.row 1 [[v6]]):=by rw[f8 _ hL7 λhm=>by have:=h6' _ hm;omega,fG7]
 clear fG0 fG4 fG7
 have hhe:=λh v6 I6 (ho6:OwnL true h [v6] [fdL (nW 1 rp)] I6)=>hhr.lend (h:=h) (args:=[.agg [v6],.p (.int .i64 1)]) (.agg ho6.views (.keep (by simp[below]) .nil)) rfl
 have hnn9:¬(1:Int)+(bu rp:Int)<0:=by omega
 simp-implicitDefEqProofs[aa,gG0,gG4,gG7]
 refine(hhe _ v6 I6 o8).mono ?_
 rintro x h9 ⟨rfl,rfl⟩
 simp-implicitDefEqProofs[aa,gG0,gG4,gG7,hnn9]
 refine hto.use ?_
 simp-implicitDefEqProofs[aa,gG0,gG4,gG7]
 refine hpu.use ?_
 have kG4:(h9++[AO.row 1 [[.p (fdL rp)]]])[1]?=some (.row 1 [[.p (fdL rp)]]):=by rw[Qg (by omega)];exact gG4
 have kG7:(h9++[AO.row 1 [[.p (fdL rp)]]])[n3]?=some (.row 1 [[v6]]):=by rw[Qg (by omega)];exact gG7
 have kG9:(h9++[AO.row 1 [[.p (fdL rp)]]])[h9.length]?=some (.row 1 [[.p (fdL rp)]]):=by simp
 have ko:=o8.more [AO.row 1 [[.p (fdL rp)]]]
 simp-implicitDefEqProofs[aa,gG0,gG4,gG7,kG4,kG7,kG9]
 refine heq.use ?_
 simp-implicitDefEqProofs[aa,kG4,kG7,kG9]
 refine(hhe _ v6 I6 ko).mono ?_
 rintro x h10 ⟨rfl,rfl⟩
 simp-implicitDefEqProofs[aa,kG4,kG7,kG9,hnn9]
end
end Go.Proofs.YthfklclcofcpiaaGreatDoor
namespace Go.Proofs.YthfklclcofcpiaaGreatDoor
open Go Go.Aw Go.ChangeShapes Go.WideShapes Go.ChangeAt Go.RowKit
set_option maxRecDepth 100000
abbrev Ih:TypeId:=24
abbrev Ln:TypeId:=22
abbrev KK:TypeId:=55
abbrev DB:TypeId:=52
abbrev zg:TypeId:=9
abbrev pV:TypeId:=53
abbrev jD:TypeId:=97
abbrev tS:TypeId:=95
abbrev mj:TypeId:=142
abbrev Bm:TypeId:=3
abbrev Mi:TypeId:=4
abbrev Dw:TypeId:=130
abbrev IF:TypeId:=154
abbrev Kc:TypeId:=155
theorem Nt:Kids Tryz.prog (· <Tryz.prog.types.size):=kids_rows (by kernel_rfl) (by kernel_rfl)
theorem NM:∀t e,t<Tryz.prog.types.size->Tryz.prog.underlying t=some (.slice e)->0<Tryz.prog.cellsOf e:=slices_full_of Tryz.prog (by kernel_rfl)
def Gs:List TypeId:=[Ih,Ln,KK,DB,zg,pV,jD,tS,mj,Bm,Mi,Dw,IF]
theorem Df:Plain Tryz.prog Gs=true:=by kernel_rfl
theorem Pb:ownKnob Tryz.prog.godebug=none:=by kernel_rfl
theorem vY{H:Type}:∀l:List (DataW H),Rows.uptoBulkAll l=(l.map Rows.uptoBulk).sum
 |[]=>by simp[Rows.uptoBulkAll]
 |d::r=>by simp[Rows.uptoBulkAll,vY r]
theorem Kn{H:Type}:BulkOk (Rows.uptoBulk (H:=H)) where
 lit:=λl=>by cases l<;>simp[Rows.uptoBulk]
 str:=λs=>by simp[Rows.uptoBulk]
 nil:=by simp[Rows.uptoBulk]
 slice:=λes sp=>by simp only[Rows.uptoBulk,vY];omega
 agg:=λps=>by simp only[Rows.uptoBulk,vY];omega
theorem ja{t e:TypeId}{vs:List PV}(h:Conf Tryz.prog t vs)(hu:Tryz.prog.underlying t=some (.slice e)):∃es,vs=[.lst (Tryz.prog.cellsOf e) es]/\es.length<=9223372036854775807/\∀x∈es,Conf Tryz.prog e x:=by
 cases h with
 |sl es e' hl hs=>rw[hu] at e';cases e';exact⟨es,rfl,hl,hs⟩
 |bool b e=>rw[e] at hu;cases hu
 |int n e=>rw[e] at hu;cases hu
 |str s e=>rw[e] at hu;cases hu
 |st vs e=>rw[e] at hu;cases hu
 |arr vs e=>rw[e] at hu;cases hu
theorem EN{vs:List PV}(h:Conf Tryz.prog DB vs):∃l:List (List UInt8),vs=[aB l]/\l.length<=9223372036854775807/\∀x∈l,x.length<=9223372036854775807:=by
 obtain⟨es,rfl,hl,h4⟩:=ja h (e:=zg) (by kernel_rfl)
 have hk:∀x∈es,∃s:List UInt8,x=[PV.str s]/\s.length<=maxLen:=λx hx=>rB (h4 x hx) (by kernel_rfl)
 obtain⟨l,rfl⟩:=EG (λs:List UInt8=>[PV.str s]) (λx hx=>by obtain⟨n,e,_⟩:=hk x hx;exact⟨n,e⟩)
 rw[show Tryz.prog.cellsOf zg=1 by kernel_rfl]
 refine⟨l,rfl,by rwa[Qu] at hl,λs hs=>?_⟩
 obtain⟨m,e,hw⟩:=hk [PV.str s] (Qx.2 ⟨s,hs,rfl⟩)
 cases e
 exact hw
theorem jq{α β:Type}(g:β->α)(p:β->Prop):∀{es:List α},(∀x∈es,∃m,x=g m/\p m)->∃ms:List β,es=ms.map g/\∀m∈ms,p m
 |[],_=>⟨[],rfl,λm hm=>by cases hm⟩
 |e::r,h=>by
  obtain⟨m,hm,hp⟩:=h e (by simp)
  obtain⟨ms,hms,hps⟩:=jq g p (es:=r) λx hx=>h x (by simp[hx])
  exact⟨m::ms,by simp[hm,hms],λx hx=>by
   rcases QH.1 hx with rfl|hx
   ·exact hp
   ·exact hps x hx⟩
theorem sr:∀{l:List Ex},(∀e∈l,e.fit)->lB l
 |[],_=>trivial
 |e::r,h=>⟨h e (by simp),sr λx hx=>h x (by simp[hx])⟩
theorem nq:∀{l:List Sm},(∀e∈l,e.fit)->jC l
 |[],_=>trivial
 |e::r,h=>⟨h e (by simp),nq λx hx=>h x (by simp[hx])⟩
theorem vK{x:List PV}{es:List (List PV)}(h:x∈es)(sz:Nat):SizeOf.sizeOf x<SizeOf.sizeOf [PV.lst sz es]:=by
 have:=List.sizeOf_lt_of_mem h
 simp
 omega
theorem KL:∀(n:Nat) (vs:List PV),SizeOf.sizeOf vs<n->Conf Tryz.prog mj vs->∃e:Ex,vs=e.cs/\e.fit:=by
 intro n
 induction n with
 |zero=>intro vs h;omega
 |succ n ih=>
  intro vs hn h
  have h:=tQ (ts:=[Bm,Bm,zg,tS]) h (by kernel_rfl)
  obtain⟨a,r,rfl,h1,h⟩:=bB h
  obtain⟨b,r,rfl,h2,h⟩:=bB h
  obtain⟨c,r,rfl,h3,h⟩:=bB h
  obtain⟨d,r,rfl,h4,h⟩:=bB h
  cases nF h
  obtain⟨n1,rfl,_⟩:=vh h1 (k:= .i64) (by kernel_rfl)
  obtain⟨n2,rfl,_⟩:=vh h2 (k:= .i64) (by kernel_rfl)
  obtain⟨s,rfl,l3⟩:=rB h3 (by kernel_rfl)
  obtain⟨es,rfl,l4,h5⟩:=ja h4 (e:=mj) (by kernel_rfl)
  have hs1:SizeOf.sizeOf [PV.lst (Tryz.prog.cellsOf mj) es]<n+1:=by simp at hn⊢;omega
  obtain⟨l,rfl,hl⟩:=jq Ex.cs Ex.fit (λx hx=>ih x (by have:=vK hx (Tryz.prog.cellsOf mj);omega) (h5 x hx))
  refine⟨⟨n1,n2,s,l⟩,?_,?_⟩
  ·rw[show Tryz.prog.cellsOf mj=4 by kernel_rfl,Ex.cs_eq];rfl
  ·exact⟨l3,by rwa[Qu] at l4,sr hl⟩
theorem GI{vs:List PV}(h:Conf Tryz.prog tS vs):∃l:List Ex,vs=[exL l]/\l.length<=BL/\lB l:=by
 obtain⟨es,rfl,l4,h5⟩:=ja h (e:=mj) (by kernel_rfl)
 obtain⟨l,rfl,hl⟩:=jq Ex.cs Ex.fit (λx hx=>KL _ x (Nat.lt_succ_self _) (h5 x hx))
 rw[show Tryz.prog.cellsOf mj=4 by kernel_rfl]
 exact⟨l,rfl,by rwa[Qu] at l4,sr hl⟩
theorem Jy:∀(n:Nat) (vs:List PV),SizeOf.sizeOf vs<n->Conf Tryz.prog jD vs->∃e:Sm,vs=e.cs/\e.fit:=by
 intro n
 induction n with
 |zero=>intro vs h;omega
 |succ n ih=>
  intro vs hn h
  have h:=tQ (ts:=[Bm,zg,tS,pV,pV]) h (by kernel_rfl)
  obtain⟨a,r,rfl,h1,h⟩:=bB h
  obtain⟨b,r,rfl,h2,h⟩:=bB h
  obtain⟨c,r,rfl,h3,h⟩:=bB h
  obtain⟨d,r,rfl,h4,h⟩:=bB h
  obtain⟨d',r,rfl,h4',h⟩:=bB h
  cases nF h
  obtain⟨n1,rfl,_⟩:=vh h1 (k:= .i64) (by kernel_rfl)
  obtain⟨s,rfl,l3⟩:=rB h2 (by kernel_rfl)
  obtain⟨ar,rfl,la,fa⟩:=GI h3
  obtain⟨es,rfl,l4,h5⟩:=ja h4 (e:=jD) (by kernel_rfl)
  obtain⟨es',rfl,l4',h5'⟩:=ja h4' (e:=jD) (by kernel_rfl)
  have hs1:SizeOf.sizeOf [PV.lst (Tryz.prog.cellsOf jD) es]<n+1:=by simp at hn⊢;omega
  have hs2:SizeOf.sizeOf [PV.lst (Tryz.prog.cellsOf jD) es']<n+1:=by simp at hn⊢;omega
  obtain⟨l,rfl,hl⟩:=jq Sm.cs Sm.fit (λx hx=>ih x (by have:=vK hx (Tryz.prog.cellsOf jD);omega) (h5 x hx))
  obtain⟨l',rfl,hl'⟩:=jq Sm.cs Sm.fit (λx hx=>ih x (by have:=vK hx (Tryz.prog.cellsOf jD);omega) (h5' x hx))
  refine⟨⟨n1,s,ar,l,l'⟩,?_,?_⟩
  ·rw[show Tryz.prog.cellsOf jD=5 by kernel_rfl,Sm.cs_eq];rfl
  ·exact⟨l3,⟨la,fa⟩,⟨by rwa[Qu] at l4,nq hl⟩,⟨by rwa[Qu] at l4',nq hl'⟩⟩
theorem Jk{vs:List PV}(h:Conf Tryz.prog pV vs):∃l:List Sm,vs=[smL l]/\l.length<=BL/\jC l:=by
 obtain⟨es,rfl,l4,h5⟩:=ja h (e:=jD) (by kernel_rfl)
 obtain⟨l,rfl,hl⟩:=jq Sm.cs Sm.fit (λx hx=>Jy _ x (Nat.lt_succ_self _) (h5 x hx))
 rw[show Tryz.prog.cellsOf jD=5 by kernel_rfl]
 exact⟨l,rfl,by rwa[Qu] at l4,nq hl⟩
theorem KV{vs:List PV}(h:Conf Tryz.prog KK vs):∃f:Fd,vs=f.cs/\f.fit:=by
 have h:=tQ (ts:=[zg,DB,pV]) h (by kernel_rfl)
 obtain⟨a,r,rfl,h1,h⟩:=bB h
 obtain⟨b,r,rfl,h2,h⟩:=bB h
 obtain⟨c,r,rfl,h3,h⟩:=bB h
 cases nF h
 obtain⟨s,rfl,l1⟩:=rB h1 (by kernel_rfl)
 obtain⟨ws,rfl,l2,w2⟩:=EN h2
 obtain⟨bd,rfl,l3,f3⟩:=Jk h3
 exact⟨⟨s,ws,bd⟩,rfl,l1,⟨l2,w2⟩,l3,f3⟩
theorem FI{vs:List PV}(h:Conf Tryz.prog Ih vs):∃l:List Fd,vs=[fdL l]/\Ly l:=by
 have h:=tQ (ts:=[Ln]) h (by kernel_rfl)
 obtain⟨a,r,rfl,h1,h⟩:=bB h
 cases nF h
 obtain⟨es,rfl,l4,h5⟩:=ja h1 (e:=KK) (by kernel_rfl)
 obtain⟨l,rfl,hl⟩:=jq Fd.cs Fd.fit (λx hx=>KV (h5 x hx))
 rw[show Tryz.prog.cellsOf KK=3 by kernel_rfl]
 exact⟨l,rfl,by rwa[Qu] at l4,hl⟩
def G0:aq:=λg=>if g=iq then some gr else if g=dN then some [.tbl opK opV] else none
theorem Ms:∀k,gF Tryz.prog (k+10) Dw (Rows.laid_loop_example_wholeway_impl_keys (H:=Unit))=gr:=λk=>by kernel_rfl
theorem Pd{W:World}{laid:List (String × DataW Unit)}(hL:laidMet Tryz.prog laid W)(h1:("loop.example/wholeway/impl.keys",Rows.laid_loop_example_wholeway_impl_keys)∈laid)(h2:("loop.example/wholeway/impl.opSign",Rows.laid_loop_example_wholeway_impl_opSign)∈laid):
 ∀g cs,G0 g=some cs->g<W.heap.size/\∀(j:Nat) (c:PV),cs[j]?=some c->∃v,W.cell? ⟨g,j,none⟩=some v/\PRel W (· <W.heap.size) c v:=by
 intro g cs h
 unfold G0 at h
 split at h
 ·rename_i e;subst e;cases h
  exact FR Df hL (n:= "loop.example/wholeway/impl.keys") (d:=Rows.laid_loop_example_wholeway_impl_keys) (t:=Dw) h1 (by kernel_rfl) (by kernel_rfl) (by decide) Ms
 ·split at h
  ·rename_i e;subst e;cases h
   exact IY Df hL (n:= "loop.example/wholeway/impl.opSign") h2 (t:=Kc) (k:=Bm) (e:=IF) (by kernel_rfl) (by kernel_rfl) (by kernel_rfl) (.inl ⟨.i64,by kernel_rfl⟩) (by decide) (by kernel_rfl) (by kernel_rfl) (λm=>by kernel_rfl)
  ·cases h
end Go.Proofs.YthfklclcofcpiaaGreatDoor
