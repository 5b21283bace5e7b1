/-
  Contracts and lemmas that the card needs, part 6.
-/
import Derived.Test.YtokiapglmedipaaGreatDoorRn5
import Derived.Lib.SlicesCompact
namespace Go.Proofs.YtokiapglmedipaaGreatDoor
open Go Go.Aw
set_option maxRecDepth 100000
set_option maxHeartbeats 4000000
section
theorem sg:AK.whole fS=FK.ak fQ:=rfl
variable (G:aq)
theorem Db{f:FuncId}{args:List AV}{nf:Bool}{fns:List Fd}{k:Nat}{w w':WS}{v:AV}(H:AC Tryz.prog G f args (HWk nf fns k w) λx h=>x= .ret v/\h=HWk nf fns k w')(rest:List AO)(ha:aj 2 args):
 AC Tryz.prog G f args (wO 1 nf fns k w::roC nf w.vs::rest) λx h=>x= .ret v/\h=wO 1 nf fns k w'::roC nf w'.vs::rest:=by
 refine(AC.pre H rest ha (yy _ _ _ _) ?_).mono ?_
 ·rintro x h ⟨_,rfl⟩;rfl
 ·rintro x h ⟨h1,⟨rfl,rfl⟩,rfl⟩
  exact⟨rfl,rfl⟩
theorem sG{n id:Nat}(hn:id<n){nf nf':Bool}{fns:List Fd}{k:Nat}{w:WS}{vs:List LV}{l:List AO}(r:∀o∈l,okO n o):∀o∈wO id nf fns k w::roC nf' vs::l,okO n o:=an (vh hn) (an (ga _ _ _) r)
theorem zG{ρ π:List Nat}{h r1:List AO}{i id:Nat}{nf:Bool}{fns:List Fd}{k:Nat}{w:WS}(hid:id<ρ.length)(e:h[i]?=some (wO (ρ.getD id 0) nf fns k w))(hr:HW ρ h π r1):HW ρ h (i::π) (wO id nf fns k w::r1):=by
 refine vY (es:=[wC id nf fns k w]) (λx hx=>?_) ?_ hr
 ·rw[Up.1 hx];exact Ad hid
 ·rw[e,UA,List.map_nil,CL];rfl
theorem Ja{α:Type}{l:List α}{i j:Nat}{a b:α}(hij:i≠j)(h:l[j]?=some b):(l.set i a).set j b=l.set i a:=by
 apply List.ext_getElem?
 intro n
 rw[List.getElem?_set]
 split
 ·rename_i e
  subst e
  rw[Uc hij,h]
  rw[if_pos (by rw[UI];exact(Ua.1 h).1)]
 ·rfl
theorem CM(ρ:List Nat):∀l:List AV,aj 0 l->TW ρ l l
 |[],_=>by simp
 |v::r,h=>by
  rw[BW]
  refine⟨.inr ⟨(bD (Vf _) [v] ⟨h.1,trivial⟩).1,?_⟩,CM ρ r h.2⟩
  have:=jJ ρ [v] ⟨h.1,trivial⟩
  simpa[bY] using this
theorem RC{h:List AO}{wid id:Nat}{nf:Bool}{fns:List Fd}{k:Nat}{w:WS}(e0:h[wid]?=some (wO id nf fns k w))(e1:h[id]?=some (roC nf w.vs)):HW [wid,id] h [wid,id] (HWk nf fns k w):=by
 refine vY (es:=[wC 1 nf fns k w]) (λx hx=>?_) ?_ ?_
 ·rw[Up.1 hx];exact Ad (by simp)
 ·rw[e0,UA,List.map_nil,CL];rfl
 ·exact vv e1 (ga _ _ _) dA
theorem Po{f:FuncId}{args:List AV}{nf:Bool}{fns:List Fd}{k:Nat}{w:WS}{v:AV}{c:Int}(H:AC Tryz.prog G f (.ptr 0 5 0 0::args) (HWk nf fns k w) λx h=>x= .ret v/\h=HWk nf fns k ⟨w.vs,w.count,c⟩)(ha:aj 0 args)(hv:below 0 v)
 {h:List AO}{wid id:Nat}(hid:wid≠id)(e0:h[wid]?=some (wO id nf fns k w))(e1:h[id]?=some (roC nf w.vs)):
 AC Tryz.prog G f (.ptr wid 5 0 0::args) h λx h'=>x= .ret v/\h'=h.set wid (wO id nf fns k ⟨w.vs,w.count,c⟩):=by
 refine(H.frame [wid,id] (by simp[hid]) ?_ (RC e0 e1)).mono ?_
 ·rw[BW];exact⟨.inr ⟨by simp[below],rfl⟩,CM _ _ ha⟩
 ·rintro x h' ⟨x0,h0,⟨rfl,rfl⟩,_,rfl,rfl⟩
  refine⟨?_,?_⟩
  ·have:=jJ ([wid,id]++List.range' h.length ((HWk nf fns k ⟨w.vs,w.count,c⟩).length-(HWk nf fns k w).length)) [v] ⟨hv,trivial⟩
   simp only[bY] at this
   simp only[Jo]
   exact congrArg ARes.ret (List.cons.inj this).1
  ·simp only[HWk,Ur,List.length_nil,Nat.sub_self,List.range'_zero,UG,List.take_succ_cons,List.take_zero,UA,List.map_nil,List.drop_succ_cons,List.drop_zero,GE,Du,mrg]
   exact Ja hid e1
theorem Kj{f:FuncId}{args:List AV}{nf:Bool}{fns:List Fd}{k:Nat}{w:WS}{v:AV}{Q:Bool->WS->Prop}(H:AC Tryz.prog G f (.ptr 0 5 0 0::args) (HWk nf fns k w) λx h=>∃nf' w',x= .ret v/\h=[wO 2 nf' fns k w',.dead,roC nf' w'.vs]/\Q nf' w')(ha:aj 0 args)(hv:below 0 v)
 {h:List AO}{wid id:Nat}(hid:wid≠id)(e0:h[wid]?=some (wO id nf fns k w))(e1:h[id]?=some (roC nf w.vs)):
 AC Tryz.prog G f (.ptr wid 5 0 0::args) h λx h'=>∃nf' w',x= .ret v/\h'=(h.set wid (wO h.length nf' fns k w')).set id .dead++[roC nf' w'.vs]/\Q nf' w':=by
 refine(H.frame [wid,id] (by simp[hid]) ?_ (RC e0 e1)).mono ?_
 ·rw[BW];exact⟨.inr ⟨by simp[below],rfl⟩,CM _ _ ha⟩
 ·rintro x h' ⟨x0,h0,⟨nf',w',rfl,rfl,q⟩,_,rfl,rfl⟩
  refine⟨nf',w',?_,?_,q⟩
  ·have:=jJ ([wid,id]++List.range' h.length ([wO 2 nf' fns k w',.dead,roC nf' w'.vs].length-(HWk nf fns k w).length)) [v] ⟨hv,trivial⟩
   simp only[bY] at this
   simp only[Jo]
   exact congrArg ARes.ret (List.cons.inj this).1
  ·simp only[HWk,Ur,List.length_nil,List.take_succ_cons,List.take_zero,UA,List.map_nil,List.drop_succ_cons,List.drop_zero,GE,Du,mrg]
   rfl
theorem Bs(fns:List Fd)(k:Nat)(vs:List LV):∀(a b:List Ex) (c:Int),bz fns k vs (a++b) c=bz fns k vs b (bz fns k vs a c)
 |[],b,c=>rfl
 |e::r,b,c=>by rw[UN,bz,bz,Bs fns k vs r]
theorem sE(vs:List LV):∀l:List Ex,kP vs l=l.map (rnE vs)
 |[]=>rfl
 |e::r=>by rw[kP,sE vs r];rfl
theorem yt{fns:List Fd}{k:Nat}{vs:List LV}{l:List Ex}{c:Int}{i:Nat}(h:i<l.length):bz fns k vs (l.take (i+1)) c=oC fns k vs l[i] (bz fns k vs (l.take i) c):=by
 rw[ah h,Bs];rfl
theorem Be{vs:List LV}{l:List Ex}{i:Nat}(h:i<l.length):kP vs (l.take (i+1))=kP vs (l.take i)++[rnE vs l[i]]:=by
 rw[sE,sE,ah h,List.map_append];rfl
theorem sJ(vs:List LV)(l:List Ex):(kP vs l).length=l.length:=by rw[sE,Ux]
theorem Hw(l:List Ex):(exR l).length=l.length:=by simp[exR]
theorem Hg(a b:List Ex):exR (a++b)=exR a++exR b:=by simp[exR]
theorem Dk{h:List AO}{id:Nat}{l:List Ex}(e:h[id]?=some (.row 4 (exR l))):View h (.sl id 4 0 l.length) (exL l):=by
 have:=iV (h:=h) (id:=id) (sz:=4) (n:=l.length) (ls:=l.map Ex.cs) (by rw[e,exR];simp) (by simp) (λx hx=>by obtain⟨b,_,rfl⟩:=Uw.1 hx;exact b.cs_len)
 exact this
theorem Ns{fns:List Fd}{s:List UInt8}{j:Nat}(h:bL fns s=some j):j<fns.length:=by
 rw[bL,Us] at h;exact h.1
theorem ND{fns:List Fd}{k:Nat}(hf:fns.length<=1099511627776):∀(N:Nat) (e:Ex),e.sz<=N->N<=1099511627776->∀(nf:Bool) (w:WS),(nf=true->w.vs=[])->w.vs.length<=1099511627776->
 AC Tryz.prog G cr [.ptr 0 5 0 0,.agg (e.cs.map .p)] (HWk nf fns k w) λx h=>x= .ret (.agg ((rnE w.vs e).cs.map .p))/\h=HWk nf fns k ⟨w.vs,w.count,oC fns k w.vs e w.code⟩:=by
 intro N
 induction N with
 |zero=>intro e he;have:=e.sz_eq;omega
 |succ N ih=>
  intro e he hN nf w hn hl
  have hec:=e.cs_eq
  have hsz:=e.sz_eq
  have hkl:=aX e.kids
  have hre:(rnE w.vs e).cs=[.int .i64 e.op,.int .i64 e.n,.str (if e.op=2 then zS w.vs e.name else e.name),exL (kP w.vs e.kids)]:=by
   obtain⟨o,n,s,ks⟩:=e;rw[rnE,Ex.cs_eq];rfl
  have hce:oC fns k w.vs e w.code=bz fns k w.vs e.kids (js fns k w.vs e.op e.name e.kids.length w.code):=by
   obtain⟨o,n,s,ks⟩:=e;rfl
  have main:AC Tryz.prog G cr [.ptr 0 5 0 0,.agg (e.cs.map .p)] (HWk nf fns k w) λx h=>∃E1 E2,x= .ret (.agg [.p (.int .i64 e.op),.p (.int .i64 e.n),.p (.str (if e.op=2 then zS w.vs e.name else e.name)),.sl 4 4 0 e.kids.length])/\
   h=[wO 1 nf fns k ⟨w.vs,w.count,oC fns k w.vs e w.code⟩,roC nf w.vs,E1,E2,.row 4 (exR (kP w.vs e.kids))]:=by
   refine AC.goK sw sg ?_
   simp-implicitDefEqProofs[fS,fQ,HWk,hec]
   refine pT (ag 75 [(0,.ptr 0 5 0 0),(3,.ptr 2 4 0 0),(4,.ptr 3 4 0 0)]) [wO 1 nf fns k ⟨w.vs,w.count,if e.op=2 then nN w.vs e.name w.code else w.code⟩,roC nf w.vs,.row 4 [[.p (.int .i64 e.op),.p (.int .i64 e.n),.p (.str (if e.op=2 then zS w.vs e.name else e.name)),.p (exL e.kids)]],.row 4 [[.p (.int .i64 0),.p (.int .i64 0),.p (.str []),.nils]]] ?_ ?_
   ·by_cases o2:e.op=2
    ·simp-implicitDefEqProofs[o2]
     refine(Db G (Lv G nf fns k w hn hl e.name) _ (by simp[below])).mono ?_
     rintro r h ⟨rfl,rfl⟩
     simp-implicitDefEqProofs[aa]
     exact ab (by simp) (sG (by simp) (by simp[okO,below])) (by simp[below])
    ·simp-implicitDefEqProofs[o2]
     exact ab (by simp) (sG (by simp) (by simp[okO,below])) (by simp[below])
   refine pT (ag 75 [(0,.ptr 0 5 0 0),(3,.ptr 2 4 0 0),(4,.ptr 3 4 0 0)]) [wO 1 nf fns k ⟨w.vs,w.count,js fns k w.vs e.op e.name e.kids.length w.code⟩,roC nf w.vs,.row 4 [[.p (.int .i64 e.op),.p (.int .i64 e.n),.p (.str (if e.op=2 then zS w.vs e.name else e.name)),.p (exL e.kids)]],.row 4 [[.p (.int .i64 0),.p (.int .i64 0),.p (.str []),.nils]]] ?_ ?_
   ·by_cases o13:e.op=13
    ·have hhd:js fns k w.vs e.op e.name e.kids.length w.code=lA fns k e.name e.kids.length w.code:=by simp[js,o13]
     rw[hhd]
     simp-implicitDefEqProofs[o13,wO,wC]
     refine(EY G fns e.name hf).use ?_
     have fin:∀c:Int,Wk 2 (ag 75 [(0,.ptr 0 5 0 0),(3,.ptr 2 4 0 0),(4,.ptr 3 4 0 0)]) [wO 1 nf fns k ⟨w.vs,w.count,c⟩,roC nf w.vs,.row 4 [[.p (.int .i64 13),.p (.int .i64 e.n),.p (.str e.name),.p (exL e.kids)]],.row 4 [[.p (.int .i64 0),.p (.int .i64 0),.p (.str []),.nils]]] (ag 75 [(0,.ptr 0 5 0 0),(3,.ptr 2 4 0 0),(4,.ptr 3 4 0 0)]) [wO 1 nf fns k ⟨w.vs,w.count,c⟩,roC nf w.vs,.row 4 [[.p (.int .i64 13),.p (.int .i64 e.n),.p (.str e.name),.p (exL e.kids)]],.row 4 [[.p (.int .i64 0),.p (.int .i64 0),.p (.str []),.nils]]]:=λc=>
      ab (by simp) (sG (by simp) (by simp[okO,below])) (by simp[below])
     cases hfa:bL fns e.name with
     |none=>
      simp-implicitDefEqProofs[ixI,lA,hfa]
      refine(Db G (pr G nf fns k w 4) _ (by simp[below])).mono ?_
      rintro r h ⟨rfl,rfl⟩
      simp-implicitDefEqProofs[aa]
      exact ab (h:=[wO 1 nf fns k ⟨w.vs,w.count,fl w.code 4⟩,roC nf w.vs,.row 4 [[.p (.int .i64 13),.p (.int .i64 e.n),.p (.str e.name),.p (exL e.kids)]],.row 4 [[.p (.int .i64 0),.p (.int .i64 0),.p (.str []),.nils]]]) (by simp) (sG (by simp) (by simp[okO,below])) (by simp[below])
     |some j=>
      have hj:=Ns hfa
      have hg:=Ub hj
      have hjn:¬(j:Int)<0:=by omega
      by_cases hkj:k<=j
      ·have hkj':(k:Int)<=(j:Int):=by omega
       simp-implicitDefEqProofs[ixI,lA,hfa,hkj,hkj',hjn]
       refine(Db G (pr G nf fns k w 4) _ (by simp[below])).mono ?_
       rintro r h ⟨rfl,rfl⟩
       simp-implicitDefEqProofs[aa]
       exact ab (h:=[wO 1 nf fns k ⟨w.vs,w.count,fl w.code 4⟩,roC nf w.vs,.row 4 [[.p (.int .i64 13),.p (.int .i64 e.n),.p (.str e.name),.p (exL e.kids)]],.row 4 [[.p (.int .i64 0),.p (.int .i64 0),.p (.str []),.nils]]]) (by simp) (sG (by simp) (by simp[okO,below])) (by simp[below])
      ·have hkj':¬(k:Int)<=(j:Int):=by omega
       have hfl:fdL fns= .lst 3 (fns.map Fd.cs):=rfl
       have hcs:fns[j].cs=[.str fns[j].name,aD fns[j].params,smL fns[j].body]:=rfl
       have hst:aD fns[j].params= .lst 1 (fns[j].params.map λw=>[.str w]):=rfl
       have hxl:∀l,exL l= .lst 4 (l.map Ex.cs):=λ_=>rfl
       have hpn:Az fns j=fns[j].params.length:=by simp[Az,hg]
       by_cases hp:fns[j].params.length=e.kids.length
       ·have hcc:lA fns k e.name e.kids.length w.code=w.code:=by simp[lA,hfa,hkj,hpn,hp]
        rw[hcc]
        simp-implicitDefEqProofs[ixI,hkj',hjn,hfl,hg,hcs,hst,hxl,hp]
        exact ab (h:=[wO 1 nf fns k w,roC nf w.vs,.row 4 [[.p (.int .i64 13),.p (.int .i64 e.n),.p (.str e.name),.p (exL e.kids)]],.row 4 [[.p (.int .i64 0),.p (.int .i64 0),.p (.str []),.nils]]]) (by simp) (sG (by simp) (by simp[okO,below])) (by simp[below])
       ·have hcc:lA fns k e.name e.kids.length w.code=fl w.code 5:=by simp[lA,hfa,hkj,hpn,hp]
        have hp':¬(fns[j].params.length:Int)=(e.kids.length:Int):=by omega
        rw[hcc]
        simp-implicitDefEqProofs[ixI,hkj',hjn,hfl,hg,hcs,hst,hxl,hp']
        refine(Db G (pr G nf fns k w 5) _ (by simp[below])).mono ?_
        rintro r h ⟨rfl,rfl⟩
        simp-implicitDefEqProofs[aa]
        exact ab (h:=[wO 1 nf fns k ⟨w.vs,w.count,fl w.code 5⟩,roC nf w.vs,.row 4 [[.p (.int .i64 13),.p (.int .i64 e.n),.p (.str e.name),.p (exL e.kids)]],.row 4 [[.p (.int .i64 0),.p (.int .i64 0),.p (.str []),.nils]]]) (by simp) (sG (by simp) (by simp[okO,below])) (by simp[below])
    ·have hhd:js fns k w.vs e.op e.name e.kids.length w.code=if e.op=2 then nN w.vs e.name w.code else w.code:=by simp[js,o13]
     rw[hhd]
     simp-implicitDefEqProofs[o13]
     exact ab (by simp) (sG (by simp) (by simp[okO,below])) (by simp[below])
   rw[hce]
   generalize js fns k w.vs e.op e.name e.kids.length w.code=c2
   generalize (if e.op=2 then zS w.vs e.name else e.name)=s1
   have hxl:exL e.kids= .lst 4 (e.kids.map Ex.cs):=rfl
   simp-implicitDefEqProofs[]
   refine az (λi:Nat=>ag 75 [(0,.ptr 0 5 0 0),(3,.ptr 2 4 0 0),(4,.ptr 3 4 0 0),(6,.sl 4 4 0 i),(7,.p (.int .i64 i))])
    (λi=>[wO 1 nf fns k ⟨w.vs,w.count,bz fns k w.vs (e.kids.take i) c2⟩,roC nf w.vs,.row 4 [[.p (.int .i64 e.op),.p (.int .i64 e.n),.p (.str s1),.p (exL e.kids)]],.row 4 [[.p (.int .i64 0),.p (.int .i64 0),.p (.str []),.nils]],.row 4 (exR (kP w.vs (e.kids.take i)))])
    (λi=>i<=e.kids.length) (λi=>e.kids.length-i) 0 (by simp) ?_ ?_
   ·exact ab (by simp) (sG (by simp) (by simp[okO,below])) (by simp[below])
   ·intro i hi
    have hrl:(exR (kP w.vs (e.kids.take i))).length=i:=by rw[Hw,sJ];simp;omega
    simp-implicitDefEqProofs[hxl]
    refine bj (λh=>?_) (λh=>?_)
    ·simp at h
     have hg:=Ub h
     have hks:=aS (Uo h)
     have hkc:=(rnE w.vs e.kids[i]).cs_eq
     simp-implicitDefEqProofs[hg]
     refine(Db G (ih e.kids[i] (by omega) (by omega) nf ⟨w.vs,w.count,bz fns k w.vs (e.kids.take i) c2⟩ hn hl) _ (by simp[below])).mono ?_
     rintro r h ⟨rfl,rfl⟩
     rw[show(rnE (WS.mk w.vs w.count (bz fns k w.vs (e.kids.take i) c2)).vs e.kids[i])=rnE w.vs e.kids[i] from rfl]
     simp-implicitDefEqProofs[aa,hkc,hrl]
     refine⟨by omega,?_⟩
     refine⟨i+1,by omega,by omega,?_⟩
     have htk:List.take i (exR (kP w.vs (e.kids.take i)))=exR (kP w.vs (e.kids.take i)):=Uq (by omega)
     rw[yt h,Be h,Hg,htk]
     refine td [0,1,2,3,6] (by simp) (by decide) (by decide) (zG (by simp) rfl (vv rfl (ga _ _ _) (bN rfl (by simp[below]) (bN rfl (by simp[below]) (bN ?_ ?_ dA))))) (by simp[below,ren,w1 (i:=i) (by omega)])
     ·have:exR [rnE w.vs e.kids[i]]=[[.p (.int .i64 (rnE w.vs e.kids[i]).op),.p (.int .i64 (rnE w.vs e.kids[i]).n),.p (.str (rnE w.vs e.kids[i]).name),.p (exL (rnE w.vs e.kids[i]).kids)]]:=by rw[exR,List.map_singleton,hkc];rfl
      rw[this];rfl
     ·intro x hx
      rcases Un.1 hx with h|h
      ·exact tj _ x h
      ·exact tj _ x h
    ·simp at h
     have hie:i=e.kids.length:=by omega
     subst hie
     simp-implicitDefEqProofs[]
  refine main.frz 2 (by simp[HWk]) (λt v h ⟨_,_,e,_⟩=>by cases e) ?_
  rintro v h ⟨E1,E2,e,rfl⟩
  cases e
  refine⟨_,HWk nf fns k ⟨w.vs,w.count,oC fns k w.vs e w.code⟩,by simp,rfl,.agg ?_ .nil,.same (vh (by omega)) (.same (ga _ _ _) (.nil _)),rfl,rfl⟩
  rw[hre]
  have hrl:=sJ w.vs e.kids
  rw[←hrl]
  exact .keep (by simp) (.keep (by simp) (.keep (by simp) (.one (Dk rfl) .nil)))
end
section
theorem pH:AK.whole fh=FK.ak fe:=rfl
theorem Dg(fns:List Fd)(k b:Nat):∀(x y:List Sm) (w:WS),bG fns k b (x++y) w=bG fns k b y (bG fns k b x w)
 |[],y,w=>rfl
 |s::r,y,w=>by rw[UN,bG,bG,Dg fns k b r]
theorem CZ(fns:List Fd)(k b:Nat):∀(x y:List Sm) (w:WS),gU fns k b (x++y) w=gU fns k b x w++gU fns k b y (bG fns k b x w)
 |[],y,w=>rfl
 |s::r,y,w=>by rw[UN,gU,gU,CZ fns k b r];rfl
theorem IF{fns:List Fd}{k b:Nat}{l:List Sm}{w:WS}{i:Nat}(h:i<l.length):bG fns k b (l.take (i+1)) w=stW fns k b l[i] (bG fns k b (l.take i) w):=by
 rw[ah h,Dg];rfl
theorem IV{fns:List Fd}{k b:Nat}{l:List Sm}{w:WS}{i:Nat}(h:i<l.length):gU fns k b (l.take (i+1)) w=gU fns k b (l.take i) w++[rnS fns k b l[i] (bG fns k b (l.take i) w)]:=by
 rw[ah h,CZ];rfl
theorem zq(fns:List Fd)(k b:Nat):∀(l:List Sm) (w:WS),(gU fns k b l w).length=l.length
 |[],w=>rfl
 |s::r,w=>by rw[gU,Ur,zq fns k b r,Ur]
theorem MO{l:List Sm}{i:Nat}(h:i<l.length):aK (l.take i)+l[i].sz<=aK l:=by
 have e:l=l.take i++l[i]::l.drop (i+1):=by rw[←UY h,UO]
 have h2:aK l=aK (l.take i)+(l[i].sz+aK (l.drop (i+1))):=by
  conv=>lhs;rw[e]
  rw[uT];rfl
 omega
def rR(fns:List Fd)(k b:Nat)(l:List Sm)(w:WS):WS:=if 0<b then(bG fns k b l w).back w.vs else bG fns k b l w
theorem FE(fns:List Fd)(k b:Nat)(l:List Sm)(w:WS):(rR fns k b l w).count=w.count+rv l:=by
 unfold rR
 split
 ·exact iw fns k l b w
 ·exact iw fns k l b w
theorem Mn{e vs:List LV}:(lvR (e++vs)).take vs.length=lvR vs:=by
 have h:lvR (e++vs)=lvR vs++lvR e:=by simp[lvR]
 rw[h,List.take_append_of_le_length (by rw[yl];exact Uf _),Uq (by rw[yl];exact Uf _)]
theorem BP(l:List Sm):rv l<=aK l:=Uv (tI l) (oZ l)
theorem Gq(nf:Bool)(id n:Nat):(vaC nf id n).isCell=true:=by cases nf<;>rfl
theorem Iw(nf:Bool)(id n:Nat):(vaC nf id n).cells=[vaC nf id n]:=by cases nf<;>rfl
attribute [simp ↓] Gq Iw
variable (G:aq)
def StP(fns:List Fd)(k b:Nat)(l:List Sm)(w:WS)(x:ARes)(h:List AO):Prop:=∃nf' w',x= .ret (.p (smL (gU fns k b l w)))/\h=[wO 2 nf' fns k w',.dead,roC nf' w'.vs]/\(nf'=true->w'.vs=[])/\w'=rR fns k b l w
structure StS where (i:Nat) (nf:Bool)
theorem KZ{fns:List Fd}{k:Nat}(hf:fns.length<=1099511627776):∀(N:Nat) (l:List Sm),aK l<N->∀(b:Nat) (nf:Bool) (w:WS),(nf=true->w.vs=[])->w.vs.length<=w.count->w.count+aK l<=1099511627776->b+aK l<=1099511627776->
 AC Tryz.prog G bZ [.ptr 0 5 0 0,.p (smL l),.p (.int .i64 b)] (HWk nf fns k w) (StP fns k b l w):=by
 intro N
 induction N with
 |zero=>
  intro l hl b nf w hn hv hc hb
  omega
 |succ N ih=>
  intro l hl b nf w hn hv hc hb
  have hll:=bp l
  refine AC.goK pO pH ?_
  have hsl:∀l,smL l= .lst 5 (l.map Sm.cs):=λ_=>rfl
  have hlen0:Fz (vaC nf 1 w.vs.length)=some (.p (.int .i64 w.vs.length)):=by
   cases nf
   ·rfl
   ·simp[vaC,hn rfl]
  simp-implicitDefEqProofs[fh,fe,HWk,wO,wC,hlen0]
  refine az (λs:StS=>ag 96 [(0,.ptr 0 5 0 0),(1,.p (smL l)),(2,.p (.int .i64 b)),(7,.sl 2 5 0 s.i),(8,.p (.int .i64 w.vs.length)),(9,.p (.int .i64 s.i))])
   (λs=>[wO 3 s.nf fns k (bG fns k b (l.take s.i) w),.dead,.row 5 (smR (gU fns k b (l.take s.i) w)),roC s.nf (bG fns k b (l.take s.i) w).vs])
   (λs=>s.i<=l.length/\(s.nf=true->(bG fns k b (l.take s.i) w).vs=[])) (λs=>l.length-s.i) ⟨0,nf⟩ ⟨by simp,hn⟩ ?_ ?_
  ·refine Hb [0,1,2,1] (by simp) (by decide) ?_ (zG (by simp) rfl (iP (by simp) (bN rfl (by simp[smR,gU]) (vv rfl (ga _ _ _) dA)))) (by simp[below,ren])
   cases nf<;>simp[jx,roC,wO,bG]
  ·rintro⟨i,nf⟩ ⟨hi,hn⟩
   simp only at hi hn
   simp-implicitDefEqProofs[hsl]
   refine bj (λh=>?_) (λh=>?_)
   ·simp at h
    have hg:=Ub h
    have hat:=MO h
    have hse:=l[i].cs_eq
    have hsz:=l[i].sz_eq
    have hle:=GI fns k (l:=l.take i) (b:=b) hv
    have hcn:=iw fns k (l.take i) b w
    have hlz:=BP (l.take i)
    have eW:=IF (fns:=fns) (k:=k) (b:=b) (w:=w) h
    have eR:=IV (fns:=fns) (k:=k) (b:=b) (w:=w) h
    have hol:=zq fns k b (l.take i) w
    rw[UD,Nat.min_eq_left hi] at hol
    generalize l[i]=s at hg hat hse hsz eW eR
    generalize bG fns k b (l.take i) w=wi at hn hle hcn eW eR⊢
    generalize gU fns k b (l.take i) w=out at hol eR⊢
    obtain⟨o,nme,a,bd,el⟩:=s
    simp only[Sm.op,Sm.name,Sm.args,Sm.body,Sm.els] at hse hsz
    simp-implicitDefEqProofs[hg,hse]
    have hxl:∀l,exL l= .lst 4 (l.map Ex.cs):=λ_=>rfl
    have hal:=aX a
    have hlE:=BP bd
    have hwl:wi.vs.length<=1099511627776:=by omega
    have hopR:∀(x y z u v:AV),aj 0 [x,y,z,u,v]->okO 5 (AO.row 5 [[x,y,z,u,v]]):=λx y z u v hh=>iz (λe he=>by rw[Up.1 he];exact hh)
    refine az (λj:Nat=>ag 96 [(0,.ptr 0 5 0 0),(1,.p (smL l)),(2,.p (.int .i64 b)),(7,.sl 2 5 0 i),(8,.p (.int .i64 w.vs.length)),(9,.p (.int .i64 i)),(10,.ptr 4 5 0 0),(11,.sl 5 4 0 j),(12,.p (.int .i64 j))])
     (λj=>[wO 3 nf fns k ⟨wi.vs,wi.count,bz fns k wi.vs (a.take j) wi.code⟩,.dead,.row 5 (smR out),roC nf wi.vs,.row 5 [[.p (.int .i64 o),.p (.str nme),.p (exL a),.p (smL bd),.p (smL el)]],.row 4 (exR (kP wi.vs (a.take j)))])
     (λj=>j<=a.length) (λj=>a.length-j) 0 (by simp) ?_ ?_
    ·refine ab (h:=[wO 3 nf fns k wi,.dead,.row 5 (smR out),roC nf wi.vs,.row 5 [[.p (.int .i64 o),.p (.str nme),.p (exL a),.p (smL bd),.p (smL el)]],.row 4 []]) (by simp) (an (vh (by simp)) (an trivial (an (iz (kz out)) (an (ga _ _ _) (by simp[okO,below]))))) (by simp[below,hsl])
    intro j hj
    have hrl:(exR (kP wi.vs (a.take j))).length=j:=by rw[Hw,sJ];simp;omega
    simp-implicitDefEqProofs[hxl]
    refine bj (λhc=>?_) (λhc=>?_)
    ·simp at hc
     have hga:=Ub hc
     have hks:=aS (Uo hc)
     have hkc:=(rnE wi.vs a[j]).cs_eq
     simp-implicitDefEqProofs[hga]
     refine(Po G (id:=3) (ND G hf (a[j].sz) a[j] (Uf _) (by omega) nf ⟨wi.vs,wi.count,bz fns k wi.vs (a.take j) wi.code⟩ hn hwl) (by simp) (by simp[below]) (by decide) rfl rfl).mono ?_
     rintro r h' ⟨rfl,rfl⟩
     rw[show(rnE (WS.mk wi.vs wi.count (bz fns k wi.vs (a.take j) wi.code)).vs a[j])=rnE wi.vs a[j] from rfl]
     simp-implicitDefEqProofs[aa,hkc,hrl]
     refine⟨by omega,j+1,by omega,by omega,?_⟩
     have htk:List.take j (exR (kP wi.vs (a.take j)))=exR (kP wi.vs (a.take j)):=Uq (by omega)
     rw[yt hc,Be hc,Hg,htk]
     refine td [0,1,2,3,4,7] (by simp) (by decide) (by decide) (zG (by simp) rfl (iP (by simp) (bN rfl (kz out) (vv rfl (ga _ _ _) (bN rfl (by simp[below]) (bN ?_ ?_ dA)))))) (by simp[below,ren,hsl,w1 (i:=j) (by omega)])
     ·have:exR [rnE wi.vs a[j]]=[[.p (.int .i64 (rnE wi.vs a[j]).op),.p (.int .i64 (rnE wi.vs a[j]).n),.p (.str (rnE wi.vs a[j]).name),.p (exL (rnE wi.vs a[j]).kids)]]:=by rw[exR,List.map_singleton,hkc];rfl
      rw[this];rfl
     ·intro x hx
      rcases Un.1 hx with h|h
      ·exact tj _ x h
      ·exact tj _ x h
    simp at hc
    have hje:j=a.length:=by omega
    subst hje
    rw[UU] at hrl⊢
    have hal2:=sJ wi.vs a
    simp-implicitDefEqProofs[]
    generalize hw1:WS.mk wi.vs wi.count (bz fns k wi.vs a wi.code)=w1
    have e1v:w1.vs=wi.vs:=by rw[←hw1]
    have e1c:w1.count=wi.count:=by rw[←hw1]
    have e1l:w1.vs.length=wi.vs.length:=by rw[e1v]
    rw[←e1v]
    refine pT (ag 96 [(0,.ptr 0 5 0 0),(1,.p (smL l)),(2,.p (.int .i64 b)),(7,.sl 2 5 0 i),(8,.p (.int .i64 w.vs.length)),(9,.p (.int .i64 i)),(10,.ptr 4 5 0 0)])
     [wO 3 nf fns k w1,.dead,.row 5 (smR out),roC nf w1.vs,.row 5 [[.p (.int .i64 o),.p (.str nme),.p (exL (kP w1.vs a)),.p (smL bd),.p (smL el)]]] ?_ ?_
    ·simp-implicitDefEqProofs[]
     refine GU 5 (by omega) (by simp) rfl (.same (vh (by omega)) (.dead (.same (iz (kz out)) (.same (ga _ _ _) (.one (.keep (by simp[below]) (.keep (by simp[below]) (.one ?_ (.keep (by simp[below]) (.keep (by simp[below]) .nil))))) (.nil _)))))) ?_
     ·rw[←e1v] at hal2
      rw[←hal2]
      exact Dk rfl
     ·refine⟨.keep (by simp[below]) .nil,.keep (by simp[below]) .nil,.keep (by simp[below]) .nil,.keep (by simp[below]) .nil,.keep (by simp[below]) .nil,.keep (by simp[below]) .nil,.keep (by simp[below]) .nil,trivial⟩
    have TT:∀(r1:List (Nat × AV)),Aw.look r1 0= .ptr 0 5 0 0->Aw.look r1 1= .p (smL l)->Aw.look r1 2= .p (.int .i64 b)->Aw.look r1 7= .sl 2 5 0 i->Aw.look r1 8= .p (.int .i64 w.vs.length)->Aw.look r1 9= .p (.int .i64 i)->Aw.look r1 10= .ptr 4 5 0 0->∀ρ:List Nat,ρ.length=5->ρ.getD 0 0=0->ρ.getD 2 0=2->ρ.getD 4 0=4->
     TWA ρ r1 [(0,.ptr 0 5 0 0),(1,.p (smL l)),(2,.p (.int .i64 b)),(7,.sl 2 5 0 i),(8,.p (.int .i64 w.vs.length)),(9,.p (.int .i64 i)),(10,.ptr 4 5 0 0)]:=by
     intro r1 a0 a1 a2 a7 a8 a9 a10 ρ hr r0 r2 r4
     simp[below,ren,hr,a0,a1,a2,a7,a8,a9,a10]
     rw[Ul,Ub (by omega)] at r0 r2 r4
     exact⟨r0,r2,r4⟩
    have hn1:nf=true->w1.vs=[]:=λh=>by rw[e1v];exact hn h
    have okB:∀(nf:Bool) (w:WS) (r:AO),okO 0 r->∀x∈[wO 3 nf fns k w,.dead,.row 5 (smR out),roC nf w.vs,r],okO 5 x:=λnf w r hr=>
     an (vh (by omega)) (an trivial (an (iz (kz out)) (an (ga _ _ _) (an (iz hr) jC))))
    refine pT (ag 96 [(0,.ptr 0 5 0 0),(1,.p (smL l)),(2,.p (.int .i64 b)),(7,.sl 2 5 0 i),(8,.p (.int .i64 w.vs.length)),(9,.p (.int .i64 i)),(10,.ptr 4 5 0 0)])
     [wO 3 (if o=1 then false else nf) fns k (if o=1 then gt w1 nme b else w1),.dead,.row 5 (smR out),roC (if o=1 then false else nf) (if o=1 then gt w1 nme b else w1).vs,.row 5 [[.p (.int .i64 o),.p (.str (if o=1 then vnm w1.count else nme)),.p (exL (kP w1.vs a)),.p (smL bd),.p (smL el)]]] ?_ ?_
    ·by_cases o1:o=1
     ·simp-implicitDefEqProofs[o1]
      refine(Kj G (id:=3) (Q:=λnf' w'=>nf'=false/\w'=gt w1 nme b) ((LQ G nf fns k w1 hn1 (by omega) (by omega) nme b).mono (by rintro x h ⟨rfl,rfl⟩;exact⟨false,_,rfl,rfl,rfl,rfl⟩)) (by simp) (by simp[below]) (by decide) rfl rfl).mono ?_
      rintro r h' ⟨nf',w',rfl,rfl,rfl,rfl⟩
      simp-implicitDefEqProofs[aa]
      refine td [0,1,2,5,4] (by simp) (by decide) (by decide) (zG (by simp) rfl (iP (by simp) (bN rfl (kz out) (vv rfl (ga _ _ _) (bN rfl (by simp[below]) dA))))) (TT _ (by simp) (by simp) (by simp) (by simp) (by simp) (by simp) (by simp) _ rfl rfl rfl rfl)
     ·simp-implicitDefEqProofs[o1]
      refine ab (by simp) (okB nf w1 _ (by simp[okO,below])) (by simp[below])
    generalize hw2:(if o=1 then gt w1 nme b else w1)=w2
    generalize hnf2:(if o=1 then false else nf)=nf2
    generalize hnm2:(if o=1 then vnm w1.count else nme)=nm2
    have hn2:nf2=true->w2.vs=[]:=by
     intro h
     by_cases o1:o=1
     ·rw[if_pos o1] at hnf2;rw[←hnf2] at h;cases h
     ·rw[if_neg o1] at hnf2 hw2;rw[←hw2];exact hn1 (by rw[hnf2];exact h)
    have h2c:w2.count=w1.count+if o=1 then 1 else 0:=by rw[←hw2];split<;>rfl
    have h2v:w2.vs.length<=w2.count:=by
     rw[←hw2];split
     ·simp[gt];omega
     ·omega
    have h2b:w2.count<=wi.count+1:=by rw[h2c,e1c];split<;>omega
    refine pT (ag 96 [(0,.ptr 0 5 0 0),(1,.p (smL l)),(2,.p (.int .i64 b)),(7,.sl 2 5 0 i),(8,.p (.int .i64 w.vs.length)),(9,.p (.int .i64 i)),(10,.ptr 4 5 0 0)])
     [wO 3 nf2 fns k (opW o nme b w1),.dead,.row 5 (smR out),roC nf2 (opW o nme b w1).vs,.row 5 [[.p (.int .i64 o),.p (.str (opN o nme w1)),.p (exL (kP w1.vs a)),.p (smL bd),.p (smL el)]]] ?_ ?_
    ·by_cases o2:o=2
     ·have o1:¬o=1:=by omega
      rw[if_neg o1] at hw2 hnm2
      subst hw2;subst hnm2
      have eo:opW o nme b w1=⟨w1.vs,w1.count,nN w1.vs nme w1.code⟩:=by rw[opW,if_neg o1,if_pos o2]
      have en:opN o nme w1=zS w1.vs nme:=by rw[opN,if_neg o1,if_pos o2]
      rw[eo,en]
      simp-implicitDefEqProofs[o2]
      refine(Po G (id:=3) (Lv G nf2 fns k w1 hn2 (by omega) nme) (by simp) (by simp[below]) (by decide) rfl rfl).mono ?_
      rintro r h' ⟨rfl,rfl⟩
      simp-implicitDefEqProofs[aa]
      refine ab (h:=[wO 3 nf2 fns k ⟨w1.vs,w1.count,nN w1.vs nme w1.code⟩,.dead,.row 5 (smR out),roC nf2 w1.vs,_]) (by simp) (okB nf2 ⟨w1.vs,w1.count,nN w1.vs nme w1.code⟩ _ (by simp[okO,below])) (by simp[below])
     ·have eo:opW o nme b w1=w2:=by rw[opW,if_neg o2,←hw2]
      have en:opN o nme w1=nm2:=by rw[opN,if_neg o2,←hnm2]
      rw[eo,en]
      simp-implicitDefEqProofs[o2]
      refine ab (by simp) (okB nf2 w2 _ (by simp[okO,below])) (by simp[below])
    have eov:(opW o nme b w1).vs=w2.vs:=by
     rw[opW,←hw2];split
     ·rfl
     ·split<;>rfl
    have eoc:(opW o nme b w1).count=w2.count:=by rw[ua,h2c]
    have hwb:IntKind.i64.wrap ((b:Int)+1)=((b+1:Nat):Int):=by rw[af (by omega) (by omega)];omega
    have hstw:stW fns k b (.mk o nme a bd el) wi=rR fns k (b+1) el (rR fns k (b+1) bd (opW o nme b w1)):=by
     rw[stW]
     simp only[hw1,rR,Nat.succ_pos,if_true]
     rfl
    have hrns:(rnS fns k b (.mk o nme a bd el) wi).cs=[.int .i64 o,.str (opN o nme w1),exL (kP w1.vs a),smL (gU fns k (b+1) bd (opW o nme b w1)),smL (gU fns k (b+1) el (rR fns k (b+1) bd (opW o nme b w1)))]:=by
     rw[rnS,Sm.cs_eq]
     simp only[hw1,rR,Nat.succ_pos,if_true,Sm.op,Sm.name,Sm.args,Sm.body,Sm.els,e1v]
     have:opN o nme wi=opN o nme w1:=by simp only[opN,e1v,e1c]
     rw[this]
    rw[hstw] at eW
    clear hstw
    generalize opW o nme b w1=w3 at eov eoc hrns eW⊢
    have hn3:nf2=true->w3.vs=[]:=λh=>by rw[eov];exact hn2 h
    have h3v:w3.vs.length<=w3.count:=by rw[eov,eoc];exact h2v
    simp-implicitDefEqProofs[hwb]
    refine(Kj G (id:=3) (ih bd (by omega) (b+1) nf2 w3 hn3 h3v (by omega) (by omega)) (by simp) (by simp[below]) (by decide) rfl rfl).mono ?_
    rintro r h' ⟨nf4,w4,rfl,rfl,hn4,hw4⟩
    rw[←hw4] at hrns eW
    have h4c:w4.count=w3.count+rv bd:=by rw[hw4];exact FE _ _ _ _ _
    have h4v:w4.vs.length<=w4.count:=by
     have:w4.vs=w3.vs:=by rw[hw4];simp[rR,WS.back]
     rw[this,h4c];omega
    simp-implicitDefEqProofs[aa,hwb]
    refine(Kj G (id:=5) (ih el (by omega) (b+1) nf4 w4 hn4 h4v (by omega) (by omega)) (by simp) (by simp[below]) (by decide) rfl rfl).mono ?_
    rintro r h' ⟨nf5,w5,rfl,rfl,hn5,hw5⟩
    rw[←hw5] at eW
    have hsl2:(smR out).length=i:=by rw[MC];exact hol
    simp-implicitDefEqProofs[aa,hsl2]
    refine⟨⟨by omega,by omega⟩,⟨i+1,nf5⟩,⟨by simp only;omega,λh=>by simp only at h⊢;rw[eW];exact hn5 h⟩,by simp only;omega,?_⟩
    simp only
    rw[eW,eR,MV]
    have htk:List.take i (smR out)=smR out:=Uq (by omega)
    rw[htk]
    have hsm1:smR [rnS fns k b (.mk o nme a bd el) wi]=[[.p (.int .i64 o),.p (.str (opN o nme w1)),.p (exL (kP w1.vs a)),.p (smL (gU fns k (b+1) bd w3)),.p (smL (gU fns k (b+1) el w4))]]:=by rw[smR,List.map_singleton,hrns];rfl
    rw[hsm1]
    refine td [0,1,8,6] (by simp) (by decide) (by decide) (zG (by simp) rfl (iP (by simp) (bN rfl (λx hx=>?_) (vv rfl (ga _ _ _) dA)))) (by simp[below,ren,hsl,show IntKind.i64.wrap ((i:Int)+1)=((i:Int)+1) from af (by omega) (by omega)])
    rcases Un.1 hx with h|h
    ·exact kz out x h
    ·rw[Up.1 h];simp
   ·simp at h
    have hie:i=l.length:=by omega
    subst hie
    rw[UU] at hn⊢
    obtain⟨ext,hext⟩:=Ea fns k l b w
    have hlen:=zq fns k b l w
    refine pT (ag 96 [(7,.p (smL (gU fns k b l w)))]) [wO 2 nf fns k (rR fns k b l w),.dead,roC nf (rR fns k b l w).vs] ?_ ?_
    ·have fin:∀(r1:List (Nat × AV)) (w':WS),w'.vs=w.vs\/w'.vs=(bG fns k b l w).vs->(Aw.look r1 7= .sl 2 5 0 l.length)->
      Wk 2 (ag 96 r1) [wO 3 nf fns k w',.dead,.row 5 (smR (gU fns k b l w)),roC nf (bG fns k b l w).vs] (ag 96 [(7,.p (smL (gU fns k b l w)))]) [wO 2 nf fns k w',.dead,roC nf w'.vs]:=by
      intro r1 w' hv' hr
      refine Wk.trans (NX (h1:=[wO 3 nf fns k w',.dead,.row 5 (smR (gU fns k b l w)),roC nf w'.vs]) ?_) (Wk.trans (td (l1:=[(7,.sl 3 5 0 l.length)]) (h1:=[wO 2 nf fns k w',.dead,roC nf w'.vs,.row 5 (smR (gU fns k b l w))]) [0,1,3,2] (by simp) (by decide) (by decide) (zG (by simp) rfl (iP (by simp) (vv rfl (ga _ _ _) (bN rfl (kz _) dA)))) (by simp[below,ren,hr]))
       (GU 3 (by omega) (by simp) rfl (.same (vh (by omega)) (.dead (.same (ga _ _ _) (.nil _)))) ?_))
      ·refine⟨.inl rfl,.inl rfl,.inl rfl,?_,trivial⟩
       rcases hv' with e|e
       ·cases nf with
        |true=>exact .inl rfl
        |false=>
         refine .inr ⟨3,lvR (bG fns k b l w).vs,w.vs.length,rfl,?_⟩
         rw[hext,Mn,e];rfl
       ·rw[e];exact .inl rfl
      ·rw[←hlen]
       exact⟨.one (KH rfl) .nil,trivial⟩
     by_cases hb0:0<b
     ·have hwe:rR fns k b l w=(bG fns k b l w).back w.vs:=if_pos hb0
      rw[hwe]
      have hll2:(bG fns k b l w).vs.length=ext.length+w.vs.length:=by rw[hext,Uu]
      cases nf with
      |true=>
       have h0:=hn rfl
       rw[h0] at hext
       have h00:w.vs=[]:=(List.append_eq_nil_iff.1 hext.symm).2
       simp-implicitDefEqProofs[hb0,wO,wC,vaC,h00]
       rw[h00] at fin
       exact fin _ ⟨[],(bG fns k b l w).count,(bG fns k b l w).code⟩ (.inl rfl) (by simp)
      |false=>
       have hle:w.vs.length<=(bG fns k b l w).vs.length:=by omega
       simp-implicitDefEqProofs[hb0,wO,wC,vaC,hle]
       exact fin _ ⟨w.vs,(bG fns k b l w).count,(bG fns k b l w).code⟩ (.inl rfl) (by simp)
     ·have hwe:rR fns k b l w=bG fns k b l w:=if_neg hb0
      have hb0':b=0:=by omega
      subst hb0'
      rw[hwe]
      simp-implicitDefEqProofs[]
      exact fin _ _ (.inr rfl) (by simp)
    ·simp-implicitDefEqProofs[]
     refine⟨nf,_,rfl,rfl,?_,rfl⟩
     intro hnf
     have h0:=hn hnf
     unfold rR
     split
     ·rw[h0] at hext;exact(List.append_eq_nil_iff.1 hext.symm).2
     ·exact h0
end
section
theorem Dr:AK.whole oz=FK.ak nY:=rfl
theorem Ei:∀(ps:List (List UInt8)) (w:WS),w.vs.length<=w.count->(bv ps w).vs.length<=(bv ps w).count
 |[],w,h=>h
 |s::r,w,h=>Ei r (gt w s 0) (by simp[gt];omega)
theorem IC(a b:List (List UInt8))(w:WS):bv (a++b) w=bv b (bv a w):=by simp[bv]
theorem FT{l:List (List UInt8)}{w:WS}{i:Nat}(h:i<l.length):bv (l.take (i+1)) w=gt (bv (l.take i) w) l[i] 0:=by
 rw[ah h,IC];rfl
theorem DL:∀(a b:List (List UInt8)) (w:WS),mV (a++b) w=mV a w++mV b (bv a w)
 |[],b,w=>rfl
 |s::r,b,w=>by rw[UN,mV,mV,DL r];rfl
theorem IU{l:List (List UInt8)}{w:WS}{i:Nat}(h:i<l.length):mV (l.take (i+1)) w=mV (l.take i) w++[vnm (bv (l.take i) w).count]:=by
 rw[ah h,DL];rfl
theorem zJ:∀(l:List (List UInt8)) (w:WS),(mV l w).length=l.length
 |[],w=>rfl
 |s::r,w=>by rw[mV,Ur,zJ r,Ur]
def w0(fns:List Fd)(k:Nat)(f:Fd):WS:=⟨[],0,if bL fns f.name=some k then 0 else 2⟩
theorem PQ(fns:List Fd)(k:Nat)(f:Fd):fnW fns k f=bG fns k 0 f.body (bv f.params (w0 fns k f)):=rfl
theorem Lm(fns:List Fd)(k:Nat)(f:Fd):(rnF fns k f).cs=[.str f.name,aD (mV f.params (w0 fns k f)),smL (gU fns k 0 f.body (bv f.params (w0 fns k f)))]:=rfl
variable (G:aq)
theorem OQ{fns:List Fd}{k:Nat}{f:Fd}(hk:fns[k]?=some f)(hz:be fns<=1073741824):VF Tryz.prog G lm [.agg [.p (fdL fns)],.p (.int .i64 k)] (.tup [.agg ((rnF fns k f).cs.map .p),.p (.int .i64 (fnW fns k f).code),.p (.int .i64 (fnW fns k f).count)]):=by
 have hfl:=eh fns
 have hfm:=cK (Uh hk)
 have hfz:f.sz=1+f.name.length+(f.params.length+(f.params.map List.length).sum)+aK f.body:=rfl
 have hkl:=(Ua.1 hk).1
 have key:AC Tryz.prog G lm [.agg [.p (fdL fns)],.p (.int .i64 k)] [] λx h=>x= .ret (.tup [.agg [.p (.str f.name),.sl 5 1 0 f.params.length,.p (smL (gU fns k 0 f.body (bv f.params (w0 fns k f))))],.p (.int .i64 (fnW fns k f).code),.p (.int .i64 (fnW fns k f).count)])/\h[5]?=some (fU (mV f.params (w0 fns k f))):=by
  refine AC.goK ED Dr ?_
  have hfd:∀l,fdL l= .lst 3 (l.map Fd.cs):=λ_=>rfl
  have hcs:f.cs=[.str f.name,aD f.params,smL f.body]:=rfl
  have hst:aD f.params= .lst 1 (f.params.map λw=>[.str w]):=rfl
  simp-implicitDefEqProofs[oz,nY]
  refine pT (ag 62 [(1,.p (.int .i64 k)),(2,.ptr 0 1 0 0),(4,.ptr 1 3 0 0),(7,.ptr 2 5 0 0),(8,.ptr 3 3 0 0)])
   [.row 1 [[.p (fdL fns)]],.row 3 [[.p (.str []),.nils,.nils]],wO 4 true fns k ⟨[],0,0⟩,.row 3 [[.p (.str f.name),.p (aD f.params),.p (smL f.body)]],.dead] ?_ ?_
  ·simp-implicitDefEqProofs[hfd,hk,hcs]
   refine EP (h:=[.row 1 [[.p (fdL fns)]],.row 3 [[.p (.str []),.nils,.nils]],wO 4 true fns k ⟨[],0,0⟩,.row 3 [[.p (.str f.name),.p (aD f.params),.p (smL f.body)]]]) (by simp) (by simp) ?_ (by simp[below])
   refine an (by simp[okO,below]) (an (by simp[okO,below]) (an ?_ (an (by simp[okO,below]) jC)))
   intro x hx
   rw[Up.1 hx];simp[wC,vaC,below]
  refine pT (ag 62 [(1,.p (.int .i64 k)),(2,.ptr 0 1 0 0),(4,.ptr 1 3 0 0),(7,.ptr 2 5 0 0),(8,.ptr 3 3 0 0)])
   [.row 1 [[.p (fdL fns)]],.row 3 [[.p (.str []),.nils,.nils]],wO 4 true fns k (w0 fns k f),.row 3 [[.p (.str f.name),.p (aD f.params),.p (smL f.body)]],.dead] ?_ ?_
  ·simp-implicitDefEqProofs[]
   refine(EY G fns f.name (by omega)).use ?_
   have hok:∀w:WS,∀o∈[AO.row 1 [[.p (fdL fns)]],.row 3 [[.p (.str []),.nils,.nils]],wO 4 true fns k w,.row 3 [[.p (.str f.name),.p (aD f.params),.p (smL f.body)]],.dead],okO 5 o:=λw=>
    an (by simp[okO,below]) (an (by simp[okO,below]) (an (vh (by simp)) (an (by simp[okO,below]) (an trivial jC))))
   by_cases he:bL fns f.name=some k
   ·have hw:w0 fns k f=⟨[],0,0⟩:=by rw[w0,if_pos he]
    rw[hw,he]
    simp-implicitDefEqProofs[ixI]
    exact ab (by simp) (hok _) (by simp[below])
   ·have hw:w0 fns k f=⟨[],0,2⟩:=by rw[w0,if_neg he]
    have hne:¬ixI (bL fns f.name)=(k:Int):=by
     intro h
     apply he
     cases e:bL fns f.name with
     |none=>rw[e] at h;simp only[ixI] at h;omega
     |some j=>rw[e] at h;simp only[ixI] at h;have:j=k:=by omega
              rw[this]
    rw[hw]
    simp-implicitDefEqProofs[hne]
    refine(Po G (wid:=2) (id:=4) (pr G true fns k ⟨[],0,0⟩ 2) (by simp) (by simp[below]) (by decide) rfl rfl).mono ?_
    rintro r h' ⟨rfl,rfl⟩
    simp-implicitDefEqProofs[aa]
    exact ab (h:=[AO.row 1 [[.p (fdL fns)]],.row 3 [[.p (.str []),.nils,.nils]],wO 4 true fns k ⟨[],0,2⟩,.row 3 [[.p (.str f.name),.p (aD f.params),.p (smL f.body)]],.dead]) (by simp) (hok _) (by simp[below])
  rw[PQ]
  have hw0v:(w0 fns k f).vs=[]:=rfl
  have hw0c:(w0 fns k f).count=0:=rfl
  generalize w0 fns k f=w0 at hw0v hw0c⊢
  simp-implicitDefEqProofs[]
  have hcnt:∀j,j<=f.params.length->(bv (f.params.take j) w0).count=j:=λj hj=>by rw[vf,hw0c];simp;omega
  have hvl:∀j,(bv (f.params.take j) w0).vs.length<=(bv (f.params.take j) w0).count:=λj=>Ei _ _ (by rw[hw0v];simp)
  refine az (λj:Nat=>ag 62 [(1,.p (.int .i64 k)),(2,.ptr 0 1 0 0),(4,.ptr 1 3 0 0),(7,.ptr 2 5 0 0),(8,.ptr 3 3 0 0),(9,.sl 5 1 0 j),(10,.p (.int .i64 j))])
   (λj=>[.row 1 [[.p (fdL fns)]],.row 3 [[.p (.str []),.nils,.nils]],wO 6 (decide (j=0)) fns k (bv (f.params.take j) w0),.row 3 [[.p (.str f.name),.p (aD f.params),.p (smL f.body)]],.dead,fU (mV (f.params.take j) w0),roC (decide (j=0)) (bv (f.params.take j) w0).vs])
   (λj=>j<=f.params.length) (λj=>f.params.length-j) 0 (by simp) ?_ ?_
  ·refine EP (h:=[.row 1 [[.p (fdL fns)]],.row 3 [[.p (.str []),.nils,.nils]],wO 6 true fns k w0,.row 3 [[.p (.str f.name),.p (aD f.params),.p (smL f.body)]],.dead,.row 1 []]) (by simp) (by simp) ?_ (by simp[below])
   refine an (by simp[okO,below]) (an (by simp[okO,below]) (an ?_ (an (by simp[okO,below]) (an trivial (an (by simp[okO]) jC)))))
   intro x hx
   rw[Up.1 hx];simp[wC,vaC,below]
  intro j hj
  have hjc:=hcnt j hj
  have hjv:=hvl j
  have hol:=zJ (f.params.take j) w0
  rw[UD,Nat.min_eq_left hj] at hol
  have hnf:decide (j=0)=true->(bv (f.params.take j) w0).vs=[]:=by
   intro h
   have h0:j=0:=by simpa using h
   rw[h0,List.take_zero]
   exact hw0v
  simp-implicitDefEqProofs[hst]
  refine bj (λh=>?_) (λh=>?_)
  ·simp at h
   have hg:=Ub h
   have eP:=FT (w:=w0) h
   have eR:=IU (w:=w0) h
   simp-implicitDefEqProofs[hg]
   refine(Kj G (wid:=2) (id:=6) (Q:=λnf' w'=>nf'=false/\w'=gt (bv (f.params.take j) w0) f.params[j] 0) ((LQ G (decide (j=0)) fns k _ hnf (by omega) (by omega) f.params[j] 0).mono (by rintro x h ⟨rfl,rfl⟩;exact⟨false,_,rfl,rfl,rfl,rfl⟩)) (by simp) (by simp[below]) (by decide) rfl rfl).mono ?_
   rintro r h' ⟨nf',w',rfl,rfl,rfl,rfl⟩
   have hso:∀l,fU l= .row 1 (l.map λn=>[.p (.str n)]):=λ_=>rfl
   simp-implicitDefEqProofs[aa,hso,hol]
   refine⟨by omega,j+1,by omega,by omega,?_⟩
   have htk:List.take j ((mV (f.params.take j) w0).map λn=>[AV.p (.str n)])=(mV (f.params.take j) w0).map λn=>[AV.p (.str n)]:=Uq (by rw[Ux];omega)
   have hd:decide (j+1=0)=false:=by simp
   rw[eP,eR,hd,List.map_append,←List.map_take,List.map_take,htk]
   refine eB [0,1,2,3,4,9,7] rfl (by decide) (bN rfl (by simp) (bN rfl (by simp[below]) (zG (by simp) rfl (bN rfl (by simp) (iP (by simp) (bN rfl (λx hx=>?_) (vv rfl (ga _ _ _) dA))))))) (by simp[below,ren,w1 (i:=j) (by omega)])
   rcases Un.1 hx with h|h
   ·exact BK _ x h
   ·exact BK _ x h
  ·simp at h
   have hje:j=f.params.length:=by omega
   subst hje
   rw[UU] at hol hjc hjv hnf⊢
   generalize decide (f.params.length=0)=nf at hnf⊢
   simp-implicitDefEqProofs[]
   refine(Kj G (wid:=2) (id:=6) (KZ G (fns:=fns) (by omega) (aK f.body+1) f.body (by omega) 0 _ (bv f.params w0) hnf hjv (by omega) (by omega)) (by simp) (by simp[below]) (by decide) rfl rfl).mono ?_
   rintro r h' ⟨nf',w',rfl,rfl,hn',hw'⟩
   have hb:rR fns k 0 f.body (bv f.params w0)=bG fns k 0 f.body (bv f.params w0):=rfl
   rw[hb] at hw'
   rw[←hw']
   simp-implicitDefEqProofs[aa,wO,wC]
 refine key.freezeR (λt v h ⟨e,_⟩=>by cases e) λv h ⟨e1,e2⟩=>?_
 cases e1
 rw[Lm]
 have hol:=zJ f.params (w0 fns k f)
 have hv:=uO e2
 rw[hol] at hv
 exact .tup (.agg (.keep (by simp) (.one hv (.keep (by simp) .nil))) (.keep (by simp) (.keep (by simp) .nil))) .nil
theorem EE{fns:List Fd}{i:Nat}(h:i<fns.length):hY fns i (fns.drop i)=if(fnW fns i fns[i]).code=0 then hY fns (i+1) (fns.drop (i+1)) else(fnW fns i fns[i]).code:=by
 rw[UY h,hY]
theorem zm(l:List Fd)(hz:be l<=1073741824):VF Tryz.prog G fc [.agg [.p (fdL l)]] (.p (.int .i64 (aP l))):=by
 refine AC.go pz ?_
 have hll:=eh l
 have hfd:∀l,fdL l= .lst 3 (l.map Fd.cs):=λ_=>rfl
 simp-implicitDefEqProofs[jy]
 refine(yM G l (by omega)).use ?_
 by_cases hv:cy l=true
 case neg=>
  have:aP l=1:=if_neg hv
  have hv':cy l=false:=by simpa using hv
  simp-implicitDefEqProofs[hv',this]
 have hc:aP l=hY l 0 (l.drop 0):=if_pos hv
 rw[hc]
 simp-implicitDefEqProofs[hv]
 refine az (λi:Nat=>ag 27 [(1,.ptr 0 1 0 0),(3,.p (.int .i64 i))]) (λ_=>[.row 1 [[.p (fdL l)]]]) (λi=>i<=l.length/\hY l 0 l=hY l i (l.drop i)) (λi=>l.length-i) 0 (by simp) (ab (by simp) (by simp[okO]) (by simp[below])) ?_
 rintro i ⟨hi,he⟩
 simp-implicitDefEqProofs[hfd]
 refine bj (λh=>?_) (λh=>?_)
 ·simp at h
  have hg:=Ub h
  have hd:=EE h
  simp-implicitDefEqProofs[]
  refine(OQ G hg hz).use ?_
  have hrc:=Lm l i l[i]
  by_cases h0:(fnW l i l[i]).code=0
  ·rw[if_pos h0] at hd
   simp-implicitDefEqProofs[h0,hrc]
   refine⟨i+1,⟨by omega,by rw[he,hd]⟩,by omega,?_⟩
   refine lH (m:=1) (by omega) (fB rfl rfl (by simp[okO,below])) (by simp[below,hfd,w1 (i:=i) (by omega)])
  ·rw[if_neg h0] at hd
   simp-implicitDefEqProofs[h0,hrc]
   rw[he,hd]
 ·simp at h
  have hie:i=l.length:=by omega
  subst hie
  rw[List.drop_length] at he
  simp-implicitDefEqProofs[]
  rw[he];rfl
end
section
variable (G:aq)
theorem kS(n lo hi:Int):VF Tryz.prog G cS [.p (.int .i64 n),.p (.int .i64 lo),.p (.int .i64 hi)] (.p (.bool (inR n lo hi))):=by
 refine AC.go Ba ?_
 by_cases h:lo<=n
 ·simp-implicitDefEqProofs[mc,h,inR]
 ·simp-implicitDefEqProofs[mc,h,inR]
theorem DT(n:Int):VF Tryz.prog G iE [.p (.int .i64 n)] (.p (.bool (inR n 0 255))):=by
 refine AC.go Av ?_
 simp-implicitDefEqProofs[rH]
 refine(kS G _ _ _).use ?_
 simp-implicitDefEqProofs[]
theorem FB(n:Int):VF Tryz.prog G cH [.p (.int .i32 n)] (.p (.bool (decide (n<97)||decide (122<n)))):=by
 refine AC.go vG ?_
 simp-implicitDefEqProofs[nw]
 by_cases h:n<97
 ·simp-implicitDefEqProofs[h]
 ·simp-implicitDefEqProofs[h]
theorem NG{s:List UInt8}{i:Nat}(h:i<s.length)(hl:dx s[i]=true):Utf8.decode ⟨⟨s⟩⟩ i=(s[i].toNat,1):=by
 simp only[dx,Ut,decide_eq_true_eq] at hl
 exact decode_ascii ⟨⟨s⟩⟩ i h (by show(s[i]).toNat<128;omega)
theorem In{s:List UInt8}{i:Nat}(h:i<s.length)(hl:¬dx s[i]=true):(((Utf8.decode ⟨⟨s⟩⟩ i).1:Int)<97\/122<((Utf8.decode ⟨⟨s⟩⟩ i).1:Int)):=by
 rcases UQ s[i].toNat 128 with h1|h1
 ·rw[show Utf8.decode ⟨⟨s⟩⟩ i=(s[i].toNat,1) from decode_ascii ⟨⟨s⟩⟩ i h h1]
  simp[dx] at hl
  simp only
  omega
 ·have:=(decode_high ⟨⟨s⟩⟩ i h h1).1
  omega
theorem DE(s:List UInt8)(hb:s.length<=140737488355328):VF Tryz.prog G fw [.p (.str s),.fn (.func cH) [],.p (.bool true)] (.p (.int .i64 (Ck s))):=by
 refine AC.go pX ?_
 simp-implicitDefEqProofs[jq]
 refine az (λi:Nat=>ag 21 [(0,.p (.str s)),(1,.fn (.func cH) []),(2,.p (.bool true)),(10,.it 0)]) (λi=>[.sit s i]) (λi=>i<=s.length/\∀x∈s.take i,dx x=true) (λi=>s.length-i) 0 (by simp) ?_ ?_
 ·exact ab (by simp) (by simp[okO]) (by simp[below,aj])
 ·intro i ⟨hi,hn⟩
  simp-implicitDefEqProofs[]
  by_cases h1:i<s.length
  ·have hg:=Ub h1
   simp-implicitDefEqProofs[h1]
   refine(FB G _).use ?_
   by_cases hl:dx s[i]=true
   ·have hd:=NG h1 hl
    have hl':=hl
    simp only[dx,Ut,decide_eq_true_eq] at hl'
    have e1:¬((s[i].toNat:Int)<97):=by omega
    have e2:¬(122<(s[i].toNat:Int)):=by omega
    rw[hd]
    simp-implicitDefEqProofs[e1,e2]
    refine⟨i+1,⟨h1,λp hp=>?_⟩,by omega,ab (by simp) (by simp[okO]) (by simp[below,aj])⟩
    rw[ah h1] at hp
    rcases Un.1 hp with hp|hp
    ·exact hn p hp
    ·rw[Up.1 hp];exact hl
   ·have hd:=In h1 hl
    have hf:Ck s=i:=by
     have:s.findIdx? (λx=> !dx x)=some i:=by
      rw[Us]
      exact⟨h1,by simpa using hl,λj hj=>by have:=hn s[j] (UZ.2 ⟨j,by omega,rfl⟩);simpa using this⟩
     rw[Ck,this]
    have hdb:(decide (((Utf8.decode ⟨⟨s⟩⟩ i).1:Int)<97)||decide (122<((Utf8.decode ⟨⟨s⟩⟩ i).1:Int)))=true:=by
     rcases hd with h|h<;>simp[h]
    rw[hdb]
    simp-implicitDefEqProofs[hf]
  ·have hn':=hn
   rw[Uq (by omega)] at hn'
   have hf:Ck s= -1:=by
    have:s.findIdx? (λx=> !dx x)=none:=by
     rw[UH];intro x hx;simpa using hn' x hx
    rw[Ck,this]
   simp-implicitDefEqProofs[h1,hf]
theorem El(s:List UInt8)(hb:s.length<=140737488355328):VF Tryz.prog G fd [.p (.str s),.fn (.func cH) []] (.p (.int .i64 (Ck s))):=by
 refine AC.go pL ?_
 simp-implicitDefEqProofs[jv]
 refine(DE G s hb).use ?_
 simp-implicitDefEqProofs[]
theorem NC(L:List (List UInt8))(s:List UInt8)(hb:L.length<=1048576):VF Tryz.prog G dV [.p (aD L),.p (.str s)] (.p (.int .i64 (idxS L s))):=by
 refine AC.go nH ?_
 have hsl:aD L= .lst 1 (L.map λw=>[.str w]):=rfl
 simp-implicitDefEqProofs[gY,hsl]
 refine az (λi:Nat=>ag 19 [(0,.p (aD L)),(1,.p (.str s)),(6,.p (aD L)),(7,.p (.int .i64 L.length)),(8,.p (.int .i64 i))]) (λ_=>[]) (λi=>i<=L.length/\∀w∈L.take i,w≠s) (λi=>L.length-i) 0 (by simp) ?_ ?_
 ·exact aG rfl (by simp[below,aD])
 ·intro i ⟨hi,hn⟩
  simp-implicitDefEqProofs[hsl]
  refine bj (λh1=>?_) (λh1=>?_)
  ·simp at h1
   have hg:=Ub h1
   by_cases he:L[i]=s
   ·have hf:idxS L s=i:=by
     have:L.findIdx? (λw=>w==s)=some i:=by
      rw[Us]
      exact⟨h1,by simpa using he,λj hj=>by have:=hn L[j] (UZ.2 ⟨j,by omega,rfl⟩);simpa using this⟩
     rw[idxS,this]
    have he':s=L[i]:=he.symm
    simp-implicitDefEqProofs[hg,hf,←he']
   ·have he':¬s=L[i]:=λe=>he e.symm
    simp-implicitDefEqProofs[hg,he']
    refine⟨i+1,⟨h1,λp hp=>?_⟩,by omega,aG rfl ?_⟩
    ·rw[ah h1] at hp
     rcases Un.1 hp with hp|hp
     ·exact hn p hp
     ·rw[Up.1 hp];exact he
    ·simp[below,aD,w1 (i:=i) (by omega)]
  ·simp at h1
   rw[Uq h1] at hn
   have hf:idxS L s= -1:=by
    have:L.findIdx? (λw=>w==s)=none:=by
     rw[UH];intro x hx;simpa using hn x hx
    rw[idxS,this]
   simp-implicitDefEqProofs[hf]
theorem FY(L:List (List UInt8))(s:List UInt8)(hb:L.length<=1048576):VF Tryz.prog G cQ [.p (aD L),.p (.str s)] (.p (.bool (L.contains s))):=by
 rw[←Kg]
 refine AC.go me ?_
 simp-implicitDefEqProofs[fD]
 refine(NC G L s hb).use ?_
 simp-implicitDefEqProofs[]
abbrev iy:Nat:=1
def gy:List PV:=keyW.map .str
variable (hK:G iy=some gy)
include hK
theorem oq(s:List UInt8)(hb:s.length<=140737488355328):VF Tryz.prog G cg [.p (.str s)] (.p (.bool (aC s))):=by
 refine AC.go AE ?_
 unfold iy at hK
 simp-implicitDefEqProofs[rb]
 refine(kS G _ _ _).use ?_
 have hr:inR (s.length:Int) 1 4=(decide (0<s.length)&&decide (s.length<=4)):=by
  unfold inR
  by_cases h1:0<s.length<;>by_cases h2:s.length<=4<;>simp[h1,h2]<;>omega
 rw[hr]
 have hi:aC s=((decide (0<s.length)&&decide (s.length<=4))&&(s.all dx&& !keyW.contains s)):=by
  rw[aC];cases s.all dx<;>cases decide (0<s.length)<;>cases decide (s.length<=4)<;>rfl
 cases h1:(decide (0<s.length)&&decide (s.length<=4)) with
 |false=>
  rw[hi,h1]
  simp-implicitDefEqProofs[]
 |true=>
  rw[hi,h1]
  simp-implicitDefEqProofs[]
  refine(El G s hb).use ?_
  rw[←Mu]
  by_cases hn:Ck s<0
  ·simp-implicitDefEqProofs[hn,hK,gy,keyW]
   refine(FY G keyW s (by decide)).use ?_
   simp-implicitDefEqProofs[keyW]
  ·simp-implicitDefEqProofs[hn]
end
section
theorem vN:AK.whole ja=FK.ak jd:=rfl
abbrev dK:Nat:=2
def opK:List PV:=[.int .i64 3,.int .i64 4,.int .i64 5,.int .i64 6,.int .i64 7,.int .i64 8,.int .i64 9,.int .i64 10]
def opV:List (List PV):=[[.str [43],.int .i64 3],[.str [45],.int .i64 3],[.str [42],.int .i64 4],[.str [47],.int .i64 4],[.str [37],.int .i64 4],[.str [60],.int .i64 2],[.str [61],.int .i64 2],[.str [38],.int .i64 1]]
def lvl(op:Int):Int:=if op=10 then 1 else if op=8 then 2 else if op=9 then 2 else if op=3 then 3 else if op=4 then 3 else 4
def sgB(op:Int):UInt8:=if op=3 then 43 else if op=4 then 45 else if op=5 then 42 else if op=6 then 47 else if op=7 then 37 else if op=8 then 60 else if op=9 then 61 else 38
def sgn(op:Int):Option AV:=if 3<=op/\op<=10 then some (.agg [.p (.str [sgB op]),.p (.int .i64 (lvl op))]) else none
theorem GZ(op:Int):(opK.all λk'=>(keq (.int .i64 op) k').isSome)=true:=by simp[opK,keq]
theorem GF(op:Int):eS (.int .i64 op) (Jh opK opV)=some (sgn op):=by
 by_cases h:3<=op/\op<=10
 ·have h8:op=3\/op=4\/op=5\/op=6\/op=7\/op=8\/op=9\/op=10:=by omega
  rcases h8 with rfl|rfl|rfl|rfl|rfl|rfl|rfl|rfl<;>rfl
 ·have e:sgn op=none:=if_neg h
  have h3:¬op=3:=by omega
  have h4:¬op=4:=by omega
  have h5:¬op=5:=by omega
  have h6:¬op=6:=by omega
  have h7:¬op=7:=by omega
  have h8:¬op=8:=by omega
  have h9:¬op=9:=by omega
  have h10:¬op=10:=by omega
  rw[e]
  simp[opK,opV,Jh,eS,keq,h3,h4,h5,h6,h7,h8,h9,h10]
theorem GB(op:Int):0<lvl op:=by
 unfold lvl
 repeat' split
 all_goals omega
theorem OU(op:Int):lvl op<6:=by
 unfold lvl
 repeat' split
 all_goals omega
def lvI(op:Int):Int:=if 3<=op/\op<=10 then lvl op else if op=11\/op=12 then 5 else 6
mutual
def Ex.deep:Ex->Nat
 | .mk _ _ _ k=>1+mM k
def mM:List Ex->Nat
 |[]=>0
 |e::r=>max e.deep (mM r)
end
theorem Ex.deep_eq(e:Ex):e.deep=1+mM e.kids:=by cases e;rfl
theorem Ee:∀a b:List Ex,mM (a++b)=max (mM a) (mM b)
 |[],b=>by simp[mM]
 |e::r,b=>by rw[UN,mM,mM,Ee r b];omega
mutual
theorem Ex.deep_le:∀e:Ex,e.deep<=e.sz
 | .mk _ _ s k=>by have:=Ct k;simp only[Ex.deep,Ex.sz];omega
theorem Ct:∀l:List Ex,mM l<=dm l
 |[]=>Uf _
 |e::r=>by have:=e.deep_le;have:=Ct r;simp only[mM,dm];omega
end
theorem oa{α:Type}{p:α->Bool}{xs:List α}{i:Nat}{c:α}(h:xs[i]?=some c):(xs.take (i+1)).all p=((xs.take i).all p&&p c):=by
 rw[List.take_add_one,h,List.all_append];simp
def okE(m:Nat)(e:Ex):Bool:=cb m e&&decide (e.parts<=30)
def vF:Nat->Ex->Bool
 |0,_=>false
 |m+1,e=>mg e&&e.kids.all (okE m)
theorem Dv:∀{l:List Ex} {e:Ex},e∈l->e.parts<=bc l
 |x::r,e,h=>by
  simp only[bc]
  rcases Uj.1 h with rfl|h
  ·omega
  ·have:=Dv h;omega
theorem GC(m:Nat)(e:Ex):(vF m e&&decide (e.parts<=30))=okE m e:=by
 cases m with
 |zero=>simp[vF,okE,cb]
 |succ m=>
  by_cases hp:e.parts<=30
  ·have h2:e.kids.all (okE m)=e.kids.all (cb m):=by
    rw[Bool.eq_iff_iff,Ui,Ui]
    refine⟨λh x hx=>?_,λh x hx=>?_⟩
    ·have:=h x hx;simp only[okE,Ut] at this;exact this.1
    ·have h1:=h x hx
     have:=Dv hx
     have:=e.parts_eq
     simp only[okE,h1,Bool.true_and]
     simp;omega
   simp[vF,okE,cb,h2]
  ·simp[okE,hp]
theorem NB(e:Ex):okE 6 e=lQ e:=rfl
def szA(m:Nat)(e:Ex):AV:=if vF m e then .tup [.p (.int .i64 e.parts),.p (.int .i64 e.deep),.p (.bool (decide (e.parts<=30)))] else .tup [.p (.int .i64 0),.p (.int .i64 0),.p (.bool false)]
def ca(e:Ex):Bool:=inR e.op 1 13&&(if e.op=1 then inR e.n 0 255&&decide (e.name=[]) else if e.op=2\/e.op=13 then aC e.name&&decide (e.n=0) else true)
def gX(e:Ex):Bool:=(decide (e.op=1\/e.op=2\/e.op=13)||(decide (e.n=0)&&decide (e.name=[])))&&inR e.kids.length (loK e.op) (hiK e.op)
theorem rU:aC []=false:=rfl
theorem Dc(e:Ex):mg e=(ca e&&gX e):=by
 unfold mg ca gX FF
 by_cases h1:e.op=1
 ·simp only[h1]
  cases inR (e.kids.length:Int) (loK 1:Nat) (hiK 1:Nat)<;>by_cases hn:e.name=[]<;>cases h2:inR e.n 0 255<;>simp[hn,rU,inR]
 by_cases h2:e.op=2
 ·simp only[h2]
  cases inR (e.kids.length:Int) (loK 2:Nat) (hiK 2:Nat)<;>cases hi:aC e.name<;>by_cases hn:e.n=0<;>simp[hn,inR]
 by_cases h3:e.op=13
 ·simp only[h3]
  cases inR (e.kids.length:Int) (loK 13:Nat) (hiK 13:Nat)<;>cases hi:aC e.name<;>by_cases hn:e.n=0<;>simp[hn,inR]
 ·cases inR e.op 1 13<;>cases inR (e.kids.length:Int) (loK e.op:Nat) (hiK e.op:Nat)<;>by_cases hn:e.n=0<;>by_cases hm:e.name=[]<;>simp[h1,h2,h3,hn,hm,rU,inR]
variable (G:aq) (hK:G iy=some gy) (hS:G dK=some [.tbl opK opV])
include hS
theorem HL(op:Int):VF Tryz.prog G ki [.p (.int .i64 op)] (.p (.int .i64 (lvI op))):=by
 refine AC.go zD ?_
 have hall:=GZ op
 have hget:=GF op
 have hS':=hS
 unfold dK at hS'
 have hlp:=GB op
 by_cases h:3<=op/\op<=10
 ·have e:sgn op=some (.agg [.p (.str [sgB op]),.p (.int .i64 (lvl op))]):=if_pos h
  have e2:lvI op=lvl op:=if_pos h
  rw[e2]
  generalize lvl op=L at*
  simp-implicitDefEqProofs[ef,hS',hall,hget,e,hlp]
 ·have e:sgn op=none:=if_neg h
  by_cases h11:op=11
  ·subst h11;simp-implicitDefEqProofs[ef,hS',hall,hget,e,lvI]
  by_cases h12:op=12
  ·subst h12;simp-implicitDefEqProofs[ef,hS',hall,hget,e,lvI]
  have e2:lvI op=6:=by rw[lvI,if_neg h,if_neg (by simp[h11,h12])]
  simp-implicitDefEqProofs[ef,hS',hall,hget,e,e2,h11,h12]
include hK
theorem Gs:∀(m:Nat) (e:Ex),e.sz<=1073741824->m<=100->VF Tryz.prog G fL [.agg (e.cs.map .p),.p (.int .i64 m)] (szA m e):=by
 intro m
 induction m using Nat.strongRecOn with
 |_ m ih=>
 intro e he hm
 have hec:=e.cs_eq
 have hsz:=e.sz_eq
 have hkl:=aX e.kids
 have hS':=hS
 unfold dK at hS'
 have hall:=GZ e.op
 have hget:=GF e.op
 have hxl:exL e.kids= .lst 4 (e.kids.map Ex.cs):=rfl
 have hbad:(ca e&&gX e&&decide (1<=m))=false->szA m e= .tup [.p (.int .i64 0),.p (.int .i64 0),.p (.bool false)]:=by
  intro h
  have:vF m e=false:=by
   cases m with
   |zero=>rfl
   |succ m=>rw[vF,Dc];simp at h;cases h1:ca e<;>cases h2:gX e<;>simp[h1,h2] at h⊢
  rw[szA,this];rfl
 have hb1:ca e=false->szA m e= .tup [.p (.int .i64 0),.p (.int .i64 0),.p (.bool false)]:=λh=>hbad (by rw[h];rfl)
 refine AC.goK vR vN ?_
 simp-implicitDefEqProofs[ja,jd,hec]
 refine AA (λ_:Unit=>ag 127 [(1,.p (.int .i64 m)),(2,.ptr 0 4 0 0),(7,.p (.int .i64 (loK e.op))),(8,.p (.int .i64 (hiK e.op)))]) (λ_=>[.row 4 [[.p (.int .i64 e.op),.p (.int .i64 e.n),.p (.str e.name),.p (exL e.kids)]]]) (λ_=>ca e=true) ?_ ?_
 ·have fin:∀(r1:List (Nat × AV)),Aw.look r1 1= .p (.int .i64 m)->Aw.look r1 2= .ptr 0 4 0 0->Aw.look r1 7= .p (.int .i64 (loK e.op))->Aw.look r1 8= .p (.int .i64 (hiK e.op))->
   Wk 0 (ag 127 r1) [.row 4 [[.p (.int .i64 e.op),.p (.int .i64 e.n),.p (.str e.name),.p (exL e.kids)]]] (ag 127 [(1,.p (.int .i64 m)),(2,.ptr 0 4 0 0),(7,.p (.int .i64 (loK e.op))),(8,.p (.int .i64 (hiK e.op)))]) [.row 4 [[.p (.int .i64 e.op),.p (.int .i64 e.n),.p (.str e.name),.p (exL e.kids)]]]:=λr1 a b c d=>
   ab (by simp) (by simp[okO,below]) (by simp[below,a,b,c,d])
  have hop1:inR (1:Int) 1 13=true:=rfl
  have hop2:inR (2:Int) 1 13=true:=rfl
  have hop13:inR (13:Int) 1 13=true:=rfl
  by_cases o1:e.op=1
  ·rw[o1] at fin⊢
   simp-implicitDefEqProofs[o1]
   refine(DT G _).use ?_
   by_cases h1:inR e.n 0 255=true
   ·by_cases h2:e.name=[]
    ·have hp:ca e=true:=by simp[ca,o1,h1,h2,hop1]
     rw[h2] at fin
     simp-implicitDefEqProofs[h1,h2,hp]
     exact fin _ (by simp) (by simp) (by simp[loK]) (by simp[hiK])
    ·have hp:ca e=false:=by simp[ca,o1,h1,h2,hop1]
     rw[hb1 hp]
     simp-implicitDefEqProofs[h1,h2]
   ·have hp:ca e=false:=by simp[ca,o1,h1,hop1]
    rw[hb1 hp]
    simp-implicitDefEqProofs[h1]
  by_cases o2:e.op=2
  ·rw[o2] at fin⊢
   simp-implicitDefEqProofs[o2]
   refine(oq G hK _ (by omega)).use ?_
   by_cases h1:aC e.name=true
   ·by_cases h2:e.n=0
    ·have hp:ca e=true:=by simp[ca,o2,h1,h2,hop2]
     rw[h2] at fin
     simp-implicitDefEqProofs[h1,h2,hp]
     exact fin _ (by simp) (by simp) (by simp[loK]) (by simp[hiK])
    ·have hp:ca e=false:=by simp[ca,o2,h1,h2,hop2]
     rw[hb1 hp]
     simp-implicitDefEqProofs[h1,h2]
   ·have hp:ca e=false:=by simp[ca,o2,h1,hop2]
    rw[hb1 hp]
    simp-implicitDefEqProofs[h1]
  by_cases o13:e.op=13
  ·rw[o13] at fin⊢
   simp-implicitDefEqProofs[o13]
   refine(oq G hK _ (by omega)).use ?_
   by_cases h1:aC e.name=true
   ·by_cases h2:e.n=0
    ·have hp:ca e=true:=by simp[ca,o13,h1,h2,hop13]
     rw[h2] at fin
     simp-implicitDefEqProofs[h1,h2,hp]
     exact fin _ (by simp) (by simp) (by simp[loK]) (by simp[hiK])
    ·have hp:ca e=false:=by simp[ca,o13,h1,h2,hop13]
     rw[hb1 hp]
     simp-implicitDefEqProofs[h1,h2]
   ·have hp:ca e=false:=by simp[ca,o13,h1,hop13]
    rw[hb1 hp]
    simp-implicitDefEqProofs[h1]
  have hlp:=GB e.op
  by_cases h:3<=e.op/\e.op<=10
  ·have es:sgn e.op=some (.agg [.p (.str [sgB e.op]),.p (.int .i64 (lvl e.op))]):=if_pos h
   have hp:ca e=true:=by simp[ca,o1,o2,o13,inR];omega
   have o11:¬e.op=11:=by omega
   have o12:¬e.op=12:=by omega
   have elo:loK e.op=2:=by simp[loK,o1,o2,o11,o12,o13]
   have ehi:hiK e.op=2:=by simp[hiK,o1,o2,o11,o12,o13]
   generalize lvl e.op=L at*
   simp-implicitDefEqProofs[o1,o2,o13,hS',hall,hget,es,hlp,hp]
   exact fin _ (by simp) (by simp) (by simp[elo]) (by simp[ehi])
  have es:sgn e.op=none:=if_neg h
  by_cases o11:e.op=11
  ·have hp:ca e=true:=by simp[ca,o11,inR]
   have elo:loK e.op=1:=by simp[loK,o11]
   have ehi:hiK e.op=1:=by simp[hiK,o11]
   rw[o11] at hall hget es fin
   simp-implicitDefEqProofs[o11,hS',hall,hget,es,hp]
   exact fin _ (by simp) (by simp) (by simp[loK]) (by simp[hiK])
  by_cases o12:e.op=12
  ·have hp:ca e=true:=by simp[ca,o12,inR]
   rw[o12] at hall hget es fin
   simp-implicitDefEqProofs[o12,hS',hall,hget,es,hp]
   exact fin _ (by simp) (by simp) (by simp[loK]) (by simp[hiK])
  ·have hp:ca e=false:=by simp[ca,o1,o2,o13,inR];omega
   rw[hb1 hp]
   simp-implicitDefEqProofs[o1,o2,o13,hS',hall,hget,es,o11,o12]
 intro _ hp
 have hop:1<=e.op/\e.op<=13:=by
  simp only[ca,Ut,inR,decide_eq_true_eq] at hp
  exact hp.1
 have hb2:gX e=false->szA m e= .tup [.p (.int .i64 0),.p (.int .i64 0),.p (.bool false)]:=λh=>hbad (by rw[h];simp)
 have hb3:m<1->szA m e= .tup [.p (.int .i64 0),.p (.int .i64 0),.p (.bool false)]:=by
  intro h
  have hd:decide (1<=m)=false:=by simp;omega
  exact hbad (by rw[hd];simp)
 refine AA (λ_:Unit=>ag 127 [(1,.p (.int .i64 m)),(2,.ptr 0 4 0 0)]) (λ_=>[.row 4 [[.p (.int .i64 e.op),.p (.int .i64 e.n),.p (.str e.name),.p (exL e.kids)]]]) (λ_=>gX e=true/\1<=m) ?_ ?_
 ·have fin:∀(r1:List (Nat × AV)),Aw.look r1 1= .p (.int .i64 m)->Aw.look r1 2= .ptr 0 4 0 0->
   Wk 0 (ag 127 r1) [.row 4 [[.p (.int .i64 e.op),.p (.int .i64 e.n),.p (.str e.name),.p (exL e.kids)]]] (ag 127 [(1,.p (.int .i64 m)),(2,.ptr 0 4 0 0)]) [.row 4 [[.p (.int .i64 e.op),.p (.int .i64 e.n),.p (.str e.name),.p (exL e.kids)]]]:=λr1 a b=>
   ab (by simp) (by simp[okO,below]) (by simp[below,a,b])
  simp-implicitDefEqProofs[]
  refine(HL G hS e.op).use ?_
  by_cases ho:e.op=1\/e.op=2\/e.op=13
  ·have hlv:lvI e.op=6:=by
    rw[lvI,if_neg (by omega),if_neg (by omega)]
   have hd:decide (e.op=1\/e.op=2\/e.op=13)=true:=by simpa using ho
   simp-implicitDefEqProofs[hlv,hxl]
   refine(kS G _ _ _).use ?_
   by_cases hk:inR e.kids.length (loK e.op) (hiK e.op)=true
   ·have hr:gX e=true:=by rw[gX,hd,hk];rfl
    by_cases hm1:m<1
    ·have hm1':(m:Int)<1:=by omega
     rw[hb3 hm1]
     simp-implicitDefEqProofs[hk,hm1']
    ·have hm1':¬(m:Int)<1:=by omega
     have hm2:1<=m:=by omega
     simp-implicitDefEqProofs[hk,hm1',hr,hm2]
     exact fin _ (by simp) (by simp)
   ·have hk':inR e.kids.length (loK e.op) (hiK e.op)=false:=by simpa using hk
    have hr:gX e=false:=by rw[gX,hk',Bool.and_false]
    rw[hb2 hr]
    simp-implicitDefEqProofs[hk']
  ·have hlv:lvI e.op<6:=by
    have:=OU e.op
    unfold lvI
    split
    ·exact this
    ·rw[if_pos (by omega)];omega
   have hd:decide (e.op=1\/e.op=2\/e.op=13)=false:=by simpa using ho
   generalize lvI e.op=L at hlv⊢
   by_cases h1:e.n=0
   ·by_cases h2:e.name=[]
    ·have hz:decide (e.n=0)=true/\decide (e.name=[])=true:=by simp[h1,h2]
     simp-implicitDefEqProofs[hlv,h1,h2,hxl]
     refine(kS G _ _ _).use ?_
     rw[h1,h2] at fin
     by_cases hk:inR e.kids.length (loK e.op) (hiK e.op)=true
     ·have hr:gX e=true:=by rw[gX,hd,hk,hz.1,hz.2];rfl
      by_cases hm1:m<1
      ·have hm1':(m:Int)<1:=by omega
       rw[hb3 hm1]
       simp-implicitDefEqProofs[hk,hm1']
      ·have hm1':¬(m:Int)<1:=by omega
       have hm2:1<=m:=by omega
       simp-implicitDefEqProofs[hk,hm1',hr,hm2]
       exact fin _ (by simp) (by simp)
     ·have hk':inR e.kids.length (loK e.op) (hiK e.op)=false:=by simpa using hk
      have hr:gX e=false:=by rw[gX,hk',Bool.and_false]
      rw[hb2 hr]
      simp-implicitDefEqProofs[hk']
    ·have hr:gX e=false:=by rw[gX,hd];simp[h2]
     rw[hb2 hr]
     simp-implicitDefEqProofs[hlv,h1,h2]
   ·have hr:gX e=false:=by rw[gX,hd];simp[h1]
    rw[hb2 hr]
    simp-implicitDefEqProofs[hlv,h1]
 rintro _ ⟨hr,hm1⟩
 have hhd:mg e=true:=by rw[Dc,hp,hr];rfl
 obtain⟨m',rfl⟩:∃m',m=m'+1:=⟨m-1,by omega⟩
 have hszO:vF (m'+1) e=e.kids.all (okE m'):=by rw[vF,hhd];rfl
 have hpe:=e.parts_eq
 have hde:=e.deep_eq
 have hpl:=e.parts_le
 have hwm:IntKind.i64.wrap (((m'+1:Nat):Int)-1)=(m':Int):=by rw[af (by omega) (by omega)];omega
 simp-implicitDefEqProofs[hxl]
 refine az (λi:Nat=>ag 127 [(1,.p (.int .i64 ((m':Int)+1))),(2,.ptr 0 4 0 0),(9,.p (.int .i64 ((1+bc (e.kids.take i):Nat):Int))),(10,.p (.int .i64 ((1+mM (e.kids.take i):Nat):Int))),(99,.p (exL e.kids)),(100,.p (.int .i64 e.kids.length)),(101,.p (.int .i64 i))])
  (λ_=>[.row 4 [[.p (.int .i64 e.op),.p (.int .i64 e.n),.p (.str e.name),.p (exL e.kids)]]]) (λi=>i<=e.kids.length/\(e.kids.take i).all (okE m')=true) (λi=>e.kids.length-i) 0 (by simp) ?_ ?_
 ·exact ab (by simp) (by simp[okO,below]) (by simp[below,hxl,bc,mM])
 rintro i ⟨hi,ha⟩
 have hwm':IntKind.i64.wrap (m':Int)=(m':Int):=af (by omega) (by omega)
 simp-implicitDefEqProofs[hxl]
 refine bj (λh=>?_) (λh=>?_)
 ·simp at h
  have hg:=Ub h
  have hks:=aS (Uo h)
  have hkc:=e.kids[i].cs_eq
  have hpt:bc (e.kids.take (i+1))=bc (e.kids.take i)+e.kids[i].parts:=by rw[ah h,eF];simp[bc]
  have hdt:mM (e.kids.take (i+1))=max (mM (e.kids.take i)) e.kids[i].deep:=by rw[ah h,Ee];simp[mM]
  have hpl1:bc (e.kids.take (i+1))<=e.parts:=by
   have:=eF (e.kids.take (i+1)) (e.kids.drop (i+1))
   rw[UO] at this
   omega
  have hok:=GC m' e.kids[i]
  have hdl:e.kids[i].deep<=e.kids[i].sz:=Ex.deep_le _
  have hdl2:mM (e.kids.take i)<=e.sz:=by
   have h1:=Ct (e.kids.take i)
   have h2:=vg (e.kids.take i) (e.kids.drop i)
   rw[UO] at h2
   omega
  generalize e.kids[i]=c at*
  simp-implicitDefEqProofs[hg,hkc,hwm']
  have hI:=ih m' (by omega) c (by omega) (by omega)
  rw[hkc] at hI
  by_cases ho:okE m' c=true
  ·have h1:vF m' c=true/\c.parts<=30:=by rw[ho] at hok;simpa using hok
   have hA:szA m' c= .tup [.p (.int .i64 c.parts),.p (.int .i64 c.deep),.p (.bool true)]:=by rw[szA,if_pos h1.1];simp[h1.2]
   rw[hA] at hI
   refine hI.use ?_
   have hw1:IntKind.i64.wrap (1+(bc (e.kids.take i):Int)+(c.parts:Int))=((1+bc (e.kids.take (i+1)):Nat):Int):=by rw[af (by omega) (by omega)];omega
   have hw2:IntKind.i64.wrap ((c.deep:Int)+1)=(c.deep:Int)+1:=af (by omega) (by omega)
   have hmx:(if 1+(mM (e.kids.take i):Int)<(c.deep:Int)+1 then(c.deep:Int)+1 else 1+(mM (e.kids.take i):Int))=1+(mM (e.kids.take (i+1)):Int):=by
    rw[hdt];split<;>omega
   simp-implicitDefEqProofs[hw1,hw2,hmx]
   refine⟨i+1,⟨h,by rw[←Ui,oa hg,ha,ho];rfl⟩,by omega,?_⟩
   refine lH (m:=1) (by omega) (fB rfl rfl (by simp[okO,below])) (by simp[below,hxl,w1 (i:=i) (by omega)])
  ·have hf:e.kids.all (okE m')=false:=List.all_eq_false.2 ⟨c,Uh hg,by simpa using ho⟩
   have hA2:szA (m'+1) e= .tup [.p (.int .i64 0),.p (.int .i64 0),.p (.bool false)]:=by rw[szA,hszO,hf];rfl
   rw[hA2]
   by_cases h1:vF m' c=true
   ·have h2:¬c.parts<=30:=λh2=>ho (by rw[←hok,h1];simpa using h2)
    have hA:szA m' c= .tup [.p (.int .i64 c.parts),.p (.int .i64 c.deep),.p (.bool false)]:=by rw[szA,if_pos h1];simp[h2]
    rw[hA] at hI
    refine hI.use ?_
    simp-implicitDefEqProofs[]
   ·have hA:szA m' c= .tup [.p (.int .i64 0),.p (.int .i64 0),.p (.bool false)]:=by rw[szA,if_neg h1]
    rw[hA] at hI
    refine hI.use ?_
    simp-implicitDefEqProofs[]
 ·simp at h
  rw[Uq h] at ha⊢
  have hA:szA (m'+1) e= .tup [.p (.int .i64 e.parts),.p (.int .i64 e.deep),.p (.bool (decide (e.parts<=30)))]:=by rw[szA,hszO,ha];rfl
  rw[hA,hpe,hde]
  simp-implicitDefEqProofs[]
  omega
theorem EL(e:Ex)(he:e.sz<=1073741824):VF Tryz.prog G eK [.agg (e.cs.map .p)] (.p (.bool (lQ e))):=by
 refine AC.go ug ?_
 have hec:=e.cs_eq
 have hx:=Gs G hK hS 6 e he (by omega)
 rw[hec] at hx
 simp-implicitDefEqProofs[mz,hec]
 rw[←NB,←GC]
 unfold szA at hx
 by_cases h:vF 6 e=true
 ·rw[if_pos h] at hx
  rw[h]
  refine hx.use ?_
  simp-implicitDefEqProofs[]
 ·have h':vF 6 e=false:=by simpa using h
  rw[if_neg h] at hx
  rw[h']
  refine hx.use ?_
  simp-implicitDefEqProofs[]
end
section
def rg:AK:=qV [x5 2 5,wG] [wS 12 2,qu 13 12,xf 14 fM 13,qf 11 14,wL 15 0 11,wL 16 1 11,wL 17 2 11,wL 18 3 11,qf 5 15,x6 16,qf 7 17,qf 8 18] (.cut (.blk 0 (qw (xR (wE 20) (qy 21 .gtr 20 4) 19 21) (wT 19 .skip [xq 22 2,qu 23 22,wl 24 23,wY 25,qY 26 .neq 24 25,qf 19 26] (qn 19 .skip (.cut (.reg [qf 27 6,qf 28 27,w7 29 28 1 2,w6 30 28 29,qM 31 28 (.call cg (xe 30)),qM 32 28 (wa 31),xY 33 28 32,qf 19 33]) (qn 19 .skip (.cut (.reg [qf 34 6,wK 35 34,qf 36 35,w7 37 36 1 2,w6 38 36 37,qM 39 36 (xx .neq 38 (.c wJ)),xY 40 36 39,qf 19 40]) (qn 19 .skip (.cut (.reg [qf 41 7,wK 42 41,qf 43 42,w7 44 43 3 2,w6 45 43 44,qM 46 43 (qW 45),xO 47 43 .gtr 46 0,xY 48 43 47,qf 19 48]) (qn 19 .skip (.cut (.reg [xP 49,wK 50 49,qf 51 50,w7 52 51 4 2,w6 53 51 52,qM 54 51 (qW 53),xO 55 51 .gtr 54 0,xY 56 51 55,qf 19 56]) (qn 19 .skip (.reg [wS 57 2,qu 58 57,wt 59 58 8,qf 60 59,w7 61 60 2 2,w6 62 60 61,qM 63 60 (qH 4 62 ya),w7 64 60 0 63,w6 65 60 64,xO 66 60 .neq 65 13,xY 67 60 66,qf 19 67]))))))))))) (qO 19 xA))) (xC [xq 68 2,qu 69 68,wl 70 69,wH 71] (qQ 1 (xp [wI 72 71 70] (ww 72 1) (wo 2 (qV [wn 73 4 69 71,xX 74 73,wF 10 [we,we,wJ,.nils],wh 4 10 74] [xX 75 10,xf 76 eK 75,wK 77 76] (qO 77 xA)) (wN (xm 78 71) 71 78)))) [xy 79 2,qu 80 79,wE 81,xm 82 81,wW 83 cz 80 82,qf 84 83,w7 85 84 4 2,w6 86 84 85,xM 87 84 1,xO 88 84 .add 87 1,qM 89 84 (.call cz (wU 86 (.t 88))),xY 90 84 89,qf 4 90]))
theorem AF:AK.whole rg=FK.ak iC:=rfl
variable (G:aq)
def pU(op:Int):Int:=if op=4 then 2 else if inR op 1 8 then 1 else-1
def jm(op:Int):Bool:=decide (op=5)||decide (op=6)
theorem zh(op:Int):VF Tryz.prog G fM [.p (.int .i64 op)] (.tup [.p (.int .i64 (pU op)),.p (.bool (cC op)),.p (.bool (jm op)),.p (.bool (decide (op=5)))]):=by
 refine AC.go vO ?_
 by_cases h1:op=1
 ·subst h1;simp-implicitDefEqProofs[aY,pU,inR,cC,jm]
 by_cases h2:op=2
 ·subst h2;simp-implicitDefEqProofs[aY,pU,inR,cC,jm]
 by_cases h3:op=3
 ·subst h3;simp-implicitDefEqProofs[aY,pU,inR,cC,jm]
 by_cases h4:op=4
 ·subst h4;simp-implicitDefEqProofs[aY,pU,inR,cC,jm]
 by_cases h5:op=5
 ·subst h5;simp-implicitDefEqProofs[aY,pU,inR,cC,jm]
 by_cases h6:op=6
 ·subst h6;simp-implicitDefEqProofs[aY,pU,inR,cC,jm]
 by_cases h7:op=7
 ·subst h7;simp-implicitDefEqProofs[aY,pU,inR,cC,jm]
 by_cases h8:op=8
 ·subst h8;simp-implicitDefEqProofs[aY,pU,inR,cC,jm]
 have ha:pU op= -1:=by
  have:inR op 1 8=false:=by simp[inR];omega
  rw[pU,if_neg h4,this];rfl
 have hn:cC op=false:=by simp[cC,h1,h2]
 have hb:jm op=false:=by simp[jm,h5,h6]
 rw[ha,hn,hb]
 simp-implicitDefEqProofs[aY,h1,h2,h3,h4,h5,h6,h7,h8]
def Gt:List Ex->Bool
 |a::_=>decide (a.op=13)
 |[]=>false
def jn(s:Sm):Bool:=decide ((s.args.length:Int)=pU s.op)&&(!cC s.op||aC s.name)&&(cC s.op||decide (s.name=[]))&&(jm s.op||decide (s.body=[]))&&(decide (s.op=5)||decide (s.els=[]))&&
 (!decide (s.op=8)||Gt s.args)
theorem Jq(s:Sm):jo s=(inR s.op 1 8&&decide (s.args.length=gZ s.op)&&(cC s.op==aC s.name)&&(cC s.op||decide (s.name=[]))&&s.args.all lQ&&
 (!decide (s.op=8)||Gt s.args)&&(s.els.isEmpty||decide (s.op=5))&&(s.body.isEmpty||decide (s.op=5)||decide (s.op=6))):=by
 unfold jo
 cases s.args<;>rfl
theorem Ey(s:Sm):jo s=(jn s&&s.args.all lQ):=by
 have ha:decide ((s.args.length:Int)=pU s.op)=(inR s.op 1 8&&decide (s.args.length=gZ s.op)):=by
  unfold pU gZ
  by_cases h4:s.op=4
  ·have:inR s.op 1 8=true:=by simp[inR,h4]
   rw[this,if_pos h4,if_pos h4];simp;omega
  ·rw[if_neg h4,if_neg h4]
   cases h:inR s.op 1 8 with
   |true=>simp;omega
   |false=>simp
 have hn:(cC s.op==aC s.name&&(cC s.op||decide (s.name=[])))=((!cC s.op||aC s.name)&&(cC s.op||decide (s.name=[]))):=by
  cases cC s.op with
  |true=>cases aC s.name<;>rfl
  |false=>
   by_cases h:s.name=[]
   ·rw[h,rU];rfl
   ·simp[h]
 have hb:(s.body.isEmpty||decide (s.op=5)||decide (s.op=6))=(jm s.op||decide (s.body=[])):=by
  rw[jm]
  cases s.body<;>cases decide (s.op=5)<;>cases decide (s.op=6)<;>simp
 have he:(s.els.isEmpty||decide (s.op=5))=(decide (s.op=5)||decide (s.els=[])):=by
  cases s.els<;>cases decide (s.op=5)<;>simp
 rw[Jq]
 unfold jn
 rw[ha,hb,he]
 generalize Gt s.args=z
 generalize (cC s.op==aC s.name)=c at hn⊢
 generalize (!cC s.op||aC s.name)=c' at hn⊢
 generalize (cC s.op||decide (s.name=[]))=d at hn⊢
 generalize s.args.all lQ=x
 generalize (jm s.op||decide (s.body=[]))=y
 generalize (decide (s.op=5)||decide (s.els=[]))=y'
 generalize (!decide (s.op=8))=u
 cases inR s.op 1 8<;>cases decide (s.args.length=gZ s.op)<;>cases c<;>cases c'<;>cases d<;>cases x<;>cases y<;>cases y'<;>cases u<;>cases z<;>simp_all
variable (hK:G iy=some gy) (hS:G dK=some [.tbl opK opV])
def Gv(d:Nat)(L:List Sm):Int:=match L.findIdx? (λs=> !aB d s) with|some i=>i|none=> -1
theorem KI(d:Nat)(L:List Sm):decide (0<=Gv d L)= !(L.all (aB d)):=by
 unfold Gv
 cases h:L.findIdx? (λx=> !aB d x) with
 |none=>
  rw[UH] at h
  have:L.all (aB d)=true:=Ui.2 λx hx=>by have:=h x hx;simpa using this
  simp[this]
 |some i=>
  rw[Us] at h
  obtain⟨h1,h2,_⟩:=h
  have:L.all (aB d)=false:=List.all_eq_false.2 ⟨_,Uo h1,by simpa using h2⟩
  rw[this];simp
theorem uZ(d:Nat)(nest:Int)(hs:∀s:Sm,s.sz<=1073741824->VF Tryz.prog G iN [.agg (s.cs.map .p),.p (.int .i64 nest)] (.p (.bool (aB d s))))(L:List Sm)(hL:aK L<=1073741824):
 VF Tryz.prog G cz [.p (smL L),.p (.int .i64 nest)] (.p (.bool (L.all (aB d)))):=by
 have hsl:smL L= .lst 5 (L.map Sm.cs):=rfl
 have hll:=bp L
 have fz:∀s:Sm,s.sz<=1073741824->AC Tryz.prog G cn [.agg (s.cs.map .p),.ptr 0 1 0 0] [.row 1 [[.p (.int .i64 nest)]]] λx h=>x= .ret (.p (.bool (!aB d s)))/\h=[.row 1 [[.p (.int .i64 nest)]]]:=by
  intro s hz
  refine AC.trim (AC.go uf ?_) (by simp[below])
  have hse:=s.cs_eq
  have h1:=hs s hz
  rw[hse] at h1
  simp-implicitDefEqProofs[mJ,hse]
  refine h1.use ?_
  simp-implicitDefEqProofs[]
 have idx:AC Tryz.prog G bX [.p (smL L),.fn (.func cn) [.ptr 0 1 0 0]] [.row 1 [[.p (.int .i64 nest)]]] λx h=>x= .ret (.p (.int .i64 (Gv d L)))/\h=[.row 1 [[.p (.int .i64 nest)]]]:=by
  refine AC.go ji ?_
  simp-implicitDefEqProofs[dL,hsl]
  refine az (λi:Nat=>ag 19 [(0,.p (smL L)),(1,.fn (.func cn) [.ptr 0 1 0 0]),(7,.p (.int .i64 L.length)),(8,.p (.int .i64 i))]) (λ_=>[.row 1 [[.p (.int .i64 nest)]]]) (λi=>i<=L.length/\∀w∈L.take i,aB d w=true) (λi=>L.length-i) 0 (by simp) ?_ ?_
  ·exact ab (by simp) (by simp[okO,below]) (by simp[below,aj,hsl])
  ·intro i ⟨hi,hn⟩
   simp-implicitDefEqProofs[hsl]
   refine bj (λh1=>?_) (λh1=>?_)
   ·simp at h1
    have hg:=Ub h1
    have hz:=aQ (Uo h1)
    simp-implicitDefEqProofs[hg]
    refine(fz L[i] (by omega)).mono ?_
    rintro r h ⟨rfl,rfl⟩
    by_cases he:aB d L[i]=true
    ·simp-implicitDefEqProofs[aa,he]
     refine⟨i+1,⟨h1,λp hp=>?_⟩,by omega,ab (by simp) (by simp[okO,below]) (by simp[below,aj,hsl,w1 (i:=i) (by omega)])⟩
     rw[ah h1] at hp
     rcases Un.1 hp with hp|hp
     ·exact hn p hp
     ·rw[Up.1 hp];exact he
    ·have hf:Gv d L=i:=by
      have:L.findIdx? (λw=> !aB d w)=some i:=by
       rw[Us]
       exact⟨h1,by simpa using he,λj hj=>by have:=hn L[j] (UZ.2 ⟨j,by omega,rfl⟩);simpa using this⟩
      rw[Gv,this]
     simp-implicitDefEqProofs[aa,he,hf]
   ·simp at h1
    rw[Uq h1] at hn
    have hf:Gv d L= -1:=by
     have:L.findIdx? (λw=> !aB d w)=none:=by
      rw[UH];intro x hx;simpa using hn x hx
     rw[Gv,this]
    simp-implicitDefEqProofs[hf]
 have con:AC Tryz.prog G bE [.p (smL L),.fn (.func cn) [.ptr 0 1 0 0]] [.row 1 [[.p (.int .i64 nest)]]] λx h=>x= .ret (.p (.bool (!L.all (aB d))))/\h=[.row 1 [[.p (.int .i64 nest)]]]:=by
  refine AC.go gT ?_
  simp-implicitDefEqProofs[da]
  refine idx.mono ?_
  rintro r h ⟨rfl,rfl⟩
  have:=KI d L
  simp-implicitDefEqProofs[aa]
  simpa using this
 refine AC.go zW ?_
 simp-implicitDefEqProofs[nW]
 refine con.mono ?_
 rintro r h ⟨rfl,rfl⟩
 simp-implicitDefEqProofs[aa]
include hS hK
theorem JT:∀d:Nat,d<=4->∀s:Sm,s.sz<=1073741824->VF Tryz.prog G iN [.agg (s.cs.map .p),.p (.int .i64 (5-d))] (.p (.bool (aB d s))):=by
 intro d
 induction d with
 |zero=>
  intro _ s hz
  have hse:=s.cs_eq
  refine AC.go rC ?_
  simp-implicitDefEqProofs[iC,hse]
  refine(zh G _).use ?_
  simp-implicitDefEqProofs[aB]
 |succ d ih=>
  intro hd s hz
  have hse:=s.cs_eq
  have hsz:=s.sz_eq
  have hal:=aX s.args
  have hblk:=uZ G d (5-d) (ih (by omega))
  have hnn:(5:Int)-((d+1:Nat):Int)=4-d:=by omega
  have hnw:IntKind.i64.wrap (4-(d:Int)+1)=5-d:=by rw[af (by omega) (by omega)];omega
  have hn4:¬(4:Int)<4-d:=by omega
  have hxl:exL s.args= .lst 4 (s.args.map Ex.cs):=rfl
  have hsl:∀l,smL l= .lst 5 (l.map Sm.cs):=λ_=>rfl
  rw[hnn]
  have hbad:jn s=false->aB (d+1) s=false:=λh=>by rw[aB,Ey,h];rfl
  refine AC.goK rC AF ?_
  simp-implicitDefEqProofs[rg,iC,hse]
  refine(zh G _).use ?_
  simp-implicitDefEqProofs[]
  refine AA (λ_:Unit=>ag 91 [(1,.p (.int .i64 (4-d))),(2,.ptr 0 5 0 0)]) (λ_=>[.row 5 [[.p (.int .i64 s.op),.p (.str s.name),.p (exL s.args),.p (smL s.body),.p (smL s.els)]]]) (λ_=>jn s=true) ?_ ?_
  ·have fin:∀(r1:List (Nat × AV)),Aw.look r1 1= .p (.int .i64 (4-d))->Aw.look r1 2= .ptr 0 5 0 0->
    Wk 0 (ag 91 r1) [.row 5 [[.p (.int .i64 s.op),.p (.str s.name),.p (exL s.args),.p (smL s.body),.p (smL s.els)]]] (ag 91 [(1,.p (.int .i64 (4-d))),(2,.ptr 0 5 0 0)]) [.row 5 [[.p (.int .i64 s.op),.p (.str s.name),.p (exL s.args),.p (smL s.body),.p (smL s.els)]]]:=λr1 a b=>
    ab (by simp) (by simp[okO,below]) (by simp[below,a,b])
   have hb0:s.body=[]\/0<s.body.length:=by cases s.body<;>simp
   have he0:s.els=[]\/0<s.els.length:=by cases s.els<;>simp
   by_cases hl:(s.args.length:Int)=pU s.op
   case neg=>
    rw[hbad (by simp[jn,hl])]
    simp-implicitDefEqProofs[hn4,hxl,hl]
   have hel:(decide (s.els=[]))= !decide (0<s.els.length):=by cases s.els<;>simp
   have hbo:(decide (s.body=[]))= !decide (0<s.body.length):=by cases s.body<;>simp
   simp-implicitDefEqProofs[hn4,hxl,hl]
   refine pT (ag 91 [(1,.p (.int .i64 (4-d))),(2,.ptr 0 5 0 0),(6,.p (.bool (cC s.op))),(7,.p (.bool (jm s.op))),(8,.p (.bool (decide (s.op=5)))),(19,.p (.bool (cC s.op&& !aC s.name)))]) ([.row 5 [[.p (.int .i64 s.op),.p (.str s.name),.p (exL s.args),.p (smL s.body),.p (smL s.els)]]]) ?_ ?_
   ·cases hn:cC s.op with
    |true=>
     simp-implicitDefEqProofs[]
     refine(oq G hK _ (by omega)).use ?_
     simp-implicitDefEqProofs[]
     exact ab (by simp) (by simp[okO,below]) (by simp[below])
    |false=>
     simp-implicitDefEqProofs[]
     exact ab (by simp) (by simp[okO,below]) (by simp[below])
   by_cases h2:(cC s.op&& !aC s.name)=true
   ·rw[hbad (by simp only[jn];cases h:cC s.op<;>cases h':aC s.name<;>simp[h,h'] at h2⊢)]
    simp-implicitDefEqProofs[h2]
   have h2':(cC s.op&& !aC s.name)=false:=by simpa using h2
   rw[h2']
   simp-implicitDefEqProofs[]
   refine pT (ag 91 [(1,.p (.int .i64 (4-d))),(2,.ptr 0 5 0 0),(6,.p (.bool (cC s.op))),(7,.p (.bool (jm s.op))),(8,.p (.bool (decide (s.op=5)))),(19,.p (.bool (!cC s.op&& !decide (s.name=[]))))]) ([.row 5 [[.p (.int .i64 s.op),.p (.str s.name),.p (exL s.args),.p (smL s.body),.p (smL s.els)]]]) ?_ ?_
   ·cases hn:cC s.op with
    |true=>
     simp-implicitDefEqProofs[]
     exact ab (by simp) (by simp[okO,below]) (by simp[below])
    |false=>
     simp-implicitDefEqProofs[]
     exact ab (by simp) (by simp[okO,below]) (by simp[below])
   by_cases h3:(!cC s.op&& !decide (s.name=[]))=true
   ·rw[hbad (by simp only[jn];cases h:cC s.op<;>cases h':decide (s.name=[])<;>simp[h,h'] at h3⊢)]
    simp-implicitDefEqProofs[h3]
   have h3':(!cC s.op&& !decide (s.name=[]))=false:=by simpa using h3
   rw[h3']
   simp-implicitDefEqProofs[]
   refine pT (ag 91 [(1,.p (.int .i64 (4-d))),(2,.ptr 0 5 0 0),(6,.p (.bool (cC s.op))),(7,.p (.bool (jm s.op))),(8,.p (.bool (decide (s.op=5)))),(19,.p (.bool (!jm s.op&&decide (0<s.body.length))))]) ([.row 5 [[.p (.int .i64 s.op),.p (.str s.name),.p (exL s.args),.p (smL s.body),.p (smL s.els)]]]) ?_ ?_
   ·cases hn:jm s.op with
    |true=>
     simp-implicitDefEqProofs[hsl]
     exact ab (by simp) (by simp[okO,below]) (by simp[below])
    |false=>
     simp-implicitDefEqProofs[hsl]
     exact ab (by simp) (by simp[okO,below]) (by simp[below])
   by_cases h4:(!jm s.op&&decide (0<s.body.length))=true
   ·rw[hbad (by simp only[jn,hbo];cases h:jm s.op<;>cases h':decide (0<s.body.length)<;>simp[h,h'] at h4⊢)]
    simp-implicitDefEqProofs[h4]
   have h4':(!jm s.op&&decide (0<s.body.length))=false:=by simpa using h4
   rw[h4']
   simp-implicitDefEqProofs[]
   refine pT (ag 91 [(1,.p (.int .i64 (4-d))),(2,.ptr 0 5 0 0),(6,.p (.bool (cC s.op))),(7,.p (.bool (jm s.op))),(8,.p (.bool (decide (s.op=5)))),(19,.p (.bool (!decide (s.op=5)&&decide (0<s.els.length))))]) ([.row 5 [[.p (.int .i64 s.op),.p (.str s.name),.p (exL s.args),.p (smL s.body),.p (smL s.els)]]]) ?_ ?_
   ·cases hn:decide (s.op=5) with
    |true=>
     simp-implicitDefEqProofs[hsl]
     exact ab (by simp) (by simp[okO,below]) (by simp[below])
    |false=>
     simp-implicitDefEqProofs[hsl]
     exact ab (by simp) (by simp[okO,below]) (by simp[below])
   by_cases h5:(!decide (s.op=5)&&decide (0<s.els.length))=true
   ·rw[hbad (by simp only[jn,hel];cases h:decide (s.op=5)<;>cases h':decide (0<s.els.length)<;>simp[h,h'] at h5⊢)]
    simp-implicitDefEqProofs[h5]
   have h5':(!decide (s.op=5)&&decide (0<s.els.length))=false:=by simpa using h5
   rw[h5']
   have hh1:jn s=(!decide (s.op=8)||Gt s.args):=by
    simp only[jn,hl,decide_true,Bool.true_and,hel,hbo]
    cases h:cC s.op<;>cases hi:aC s.name<;>cases hm:decide (s.name=[])<;>cases hb:jm s.op<;>cases hc:decide (0<s.body.length)<;>cases ho:decide (s.op=5)<;>cases he:decide (0<s.els.length)<;>simp[h,hi,hm,hb,hc,ho,he] at h2' h3' h4' h5'⊢
   by_cases o8:s.op=8
   ·have ha1:s.args.length=1:=by
     have:pU s.op=1:=by rw[o8];rfl
     omega
    obtain⟨a0,ha0⟩:∃a0,s.args=[a0]:=by
     match hh:s.args,ha1 with
     |[x],_=>exact⟨x,rfl⟩
    have hae:=a0.cs_eq
    rw[hh1,o8,ha0]
    rw[o8,ha0] at fin
    have hxa:exL [a0]= .lst 4 [a0.cs]:=rfl
    by_cases hc:a0.op=13
    ·have h13:Gt [a0]=true:=by simp[Gt,hc]
     simp-implicitDefEqProofs[o8,hae,hc,h13,hxa]
     rw[hxa,hae,hc] at fin
     exact fin _ (by simp) (by simp)
    ·rw[hbad (by rw[hh1,o8,ha0];simp[Gt,hc])]
     simp-implicitDefEqProofs[o8,hae,hc,hxa]
   ·have hh2:jn s=true:=by rw[hh1];simp[o8]
    simp-implicitDefEqProofs[o8,hh2]
    exact fin _ (by simp) (by simp)
  intro _ h1
  have hh:aB (d+1) s=(s.args.all lQ&&(s.body.all (aB d)&&s.els.all (aB d))):=by rw[aB,Ey,h1,Bool.true_and,Bool.and_assoc]
  simp-implicitDefEqProofs[hxl]
  refine az (λi:Nat=>ag 91 [(1,.p (.int .i64 (4-d))),(2,.ptr 0 5 0 0),(69,.p (exL s.args)),(70,.p (.int .i64 s.args.length)),(71,.p (.int .i64 i))]) (λ_=>[.row 5 [[.p (.int .i64 s.op),.p (.str s.name),.p (exL s.args),.p (smL s.body),.p (smL s.els)]]]) (λi=>i<=s.args.length/\(s.args.take i).all lQ=true) (λi=>s.args.length-i) 0 (by simp) ?_ ?_
  ·exact ab (by simp) (by simp[okO,below]) (by simp[below,hxl])
  rintro i ⟨hi,ha⟩
  simp-implicitDefEqProofs[hxl]
  refine bj (λh=>?_) (λh=>?_)
  ·simp at h
   have hg:=Ub h
   have hks:=aS (Uo h)
   have hkc:=s.args[i].cs_eq
   have hx:=EL G hK hS s.args[i] (by omega)
   rw[hkc] at hx
   simp-implicitDefEqProofs[hg,hkc]
   refine hx.use ?_
   by_cases ho:lQ s.args[i]=true
   ·simp-implicitDefEqProofs[ho]
    refine⟨i+1,⟨h,by rw[←Ui,dP h,ha,ho];rfl⟩,by omega,?_⟩
    refine lH (m:=1) (by omega) (fB rfl rfl (by simp[okO,below])) (by simp[below,hxl,w1 (i:=i) (by omega)])
   ·have ho':lQ s.args[i]=false:=by simpa using ho
    rw[hh,nj h ho']
    simp-implicitDefEqProofs[ho']
  ·simp at h
   have ha2:s.args.all lQ=true:=gm h ha
   rw[hh,ha2,Bool.true_and]
   simp-implicitDefEqProofs[hnw]
   refine(hblk s.body (by omega)).use ?_
   cases hb:s.body.all (aB d) with
   |true=>
    simp-implicitDefEqProofs[hnw]
    refine(hblk s.els (by omega)).use ?_
    simp-implicitDefEqProofs[]
   |false=>
    simp-implicitDefEqProofs[]
end
section
variable (G:aq)
structure Vis (σ:Type) where
 I:σ->List AO
 n:Nat
 F:FuncId
 caps:List AV
 len:∀st,(I st).length=n
 ok:∀st,∀o∈I st,okO n o
 capsOk:aj n caps
theorem Vis.pre{σ:Type}(V:Vis σ){f:FuncId}{args:List AV}{st st':σ}{v:AV}(H:AC Tryz.prog G f args (V.I st) λx h=>x= .ret v/\h=V.I st')(rest:List AO)(ha:aj V.n args):
 AC Tryz.prog G f args (V.I st++rest) λx h=>x= .ret v/\h=V.I st'++rest:=by
 refine(AC.pre H rest (by rw[V.len];exact ha) (by rw[V.len];exact V.ok st) ?_).mono ?_
 ·rintro x h ⟨_,rfl⟩;rw[V.len,V.len]
 ·rintro x h ⟨h1,⟨rfl,rfl⟩,rfl⟩
  exact⟨rfl,rfl⟩
theorem Vis.trim{σ:Type}(V:Vis σ){f:FuncId}{args:List AV}{st st':σ}{v:AV}(H:AC Tryz.prog G f args (V.I st) λx h=>x= .ret v/\∃l,h=V.I st'++l)(hv:below V.n v):
 AC Tryz.prog G f args (V.I st) λx h=>x= .ret v/\h=V.I st':=by
 refine H.wk (λt v h ⟨e,_⟩=>by cases e) ?_
 rintro u h ⟨e,l,rfl⟩
 cases e
 refine⟨v,V.I st',zC (n:=V.n) (by rw[V.len];exact Uf _) (fB (by rw[←V.len st',List.take_left'];rfl) (V.len _) (V.ok _)) ?_,rfl,rfl⟩
 simp[Fgt,hv]
theorem tC{n m:Nat}(h:n<=m){o:AO}(ho:okO n o):okO m o:=by
 cases o with
 |dead=>trivial
 |sit=>trivial
 |row sz es=>exact λe he=>bD h _ (ho e he)
 |mp es=>exact λe he=>(bD h [e.2] ⟨ho e he,trivial⟩).1
theorem Vis.oks{σ:Type}(V:Vis σ)(st:σ){m:Nat}(hm:V.n<=m){r:List AO}(hr:∀o∈r,okO m o):∀o∈V.I st++r,okO m o:=by
 intro o ho
 rcases Un.1 ho with h|h
 ·exact tC hm (V.ok st o h)
 ·exact hr o h
theorem Vis.same{σ:Type}(V:Vis σ)(st:σ){k n:Nat}(hk:k<=V.n){r s:List AO}{l l1:List (Nat × AV)}(hr:∀o∈r,okO (V.n+r.length) o)(H:FgA (V.n+r.length) l l1):Wk k (ag n l) (V.I st++(r++s)) (ag n l1) (V.I st++r):=by
 have hl:(V.I st++r).length=V.n+r.length:=by rw[Uu,V.len]
 refine lH (m:=V.n+r.length) (by omega) (fB ?_ hl (V.oks st (by omega) hr)) H
 rw[←UK,←hl,List.take_left'];rfl
theorem Vis.same0{σ:Type}(V:Vis σ)(st:σ){k n:Nat}(hk:k<=V.n){s:List AO}{l l1:List (Nat × AV)}(H:FgA V.n l l1):Wk k (ag n l) (V.I st++s) (ag n l1) (V.I st):=by
 refine lH (m:=V.n) (by omega) (fB ?_ (V.len _) (V.ok st)) H
 rw[←V.len st,List.take_left'];rfl
theorem NM{α:Type}{a b:List α}{n:Nat}(h:a.length=n)(i:Nat):(a++b)[n+i]?=b[i]?:=by
 rw[←h,Um (by omega)];congr 1;omega
theorem MD{σ:Type}(V:Vis σ)(step:σ->Ex->σ)(inv:σ->Prop)(B:Nat)(hB:B<=1073741824)
 (hv:∀st e,inv st->e.sz<=B->inv (step st e)/\AC Tryz.prog G V.F (.agg (e.cs.map .p)::V.caps) (V.I st) λx h=>x= .ret (.tup [])/\h=V.I (step st e)):
 ∀(N:Nat) (e:Ex),e.sz<N->e.sz<=B->∀st,inv st->inv (e.pre.foldl step st)/\AC Tryz.prog G jE [.agg (e.cs.map .p),.fn (.func V.F) V.caps] (V.I st) λx h=>x= .ret (.tup [])/\h=V.I (e.pre.foldl step st):=by
 intro N
 induction N with
 |zero=>intro e h;omega
 |succ N ih=>
  intro e he hz st hi
  have hec:=e.cs_eq
  have hsz:=e.sz_eq
  have hkl:=aX e.kids
  have hxl:exL e.kids= .lst 4 (e.kids.map Ex.cs):=rfl
  have hlen:=V.len
  obtain⟨i1,h1⟩:=hv st e hi hz
  have hinv:∀i,i<=e.kids.length->inv ((dc (e.kids.take i)).foldl step (step st e)):=by
   intro i
   induction i with
   |zero=>intro _;exact i1
   |succ i ihi=>
    intro hl
    have hg:i<e.kids.length:=by omega
    have hks:=aS (Uo hg)
    rw[ah hg,sI,List.foldl_append,dc,dc,UG]
    exact(ih e.kids[i] (by omega) (by omega) _ (ihi (by omega))).1
  refine⟨?_,?_⟩
  ·rw[Ex.pre_eq,List.foldl_cons]
   have:=hinv e.kids.length (Uf _)
   rwa[UU] at this
  refine V.trim G (AC.go Cv ?_) (by simp[below])
  have hcb:=V.capsOk
  have hcb1:aj (V.n+1) V.caps:=bD (by omega) _ hcb
  rw[hec] at h1
  simp-implicitDefEqProofs[tG,hec,hlen]
  refine(V.pre G h1 _ ⟨by simp[below],hcb⟩).mono ?_
  rintro r h ⟨rfl,rfl⟩
  simp-implicitDefEqProofs[aa,hlen,hxl]
  refine az (λi:Nat=>ag 20 [(1,.fn (.func V.F) V.caps),(2,.ptr V.n 4 0 0),(10,.p (exL e.kids)),(11,.p (.int .i64 e.kids.length)),(12,.p (.int .i64 i))])
   (λi=>V.I ((dc (e.kids.take i)).foldl step (step st e))++[.row 4 [[.p (.int .i64 e.op),.p (.int .i64 e.n),.p (.str e.name),.p (exL e.kids)]]]) (λi=>i<=e.kids.length) (λi=>e.kids.length-i) 0 (by simp) ?_ ?_
  ·refine V.same (r:=[_]) (s:=[]) _ (Uf _) (by simp[okO,below]) ?_
   simp[below,hxl,hcb1]
  intro i hil
  simp-implicitDefEqProofs[hxl]
  refine bj (λhc=>?_) (λhc=>?_)
  ·simp at hc
   have hg:=Ub hc
   have hks:=aS (Uo hc)
   have hkc:=e.kids[i].cs_eq
   have hI:=(ih e.kids[i] (by omega) (by omega) _ (hinv i hil)).2
   rw[hkc] at hI
   simp-implicitDefEqProofs[hg,hkc,hlen]
   refine(V.pre G hI _ ⟨by simp[below],by simp[below,hcb],trivial⟩).mono ?_
   rintro r h ⟨rfl,rfl⟩
   simp-implicitDefEqProofs[aa]
   refine⟨i+1,hc,by omega,?_⟩
   have hf:(dc (e.kids.take (i+1))).foldl step (step st e)=e.kids[i].pre.foldl step ((dc (e.kids.take i)).foldl step (step st e)):=by
    rw[ah hc,sI,List.foldl_append,dc,dc,UG]
   rw[hf]
   refine V.same (r:=[_]) (s:=[_]) _ (Uf _) (by simp[okO,below]) ?_
   simp[below,hxl,hcb1,w1 (i:=i) (by omega)]
  ·simp at hc
   have hie:i=e.kids.length:=by omega
   subst hie
   rw[UU,Ex.pre_eq,List.foldl_cons]
   simp-implicitDefEqProofs[]
theorem No{σ:Type}(V:Vis σ)(step:σ->Sm × Nat->σ)(inv:σ->Prop)(B:Nat)(hB:B<=1073741824)
 (hv:∀st s d,inv st->s.sz<=B->inv (step st (s,d))/\AC Tryz.prog G V.F (.agg (s.cs.map .p):: .p (.int .i64 (d:Nat))::V.caps) (V.I st) λx h=>x= .ret (.tup [])/\h=V.I (step st (s,d))):
 ∀(N:Nat) (l:List Sm),aK l<N->aK l<=B->∀(d:Nat),d+aK l<=1099511627776->∀st,inv st->inv ((bu d l).foldl step st)/\AC Tryz.prog G gr [.p (smL l),.p (.int .i64 d),.fn (.func V.F) V.caps] (V.I st) λx h=>x= .ret (.tup [])/\h=V.I ((bu d l).foldl step st):=by
 intro N
 induction N with
 |zero=>intro l h;omega
 |succ N ih=>
  intro l hl hz d hd st hi
  have hll:=bp l
  have hlen:=V.len
  have hsl:∀l,smL l= .lst 5 (l.map Sm.cs):=λ_=>rfl
  have hone:∀s:Sm,s∈l->∀st,inv st->inv ((s.pre d).foldl step st):=by
   intro s hs st hi
   have hm:=aQ hs
   have hsz:=s.sz_eq
   have i1:=(hv st s d hi (by omega)).1
   have i2:=(ih s.body (by omega) (by omega) (d+1) (by omega) _ i1).1
   have i3:=(ih s.els (by omega) (by omega) (d+1) (by omega) _ i2).1
   rw[Sm.pre_eq,List.foldl_cons,List.foldl_append]
   exact i3
  have hinv:∀i,i<=l.length->inv ((bu d (l.take i)).foldl step st):=by
   intro i
   induction i with
   |zero=>intro _;exact hi
   |succ i ihi=>
    intro hl
    have hg:i<l.length:=by omega
    rw[ah hg,se,List.foldl_append,bu,bu,UG]
    exact hone _ (Uo hg) _ (ihi (by omega))
  refine⟨?_,?_⟩
  ·have:=hinv l.length (Uf _)
   rwa[UU] at this
  refine V.trim G (AC.go BY ?_) (by simp[below])
  have hcb:=V.capsOk
  simp-implicitDefEqProofs[to,hsl]
  refine az (λi:Nat=>ag 31 [(1,.p (.int .i64 d)),(2,.fn (.func V.F) V.caps),(8,.p (smL l)),(9,.p (.int .i64 l.length)),(10,.p (.int .i64 i))])
   (λi=>V.I ((bu d (l.take i)).foldl step st)) (λi=>i<=l.length) (λi=>l.length-i) 0 (by simp) ?_ ?_
  ·rw[hlen]
   have:=V.same0 (s:=[]) st (k:=V.n) (n:=31) (Uf _) (l:=[(10,.p (.int .i64 0)),(9,.p (.int .i64 l.length)),(8,.p (smL l)),(0,.p (smL l)),(1,.p (.int .i64 d)),(2,.fn (.func V.F) V.caps)]) (l1:=[(1,.p (.int .i64 d)),(2,.fn (.func V.F) V.caps),(8,.p (smL l)),(9,.p (.int .i64 l.length)),(10,.p (.int .i64 0))]) (by simp[below,hcb])
   rw[UG] at this
   exact this
  intro i hil
  simp-implicitDefEqProofs[hsl]
  refine bj (λhc=>?_) (λhc=>?_)
  ·simp at hc
   have hg:=Ub hc
   have hks:=aQ (Uo hc)
   have hkc:=l[i].cs_eq
   have hsz:=l[i].sz_eq
   have hf:(bu d (l.take (i+1))).foldl step st=(l[i].pre d).foldl step ((bu d (l.take i)).foldl step st):=by
    rw[ah hc,se,List.foldl_append,bu,bu,UG]
   have ii:=hinv i hil
   obtain⟨i1,h1⟩:=hv _ l[i] d ii (by omega)
   obtain⟨i2,h2⟩:=ih l[i].body (by omega) (by omega) (d+1) (by omega) _ i1
   obtain⟨i3,h3⟩:=ih l[i].els (by omega) (by omega) (d+1) (by omega) _ i2
   rw[Sm.pre_eq,List.foldl_cons,List.foldl_append] at hf
   have hwd:IntKind.i64.wrap ((d:Int)+1)=((d+1:Nat):Int):=by rw[af (by omega) (by omega)];omega
   rw[hkc] at h1
   simp-implicitDefEqProofs[hg,hkc,hlen]
   refine(V.pre G h1 _ ⟨by simp,by simp,hcb⟩).mono ?_
   rintro r h ⟨rfl,rfl⟩
   simp-implicitDefEqProofs[aa,hlen,hwd]
   refine(V.pre G h2 _ ⟨by simp,by simp,by simp[below,hcb],trivial⟩).mono ?_
   rintro r h ⟨rfl,rfl⟩
   simp-implicitDefEqProofs[aa,hlen,hwd]
   refine(V.pre G h3 _ ⟨by simp,by simp,by simp[below,hcb],trivial⟩).mono ?_
   rintro r h ⟨rfl,rfl⟩
   simp-implicitDefEqProofs[aa]
   refine⟨i+1,hc,by omega,?_⟩
   rw[hf]
   refine V.same0 (s:=[_]) _ (Uf _) ?_
   simp[below,hsl,hcb,w1 (i:=i) (by omega)]
  ·simp at hc
   have hie:i=l.length:=by omega
   subst hie
   rw[UU]
   simp-implicitDefEqProofs[]
end
section
variable (G:aq)
abbrev MS:=Int × Int
def ri(st:MS)(x:Sm × Nat):MS:=(IntKind.i64.wrap (st.1+1),if st.2<(x.2:Int) then(x.2:Int) else st.2)
def rD(l:List Fd)(st:MS):MS:=l.foldl (λst f=>(bu 1 f.body).foldl ri st) st
theorem yY:∀(l:List (Sm × Nat)) (st:MS),0<=st.1->st.1+l.length<=1099511627776->(l.foldl ri st).1=st.1+l.length
 |[],st,_,_=>by simp
 |x::r,st,h0,h=>by
  have hw:IntKind.i64.wrap (st.1+1)=st.1+1:=af (by omega) (by simp at h;omega)
  rw[List.foldl_cons,yY r _ (by simp only[ri,hw];omega) (by simp only[ri,hw];simp at h;omega)]
  simp only[ri,hw,Ur]
  omega
theorem Ai:∀(l:List Fd) (st:MS),0<=st.1->st.1+mG l<=1099511627776->(rD l st).1=st.1+mG l
 |[],st,_,_=>by simp[rD,mG]
 |f::r,st,h0,h=>by
  have ha:mG (f::r)=dJ f.body+mG r:=by simp[mG]
  have hs:=yY (bu 1 f.body) st h0 (by rw[kD];omega)
  rw[kD] at hs
  have:=Ai r ((bu 1 f.body).foldl ri st) (by omega) (by omega)
  simp only[rD,List.foldl_cons] at this⊢
  omega
theorem Fi{l:List Fd}{st:MS}{i:Nat}(h:i<l.length):rD (l.take (i+1)) st=(bu 1 l[i].body).foldl ri (rD (l.take i) st):=by
 rw[rD,ah h,List.foldl_append];rfl
def nG(p:PV):Vis MS where
 I:=λst=>[.row 1 [[.p p]],.row 1 [[.p (.int .i64 st.1)]],.row 1 [[.p (.int .i64 st.2)]]]
 n:=3
 F:=eL
 caps:=[.ptr 1 1 0 0,.ptr 2 1 0 0]
 len:=λ_=>rfl
 ok:=λst=>by simp[okO,below]
 capsOk:=by simp[below]
theorem EF(p:PV)(st:MS)(s:Sm)(d:Nat):AC Tryz.prog G eL [.agg (s.cs.map .p),.p (.int .i64 d),.ptr 1 1 0 0,.ptr 2 1 0 0] ((nG p).I st) λx h=>x= .ret (.tup [])/\h=(nG p).I (ri st (s,d)):=by
 refine(nG p).trim G (AC.go uC ?_) (by simp[below])
 have hse:=s.cs_eq
 simp-implicitDefEqProofs[mL,hse,nG,ri]
theorem IL(l:List Fd)(hl:be l<=1073741824):VF Tryz.prog G kX [.agg [.p (fdL l)]] (.tup [.p (.int .i64 (mG l)),.p (.int .i64 (rD l (0,0)).2)]):=by
 refine AC.go zi ?_
 have hll:=eh l
 have hfl:∀l,fdL l= .lst 3 (l.map Fd.cs):=λ_=>rfl
 have hn:(rD l (0,0)).1=mG l:=by rw[Ai l (0,0) (by simp) (by simp only;have:=Cc l;omega)];simp
 simp-implicitDefEqProofs[nQ,hfl]
 refine az (λi:Nat=>ag 20 [(2,.ptr 1 1 0 0),(3,.ptr 2 1 0 0),(7,.p (fdL l)),(8,.p (.int .i64 l.length)),(9,.p (.int .i64 i))])
  (λi=>(nG (fdL l)).I (rD (l.take i) (0,0))) (λi=>i<=l.length) (λi=>l.length-i) 0 (by simp) ?_ ?_
 ·exact ab (h:=(nG (fdL l)).I (0,0)) (by simp) ((nG (fdL l)).ok _) (by simp[below,hfl,nG])
 intro i hil
 simp-implicitDefEqProofs[hfl]
 refine bj (λhc=>?_) (λhc=>?_)
 ·simp at hc
  have hg:=Ub hc
  have hks:=cK (Uo hc)
  have hcs:l[i].cs=[.str l[i].name,aD l[i].params,smL l[i].body]:=rfl
  have hfz:l[i].sz=1+l[i].name.length+(l[i].params.length+(l[i].params.map List.length).sum)+aK l[i].body:=rfl
  have hI:=(No G (nG (fdL l)) ri (λ_=>True) 1073741824 (by omega) (λst s d _ _=>⟨trivial,EF G _ st s d⟩) (aK l[i].body+1) l[i].body (by omega) (by omega) 1 (by omega) (rD (l.take i) (0,0)) trivial).2
  have hlen:=(nG (fdL l)).len
  have h3:(nG (.lst 3 (l.map Fd.cs))).n=3:=rfl
  have hlen':∀st,((nG (.lst 3 (l.map Fd.cs))).I st).length=3:=λ_=>rfl
  simp-implicitDefEqProofs[hg,hcs,hlen']
  refine((nG (fdL l)).pre G hI [_] ⟨by simp,by simp,by simp[below,nG],trivial⟩).mono ?_
  rintro r h ⟨rfl,rfl⟩
  simp-implicitDefEqProofs[aa]
  refine⟨i+1,hc,by omega,?_⟩
  rw[Fi hc]
  refine(nG (fdL l)).same0 (s:=[_]) _ (by simp[nG]) ?_
  simp[below,hfl,nG,w1 (i:=i) (by omega)]
 ·simp at hc
  have hie:i=l.length:=by omega
  subst hie
  rw[UU]
  simp-implicitDefEqProofs[nG,hn]
theorem uS(hK:G iy=some gy)(s:List UInt8)(hb:s.length<=140737488355328):VF Tryz.prog G bi [.p (.str s)] (.p (.bool (!aC s))):=by
 refine AC.go nF ?_
 simp-implicitDefEqProofs[hU]
 refine(oq G hK s hb).use ?_
 simp-implicitDefEqProofs[]
def FQ(L:List (List UInt8)):Int:=match L.findIdx? (λw=> !aC w) with|some i=>i|none=> -1
theorem KA(L:List (List UInt8)):decide (0<=FQ L)= !(L.all aC):=by
 unfold FQ
 cases h:L.findIdx? (λx=> !aC x) with
 |none=>
  rw[UH] at h
  have:L.all aC=true:=Ui.2 λx hx=>by have:=h x hx;simpa using this
  simp[this]
 |some i=>
  rw[Us] at h
  obtain⟨h1,h2,_⟩:=h
  have:L.all aC=false:=List.all_eq_false.2 ⟨_,Uo h1,by simpa using h2⟩
  rw[this];simp
theorem Lo{L:List (List UInt8)}{n:Nat}(h:(L.map List.length).sum<=n):∀x∈L,x.length<=n:=by
 induction L with
 |nil=>intro x hx;cases hx
 |cons y r ih=>
  intro x hx
  simp only[UA,List.sum_cons] at h
  rcases Uj.1 hx with rfl|hx
  ·omega
  ·exact ih (by omega) x hx
variable (hK:G iy=some gy)
include hK
theorem FA(L:List (List UInt8))(hb:L.length<=1073741824)(hw:∀x∈L,x.length<=140737488355328):VF Tryz.prog G cF [.p (aD L),.fn (.func bi) []] (.p (.int .i64 (FQ L))):=by
 refine AC.go kZ ?_
 have hsl:aD L= .lst 1 (L.map λw=>[.str w]):=rfl
 simp-implicitDefEqProofs[eV,hsl]
 refine az (λi:Nat=>ag 19 [(0,.p (aD L)),(1,.fn (.func bi) []),(6,.p (aD L)),(7,.p (.int .i64 L.length)),(8,.p (.int .i64 i))]) (λ_=>[]) (λi=>i<=L.length/\∀w∈L.take i,aC w=true) (λi=>L.length-i) 0 (by simp) ?_ ?_
 ·exact ab (by simp) (by simp[okO]) (by simp[below,aj,aD])
 ·intro i ⟨hi,hn⟩
  simp-implicitDefEqProofs[hsl]
  refine bj (λh1=>?_) (λh1=>?_)
  ·simp at h1
   have hg:=Ub h1
   simp-implicitDefEqProofs[hg]
   refine(uS G hK _ (hw _ (Uo h1))).use ?_
   by_cases he:aC L[i]=true
   ·simp-implicitDefEqProofs[he]
    refine⟨i+1,⟨h1,λp hp=>?_⟩,by omega,ab (by simp) (by simp[okO]) ?_⟩
    ·rw[ah h1] at hp
     rcases Un.1 hp with hp|hp
     ·exact hn p hp
     ·rw[Up.1 hp];exact he
    ·simp[below,aj,aD,w1 (i:=i) (by omega)]
   ·have hf:FQ L=i:=by
     have:L.findIdx? (λw=> !aC w)=some i:=by
      rw[Us]
      exact⟨h1,by simpa using he,λj hj=>by have:=hn L[j] (UZ.2 ⟨j,by omega,rfl⟩);simpa using this⟩
     rw[FQ,this]
    simp-implicitDefEqProofs[he,hf]
  ·simp at h1
   rw[Uq h1] at hn
   have hf:FQ L= -1:=by
    have:L.findIdx? (λw=> !aC w)=none:=by
     rw[UH];intro x hx;simpa using hn x hx
    rw[FQ,this]
   simp-implicitDefEqProofs[hf]
theorem AU(L:List (List UInt8))(hb:L.length<=1073741824)(hw:∀x∈L,x.length<=140737488355328):VF Tryz.prog G bW [.p (aD L),.fn (.func bi) []] (.p (.bool (!L.all aC))):=by
 rw[←KA]
 refine AC.go jj ?_
 simp-implicitDefEqProofs[dN]
 refine(FA G hK L hb hw).use ?_
 simp-implicitDefEqProofs[]
variable (hS:G dK=some [.tbl opK opV])
include hS
theorem yV(l:List Fd)(hl:be l<=1073741824):VF Tryz.prog G fy [.agg [.p (fdL l)]] (.p (.bool (cy l))):=by
 refine AC.go py ?_
 have hll:=eh l
 have hfl:∀l,fdL l= .lst 3 (l.map Fd.cs):=λ_=>rfl
 have hm:=IL G l hl
 rw[hfl] at hm
 simp-implicitDefEqProofs[jt,hfl]
 refine(kS G _ _ _).use ?_
 by_cases h1:inR l.length 1 4=true
 case neg=>simp-implicitDefEqProofs[h1,cy]
 simp-implicitDefEqProofs[h1]
 refine az (λi:Nat=>ag 48 [(1,.ptr 0 1 0 0),(13,.p (fdL l)),(14,.p (.int .i64 l.length)),(15,.p (.int .i64 i))]) (λ_=>[.row 1 [[.p (.lst 3 (l.map Fd.cs))]]]) (λi=>i<=l.length/\(l.take i).all ka=true) (λi=>l.length-i) 0 (by simp) (ab (by simp) (by simp[okO]) (by simp[below,hfl])) ?_
 intro i ⟨hi,ha⟩
 simp-implicitDefEqProofs[hfl]
 refine bj (λh=>?_) (λh=>?_)
 ·simp at h
  have hg:=Ub h
  have hks:=cK (Uo h)
  have hbadF:ka l[i]=false->cy l=false:=λhk'=>by simp only[cy,nj h hk',Bool.and_false,Bool.false_and]
  have hcs:l[i].cs=[.str l[i].name,aD l[i].params,smL l[i].body]:=rfl
  have hfz:l[i].sz=1+l[i].name.length+(l[i].params.length+(l[i].params.map List.length).sum)+aK l[i].body:=rfl
  have hokF:ka l[i]=(l[i].params.all aC&&aC l[i].name&&decide (l[i].params.length<=3)&&l[i].body.all (aB 4)):=rfl
  have hblk:=uZ G 4 1 (λs hs=>by simpa using JT G hK hS 4 (by omega) s hs) l[i].body (by omega)
  have hcon:=AU G hK l[i].params (by omega) (Lo (by omega))
  have hst:aD l[i].params= .lst 1 (l[i].params.map λw=>[.str w]):=rfl
  generalize l[i]=f at*
  rw[hst] at hcon
  simp-implicitDefEqProofs[hg,hcs,hst]
  refine(oq G hK _ (by omega)).use ?_
  by_cases k1:aC f.name=true
  case neg=>
   rw[hbadF (by rw[hokF];simp[k1])]
   simp-implicitDefEqProofs[k1]
  by_cases k2:f.params.length<=3
  case neg=>
   have k2':(3:Int)<f.params.length:=by omega
   rw[hbadF (by rw[hokF];simp[k2])]
   simp-implicitDefEqProofs[k1,k2']
  have k2':¬(3:Int)<f.params.length:=by omega
  simp-implicitDefEqProofs[k1,k2']
  refine hcon.use ?_
  by_cases k3:f.params.all aC=true
  case neg=>
   have k3':f.params.all aC=false:=by simpa using k3
   rw[hbadF (by rw[hokF,k3'];simp)]
   simp-implicitDefEqProofs[k3']
  simp only[k3]
  simp-implicitDefEqProofs[]
  refine hblk.use ?_
  by_cases k4:f.body.all (aB 4)=true
  case neg=>
   have k4':f.body.all (aB 4)=false:=by simpa using k4
   rw[hbadF (by rw[hokF,k4'];simp)]
   simp only[k4']
   simp-implicitDefEqProofs[]
  simp only[k4]
  simp-implicitDefEqProofs[]
  have hk:ka f=true:=by rw[hokF,k1,k3,k4];simp[k2]
  refine⟨i+1,⟨h,by rw[←Ui,oa hg,ha,hk];rfl⟩,by omega,lH (m:=1) (by omega) (fB rfl rfl (by simp[okO,below])) (by simp[below,hfl,w1 (i:=i) (by omega)])⟩
 ·simp at h
  have h2:l.all ka=true:=gm h ha
  simp-implicitDefEqProofs[]
  refine hm.use ?_
  have hff:cy l=decide (mG l<=40):=by simp only[cy,h1,h2,Bool.true_and]
  simp-implicitDefEqProofs[hff]
  omega
end
section
variable (G:aq)
theorem Fe(l:List Fd)(s:List UInt8)(hl:l.length<=1073741824):VF Tryz.prog G iR [.agg [.p (fdL l)],.p (.str s)] (.p (.int .i64 (ixI (bL l s)))):=by
 have hfl:∀l,fdL l= .lst 3 (l.map Fd.cs):=λ_=>rfl
 have fz:∀f:Fd,AC Tryz.prog G fE [.agg (f.cs.map .p),.ptr 1 1 0 0] [.row 1 [[.p (fdL l)]],.row 1 [[.p (.str s)]]] λx h=>x= .ret (.p (.bool (decide (f.name=s))))/\h=[.row 1 [[.p (fdL l)]],.row 1 [[.p (.str s)]]]:=by
  intro f
  have hcs:f.cs=[.str f.name,aD f.params,smL f.body]:=rfl
  refine AC.trim (AC.go AQ ?_) (by simp[below])
  simp-implicitDefEqProofs[pZ,hcs]
 have idx:AC Tryz.prog G cx [.p (fdL l),.fn (.func fE) [.ptr 1 1 0 0]] [.row 1 [[.p (fdL l)]],.row 1 [[.p (.str s)]]] λx h=>x= .ret (.p (.int .i64 (ixI (bL l s))))/\h=[.row 1 [[.p (fdL l)]],.row 1 [[.p (.str s)]]]:=by
  refine AC.go kb ?_
  simp-implicitDefEqProofs[eC,hfl]
  refine az (λi:Nat=>ag 19 [(0,.p (fdL l)),(1,.fn (.func fE) [.ptr 1 1 0 0]),(7,.p (.int .i64 l.length)),(8,.p (.int .i64 i))]) (λ_=>[.row 1 [[.p (fdL l)]],.row 1 [[.p (.str s)]]]) (λi=>i<=l.length/\∀f∈l.take i,f.name≠s) (λi=>l.length-i) 0 (by simp) ?_ ?_
  ·exact ab (by simp) (by simp[okO,below]) (by simp[below,aj,hfl])
  ·intro i ⟨hi,hn⟩
   simp-implicitDefEqProofs[hfl]
   refine bj (λh1=>?_) (λh1=>?_)
   ·simp at h1
    have hg:=Ub h1
    simp-implicitDefEqProofs[hg]
    refine(fz l[i]).mono ?_
    rintro r h ⟨rfl,rfl⟩
    by_cases he:l[i].name=s
    ·have hf:bL l s=some i:=by
      rw[bL,Us]
      exact⟨h1,by simpa using he,λj hj=>by have:=hn l[j] (UZ.2 ⟨j,by omega,rfl⟩);simpa using this⟩
     simp-implicitDefEqProofs[aa,he,hf,ixI]
     exact hfl l
    ·simp-implicitDefEqProofs[aa,he]
     refine⟨i+1,⟨h1,λp hp=>?_⟩,by omega,ab (h:=[.row 1 [[.p (fdL l)]],.row 1 [[.p (.str s)]]]) (by simp) (by simp[okO,below]) (by simp[below,aj,hfl,w1 (i:=i) (by omega)])⟩
     rw[ah h1] at hp
     rcases Un.1 hp with hp|hp
     ·exact hn p hp
     ·rw[Up.1 hp];exact he
   ·simp at h1
    rw[Uq h1] at hn
    have hf:bL l s=none:=by
     rw[bL,UH];intro x hx;simpa using hn x hx
    simp-implicitDefEqProofs[hf,ixI]
 refine AC.go DO ?_
 simp-implicitDefEqProofs[vA]
 refine idx.mono ?_
 rintro r h ⟨rfl,rfl⟩
 simp-implicitDefEqProofs[aa]
structure GS where (gap:List AO) (m:Scp)
def mpE(m:Scp):List (PV × AV):=m.map λx=>(.str x.1,.p (.int .i64 x.2))
def scL:List GS->Nat
 |[]=>0
 |g::up=>scL up+g.gap.length+2
def upV:List GS->AV
 |[]=> .nilp
 |g::up=> .ptr (2+scL up+g.gap.length+1) 2 0 0
def scH:List GS->List AO
 |[]=>[]
 |g::up=>scH up++(g.gap++[.mp (mpE g.m),.row 2 [[.mp (2+scL up+g.gap.length),upV up]]])
theorem lG:∀ch:List GS,(scH ch).length=scL ch
 |[]=>rfl
 |g::up=>by simp only[scH,scL,Uu,lG up,Ur,List.length_nil];omega
def cO(fns:List Fd)(k:Nat)(c:Int):AO:= .row 3 [[.p (fdL fns),.p (.int .i64 k),.p (.int .i64 c)]]
def CH(b0:AO)(fns:List Fd)(k:Nat)(c:Int)(ch:List GS):List AO:=b0::cO fns k c::scH ch
theorem iq(b0:AO)(fns:List Fd)(k:Nat)(c:Int)(ch:List GS):(CH b0 fns k c ch).length=2+scL ch:=by
 simp only[CH,Ur,lG];omega
def ze:List GS->Prop
 |[]=>True
 |g::up=>(∀o∈g.gap,okO (2+scL up+g.gap.length) o)/\ze up
theorem jO:∀(ch:List GS) {n:Nat},2+scL ch<=n->below n (upV ch)
 |[],_,_=>by simp[upV,below]
 |g::up,n,h=>by simp only[scL] at h;simp only[upV,below];omega
theorem Fq:∀(ch:List GS) {n:Nat},ze ch->2+scL ch<=n->∀o∈scH ch,okO n o
 |[],_,_,_,o,ho=>by cases ho
 |g::up,n,⟨h1,h2⟩,hn,o,ho=>by
  simp only[scL] at hn
  rw[scH] at ho
  rcases Un.1 ho with h|h
  ·exact Fq up h2 (by omega) o h
  ·rcases Un.1 h with h|h
   ·exact tC (by omega) (h1 o h)
   ·simp only[Uj,UF,or_false] at h
    rcases h with rfl|rfl
    ·intro e he
     obtain⟨x,_,rfl⟩:=Uw.1 he
     simp[below]
    ·intro e he
     rw[Up.1 he]
     exact⟨by simp only[below];omega,jO up (by omega),trivial⟩
theorem DM{b0:AO}{fns:List Fd}{k:Nat}{c:Int}{ch:List GS}(hb:okO 0 b0)(hs:ze ch){n:Nat}(hn:2+scL ch<=n):∀o∈CH b0 fns k c ch,okO n o:=
 an (iz hb) (an (by intro e he;rw[Up.1 he];simp[below]) (Fq ch hs hn))
theorem tz(s:List UInt8):∀m:Scp,eS (.str s) (mpE m)=some ((dM m s).map λn=>AV.p (.int .i64 n))
 |[]=>rfl
 |x::r=>by
  have ih:=tz s r
  by_cases h:x.1=s
  ·simp[mpE,eS,keq,h,dM]
  ·have h':¬s=x.1:=λe=>h e.symm
   simp only[mpE,UA,eS,keq,h',decide_false]
   simp only[mpE] at ih
   rw[ih];simp[dM,h]
theorem zx(s:List UInt8)(n:Nat):∀m:Scp,gq (.str s) (.p (.int .i64 n)) (mpE m)=some (mpE (gf m s n))
 |[]=>rfl
 |x::r=>by
  have ih:=zx s n r
  by_cases h:x.1=s
  ·simp[mpE,gq,keq,h,gf]
  ·have h':¬s=x.1:=λe=>h e.symm
   simp only[mpE,UA,gq,keq,h',decide_false]
   simp only[mpE] at ih
   rw[ih];simp[gf,h]
abbrev sco(ch:List GS):List Scp:=ch.map GS.m
theorem LL:∀(pre:List GS) (g:GS) (up:List GS),(scH (pre++g::up))[scL up+g.gap.length]?=some (.mp (mpE g.m))/\(scH (pre++g::up))[scL up+g.gap.length+1]?=some (.row 2 [[.mp (2+scL up+g.gap.length),upV up]])
 |[],g,up=>by
  have hl:(scH up++g.gap).length=scL up+g.gap.length:=by rw[Uu,lG]
  have e:scH (g::up)=(scH up++g.gap)++[.mp (mpE g.m),.row 2 [[.mp (2+scL up+g.gap.length),upV up]]]:=by rw[scH,UK]
  rw[List.nil_append,e]
  exact⟨by rw[←hl,Um (Uf _)];simp,by rw[←hl,Um (by omega)];simp⟩
 |p::pre,g,up=>by
  obtain⟨h1,h2⟩:=LL pre g up
  have hm1:=(Ua.1 h1).1
  have hm2:=(Ua.1 h2).1
  rw[UN,scH]
  exact⟨by rw[Ue hm1];exact h1,by rw[Ue hm2];exact h2⟩
theorem FN(ch:List GS):(upV ch).isCell=true:=by cases ch<;>rfl
theorem IT(ch:List GS):(upV ch).cells=[upV ch]:=by cases ch<;>rfl
attribute [simp ↓] FN IT
theorem Cj(b0:AO)(fns:List Fd)(k:Nat)(c e:Int)(r:List AO):AC Tryz.prog G cd [.ptr 1 3 0 0,.p (.int .i64 e)] (b0::cO fns k c::r) λx h=>x= .ret (.tup [])/\h=b0::cO fns k (fl c e)::r:=by
 refine AC.go pM ?_
 by_cases h0:c=0
 ·simp-implicitDefEqProofs[ft,cO,h0,fl]
 ·simp-implicitDefEqProofs[ft,cO,h0,fl]
theorem zK(up:AV)(hu:up= .nilp\/∃i,up= .ptr i 2 0 0)(h:List AO):AC Tryz.prog G cL [up] h λx h'=>x= .ret (.ptr (h.length+1) 2 0 0)/\h'=h++[.mp [],.row 2 [[.mp h.length,up]]]:=by
 refine AC.go sZ ?_
 rcases hu with rfl|⟨i,rfl⟩
 ·simp-implicitDefEqProofs[gD]
 ·simp-implicitDefEqProofs[gD]
theorem Ms(b0 c0:AO)(ch:List GS)(rest:List AO)(s:List UInt8):AC Tryz.prog G bS [upV ch,.p (.str s)] (b0::c0::(scH ch++rest)) λx h=>x= .ret (.tup [.p (.int .i64 (((jf (sco ch) s).getD 0:Nat):Int)),.p (.bool (jf (sco ch) s).isSome)])/\h=b0::c0::(scH ch++rest):=by
 refine AC.goB tf λhb=>?_
 simp-implicitDefEqProofs[lw]
 have hHl:(b0::c0::(scH ch++rest)).length=2+scL ch+rest.length:=by simp only[Ur,Uu,lG];omega
 refine az (λr:List GS=>ag 25 [(0,upV r),(1,.p (.str s))]) (λ_=>b0::c0::(scH ch++rest)) (λr=>∃pre,ch=pre++r/\jf (sco ch) s=jf (sco r) s) (λr=>r.length) ch ⟨[],rfl,rfl⟩ ?_ ?_
 ·refine kr (by simp) hb ?_
  rw[hHl]
  exact⟨⟨jO ch (by omega),by simp⟩,⟨by simp,by simp⟩,trivial⟩
 rintro r ⟨pre,e1,e2⟩
 cases r with
 |nil=>
  rw[e2]
  simp-implicitDefEqProofs[upV,jf]
 |cons g up=>
  obtain⟨a1,a2⟩:=LL pre g up
  rw[←e1] at a1 a2
  have b1:=(Ua.1 a1).1
  have b2:=(Ua.1 a2).1
  have l1:(b0::c0::(scH ch++rest))[2+scL up+g.gap.length]?=some (.mp (mpE g.m)):=by
   rw[show 2+scL up+g.gap.length=(scL up+g.gap.length)+1+1 by omega,UP,UP,Ue b1,a1]
  have l2:(b0::c0::(scH ch++rest))[2+scL up+g.gap.length+1]?=some (.row 2 [[.mp (2+scL up+g.gap.length),upV up]]):=by
   rw[show 2+scL up+g.gap.length+1=(scL up+g.gap.length+1)+1+1 by omega,UP,UP,Ue b2,a2]
  have hmg:=tz s g.m
  have hle:=lG ch
  rw[e2]
  generalize hH:b0::c0::(scH ch++rest)=H at*
  have hup:upV (g::up)= .ptr (2+scL up+g.gap.length+1) 2 0 0:=rfl
  cases hh:dM g.m s with
  |some n=>
   rw[hh] at hmg
   simp-implicitDefEqProofs[hup,l1,l2,hmg,jf,hh]
  |none=>
   rw[hh] at hmg
   simp-implicitDefEqProofs[hup,l1,l2,hmg,jf,hh]
   refine⟨up,⟨⟨pre++[g],by rw[e1];simp⟩,rfl⟩,by simp,?_⟩
   refine kr ?_ hb ?_
   ·rw[hHl,lG];omega
   ·refine⟨⟨jO up ?_,?_⟩,⟨by simp,by simp⟩,trivial⟩
    ·rw[hHl]
     have:=congrArg List.length e1
     have h3:=(Ua.1 l2).1
     rw[hHl] at h3
     omega
    ·simp
end
section
variable (G:aq)
theorem OB{f:FuncId}{args:List AV}{h h1:List AO}{v:AV}(H:AC Tryz.prog G f args h λx h'=>x= .ret v/\∃l,h'=h1++l)(hl:h1.length=h.length)(ho:∀o∈h1,okO h.length o)(hv:below h.length v):
 AC Tryz.prog G f args h λx h'=>x= .ret v/\h'=h1:=by
 refine H.wk (λt v h ⟨e,_⟩=>by cases e) ?_
 rintro u h' ⟨e,l,rfl⟩
 cases e
 refine⟨v,h1,zC (n:=h.length) (Uf _) (fB ?_ hl ho) ?_,rfl,rfl⟩
 ·rw[←hl,List.take_left'];rfl
 ·simp[Fgt,hv]
theorem Pi{f:FuncId}{args:List AV}{b0:AO}{fns:List Fd}{k:Nat}{c c':Int}{ch ch':List GS}{v:AV}(H:AC Tryz.prog G f args (CH b0 fns k c ch) λx h=>x= .ret v/\h=CH b0 fns k c' ch')(hb:okO 0 b0)(hs:ze ch)(hl:scL ch'=scL ch)(rest:List AO)(ha:aj (2+scL ch) args):
 AC Tryz.prog G f args (CH b0 fns k c ch++rest) λx h=>x= .ret v/\h=CH b0 fns k c' ch'++rest:=by
 refine(AC.pre H rest (by rw[iq];exact ha) (by rw[iq];exact DM hb hs (Uf _)) ?_).mono ?_
 ·rintro x h ⟨_,rfl⟩;rw[iq,iq,hl]
 ·rintro x h ⟨h1,⟨rfl,rfl⟩,rfl⟩
  exact⟨rfl,rfl⟩
def bxs(ch:List GS)(q:List AV):List AO:=[.row 1 [[.ptr 1 3 0 0]],.row 4 [q],.row 1 [[upV ch]]]
def pK(b0:AO)(fns:List Fd)(k:Nat)(ch:List GS)(q:List PV)(hb:okO 0 b0)(hs:ze ch):Vis Int where
 I:=λc=>CH b0 fns k c ch++bxs ch (q.map .p)
 n:=2+scL ch+3
 F:=bI
 caps:=[.ptr (2+scL ch+2) 1 0 0,.ptr (2+scL ch) 1 0 0]
 len:=λc=>by rw[Uu,iq];rfl
 ok:=λc o ho=>by
  rcases Un.1 ho with h|h
  ·exact DM hb hs (by omega) o h
  ·simp only[bxs,Uj,UF,or_false] at h
   rcases h with rfl|rfl|rfl
   ·intro e he;rw[Up.1 he];exact⟨by simp only[below];omega,trivial⟩
   ·intro e he;rw[Up.1 he];exact bD (Vf _) _ (by simp)
   ·intro e he;rw[Up.1 he];exact⟨jO ch (by omega),trivial⟩
 capsOk:=by simp[below]
def eH(b0:AO)(fns:List Fd)(k:Nat)(ch:List GS)(q:List PV)(e:Ex)(c:Int):List AO:=b0::cO fns k c::(scH ch++(bxs ch (q.map .p)++[.row 4 [[.p (.int .i64 e.op),.p (.int .i64 e.n),.p (.str e.name),.p (exL e.kids)]]]))
section
variable {b0:AO} {fns:List Fd} {k:Nat} {ch:List GS} {q:List PV} {e:Ex} {c:Int}
theorem eH_eq{hb:okO 0 b0}{hs:ze ch}:(pK b0 fns k ch q hb hs).I c++[.row 4 [[.p (.int .i64 e.op),.p (.int .i64 e.n),.p (.str e.name),.p (exL e.kids)]]]=eH b0 fns k ch q e c:=by
 simp[pK,eH,CH]
theorem Of:(eH b0 fns k ch q e c)[1]?=some (.row 3 [[.p (fdL fns),.p (.int .i64 k),.p (.int .i64 c)]]):=rfl
theorem JO(i:Nat):(eH b0 fns k ch q e c)[2+scL ch+i]?=(bxs ch (q.map .p)++[.row 4 [[.p (.int .i64 e.op),.p (.int .i64 e.n),.p (.str e.name),.p (exL e.kids)]]])[i]?:=by
 rw[eH,show 2+scL ch+i=(scL ch+i)+1+1 by omega,UP,UP]
 exact NM (lG ch) i
theorem Jj:(eH b0 fns k ch q e c)[2+scL ch]?=some (.row 1 [[.ptr 1 3 0 0]]):=JO 0
theorem Sc:(eH b0 fns k ch q e c)[2+scL ch+2]?=some (.row 1 [[upV ch]]):=JO 2
theorem Lt:(eH b0 fns k ch q e c)[2+scL ch+3]?=some (.row 4 [[.p (.int .i64 e.op),.p (.int .i64 e.n),.p (.str e.name),.p (exL e.kids)]]):=JO 3
end
theorem La{fns:List Fd}{s:List UInt8}{j:Nat}(h:bL fns s=some j):j<fns.length:=by
 rw[bL,Us] at h;exact h.1
theorem Lr(b0:AO){fns:List Fd}{k:Nat}(hf:fns.length<=1073741824)(hk:k<=fns.length)(ch:List GS)(q:List PV)(hb:okO 0 b0)(hs:ze ch)(c:Int)(e:Ex)(he:e.sz<=1073741824):
 AC Tryz.prog G bI (.agg (e.cs.map .p)::(pK b0 fns k ch q hb hs).caps) ((pK b0 fns k ch q hb hs).I c) λx h=>x= .ret (.tup [])/\h=(pK b0 fns k ch q hb hs).I (fZ fns k (sco ch) c e):=by
 refine(pK b0 fns k ch q hb hs).trim G (AC.go nC ?_) (by simp[below])
 have hec:=e.cs_eq
 have hlen:((pK b0 fns k ch q hb hs).I c).length=2+scL ch+3:=(pK b0 fns k ch q hb hs).len c
 have hcaps:(pK b0 fns k ch q hb hs).caps=[.ptr (2+scL ch+2) 1 0 0,.ptr (2+scL ch) 1 0 0]:=rfl
 have fin:∀c',(∃l,eH b0 fns k ch q e c'=(pK b0 fns k ch q hb hs).I c'++l):=λc'=>⟨_,eH_eq.symm⟩
 have hfail:∀n,AC Tryz.prog G cd [.ptr 1 3 0 0,.p (.int .i64 n)] (eH b0 fns k ch q e c) λx h=>x= .ret (.tup [])/\h=eH b0 fns k ch q e (fl c n):=λn=>Cj G b0 fns k c n _
 have hkl:=aX e.kids
 have hsz:=e.sz_eq
 rw[hcaps]
 simp-implicitDefEqProofs[gW,hec,hlen]
 rw[eH_eq]
 generalize hV:(pK b0 fns k ch q hb hs).I=VI at fin⊢
 by_cases o2:e.op=2
 ·have hfind:AC Tryz.prog G bS [upV ch,.p (.str e.name)] (eH b0 fns k ch q e c) λx h=>x= .ret (.tup [.p (.int .i64 (((jf (sco ch) e.name).getD 0:Nat):Int)),.p (.bool (jf (sco ch) e.name).isSome)])/\h=eH b0 fns k ch q e c:=Ms G b0 (cO fns k c) ch _ e.name
  simp-implicitDefEqProofs[o2,Jj,Sc,Lt,Of]
  refine hfind.mono ?_
  rintro r h ⟨rfl,rfl⟩
  cases hfs:jf (sco ch) e.name with
  |some n=>
   have hv:fZ fns k (sco ch) c e=c:=by simp[fZ,o2,hfs]
   rw[hv]
   simp-implicitDefEqProofs[aa]
   exact fin c
  |none=>
   have hv:fZ fns k (sco ch) c e=fl c 3:=by simp[fZ,o2,hfs]
   rw[hv]
   simp-implicitDefEqProofs[aa,Jj]
   refine(hfail 3).mono ?_
   rintro r h ⟨rfl,rfl⟩
   simp-implicitDefEqProofs[aa]
   exact fin _
 by_cases o13:e.op=13
 ·have hfl:fdL fns= .lst 3 (fns.map Fd.cs):=rfl
  have hfk:fdL (fns.take k)= .lst 3 ((fns.map Fd.cs).take k):=by rw[←List.map_take];rfl
  have hxl:exL e.kids= .lst 4 (e.kids.map Ex.cs):=rfl
  have hAt:=Fe G (fns.take k) e.name (by rw[UD];omega)
  rw[hfk] at hAt
  simp-implicitDefEqProofs[o13,Jj,Sc,Lt,Of,hfl,hk]
  refine hAt.use ?_
  cases hfa:bL (fns.take k) e.name with
  |none=>
   have hv:fZ fns k (sco ch) c e=fl c 4:=by simp[fZ,o13,hfa]
   rw[hv]
   simp-implicitDefEqProofs[ixI,Jj]
   refine(hfail 4).mono ?_
   rintro r h ⟨rfl,rfl⟩
   simp-implicitDefEqProofs[aa]
   exact fin _
  |some j=>
   have hj:=La hfa
   rw[UD] at hj
   have hjl:j<fns.length:=by omega
   have hg:=Ub hjl
   have hjn:¬(j:Int)<0:=by omega
   have hcs:fns[j].cs=[.str fns[j].name,aD fns[j].params,smL fns[j].body]:=rfl
   have hst:aD fns[j].params= .lst 1 (fns[j].params.map λw=>[.str w]):=rfl
   have hpn:Az fns j=fns[j].params.length:=by simp[Az,hg]
   by_cases hp:fns[j].params.length=e.kids.length
   ·have hv:fZ fns k (sco ch) c e=c:=by simp[fZ,o13,hfa,hpn,hp]
    rw[hv]
    simp-implicitDefEqProofs[ixI,Jj,Of,Lt,hjn,hfl,hg,hcs,hst,hxl,hp]
    exact fin _
   ·have hv:fZ fns k (sco ch) c e=fl c 5:=by simp[fZ,o13,hfa,hpn,hp]
    have hp':¬(fns[j].params.length:Int)=(e.kids.length:Int):=by omega
    rw[hv]
    simp-implicitDefEqProofs[ixI,Jj,Of,Lt,hjn,hfl,hg,hcs,hst,hxl,hp']
    refine(hfail 5).mono ?_
    rintro r h ⟨rfl,rfl⟩
    simp-implicitDefEqProofs[aa]
    exact fin _
 ·have hv:fZ fns k (sco ch) c e=c:=by simp[fZ,o2,o13]
  rw[hv]
  simp-implicitDefEqProofs[o2,o13,Lt]
  exact fin _
theorem MK(ch:List GS):upV ch= .nilp\/∃i,upV ch= .ptr i 2 0 0:=by
 cases ch with
 |nil=>exact .inl rfl
 |cons g up=>exact .inr ⟨_,rfl⟩
theorem Pd(b0:AO){fns:List Fd}{k:Nat}(hf:fns.length<=1073741824)(hk:k<=fns.length)(ch:List GS)(hb:okO 0 b0)(hs:ze ch)(c:Int)(e:Ex)(he:e.sz<=1073741824):
 AC Tryz.prog G di [.ptr 1 3 0 0,.agg (e.cs.map .p),upV ch] (CH b0 fns k c ch) λx h=>x= .ret (.tup [])/\h=CH b0 fns k (e.pre.foldl (fZ fns k (sco ch)) c) ch:=by
 refine OB G (h:=CH b0 fns k c ch) (AC.go pD ?_) (by rw[iq,iq]) (by rw[iq];exact DM hb hs (Uf _)) (by simp[below])
 have hec:=e.cs_eq
 have hlen:(CH b0 fns k c ch).length=2+scL ch:=iq _ _ _ _ _
 have hI:=(MD G (pK b0 fns k ch e.cs hb hs) (fZ fns k (sco ch)) (λ_=>True) 1073741824 (by omega) (λst x _ hx=>⟨trivial,Lr G b0 hf hk ch e.cs hb hs st x hx⟩) (e.sz+1) e (by omega) he c trivial).2
 have hcaps:(pK b0 fns k ch e.cs hb hs).caps=[.ptr (2+scL ch+2) 1 0 0,.ptr (2+scL ch) 1 0 0]:=rfl
 have hF:(pK b0 fns k ch e.cs hb hs).F=bI:=rfl
 have hVI:(pK b0 fns k ch e.cs hb hs).I c=CH b0 fns k c ch++[.row 1 [[.ptr 1 3 0 0]],.row 4 [[.p (.int .i64 e.op),.p (.int .i64 e.n),.p (.str e.name),.p (exL e.kids)]],.row 1 [[upV ch]]]:=by simp[pK,bxs,hec]
 rw[hcaps,hF,hVI,hec] at hI
 have hup:=MK ch
 generalize upV ch=u at hI hup⊢
 rcases hup with rfl|⟨i,rfl⟩
 ·simp-implicitDefEqProofs[fb,hec,hlen]
  refine hI.mono ?_
  rintro r h ⟨rfl,rfl⟩
  simp-implicitDefEqProofs[aa]
  exact⟨_,rfl⟩
 ·simp-implicitDefEqProofs[fb,hec,hlen]
  refine hI.mono ?_
  rintro r h ⟨rfl,rfl⟩
  simp-implicitDefEqProofs[aa]
  exact⟨_,rfl⟩
end
section
theorem oG:AK.whole ec=FK.ak eu:=rfl
theorem DW(fns:List Fd)(k:Nat):∀(a b:List Sm) (m:Scp) (up:List Scp) (c:Int),gV fns k (a++b) m up c=gV fns k b (gV fns k a m up c).1 up (gV fns k a m up c).2
 |[],b,m,up,c=>rfl
 |s::r,b,m,up,c=>by rw[UN,gV,gV,DW fns k r]
theorem IE{fns:List Fd}{k:Nat}{l:List Sm}{m:Scp}{up:List Scp}{c:Int}{i:Nat}(h:i<l.length):gV fns k (l.take (i+1)) m up c=icS fns k l[i] (gV fns k (l.take i) m up c).1 up (gV fns k (l.take i) m up c).2:=by
 rw[ah h,DW];rfl
def AX(b0:AO)(fns:List Fd)(k:Nat)(up:List GS)(gap:List AO)(c:Int):List AO:=b0::cO fns k c::(scH up++gap)
theorem Pc(b0:AO)(fns:List Fd)(k:Nat)(up:List GS)(gap:List AO)(c:Int):(AX b0 fns k up gap c).length=2+scL up+gap.length:=by
 simp only[AX,Ur,Uu,lG];omega
theorem Kb(b0:AO)(fns:List Fd)(k:Nat)(up:List GS)(gap:List AO)(m:Scp)(c:Int)(rest:List AO):CH b0 fns k c (⟨gap,m⟩::up)++rest=AX b0 fns k up gap c++(.mp (mpE m):: .row 2 [[.mp (2+scL up+gap.length),upV up]]::rest):=by
 simp[CH,AX,scH]
theorem KU(b0:AO)(fns:List Fd)(k:Nat)(up:List GS)(gap:List AO)(m:Scp)(c:Int):CH b0 fns k c (⟨gap,m⟩::up)=AX b0 fns k up gap c++[.mp (mpE m),.row 2 [[.mp (2+scL up+gap.length),upV up]]]:=by
 have:=Kb b0 fns k up gap m c []
 rwa[UG] at this
theorem Ru{b0:AO}{fns:List Fd}{k:Nat}{up:List GS}{gap:List AO}(hb:okO 0 b0)(hs:ze up)(hg:∀o∈gap,okO (2+scL up+gap.length) o)(c:Int):∀o∈AX b0 fns k up gap c,okO (2+scL up+gap.length) o:=by
 refine an (iz hb) (an (by intro e he;rw[Up.1 he];simp[below]) ?_)
 intro o ho
 rcases Un.1 ho with h|h
 ·exact Fq up hs (by omega) o h
 ·exact hg o h
theorem vV{kk L n:Nat}{A r s:List AO}{l l1:List (Nat × AV)}(hl:A.length=L)(hk:kk<=L+r.length)(ha:∀o∈A,okO L o)(hr:∀o∈r,okO (L+r.length) o)(H:FgA (L+r.length) l l1):Wk kk (ag n l) (A++(r++s)) (ag n l1) (A++r):=by
 have hll:(A++r).length=L+r.length:=by rw[Uu,hl]
 refine lH (m:=L+r.length) hk (fB ?_ hll ?_) H
 ·rw[←UK,←hll,List.take_left'];rfl
 ·intro o ho
  rcases Un.1 ho with h|h
  ·exact tC (by omega) (ha o h)
  ·exact hr o h
theorem Dq(m:Scp)(n:Nat):okO n (.mp (mpE m)):=by
 intro e he
 obtain⟨x,_,rfl⟩:=Uw.1 he
 simp[below]
variable (G:aq)
theorem Nu(b0:AO){fns:List Fd}{k:Nat}(hf:fns.length<=1073741824)(hk:k<=fns.length)(hb:okO 0 b0):∀(N:Nat) (l:List Sm),aK l<N->aK l<=1073741824->∀(gap:List AO) (m:Scp) (up:List GS) (c:Int),ze (⟨gap,m⟩::up)->
 AC Tryz.prog G br [.ptr 1 3 0 0,.p (smL l),upV (⟨gap,m⟩::up)] (CH b0 fns k c (⟨gap,m⟩::up)) λx h=>x= .ret (.tup [])/\h=CH b0 fns k (gV fns k l m (sco up) c).2 (⟨gap,(gV fns k l m (sco up) c).1⟩::up):=by
 intro N
 induction N with
 |zero=>intro l h;omega
 |succ N ih=>
  intro l hl hz gap m up c hs
  have hll:=bp l
  have hsl:∀l,smL l= .lst 5 (l.map Sm.cs):=λ_=>rfl
  have hs':∀m,ze (⟨gap,m⟩::up):=λ_=>hs
  have hscl:∀m,scL (⟨gap,m⟩::up)=scL up+gap.length+2:=λ_=>rfl
  refine OB G (AC.goK oJ oG ?_) (by rw[iq,iq];rfl) (by rw[iq];exact DM hb (hs' _) (by rw[hscl];exact Nat.le_of_eq (by rfl))) (by simp[below])
  have hup:upV (⟨gap,m⟩::up)= .ptr (2+scL up+gap.length+1) 2 0 0:=rfl
  have hlenC:∀c m,(CH b0 fns k c (⟨gap,m⟩::up)).length=2+scL up+gap.length+2:=λc m=>by rw[iq,hscl];omega
  have hokC:∀c m,∀o∈CH b0 fns k c (⟨gap,m⟩::up),okO (2+scL up+gap.length+2) o:=λc m=>DM hb (hs' m) (by rw[hscl];omega)
  have hlenA:∀c,(AX b0 fns k up gap c).length=2+scL up+gap.length:=Pc b0 fns k up gap
  simp-implicitDefEqProofs[ec,eu,hsl,hup]
  refine az (λi:Nat=>ag 89 [(0,.ptr 1 3 0 0),(2,.ptr (2+scL up+gap.length+1) 2 0 0),(14,.p (smL l)),(15,.p (.int .i64 l.length)),(16,.p (.int .i64 i))])
   (λi=>CH b0 fns k (gV fns k (l.take i) m (sco up) c).2 (⟨gap,(gV fns k (l.take i) m (sco up) c).1⟩::up)) (λi=>i<=l.length) (λi=>l.length-i) 0 (by simp) ?_ ?_
  ·refine ab (h:=CH b0 fns k c (⟨gap,m⟩::up)) (Uf _) (by rw[hlenC];exact hokC _ _) ?_
   rw[hlenC]
   simp[below,hsl]
  intro i hi
  have eT:=λh=>IE (fns:=fns) (k:=k) (l:=l) (m:=m) (up:=sco up) (c:=c) (i:=i) h
  rw[hlenC]
  generalize hst:gV fns k (l.take i) m (sco up) c=st at eT⊢
  obtain⟨mi,ci⟩:=st
  simp only at eT⊢
  simp-implicitDefEqProofs[hsl]
  refine bj (λh=>?_) (λh=>?_)
  ·simp at h
   have hg:=Ub h
   have hse:=l[i].cs_eq
   have hsz:=l[i].sz_eq
   have hks:=aQ (Uo h)
   have eT:=eT h
   generalize l[i]=s at hg hse hsz hks eT
   obtain⟨o,nme,a,bd,el⟩:=s
   simp only[Sm.op,Sm.name,Sm.args,Sm.body,Sm.els] at hse hsz
   have hxl:exL a= .lst 4 (a.map Ex.cs):=rfl
   have hal:=aX a
   simp-implicitDefEqProofs[hg,hse,hlenC,hxl]
   have hexpr:∀(c:Int) (e:Ex) (rest:List AO),e.sz<=1073741824->AC Tryz.prog G di [.ptr 1 3 0 0,.agg (e.cs.map .p),.ptr (2+scL up+gap.length+1) 2 0 0] (AX b0 fns k up gap c++(.mp (mpE mi):: .row 2 [[.mp (2+scL up+gap.length),upV up]]::rest)) λx h=>x= .ret (.tup [])/\h=AX b0 fns k up gap (e.pre.foldl (fZ fns k (mi::sco up)) c)++(.mp (mpE mi):: .row 2 [[.mp (2+scL up+gap.length),upV up]]::rest):=by
    intro c e rest he
    have:=Pi G (Pd G b0 hf hk (⟨gap,mi⟩::up) hb (hs' mi) c e he) hb (hs' mi) rfl rest (by refine⟨by simp only[below];omega,by simp,jO _ (Uf _),trivial⟩)
    simp only[Kb] at this
    exact this
   have hfail:∀(c e:Int) (t:List AO),AC Tryz.prog G cd [.ptr 1 3 0 0,.p (.int .i64 e)] (AX b0 fns k up gap c++t) λx h=>x= .ret (.tup [])/\h=AX b0 fns k up gap (fl c e)++t:=λc e t=>Cj G b0 fns k c e _
   have hfind:∀(c:Int) (m:Scp) (s:List UInt8) (rest:List AO),AC Tryz.prog G bS [.ptr (2+scL up+gap.length+1) 2 0 0,.p (.str s)] (AX b0 fns k up gap c++(.mp (mpE m):: .row 2 [[.mp (2+scL up+gap.length),upV up]]::rest)) λx h=>x= .ret (.tup [.p (.int .i64 (((jf (m::sco up) s).getD 0:Nat):Int)),.p (.bool (jf (m::sco up) s).isSome)])/\h=AX b0 fns k up gap c++(.mp (mpE m):: .row 2 [[.mp (2+scL up+gap.length),upV up]]::rest):=by
    intro c m s rest
    have:=Ms G b0 (cO fns k c) (⟨gap,m⟩::up) rest s
    have e:b0::cO fns k c::(scH (⟨gap,m⟩::up)++rest)=CH b0 fns k c (⟨gap,m⟩::up)++rest:=rfl
    rw[e,Kb] at this
    exact this
   have hblk:∀(c:Int) (m2:Scp) (l':List Sm) (gap2:List AO),aK l'<N->aK l'<=1073741824->(∀o∈gap2,okO (2+scL up+gap.length+2+gap2.length) o)->
    AC Tryz.prog G br [.ptr 1 3 0 0,.p (smL l'),.ptr (2+scL up+gap.length+2+gap2.length+1) 2 0 0] (AX b0 fns k up gap c++(.mp (mpE m2):: .row 2 [[.mp (2+scL up+gap.length),upV up]]::(gap2++[.mp [],.row 2 [[.mp (2+scL up+gap.length+2+gap2.length),.ptr (2+scL up+gap.length+1) 2 0 0]]])))
     λx h=>x= .ret (.tup [])/\∃m',h=AX b0 fns k up gap (gV fns k l' [] (m2::sco up) c).2++(.mp (mpE m2):: .row 2 [[.mp (2+scL up+gap.length),upV up]]::(gap2++[.mp (mpE m'),.row 2 [[.mp (2+scL up+gap.length+2+gap2.length),.ptr (2+scL up+gap.length+1) 2 0 0]]])):=by
    intro c m2 l' gap2 h1 h2 h3
    have e1:2+scL (⟨gap,m2⟩::up)+gap2.length=2+scL up+gap.length+2+gap2.length:=by rw[hscl];omega
    have e2:∀c m',CH b0 fns k c (⟨gap2,m'⟩::⟨gap,m2⟩::up)=AX b0 fns k up gap c++(.mp (mpE m2):: .row 2 [[.mp (2+scL up+gap.length),upV up]]::(gap2++[.mp (mpE m'),.row 2 [[.mp (2+scL up+gap.length+2+gap2.length),.ptr (2+scL up+gap.length+1) 2 0 0]]])):=by
     intro c m'
     rw[←e1]
     simp[CH,AX,scH,upV]
    have:=ih l' h1 h2 gap2 [] (⟨gap,m2⟩::up) c ⟨by rw[e1];exact h3,hs' m2⟩
    rw[show upV (⟨gap2,[]⟩::⟨gap,m2⟩::up)= .ptr (2+scL up+gap.length+2+gap2.length+1) 2 0 0 by rw[←e1];rfl] at this
    rw[e2] at this
    refine this.mono ?_
    rintro x h ⟨hx,hh⟩
    exact⟨hx,(gV fns k l' [] (sco (⟨gap,m2⟩::up)) c).1,by rw[hh,e2];rfl⟩
   rw[KU b0 fns k up gap mi ci,UK]
   simp only[UN,List.nil_append]
   have hokA:=Ru (fns:=fns) (k:=k) hb hs.2 hs.1
   generalize hL:2+scL up+gap.length=L at hexpr hfind hblk hlenA hlenC hokC hokA⊢
   have hR:okO (L+2) (.row 2 [[.mp L,upV up]]):=by
    intro e he;rw[Up.1 he]
    exact⟨by simp only[below];omega,jO up (by omega),trivial⟩
   have hX:okO 0 (.row 5 [[AV.p (.int .i64 o),.p (.str nme),.p (.lst 4 (a.map Ex.cs)),.p (smL bd),.p (smL el)]]):=by simp[okO]
   have ok3:∀(m:Scp),∀x∈[AO.mp (mpE m),.row 2 [[.mp L,upV up]],.row 5 [[AV.p (.int .i64 o),.p (.str nme),.p (.lst 4 (a.map Ex.cs)),.p (smL bd),.p (smL el)]]],okO (L+3) x:=λm=>
    an (Dq _ _) (an (tC (by omega) hR) (an (iz hX) jC))
   refine az (λj:Nat=>ag 89 [(0,.ptr 1 3 0 0),(2,.ptr (L+1) 2 0 0),(7,.ptr (L+2) 5 0 0),(14,.p (smL l)),(15,.p (.int .i64 l.length)),(16,.p (.int .i64 i)),(21,.p (exL a)),(22,.p (.int .i64 a.length)),(23,.p (.int .i64 j))])
    (λj=>AX b0 fns k up gap ((dc (a.take j)).foldl (fZ fns k (mi::sco up)) ci)++[.mp (mpE mi),.row 2 [[.mp L,upV up]],.row 5 [[AV.p (.int .i64 o),.p (.str nme),.p (.lst 4 (a.map Ex.cs)),.p (smL bd),.p (smL el)]]])
    (λj=>j<=a.length) (λj=>a.length-j) 0 (by simp) ?_ ?_
   ·refine vV (s:=[]) (hlenA _) (by simp) (hokA _) (ok3 _) ?_
    simp[below,hsl,hxl]
   intro j hj
   simp-implicitDefEqProofs[hxl]
   refine bj (λhc=>?_) (λhc=>?_)
   ·simp at hc
    have hga:=Ub hc
    have hka:=aS (Uo hc)
    have hkc:=a[j].cs_eq
    have hE:=hexpr ((dc (a.take j)).foldl (fZ fns k (mi::sco up)) ci) a[j] [.row 5 [[AV.p (.int .i64 o),.p (.str nme),.p (.lst 4 (a.map Ex.cs)),.p (smL bd),.p (smL el)]],.row 4 [[.p (.int .i64 a[j].op),.p (.int .i64 a[j].n),.p (.str a[j].name),.p (exL a[j].kids)]]] (by omega)
    rw[hkc] at hE
    simp-implicitDefEqProofs[hga,hkc,hlenA]
    refine hE.mono ?_
    rintro r h ⟨rfl,rfl⟩
    simp-implicitDefEqProofs[aa]
    refine⟨j+1,hc,by omega,?_⟩
    have hf2:(dc (a.take (j+1))).foldl (fZ fns k (mi::sco up)) ci=a[j].pre.foldl (fZ fns k (mi::sco up)) ((dc (a.take j)).foldl (fZ fns k (mi::sco up)) ci):=by
     rw[ah hc,sI,List.foldl_append,dc,dc,UG]
    rw[hf2]
    refine vV (r:=[_,_,_]) (s:=[_]) (hlenA _) (by simp) (hokA _) (ok3 _) ?_
    simp[below,hsl,hxl,w1 (i:=j) (by omega)]
   simp at hc
   have hje:j=a.length:=by omega
   subst hje
   rw[UU]
   have hic:icS fns k ⟨o,nme,a,bd,el⟩ mi (sco up) ci=(opS o nme mi 0,if o=5\/o=6 then(gV fns k el [] (opS o nme mi 0::sco up) (gV fns k bd [] (opS o nme mi 0::sco up) (opC o nme mi (sco up) (Gu fns k (mi::sco up) a ci))).2).2 else opC o nme mi (sco up) (Gu fns k (mi::sco up) a ci)):=rfl
   rw[hic] at eT
   clear hic
   rw[show(dc a).foldl (fZ fns k (mi::sco up)) ci=Gu fns k (mi::sco up) a ci from rfl]
   generalize Gu fns k (mi::sco up) a ci=c1 at eT⊢
   simp-implicitDefEqProofs[]
   refine pT (ag 89 [(0,.ptr 1 3 0 0),(2,.ptr (L+1) 2 0 0),(7,.ptr (L+2) 5 0 0),(14,.p (smL l)),(15,.p (.int .i64 l.length)),(16,.p (.int .i64 i))])
    (AX b0 fns k up gap (opC o nme mi (sco up) c1)++[.mp (mpE (opS o nme mi 0)),.row 2 [[.mp L,upV up]],.row 5 [[AV.p (.int .i64 o),.p (.str nme),.p (.lst 4 (a.map Ex.cs)),.p (smL bd),.p (smL el)]]]) ?_ ?_
   ·have fin:∀(r1:List (Nat × AV)) (c2:Int) (m2:Scp),Aw.look r1 0= .ptr 1 3 0 0->Aw.look r1 2= .ptr (L+1) 2 0 0->Aw.look r1 7= .ptr (L+2) 5 0 0->Aw.look r1 14= .p (smL l)->Aw.look r1 15= .p (.int .i64 l.length)->Aw.look r1 16= .p (.int .i64 i)->
     Wk (L+2) (ag 89 r1) (AX b0 fns k up gap c2++[.mp (mpE m2),.row 2 [[.mp L,upV up]],.row 5 [[AV.p (.int .i64 o),.p (.str nme),.p (.lst 4 (a.map Ex.cs)),.p (smL bd),.p (smL el)]]])
      (ag 89 [(0,.ptr 1 3 0 0),(2,.ptr (L+1) 2 0 0),(7,.ptr (L+2) 5 0 0),(14,.p (smL l)),(15,.p (.int .i64 l.length)),(16,.p (.int .i64 i))])
      (AX b0 fns k up gap c2++[.mp (mpE m2),.row 2 [[.mp L,upV up]],.row 5 [[AV.p (.int .i64 o),.p (.str nme),.p (.lst 4 (a.map Ex.cs)),.p (smL bd),.p (smL el)]]]):=by
     intro r1 c2 m2 e0 e2 e7 e14 e15 e16
     refine vV (s:=[]) (hlenA _) (by simp) (hokA _) (ok3 _) ?_
     simp[below,e0,e2,e7,e14,e15,e16]
    by_cases o1:o=1
    ·have hmg:=tz nme mi
     have hms:gq (.str nme) (.p (.int .i64 0)) (mpE mi)=some (mpE (gf mi nme 0)):=by simpa using zx nme 0 mi
     have e2:opS o nme mi 0=gf mi nme 0:=if_pos o1
     rw[e2]
     cases hh:dM mi nme with
     |none=>
      have e1:opC o nme mi (sco up) c1=c1:=by rw[opC,if_pos o1,hh];rfl
      rw[hh] at hmg
      rw[e1]
      subst o1
      simp-implicitDefEqProofs[hlenA,hmg,hms]
      exact fin _ _ _ (by simp) (by simp) (by simp) (by simp[hsl]) (by simp) (by simp)
     |some n=>
      have e1:opC o nme mi (sco up) c1=fl c1 2:=by rw[opC,if_pos o1,hh];rfl
      rw[hh] at hmg
      rw[e1]
      subst o1
      simp-implicitDefEqProofs[hlenA,hmg,hms]
      refine(hfail c1 2 _).mono ?_
      rintro r h ⟨rfl,rfl⟩
      simp-implicitDefEqProofs[aa,hlenA,hms]
      exact fin _ _ _ (by simp) (by simp) (by simp) (by simp[hsl]) (by simp) (by simp)
    have e2:opS o nme mi 0=mi:=if_neg o1
    rw[e2]
    by_cases o2:o=2
    ·cases hh:jf (mi::sco up) nme with
     |none=>
      have e1:opC o nme mi (sco up) c1=fl c1 3:=by rw[opC,if_neg o1,if_pos o2,hh];rfl
      rw[e1]
      subst o2
      have hF:=hfind c1 mi nme [.row 5 [[AV.p (.int .i64 2),.p (.str nme),.p (.lst 4 (a.map Ex.cs)),.p (smL bd),.p (smL el)]]]
      rw[hh] at hF
      simp-implicitDefEqProofs[hlenA]
      refine hF.mono ?_
      rintro r h ⟨rfl,rfl⟩
      simp-implicitDefEqProofs[aa]
      refine(hfail c1 3 _).mono ?_
      rintro r h ⟨rfl,rfl⟩
      simp-implicitDefEqProofs[aa]
      exact fin _ _ _ (by simp) (by simp) (by simp) (by simp[hsl]) (by simp) (by simp)
     |some n=>
      have e1:opC o nme mi (sco up) c1=c1:=by rw[opC,if_neg o1,if_pos o2,hh];rfl
      rw[e1]
      subst o2
      have hF:=hfind c1 mi nme [.row 5 [[AV.p (.int .i64 2),.p (.str nme),.p (.lst 4 (a.map Ex.cs)),.p (smL bd),.p (smL el)]]]
      rw[hh] at hF
      simp-implicitDefEqProofs[hlenA]
      refine hF.mono ?_
      rintro r h ⟨rfl,rfl⟩
      simp-implicitDefEqProofs[aa]
      exact fin _ _ _ (by simp) (by simp) (by simp) (by simp[hsl]) (by simp) (by simp)
    ·have e1:opC o nme mi (sco up) c1=c1:=by rw[opC,if_neg o1,if_neg o2]
     rw[e1]
     simp-implicitDefEqProofs[hlenA,o1,o2]
     exact fin _ _ _ (by simp) (by simp) (by simp) (by simp[hsl]) (by simp) (by simp)
   generalize opC o nme mi (sco up) c1=c2 at eT⊢
   generalize opS o nme mi 0=m2 at eT⊢
   have hdrop:∀(r1:List (Nat × AV)) (c3:Int) (s:List AO),Aw.look r1 0= .ptr 1 3 0 0->Aw.look r1 2= .ptr (L+1) 2 0 0->Aw.look r1 14= .p (smL l)->Aw.look r1 15= .p (.int .i64 l.length)->Aw.look r1 16= .p (.int .i64 ((i:Int)+1))->
    Wk (L+2) (ag 89 r1) (AX b0 fns k up gap c3++([.mp (mpE m2),.row 2 [[.mp L,upV up]]]++s)) (ag 89 [(0,.ptr 1 3 0 0),(2,.ptr (L+1) 2 0 0),(14,.p (smL l)),(15,.p (.int .i64 l.length)),(16,.p (.int .i64 ((i:Int)+1)))]) (CH b0 fns k c3 (⟨gap,m2⟩::up)):=by
    intro r1 c3 s e0 e2 e14 e15 e16
    rw[KU,hL]
    refine vV (hlenA _) (by simp) (hokA _) (an (Dq _ _) (an hR jC)) ?_
    simp[below,e0,e2,e14,e15,e16]
   by_cases ho:o=5\/o=6
   ·rw[if_pos ho] at eT
    rcases ho with o5|o6
    ·subst o5
     simp-implicitDefEqProofs[hlenA]
     refine(zK G (.ptr (L+1) 2 0 0) (.inr ⟨_,rfl⟩) _).mono ?_
     rintro r h ⟨rfl,rfl⟩
     simp-implicitDefEqProofs[aa,hlenA]
     refine(hblk c2 m2 bd [_] (by omega) (by omega) (λx hx=>by rw[Up.1 hx];exact iz (by simp[okO]))).mono ?_
     rintro r h ⟨rfl,m3,rfl⟩
     simp-implicitDefEqProofs[aa,hlenA]
     refine(zK G (.ptr (L+1) 2 0 0) (.inr ⟨_,rfl⟩) _).mono ?_
     rintro r h ⟨rfl,rfl⟩
     simp-implicitDefEqProofs[aa,hlenA]
     refine(hblk _ m2 el [_,_,_] (by omega) (by omega) (an (iz (by simp[okO])) (an (Dq _ _) (an (by
      intro e he;rw[Up.1 he]
      exact⟨by simp only[below];simp,by simp only[below];simp,trivial⟩) jC)))).mono ?_
     rintro r h ⟨rfl,m4,rfl⟩
     simp-implicitDefEqProofs[aa,hlenA]
     refine⟨i+1,by omega,by omega,?_⟩
     rw[eT]
     refine hdrop _ _ _ (by simp) (by simp) (by simp[hsl]) (by simp) (by simp[w1 (i:=i) (by omega)])
    ·subst o6
     simp-implicitDefEqProofs[hlenA]
     refine(zK G (.ptr (L+1) 2 0 0) (.inr ⟨_,rfl⟩) _).mono ?_
     rintro r h ⟨rfl,rfl⟩
     simp-implicitDefEqProofs[aa,hlenA]
     refine(hblk c2 m2 bd [_] (by omega) (by omega) (λx hx=>by rw[Up.1 hx];exact iz (by simp[okO]))).mono ?_
     rintro r h ⟨rfl,m3,rfl⟩
     simp-implicitDefEqProofs[aa,hlenA]
     refine(zK G (.ptr (L+1) 2 0 0) (.inr ⟨_,rfl⟩) _).mono ?_
     rintro r h ⟨rfl,rfl⟩
     simp-implicitDefEqProofs[aa,hlenA]
     refine(hblk _ m2 el [_,_,_] (by omega) (by omega) (an (iz (by simp[okO])) (an (Dq _ _) (an (by
      intro e he;rw[Up.1 he]
      exact⟨by simp only[below];simp,by simp only[below];simp,trivial⟩) jC)))).mono ?_
     rintro r h ⟨rfl,m4,rfl⟩
     simp-implicitDefEqProofs[aa,hlenA]
     refine⟨i+1,by omega,by omega,?_⟩
     rw[eT]
     refine hdrop _ _ _ (by simp) (by simp) (by simp[hsl]) (by simp) (by simp[w1 (i:=i) (by omega)])
   ·rw[if_neg ho] at eT
    have o5:¬o=5:=λh=>ho (.inl h)
    have o6:¬o=6:=λh=>ho (.inr h)
    simp-implicitDefEqProofs[hlenA,o5,o6]
    refine⟨i+1,by omega,by omega,?_⟩
    rw[eT]
    refine hdrop _ _ [_] (by simp) (by simp) (by simp[hsl]) (by simp) (by simp[w1 (i:=i) (by omega)])
  ·simp at h
   have hie:i=l.length:=by omega
   subst hie
   rw[UU] at hst
   rw[hst]
   simp-implicitDefEqProofs[]
end
section
theorem pY:AK.whole eZ=FK.ak fx:=rfl
theorem BB(fns:List Fd):∀(a b:List Fd) (k:Nat) (c:Int),kw fns k (a++b) c=kw fns (k+a.length) b (kw fns k a c)
 |[],b,k,c=>rfl
 |f::r,b,k,c=>by rw[UN,kw,kw,BB fns r];congr 1;simp only[Ur];omega
theorem FX{fns l:List Fd}{i:Nat}{c:Int}(h:i<l.length):kw fns 0 (l.take (i+1)) c=icF fns i l[i] (kw fns 0 (l.take i) c):=by
 rw[ah h,BB,UD,Nat.min_eq_left (Nat.le_of_lt h),Nat.zero_add];rfl
theorem Kt(a b:List (List UInt8))(m:Scp)(c:Int):iZ (a++b) m c=iZ b (iZ a m c).1 (iZ a m c).2:=by simp[iZ]
theorem HP{l:List (List UInt8)}{i:Nat}{m:Scp}{c:Int}(h:i<l.length):iZ (l.take (i+1)) m c=(gf (iZ (l.take i) m c).1 l[i] 0,if(dM (iZ (l.take i) m c).1 l[i]).isSome then fl (iZ (l.take i) m c).2 2 else(iZ (l.take i) m c).2):=by
 rw[ah h,Kt];rfl
variable (G:aq) (hK:G iy=some gy) (hS:G dK=some [.tbl opK opV])
include hK hS
theorem Ah(l:List Fd)(hl:be l<=1073741824):VF Tryz.prog G fq [.agg [.p (fdL l)]] (.p (.int .i64 (aP l))):=by
 have hll:=eh l
 have hfl:∀l,fdL l= .lst 3 (l.map Fd.cs):=λ_=>rfl
 rw[EZ]
 refine AC.goK pE pY ?_
 simp-implicitDefEqProofs[eZ,fx]
 refine(yV G hK hS l hl).use ?_
 by_cases hv:cy l=true
 case neg=>
  have hv':cy l=false:=by simpa using hv
  simp-implicitDefEqProofs[hv']
 rw[if_pos hv]
 simp-implicitDefEqProofs[hv,hfl]
 refine az (λi:Nat=>ag 73 [(1,.ptr 0 1 0 0),(3,.ptr 1 3 0 0),(18,.p (fdL l)),(19,.p (.int .i64 l.length)),(20,.p (.int .i64 i))])
  (λi=>[.row 1 [[.p (fdL l)]],cO l (i-1) (kw l 0 (l.take i) 0)]) (λi=>i<=l.length) (λi=>l.length-i) 0 (by simp) ?_ ?_
 ·refine ab (h:=[.row 1 [[.p (fdL l)]],cO l 0 0]) (by simp) (by simp[okO,below,cO]) (by simp[below,hfl])
 intro i hi
 have hbo:okO 0 (.row 1 [[.p (fdL l)]]):=by simp[okO]
 simp-implicitDefEqProofs[hfl]
 refine bj (λh=>?_) (λh=>?_)
 ·simp at h
  have hg:=Ub h
  have hks:=cK (Uo h)
  have eT:=FX (fns:=l) (c:=0) h
  obtain⟨j,ej,ejl⟩:=Bo hg
  generalize l[i]=f at*
  have hcs:f.cs=[.str f.name,aD f.params,smL f.body]:=rfl
  have hfz:f.sz=1+f.name.length+(f.params.length+(f.params.map List.length).sum)+aK f.body:=rfl
  have hst:aD f.params= .lst 1 (f.params.map λw=>[.str w]):=rfl
  generalize kw l 0 (l.take i) 0=c0 at eT⊢
  simp-implicitDefEqProofs[hg,hcs,cO]
  have hic:icF l i f c0=(gV l i f.body (iZ f.params [] (if j<i then fl c0 2 else c0)).1 [] (iZ f.params [] (if j<i then fl c0 2 else c0)).2).2:=by
   rw[icF,ej];simp
  rw[hic] at eT
  clear hic
  refine pT (ag 73 [(1,.ptr 0 1 0 0),(3,.ptr 1 3 0 0),(4,.p (.int .i64 i)),(5,.ptr 2 3 0 0),(18,.p (fdL l)),(19,.p (.int .i64 l.length)),(20,.p (.int .i64 i))])
   [.row 1 [[.p (fdL l)]],cO l i (if j<i then fl c0 2 else c0),.row 3 [[.p (.str f.name),.p (aD f.params),.p (smL f.body)]]] ?_ ?_
  ·simp-implicitDefEqProofs[]
   refine(Fe G l f.name (by omega)).use ?_
   rw[ej]
   by_cases hj:j<i
   ·have hj':(j:Int)<(i:Int):=by omega
    rw[if_pos hj]
    simp-implicitDefEqProofs[ixI,hj']
    refine(Cj G (.row 1 [[.p (fdL l)]]) l i c0 2 [.row 3 [[.p (.str f.name),.p (aD f.params),.p (smL f.body)]]]).mono ?_
    rintro r h ⟨rfl,rfl⟩
    simp-implicitDefEqProofs[aa]
    exact ab (by simp) (by simp[okO,below,cO]) (by simp[below,hfl])
   ·have hj':¬(j:Int)<(i:Int):=by omega
    rw[if_neg hj]
    simp-implicitDefEqProofs[ixI,hj']
    exact ab (h:=[.row 1 [[.p (fdL l)]],cO l i c0,.row 3 [[.p (.str f.name),.p (aD f.params),.p (smL f.body)]]]) (by simp) (by simp[okO,below,cO]) (by simp[below,hfl])
  generalize (if j<i then fl c0 2 else c0)=c1 at eT⊢
  have hCH:∀(c:Int) (m:Scp),CH (.row 1 [[.p (fdL l)]]) l i c [⟨[.row 3 [[.p (.str f.name),.p (aD f.params),.p (smL f.body)]]],m⟩]=[.row 1 [[.p (fdL l)]],cO l i c,.row 3 [[.p (.str f.name),.p (aD f.params),.p (smL f.body)]],.mp (mpE m),.row 2 [[.mp 3,.nilp]]]:=λ_ _=>rfl
  simp-implicitDefEqProofs[]
  refine(zK G .nilp (.inl rfl) _).mono ?_
  rintro r h ⟨rfl,rfl⟩
  simp-implicitDefEqProofs[aa,hst]
  refine az (λq:Nat=>ag 73 [(1,.ptr 0 1 0 0),(3,.ptr 1 3 0 0),(4,.p (.int .i64 i)),(5,.ptr 2 3 0 0),(6,.ptr 4 2 0 0),(18,.p (fdL l)),(19,.p (.int .i64 l.length)),(20,.p (.int .i64 i)),(39,.p (aD f.params)),(40,.p (.int .i64 f.params.length)),(41,.p (.int .i64 q))])
   (λq=>[.row 1 [[.p (fdL l)]],cO l i (iZ (f.params.take q) [] c1).2,.row 3 [[.p (.str f.name),.p (aD f.params),.p (smL f.body)]],.mp (mpE (iZ (f.params.take q) [] c1).1),.row 2 [[.mp 3,.nilp]]])
   (λq=>q<=f.params.length) (λq=>f.params.length-q) 0 (by simp) ?_ ?_
  ·exact ab (h:=[.row 1 [[.p (fdL l)]],cO l i c1,.row 3 [[.p (.str f.name),.p (aD f.params),.p (smL f.body)]],.mp [],.row 2 [[.mp 3,.nilp]]]) (by simp) (by simp[okO,below,cO]) (by simp[below,hfl,hst])
  intro q hq
  have eP:=λh=>HP (l:=f.params) (i:=q) (m:=[]) (c:=c1) h
  generalize hP:iZ (f.params.take q) [] c1=st at eP⊢
  obtain⟨mq,cq⟩:=st
  simp only at eP⊢
  simp-implicitDefEqProofs[hst]
  refine bj (λhc=>?_) (λhc=>?_)
  ·simp at hc
   have hga:=Ub hc
   have eP:=eP hc
   generalize f.params[q]=nme at hga eP
   have hmg:=tz nme mq
   have hms:gq (.str nme) (.p (.int .i64 0)) (mpE mq)=some (mpE (gf mq nme 0)):=by simpa using zx nme 0 mq
   have fin:∀(r1:List (Nat × AV)) (c2:Int),Aw.look r1 1= .ptr 0 1 0 0->Aw.look r1 3= .ptr 1 3 0 0->Aw.look r1 4= .p (.int .i64 i)->Aw.look r1 5= .ptr 2 3 0 0->Aw.look r1 6= .ptr 4 2 0 0->Aw.look r1 18= .p (fdL l)->Aw.look r1 19= .p (.int .i64 l.length)->Aw.look r1 20= .p (.int .i64 i)->Aw.look r1 39= .p (aD f.params)->Aw.look r1 40= .p (.int .i64 f.params.length)->Aw.look r1 41= .p (.int .i64 ((q:Int)+1))->
    Wk 0 (ag 73 r1) [.row 1 [[.p (fdL l)]],cO l i c2,.row 3 [[.p (.str f.name),.p (aD f.params),.p (smL f.body)]],.mp (mpE (gf mq nme 0)),.row 2 [[.mp 3,.nilp]]]
     (ag 73 [(1,.ptr 0 1 0 0),(3,.ptr 1 3 0 0),(4,.p (.int .i64 i)),(5,.ptr 2 3 0 0),(6,.ptr 4 2 0 0),(18,.p (fdL l)),(19,.p (.int .i64 l.length)),(20,.p (.int .i64 i)),(39,.p (aD f.params)),(40,.p (.int .i64 f.params.length)),(41,.p (.int .i64 ((q:Int)+1)))])
     [.row 1 [[.p (fdL l)]],cO l i c2,.row 3 [[.p (.str f.name),.p (aD f.params),.p (smL f.body)]],.mp (mpE (gf mq nme 0)),.row 2 [[.mp 3,.nilp]]]:=by
    intro r1 c2 e1 e3 e4 e5 e6 e18 e19 e20 e39 e40 e41
    refine ab (by simp) (an (by simp[okO]) (an (by simp[okO,cO]) (an (by simp[okO]) (an (Dq _ _) (an (by simp[okO,below]) jC))))) ?_
    simp[below,e1,e3,e4,e5,e6,e18,e19,e20,e39,e40,e41]
   cases hh:dM mq nme with
   |none=>
    rw[hh] at hmg eP
    simp-implicitDefEqProofs[hga,hmg,hms]
    refine⟨q+1,by omega,by omega,?_⟩
    rw[eP]
    exact fin _ _ (by simp) (by simp) (by simp) (by simp) (by simp) (by simp[hfl]) (by simp) (by simp) (by simp[hst]) (by simp) (by simp[w1 (i:=q) (by omega)])
   |some n=>
    rw[hh] at hmg eP
    simp-implicitDefEqProofs[hga,hmg,hms]
    refine(Cj G (.row 1 [[.p (fdL l)]]) l i cq 2 _).mono ?_
    rintro r h ⟨rfl,rfl⟩
    simp-implicitDefEqProofs[aa,hms]
    refine⟨q+1,by omega,by omega,?_⟩
    rw[eP]
    exact fin _ _ (by simp) (by simp) (by simp) (by simp) (by simp) (by simp[hfl]) (by simp) (by simp) (by simp[hst]) (by simp) (by simp[w1 (i:=q) (by omega)])
  ·simp at hc
   have hqe:q=f.params.length:=by omega
   subst hqe
   rw[UU] at hP
   rw[hP] at eT
   simp only at eT
   have hB:=Nu G (.row 1 [[.p (fdL l)]]) (fns:=l) (k:=i) (by omega) (by omega) hbo (aK f.body+1) f.body (by omega) (by omega) [.row 3 [[.p (.str f.name),.p (aD f.params),.p (smL f.body)]]] mq [] cq ⟨by simp[okO],trivial⟩
   rw[hCH] at hB
   simp-implicitDefEqProofs[]
   refine hB.mono ?_
   rintro r h ⟨rfl,rfl⟩
   simp-implicitDefEqProofs[aa]
   refine⟨i+1,by omega,by omega,?_⟩
   rw[eT]
   refine lH (m:=2) (by omega) (fB rfl rfl (by simp[okO,below,cO])) (by simp[below,hfl,w1 (i:=i) (by omega)])
 ·simp at h
  have hie:i=l.length:=by omega
  subst hie
  rw[UU]
  simp-implicitDefEqProofs[cO]
end
section
variable (G:aq)
theorem KO(l:List Fd)(hz:be l<=1073741824):VF Tryz.prog G lW [.agg [.p (fdL l)]] (.p (.bool (decide (aP l=0)))):=by
 refine AC.go AZ ?_
 simp-implicitDefEqProofs[ro]
 refine(zm G l hz).use ?_
 simp-implicitDefEqProofs[]
variable (hK:G iy=some gy) (hS:G dK=some [.tbl opK opV])
include hK hS
theorem OZ(l:List Fd)(hz:be l<=1073741824):VF Tryz.prog G ow [.agg [.p (fdL l)]] (.p (.bool (decide (aP l=0)))):=by
 refine AC.go DU ?_
 simp-implicitDefEqProofs[vC]
 refine(Ah G hK hS l hz).use ?_
 simp-implicitDefEqProofs[]
end
section
structure HV (σ:Type) where
 F:FuncId
 caps:List AV
 n:Nat
 Inv:σ->Nat->List AO->Prop
 capsOk:aj n caps
 len:∀{st id h},Inv st id h->n<=h.length/\id<h.length
 frame:∀{st id h h'},Inv st id h->(∀i,i<h.length->i<n\/i=id->h'[i]?=h[i]?)->Inv st id h'
def HV.Left{σ:Type}(V:HV σ)(id:Nat)(h:List AO)(st':σ)(h':List AO):Prop:=
 ∃id',V.Inv st' id' h'/\h.length<=h'.length/\(∀i,i<h.length->V.n<=i->i≠id->h'[i]?=h[i]?)/\(id'=id\/h.length<=id')
theorem HV.more{σ:Type}(V:HV σ){st:σ}{id:Nat}{h:List AO}(H:V.Inv st id h)(os:List AO):V.Inv st id (h++os):=
 V.frame H λi hi _=>Ue hi
theorem HV.Left.trans{σ:Type}{V:HV σ}{id id1:Nat}{h h1 h2:List AO}{st2:σ}(hl:h.length<=h1.length)(hk:∀i,i<h.length->V.n<=i->i≠id->h1[i]?=h[i]?)(hi:id1=id\/h.length<=id1)(L:V.Left id1 h1 st2 h2):V.Left id h st2 h2:=by
 obtain⟨id2,a1,a2,a3,a4⟩:=L
 refine⟨id2,a1,by omega,λi h1 h2 h3=>?_,?_⟩
 ·rw[a3 i (by omega) h2 (by rcases hi with e|e<;>omega),hk i h1 h2 h3]
 ·rcases a4 with e|e
  ·rw[e];exact hi
  ·right;omega
variable (G:aq)
def Sm.own(s:Sm):Nat:=1+s.name.length+dm s.args
end
section
abbrev Wds:=List (List UInt8)
mutual
def nmE(op:Int):Ex->Wds->Wds
 | .mk o _ s ks,out=>Mw op ks (if o=op/\s∉out then out++[s] else out)
def Mw(op:Int):List Ex->Wds->Wds
 |[],out=>out
 |e::r,out=>Mw op r (nmE op e out)
end
variable (G:aq)
end
section
def de(d:Nat)(bd:List Sm):List Ex:=(bu d bd).flatMap λx=>dc x.1.args
mutual
theorem Ou(op:Int)(s:List UInt8):∀(e:Ex) (out:Wds),s∈nmE op e out↔s∈out\/∃x∈e.pre,x.op=op/\x.name=s
 | .mk o n t ks,out=>by
   rw[nmE,DI op s ks,Ex.pre]
   have hh:(s∈if o=op/\t∉out then out++[t] else out)↔s∈out\/(o=op/\t=s):=by
    split
    ·rename_i h
     simp only[Un,Up]
     constructor
     ·rintro(h1|h1)
      ·exact .inl h1
      ·exact .inr ⟨h.1,h1.symm⟩
     ·rintro(h1|h1)
      ·exact .inl h1
      ·exact .inr h1.2.symm
    ·rename_i h
     constructor
     ·exact .inl
     ·rintro(h1|⟨h1,h2⟩)
      ·exact h1
      ·rw[←h2];exact Classical.byContradiction λhn=>h ⟨h1,hn⟩
   rw[hh]
   constructor
   ·rintro((h|⟨h1,h2⟩)|⟨x,h1,h2⟩)
    ·exact .inl h
    ·exact .inr ⟨_,List.mem_cons_self ..,h1,h2⟩
    ·exact .inr ⟨x,Ve _ h1,h2⟩
   ·rintro(h|⟨x,h1,h2,h3⟩)
    ·exact .inl (.inl h)
    ·rcases Uj.1 h1 with rfl|h1
     ·exact .inl (.inr ⟨h2,h3⟩)
     ·exact .inr ⟨x,h1,h2,h3⟩
theorem DI(op:Int)(s:List UInt8):∀(l:List Ex) (out:Wds),s∈Mw op l out↔s∈out\/∃x∈dc l,x.op=op/\x.name=s
 |[],out=>by simp[Mw,dc]
 |e::r,out=>by
  rw[Mw,DI op s r,Ou op s e,dc]
  constructor
  ·rintro((h|⟨x,h1,h2⟩)|⟨x,h1,h2⟩)
   ·exact .inl h
   ·exact .inr ⟨x,List.mem_append_left _ h1,h2⟩
   ·exact .inr ⟨x,List.mem_append_right _ h1,h2⟩
  ·rintro(h|⟨x,h1,h2⟩)
   ·exact .inl (.inl h)
   ·rcases Un.1 h1 with h1|h1
    ·exact .inl (.inr ⟨x,h1,h2⟩)
    ·exact .inr ⟨x,h1,h2⟩
end
theorem mW(d:Nat)(s:Sm)(r:List Sm):de d (s::r)=dc s.args++(de (d+1) s.body++de (d+1) s.els)++de d r:=by
 rw[de,bu,Sm.pre_eq,List.flatMap_append,List.flatMap_cons,List.flatMap_append];rfl
mutual
theorem Gm{fns:List Fd}{k:Nat}{vs:List LV}:∀(e:Ex) (c:Int),oC fns k vs e c=0->∀x∈e.pre,x.op=13->∃j,bL fns x.name=some j/\j<k
 | .mk o n t ks,c,h,x,hx,hop=>by
   rw[oC] at h
   rw[Ex.pre] at hx
   have h0:=fR h
   rcases Uj.1 hx with rfl|hx
   ·have hop':o=13:=hop
    have hz:¬(13:Int)=2:=by omega
    rw[js,hop',if_neg hz,if_pos rfl,lA] at h0
    show∃j,bL fns t=some j/\j<k
    cases e:bL fns t with
    |none=>rw[e] at h0;simp only[fl] at h0;split at h0<;>omega
    |some j=>
     rw[e] at h0
     simp only[fl] at h0
     refine⟨j,rfl,?_⟩
     by_cases hj:k<=j
     ·rw[if_pos hj] at h0;split at h0<;>omega
     ·omega
   ·exact nP ks _ h x hx hop
theorem nP{fns:List Fd}{k:Nat}{vs:List LV}:∀(l:List Ex) (c:Int),bz fns k vs l c=0->∀x∈dc l,x.op=13->∃j,bL fns x.name=some j/\j<k
 |[],c,h,x,hx,_=>by simp[dc] at hx
 |e::r,c,h,x,hx,hop=>by
  rw[bz] at h
  rw[dc] at hx
  rcases Un.1 hx with hx|hx
  ·exact Gm e _ (fR h) x hx hop
  ·exact nP r _ h x hx hop
end
mutual
theorem IG{fns:List Fd}{k:Nat}:∀(s:Sm) (b d:Nat) (w:WS),(stW fns k b s w).code=0->∀x∈dc s.args++(de (d+1) s.body++de (d+1) s.els),x.op=13->∃j,bL fns x.name=some j/\j<k
 | .mk o n a bd el,b,d,w,h,x,hx,hop=>by
   rw[stW] at h
   rw[dt] at h
   have h1:=cI h
   rw[dt] at h1
   have h2:=cI h1
   have h3:=yH h2
   simp only[Sm.args,Sm.body,Sm.els,Un] at hx
   rcases hx with hx|hx|hx
   ·exact nP a _ h3 x hx hop
   ·exact mU bd _ (d+1) _ h1 x hx hop
   ·exact mU el _ (d+1) _ h x hx hop
theorem mU{fns:List Fd}{k:Nat}:∀(l:List Sm) (b d:Nat) (w:WS),(bG fns k b l w).code=0->∀x∈de d l,x.op=13->∃j,bL fns x.name=some j/\j<k
 |[],b,d,w,h,x,hx,_=>by simp[de,bu] at hx
 |s::r,b,d,w,h,x,hx,hop=>by
  rw[bG] at h
  rw[mW] at hx
  rcases Un.1 hx with hx|hx
  ·exact IG s b d _ (cI h) x hx hop
  ·exact mU r b d _ h x hx hop
end
theorem Bl{vs:List LV}{s:List UInt8}{b:Nat}{c:Int}(h:pF vs s b c=0):c=0:=by
 unfold pF at h
 split at h
 ·exact h
 ·split at h
  ·unfold fl at h;split at h<;>omega
  ·exact h
theorem sC:∀{ps:List (List UInt8)} {w:WS},(bv ps w).code=0->w.code=0
 |[],w,h=>h
 |s::r,w,h=>Bl (sC (ps:=r) (w:=gt w s 0) h)
theorem HG{fns:List Fd}{k:Nat}{f:Fd}(h:(fnW fns k f).code=0):(∀x∈de 1 f.body,x.op=13->∃j,bL fns x.name=some j/\j<k)/\bL fns f.name=some k:=by
 rw[fnW] at h
 refine⟨mU _ _ 1 _ h,?_⟩
 have h1:(if bL fns f.name=some k then(0:Int) else 2)=0:=sC (cI h)
 split at h1
 ·assumption
 ·omega
end
section
structure Like (fns fns':List Fd):Prop where
 at_:∀s,bL fns' s=bL fns s
 par:∀j,Az fns' j=Az fns j
end
section
theorem Hc:∀{a b:Nat},a<26->b<26->vnm a=vnm b->a=b:=by
 have key:∀a b:Fin 26,vnm a.val=vnm b.val->a=b:=by decide
 intro a b ha hb h
 exact congrArg Fin.val (key ⟨a,ha⟩ ⟨b,hb⟩ h)
structure NOk (w:WS):Prop where
 down:w.vs.Pairwise (λa b=>b.num<a.num)
 lt:∀v∈w.vs,v.num<w.count
theorem NOk.put{w:WS}(h:NOk w)(s:List UInt8)(b:Nat):NOk (gt w s b):=by
 refine⟨List.pairwise_cons.2 ⟨λv hv=>h.lt v hv,h.down⟩,λv hv=>?_⟩
 rcases Uj.1 hv with rfl|hv
 ·exact Nat.lt_succ_self _
 ·exact Nat.lt_succ_of_lt (h.lt v hv)
end
section
structure IN5 (e:List LV) (m m':Sc5):Prop where
 old:m.map (·.1)=e.reverse.map LV.name
 new:m'.map (·.1)=e.reverse.map λx=>vnm x.num
 val:m'.map (·.2)=m.map (·.2)
 uniq:m.Pairwise λa b=>a.1≠b.1
inductive RE5:List (List LV)->List Sc5->List Sc5->Prop where
 |nil:RE5 [] [] []
 |cons {e m m' es v v'}:IN5 e m m'->RE5 es v v'->RE5 (e::es) (m::v) (m'::v')
def Nm(vs:List LV):Prop:=vs.Pairwise (λa b=>b.num<a.num)/\∀x∈vs,x.num<26
theorem tF:∀{m:Sc5} {i:Nat} {s:List UInt8} {n:Int},m.Pairwise (λa b=>a.1≠b.1)->m[i]?=some (s,n)->bF m s=some n
 |x::r,0,s,n,_,h=>by
  simp at h;subst h;simp[bF]
 |x::r,i+1,s,n,hp,h=>by
  obtain⟨h1,h2⟩:=List.pairwise_cons.1 hp
  have hm:=Uh (show r[i]?=some (s,n) by simpa using h)
  have hne:x.1≠s:=h1 _ hm
  rw[bF,if_neg hne]
  exact tF h2 (by simpa using h)
theorem CK{m:Sc5}{s:List UInt8}(h:s∉m.map (·.1)):bF m s=none:=by
 induction m with
 |nil=>rfl
 |cons x r ih=>
  simp only[UA,Uj,not_or] at h
  rw[bF,if_neg (λe=>h.1 e.symm)]
  exact ih h.2
theorem KC{m:Sc5}{s:List UInt8}(h:s∈m.map (·.1)):(bF m s).isSome=true:=by
 induction m with
 |nil=>cases h
 |cons x r ih=>
  rw[bF]
  by_cases e:x.1=s
  ·rw[if_pos e];rfl
  ·rw[if_neg e]
   rcases Uj.1 h with h|h
   ·exact(e h.symm).elim
   ·exact ih h
theorem Cw:∀{m:Sc5} {i:Nat} {s:List UInt8} {n q:Int},m.Pairwise (λa b=>a.1≠b.1)->m[i]?=some (s,n)->sset m s q=m.set i (s,q)
 |x::r,0,s,n,q,_,h=>by
  simp at h;subst h;simp[sset]
 |x::r,i+1,s,n,q,hp,h=>by
  obtain⟨h1,h2⟩:=List.pairwise_cons.1 hp
  have hm:=Uh (show r[i]?=some (s,n) by simpa using h)
  have hne:x.1≠s:=h1 _ hm
  rw[sset,if_neg hne,Cw h2 (by simpa using h)];rfl
theorem Nm.sub{a b:List LV}(h:Nm (a++b)):Nm a/\Nm b/\∀x∈a,∀y∈b,y.num<x.num:=by
 obtain⟨h1,h2⟩:=h
 obtain⟨k1,k2,k3⟩:=List.pairwise_append.1 h1
 exact⟨⟨k1,λx hx=>h2 x (List.mem_append_left _ hx)⟩,⟨k2,λx hx=>h2 x (List.mem_append_right _ hx)⟩,k3⟩
theorem IN5.here{e:List LV}{m m':Sc5}(H:IN5 e m m')(hn:Nm e){x:LV}(hx:x∈e):∃(i:Nat) (n:Int),m[i]?=some (x.name,n)/\m'[i]?=some (vnm x.num,n)/\m'.Pairwise (λa b=>a.1≠b.1):=by
 obtain⟨i,hi,hix⟩:=List.mem_iff_getElem.1 (List.mem_reverse.2 hx)
 have g1:(m.map (·.1))[i]?=some x.name:=by rw[H.old,Uk,Ub hi,hix];rfl
 have g2:(m'.map (·.1))[i]?=some (vnm x.num):=by rw[H.new,Uk,Ub hi,hix];rfl
 rw[Uk,Ud] at g1 g2
 obtain⟨p,p1,p2⟩:=g1
 obtain⟨q,q1,q2⟩:=g2
 have hv:(m'.map (·.2))[i]?=(m.map (·.2))[i]?:=by rw[H.val]
 rw[Uk,Uk,p1,q1] at hv
 simp only[Option.map_some,Option.some.injEq] at hv
 refine⟨i,p.2,by rw[p1,←p2],by rw[q1,←q2,←hv],?_⟩
 have hu:(e.reverse.map λx=>vnm x.num).Pairwise (· ≠ ·):=by
  rw[List.pairwise_map,List.pairwise_reverse]
  refine List.Pairwise.imp_of_mem (λ{a b} ha hb hab e=>?_) hn.1
  have:=Hc (hn.2 b hb) (hn.2 a ha) e
  omega
 rw[←H.new,List.pairwise_map] at hu
 exact hu
theorem IN5.away{e:List LV}{m m':Sc5}(H:IN5 e m m'){s:List UInt8}(hs:∀x∈e,x.name≠s):bF m s=none:=by
 refine CK ?_
 rw[H.old]
 intro h
 obtain⟨x,hx,rfl⟩:=Uw.1 h
 exact hs x (List.mem_reverse.1 hx) rfl
theorem IN5.away'{e:List LV}{m m':Sc5}(H:IN5 e m m'){n:Nat}(hn:n<26)(h26:∀x∈e,x.num<26)(hs:∀x∈e,x.num≠n):bF m' (vnm n)=none:=by
 refine CK ?_
 rw[H.new]
 intro h
 obtain⟨x,hx,e⟩:=Uw.1 h
 have hx:=List.mem_reverse.1 hx
 exact hs x hx (Hc (h26 x hx) hn e)
theorem ph{e:List LV}{s:List UInt8}{x:LV}(h:lkV e s=some x):x∈e/\x.name=s:=⟨yg h,by
 have:=List.find?_some h
 exact of_decide_eq_true this⟩
theorem RE5.get:∀{es:List (List LV)} {v v':List Sc5},RE5 es v v'->Nm es.flatten->∀{s:List UInt8} {x:LV},lkV es.flatten s=some x->gu v' (vnm x.num)=gu v s
 |_,_,_,.nil,_,s,x,h=>by cases h
 |_,_,_,.cons (e:=e) (m:=m) (m':=m') (es:=es) (v:=v) (v':=v') H R,hn,s,x,h=>by
  rw[UJ] at hn h
  obtain⟨n1,n2,n3⟩:=hn.sub
  rw[vX] at h
  cases he:lkV e s with
  |some y=>
   rw[he] at h;cases h
   obtain⟨y1,y2⟩:=ph he
   obtain⟨i,n,g1,g2,g3⟩:=H.here n1 y1
   rw[y2] at g1
   rw[gu,gu,tF H.uniq g1,tF g3 g2]
  |none=>
   rw[he] at h
   obtain⟨x1,x2⟩:=ph h
   have ha:bF m s=none:=H.away λy hy e=>by
    rw[lkV,List.find?_eq_none] at he
    exact he y hy (by simp[e])
   have hb:bF m' (vnm x.num)=none:=H.away' (n2.2 x x1) n1.2 λy hy e=>by have:=n3 y hy x x1;omega
   rw[gu,gu,ha,hb]
   exact R.get n2 h
theorem IN5.set{e:List LV}{m m':Sc5}(H:IN5 e m m'){i:Nat}{s t:List UInt8}{n q:Int}(h1:m[i]?=some (s,n))(h2:m'[i]?=some (t,n)):IN5 e (m.set i (s,q)) (m'.set i (t,q)):=by
 have k1:(m.set i (s,q)).map (·.1)=m.map (·.1):=by
  rw[List.map_set]
  refine List.ext_getElem? λj=>?_
  rw[List.getElem?_set]
  split
  ·rename_i e;subst e
   rw[Uk,h1]
   have:=(Ua.1 h1).1
   simp[this]
  ·rfl
 have k2:(m'.set i (t,q)).map (·.1)=m'.map (·.1):=by
  rw[List.map_set]
  refine List.ext_getElem? λj=>?_
  rw[List.getElem?_set]
  split
  ·rename_i e;subst e
   rw[Uk,h2]
   have:=(Ua.1 h2).1
   simp[this]
  ·rfl
 refine⟨by rw[k1];exact H.old,by rw[k2];exact H.new,by rw[List.map_set,List.map_set,H.val],?_⟩
 have:((m.set i (s,q)).map (·.1)).Pairwise (· ≠ ·):=by rw[k1,List.pairwise_map];exact H.uniq
 rwa[List.pairwise_map] at this
theorem RE5.set:∀{es:List (List LV)} {v v':List Sc5},RE5 es v v'->Nm es.flatten->∀{s:List UInt8} {x:LV} (q:Int),lkV es.flatten s=some x->RE5 es (gN v s q) (gN v' (vnm x.num) q)
 |_,_,_,.nil,_,s,x,q,h=>by cases h
 |_,_,_,.cons (e:=e) (m:=m) (m':=m') (es:=es) (v:=v) (v':=v') H R,hn,s,x,q,h=>by
  rw[UJ] at hn h
  obtain⟨n1,n2,n3⟩:=hn.sub
  rw[vX] at h
  cases he:lkV e s with
  |some y=>
   rw[he] at h;cases h
   obtain⟨y1,y2⟩:=ph he
   obtain⟨i,n,g1,g2,g3⟩:=H.here n1 y1
   rw[y2] at g1
   have s1:=tF H.uniq g1
   have s2:=tF g3 g2
   rw[gN,gN,s1,s2]
   simp only[Option.isSome_some,if_true]
   rw[Cw H.uniq g1,Cw g3 g2]
   exact .cons (H.set g1 g2) R
  |none=>
   rw[he] at h
   obtain⟨x1,x2⟩:=ph h
   have ha:bF m s=none:=H.away λy hy e=>by
    rw[lkV,List.find?_eq_none] at he
    exact he y hy (by simp[e])
   have hb:bF m' (vnm x.num)=none:=H.away' (n2.2 x x1) n1.2 λy hy e=>by have:=n3 y hy x x1;omega
   rw[gN,gN,ha,hb]
   exact .cons H (R.set n2 q h)
theorem RE5.add{e:List LV}{es:List (List LV)}{m m':Sc5}{v v':List Sc5}(R:RE5 (e::es) (m::v) (m'::v')){s:List UInt8}{n b:Nat}(q:Int)(hs:bF m s=none):RE5 ((⟨s,n,b⟩::e)::es) ((m++[(s,q)])::v) ((m'++[(vnm n,q)])::v'):=by
 cases R with
 |cons H R=>
  refine .cons ⟨by simp[H.old],by simp[H.new],by simp[H.val],?_⟩ R
  rw[List.pairwise_append]
  refine⟨H.uniq,by simp,λa ha c hc=>?_⟩
  rw[Up.1 hc]
  intro e
  have:=KC (m:=m) (s:=s) (Uw.2 ⟨a,ha,e⟩)
  rw[hs] at this;cases this
end
section
theorem RE5.opn{es:List (List LV)}{v v':List Sc5}(R:RE5 es v v'):RE5 ([]::es) ([]::v) ([]::v'):= .cons ⟨rfl,rfl,rfl,.nil⟩ R
theorem RE5.tail{e:List LV}{es:List (List LV)}{m m':Sc5}{v v':List Sc5}(R:RE5 (e::es) (m::v) (m'::v')):RE5 es v v':=by
 cases R with|cons _ R=>exact R
theorem RE5.split{e:List LV}{es:List (List LV)}{m:Sc5}{v w':List Sc5}(R:RE5 (e::es) (m::v) w'):∃m' v',w'=m'::v'/\RE5 es v v':=by
 cases R with|cons _ R=>exact⟨_,_,rfl,R⟩
end
section
theorem GT:∀(ps:List (List UInt8)) (w:WS),(bv ps w).vs.reverse.map LV.name=w.vs.reverse.map LV.name++ps/\((bv ps w).vs.reverse.map λx=>vnm x.num)=(w.vs.reverse.map λx=>vnm x.num)++mV ps w
 |[],w=>by simp[bv,mV]
 |s::r,w=>by
  obtain⟨h1,h2⟩:=GT r (gt w s 0)
  have e:bv (s::r) w=bv r (gt w s 0):=rfl
  rw[e,h1,h2,mV]
  simp[gt]
theorem Bu:∀(ps:List (List UInt8)) (w:WS),(∀x∈w.vs,x.block=0)->(bv ps w).code=0->(w.vs.map LV.name).Pairwise (· ≠ ·)->((bv ps w).vs.map LV.name).Pairwise (· ≠ ·)
 |[],w,_,_,h=>h
 |s::r,w,hb,hz,h=>by
  have hz':(bv r (gt w s 0)).code=0:=hz
  have hp:=sC hz'
  have hp':pF w.vs s 0 w.code=0:=hp
  refine Bu r (gt w s 0) (λx hx=>?_) hz' (List.pairwise_cons.2 ⟨λt ht=>?_,h⟩)
  ·rcases Uj.1 hx with rfl|hx
   ·rfl
   ·exact hb x hx
  ·obtain⟨x,hx,rfl⟩:=Uw.1 ht
   intro e
   have hc:=Bl hp'
   rw[pF] at hp'
   cases hl:lkV w.vs s with
   |none=>
    rw[lkV,List.find?_eq_none] at hl
    exact hl x hx (by simp[←e])
   |some y=>
    rw[hl] at hp'
    have:=hb y (yg hl)
    simp only[this,if_true,fl,hc] at hp'
    simp at hp'
theorem GQ{α β:Type}:∀(a:List α) (b:List β),a.length=b.length->(a.zip b).map (·.1)=a/\(a.zip b).map (·.2)=b
 |[],[],_=>⟨rfl,rfl⟩
 |x::r,y::t,h=>by
  obtain⟨h1,h2⟩:=GQ r t (by simpa using h)
  simp[h1,h2]
 |[],_::_,h=>by simp at h
 |_::_,[],h=>by simp at h
end
section
theorem nu{l:List Fd}(hc:aP l=0){k:Nat}{f:Fd}(hf:l[k]?=some f):f.params.Pairwise (· ≠ ·):=by
 have hz:=((CD l).1 hc).2 k f hf
 have hat:=(HG hz).2
 rw[fnW,if_pos hat] at hz
 have hpz:=cI hz
 obtain⟨p1,_⟩:=GT f.params ⟨[],0,0⟩
 have hu:=Bu f.params ⟨[],0,0⟩ (λx hx=>by cases hx) hpz .nil
 have e:f.params=(bv f.params ⟨[],0,0⟩).vs.reverse.map LV.name:=by rw[p1];rfl
 rw[e,List.map_reverse,List.pairwise_reverse]
 exact hu.imp λh e=>h e.symm
end
section
theorem Un5.tail{m:Sc5}{v:List Sc5}(h:Un5 (m::v)):Un5 v:=λq hq=>h q (by simp[hq])
def UnJ:J5->Prop
 | .stm _ v _ _ v' _ _=>Un5 v->Un5 v'
 | .blk _ v _ _ v' _ _=>Un5 v->Un5 v'
 | .lp _ v _ _ v' _ _=>Un5 v->Un5 v'
 |_=>True
theorem OE{l:List Fd}{j:J5}(h:Ev l j):UnJ j:=by
 induction h with
 |bnil=>exact id
 |bfuel _=>exact id
 |bgo _ _ _ i1 i2=>exact λh=>i2 (i1 h)
 |bend _ _ _ i1=>exact i1
 |argS _ _ _ _=>exact id
 |slet _ _ _ hv hs _=>
  subst hv
  exact λh=>h.let hs
 |sset _ _ _ _ _=>exact λh=>h.of (vW _ _ _)
 |ssay _ _ _ _=>exact id
 |sput _ _ _ _ _ _ _=>exact id
 |sputC _ _ _ _ _ _ _=>exact id
 |sputS _ _ _ _ _ _=>exact id
 |sif _ _ _ _ _ i2=>exact λh=>(i2 h.opn).tail
 |sloop _ _ i1=>exact i1
 |sback _ _ _ _=>exact id
 |sdo _ _ _ _=>exact id
 |lpS _ _ _=>exact id
 |lp0 _ _ _=>exact id
 |lpEnd _ _ _ _ _ _ i2=>exact λh=>(i2 h.opn).tail
 |lpFuel _ _ _ _ _ _ i2=>exact λh=>(i2 h.opn).tail
 |lpGo _ _ _ _ _ _ _ i2 i3=>exact λh=>i3 (i2 h.opn).tail
 |_=>trivial
theorem uE{ps:List (List UInt8)}{us:List Int}(hp:ps.Pairwise (· ≠ ·))(hl:ps.length=us.length):Un5 [ps.zip us]:=by
 intro m hm
 rw[Up.1 hm]
 have:nmS (ps.zip us)=ps:=(GQ ps us hl).1
 rw[this];exact hp
end
end Go.Proofs.YtokiapglmedipaaGreatDoor
