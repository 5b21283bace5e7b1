/-
  Contracts and lemmas that the card needs, part 7.
-/
import Derived.Test.YtnjbhgpbgmpkcaaGreatDoorCb6
import Derived.Shelf.Slices.In.SortNone
namespace Go.Proofs.YtnjbhgpbgmpkcaaGreatDoor
open Go Go.Aw
set_option maxRecDepth 100000
set_option maxHeartbeats 4000000
theorem AC.shelfNil{P:Program}{G:aA}{f:FuncId}{h:List AO}{rv:AV}{r:Value}(hf:fe P f=true)(hr:∀(W:World) (S:Nat→Prop) (φ:Aw.Place) (n:Nat),VRel W S φ n rv r)
 (H:∀W:World,Calls P f #[.slice none 0 0] W fun e W'=>e= .returned r∧W'=W):AC P G f [.nils] h fun x h'=>x= .ret rv∧h'=h:=by
 refine⟨hf,fun W S φ vs hH hA=>?_⟩
 have hs1:vs.size=1:=hA.1
 obtain⟨v0,rfl⟩:∃v0,vs=#[v0]:=⟨vs[0],by
  apply Array.ext
  ·simp[hs1]
  ·intro i h1 h2
   have:i=0:=by omega
   subst this;rfl⟩
 have hv:=hA.2 0 _ v0 rfl rfl
 cases hv
 refine(H W).mono ?_
 rintro e W' ⟨rfl,rfl⟩
 exact⟨.ret rv,S,φ,h,⟨rfl,rfl⟩,hH,.ret _ _ (hr _ _ _ _),Keep.refl hH⟩
theorem oG:∀h:List AO,Cuts h h
 |[]=>trivial
 |_::r=>⟨.inl rfl,oG r⟩
theorem wv:∀{h:List AO} {id sz:Nat} {es:List (List AV)} (k:Nat),h[id]?=some (.row sz es)→Cuts h (h.set id (.row sz (es.take k)))
 |[],_,_,_,_,e=>by simp at e
 |o::r,0,sz,es,k,e=>by
  simp at e;subst e
  exact⟨.inr ⟨sz,es,k,rfl,rfl⟩,oG r⟩
 |o::r,id+1,sz,es,k,e=>⟨.inl rfl,wv k (by simpa using e)⟩
variable (G:aA)
theorem zr(h:List AO):AC Tryz.prog G (lays189_ren.f 189) [.nils] h fun x h'=>x= .ret (.tup [])∧h'=h:=
 AC.shelfNil (r:= .tuple #[]) (by kernel_rfl) (fun _ _ _ _=> .tup [] #[] rfl (fun j c v e=>by simp at e)) fun W=>Any.slices_Sort_int_none yX none 0 W
theorem ut(h:List AO):AC Tryz.prog G (lays20_ren.f 20) [.nils] h fun x h'=>x= .ret .nils∧h'=h:=
 AC.shelfNil (r:= .slice none 0 0) (by kernel_rfl) (fun _ _ _ _=> .nils) fun W=>Any.slices_Compact_int_empty Dc none 0 W
def ro(l:List Fd)(out:List Int)(x:Sm × Nat):List Int:=(bs x.1.args).foldl (eD l) out
theorem yh{out:List Int}{a b:Nat}(h:jT out b)(hab:a≤b):jT out a:=by unfold jT at*;omega
theorem rU(l:List Fd):∀out (s:Sm) (d k:Nat),jT out (k+s.own)→jT (ro l out (s,d)) k:=by
 intro out s d k h
 have:=nY s.args
 exact kO (nh l) s.args out k (yh h (by unfold Sm.own;omega))
theorem wb(l:List Fd)(hl:l.length≤1073741824):∀out (s:Sm) (d k id:Nat) h,jT out (k+s.own)→s.sz≤1073741824→zl l out id h→
 AC Tryz.prog G cz (.agg (s.cs.map .p):: .p (.int .i64 (d:Nat))::[.ptr 1 1 0 0,.ptr 0 1 0 0]) h fun x h'=>x= .ret (.tup [])∧(cHV cz l).Left id h (ro l out (s,d)) h':=by
 intro out s d k id h hk hz hI
 have hcs:=s.cs_eq
 have hsz:=s.sz_eq
 have hal:=aV s.args
 have hap:=nY s.args
 have hxl:exL s.args= .lst 4 (s.args.map Ex.cs):=rfl
 have hlen:=(cHV ay l).len hI
 have hn2:2≤h.length:=hlen.1
 have hid:id<h.length:=hlen.2
 have hk0:jT out (k+az s.args):=yh hk (by unfold Sm.own;omega)
 refine AC.go pA ?_
 simp-implicitDefEqProofs[jl,hcs,hxl]
 refine au (fun a:HS=>aj 19 [(2,.ptr 1 1 0 0),(3,.ptr 0 1 0 0),(9,.p (exL s.args)),(10,.p (.int .i64 s.args.length)),(11,.p (.int .i64 a.i))])
  (fun a=>a.h) (fun a=>a.i≤s.args.length∧zl l ((bs (s.args.take a.i)).foldl (eD l) out) a.id a.h∧h.length<a.h.length∧(∀i,i<h.length→2≤i→i≠id→a.h[i]?=h[i]?)∧(a.id=id∨h.length≤a.id)) (fun a=>s.args.length-a.i) ⟨0,id,h++[.row 5 [[.p (.int .i64 s.op),.p (.str s.name),.p (exL s.args),.p (smL s.body),.p (smL s.els)]]]⟩ ⟨Nat.zero_le _,(cHV ay l).more hI _,by simp,fun i a1 a2 a3=>List.getElem?_append_left a1,.inl rfl⟩ ?_ ?_
 ·exact aO (by simp) (by simp[below,hxl];omega)
 rintro⟨i,idc,hc⟩ ⟨hil,hIc,hlc,hkc,hic⟩
 simp only at hil hIc hlc hkc hic
 simp-implicitDefEqProofs[hxl]
 refine aS (fun hcc=>?_) (fun hcc=>?_)
 ·simp at hcc
  have hg:=List.getElem?_eq_getElem hcc
  have hks:=aM (List.getElem_mem hcc)
  have hkc2:=s.args[i].cs_eq
  have hT:s.args.take (i+1)=s.args.take i++[s.args[i]]:=ag hcc
  have hsum:az s.args=az (s.args.take i)+(s.args[i].parts+az (s.args.drop (i+1))):=by
   have e1:az s.args=az (s.args.take i)+az (s.args.drop i):=by rw[←cf,List.take_append_drop]
   have e2:az (s.args.drop i)=s.args[i].parts+az (s.args.drop (i+1)):=by rw[List.drop_eq_getElem_cons hcc,az]
   omega
  have hic2:jT ((bs (s.args.take i)).foldl (eD l) out) (k+az (s.args.drop (i+1))+s.args[i].parts):=
   kO (nh l) _ _ _ (by rw[show k+az (s.args.drop (i+1))+s.args[i].parts+az (s.args.take i)=k+az s.args by omega];exact hk0)
  have hA:=fun os=>CK G (cHV ay l) (eD l) jT 1073741824 (Nat.le_refl _) (nh l) (sS G l hl) 1073741825 s.args[i] (by omega) (by omega) _ _ idc (hc++os) hic2 ((cHV ay l).more hIc os)
  have hf:(bs (s.args.take (i+1))).foldl (eD l) out=s.args[i].pre.foldl (eD l) ((bs (s.args.take i)).foldl (eD l) out):=by
   rw[hT,jE,List.foldl_append,bs,bs,List.append_nil]
  have hF:(cHV ay l).F=ay:=rfl
  have hC:(cHV ay l).caps=[.ptr 1 1 0 0,.ptr 0 1 0 0]:=rfl
  rw[hkc2,hF,hC] at hA
  simp-implicitDefEqProofs[hg,hkc2]
  refine(hA _).mono ?_
  rintro r h3 ⟨rfl,id3,M1,M2,M3,M4⟩
  rw[List.length_append] at M2 M3 M4
  simp only[List.length_cons,List.length_nil] at M2 M3 M4
  have M3':∀i,i<hc.length+(0+1)→2≤i→i≠idc→h3[i]?=_:=M3
  simp-implicitDefEqProofs[aa]
  refine⟨⟨i+1,id3,h3⟩,⟨hcc,by rw[hf];exact M1,by show h.length<h3.length;omega,fun j a1 a2 a3=>?_,?_⟩,by show s.args.length-(i+1)<s.args.length-i;omega,aO (by show h.length≤h3.length;omega) ?_⟩
  ·show h3[j]?=h[j]?
   rw[M3' j (by omega) a2 (by omega),List.getElem?_append_left (by omega),hkc j a1 a2 a3]
  ·show id3=id∨h.length≤id3
   omega
  ·simp[below,hxl,w1 (i:=i) (by omega)]
   omega
 ·simp at hcc
  have hie:i=s.args.length:=by omega
  subst hie
  rw[List.take_length] at hIc
  simp-implicitDefEqProofs[]
  exact⟨idc,hIc,by omega,hkc,by omega⟩
theorem qO(l:List Fd):∀(xs:List (Sm × Nat)) (out:List Int),xs.foldl (ro l) out=(xs.flatMap fun x=>bs x.1.args).foldl (eD l) out
 |[],out=>rfl
 |x::r,out=>by rw[List.foldl_cons,qO l r,List.flatMap_cons,List.foldl_append];rfl
theorem pD(l:List Fd)(bd:List Sm):(aI 1 bd).foldl (ro l) []=ib l bd:=by
 rw[qO,qU];rfl
def nC(l:List Fd)(bd:List Sm):List Int:=Lib.compact ((ib l bd).mergeSort fun x y=>decide (x≤y))
theorem zw(l:List Fd)(hz:bX l≤1073741824){k:Nat}{f:Fd}(hk:l[k]?=some f):AC Tryz.prog G fd [.agg [.p (fdL l)],.p (.int .i64 k)] [] (MkW dd true [fx (nC l f.body)]):=by
 have hll:=bK l
 have hfm:=cR (List.mem_of_getElem? hk)
 have hfz:f.sz=1+f.name.length+(f.params.length+(f.params.map List.length).sum)+aq f.body:=rfl
 have hfl:fdL l= .lst 3 (l.map Fd.cs):=rfl
 have hcs:f.cs=[.str f.name,aB f.params,smL f.body]:=rfl
 have hin:∀xs,iI xs=sV xs:=fun _=>rfl
 generalize hS:(ib l f.body).mergeSort (fun x y=>decide (x≤y))=S
 have hSl:S.length=(ib l f.body).length:=by rw[←hS,List.length_mergeSort]
 have hcl:=wq S
 have hcnt:jT (ib l f.body) 0:=by
  rw[←pD]
  exact lK (rU l) f.body 1 [] 0 (by unfold jT;simp;omega)
 have hnum:(ib l f.body).length≤1099511627776:=by unfold jT at hcnt;omega
 have key:AC Tryz.prog G fd [.agg [.p (fdL l)],.p (.int .i64 k)] [] fun x h=>(x= .ret .nils∧ib l f.body=[])∨∃id t,x= .ret (.sl id 1 0 (Lib.compact S).length)∧h[id]?=some (iI (Lib.compact S++t)):=by
  refine AC.go rb ?_
  simp-implicitDefEqProofs[lh,hfl,hk,hcs]
  refine(Dd G (cHV cz l) (ro l) jT 1073741824 (Nat.le_refl _) (rU l) (fun st s d k id h=>wb G l (by omega) st s d k id h) 1073741825 f.body (by omega) (by omega) 1 (by omega) [] 0 0 [.row 1 [[.p (fdL l)]],.row 1 [[.nils]]] (by unfold jT;simp;omega) ⟨rfl,by simp,.inl ⟨rfl,rfl,rfl⟩⟩).mono ?_
  rintro r h ⟨rfl,id,L1,L2,L3,L4⟩
  rw[pD] at L1
  obtain⟨h0,h2,⟨hn,rfl,h1⟩|⟨hn,hid,h1,hr⟩⟩:zl l (ib l f.body) id h:=L1
  ·simp-implicitDefEqProofs[aa,h1]
   refine(zr G h).mono ?_
   rintro r h' ⟨rfl,rfl⟩
   simp-implicitDefEqProofs[aa,h1]
   refine(ut G h').mono ?_
   rintro r h'' ⟨rfl,rfl⟩
   simp-implicitDefEqProofs[aa]
   exact hn
  ·have hidl:=(List.getElem?_eq_some_iff.1 hr).1
   simp-implicitDefEqProofs[aa,h1]
   refine(FJ G hr hn (by omega)).mono ?_
   rintro r h' ⟨rfl,rfl⟩
   rw[hS]
   have hne:id≠1:=by omega
   have hC:=zH G (h:=h.set id (iI S)) (id:=id) (xs:=S) (by simp[hidl]) (by intro e;rw[e] at hSl;simp at hSl;exact hn (List.length_eq_zero_iff.1 hSl.symm)) (by omega) hcl
   rw[hSl] at hC
   simp-implicitDefEqProofs[aa,h1,List.getElem?_set_ne hne]
   refine hC.mono ?_
   rintro r h'' ⟨rfl,rfl⟩
   simp-implicitDefEqProofs[aa]
   exact⟨List.replicate ((ib l f.body).length-(Lib.compact S).length) 0,by simp[hidl]⟩
 refine key.wk (fun t v h hh=>?_) fun v h hh=>?_
 ·rcases hh with⟨e,_⟩|⟨_,_,e,_⟩<;>cases e
 have hO:nC l f.body=Lib.compact S:=by rw[nC,hS]
 rw[hO]
 rcases hh with⟨e,hn⟩|⟨id,t,e,hid⟩
 ·cases e
  have:S=[]:=by rw[hn] at hSl;exact List.length_eq_zero_iff.1 (by simpa using hSl)
  rw[this]
  exact⟨.nils,h,uH (oG h),[.nils],[],rfl,.nils 1 .nil,List.nodup_nil⟩
 ·cases e
  have hidl:=(List.getElem?_eq_some_iff.1 hid).1
  refine⟨_,_,uH (wv (Lib.compact S).length hid),[.sl id 1 0 (Lib.compact S).length],[id],rfl,tK ?_ rfl,by simp⟩
  rw[List.getElem?_set_self hidl]
  simp[sV,←List.map_take]
end Go.Proofs.YtnjbhgpbgmpkcaaGreatDoor
namespace Go.Proofs.YtnjbhgpbgmpkcaaGreatDoor
open Go Go.Aw
set_option maxRecDepth 100000
set_option maxHeartbeats 4000000
variable (G:aA)
theorem zV(xs:List Int)(hb:xs.length≤1048576):VF Tryz.prog G dU [.p (fx xs),.p (fx xs)] (.p (.bool true)):=by
 refine AC.go sM ?_
 have hsl:∀l,fx l= .lst 1 (l.map fun w=>[.int .i64 w]):=fun _=>rfl
 simp-implicitDefEqProofs[mC,hsl]
 refine au (fun i:Nat=>aj 26 [(0,.p (fx xs)),(1,.p (fx xs)),(5,.p (.int .i64 i))]) (fun _=>[]) (fun i=>i≤xs.length) (fun i=>xs.length-i) 0 (by simp) ?_ ?_
 ·exact aC rfl (by simp[below,fx])
 intro i hi
 simp-implicitDefEqProofs[hsl]
 refine aS (fun h1=>?_) (fun h1=>?_)
 ·simp at h1
  have hg:xs[i]?=some xs[i]:=List.getElem?_eq_getElem h1
  generalize xs[i]=x at hg
  simp-implicitDefEqProofs[hg]
  refine⟨i+1,by omega,by omega,aC rfl ?_⟩
  simp[below,fx,w1 (i:=i) (by omega)]
 ·simp at h1
  simp-implicitDefEqProofs[]
theorem vL{h:List AO}:∀{ps:List Int} {vs:List AV} {J:List Nat},OwnL true h vs (ps.map (PV.int .i64)) J→vs=ps.map (fun w=> .p (.int .i64 w))∧J=[]
 |[],vs,J,H=>by
  cases H
  exact⟨rfl,rfl⟩
 |w::r,vs,J,H=>by
  rw[List.map_cons] at H
  cases H with
  |p _ _ H=>
   obtain⟨e1,e2⟩:=vL H
   exact⟨by rw[e1];rfl,e2⟩
theorem tQ:∀ps:List Int,(ps.map fun w=>[PV.int .i64 w]).flatten=ps.map (PV.int .i64)
 |[]=>rfl
 |w::r=>by rw[List.map_cons,List.flatten_cons,tQ r];rfl
theorem Fo(h:List AO)(v:AV)(I:List Nat)(ps:List Int)(k:Nat)(ho:OwnL true h [v] [fx ps] I)(nd:I.Nodup)(hk:k+ps.length≤1152921504606846976):
 AC Tryz.prog G eq [v,.p (.int .i64 k)] h (Mkd h v I (fx (ky k ps.length)) (.int .i64 ((k+ps.length:Nat):Int))):=by
 rcases ho.inv nd with⟨h0,rfl,rfl|rfl⟩|⟨h0,_⟩|⟨id,rows,J,rfl,rfl,hr⟩
 ·have hl0:ps=[]:=List.map_eq_nil_iff.1 h0
  subst hl0
  refine AC.go eb ?_
  have hst:Mkd h .nils [] (fx (ky k 0)) (.int .i64 ((k+0:Nat):Int)) (.ret (.p (.int .i64 k))) h:=⟨rfl,.nils 1 .nil,fun _ _ _=>rfl,Nat.le_refl _⟩
  simp-implicitDefEqProofs[ef]
  refine au (fun _:Unit=>aj 19 [(0,.nils),(1,.p (.int .i64 k)),(5,.p (.int .i64 0))]) (fun _=>h) (fun _=>True) (fun _=>0) () trivial (aO (Nat.le_refl _) (by simp[below])) ?_
  intro _ _
  simp-implicitDefEqProofs[]
  exact hst
 ·have hl0:ps=[]:=List.map_eq_nil_iff.1 h0
  subst hl0
  refine AC.go eb ?_
  have hst:Mkd h (.p (.lst 1 [])) [] (fx (ky k 0)) (.int .i64 ((k+0:Nat):Int)) (.ret (.p (.int .i64 k))) h:=⟨rfl,.p _ (fun _=>rfl) .nil,fun _ _ _=>rfl,Nat.le_refl _⟩
  simp-implicitDefEqProofs[ef]
  refine au (fun _:Unit=>aj 19 [(0,.p (.lst 1 [])),(1,.p (.int .i64 k)),(5,.p (.int .i64 0))]) (fun _=>h) (fun _=>True) (fun _=>0) () trivial (aO (Nat.le_refl _) (by simp[below])) ?_
  intro _ _
  simp-implicitDefEqProofs[]
  exact hst
 ·cases h0
 rw[List.length_map]
 have hown:=hr.own
 have hfl:(ps.map fun w=>[PV.int .i64 w]).flatten=ps.map (PV.int .i64):=tQ ps
 rw[hfl] at hown
 obtain⟨e1,e2⟩:=vL hown
 subst e2
 have e3:=qP e1 hr.rl
 have hh:h[id]?=some (sV ps):=by rw[hr.here,e3,List.map_map];rfl
 refine(wR G hh hk).mono ?_
 rintro x h' ⟨rfl,rfl⟩
 have hid:id<h.length:=hr.lt
 refine⟨rfl,tK (List.getElem?_set_self hid) (by simp[wn]),fun j hj hn=>?_,by simp⟩
 simp at hn
 exact List.getElem?_set_ne fun e=>hn e.symm
end Go.Proofs.YtnjbhgpbgmpkcaaGreatDoor
namespace Go.Proofs.YtnjbhgpbgmpkcaaGreatDoor
open Go Go.Aw
set_option maxRecDepth 100000
mutual
theorem Ex.parts_szI:∀e:Ex,e.parts≤e.sz
 | .mk _ _ w k=>by
   have:=rg k
   rw[Ex.parts_eq,Ex.sz_eq]
   simp only[Ex.kids,Ex.name]
   omega
theorem rg:∀l:List Ex,az l≤br l
 |[]=>by simp[az]
 |e::r=>by
  have h1:=Ex.parts_szI e
  have h2:=rg r
  rw[az,br]
  omega
end
mutual
theorem Sm.mq_sz:∀s:Sm,s.mq≤3*s.sz
 | .mk _ w a b e=>by
   have h1:=rg a
   have h2:=nx b
   have h3:=nx e
   rw[Sm.mq_eq,Sm.sz_eq]
   simp only[Sm.args,Sm.body,Sm.els,Sm.name]
   omega
theorem nx:∀l:List Sm,bE l≤3*aq l
 |[]=>by simp[bE]
 |s::r=>by
  have h1:=Sm.mq_sz s
  have h2:=nx r
  rw[bE,aq]
  omega
end
theorem vb:∀l:List Fd,ck l≤3*bX l
 |[]=>by simp[ck]
 |f::r=>by
  have h1:=nx f.body
  have h2:=vb r
  have e1:bX (f::r)=f.sz+bX r:=by simp[bX]
  have e2:ck (f::r)=f.mq+ck r:=by simp[ck]
  have e3:f.mq=1+f.params.length+bE f.body:=rfl
  have e4:f.sz=1+f.name.length+(f.params.length+(f.params.map List.length).sum)+aq f.body:=rfl
  omega
end Go.Proofs.YtnjbhgpbgmpkcaaGreatDoor
namespace Go.Proofs.YtnjbhgpbgmpkcaaGreatDoor
open Go Go.Aw
set_option maxRecDepth 100000
set_option maxHeartbeats 4000000
theorem Cd(l:List Nat):Bn l=fx (qm l):=by simp[Bn,fx,qm]
theorem wK(l:List Fd)(k:Int):(cg l k).length≤l.length:=by
 unfold cg
 split
 ·rename_i h
  split
  ·rename_i f hf
   have h1:=pF l f.body k.toNat
   have h2:=(List.getElem?_eq_some_iff.1 hf).1
   have:eK l f.body k.toNat=cH l f.body k.toNat:=rfl
   rw[this];omega
  ·simp
 ·simp
variable (G:aA) (hK:G iW=some ij) (hS:G eI=some [.tbl opK opV])
include hK hS
theorem rA(l:List Fd)(hz:bX l≤1073741824)(k:Int):AC Tryz.prog G ce [.agg [.p (fdL l)],.p (.int .i64 k)] [] (MkW dd true [fx (qm (cg l k))]):=by
 refine AC.go ql ?_
 have hll:=bK l
 have hfl:fdL l= .lst 3 (l.map Fd.cs):=rfl
 have hw:IntKind.i64.wrap ((l.length:Int)-1)=(l.length:Int)-1:=al (by omega) (by omega)
 simp-implicitDefEqProofs[kg]
 refine(Fq G hK hS l hz).use ?_
 by_cases h0:cP l=0
 case neg=>
  have:cg l k=[]:=if_neg (fun h=>h0 h.1)
  rw[this]
  simp-implicitDefEqProofs[h0]
  exact⟨[.nils],[],rfl,.nils 1 .nil,List.nodup_nil⟩
 simp-implicitDefEqProofs[h0,hfl,hw]
 refine(jk G _ _ _).use ?_
 by_cases h1:inR k 0 ((l.length:Int)-1)=true
 case neg=>
  have h1':inR k 0 ((l.length:Int)-1)=false:=by simpa using h1
  have:cg l k=[]:=if_neg (fun h=>h1 h.2)
  rw[h1',this]
  simp-implicitDefEqProofs[]
  exact⟨[.nils],[],rfl,.nils 1 .nil,List.nodup_nil⟩
 have hk:0≤k∧k≤(l.length:Int)-1:=by simpa[inR] using h1
 obtain⟨n,rfl⟩:∃n:Nat,k=n:=⟨k.toNat,by omega⟩
 have hn:n<l.length:=by omega
 have hg:=List.getElem?_eq_getElem hn
 have hc:cg l (n:Int)=eK l l[n].body n:=by
  rw[cg,if_pos ⟨h0,h1⟩];simp only[Int.toNat_natCast,hg]
 have hA:=fun h:List AO=>AC.mkLift fQ (zw G l hz hg) (h:=h) (by simp)
 have hO:nC l l[n].body=qm (eK l l[n].body n):=Ao h0 hg
 rw[hO] at hA
 rw[h1,hc]
 generalize qm (eK l l[n].body n)=ys at*
 simp-implicitDefEqProofs[hfl]
 refine(hA _).mono ?_
 rintro x h2 ⟨vs,I,os,rfl,rfl,ho,nd,hf⟩
 obtain⟨v,rfl⟩:=bS ho
 simp-implicitDefEqProofs[aa,dd]
 exact⟨[v],I,rfl,ho,nd⟩
theorem yc(l:List Fd)(hz:bX l≤1073741824)(k:Int):VF Tryz.prog G ce [.agg [.p (fdL l)],.p (.int .i64 k)] (.p (fx (qm (cg l k)))):=
 AC.mkFreeze (w:=dd) (qs:=[_]) fQ (rA G hK hS l hz k)
theorem uM(l:List Fd)(hf:FS l)(k:Int):VF Tryz.prog G eJ [.agg [.p (fdL l)],.p (.int .i64 k)] (.p (.bool true)):=by
 refine AC.go jM ?_
 have hsz':VF Tryz.prog G dv [.agg [.p (fdL l)],.p (.int .i64 1048576)] (.p (.int .i64 (bm 1048576 (bX l)))):=vp G l hf 1048576 (Nat.le_refl _)
 simp-implicitDefEqProofs[eM]
 refine hsz'.use ?_
 by_cases hz:bX l≤1048576
 case neg=>
  rw[bh hz]
  simp-implicitDefEqProofs[]
 have hto:=wy G l hz
 have hnn:¬((1048576-bX l:Nat):Int)<0:=by omega
 have hot:=fun h:List AO=>AC.mkLift qx (uW G l hz) (h:=h) (by simp)
 have hlen:(qm (cg l k)).length≤1048576:=by
  have:=wK l k
  have:=bK l
  rw[qm,List.length_map];omega
 have hsp:=xv G l (by omega) k
 rw[Cd] at hsp
 have hic:=rA G hK hS l (by omega) k
 have htc:=yc G hK hS l (by omega) k
 generalize qm (cg l k)=xs at*
 have hin:∀(h:List AO) (v:AV) (I:List Nat),OwnL true h [v] [fdL l] I→AC Tryz.prog G ce [.agg [v],.p (.int .i64 k)] h (Mk dd true [fx xs] h):=fun h v I ho=>AC.mkLend fQ hic (.agg ho.views (.keep (by simp[below]) .nil))
 rw[da hz]
 simp-implicitDefEqProofs[hnn]
 refine hto.use ?_
 simp-implicitDefEqProofs[]
 refine hsp.use ?_
 simp-implicitDefEqProofs[]
 refine(hot _).mono ?_
 rintro x h2 ⟨vs,I,os,rfl,e2,ho,nd,hf⟩
 obtain⟨v,rfl⟩:=bS ho
 obtain⟨c1,c2⟩:=dE ho
 have hl2:h2[0]?=some (.row 1 [[.p (fdL l)]]):=by rw[e2];rfl
 simp-implicitDefEqProofs[-AV.cells,-AV.isCell,iS,bu,cn,jb,bt,c1,c2,aa,hl2]
 refine(hin _ v I (ho.more _)).mono ?_
 rintro x h3 ⟨vs6,I6,os6,rfl,e3,ho6,nd6,hf6⟩
 obtain⟨v6,rfl⟩:=bS ho6
 obtain⟨c3,c4⟩:=dE ho6
 have hb0:h3[0]?=some (.row 1 [[.p (fdL l)]]):=by rw[e3,e2];rfl
 have hb5:h3[h2.length]?=some (.row 1 [[v]]):=by rw[e3];simp
 have ho3:OwnL true h3 [v] [fdL l] I:=by rw[e3];exact(ho.more _).more _
 have hlen3:h2.length<h3.length:=(List.getElem?_eq_some_iff.1 hb5).1
 have hI5:∀i∈I,i≠h2.length:=fun i hi e=>by have:=ho.lt hi;omega
 have hI0:∀i∈I,i≠0:=fun i hi e=>by have:=hf i hi;simp at this;omega
 have h6:∀i∈I6,h2.length<i:=fun i hi=>by have:=hf6 i hi;simp at this;omega
 have heq:=zV G xs hlen
 have hdl:=fun h v6 I6 (ho6:OwnL true h [v6] [fx xs] I6)=>heq.lend (h:=h) (args:=[v6,.p (fx xs)]) (.one (ho6.view 0 _ _ rfl rfl) (.keep (by simp[below]) .nil)) rfl
 simp-implicitDefEqProofs[dd,aa,hb5,hb0]
 refine(hdl _ v6 I6 ho6).mono ?_
 rintro x h4 ⟨rfl,rfl⟩
 simp-implicitDefEqProofs[aa,hb5,hb0]
 refine hto.use ?_
 simp-implicitDefEqProofs[aa,hb5,hb0]
 have hep:=fun h v I (ho:OwnL true h [v] [fdL l] I)=>(vW G l hz).lend (h:=h) (args:=[.agg [v],.agg [.p (fdL l)]]) (.agg ho.views (.keep (by simp[below]) .nil)) rfl
 refine(hep _ v I ho3).mono ?_
 rintro x h5 ⟨rfl,rfl⟩
 simp-implicitDefEqProofs[aa,hb5,hb0]
 have hQ:=vb l
 refine(ti G l _ v I 1 ho3 nd (by omega)).mono ?_
 rintro x h6' ⟨rfl,o7,f7,l7⟩
 have hnn7:¬(1:Int)+(ck l:Int)<0:=by omega
 have ho7:OwnL true h6' [v6] [fx xs] I6:=ho6.frame fun i hi=>f7 i (ho6.lt hi) fun hm=>by have:=h6 i hi;have:=ho.lt hm;omega
 have hb5':h6'[h2.length]?=some (.row 1 [[v]]):=by rw[f7 _ hlen3 fun hm=>hI5 _ hm rfl,hb5]
 have hb0':h6'[0]?=some (.row 1 [[.p (fdL l)]]):=by rw[f7 _ (by omega) fun hm=>hI0 _ hm rfl,hb0]
 clear hb5 hb0
 simp-implicitDefEqProofs[aa,hb5',hb0',hnn7]
 refine(hdl _ v6 I6 ho7).mono ?_
 rintro x h8 ⟨rfl,rfl⟩
 simp-implicitDefEqProofs[aa,hb5',hb0']
 refine(Fo G _ v6 I6 xs 1 ho7 nd6 (by omega)).mono ?_
 rintro x h9 ⟨rfl,o9,f9,l9⟩
 have hb0:h9[0]?=some (.row 1 [[.p (fdL l)]]):=by rw[f9 _ (by omega) fun hm=>by have:=h6 _ hm;omega,hb0']
 clear hb5' hb0'
 have hhe:=fun h v6 I6 (ho6:OwnL true h [v6] [fx (ky 1 xs.length)] I6)=>(xC G 1 xs.length (by omega)).lend (h:=h) (args:=[v6,.p (.int .i64 1)]) (.one (ho6.view 0 _ _ rfl rfl) (.keep (by simp[below]) .nil)) rfl
 have hnn9:¬(1:Int)+(xs.length:Int)<0:=by omega
 simp-implicitDefEqProofs[aa,hb0]
 refine(hhe _ v6 I6 o9).mono ?_
 rintro x h10 ⟨rfl,rfl⟩
 simp-implicitDefEqProofs[aa,hb0,hnn9]
 refine hto.use ?_
 simp-implicitDefEqProofs[]
 refine htc.use ?_
 simp-implicitDefEqProofs[]
 refine heq.use ?_
 simp-implicitDefEqProofs[aa,hb0,hnn9]
 refine(hhe _ v6 I6 o9).mono ?_
 rintro x h11 ⟨rfl,rfl⟩
 simp-implicitDefEqProofs[aa,hb0,hnn9]
end Go.Proofs.YtnjbhgpbgmpkcaaGreatDoor
