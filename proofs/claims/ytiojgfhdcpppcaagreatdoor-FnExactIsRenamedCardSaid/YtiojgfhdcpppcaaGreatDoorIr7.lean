/-
  Contracts and lemmas that the card needs, part 7.
-/
import Derived.Test.YtiojgfhdcpppcaaGreatDoorIr6
namespace Go.Proofs.YtiojgfhdcpppcaaGreatDoor
open Go Go.Aw
set_option maxRecDepth 100000
set_option maxHeartbeats 4000000
variable (G:aF)
theorem Es{f:FuncId}{args args0:List AV}{b0 o0:AO}{n n':Nat}{m m':Scp}{v:AV}(H:AC Tryz.prog G f args0 (RH b0 n [⟨[],m⟩]) fun x h=>x= .ret v∧h=RH b0 n' [⟨[],m'⟩])(hb:okO 0 b0)(hv:below 0 v)(hT:TW [1,2,3,4] args args0)(rest:List AO):
 AC Tryz.prog G f args (o0::b0::rO n:: .mp (mpE m):: .row 2 [[.mp 3,.nilp]]::rest) fun x h=>x= .ret v∧h=o0::b0::rO n':: .mp (mpE m'):: .row 2 [[.mp 3,.nilp]]::rest:=by
 have hRH:∀n m,RH b0 n [⟨[],m⟩]=[b0,rO n,.mp (mpE m),.row 2 [[.mp 2,.nilp]]]:=fun _ _=>rfl
 rw[hRH,hRH] at H
 have hmp:∀m:Scp,∀σ:List Nat,(mpE m).map (fun x=>(x.1,ren σ x.2))=mpE m:=fun m σ=>by
  rw[mpE,List.map_map];rfl
 have hren:∀σ,ren σ v=v:=fun σ=>by
  have:=fC σ [v] ⟨hv,trivial⟩
  simpa[bz] using this
 have hrb:∀σ,iA σ b0=b0:=fun σ=>vp (n:=0) (fun i hi=>by omega) b0 hb
 have hrr:∀(σ:List Nat) (n:Nat),iA σ (rO n)=rO n:=fun σ n=>by simp[rO,iA,bz,ren]
 have hrm:∀(σ:List Nat) (m:Scp),iA σ (.mp (mpE m))= .mp (mpE m):=fun σ m=>by rw[iA,hmp]
 refine(H.frame [1,2,3,4] (by decide) hT ?_).mono ?_
 ·refine mO rfl hb (mO rfl (by intro e he;rw[List.mem_singleton.1 he];simp[below]) ?_)
  refine⟨by simp,⟨fun x hx=>by obtain⟨y,_,rfl⟩:=List.mem_map.1 hx;simp[below],?_⟩,mb (es:=[[.mp 2,.nilp]]) (by simp[below]) ?_ cP⟩
  ·rw[hmp];rfl
  ·simp[ren,bz]
 ·rintro x h' ⟨x0,h0,⟨rfl,rfl⟩,_,rfl,rfl⟩
  refine⟨by rw[yT,hren],?_⟩
  simp only[List.length_cons,List.length_nil,Nat.sub_self,List.range'_zero,List.append_nil,List.take_succ_cons,List.take_zero,List.map_cons,List.map_nil,List.drop_succ_cons,List.drop_zero,hrb,hrr,hrm,mrg]
  simp[iA,bz,ren]
def zF:AO:= .row 3 [[.p (.str []),.nils,.nils]]
def pG(st:Scp × Nat)(s:List UInt8):List UInt8 × (Scp × Nat):=(vnm st.2,(dI st.1 s st.2,st.2+1))
theorem xQ:∀(ps:List (List UInt8)) (m:Scp) (n:Nat),aI pG (m,n) ps=((ed ps m n).1,((ed ps m n).2.1,(ed ps m n).2.2))
 |[],m,n=>rfl
 |s::r,m,n=>by
  rw[aI,ed]
  have:=xQ r (dI m s n) (n+1)
  simp only[pG] at this⊢
  rw[this]
theorem vf:∀(ps:List (List UInt8)) (m:Scp) (n:Nat),(ed ps m n).2.2=n+ps.length
 |[],m,n=>rfl
 |s::r,m,n=>by rw[ed];simp only;rw[vf r];simp only[List.length_cons];omega
theorem vn:∀(ps:List (List UInt8)) (m:Scp) (n:Nat),n+ps.length≤26→Sml [m]→Sml [(ed ps m n).2.1]
 |[],m,n,_,h=>h
 |s::r,m,n,hn,h=>by
  rw[List.length_cons] at hn
  rw[ed]
  exact vn r (dI m s n) (n+1) (by omega) (h.set s (by omega))
theorem Sml.base:Sml [[]]:=fun s n e=>by simp[dA,fI] at e
def zM(f:List AV)(hf:ag 0 f):Vis (Scp × Nat) where
 I:=fun st=>[.row 3 [f],zF,rO st.2,.mp (mpE st.1),.row 2 [[.mp 3,.nilp]],.row 1 [[.ptr 2 1 0 0]],.row 1 [[.ptr 4 2 0 0]]]
 n:=7
 F:=bx
 caps:=[.ptr 5 1 0 0,.ptr 6 1 0 0]
 len:=fun _=>rfl
 ok:=fun st=>ae (by intro e he;rw[List.mem_singleton.1 he];exact aD (Nat.zero_le _) _ hf) (ae (cg (by simp[zF,okO,below])) (ae (cg (by simp[rO,okO,below])) (ae (qP _ _) (ae (by simp[okO,below]) (ae (by simp[okO,below]) (ae (by simp[okO,below]) dr))))))
 capsOk:=by simp[below]
theorem Ek(f:Fd)(hz:f.sz≤1073741824)(hv:lL f≤26):VF Tryz.prog G bl [.agg (f.cs.map .p)] (.agg ((irF f).cs.map .p)):=by
 have hfc:=f.cs_eq'
 have hfz:f.sz=1+f.name.length+(f.params.length+(f.params.map List.length).sum)+az f.body:=rfl
 have hst:ay f.params= .lst 1 (f.params.map fun w=>[.str w]):=rfl
 have hvn:lL f=f.params.length+cz f.body:=rfl
 have hzF:okO 0 zF:=by simp[zF,okO,below]
 have hup:∀m,upV [⟨[],m⟩]= .ptr 3 2 0 0:=fun _=>rfl
 have hps:=EG G (zM [.p (.str f.name),.p (ay f.params),.p (smL f.body)] (by simp)) pG (fun i st=>st.2=i∧Sml [st.1]) f.params (by omega) (by show 0<7;omega) (fun i st hi hst=>?_) ([],0) ⟨rfl,Sml.base⟩
 ·rw[xQ] at hps
  have hcnt:=vf f.params [] 0
  have hcaps:(zM [.p (.str f.name),.p (ay f.params),.p (smL f.body)] (by simp)).caps=[.ptr 5 1 0 0,.ptr 6 1 0 0]:=rfl
  have hF:(zM [.p (.str f.name),.p (ay f.params),.p (smL f.body)] (by simp)).F=bx:=rfl
  have hI:∀m n,(zM [.p (.str f.name),.p (ay f.params),.p (smL f.body)] (by simp)).I (m,n)=[.row 3 [[.p (.str f.name),.p (ay f.params),.p (smL f.body)]],zF,rO n,.mp (mpE m),.row 2 [[.mp 3,.nilp]],.row 1 [[.ptr 2 1 0 0]],.row 1 [[.ptr 4 2 0 0]]]:=fun _ _=>rfl
  rw[hcaps,hF,hI,hI] at hps
  have hir:(irF f).cs=[.str f.name,ay (ed f.params [] 0).1,smL (cU f.body (ed f.params [] 0).2.1 [] (ed f.params [] 0).2.2).1]:=rfl
  refine AC.go kn ?_
  rw[hir]
  have hsml:=vn f.params [] 0 (by omega) Sml.base
  have hbk:=Bp G hzF (az f.body+1) f.body (by omega) (by omega) [] (ed f.params [] 0).2.1 [] (ed f.params [] 0).2.2 (fun m=>⟨by simp,trivial⟩) hsml (by omega)
  generalize ed f.params [] 0=ps at hps hcnt hbk⊢
  have hbk2:=fun o0 rest=>Es G (o0:=o0) (args:=[.ptr 2 1 0 0,.p (smL f.body),.ptr 4 2 0 0]) hbk hzF (by simp) (by simp[below,ren,scL]) rest
  have hrO:∀n,rO n= .row 1 [[.p (.int .i64 n)]]:=fun _=>rfl
  have hmpE:mpE []=[]:=rfl
  simp-implicitDefEqProofs[eY,hfc]
  refine(kZ G .nilp (.inl rfl) _).mono ?_
  rintro r h ⟨rfl,rfl⟩
  simp-implicitDefEqProofs[aa]
  refine hps.mono ?_
  rintro r h ⟨rfl,rfl⟩
  simp-implicitDefEqProofs[aa]
  refine(hbk2 _ _).mono ?_
  rintro r h ⟨rfl,rfl⟩
  simp-implicitDefEqProofs[aa,zF]
 ·obtain⟨m,n⟩:=st
  obtain⟨e1,e2⟩:=hst
  simp only at e1 e2
  subst e1
  refine⟨⟨rfl,e2.set _ (by omega)⟩,?_⟩
  have hbd:=fun rest=>Es G (o0:= .row 3 [[.p (.str f.name),.p (ay f.params),.p (smL f.body)]]) (args:=[.ptr 2 1 0 0,.ptr 4 2 0 0,.p (.str f.params[n])]) (by
   have:=Bq G zF [] m [] f.params[n] n (by omega) []
   rw[List.append_nil,List.append_nil] at this
   exact this) hzF (by simp) (by simp[below,ren,hup]) rest
  refine AC.go iZ ?_
  have hcaps:(zM [.p (.str f.name),.p (ay f.params),.p (smL f.body)] (by simp)).caps=[.ptr 5 1 0 0,.ptr 6 1 0 0]:=rfl
  have hI:∀m n,(zM [.p (.str f.name),.p (ay f.params),.p (smL f.body)] (by simp)).I (m,n)=[.row 3 [[.p (.str f.name),.p (ay f.params),.p (smL f.body)]],zF,rO n,.mp (mpE m),.row 2 [[.mp 3,.nilp]],.row 1 [[.ptr 2 1 0 0]],.row 1 [[.ptr 4 2 0 0]]]:=fun _ _=>rfl
  have hpg:∀s,pG (m,n) s=(vnm n,(dI m s n,n+1)):=fun _=>rfl
  rw[hpg,hcaps,hI,hI]
  generalize f.params[n]=s at hbd⊢
  simp-implicitDefEqProofs[eh]
  refine(hbd _).mono ?_
  rintro r h ⟨rfl,rfl⟩
  simp-implicitDefEqProofs[aa]
theorem vJ(F:FuncId)(l:List Fd)(q:Fd→Bool)(hb:l.length≤1099511627776)(H:∀x∈l,VF Tryz.prog G F [.agg (x.cs.map .p)] (.p (.bool (q x)))):VF Tryz.prog G bH [.p (fdL l),.fn (.func F) []] (.p (.bool (l.any q))):=by
 have hfl:∀l,fdL l= .lst 3 (l.map Fd.cs):=fun _=>rfl
 have idx:VF Tryz.prog G aT [.p (fdL l),.fn (.func F) []] (.p (.int .i64 (ixI (l.findIdx? q)))):=by
  refine AC.go dy ?_
  simp-implicitDefEqProofs[cf,hfl]
  refine aH (fun i:Nat=>aj 19 [(0,.p (fdL l)),(1,.fn (.func F) []),(7,.p (.int .i64 l.length)),(8,.p (.int .i64 i))]) (fun _=>[]) (fun i=>i≤l.length∧∀f∈l.take i,q f=false) (fun i=>l.length-i) 0 (by simp) (aw rfl (by simp[below,ag,hfl])) ?_
  intro i ⟨hi,hn⟩
  simp-implicitDefEqProofs[hfl]
  refine bg (fun h1=>?_) (fun h1=>?_)
  ·simp at h1
   have hg:=List.getElem?_eq_getElem h1
   have hh:=H l[i] (List.getElem_mem h1)
   have hcs:=l[i].cs_eq'
   rw[hcs] at hh
   simp-implicitDefEqProofs[hg,hcs]
   refine hh.use ?_
   cases he:q l[i] with
   |true=>
    have hf:l.findIdx? q=some i:=by
     rw[List.findIdx?_eq_some_iff_getElem]
     exact⟨h1,he,fun j hj=>by have:=hn l[j] (List.mem_take_iff_getElem.2 ⟨j,by omega,rfl⟩);simp[this]⟩
    simp-implicitDefEqProofs[hf,ixI]
   |false=>
    simp-implicitDefEqProofs[]
    refine⟨i+1,⟨h1,fun p hp=>?_⟩,by omega,aw rfl (by simp[below,ag,hfl,w1 (i:=i) (by omega)])⟩
    rw[ah h1] at hp
    rcases List.mem_append.1 hp with hp|hp
    ·exact hn p hp
    ·rw[List.mem_singleton.1 hp];exact he
  ·simp at h1
   rw[List.take_of_length_le h1] at hn
   have hf:l.findIdx? q=none:=by
    rw[List.findIdx?_eq_none_iff];exact hn
   simp-implicitDefEqProofs[hf,ixI]
 refine AC.go gm ?_
 simp-implicitDefEqProofs[cW]
 refine idx.use ?_
 cases hf:l.findIdx? q with
 |none=>
  have:l.any q=false:=by
   rw[List.findIdx?_eq_none_iff] at hf
   rw[List.any_eq_false];intro x hx;simp[hf x hx]
  rw[this]
  simp-implicitDefEqProofs[ixI]
 |some j=>
  have:l.any q=true:=by
   rw[List.findIdx?_eq_some_iff_getElem] at hf
   obtain⟨h1,h2,_⟩:=hf
   exact List.any_eq_true.2 ⟨_,List.getElem_mem h1,h2⟩
  rw[this]
  have hj:(0:Int)≤(j:Int):=by omega
  simp-implicitDefEqProofs[ixI,hj]
theorem CX(f:Fd)(hz:f.sz≤1073741824):VF Tryz.prog G bW [.agg (f.cs.map .p)] (.p (.bool (!decide (lL f≤26)))):=by
 have hfc:=f.cs_eq'
 have hvc:=xg G f hz
 rw[hfc] at hvc
 refine AC.go kb ?_
 simp-implicitDefEqProofs[eU,hfc]
 refine hvc.use ?_
 by_cases h:lL f≤26
 ·have h':¬(26:Int)<(lL f:Int):=by omega
  simp-implicitDefEqProofs[h,h']
 ·have h':(26:Int)<(lL f:Int):=by omega
  simp-implicitDefEqProofs[h,h']
def Dr(l:List Fd):Vis Unit where
 I:=fun _=>[.row 1 [[.p (fdL l)]],.row 1 [[.nils]]]
 n:=2
 F:=bl
 caps:=[]
 len:=fun _=>rfl
 ok:=fun _=>by simp[okO,below]
 capsOk:=trivial
variable (hK:G gZ=some gx) (hS:G ec=some [.tbl opK opV])
include hK hS
theorem qC(l:List Fd)(hz:bc l≤1073741824):VF Tryz.prog G cD [.agg [.p (fdL l)]] (.tup [.agg [.p (fdL (jx l))],.p (.bool (ft l))]):=by
 have hll:=bT l
 have hfl:∀l,fdL l= .lst 3 (l.map Fd.cs):=fun _=>rfl
 have key:AC Tryz.prog G cD [.agg [.p (fdL l)]] [] fun x h=>∃v,x= .ret (.tup [.agg [v],.p (.bool (ft l))])∧View h v (fdL (jx l)):=by
  refine AC.go lE ?_
  simp-implicitDefEqProofs[gr]
  refine(ES G hK hS l hz).use ?_
  by_cases h0:cY l=0
  case neg=>
   have hr:ft l=false:=by simp[ft,h0]
   have hp:jx l=[]:=by simp[jx,hr]
   rw[hr,hp]
   simp-implicitDefEqProofs[h0]
   exact .nils 3
  have hro:ft l=oR l:=by simp[ft,h0]
  have hrp:jx l=if oR l=true then l.map irF else[]:=by rw[jx,hro]
  have hfa:(l.any fun f=> !decide (lL f≤26))= !oR l:=by rw[oR,List.not_all_eq_any_not]
  rw[hro,hrp]
  simp-implicitDefEqProofs[h0]
  refine(vJ G bW l (fun f=> !decide (lL f≤26)) (by omega) fun x hx=>CX G x (by have:=ce hx;omega)).use ?_
  rw[hfa]
  cases hf:oR l with
  |false=>
   simp-implicitDefEqProofs[]
   exact .nils 3
  |true=>
   have hmp:=Db G (Dr l) (fun st x=>(irF x,st)) (fun _ _=>True) l (by omega) (by show 0<2;omega) (fun i st hi _=>⟨trivial,?_⟩) () trivial
   ·rw[oo] at hmp
    have hI:(Dr l).I ()=[.row 1 [[.p (fdL l)]],.row 1 [[.nils]]]:=rfl
    have hF:(Dr l).F=bl:=rfl
    have hc:(Dr l).caps=[]:=rfl
    rw[hI,hF,hc] at hmp
    simp-implicitDefEqProofs[]
    refine hmp.mono ?_
    rintro r h ⟨rfl,rfl⟩
    simp-implicitDefEqProofs[aa]
    exact .p _
   ·have hm:=ce (List.getElem_mem hi)
    have hv:lL l[i]≤26:=by
     rw[oR,List.all_eq_true] at hf
     simpa using hf _ (List.getElem_mem hi)
    exact(Ek G l[i] (by omega) hv).ac (by simp[below]) (by simp[below]) _
 refine key.freezeR (fun t v h ⟨_,e,_⟩=>by cases e) fun v h ⟨u,e1,e2⟩=>?_
 cases e1
 exact .tup (.agg (.one e2 .nil) (.keep (by simp) .nil)) .nil
theorem we(l:List Fd)(hz:bc l≤1073741824)(hr:bc (jx l)≤1073741824):VF Tryz.prog G fB [.agg [.p (fdL l)]] (.p (.bool (ft l&&eqX (jx l) l))):=by
 refine AC.go pz ?_
 simp-implicitDefEqProofs[jy]
 refine(qC G hK hS l hz).use ?_
 cases h:ft l with
 |false=>simp-implicitDefEqProofs[]
 |true=>
  simp-implicitDefEqProofs[]
  refine(sa G l (jx l) hz hr).use ?_
  rw[Af]
  simp-implicitDefEqProofs[]
end Go.Proofs.YtiojgfhdcpppcaaGreatDoor
namespace Go.Proofs.YtiojgfhdcpppcaaGreatDoor
open Go Go.Aw
set_option maxRecDepth 100000
set_option maxHeartbeats 4000000
theorem mf{s:List UInt8}(h:au s=true):s.length≤4:=by
 rw[au] at h
 simp at h
 omega
theorem xD{e:Ex}(h:kw e=true):e.name.length≤4:=by
 simp only[kw,Bool.and_eq_true,Bool.or_eq_true,decide_eq_true_eq,beq_iff_eq] at h
 obtain⟨⟨⟨⟨_,h1⟩,h2⟩,_⟩,_⟩:=h
 rcases h2 with h2|h2
 ·exact mf (h1▸h2)
 ·rw[h2];simp
theorem BW:∀(d:Nat) (e:Ex),dv d e=true→e.sz≤5*e.parts:=by
 intro d
 induction d with
 |zero=>intro e h;simp[dv] at h
 |succ d ih=>
  intro e h
  rw[dv,Bool.and_eq_true] at h
  have h1:=xD h.1
  have h2:∀l:List Ex,l.all (dv d)=true→bC l≤5*dZ l:=by
   intro l
   induction l with
   |nil=>intro _;simp[bC,dZ]
   |cons x r ihl=>
    intro hl
    rw[List.all_cons,Bool.and_eq_true] at hl
    have:=ih x hl.1
    have:=ihl hl.2
    rw[bC,dZ];omega
  have h3:=h2 e.kids h.2
  rw[e.sz_eq,e.parts_eq];omega
theorem DP{e:Ex}(h:ji e=true):e.sz≤150:=by
 simp only[ji,Bool.and_eq_true,decide_eq_true_eq] at h
 have:=BW 6 e h.1
 omega
theorem BF{s:Sm}(h:gq s=true):1+s.name.length+bC s.args≤305:=by
 simp only[gq,Bool.and_eq_true,Bool.or_eq_true,decide_eq_true_eq,beq_iff_eq] at h
 obtain⟨⟨⟨⟨⟨⟨⟨_,h0⟩,h1⟩,h2⟩,h3⟩,_⟩,_⟩,_⟩:=h
 have hn:s.name.length≤4:=by
  rcases h2 with h2|h2
  ·exact mf (h1▸h2)
  ·rw[h2];simp
 have ha:∀l:List Ex,l.all ji=true→bC l≤150*l.length:=by
  intro l
  induction l with
  |nil=>intro _;simp[bC]
  |cons x r ihl=>
   intro hl
   rw[List.all_cons,Bool.and_eq_true] at hl
   have:=DP hl.1
   have:=ihl hl.2
   rw[bC,List.length_cons];omega
 have h4:=ha s.args h3
 have h5:s.args.length≤2:=by rw[h0,iX];split<;>omega
 omega
theorem AR:∀(d:Nat) (l:List Sm),l.all (aC d)=true→az l≤305*cM l:=by
 intro d
 induction d with
 |zero=>
  intro l h
  cases l with
  |nil=>simp[az]
  |cons s r=>simp[aC] at h
 |succ d ih=>
  intro l
  induction l with
  |nil=>intro _;simp[az]
  |cons s r ihl=>
   intro h
   rw[List.all_cons,Bool.and_eq_true] at h
   have h2:=ihl h.2
   have h1:=h.1
   simp only[aC,Bool.and_eq_true] at h1
   obtain⟨⟨h3,h4⟩,h5⟩:=h1
   have:=BF h3
   have:=ih s.body h4
   have:=ih s.els h5
   rw[az,cM,s.sz_eq,s.cnt_eq];omega
theorem Dw{f:Fd}(h:gV f=true):f.sz≤20+305*cM f.body:=by
 simp only[gV,Bool.and_eq_true,decide_eq_true_eq] at h
 obtain⟨⟨⟨h1,h2⟩,h3⟩,h4⟩:=h
 have:=mf h2
 have:=AR 4 f.body h4
 have hp:∀l:List (List UInt8),l.all au=true→(l.map List.length).sum≤4*l.length:=by
  intro l
  induction l with
  |nil=>intro _;simp
  |cons x r ihl=>
   intro hl
   rw[List.all_cons,Bool.and_eq_true] at hl
   have:=mf hl.1
   have:=ihl hl.2
   rw[List.map_cons,List.sum_cons,List.length_cons];omega
 have:=hp f.params h1
 have e:f.sz=1+f.name.length+(f.params.length+(f.params.map List.length).sum)+az f.body:=rfl
 omega
theorem yW{l:List Fd}(h:bX l=true):bc l≤12280:=by
 obtain⟨h1,h2,h3⟩:=(xc l).1 h
 have key:∀l:List Fd,(∀f∈l,gV f=true)→bc l≤20*l.length+305*gU l:=by
  intro l
  induction l with
  |nil=>intro _;simp[bc]
  |cons f r ih=>
   intro hl
   have a:=Dw (hl f (by simp))
   have b:=ih fun g hg=>hl g (by simp[hg])
   have e1:bc (f::r)=f.sz+bc r:=by simp[bc]
   have e2:gU (f::r)=cM f.body+gU r:=by simp[gU]
   rw[e1,e2,List.length_cons];omega
 have:=key l h2
 omega
mutual
theorem Fh(ch:List Scp):∀e:Ex,(irE ch e).sz≤3*e.sz
 | .mk o n s ks=>by
   have h:=tM ch ks
   have hn:(if o=2 then irN ch s else s).length≤2+s.length:=by
    split
    ·simp[irN,vnm]
    ·omega
   rw[irE,Ex.sz,Ex.sz];omega
theorem tM(ch:List Scp):∀l:List Ex,bC (jO ch l)≤3*bC l
 |[]=>by simp[jO,bC]
 |e::r=>by have h1:=Fh ch e;have h2:=tM ch r;rw[jO,bC,bC];omega
end
theorem Fj:∀(N:Nat) (l:List Sm),az l<N→∀m up n,az (cU l m up n).1≤3*az l:=by
 intro N
 induction N with
 |zero=>intro l h;omega
 |succ N ih=>
  intro l
  induction l with
  |nil=>intro _ m up n;simp[cU,az]
  |cons s r ihl=>
   intro hl m up n
   obtain⟨o,nme,a,bd,el⟩:=s
   rw[az,Sm.sz] at hl
   have h1:=tM (m::up) a
   have h2:=ih bd (by omega) [] (opS o nme m n::up) (if o=1 then n+1 else n)
   have h3:=ih el (by omega) [] (opS o nme m n::up) (cU bd [] (opS o nme m n::up) (if o=1 then n+1 else n)).2.2
   have h4:=ihl (by omega) (irS ⟨o,nme,a,bd,el⟩ m up n).2.1 up (irS ⟨o,nme,a,bd,el⟩ m up n).2.2
   have hn:(if o=1 then vnm n else if o=2 then irN (m::up) nme else nme).length≤2+nme.length:=by
    split
    ·simp[vnm]
    ·split
     ·simp[irN,vnm]
     ·omega
   rw[cU]
   simp only
   rw[az,AS,Sm.sz,az,Sm.sz]
   omega
theorem yw:∀(ps:List (List UInt8)) (m:Scp) (n:Nat),(ed ps m n).1.length=ps.length∧((ed ps m n).1.map List.length).sum=2*ps.length
 |[],m,n=>by simp[ed]
 |s::r,m,n=>by
  obtain⟨h1,h2⟩:=yw r (dI m s n) (n+1)
  rw[ed]
  simp only
  rw[List.length_cons,List.length_cons,h1,List.map_cons,List.sum_cons,h2]
  simp[vnm];omega
theorem EI(f:Fd):(irF f).sz≤3*f.sz:=by
 obtain⟨h1,h2⟩:=yw f.params [] 0
 have h3:=Fj (az f.body+1) f.body (by omega) (ed f.params [] 0).2.1 [] (ed f.params [] 0).2.2
 have e:f.sz=1+f.name.length+(f.params.length+(f.params.map List.length).sum)+az f.body:=rfl
 have e2:(irF f).sz=1+f.name.length+((ed f.params [] 0).1.length+((ed f.params [] 0).1.map List.length).sum)+az (cU f.body (ed f.params [] 0).2.1 [] (ed f.params [] 0).2.2).1:=rfl
 omega
theorem Da(l:List Fd):bc (jx l)≤36840:=by
 unfold jx
 split
 ·rename_i h
  have h0:cY l=0:=by simp[ft] at h;exact h.1
  have hz:=yW ((yD l).1 h0).1
  have key:∀l:List Fd,bc (l.map irF)≤3*bc l:=by
   intro l
   induction l with
   |nil=>simp[bc]
   |cons f r ih=>
    have a:=EI f
    have e1:bc (f::r)=f.sz+bc r:=by simp[bc]
    have e2:bc ((f::r).map irF)=(irF f).sz+bc (r.map irF):=by simp[bc]
    rw[e1,e2];omega
  have:=key l
  omega
 ·simp[bc]
variable (G:aF) (hK:G gZ=some gx) (hS:G ec=some [.tbl opK opV])
include hK hS
theorem sO(l:List Fd)(hf:Ff l):VF Tryz.prog G eJ [.agg [.p (fdL l)]] (.p (.bool true)):=by
 refine AC.go jm ?_
 have hsz':VF Tryz.prog G dD [.agg [.p (fdL l)],.p (.int .i64 1048576)] (.p (.int .i64 (bs 1048576 (bc l)))):=uR G l hf 1048576 (Nat.le_refl _)
 simp-implicitDefEqProofs[eI]
 refine hsz'.use ?_
 by_cases hz:bc l≤1048576
 case neg=>
  rw[bm hz]
  simp-implicitDefEqProofs[]
 have hto:=ww G l hz
 have hnn:¬((1048576-bc l:Nat):Int)<0:=by omega
 have hr:=Da l
 rw[dg hz]
 simp-implicitDefEqProofs[hnn]
 refine hto.use ?_
 simp-implicitDefEqProofs[]
 refine(wd G l (by omega) (by omega)).use ?_
 simp-implicitDefEqProofs[]
 refine hto.use ?_
 simp-implicitDefEqProofs[]
 refine(we G hK hS l (by omega) (by omega)).use ?_
 simp-implicitDefEqProofs[]
 refine hto.use ?_
 simp-implicitDefEqProofs[]
 refine(uT G l hz).use ?_
 simp-implicitDefEqProofs[]
end Go.Proofs.YtiojgfhdcpppcaaGreatDoor
