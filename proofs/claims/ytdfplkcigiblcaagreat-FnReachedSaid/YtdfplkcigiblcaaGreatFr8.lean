/-
  Contracts and lemmas that the card needs, part 8.
-/
import Derived.Test.YtdfplkcigiblcaaGreatFr7
import Derived.Test.YtdfplkcigiblcaaGreatChecked
import Derived.Shelf.Sort.AssemblyIn
import Derived.Shelf.Slices.CompactI
import Derived.Lib.SlicesCompact
import Derived.Shelf.Sort.Plain
import Derived.Shelf.Slices.In.SortNone
namespace Go.Proofs.YtdfplkcigiblcaaGreat
open Go Go.Aw
set_option maxRecDepth 100000
set_option maxHeartbeats 4000000
section
theorem nB:∀a b:List Sm,aY (a++b)=aY a+aY b
 |[],b=>by simp[aY]
 |s::r,b=>by rw[List.cons_append,aY,aY,nB r b,Nat.add_assoc]
theorem yI{l:List Sm}{i:Nat}(h:i<l.length):aY (l.take (i+1))=aY (l.take i)+BU l[i]:=by rw[au h,nB,aY,aY];rfl
theorem vr(l:List Sm)(i:Nat):aY (l.take i)<=aY l:=by
 have:=nB (l.take i) (l.drop i)
 rw[List.take_append_drop] at this
 omega
variable (G:aA)
theorem Dz:∀(k:Nat) (l:List Sm),aM l<=k->k<=1099511627776->VF Tryz.prog G cY [.p (smL l)] (.p (.int .i64 (aY l))):=by
 intro k
 induction k with
 |zero=>
  intro l hl _
  have:l=[]:=by
   cases l with
   |nil=>rfl
   |cons s r=>have:=s.sz_eq;simp only[aM] at hl;omega
  subst this
  refine AC.go lv ?_
  have hsl:smL []= .lst 5 []:=rfl
  simp-implicitDefEqProofs[ip,hsl]
  refine aI (λ_:Unit=>aB 35 [(0,.p (.lst 5 [])),(3,.p (.int .i64 0)),(4,.p (.int .i64 0))]) (λ_=>[]) (λ_=>True) (λ_=>0) () trivial (bc rfl (by simp[below])) ?_
  intro _ _
  simp-implicitDefEqProofs[aY]
 |succ k ih=>
  intro l hl hk
  have hll:=dH l
  have hnz:=Nat.le_trans (iz l) (gG l)
  refine AC.go lv ?_
  have hsl:∀l,smL l= .lst 5 (l.map Sm.cs):=λ_=>rfl
  simp-implicitDefEqProofs[ip,hsl]
  refine aI (λi:Nat=>aB 35 [(0,.p (smL l)),(3,.p (.int .i64 (aY (l.take i)))),(4,.p (.int .i64 i))]) (λ_=>[]) (λi=>i<=l.length) (λi=>l.length-i) 0 (by simp) (bc rfl (by simp[below,hsl,aY])) ?_
  intro i hi
  have k2:=vr l i
  simp-implicitDefEqProofs[hsl]
  refine aF (λh=>?_) (λh=>?_)
  ·simp at h
   have hg:=List.getElem?_eq_getElem h
   have hks:=mg (List.getElem_mem h)
   have hse:=l[i].sz_eq
   have hce:=l[i].cs_eq
   have k1:=yI h
   have k4:=vr l (i+1)
   have k5:=Fk l[i]
   have hb:=ih l[i].body (by omega) (by omega)
   have he:=ih l[i].els (by omega) (by omega)
   generalize l[i]=s at*
   generalize aY (l.take i)=n at*
   obtain⟨n2,hn2⟩:∃n2,n2=aY (l.take (i+1)):=⟨_,rfl⟩
   rw[←hn2] at k1 k4
   by_cases ho:s.op=1
   ·rw[if_pos ho] at k5
    simp-implicitDefEqProofs[hg,hce,ho]
    refine(tf G true).use ?_
    have w0':IntKind.i64.wrap ((n:Int)+1)=(n:Int)+1:=ag (by omega) (by omega)
    simp-implicitDefEqProofs[hg,hce,w0']
    refine hb.use ?_
    have w1':IntKind.i64.wrap ((n:Int)+1+(aY s.body:Int))=(n:Int)+1+(aY s.body:Int):=ag (by omega) (by omega)
    simp-implicitDefEqProofs[hg,hce,w1']
    refine he.use ?_
    have w2':IntKind.i64.wrap ((n:Int)+1+(aY s.body:Int)+(aY s.els:Int))=(n2:Int):=by rw[ag (by omega) (by omega)];omega
    simp-implicitDefEqProofs[w2']
    exact⟨i+1,h,by omega,bc rfl (by simp[below,hsl,←hn2,w1 (i:=i) (by omega)])⟩
   ·rw[if_neg ho] at k5
    simp-implicitDefEqProofs[hg,hce,ho]
    refine(tf G false).use ?_
    have w0':IntKind.i64.wrap (n:Int)=(n:Int):=ag (by omega) (by omega)
    simp-implicitDefEqProofs[hg,hce,w0']
    refine hb.use ?_
    have w1':IntKind.i64.wrap ((n:Int)+(aY s.body:Int))=(n:Int)+(aY s.body:Int):=ag (by omega) (by omega)
    simp-implicitDefEqProofs[hg,hce,w1']
    refine he.use ?_
    have w2':IntKind.i64.wrap ((n:Int)+(aY s.body:Int)+(aY s.els:Int))=(n2:Int):=by rw[ag (by omega) (by omega)];omega
    simp-implicitDefEqProofs[w2']
    exact⟨i+1,h,by omega,bc rfl (by simp[below,hsl,←hn2,w1 (i:=i) (by omega)])⟩
  ·simp at h
   rw[List.take_of_length_le h]
   simp-implicitDefEqProofs[]
section
variable {l:List Fd} {pr:Int} {L:Nat} {S I0 E:List Nat} {h:List AO} {w:Lw} {nx:Nat} {vs:Vs} {X:List AO} {K V:AV} {I:List Nat}
theorem FB(T:RS l pr L S I0 E h w nx vs X K V I)(hw:w.regs<=1073741824):
 AC Tryz.prog G bl [.ptr L 8 0 0] X λx h'=>x= .ret (.p (.int .i64 w.regs))/\∃K' I',RS l pr L S I0 E h w.reg nx vs h' K' V I'/\∀i∈E,h'[i]?=X[i]?:=
 (iW G T.stb.ls hw).mono λx h' ⟨a,b⟩=>⟨a,T.step (J:=[]) (λj hj=>by cases hj) (by rw[List.append_nil];exact b)⟩
theorem Ho(T:RS l pr L S I0 E h w nx vs X K V I){B:Nat}(hok:w.Ok B)(hB:B<=1073741824)(op to n:Int):
 AC Tryz.prog G bD [.ptr L 8 0 0,.p (.int .i64 op),.p (.int .i64 to),.p (.int .i64 n),.sl X.length 1 0 0] (X++[.row 1 []]) λr h'=>r= .ret (.p (.int .i64 to))/\∃K' I',RS l pr L S I0 E h (w.put ⟨op,to,[],n⟩) nx vs h' K' V I'/\∀i∈E,h'[i]?=X[i]?:=by
 obtain⟨f1,f2⟩:=T.fresh
 refine(lZ G (T.stb.ls.more [.row 1 []]) hok hB ⟨op,to,[],n⟩ (fq X ([]:List Int) rfl) (by simp) f2).mono λr h' ⟨e,b⟩=>⟨e,?_⟩
 obtain⟨K2,I2,a1,a2⟩:=(T.more [_]).step f1 b
 exact⟨K2,I2,a1,λi hi=>(a2 i hi).trans (List.getElem?_append_left (T.at.1 i hi).1)⟩
theorem FU(T:RS l pr L S I0 E h w nx vs X K V I){B:Nat}(hok:w.Ok B)(j o:Int)(g:Nat){gI:Int}(hg:gI=(g:Int)):
 AC Tryz.prog G bf [.ptr L 8 0 0,.p (.int .i64 j),.p (.int .i64 o),.sl X.length 1 0 0,.p (.int .i64 gI)] (X++[.row 1 []]) λr h'=>r= .ret (.tup [])/\∃K' I',RS l pr L S I0 E h (w.fin j o g []) nx vs h' K' V I'/\∀i∈E,h'[i]?=X[i]?:=by
 obtain⟨f1,f2⟩:=T.fresh
 rw[hg]
 refine(kM G (T.stb.ls.more [.row 1 []]) hok j o g [] (fq X ([]:List Int) rfl) (by simp) f2).mono λr h' ⟨e,b⟩=>⟨e,?_⟩
 obtain⟨K2,I2,a1,a2⟩:=(T.more [_]).step f1 b
 exact⟨K2,I2,a1,λi hi=>(a2 i hi).trans (List.getElem?_append_left (T.at.1 i hi).1)⟩
theorem BO{n:Nat}(hg:X[L]?=some (.row 8 [[.p (fdL l),.p (.int .i64 pr),.p (.int .i64 n),.nils,.p (.int .i64 0),V,.p (.int .i64 nx),.nils]]))(hV:V.cells=[V]/\V.isCell=true):
 AC Tryz.prog G bE [.ptr L 8 0 0] X λr h'=>r= .ret (.p (.int .i64 0))/\∃K I,LS (lwR l pr V nx) L ⟨n,[bk0],0⟩ h' K I/\Frm [L] X h'/\∀j∈I,X.length<=j:=by
 have hLl:=(List.getElem?_eq_some_iff.1 hg).1
 obtain⟨v1,v2⟩:=hV
 have hgt:∀t,(X++t)[L]?=some (.row 8 [[.p (fdL l),.p (.int .i64 pr),.p (.int .i64 n),.nils,.p (.int .i64 0),V,.p (.int .i64 nx),.nils]]):=λt=>by rw[List.getElem?_append_left hLl];exact hg
 have hs3:∀t o,((X++t).set L o)[L]?=some o:=λt o=>List.getElem?_set_self (by simp;omega)
 refine AC.go gd ?_
 simp-implicitDefEqProofs[-AV.cells,-AV.isCell,aD,af,ah,an,al,aE,ae,am,aj,v1,v2,dq,hg,hgt, ↓hs3]
 have key:∀o1:AO,∃K I,LS (lwR l pr V nx) L ⟨n,[bk0],0⟩ ((X++[.row 2 [],.row 4 [],.row 1 [],o1,.row 5 [[.sl X.length 2 0 0,.sl (X.length+1) 4 0 0,.p (.int .i64 0),.p (.int .i64 0),.sl (X.length+2) 1 0 0]]]).set L (lwR l pr V nx ⟨n,[bk0],0⟩ (.sl (X.length+4) 5 0 1))) K I/\Frm [L] X ((X++[.row 2 [],.row 4 [],.row 1 [],o1,.row 5 [[.sl X.length 2 0 0,.sl (X.length+1) 4 0 0,.p (.int .i64 0),.p (.int .i64 0),.sl (X.length+2) 1 0 0]]]).set L (lwR l pr V nx ⟨n,[bk0],0⟩ (.sl (X.length+4) 5 0 1)))/\∀j∈I,X.length<=j:=λo1=>by
  obtain⟨H,hH⟩:∃H,H=((X++[.row 2 [],.row 4 [],.row 1 [],o1,.row 5 [[.sl X.length 2 0 0,.sl (X.length+1) 4 0 0,.p (.int .i64 0),.p (.int .i64 0),.sl (X.length+2) 1 0 0]]]).set L (lwR l pr V nx ⟨n,[bk0],0⟩ (.sl (X.length+4) 5 0 1))):=⟨_,rfl⟩
  have g:∀k,H[X.length+k]?=[AO.row 2 [],.row 4 [],.row 1 [],o1,.row 5 [[.sl X.length 2 0 0,.sl (X.length+1) 4 0 0,.p (.int .i64 0),.p (.int .i64 0),.sl (X.length+2) 1 0 0]]][k]?:=λk=>by
   rw[hH,List.getElem?_set_ne (by omega),List.getElem?_append_right (by omega)]
   rw[Nat.add_sub_cancel_left]
  rw[←hH]
  have hr:RowOwn false H (X.length+4) 5 [[.sl X.length 2 0 0,.sl (X.length+1) 4 0 0,.p (.int .i64 0),.p (.int .i64 0),.sl (X.length+2) 1 0 0]] [bk0.cs] [X.length,X.length+1,X.length+2]:=
   ⟨g 4,rfl,by simp,by simp[bk0,Bk.cs],by rw[List.flatten_singleton,List.flatten_singleton];exact AH (g 0) (g 1) (g 2),by simp⟩
  refine⟨_,_,⟨by rw[hH];exact List.getElem?_set_self (by simp;omega),hr.tree rfl,by simp;omega,λq e=>(by cases e),λkid n2 rows2 eK hg2 r hr2=>?_⟩,⟨by rw[hH];simp,λi hi hn=>?_⟩,λj hj=>?_⟩
  ·cases eK
   rw[hr.here] at hg2
   cases hg2
   rw[List.mem_singleton.1 hr2]
   intro q;simp
  ·rw[hH,List.getElem?_set_ne (λe=>hn (by simp[e])),List.getElem?_append_left hi]
  ·simp only[List.mem_cons,List.not_mem_nil,or_false] at hj
   omega
 have e:=key (.row 5 [[.sl X.length 2 0 0,.sl (X.length+1) 4 0 0,.p (.int .i64 0),.p (.int .i64 0),.sl (X.length+2) 1 0 0]])
 exact⟨ag (by omega) (by omega),e⟩
end
structure PvS where (i:Nat) (X:List AO)
theorem Fb{vs:Vs}{ps:List (List UInt8)}{i:Nat}(hi:i<ps.length)(hl:vs.length=i)(h:rgV vs=scF (-1) [psS (ps.take i) [] 0]):rgV (vs++[(ps[i],i)])=scF (-1) [psS (ps.take (i+1)) [] 0]:=by
 funext t
 simp only[pO,h,Ek hi,scF,ut,mC]
 by_cases hst:ps[i]=t
 ·simp[hst]
 ·simp[hst]
theorem GG(l:List Fd)(hl:l.length<=1073741824)(k:Nat)(f:Fd)(hk:l[k]?=some f)(hz:f.sz<=16777216)(hf:∀x∈f.body,aO 4 x=true):AC Tryz.prog G gR [.agg [.p (fdL l)],.p (.int .i64 k)] [] (MkW .agg false (lwF l (-1) f).cs):=by
 have hfc:=f.cs_eq'
 have hfl:fdL l= .lst 3 (l.map Fd.cs):=rfl
 have hlk:=(List.getElem?_eq_some_iff.1 hk).1
 have hfz:f.sz=1+f.name.length+(f.params.length+(f.params.map List.length).sum)+aM f.body:=rfl
 have hst:bz f.params= .lst 1 (f.params.map λw=>[.str w]):=rfl
 have hlet:=Nat.le_trans (iz f.body) (gG f.body)
 refine AC.go uO ?_
 simp-implicitDefEqProofs[oE,hfl,hk,hfc,hst]
 rw[←hfl]
 refine(Dz G _ f.body (Nat.le_refl _) (by omega)).use ?_
 have hwl:IntKind.i64.wrap ((f.params.length:Int)+(aY f.body:Int))=((f.params.length+aY f.body:Nat):Int):=by rw[ag (by omega) (by omega)];omega
 simp-implicitDefEqProofs[hst,hwl]
 obtain⟨n,hn⟩:∃n:Nat,n=f.params.length+aY f.body:=⟨_,rfl⟩
 have hnI:(f.params.length:Int)+(aY f.body:Int)=n:=by omega
 rw[hnI]
 refine aI (λa:PvS=>aB 80 [(4,.ptr 1 3 0 0),(5,.ptr 2 3 0 0),(6,.ptr 3 8 0 0),(7,.p (.int .i64 a.i))]) (λa=>a.X)
  (λa=>a.i<=f.params.length/\4<=a.X.length/\a.X[1]?=some (.row 3 [[.p (.int .i64 0),.p (.int .i64 0),.nils]])/\a.X[2]?=some (.row 3 [[.p (.str f.name),.p (.lst 1 (f.params.map λw=>[.str w])),.p (smL f.body)]])/\∃V vs,a.X[3]?=some (.row 8 [[.p (fdL l),.p (.int .i64 f.params.length),.p (.int .i64 n),.nils,.p (.int .i64 0),V,.p (.int .i64 f.params.length),.nils]])/\VAt a.X V vs/\(∀i∈vi V,4<=i)/\vs.length=a.i/\rgV vs=scF (-1) [psS (f.params.take a.i) [] 0]) (λa=>f.params.length-a.i)
  ⟨0,[.row 1 [[.p (fdL l)]],.row 3 [[.p (.int .i64 0),.p (.int .i64 0),.nils]],.row 3 [[.p (.str f.name),.p (.lst 1 (f.params.map λw=>[.str w])),.p (smL f.body)]],.row 8 [[.p (fdL l),.p (.int .i64 f.params.length),.p (.int .i64 n),.nils,.p (.int .i64 0),.nils,.p (.int .i64 f.params.length),.nils]]]⟩ ⟨Nat.zero_le _,by simp,rfl,rfl,.nils,[],rfl,.nil,(λi hi=>by cases hi),rfl,rfl⟩ ?_ ?_
 ·exact ab (by simp) (by simp[below])
 rintro⟨i,X⟩ ⟨hi,hX4,hx1,hx2,V,vs,hx3,hV,hVi,hvl,hrg⟩
 simp only at hi hX4 hx1 hx2 hx3 hV hvl hrg
 obtain⟨v1,v2,v3⟩:=hV.is
 simp-implicitDefEqProofs[hx2]
 refine aF (λhc=>?_) (λhc=>?_)
 ·simp at hc
  have hg:=List.getElem?_eq_getElem hc
  have hrg2:=Fb hc hvl hrg
  generalize f.params[i]=p at hg hrg2
  have hwi:=w1 (i:=i) (by omega)
  have hX2m:∀t,(X++t)[2]?=some (.row 3 [[.p (.str f.name),.p (.lst 1 (f.params.map λw=>[.str w])),.p (smL f.body)]]):=λt=>by rw[List.getElem?_append_left (by omega)];exact hx2
  cases hV with
  |nil=>
   have hvi:i=0:=hvl.symm
   subst hvi
   have hX3m:∀t,(X++t)[3]?=some (.row 8 [[.p (fdL l),.p (.int .i64 f.params.length),.p (.int .i64 n),.nils,.p (.int .i64 0),.nils,.p (.int .i64 f.params.length),.nils]]):=λt=>by rw[List.getElem?_append_left (by omega)];exact hx3
   simp-implicitDefEqProofs[hx2,hx3,hg,hX3m,hX2m]
   have hw11:IntKind.i64.wrap 1=1:=ag (by omega) (by omega)
   refine⟨⟨1,_⟩,⟨by simp only;omega,?_,?_,?_,.sl X.length 3 0 1,?_,[(p,0)],?_,?_,rfl,by simpa using hrg2⟩,by simp only;omega,ab ?_ ?_⟩
   rotate_left 6
   ·exact Nat.zero_le _
   ·simp[below,hw11]
    omega
   ·simp;omega
   ·rw[List.getElem?_set_ne (by omega),List.getElem?_append_left (by omega)];exact hx1
   ·rw[List.getElem?_set_ne (by omega),List.getElem?_append_left (by omega)];exact hx2
   ·exact List.getElem?_set_self (by simp;omega)
   ·exact .sl _ [lD (p,0)] [(p,0)] (by rw[List.getElem?_set_ne (by omega),List.getElem?_append_right (Nat.le_refl _)];simp[lD]) rfl
   ·intro j hj;rw[List.mem_singleton.1 hj];exact hX4
  |sl vid rows _ hv1 hv2=>
   have hvX:=(List.getElem?_eq_some_iff.1 hv1).1
   have hv4:=hVi vid (by simp[vi])
   have hvk:vs.length<=rows.length:=by
    have:=congrArg List.length hv2
    rw[List.length_take,List.length_map] at this
    omega
   have hX3m:∀t,(X.set vid .dead++t)[3]?=X[3]?:=λt=>by rw[List.getElem?_append_left (by simp;omega),List.getElem?_set_ne (by omega)]
   have hX2n:∀t,(X.set vid .dead++t)[2]?=X[2]?:=λt=>by rw[List.getElem?_append_left (by simp;omega),List.getElem?_set_ne (by omega)]
   simp-implicitDefEqProofs[hx2,hx3,hg,hv1,hv2, ↓hX3m, ↓hX2n,hwi]
   refine⟨⟨by omega,by omega⟩,⟨i+1,_⟩,⟨by simp only;omega,?_,?_,?_,.sl X.length 3 0 (vs.length+1),?_,vs++[(p,i)],?_,?_,by simp;omega,hrg2⟩,by simp only;omega,ab ?_ ?_⟩
   rotate_left 6
   ·exact Nat.zero_le _
   ·simp[below,hwi]
    omega
   ·simp;omega
   ·rw[List.getElem?_set_ne (by omega),List.getElem?_append_left (by simp;omega),List.getElem?_set_ne (by omega)];exact hx1
   ·rw[List.getElem?_set_ne (by omega),List.getElem?_append_left (by simp;omega),List.getElem?_set_ne (by omega)];exact hx2
   ·exact List.getElem?_set_self (by simp;omega)
   ·have hlv:(vs++[(p,i)]).length=vs.length+1:=by simp
    exact hlv▸ .sl _ (vs.map lD++[lD (p,i)]) (vs++[(p,i)]) (by rw[List.getElem?_set_ne (by omega),List.getElem?_append_right (by simp)];simp[lD]) (by rw[List.take_of_length_le (by simp)];simp)
   ·intro j hj;rw[List.mem_singleton.1 hj];exact hX4
 ·simp at hc
  have hie:i=f.params.length:=by omega
  subst hie
  rw[List.take_length] at hrg
  simp-implicitDefEqProofs[]
  refine(BO G hx3 ⟨v1,v2⟩).mono ?_
  rintro x X1 ⟨rfl,K1,I1,H1,hfr,hI1⟩
  have hl1:=hfr.1
  have va1:VAt X1 V vs:=hV.frame λi hi=>hfr.2 i (hV.lt i hi) (by have:=hVi i hi;simp;omega)
  have T1':=RS.of H1 va1 (λi hi=>by
   have h4:=hVi i hi
   have h5:=hV.lt i hi
   simp only[List.mem_cons,not_or]
   exact⟨by omega,λhm=>by have:=hI1 i hm;omega⟩)
  have T1:=T1'.add (j:=1) (by omega) (by
   simp only[List.mem_cons,not_or]
   exact⟨by omega,λhm=>by have:=hI1 1 hm;omega⟩) (λhm=>by have:=hVi 1 hm;omega)
  have b1:X1[1]?=some (.row 3 [[.p (.int .i64 0),.p (.int .i64 0),.nils]]):=(hfr.2 1 (by omega) (by simp)).trans hx1
  have b2:X1[2]?=some (.row 3 [[.p (.str f.name),.p (.lst 1 (f.params.map λw=>[.str w])),.p (smL f.body)]]):=(hfr.2 2 (by omega) (by simp)).trans hx2
  have ok1:(⟨n,[bk0],0⟩:Lw).Ok (f.sz+1):=⟨by show n<=_;omega,by show 1<=_;omega,λb hb=>by rw[List.mem_singleton.1 hb];show 0<=_;omega,by show 0<1;omega⟩
  simp-implicitDefEqProofs[aa,b2]
  obtain⟨y,hy⟩:∃y,y=aT (faI l) (-1) f.body (psS f.params [] 0) [] f.params.length ⟨n,[bk0],0⟩:=⟨_,rfl⟩
  have h2:=pg G (Dn G l hl f.params.length 3 4 f.body hf) T1 ok1 (by omega) (by omega) (by omega) hrg
  have ok2:=dO (faI l) (-1) f.body (psS f.params [] 0) [] f.params.length ⟨n,[bk0],0⟩ _ ok1
  rw[←hy] at h2 ok2
  refine h2.mono ?_
  rintro x X2 ⟨rfl,K2,V2,I2,T2,e2⟩
  obtain⟨ok2,_,_,_⟩:=ok2
  have b1:=(e2 1 (by simp)).trans b1
  simp-implicitDefEqProofs[aa]
  refine(FB G T2 (by have:=ok2.regs;omega)).mono ?_
  rintro x X3 ⟨rfl,K3,I3,T3,e3⟩
  have b1:=(e3 1 (by simp)).trans b1
  have ok3:=ok2.reg
  simp-implicitDefEqProofs[aa]
  refine(Ho G T3 ok3 (by omega) 1 y.2.2.regs 0).mono ?_
  rintro x X4 ⟨rfl,K4,I4,T4,e4⟩
  have b1:=(e4 1 (by simp)).trans b1
  have ok4:=ok3.put ⟨1,y.2.2.regs,[],0⟩
  simp-implicitDefEqProofs[aa]
  refine(FU G T4 ok4 3 y.2.2.regs 0 rfl).mono ?_
  rintro x X5 ⟨rfl,K5,I5,T5,e5⟩
  have b1:=(e5 1 (by simp)).trans b1
  have l5:=T5.stb.ls.here
  simp only[lwR] at l5
  obtain⟨k1,k2⟩:=ja T5.stb.ls.own
  have hs1:∀o,(X5.set 1 o)[1]?=some o:=λo=>List.getElem?_set_self (T5.at.1 1 (by simp)).1
  simp-implicitDefEqProofs[-AV.cells,-AV.isCell,aD,af,ah,an,al,aE,ae,am,aj,k1,k2,aa,l5,b1, ↓hs1]
  have hres:lwF l (-1) f=⟨f.params.length,((y.2.2.reg.put ⟨1,y.2.2.regs,[],0⟩).fin 3 y.2.2.regs 0 []).regs,((y.2.2.reg.put ⟨1,y.2.2.regs,[],0⟩).fin 3 y.2.2.regs 0 []).bs⟩:=by
   rw[lwF,←hn,←hy];rfl
  rw[hres]
  refine⟨_,I5,rfl,.p _ (λ_=>rfl) (.p _ (λ_=>rfl) (T5.stb.ls.own.frame λi hi=>List.getElem?_set_ne λe=>(T5.at.1 1 (by simp)).2 (by rw[e];exact List.mem_cons_of_mem _ hi))),(List.nodup_cons.1 T5.stb.ls.nd).2⟩
theorem FA(l:List Fd)(hl:l.length<=1073741824)(k:Nat)(f:Fd)(hk:l[k]?=some f)(hz:f.sz<=16777216)(hf:∀x∈f.body,aO 4 x=true):VF Tryz.prog G gR [.agg [.p (fdL l)],.p (.int .i64 k)] (.agg ((lwF l (-1) f).cs.map .p)):=
 AC.mkFreeze pn (GG G l hl k f hk hz hf)
def unR(l:List Fd):List Cd:=l.map (lwF l (-1))
structure UnS where (i:Nat) (X:List AO)
theorem Ei(l:List Fd)(hz:cf l<=16777216)(hf:∀f∈l,∀x∈f.body,aO 4 x=true):VF Tryz.prog G eI [.agg [.p (fdL l)]] (.agg [.p (cdL (unR l))]):=by
 have hfl:fdL l= .lst 3 (l.map Fd.cs):=rfl
 have hll:l.length<=cf l:=mi l
 have key:AC Tryz.prog G eI [.agg [.p (fdL l)]] [] λx h=>∃V,x= .ret (.agg [V])/\((V= .nils/\l=[])\/∃id,V= .sl id 3 0 l.length/\h[id]?=some (.row 3 (oN (unR l)))):=by
  refine AC.go sx ?_
  simp-implicitDefEqProofs[kW]
  refine aI (λa:UnS=>aB 22 [(1,.ptr 0 1 0 0),(2,.ptr 1 1 0 0),(3,.ptr 2 1 0 0),(4,.p (.int .i64 a.i))]) (λa=>a.X)
   (λa=>a.i<=l.length/\3<=a.X.length/\a.X[0]?=some (.row 1 [[.p (fdL l)]])/\a.X[1]?=some (.row 1 [[.nils]])/\∃V,a.X[2]?=some (.row 1 [[V]])/\((V= .nils/\a.i=0)\/∃id,V= .sl id 3 0 a.i/\3<=id/\a.X[id]?=some (.row 3 (oN (unR l|>.take a.i))))) (λa=>l.length-a.i)
   ⟨0,[.row 1 [[.p (fdL l)]],.row 1 [[.nils]],.row 1 [[.nils]]]⟩ ⟨Nat.zero_le _,by simp,rfl,rfl,.nils,rfl,.inl ⟨rfl,rfl⟩⟩ ?_ ?_
  ·exact ab (by simp) (by simp[below])
  rintro⟨i,X⟩ ⟨hi,hX3,hx0,hx1,V,hx2,hV⟩
  simp only at hi hX3 hx0 hx1 hx2 hV
  simp-implicitDefEqProofs[hx0,hfl]
  refine aF (λhc=>?_) (λhc=>?_)
  ·simp at hc
   have hg:=List.getElem?_eq_getElem hc
   have hm:=List.getElem_mem hc
   have hfz:=ni hm
   have hcall:=FA G l (by omega) i l[i] hg (by omega) (hf _ hm)
   have htk:(unR l).take (i+1)=(unR l).take i++[lwF l (-1) l[i]]:=by
    rw[unR,←List.map_take,←List.map_take,au hc,List.map_append];rfl
   have hcs:=(lwF l (-1) l[i]).cs_eq'
   have hlt:((unR l).take i).length=i:=by simp[unR];omega
   have hwi:=w1 (i:=i) (by omega)
   generalize lwF l (-1) l[i]=c at hcall htk hcs
   rw[hcs] at hcall
   rw[hfl] at hcall
   have hX2:∀t,(X++t)[2]?=some (.row 1 [[V]]):=λt=>by rw[List.getElem?_append_left (by omega)];exact hx2
   rcases hV with⟨rfl,rfl⟩|⟨id,rfl,hid,hxi⟩
   ·simp-implicitDefEqProofs[hx2,hx0,hfl]
    refine hcall.use ?_
    simp-implicitDefEqProofs[hx2,hX2]
    have hw11:IntKind.i64.wrap 1=1:=ag (by omega) (by omega)
    refine⟨⟨1,_⟩,⟨by simp only;omega,?_,?_,?_,.sl (X.length+1) 3 0 1,?_,.inr ⟨X.length+1,rfl,by omega,?_⟩⟩,by simp only;omega,ab ?_ ?_⟩
    rotate_left 5
    ·exact Nat.zero_le _
    ·simp[below,hw11];omega
    ·simp;omega
    ·rw[List.getElem?_set_ne (by omega),List.getElem?_append_left (by omega)];exact hx0
    ·rw[List.getElem?_set_ne (by omega),List.getElem?_append_left (by omega)];exact hx1
    ·exact List.getElem?_set_self (by simp;omega)
    ·rw[htk,List.getElem?_set_ne (by omega),List.getElem?_append_right (by omega)]
     simp[oN,hcs]
   ·have hiX:=(List.getElem?_eq_some_iff.1 hxi).1
    have hX2n:∀t u,((X++t).set id .dead++u)[2]?=X[2]?:=λt u=>by rw[List.getElem?_append_left (by simp;omega),List.getElem?_set_ne (by omega),List.getElem?_append_left (by omega)]
    have hxim:∀t,(X++t)[id]?=some (.row 3 (oN (List.take i (unR l)))):=λt=>by rw[List.getElem?_append_left hiX];exact hxi
    have htl:List.take i (oN (List.take i (unR l)))=oN (List.take i (unR l)):=List.take_of_length_le (by simp[oN];omega)
    have hcl:(oN (List.take i (unR l))).length=i:=by simp only[oN,List.length_map];exact hlt
    simp-implicitDefEqProofs[hx2,hx0,hfl]
    refine hcall.use ?_
    simp-implicitDefEqProofs[hx2,hX2,hxi,hxim, ↓hX2n,htl,hcl,hwi]
    refine⟨⟨by omega,by omega⟩,⟨i+1,_⟩,⟨by simp only;omega,?_,?_,?_,.sl (X.length+1) 3 0 (i+1),?_,.inr ⟨X.length+1,rfl,by omega,?_⟩⟩,by simp only;omega,ab ?_ ?_⟩
    rotate_left 5
    ·exact Nat.zero_le _
    ·simp[below,hwi];omega
    ·simp;omega
    ·rw[List.getElem?_set_ne (by omega),List.getElem?_append_left (by simp),List.getElem?_set_ne (by omega),List.getElem?_append_left (by omega)];exact hx0
    ·rw[List.getElem?_set_ne (by omega),List.getElem?_append_left (by simp;omega),List.getElem?_set_ne (by omega),List.getElem?_append_left (by omega)];exact hx1
    ·exact List.getElem?_set_self (by simp;omega)
    ·rw[htk,List.getElem?_set_ne (by omega),List.getElem?_append_right (by simp)]
     simp[oN,hcs]
  ·simp at hc
   have hie:i=l.length:=by omega
   subst hie
   have hx1s:∀o,(X.set 1 o)[1]?=some o:=λo=>List.getElem?_set_self (by omega)
   have hul:(unR l).take l.length=unR l:=List.take_of_length_le (by simp[unR])
   rw[hul] at hV
   rcases hV with⟨rfl,h0⟩|⟨id,rfl,hid,hxi⟩
   ·simp-implicitDefEqProofs[hx2,hx1, ↓hx1s]
    exact List.length_eq_zero_iff.1 h0
   ·simp-implicitDefEqProofs[hx2,hx1, ↓hx1s]
    rw[List.getElem?_set_ne (by omega)]
    exact hxi
 refine key.freezeR (λt v h ⟨V,e,_⟩=>by cases e) ?_
 rintro v h ⟨V,e,hV⟩
 cases e
 refine .agg ?_ .nil
 rcases hV with⟨rfl,rfl⟩|⟨id,rfl,hid⟩
 ·exact .one (View.nils 3) .nil
 ·have hh:oN (unR l)=((unR l).map Cd.cs).map (·.map .p):=by simp[oN]
  rw[hh] at hid
  have:=fb (n:=l.length) hid (by simp[unR]) (λx hx=>by obtain⟨b,_,rfl⟩:=List.mem_map.1 hx;rfl)
  exact .one this .nil
end
section
theorem zF{d:Nat}{e:Ex}(h:bG (d+1) e=true):(∀a∈e.kids,bG d a=true)/\(e.op=1\/e.op=2->e.kids=[])/\(e.op=10->∃a b,e.kids=[a,b]):=by
 rw[bG,Bool.and_eq_true] at h
 refine⟨λa ha=>List.all_eq_true.1 h.2 a ha,λho=>?_,λho=>?_⟩
 ·have h:=h.1
  simp only[ko,Bool.and_eq_true,inR,decide_eq_true_eq] at h
  obtain⟨⟨⟨⟨⟨_,h2⟩,_⟩,_⟩,_⟩,_⟩:=h
  rw[loK,if_pos ho,hiK,if_pos ho] at h2
  exact List.length_eq_zero_iff.1 (by omega)
 ·have h:=h.1
  simp only[ko,Bool.and_eq_true,inR,decide_eq_true_eq] at h
  obtain⟨⟨⟨⟨⟨_,h2⟩,_⟩,_⟩,_⟩,_⟩:=h
  rw[ho,show loK 10=2 from rfl,show hiK 10=2 from rfl] at h2
  match e.kids,h2 with
  |[a,b],_=>exact⟨a,b,rfl⟩
  |[],h=>simp at h
  |[_],h=>simp at h
  |_::_::_::r,h=>simp only[List.length_cons] at h;omega
theorem Ds{d:Nat}{s:Sm}(h:aO (d+1) s=true):(∀a∈s.args,bG 6 a=true)/\(∀x∈s.body,aO d x=true)/\(∀x∈s.els,aO d x=true)/\(s.op=6->∃a,s.args=[a])/\(¬s.op=5->s.els=[])/\(¬s.op=5->¬s.op=6->s.body=[]):=by
 rw[aO,Bool.and_eq_true,Bool.and_eq_true] at h
 obtain⟨⟨hh,hb⟩,he⟩:=h
 simp only[fm,Bool.and_eq_true,List.all_eq_true,Bool.or_eq_true,decide_eq_true_eq,List.isEmpty_iff] at hh
 refine⟨λa ha=>?_,λx hx=>List.all_eq_true.1 hb x hx,λx hx=>List.all_eq_true.1 he x hx,λh6=>?_,λh5=>?_,λh5 h6=>?_⟩
 ·have:=hh.1.1.1.2 a ha
  rw[oV,Bool.and_eq_true] at this
  exact this.1
 ·have h1:=hh.1.1.1.1.1.1.2
  rw[jq,if_neg (by omega)] at h1
  exact List.length_eq_one_iff.1 h1
 ·rcases hh.1.2 with h|h
  ·exact h
  ·exact(h5 h).elim
 ·rcases hh.2 with(h|h)|h
  ·exact h
  ·exact(h5 h).elim
  ·exact(h6 h).elim
end
section
theorem jc{s:List UInt8}(h:cd s=true):s.length<=4:=by
 simp only[cd,Bool.and_eq_true,decide_eq_true_eq] at h
 exact h.1.2
theorem zf{e:Ex}(h:ko e=true):e.name.length<=4:=by
 simp only[ko,Bool.and_eq_true] at h
 have h1:=h.1.1.1.2
 have h2:=h.1.1.2
 cases hn:zJ e.op with
 |true=>
  rw[hn] at h1
  exact jc (by simpa using h1)
 |false=>
  rw[hn] at h2
  have:e.name=[]:=by simpa using h2
  rw[this];simp
theorem yW{l:List Ex}(h:∀e∈l,e.sz<=5*e.parts):aP l<=5*iu l:=by
 induction l with
 |nil=>simp[aP]
 |cons e r ih=>
  have h1:=h e (by simp)
  have h2:=ih λx hx=>h x (by simp[hx])
  simp only[aP,iu]
  omega
theorem Cu:∀(d:Nat) (e:Ex),bG d e=true->e.sz<=5*e.parts:=by
 intro d
 induction d with
 |zero=>intro e h;cases h
 |succ d ih=>
  intro e h
  have hk:=(zF h).1
  rw[bG,Bool.and_eq_true] at h
  have hn:=zf h.1
  have hz:=yW (l:=e.kids) λa ha=>ih a (hk a ha)
  rw[e.sz_eq,e.parts_eq]
  omega
theorem EC{e:Ex}(h:oV e=true):e.sz<=150:=by
 simp only[oV,Bool.and_eq_true,decide_eq_true_eq] at h
 have:=Cu 6 e h.1
 omega
theorem pU:∀{l:List Ex},(∀e∈l,e.sz<=150)->aP l<=150*l.length
 |[],_=>by simp[aP]
 |e::r,h=>by
  have h1:=h e (by simp)
  have h2:=pU (l:=r) λx hx=>h x (by simp[hx])
  simp only[aP,List.length_cons]
  omega
theorem DT{s:Sm}(h:fm s=true):s.name.length<=4/\aP s.args<=300:=by
 simp only[fm,Bool.and_eq_true] at h
 have ha:=h.1.1.1.2
 have hl:=h.1.1.1.1.1.1.2
 have h1:=h.1.1.1.1.1.2
 have h2:=h.1.1.1.1.2
 refine⟨?_,?_⟩
 ·cases hn:ur s.op with
  |true=>
   rw[hn] at h1
   exact jc (by simpa using h1)
  |false=>
   rw[hn] at h2
   have:s.name=[]:=by simpa using h2
   rw[this];simp
 ·have:=pU (l:=s.args) λe he=>EC (List.all_eq_true.1 ha e he)
  have hl2:s.args.length<=2:=by
   simp only[decide_eq_true_eq] at hl
   rw[hl,jq];split<;>omega
  omega
theorem pG{l:List Sm}(h:∀s∈l,s.sz<=305*s.cnt):aM l<=305*cx l:=by
 induction l with
 |nil=>simp[aM]
 |cons e r ih=>
  have h1:=h e (by simp)
  have h2:=ih λx hx=>h x (by simp[hx])
  simp only[aM,cx]
  omega
theorem CR:∀(d:Nat) (s:Sm),aO d s=true->s.sz<=305*s.cnt:=by
 intro d
 induction d with
 |zero=>intro e h;cases h
 |succ d ih=>
  intro s h
  obtain⟨_,hb,he,_⟩:=Ds h
  rw[aO,Bool.and_eq_true,Bool.and_eq_true] at h
  obtain⟨hn,ha⟩:=DT h.1.1
  have h1:=pG (l:=s.body) λx hx=>ih x (hb x hx)
  have h2:=pG (l:=s.els) λx hx=>ih x (he x hx)
  rw[s.sz_eq,s.cnt_eq]
  omega
theorem Av:∀{l:List (List UInt8)},(∀w∈l,w.length<=4)->(l.map List.length).sum<=4*l.length
 |[],_=>by simp
 |w::r,h=>by
  have h1:=h w (by simp)
  have h2:=Av (l:=r) λx hx=>h x (by simp[hx])
  simp only[List.map_cons,List.sum_cons,List.length_cons]
  omega
theorem Gd{f:Fd}(h:jI f=true):f.sz<=20+305*cx f.body:=by
 simp only[jI,Bool.and_eq_true,decide_eq_true_eq,List.all_eq_true] at h
 obtain⟨⟨⟨hp,hn⟩,h3⟩,hb⟩:=h
 have h1:=jc hn
 have h2:=Av (l:=f.params) λw hw=>jc (hp w hw)
 have h4:=pG (l:=f.body) λx hx=>CR 4 x (hb x hx)
 rw[Fd.sz]
 omega
theorem pV:∀{l:List Fd},(∀f∈l,jI f=true)->cf l<=20*l.length+305*nR l
 |[],_=>by simp[cf]
 |f::r,h=>by
  have h1:=Gd (h f (by simp))
  have h2:=pV (l:=r) λx hx=>h x (by simp[hx])
  simp only[cf,nR,List.map_cons,List.sum_cons,List.length_cons] at h2⊢
  omega
theorem ud{l:List Fd}(h:cz l=true):cf l<=12280:=by
 rw[lS] at h
 obtain⟨⟨_,h4⟩,hf,hn⟩:=h
 have:=pV hf
 omega
theorem vJ{l:List Fd}(h:cz l=true):∀f∈l,∀x∈f.body,aO 4 x=true:=λf hf x hx=>by
 rw[lS] at h
 have h1:=h.2.1 f hf
 simp only[jI,Bool.and_eq_true,List.all_eq_true] at h1
 exact h1.2 x hx
def Lw.Ar(A:Nat)(w:Lw):Prop:=∀b∈w.bs,b.phis=[]/\b.next.length<=2/\∀x∈b.ins,x.args.length<=A
theorem yl{f:Bk->Bk}{l:List Bk}{i:Nat}{b:Bk}(h:b∈modB f l i):b∈l\/∃c∈l,b=f c:=by
 unfold modB at h
 split at h
 ·rename_i c hc
  rcases List.mem_or_eq_of_mem_set h with h|h
  ·exact .inl h
  ·exact .inr ⟨c,List.mem_of_getElem? hc,h⟩
 ·exact .inl h
theorem Lw.Ar.put{A:Nat}{w:Lw}(H:w.Ar A){x:Ii}(hx:x.args.length<=A):(w.put x).Ar A:=λb hb=>by
 rcases yl hb with h|⟨c,hc,rfl⟩
 ·exact H b h
 ·obtain⟨h1,h2,h3⟩:=H c hc
  refine⟨h1,h2,λy hy=>?_⟩
  rcases List.mem_append.1 hy with h|h
  ·exact h3 y h
  ·rw[List.mem_singleton.1 h];exact hx
theorem Lw.Ar.mk'{A:Nat}{w:Lw}(H:w.Ar A){op n:Int}{args:List Int}(hx:args.length<=A):(w.mk' op n args).Ar A:=Lw.Ar.put (w:=w.reg) H hx
theorem Lw.Ar.name{A:Nat}{w:Lw}(H:w.Ar A)(n:Nat):(w.name n).Ar A:=λb hb=>by
 rcases List.mem_append.1 hb with h|h
 ·exact H b h
 ·rw[(List.mem_replicate.1 h).2];simp[bk0]
theorem Lw.Ar.fin{A:Nat}{w:Lw}(H:w.Ar A){j o:Int}{g:Nat}{nx:List Int}(hx:nx.length<=2):(w.fin j o g nx).Ar A:=λb hb=>by
 rcases yl hb with h|⟨c,hc,rfl⟩
 ·exact H b h
 ·obtain⟨h1,h2,h3⟩:=H c hc
  exact⟨h1,hx,h3⟩
mutual
theorem ug(fa sc:List UInt8->Int){A:Nat}(hA:1<=A):∀(e:Ex) (w:Lw),w.Ar A->e.sz<=A->(lwE fa sc e w).2.Ar A
 | .mk o n s ks,w,H,hz=>by
   simp only[Ex.sz] at hz
   have hkl:=eX ks
   rw[lwE]
   split
   ·exact H.mk' (by simp)
   split
   ·exact H
   split
   ·exact Hw fa sc hA ks w H (by omega)
   ·refine(tT fa sc hA ks w H (by omega)).mk' ?_
    rw[gi];omega
theorem Hw(fa sc:List UInt8->Int){A:Nat}(hA:1<=A):∀(l:List Ex) (w:Lw),w.Ar A->aP l<=A->(lwA fa sc l w).2.Ar A
 |[],w,H,_=>by rw[lwA];exact H;intro a b h;cases h
 |[a],w,H,_=>by rw[lwA];exact H;intro a b h;cases h
 |a::b::c::r,w,H,_=>by rw[lwA];exact H;intro a b h;cases h
 |[a,b],w,H,hz=>by
  simp only[aP] at hz
  have h1:=ug fa sc hA a w H (by omega)
  rw[lwA]
  simp only
  have h2:=((h1.mk' (op:=1) (n:=0) (args:=[]) (by simp)).name 2).fin (j:=2) (o:=(lwE fa sc a w).1) (g:=((lwE fa sc a w).2.mk' 1 0 []).bs.length) (nx:=[(((lwE fa sc a w).2.mk' 1 0 []).bs.length:Int),(((lwE fa sc a w).2.mk' 1 0 []).bs.length:Int)+1]) (by simp)
  exact(((ug fa sc hA b _ h2 (by omega)).mk' (by simpa using hA)).put (by simpa using hA)).fin (by simp)
theorem tT(fa sc:List UInt8->Int){A:Nat}(hA:1<=A):∀(l:List Ex) (w:Lw),w.Ar A->aP l<=A->(bt fa sc l w).2.Ar A
 |[],w,H,_=>by rw[bt];exact H
 |e::r,w,H,hz=>by
  simp only[aP] at hz
  rw[bt]
  exact tT fa sc hA r _ (ug fa sc hA e w H (by omega)) (by omega)
end
mutual
theorem Hk(fa:List UInt8->Int)(q:Int){A:Nat}(hA:1<=A):∀(s:Sm) (m:Scp) (up:List Scp) (nx:Nat) (w:Lw),w.Ar A->s.sz<=A->(lwS fa q s m up nx w).2.2.Ar A
 | .mk o n a bd el,m,up,nx,w,H,hz=>by
   simp only[Sm.sz] at hz
   have hhd:=uN a
   have hal:=eX a
   rw[lwS]
   simp only
   split
   ·have h1:=ug fa (scF q (m::up)) hA (a.headD (.mk 0 0 [] [])) _ ((H.name 3).fin (j:=1) (o:=0) (g:=w.bs.length) (nx:=[(w.bs.length:Int)]) (by simp)) (by omega)
    exact(mu fa q hA bd [] (m::up) nx _ (h1.fin (by simp)) (by omega)).fin (by simp)
   ·have h1:=tT fa (scF q (m::up)) hA a w H (by omega)
    have hl:(bt fa (scF q (m::up)) a w).1.length<=A:=by rw[gi];omega
    split
    ·exact h1.put hl
    split
    ·exact h1.put hl
    split
    ·exact h1.put hl
    split
    ·exact h1.put hl
    split
    ·exact(mu fa q hA el [] (m::up) _ _ ((mu fa q hA bd [] (m::up) nx _ ((h1.name 3).fin (by simp)) (by omega)).fin (by simp)) (by omega)).fin (by simp)
    split
    ·exact(h1.name 1).fin (by simp)
    ·exact h1
theorem mu(fa:List UInt8->Int)(q:Int){A:Nat}(hA:1<=A):∀(l:List Sm) (m:Scp) (up:List Scp) (nx:Nat) (w:Lw),w.Ar A->aM l<=A->(aT fa q l m up nx w).2.2.Ar A
 |[],m,up,nx,w,H,_=>by rw[aT];exact H
 |s::r,m,up,nx,w,H,hz=>by
  simp only[aM] at hz
  rw[aT]
  exact mu fa q hA r _ up _ _ (Hk fa q hA s m up nx w H (by omega)) (by omega)
end
theorem FT(l:List Fd)(q:Int)(f:Fd)(hz:f.sz<=16777216):Gn 1073741824 (lwF l q f)/\0<=(lwF l q f).regs/\(lwF l q f).regs<=1073741824/\0<(lwF l q f).blocks.length:=by
 have hfz:f.sz=1+f.name.length+(f.params.length+(f.params.map List.length).sum)+aM f.body:=rfl
 have hlet:=Nat.le_trans (iz f.body) (gG f.body)
 have hok:(⟨f.params.length+aY f.body,[bk0],0⟩:Lw).Ok (f.sz+1):=⟨by show f.params.length+aY f.body<=_;omega,by show 1<=_;omega,λb hb=>by rw[List.mem_singleton.1 hb];show 0<=_;omega,by show 0<1;omega⟩
 have har:(⟨f.params.length+aY f.body,[bk0],0⟩:Lw).Ar 16777217:=λb hb=>by rw[List.mem_singleton.1 hb];simp[bk0]
 obtain⟨h1,h2,_,_⟩:=dO (faI l) q f.body (psS f.params [] 0) [] f.params.length _ _ hok
 have h3:=mu (faI l) q (A:=16777217) (by omega) f.body (psS f.params [] 0) [] f.params.length _ har (by omega)
 rw[lwF]
 simp only
 generalize aT (faI l) q f.body (psS f.params [] 0) [] f.params.length _=y at*
 have k1:=(h1.mk' 1 0 []).fin 3 y.2.2.regs (g:=0) (by
  have:=h1.pos
  rw[Lw.mk'_len];omega) []
 have k3:=(h3.mk' (op:=1) (n:=0) (args:=[]) (by simp)).fin (j:=3) (o:=y.2.2.regs) (g:=0) (nx:=[]) (by simp)
 refine⟨⟨by have:=k1.bs;show((y.2.2.mk' 1 0 []).fin 3 y.2.2.regs 0 []).bs.length<=_;omega,λb hb=>?_⟩,by show(0:Int)<=((y.2.2.mk' 1 0 []).regs:Int);omega,by have:=k1.regs;show((y.2.2.mk' 1 0 []).regs:Int)<=_;have h:((y.2.2.mk' 1 0 []).fin 3 y.2.2.regs 0 []).regs=(y.2.2.mk' 1 0 []).regs:=rfl;omega,by have:=k1.pos;show 0<((y.2.2.mk' 1 0 []).fin 3 y.2.2.regs 0 []).bs.length;omega⟩
 obtain⟨a1,a2,a3⟩:=k3 b hb
 have a4:=k1.ins b hb
 exact⟨by rw[a1];simp,by omega,by omega,by rw[a1];simp,λx hx=>by have:=a3 x hx;omega⟩
theorem sX:∀{l:List Fd} {f:Fd},f∈l->f.sz<=cf l
 |x::r,f,h=>by
  simp only[cf,List.map_cons,List.sum_cons]
  rcases List.mem_cons.1 h with rfl|h
  ·omega
  ·have:=sX h
   simp only[cf] at this
   omega
theorem FV(l:List Fd)(q:Int)(hz:cf l<=16777216)(hl:l.length<=1073741824):GW 1073741824 (l.map (lwF l q)):=
 ⟨by rw[List.length_map];exact hl,λc hc=>by
   obtain⟨f,hf,rfl⟩:=List.mem_map.1 hc
   have:=sX hf
   exact(FT l q f (by omega)).1⟩
end
section
variable (G:aA)
def PshF(s:Bool)(sz:Nat)(D:List (List PV))(h0:List AO)(a:PshS):Prop:=a.i<=D.length/\h0.length<=a.id/\h0.length<=a.h.length/\(∀j,j<h0.length->a.h[j]?=h0[j]?)/\∃rows J,RowOwn s a.h a.id sz rows (D.take a.i) J/\∀j∈J,h0.length<=j
theorem yS{h h2:List AO}(hl:h.length<=h2.length)(hf:∀j,j<h.length->h2[j]?=h[j]?):h2=h++h2.drop h.length:=by
 have e:h2.take h.length=h:=by
  apply List.ext_getElem?
  intro j
  by_cases hj:j<h.length
  ·rw[List.getElem?_take_of_lt hj];exact hf j hj
  ·rw[List.getElem?_eq_none (by rw[List.length_take];omega),List.getElem?_eq_none (by omega)]
 have e2:=List.take_append_drop h.length h2
 rw[e] at e2
 exact e2.symm
theorem PshF.step{s:Bool}{sz i id:Nat}{D:List (List PV)}{h0 h:List AO}(H:PshF s sz D h0 ⟨i,id,h⟩){e:List PV}(hi:D[i]?=some e){h2:List AO}(hl:h.length<=h2.length)(hf:∀j,j<h.length->h2[j]?=h[j]?){r':List AV}{I2:List Nat}(ho:OwnL s h2 r' e I2)(nd2:I2.Nodup)(hn:∀j∈I2,h.length<=j)(he:e.length=sz):
 ∃rows,(∀os,(h2++os)[id]?=some (.row sz rows))/\rows.length=i/\i<D.length/\id<h2.length/\∀os1 os2,PshF s sz D h0 ⟨i+1,(h2++os1).length,(h2++os1).set id .dead++ .row sz (rows++[r'])::os2⟩:=by
 obtain⟨h1,h3,h4,h5,rows,J,hr,hJ⟩:=H
 have hil:i<D.length:=(List.getElem?_eq_some_iff.1 hi).1
 have hlen:=hr.len
 simp only at h1 h3 h4 h5 hlen hr
 rw[List.length_take,Nat.min_eq_left h1] at hlen
 have e2:=yS hl hf
 have hid:=hr.lt
 have h2e:h2[id]?=some (.row sz rows):=by rw[hf id hid];exact hr.here
 refine⟨rows,λos=>by rw[List.getElem?_append_left (by omega)];exact h2e,hlen,hil,by omega,λos1 os2=>⟨hil,by simp only[List.length_append];omega,by simp;omega,λj hj=>?_,rows++[r'],J++I2,?_,λj hj=>?_⟩⟩
 ·simp only
  rw[List.getElem?_append_left (by simp only[List.length_set,List.length_append,List.length_cons];omega),List.getElem?_set_ne (by omega),List.getElem?_append_left (by omega),hf j (by omega)]
  exact h5 j hj
 ·have hp:=(hr.push (h2:=h2++os1) (os:=h2.drop h.length++os1) (by rw[←List.append_assoc,←e2]) (ho.more os1) nd2 hn he).more os2
  have hd:D.take i++[e]=D.take (i+1):=by rw[List.take_add_one,hi];rfl
  rw[hd,List.append_assoc] at hp
  exact hp
 ·rcases List.mem_append.1 hj with hj|hj
  ·exact hJ j hj
  ·have:=hn j hj;omega
theorem PshF.done{s:Bool}{sz i id:Nat}{D:List (List PV)}{h0 h:List AO}(H:PshF s sz D h0 ⟨i,id,h⟩)(hi:D.length<=i):h0.length<=h.length/\(∀j,j<h0.length->h[j]?=h0[j]?)/\∃I,OwnL s h [.sl id sz 0 i] [.lst sz D] I/\I.Nodup/\∀j∈I,h0.length<=j:=by
 obtain⟨h1,h3,h4,h5,rows,J,hr,hJ⟩:=H
 simp only at h1 h3 h4 h5 hr
 rw[List.take_of_length_le hi] at hr
 exact⟨h4,h5,id::J,hr.tree (by omega),hr.nd,λj hj=>by
  rcases List.mem_cons.1 hj with rfl|hj
  ·exact h3
  ·exact hJ j hj⟩
end
section
variable (G:aA)
theorem Eg{ρ:List Nat}:∀{args:List AV},aq 0 args->TW ρ args args
 |[],_=>trivial
 |v::r,h=>⟨.inr ⟨(bB (Nat.zero_le _) [v] ⟨h.1,trivial⟩).1,by have:=iD ρ [v] ⟨h.1,trivial⟩;simpa[bh] using this⟩,Eg h.2⟩
theorem Ju{f:FuncId}{args:List AV}{b:List Int}{p:Nat}{Q:AV->Nat->Prop}(H:AC Tryz.prog G f (.ptr 0 2 0 0::args) [rdO b p] λx h=>∃v q,x= .ret v/\h=[rdO b q]/\Q v q)(hq:∀v q,Q v q->below 0 v){h:List AO}{k:Nat}(hk:h[k]?=some (rdO b p))(ha:aq 0 args):
 AC Tryz.prog G f (.ptr k 2 0 0::args) h λx h'=>∃v q,x= .ret v/\h'=h.set k (rdO b q)/\Q v q:=by
 refine(H.frame (h:=h) (args:= .ptr k 2 0 0::args) [k] (by simp) ⟨.inr ⟨by simp[below],by simp[ren]⟩,Eg ha⟩ (gF hk (bL _ _ _) fU)).mono ?_
 rintro x h' ⟨x0,h0,⟨v,q,rfl,rfl,r⟩,hl,rfl,rfl⟩
 refine⟨v,q,?_,?_,r⟩
 ·simp only[zq]
  have:=iD ([k]++List.range' h.length ([rdO b q].length-[rdO b p].length)) [v] ⟨hq v q r,trivial⟩
  simpa[bh] using this
 ·have hp2:∀σ,ec σ (rdO b q)=rdO b q:=λσ=>by simp[rdO,ec,bh,ren]
  simp[mrg,hp2]
theorem uV{l:List Int}(h:Byt l)(n:Nat):Byt (l.take n):=λx hx=>h x (List.mem_of_mem_take hx)
theorem Du{f:FuncId}{args:List AV}{R:ARes->Prop}(H:AC Tryz.prog G f args [] λx _=>R x)(hR:∀x,R x->∃v,x= .ret v/\below 0 v)(ha:aq 0 args)(h:List AO):AC Tryz.prog G f args h λx h'=>R x/\h'=h:=by
 have H2:AC Tryz.prog G f args [] λx h'=>R x/\h'=[]:=by
  refine H.wk (λt v h' r=>by obtain⟨_,e,_⟩:=hR _ r;cases e) λv h' r=>?_
  obtain⟨v',e,hv⟩:=hR _ r
  cases e
  exact⟨v,[],Cg rfl ⟨.inr ⟨hv,rfl⟩,trivial⟩,r,rfl⟩
 refine(H2.pre h ha (λo ho=>by cases ho) (λx h' r=>by rw[r.2])).mono ?_
 rintro x h' ⟨h1,⟨r,rfl⟩,rfl⟩
 exact⟨r,rfl⟩
variable (hK:G yK=some yE) (hS:G vN=some [.tbl opK opV])
include hK hS
end
section
theorem IE{u:List Cd}(h:unB u=true):GU u:=by
 simp only[unB,Bool.and_eq_true,decide_eq_true_eq] at h
 obtain⟨⟨h1,h2⟩,_⟩:=h
 simp only[inR,Bool.and_eq_true,decide_eq_true_eq] at h1
 refine⟨⟨λe=>by rw[e] at h1;simp at h1,by omega⟩,λc hc=>?_⟩
 obtain⟨i,hi⟩:=List.getElem?_of_mem hc
 have h3:=allI_iff.1 h2 i c hi
 simp only[cdB,Bool.and_eq_true,inR,decide_eq_true_eq] at h3
 obtain⟨⟨⟨_,_⟩,h4⟩,h5⟩:=h3
 refine⟨by omega,by omega,λx hx=>?_⟩
 obtain⟨j,hj⟩:=List.getElem?_of_mem hx
 have h6:=allI_iff.1 h5 j x hj
 simp only[bkB,Bool.and_eq_true] at h6
 have h7:=h6.1.1.1.1
 rw[decide_eq_true_eq] at h7
 have h8:nxN x.jump<=2:=by
  unfold nxN
  split
  ·decide
  ·split
   ·decide
   ·split<;>decide
 omega
variable (G:aA)
theorem AU{b:List Int}(hb:Byt b)(hl:b.length<=2000){p:Nat}(hp:p<=9000000000):AC Tryz.prog G gm [.ptr 0 2 0 0] [rdO b p] λx h=>∃v q,x= .ret v/\h=[rdO b q]/\(∃cs,v= .agg [.p (cdL cs)]/\GU cs)/\p<=q/\q<=p+200010000:=by
 refine gO G (AC.go rx ?_)
 obtain⟨p1,hp1⟩:∃p1,p1=p+1:=⟨_,rfl⟩
 have hprog:AC Tryz.prog G eL [.ptr 0 2 0 0] [rdO b p1] λx h=>∃v q,x= .ret v/\h=[rdO b q]/\((∃l:List Fd,v= .agg [.p (fdL l)]/\cz l=true)/\p1<=q/\q<=p1+200000000):=
  (He G hb hl (by omega)).mono λx h ⟨l,q,e1,e2,e3,e4,e5,e6⟩=>⟨_,q,e1,e2,⟨l,rfl,e3⟩,e5,e6⟩
 simp-implicitDefEqProofs[kq]
 refine(aG G b hb hl p (by omega) 2 _).mono ?_
 rintro r h ⟨k1,rfl,rfl,_⟩
 rw[←hp1]
 simp-implicitDefEqProofs[aa]
 have alt:∀(rest:List AO) (q:Nat),p<=q->q<=p+200000001->AC Tryz.prog G da [.ptr 0 2 0 0] (rdO b q::rest) λx h=>∃v q2,x= .ret v/\h=rdO b q2::rest/\(∃cs,v= .agg [.p (cdL cs)]/\SmU cs)/\q<=q2/\q2<=q+4000:=λrest q _ _=>gU G (vG G hb hl (p:=q) (by omega)) rest (by simp[below])
 refine aF (λhc=>?_) (λhc=>?_)
 ·simp-implicitDefEqProofs[]
  refine(gU G hprog _ (by simp[below])).mono ?_
  rintro r h ⟨v,q,rfl,rfl,⟨l,rfl,hok⟩,h1,h2⟩
  have hz:=ud hok
  have hll:l.length<=4:=((lS l).1 hok).1.2
  simp-implicitDefEqProofs[aa]
  refine(Ei G l (by omega) (vJ hok)).use ?_
  have hu:=yt G (unR l) (FV l (-1) (by omega) (by omega))
  simp-implicitDefEqProofs[]
  refine hu.use ?_
  simp-implicitDefEqProofs[]
  refine aF (λhv=>?_) (λhv=>?_)
  ·simp-implicitDefEqProofs[]
   exact⟨_,_,q,.agg [.p (cdL (unR l))],rfl,rfl,.keep (by simp) .nil,⟨_,rfl,IE hv⟩,by omega,by omega⟩
  ·simp-implicitDefEqProofs[]
   refine(alt _ q (by omega) (by omega)).mono ?_
   rintro r h ⟨v,q2,rfl,rfl,⟨cs,rfl,hs⟩,h3,h4⟩
   simp-implicitDefEqProofs[aa]
   exact⟨_,_,q2,.agg [.p (cdL cs)],rfl,rfl,.keep (by simp) .nil,⟨cs,rfl,⟨hs.1,by have:=hs.2.1;omega⟩,λc hc=>(hs.2.2 c hc).g⟩,by omega,by omega⟩
 ·simp-implicitDefEqProofs[]
  refine(alt _ p1 (by omega) (by omega)).mono ?_
  rintro r h ⟨v,q2,rfl,rfl,⟨cs,rfl,hs⟩,h3,h4⟩
  simp-implicitDefEqProofs[aa]
  exact⟨_,_,q2,.agg [.p (cdL cs)],rfl,rfl,.keep (by simp) .nil,⟨cs,rfl,⟨hs.1,by have:=hs.2.1;omega⟩,λc hc=>(hs.2.2 c hc).g⟩,by omega,by omega⟩
theorem Bj{b:List Int}(hb:Byt b)(hl:b.length<=2000){p:Nat}(hp:p<=8000000000):AC Tryz.prog G fP [.ptr 0 2 0 0] [rdO b p] λx h=>∃v q,x= .ret v/\h=[rdO b q]/\(∃cs,v= .agg [.p (cdL cs)]/\GU cs)/\p<=q/\q<=p+200020000:=by
 refine gO G (AC.go pI ?_)
 obtain⟨p1,hp1⟩:∃p1,p1=p+1:=⟨_,rfl⟩
 simp-implicitDefEqProofs[jP]
 refine(aG G b hb hl p (by omega) 12 _).mono ?_
 rintro r h ⟨k1,rfl,rfl,_⟩
 rw[←hp1]
 simp-implicitDefEqProofs[aa]
 refine aF (λhc=>?_) (λhc=>?_)
 ·simp-implicitDefEqProofs[]
  refine(gU G (Ch G hb hl (p:=p1) (by omega)) _ (by simp[below])).mono ?_
  rintro r h ⟨v,q,rfl,rfl,⟨cs,rfl,hs⟩,h1,h2⟩
  simp-implicitDefEqProofs[aa]
  exact⟨_,_,q,.agg [.p (cdL cs)],rfl,rfl,.keep (by simp) .nil,⟨cs,rfl,hs⟩,by omega,by omega⟩
 ·simp-implicitDefEqProofs[]
  refine(gU G (AU G hb hl (p:=p1) (by omega)) _ (by simp[below])).mono ?_
  rintro r h ⟨v,q,rfl,rfl,⟨cs,rfl,hs⟩,h1,h2⟩
  simp-implicitDefEqProofs[aa]
  exact⟨_,_,q,.agg [.p (cdL cs)],rfl,rfl,.keep (by simp) .nil,⟨cs,rfl,hs⟩,by omega,by omega⟩
def CdQ(p n:Nat)(v:AV)(q:Nat):Prop:=(∃c:Cd,v= .agg (c.cs.map .p)/\GCd c)/\p<=q/\q<=p+n
theorem tk{b:List Int}(hb:Byt b)(hl:b.length<=2000){p:Nat}(hp:p<=7000000000):AC Tryz.prog G dD [.ptr 0 2 0 0] [rdO b p] λx h=>∃v q,x= .ret v/\h=[rdO b q]/\CdQ p 200020000 v q:=by
 refine gO G (AC.go ra ?_)
 simp-implicitDefEqProofs[ky]
 refine(gU G (Bj G hb hl (p:=p) (by omega)) _ (by simp[below])).mono ?_
 rintro r h ⟨v,q,rfl,rfl,⟨cs,rfl,hs⟩,h1,h2⟩
 have hcl:cdL cs= .lst 3 (cs.map Cd.cs):=rfl
 have hpos:=List.length_pos_iff.2 hs.1.1
 obtain⟨m,hm⟩:∃m,cs.length=m+1:=⟨cs.length-1,by omega⟩
 have hm4:=hs.1.2
 have hw:IntKind.i64.wrap (m:Int)=(m:Int):=ag (by omega) (by omega)
 have hg:cs[m]?=some cs[m]:=List.getElem?_eq_getElem (by omega)
 have hgc:=hs.2 _ (List.mem_of_getElem? hg)
 generalize cs[m]=c at hg hgc
 have hge:=λhh=>ep hg hh
 have hcc:=c.cs_eq2
 simp-implicitDefEqProofs[aa,hcl,hm,hw,hg,hge,hcc]
 exact⟨_,_,q,.agg (c.cs.map .p),rfl,rfl,.keep (by simp[hcc]) .nil,⟨c,rfl,hgc⟩,h1,h2⟩
def DrC(x:ARes):Prop:=∃c:Cd,x= .ret (.agg (c.cs.map .p))/\GCd c
theorem Dj(x:ARes)(h:DrC x):∃v,x= .ret v/\below 0 v:=by
 obtain⟨c,rfl,_⟩:=h
 exact⟨_,rfl,by simp[below,c.cs_eq2]⟩
theorem Et(n:Nat)(b:List Int)(q:Nat):ce n (rdO b q)=rdO b q:=by simp[rdO,ce,cm,bm]
end
section
theorem GCd.csm{c:Cd}(h:GCd c):CSm c:=by
 obtain⟨_,h2,h3⟩:=h
 refine⟨⟨by omega,λx hx=>by have:=h3 x hx;omega⟩,?_⟩
 have key:∀l:List Bk,(∀x∈l,x.next.length<=2)->(l.map λx=>x.next.length).sum<=2*l.length:=by
  intro l
  induction l with
  |nil=>intro _;simp
  |cons a r ih=>
   intro h
   have h1:=h a (by simp)
   have h2:=ih λx hx=>h x (by simp[hx])
   simp only[List.map_cons,List.sum_cons,List.length_cons]
   omega
 have:=key _ h3
 omega
variable (G:aA)
end
section
def Out(h:List AO)(V:AV)(L:List Int):Prop:=(V= .nils/\L=[])\/∃id,V= .sl id 1 0 L.length/\h[id]?=some (.row 1 (az L))
theorem Out.view{h:List AO}{V:AV}{L:List Int}(o:Out h V L):View h V (aC L):=by
 rcases o with⟨rfl,rfl⟩|⟨id,rfl,e⟩
 ·exact .nils 1
 ·exact cb e
theorem Out.app{h:List AO}{V:AV}{L:List Int}(o:Out h V L)(t:List AO):Out (h++t) V L:=by
 rcases o with h1|⟨id,h1,h2⟩
 ·exact .inl h1
 ·exact .inr ⟨id,h1,by rw[List.getElem?_append_left (List.getElem?_eq_some_iff.1 h2).1];exact h2⟩
theorem Out.below{h:List AO}{V:AV}{L:List Int}(o:Out h V L):Aw.below h.length V:=by
 rcases o with⟨rfl,_⟩|⟨id,rfl,h2⟩
 ·simp[Aw.below]
 ·simp only[Aw.below];exact(List.getElem?_eq_some_iff.1 h2).1
theorem BW{c:Cd}{x:Nat}(h:x<c.blocks.length):ee c x=bj c.blocks x:=by
 have:inR (x:Int) 0 ((c.blocks.length:Int)-1)=true:=by simp only[inR,Bool.and_eq_true,decide_eq_true_eq];omega
 rw[ee,this,if_pos rfl]
variable (G:aA)
theorem ta{p:Nat->Bool}:∀{n:Nat},(∀i,i<n->p i=false)->bZ p n=[]
 |0,_=>rfl
 |n+1,h=>by rw[Bc,ta (λi hi=>h i (by omega)),h n (by omega)];rfl
end
section
variable (G:aA)
theorem Ez(code:List Int)(hb:Byt code):AC Tryz.prog G fT [.p (mT code)] [] λx _=>DrC x:=by
 refine AC.go lM ?_
 simp-implicitDefEqProofs[fC]
 refine(AC.lift (Ec G code) (by simp) rfl rfl).mono ?_
 rintro r h ⟨rfl,rfl⟩
 have hbt:=uV hb 2000
 have hbl:(code.take 2000).length<=2000:=by rw[List.length_take];omega
 generalize code.take 2000=b at hbt hbl
 simp-implicitDefEqProofs[aa,bm,Et]
 refine(Ju G (tk G hbt hbl (p:=0) (by omega)) (λv q ⟨⟨c,e,_⟩,_⟩=>by rw[e];simp[below,c.cs_eq2]) (h:=[.row 3 [[.p (.int .i64 0),.p (.int .i64 0),.nils]],rdO b 0]) (k:=1) rfl trivial).mono ?_
 rintro r h ⟨v,q,rfl,rfl,⟨c,rfl,hg⟩,_⟩
 have hcc:=c.cs_eq2
 simp-implicitDefEqProofs[aa,hcc]
 exact⟨c,rfl,hg⟩
theorem oY(code:List Int)(hb:Byt code):AC Tryz.prog G cG [.p (mT code)] [] λx _=>DrC x:=by
 refine AC.go jV ?_
 simp-implicitDefEqProofs[eW]
 refine(AC.lift (Ec G code) (by simp) rfl rfl).mono ?_
 rintro r h ⟨rfl,rfl⟩
 have hbt:=uV hb 2000
 have hbl:(code.take 2000).length<=2000:=by rw[List.length_take];omega
 generalize code.take 2000=b at hbt hbl
 simp-implicitDefEqProofs[aa,bm,Et]
 refine(Ju G (tk G hbt hbl (p:=0) (by omega)) (λv q ⟨⟨c,e,_⟩,_⟩=>by rw[e];simp[below,c.cs_eq2]) (h:=[.row 3 [[.p (.int .i64 0),.p (.int .i64 0),.nils]],rdO b 0]) (k:=1) rfl trivial).mono ?_
 rintro r h ⟨v,q,rfl,rfl,⟨c,rfl,hg⟩,_⟩
 have hcc:=c.cs_eq2
 simp-implicitDefEqProofs[aa,hcc]
 exact⟨c,rfl,hg⟩
end
end Go.Proofs.YtdfplkcigiblcaaGreat
namespace Go.Proofs.YtdfplkcigiblcaaGreat
open Go
def lays189_ren:Go.Shelf.Ren:=⟨λ|125=>123|128=>138|129=>139|189=>101|215=>151|216=>135|257=>122|294=>129|295=>130|296=>131|297=>132|298=>133|299=>134|300=>136|301=>137|328=>146|329=>147|330=>148|331=>149|332=>150|343=>167|n=>n,λ|0=>0|3=>3|4=>4|5=>5|9=>9|28=>30|46=>101|51=>124|53=>126|131=>121|182=>116|183=>117|218=>145|222=>149|228=>171|229=>172|n=>n,λn=>n⟩
theorem ty:Lays.n189 Tryz.prog lays189_ren where
 mixed:=by kernel_rfl
 f125:=Tryz.func123.trans (congrArg some (by kernel_rfl))
 f128:=Tryz.func138.trans (congrArg some (by kernel_rfl))
 f129:=Tryz.func139.trans (congrArg some (by kernel_rfl))
 f189:=Tryz.func101.trans (congrArg some (by kernel_rfl))
 f215:=Tryz.func151.trans (congrArg some (by kernel_rfl))
 f216:=Tryz.func135.trans (congrArg some (by kernel_rfl))
 f257:=Tryz.func122.trans (congrArg some (by kernel_rfl))
 f294:=Tryz.func129.trans (congrArg some (by kernel_rfl))
 f295:=Tryz.func130.trans (congrArg some (by kernel_rfl))
 f296:=Tryz.func131.trans (congrArg some (by kernel_rfl))
 f297:=Tryz.func132.trans (congrArg some (by kernel_rfl))
 f298:=Tryz.func133.trans (congrArg some (by kernel_rfl))
 f299:=Tryz.func134.trans (congrArg some (by kernel_rfl))
 f300:=Tryz.func136.trans (congrArg some (by kernel_rfl))
 f301:=Tryz.func137.trans (congrArg some (by kernel_rfl))
 f328:=Tryz.func146.trans (congrArg some (by kernel_rfl))
 f329:=Tryz.func147.trans (congrArg some (by kernel_rfl))
 f330:=Tryz.func148.trans (congrArg some (by kernel_rfl))
 f331:=Tryz.func149.trans (congrArg some (by kernel_rfl))
 f332:=Tryz.func150.trans (congrArg some (by kernel_rfl))
 f343:=Tryz.func167.trans (congrArg some (by kernel_rfl))
 t0:=Tryz.underlying0
 a0:=Tryz.isAgg0
 z0:=Tryz.sizeOf0
 v0:=Tryz.zeroValue0
 t3:=Tryz.underlying3
 a3:=Tryz.isAgg3
 z3:=Tryz.sizeOf3
 v3:=Tryz.zeroValue3
 t4:=Tryz.underlying4
 a4:=Tryz.isAgg4
 z4:=Tryz.sizeOf4
 v4:=Tryz.zeroValue4
 t5:=Tryz.underlying5
 a5:=Tryz.isAgg5
 z5:=Tryz.sizeOf5
 v5:=Tryz.zeroValue5
 t9:=Tryz.underlying9
 a9:=Tryz.isAgg9
 z9:=Tryz.sizeOf9
 v9:=Tryz.zeroValue9
 t28:=Tryz.underlying30
 a28:=Tryz.isAgg30
 z28:=Tryz.sizeOf30
 v28:=Tryz.zeroValue30
 t46:=Tryz.underlying101
 a46:=Tryz.isAgg101
 z46:=Tryz.sizeOf101
 v46:=Tryz.zeroValue101
 t51:=Tryz.underlying124
 a51:=Tryz.isAgg124
 z51:=Tryz.sizeOf124
 v51:=Tryz.zeroValue124
 t53:=Tryz.underlying126
 a53:=Tryz.isAgg126
 z53:=Tryz.sizeOf126
 v53:=Tryz.zeroValue126
 t131:=Tryz.underlying121
 a131:=Tryz.isAgg121
 z131:=Tryz.sizeOf121
 v131:=Tryz.zeroValue121
 t182:=Tryz.underlying116
 a182:=Tryz.isAgg116
 z182:=Tryz.sizeOf116
 v182:=Tryz.zeroValue116
 t183:=Tryz.underlying117
 a183:=Tryz.isAgg117
 z183:=Tryz.sizeOf117
 v183:=Tryz.zeroValue117
 t218:=Tryz.underlying145
 a218:=Tryz.isAgg145
 z218:=Tryz.sizeOf145
 v218:=Tryz.zeroValue145
 t222:=Tryz.underlying149
 a222:=Tryz.isAgg149
 z222:=Tryz.sizeOf149
 v222:=Tryz.zeroValue149
 t228:=Tryz.underlying171
 a228:=Tryz.isAgg171
 z228:=Tryz.sizeOf171
 v228:=Tryz.zeroValue171
 t229:=Tryz.underlying172
 a229:=Tryz.isAgg172
 z229:=Tryz.sizeOf172
 v229:=Tryz.zeroValue172
def lays20_ren:Go.Shelf.Ren:=⟨λ|20=>102|n=>n,λ|0=>0|3=>3|4=>4|22=>30|n=>n,λn=>n⟩
theorem zC:Lays2.n20 Tryz.prog lays20_ren where
 mixed:=by kernel_rfl
 f20:=Tryz.func102.trans (congrArg some (by kernel_rfl))
 t0:=Tryz.underlying0
 a0:=Tryz.isAgg0
 z0:=Tryz.sizeOf0
 v0:=Tryz.zeroValue0
 t3:=Tryz.underlying3
 a3:=Tryz.isAgg3
 z3:=Tryz.sizeOf3
 v3:=Tryz.zeroValue3
 t4:=Tryz.underlying4
 a4:=Tryz.isAgg4
 z4:=Tryz.sizeOf4
 v4:=Tryz.zeroValue4
 t22:=Tryz.underlying30
 a22:=Tryz.isAgg30
 z22:=Tryz.sizeOf30
 v22:=Tryz.zeroValue30
 i3:=by kernel_rfl
end Go.Proofs.YtdfplkcigiblcaaGreat
namespace Go.Proofs.YtdfplkcigiblcaaGreat
open Go Go.Aw
set_option maxRecDepth 100000
set_option maxHeartbeats 4000000
section
structure VH (c:Cd) (X:List AO) (seen:List Bool) (out:List Nat):Prop where
 len:5<=X.length
 code:X[0]?=some (.row 3 [[.p (.int .i64 c.params),.p (.int .i64 c.regs),.p (bkL c.blocks)]])
 se:X[2]?=some (.row 1 (eu seen))
 sb:X[3]?=some (.row 1 [[.sl 2 1 0 c.blocks.length]])
 fn:X[4]?=some (.row 1 [[.fn (.func cw) [.ptr 3 1 0 0,.ptr 0 3 0 0,.ptr 4 1 0 0,.ptr 1 1 0 0]]])
 ou:∃V,X[1]?=some (.row 1 [[V]])/\((V= .nils/\out=[])\/∃id,5<=id/\V= .sl id 1 0 out.length/\X[id]?=some (.row 1 (az (aL out))))
 sl:seen.length=c.blocks.length
structure VsS where (i:Nat) (X:List AO)
variable (G:aA)
theorem yH(c:Cd)(hc:CBd c)(hfit:bT c.blocks=true):∀(f:Nat) (X:List AO) (b:Nat) (seen:List Bool) (out:List Nat),b<c.blocks.length->sn seen b=false->fls seen<=f->VH c X seen out->out.length+fls seen<=1073741824->
 AC Tryz.prog G cw [.p (.int .i64 b),.ptr 3 1 0 0,.ptr 0 3 0 0,.ptr 4 1 0 0,.ptr 1 1 0 0] X λx X'=>x= .ret (.tup [])/\X.length<=X'.length/\VH c X' (dfs (nxC c.blocks) f (seen,out) b).1 (dfs (nxC c.blocks) f (seen,out) b).2:=by
 intro f
 induction f with
 |zero=>
  intro X b seen out hb hsb hf
  have:=fw hsb
  omega
 |succ f ih=>
  intro X b seen out hb hsb hf hX hsz
  have hsl:=hX.sl
  have hbl:bkL c.blocks= .lst 5 (c.blocks.map Bk.cs):=rfl
  have hl1:=hc.1
  have hgb:=List.getElem?_eq_getElem hb
  have hmb:=List.getElem_mem hb
  generalize c.blocks[b]=x at hgb hmb
  have hnx:=hc.2 _ hmb
  have hxs:=x.cs_eq2
  have hnl:aC x.next= .lst 1 (x.next.map λn=>[.int .i64 n]):=rfl
  have hset:=fw hsb
  have hD0:∀i,(bV (nxC c.blocks) f (seen.set b true,out) ((nxC c.blocks b).take i)).2.length+fls (bV (nxC c.blocks) f (seen.set b true,out) ((nxC c.blocks b).take i)).1+1=out.length+fls seen/\(bV (nxC c.blocks) f (seen.set b true,out) ((nxC c.blocks b).take i)).1.length=seen.length/\fls (bV (nxC c.blocks) f (seen.set b true,out) ((nxC c.blocks b).take i)).1<=f:=λi=>by
   have:=(Ax (nxC c.blocks) f).1 ((nxC c.blocks b).take i) (seen.set b true,out) (by simp only;omega)
   simp only[List.length_set] at this
   omega
  obtain⟨D,hD⟩:∃D:Nat->List Bool × List Nat,D=λi=>bV (nxC c.blocks) f (seen.set b true,out) ((nxC c.blocks b).take i):=⟨_,rfl⟩
  have hDz:D 0=(seen.set b true,out):=by rw[hD];rfl
  have hDs:∀(i:Nat) (m:Nat),(nxC c.blocks b)[i]?=some m->D (i+1)=if sn (D i).1 m then D i else dfs (nxC c.blocks) f (D i) m:=λi m h=>by
   rw[hD];exact sZ h
  have hDe:dfs (nxC c.blocks) (f+1) (seen,out) b=((D x.next.length).1,(D x.next.length).2++[b]):=by
   rw[kr,hD]
   have:(nxC c.blocks b).take x.next.length=nxC c.blocks b:=by rw[iO hgb,List.take_of_length_le (by simp)]
   simp only[this]
  have hD1:∀i,(D i).2.length+fls (D i).1+1=out.length+fls seen/\(D i).1.length=seen.length/\fls (D i).1<=f:=λi=>by rw[hD];exact hD0 i
  clear hD0 hD
  have hXl:=hX.len
  have hrow:(eu seen)[b]?=some [.p (.bool false)]:=by rw[←hsb];exact mE (nF (by omega))
  refine AC.go oS ?_
  have e0:∀t,(X.set 2 t)[0]?=some (.row 3 [[.p (.int .i64 c.params),.p (.int .i64 c.regs),.p (bkL c.blocks)]]):=λt=>by rw[List.getElem?_set_ne (by omega)];exact hX.code
  simp-implicitDefEqProofs[jr,hX.sb,hX.se,hrow,vU,e0,hbl,hgb,hxs,hnl]
  refine⟨hb,?_⟩
  have hVz:VH c (X.set 2 (.row 1 (eu (seen.set b true)))) (D 0).1 (D 0).2:=by
   rw[hDz]
   refine⟨by simp;omega,e0 _,by rw[List.getElem?_set_self (by omega)],by rw[List.getElem?_set_ne (by omega)];exact hX.sb,by rw[List.getElem?_set_ne (by omega)];exact hX.fn,?_,by rw[List.length_set];exact hsl⟩
   obtain⟨V,h1,h2⟩:=hX.ou
   refine⟨V,by rw[List.getElem?_set_ne (by omega)];exact h1,h2.imp id λ⟨id,a1,a2,a3⟩=>⟨id,a1,a2,by rw[List.getElem?_set_ne (by omega)];exact a3⟩⟩
  have hlz:X.length<=(X.set 2 (.row 1 (eu (seen.set b true)))).length:=by simp
  generalize X.set 2 (.row 1 (eu (seen.set b true)))=X0 at hVz hlz
  refine aI (λa:VsS=>aB 35 [(18,.p (.int .i64 a.i)),(17,.p (.int .i64 x.next.length)),(16,.p (.lst 1 (x.next.map λn=>[.int .i64 n]))),(0,.p (.int .i64 b)),(1,.ptr 3 1 0 0),(2,.ptr 0 3 0 0),(3,.ptr 4 1 0 0),(4,.ptr 1 1 0 0)]) (λa=>a.X)
   (λa=>a.i<=x.next.length/\X.length<=a.X.length/\VH c a.X (D a.i).1 (D a.i).2) (λa=>x.next.length-a.i) ⟨0,X0⟩ ⟨Nat.zero_le _,hlz,hVz⟩ (ab hlz (by have:=hVz.len;simp[below];omega)) ?_
  clear hVz hlz X0 e0
  rintro⟨i,Y⟩ ⟨hi,hYl,hY⟩
  simp only at hi hYl hY
  have hY5:=hY.len
  simp-implicitDefEqProofs[]
  refine aF (λhc1=>?_) (λhc1=>?_)
  ·simp at hc1
   have hg2:=List.getElem?_eq_getElem hc1
   generalize x.next[i]=r at hg2
   have hr:=mq hfit hgb (List.mem_of_getElem? hg2)
   have hrn:((r.toNat:Nat):Int)=r:=by omega
   have hDn:=hDs i r.toNat (Ai hgb hg2)
   generalize hm:r.toNat=m at hrn hDn
   subst hrn
   have hml:m<c.blocks.length:=by omega
   have⟨q1,q2,q3⟩:=hD1 i
   have hrw:(eu (D i).1)[m]?=some [.p (.bool (sn (D i).1 m))]:=mE (nF (by omega))
   have hw1:=w1 (i:=i) (by omega)
   simp-implicitDefEqProofs[hg2,hY.sb,hY.se,hrw,hml]
   refine aF (λhe=>?_) (λhe=>?_)
   ·have he:sn (D i).1 m=false:=by simpa using he
    simp only[he,Bool.false_eq_true,if_false] at hDn
    have hcall:=ih Y m (D i).1 (D i).2 hml he q3 hY (by omega)
    simp-implicitDefEqProofs[hY.fn]
    refine hcall.mono ?_
    rintro rr Z ⟨rfl,z1,z2⟩
    rw[show((D i).1,(D i).2)=D i from rfl,←hDn] at z2
    simp-implicitDefEqProofs[aa]
    exact⟨⟨i+1,Z⟩,⟨by simp only;omega,by simp only;omega,z2⟩,by simp only;omega,ab (by omega) (by have:=z2.len;simp[below,hw1];omega)⟩
   ·have he:sn (D i).1 m=true:=by simpa using he
    simp only[he,if_true] at hDn
    simp-implicitDefEqProofs[]
    exact⟨⟨i+1,Y⟩,⟨by simp only;omega,hYl,by simp only[hDn];exact hY⟩,by simp only;omega,ab (by omega) (by simp[below,hw1];omega)⟩
  ·simp at hc1
   have hie:i=x.next.length:=by omega
   subst hie
   rw[hDe]
   have⟨q1,q2,q3⟩:=hD1 x.next.length
   generalize D x.next.length=Z at*
   obtain⟨V,v1,v2⟩:=hY.ou
   have v1':∀t,(Y++t)[1]?=some (.row 1 [[V]]):=λt=>by rw[List.getElem?_append_left (by omega)];exact v1
   have v1e:=λt hh=>JR (v1' t) hh
   rcases v2 with⟨rfl,hn⟩|⟨id,hid,rfl,v3⟩
   ·simp-implicitDefEqProofs[v1,v1',v1e]
    refine⟨by omega,by simp;omega,?_,?_,?_,?_,⟨.sl (Y.length+1) 1 0 1,?_,.inr ⟨Y.length+1,by omega,by rw[hn];rfl,?_⟩⟩,by rw[q2];exact hsl⟩
    ·rw[List.getElem?_set_ne (by omega),List.getElem?_append_left (by omega)];exact hY.code
    ·rw[List.getElem?_set_ne (by omega),List.getElem?_append_left (by omega)];exact hY.se
    ·rw[List.getElem?_set_ne (by omega),List.getElem?_append_left (by omega)];exact hY.sb
    ·rw[List.getElem?_set_ne (by omega),List.getElem?_append_left (by omega)];exact hY.fn
    ·rw[List.getElem?_set_self (by simp)]
    ·rw[List.getElem?_set_ne (by omega),List.getElem?_append_right (by omega),hn];simp[az,aL]
   ·have hol:=(List.getElem?_eq_some_iff.1 v3).1
    have htl:List.take Z.2.length (az (aL Z.2))=az (aL Z.2):=List.take_of_length_le (by simp[az,aL])
    have hrl:(az (aL Z.2)).length=Z.2.length:=by simp[az,aL]
    have hxm:∀t,(Y++t)[id]?=some (.row 1 (az (aL Z.2))):=λt=>by rw[List.getElem?_append_left hol];exact v3
    have v4:∀t t',((Y++t).set id .dead++t')[1]?=some (.row 1 [[.sl id 1 0 Z.2.length]]):=λt t'=>by
     rw[List.getElem?_append_left (by simp;omega),List.getElem?_set_ne (by omega)];exact v1' t
    have v4e:=λt t' hh=>JR (v4 t t') hh
    simp-implicitDefEqProofs[v1,v1',v1e,hxm,htl,hrl,v4,v4e]
    refine⟨⟨by omega,by omega⟩,by omega,by simp;omega,?_,?_,?_,?_,⟨.sl (Y.length+1) 1 0 (Z.2.length+1),?_,.inr ⟨Y.length+1,by omega,by simp,?_⟩⟩,by rw[q2];exact hsl⟩
    ·rw[List.getElem?_set_ne (by omega),List.getElem?_append_left (by simp<;>omega),List.getElem?_set_ne (by omega),List.getElem?_append_left (by omega)];exact hY.code
    ·rw[List.getElem?_set_ne (by omega),List.getElem?_append_left (by simp;omega),List.getElem?_set_ne (by omega),List.getElem?_append_left (by omega)];exact hY.se
    ·rw[List.getElem?_set_ne (by omega),List.getElem?_append_left (by simp;omega),List.getElem?_set_ne (by omega),List.getElem?_append_left (by omega)];exact hY.sb
    ·rw[List.getElem?_set_ne (by omega),List.getElem?_append_left (by simp;omega),List.getElem?_set_ne (by omega),List.getElem?_append_left (by omega)];exact hY.fn
    ·rw[List.getElem?_set_self (by simp)]
    ·rw[List.getElem?_set_ne (by omega),List.getElem?_append_right (by simp),tn];simp[az,aL]
def eV(bs:List Bk):List Nat:=(dfs (nxC bs) bs.length (List.replicate bs.length false,[]) 0).2
theorem BS(c:Cd)(hc:CBd c)(hfit:bT c.blocks=true):AC Tryz.prog G ig [.agg (c.cs.map .p)] [] λr h=>∃id,eV c.blocks≠[]/\r= .ret (.sl id 1 0 (eV c.blocks).length)/\h[id]?=some (.row 1 (az (aL (eV c.blocks)))):=by
 have hcs:=c.cs_eq2
 have hbl:bkL c.blocks= .lst 5 (c.blocks.map Bk.cs):=rfl
 have hl1:=hc.1
 have hpos:=iA hfit
 have hsl:(List.replicate c.blocks.length false).length=c.blocks.length:=List.length_replicate
 have h0:sn (List.replicate c.blocks.length false) 0=false:=by rw[rj];exact decide_eq_false (by omega)
 have hne:eV c.blocks≠[]:=by
  rw[eV]
  obtain⟨n,hn⟩:∃n,c.blocks.length=n+1:=⟨c.blocks.length-1,by omega⟩
  rw[hn,kr]
  simp
 have hv:=yH G c hc hfit c.blocks.length [.row 3 [[.p (.int .i64 c.params),.p (.int .i64 c.regs),.p (bkL c.blocks)]],.row 1 [[.nils]],.row 1 (eu (List.replicate c.blocks.length false)),.row 1 [[.sl 2 1 0 c.blocks.length]],.row 1 [[.fn (.func cw) [.ptr 3 1 0 0,.ptr 0 3 0 0,.ptr 4 1 0 0,.ptr 1 1 0 0]]]] 0 (List.replicate c.blocks.length false) [] hpos h0 (by rw[mK];exact Nat.le_refl _) ⟨by simp,rfl,rfl,rfl,rfl,⟨_,rfl,.inl ⟨rfl,rfl⟩⟩,hsl⟩ (by rw[mK];simp;omega)
 rw[hbl] at hv
 refine AC.go ss ?_
 simp-implicitDefEqProofs[kR,hcs,hbl,Gk]
 refine⟨by omega,?_⟩
 refine hv.mono ?_
 rintro r Y ⟨rfl,hYl,hY⟩
 obtain⟨V,v1,v2⟩:=hY.ou
 have hY5:=hY.len
 change (V= .nils/\eV c.blocks=[])\/∃id,5<=id/\V= .sl id 1 0 (eV c.blocks).length/\Y[id]?=some (.row 1 (az (aL (eV c.blocks)))) at v2
 rcases v2 with⟨_,hn⟩|⟨id,hid,rfl,v3⟩
 ·exact absurd hn hne
 ·simp-implicitDefEqProofs[aa,v1]
  exact⟨hne,v3⟩
theorem vV{α:Type}{l:List α}{k:Nat}{x:α}(h:l[k]?=some x):l.set k x=l:=by
 obtain⟨hk,rfl⟩:=List.getElem?_eq_some_iff.1 h
 exact List.set_getElem_self hk
theorem Ga{f:FuncId}{args:List AV}{l:List Int}(H:AC Tryz.prog G f args [] λr h=>∃id,r= .ret (.sl id 1 0 l.length)/\h[id]?=some (.row 1 (az l))):AC Tryz.prog G f args [] λr h=>r= .ret (.sl 0 1 0 l.length)/\h=[.row 1 (az l)]:=
 H.gc (λt v h ⟨_,e,_⟩=>by cases e) λv h ⟨id,e1,e2⟩=>by
  cases e1
  refine⟨.sl 0 1 0 l.length,[.row 1 (az l)],⟨[id],by simp,λi hi=>by simp at hi,by simp,by simp[below],by simp[ren],cH e2 (λx hx=>by obtain⟨n,_,rfl⟩:=List.mem_map.1 hx;simp[below]) fU⟩,rfl,rfl⟩
def CN(bs:List Bk):List Int:=if bT bs then(aL (eV bs)).reverse else[]
end
section
theorem Hi{l:List Nat}(nd:l.Nodup){i j x:Nat}(hi:l[i]?=some x)(hj:l[j]?=some x):i=j:=by
 obtain⟨h1,e1⟩:=List.getElem?_eq_some_iff.1 hi
 obtain⟨h2,e2⟩:=List.getElem?_eq_some_iff.1 hj
 have hp:=List.pairwise_iff_getElem.1 nd
 rcases Nat.lt_trichotomy i j with h|h|h
 ·exact absurd (e1.trans e2.symm) (hp i j h1 h2 h)
 ·exact h
 ·exact absurd (e2.trans e1.symm) (hp j i h2 h1 h)
theorem Cn{l:List Nat}(nd:l.Nodup):l.reverse.Nodup:=List.pairwise_reverse.2 (List.Pairwise.imp Ne.symm nd)
theorem Ae{bs:List Bk}(h:bT bs=true):sn (List.replicate bs.length false) 0=false:=by
 rw[rj]
 have:=iA h
 have e1:¬bs.length<=0:=by omega
 simp only[e1,decide_false]
theorem GZ{bs:List Bk}(h:bT bs=true):∃l,eV bs=l++[0]/\(l++[0]).Nodup/\(∀x,x∈l++[0]↔kf bs x=true)/\∀x∈l,∃p,Aft (l++[0]) x p/\x∈nxC bs p:=by
 obtain⟨l,o,hl⟩:=Ev (nx:=nxC bs) [] (Ae h) (f:=bs.length) (by rw[mK];exact Nat.le_refl _)
 have h0:0∉l:=by
  have:=o.nodup
  rw[List.nodup_append] at this
  exact λhm=>this.2.2 0 hm 0 (by simp) rfl
 refine⟨l,by rw[eV,o.outE];rfl,o.nodup,λx=>?_,λx hx=>?_⟩
 ·rw[hl x,rchB_iff]
  have e:(λy=>sn (List.replicate bs.length false) y=true)=λy=>False\/bs.length<=y:=by
   funext y;rw[rj];simp
  rw[e]
  exact Jx h
 ·rcases o.par x (by simp[hx]) with h1|h1
  ·rw[List.mem_singleton] at h1
   subst h1;exact absurd hx h0
  ·exact h1
def eY(bs:List Bk):List Nat:=(eV bs).reverse
theorem Dx{bs:List Bk}(h:bT bs=true):CN bs=aL (eY bs):=by rw[CN,if_pos h,eY,aL,aL,List.map_reverse]
theorem FZ{bs:List Bk}(h:bT bs=false):CN bs=[]:=by rw[CN,h];rfl
structure OrdOk (bs:List Bk) (l:List Nat):Prop where
 head:∃t,l=0::t
 nd:l.Nodup
 mem:∀x,x∈l↔kf bs x=true
 par:∀(i:Nat) x,l[i+1]?=some x->∃p∈l.take (i+1),x∈nxC bs p
theorem rR{bs:List Bk}(h:bT bs=true):OrdOk bs (eY bs):=by
 obtain⟨l,e,nd,hm,hp⟩:=GZ h
 have e2:eY bs=0::l.reverse:=by rw[eY,e];simp
 refine⟨⟨_,e2⟩,?_,λx=>?_,λi x hi=>?_⟩
 ·rw[eY,e];exact Cn nd
 ·rw[eY,List.mem_reverse,e];exact hm x
 ·rw[e2,List.getElem?_cons_succ] at hi
  have hx:x∈l:=List.mem_reverse.1 (List.mem_of_getElem? hi)
  obtain⟨p,⟨u,v,e3,hv⟩,hn⟩:=hp x hx
  refine⟨p,?_,hn⟩
  rw[eY,e,e3,List.reverse_append,List.reverse_cons,List.append_assoc]
  have hil:i+1<((l++[0]).reverse).length:=by
   have:=(List.getElem?_eq_some_iff.1 hi).1
   simp at this⊢;omega
  have hg:(v.reverse++([x]++u.reverse))[i+1]?=some x:=by
   rw[←hi]
   have:v.reverse++([x]++u.reverse)=0::l.reverse:=by
    rw[←e2,eY,e,e3,List.reverse_append,List.reverse_cons,List.append_assoc]
   rw[this,List.getElem?_cons_succ]
  have hnd:(v.reverse++([x]++u.reverse)).Nodup:=by
   have:=Cn nd
   rwa[e3,List.reverse_append,List.reverse_cons,List.append_assoc] at this
  have hlv:v.length=i+1:=by
   have h1:(v.reverse++([x]++u.reverse))[v.length]?=some x:=by
    rw[List.getElem?_append_right (by simp)];simp
   exact Hi hnd h1 hg
  rw[←hlv,List.take_append_of_le_length (by simp)]
  rw[List.take_of_length_le (by simp)]
  exact List.mem_reverse.2 hv
theorem BD{l:List Nat}{p:Nat->Bool}{n:Nat}(nd:l.Nodup)(h:∀x,x∈l↔x<n/\p x=true):l.length=((List.range n).filter p).length:=by
 have h2:((List.range n).filter p).Nodup:=List.Nodup.sublist List.filter_sublist List.nodup_range
 exact((List.perm_ext_iff_of_nodup nd h2).2 λx=>by rw[h x,List.mem_filter,List.mem_range]).length_eq
theorem tH{bs:List Bk}(h:bT bs=true):(eY bs).length=(bZ (kf bs) bs.length).length:=by
 rw[bZ,List.length_map]
 exact BD (rR h).nd λx=>by
  rw[(rR h).mem x]
  exact⟨λhx=>⟨zp h (rchB_iff.1 hx),hx⟩,λhx=>hx.2⟩
theorem oe{l:List Nat}{x:Nat}:(x:Int)∈aL l↔x∈l:=by
 simp only[aL,List.mem_map]
 constructor
 ·rintro⟨y,hy,e⟩
  have:y=x:=by have e:(y:Int)=(x:Int):=e;omega
  exact this▸hy
 ·exact λh=>⟨x,h,rfl⟩
theorem vq{p:Nat->Bool}{n x:Nat}:(x:Int)∈bZ p n↔x<n/\p x=true:=by
 rw[bZ]
 have:= @oe ((List.range n).filter p) x
 rw[aL] at this
 rw[this,List.mem_filter,List.mem_range]
theorem uB{p:Nat->Bool}{n:Nat}{x:Int}(h:x∈bZ p n):0<=x/\x.toNat<n/\p x.toNat=true/\((x.toNat:Nat):Int)=x:=by
 rw[bZ,List.mem_map] at h
 obtain⟨y,hy,rfl⟩:=h
 rw[List.mem_filter,List.mem_range] at hy
 exact⟨Int.natCast_nonneg y,by simpa using hy.1,by simpa using hy.2,by simp⟩
theorem Bt{bs:List Bk}(hfit:bT bs=true){p b:Nat}:(p:Int)∈bj bs (b:Int)↔b∈nxC bs p:=by
 rw[bj,List.mem_map]
 constructor
 ·rintro⟨⟨x,i⟩,hm,e⟩
  rw[List.mem_filter,List.mem_zipIdx_iff_getElem?] at hm
  have:i=p:=by have e:(i:Int)=(p:Int):=e;omega
  subst this
  simp only[decide_eq_true_eq] at hm
  rw[iO hm.1,List.mem_map]
  exact⟨(b:Int),hm.2,by simp⟩
 ·intro h
  rw[nxC] at h
  split at h
  ·rename_i x hx
   obtain⟨n,hn,e⟩:=List.mem_map.1 h
   have:=mq hfit hx hn
   have hnb:n=(b:Int):=by omega
   subst hnb
   exact⟨(x,p),by rw[List.mem_filter,List.mem_zipIdx_iff_getElem?];exact⟨hx,by simpa using hn⟩,rfl⟩
  ·cases h
theorem CL{bs:List Bk}{a b:Nat}(h:kf bs a=true)(e:b∈nxC bs a):kf bs b=true:=rchB_iff.2 ((rchB_iff.1 h).step e)
theorem EB{bs:List Bk}{b:Nat}(h:kf bs b=true):b=0\/∃p,kf bs p=true/\b∈nxC bs p:=by
 have:=rchB_iff.1 h
 cases this with
 |zero _=>exact .inl rfl
 | @step p _ hp es _=>exact .inr ⟨p,rchB_iff.2 hp,es⟩
theorem Cj(bs:List Bk):kf bs 0=true:=rchB_iff.2 Rch.zero
end
section
theorem oO{xs:List Int}(hp:xs.Pairwise (· <= ·)):∀j,j<xs.length->∃i,i<=j/\Lib.keeps xs.toArray i=true/\xs[i]! =xs[j]! :=by
 intro j
 induction j with
 |zero=>intro h;exact⟨0,Nat.le_refl _,Lib.keeps_lt_one _ 0 (by omega),rfl⟩
 |succ j ih=>
  intro h
  by_cases e:xs.toArray[j+1]! =xs.toArray[j+1-1]!
  ·obtain⟨i,h1,h2,h3⟩:=ih (by omega)
   refine⟨i,by omega,h2,?_⟩
   have e':xs[j+1]! =xs[j]! :=by simpa using e
   rw[h3,e']
  ·exact⟨j+1,Nat.le_refl _,Lib.keeps_pos e,rfl⟩
theorem tC(xs:List Int):(Lib.compact xs).length<=xs.length:=by
 unfold Lib.compact Lib.compactUpTo
 rw[List.length_map]
 have:=List.length_filter_le (Lib.keeps xs.toArray) (List.range xs.length)
 rwa[List.length_range] at this
theorem tK{xs:List Int}(hp:xs.Pairwise (· <= ·))(x:Int):x∈Lib.compact xs↔x∈xs:=by
 unfold Lib.compact Lib.compactUpTo
 simp only[List.mem_map,List.mem_filter,List.mem_range]
 constructor
 ·rintro⟨j,⟨h1,_⟩,rfl⟩
  have e:xs.toArray[j]! =xs[j]:=by simp[h1]
  rw[e]
  exact List.getElem_mem h1
 ·intro h
  obtain⟨j,hj,rfl⟩:=List.mem_iff_getElem.1 h
  obtain⟨i,h1,h2,h3⟩:=oO hp j hj
  refine⟨i,⟨by omega,h2⟩,?_⟩
  have e:xs.toArray[i]! =xs[i]! :=by simp
  rw[e,h3]
  simp[hj]
theorem uW{xs:List Int}(hp:xs.Pairwise (· <= ·)):(Lib.compact xs).Pairwise (· < ·):=by
 unfold Lib.compact Lib.compactUpTo
 rw[List.pairwise_map]
 have hr:((List.range xs.length).filter (Lib.keeps xs.toArray)).Pairwise (· < ·):=List.Pairwise.filter _ List.pairwise_lt_range
 refine List.Pairwise.imp_of_mem (λ{a b} ha hb hab=>?_) hr
 simp only[List.mem_filter,List.mem_range] at ha hb
 obtain⟨hbl,hbk⟩:=hb
 unfold Lib.keeps at hbk
 have hne:xs.toArray[b]! ≠xs.toArray[b-1]! :=by
  rcases of_decide_eq_true hbk with h|h
  ·omega
  ·exact h
 have h1:xs.toArray[b]! =xs[b]:=by simp[hbl]
 have h2:xs.toArray[b-1]! =xs[b-1]:=by simp[show b-1<xs.length by omega]
 have h3:xs.toArray[a]! =xs[a]:=by simp[ha.1]
 rw[h1,h2] at hne
 rw[h1,h3]
 have k1:xs[b-1]<=xs[b]:=List.pairwise_iff_getElem.1 hp (b-1) b (by omega) hbl (by omega)
 have k2:xs[a]<=xs[b-1]:=by
  by_cases e:a=b-1
  ·subst e;exact Int.le_refl _
  ·exact List.pairwise_iff_getElem.1 hp a (b-1) ha.1 (by omega) (by omega)
 omega
theorem vO(xs:List Int):(xs.mergeSort λx y=>decide (x<=y)).Pairwise (· <= ·):=by
 have:=List.pairwise_mergeSort (le:=λx y:Int=>decide (x<=y)) (λa b c h1 h2=>by simp at*;omega) (λa b=>by simp;omega) xs
 exact this.imp λh=>by simpa using h
theorem sf{a b:List Int}(ha:a.Pairwise (· < ·))(hb:b.Pairwise (· < ·))(hm:∀x,x∈a↔x∈b):a=b:=by
 refine List.Perm.eq_of_pairwise (le:=(· < ·)) (λx y _ _ h1 h2=>by omega) ha hb ?_
 exact(List.perm_ext_iff_of_nodup (ha.imp λh=>by omega) (hb.imp λh=>by omega)).2 hm
theorem tG(p:Nat->Bool)(n:Nat):(bZ p n).Pairwise (· < ·):=by
 rw[bZ,List.pairwise_map]
 exact(List.Pairwise.filter _ List.pairwise_lt_range).imp λh=>by
  have h:_<_:=h
  exact Int.ofNat_lt.2 h
theorem nT{p:Nat->Bool}{n:Nat}{x:Int}:x∈bZ p n↔0<=x/\x.toNat<n/\p x.toNat=true:=by
 constructor
 ·intro h
  obtain⟨h1,h2,h3,_⟩:=uB h
  exact⟨h1,h2,h3⟩
 ·rintro⟨h1,h2,h3⟩
  have:=(vq (p:=p) (n:=n) (x:=x.toNat)).2 ⟨h2,h3⟩
  rwa[show((x.toNat:Nat):Int)=x by omega] at this
def inI(l:List Int)(k:Nat):Bool:=decide ((k:Int)∈l)
def oo(l:List Int):List Int:=Lib.compact (l.mergeSort λx y=>decide (x<=y))
theorem Ck{l:List Int}{n:Nat}(h:∀x∈l,0<=x/\x.toNat<n):oo l=bZ (inI l) n:=by
 refine sf (uW (vO l)) (tG _ _) λx=>?_
 rw[oo,tK (vO l),List.mem_mergeSort,nT,inI,decide_eq_true_iff]
 constructor
 ·intro hx
  obtain⟨h1,h2⟩:=h x hx
  exact⟨h1,h2,by rwa[show((x.toNat:Nat):Int)=x by omega]⟩
 ·rintro⟨h1,_,h3⟩
  rwa[show((x.toNat:Nat):Int)=x by omega] at h3
theorem zN(x:Int):∀xs:List Int,∃k,k<=xs.length/\(∀y∈xs.take k,y<x)/\∀y,xs[k]?=some y->¬y<x
 |[]=>⟨0,Nat.le_refl _,by simp,by simp⟩
 |a::r=>by
  by_cases h:a<x
  ·obtain⟨k,h1,h2,h3⟩:=zN x r
   refine⟨k+1,by simp;omega,λy hy=>?_,λy hy=>h3 y (by simpa using hy)⟩
   rw[List.take_succ_cons] at hy
   rcases List.mem_cons.1 hy with rfl|hy
   ·exact h
   ·exact h2 y hy
  ·exact⟨0,Nat.zero_le _,by simp,λy hy=>by simp at hy;rw[←hy];exact h⟩
theorem FH{xs:List Int}(hp:xs.Pairwise (· < ·)){k:Nat}{x:Int}(hk:k<=xs.length)(h1:∀y∈xs.take k,y<x)(h2:∀y,xs[k]?=some y->¬y<x):(mo xs k x).Pairwise (· < ·)/\∀y,y∈mo xs k x↔y∈xs\/y=x:=by
 rw[mo]
 split
 ·rename_i he
  refine⟨hp,λy=>⟨λh=> .inl h,λh=>h.elim id λe=>e▸List.mem_of_getElem? he⟩⟩
 ·rename_i he
  have e:xs=xs.take k++xs.drop k:=(List.take_append_drop k xs).symm
  have hd:∀y∈xs.drop k,x<y:=by
   intro y hy
   have hpd:(xs.drop k).Pairwise (· < ·):=hp.sublist (List.drop_sublist k xs)
   cases hdr:xs.drop k with
   |nil=>rw[hdr] at hy;cases hy
   |cons a r=>
    have ha:xs[k]?=some a:=by
     have:=List.getElem?_drop (xs:=xs) (i:=k) (j:=0)
     rw[hdr] at this
     simpa using this.symm
    have hna:=h2 a ha
    have hne:a≠x:=λe=>he (by rw[ha,e])
    rw[hdr] at hy hpd
    rcases List.mem_cons.1 hy with rfl|hy
    ·omega
    ·have:=(List.pairwise_cons.1 hpd).1 y hy;omega
  have hpt:(xs.take k).Pairwise (· < ·):=hp.sublist (List.take_sublist k xs)
  have hpd:(xs.drop k).Pairwise (· < ·):=hp.sublist (List.drop_sublist k xs)
  refine⟨?_,λy=>?_⟩
  ·rw[List.pairwise_append,List.pairwise_cons]
   refine⟨hpt,⟨hd,hpd⟩,λa ha b hb=>?_⟩
   rcases List.mem_cons.1 hb with rfl|hb
   ·exact h1 a ha
   ·have:=h1 a ha;have:=hd b hb;omega
  ·conv=>rhs;rw[e]
   simp only[List.mem_append,List.mem_cons]
   constructor
   ·rintro(h|h|h)
    ·exact .inl (.inl h)
    ·exact .inr h
    ·exact .inl (.inr h)
   ·rintro((h|h)|h)
    ·exact .inl h
    ·exact .inr (.inr h)
    ·exact .inr (.inl h)
theorem CW(l:List Int)(x:Int)(k:Nat):inI (l++[x]) k=(inI l k||decide ((k:Int)=x)):=by
 simp[inI]
theorem FM{l:List Int}{n:Nat}{x:Int}(hx:0<=x/\x.toNat<n){k:Nat}(hk:k<=(bZ (inI l) n).length)(h1:∀y∈(bZ (inI l) n).take k,y<x)(h2:∀y,(bZ (inI l) n)[k]?=some y->¬y<x):mo (bZ (inI l) n) k x=bZ (inI (l++[x])) n:=by
 obtain⟨a,b⟩:=FH (tG (inI l) n) hk h1 h2
 refine sf a (tG _ _) λy=>?_
 rw[b,nT,nT,CW,Bool.or_eq_true,decide_eq_true_iff]
 constructor
 ·rintro(⟨g1,g2,g3⟩|rfl)
  ·exact⟨g1,g2,.inl g3⟩
  ·exact⟨hx.1,hx.2,.inr (by omega)⟩
 ·rintro⟨g1,g2,g3|g3⟩
  ·exact .inl ⟨g1,g2,g3⟩
  ·exact .inr (by omega)
end
section
theorem AC.shelfNil{P:Program}{G:aA}{f:FuncId}{h:List AO}{rv:AV}{r:Value}(hf:dF P f=true)(hr:∀(W:World) (S:Nat->Prop) (φ:Aw.Place) (n:Nat),VRel W S φ n rv r)
 (H:∀W:World,Calls P f #[.slice none 0 0] W λe W'=>e= .returned r/\W'=W):AC P G f [.nils] h λx h'=>x= .ret rv/\h'=h:=by
 refine⟨hf,λW S φ vs hH hA=>?_⟩
 have hs1:vs.size=1:=hA.1
 obtain⟨v0,rfl⟩:∃v0,vs=#[v0]:=⟨vs[0],by
  apply Array.ext
  ·simp[hs1]
  ·intro i h1 h2
   have:i=0:=by omega
   subst this;rfl⟩
 have hv:=hA.2 0 _ v0 rfl rfl
 cases hv
 refine(H W).mono ?_
 rintro e W' ⟨rfl,rfl⟩
 exact⟨.ret rv,S,φ,h,⟨rfl,rfl⟩,hH,.ret _ _ (hr _ _ _ _),Keep.refl hH⟩
theorem AC.shelfEmpty{P:Program}{G:aA}{f:FuncId}{h:List AO}{id sz off:Nat}{rv:AV}{r:Option Addr->Nat->Value}(hf:dF P f=true)(hr:∀(W:World) (S:Nat->Prop) (φ:Aw.Place) (n:Nat) (p:Option Addr) (cap:Nat),VRel W S φ n (.sl id sz off 0) (.slice p 0 cap)->VRel W S φ n rv (r p cap))
 (H:∀(W:World) (p:Option Addr) (cap:Nat),Calls P f #[.slice p 0 cap] W λe W'=>e= .returned (r p cap)/\W'=W):AC P G f [.sl id sz off 0] h λx h'=>x= .ret rv/\h'=h:=by
 refine⟨hf,λW S φ vs hH hA=>?_⟩
 have hs1:vs.size=1:=hA.1
 obtain⟨v0,rfl⟩:∃v0,vs=#[v0]:=⟨vs[0],by
  apply Array.ext
  ·simp[hs1]
  ·intro i h1 h2
   have:i=0:=by omega
   subst this;rfl⟩
 have hv:=hA.2 0 _ v0 rfl rfl
 have hv2:=hv
 cases hv with
 |sl _ _ _ _ cap ba _ hl hb hc=>
  refine(H W ba cap).mono ?_
  rintro e W' ⟨rfl,rfl⟩
  exact⟨.ret rv,S,φ,h,⟨rfl,rfl⟩,hH,.ret _ _ (hr _ _ _ _ _ _ hv2),Keep.refl hH⟩
variable (G:aA)
theorem GO{h:List AO}{id:Nat}{xs:List Int}(hid:h[id]?=some (iQ xs))(hx:xs≠[])(hb:xs.length<4611686018427387904):
 AC Tryz.prog G (lays189_ren.f 189) [.sl id 1 0 xs.length] h λx h'=>x= .ret (.tup [])/\h'=h.set id (iQ (xs.mergeSort λx y=>decide (x<=y))):=
 AC.shelfInts (r:=λ_ _ _=> .tuple #[]) (by kernel_rfl) hid hx (by simp) (λ_ _ _ _ _ _ _ _=> .tup [] #[] rfl (λj c v e=>by simp at e))
  λblk off cap W hH hbk _=>Any.slices_Sort_int ty blk off cap xs W hH hbk hb
theorem Bm{h:List AO}{id:Nat}{xs:List Int}(hid:h[id]?=some (iQ xs))(hx:xs≠[])(hb:xs.length<=9223372036854775807)(hl:(Lib.compact xs).length<=xs.length):
 AC Tryz.prog G (lays20_ren.f 20) [.sl id 1 0 xs.length] h λx h'=>x= .ret (.sl id 1 0 (Lib.compact xs).length)/\h'=h.set id (iQ (Lib.compact xs++List.replicate (xs.length-(Lib.compact xs).length) 0)):=by
 refine AC.shelfInts (r:=λblk off cap=> .slice (some ⟨blk,off,none⟩) (Lib.compact xs).length cap) (by kernel_rfl) hid hx (by simp;omega) (λW S φ n cap hi hc hs=>?_) λblk off cap W hH hbk hcap=>?_
 ·exact .sl id 1 0 _ cap _ hi (by omega) (λ_=>by simp) (λc t fr e=>by have:=hs c t fr e;omega)
 ·refine(Any.slices_Compact_int zC blk off cap xs W hH hb hcap).mono ?_
  rintro e W' ⟨rfl,q,rfl⟩
  exact⟨rfl,q,#[],by simp⟩
theorem vB(id:Nat)(h:List AO):AC Tryz.prog G (lays189_ren.f 189) [.sl id 1 0 0] h λx h'=>x= .ret (.tup [])/\h'=h:=
 AC.shelfEmpty (r:=λ_ _=> .tuple #[]) (by kernel_rfl) (λ_ _ _ _ _ _ _=> .tup [] #[] rfl (λj c v e=>by simp at e)) λW p cap=>Any.slices_Sort_int_none ty p cap W
theorem rU(id:Nat)(h:List AO):AC Tryz.prog G (lays20_ren.f 20) [.sl id 1 0 0] h λx h'=>x= .ret (.sl id 1 0 0)/\h'=h:=
 AC.shelfEmpty (r:=λp cap=> .slice p 0 cap) (by kernel_rfl) (λ_ _ _ _ _ _ h=>h) λW p cap=>Any.slices_Compact_int_empty zC p cap W
theorem BK(h:List AO):AC Tryz.prog G (lays189_ren.f 189) [.nils] h λx h'=>x= .ret (.tup [])/\h'=h:=
 AC.shelfNil (r:= .tuple #[]) (by kernel_rfl) (λ_ _ _ _=> .tup [] #[] rfl (λj c v e=>by simp at e)) λW=>Any.slices_Sort_int_none ty none 0 W
theorem tL(h:List AO):AC Tryz.prog G (lays20_ren.f 20) [.nils] h λx h'=>x= .ret .nils/\h'=h:=
 AC.shelfNil (r:= .slice none 0 0) (by kernel_rfl) (λ_ _ _ _=> .nils) λW=>Any.slices_Compact_int_empty zC none 0 W
theorem vT{h:List AO}{id m:Nat}{l:List Int}{t:List Int}(e:h[id]?=some (iQ (l++t)))(hm:m=l.length):View h (.sl id 1 0 m) (aC l):=by
 have:=View.fl (h:=h) id 1 0 ((l++t).map λn=>[AV.p (.int .i64 n)]) (l.map λn=>PV.int .i64 n) e (λi q hq=>by
  rw[nM,Nat.zero_add,List.map_append,List.getElem?_append_left (by have:=(List.getElem?_eq_some_iff.1 hq).1;simpa using this),List.getElem?_map]
  rw[List.getElem?_map] at hq
  cases hh:l[i]? with
  |none=>rw[hh] at hq;cases hq
  |some x=>rw[hh] at hq;cases hq;rfl)
 rw[List.length_map,List.map_map] at this
 rw[hm]
 exact this
theorem CM{h:List AO}{id:Nat}(l:List Int)(hl:l.length<=1073741824)(hn:l≠[])(hg:h[id]?=some (iQ l)):AC Tryz.prog G cq [.sl id 1 0 l.length] h λx h'=>∃V os,x= .ret V/\h'=h++os/\((V= .nils/\l=[])\/∃id,V= .sl id 1 0 l.length/\h.length<=id/\h'[id]?=some (iQ l)):=by
 have hil:=(List.getElem?_eq_some_iff.1 hg).1
 have hgm:∀t,(h++t)[id]?=some (.row 1 (l.map λx=>[.p (.int .i64 x)])):=λt=>by rw[List.getElem?_append_left hil];exact hg
 have hge:=λt hh=>ep (hgm t) hh
 refine AC.go lE ?_
 have htk:List.take l.length (l.map λx=>[AV.p (.int .i64 x)])=l.map λx=>[AV.p (.int .i64 x)]:=List.take_of_length_le (by simp)
 have hll:(l.map λx=>[AV.p (.int .i64 x)]).length=l.length:=by simp
 simp-implicitDefEqProofs[fO,hgm,hge,htk,hll]
 exact⟨List.length_pos_iff.2 hn,⟨by omega,by omega⟩,rfl⟩
theorem EL(A:AV)(l:List Int)(hl:l.length<=1073741824)(h:List AO)(hclone:AC Tryz.prog G cq [A] h λx h'=>∃V os,x= .ret V/\h'=h++os/\((V= .nils/\l=[])\/∃id,V= .sl id 1 0 l.length/\h.length<=id/\h'[id]?=some (iQ l))):
 AC Tryz.prog G kB [A] h λx h'=>h.length<=h'.length/\(∀i,i<h.length->h'[i]?=h[i]?)/\((x= .ret .nils/\oo l=[])\/∃id t,h.length<=id/\x= .ret (.sl id 1 0 (oo l).length)/\h'[id]?=some (iQ (oo l++t))):=by
 generalize hS:l.mergeSort (λx y=>decide (x<=y))=S
 have hSl:S.length=l.length:=by rw[←hS,List.length_mergeSort]
 have hcl:=tC S
 have hO:oo l=Lib.compact S:=by rw[oo,hS]
 rw[hO]
 refine AC.go vR ?_
 simp-implicitDefEqProofs[ow]
 refine hclone.mono ?_
 rintro r h1 ⟨V,os,rfl,rfl,⟨rfl,hn⟩|⟨id,rfl,hid,hr⟩⟩
 ·have hS0:S=[]:=by rw[hn] at hSl;exact List.length_eq_zero_iff.1 (by simpa using hSl)
  simp-implicitDefEqProofs[aa]
  refine(BK G _).mono ?_
  rintro r h' ⟨rfl,rfl⟩
  simp-implicitDefEqProofs[aa]
  refine(tL G _).mono ?_
  rintro r h'' ⟨rfl,rfl⟩
  simp-implicitDefEqProofs[aa]
  rw[hS0]
  exact⟨λi hi=>List.getElem?_append_left hi,rfl⟩
 ·have hidl:=(List.getElem?_eq_some_iff.1 hr).1
  by_cases hn:l=[]
  ·subst hn
   have hS0:S=[]:=List.length_eq_zero_iff.1 (by simpa using hSl)
   subst hS0
   simp-implicitDefEqProofs[aa]
   refine(vB G id _).mono ?_
   rintro r h' ⟨rfl,rfl⟩
   simp-implicitDefEqProofs[aa]
   refine(rU G id _).mono ?_
   rintro r h'' ⟨rfl,rfl⟩
   simp-implicitDefEqProofs[aa]
   exact⟨λi hi=>List.getElem?_append_left hi,id,hid,⟨rfl,rfl⟩,[],hr⟩
  simp-implicitDefEqProofs[aa]
  refine(GO G hr hn (by omega)).mono ?_
  rintro r h' ⟨rfl,rfl⟩
  rw[hS]
  have hC:=Bm G (h:=(h++os).set id (iQ S)) (id:=id) (xs:=S) (List.getElem?_set_self hidl) (by intro e;rw[e] at hSl;simp at hSl;exact hn (List.length_eq_zero_iff.1 hSl.symm)) (by omega) hcl
  rw[hSl] at hC
  simp-implicitDefEqProofs[aa]
  refine hC.mono ?_
  rintro r h'' ⟨rfl,rfl⟩
  simp-implicitDefEqProofs[aa]
  refine⟨λi hi=>?_,id,hid,rfl,_,List.getElem?_set_self (by simpa using hidl)⟩
  rw[List.getElem?_set_ne (by omega),List.getElem?_append_left hi]
end
section
theorem oQ:AK.whole fe=FK.ak ff:=rfl
noncomputable def bF (bs:List Bk):List Int:=if bT bs then bZ (kf bs) bs.length else[]
theorem lU{bs:List Bk}(h:bT bs=true):bF bs=bZ (kf bs) bs.length:=by rw[bF,if_pos h]
theorem iK{bs:List Bk}(h:bT bs=false):bF bs=[]:=by rw[bF,h];rfl
theorem Aq{bs:List Bk}(h:bT bs=true){x:Nat}(hx:x∈eY bs):x<bs.length:=zp h (rchB_iff.1 (((rR h).mem x).1 hx))
theorem zg{p q:Nat->Bool}{n:Nat}(h:∀k,k<n->p k=q k):bZ p n=bZ q n:=by
 rw[bZ,bZ,List.filter_congr λk hk=>h k (List.mem_range.1 hk)]
theorem zT{bs:List Bk}(h:bT bs=true){l:List Int}(hm:∀x:Nat,(x:Int)∈l↔x∈eY bs):bZ (inI l) bs.length=bF bs:=by
 rw[lU h]
 refine zg λk _=>?_
 rw[inI,Bool.eq_iff_iff,decide_eq_true_iff,hm,(rR h).mem]
theorem vM{bs:List Bk}(x:Nat):(x:Int)∈aL (eV bs)↔x∈eY bs:=by
 rw[oe,eY,List.mem_reverse]
variable (G:aA)
theorem uQ(l:List Int)(n:Nat)(x:Int)(hn:n<=1073741824)(hx:0<=x/\x.toNat<n):VF Tryz.prog G bN [.p (aC (bZ (inI l) n)),.p (.int .i64 x)] (.p (aC (bZ (inI (l++[x])) n))):=by
 obtain⟨k,h1,h2,h3⟩:=zN x (bZ (inI l) n)
 have:=uM G (bZ (inI l) n) k x (by have:=jY (inI l) n;omega) h1 h2 h3
 rwa[FM hx h1 h2 h3] at this
theorem uY(l:List Int)(n:Nat)(hn:n<=1073741824)(hl:l.length<=1073741824)(hx:∀x∈l,0<=x/\x.toNat<n):VF Tryz.prog G dZ [.p (aC l)] (.p (aC (bZ (inI l) n))):=by
 have hnl:aC l= .lst 1 (l.map λw=>[.int .i64 w]):=rfl
 have hT:∀i,i<l.length->∀x,l[i]?=some x->VF Tryz.prog G bN [.p (aC (bZ (inI (l.take i)) n)),.p (.int .i64 x)] (.p (aC (bZ (inI (l.take (i+1))) n))):=λi hi x hg=>by
  have h1:l.take (i+1)=l.take i++[x]:=by rw[List.take_add_one,hg];rfl
  rw[h1]
  exact uQ G (l.take i) n x hn (hx x (List.mem_of_getElem? hg))
 obtain⟨F,hF⟩:∃F:Nat->List Int,F=λi=>bZ (inI (l.take i)) n:=⟨_,rfl⟩
 have hF0:F 0=[]:=by
  rw[hF]
  refine ta λi _=>?_
  simp[inI]
 have hFe:F l.length=bZ (inI l) n:=by rw[hF];simp only[List.take_length]
 have hFi:∀i,bZ (inI (l.take i)) n=F i:=λi=>by rw[hF]
 simp only[hFi] at hT
 rw[←hFe]
 refine AC.go nz ?_
 simp-implicitDefEqProofs[iI,hnl]
 refine aI (λi:Nat=>aB 19 [(4,.p (.int .i64 i)),(3,.p (aC (F i))),(0,.p (.lst 1 (l.map λw=>[.int .i64 w])))]) (λ_=>[]) (λi=>i<=l.length) (λi=>l.length-i) 0 (Nat.zero_le _) ?_ ?_
 ·refine mB 0 (Nat.le_refl _) (by simp) rfl (.nil _) ?_
  rw[hF0]
  exact⟨.keep (by simp[below]) .nil,.one (cb (l:=[]) rfl) .nil,.keep (by simp[below]) .nil,trivial⟩
 intro i hi
 simp-implicitDefEqProofs[]
 refine aF (λhc=>?_) (λhc=>?_)
 ·have hc:i<l.length:=by simpa using hc
  have hg:=List.getElem?_eq_getElem hc
  have hcall:=hT i hc _ hg
  generalize l[i]=x at hg hcall
  have hwi:=w1 (i:=i) (by omega)
  simp-implicitDefEqProofs[hg]
  refine hcall.use ?_
  simp-implicitDefEqProofs[]
  exact⟨i+1,hc,by omega,bc rfl (by simp[below,hwi])⟩
 ·have hc:i=l.length:=by simp at hc;omega
  subst hc
  simp-implicitDefEqProofs[]
structure OrS where (m id:Nat) (Y:List AO)
theorem oB(c:Cd)(hc:CBd c)(hfit:bT c.blocks=true):AC Tryz.prog G dg [.agg (c.cs.map .p)] [] λx h=>∃id,x= .ret (.sl id 1 0 (eY c.blocks).length)/\h[id]?=some (.row 1 (az (aL (eY c.blocks)))):=by
 have hcs:=c.cs_eq2
 have hbl:bkL c.blocks= .lst 5 (c.blocks.map Bk.cs):=rfl
 have hpos:=iA hfit
 have hc1:=hc.1
 have hvl:(eV c.blocks).length<=1073741824:=by
  have:=tH hfit
  have:=jY (kf c.blocks) c.blocks.length
  rw[eY,List.length_reverse] at*
  omega
 have hrep:List.replicate c.blocks.length [AV.p (.bool false)]=eu (List.replicate c.blocks.length false):=Gk _
 have hlr:(List.replicate c.blocks.length false).length=c.blocks.length:=List.length_replicate
 have hv:∀(h:List AO) (sid oid:Nat),sid≠oid->h[sid]?=some (.row 1 (eu (List.replicate c.blocks.length false)))->h[oid]?=some (.row 1 [])->AC Tryz.prog G bO [.agg (c.cs.map .p),.p (.int .i64 0),.sl sid 1 0 c.blocks.length,.sl oid 1 0 0] h λx h'=>∃id,x= .ret (.sl id 1 0 (eV c.blocks).length)/\h'[id]?=some (.row 1 (az (aL (eV c.blocks))))/\id<h'.length:=λh sid oid hne h1 h2=>by
  have:=yQ G c hc hfit c.blocks.length h 0 sid oid (List.replicate c.blocks.length false) [] hpos hlr (Ae hfit) (by rw[mK];exact Nat.le_refl _) hne h1 h2 (by rw[mK];simp;omega)
  rw[hlr] at this
  exact this.mono λx h' ⟨id,e1,e2,_⟩=>⟨id,e1,e2,(List.getElem?_eq_some_iff.1 e2).1⟩
 rw[hcs,hbl] at hv
 refine AC.goK oZ oQ ?_
 simp-implicitDefEqProofs[fe,ff,hcs,hbl]
 refine fv (λa:OrS=>aB 29 [(3,.sl a.id 1 0 (eV c.blocks).length)]) (λa=>a.Y) (λa=>a.Y[a.id]?=some (.row 1 (az (aL (eV c.blocks))))) ?_ ?_
 ·simp-implicitDefEqProofs[hrep]
  refine⟨⟨by omega,?_⟩,by omega,?_⟩
  ·refine(hv _ 1 2 (by decide) rfl rfl).mono ?_
   rintro r h ⟨id,rfl,h1,h2⟩
   simp-implicitDefEqProofs[aa]
   exact⟨⟨0,id,h⟩,h1,ab (Nat.zero_le _) (by simp[below];omega)⟩
  ·refine(hv _ 2 1 (by decide) rfl rfl).mono ?_
   rintro r h ⟨id,rfl,h1,h2⟩
   simp-implicitDefEqProofs[aa]
   exact⟨⟨0,id,h⟩,h1,ab (Nat.zero_le _) (by simp[below];omega)⟩
 rintro⟨_,vid,Y⟩ hY
 simp only at hY⊢
 have hvd:=(List.getElem?_eq_some_iff.1 hY).1
 have hor:eY c.blocks=(eV c.blocks).reverse:=rfl
 rw[hor]
 generalize eV c.blocks=v at hY hvl
 have hw0:IntKind.i64.wrap ((v.length:Int)-1)=(v.length:Int)-1:=ag (by omega) (by omega)
 simp-implicitDefEqProofs[hw0]
 refine aI (λa:OrS=>aB 29 [(5,.p (.int .i64 ((v.length:Int)-1-a.m))),(4,.sl a.id 1 0 a.m),(3,.sl vid 1 0 v.length)]) (λa=>a.Y) (λa=>a.m<=v.length/\a.id≠vid/\a.Y[vid]?=some (.row 1 (az (aL v)))/\a.Y[a.id]?=some (.row 1 (az (aL (v.reverse.take a.m))))) (λa=>v.length-a.m) ⟨0,Y.length,_⟩ ⟨Nat.zero_le _,by simp only;omega,?_,?_⟩ (ab (Nat.zero_le _) (by simp[below];omega)) ?_
 ·simp only;rw[List.getElem?_append_left hvd];exact hY
 ·simp only;rw[List.getElem?_append_right (Nat.le_refl _),Nat.sub_self];rfl
 clear hY
 rintro⟨m,id,Z⟩ ⟨hm,hne,hz1,hz2⟩
 simp only at hm hne hz1 hz2⊢
 have hid:=(List.getElem?_eq_some_iff.1 hz2).1
 have hvd:=(List.getElem?_eq_some_iff.1 hz1).1
 simp-implicitDefEqProofs[]
 refine aF (λhcc=>?_) (λhcc=>?_)
 ·have hcc:m<v.length:=by simp at hcc;omega
  obtain⟨j,hj⟩:∃j,j=v.length-1-m:=⟨_,rfl⟩
  have hjI:(v.length:Int)-1-m=(j:Int):=by omega
  have hjl:j<v.length:=by omega
  have hgj:=List.getElem?_eq_getElem hjl
  generalize v[j]=x at hgj
  have hrj:(az (aL v))[j]?=some [.p (.int .i64 x)]:=by simp[az,aL,hgj]
  have htk:v.reverse.take (m+1)=v.reverse.take m++[x]:=by
   rw[List.take_add_one,List.getElem?_reverse hcc,show v.length-1-m=j by omega,hgj];rfl
  have hlt:(v.reverse.take m).length=m:=by simp;omega
  have hlr2:(az (aL (v.reverse.take m))).length=m:=by simp[az,aL];omega
  have htk2:List.take m (az (aL (v.reverse.take m)))=az (aL (v.reverse.take m)):=List.take_of_length_le (by omega)
  have hzm:∀t,(Z++t)[id]?=some (.row 1 (az (aL (v.reverse.take m)))):=λt=>by rw[List.getElem?_append_left hid];exact hz2
  have hze:=λt hh=>ep (hzm t) hh
  have hw2:IntKind.i64.wrap ((j:Int)-1)=(v.length:Int)-1-((m+1:Nat):Int):=by rw[ag (by omega) (by omega)];omega
  rw[hjI]
  simp-implicitDefEqProofs[hz1,hjl,hrj,hzm,hze,htk2,hlr2]
  refine⟨⟨by omega,by omega⟩,⟨m+1,Z.length+1,_⟩,⟨hcc,by simp only;omega,?_,?_⟩,by simp only;omega,ab (Nat.zero_le _) ?_⟩
  ·simp only
   rw[List.getElem?_append_left (by simp;omega),List.getElem?_set_ne hne,List.getElem?_append_left hvd];exact hz1
  ·simp only
   rw[List.getElem?_append_right (by simp),htk,tn];simp[az,aL]
  ·simp[below,hw2];omega
 ·have hcc:m=v.length:=by simp at hcc;omega
  subst hcc
  rw[List.take_of_length_le (by simp)] at hz2
  simp-implicitDefEqProofs[hz2]
theorem Ik(c:Cd)(hc:CBd c):VF Tryz.prog G jS [.agg (c.cs.map .p)] (.p (aC (CN c.blocks))):=by
 have hcs:=c.cs_eq2
 have hbl:bkL c.blocks= .lst 5 (c.blocks.map Bk.cs):=rfl
 have h1:=tv G c hc
 have h2:=λhf=>mV G ((oB G c hc hf).mono λr h ⟨id,e1,e2⟩=>⟨_,e1,by rw[←fz (eY c.blocks)];exact cb e2⟩)
 rw[hcs,hbl] at h1 h2
 refine mV G ?_
 refine AC.go rC ?_
 simp-implicitDefEqProofs[jx,hcs,hbl]
 refine h1.use ?_
 cases e1:bT c.blocks with
 |false=>
  rw[FZ e1]
  simp-implicitDefEqProofs[]
  exact cb (l:=[]) rfl
 |true=>
  rw[Dx e1]
  simp-implicitDefEqProofs[]
  refine(h2 e1).use ?_
  simp-implicitDefEqProofs[]
  exact .p _
theorem uU(c:Cd)(hc:CBd c):VF Tryz.prog G cM [.agg (c.cs.map .p)] (.p (aC (bF c.blocks))):=by
 have hcs:=c.cs_eq2
 have hbl:bkL c.blocks= .lst 5 (c.blocks.map Bk.cs):=rfl
 have h1:=tv G c hc
 have h2:=λhf=>mV G ((oB G c hc hf).mono λr h ⟨id,e1,e2⟩=>⟨_,e1,by rw[←fz (eY c.blocks)];exact cb e2⟩)
 rw[hcs,hbl] at h1 h2
 refine mV G ?_
 refine AC.go nZ ?_
 simp-implicitDefEqProofs[iy,hcs,hbl]
 refine h1.use ?_
 cases e1:bT c.blocks with
 |false=>
  rw[iK e1]
  simp-implicitDefEqProofs[]
  exact cb (l:=[]) rfl
 |true=>
  have hin:∀x∈aL (eY c.blocks),0<=x/\x.toNat<c.blocks.length:=λx hx=>by
   obtain⟨y,hy,rfl⟩:=List.mem_map.1 hx
   exact⟨Int.natCast_nonneg y,by simpa using Aq e1 hy⟩
  have hle:(aL (eY c.blocks)).length<=1073741824:=by
   have:=tH e1
   have:=jY (kf c.blocks) c.blocks.length
   have:=hc.1
   rw[fz];omega
  have h3:=uY G (aL (eY c.blocks)) c.blocks.length hc.1 hle hin
  rw[zT e1 λx=>oe] at h3
  simp-implicitDefEqProofs[]
  refine(h2 e1).use ?_
  simp-implicitDefEqProofs[]
  refine h3.use ?_
  simp-implicitDefEqProofs[]
  exact .p _
theorem vb(c:Cd)(hc:CBd c):VF Tryz.prog G dY [.agg (c.cs.map .p)] (.p (aC (bF c.blocks))):=by
 have hcs:=c.cs_eq2
 have hbl:bkL c.blocks= .lst 5 (c.blocks.map Bk.cs):=rfl
 have hgk:=AZ G c hc
 rw[hcs,hbl] at hgk
 refine mV G ?_
 refine AC.go nK ?_
 simp-implicitDefEqProofs[iN,hcs,hbl]
 refine hgk.use ?_
 cases e1:bT c.blocks with
 |false=>
  rw[iK e1]
  simp-implicitDefEqProofs[]
  exact .nils 1
 |true=>
  have hv:=Ga (l:=aL (eV c.blocks)) G ((BS G c hc e1).mono λr h ⟨id,_,h1,h2⟩=>⟨id,by rw[fz];exact h1,h2⟩)
  rw[hcs,hbl] at hv
  have hne:aL (eV c.blocks)≠[]:=by
   obtain⟨t,e⟩:=(rR e1).head
   intro h0
   have:=congrArg List.length h0
   rw[fz,←List.length_reverse,show(eV c.blocks).reverse=eY c.blocks from rfl,e] at this
   simp at this
  have hon:oo (aL (eV c.blocks))=bF c.blocks:=by
   rw[Ck (n:=c.blocks.length) λx hx=>by
    obtain⟨y,hy,rfl⟩:=List.mem_map.1 hx
    exact⟨Int.natCast_nonneg y,by simpa using Aq e1 (by rw[eY];exact List.mem_reverse.2 hy)⟩]
   exact zT e1 λx=>vM x
  have hle:(aL (eV c.blocks)).length<=1073741824:=by
   have:=tH e1
   have:=jY (kf c.blocks) c.blocks.length
   have:=hc.1
   rw[eY,List.length_reverse] at*
   rw[fz];omega
  rw[←hon]
  generalize aL (eV c.blocks)=L at hv hne hle
  have hsh:∀n,ce n (.row 1 (az L))= .row 1 (az L):=λn=>by simp[ce,az,cm,bm]
  simp-implicitDefEqProofs[]
  refine(AC.lift hv (by simp[below]) rfl (by simp[AL,az,rB,ox])).mono ?_
  rintro r h ⟨rfl,rfl⟩
  simp-implicitDefEqProofs[aa,bm,hsh]
  refine(EL G (.sl 1 1 0 L.length) L hle _ (CM G L hle hne rfl)).mono ?_
  rintro r h ⟨_,_,⟨rfl,hn⟩|⟨id,t,_,rfl,hid⟩⟩
  ·simp-implicitDefEqProofs[aa]
   rw[hn]
   exact .nils 1
  ·simp-implicitDefEqProofs[aa]
   exact vT hid rfl
end
section
variable (G:aA)
theorem Ea(xs:List Int)(hb:xs.length<=1073741824):VF Tryz.prog G eA [.p (aC xs),.p (aC xs)] (.p (.bool true)):=by
 refine AC.go sR ?_
 have hsl:∀l,aC l= .lst 1 (l.map λw=>[.int .i64 w]):=λ_=>rfl
 simp-implicitDefEqProofs[lc,hsl]
 refine aI (λi:Nat=>aB 29 [(0,.p (aC xs)),(1,.p (aC xs)),(10,.p (.int .i64 xs.length)),(11,.p (.int .i64 i))]) (λ_=>[]) (λi=>i<=xs.length) (λi=>xs.length-i) 0 (by simp) ?_ ?_
 ·exact bc rfl (by simp[below,aC])
 intro i hi
 simp-implicitDefEqProofs[hsl]
 refine aF (λh1=>?_) (λh1=>?_)
 ·simp at h1
  have hg:xs[i]?=some xs[i]:=List.getElem?_eq_getElem h1
  generalize xs[i]=x at hg
  simp-implicitDefEqProofs[hg]
  refine⟨i+1,by omega,by omega,bc rfl ?_⟩
  simp[below,aC,w1 (i:=i) (by omega)]
 ·simp at h1
  simp-implicitDefEqProofs[]
theorem Fv(xs:List Int)(k:Int)(hb:xs.length<=1073741824):VF Tryz.prog G dU [.p (aC xs),.p (.int .i64 k)] (.p (.bool (decide (k∈xs)))):=by
 refine AC.go tM ?_
 have hsl:∀l,aC l= .lst 1 (l.map λw=>[.int .i64 w]):=λ_=>rfl
 simp-implicitDefEqProofs[mH,hsl]
 refine aI (λi:Nat=>aB 17 [(1,.p (.int .i64 k)),(7,.p (aC xs)),(8,.p (.int .i64 xs.length)),(9,.p (.int .i64 i))]) (λ_=>[]) (λi=>i<=xs.length/\k∉xs.take i) (λi=>xs.length-i) 0 (by simp) ?_ ?_
 ·exact bc rfl (by simp[below,aC])
 intro i ⟨hi,hn⟩
 simp-implicitDefEqProofs[hsl]
 refine aF (λh1=>?_) (λh1=>?_)
 ·simp at h1
  have hg:xs[i]?=some xs[i]:=List.getElem?_eq_getElem h1
  have hT:xs.take (i+1)=xs.take i++[xs[i]]:=au h1
  have hm:=List.getElem_mem h1
  generalize xs[i]=x at hg hT hm
  by_cases hx:x=k
  ·subst hx
   simp-implicitDefEqProofs[hg,hm]
  ·simp-implicitDefEqProofs[hg,hx]
   refine⟨i+1,⟨by omega,?_⟩,by omega,bc rfl ?_⟩
   ·rw[hT,List.mem_append]
    rintro(h|h)
    ·exact hn h
    ·exact hx (List.mem_singleton.1 h).symm
   ·simp[below,aC,w1 (i:=i) (by omega)]
 ·simp at h1
  rw[List.take_of_length_le h1] at hn
  simp-implicitDefEqProofs[hn]
end
section
theorem yv(bs:List Bk)(b:Int):(bj bs b).length<=bs.length:=by
 rw[bj,List.length_map]
 exact Nat.le_trans (List.length_filter_le _ _) (by simp)
theorem yY(c:Cd)(b:Int):(ee c b).length<=c.blocks.length:=by
 rw[ee]
 split
 ·exact yv _ _
 ·simp
theorem Be{bs:List Bk}:(bF bs).length<=bs.length:=by
 rw[bF]
 split
 ·exact jY _ _
 ·simp
structure OlS where (i lid:Nat) (W:List AO)
variable (G:aA)
end
section
theorem mem_reachC{bs:List Bk}{x:Nat}:(x:Int)∈bF bs↔bT bs=true/\kf bs x=true:=by
 cases h:bT bs with
 |false=>rw[iK h];simp
 |true=>
  rw[lU h,vq]
  exact⟨λh1=>⟨rfl,h1.2⟩,λh1=>⟨zp h (rchB_iff.1 h1.2),h1.2⟩⟩
theorem yX{bs:List Bk}{v:Int}(h:v∈bF bs):bT bs=true/\∃x:Nat,v=(x:Int)/\x<bs.length/\kf bs x=true:=by
 cases hf:bT bs with
 |false=>rw[iK hf] at h;simp at h
 |true=>
  rw[lU hf] at h
  obtain⟨h1,h2,h3,h4⟩:=uB h
  exact⟨rfl,v.toNat,h4.symm,h2,h3⟩
theorem FW(p:Nat->Bool)(n:Nat):(bZ p n).Pairwise (· < ·):=by
 rw[bZ,List.pairwise_map]
 refine List.Pairwise.imp (R:=(· < ·)) (λh=>Int.ofNat_lt.2 h) ?_
 exact List.Pairwise.sublist List.filter_sublist List.pairwise_lt_range
theorem yD{bs:List Bk}{i:Nat}{u v:Int}(h1:(bF bs)[i]?=some u)(h2:(bF bs)[i+1]?=some v):u<v:=by
 have hp:(bF bs).Pairwise (· < ·):=by
  rw[bF]
  split
  ·exact FW _ _
  ·exact List.Pairwise.nil
 obtain⟨g1,e1⟩:=List.getElem?_eq_some_iff.1 h1
 obtain⟨g2,e2⟩:=List.getElem?_eq_some_iff.1 h2
 have:=List.pairwise_iff_getElem.1 hp i (i+1) g1 g2 (by omega)
 rwa[e1,e2] at this
theorem yu{bs:List Bk}{x:Nat}{b:Bk}(h:(x:Int)∈bF bs)(hb:bs[x]?=some b){n:Int}(hn:n∈b.next):n∈bF bs:=by
 obtain⟨hf,hr⟩:=mem_reachC.1 h
 have h2:=mq hf hb hn
 have:((n.toNat:Nat):Int)=n:=by omega
 rw[←this,mem_reachC]
 refine⟨hf,CL hr ?_⟩
 rw[iO hb,List.mem_map]
 exact⟨n,hn,rfl⟩
theorem zl{bs:List Bk}{x:Nat}(h:(x:Int)∈bF bs):(decide (x=0)||(bj bs (x:Int)).any λp=>decide (p∈bF bs))=true:=by
 obtain⟨hf,hr⟩:=mem_reachC.1 h
 rw[Bool.or_eq_true,decide_eq_true_iff]
 rcases EB hr with h0|⟨p,hp,hn⟩
 ·exact .inl h0
 ·right
  rw[List.any_eq_true]
  exact⟨(p:Int),(Bt hf).2 hn,by rw[decide_eq_true_iff,mem_reachC];exact⟨hf,hp⟩⟩
theorem uX{bs:List Bk}(h:bF bs≠[]):(0:Int)∈bF bs:=by
 cases hf:bT bs with
 |false=>exact absurd (iK hf) h
 |true=>exact(mem_reachC (x:=0)).2 ⟨hf,Cj bs⟩
structure FqS where (i:Nat)
theorem nC:AK.whole ew=FK.ak eq:=rfl
variable (G:aA)
theorem sv(code:List Int)(hb:Byt code)(hl:code.length<=9223372036854775807):VF Tryz.prog G iP [.p (mT code)] (.p (.bool true)):=by
 have hbl:mT code= .lst 1 (code.map λn=>[.int .u8 n]):=rfl
 refine AC.goK nH nC ?_
 simp-implicitDefEqProofs[ew,eq,hbl]
 refine aF (λ_=>?_) (λ_=>?_)
 ·simp-implicitDefEqProofs[]
 simp-implicitDefEqProofs[]
 have hd:=Du G (oY G code hb) Dj (by simp) []
 rw[hbl] at hd
 refine hd.mono ?_
 rintro r h ⟨⟨c,rfl,hg⟩,rfl⟩
 have hcs:=hg.csm
 have h160:=hg.2.1
 have hbk2:=hg.2.2
 have hcc:=c.cs_eq2
 have hbk:bkL c.blocks= .lst 5 (c.blocks.map Bk.cs):=rfl
 have hR:=vb G c hcs.1
 have hS:=uU G c hcs.1
 have hP:=λx=>BX G c x hcs.1.1 hcs.1.2
 rw[hcc,hbk] at hR hS hP
 have hol:= @Be c.blocks
 have hmem:=λv=> @yX c.blocks v
 have hasc:=λi u v=> @yD c.blocks i u v
 have hstp:=λx b=> @yu c.blocks x b
 have hled:=λx=> @zl c.blocks x
 have hzero:= @uX c.blocks
 generalize bF c.blocks=L at*
 have hW:=Ea G L (by omega)
 have hHas:=λk=>Fv G L k (by omega)
 have hLn:aC L= .lst 1 (L.map λn=>[.int .i64 n]):=rfl
 simp-implicitDefEqProofs[aa,hcc,hbk]
 refine hR.use ?_
 simp-implicitDefEqProofs[]
 refine hS.use ?_
 simp-implicitDefEqProofs[]
 refine hW.use ?_
 simp-implicitDefEqProofs[hLn]
 refine aF (λhz=>?_) (λhne=>?_)
 ·have hz:L=[]:=by simpa using hz
  subst hz
  simp-implicitDefEqProofs[]
  refine hS.use ?_
  simp-implicitDefEqProofs[]
  refine hW.use ?_
  simp-implicitDefEqProofs[]
 have hne:L≠[]:=by simpa using hne
 have hz:=hzero hne
 simp-implicitDefEqProofs[]
 refine aI (λa:OlS=>aB 104 [(39,.p (.int .i64 a.i)),(38,.p (.int .i64 L.length)),(37,.p (.lst 1 (L.map λn=>[.int .i64 n]))),(5,.sl (a.lid+1) 1 0 a.i),(4,.p (.lst 1 (L.map λn=>[.int .i64 n]))),(3,.ptr 0 3 0 0)]) (λa=> .row 3 [[.p (.int .i64 c.params),.p (.int .i64 c.regs),.p (.lst 5 (c.blocks.map Bk.cs))]]::a.W) (λa=>a.i<=L.length/\a.W[a.lid]?=some (.row 1 (az (L.take a.i)))) (λa=>L.length-a.i) ⟨0,0,[.row 1 []]⟩ ⟨Nat.zero_le _,rfl⟩ (ab (by simp) (by simp[below])) ?_
 rintro⟨i,lid,W⟩ ⟨hi,hw1⟩
 simp only at hi hw1⊢
 have hwl:=(List.getElem?_eq_some_iff.1 hw1).1
 simp-implicitDefEqProofs[]
 refine aF (λhc=>?_) (λhc=>?_)
 ·have hc:i<L.length:=by simpa using hc
  have hwi:=w1 (i:=i) (by omega)
  have hgi:=List.getElem?_eq_getElem hc
  generalize L[i]=v at hgi
  have hti:L.take (i+1)=L.take i++[v]:=by rw[List.take_add_one,hgi];rfl
  have hlt:(az (L.take i)).length=i:=by simp[az];omega
  have hgm:∀t,(W++t)[lid]?=some (.row 1 (az (L.take i))):=λt=>by rw[List.getElem?_append_left hwl];exact hw1
  have hgme:=λt hh=>ep (hgm t) hh
  have htt:List.take i (az (L.take i))=az (L.take i):=List.take_of_length_le (by omega)
  simp-implicitDefEqProofs[hgi,hgm,hgme,hlt,htt]
  refine⟨⟨by omega,by omega⟩,⟨i+1,W.length+1,_⟩,⟨hc,?_⟩,by simp only;omega,ab (by simp) ?_⟩
  ·simp only
   rw[List.getElem?_append_right (by simp),hti];simp[az]
  ·simp[below,hwi]
 have hi:i=L.length:=by simp at hc;omega
 subst hi
 have hvw:View (.dead::W) (.sl (lid+1) 1 0 L.length) (aC L):=cb (by rw[List.take_length] at hw1;exact hw1)
 simp-implicitDefEqProofs[]
 refine aI (λi:Nat=>aB 104 [(50,.p (.int .i64 i)),(49,.p (.int .i64 L.length)),(48,.p (.lst 1 (L.map λn=>[.int .i64 n]))),(5,.p (aC L)),(4,.p (.lst 1 (L.map λn=>[.int .i64 n]))),(3,.ptr 0 3 0 0)]) (λ_=>[.row 3 [[.p (.int .i64 c.params),.p (.int .i64 c.regs),.p (.lst 5 (c.blocks.map Bk.cs))]]]) (λi=>i<=L.length) (λi=>L.length-i) 0 (Nat.zero_le _) ?_ ?_
 ·refine mB 1 (by simp) (by simp) rfl (.same (by simp[okO,below]) (.nil _)) ?_
  exact⟨.keep (by simp[below]) .nil,.keep (by simp[below]) .nil,.keep (by simp[below]) .nil,.one hvw .nil,.keep (by simp[below]) .nil,.keep (by simp[below]) .nil,trivial⟩
 clear hvw hw1 hwl
 intro i hi
 simp-implicitDefEqProofs[]
 refine aF (λhc=>?_) (λhc=>?_)
 ·have hc:i<L.length:=by simpa using hc
  have hwi:=w1 (i:=i) (by omega)
  have hgi:=List.getElem?_eq_getElem hc
  generalize L[i]=v at hgi
  have hmv:=List.mem_of_getElem? hgi
  obtain⟨hfit,x,rfl,hx,_⟩:=hmem v hmv
  have hpl:=yY c (x:Int)
  have hpe:ee c (x:Int)=bj c.blocks (x:Int):=BW hx
  have hp:=hled x hmv
  rw[←hpe] at hp
  have hgb:=List.getElem?_eq_getElem hx
  generalize c.blocks[x]=b at hgb
  have hnx:=λn=> @hstp x b hmv hgb n
  have hb2:=hbk2 b (List.mem_of_getElem? hgb)
  have hbc:=b.cs_eq2
  have hnl:aC b.next= .lst 1 (b.next.map λn=>[.int .i64 n]):=rfl
  simp-implicitDefEqProofs[hgi]
  refine fv (λa:FqS=>aB 104 [(9,.p (.int .i64 x)),(50,.p (.int .i64 i)),(49,.p (.int .i64 L.length)),(48,.p (.lst 1 (L.map λn=>[.int .i64 n]))),(5,.p (aC L)),(4,.p (.lst 1 (L.map λn=>[.int .i64 n]))),(3,.ptr 0 3 0 0)]) (λ_=>[.row 3 [[.p (.int .i64 c.params),.p (.int .i64 c.regs),.p (.lst 5 (c.blocks.map Bk.cs))]]]) (λ_=>True) ?_ ?_
  ·by_cases hi0:i=0
   ·subst hi0
    simp-implicitDefEqProofs[]
    refine⟨⟨0⟩,ab (Nat.zero_le _) ?_⟩
    simp[below]
   ·obtain⟨j,hj⟩:∃j,j=i-1:=⟨_,rfl⟩
    have hwj:IntKind.i64.wrap ((i:Int)-1)=(j:Int):=by rw[ag (by omega) (by omega)];omega
    have hjl:j<L.length:=by omega
    have hgj:=List.getElem?_eq_getElem hjl
    generalize L[j]=u at hgj
    have hlt:=hasc j u x hgj (by rw[←hgi];congr 1;omega)
    have hge:¬(x:Int)<=u:=by omega
    have hp0:0<i:=by omega
    simp-implicitDefEqProofs[hwj,hgj,hge,hp0]
    refine⟨⟨0⟩,ab (Nat.zero_le _) ?_⟩
    simp[below]
  rintro⟨_⟩ _
  simp-implicitDefEqProofs[hgb,hbc,hnl]
  refine aI (λj:Nat=>aB 104 [(73,.p (.int .i64 j)),(72,.p (.int .i64 b.next.length)),(71,.p (.lst 1 (b.next.map λn=>[.int .i64 n]))),(9,.p (.int .i64 x)),(50,.p (.int .i64 i)),(49,.p (.int .i64 L.length)),(48,.p (.lst 1 (L.map λn=>[.int .i64 n]))),(5,.p (aC L)),(4,.p (.lst 1 (L.map λn=>[.int .i64 n]))),(3,.ptr 0 3 0 0)]) (λ_=>[.row 3 [[.p (.int .i64 c.params),.p (.int .i64 c.regs),.p (.lst 5 (c.blocks.map Bk.cs))]]]) (λj=>j<=b.next.length) (λj=>b.next.length-j) 0 (Nat.zero_le _) (ab (by simp) (by simp[below])) ?_
  intro j hj
  simp-implicitDefEqProofs[]
  refine aF (λhc2=>?_) (λhc2=>?_)
  ·have hc2:j<b.next.length:=by simpa using hc2
   have hwj:=w1 (i:=j) (by omega)
   have hgj:=List.getElem?_eq_getElem hc2
   have hin:=hnx _ (List.getElem_mem hc2)
   generalize b.next[j]=r at hgj hin
   simp-implicitDefEqProofs[hgj]
   refine(hHas r).use ?_
   rw[decide_eq_true hin]
   simp-implicitDefEqProofs[]
   exact⟨j+1,hc2,by omega,ab (by simp) (by simp[below,hwj])⟩
  simp-implicitDefEqProofs[]
  refine(hP x).use ?_
  generalize ee c (x:Int)=ps at hp hpl
  have hpn:aC ps= .lst 1 (ps.map λn=>[.int .i64 n]):=rfl
  simp-implicitDefEqProofs[hpn]
  generalize decide (x=0)=A at hp
  refine aI (λj:Nat=>aB 104 [(88,.p (.int .i64 j)),(87,.p (.int .i64 ps.length)),(86,.p (.lst 1 (ps.map λn=>[.int .i64 n]))),(12,.p (.bool (A||(ps.take j).any λp=>decide (p∈L)))),(9,.p (.int .i64 x)),(50,.p (.int .i64 i)),(49,.p (.int .i64 L.length)),(48,.p (.lst 1 (L.map λn=>[.int .i64 n]))),(5,.p (aC L)),(4,.p (.lst 1 (L.map λn=>[.int .i64 n]))),(3,.ptr 0 3 0 0)]) (λ_=>[.row 3 [[.p (.int .i64 c.params),.p (.int .i64 c.regs),.p (.lst 5 (c.blocks.map Bk.cs))]]]) (λj=>j<=ps.length) (λj=>ps.length-j) 0 (Nat.zero_le _) (ab (by simp) (by simp[below])) ?_
  intro j hj
  simp-implicitDefEqProofs[]
  refine aF (λhc2=>?_) (λhc2=>?_)
  ·have hc2:j<ps.length:=by simpa using hc2
   have hwj:=w1 (i:=j) (by omega)
   have hgj:=List.getElem?_eq_getElem hc2
   have htk:=DX (p:=λp=>decide (p∈L)) hc2
   generalize ps[j]=r at hgj htk
   generalize hB:((ps.take j).any λp=>decide (p∈L))=B at htk
   cases hAB:A||B with
   |true=>
    simp-implicitDefEqProofs[hgj,hB,hAB]
    refine⟨j+1,hc2,by omega,ab (by simp) ?_⟩
    simp[below,hwj,htk,←Bool.or_assoc,hAB]
   |false=>
    simp-implicitDefEqProofs[hgj,hB,hAB]
    refine(hHas r).use ?_
    simp-implicitDefEqProofs[]
    refine⟨j+1,hc2,by omega,ab (by simp) ?_⟩
    simp[below,hwj,htk,←Bool.or_assoc,hAB]
  ·have hc2:ps.length<=j:=by simpa using hc2
   rw[List.take_of_length_le hc2,hp]
   simp-implicitDefEqProofs[]
   exact⟨i+1,hc,by omega,ab (by simp) (by simp[below,hwi])⟩
 ·have hi:i=L.length:=by simp at hc;omega
  simp-implicitDefEqProofs[]
  refine(hHas 0).use ?_
  rw[decide_eq_true hz]
  simp-implicitDefEqProofs[]
end
end Go.Proofs.YtdfplkcigiblcaaGreat
namespace Go.Proofs.YtdfplkcigiblcaaGreat
open Go Go.Aw Go.ChangeShapes Go.WideShapes Go.ChangeAt Go.RowKit
set_option maxRecDepth 100000
abbrev Az:TypeId:=22
abbrev tE:TypeId:=5
theorem IM:Kids Tryz.prog (· <Tryz.prog.types.size):=kids_rows (by kernel_rfl) (by kernel_rfl)
theorem Jy:∀t e,t<Tryz.prog.types.size->Tryz.prog.underlying t=some (.slice e)->0<Tryz.prog.cellsOf e:=slices_full_of Tryz.prog (by kernel_rfl)
def AF:List TypeId:=[Az,tE]
theorem Hs:Plain Tryz.prog AF=true:=by kernel_rfl
theorem Ls:ownKnob Tryz.prog.godebug=none:=by kernel_rfl
theorem rQ{H:Type}:∀l:List (DataW H),Rows.uptoBulkAll l=(l.map Rows.uptoBulk).sum
 |[]=>by simp[Rows.uptoBulkAll]
 |d::r=>by simp[Rows.uptoBulkAll,rQ r]
theorem Fg{H:Type}:BulkOk (Rows.uptoBulk (H:=H)) where
 lit:=λl=>by cases l<;>simp[Rows.uptoBulk]
 str:=λs=>by simp[Rows.uptoBulk]
 nil:=by simp[Rows.uptoBulk]
 slice:=λes sp=>by simp only[Rows.uptoBulk,rQ];omega
 agg:=λps=>by simp only[Rows.uptoBulk,rQ];omega
theorem Cy{t e:TypeId}{vs:List PV}(h:Conf Tryz.prog t vs)(hu:Tryz.prog.underlying t=some (.slice e)):∃es,vs=[.lst (Tryz.prog.cellsOf e) es]/\es.length<=9223372036854775807/\∀x∈es,Conf Tryz.prog e x:=by
 cases h with
 |sl es e' hl hs=>rw[hu] at e';cases e';exact⟨es,rfl,hl,hs⟩
 |bool b e=>rw[e] at hu;cases hu
 |int n e=>rw[e] at hu;cases hu
 |str s e=>rw[e] at hu;cases hu
 |st vs e=>rw[e] at hu;cases hu
 |arr vs e=>rw[e] at hu;cases hu
theorem yN{vs:List PV}(h:Conf Tryz.prog Az vs):∃l:List Int,vs=[mT l]/\l.length<=9223372036854775807/\Byt l:=by
 obtain⟨es,rfl,hl,h4⟩:=Cy h (e:=tE) (by kernel_rfl)
 have hk:∀x∈es,∃n:Int,x=[PV.int .u8 n]/\(Lit.int .u8 n).wf=true:=λx hx=>CF (h4 x hx) (by kernel_rfl)
 obtain⟨l,rfl⟩:=zR (λn:Int=>[PV.int .u8 n]) (λx hx=>by obtain⟨n,e,_⟩:=hk x hx;exact⟨n,e⟩)
 rw[show Tryz.prog.cellsOf tE=1 by kernel_rfl]
 refine⟨l,rfl,by rwa[List.length_map] at hl,λn hn=>?_⟩
 obtain⟨m,e,hw⟩:=hk [PV.int .u8 n] (List.mem_map.2 ⟨n,hn,rfl⟩)
 cases e
 simp[Lit.wf,IntKind.min,IntKind.max,IntKind.bits,IntKind.signed] at hw
 omega
def G0:aA:=λ_=>none
end Go.Proofs.YtdfplkcigiblcaaGreat
