/-
  Contracts and lemmas that the card needs, part 8.
-/
import Derived.Test.YtdfplkcigiblcaaGreatFb7
import Derived.Test.YtdfplkcigiblcaaGreatChecked
import Derived.Shelf.Sort.AssemblyIn
import Derived.Shelf.Slices.CompactI
import Derived.Lib.SlicesCompact
import Derived.Shelf.Sort.Plain
import Derived.Shelf.Slices.In.SortNone
namespace Go.Proofs.YtdfplkcigiblcaaGreat
open Go Go.Aw
set_option maxRecDepth 100000
set_option maxHeartbeats 4000000
section
theorem nX:∀a b:List Sm,aZ (a++b)=aZ a+aZ b
 |[],b=>by simp[aZ]
 |s::r,b=>by rw[List.cons_append,aZ,aZ,nX r b,Nat.add_assoc]
theorem zl{l:List Sm}{i:Nat}(h:i<l.length):aZ (l.take (i+1))=aZ (l.take i)+BU l[i]:=by rw[az h,nX,aZ,aZ];rfl
theorem vU(l:List Sm)(i:Nat):aZ (l.take i)<=aZ l:=by
 have:=nX (l.take i) (l.drop i)
 rw[List.take_append_drop] at this
 omega
variable (G:aB)
theorem DZ:∀(k:Nat) (l:List Sm),aM l<=k->k<=1099511627776->VF Tryz.prog G cY [.p (smL l)] (.p (.int .i64 (aZ l))):=by
 intro k
 induction k with
 |zero=>
  intro l hl _
  have:l=[]:=by
   cases l with
   |nil=>rfl
   |cons s r=>have:=s.sz_eq;simp only[aM] at hl;omega
  subst this
  refine AC.go ll ?_
  have hsl:smL []= .lst 5 []:=rfl
  simp-implicitDefEqProofs[io,hsl]
  refine aH (λ_:Unit=>aC 35 [(0,.p (.lst 5 [])),(3,.p (.int .i64 0)),(4,.p (.int .i64 0))]) (λ_=>[]) (λ_=>True) (λ_=>0) () trivial (aV rfl (by simp[below])) ?_
  intro _ _
  simp-implicitDefEqProofs[aZ]
 |succ k ih=>
  intro l hl hk
  have hll:=dL l
  have hnz:=Nat.le_trans (iE l) (gO l)
  refine AC.go ll ?_
  have hsl:∀l,smL l= .lst 5 (l.map Sm.cs):=λ_=>rfl
  simp-implicitDefEqProofs[io,hsl]
  refine aH (λi:Nat=>aC 35 [(0,.p (smL l)),(3,.p (.int .i64 (aZ (l.take i)))),(4,.p (.int .i64 i))]) (λ_=>[]) (λi=>i<=l.length) (λi=>l.length-i) 0 (by simp) (aV rfl (by simp[below,hsl,aZ])) ?_
  intro i hi
  have k2:=vU l i
  simp-implicitDefEqProofs[hsl]
  refine aG (λh=>?_) (λh=>?_)
  ·simp at h
   have hg:=List.getElem?_eq_getElem h
   have hks:=nF (List.getElem_mem h)
   have hse:=l[i].sz_eq
   have hce:=l[i].cs_eq
   have k1:=zl h
   have k4:=vU l (i+1)
   have k5:=Fg l[i]
   have hb:=ih l[i].body (by omega) (by omega)
   have he:=ih l[i].els (by omega) (by omega)
   generalize l[i]=s at*
   generalize aZ (l.take i)=n at*
   obtain⟨n2,hn2⟩:∃n2,n2=aZ (l.take (i+1)):=⟨_,rfl⟩
   rw[←hn2] at k1 k4
   by_cases ho:s.op=1
   ·rw[if_pos ho] at k5
    simp-implicitDefEqProofs[hg,hce,ho]
    refine(tv G true).use ?_
    have w0':IntKind.i64.wrap ((n:Int)+1)=(n:Int)+1:=ae (by omega) (by omega)
    simp-implicitDefEqProofs[hg,hce,w0']
    refine hb.use ?_
    have w1':IntKind.i64.wrap ((n:Int)+1+(aZ s.body:Int))=(n:Int)+1+(aZ s.body:Int):=ae (by omega) (by omega)
    simp-implicitDefEqProofs[hg,hce,w1']
    refine he.use ?_
    have w2':IntKind.i64.wrap ((n:Int)+1+(aZ s.body:Int)+(aZ s.els:Int))=(n2:Int):=by rw[ae (by omega) (by omega)];omega
    simp-implicitDefEqProofs[w2']
    exact⟨i+1,h,by omega,aV rfl (by simp[below,hsl,←hn2,w1 (i:=i) (by omega)])⟩
   ·rw[if_neg ho] at k5
    simp-implicitDefEqProofs[hg,hce,ho]
    refine(tv G false).use ?_
    have w0':IntKind.i64.wrap (n:Int)=(n:Int):=ae (by omega) (by omega)
    simp-implicitDefEqProofs[hg,hce,w0']
    refine hb.use ?_
    have w1':IntKind.i64.wrap ((n:Int)+(aZ s.body:Int))=(n:Int)+(aZ s.body:Int):=ae (by omega) (by omega)
    simp-implicitDefEqProofs[hg,hce,w1']
    refine he.use ?_
    have w2':IntKind.i64.wrap ((n:Int)+(aZ s.body:Int)+(aZ s.els:Int))=(n2:Int):=by rw[ae (by omega) (by omega)];omega
    simp-implicitDefEqProofs[w2']
    exact⟨i+1,h,by omega,aV rfl (by simp[below,hsl,←hn2,w1 (i:=i) (by omega)])⟩
  ·simp at h
   rw[List.take_of_length_le h]
   simp-implicitDefEqProofs[]
section
variable {l:List Fd} {pr:Int} {L:Nat} {S I0 E:List Nat} {h:List AO} {w:Lw} {nx:Nat} {vs:Vs} {X:List AO} {K V:AV} {I:List Nat}
theorem Gv(T:RS l pr L S I0 E h w nx vs X K V I)(hw:w.regs<=1073741824):
 AC Tryz.prog G bk [.ptr L 8 0 0] X λx h'=>x= .ret (.p (.int .i64 w.regs))/\∃K' I',RS l pr L S I0 E h w.reg nx vs h' K' V I'/\∀i∈E,h'[i]?=X[i]?:=
 (iY G T.stb.ls hw).mono λx h' ⟨a,b⟩=>⟨a,T.step (J:=[]) (λj hj=>by cases hj) (by rw[List.append_nil];exact b)⟩
theorem Hg(T:RS l pr L S I0 E h w nx vs X K V I){B:Nat}(hok:w.Ok B)(hB:B<=1073741824)(op to n:Int):
 AC Tryz.prog G bE [.ptr L 8 0 0,.p (.int .i64 op),.p (.int .i64 to),.p (.int .i64 n),.sl X.length 1 0 0] (X++[.row 1 []]) λr h'=>r= .ret (.p (.int .i64 to))/\∃K' I',RS l pr L S I0 E h (w.put ⟨op,to,[],n⟩) nx vs h' K' V I'/\∀i∈E,h'[i]?=X[i]?:=by
 obtain⟨f1,f2⟩:=T.fresh
 refine(mg G (T.stb.ls.more [.row 1 []]) hok hB ⟨op,to,[],n⟩ (fp X ([]:List Int) rfl) (by simp) f2).mono λr h' ⟨e,b⟩=>⟨e,?_⟩
 obtain⟨K2,I2,a1,a2⟩:=(T.more [_]).step f1 b
 exact⟨K2,I2,a1,λi hi=>(a2 i hi).trans (List.getElem?_append_left (T.at.1 i hi).1)⟩
theorem ER(T:RS l pr L S I0 E h w nx vs X K V I){B:Nat}(hok:w.Ok B)(j o:Int)(g:Nat){gI:Int}(hg:gI=(g:Int)):
 AC Tryz.prog G bi [.ptr L 8 0 0,.p (.int .i64 j),.p (.int .i64 o),.sl X.length 1 0 0,.p (.int .i64 gI)] (X++[.row 1 []]) λr h'=>r= .ret (.tup [])/\∃K' I',RS l pr L S I0 E h (w.fin j o g []) nx vs h' K' V I'/\∀i∈E,h'[i]?=X[i]?:=by
 obtain⟨f1,f2⟩:=T.fresh
 rw[hg]
 refine(kM G (T.stb.ls.more [.row 1 []]) hok j o g [] (fp X ([]:List Int) rfl) (by simp) f2).mono λr h' ⟨e,b⟩=>⟨e,?_⟩
 obtain⟨K2,I2,a1,a2⟩:=(T.more [_]).step f1 b
 exact⟨K2,I2,a1,λi hi=>(a2 i hi).trans (List.getElem?_append_left (T.at.1 i hi).1)⟩
theorem Bw{n:Nat}(hg:X[L]?=some (.row 8 [[.p (fdL l),.p (.int .i64 pr),.p (.int .i64 n),.nils,.p (.int .i64 0),V,.p (.int .i64 nx),.nils]]))(hV:V.cells=[V]/\V.isCell=true):
 AC Tryz.prog G bG [.ptr L 8 0 0] X λr h'=>r= .ret (.p (.int .i64 0))/\∃K I,LS (lwR l pr V nx) L ⟨n,[bk0],0⟩ h' K I/\Frm [L] X h'/\∀j∈I,X.length<=j:=by
 have hLl:=(List.getElem?_eq_some_iff.1 hg).1
 obtain⟨v1,v2⟩:=hV
 have hgt:∀t,(X++t)[L]?=some (.row 8 [[.p (fdL l),.p (.int .i64 pr),.p (.int .i64 n),.nils,.p (.int .i64 0),V,.p (.int .i64 nx),.nils]]):=λt=>by rw[List.getElem?_append_left hLl];exact hg
 have hs3:∀t o,((X++t).set L o)[L]?=some o:=λt o=>List.getElem?_set_self (by simp;omega)
 refine AC.go fP ?_
 simp-implicitDefEqProofs[-AV.cells,-AV.isCell,aE,ag,ah,an,al,aD,af,am,aj,v1,v2,dr,hg,hgt, ↓hs3]
 have key:∀o1:AO,∃K I,LS (lwR l pr V nx) L ⟨n,[bk0],0⟩ ((X++[.row 2 [],.row 4 [],.row 1 [],o1,.row 5 [[.sl X.length 2 0 0,.sl (X.length+1) 4 0 0,.p (.int .i64 0),.p (.int .i64 0),.sl (X.length+2) 1 0 0]]]).set L (lwR l pr V nx ⟨n,[bk0],0⟩ (.sl (X.length+4) 5 0 1))) K I/\Frm [L] X ((X++[.row 2 [],.row 4 [],.row 1 [],o1,.row 5 [[.sl X.length 2 0 0,.sl (X.length+1) 4 0 0,.p (.int .i64 0),.p (.int .i64 0),.sl (X.length+2) 1 0 0]]]).set L (lwR l pr V nx ⟨n,[bk0],0⟩ (.sl (X.length+4) 5 0 1)))/\∀j∈I,X.length<=j:=λo1=>by
  obtain⟨H,hH⟩:∃H,H=((X++[.row 2 [],.row 4 [],.row 1 [],o1,.row 5 [[.sl X.length 2 0 0,.sl (X.length+1) 4 0 0,.p (.int .i64 0),.p (.int .i64 0),.sl (X.length+2) 1 0 0]]]).set L (lwR l pr V nx ⟨n,[bk0],0⟩ (.sl (X.length+4) 5 0 1))):=⟨_,rfl⟩
  have g:∀k,H[X.length+k]?=[AO.row 2 [],.row 4 [],.row 1 [],o1,.row 5 [[.sl X.length 2 0 0,.sl (X.length+1) 4 0 0,.p (.int .i64 0),.p (.int .i64 0),.sl (X.length+2) 1 0 0]]][k]?:=λk=>by
   rw[hH,List.getElem?_set_ne (by omega),List.getElem?_append_right (by omega)]
   rw[Nat.add_sub_cancel_left]
  rw[←hH]
  have hr:RowOwn false H (X.length+4) 5 [[.sl X.length 2 0 0,.sl (X.length+1) 4 0 0,.p (.int .i64 0),.p (.int .i64 0),.sl (X.length+2) 1 0 0]] [bk0.cs] [X.length,X.length+1,X.length+2]:=
   ⟨g 4,rfl,by simp,by simp[bk0,Bk.cs],by rw[List.flatten_singleton,List.flatten_singleton];exact zX (g 0) (g 1) (g 2),by simp⟩
  refine⟨_,_,⟨by rw[hH];exact List.getElem?_set_self (by simp;omega),hr.tree rfl,by simp;omega,λq e=>(by cases e),λkid n2 rows2 eK hg2 r hr2=>?_⟩,⟨by rw[hH];simp,λi hi hn=>?_⟩,λj hj=>?_⟩
  ·cases eK
   rw[hr.here] at hg2
   cases hg2
   rw[List.mem_singleton.1 hr2]
   intro q;simp
  ·rw[hH,List.getElem?_set_ne (λe=>hn (by simp[e])),List.getElem?_append_left hi]
  ·simp only[List.mem_cons,List.not_mem_nil,or_false] at hj
   omega
 have e:=key (.row 5 [[.sl X.length 2 0 0,.sl (X.length+1) 4 0 0,.p (.int .i64 0),.p (.int .i64 0),.sl (X.length+2) 1 0 0]])
 exact⟨ae (by omega) (by omega),e⟩
end
structure PvS where (i:Nat) (X:List AO)
theorem FT{vs:Vs}{ps:List (List UInt8)}{i:Nat}(hi:i<ps.length)(hl:vs.length=i)(h:rgV vs=scF (-1) [psS (ps.take i) [] 0]):rgV (vs++[(ps[i],i)])=scF (-1) [psS (ps.take (i+1)) [] 0]:=by
 funext t
 simp only[pV,h,DN hi,scF,uL,mM]
 by_cases hst:ps[i]=t
 ·simp[hst]
 ·simp[hst]
theorem Ha(l:List Fd)(hl:l.length<=1073741824)(k:Nat)(f:Fd)(hk:l[k]?=some f)(hz:f.sz<=16777216)(hf:∀x∈f.body,aO 4 x=true):AC Tryz.prog G gN [.agg [.p (fdL l)],.p (.int .i64 k)] [] (MkW .agg false (lwF l (-1) f).cs):=by
 have hfc:=f.cs_eq'
 have hfl:fdL l= .lst 3 (l.map Fd.cs):=rfl
 have hlk:=(List.getElem?_eq_some_iff.1 hk).1
 have hfz:f.sz=1+f.name.length+(f.params.length+(f.params.map List.length).sum)+aM f.body:=rfl
 have hst:bB f.params= .lst 1 (f.params.map λw=>[.str w]):=rfl
 have hlet:=Nat.le_trans (iE f.body) (gO f.body)
 refine AC.go yG ?_
 simp-implicitDefEqProofs[oL,hfl,hk,hfc,hst]
 rw[←hfl]
 refine(DZ G _ f.body (Nat.le_refl _) (by omega)).use ?_
 have hwl:IntKind.i64.wrap ((f.params.length:Int)+(aZ f.body:Int))=((f.params.length+aZ f.body:Nat):Int):=by rw[ae (by omega) (by omega)];omega
 simp-implicitDefEqProofs[hst,hwl]
 obtain⟨n,hn⟩:∃n:Nat,n=f.params.length+aZ f.body:=⟨_,rfl⟩
 have hnI:(f.params.length:Int)+(aZ f.body:Int)=n:=by omega
 rw[hnI]
 refine aH (λa:PvS=>aC 80 [(4,.ptr 1 3 0 0),(5,.ptr 2 3 0 0),(6,.ptr 3 8 0 0),(7,.p (.int .i64 a.i))]) (λa=>a.X)
  (λa=>a.i<=f.params.length/\4<=a.X.length/\a.X[1]?=some (.row 3 [[.p (.int .i64 0),.p (.int .i64 0),.nils]])/\a.X[2]?=some (.row 3 [[.p (.str f.name),.p (.lst 1 (f.params.map λw=>[.str w])),.p (smL f.body)]])/\∃V vs,a.X[3]?=some (.row 8 [[.p (fdL l),.p (.int .i64 f.params.length),.p (.int .i64 n),.nils,.p (.int .i64 0),V,.p (.int .i64 f.params.length),.nils]])/\VAt a.X V vs/\(∀i∈vi V,4<=i)/\vs.length=a.i/\rgV vs=scF (-1) [psS (f.params.take a.i) [] 0]) (λa=>f.params.length-a.i)
  ⟨0,[.row 1 [[.p (fdL l)]],.row 3 [[.p (.int .i64 0),.p (.int .i64 0),.nils]],.row 3 [[.p (.str f.name),.p (.lst 1 (f.params.map λw=>[.str w])),.p (smL f.body)]],.row 8 [[.p (fdL l),.p (.int .i64 f.params.length),.p (.int .i64 n),.nils,.p (.int .i64 0),.nils,.p (.int .i64 f.params.length),.nils]]]⟩ ⟨Nat.zero_le _,by simp,rfl,rfl,.nils,[],rfl,.nil,(λi hi=>by cases hi),rfl,rfl⟩ ?_ ?_
 ·exact ab (by simp) (by simp[below])
 rintro⟨i,X⟩ ⟨hi,hX4,hx1,hx2,V,vs,hx3,hV,hVi,hvl,hrg⟩
 simp only at hi hX4 hx1 hx2 hx3 hV hvl hrg
 obtain⟨v1,v2,v3⟩:=hV.is
 simp-implicitDefEqProofs[hx2]
 refine aG (λhc=>?_) (λhc=>?_)
 ·simp at hc
  have hg:=List.getElem?_eq_getElem hc
  have hrg2:=FT hc hvl hrg
  generalize f.params[i]=p at hg hrg2
  have hwi:=w1 (i:=i) (by omega)
  have hX2m:∀t,(X++t)[2]?=some (.row 3 [[.p (.str f.name),.p (.lst 1 (f.params.map λw=>[.str w])),.p (smL f.body)]]):=λt=>by rw[List.getElem?_append_left (by omega)];exact hx2
  cases hV with
  |nil=>
   have hvi:i=0:=hvl.symm
   subst hvi
   have hX3m:∀t,(X++t)[3]?=some (.row 8 [[.p (fdL l),.p (.int .i64 f.params.length),.p (.int .i64 n),.nils,.p (.int .i64 0),.nils,.p (.int .i64 f.params.length),.nils]]):=λt=>by rw[List.getElem?_append_left (by omega)];exact hx3
   simp-implicitDefEqProofs[hx2,hx3,hg,hX3m,hX2m]
   have hw11:IntKind.i64.wrap 1=1:=ae (by omega) (by omega)
   refine⟨⟨1,_⟩,⟨by simp only;omega,?_,?_,?_,.sl X.length 3 0 1,?_,[(p,0)],?_,?_,rfl,by simpa using hrg2⟩,by simp only;omega,ab ?_ ?_⟩
   rotate_left 6
   ·exact Nat.zero_le _
   ·simp[below,hw11]
    omega
   ·simp;omega
   ·rw[List.getElem?_set_ne (by omega),List.getElem?_append_left (by omega)];exact hx1
   ·rw[List.getElem?_set_ne (by omega),List.getElem?_append_left (by omega)];exact hx2
   ·exact List.getElem?_set_self (by simp;omega)
   ·exact .sl _ [md (p,0)] [(p,0)] (by rw[List.getElem?_set_ne (by omega),List.getElem?_append_right (Nat.le_refl _)];simp[md]) rfl
   ·intro j hj;rw[List.mem_singleton.1 hj];exact hX4
  |sl vid rows _ hv1 hv2=>
   have hvX:=(List.getElem?_eq_some_iff.1 hv1).1
   have hv4:=hVi vid (by simp[vi])
   have hvk:vs.length<=rows.length:=by
    have:=congrArg List.length hv2
    rw[List.length_take,List.length_map] at this
    omega
   have hX3m:∀t,(X.set vid .dead++t)[3]?=X[3]?:=λt=>by rw[List.getElem?_append_left (by simp;omega),List.getElem?_set_ne (by omega)]
   have hX2n:∀t,(X.set vid .dead++t)[2]?=X[2]?:=λt=>by rw[List.getElem?_append_left (by simp;omega),List.getElem?_set_ne (by omega)]
   simp-implicitDefEqProofs[hx2,hx3,hg,hv1,hv2, ↓hX3m, ↓hX2n,hwi]
   refine⟨⟨by omega,by omega⟩,⟨i+1,_⟩,⟨by simp only;omega,?_,?_,?_,.sl X.length 3 0 (vs.length+1),?_,vs++[(p,i)],?_,?_,by simp;omega,hrg2⟩,by simp only;omega,ab ?_ ?_⟩
   rotate_left 6
   ·exact Nat.zero_le _
   ·simp[below,hwi]
    omega
   ·simp;omega
   ·rw[List.getElem?_set_ne (by omega),List.getElem?_append_left (by simp;omega),List.getElem?_set_ne (by omega)];exact hx1
   ·rw[List.getElem?_set_ne (by omega),List.getElem?_append_left (by simp;omega),List.getElem?_set_ne (by omega)];exact hx2
   ·exact List.getElem?_set_self (by simp;omega)
   ·have hlv:(vs++[(p,i)]).length=vs.length+1:=by simp
    exact hlv▸ .sl _ (vs.map md++[md (p,i)]) (vs++[(p,i)]) (by rw[List.getElem?_set_ne (by omega),List.getElem?_append_right (by simp)];simp[md]) (by rw[List.take_of_length_le (by simp)];simp)
   ·intro j hj;rw[List.mem_singleton.1 hj];exact hX4
 ·simp at hc
  have hie:i=f.params.length:=by omega
  subst hie
  rw[List.take_length] at hrg
  simp-implicitDefEqProofs[]
  refine(Bw G hx3 ⟨v1,v2⟩).mono ?_
  rintro x X1 ⟨rfl,K1,I1,H1,hfr,hI1⟩
  have hl1:=hfr.1
  have va1:VAt X1 V vs:=hV.frame λi hi=>hfr.2 i (hV.lt i hi) (by have:=hVi i hi;simp;omega)
  have T1':=RS.of H1 va1 (λi hi=>by
   have h4:=hVi i hi
   have h5:=hV.lt i hi
   simp only[List.mem_cons,not_or]
   exact⟨by omega,λhm=>by have:=hI1 i hm;omega⟩)
  have T1:=T1'.add (j:=1) (by omega) (by
   simp only[List.mem_cons,not_or]
   exact⟨by omega,λhm=>by have:=hI1 1 hm;omega⟩) (λhm=>by have:=hVi 1 hm;omega)
  have b1:X1[1]?=some (.row 3 [[.p (.int .i64 0),.p (.int .i64 0),.nils]]):=(hfr.2 1 (by omega) (by simp)).trans hx1
  have b2:X1[2]?=some (.row 3 [[.p (.str f.name),.p (.lst 1 (f.params.map λw=>[.str w])),.p (smL f.body)]]):=(hfr.2 2 (by omega) (by simp)).trans hx2
  have ok1:(⟨n,[bk0],0⟩:Lw).Ok (f.sz+1):=⟨by show n<=_;omega,by show 1<=_;omega,λb hb=>by rw[List.mem_singleton.1 hb];show 0<=_;omega,by show 0<1;omega⟩
  simp-implicitDefEqProofs[aa,b2]
  obtain⟨y,hy⟩:∃y,y=aT (faI l) (-1) f.body (psS f.params [] 0) [] f.params.length ⟨n,[bk0],0⟩:=⟨_,rfl⟩
  have h2:=pz G (DM G l hl f.params.length 3 4 f.body hf) T1 ok1 (by omega) (by omega) (by omega) hrg
  have ok2:=dI (faI l) (-1) f.body (psS f.params [] 0) [] f.params.length ⟨n,[bk0],0⟩ _ ok1
  rw[←hy] at h2 ok2
  refine h2.mono ?_
  rintro x X2 ⟨rfl,K2,V2,I2,T2,e2⟩
  obtain⟨ok2,_,_,_⟩:=ok2
  have b1:=(e2 1 (by simp)).trans b1
  simp-implicitDefEqProofs[aa]
  refine(Gv G T2 (by have:=ok2.regs;omega)).mono ?_
  rintro x X3 ⟨rfl,K3,I3,T3,e3⟩
  have b1:=(e3 1 (by simp)).trans b1
  have ok3:=ok2.reg
  simp-implicitDefEqProofs[aa]
  refine(Hg G T3 ok3 (by omega) 1 y.2.2.regs 0).mono ?_
  rintro x X4 ⟨rfl,K4,I4,T4,e4⟩
  have b1:=(e4 1 (by simp)).trans b1
  have ok4:=ok3.put ⟨1,y.2.2.regs,[],0⟩
  simp-implicitDefEqProofs[aa]
  refine(ER G T4 ok4 3 y.2.2.regs 0 rfl).mono ?_
  rintro x X5 ⟨rfl,K5,I5,T5,e5⟩
  have b1:=(e5 1 (by simp)).trans b1
  have l5:=T5.stb.ls.here
  simp only[lwR] at l5
  obtain⟨k1,k2⟩:=jg T5.stb.ls.own
  have hs1:∀o,(X5.set 1 o)[1]?=some o:=λo=>List.getElem?_set_self (T5.at.1 1 (by simp)).1
  simp-implicitDefEqProofs[-AV.cells,-AV.isCell,aE,ag,ah,an,al,aD,af,am,aj,k1,k2,aa,l5,b1, ↓hs1]
  have hres:lwF l (-1) f=⟨f.params.length,((y.2.2.reg.put ⟨1,y.2.2.regs,[],0⟩).fin 3 y.2.2.regs 0 []).regs,((y.2.2.reg.put ⟨1,y.2.2.regs,[],0⟩).fin 3 y.2.2.regs 0 []).bs⟩:=by
   rw[lwF,←hn,←hy];rfl
  rw[hres]
  refine⟨_,I5,rfl,.p _ (λ_=>rfl) (.p _ (λ_=>rfl) (T5.stb.ls.own.frame λi hi=>List.getElem?_set_ne λe=>(T5.at.1 1 (by simp)).2 (by rw[e];exact List.mem_cons_of_mem _ hi))),(List.nodup_cons.1 T5.stb.ls.nd).2⟩
theorem Gw(l:List Fd)(hl:l.length<=1073741824)(k:Nat)(f:Fd)(hk:l[k]?=some f)(hz:f.sz<=16777216)(hf:∀x∈f.body,aO 4 x=true):VF Tryz.prog G gN [.agg [.p (fdL l)],.p (.int .i64 k)] (.agg ((lwF l (-1) f).cs.map .p)):=
 AC.mkFreeze py (Ha G l hl k f hk hz hf)
def unR(l:List Fd):List Cd:=l.map (lwF l (-1))
structure UnS where (i:Nat) (X:List AO)
theorem CY(l:List Fd)(hz:cd l<=16777216)(hf:∀f∈l,∀x∈f.body,aO 4 x=true):VF Tryz.prog G eG [.agg [.p (fdL l)]] (.agg [.p (cdL (unR l))]):=by
 have hfl:fdL l= .lst 3 (l.map Fd.cs):=rfl
 have hll:l.length<=cd l:=mW l
 have key:AC Tryz.prog G eG [.agg [.p (fdL l)]] [] λx h=>∃V,x= .ret (.agg [V])/\((V= .nils/\l=[])\/∃id,V= .sl id 3 0 l.length/\h[id]?=some (.row 3 (oV (unR l)))):=by
  refine AC.go sZ ?_
  simp-implicitDefEqProofs[lA]
  refine aH (λa:UnS=>aC 22 [(1,.ptr 0 1 0 0),(2,.ptr 1 1 0 0),(3,.ptr 2 1 0 0),(4,.p (.int .i64 a.i))]) (λa=>a.X)
   (λa=>a.i<=l.length/\3<=a.X.length/\a.X[0]?=some (.row 1 [[.p (fdL l)]])/\a.X[1]?=some (.row 1 [[.nils]])/\∃V,a.X[2]?=some (.row 1 [[V]])/\((V= .nils/\a.i=0)\/∃id,V= .sl id 3 0 a.i/\3<=id/\a.X[id]?=some (.row 3 (oV (unR l|>.take a.i))))) (λa=>l.length-a.i)
   ⟨0,[.row 1 [[.p (fdL l)]],.row 1 [[.nils]],.row 1 [[.nils]]]⟩ ⟨Nat.zero_le _,by simp,rfl,rfl,.nils,rfl,.inl ⟨rfl,rfl⟩⟩ ?_ ?_
  ·exact ab (by simp) (by simp[below])
  rintro⟨i,X⟩ ⟨hi,hX3,hx0,hx1,V,hx2,hV⟩
  simp only at hi hX3 hx0 hx1 hx2 hV
  simp-implicitDefEqProofs[hx0,hfl]
  refine aG (λhc=>?_) (λhc=>?_)
  ·simp at hc
   have hg:=List.getElem?_eq_getElem hc
   have hm:=List.getElem_mem hc
   have hfz:=mC hm
   have hcall:=Gw G l (by omega) i l[i] hg (by omega) (hf _ hm)
   have htk:(unR l).take (i+1)=(unR l).take i++[lwF l (-1) l[i]]:=by
    rw[unR,←List.map_take,←List.map_take,az hc,List.map_append];rfl
   have hcs:=(lwF l (-1) l[i]).cs_eq'
   have hlt:((unR l).take i).length=i:=by simp[unR];omega
   have hwi:=w1 (i:=i) (by omega)
   generalize lwF l (-1) l[i]=c at hcall htk hcs
   rw[hcs] at hcall
   rw[hfl] at hcall
   have hX2:∀t,(X++t)[2]?=some (.row 1 [[V]]):=λt=>by rw[List.getElem?_append_left (by omega)];exact hx2
   rcases hV with⟨rfl,rfl⟩|⟨id,rfl,hid,hxi⟩
   ·simp-implicitDefEqProofs[hx2,hx0,hfl]
    refine hcall.use ?_
    simp-implicitDefEqProofs[hx2,hX2]
    have hw11:IntKind.i64.wrap 1=1:=ae (by omega) (by omega)
    refine⟨⟨1,_⟩,⟨by simp only;omega,?_,?_,?_,.sl (X.length+1) 3 0 1,?_,.inr ⟨X.length+1,rfl,by omega,?_⟩⟩,by simp only;omega,ab ?_ ?_⟩
    rotate_left 5
    ·exact Nat.zero_le _
    ·simp[below,hw11];omega
    ·simp;omega
    ·rw[List.getElem?_set_ne (by omega),List.getElem?_append_left (by omega)];exact hx0
    ·rw[List.getElem?_set_ne (by omega),List.getElem?_append_left (by omega)];exact hx1
    ·exact List.getElem?_set_self (by simp;omega)
    ·rw[htk,List.getElem?_set_ne (by omega),List.getElem?_append_right (by omega)]
     simp[oV,hcs]
   ·have hiX:=(List.getElem?_eq_some_iff.1 hxi).1
    have hX2n:∀t u,((X++t).set id .dead++u)[2]?=X[2]?:=λt u=>by rw[List.getElem?_append_left (by simp;omega),List.getElem?_set_ne (by omega),List.getElem?_append_left (by omega)]
    have hxim:∀t,(X++t)[id]?=some (.row 3 (oV (List.take i (unR l)))):=λt=>by rw[List.getElem?_append_left hiX];exact hxi
    have htl:List.take i (oV (List.take i (unR l)))=oV (List.take i (unR l)):=List.take_of_length_le (by simp[oV];omega)
    have hcl:(oV (List.take i (unR l))).length=i:=by simp only[oV,List.length_map];exact hlt
    simp-implicitDefEqProofs[hx2,hx0,hfl]
    refine hcall.use ?_
    simp-implicitDefEqProofs[hx2,hX2,hxi,hxim, ↓hX2n,htl,hcl,hwi]
    refine⟨⟨by omega,by omega⟩,⟨i+1,_⟩,⟨by simp only;omega,?_,?_,?_,.sl (X.length+1) 3 0 (i+1),?_,.inr ⟨X.length+1,rfl,by omega,?_⟩⟩,by simp only;omega,ab ?_ ?_⟩
    rotate_left 5
    ·exact Nat.zero_le _
    ·simp[below,hwi];omega
    ·simp;omega
    ·rw[List.getElem?_set_ne (by omega),List.getElem?_append_left (by simp),List.getElem?_set_ne (by omega),List.getElem?_append_left (by omega)];exact hx0
    ·rw[List.getElem?_set_ne (by omega),List.getElem?_append_left (by simp;omega),List.getElem?_set_ne (by omega),List.getElem?_append_left (by omega)];exact hx1
    ·exact List.getElem?_set_self (by simp;omega)
    ·rw[htk,List.getElem?_set_ne (by omega),List.getElem?_append_right (by simp)]
     simp[oV,hcs]
  ·simp at hc
   have hie:i=l.length:=by omega
   subst hie
   have hx1s:∀o,(X.set 1 o)[1]?=some o:=λo=>List.getElem?_set_self (by omega)
   have hul:(unR l).take l.length=unR l:=List.take_of_length_le (by simp[unR])
   rw[hul] at hV
   rcases hV with⟨rfl,h0⟩|⟨id,rfl,hid,hxi⟩
   ·simp-implicitDefEqProofs[hx2,hx1, ↓hx1s]
    exact List.length_eq_zero_iff.1 h0
   ·simp-implicitDefEqProofs[hx2,hx1, ↓hx1s]
    rw[List.getElem?_set_ne (by omega)]
    exact hxi
 refine key.freezeR (λt v h ⟨V,e,_⟩=>by cases e) ?_
 rintro v h ⟨V,e,hV⟩
 cases e
 refine .agg ?_ .nil
 rcases hV with⟨rfl,rfl⟩|⟨id,rfl,hid⟩
 ·exact .one (View.nils 3) .nil
 ·have hh:oV (unR l)=((unR l).map Cd.cs).map (·.map .p):=by simp[oV]
  rw[hh] at hid
  have:=eS (n:=l.length) hid (by simp[unR]) (λx hx=>by obtain⟨b,_,rfl⟩:=List.mem_map.1 hx;rfl)
  exact .one this .nil
end
section
theorem zJ{d:Nat}{e:Ex}(h:bJ (d+1) e=true):(∀a∈e.kids,bJ d a=true)/\(e.op=1\/e.op=2->e.kids=[])/\(e.op=10->∃a b,e.kids=[a,b]):=by
 rw[bJ,Bool.and_eq_true] at h
 refine⟨λa ha=>List.all_eq_true.1 h.2 a ha,λho=>?_,λho=>?_⟩
 ·have h:=h.1
  simp only[ku,Bool.and_eq_true,inR,decide_eq_true_eq] at h
  obtain⟨⟨⟨⟨⟨_,h2⟩,_⟩,_⟩,_⟩,_⟩:=h
  rw[loK,if_pos ho,hiK,if_pos ho] at h2
  exact List.length_eq_zero_iff.1 (by omega)
 ·have h:=h.1
  simp only[ku,Bool.and_eq_true,inR,decide_eq_true_eq] at h
  obtain⟨⟨⟨⟨⟨_,h2⟩,_⟩,_⟩,_⟩,_⟩:=h
  rw[ho,show loK 10=2 from rfl,show hiK 10=2 from rfl] at h2
  match e.kids,h2 with
  |[a,b],_=>exact⟨a,b,rfl⟩
  |[],h=>simp at h
  |[_],h=>simp at h
  |_::_::_::r,h=>simp only[List.length_cons] at h;omega
theorem DE{d:Nat}{s:Sm}(h:aO (d+1) s=true):(∀a∈s.args,bJ 6 a=true)/\(∀x∈s.body,aO d x=true)/\(∀x∈s.els,aO d x=true)/\(s.op=6->∃a,s.args=[a])/\(¬s.op=5->s.els=[])/\(¬s.op=5->¬s.op=6->s.body=[]):=by
 rw[aO,Bool.and_eq_true,Bool.and_eq_true] at h
 obtain⟨⟨hh,hb⟩,he⟩:=h
 simp only[fc,Bool.and_eq_true,List.all_eq_true,Bool.or_eq_true,decide_eq_true_eq,List.isEmpty_iff] at hh
 refine⟨λa ha=>?_,λx hx=>List.all_eq_true.1 hb x hx,λx hx=>List.all_eq_true.1 he x hx,λh6=>?_,λh5=>?_,λh5 h6=>?_⟩
 ·have:=hh.1.1.1.2 a ha
  rw[pc,Bool.and_eq_true] at this
  exact this.1
 ·have h1:=hh.1.1.1.1.1.1.2
  rw[ju,if_neg (by omega)] at h1
  exact List.length_eq_one_iff.1 h1
 ·rcases hh.1.2 with h|h
  ·exact h
  ·exact(h5 h).elim
 ·rcases hh.2 with(h|h)|h
  ·exact h
  ·exact(h5 h).elim
  ·exact(h6 h).elim
end
section
theorem jk{s:List UInt8}(h:bY s=true):s.length<=4:=by
 simp only[bY,Bool.and_eq_true,decide_eq_true_eq] at h
 exact h.1.2
theorem ze{e:Ex}(h:ku e=true):e.name.length<=4:=by
 simp only[ku,Bool.and_eq_true] at h
 have h1:=h.1.1.1.2
 have h2:=h.1.1.2
 cases hn:zF e.op with
 |true=>
  rw[hn] at h1
  exact jk (by simpa using h1)
 |false=>
  rw[hn] at h2
  have:e.name=[]:=by simpa using h2
  rw[this];simp
theorem zT{l:List Ex}(h:∀e∈l,e.sz<=5*e.parts):aP l<=5*gW l:=by
 induction l with
 |nil=>simp[aP]
 |cons e r ih=>
  have h1:=h e (by simp)
  have h2:=ih λx hx=>h x (by simp[hx])
  simp only[aP,gW]
  omega
theorem CR:∀(d:Nat) (e:Ex),bJ d e=true->e.sz<=5*e.parts:=by
 intro d
 induction d with
 |zero=>intro e h;cases h
 |succ d ih=>
  intro e h
  have hk:=(zJ h).1
  rw[bJ,Bool.and_eq_true] at h
  have hn:=ze h.1
  have hz:=zT (l:=e.kids) λa ha=>ih a (hk a ha)
  rw[e.sz_eq,e.parts_eq]
  omega
theorem Fx{e:Ex}(h:pc e=true):e.sz<=150:=by
 simp only[pc,Bool.and_eq_true,decide_eq_true_eq] at h
 have:=CR 6 e h.1
 omega
theorem rU:∀{l:List Ex},(∀e∈l,e.sz<=150)->aP l<=150*l.length
 |[],_=>by simp[aP]
 |e::r,h=>by
  have h1:=h e (by simp)
  have h2:=rU (l:=r) λx hx=>h x (by simp[hx])
  simp only[aP,List.length_cons]
  omega
theorem Dk{s:Sm}(h:fc s=true):s.name.length<=4/\aP s.args<=300:=by
 simp only[fc,Bool.and_eq_true] at h
 have ha:=h.1.1.1.2
 have hl:=h.1.1.1.1.1.1.2
 have h1:=h.1.1.1.1.1.2
 have h2:=h.1.1.1.1.2
 refine⟨?_,?_⟩
 ·cases hn:tV s.op with
  |true=>
   rw[hn] at h1
   exact jk (by simpa using h1)
  |false=>
   rw[hn] at h2
   have:s.name=[]:=by simpa using h2
   rw[this];simp
 ·have:=rU (l:=s.args) λe he=>Fx (List.all_eq_true.1 ha e he)
  have hl2:s.args.length<=2:=by
   simp only[decide_eq_true_eq] at hl
   rw[hl,ju];split<;>omega
  omega
theorem rh{l:List Sm}(h:∀s∈l,s.sz<=305*s.cnt):aM l<=305*cr l:=by
 induction l with
 |nil=>simp[aM]
 |cons e r ih=>
  have h1:=h e (by simp)
  have h2:=ih λx hx=>h x (by simp[hx])
  simp only[aM,cr]
  omega
theorem Ee:∀(d:Nat) (s:Sm),aO d s=true->s.sz<=305*s.cnt:=by
 intro d
 induction d with
 |zero=>intro e h;cases h
 |succ d ih=>
  intro s h
  obtain⟨_,hb,he,_⟩:=DE h
  rw[aO,Bool.and_eq_true,Bool.and_eq_true] at h
  obtain⟨hn,ha⟩:=Dk h.1.1
  have h1:=rh (l:=s.body) λx hx=>ih x (hb x hx)
  have h2:=rh (l:=s.els) λx hx=>ih x (he x hx)
  rw[s.sz_eq,s.cnt_eq]
  omega
theorem Am:∀{l:List (List UInt8)},(∀w∈l,w.length<=4)->(l.map List.length).sum<=4*l.length
 |[],_=>by simp
 |w::r,h=>by
  have h1:=h w (by simp)
  have h2:=Am (l:=r) λx hx=>h x (by simp[hx])
  simp only[List.map_cons,List.sum_cons,List.length_cons]
  omega
theorem Fc{f:Fd}(h:jH f=true):f.sz<=20+305*cr f.body:=by
 simp only[jH,Bool.and_eq_true,decide_eq_true_eq,List.all_eq_true] at h
 obtain⟨⟨⟨hp,hn⟩,h3⟩,hb⟩:=h
 have h1:=jk hn
 have h2:=Am (l:=f.params) λw hw=>jk (hp w hw)
 have h4:=rh (l:=f.body) λx hx=>Ee 4 x (hb x hx)
 rw[Fd.sz]
 omega
theorem rj:∀{l:List Fd},(∀f∈l,jH f=true)->cd l<=20*l.length+305*oz l
 |[],_=>by simp[cd]
 |f::r,h=>by
  have h1:=Fc (h f (by simp))
  have h2:=rj (l:=r) λx hx=>h x (by simp[hx])
  simp only[cd,oz,List.map_cons,List.sum_cons,List.length_cons] at h2⊢
  omega
theorem uu{l:List Fd}(h:cx l=true):cd l<=12280:=by
 rw[ma] at h
 obtain⟨⟨_,h4⟩,hf,hn⟩:=h
 have:=rj hf
 omega
theorem vT{l:List Fd}(h:cx l=true):∀f∈l,∀x∈f.body,aO 4 x=true:=λf hf x hx=>by
 rw[ma] at h
 have h1:=h.2.1 f hf
 simp only[jH,Bool.and_eq_true,List.all_eq_true] at h1
 exact h1.2 x hx
def Lw.Ar(A:Nat)(w:Lw):Prop:=∀b∈w.bs,b.phis=[]/\b.next.length<=2/\∀x∈b.ins,x.args.length<=A
theorem vZ{f:Bk->Bk}{l:List Bk}{i:Nat}{b:Bk}(h:b∈modB f l i):b∈l\/∃c∈l,b=f c:=by
 unfold modB at h
 split at h
 ·rename_i c hc
  rcases List.mem_or_eq_of_mem_set h with h|h
  ·exact .inl h
  ·exact .inr ⟨c,List.mem_of_getElem? hc,h⟩
 ·exact .inl h
theorem Lw.Ar.put{A:Nat}{w:Lw}(H:w.Ar A){x:Ii}(hx:x.args.length<=A):(w.put x).Ar A:=λb hb=>by
 rcases vZ hb with h|⟨c,hc,rfl⟩
 ·exact H b h
 ·obtain⟨h1,h2,h3⟩:=H c hc
  refine⟨h1,h2,λy hy=>?_⟩
  rcases List.mem_append.1 hy with h|h
  ·exact h3 y h
  ·rw[List.mem_singleton.1 h];exact hx
theorem Lw.Ar.mk'{A:Nat}{w:Lw}(H:w.Ar A){op n:Int}{args:List Int}(hx:args.length<=A):(w.mk' op n args).Ar A:=Lw.Ar.put (w:=w.reg) H hx
theorem Lw.Ar.name{A:Nat}{w:Lw}(H:w.Ar A)(n:Nat):(w.name n).Ar A:=λb hb=>by
 rcases List.mem_append.1 hb with h|h
 ·exact H b h
 ·rw[(List.mem_replicate.1 h).2];simp[bk0]
theorem Lw.Ar.fin{A:Nat}{w:Lw}(H:w.Ar A){j o:Int}{g:Nat}{nx:List Int}(hx:nx.length<=2):(w.fin j o g nx).Ar A:=λb hb=>by
 rcases vZ hb with h|⟨c,hc,rfl⟩
 ·exact H b h
 ·obtain⟨h1,h2,h3⟩:=H c hc
  exact⟨h1,hx,h3⟩
mutual
theorem ux(fa sc:List UInt8->Int){A:Nat}(hA:1<=A):∀(e:Ex) (w:Lw),w.Ar A->e.sz<=A->(lwE fa sc e w).2.Ar A
 | .mk o n s ks,w,H,hz=>by
   simp only[Ex.sz] at hz
   have hkl:=eJ ks
   rw[lwE]
   split
   ·exact H.mk' (by simp)
   split
   ·exact H
   split
   ·exact HM fa sc hA ks w H (by omega)
   ·refine(tT fa sc hA ks w H (by omega)).mk' ?_
    rw[gb];omega
theorem HM(fa sc:List UInt8->Int){A:Nat}(hA:1<=A):∀(l:List Ex) (w:Lw),w.Ar A->aP l<=A->(lwA fa sc l w).2.Ar A
 |[],w,H,_=>by rw[lwA];exact H;intro a b h;cases h
 |[a],w,H,_=>by rw[lwA];exact H;intro a b h;cases h
 |a::b::c::r,w,H,_=>by rw[lwA];exact H;intro a b h;cases h
 |[a,b],w,H,hz=>by
  simp only[aP] at hz
  have h1:=ux fa sc hA a w H (by omega)
  rw[lwA]
  simp only
  have h2:=((h1.mk' (op:=1) (n:=0) (args:=[]) (by simp)).name 2).fin (j:=2) (o:=(lwE fa sc a w).1) (g:=((lwE fa sc a w).2.mk' 1 0 []).bs.length) (nx:=[(((lwE fa sc a w).2.mk' 1 0 []).bs.length:Int),(((lwE fa sc a w).2.mk' 1 0 []).bs.length:Int)+1]) (by simp)
  exact(((ux fa sc hA b _ h2 (by omega)).mk' (by simpa using hA)).put (by simpa using hA)).fin (by simp)
theorem tT(fa sc:List UInt8->Int){A:Nat}(hA:1<=A):∀(l:List Ex) (w:Lw),w.Ar A->aP l<=A->(br fa sc l w).2.Ar A
 |[],w,H,_=>by rw[br];exact H
 |e::r,w,H,hz=>by
  simp only[aP] at hz
  rw[br]
  exact tT fa sc hA r _ (ux fa sc hA e w H (by omega)) (by omega)
end
mutual
theorem HP(fa:List UInt8->Int)(q:Int){A:Nat}(hA:1<=A):∀(s:Sm) (m:Scp) (up:List Scp) (nx:Nat) (w:Lw),w.Ar A->s.sz<=A->(lwS fa q s m up nx w).2.2.Ar A
 | .mk o n a bd el,m,up,nx,w,H,hz=>by
   simp only[Sm.sz] at hz
   have hhd:=yn a
   have hal:=eJ a
   rw[lwS]
   simp only
   split
   ·have h1:=ux fa (scF q (m::up)) hA (a.headD (.mk 0 0 [] [])) _ ((H.name 3).fin (j:=1) (o:=0) (g:=w.bs.length) (nx:=[(w.bs.length:Int)]) (by simp)) (by omega)
    exact(mK fa q hA bd [] (m::up) nx _ (h1.fin (by simp)) (by omega)).fin (by simp)
   ·have h1:=tT fa (scF q (m::up)) hA a w H (by omega)
    have hl:(br fa (scF q (m::up)) a w).1.length<=A:=by rw[gb];omega
    split
    ·exact h1.put hl
    split
    ·exact h1.put hl
    split
    ·exact h1.put hl
    split
    ·exact h1.put hl
    split
    ·exact(mK fa q hA el [] (m::up) _ _ ((mK fa q hA bd [] (m::up) nx _ ((h1.name 3).fin (by simp)) (by omega)).fin (by simp)) (by omega)).fin (by simp)
    split
    ·exact(h1.name 1).fin (by simp)
    ·exact h1
theorem mK(fa:List UInt8->Int)(q:Int){A:Nat}(hA:1<=A):∀(l:List Sm) (m:Scp) (up:List Scp) (nx:Nat) (w:Lw),w.Ar A->aM l<=A->(aT fa q l m up nx w).2.2.Ar A
 |[],m,up,nx,w,H,_=>by rw[aT];exact H
 |s::r,m,up,nx,w,H,hz=>by
  simp only[aM] at hz
  rw[aT]
  exact mK fa q hA r _ up _ _ (HP fa q hA s m up nx w H (by omega)) (by omega)
end
theorem Gx(l:List Fd)(q:Int)(f:Fd)(hz:f.sz<=16777216):Gz 1073741824 (lwF l q f)/\0<=(lwF l q f).regs/\(lwF l q f).regs<=1073741824/\0<(lwF l q f).blocks.length:=by
 have hfz:f.sz=1+f.name.length+(f.params.length+(f.params.map List.length).sum)+aM f.body:=rfl
 have hlet:=Nat.le_trans (iE f.body) (gO f.body)
 have hok:(⟨f.params.length+aZ f.body,[bk0],0⟩:Lw).Ok (f.sz+1):=⟨by show f.params.length+aZ f.body<=_;omega,by show 1<=_;omega,λb hb=>by rw[List.mem_singleton.1 hb];show 0<=_;omega,by show 0<1;omega⟩
 have har:(⟨f.params.length+aZ f.body,[bk0],0⟩:Lw).Ar 16777217:=λb hb=>by rw[List.mem_singleton.1 hb];simp[bk0]
 obtain⟨h1,h2,_,_⟩:=dI (faI l) q f.body (psS f.params [] 0) [] f.params.length _ _ hok
 have h3:=mK (faI l) q (A:=16777217) (by omega) f.body (psS f.params [] 0) [] f.params.length _ har (by omega)
 rw[lwF]
 simp only
 generalize aT (faI l) q f.body (psS f.params [] 0) [] f.params.length _=y at*
 have k1:=(h1.mk' 1 0 []).fin 3 y.2.2.regs (g:=0) (by
  have:=h1.pos
  rw[Lw.mk'_len];omega) []
 have k3:=(h3.mk' (op:=1) (n:=0) (args:=[]) (by simp)).fin (j:=3) (o:=y.2.2.regs) (g:=0) (nx:=[]) (by simp)
 refine⟨⟨by have:=k1.bs;show((y.2.2.mk' 1 0 []).fin 3 y.2.2.regs 0 []).bs.length<=_;omega,λb hb=>?_⟩,by show(0:Int)<=((y.2.2.mk' 1 0 []).regs:Int);omega,by have:=k1.regs;show((y.2.2.mk' 1 0 []).regs:Int)<=_;have h:((y.2.2.mk' 1 0 []).fin 3 y.2.2.regs 0 []).regs=(y.2.2.mk' 1 0 []).regs:=rfl;omega,by have:=k1.pos;show 0<((y.2.2.mk' 1 0 []).fin 3 y.2.2.regs 0 []).bs.length;omega⟩
 obtain⟨a1,a2,a3⟩:=k3 b hb
 have a4:=k1.ins b hb
 exact⟨by rw[a1];simp,by omega,by omega,by rw[a1];simp,λx hx=>by have:=a3 x hx;omega⟩
theorem ty:∀{l:List Fd} {f:Fd},f∈l->f.sz<=cd l
 |x::r,f,h=>by
  simp only[cd,List.map_cons,List.sum_cons]
  rcases List.mem_cons.1 h with rfl|h
  ·omega
  ·have:=ty h
   simp only[cd] at this
   omega
theorem EZ(l:List Fd)(q:Int)(hz:cd l<=16777216)(hl:l.length<=1073741824):Ic 1073741824 (l.map (lwF l q)):=
 ⟨by rw[List.length_map];exact hl,λc hc=>by
   obtain⟨f,hf,rfl⟩:=List.mem_map.1 hc
   have:=ty hf
   exact(Gx l q f (by omega)).1⟩
end
section
variable (G:aB)
def PshF(s:Bool)(sz:Nat)(D:List (List PV))(h0:List AO)(a:PshS):Prop:=a.i<=D.length/\h0.length<=a.id/\h0.length<=a.h.length/\(∀j,j<h0.length->a.h[j]?=h0[j]?)/\∃rows J,RowOwn s a.h a.id sz rows (D.take a.i) J/\∀j∈J,h0.length<=j
theorem zm{h h2:List AO}(hl:h.length<=h2.length)(hf:∀j,j<h.length->h2[j]?=h[j]?):h2=h++h2.drop h.length:=by
 have e:h2.take h.length=h:=by
  apply List.ext_getElem?
  intro j
  by_cases hj:j<h.length
  ·rw[List.getElem?_take_of_lt hj];exact hf j hj
  ·rw[List.getElem?_eq_none (by rw[List.length_take];omega),List.getElem?_eq_none (by omega)]
 have e2:=List.take_append_drop h.length h2
 rw[e] at e2
 exact e2.symm
theorem PshF.step{s:Bool}{sz i id:Nat}{D:List (List PV)}{h0 h:List AO}(H:PshF s sz D h0 ⟨i,id,h⟩){e:List PV}(hi:D[i]?=some e){h2:List AO}(hl:h.length<=h2.length)(hf:∀j,j<h.length->h2[j]?=h[j]?){r':List AV}{I2:List Nat}(ho:OwnL s h2 r' e I2)(nd2:I2.Nodup)(hn:∀j∈I2,h.length<=j)(he:e.length=sz):
 ∃rows,(∀os,(h2++os)[id]?=some (.row sz rows))/\rows.length=i/\i<D.length/\id<h2.length/\∀os1 os2,PshF s sz D h0 ⟨i+1,(h2++os1).length,(h2++os1).set id .dead++ .row sz (rows++[r'])::os2⟩:=by
 obtain⟨h1,h3,h4,h5,rows,J,hr,hJ⟩:=H
 have hil:i<D.length:=(List.getElem?_eq_some_iff.1 hi).1
 have hlen:=hr.len
 simp only at h1 h3 h4 h5 hlen hr
 rw[List.length_take,Nat.min_eq_left h1] at hlen
 have e2:=zm hl hf
 have hid:=hr.lt
 have h2e:h2[id]?=some (.row sz rows):=by rw[hf id hid];exact hr.here
 refine⟨rows,λos=>by rw[List.getElem?_append_left (by omega)];exact h2e,hlen,hil,by omega,λos1 os2=>⟨hil,by simp only[List.length_append];omega,by simp;omega,λj hj=>?_,rows++[r'],J++I2,?_,λj hj=>?_⟩⟩
 ·simp only
  rw[List.getElem?_append_left (by simp only[List.length_set,List.length_append,List.length_cons];omega),List.getElem?_set_ne (by omega),List.getElem?_append_left (by omega),hf j (by omega)]
  exact h5 j hj
 ·have hp:=(hr.push (h2:=h2++os1) (os:=h2.drop h.length++os1) (by rw[←List.append_assoc,←e2]) (ho.more os1) nd2 hn he).more os2
  have hd:D.take i++[e]=D.take (i+1):=by rw[List.take_add_one,hi];rfl
  rw[hd,List.append_assoc] at hp
  exact hp
 ·rcases List.mem_append.1 hj with hj|hj
  ·exact hJ j hj
  ·have:=hn j hj;omega
theorem PshF.done{s:Bool}{sz i id:Nat}{D:List (List PV)}{h0 h:List AO}(H:PshF s sz D h0 ⟨i,id,h⟩)(hi:D.length<=i):h0.length<=h.length/\(∀j,j<h0.length->h[j]?=h0[j]?)/\∃I,OwnL s h [.sl id sz 0 i] [.lst sz D] I/\I.Nodup/\∀j∈I,h0.length<=j:=by
 obtain⟨h1,h3,h4,h5,rows,J,hr,hJ⟩:=H
 simp only at h1 h3 h4 h5 hr
 rw[List.take_of_length_le hi] at hr
 exact⟨h4,h5,id::J,hr.tree (by omega),hr.nd,λj hj=>by
  rcases List.mem_cons.1 hj with rfl|hj
  ·exact h3
  ·exact hJ j hj⟩
end
section
variable (G:aB)
theorem Ev{ρ:List Nat}:∀{args:List AV},au 0 args->TW ρ args args
 |[],_=>trivial
 |v::r,h=>⟨.inr ⟨(bD (Nat.zero_le _) [v] ⟨h.1,trivial⟩).1,by have:=iK ρ [v] ⟨h.1,trivial⟩;simpa[bf] using this⟩,Ev h.2⟩
theorem Jq{f:FuncId}{args:List AV}{b:List Int}{p:Nat}{Q:AV->Nat->Prop}(H:AC Tryz.prog G f (.ptr 0 2 0 0::args) [rdO b p] λx h=>∃v q,x= .ret v/\h=[rdO b q]/\Q v q)(hq:∀v q,Q v q->below 0 v){h:List AO}{k:Nat}(hk:h[k]?=some (rdO b p))(ha:au 0 args):
 AC Tryz.prog G f (.ptr k 2 0 0::args) h λx h'=>∃v q,x= .ret v/\h'=h.set k (rdO b q)/\Q v q:=by
 refine(H.frame (h:=h) (args:= .ptr k 2 0 0::args) [k] (by simp) ⟨.inr ⟨by simp[below],by simp[ren]⟩,Ev ha⟩ (gE hk (bL _ _ _) gn)).mono ?_
 rintro x h' ⟨x0,h0,⟨v,q,rfl,rfl,r⟩,hl,rfl,rfl⟩
 refine⟨v,q,?_,?_,r⟩
 ·simp only[zG]
  have:=iK ([k]++List.range' h.length ([rdO b q].length-[rdO b p].length)) [v] ⟨hq v q r,trivial⟩
  simpa[bf] using this
 ·have hp2:∀σ,dU σ (rdO b q)=rdO b q:=λσ=>by simp[rdO,dU,bf,ren]
  simp[mrg,hp2]
theorem yK{l:List Int}(h:Byt l)(n:Nat):Byt (l.take n):=λx hx=>h x (List.mem_of_mem_take hx)
theorem DD{f:FuncId}{args:List AV}{R:ARes->Prop}(H:AC Tryz.prog G f args [] λx _=>R x)(hR:∀x,R x->∃v,x= .ret v/\below 0 v)(ha:au 0 args)(h:List AO):AC Tryz.prog G f args h λx h'=>R x/\h'=h:=by
 have H2:AC Tryz.prog G f args [] λx h'=>R x/\h'=[]:=by
  refine H.wk (λt v h' r=>by obtain⟨_,e,_⟩:=hR _ r;cases e) λv h' r=>?_
  obtain⟨v',e,hv⟩:=hR _ r
  cases e
  exact⟨v,[],CS rfl ⟨.inr ⟨hv,rfl⟩,trivial⟩,r,rfl⟩
 refine(H2.pre h ha (λo ho=>by cases ho) (λx h' r=>by rw[r.2])).mono ?_
 rintro x h' ⟨h1,⟨r,rfl⟩,rfl⟩
 exact⟨r,rfl⟩
variable (hK:G zN=some zQ) (hS:G vg=some [.tbl opK opV])
include hK hS
end
section
theorem Ke{u:List Cd}(h:unB u=true):GU u:=by
 simp only[unB,Bool.and_eq_true,decide_eq_true_eq] at h
 obtain⟨⟨h1,h2⟩,_⟩:=h
 simp only[inR,Bool.and_eq_true,decide_eq_true_eq] at h1
 refine⟨⟨λe=>by rw[e] at h1;simp at h1,by omega⟩,λc hc=>?_⟩
 obtain⟨i,hi⟩:=List.getElem?_of_mem hc
 have h3:=allI_iff.1 h2 i c hi
 simp only[cdB,Bool.and_eq_true,inR,decide_eq_true_eq] at h3
 obtain⟨⟨⟨_,_⟩,h4⟩,h5⟩:=h3
 refine⟨by omega,by omega,λx hx=>?_⟩
 obtain⟨j,hj⟩:=List.getElem?_of_mem hx
 have h6:=allI_iff.1 h5 j x hj
 simp only[bkB,Bool.and_eq_true] at h6
 have h7:=h6.1.1.1.1
 rw[decide_eq_true_eq] at h7
 have h8:nxN x.jump<=2:=by
  unfold nxN
  split
  ·decide
  ·split
   ·decide
   ·split<;>decide
 omega
variable (G:aB)
theorem Bo{b:List Int}(hb:Byt b)(hl:b.length<=2000){p:Nat}(hp:p<=9000000000):AC Tryz.prog G fH [.ptr 0 2 0 0] [rdO b p] λx h=>∃v q,x= .ret v/\h=[rdO b q]/\(∃cs,v= .agg [.p (cdL cs)]/\GU cs)/\p<=q/\q<=p+200010000:=by
 refine gy G (AC.go rL ?_)
 obtain⟨p1,hp1⟩:∃p1,p1=p+1:=⟨_,rfl⟩
 have hprog:AC Tryz.prog G eB [.ptr 0 2 0 0] [rdO b p1] λx h=>∃v q,x= .ret v/\h=[rdO b q]/\((∃l:List Fd,v= .agg [.p (fdL l)]/\cx l=true)/\p1<=q/\q<=p1+200000000):=
  (Hn G hb hl (by omega)).mono λx h ⟨l,q,e1,e2,e3,e4,e5,e6⟩=>⟨_,q,e1,e2,⟨l,rfl,e3⟩,e5,e6⟩
 simp-implicitDefEqProofs[kz]
 refine(aI G b hb hl p (by omega) 2 _).mono ?_
 rintro r h ⟨k1,rfl,rfl,_⟩
 rw[←hp1]
 simp-implicitDefEqProofs[aa]
 have alt:∀(rest:List AO) (q:Nat),p<=q->q<=p+200000001->AC Tryz.prog G cW [.ptr 0 2 0 0] (rdO b q::rest) λx h=>∃v q2,x= .ret v/\h=rdO b q2::rest/\(∃cs,v= .agg [.p (cdL cs)]/\SmU cs)/\q<=q2/\q2<=q+4000:=λrest q _ _=>iD G (vG G hb hl (p:=q) (by omega)) rest (by simp[below])
 refine aG (λhc=>?_) (λhc=>?_)
 ·simp-implicitDefEqProofs[]
  refine(iD G hprog _ (by simp[below])).mono ?_
  rintro r h ⟨v,q,rfl,rfl,⟨l,rfl,hok⟩,h1,h2⟩
  have hz:=uu hok
  have hll:l.length<=4:=((ma l).1 hok).1.2
  simp-implicitDefEqProofs[aa]
  refine(CY G l (by omega) (vT hok)).use ?_
  have hu:=vM G (unR l) (EZ l (-1) (by omega) (by omega))
  simp-implicitDefEqProofs[]
  refine hu.use ?_
  simp-implicitDefEqProofs[]
  refine aG (λhv=>?_) (λhv=>?_)
  ·simp-implicitDefEqProofs[]
   exact⟨_,_,q,.agg [.p (cdL (unR l))],rfl,rfl,.keep (by simp) .nil,⟨_,rfl,Ke hv⟩,by omega,by omega⟩
  ·simp-implicitDefEqProofs[]
   refine(alt _ q (by omega) (by omega)).mono ?_
   rintro r h ⟨v,q2,rfl,rfl,⟨cs,rfl,hs⟩,h3,h4⟩
   simp-implicitDefEqProofs[aa]
   exact⟨_,_,q2,.agg [.p (cdL cs)],rfl,rfl,.keep (by simp) .nil,⟨cs,rfl,⟨hs.1,by have:=hs.2.1;omega⟩,λc hc=>(hs.2.2 c hc).g⟩,by omega,by omega⟩
 ·simp-implicitDefEqProofs[]
  refine(alt _ p1 (by omega) (by omega)).mono ?_
  rintro r h ⟨v,q2,rfl,rfl,⟨cs,rfl,hs⟩,h3,h4⟩
  simp-implicitDefEqProofs[aa]
  exact⟨_,_,q2,.agg [.p (cdL cs)],rfl,rfl,.keep (by simp) .nil,⟨cs,rfl,⟨hs.1,by have:=hs.2.1;omega⟩,λc hc=>(hs.2.2 c hc).g⟩,by omega,by omega⟩
theorem BY{b:List Int}(hb:Byt b)(hl:b.length<=2000){p:Nat}(hp:p<=8000000000):AC Tryz.prog G gg [.ptr 0 2 0 0] [rdO b p] λx h=>∃v q,x= .ret v/\h=[rdO b q]/\(∃cs,v= .agg [.p (cdL cs)]/\GU cs)/\p<=q/\q<=p+200020000:=by
 refine gy G (AC.go pU ?_)
 obtain⟨p1,hp1⟩:∃p1,p1=p+1:=⟨_,rfl⟩
 simp-implicitDefEqProofs[kI]
 refine(aI G b hb hl p (by omega) 12 _).mono ?_
 rintro r h ⟨k1,rfl,rfl,_⟩
 rw[←hp1]
 simp-implicitDefEqProofs[aa]
 refine aG (λhc=>?_) (λhc=>?_)
 ·simp-implicitDefEqProofs[]
  refine(iD G (Es G hb hl (p:=p1) (by omega)) _ (by simp[below])).mono ?_
  rintro r h ⟨v,q,rfl,rfl,⟨cs,rfl,hs⟩,h1,h2⟩
  simp-implicitDefEqProofs[aa]
  exact⟨_,_,q,.agg [.p (cdL cs)],rfl,rfl,.keep (by simp) .nil,⟨cs,rfl,hs⟩,by omega,by omega⟩
 ·simp-implicitDefEqProofs[]
  refine(iD G (Bo G hb hl (p:=p1) (by omega)) _ (by simp[below])).mono ?_
  rintro r h ⟨v,q,rfl,rfl,⟨cs,rfl,hs⟩,h1,h2⟩
  simp-implicitDefEqProofs[aa]
  exact⟨_,_,q,.agg [.p (cdL cs)],rfl,rfl,.keep (by simp) .nil,⟨cs,rfl,hs⟩,by omega,by omega⟩
def CdQ(p n:Nat)(v:AV)(q:Nat):Prop:=(∃c:Cd,v= .agg (c.cs.map .p)/\GCd c)/\p<=q/\q<=p+n
theorem tg{b:List Int}(hb:Byt b)(hl:b.length<=2000){p:Nat}(hp:p<=7000000000):AC Tryz.prog G dF [.ptr 0 2 0 0] [rdO b p] λx h=>∃v q,x= .ret v/\h=[rdO b q]/\CdQ p 200020000 v q:=by
 refine gy G (AC.go ro ?_)
 simp-implicitDefEqProofs[ka]
 refine(iD G (BY G hb hl (p:=p) (by omega)) _ (by simp[below])).mono ?_
 rintro r h ⟨v,q,rfl,rfl,⟨cs,rfl,hs⟩,h1,h2⟩
 have hcl:cdL cs= .lst 3 (cs.map Cd.cs):=rfl
 have hpos:=List.length_pos_iff.2 hs.1.1
 obtain⟨m,hm⟩:∃m,cs.length=m+1:=⟨cs.length-1,by omega⟩
 have hm4:=hs.1.2
 have hw:IntKind.i64.wrap (m:Int)=(m:Int):=ae (by omega) (by omega)
 have hg:cs[m]?=some cs[m]:=List.getElem?_eq_getElem (by omega)
 have hgc:=hs.2 _ (List.mem_of_getElem? hg)
 generalize cs[m]=c at hg hgc
 have hge:=λhh=>ep hg hh
 have hcc:=c.cs_eq2
 simp-implicitDefEqProofs[aa,hcl,hm,hw,hg,hge,hcc]
 exact⟨_,_,q,.agg (c.cs.map .p),rfl,rfl,.keep (by simp[hcc]) .nil,⟨c,rfl,hgc⟩,h1,h2⟩
def DrC(x:ARes):Prop:=∃c:Cd,x= .ret (.agg (c.cs.map .p))/\GCd c
theorem Dq(x:ARes)(h:DrC x):∃v,x= .ret v/\below 0 v:=by
 obtain⟨c,rfl,_⟩:=h
 exact⟨_,rfl,by simp[below,c.cs_eq2]⟩
theorem DT(n:Nat)(b:List Int)(q:Nat):cb n (rdO b q)=rdO b q:=by simp[rdO,cb,cn,bl]
end
section
theorem GCd.csm{c:Cd}(h:GCd c):CSm c:=by
 obtain⟨_,h2,h3⟩:=h
 refine⟨⟨by omega,λx hx=>by have:=h3 x hx;omega⟩,?_⟩
 have key:∀l:List Bk,(∀x∈l,x.next.length<=2)->(l.map λx=>x.next.length).sum<=2*l.length:=by
  intro l
  induction l with
  |nil=>intro _;simp
  |cons a r ih=>
   intro h
   have h1:=h a (by simp)
   have h2:=ih λx hx=>h x (by simp[hx])
   simp only[List.map_cons,List.sum_cons,List.length_cons]
   omega
 have:=key _ h3
 omega
variable (G:aB)
end
section
def Out(h:List AO)(V:AV)(L:List Int):Prop:=(V= .nils/\L=[])\/∃id,V= .sl id 1 0 L.length/\h[id]?=some (.row 1 (aq L))
theorem Out.view{h:List AO}{V:AV}{L:List Int}(o:Out h V L):View h V (ay L):=by
 rcases o with⟨rfl,rfl⟩|⟨id,rfl,e⟩
 ·exact .nils 1
 ·exact cN e
theorem Out.app{h:List AO}{V:AV}{L:List Int}(o:Out h V L)(t:List AO):Out (h++t) V L:=by
 rcases o with h1|⟨id,h1,h2⟩
 ·exact .inl h1
 ·exact .inr ⟨id,h1,by rw[List.getElem?_append_left (List.getElem?_eq_some_iff.1 h2).1];exact h2⟩
theorem Out.below{h:List AO}{V:AV}{L:List Int}(o:Out h V L):Aw.below h.length V:=by
 rcases o with⟨rfl,_⟩|⟨id,rfl,h2⟩
 ·simp[Aw.below]
 ·simp only[Aw.below];exact(List.getElem?_eq_some_iff.1 h2).1
variable (G:aB)
theorem nL{p:Nat->Bool}:∀{n:Nat},(∀i,i<n->p i=false)->bv p n=[]
 |0,_=>rfl
 |n+1,h=>by rw[Cj,nL (λi hi=>h i (by omega)),h n (by omega)];rfl
end
section
variable (G:aB)
theorem EQ(code:List Int)(hb:Byt code):AC Tryz.prog G gi [.p (mU code)] [] λx _=>DrC x:=by
 refine AC.go lH ?_
 simp-implicitDefEqProofs[fO]
 refine(AC.lift (Dx G code) (by simp) rfl rfl).mono ?_
 rintro r h ⟨rfl,rfl⟩
 have hbt:=yK hb 2000
 have hbl:(code.take 2000).length<=2000:=by rw[List.length_take];omega
 generalize code.take 2000=b at hbt hbl
 simp-implicitDefEqProofs[aa,bl,DT]
 refine(Jq G (tg G hbt hbl (p:=0) (by omega)) (λv q ⟨⟨c,e,_⟩,_⟩=>by rw[e];simp[below,c.cs_eq2]) (h:=[.row 3 [[.p (.int .i64 0),.p (.int .i64 0),.nils]],rdO b 0]) (k:=1) rfl trivial).mono ?_
 rintro r h ⟨v,q,rfl,rfl,⟨c,rfl,hg⟩,_⟩
 have hcc:=c.cs_eq2
 simp-implicitDefEqProofs[aa,hcc]
 exact⟨c,rfl,hg⟩
theorem pk(code:List Int)(hb:Byt code):AC Tryz.prog G cH [.p (mU code)] [] λx _=>DrC x:=by
 refine AC.go kr ?_
 simp-implicitDefEqProofs[eP]
 refine(AC.lift (Dx G code) (by simp) rfl rfl).mono ?_
 rintro r h ⟨rfl,rfl⟩
 have hbt:=yK hb 2000
 have hbl:(code.take 2000).length<=2000:=by rw[List.length_take];omega
 generalize code.take 2000=b at hbt hbl
 simp-implicitDefEqProofs[aa,bl,DT]
 refine(Jq G (tg G hbt hbl (p:=0) (by omega)) (λv q ⟨⟨c,e,_⟩,_⟩=>by rw[e];simp[below,c.cs_eq2]) (h:=[.row 3 [[.p (.int .i64 0),.p (.int .i64 0),.nils]],rdO b 0]) (k:=1) rfl trivial).mono ?_
 rintro r h ⟨v,q,rfl,rfl,⟨c,rfl,hg⟩,_⟩
 have hcc:=c.cs_eq2
 simp-implicitDefEqProofs[aa,hcc]
 exact⟨c,rfl,hg⟩
end
end Go.Proofs.YtdfplkcigiblcaaGreat
namespace Go.Proofs.YtdfplkcigiblcaaGreat
open Go
def lays189_ren:Go.Shelf.Ren:=⟨λ|125=>123|128=>138|129=>139|189=>101|215=>151|216=>135|257=>122|294=>129|295=>130|296=>131|297=>132|298=>133|299=>134|300=>136|301=>137|328=>146|329=>147|330=>148|331=>149|332=>150|343=>167|n=>n,λ|0=>0|3=>3|4=>4|5=>5|9=>9|28=>30|46=>101|51=>124|53=>126|131=>121|182=>116|183=>117|218=>145|222=>149|228=>171|229=>172|n=>n,λn=>n⟩
theorem tX:Lays.n189 Tryz.prog lays189_ren where
 mixed:=by kernel_rfl
 f125:=Tryz.func123.trans (congrArg some (by kernel_rfl))
 f128:=Tryz.func138.trans (congrArg some (by kernel_rfl))
 f129:=Tryz.func139.trans (congrArg some (by kernel_rfl))
 f189:=Tryz.func101.trans (congrArg some (by kernel_rfl))
 f215:=Tryz.func151.trans (congrArg some (by kernel_rfl))
 f216:=Tryz.func135.trans (congrArg some (by kernel_rfl))
 f257:=Tryz.func122.trans (congrArg some (by kernel_rfl))
 f294:=Tryz.func129.trans (congrArg some (by kernel_rfl))
 f295:=Tryz.func130.trans (congrArg some (by kernel_rfl))
 f296:=Tryz.func131.trans (congrArg some (by kernel_rfl))
 f297:=Tryz.func132.trans (congrArg some (by kernel_rfl))
 f298:=Tryz.func133.trans (congrArg some (by kernel_rfl))
 f299:=Tryz.func134.trans (congrArg some (by kernel_rfl))
 f300:=Tryz.func136.trans (congrArg some (by kernel_rfl))
 f301:=Tryz.func137.trans (congrArg some (by kernel_rfl))
 f328:=Tryz.func146.trans (congrArg some (by kernel_rfl))
 f329:=Tryz.func147.trans (congrArg some (by kernel_rfl))
 f330:=Tryz.func148.trans (congrArg some (by kernel_rfl))
 f331:=Tryz.func149.trans (congrArg some (by kernel_rfl))
 f332:=Tryz.func150.trans (congrArg some (by kernel_rfl))
 f343:=Tryz.func167.trans (congrArg some (by kernel_rfl))
 t0:=Tryz.underlying0
 a0:=Tryz.isAgg0
 z0:=Tryz.sizeOf0
 v0:=Tryz.zeroValue0
 t3:=Tryz.underlying3
 a3:=Tryz.isAgg3
 z3:=Tryz.sizeOf3
 v3:=Tryz.zeroValue3
 t4:=Tryz.underlying4
 a4:=Tryz.isAgg4
 z4:=Tryz.sizeOf4
 v4:=Tryz.zeroValue4
 t5:=Tryz.underlying5
 a5:=Tryz.isAgg5
 z5:=Tryz.sizeOf5
 v5:=Tryz.zeroValue5
 t9:=Tryz.underlying9
 a9:=Tryz.isAgg9
 z9:=Tryz.sizeOf9
 v9:=Tryz.zeroValue9
 t28:=Tryz.underlying30
 a28:=Tryz.isAgg30
 z28:=Tryz.sizeOf30
 v28:=Tryz.zeroValue30
 t46:=Tryz.underlying101
 a46:=Tryz.isAgg101
 z46:=Tryz.sizeOf101
 v46:=Tryz.zeroValue101
 t51:=Tryz.underlying124
 a51:=Tryz.isAgg124
 z51:=Tryz.sizeOf124
 v51:=Tryz.zeroValue124
 t53:=Tryz.underlying126
 a53:=Tryz.isAgg126
 z53:=Tryz.sizeOf126
 v53:=Tryz.zeroValue126
 t131:=Tryz.underlying121
 a131:=Tryz.isAgg121
 z131:=Tryz.sizeOf121
 v131:=Tryz.zeroValue121
 t182:=Tryz.underlying116
 a182:=Tryz.isAgg116
 z182:=Tryz.sizeOf116
 v182:=Tryz.zeroValue116
 t183:=Tryz.underlying117
 a183:=Tryz.isAgg117
 z183:=Tryz.sizeOf117
 v183:=Tryz.zeroValue117
 t218:=Tryz.underlying145
 a218:=Tryz.isAgg145
 z218:=Tryz.sizeOf145
 v218:=Tryz.zeroValue145
 t222:=Tryz.underlying149
 a222:=Tryz.isAgg149
 z222:=Tryz.sizeOf149
 v222:=Tryz.zeroValue149
 t228:=Tryz.underlying171
 a228:=Tryz.isAgg171
 z228:=Tryz.sizeOf171
 v228:=Tryz.zeroValue171
 t229:=Tryz.underlying172
 a229:=Tryz.isAgg172
 z229:=Tryz.sizeOf172
 v229:=Tryz.zeroValue172
def lays20_ren:Go.Shelf.Ren:=⟨λ|20=>102|n=>n,λ|0=>0|3=>3|4=>4|22=>30|n=>n,λn=>n⟩
theorem zj:Lays2.n20 Tryz.prog lays20_ren where
 mixed:=by kernel_rfl
 f20:=Tryz.func102.trans (congrArg some (by kernel_rfl))
 t0:=Tryz.underlying0
 a0:=Tryz.isAgg0
 z0:=Tryz.sizeOf0
 v0:=Tryz.zeroValue0
 t3:=Tryz.underlying3
 a3:=Tryz.isAgg3
 z3:=Tryz.sizeOf3
 v3:=Tryz.zeroValue3
 t4:=Tryz.underlying4
 a4:=Tryz.isAgg4
 z4:=Tryz.sizeOf4
 v4:=Tryz.zeroValue4
 t22:=Tryz.underlying30
 a22:=Tryz.isAgg30
 z22:=Tryz.sizeOf30
 v22:=Tryz.zeroValue30
 i3:=by kernel_rfl
end Go.Proofs.YtdfplkcigiblcaaGreat
namespace Go.Proofs.YtdfplkcigiblcaaGreat
open Go Go.Aw
set_option maxRecDepth 100000
set_option maxHeartbeats 4000000
section
structure VH (c:Cd) (X:List AO) (seen:List Bool) (out:List Nat):Prop where
 len:5<=X.length
 code:X[0]?=some (.row 3 [[.p (.int .i64 c.params),.p (.int .i64 c.regs),.p (bkL c.blocks)]])
 se:X[2]?=some (.row 1 (dW seen))
 sb:X[3]?=some (.row 1 [[.sl 2 1 0 c.blocks.length]])
 fn:X[4]?=some (.row 1 [[.fn (.func cq) [.ptr 3 1 0 0,.ptr 0 3 0 0,.ptr 4 1 0 0,.ptr 1 1 0 0]]])
 ou:∃V,X[1]?=some (.row 1 [[V]])/\((V= .nils/\out=[])\/∃id,5<=id/\V= .sl id 1 0 out.length/\X[id]?=some (.row 1 (aq (aF out))))
 sl:seen.length=c.blocks.length
structure VsS where (i:Nat) (X:List AO)
variable (G:aB)
theorem yW(c:Cd)(hc:CBd c)(hfit:bF c.blocks=true):∀(f:Nat) (X:List AO) (b:Nat) (seen:List Bool) (out:List Nat),b<c.blocks.length->sn seen b=false->fls seen<=f->VH c X seen out->out.length+fls seen<=1073741824->
 AC Tryz.prog G cq [.p (.int .i64 b),.ptr 3 1 0 0,.ptr 0 3 0 0,.ptr 4 1 0 0,.ptr 1 1 0 0] X λx X'=>x= .ret (.tup [])/\X.length<=X'.length/\VH c X' (dfs (nxC c.blocks) f (seen,out) b).1 (dfs (nxC c.blocks) f (seen,out) b).2:=by
 intro f
 induction f with
 |zero=>
  intro X b seen out hb hsb hf
  have:=fq hsb
  omega
 |succ f ih=>
  intro X b seen out hb hsb hf hX hsz
  have hsl:=hX.sl
  have hbl:bkL c.blocks= .lst 5 (c.blocks.map Bk.cs):=rfl
  have hl1:=hc.1
  have hgb:=List.getElem?_eq_getElem hb
  have hmb:=List.getElem_mem hb
  generalize c.blocks[b]=x at hgb hmb
  have hnx:=hc.2 _ hmb
  have hxs:=x.cs_eq2
  have hnl:ay x.next= .lst 1 (x.next.map λn=>[.int .i64 n]):=rfl
  have hset:=fq hsb
  have hD0:∀i,(bV (nxC c.blocks) f (seen.set b true,out) ((nxC c.blocks b).take i)).2.length+fls (bV (nxC c.blocks) f (seen.set b true,out) ((nxC c.blocks b).take i)).1+1=out.length+fls seen/\(bV (nxC c.blocks) f (seen.set b true,out) ((nxC c.blocks b).take i)).1.length=seen.length/\fls (bV (nxC c.blocks) f (seen.set b true,out) ((nxC c.blocks b).take i)).1<=f:=λi=>by
   have:=(tY (nxC c.blocks) f).1 ((nxC c.blocks b).take i) (seen.set b true,out) (by simp only;omega)
   simp only[List.length_set] at this
   omega
  obtain⟨D,hD⟩:∃D:Nat->List Bool × List Nat,D=λi=>bV (nxC c.blocks) f (seen.set b true,out) ((nxC c.blocks b).take i):=⟨_,rfl⟩
  have hDz:D 0=(seen.set b true,out):=by rw[hD];rfl
  have hDs:∀(i:Nat) (m:Nat),(nxC c.blocks b)[i]?=some m->D (i+1)=if sn (D i).1 m then D i else dfs (nxC c.blocks) f (D i) m:=λi m h=>by
   rw[hD];exact ti h
  have hDe:dfs (nxC c.blocks) (f+1) (seen,out) b=((D x.next.length).1,(D x.next.length).2++[b]):=by
   rw[jM,hD]
   have:(nxC c.blocks b).take x.next.length=nxC c.blocks b:=by rw[iP hgb,List.take_of_length_le (by simp)]
   simp only[this]
  have hD1:∀i,(D i).2.length+fls (D i).1+1=out.length+fls seen/\(D i).1.length=seen.length/\fls (D i).1<=f:=λi=>by rw[hD];exact hD0 i
  clear hD0 hD
  have hXl:=hX.len
  have hrow:(dW seen)[b]?=some [.p (.bool false)]:=by rw[←hsb];exact mr (nW (by omega))
  refine AC.go oX ?_
  have e0:∀t,(X.set 2 t)[0]?=some (.row 3 [[.p (.int .i64 c.params),.p (.int .i64 c.regs),.p (bkL c.blocks)]]):=λt=>by rw[List.getElem?_set_ne (by omega)];exact hX.code
  simp-implicitDefEqProofs[jv,hX.sb,hX.se,hrow,vJ,e0,hbl,hgb,hxs,hnl]
  refine⟨hb,?_⟩
  have hVz:VH c (X.set 2 (.row 1 (dW (seen.set b true)))) (D 0).1 (D 0).2:=by
   rw[hDz]
   refine⟨by simp;omega,e0 _,by rw[List.getElem?_set_self (by omega)],by rw[List.getElem?_set_ne (by omega)];exact hX.sb,by rw[List.getElem?_set_ne (by omega)];exact hX.fn,?_,by rw[List.length_set];exact hsl⟩
   obtain⟨V,h1,h2⟩:=hX.ou
   refine⟨V,by rw[List.getElem?_set_ne (by omega)];exact h1,h2.imp id λ⟨id,a1,a2,a3⟩=>⟨id,a1,a2,by rw[List.getElem?_set_ne (by omega)];exact a3⟩⟩
  have hlz:X.length<=(X.set 2 (.row 1 (dW (seen.set b true)))).length:=by simp
  generalize X.set 2 (.row 1 (dW (seen.set b true)))=X0 at hVz hlz
  refine aH (λa:VsS=>aC 35 [(18,.p (.int .i64 a.i)),(17,.p (.int .i64 x.next.length)),(16,.p (.lst 1 (x.next.map λn=>[.int .i64 n]))),(0,.p (.int .i64 b)),(1,.ptr 3 1 0 0),(2,.ptr 0 3 0 0),(3,.ptr 4 1 0 0),(4,.ptr 1 1 0 0)]) (λa=>a.X)
   (λa=>a.i<=x.next.length/\X.length<=a.X.length/\VH c a.X (D a.i).1 (D a.i).2) (λa=>x.next.length-a.i) ⟨0,X0⟩ ⟨Nat.zero_le _,hlz,hVz⟩ (ab hlz (by have:=hVz.len;simp[below];omega)) ?_
  clear hVz hlz X0 e0
  rintro⟨i,Y⟩ ⟨hi,hYl,hY⟩
  simp only at hi hYl hY
  have hY5:=hY.len
  simp-implicitDefEqProofs[]
  refine aG (λhc1=>?_) (λhc1=>?_)
  ·simp at hc1
   have hg2:=List.getElem?_eq_getElem hc1
   generalize x.next[i]=r at hg2
   have hr:=js hfit hgb (List.mem_of_getElem? hg2)
   have hrn:((r.toNat:Nat):Int)=r:=by omega
   have hDn:=hDs i r.toNat (Ae hgb hg2)
   generalize hm:r.toNat=m at hrn hDn
   subst hrn
   have hml:m<c.blocks.length:=by omega
   have⟨q1,q2,q3⟩:=hD1 i
   have hrw:(dW (D i).1)[m]?=some [.p (.bool (sn (D i).1 m))]:=mr (nW (by omega))
   have hw1:=w1 (i:=i) (by omega)
   simp-implicitDefEqProofs[hg2,hY.sb,hY.se,hrw,hml]
   refine aG (λhe=>?_) (λhe=>?_)
   ·have he:sn (D i).1 m=false:=by simpa using he
    simp only[he,Bool.false_eq_true,if_false] at hDn
    have hcall:=ih Y m (D i).1 (D i).2 hml he q3 hY (by omega)
    simp-implicitDefEqProofs[hY.fn]
    refine hcall.mono ?_
    rintro rr Z ⟨rfl,z1,z2⟩
    rw[show((D i).1,(D i).2)=D i from rfl,←hDn] at z2
    simp-implicitDefEqProofs[aa]
    exact⟨⟨i+1,Z⟩,⟨by simp only;omega,by simp only;omega,z2⟩,by simp only;omega,ab (by omega) (by have:=z2.len;simp[below,hw1];omega)⟩
   ·have he:sn (D i).1 m=true:=by simpa using he
    simp only[he,if_true] at hDn
    simp-implicitDefEqProofs[]
    exact⟨⟨i+1,Y⟩,⟨by simp only;omega,hYl,by simp only[hDn];exact hY⟩,by simp only;omega,ab (by omega) (by simp[below,hw1];omega)⟩
  ·simp at hc1
   have hie:i=x.next.length:=by omega
   subst hie
   rw[hDe]
   have⟨q1,q2,q3⟩:=hD1 x.next.length
   generalize D x.next.length=Z at*
   obtain⟨V,v1,v2⟩:=hY.ou
   have v1':∀t,(Y++t)[1]?=some (.row 1 [[V]]):=λt=>by rw[List.getElem?_append_left (by omega)];exact v1
   have v1e:=λt hh=>JH (v1' t) hh
   rcases v2 with⟨rfl,hn⟩|⟨id,hid,rfl,v3⟩
   ·simp-implicitDefEqProofs[v1,v1',v1e]
    refine⟨by omega,by simp;omega,?_,?_,?_,?_,⟨.sl (Y.length+1) 1 0 1,?_,.inr ⟨Y.length+1,by omega,by rw[hn];rfl,?_⟩⟩,by rw[q2];exact hsl⟩
    ·rw[List.getElem?_set_ne (by omega),List.getElem?_append_left (by omega)];exact hY.code
    ·rw[List.getElem?_set_ne (by omega),List.getElem?_append_left (by omega)];exact hY.se
    ·rw[List.getElem?_set_ne (by omega),List.getElem?_append_left (by omega)];exact hY.sb
    ·rw[List.getElem?_set_ne (by omega),List.getElem?_append_left (by omega)];exact hY.fn
    ·rw[List.getElem?_set_self (by simp)]
    ·rw[List.getElem?_set_ne (by omega),List.getElem?_append_right (by omega),hn];simp[aq,aF]
   ·have hol:=(List.getElem?_eq_some_iff.1 v3).1
    have htl:List.take Z.2.length (aq (aF Z.2))=aq (aF Z.2):=List.take_of_length_le (by simp[aq,aF])
    have hrl:(aq (aF Z.2)).length=Z.2.length:=by simp[aq,aF]
    have hxm:∀t,(Y++t)[id]?=some (.row 1 (aq (aF Z.2))):=λt=>by rw[List.getElem?_append_left hol];exact v3
    have v4:∀t t',((Y++t).set id .dead++t')[1]?=some (.row 1 [[.sl id 1 0 Z.2.length]]):=λt t'=>by
     rw[List.getElem?_append_left (by simp;omega),List.getElem?_set_ne (by omega)];exact v1' t
    have v4e:=λt t' hh=>JH (v4 t t') hh
    simp-implicitDefEqProofs[v1,v1',v1e,hxm,htl,hrl,v4,v4e]
    refine⟨⟨by omega,by omega⟩,by omega,by simp;omega,?_,?_,?_,?_,⟨.sl (Y.length+1) 1 0 (Z.2.length+1),?_,.inr ⟨Y.length+1,by omega,by simp,?_⟩⟩,by rw[q2];exact hsl⟩
    ·rw[List.getElem?_set_ne (by omega),List.getElem?_append_left (by simp<;>omega),List.getElem?_set_ne (by omega),List.getElem?_append_left (by omega)];exact hY.code
    ·rw[List.getElem?_set_ne (by omega),List.getElem?_append_left (by simp;omega),List.getElem?_set_ne (by omega),List.getElem?_append_left (by omega)];exact hY.se
    ·rw[List.getElem?_set_ne (by omega),List.getElem?_append_left (by simp;omega),List.getElem?_set_ne (by omega),List.getElem?_append_left (by omega)];exact hY.sb
    ·rw[List.getElem?_set_ne (by omega),List.getElem?_append_left (by simp;omega),List.getElem?_set_ne (by omega),List.getElem?_append_left (by omega)];exact hY.fn
    ·rw[List.getElem?_set_self (by simp)]
    ·rw[List.getElem?_set_ne (by omega),List.getElem?_append_right (by simp),tr];simp[aq,aF]
def fk(bs:List Bk):List Nat:=(dfs (nxC bs) bs.length (List.replicate bs.length false,[]) 0).2
theorem BM(c:Cd)(hc:CBd c)(hfit:bF c.blocks=true):AC Tryz.prog G ir [.agg (c.cs.map .p)] [] λr h=>∃id,fk c.blocks≠[]/\r= .ret (.sl id 1 0 (fk c.blocks).length)/\h[id]?=some (.row 1 (aq (aF (fk c.blocks)))):=by
 have hcs:=c.cs_eq2
 have hbl:bkL c.blocks= .lst 5 (c.blocks.map Bk.cs):=rfl
 have hl1:=hc.1
 have hpos:=fG hfit
 have hsl:(List.replicate c.blocks.length false).length=c.blocks.length:=List.length_replicate
 have h0:sn (List.replicate c.blocks.length false) 0=false:=by rw[nT];exact decide_eq_false (by omega)
 have hne:fk c.blocks≠[]:=by
  rw[fk]
  obtain⟨n,hn⟩:∃n,c.blocks.length=n+1:=⟨c.blocks.length-1,by omega⟩
  rw[hn,jM]
  simp
 have hv:=yW G c hc hfit c.blocks.length [.row 3 [[.p (.int .i64 c.params),.p (.int .i64 c.regs),.p (bkL c.blocks)]],.row 1 [[.nils]],.row 1 (dW (List.replicate c.blocks.length false)),.row 1 [[.sl 2 1 0 c.blocks.length]],.row 1 [[.fn (.func cq) [.ptr 3 1 0 0,.ptr 0 3 0 0,.ptr 4 1 0 0,.ptr 1 1 0 0]]]] 0 (List.replicate c.blocks.length false) [] hpos h0 (by rw[jc];exact Nat.le_refl _) ⟨by simp,rfl,rfl,rfl,rfl,⟨_,rfl,.inl ⟨rfl,rfl⟩⟩,hsl⟩ (by rw[jc];simp;omega)
 rw[hbl] at hv
 refine AC.go sX ?_
 simp-implicitDefEqProofs[lv,hcs,hbl,GH]
 refine⟨by omega,?_⟩
 refine hv.mono ?_
 rintro r Y ⟨rfl,hYl,hY⟩
 obtain⟨V,v1,v2⟩:=hY.ou
 have hY5:=hY.len
 change (V= .nils/\fk c.blocks=[])\/∃id,5<=id/\V= .sl id 1 0 (fk c.blocks).length/\Y[id]?=some (.row 1 (aq (aF (fk c.blocks)))) at v2
 rcases v2 with⟨_,hn⟩|⟨id,hid,rfl,v3⟩
 ·exact absurd hn hne
 ·simp-implicitDefEqProofs[aa,v1]
  exact⟨hne,v3⟩
def rvK(l:List Int)(k:Nat):List Int:=(List.range l.length).map λj=>if j<k\/l.length-k<=j then l.getD (l.length-1-j) 0 else l.getD j 0
theorem jn(l:List Int)(k:Nat):(rvK l k).length=l.length:=by simp[rvK]
theorem kJ{l:List Int}{k j:Nat}(h:j<l.length):(rvK l k)[j]?=some (if j<k\/l.length-k<=j then l.getD (l.length-1-j) 0 else l.getD j 0):=by simp[rvK,h]
theorem Cz(l:List Int):rvK l 0=l:=by
 refine List.ext_getElem? λj=>?_
 by_cases h:j<l.length
 ·rw[kJ h,if_neg (by omega),List.getD_eq_getElem?_getD,List.getElem?_eq_getElem h];rfl
 ·rw[List.getElem?_eq_none (by rw[jn];omega),List.getElem?_eq_none (by omega)]
theorem FS{l:List Int}{k:Nat}(h:l.length<=2*k+1):rvK l k=l.reverse:=by
 refine List.ext_getElem? λj=>?_
 by_cases hj:j<l.length
 ·rw[kJ hj,List.getElem?_reverse hj]
  by_cases h2:j<k\/l.length-k<=j
  ·rw[if_pos h2,List.getD_eq_getElem?_getD,List.getElem?_eq_getElem (by omega)];rfl
  ·rw[if_neg h2,List.getD_eq_getElem?_getD,show l.length-1-j=j by omega,List.getElem?_eq_getElem (by omega)];rfl
 ·rw[List.getElem?_eq_none (by rw[jn];omega),List.getElem?_eq_none (by simp;omega)]
theorem Dc{l:List Int}{k:Nat}(h:2*k+1<l.length):((rvK l k).set k (l.getD (l.length-1-k) 0)).set (l.length-1-k) (l.getD k 0)=rvK l (k+1):=by
 refine List.ext_getElem? λj=>?_
 by_cases hj:j<l.length
 ·rw[kJ hj]
  by_cases e1:l.length-1-k=j
  ·subst e1
   rw[List.getElem?_set_self (by rw[List.length_set,jn];omega),if_pos (by omega)]
   congr 2;omega
  ·rw[List.getElem?_set_ne e1]
   by_cases e2:k=j
   ·subst e2
    rw[List.getElem?_set_self (by rw[jn];omega),if_pos (by omega)]
   ·rw[List.getElem?_set_ne e2,kJ hj]
    by_cases h3:j<k\/l.length-k<=j
    ·rw[if_pos h3,if_pos (by omega)]
    ·rw[if_neg h3,if_neg (by omega)]
 ·rw[List.getElem?_eq_none (by simp[jn];omega),List.getElem?_eq_none (by rw[jn];omega)]
theorem nG{l:List Int}{i:Nat}{x:Int}(h:l[i]?=some x):(aq l)[i]?=some [.p (.int .i64 x)]:=by simp[aq,h]
theorem oA(l:List Int)(i:Nat)(x:Int):(aq l).set i [.p (.int .i64 x)]=aq (l.set i x):=by simp[aq,List.map_set]
theorem rS{α:Type}{l:List α}{k:Nat}{x:α}(h:l[k]?=some x):l.set k x=l:=by
 obtain⟨hk,rfl⟩:=List.getElem?_eq_some_iff.1 h
 exact List.set_getElem_self hk
theorem Bi{h:List AO}{id:Nat}(l:List Int)(hl:l.length<=1073741824)(hh:h[id]?=some (.row 1 (aq l))):AC Tryz.prog G cA [.sl id 1 0 l.length] h λr h'=>r= .ret (.tup [])/\h'=h.set id (.row 1 (aq l.reverse)):=by
 have hid:=(List.getElem?_eq_some_iff.1 hh).1
 refine AC.go ke ?_
 have hw0:IntKind.i64.wrap ((l.length:Int)-1)=(l.length:Int)-1:=ae (by omega) (by omega)
 simp-implicitDefEqProofs[eM,hw0]
 refine aH (λk:Nat=>aC 28 [(2,.p (.int .i64 k)),(3,.p (.int .i64 ((l.length:Int)-1-k))),(0,.sl id 1 0 l.length)]) (λk=>h.set id (.row 1 (aq (rvK l k)))) (λk=>2*k<=l.length+1) (λk=>l.length-2*k+1) 0 (by omega) ?_ ?_
 ·have:h.set id (.row 1 (aq (rvK l 0)))=h:=by rw[Cz];exact rS hh
  rw[this]
  exact ab (Nat.le_refl _) (by simp[below,hid])
 intro k hk
 by_cases hkn:2*k+1<l.length
 ·obtain⟨m,hm⟩:∃m,m=l.length-1-k:=⟨_,rfl⟩
  have hmi:(l.length:Int)-1-k=(m:Int):=by omega
  have hkm:(k:Int)<(m:Int):=by omega
  have hkl:k<l.length:=by omega
  have hml:m<l.length:=by omega
  have g1:(rvK l k)[k]?=some (l.getD k 0):=by rw[kJ hkl,if_neg (by omega)]
  have g2:(rvK l k)[m]?=some (l.getD m 0):=by rw[kJ hml,if_neg (by omega)]
  have hs:=Dc hkn
  rw[←hm] at hs
  have hL:=jn l k
  have hw1:=w1 (i:=k) (by omega)
  have hw2:IntKind.i64.wrap ((m:Int)-1)=(l.length:Int)-1-((k+1:Nat):Int):=by rw[ae (by omega) (by omega)];omega
  generalize l.getD k 0=a at g1 hs
  generalize l.getD m 0=b at g2 hs
  have r1:(aq (rvK l k))[k]?=some [.p (.int .i64 a)]:=nG g1
  have r2:(aq (rvK l k))[m]?=some [.p (.int .i64 b)]:=nG g2
  have r3:(aq ((rvK l k).set k b))[m]?=some [.p (.int .i64 b)]:=nG (by rw[List.getElem?_set_ne (by omega)];exact g2)
  have e1:∀t,(h.set id t)[id]?=some t:=λt=>List.getElem?_set_self hid
  rw[hmi]
  simp-implicitDefEqProofs[hkm,e1,hkl,hml,r1,r2,r3,oA,hs]
  exact⟨k+1,by omega,by omega,ab (by simp) (by simp[below,hw1,hw2,hid])⟩
 ·have hcf:¬(k:Int)<(l.length:Int)-1-k:=by omega
  rw[FS (by omega)]
  simp-implicitDefEqProofs[hcf]
theorem Fh{f:FuncId}{args:List AV}{l:List Int}(H:AC Tryz.prog G f args [] λr h=>∃id,r= .ret (.sl id 1 0 l.length)/\h[id]?=some (.row 1 (aq l))):AC Tryz.prog G f args [] λr h=>r= .ret (.sl 0 1 0 l.length)/\h=[.row 1 (aq l)]:=
 H.gc (λt v h ⟨_,e,_⟩=>by cases e) λv h ⟨id,e1,e2⟩=>by
  cases e1
  refine⟨.sl 0 1 0 l.length,[.row 1 (aq l)],⟨[id],by simp,λi hi=>by simp at hi,by simp,by simp[below],by simp[ren],cG e2 (λx hx=>by obtain⟨n,_,rfl⟩:=List.mem_map.1 hx;simp[below]) gn⟩,rfl,rfl⟩
def ig(bs:List Bk):List Int:=if bF bs then(aF (fk bs)).reverse else[]
theorem tA(c:Cd)(hc:CBd c):VF Tryz.prog G dx [.agg (c.cs.map .p)] (.p (ay (ig c.blocks))):=by
 have hcs:=c.cs_eq2
 have hbl:bkL c.blocks= .lst 5 (c.blocks.map Bk.cs):=rfl
 have hl1:=hc.1
 have hg:=BQ G c hc
 rw[hcs,hbl] at hg
 refine mR G ?_
 refine AC.go pS ?_
 simp-implicitDefEqProofs[kw,hcs,hbl]
 refine hg.use ?_
 cases hfit:bF c.blocks with
 |false=>
  have hm:ig c.blocks=[]:=by rw[ig,hfit];rfl
  rw[hm]
  simp-implicitDefEqProofs[]
  exact .nils 1
 |true=>
  have hm:ig c.blocks=(aF (fk c.blocks)).reverse:=by rw[ig,if_pos hfit]
  have hvl:(fk c.blocks).length<=1073741824:=by
   have h0:sn (List.replicate c.blocks.length false) 0=false:=by rw[nT];have:=fG hfit;exact decide_eq_false (by omega)
   have:=((tY (nxC c.blocks) c.blocks.length).2 0 (List.replicate c.blocks.length false,[]) h0 (by rw[jc];exact Nat.le_refl _)).1
   simp only[jc,List.length_nil] at this
   rw[fk];omega
  have hv:=Fh (l:=aF (fk c.blocks)) G ((BM G c hc hfit).mono λr h ⟨id,_,h1,h2⟩=>⟨id,by rw[cR];exact h1,h2⟩)
  rw[hcs,hbl] at hv
  generalize hL:aF (fk c.blocks)=L at hv hm
  have hLl:L.length<=1073741824:=by rw[←hL,cR];exact hvl
  rw[hm]
  simp-implicitDefEqProofs[]
  refine(AC.lift hv (by simp[below]) rfl (by simp[AL,aq,so,oR])).mono ?_
  rintro r h ⟨rfl,rfl⟩
  have hsh:∀n,cb n (.row 1 (aq L))= .row 1 (aq L):=λn=>by simp[cb,aq,cn,bl]
  simp-implicitDefEqProofs[aa,bl,hsh]
  refine(Bi G (id:=1) L hLl rfl).mono ?_
  rintro r h ⟨rfl,rfl⟩
  simp-implicitDefEqProofs[aa]
  exact Out.view (.inr ⟨1,by simp,rfl⟩)
end
section
theorem tU{l:List Nat}(nd:l.Nodup){i j x:Nat}(hi:l[i]?=some x)(hj:l[j]?=some x):i=j:=by
 obtain⟨h1,e1⟩:=List.getElem?_eq_some_iff.1 hi
 obtain⟨h2,e2⟩:=List.getElem?_eq_some_iff.1 hj
 have hp:=List.pairwise_iff_getElem.1 nd
 rcases Nat.lt_trichotomy i j with h|h|h
 ·exact absurd (e1.trans e2.symm) (hp i j h1 h2 h)
 ·exact h
 ·exact absurd (e2.trans e1.symm) (hp j i h2 h1 h)
theorem CZ{l:List Nat}(nd:l.Nodup):l.reverse.Nodup:=List.pairwise_reverse.2 (List.Pairwise.imp Ne.symm nd)
theorem Al{bs:List Bk}(h:bF bs=true):sn (List.replicate bs.length false) 0=false:=by
 rw[nT]
 have:=fG h
 have e1:¬bs.length<=0:=by omega
 simp only[e1,decide_false]
theorem GP{bs:List Bk}(h:bF bs=true):∃l,fk bs=l++[0]/\(l++[0]).Nodup/\(∀x,x∈l++[0]↔jD bs x=true)/\∀x∈l,∃p,Aft (l++[0]) x p/\x∈nxC bs p:=by
 obtain⟨l,o,hl⟩:=Ds (nx:=nxC bs) [] (Al h) (f:=bs.length) (by rw[jc];exact Nat.le_refl _)
 have h0:0∉l:=by
  have:=o.nodup
  rw[List.nodup_append] at this
  exact λhm=>this.2.2 0 hm 0 (by simp) rfl
 refine⟨l,by rw[fk,o.outE];rfl,o.nodup,λx=>?_,λx hx=>?_⟩
 ·rw[hl x,rchB_iff]
  have e:(λy=>sn (List.replicate bs.length false) y=true)=λy=>False\/bs.length<=y:=by
   funext y;rw[nT];simp
  rw[e]
  exact Jl h
 ·rcases o.par x (by simp[hx]) with h1|h1
  ·rw[List.mem_singleton] at h1
   subst h1;exact absurd hx h0
  ·exact h1
def bz(bs:List Bk):List Nat:=(fk bs).reverse
theorem iI{bs:List Bk}(h:bF bs=true):ig bs=aF (bz bs):=by rw[ig,if_pos h,bz,aF,aF,List.map_reverse]
theorem pC{bs:List Bk}(h:bF bs=false):ig bs=[]:=by rw[ig,h];rfl
structure OrdOk (bs:List Bk) (l:List Nat):Prop where
 head:∃t,l=0::t
 nd:l.Nodup
 mem:∀x,x∈l↔jD bs x=true
 par:∀(i:Nat) x,l[i+1]?=some x->∃p∈l.take (i+1),x∈nxC bs p
theorem iA{bs:List Bk}(h:bF bs=true):OrdOk bs (bz bs):=by
 obtain⟨l,e,nd,hm,hp⟩:=GP h
 have e2:bz bs=0::l.reverse:=by rw[bz,e];simp
 refine⟨⟨_,e2⟩,?_,λx=>?_,λi x hi=>?_⟩
 ·rw[bz,e];exact CZ nd
 ·rw[bz,List.mem_reverse,e];exact hm x
 ·rw[e2,List.getElem?_cons_succ] at hi
  have hx:x∈l:=List.mem_reverse.1 (List.mem_of_getElem? hi)
  obtain⟨p,⟨u,v,e3,hv⟩,hn⟩:=hp x hx
  refine⟨p,?_,hn⟩
  rw[bz,e,e3,List.reverse_append,List.reverse_cons,List.append_assoc]
  have hil:i+1<((l++[0]).reverse).length:=by
   have:=(List.getElem?_eq_some_iff.1 hi).1
   simp at this⊢;omega
  have hg:(v.reverse++([x]++u.reverse))[i+1]?=some x:=by
   rw[←hi]
   have:v.reverse++([x]++u.reverse)=0::l.reverse:=by
    rw[←e2,bz,e,e3,List.reverse_append,List.reverse_cons,List.append_assoc]
   rw[this,List.getElem?_cons_succ]
  have hnd:(v.reverse++([x]++u.reverse)).Nodup:=by
   have:=CZ nd
   rwa[e3,List.reverse_append,List.reverse_cons,List.append_assoc] at this
  have hlv:v.length=i+1:=by
   have h1:(v.reverse++([x]++u.reverse))[v.length]?=some x:=by
    rw[List.getElem?_append_right (by simp)];simp
   exact tU hnd h1 hg
  rw[←hlv,List.take_append_of_le_length (by simp)]
  rw[List.take_of_length_le (by simp)]
  exact List.mem_reverse.2 hv
theorem Br{l:List Nat}{p:Nat->Bool}{n:Nat}(nd:l.Nodup)(h:∀x,x∈l↔x<n/\p x=true):l.length=((List.range n).filter p).length:=by
 have h2:((List.range n).filter p).Nodup:=List.Nodup.sublist List.filter_sublist List.nodup_range
 exact((List.perm_ext_iff_of_nodup nd h2).2 λx=>by rw[h x,List.mem_filter,List.mem_range]).length_eq
theorem pB{bs:List Bk}(h:bF bs=true):(bz bs).length=(bv (jD bs) bs.length).length:=by
 rw[bv,List.length_map]
 exact Br (iA h).nd λx=>by
  rw[(iA h).mem x]
  exact⟨λhx=>⟨Db h (rchB_iff.1 hx),hx⟩,λhx=>hx.2⟩
theorem nH{l:List Nat}{x:Nat}:(x:Int)∈aF l↔x∈l:=by
 simp only[aF,List.mem_map]
 constructor
 ·rintro⟨y,hy,e⟩
  have:y=x:=by have e:(y:Int)=(x:Int):=e;omega
  exact this▸hy
 ·exact λh=>⟨x,h,rfl⟩
theorem mem_fltI{p:Nat->Bool}{n x:Nat}:(x:Int)∈bv p n↔x<n/\p x=true:=by
 rw[bv]
 have:= @nH ((List.range n).filter p) x
 rw[aF] at this
 rw[this,List.mem_filter,List.mem_range]
theorem kq{p:Nat->Bool}{n:Nat}{x:Int}(h:x∈bv p n):0<=x/\x.toNat<n/\p x.toNat=true/\((x.toNat:Nat):Int)=x:=by
 rw[bv,List.mem_map] at h
 obtain⟨y,hy,rfl⟩:=h
 rw[List.mem_filter,List.mem_range] at hy
 exact⟨Int.natCast_nonneg y,by simpa using hy.1,by simpa using hy.2,by simp⟩
theorem vo{bs:List Bk}{a b:Nat}(h:jD bs a=true)(e:b∈nxC bs a):jD bs b=true:=rchB_iff.2 ((rchB_iff.1 h).step e)
end
section
theorem pp{xs:List Int}(hp:xs.Pairwise (· <= ·)):∀j,j<xs.length->∃i,i<=j/\Lib.keeps xs.toArray i=true/\xs[i]! =xs[j]! :=by
 intro j
 induction j with
 |zero=>intro h;exact⟨0,Nat.le_refl _,Lib.keeps_lt_one _ 0 (by omega),rfl⟩
 |succ j ih=>
  intro h
  by_cases e:xs.toArray[j+1]! =xs.toArray[j+1-1]!
  ·obtain⟨i,h1,h2,h3⟩:=ih (by omega)
   refine⟨i,by omega,h2,?_⟩
   have e':xs[j+1]! =xs[j]! :=by simpa using e
   rw[h3,e']
  ·exact⟨j+1,Nat.le_refl _,Lib.keeps_pos e,rfl⟩
theorem tJ(xs:List Int):(Lib.compact xs).length<=xs.length:=by
 unfold Lib.compact Lib.compactUpTo
 rw[List.length_map]
 have:=List.length_filter_le (Lib.keeps xs.toArray) (List.range xs.length)
 rwa[List.length_range] at this
theorem uo{xs:List Int}(hp:xs.Pairwise (· <= ·))(x:Int):x∈Lib.compact xs↔x∈xs:=by
 unfold Lib.compact Lib.compactUpTo
 simp only[List.mem_map,List.mem_filter,List.mem_range]
 constructor
 ·rintro⟨j,⟨h1,_⟩,rfl⟩
  have e:xs.toArray[j]! =xs[j]:=by simp[h1]
  rw[e]
  exact List.getElem_mem h1
 ·intro h
  obtain⟨j,hj,rfl⟩:=List.mem_iff_getElem.1 h
  obtain⟨i,h1,h2,h3⟩:=pp hp j hj
  refine⟨i,⟨by omega,h2⟩,?_⟩
  have e:xs.toArray[i]! =xs[i]! :=by simp
  rw[e,h3]
  simp[hj]
theorem vA{xs:List Int}(hp:xs.Pairwise (· <= ·)):(Lib.compact xs).Pairwise (· < ·):=by
 unfold Lib.compact Lib.compactUpTo
 rw[List.pairwise_map]
 have hr:((List.range xs.length).filter (Lib.keeps xs.toArray)).Pairwise (· < ·):=List.Pairwise.filter _ List.pairwise_lt_range
 refine List.Pairwise.imp_of_mem (λ{a b} ha hb hab=>?_) hr
 simp only[List.mem_filter,List.mem_range] at ha hb
 obtain⟨hbl,hbk⟩:=hb
 unfold Lib.keeps at hbk
 have hne:xs.toArray[b]! ≠xs.toArray[b-1]! :=by
  rcases of_decide_eq_true hbk with h|h
  ·omega
  ·exact h
 have h1:xs.toArray[b]! =xs[b]:=by simp[hbl]
 have h2:xs.toArray[b-1]! =xs[b-1]:=by simp[show b-1<xs.length by omega]
 have h3:xs.toArray[a]! =xs[a]:=by simp[ha.1]
 rw[h1,h2] at hne
 rw[h1,h3]
 have k1:xs[b-1]<=xs[b]:=List.pairwise_iff_getElem.1 hp (b-1) b (by omega) hbl (by omega)
 have k2:xs[a]<=xs[b-1]:=by
  by_cases e:a=b-1
  ·subst e;exact Int.le_refl _
  ·exact List.pairwise_iff_getElem.1 hp a (b-1) ha.1 (by omega) (by omega)
 omega
theorem yv(xs:List Int):(xs.mergeSort λx y=>decide (x<=y)).Pairwise (· <= ·):=by
 have:=List.pairwise_mergeSort (le:=λx y:Int=>decide (x<=y)) (λa b c h1 h2=>by simp at*;omega) (λa b=>by simp;omega) xs
 exact this.imp λh=>by simpa using h
theorem su{a b:List Int}(ha:a.Pairwise (· < ·))(hb:b.Pairwise (· < ·))(hm:∀x,x∈a↔x∈b):a=b:=by
 refine List.Perm.eq_of_pairwise (le:=(· < ·)) (λx y _ _ h1 h2=>by omega) ha hb ?_
 exact(List.perm_ext_iff_of_nodup (ha.imp λh=>by omega) (hb.imp λh=>by omega)).2 hm
theorem uf(p:Nat->Bool)(n:Nat):(bv p n).Pairwise (· < ·):=by
 rw[bv,List.pairwise_map]
 exact(List.Pairwise.filter _ List.pairwise_lt_range).imp λh=>by
  have h:_<_:=h
  exact Int.ofNat_lt.2 h
theorem nM{p:Nat->Bool}{n:Nat}{x:Int}:x∈bv p n↔0<=x/\x.toNat<n/\p x.toNat=true:=by
 constructor
 ·intro h
  obtain⟨h1,h2,h3,_⟩:=kq h
  exact⟨h1,h2,h3⟩
 ·rintro⟨h1,h2,h3⟩
  have:=(mem_fltI (p:=p) (n:=n) (x:=x.toNat)).2 ⟨h2,h3⟩
  rwa[show((x.toNat:Nat):Int)=x by omega] at this
def inI(l:List Int)(k:Nat):Bool:=decide ((k:Int)∈l)
def lc(l:List Int):List Int:=Lib.compact (l.mergeSort λx y=>decide (x<=y))
theorem rk{l:List Int}{n:Nat}(h:∀x∈l,0<=x/\x.toNat<n):lc l=bv (inI l) n:=by
 refine su (vA (yv l)) (uf _ _) λx=>?_
 rw[lc,uo (yv l),List.mem_mergeSort,nM,inI,decide_eq_true_iff]
 constructor
 ·intro hx
  obtain⟨h1,h2⟩:=h x hx
  exact⟨h1,h2,by rwa[show((x.toNat:Nat):Int)=x by omega]⟩
 ·rintro⟨h1,_,h3⟩
  rwa[show((x.toNat:Nat):Int)=x by omega] at h3
theorem Ax(x:Int):∀xs:List Int,∃k,k<=xs.length/\(∀y∈xs.take k,y<x)/\∀y,xs[k]?=some y->¬y<x
 |[]=>⟨0,Nat.le_refl _,by simp,by simp⟩
 |a::r=>by
  by_cases h:a<x
  ·obtain⟨k,h1,h2,h3⟩:=Ax x r
   refine⟨k+1,by simp;omega,λy hy=>?_,λy hy=>h3 y (by simpa using hy)⟩
   rw[List.take_succ_cons] at hy
   rcases List.mem_cons.1 hy with rfl|hy
   ·exact h
   ·exact h2 y hy
  ·exact⟨0,Nat.zero_le _,by simp,λy hy=>by simp at hy;rw[←hy];exact h⟩
theorem FO{xs:List Int}(hp:xs.Pairwise (· < ·)){k:Nat}{x:Int}(hk:k<=xs.length)(h1:∀y∈xs.take k,y<x)(h2:∀y,xs[k]?=some y->¬y<x):(mG xs k x).Pairwise (· < ·)/\∀y,y∈mG xs k x↔y∈xs\/y=x:=by
 rw[mG]
 split
 ·rename_i he
  refine⟨hp,λy=>⟨λh=> .inl h,λh=>h.elim id λe=>e▸List.mem_of_getElem? he⟩⟩
 ·rename_i he
  have e:xs=xs.take k++xs.drop k:=(List.take_append_drop k xs).symm
  have hd:∀y∈xs.drop k,x<y:=by
   intro y hy
   have hpd:(xs.drop k).Pairwise (· < ·):=hp.sublist (List.drop_sublist k xs)
   cases hdr:xs.drop k with
   |nil=>rw[hdr] at hy;cases hy
   |cons a r=>
    have ha:xs[k]?=some a:=by
     have:=List.getElem?_drop (xs:=xs) (i:=k) (j:=0)
     rw[hdr] at this
     simpa using this.symm
    have hna:=h2 a ha
    have hne:a≠x:=λe=>he (by rw[ha,e])
    rw[hdr] at hy hpd
    rcases List.mem_cons.1 hy with rfl|hy
    ·omega
    ·have:=(List.pairwise_cons.1 hpd).1 y hy;omega
  have hpt:(xs.take k).Pairwise (· < ·):=hp.sublist (List.take_sublist k xs)
  have hpd:(xs.drop k).Pairwise (· < ·):=hp.sublist (List.drop_sublist k xs)
  refine⟨?_,λy=>?_⟩
  ·rw[List.pairwise_append,List.pairwise_cons]
   refine⟨hpt,⟨hd,hpd⟩,λa ha b hb=>?_⟩
   rcases List.mem_cons.1 hb with rfl|hb
   ·exact h1 a ha
   ·have:=h1 a ha;have:=hd b hb;omega
  ·conv=>rhs;rw[e]
   simp only[List.mem_append,List.mem_cons]
   constructor
   ·rintro(h|h|h)
    ·exact .inl (.inl h)
    ·exact .inr h
    ·exact .inl (.inr h)
   ·rintro((h|h)|h)
    ·exact .inl h
    ·exact .inr (.inr h)
    ·exact .inr (.inl h)
theorem DJ(l:List Int)(x:Int)(k:Nat):inI (l++[x]) k=(inI l k||decide ((k:Int)=x)):=by
 simp[inI]
theorem FN{l:List Int}{n:Nat}{x:Int}(hx:0<=x/\x.toNat<n){k:Nat}(hk:k<=(bv (inI l) n).length)(h1:∀y∈(bv (inI l) n).take k,y<x)(h2:∀y,(bv (inI l) n)[k]?=some y->¬y<x):mG (bv (inI l) n) k x=bv (inI (l++[x])) n:=by
 obtain⟨a,b⟩:=FO (uf (inI l) n) hk h1 h2
 refine su a (uf _ _) λy=>?_
 rw[b,nM,nM,DJ,Bool.or_eq_true,decide_eq_true_iff]
 constructor
 ·rintro(⟨g1,g2,g3⟩|rfl)
  ·exact⟨g1,g2,.inl g3⟩
  ·exact⟨hx.1,hx.2,.inr (by omega)⟩
 ·rintro⟨g1,g2,g3|g3⟩
  ·exact .inl ⟨g1,g2,g3⟩
  ·exact .inr (by omega)
end
section
theorem AC.shelfNil{P:Program}{G:aB}{f:FuncId}{h:List AO}{rv:AV}{r:Value}(hf:dK P f=true)(hr:∀(W:World) (S:Nat->Prop) (φ:Aw.Place) (n:Nat),VRel W S φ n rv r)
 (H:∀W:World,Calls P f #[.slice none 0 0] W λe W'=>e= .returned r/\W'=W):AC P G f [.nils] h λx h'=>x= .ret rv/\h'=h:=by
 refine⟨hf,λW S φ vs hH hA=>?_⟩
 have hs1:vs.size=1:=hA.1
 obtain⟨v0,rfl⟩:∃v0,vs=#[v0]:=⟨vs[0],by
  apply Array.ext
  ·simp[hs1]
  ·intro i h1 h2
   have:i=0:=by omega
   subst this;rfl⟩
 have hv:=hA.2 0 _ v0 rfl rfl
 cases hv
 refine(H W).mono ?_
 rintro e W' ⟨rfl,rfl⟩
 exact⟨.ret rv,S,φ,h,⟨rfl,rfl⟩,hH,.ret _ _ (hr _ _ _ _),Keep.refl hH⟩
theorem AC.shelfEmpty{P:Program}{G:aB}{f:FuncId}{h:List AO}{id sz off:Nat}{rv:AV}{r:Option Addr->Nat->Value}(hf:dK P f=true)(hr:∀(W:World) (S:Nat->Prop) (φ:Aw.Place) (n:Nat) (p:Option Addr) (cap:Nat),VRel W S φ n (.sl id sz off 0) (.slice p 0 cap)->VRel W S φ n rv (r p cap))
 (H:∀(W:World) (p:Option Addr) (cap:Nat),Calls P f #[.slice p 0 cap] W λe W'=>e= .returned (r p cap)/\W'=W):AC P G f [.sl id sz off 0] h λx h'=>x= .ret rv/\h'=h:=by
 refine⟨hf,λW S φ vs hH hA=>?_⟩
 have hs1:vs.size=1:=hA.1
 obtain⟨v0,rfl⟩:∃v0,vs=#[v0]:=⟨vs[0],by
  apply Array.ext
  ·simp[hs1]
  ·intro i h1 h2
   have:i=0:=by omega
   subst this;rfl⟩
 have hv:=hA.2 0 _ v0 rfl rfl
 have hv2:=hv
 cases hv with
 |sl _ _ _ _ cap ba _ hl hb hc=>
  refine(H W ba cap).mono ?_
  rintro e W' ⟨rfl,rfl⟩
  exact⟨.ret rv,S,φ,h,⟨rfl,rfl⟩,hH,.ret _ _ (hr _ _ _ _ _ _ hv2),Keep.refl hH⟩
variable (G:aB)
theorem HI{h:List AO}{id:Nat}{xs:List Int}(hid:h[id]?=some (gP xs))(hx:xs≠[])(hb:xs.length<4611686018427387904):
 AC Tryz.prog G (lays189_ren.f 189) [.sl id 1 0 xs.length] h λx h'=>x= .ret (.tup [])/\h'=h.set id (gP (xs.mergeSort λx y=>decide (x<=y))):=
 AC.shelfInts (r:=λ_ _ _=> .tuple #[]) (by kernel_rfl) hid hx (by simp) (λ_ _ _ _ _ _ _ _=> .tup [] #[] rfl (λj c v e=>by simp at e))
  λblk off cap W hH hbk _=>Any.slices_Sort_int tX blk off cap xs W hH hbk hb
theorem Co{h:List AO}{id:Nat}{xs:List Int}(hid:h[id]?=some (gP xs))(hx:xs≠[])(hb:xs.length<=9223372036854775807)(hl:(Lib.compact xs).length<=xs.length):
 AC Tryz.prog G (lays20_ren.f 20) [.sl id 1 0 xs.length] h λx h'=>x= .ret (.sl id 1 0 (Lib.compact xs).length)/\h'=h.set id (gP (Lib.compact xs++List.replicate (xs.length-(Lib.compact xs).length) 0)):=by
 refine AC.shelfInts (r:=λblk off cap=> .slice (some ⟨blk,off,none⟩) (Lib.compact xs).length cap) (by kernel_rfl) hid hx (by simp;omega) (λW S φ n cap hi hc hs=>?_) λblk off cap W hH hbk hcap=>?_
 ·exact .sl id 1 0 _ cap _ hi (by omega) (λ_=>by simp) (λc t fr e=>by have:=hs c t fr e;omega)
 ·refine(Any.slices_Compact_int zj blk off cap xs W hH hb hcap).mono ?_
  rintro e W' ⟨rfl,q,rfl⟩
  exact⟨rfl,q,#[],by simp⟩
theorem uP(id:Nat)(h:List AO):AC Tryz.prog G (lays189_ren.f 189) [.sl id 1 0 0] h λx h'=>x= .ret (.tup [])/\h'=h:=
 AC.shelfEmpty (r:=λ_ _=> .tuple #[]) (by kernel_rfl) (λ_ _ _ _ _ _ _=> .tup [] #[] rfl (λj c v e=>by simp at e)) λW p cap=>Any.slices_Sort_int_none tX p cap W
theorem rQ(id:Nat)(h:List AO):AC Tryz.prog G (lays20_ren.f 20) [.sl id 1 0 0] h λx h'=>x= .ret (.sl id 1 0 0)/\h'=h:=
 AC.shelfEmpty (r:=λp cap=> .slice p 0 cap) (by kernel_rfl) (λ_ _ _ _ _ _ h=>h) λW p cap=>Any.slices_Compact_int_empty zj p cap W
theorem Bs(h:List AO):AC Tryz.prog G (lays189_ren.f 189) [.nils] h λx h'=>x= .ret (.tup [])/\h'=h:=
 AC.shelfNil (r:= .tuple #[]) (by kernel_rfl) (λ_ _ _ _=> .tup [] #[] rfl (λj c v e=>by simp at e)) λW=>Any.slices_Sort_int_none tX none 0 W
theorem tR(h:List AO):AC Tryz.prog G (lays20_ren.f 20) [.nils] h λx h'=>x= .ret .nils/\h'=h:=
 AC.shelfNil (r:= .slice none 0 0) (by kernel_rfl) (λ_ _ _ _=> .nils) λW=>Any.slices_Compact_int_empty zj none 0 W
theorem Gj(l:List Int)(hl:l.length<=1073741824)(h:List AO):AC Tryz.prog G cg [.p (ay l)] h λx h'=>∃V os,x= .ret V/\h'=h++os/\((V= .nils/\l=[])\/∃id,V= .sl id 1 0 l.length/\h.length<=id/\h'[id]?=some (gP l)):=by
 have hsl:ay l= .lst 1 (l.map λw=>[.int .i64 w]):=rfl
 refine AC.go lM ?_
 simp-implicitDefEqProofs[fZ,hsl]
 cases l with
 |nil=>
  simp[yQ,gP]
 |cons w r=>
  simp only[List.length_cons] at hl
  simp[yQ]
  refine⟨⟨by omega,by omega⟩,?_⟩
  simp[gP]
theorem uY{h:List AO}{id m:Nat}{l:List Int}{t:List Int}(e:h[id]?=some (gP (l++t)))(hm:m=l.length):View h (.sl id 1 0 m) (ay l):=by
 have:=View.fl (h:=h) id 1 0 ((l++t).map λn=>[AV.p (.int .i64 n)]) (l.map λn=>PV.int .i64 n) e (λi q hq=>by
  rw[nN,Nat.zero_add,List.map_append,List.getElem?_append_left (by have:=(List.getElem?_eq_some_iff.1 hq).1;simpa using this),List.getElem?_map]
  rw[List.getElem?_map] at hq
  cases hh:l[i]? with
  |none=>rw[hh] at hq;cases hq
  |some x=>rw[hh] at hq;cases hq;rfl)
 rw[List.length_map,List.map_map] at this
 rw[hm]
 exact this
theorem Gp(A:AV)(l:List Int)(hl:l.length<=1073741824)(h:List AO)(hclone:AC Tryz.prog G cg [A] h λx h'=>∃V os,x= .ret V/\h'=h++os/\((V= .nils/\l=[])\/∃id,V= .sl id 1 0 l.length/\h.length<=id/\h'[id]?=some (gP l))):
 AC Tryz.prog G eR [A] h λx h'=>h.length<=h'.length/\(∀i,i<h.length->h'[i]?=h[i]?)/\((x= .ret .nils/\lc l=[])\/∃id t,h.length<=id/\x= .ret (.sl id 1 0 (lc l).length)/\h'[id]?=some (gP (lc l++t))):=by
 generalize hS:l.mergeSort (λx y=>decide (x<=y))=S
 have hSl:S.length=l.length:=by rw[←hS,List.length_mergeSort]
 have hcl:=tJ S
 have hO:lc l=Lib.compact S:=by rw[lc,hS]
 rw[hO]
 refine AC.go vh ?_
 simp-implicitDefEqProofs[oI]
 refine hclone.mono ?_
 rintro r h1 ⟨V,os,rfl,rfl,⟨rfl,hn⟩|⟨id,rfl,hid,hr⟩⟩
 ·have hS0:S=[]:=by rw[hn] at hSl;exact List.length_eq_zero_iff.1 (by simpa using hSl)
  simp-implicitDefEqProofs[aa]
  refine(Bs G _).mono ?_
  rintro r h' ⟨rfl,rfl⟩
  simp-implicitDefEqProofs[aa]
  refine(tR G _).mono ?_
  rintro r h'' ⟨rfl,rfl⟩
  simp-implicitDefEqProofs[aa]
  rw[hS0]
  exact⟨λi hi=>List.getElem?_append_left hi,rfl⟩
 ·have hidl:=(List.getElem?_eq_some_iff.1 hr).1
  by_cases hn:l=[]
  ·subst hn
   have hS0:S=[]:=List.length_eq_zero_iff.1 (by simpa using hSl)
   subst hS0
   simp-implicitDefEqProofs[aa]
   refine(uP G id _).mono ?_
   rintro r h' ⟨rfl,rfl⟩
   simp-implicitDefEqProofs[aa]
   refine(rQ G id _).mono ?_
   rintro r h'' ⟨rfl,rfl⟩
   simp-implicitDefEqProofs[aa]
   exact⟨λi hi=>List.getElem?_append_left hi,id,hid,⟨rfl,rfl⟩,[],hr⟩
  simp-implicitDefEqProofs[aa]
  refine(HI G hr hn (by omega)).mono ?_
  rintro r h' ⟨rfl,rfl⟩
  rw[hS]
  have hC:=Co G (h:=(h++os).set id (gP S)) (id:=id) (xs:=S) (List.getElem?_set_self hidl) (by intro e;rw[e] at hSl;simp at hSl;exact hn (List.length_eq_zero_iff.1 hSl.symm)) (by omega) hcl
  rw[hSl] at hC
  simp-implicitDefEqProofs[aa]
  refine hC.mono ?_
  rintro r h'' ⟨rfl,rfl⟩
  simp-implicitDefEqProofs[aa]
  refine⟨λi hi=>?_,id,hid,rfl,_,List.getElem?_set_self (by simpa using hidl)⟩
  rw[List.getElem?_set_ne (by omega),List.getElem?_append_left hi]
theorem EI(l:List Int)(hl:l.length<=1073741824):VF Tryz.prog G eR [.p (ay l)] (.p (ay (lc l))):=by
 refine(Gp G (.p (ay l)) l hl [] (Gj G l hl [])).freezeR (λt v h hh=>?_) λv h hh=>?_
 ·rcases hh with⟨_,_,⟨e,_⟩|⟨_,_,_,e,_⟩⟩<;>cases e
 ·rcases hh with⟨_,_,⟨e,hn⟩|⟨id,t,_,e,hid⟩⟩
  ·cases e
   rw[hn]
   exact .one (.nils 1) .nil
  ·cases e
   exact .one (uY hid rfl) .nil
end
section
theorem pi:AK.whole eY=FK.ak eX:=rfl
noncomputable def om (bs:List Bk):List Int:=if bF bs then bv (jD bs) bs.length else[]
theorem jm{bs:List Bk}(h:bF bs=true):om bs=bv (jD bs) bs.length:=by rw[om,if_pos h]
theorem Cm{bs:List Bk}(h:bF bs=false):om bs=[]:=by rw[om,h];rfl
theorem tZ{bs:List Bk}(h:bF bs=true){x:Nat}(hx:x∈bz bs):x<bs.length:=Db h (rchB_iff.1 (((iA h).mem x).1 hx))
theorem yT{p q:Nat->Bool}{n:Nat}(h:∀k,k<n->p k=q k):bv p n=bv q n:=by
 rw[bv,bv,List.filter_congr λk hk=>h k (List.mem_range.1 hk)]
theorem Gn{bs:List Bk}(h:bF bs=true){l:List Int}(hm:∀x:Nat,(x:Int)∈l↔x∈bz bs):bv (inI l) bs.length=om bs:=by
 rw[jm h]
 refine yT λk _=>?_
 rw[inI,Bool.eq_iff_iff,decide_eq_true_iff,hm,(iA h).mem]
variable (G:aB)
theorem uN(l:List Int)(n:Nat)(x:Int)(hn:n<=1073741824)(hx:0<=x/\x.toNat<n):VF Tryz.prog G bO [.p (ay (bv (inI l) n)),.p (.int .i64 x)] (.p (ay (bv (inI (l++[x])) n))):=by
 obtain⟨k,h1,h2,h3⟩:=Ax x (bv (inI l) n)
 have:=yj G (bv (inI l) n) k x (by have:=iU (inI l) n;omega) h1 h2 h3
 rwa[FN hx h1 h2 h3] at this
theorem uW(l:List Int)(n:Nat)(hn:n<=1073741824)(hl:l.length<=1073741824)(hx:∀x∈l,0<=x/\x.toNat<n):VF Tryz.prog G eb [.p (ay l)] (.p (ay (bv (inI l) n))):=by
 have hnl:ay l= .lst 1 (l.map λw=>[.int .i64 w]):=rfl
 have hT:∀i,i<l.length->∀x,l[i]?=some x->VF Tryz.prog G bO [.p (ay (bv (inI (l.take i)) n)),.p (.int .i64 x)] (.p (ay (bv (inI (l.take (i+1))) n))):=λi hi x hg=>by
  have h1:l.take (i+1)=l.take i++[x]:=by rw[List.take_add_one,hg];rfl
  rw[h1]
  exact uN G (l.take i) n x hn (hx x (List.mem_of_getElem? hg))
 obtain⟨F,hF⟩:∃F:Nat->List Int,F=λi=>bv (inI (l.take i)) n:=⟨_,rfl⟩
 have hF0:F 0=[]:=by
  rw[hF]
  refine nL λi _=>?_
  simp[inI]
 have hFe:F l.length=bv (inI l) n:=by rw[hF];simp only[List.take_length]
 have hFi:∀i,bv (inI (l.take i)) n=F i:=λi=>by rw[hF]
 simp only[hFi] at hT
 rw[←hFe]
 refine AC.go nQ ?_
 simp-implicitDefEqProofs[iV,hnl]
 refine aH (λi:Nat=>aC 19 [(4,.p (.int .i64 i)),(3,.p (ay (F i))),(0,.p (.lst 1 (l.map λw=>[.int .i64 w])))]) (λ_=>[]) (λi=>i<=l.length) (λi=>l.length-i) 0 (Nat.zero_le _) ?_ ?_
 ·refine mN 0 (Nat.le_refl _) (by simp) rfl (.nil _) ?_
  rw[hF0]
  exact⟨.keep (by simp[below]) .nil,.one (cN (l:=[]) rfl) .nil,.keep (by simp[below]) .nil,trivial⟩
 intro i hi
 simp-implicitDefEqProofs[]
 refine aG (λhc=>?_) (λhc=>?_)
 ·have hc:i<l.length:=by simpa using hc
  have hg:=List.getElem?_eq_getElem hc
  have hcall:=hT i hc _ hg
  generalize l[i]=x at hg hcall
  have hwi:=w1 (i:=i) (by omega)
  simp-implicitDefEqProofs[hg]
  refine hcall.use ?_
  simp-implicitDefEqProofs[]
  exact⟨i+1,hc,by omega,aV rfl (by simp[below,hwi])⟩
 ·have hc:i=l.length:=by simp at hc;omega
  subst hc
  simp-implicitDefEqProofs[]
structure OrS where (m id:Nat) (Y:List AO)
theorem uZ(c:Cd)(hc:CBd c)(hfit:bF c.blocks=true):AC Tryz.prog G dd [.agg (c.cs.map .p)] [] λx h=>∃id,x= .ret (.sl id 1 0 (bz c.blocks).length)/\h[id]?=some (.row 1 (aq (aF (bz c.blocks)))):=by
 have hcs:=c.cs_eq2
 have hbl:bkL c.blocks= .lst 5 (c.blocks.map Bk.cs):=rfl
 have hpos:=fG hfit
 have hc1:=hc.1
 have hvl:(fk c.blocks).length<=1073741824:=by
  have:=pB hfit
  have:=iU (jD c.blocks) c.blocks.length
  rw[bz,List.length_reverse] at*
  omega
 have hrep:List.replicate c.blocks.length [AV.p (.bool false)]=dW (List.replicate c.blocks.length false):=GH _
 have hlr:(List.replicate c.blocks.length false).length=c.blocks.length:=List.length_replicate
 have hv:∀(h:List AO) (sid oid:Nat),sid≠oid->h[sid]?=some (.row 1 (dW (List.replicate c.blocks.length false)))->h[oid]?=some (.row 1 [])->AC Tryz.prog G bP [.agg (c.cs.map .p),.p (.int .i64 0),.sl sid 1 0 c.blocks.length,.sl oid 1 0 0] h λx h'=>∃id,x= .ret (.sl id 1 0 (fk c.blocks).length)/\h'[id]?=some (.row 1 (aq (aF (fk c.blocks))))/\id<h'.length:=λh sid oid hne h1 h2=>by
  have:=zR G c hc hfit c.blocks.length h 0 sid oid (List.replicate c.blocks.length false) [] hpos hlr (Al hfit) (by rw[jc];exact Nat.le_refl _) hne h1 h2 (by rw[jc];simp;omega)
  rw[hlr] at this
  exact this.mono λx h' ⟨id,e1,e2,_⟩=>⟨id,e1,e2,(List.getElem?_eq_some_iff.1 e2).1⟩
 rw[hcs,hbl] at hv
 refine AC.goK pn pi ?_
 simp-implicitDefEqProofs[eY,eX,hcs,hbl]
 refine gm (λa:OrS=>aC 29 [(3,.sl a.id 1 0 (fk c.blocks).length)]) (λa=>a.Y) (λa=>a.Y[a.id]?=some (.row 1 (aq (aF (fk c.blocks))))) ?_ ?_
 ·simp-implicitDefEqProofs[hrep]
  refine⟨⟨by omega,?_⟩,by omega,?_⟩
  ·refine(hv _ 1 2 (by decide) rfl rfl).mono ?_
   rintro r h ⟨id,rfl,h1,h2⟩
   simp-implicitDefEqProofs[aa]
   exact⟨⟨0,id,h⟩,h1,ab (Nat.zero_le _) (by simp[below];omega)⟩
  ·refine(hv _ 2 1 (by decide) rfl rfl).mono ?_
   rintro r h ⟨id,rfl,h1,h2⟩
   simp-implicitDefEqProofs[aa]
   exact⟨⟨0,id,h⟩,h1,ab (Nat.zero_le _) (by simp[below];omega)⟩
 rintro⟨_,vid,Y⟩ hY
 simp only at hY⊢
 have hvd:=(List.getElem?_eq_some_iff.1 hY).1
 have hor:bz c.blocks=(fk c.blocks).reverse:=rfl
 rw[hor]
 generalize fk c.blocks=v at hY hvl
 have hw0:IntKind.i64.wrap ((v.length:Int)-1)=(v.length:Int)-1:=ae (by omega) (by omega)
 simp-implicitDefEqProofs[hw0]
 refine aH (λa:OrS=>aC 29 [(5,.p (.int .i64 ((v.length:Int)-1-a.m))),(4,.sl a.id 1 0 a.m),(3,.sl vid 1 0 v.length)]) (λa=>a.Y) (λa=>a.m<=v.length/\a.id≠vid/\a.Y[vid]?=some (.row 1 (aq (aF v)))/\a.Y[a.id]?=some (.row 1 (aq (aF (v.reverse.take a.m))))) (λa=>v.length-a.m) ⟨0,Y.length,_⟩ ⟨Nat.zero_le _,by simp only;omega,?_,?_⟩ (ab (Nat.zero_le _) (by simp[below];omega)) ?_
 ·simp only;rw[List.getElem?_append_left hvd];exact hY
 ·simp only;rw[List.getElem?_append_right (Nat.le_refl _),Nat.sub_self];rfl
 clear hY
 rintro⟨m,id,Z⟩ ⟨hm,hne,hz1,hz2⟩
 simp only at hm hne hz1 hz2⊢
 have hid:=(List.getElem?_eq_some_iff.1 hz2).1
 have hvd:=(List.getElem?_eq_some_iff.1 hz1).1
 simp-implicitDefEqProofs[]
 refine aG (λhcc=>?_) (λhcc=>?_)
 ·have hcc:m<v.length:=by simp at hcc;omega
  obtain⟨j,hj⟩:∃j,j=v.length-1-m:=⟨_,rfl⟩
  have hjI:(v.length:Int)-1-m=(j:Int):=by omega
  have hjl:j<v.length:=by omega
  have hgj:=List.getElem?_eq_getElem hjl
  generalize v[j]=x at hgj
  have hrj:(aq (aF v))[j]?=some [.p (.int .i64 x)]:=by simp[aq,aF,hgj]
  have htk:v.reverse.take (m+1)=v.reverse.take m++[x]:=by
   rw[List.take_add_one,List.getElem?_reverse hcc,show v.length-1-m=j by omega,hgj];rfl
  have hlt:(v.reverse.take m).length=m:=by simp;omega
  have hlr2:(aq (aF (v.reverse.take m))).length=m:=by simp[aq,aF];omega
  have htk2:List.take m (aq (aF (v.reverse.take m)))=aq (aF (v.reverse.take m)):=List.take_of_length_le (by omega)
  have hzm:∀t,(Z++t)[id]?=some (.row 1 (aq (aF (v.reverse.take m)))):=λt=>by rw[List.getElem?_append_left hid];exact hz2
  have hze:=λt hh=>ep (hzm t) hh
  have hw2:IntKind.i64.wrap ((j:Int)-1)=(v.length:Int)-1-((m+1:Nat):Int):=by rw[ae (by omega) (by omega)];omega
  rw[hjI]
  simp-implicitDefEqProofs[hz1,hjl,hrj,hzm,hze,htk2,hlr2]
  refine⟨⟨by omega,by omega⟩,⟨m+1,Z.length+1,_⟩,⟨hcc,by simp only;omega,?_,?_⟩,by simp only;omega,ab (Nat.zero_le _) ?_⟩
  ·simp only
   rw[List.getElem?_append_left (by simp;omega),List.getElem?_set_ne hne,List.getElem?_append_left hvd];exact hz1
  ·simp only
   rw[List.getElem?_append_right (by simp),htk,tr];simp[aq,aF]
  ·simp[below,hw2];omega
 ·have hcc:m=v.length:=by simp at hcc;omega
  subst hcc
  rw[List.take_of_length_le (by simp)] at hz2
  simp-implicitDefEqProofs[hz2]
end
section
variable (G:aB)
theorem Ed(xs:List Int)(hb:xs.length<=1073741824):VF Tryz.prog G iv [.p (ay xs),.p (ay xs)] (.p (.bool true)):=by
 refine AC.go tf ?_
 have hsl:∀l,ay l= .lst 1 (l.map λw=>[.int .i64 w]):=λ_=>rfl
 simp-implicitDefEqProofs[lE,hsl]
 refine aH (λi:Nat=>aC 29 [(0,.p (ay xs)),(1,.p (ay xs)),(10,.p (.int .i64 xs.length)),(11,.p (.int .i64 i))]) (λ_=>[]) (λi=>i<=xs.length) (λi=>xs.length-i) 0 (by simp) ?_ ?_
 ·exact aV rfl (by simp[below,ay])
 intro i hi
 simp-implicitDefEqProofs[hsl]
 refine aG (λh1=>?_) (λh1=>?_)
 ·simp at h1
  have hg:xs[i]?=some xs[i]:=List.getElem?_eq_getElem h1
  generalize xs[i]=x at hg
  simp-implicitDefEqProofs[hg]
  refine⟨i+1,by omega,by omega,aV rfl ?_⟩
  simp[below,ay,w1 (i:=i) (by omega)]
 ·simp at h1
  simp-implicitDefEqProofs[]
theorem Ay(xs:List Int)(k:Int)(hb:xs.length<=1073741824):VF Tryz.prog G fh [.p (ay xs),.p (.int .i64 k)] (.p (.bool (decide (k∈xs)))):=by
 refine AC.go uG ?_
 have hsl:∀l,ay l= .lst 1 (l.map λw=>[.int .i64 w]):=λ_=>rfl
 simp-implicitDefEqProofs[mP,hsl]
 refine aH (λi:Nat=>aC 17 [(1,.p (.int .i64 k)),(7,.p (ay xs)),(8,.p (.int .i64 xs.length)),(9,.p (.int .i64 i))]) (λ_=>[]) (λi=>i<=xs.length/\k∉xs.take i) (λi=>xs.length-i) 0 (by simp) ?_ ?_
 ·exact aV rfl (by simp[below,ay])
 intro i ⟨hi,hn⟩
 simp-implicitDefEqProofs[hsl]
 refine aG (λh1=>?_) (λh1=>?_)
 ·simp at h1
  have hg:xs[i]?=some xs[i]:=List.getElem?_eq_getElem h1
  have hT:xs.take (i+1)=xs.take i++[xs[i]]:=az h1
  have hm:=List.getElem_mem h1
  generalize xs[i]=x at hg hT hm
  by_cases hx:x=k
  ·subst hx
   simp-implicitDefEqProofs[hg,hm]
  ·simp-implicitDefEqProofs[hg,hx]
   refine⟨i+1,⟨by omega,?_⟩,by omega,aV rfl ?_⟩
   ·rw[hT,List.mem_append]
    rintro(h|h)
    ·exact hn h
    ·exact hx (List.mem_singleton.1 h).symm
   ·simp[below,ay,w1 (i:=i) (by omega)]
 ·simp at h1
  rw[List.take_of_length_le h1] at hn
  simp-implicitDefEqProofs[hn]
end
section
theorem Ag{bs:List Bk}:(ig bs).length<=bs.length:=by
 cases h:bF bs with
 |false=>rw[pC h];simp
 |true=>rw[iI h,cR,pB h];exact iU _ _
theorem yP{bs:List Bk}:(ig bs).length=(om bs).length:=by
 cases h:bF bs with
 |false=>rw[pC h,Cm h]
 |true=>rw[iI h,cR,pB h,jm h]
theorem AD{bs:List Bk}{i:Nat}{v:Int}(h:(ig bs)[i]?=some v):bF bs=true/\∃x:Nat,v=(x:Int)/\(bz bs)[i]?=some x/\x<bs.length:=by
 cases hf:bF bs with
 |false=>rw[pC hf] at h;simp at h
 |true=>
  rw[iI hf,aF,List.getElem?_map,Option.map_eq_some_iff] at h
  obtain⟨x,h1,h2⟩:=h
  exact⟨rfl,x,h2.symm,h1,tZ hf (List.mem_of_getElem? h1)⟩
structure OlS where (i lid:Nat) (W:List AO)
variable (G:aB)
end
section
theorem HZ(n:Nat):List.replicate n [AV.p (PV.int .i64 0)]=aq (List.replicate n 0):=by simp[aq]
variable (G:aB)
end
section
def vX(ord:List Nat)(k x:Nat):Int:=if x∈ord.take k then(ord.idxOf x:Int) else-1
noncomputable def fj (bs:List Bk) (x:Nat):Int:=vX (bz bs) (bz bs).length x
def plK(ord:List Nat)(n k:Nat):List Int:=(List.range n).map (vX ord k)
theorem Aq(ord:List Nat)(n k:Nat):(plK ord n k).length=n:=by simp[plK]
theorem Du(ord:List Nat)(n:Nat):plK ord n 0=List.replicate n (-1):=by
 rw[plK]
 refine List.ext_getElem (by simp) λi h1 h2=>?_
 simp[vX]
theorem EX{ord:List Nat}(nd:ord.Nodup){n k y:Nat}(hy:ord[k]?=some y)(hn:y<n):(plK ord n k).set y (k:Int)=plK ord n (k+1):=by
 have hk:=(List.getElem?_eq_some_iff.1 hy).1
 have hidx:ord.idxOf y=k:=by
  have h1:ord.idxOf y<ord.length:=List.idxOf_lt_length_of_mem (List.mem_of_getElem? hy)
  have h2:ord[ord.idxOf y]?=some y:=by rw[List.getElem?_eq_getElem h1,List.getElem_idxOf]
  exact tU nd h2 hy
 have ht:ord.take (k+1)=ord.take k++[y]:=by rw[List.take_add_one,hy];rfl
 refine List.ext_getElem (by simp[plK]) λi h1 h2=>?_
 rw[List.getElem_set]
 simp only[plK,List.getElem_map,List.getElem_range]
 split
 ·rename_i e
  subst e
  rw[vX,ht,if_pos (by simp),hidx]
 ·rename_i e
  rw[vX,vX,ht]
  have:i∈ord.take k++[y]↔i∈ord.take k:=by simp;omega
  simp only[this]
variable (G:aB)
theorem zK(ord:List Nat)(n:Nat)(nd:ord.Nodup)(hm:∀x∈ord,x<n)(hn:n<=1073741824)(hol:ord.length<=1073741824):VF Tryz.prog G eW [.p (.int .i64 n),.p (ay (aF ord))] (.p (ay (plK ord n ord.length))):=by
 have hLn:ay (aF ord)= .lst 1 ((aF ord).map λx=>[.int .i64 x]):=rfl
 have hLl:(aF ord).length=ord.length:=cR ord
 refine mR G ?_
 refine AC.go oT ?_
 simp-implicitDefEqProofs[jw,hLn,HZ]
 refine⟨by omega,?_⟩
 refine aH (λi:Nat=>aC 32 [(6,.p (.int .i64 i)),(5,.sl 0 1 0 n),(0,.p (.int .i64 n)),(1,.p (.lst 1 ((aF ord).map λx=>[.int .i64 x])))]) (λi=>[.row 1 (aq (List.replicate i (-1)++List.replicate (n-i) 0))]) (λi=>i<=n) (λi=>n-i) 0 (Nat.zero_le _) (ab (Nat.zero_le _) (by simp[below])) ?_
 intro i hi
 simp-implicitDefEqProofs[]
 refine aG (λhc=>?_) (λhc=>?_)
 ·have hc:i<n:=by simpa using hc
  have hwi:=w1 (i:=i) (by omega)
  have hset:(List.replicate i (-1:Int)++List.replicate (n-i) 0).set i (-1)=List.replicate (i+1) (-1)++List.replicate (n-(i+1)) 0:=by
   rw[List.set_append_right _ _ (by simp),show n-i=(n-(i+1))+1 by omega,List.replicate_succ]
   simp[List.replicate_succ']
  have hgl:(List.replicate i (-1:Int)++List.replicate (n-i) 0)[i]?=some 0:=by
   rw[List.getElem?_append_right (by simp),show n-i=(n-(i+1))+1 by omega,List.replicate_succ];simp
  have hri:(aq (List.replicate i (-1:Int)++List.replicate (n-i) 0))[i]?=some [.p (.int .i64 0)]:=by rw[aq,List.getElem?_map,hgl];rfl
  have hrl:(aq (List.replicate i (-1:Int)++List.replicate (n-i) 0)).length=n:=by simp[aq];omega
  generalize List.replicate i (-1:Int)++List.replicate (n-i) 0=Z at hset hri hrl
  simp-implicitDefEqProofs[hri,hc,oA,hset]
  exact⟨i+1,hc,by omega,ab (Nat.zero_le _) (by simp[below,hwi])⟩
 have hie:i=n:=by simp at hc;omega
 subst hie
 simp-implicitDefEqProofs[]
 rw[←Du ord]
 refine aH (λk:Nat=>aC 32 [(7,.p (.int .i64 k)),(5,.sl 0 1 0 i),(0,.p (.int .i64 i)),(1,.p (.lst 1 ((aF ord).map λx=>[.int .i64 x])))]) (λk=>[.row 1 (aq (plK ord i k))]) (λk=>k<=ord.length) (λk=>ord.length-k) 0 (Nat.zero_le _) (ab (Nat.zero_le _) (by simp[below])) ?_
 intro k hk
 simp-implicitDefEqProofs[hLl]
 refine aG (λhc2=>?_) (λhc2=>?_)
 ·have hc2:k<ord.length:=by simpa using hc2
  have hwk:=w1 (i:=k) (by omega)
  have hgk:=List.getElem?_eq_getElem hc2
  have hyn:=hm _ (List.getElem_mem hc2)
  generalize ord[k]=y at hgk hyn
  have hset:=EX nd hgk hyn
  have hLk:(aF ord)[k]?=some (y:Int):=by rw[aF,List.getElem?_map,hgk];rfl
  have hyl:y<(plK ord i k).length:=by rw[Aq];exact hyn
  have hgz:(plK ord i k)[y]?=some (plK ord i k)[y]:=List.getElem?_eq_getElem hyl
  generalize (plK ord i k)[y]=z at hgz
  have hri:(aq (plK ord i k))[y]?=some [.p (.int .i64 z)]:=by rw[aq,List.getElem?_map,hgz];rfl
  simp-implicitDefEqProofs[hLk,hri,hyn,oA,hset]
  exact⟨k+1,hc2,by omega,ab (Nat.zero_le _) (by simp[below,hwk])⟩
 ·have hke:k=ord.length:=by simp at hc2;omega
  subst hke
  simp-implicitDefEqProofs[]
  have:=cN (h:=[.row 1 (aq (plK ord i ord.length))]) (id:=0) (l:=plK ord i ord.length) rfl
  rwa[Aq] at this
end
section
def tm(bs:List Bk)(x:Nat):List Int:=match bs[x]? with|some b=>b.next|none=>[]
noncomputable def beS (bs:List Bk) (x:Nat) (S:List Int):List (List Int):=if 0<=fj bs x then(S.filter λt=>decide (fj bs t.toNat<=fj bs x)).map λt=>[(x:Int),t] else[]
noncomputable def beR (bs:List Bk) (x:Nat):List (List Int):=beS bs x (bv (inI (tm bs x)) bs.length)
noncomputable def beC (bs:List Bk):List (List Int):=if bF bs then(List.range bs.length).flatMap (beR bs) else[]
def blL(l:List (List Int)):PV:= .lst 1 (l.map λr=>[ay r])
theorem yz(bs:List Bk)(x:Nat)(S:List Int)(t:Int):beS bs x (S++[t])=beS bs x S++if 0<=fj bs x/\fj bs t.toNat<=fj bs x then[[(x:Int),t]] else[]:=by
 rw[beS,beS]
 by_cases h:0<=fj bs x
 ·simp only[h,if_true,true_and]
  rw[List.filter_append,List.map_append]
  by_cases h2:fj bs t.toNat<=fj bs x<;>simp[h2]
 ·simp[h]
theorem mZ(bs:List Bk)(x:Nat)(S:List Int):(beS bs x S).length<=S.length:=by
 rw[beS]
 split
 ·rw[List.length_map];exact List.length_filter_le _ _
 ·simp
def LOk(X:List AO)(V:AV)(l:List (List Int)):Prop:=∃id rows,V= .sl id 1 0 l.length/\X[id]?=some (AO.row 1 rows)/\rows.length=l.length/\∀(k:Nat) (r:List Int),l[k]?=some r->∃(rid:Nat) (x t:Int),rows[k]?=some [AV.sl rid 1 0 2]/\r=[x,t]/\X[rid]?=some (AO.row 1 [[.p (.int .i64 x)],[.p (.int .i64 t)]])
theorem LOk.below{X:List AO}{V:AV}{l:List (List Int)}(h:LOk X V l):Aw.below X.length V:=by
 obtain⟨id,rows,rfl,h1,_⟩:=h
 simp only[Aw.below];exact(List.getElem?_eq_some_iff.1 h1).1
theorem LOk.view{X:List AO}{V:AV}{l:List (List Int)}(h:LOk X V l):View X V (blL l):=by
 obtain⟨id,rows,rfl,h1,h2,h3⟩:=h
 refine Bq (es:=l.map λr=>[ay r]) h1 (by simpa using h2) (λe he=>?_) (λi j e q e' a a1 a2 a3 a4=>?_) (by simp)
 ·obtain⟨r,_,rfl⟩:=List.mem_map.1 he;rfl
 ·rw[List.getElem?_map,Option.map_eq_some_iff] at a1
  obtain⟨r,hr,rfl⟩:=a1
  obtain⟨rid,x,t,g1,rfl,g2⟩:=h3 i r hr
  rw[g1] at a3;cases a3
  cases j with
  |zero=>
   simp only[List.getElem?_cons_zero,Option.some.injEq] at a2 a4
   subst a2;subst a4
   exact cN (l:=[x,t]) g2
  |succ j=>simp at a2
theorem LOk.push{X:List AO}{id:Nat}{rows:List (List AV)}{l:List (List Int)}(h1:X[id]?=some (AO.row 1 rows))(h2:rows.length=l.length)(h3:∀(k:Nat) (r:List Int),l[k]?=some r->∃(rid:Nat) (x t:Int),rows[k]?=some [AV.sl rid 1 0 2]/\r=[x,t]/\X[rid]?=some (AO.row 1 [[.p (.int .i64 x)],[.p (.int .i64 t)]]))(x t:Int)(R2:AO):
 LOk ((X++[AO.row 1 [[.p (.int .i64 x)],[.p (.int .i64 t)]],R2]).set id .dead++[.row 1 (rows++[[.sl X.length 1 0 2]])]) (.sl (X.length+2) 1 0 (l.length+1)) (l++[[x,t]]):=by
 have hid:=(List.getElem?_eq_some_iff.1 h1).1
 refine⟨X.length+2,rows++[[.sl X.length 1 0 2]],by simp,by rw[List.getElem?_append_right (by simp)];simp,by simp[h2],λk r hr=>?_⟩
 by_cases hk:k<l.length
 ·rw[List.getElem?_append_left hk] at hr
  obtain⟨rid,x',t',g1,g2,g3⟩:=h3 k r hr
  refine⟨rid,x',t',by rw[List.getElem?_append_left (by omega)];exact g1,g2,?_⟩
  have hrl:=(List.getElem?_eq_some_iff.1 g3).1
  have hne:id≠rid:=by
   rintro rfl
   rw[h1] at g3
   simp only[Option.some.injEq,AO.row.injEq,true_and] at g3
   subst g3
   match k with
   |0=>simp at g1
   |1=>simp at g1
   |k+2=>simp at g1
  rw[List.getElem?_append_left (by simp;omega),List.getElem?_set_ne hne,List.getElem?_append_left hrl];exact g3
 ·rw[List.getElem?_append_right (by omega)] at hr
  have hk0:k-l.length=0:=by
   have:=(List.getElem?_eq_some_iff.1 hr).1
   simp at this;omega
  rw[hk0] at hr
  simp only[List.getElem?_cons_zero,Option.some.injEq] at hr
  subst hr
  refine⟨X.length,x,t,by rw[List.getElem?_append_right (by omega),show k-rows.length=0 by omega];rfl,rfl,?_⟩
  rw[List.getElem?_append_left (by simp<;>omega),List.getElem?_set_ne (by omega),List.getElem?_append_right (Nat.le_refl _),Nat.sub_self];rfl
def At(l:List (List Int))(m:Nat):Prop:=l.length<=m
structure BeS where (i:Nat) (V:AV) (X:List AO)
variable (G:aB)
theorem vD(c:Cd)(hc:CBd c)(hf:bF c.blocks=true):VF Tryz.prog G dd [.agg (c.cs.map .p)] (.p (ay (aF (bz c.blocks)))):=
 mR G ((uZ G c hc hf).mono λr h ⟨id,e1,e2⟩=>⟨_,e1,by rw[←cR (bz c.blocks)];exact cN e2⟩)
theorem vp(c:Cd)(hg:GCd c):VF Tryz.prog G ed [.agg (c.cs.map .p)] (.p (blL (beC c.blocks))):=by
 have hc:=hg.csm.1
 have h160:=hg.2.1
 have hcs:=c.cs_eq2
 have hbl:bkL c.blocks= .lst 5 (c.blocks.map Bk.cs):=rfl
 have h1:=Ck G c hc
 have h2:=λhf=>vD G c hc hf
 rw[hcs,hbl] at h1 h2
 refine mR G ?_
 refine AC.go og ?_
 simp-implicitDefEqProofs[iQ,hcs,hbl]
 refine h1.use ?_
 cases hfit:bF c.blocks with
 |false=>
  rw[beC,hfit]
  simp-implicitDefEqProofs[]
  exact LOk.view ⟨1,[],rfl,rfl,rfl,λk r h=>by simp at h⟩
 |true=>
  rw[beC,hfit,if_pos rfl]
  have hoo:=iA hfit
  have hol:(bz c.blocks).length<=c.blocks.length:=by rw[pB hfit];exact iU _ _
  have hPl:=zK G (bz c.blocks) c.blocks.length hoo.nd (λx hx=>tZ hfit hx) hc.1 (by omega)
  have hpg:∀x,x<c.blocks.length->(plK (bz c.blocks) c.blocks.length (bz c.blocks).length)[x]?=some (fj c.blocks x):=λx hx=>by rw[plK,List.getElem?_map,List.getElem?_range hx];rfl
  generalize plK (bz c.blocks) c.blocks.length (bz c.blocks).length=P at hPl hpg
  have hPn:ay P= .lst 1 (P.map λn=>[.int .i64 n]):=rfl
  simp-implicitDefEqProofs[]
  refine(h2 hfit).use ?_
  simp-implicitDefEqProofs[]
  refine hPl.use ?_
  simp-implicitDefEqProofs[hPn]
  refine aH (λa:BeS=>aC 68 [(5,.p (.int .i64 a.i)),(4,.p (.lst 1 (P.map λn=>[.int .i64 n]))),(3,a.V),(1,.ptr 0 3 0 0)]) (λa=>a.X)
   (λa=>a.i<=c.blocks.length/\a.X[0]?=some (AO.row 3 [[.p (.int .i64 c.params),.p (.int .i64 c.regs),.p (.lst 5 (c.blocks.map Bk.cs))]])/\LOk a.X a.V ((List.range a.i).flatMap (beR c.blocks))/\At ((List.range a.i).flatMap (beR c.blocks)) (a.i*c.blocks.length)) (λa=>c.blocks.length-a.i) ⟨0,.sl 1 1 0 0,_⟩ ⟨Nat.zero_le _,rfl,⟨1,[],rfl,rfl,rfl,λk r h=>by simp at h⟩,Nat.zero_le _⟩ (ab (Nat.zero_le _) (by simp[below])) ?_
  rintro⟨i,V,X⟩ ⟨hi,g0,hV,hlen⟩
  simp only at hi g0 hV hlen
  have hlen:((List.range i).flatMap (beR c.blocks)).length<=i*c.blocks.length:=hlen
  have h0l:=(List.getElem?_eq_some_iff.1 g0).1
  have hVb:=hV.below
  simp-implicitDefEqProofs[g0]
  refine aG (λhcc=>?_) (λhcc=>?_)
  ·have hcc:i<c.blocks.length:=by simpa using hcc
   have hwi:=w1 (i:=i) (by omega)
   have hx:=List.getElem?_eq_getElem hcc
   have hmem:=List.getElem_mem hcc
   generalize c.blocks[i]=x at hx hmem
   have hxs:=x.cs_eq2
   have hnl:ay x.next= .lst 1 (x.next.map λn=>[.int .i64 n]):=rfl
   have hx2:=hg.2.2 x hmem
   have hin:∀n∈x.next,0<=n/\n.toNat<c.blocks.length:=λn hn=>by have:=js hfit hx hn;omega
   have hSo:=uW G x.next c.blocks.length hc.1 (by omega) hin
   rw[hnl] at hSo
   have hsi:∀t∈bv (inI x.next) c.blocks.length,0<=t/\t.toNat<c.blocks.length:=λt ht=>by
    have:=kq ht;omega
   have hsl:=iU (inI x.next) c.blocks.length
   have hbr:beR c.blocks i=beS c.blocks i (bv (inI x.next) c.blocks.length):=by rw[beR,tm,hx]
   have hrs:(List.range (i+1)).flatMap (beR c.blocks)=(List.range i).flatMap (beR c.blocks)++beS c.blocks i (bv (inI x.next) c.blocks.length):=by rw[List.range_succ,List.flatMap_append,←hbr];simp
   generalize (List.range i).flatMap (beR c.blocks)=L0 at hV hlen hrs
   generalize bv (inI x.next) c.blocks.length=S at hSo hsi hsl hrs
   have hSn:ay S= .lst 1 (S.map λn=>[.int .i64 n]):=rfl
   have hp0:=hpg i hcc
   have hmul:(i+1)*c.blocks.length<=160*160:=Nat.mul_le_mul (by omega) h160
   rw[Nat.succ_mul] at hmul
   simp-implicitDefEqProofs[g0,hx,hxs,hnl]
   refine hSo.use ?_
   simp-implicitDefEqProofs[hSn]
   refine aH (λa:BeS=>aC 68 [(7,.p (.int .i64 a.i)),(6,.p (.lst 1 (S.map λn=>[.int .i64 n]))),(5,.p (.int .i64 i)),(4,.p (.lst 1 (P.map λn=>[.int .i64 n]))),(3,a.V),(1,.ptr 0 3 0 0)]) (λa=>a.X)
    (λa=>a.i<=S.length/\a.X[0]?=some (AO.row 3 [[.p (.int .i64 c.params),.p (.int .i64 c.regs),.p (.lst 5 (c.blocks.map Bk.cs))]])/\LOk a.X a.V (L0++beS c.blocks i (S.take a.i))) (λa=>S.length-a.i) ⟨0,V,X⟩ ⟨Nat.zero_le _,g0,by simpa[beS] using hV⟩ (ab (Nat.zero_le _) (by simp[below,hVb];omega)) ?_
   clear g0 h0l hV hVb
   rintro⟨j,V2,Y⟩ ⟨hj,g0,hV⟩
   simp only at hj g0 hV
   have h0l:=(List.getElem?_eq_some_iff.1 g0).1
   have hVb:=hV.below
   simp-implicitDefEqProofs[]
   refine aG (λhc2=>?_) (λhc2=>?_)
   ·have hc2:j<S.length:=by simpa using hc2
    have hwj:=w1 (i:=j) (by omega)
    have hgj:=List.getElem?_eq_getElem hc2
    have hti:=hsi _ (List.getElem_mem hc2)
    generalize S[j]=t at hgj hti
    have htk:S.take (j+1)=S.take j++[t]:=by rw[List.take_add_one,hgj];rfl
    have hbs:=yz c.blocks i (S.take j) t
    rw[←htk] at hbs
    have hbl2:=mZ c.blocks i (S.take j)
    rw[List.length_take] at hbl2
    have hpt:=hpg t.toNat hti.2
    by_cases hp1:0<=fj c.blocks i
    ·by_cases hp2:fj c.blocks t.toNat<=fj c.blocks i
     ·rw[if_pos ⟨hp1,hp2⟩] at hbs
      obtain⟨id,rows,rfl,e1,e2,e3⟩:=hV
      have hidl:=(List.getElem?_eq_some_iff.1 e1).1
      have hll:(L0++beS c.blocks i (S.take j)).length<=51200:=by rw[List.length_append];omega
      have hpu:=LOk.push e1 e2 e3 (i:Int) t (.row 1 [[.sl Y.length 1 0 2]])
      rw[List.append_assoc,←hbs,←e2] at hpu
      rw[←e2] at hll
      rw[←e2]
      simp-implicitDefEqProofs[hp0,hp1,hgj,hpt,hp2,hti.1]
      have hgm:∀t,(Y++t)[id]?=some (.row 1 rows):=λt=>by rw[List.getElem?_append_left hidl];exact e1
      have htt:List.take rows.length rows=rows:=List.take_length
      simp-implicitDefEqProofs[hgm,htt]
      refine⟨⟨by omega,by omega⟩,⟨j+1,.sl (Y.length+2) 1 0 (rows.length+1),_⟩,⟨hc2,?_,hpu⟩,by simp only;omega,ab (Nat.zero_le _) (by simp[below,hwj])⟩
      have hid0:id≠0:=by
       rintro rfl
       rw[e1] at g0
       simp at g0
      simp only
      rw[List.getElem?_append_left (by simp),List.getElem?_set_ne hid0,List.getElem?_append_left h0l];exact g0
     ·rw[if_neg (by omega),List.append_nil] at hbs
      simp-implicitDefEqProofs[hp0,hp1,hgj,hpt,hp2,hti.1]
      exact⟨⟨j+1,V2,Y⟩,⟨hc2,g0,by simp only[hbs];exact hV⟩,by simp only;omega,ab (Nat.zero_le _) (by simp[below,hwj,hVb];omega)⟩
    ·rw[if_neg (by omega),List.append_nil] at hbs
     simp-implicitDefEqProofs[hp0,hp1]
     exact⟨⟨j+1,V2,Y⟩,⟨hc2,g0,by simp only[hbs];exact hV⟩,by simp only;omega,ab (Nat.zero_le _) (by simp[below,hwj,hVb];omega)⟩
   ·have hje:S.length<=j:=by simpa using hc2
    rw[List.take_of_length_le hje] at hV
    have hbl2:=mZ c.blocks i S
    simp-implicitDefEqProofs[]
    refine⟨⟨i+1,V2,Y⟩,⟨hcc,g0,by simp only[hrs];exact hV,?_⟩,by simp only;omega,ab (Nat.zero_le _) (by simp[below,hwi,hVb];omega)⟩
    rw[At,hrs,List.length_append,Nat.succ_mul];omega
  ·have hie:i=c.blocks.length:=by simp at hcc;omega
   subst hie
   simp-implicitDefEqProofs[]
   exact hV.view
end
section
def mE:List Nat->Nat->List (PV × AV)
 |[],_=>[]
 |y::r,o=>(.int .i64 y,.p (.int .i64 o))::mE r (o+1)
theorem Dg(x:Nat):∀(l:List Nat) (o:Nat),ff (.int .i64 x) (mE l o)=some (if x∈l then some (.p (.int .i64 ((o+l.idxOf x:Nat):Int))) else none)
 |[],_=>rfl
 |y::r,o=>by
  rw[mE,ff]
  by_cases h:x=y
  ·subst h;simp[keq]
  ·have h1:¬(x:Int)=(y:Int):=by omega
   have h2:¬y=x:=λe=>h e.symm
   simp only[keq,if_true,h1,decide_false,Dg x r (o+1),List.mem_cons,h,false_or]
   rw[List.idxOf_cons]
   by_cases hm:x∈r
   ·have hb:(y==x)=false:=by simpa using h2
    simp[hm,hb];omega
   ·simp[hm]
theorem AY(y:Nat):∀(l:List Nat) (o:Nat),mE (l++[y]) o=mE l o++[(.int .i64 y,.p (.int .i64 ((o+l.length:Nat):Int)))]
 |[],_=>rfl
 |x::r,o=>by
  rw[List.cons_append,mE,mE,AY y r (o+1),List.cons_append,List.length_cons]
  have:o+1+r.length=o+(r.length+1):=by omega
  rw[this]
theorem EP(y:Nat)(v:AV):∀(l:List Nat) (o:Nat),y∉l->jC (.int .i64 y) v (mE l o)=some (mE l o++[(.int .i64 y,v)])
 |[],_,_=>rfl
 |x::r,o,h=>by
  have h1:¬(y:Int)=(x:Int):=by
   have:¬y=x:=λe=>h (by simp[e])
   omega
  rw[mE,jC]
  simp only[keq,if_true,h1,decide_false]
  rw[EP y v r (o+1) (λe=>h (by simp[e]))]
  rfl
theorem pE{bs:List Bk}{x:Nat}(h:x∈bz bs):fj bs x=((bz bs).idxOf x:Int):=by rw[fj,vX,List.take_length,if_pos h]
theorem EO{bs:List Bk}{x:Nat}(h:x∉bz bs):fj bs x= -1:=by rw[fj,vX,List.take_length,if_neg h]
theorem AJ{bs:List Bk}(hfit:bF bs=true){x:Nat}(h:jD bs x=false):beR bs x=[]:=by
 have:x∉bz bs:=λe=>by rw[((iA hfit).mem x).1 e] at h;cases h
 rw[beR,beS,EO this];rfl
theorem dy{α:Type}(f:Nat->List α)(p:Nat->Bool)(h:∀x,p x=false->f x=[]):∀l:List Nat,(l.filter p).flatMap f=l.flatMap f
 |[]=>rfl
 |a::t=>by
  rw[List.filter_cons]
  cases e:p a with
  |true=>simp[dy f p h t]
  |false=>simp[dy f p h t,h a e]
theorem LOk.first(X:List AO)(x t:Int)(R2:AO):LOk (X++[AO.row 1 [[.p (.int .i64 x)],[.p (.int .i64 t)]],R2,.row 1 [[.sl X.length 1 0 2]]]) (.sl (X.length+2) 1 0 1) [[x,t]]:=by
 refine⟨X.length+2,[[.sl X.length 1 0 2]],rfl,by rw[List.getElem?_append_right (by omega),Nat.add_sub_cancel_left];rfl,rfl,λk r hr=>?_⟩
 cases k with
 |zero=>
  simp only[List.getElem?_cons_zero,Option.some.injEq] at hr
  subst hr
  exact⟨X.length,x,t,rfl,rfl,by rw[List.getElem?_append_right (Nat.le_refl _),Nat.sub_self];rfl⟩
 |succ k=>simp at hr
def LOn(X:List AO)(V:AV)(l:List (List Int)):Prop:=(V= .nils/\l=[])\/LOk X V l
theorem LOn.below{X:List AO}{V:AV}{l:List (List Int)}(h:LOn X V l):Aw.below X.length V:=by
 rcases h with⟨rfl,_⟩|h
 ·simp[Aw.below]
 ·exact h.below
theorem LOn.view{X:List AO}{V:AV}{l:List (List Int)}(h:LOn X V l):View X V (blL l):=by
 rcases h with⟨rfl,rfl⟩|h
 ·exact .nils 1
 ·exact h.view
variable (G:aB)
theorem yE(c:Cd)(hg:GCd c):VF Tryz.prog G ee [.agg (c.cs.map .p)] (.p (blL (beC c.blocks))):=by
 have hc:=hg.csm.1
 have h160:=hg.2.1
 have hcs:=c.cs_eq2
 have hbl:bkL c.blocks= .lst 5 (c.blocks.map Bk.cs):=rfl
 have hO:=tA G c hc
 rw[hcs,hbl] at hO
 have hol:(ig c.blocks).length<=c.blocks.length:=Ag
 have hOn:=EI G (ig c.blocks) (by omega)
 have hLn:ay (ig c.blocks)= .lst 1 ((ig c.blocks).map λn=>[.int .i64 n]):=rfl
 refine mR G ?_
 refine AC.go ox ?_
 simp-implicitDefEqProofs[iN,hcs,hbl]
 refine hO.use ?_
 rw[hLn] at hOn
 rw[hLn]
 cases hfit:bF c.blocks with
 |false=>
  have he:=pC hfit
  rw[beC,hfit]
  rw[he] at hOn⊢
  have ho0:lc []=[]:=by rw[rk (n:=0) (λx hx=>by cases hx)];rfl
  rw[ho0] at hOn
  have hnn:ay []= .lst 1 []:=rfl
  simp-implicitDefEqProofs[]
  refine aH (λ_:Unit=>aC 61 [(17,.p (.int .i64 0)),(16,.p (.int .i64 0)),(3,.p (.lst 1 [])),(4,.mp 1),(1,.ptr 0 3 0 0)]) (λ_=>[AO.row 3 [[.p (.int .i64 c.params),.p (.int .i64 c.regs),.p (.lst 5 (c.blocks.map Bk.cs))]],.mp []]) (λ_=>True) (λ_=>0) () trivial (ab (Nat.zero_le _) (by simp[below])) ?_
  intro _ _
  simp-implicitDefEqProofs[]
  refine VF.use hOn ?_
  simp-implicitDefEqProofs[hnn]
  refine aH (λ_:Unit=>aC 61 [(29,.p (.int .i64 0)),(28,.p (.int .i64 0)),(27,.p (.lst 1 [])),(7,.nils)]) (λ_=>[]) (λ_=>True) (λ_=>0) () trivial (aV rfl (by simp[below])) ?_
  intro _ _
  simp-implicitDefEqProofs[]
  exact .nils 1
 |true=>
  have hoo:=iA hfit
  have hon:lc (ig c.blocks)=aF ((List.range c.blocks.length).filter (jD c.blocks)):=by
   rw[iI hfit,rk (n:=c.blocks.length) λx hx=>by
    obtain⟨y,hy,rfl⟩:=List.mem_map.1 hx
    exact⟨Int.natCast_nonneg y,by simpa using tZ hfit hy⟩]
   rw[Gn hfit λx=>nH,jm hfit];rfl
  rw[hon] at hOn
  have hCe:beC c.blocks=((List.range c.blocks.length).filter (jD c.blocks)).flatMap (beR c.blocks):=by
   rw[beC,if_pos hfit,dy _ _ λx hx=>AJ hfit hx]
  rw[hCe]
  have hRm:∀x∈(List.range c.blocks.length).filter (jD c.blocks),x<c.blocks.length/\x∈bz c.blocks:=λx hx=>by
   rw[List.mem_filter,List.mem_range] at hx
   exact⟨hx.1,(hoo.mem x).2 hx.2⟩
  have hRl:((List.range c.blocks.length).filter (jD c.blocks)).length<=c.blocks.length:=by
   have:=List.length_filter_le (jD c.blocks) (List.range c.blocks.length)
   rwa[List.length_range] at this
  generalize (List.range c.blocks.length).filter (jD c.blocks)=R at hOn hRm hRl
  rw[iI hfit] at hOn hol⊢
  have hstep:∀x∈bz c.blocks,∀y∈nxC c.blocks x,y∈bz c.blocks:=λx hx y hy=>(hoo.mem y).2 (vo ((hoo.mem x).1 hx) hy)
  have hpi:=λx=> @pE c.blocks x
  have hnd:=hoo.nd
  generalize bz c.blocks=Q at hOn hol hRm hstep hpi hnd
  rw[cR] at hol
  have hQl:=cR Q
  simp-implicitDefEqProofs[]
  refine aH (λk:Nat=>aC 61 [(17,.p (.int .i64 k)),(16,.p (.int .i64 Q.length)),(15,.p (.lst 1 ((aF Q).map λn=>[.int .i64 n]))),(3,.p (.lst 1 ((aF Q).map λn=>[.int .i64 n]))),(4,.mp 1),(1,.ptr 0 3 0 0)]) (λk=>[AO.row 3 [[.p (.int .i64 c.params),.p (.int .i64 c.regs),.p (.lst 5 (c.blocks.map Bk.cs))]],.mp (mE (Q.take k) 0)]) (λk=>k<=Q.length) (λk=>Q.length-k) 0 (Nat.zero_le _) (ab (Nat.zero_le _) (by simp[below,hQl,mE])) ?_
  intro k hk
  simp-implicitDefEqProofs[]
  refine aG (λhc2=>?_) (λhc2=>?_)
  ·have hc2:k<Q.length:=by simpa using hc2
   have hwk:=w1 (i:=k) (by omega)
   have hgk:=List.getElem?_eq_getElem hc2
   generalize Q[k]=y at hgk
   have hLk:(aF Q)[k]?=some (y:Int):=by rw[aF,List.getElem?_map,hgk];rfl
   have hfr:y∉Q.take k:=λhm=>by
    obtain⟨j,hj,e⟩:=List.mem_take_iff_getElem.1 hm
    have:=tU hnd (show Q[j]?=some y by rw[←e];exact List.getElem?_eq_getElem _) hgk
    omega
   have htk:Q.take (k+1)=Q.take k++[y]:=by rw[List.take_add_one,hgk];rfl
   have hms:=EP y (.p (.int .i64 k)) (Q.take k) 0 hfr
   have hsn:=AY y (Q.take k) 0
   rw[←htk,List.length_take,Nat.min_eq_left (by omega),Nat.zero_add] at hsn
   rw[←hsn] at hms
   simp-implicitDefEqProofs[hLk,hms]
   exact⟨k+1,hc2,by omega,ab (Nat.zero_le _) (by simp[below,hwk])⟩
  ·have hke:k=Q.length:=by simp at hc2;omega
   subst hke
   rw[List.take_length]
   simp-implicitDefEqProofs[]
   refine VF.use hOn ?_
   have hRn:ay (aF R)= .lst 1 ((aF R).map λn=>[.int .i64 n]):=rfl
   have hRll:=cR R
   simp-implicitDefEqProofs[hRn]
   have hmg:=λx=>Dg x Q 0
   simp only[Nat.zero_add] at hmg
   refine aH (λa:BeS=>aC 61 [(29,.p (.int .i64 a.i)),(28,.p (.int .i64 R.length)),(27,.p (.lst 1 ((aF R).map λn=>[.int .i64 n]))),(7,a.V),(4,.mp 1),(1,.ptr 0 3 0 0)]) (λa=>a.X)
    (λa=>a.i<=R.length/\a.X[0]?=some (AO.row 3 [[.p (.int .i64 c.params),.p (.int .i64 c.regs),.p (.lst 5 (c.blocks.map Bk.cs))]])/\a.X[1]?=some (.mp (mE Q 0))/\LOn a.X a.V ((R.take a.i).flatMap (beR c.blocks))/\At ((R.take a.i).flatMap (beR c.blocks)) (a.i*c.blocks.length)) (λa=>R.length-a.i) ⟨0,.nils,_⟩ ⟨Nat.zero_le _,rfl,rfl,.inl ⟨rfl,rfl⟩,Nat.zero_le _⟩ (ab (Nat.zero_le _) (by simp[below,hRll])) ?_
   rintro⟨i,V,X⟩ ⟨hi,g0,g1,hV,hlen⟩
   simp only at hi g0 g1 hV hlen
   have hlen:((R.take i).flatMap (beR c.blocks)).length<=i*c.blocks.length:=hlen
   have h1l:=(List.getElem?_eq_some_iff.1 g1).1
   have hVb:=hV.below
   simp-implicitDefEqProofs[g0]
   refine aG (λhcc=>?_) (λhcc=>?_)
   ·have hcc:i<R.length:=by simpa using hcc
    have hwi:=w1 (i:=i) (by omega)
    have hgi:=List.getElem?_eq_getElem hcc
    have hxm:=hRm _ (List.getElem_mem hcc)
    generalize R[i]=w at hgi hxm
    have hLi:(aF R)[i]?=some (w:Int):=by rw[aF,List.getElem?_map,hgi];rfl
    have htkR:R.take (i+1)=R.take i++[w]:=by rw[List.take_add_one,hgi];rfl
    have hx:=List.getElem?_eq_getElem hxm.1
    have hmem:=List.getElem_mem hxm.1
    generalize c.blocks[w]=x at hx hmem
    have hxs:=x.cs_eq2
    have hge:=λhh=>ep hx hh
    have hnl:ay x.next= .lst 1 (x.next.map λn=>[.int .i64 n]):=rfl
    have hx2:=hg.2.2 x hmem
    have hin:∀n∈x.next,0<=n/\n.toNat<c.blocks.length:=λn hn=>by have:=js hfit hx hn;omega
    have hOx:=EI G x.next (by omega)
    rw[rk hin,hnl] at hOx
    have hsi:∀t∈bv (inI x.next) c.blocks.length,0<=t/\t.toNat∈Q:=λt ht=>by
     obtain⟨f1,f2,f3,f4⟩:=kq ht
     refine⟨f1,hstep w hxm.2 _ ?_⟩
     rw[inI,decide_eq_true_iff,f4] at f3
     rw[iP hx,List.mem_map]
     exact⟨t,f3,rfl⟩
    have hsl:=iU (inI x.next) c.blocks.length
    have hbr:beR c.blocks w=beS c.blocks w (bv (inI x.next) c.blocks.length):=by rw[beR,tm,hx]
    have hrs:(R.take (i+1)).flatMap (beR c.blocks)=(R.take i).flatMap (beR c.blocks)++beS c.blocks w (bv (inI x.next) c.blocks.length):=by rw[htkR,List.flatMap_append,←hbr];simp
    generalize (R.take i).flatMap (beR c.blocks)=L0 at hV hlen hrs
    generalize bv (inI x.next) c.blocks.length=S at hOx hsi hsl hrs
    have hSn:ay S= .lst 1 (S.map λn=>[.int .i64 n]):=rfl
    have hmw:=hmg w
    rw[if_pos hxm.2] at hmw
    have hpw:=hpi w hxm.2
    have hp1:0<=fj c.blocks w:=by rw[hpw];omega
    rw[←hpw] at hmw
    have hmul:(i+1)*c.blocks.length<=160*160:=Nat.mul_le_mul (by omega) h160
    rw[Nat.succ_mul] at hmul
    simp-implicitDefEqProofs[g0,hLi,hx,hge,hxs,hnl,hxm.1]
    refine VF.use hOx ?_
    simp-implicitDefEqProofs[hSn]
    refine aH (λa:BeS=>aC 61 [(41,.p (.int .i64 a.i)),(40,.p (.int .i64 S.length)),(39,.p (.lst 1 (S.map λn=>[.int .i64 n]))),(9,.p (.int .i64 w)),(29,.p (.int .i64 i)),(28,.p (.int .i64 R.length)),(27,.p (.lst 1 ((aF R).map λn=>[.int .i64 n]))),(7,a.V),(4,.mp 1),(1,.ptr 0 3 0 0)]) (λa=>a.X)
     (λa=>a.i<=S.length/\a.X[0]?=some (AO.row 3 [[.p (.int .i64 c.params),.p (.int .i64 c.regs),.p (.lst 5 (c.blocks.map Bk.cs))]])/\a.X[1]?=some (.mp (mE Q 0))/\LOn a.X a.V (L0++beS c.blocks w (S.take a.i))) (λa=>S.length-a.i) ⟨0,V,X⟩ ⟨Nat.zero_le _,g0,g1,by simpa[beS] using hV⟩ (ab (Nat.zero_le _) (by simp[below,hVb];omega)) ?_
    clear g0 g1 h1l hV hVb
    rintro⟨j,V2,Y⟩ ⟨hj,g0,g1,hV⟩
    simp only at hj g0 g1 hV
    have h1l:=(List.getElem?_eq_some_iff.1 g1).1
    have hVb:=hV.below
    simp-implicitDefEqProofs[]
    refine aG (λhc2=>?_) (λhc2=>?_)
    ·have hc2:j<S.length:=by simpa using hc2
     have hwj:=w1 (i:=j) (by omega)
     have hgj:=List.getElem?_eq_getElem hc2
     have hti:=hsi _ (List.getElem_mem hc2)
     generalize S[j]=t at hgj hti
     obtain⟨ht0,htQ⟩:=hti
     obtain⟨u,rfl⟩:∃u:Nat,t=(u:Int):=⟨t.toNat,by omega⟩
     rw[Int.toNat_natCast] at htQ
     have hmu:=hmg u
     rw[if_pos htQ,←hpi u htQ] at hmu
     have htk:S.take (j+1)=S.take j++[(u:Int)]:=by rw[List.take_add_one,hgj];rfl
     have hbs:=yz c.blocks w (S.take j) u
     rw[←htk,Int.toNat_natCast] at hbs
     have hbl2:=mZ c.blocks w (S.take j)
     rw[List.length_take] at hbl2
     by_cases hp2:fj c.blocks u<=fj c.blocks w
     ·rw[if_pos ⟨hp1,hp2⟩] at hbs
      rcases hV with⟨rfl,hn⟩|⟨id,rows,rfl,e1,e2,e3⟩
      ·have hpu:=LOk.first Y (w:Int) u (.row 1 [[.sl Y.length 1 0 2]])
       have hbs2:L0++beS c.blocks w (S.take (j+1))=[[(w:Int),(u:Int)]]:=by rw[hbs,←List.append_assoc,hn];rfl
       simp-implicitDefEqProofs[hgj,g1,hmu,hmw,hp2]
       refine⟨⟨j+1,.sl (Y.length+2) 1 0 1,_⟩,⟨hc2,?_,?_,.inr (by simp only[hbs2];exact hpu)⟩,by simp only;omega,ab (Nat.zero_le _) (by simp[below,hwj])⟩
       ·simp only;rw[List.getElem?_append_left (by omega)];exact g0
       ·simp only;rw[List.getElem?_append_left (by omega)];exact g1
      ·have hidl:=(List.getElem?_eq_some_iff.1 e1).1
       have hll:(L0++beS c.blocks w (S.take j)).length<=51200:=by rw[List.length_append];omega
       have hpu:=LOk.push e1 e2 e3 (w:Int) u (.row 1 [[.sl Y.length 1 0 2]])
       rw[List.append_assoc,←hbs,←e2] at hpu
       rw[←e2] at hll
       rw[←e2]
       have hgm:∀t,(Y++t)[id]?=some (.row 1 rows):=λt=>by rw[List.getElem?_append_left hidl];exact e1
       have htt:List.take rows.length rows=rows:=List.take_length
       simp-implicitDefEqProofs[hgj,g1,hmu,hmw,hp2,hgm,htt]
       refine⟨⟨by omega,by omega⟩,⟨j+1,.sl (Y.length+2) 1 0 (rows.length+1),_⟩,⟨hc2,?_,?_,.inr hpu⟩,by simp only;omega,ab (Nat.zero_le _) (by simp[below,hwj])⟩
       ·have hid0:id≠0:=by
         rintro rfl
         rw[e1] at g0
         simp at g0
        simp only
        rw[List.getElem?_append_left (by simp),List.getElem?_set_ne hid0,List.getElem?_append_left (by omega)];exact g0
       ·have hid1:id≠1:=by
         rintro rfl
         rw[e1] at g1
         simp at g1
        simp only
        rw[List.getElem?_append_left (by simp),List.getElem?_set_ne hid1,List.getElem?_append_left (by omega)];exact g1
     ·rw[if_neg (by omega),List.append_nil] at hbs
      simp-implicitDefEqProofs[hgj,g1,hmu,hmw,hp2]
      exact⟨⟨j+1,V2,Y⟩,⟨hc2,g0,g1,by simp only[hbs];exact hV⟩,by simp only;omega,ab (Nat.zero_le _) (by simp[below,hwj,hVb];omega)⟩
    ·have hje:S.length<=j:=by simpa using hc2
     rw[List.take_of_length_le hje] at hV
     have hbl2:=mZ c.blocks w S
     simp-implicitDefEqProofs[]
     refine⟨⟨i+1,V2,Y⟩,⟨hcc,g0,g1,by simp only[hrs];exact hV,?_⟩,by simp only;omega,ab (Nat.zero_le _) (by simp[below,hwi,hVb];omega)⟩
     rw[At,hrs,List.length_append,Nat.succ_mul];omega
   ·have hie:R.length<=i:=by simpa[hRll] using hcc
    rw[List.take_of_length_le hie] at hV
    simp-implicitDefEqProofs[]
    exact hV.view
end
section
theorem Dm:∀{S l:List Int},S.Pairwise (· < ·)->(∀x∈S,x∈l)->S.length<=l.length
 |[],_,_,_=>Nat.zero_le _
 |x::t,l,hp,h=>by
  obtain⟨a,b,rfl⟩:=List.append_of_mem (h x (by simp))
  rw[List.pairwise_cons] at hp
  have:=Dm (l:=a++b) hp.2 λy hy=>by
   have h1:=h y (by simp[hy])
   have h2:=hp.1 y hy
   simp only[List.mem_append,List.mem_cons] at h1⊢
   rcases h1 with h1|h1|h1
   ·exact .inl h1
   ·omega
   ·exact .inr h1
  simp only[List.length_append,List.length_cons] at this⊢
  omega
theorem Af{α:Type}(f:Nat->List α):∀l:List Nat,(∀x∈l,(f x).length<=2)->(l.flatMap f).length<=2*l.length
 |[],_=>by simp
 |a::t,h=>by
  have h1:=h a (by simp)
  have h2:=Af f t λx hx=>h x (by simp[hx])
  rw[List.flatMap_cons,List.length_append,List.length_cons];omega
theorem BL(p:Nat->Bool)(n:Nat):(bv p n).Pairwise (· < ·):=by
 rw[bv,List.pairwise_map]
 refine List.Pairwise.imp (R:=(· < ·)) (λh=>Int.ofNat_lt.2 h) ?_
 exact List.Pairwise.sublist List.filter_sublist List.pairwise_lt_range
theorem be_mem{bs:List Bk}{r:List Int}:r∈beC bs↔bF bs=true/\∃(x t:Nat),r=[(x:Int),(t:Int)]/\x<bs.length/\t<bs.length/\0<=fj bs x/\(t:Int)∈tm bs x/\fj bs t<=fj bs x:=by
 cases hf:bF bs with
 |false=>rw[beC,hf];simp
 |true=>
  rw[beC,if_pos hf,List.mem_flatMap]
  constructor
  ·rintro⟨x,hx,hr⟩
   rw[List.mem_range] at hx
   rw[beR,beS] at hr
   split at hr
   ·rename_i h0
    rw[List.mem_map] at hr
    obtain⟨t,ht,rfl⟩:=hr
    rw[List.mem_filter,decide_eq_true_iff] at ht
    obtain⟨f1,f2,f3,f4⟩:=kq ht.1
    rw[inI,decide_eq_true_iff,f4] at f3
    exact⟨rfl,x,t.toNat,by rw[f4],hx,f2,h0,by rw[f4];exact f3,ht.2⟩
   ·cases hr
  ·rintro⟨_,x,t,rfl,hx,ht,h0,h1,h2⟩
   refine⟨x,List.mem_range.2 hx,?_⟩
   rw[beR,beS,if_pos h0,List.mem_map]
   refine⟨(t:Int),?_,rfl⟩
   rw[List.mem_filter,decide_eq_true_iff,Int.toNat_natCast]
   exact⟨mem_fltI.2 ⟨ht,by rw[inI,decide_eq_true_iff];exact h1⟩,h2⟩
theorem Ho{bs:List Bk}(hb:∀x∈bs,x.next.length<=2):(beC bs).length<=2*(ig bs).length:=by
 cases hf:bF bs with
 |false=>rw[beC,hf];simp
 |true=>
  rw[yP,jm hf,beC,if_pos hf,←dy (beR bs) (jD bs) λx hx=>AJ hf hx,bv,List.length_map]
  refine Af _ _ λx _=>?_
  refine Nat.le_trans (mZ bs x _) ?_
  rw[tm]
  split
  ·rename_i b hx
   refine Nat.le_trans (Dm (BL _ _) λy hy=>?_) (hb b (List.mem_of_getElem? hx))
   obtain⟨f1,f2,f3,f4⟩:=kq hy
   rwa[inI,decide_eq_true_iff,f4] at f3
  ·rw[nL λi _=>by rw[inI];simp]
   simp
def EV(r:List Int):Int:=r.headD 0*1000+r.getD 1 0
theorem GM{bs:List Bk}(h160:bs.length<=160){i x:Nat}{b:Bk}(hi:(ig bs)[i]?=some (x:Int))(hx:bs[x]?=some b){t:Int}(ht:t∈b.next):decide ((x:Int)*1000+t∈(beC bs).map EV)=decide (t∈(ig bs).take (i+1)):=by
 obtain⟨hf,y,e,hy,hyl⟩:=AD hi
 have:y=x:=by omega
 subst this
 have htb:=js hf hx ht
 obtain⟨u,rfl⟩:∃u:Nat,t=(u:Int):=⟨t.toNat,by omega⟩
 have hul:u<bs.length:=by omega
 have hnd:=(iA hf).nd
 have hyo:=List.mem_of_getElem? hy
 have hidx:∀{z k:Nat},(bz bs)[k]?=some z->(bz bs).idxOf z=k:=λ{z k} hz=>by
  have h1:(bz bs).idxOf z<(bz bs).length:=List.idxOf_lt_length_of_mem (List.mem_of_getElem? hz)
  have h2:(bz bs)[(bz bs).idxOf z]?=some z:=by rw[List.getElem?_eq_getElem h1,List.getElem_idxOf]
  exact tU hnd h2 hz
 have hpy:fj bs y=(i:Int):=by rw[pE hyo,hidx hy]
 have huo:u∈bz bs:=((iA hf).mem u).2 (vo (((iA hf).mem y).1 hyo) (by rw[iP hx,List.mem_map];exact⟨(u:Int),ht,by simp⟩))
 rw[Bool.eq_iff_iff,decide_eq_true_iff,decide_eq_true_iff,List.mem_map,iI hf,aF,←List.map_take]
 have h2:(u:Int)∈List.map Int.ofNat (List.take (i+1) (bz bs))↔u∈(bz bs).take (i+1):=nH
 rw[h2]
 constructor
 ·rintro⟨r,hr,he⟩
  obtain⟨_,a,c,rfl,ha,hc,h0,h1,h3⟩:=be_mem.1 hr
  have he:(a:Int)*1000+(c:Int)=(y:Int)*1000+(u:Int):=he
  have hay:a=y:=by omega
  have hcu:c=u:=by omega
  subst hay;subst hcu
  rw[hpy,pE huo] at h3
  have h4:(bz bs).idxOf c<(bz bs).length:=List.idxOf_lt_length_of_mem huo
  have h5:(bz bs)[(bz bs).idxOf c]?=some c:=by rw[List.getElem?_eq_getElem h4,List.getElem_idxOf]
  exact List.mem_take_iff_getElem.2 ⟨(bz bs).idxOf c,by omega,by rw[List.getElem_idxOf]⟩
 ·intro hm
  obtain⟨j,hj,e2⟩:=List.mem_take_iff_getElem.1 hm
  have hjj:(bz bs)[j]?=some u:=by rw[←e2];exact List.getElem?_eq_getElem _
  refine⟨[(y:Int),(u:Int)],be_mem.2 ⟨hf,y,u,rfl,hyl,hul,by omega,by rw[tm,hx];exact ht,?_⟩,rfl⟩
  rw[hpy,pE huo,hidx hjj];omega
end
section
variable (G:aB)
theorem pg(code:List Int)(hb:Byt code)(hl:code.length<=9223372036854775807):VF Tryz.prog G fU [.p (mU code)] (.p (.bool true)):=by
 have hbl:mU code= .lst 1 (code.map λn=>[.int .u8 n]):=rfl
 refine AC.go lQ ?_
 simp-implicitDefEqProofs[fQ,hbl]
 refine aG (λ_=>?_) (λ_=>?_)
 ·simp-implicitDefEqProofs[]
 simp-implicitDefEqProofs[]
 have hd:=DD G (pk G code hb) Dq (by simp) []
 rw[hbl] at hd
 refine hd.mono ?_
 rintro r h ⟨⟨c,rfl,hg⟩,rfl⟩
 have hcs:=hg.csm
 have h160:=hg.2.1
 have hbk2:=hg.2.2
 have hcc:=c.cs_eq2
 have hbk:bkL c.blocks= .lst 5 (c.blocks.map Bk.cs):=rfl
 have hI:=yE G c hg
 have hS:=vp G c hg
 have hO:=tA G c hcs.1
 rw[hcc,hbk] at hI hS hO
 have hol:= @Ag c.blocks
 have hlen:=Ho hbk2
 have hkey:=λi x b hi hx t ht=> @GM c.blocks h160 i x b hi hx t ht
 have hat:=λi v=> @AD c.blocks i v
 have hmem:=λr=>(@be_mem c.blocks r).1
 generalize ig c.blocks=Q at*
 generalize beC c.blocks=L at*
 obtain⟨K,hK⟩:∃K,K=L.map EV:=⟨_,rfl⟩
 have hKl:K.length=L.length:=by rw[hK,List.length_map]
 have hKg:∀(i:Nat) (e:List Int),L[i]?=some e->K[i]?=some (EV e):=λi e h=>by rw[hK,List.getElem?_map,h];rfl
 rw[←hK] at hkey
 clear hK
 have hLn:blL L= .lst 1 (L.map λr=>[ay r]):=rfl
 have hQn:ay Q= .lst 1 (Q.map λn=>[.int .i64 n]):=rfl
 have hwl:IntKind.i64.wrap (2*(Q.length:Int))=2*(Q.length:Int):=ae (by omega) (by omega)
 simp-implicitDefEqProofs[aa,hcc,hbk]
 refine hI.use ?_
 simp-implicitDefEqProofs[]
 refine hS.use ?_
 simp-implicitDefEqProofs[hLn]
 refine aH (λa:OlS=>aC 96 [(31,.p (.int .i64 a.i)),(30,.p (.int .i64 L.length)),(29,.p (.lst 1 (L.map λr=>[ay r]))),(6,.sl (a.lid+1) 1 0 a.i),(5,.p (.lst 1 (L.map λr=>[ay r]))),(4,.p (.lst 1 (L.map λr=>[ay r]))),(3,.ptr 0 3 0 0)]) (λa=> .row 3 [[.p (.int .i64 c.params),.p (.int .i64 c.regs),.p (.lst 5 (c.blocks.map Bk.cs))]]::a.W) (λa=>a.i<=L.length/\a.W[a.lid]?=some (.row 1 (aq (K.take a.i)))) (λa=>L.length-a.i) ⟨0,0,[.row 1 []]⟩ ⟨Nat.zero_le _,rfl⟩ (ab (Nat.zero_le _) (by simp[below])) ?_
 rintro⟨i,lid,W⟩ ⟨hi,hw1⟩
 simp only at hi hw1⊢
 have hwl1:=(List.getElem?_eq_some_iff.1 hw1).1
 simp-implicitDefEqProofs[]
 refine aG (λhc=>?_) (λhc=>?_)
 ·have hc:i<L.length:=by simpa using hc
  have hwi:=w1 (i:=i) (by omega)
  have hgi:=List.getElem?_eq_getElem hc
  have hmr:=hmem _ (List.getElem_mem hc)
  generalize L[i]=e at hgi hmr
  obtain⟨_,x,t,rfl,hx,ht,_,_,_⟩:=hmr
  have hti:K.take (i+1)=K.take i++[(x:Int)*1000+t]:=by rw[List.take_add_one,hKg i _ hgi];simp[EV]
  have hWx:=Ed G [(x:Int),(t:Int)] (by simp)
  have hen:ay [(x:Int),(t:Int)]= .lst 1 [[.int .i64 x],[.int .i64 t]]:=rfl
  have hm1:IntKind.i64.wrap ((x:Int)*1000)=(x:Int)*1000:=ae (by omega) (by omega)
  have hm2:IntKind.i64.wrap ((x:Int)*1000+t)=(x:Int)*1000+t:=ae (by omega) (by omega)
  have hlt:(aq (K.take i)).length=i:=by simp[aq];omega
  have hgm:∀t,(W++t)[lid]?=some (.row 1 (aq (K.take i))):=λt=>by rw[List.getElem?_append_left hwl1];exact hw1
  have htt:List.take i (aq (K.take i))=aq (K.take i):=List.take_of_length_le (by omega)
  simp-implicitDefEqProofs[hgi]
  refine hWx.use ?_
  simp-implicitDefEqProofs[hen,hm1,hm2,hgm,hlt,htt]
  refine⟨⟨by omega,by omega⟩,⟨i+1,W.length+1,_⟩,⟨hc,?_⟩,by simp only;omega,ab (Nat.zero_le _) ?_⟩
  ·simp only
   rw[List.getElem?_append_right (by simp),hti];simp[aq]
  ·simp[below,hwi]
 have hie:i=L.length:=by simp at hc;omega
 subst hie
 rw[←hKl,List.take_length] at hw1
 have hvw:View (.dead::W) (.sl (lid+1) 1 0 L.length) (ay K):=by
  have:=cN (h:= .dead::W) (id:=lid+1) (l:=K) hw1
  rwa[hKl] at this
 have hkl:K.length<=320:=by omega
 have hHas:=λk=>Ay G K k (by omega)
 simp-implicitDefEqProofs[]
 refine hO.use ?_
 simp-implicitDefEqProofs[hQn]
 refine aH (λi:Nat=>aC 96 [(59,.p (.int .i64 i)),(58,.p (.int .i64 Q.length)),(57,.p (.lst 1 (Q.map λn=>[.int .i64 n]))),(9,.p (.lst 1 (Q.map λn=>[.int .i64 n]))),(6,.p (ay K)),(4,.p (.lst 1 (L.map λr=>[ay r]))),(3,.ptr 0 3 0 0)]) (λ_=>[.row 3 [[.p (.int .i64 c.params),.p (.int .i64 c.regs),.p (.lst 5 (c.blocks.map Bk.cs))]]]) (λi=>i<=Q.length) (λi=>Q.length-i) 0 (Nat.zero_le _) ?_ ?_
 ·refine mN 1 (Nat.zero_le _) (by simp) rfl (.same (by simp[okO,below]) (.nil _)) ?_
  exact⟨.keep (by simp[below]) .nil,.keep (by simp[below]) .nil,.keep (by simp[below]) .nil,.keep (by simp[below]) .nil,.one hvw .nil,.keep (by simp[below]) .nil,.keep (by simp[below]) .nil,trivial⟩
 clear hvw hw1 hwl1
 intro i hi
 simp-implicitDefEqProofs[]
 refine aG (λhc=>?_) (λhc=>?_)
 ·have hc:i<Q.length:=by simpa using hc
  have hwi:=w1 (i:=i) (by omega)
  have hwi2:IntKind.i64.wrap ((i:Int)+1)=(i:Int)+1:=ae (by omega) (by omega)
  have hgi:=List.getElem?_eq_getElem hc
  generalize Q[i]=v at hgi
  obtain⟨hfit,x,rfl,_,hx⟩:=hat i v hgi
  have hgb:=List.getElem?_eq_getElem hx
  have hmb:=List.getElem_mem hx
  generalize c.blocks[x]=b at hgb hmb
  have hb2:=hbk2 b hmb
  have hge:=λhh=>ep hgb hh
  have hbc:=b.cs_eq2
  have hnl:ay b.next= .lst 1 (b.next.map λn=>[.int .i64 n]):=rfl
  have hky:=λt=>hkey i x b hgi hgb t
  simp-implicitDefEqProofs[hgi,hgb,hge,hbc,hnl]
  refine aH (λj:Nat=>aC 96 [(71,.p (.int .i64 j)),(70,.p (.int .i64 b.next.length)),(69,.p (.lst 1 (b.next.map λn=>[.int .i64 n]))),(11,.p (.int .i64 x)),(10,.p (.int .i64 i)),(59,.p (.int .i64 i)),(58,.p (.int .i64 Q.length)),(57,.p (.lst 1 (Q.map λn=>[.int .i64 n]))),(9,.p (.lst 1 (Q.map λn=>[.int .i64 n]))),(6,.p (ay K)),(4,.p (.lst 1 (L.map λr=>[ay r]))),(3,.ptr 0 3 0 0)]) (λ_=>[.row 3 [[.p (.int .i64 c.params),.p (.int .i64 c.regs),.p (.lst 5 (c.blocks.map Bk.cs))]]]) (λj=>j<=b.next.length) (λj=>b.next.length-j) 0 (Nat.zero_le _) (ab (Nat.zero_le _) (by simp[below])) ?_
  intro j hj
  simp-implicitDefEqProofs[]
  refine aG (λhc2=>?_) (λhc2=>?_)
  ·have hc2:j<b.next.length:=by simpa using hc2
   have hwj:=w1 (i:=j) (by omega)
   have hgj:=List.getElem?_eq_getElem hc2
   have hkt:=hky _ (List.getElem_mem hc2)
   have htb:=js hfit hgb (List.getElem_mem hc2)
   generalize b.next[j]=t at hgj hkt htb
   have hm1:IntKind.i64.wrap ((x:Int)*1000)=(x:Int)*1000:=ae (by omega) (by omega)
   have hm2:IntKind.i64.wrap ((x:Int)*1000+t)=(x:Int)*1000+t:=ae (by omega) (by omega)
   have hH2:=Ay G (Q.take (i+1)) t (by rw[List.length_take];omega)
   have hqt:ay (Q.take (i+1))= .lst 1 ((Q.take (i+1)).map λn=>[.int .i64 n]):=rfl
   rw[hqt,List.map_take] at hH2
   have hp1:(0:Int)<=(i:Int)+1:=by omega
   have hp2:i+1<=Q.length:=hc
   simp-implicitDefEqProofs[hgj,hm1,hm2,hwi2,hp1,hp2]
   refine(hHas _).use ?_
   rw[hkt]
   simp-implicitDefEqProofs[]
   refine VF.use hH2 ?_
   simp-implicitDefEqProofs[]
   exact⟨j+1,hc2,by omega,ab (Nat.zero_le _) (by simp[below,hwj])⟩
  ·simp-implicitDefEqProofs[]
   exact⟨i+1,hc,by omega,ab (Nat.zero_le _) (by simp[below,hwi])⟩
 ·simp-implicitDefEqProofs[hwl]
  omega
end
end Go.Proofs.YtdfplkcigiblcaaGreat
namespace Go.Proofs.YtdfplkcigiblcaaGreat
open Go Go.Aw Go.ChangeShapes Go.WideShapes Go.ChangeAt Go.RowKit
set_option maxRecDepth 100000
abbrev Ba:TypeId:=22
abbrev uz:TypeId:=5
theorem Jj:Kids Tryz.prog (· <Tryz.prog.types.size):=kids_rows (by kernel_rfl) (by kernel_rfl)
theorem Ks:∀t e,t<Tryz.prog.types.size->Tryz.prog.underlying t=some (.slice e)->0<Tryz.prog.cellsOf e:=slices_full_of Tryz.prog (by kernel_rfl)
def Ah:List TypeId:=[Ba,uz]
theorem Ig:Plain Tryz.prog Ah=true:=by kernel_rfl
theorem LQ:ownKnob Tryz.prog.godebug=none:=by kernel_rfl
theorem rI{H:Type}:∀l:List (DataW H),Rows.uptoBulkAll l=(l.map Rows.uptoBulk).sum
 |[]=>by simp[Rows.uptoBulkAll]
 |d::r=>by simp[Rows.uptoBulkAll,rI r]
theorem FX{H:Type}:BulkOk (Rows.uptoBulk (H:=H)) where
 lit:=λl=>by cases l<;>simp[Rows.uptoBulk]
 str:=λs=>by simp[Rows.uptoBulk]
 nil:=by simp[Rows.uptoBulk]
 slice:=λes sp=>by simp only[Rows.uptoBulk,rI];omega
 agg:=λps=>by simp only[Rows.uptoBulk,rI];omega
theorem CQ{t e:TypeId}{vs:List PV}(h:Conf Tryz.prog t vs)(hu:Tryz.prog.underlying t=some (.slice e)):∃es,vs=[.lst (Tryz.prog.cellsOf e) es]/\es.length<=9223372036854775807/\∀x∈es,Conf Tryz.prog e x:=by
 cases h with
 |sl es e' hl hs=>rw[hu] at e';cases e';exact⟨es,rfl,hl,hs⟩
 |bool b e=>rw[e] at hu;cases hu
 |int n e=>rw[e] at hu;cases hu
 |str s e=>rw[e] at hu;cases hu
 |st vs e=>rw[e] at hu;cases hu
 |arr vs e=>rw[e] at hu;cases hu
theorem zw{vs:List PV}(h:Conf Tryz.prog Ba vs):∃l:List Int,vs=[mU l]/\l.length<=9223372036854775807/\Byt l:=by
 obtain⟨es,rfl,hl,h4⟩:=CQ h (e:=uz) (by kernel_rfl)
 have hk:∀x∈es,∃n:Int,x=[PV.int .u8 n]/\(Lit.int .u8 n).wf=true:=λx hx=>CE (h4 x hx) (by kernel_rfl)
 obtain⟨l,rfl⟩:=zZ (λn:Int=>[PV.int .u8 n]) (λx hx=>by obtain⟨n,e,_⟩:=hk x hx;exact⟨n,e⟩)
 rw[show Tryz.prog.cellsOf uz=1 by kernel_rfl]
 refine⟨l,rfl,by rwa[List.length_map] at hl,λn hn=>?_⟩
 obtain⟨m,e,hw⟩:=hk [PV.int .u8 n] (List.mem_map.2 ⟨n,hn,rfl⟩)
 cases e
 simp[Lit.wf,IntKind.min,IntKind.max,IntKind.bits,IntKind.signed] at hw
 omega
def G0:aB:=λ_=>none
end Go.Proofs.YtdfplkcigiblcaaGreat
