/-
  Contracts and lemmas that the card needs, part 8.
-/
import Derived.Test.YtdfplkcigiblcaaGreatFh7
import Derived.Test.YtdfplkcigiblcaaGreatChecked
import Derived.Shelf.Sort.AssemblyIn
import Derived.Shelf.Slices.CompactI
import Derived.Lib.SlicesCompact
import Derived.Shelf.Sort.Plain
import Derived.Shelf.Slices.In.SortNone
namespace Go.Proofs.YtdfplkcigiblcaaGreat
open Go Go.Aw
set_option maxRecDepth 100000
set_option maxHeartbeats 4000000
section
theorem mV:∀a b:List Sm,aZ (a++b)=aZ a+aZ b
 |[],b=>by simp[aZ]
 |s::r,b=>by rw[List.cons_append,aZ,aZ,mV r b,Nat.add_assoc]
theorem yu{l:List Sm}{i:Nat}(h:i<l.length):aZ (l.take (i+1))=aZ (l.take i)+An l[i]:=by rw[aw h,mV,aZ,aZ];rfl
theorem vu(l:List Sm)(i:Nat):aZ (l.take i)<=aZ l:=by
 have:=mV (l.take i) (l.drop i)
 rw[List.take_append_drop] at this
 omega
variable (G:az)
theorem BG:∀(k:Nat) (l:List Sm),aM l<=k->k<=1099511627776->VF Tryz.prog G cT [.p (smL l)] (.p (.int .i64 (aZ l))):=by
 intro k
 induction k with
 |zero=>
  intro l hl _
  have:l=[]:=by
   cases l with
   |nil=>rfl
   |cons s r=>have:=s.sz_eq;simp only[aM] at hl;omega
  subst this
  refine AC.go kK ?_
  have hsl:smL []= .lst 5 []:=rfl
  simp-implicitDefEqProofs[gY,hsl]
  refine aJ (λ_:Unit=>aA 35 [(0,.p (.lst 5 [])),(3,.p (.int .i64 0)),(4,.p (.int .i64 0))]) (λ_=>[]) (λ_=>True) (λ_=>0) () trivial (bO rfl (by simp[below])) ?_
  intro _ _
  simp-implicitDefEqProofs[aZ]
 |succ k ih=>
  intro l hl hk
  have hll:=dG l
  have hnz:=Nat.le_trans (iH l) (gh l)
  refine AC.go kK ?_
  have hsl:∀l,smL l= .lst 5 (l.map Sm.cs):=λ_=>rfl
  simp-implicitDefEqProofs[gY,hsl]
  refine aJ (λi:Nat=>aA 35 [(0,.p (smL l)),(3,.p (.int .i64 (aZ (l.take i)))),(4,.p (.int .i64 i))]) (λ_=>[]) (λi=>i<=l.length) (λi=>l.length-i) 0 (by simp) (bO rfl (by simp[below,hsl,aZ])) ?_
  intro i hi
  have k2:=vu l i
  simp-implicitDefEqProofs[hsl]
  refine aG (λh=>?_) (λh=>?_)
  ·simp at h
   have hg:=List.getElem?_eq_getElem h
   have hks:=mD (List.getElem_mem h)
   have hse:=l[i].sz_eq
   have hce:=l[i].cs_eq
   have k1:=yu h
   have k4:=vu l (i+1)
   have k5:=EQ l[i]
   have hb:=ih l[i].body (by omega) (by omega)
   have he:=ih l[i].els (by omega) (by omega)
   generalize l[i]=s at*
   generalize aZ (l.take i)=n at*
   obtain⟨n2,hn2⟩:∃n2,n2=aZ (l.take (i+1)):=⟨_,rfl⟩
   rw[←hn2] at k1 k4
   by_cases ho:s.op=1
   ·rw[if_pos ho] at k5
    simp-implicitDefEqProofs[hg,hce,ho]
    refine(sM G true).use ?_
    have w0':IntKind.i64.wrap ((n:Int)+1)=(n:Int)+1:=ag (by omega) (by omega)
    simp-implicitDefEqProofs[hg,hce,w0']
    refine hb.use ?_
    have w1':IntKind.i64.wrap ((n:Int)+1+(aZ s.body:Int))=(n:Int)+1+(aZ s.body:Int):=ag (by omega) (by omega)
    simp-implicitDefEqProofs[hg,hce,w1']
    refine he.use ?_
    have w2':IntKind.i64.wrap ((n:Int)+1+(aZ s.body:Int)+(aZ s.els:Int))=(n2:Int):=by rw[ag (by omega) (by omega)];omega
    simp-implicitDefEqProofs[w2']
    exact⟨i+1,h,by omega,bO rfl (by simp[below,hsl,←hn2,w1 (i:=i) (by omega)])⟩
   ·rw[if_neg ho] at k5
    simp-implicitDefEqProofs[hg,hce,ho]
    refine(sM G false).use ?_
    have w0':IntKind.i64.wrap (n:Int)=(n:Int):=ag (by omega) (by omega)
    simp-implicitDefEqProofs[hg,hce,w0']
    refine hb.use ?_
    have w1':IntKind.i64.wrap ((n:Int)+(aZ s.body:Int))=(n:Int)+(aZ s.body:Int):=ag (by omega) (by omega)
    simp-implicitDefEqProofs[hg,hce,w1']
    refine he.use ?_
    have w2':IntKind.i64.wrap ((n:Int)+(aZ s.body:Int)+(aZ s.els:Int))=(n2:Int):=by rw[ag (by omega) (by omega)];omega
    simp-implicitDefEqProofs[w2']
    exact⟨i+1,h,by omega,bO rfl (by simp[below,hsl,←hn2,w1 (i:=i) (by omega)])⟩
  ·simp at h
   rw[List.take_of_length_le h]
   simp-implicitDefEqProofs[]
section
variable {l:List Fd} {pr:Int} {L:Nat} {S I0 E:List Nat} {h:List AO} {w:Lw} {nx:Nat} {vs:Vs} {X:List AO} {K V:AV} {I:List Nat}
theorem Fi(T:RS l pr L S I0 E h w nx vs X K V I)(hw:w.regs<=1073741824):
 AC Tryz.prog G bj [.ptr L 8 0 0] X λx h'=>x= .ret (.p (.int .i64 w.regs))/\∃K' I',RS l pr L S I0 E h w.reg nx vs h' K' V I'/\∀i∈E,h'[i]?=X[i]?:=
 (iE G T.stb.ls hw).mono λx h' ⟨a,b⟩=>⟨a,T.step (J:=[]) (λj hj=>by cases hj) (by rw[List.append_nil];exact b)⟩
theorem Gl(T:RS l pr L S I0 E h w nx vs X K V I){B:Nat}(hok:w.Ok B)(hB:B<=1073741824)(op to n:Int):
 AC Tryz.prog G bB [.ptr L 8 0 0,.p (.int .i64 op),.p (.int .i64 to),.p (.int .i64 n),.sl X.length 1 0 0] (X++[.row 1 []]) λr h'=>r= .ret (.p (.int .i64 to))/\∃K' I',RS l pr L S I0 E h (w.put ⟨op,to,[],n⟩) nx vs h' K' V I'/\∀i∈E,h'[i]?=X[i]?:=by
 obtain⟨f1,f2⟩:=T.fresh
 refine(ll G (T.stb.ls.more [.row 1 []]) hok hB ⟨op,to,[],n⟩ (fc X ([]:List Int) rfl) (by simp) f2).mono λr h' ⟨e,b⟩=>⟨e,?_⟩
 obtain⟨K2,I2,a1,a2⟩:=(T.more [_]).step f1 b
 exact⟨K2,I2,a1,λi hi=>(a2 i hi).trans (List.getElem?_append_left (T.at.1 i hi).1)⟩
theorem Fl(T:RS l pr L S I0 E h w nx vs X K V I){B:Nat}(hok:w.Ok B)(j o:Int)(g:Nat){gI:Int}(hg:gI=(g:Int)):
 AC Tryz.prog G bg [.ptr L 8 0 0,.p (.int .i64 j),.p (.int .i64 o),.sl X.length 1 0 0,.p (.int .i64 gI)] (X++[.row 1 []]) λr h'=>r= .ret (.tup [])/\∃K' I',RS l pr L S I0 E h (w.fin j o g []) nx vs h' K' V I'/\∀i∈E,h'[i]?=X[i]?:=by
 obtain⟨f1,f2⟩:=T.fresh
 rw[hg]
 refine(kj G (T.stb.ls.more [.row 1 []]) hok j o g [] (fc X ([]:List Int) rfl) (by simp) f2).mono λr h' ⟨e,b⟩=>⟨e,?_⟩
 obtain⟨K2,I2,a1,a2⟩:=(T.more [_]).step f1 b
 exact⟨K2,I2,a1,λi hi=>(a2 i hi).trans (List.getElem?_append_left (T.at.1 i hi).1)⟩
theorem AD{n:Nat}(hg:X[L]?=some (.row 8 [[.p (fdL l),.p (.int .i64 pr),.p (.int .i64 n),.nils,.p (.int .i64 0),V,.p (.int .i64 nx),.nils]]))(hV:V.cells=[V]/\V.isCell=true):
 AC Tryz.prog G bF [.ptr L 8 0 0] X λr h'=>r= .ret (.p (.int .i64 0))/\∃K I,LS (lwR l pr V nx) L ⟨n,[bk0],0⟩ h' K I/\Frm [L] X h'/\∀j∈I,X.length<=j:=by
 have hLl:=(List.getElem?_eq_some_iff.1 hg).1
 obtain⟨v1,v2⟩:=hV
 have hgt:∀t,(X++t)[L]?=some (.row 8 [[.p (fdL l),.p (.int .i64 pr),.p (.int .i64 n),.nils,.p (.int .i64 0),V,.p (.int .i64 nx),.nils]]):=λt=>by rw[List.getElem?_append_left hLl];exact hg
 have hs3:∀t o,((X++t).set L o)[L]?=some o:=λt o=>List.getElem?_set_self (by simp;omega)
 refine AC.go fy ?_
 simp-implicitDefEqProofs[-AV.cells,-AV.isCell,aC,af,ah,an,aj,aB,ae,am,al,v1,v2,cZ,hg,hgt, ↓hs3]
 have key:∀o1:AO,∃K I,LS (lwR l pr V nx) L ⟨n,[bk0],0⟩ ((X++[.row 2 [],.row 4 [],.row 1 [],o1,.row 5 [[.sl X.length 2 0 0,.sl (X.length+1) 4 0 0,.p (.int .i64 0),.p (.int .i64 0),.sl (X.length+2) 1 0 0]]]).set L (lwR l pr V nx ⟨n,[bk0],0⟩ (.sl (X.length+4) 5 0 1))) K I/\Frm [L] X ((X++[.row 2 [],.row 4 [],.row 1 [],o1,.row 5 [[.sl X.length 2 0 0,.sl (X.length+1) 4 0 0,.p (.int .i64 0),.p (.int .i64 0),.sl (X.length+2) 1 0 0]]]).set L (lwR l pr V nx ⟨n,[bk0],0⟩ (.sl (X.length+4) 5 0 1)))/\∀j∈I,X.length<=j:=λo1=>by
  obtain⟨H,hH⟩:∃H,H=((X++[.row 2 [],.row 4 [],.row 1 [],o1,.row 5 [[.sl X.length 2 0 0,.sl (X.length+1) 4 0 0,.p (.int .i64 0),.p (.int .i64 0),.sl (X.length+2) 1 0 0]]]).set L (lwR l pr V nx ⟨n,[bk0],0⟩ (.sl (X.length+4) 5 0 1))):=⟨_,rfl⟩
  have g:∀k,H[X.length+k]?=[AO.row 2 [],.row 4 [],.row 1 [],o1,.row 5 [[.sl X.length 2 0 0,.sl (X.length+1) 4 0 0,.p (.int .i64 0),.p (.int .i64 0),.sl (X.length+2) 1 0 0]]][k]?:=λk=>by
   rw[hH,List.getElem?_set_ne (by omega),List.getElem?_append_right (by omega)]
   rw[Nat.add_sub_cancel_left]
  rw[←hH]
  have hr:RowOwn false H (X.length+4) 5 [[.sl X.length 2 0 0,.sl (X.length+1) 4 0 0,.p (.int .i64 0),.p (.int .i64 0),.sl (X.length+2) 1 0 0]] [bk0.cs] [X.length,X.length+1,X.length+2]:=
   ⟨g 4,rfl,by simp,by simp[bk0,Bk.cs],by rw[List.flatten_singleton,List.flatten_singleton];exact zZ (g 0) (g 1) (g 2),by simp⟩
  refine⟨_,_,⟨by rw[hH];exact List.getElem?_set_self (by simp;omega),hr.tree rfl,by simp;omega,λq e=>(by cases e),λkid n2 rows2 eK hg2 r hr2=>?_⟩,⟨by rw[hH];simp,λi hi hn=>?_⟩,λj hj=>?_⟩
  ·cases eK
   rw[hr.here] at hg2
   cases hg2
   rw[List.mem_singleton.1 hr2]
   intro q;simp
  ·rw[hH,List.getElem?_set_ne (λe=>hn (by simp[e])),List.getElem?_append_left hi]
  ·simp only[List.mem_cons,List.not_mem_nil,or_false] at hj
   omega
 have e:=key (.row 5 [[.sl X.length 2 0 0,.sl (X.length+1) 4 0 0,.p (.int .i64 0),.p (.int .i64 0),.sl (X.length+2) 1 0 0]])
 exact⟨ag (by omega) (by omega),e⟩
end
structure PvS where (i:Nat) (X:List AO)
theorem Ev{vs:Vs}{ps:List (List UInt8)}{i:Nat}(hi:i<ps.length)(hl:vs.length=i)(h:rgV vs=scF (-1) [psS (ps.take i) [] 0]):rgV (vs++[(ps[i],i)])=scF (-1) [psS (ps.take (i+1)) [] 0]:=by
 funext t
 simp only[rE,h,CH hi,scF,ty,mL]
 by_cases hst:ps[i]=t
 ·simp[hst]
 ·simp[hst]
theorem GC(l:List Fd)(hl:l.length<=1073741824)(k:Nat)(f:Fd)(hk:l[k]?=some f)(hz:f.sz<=16777216)(hf:∀x∈f.body,aO 4 x=true):AC Tryz.prog G gx [.agg [.p (fdL l)],.p (.int .i64 k)] [] (MkW .agg false (lwF l (-1) f).cs):=by
 have hfc:=f.cs_eq'
 have hfl:fdL l= .lst 3 (l.map Fd.cs):=rfl
 have hlk:=(List.getElem?_eq_some_iff.1 hk).1
 have hfz:f.sz=1+f.name.length+(f.params.length+(f.params.map List.length).sum)+aM f.body:=rfl
 have hst:bw f.params= .lst 1 (f.params.map λw=>[.str w]):=rfl
 have hlet:=Nat.le_trans (iH f.body) (gh f.body)
 refine AC.go uC ?_
 simp-implicitDefEqProofs[nV,hfl,hk,hfc,hst]
 rw[←hfl]
 refine(BG G _ f.body (Nat.le_refl _) (by omega)).use ?_
 have hwl:IntKind.i64.wrap ((f.params.length:Int)+(aZ f.body:Int))=((f.params.length+aZ f.body:Nat):Int):=by rw[ag (by omega) (by omega)];omega
 simp-implicitDefEqProofs[hst,hwl]
 obtain⟨n,hn⟩:∃n:Nat,n=f.params.length+aZ f.body:=⟨_,rfl⟩
 have hnI:(f.params.length:Int)+(aZ f.body:Int)=n:=by omega
 rw[hnI]
 refine aJ (λa:PvS=>aA 80 [(4,.ptr 1 3 0 0),(5,.ptr 2 3 0 0),(6,.ptr 3 8 0 0),(7,.p (.int .i64 a.i))]) (λa=>a.X)
  (λa=>a.i<=f.params.length/\4<=a.X.length/\a.X[1]?=some (.row 3 [[.p (.int .i64 0),.p (.int .i64 0),.nils]])/\a.X[2]?=some (.row 3 [[.p (.str f.name),.p (.lst 1 (f.params.map λw=>[.str w])),.p (smL f.body)]])/\∃V vs,a.X[3]?=some (.row 8 [[.p (fdL l),.p (.int .i64 f.params.length),.p (.int .i64 n),.nils,.p (.int .i64 0),V,.p (.int .i64 f.params.length),.nils]])/\VAt a.X V vs/\(∀i∈vi V,4<=i)/\vs.length=a.i/\rgV vs=scF (-1) [psS (f.params.take a.i) [] 0]) (λa=>f.params.length-a.i)
  ⟨0,[.row 1 [[.p (fdL l)]],.row 3 [[.p (.int .i64 0),.p (.int .i64 0),.nils]],.row 3 [[.p (.str f.name),.p (.lst 1 (f.params.map λw=>[.str w])),.p (smL f.body)]],.row 8 [[.p (fdL l),.p (.int .i64 f.params.length),.p (.int .i64 n),.nils,.p (.int .i64 0),.nils,.p (.int .i64 f.params.length),.nils]]]⟩ ⟨Nat.zero_le _,by simp,rfl,rfl,.nils,[],rfl,.nil,(λi hi=>by cases hi),rfl,rfl⟩ ?_ ?_
 ·exact ab (by simp) (by simp[below])
 rintro⟨i,X⟩ ⟨hi,hX4,hx1,hx2,V,vs,hx3,hV,hVi,hvl,hrg⟩
 simp only at hi hX4 hx1 hx2 hx3 hV hvl hrg
 obtain⟨v1,v2,v3⟩:=hV.is
 simp-implicitDefEqProofs[hx2]
 refine aG (λhc=>?_) (λhc=>?_)
 ·simp at hc
  have hg:=List.getElem?_eq_getElem hc
  have hrg2:=Ev hc hvl hrg
  generalize f.params[i]=p at hg hrg2
  have hwi:=w1 (i:=i) (by omega)
  have hX2m:∀t,(X++t)[2]?=some (.row 3 [[.p (.str f.name),.p (.lst 1 (f.params.map λw=>[.str w])),.p (smL f.body)]]):=λt=>by rw[List.getElem?_append_left (by omega)];exact hx2
  cases hV with
  |nil=>
   have hvi:i=0:=hvl.symm
   subst hvi
   have hX3m:∀t,(X++t)[3]?=some (.row 8 [[.p (fdL l),.p (.int .i64 f.params.length),.p (.int .i64 n),.nils,.p (.int .i64 0),.nils,.p (.int .i64 f.params.length),.nils]]):=λt=>by rw[List.getElem?_append_left (by omega)];exact hx3
   simp-implicitDefEqProofs[hx2,hx3,hg,hX3m,hX2m]
   have hw11:IntKind.i64.wrap 1=1:=ag (by omega) (by omega)
   refine⟨⟨1,_⟩,⟨by simp only;omega,?_,?_,?_,.sl X.length 3 0 1,?_,[(p,0)],?_,?_,rfl,by simpa using hrg2⟩,by simp only;omega,ab ?_ ?_⟩
   rotate_left 6
   ·exact Nat.zero_le _
   ·simp[below,hw11]
    omega
   ·simp;omega
   ·rw[List.getElem?_set_ne (by omega),List.getElem?_append_left (by omega)];exact hx1
   ·rw[List.getElem?_set_ne (by omega),List.getElem?_append_left (by omega)];exact hx2
   ·exact List.getElem?_set_self (by simp;omega)
   ·exact .sl _ [lK (p,0)] [(p,0)] (by rw[List.getElem?_set_ne (by omega),List.getElem?_append_right (Nat.le_refl _)];simp[lK]) rfl
   ·intro j hj;rw[List.mem_singleton.1 hj];exact hX4
  |sl vid rows _ hv1 hv2=>
   have hvX:=(List.getElem?_eq_some_iff.1 hv1).1
   have hv4:=hVi vid (by simp[vi])
   have hvk:vs.length<=rows.length:=by
    have:=congrArg List.length hv2
    rw[List.length_take,List.length_map] at this
    omega
   have hX3m:∀t,(X.set vid .dead++t)[3]?=X[3]?:=λt=>by rw[List.getElem?_append_left (by simp;omega),List.getElem?_set_ne (by omega)]
   have hX2n:∀t,(X.set vid .dead++t)[2]?=X[2]?:=λt=>by rw[List.getElem?_append_left (by simp;omega),List.getElem?_set_ne (by omega)]
   simp-implicitDefEqProofs[hx2,hx3,hg,hv1,hv2, ↓hX3m, ↓hX2n,hwi]
   refine⟨⟨by omega,by omega⟩,⟨i+1,_⟩,⟨by simp only;omega,?_,?_,?_,.sl X.length 3 0 (vs.length+1),?_,vs++[(p,i)],?_,?_,by simp;omega,hrg2⟩,by simp only;omega,ab ?_ ?_⟩
   rotate_left 6
   ·exact Nat.zero_le _
   ·simp[below,hwi]
    omega
   ·simp;omega
   ·rw[List.getElem?_set_ne (by omega),List.getElem?_append_left (by simp;omega),List.getElem?_set_ne (by omega)];exact hx1
   ·rw[List.getElem?_set_ne (by omega),List.getElem?_append_left (by simp;omega),List.getElem?_set_ne (by omega)];exact hx2
   ·exact List.getElem?_set_self (by simp;omega)
   ·have hlv:(vs++[(p,i)]).length=vs.length+1:=by simp
    exact hlv▸ .sl _ (vs.map lK++[lK (p,i)]) (vs++[(p,i)]) (by rw[List.getElem?_set_ne (by omega),List.getElem?_append_right (by simp)];simp[lK]) (by rw[List.take_of_length_le (by simp)];simp)
   ·intro j hj;rw[List.mem_singleton.1 hj];exact hX4
 ·simp at hc
  have hie:i=f.params.length:=by omega
  subst hie
  rw[List.take_length] at hrg
  simp-implicitDefEqProofs[]
  refine(AD G hx3 ⟨v1,v2⟩).mono ?_
  rintro x X1 ⟨rfl,K1,I1,H1,hfr,hI1⟩
  have hl1:=hfr.1
  have va1:VAt X1 V vs:=hV.frame λi hi=>hfr.2 i (hV.lt i hi) (by have:=hVi i hi;simp;omega)
  have T1':=RS.of H1 va1 (λi hi=>by
   have h4:=hVi i hi
   have h5:=hV.lt i hi
   simp only[List.mem_cons,not_or]
   exact⟨by omega,λhm=>by have:=hI1 i hm;omega⟩)
  have T1:=T1'.add (j:=1) (by omega) (by
   simp only[List.mem_cons,not_or]
   exact⟨by omega,λhm=>by have:=hI1 1 hm;omega⟩) (λhm=>by have:=hVi 1 hm;omega)
  have b1:X1[1]?=some (.row 3 [[.p (.int .i64 0),.p (.int .i64 0),.nils]]):=(hfr.2 1 (by omega) (by simp)).trans hx1
  have b2:X1[2]?=some (.row 3 [[.p (.str f.name),.p (.lst 1 (f.params.map λw=>[.str w])),.p (smL f.body)]]):=(hfr.2 2 (by omega) (by simp)).trans hx2
  have ok1:(⟨n,[bk0],0⟩:Lw).Ok (f.sz+1):=⟨by show n<=_;omega,by show 1<=_;omega,λb hb=>by rw[List.mem_singleton.1 hb];show 0<=_;omega,by show 0<1;omega⟩
  simp-implicitDefEqProofs[aa,b2]
  obtain⟨y,hy⟩:∃y,y=aT (faI l) (-1) f.body (psS f.params [] 0) [] f.params.length ⟨n,[bk0],0⟩:=⟨_,rfl⟩
  have h2:=oE G (DF G l hl f.params.length 3 4 f.body hf) T1 ok1 (by omega) (by omega) (by omega) hrg
  have ok2:=dv (faI l) (-1) f.body (psS f.params [] 0) [] f.params.length ⟨n,[bk0],0⟩ _ ok1
  rw[←hy] at h2 ok2
  refine h2.mono ?_
  rintro x X2 ⟨rfl,K2,V2,I2,T2,e2⟩
  obtain⟨ok2,_,_,_⟩:=ok2
  have b1:=(e2 1 (by simp)).trans b1
  simp-implicitDefEqProofs[aa]
  refine(Fi G T2 (by have:=ok2.regs;omega)).mono ?_
  rintro x X3 ⟨rfl,K3,I3,T3,e3⟩
  have b1:=(e3 1 (by simp)).trans b1
  have ok3:=ok2.reg
  simp-implicitDefEqProofs[aa]
  refine(Gl G T3 ok3 (by omega) 1 y.2.2.regs 0).mono ?_
  rintro x X4 ⟨rfl,K4,I4,T4,e4⟩
  have b1:=(e4 1 (by simp)).trans b1
  have ok4:=ok3.put ⟨1,y.2.2.regs,[],0⟩
  simp-implicitDefEqProofs[aa]
  refine(Fl G T4 ok4 3 y.2.2.regs 0 rfl).mono ?_
  rintro x X5 ⟨rfl,K5,I5,T5,e5⟩
  have b1:=(e5 1 (by simp)).trans b1
  have l5:=T5.stb.ls.here
  simp only[lwR] at l5
  obtain⟨k1,k2⟩:=iK T5.stb.ls.own
  have hs1:∀o,(X5.set 1 o)[1]?=some o:=λo=>List.getElem?_set_self (T5.at.1 1 (by simp)).1
  simp-implicitDefEqProofs[-AV.cells,-AV.isCell,aC,af,ah,an,aj,aB,ae,am,al,k1,k2,aa,l5,b1, ↓hs1]
  have hres:lwF l (-1) f=⟨f.params.length,((y.2.2.reg.put ⟨1,y.2.2.regs,[],0⟩).fin 3 y.2.2.regs 0 []).regs,((y.2.2.reg.put ⟨1,y.2.2.regs,[],0⟩).fin 3 y.2.2.regs 0 []).bs⟩:=by
   rw[lwF,←hn,←hy];rfl
  rw[hres]
  refine⟨_,I5,rfl,.p _ (λ_=>rfl) (.p _ (λ_=>rfl) (T5.stb.ls.own.frame λi hi=>List.getElem?_set_ne λe=>(T5.at.1 1 (by simp)).2 (by rw[e];exact List.mem_cons_of_mem _ hi))),(List.nodup_cons.1 T5.stb.ls.nd).2⟩
theorem Eh(l:List Fd)(hl:l.length<=1073741824)(k:Nat)(f:Fd)(hk:l[k]?=some f)(hz:f.sz<=16777216)(hf:∀x∈f.body,aO 4 x=true):VF Tryz.prog G gx [.agg [.p (fdL l)],.p (.int .i64 k)] (.agg ((lwF l (-1) f).cs.map .p)):=
 AC.mkFreeze oH (GC G l hl k f hk hz hf)
def unR(l:List Fd):List Cd:=l.map (lwF l (-1))
structure UnS where (i:Nat) (X:List AO)
theorem CX(l:List Fd)(hz:bY l<=16777216)(hf:∀f∈l,∀x∈f.body,aO 4 x=true):VF Tryz.prog G eu [.agg [.p (fdL l)]] (.agg [.p (cdL (unR l))]):=by
 have hfl:fdL l= .lst 3 (l.map Fd.cs):=rfl
 have hll:l.length<=bY l:=lZ l
 have key:AC Tryz.prog G eu [.agg [.p (fdL l)]] [] λx h=>∃V,x= .ret (.agg [V])/\((V= .nils/\l=[])\/∃id,V= .sl id 3 0 l.length/\h[id]?=some (.row 3 (oh (unR l)))):=by
  refine AC.go sf ?_
  simp-implicitDefEqProofs[kW]
  refine aJ (λa:UnS=>aA 22 [(1,.ptr 0 1 0 0),(2,.ptr 1 1 0 0),(3,.ptr 2 1 0 0),(4,.p (.int .i64 a.i))]) (λa=>a.X)
   (λa=>a.i<=l.length/\3<=a.X.length/\a.X[0]?=some (.row 1 [[.p (fdL l)]])/\a.X[1]?=some (.row 1 [[.nils]])/\∃V,a.X[2]?=some (.row 1 [[V]])/\((V= .nils/\a.i=0)\/∃id,V= .sl id 3 0 a.i/\3<=id/\a.X[id]?=some (.row 3 (oh (unR l|>.take a.i))))) (λa=>l.length-a.i)
   ⟨0,[.row 1 [[.p (fdL l)]],.row 1 [[.nils]],.row 1 [[.nils]]]⟩ ⟨Nat.zero_le _,by simp,rfl,rfl,.nils,rfl,.inl ⟨rfl,rfl⟩⟩ ?_ ?_
  ·exact ab (by simp) (by simp[below])
  rintro⟨i,X⟩ ⟨hi,hX3,hx0,hx1,V,hx2,hV⟩
  simp only at hi hX3 hx0 hx1 hx2 hV
  simp-implicitDefEqProofs[hx0,hfl]
  refine aG (λhc=>?_) (λhc=>?_)
  ·simp at hc
   have hg:=List.getElem?_eq_getElem hc
   have hm:=List.getElem_mem hc
   have hfz:=ma hm
   have hcall:=Eh G l (by omega) i l[i] hg (by omega) (hf _ hm)
   have htk:(unR l).take (i+1)=(unR l).take i++[lwF l (-1) l[i]]:=by
    rw[unR,←List.map_take,←List.map_take,aw hc,List.map_append];rfl
   have hcs:=(lwF l (-1) l[i]).cs_eq'
   have hlt:((unR l).take i).length=i:=by simp[unR];omega
   have hwi:=w1 (i:=i) (by omega)
   generalize lwF l (-1) l[i]=c at hcall htk hcs
   rw[hcs] at hcall
   rw[hfl] at hcall
   have hX2:∀t,(X++t)[2]?=some (.row 1 [[V]]):=λt=>by rw[List.getElem?_append_left (by omega)];exact hx2
   rcases hV with⟨rfl,rfl⟩|⟨id,rfl,hid,hxi⟩
   ·simp-implicitDefEqProofs[hx2,hx0,hfl]
    refine hcall.use ?_
    simp-implicitDefEqProofs[hx2,hX2]
    have hw11:IntKind.i64.wrap 1=1:=ag (by omega) (by omega)
    refine⟨⟨1,_⟩,⟨by simp only;omega,?_,?_,?_,.sl (X.length+1) 3 0 1,?_,.inr ⟨X.length+1,rfl,by omega,?_⟩⟩,by simp only;omega,ab ?_ ?_⟩
    rotate_left 5
    ·exact Nat.zero_le _
    ·simp[below,hw11];omega
    ·simp;omega
    ·rw[List.getElem?_set_ne (by omega),List.getElem?_append_left (by omega)];exact hx0
    ·rw[List.getElem?_set_ne (by omega),List.getElem?_append_left (by omega)];exact hx1
    ·exact List.getElem?_set_self (by simp;omega)
    ·rw[htk,List.getElem?_set_ne (by omega),List.getElem?_append_right (by omega)]
     simp[oh,hcs]
   ·have hiX:=(List.getElem?_eq_some_iff.1 hxi).1
    have hX2n:∀t u,((X++t).set id .dead++u)[2]?=X[2]?:=λt u=>by rw[List.getElem?_append_left (by simp;omega),List.getElem?_set_ne (by omega),List.getElem?_append_left (by omega)]
    have hxim:∀t,(X++t)[id]?=some (.row 3 (oh (List.take i (unR l)))):=λt=>by rw[List.getElem?_append_left hiX];exact hxi
    have htl:List.take i (oh (List.take i (unR l)))=oh (List.take i (unR l)):=List.take_of_length_le (by simp[oh];omega)
    have hcl:(oh (List.take i (unR l))).length=i:=by simp only[oh,List.length_map];exact hlt
    simp-implicitDefEqProofs[hx2,hx0,hfl]
    refine hcall.use ?_
    simp-implicitDefEqProofs[hx2,hX2,hxi,hxim, ↓hX2n,htl,hcl,hwi]
    refine⟨⟨by omega,by omega⟩,⟨i+1,_⟩,⟨by simp only;omega,?_,?_,?_,.sl (X.length+1) 3 0 (i+1),?_,.inr ⟨X.length+1,rfl,by omega,?_⟩⟩,by simp only;omega,ab ?_ ?_⟩
    rotate_left 5
    ·exact Nat.zero_le _
    ·simp[below,hwi];omega
    ·simp;omega
    ·rw[List.getElem?_set_ne (by omega),List.getElem?_append_left (by simp),List.getElem?_set_ne (by omega),List.getElem?_append_left (by omega)];exact hx0
    ·rw[List.getElem?_set_ne (by omega),List.getElem?_append_left (by simp;omega),List.getElem?_set_ne (by omega),List.getElem?_append_left (by omega)];exact hx1
    ·exact List.getElem?_set_self (by simp;omega)
    ·rw[htk,List.getElem?_set_ne (by omega),List.getElem?_append_right (by simp)]
     simp[oh,hcs]
  ·simp at hc
   have hie:i=l.length:=by omega
   subst hie
   have hx1s:∀o,(X.set 1 o)[1]?=some o:=λo=>List.getElem?_set_self (by omega)
   have hul:(unR l).take l.length=unR l:=List.take_of_length_le (by simp[unR])
   rw[hul] at hV
   rcases hV with⟨rfl,h0⟩|⟨id,rfl,hid,hxi⟩
   ·simp-implicitDefEqProofs[hx2,hx1, ↓hx1s]
    exact List.length_eq_zero_iff.1 h0
   ·simp-implicitDefEqProofs[hx2,hx1, ↓hx1s]
    rw[List.getElem?_set_ne (by omega)]
    exact hxi
 refine key.freezeR (λt v h ⟨V,e,_⟩=>by cases e) ?_
 rintro v h ⟨V,e,hV⟩
 cases e
 refine .agg ?_ .nil
 rcases hV with⟨rfl,rfl⟩|⟨id,rfl,hid⟩
 ·exact .one (View.nils 3) .nil
 ·have hh:oh (unR l)=((unR l).map Cd.cs).map (·.map .p):=by simp[oh]
  rw[hh] at hid
  have:=eL (n:=l.length) hid (by simp[unR]) (λx hx=>by obtain⟨b,_,rfl⟩:=List.mem_map.1 hx;rfl)
  exact .one this .nil
end
section
theorem vN{d:Nat}{e:Ex}(h:bD (d+1) e=true):(∀a∈e.kids,bD d a=true)/\(e.op=1\/e.op=2->e.kids=[])/\(e.op=10->∃a b,e.kids=[a,b]):=by
 rw[bD,Bool.and_eq_true] at h
 refine⟨λa ha=>List.all_eq_true.1 h.2 a ha,λho=>?_,λho=>?_⟩
 ·have h:=h.1
  simp only[jQ,Bool.and_eq_true,inR,decide_eq_true_eq] at h
  obtain⟨⟨⟨⟨⟨_,h2⟩,_⟩,_⟩,_⟩,_⟩:=h
  rw[loK,if_pos ho,hiK,if_pos ho] at h2
  exact List.length_eq_zero_iff.1 (by omega)
 ·have h:=h.1
  simp only[jQ,Bool.and_eq_true,inR,decide_eq_true_eq] at h
  obtain⟨⟨⟨⟨⟨_,h2⟩,_⟩,_⟩,_⟩,_⟩:=h
  rw[ho,show loK 10=2 from rfl,show hiK 10=2 from rfl] at h2
  match e.kids,h2 with
  |[a,b],_=>exact⟨a,b,rfl⟩
  |[],h=>simp at h
  |[_],h=>simp at h
  |_::_::_::r,h=>simp only[List.length_cons] at h;omega
theorem Cy{d:Nat}{s:Sm}(h:aO (d+1) s=true):(∀a∈s.args,bD 6 a=true)/\(∀x∈s.body,aO d x=true)/\(∀x∈s.els,aO d x=true)/\(s.op=6->∃a,s.args=[a])/\(¬s.op=5->s.els=[])/\(¬s.op=5->¬s.op=6->s.body=[]):=by
 rw[aO,Bool.and_eq_true,Bool.and_eq_true] at h
 obtain⟨⟨hh,hb⟩,he⟩:=h
 simp only[eW,Bool.and_eq_true,List.all_eq_true,Bool.or_eq_true,decide_eq_true_eq,List.isEmpty_iff] at hh
 refine⟨λa ha=>?_,λx hx=>List.all_eq_true.1 hb x hx,λx hx=>List.all_eq_true.1 he x hx,λh6=>?_,λh5=>?_,λh5 h6=>?_⟩
 ·have:=hh.1.1.1.2 a ha
  rw[oC,Bool.and_eq_true] at this
  exact this.1
 ·have h1:=hh.1.1.1.1.1.1.2
  rw[ji,if_neg (by omega)] at h1
  exact List.length_eq_one_iff.1 h1
 ·rcases hh.1.2 with h|h
  ·exact h
  ·exact(h5 h).elim
 ·rcases hh.2 with(h|h)|h
  ·exact h
  ·exact(h5 h).elim
  ·exact(h6 h).elim
end
section
theorem iR{s:List UInt8}(h:bV s=true):s.length<=4:=by
 simp only[bV,Bool.and_eq_true,decide_eq_true_eq] at h
 exact h.1.2
theorem vY{e:Ex}(h:jQ e=true):e.name.length<=4:=by
 simp only[jQ,Bool.and_eq_true] at h
 have h1:=h.1.1.1.2
 have h2:=h.1.1.2
 cases hn:vO e.op with
 |true=>
  rw[hn] at h1
  exact iR (by simpa using h1)
 |false=>
  rw[hn] at h2
  have:e.name=[]:=by simpa using h2
  rw[this];simp
theorem vM{l:List Ex}(h:∀e∈l,e.sz<=5*e.parts):aP l<=5*gR l:=by
 induction l with
 |nil=>simp[aP]
 |cons e r ih=>
  have h1:=h e (by simp)
  have h2:=ih λx hx=>h x (by simp[hx])
  simp only[aP,gR]
  omega
theorem BH:∀(d:Nat) (e:Ex),bD d e=true->e.sz<=5*e.parts:=by
 intro d
 induction d with
 |zero=>intro e h;cases h
 |succ d ih=>
  intro e h
  have hk:=(vN h).1
  rw[bD,Bool.and_eq_true] at h
  have hn:=vY h.1
  have hz:=vM (l:=e.kids) λa ha=>ih a (hk a ha)
  rw[e.sz_eq,e.parts_eq]
  omega
theorem DN{e:Ex}(h:oC e=true):e.sz<=150:=by
 simp only[oC,Bool.and_eq_true,decide_eq_true_eq] at h
 have:=BH 6 e h.1
 omega
theorem rj:∀{l:List Ex},(∀e∈l,e.sz<=150)->aP l<=150*l.length
 |[],_=>by simp[aP]
 |e::r,h=>by
  have h1:=h e (by simp)
  have h2:=rj (l:=r) λx hx=>h x (by simp[hx])
  simp only[aP,List.length_cons]
  omega
theorem Cl{s:Sm}(h:eW s=true):s.name.length<=4/\aP s.args<=300:=by
 simp only[eW,Bool.and_eq_true] at h
 have ha:=h.1.1.1.2
 have hl:=h.1.1.1.1.1.1.2
 have h1:=h.1.1.1.1.1.2
 have h2:=h.1.1.1.1.2
 refine⟨?_,?_⟩
 ·cases hn:tD s.op with
  |true=>
   rw[hn] at h1
   exact iR (by simpa using h1)
  |false=>
   rw[hn] at h2
   have:s.name=[]:=by simpa using h2
   rw[this];simp
 ·have:=rj (l:=s.args) λe he=>DN (List.all_eq_true.1 ha e he)
  have hl2:s.args.length<=2:=by
   simp only[decide_eq_true_eq] at hl
   rw[hl,ji];split<;>omega
  omega
theorem rD{l:List Sm}(h:∀s∈l,s.sz<=305*s.cnt):aM l<=305*cn l:=by
 induction l with
 |nil=>simp[aM]
 |cons e r ih=>
  have h1:=h e (by simp)
  have h2:=ih λx hx=>h x (by simp[hx])
  simp only[aM,cn]
  omega
theorem BY:∀(d:Nat) (s:Sm),aO d s=true->s.sz<=305*s.cnt:=by
 intro d
 induction d with
 |zero=>intro e h;cases h
 |succ d ih=>
  intro s h
  obtain⟨_,hb,he,_⟩:=Cy h
  rw[aO,Bool.and_eq_true,Bool.and_eq_true] at h
  obtain⟨hn,ha⟩:=Cl h.1.1
  have h1:=rD (l:=s.body) λx hx=>ih x (hb x hx)
  have h2:=rD (l:=s.els) λx hx=>ih x (he x hx)
  rw[s.sz_eq,s.cnt_eq]
  omega
theorem zK:∀{l:List (List UInt8)},(∀w∈l,w.length<=4)->(l.map List.length).sum<=4*l.length
 |[],_=>by simp
 |w::r,h=>by
  have h1:=h w (by simp)
  have h2:=zK (l:=r) λx hx=>h x (by simp[hx])
  simp only[List.map_cons,List.sum_cons,List.length_cons]
  omega
theorem EK{f:Fd}(h:jL f=true):f.sz<=20+305*cn f.body:=by
 simp only[jL,Bool.and_eq_true,decide_eq_true_eq,List.all_eq_true] at h
 obtain⟨⟨⟨hp,hn⟩,h3⟩,hb⟩:=h
 have h1:=iR hn
 have h2:=zK (l:=f.params) λw hw=>iR (hp w hw)
 have h4:=rD (l:=f.body) λx hx=>BY 4 x (hb x hx)
 rw[Fd.sz]
 omega
theorem oR:∀{l:List Fd},(∀f∈l,jL f=true)->bY l<=20*l.length+305*nF l
 |[],_=>by simp[bY]
 |f::r,h=>by
  have h1:=EK (h f (by simp))
  have h2:=oR (l:=r) λx hx=>h x (by simp[hx])
  simp only[bY,nF,List.map_cons,List.sum_cons,List.length_cons] at h2⊢
  omega
theorem tx{l:List Fd}(h:cr l=true):bY l<=12280:=by
 rw[ln] at h
 obtain⟨⟨_,h4⟩,hf,hn⟩:=h
 have:=oR hf
 omega
theorem ur{l:List Fd}(h:cr l=true):∀f∈l,∀x∈f.body,aO 4 x=true:=λf hf x hx=>by
 rw[ln] at h
 have h1:=h.2.1 f hf
 simp only[jL,Bool.and_eq_true,List.all_eq_true] at h1
 exact h1.2 x hx
def Lw.Ar(A:Nat)(w:Lw):Prop:=∀b∈w.bs,b.phis=[]/\b.next.length<=2/\∀x∈b.ins,x.args.length<=A
theorem vf{f:Bk->Bk}{l:List Bk}{i:Nat}{b:Bk}(h:b∈modB f l i):b∈l\/∃c∈l,b=f c:=by
 unfold modB at h
 split at h
 ·rename_i c hc
  rcases List.mem_or_eq_of_mem_set h with h|h
  ·exact .inl h
  ·exact .inr ⟨c,List.mem_of_getElem? hc,h⟩
 ·exact .inl h
theorem Lw.Ar.put{A:Nat}{w:Lw}(H:w.Ar A){x:Ii}(hx:x.args.length<=A):(w.put x).Ar A:=λb hb=>by
 rcases vf hb with h|⟨c,hc,rfl⟩
 ·exact H b h
 ·obtain⟨h1,h2,h3⟩:=H c hc
  refine⟨h1,h2,λy hy=>?_⟩
  rcases List.mem_append.1 hy with h|h
  ·exact h3 y h
  ·rw[List.mem_singleton.1 h];exact hx
theorem Lw.Ar.mk'{A:Nat}{w:Lw}(H:w.Ar A){op n:Int}{args:List Int}(hx:args.length<=A):(w.mk' op n args).Ar A:=Lw.Ar.put (w:=w.reg) H hx
theorem Lw.Ar.name{A:Nat}{w:Lw}(H:w.Ar A)(n:Nat):(w.name n).Ar A:=λb hb=>by
 rcases List.mem_append.1 hb with h|h
 ·exact H b h
 ·rw[(List.mem_replicate.1 h).2];simp[bk0]
theorem Lw.Ar.fin{A:Nat}{w:Lw}(H:w.Ar A){j o:Int}{g:Nat}{nx:List Int}(hx:nx.length<=2):(w.fin j o g nx).Ar A:=λb hb=>by
 rcases vf hb with h|⟨c,hc,rfl⟩
 ·exact H b h
 ·obtain⟨h1,h2,h3⟩:=H c hc
  exact⟨h1,hx,h3⟩
mutual
theorem tQ(fa sc:List UInt8->Int){A:Nat}(hA:1<=A):∀(e:Ex) (w:Lw),w.Ar A->e.sz<=A->(lwE fa sc e w).2.Ar A
 | .mk o n s ks,w,H,hz=>by
   simp only[Ex.sz] at hz
   have hkl:=eI ks
   rw[lwE]
   split
   ·exact H.mk' (by simp)
   split
   ·exact H
   split
   ·exact FB fa sc hA ks w H (by omega)
   ·refine(tP fa sc hA ks w H (by omega)).mk' ?_
    rw[fF];omega
theorem FB(fa sc:List UInt8->Int){A:Nat}(hA:1<=A):∀(l:List Ex) (w:Lw),w.Ar A->aP l<=A->(lwA fa sc l w).2.Ar A
 |[],w,H,_=>by rw[lwA];exact H;intro a b h;cases h
 |[a],w,H,_=>by rw[lwA];exact H;intro a b h;cases h
 |a::b::c::r,w,H,_=>by rw[lwA];exact H;intro a b h;cases h
 |[a,b],w,H,hz=>by
  simp only[aP] at hz
  have h1:=tQ fa sc hA a w H (by omega)
  rw[lwA]
  simp only
  have h2:=((h1.mk' (op:=1) (n:=0) (args:=[]) (by simp)).name 2).fin (j:=2) (o:=(lwE fa sc a w).1) (g:=((lwE fa sc a w).2.mk' 1 0 []).bs.length) (nx:=[(((lwE fa sc a w).2.mk' 1 0 []).bs.length:Int),(((lwE fa sc a w).2.mk' 1 0 []).bs.length:Int)+1]) (by simp)
  exact(((tQ fa sc hA b _ h2 (by omega)).mk' (by simpa using hA)).put (by simpa using hA)).fin (by simp)
theorem tP(fa sc:List UInt8->Int){A:Nat}(hA:1<=A):∀(l:List Ex) (w:Lw),w.Ar A->aP l<=A->(bq fa sc l w).2.Ar A
 |[],w,H,_=>by rw[bq];exact H
 |e::r,w,H,hz=>by
  simp only[aP] at hz
  rw[bq]
  exact tP fa sc hA r _ (tQ fa sc hA e w H (by omega)) (by omega)
end
mutual
theorem GG(fa:List UInt8->Int)(q:Int){A:Nat}(hA:1<=A):∀(s:Sm) (m:Scp) (up:List Scp) (nx:Nat) (w:Lw),w.Ar A->s.sz<=A->(lwS fa q s m up nx w).2.2.Ar A
 | .mk o n a bd el,m,up,nx,w,H,hz=>by
   simp only[Sm.sz] at hz
   have hhd:=vh a
   have hal:=eI a
   rw[lwS]
   simp only
   split
   ·have h1:=tQ fa (scF q (m::up)) hA (a.headD (.mk 0 0 [] [])) _ ((H.name 3).fin (j:=1) (o:=0) (g:=w.bs.length) (nx:=[(w.bs.length:Int)]) (by simp)) (by omega)
    exact(lV fa q hA bd [] (m::up) nx _ (h1.fin (by simp)) (by omega)).fin (by simp)
   ·have h1:=tP fa (scF q (m::up)) hA a w H (by omega)
    have hl:(bq fa (scF q (m::up)) a w).1.length<=A:=by rw[fF];omega
    split
    ·exact h1.put hl
    split
    ·exact h1.put hl
    split
    ·exact h1.put hl
    split
    ·exact h1.put hl
    split
    ·exact(lV fa q hA el [] (m::up) _ _ ((lV fa q hA bd [] (m::up) nx _ ((h1.name 3).fin (by simp)) (by omega)).fin (by simp)) (by omega)).fin (by simp)
    split
    ·exact(h1.name 1).fin (by simp)
    ·exact h1
theorem lV(fa:List UInt8->Int)(q:Int){A:Nat}(hA:1<=A):∀(l:List Sm) (m:Scp) (up:List Scp) (nx:Nat) (w:Lw),w.Ar A->aM l<=A->(aT fa q l m up nx w).2.2.Ar A
 |[],m,up,nx,w,H,_=>by rw[aT];exact H
 |s::r,m,up,nx,w,H,hz=>by
  simp only[aM] at hz
  rw[aT]
  exact lV fa q hA r _ up _ _ (GG fa q hA s m up nx w H (by omega)) (by omega)
end
theorem DX(l:List Fd)(q:Int)(f:Fd)(hz:f.sz<=16777216):Ft 1073741824 (lwF l q f)/\0<=(lwF l q f).regs/\(lwF l q f).regs<=1073741824/\0<(lwF l q f).blocks.length:=by
 have hfz:f.sz=1+f.name.length+(f.params.length+(f.params.map List.length).sum)+aM f.body:=rfl
 have hlet:=Nat.le_trans (iH f.body) (gh f.body)
 have hok:(⟨f.params.length+aZ f.body,[bk0],0⟩:Lw).Ok (f.sz+1):=⟨by show f.params.length+aZ f.body<=_;omega,by show 1<=_;omega,λb hb=>by rw[List.mem_singleton.1 hb];show 0<=_;omega,by show 0<1;omega⟩
 have har:(⟨f.params.length+aZ f.body,[bk0],0⟩:Lw).Ar 16777217:=λb hb=>by rw[List.mem_singleton.1 hb];simp[bk0]
 obtain⟨h1,h2,_,_⟩:=dv (faI l) q f.body (psS f.params [] 0) [] f.params.length _ _ hok
 have h3:=lV (faI l) q (A:=16777217) (by omega) f.body (psS f.params [] 0) [] f.params.length _ har (by omega)
 rw[lwF]
 simp only
 generalize aT (faI l) q f.body (psS f.params [] 0) [] f.params.length _=y at*
 have k1:=(h1.mk' 1 0 []).fin 3 y.2.2.regs (g:=0) (by
  have:=h1.pos
  rw[Lw.mk'_len];omega) []
 have k3:=(h3.mk' (op:=1) (n:=0) (args:=[]) (by simp)).fin (j:=3) (o:=y.2.2.regs) (g:=0) (nx:=[]) (by simp)
 refine⟨⟨by have:=k1.bs;show((y.2.2.mk' 1 0 []).fin 3 y.2.2.regs 0 []).bs.length<=_;omega,λb hb=>?_⟩,by show(0:Int)<=((y.2.2.mk' 1 0 []).regs:Int);omega,by have:=k1.regs;show((y.2.2.mk' 1 0 []).regs:Int)<=_;have h:((y.2.2.mk' 1 0 []).fin 3 y.2.2.regs 0 []).regs=(y.2.2.mk' 1 0 []).regs:=rfl;omega,by have:=k1.pos;show 0<((y.2.2.mk' 1 0 []).fin 3 y.2.2.regs 0 []).bs.length;omega⟩
 obtain⟨a1,a2,a3⟩:=k3 b hb
 have a4:=k1.ins b hb
 exact⟨by rw[a1];simp,by omega,by omega,by rw[a1];simp,λx hx=>by have:=a3 x hx;omega⟩
theorem sU:∀{l:List Fd} {f:Fd},f∈l->f.sz<=bY l
 |x::r,f,h=>by
  simp only[bY,List.map_cons,List.sum_cons]
  rcases List.mem_cons.1 h with rfl|h
  ·omega
  ·have:=sU h
   simp only[bY] at this
   omega
theorem EU(l:List Fd)(q:Int)(hz:bY l<=16777216)(hl:l.length<=1073741824):FC 1073741824 (l.map (lwF l q)):=
 ⟨by rw[List.length_map];exact hl,λc hc=>by
   obtain⟨f,hf,rfl⟩:=List.mem_map.1 hc
   have:=sU hf
   exact(DX l q f (by omega)).1⟩
end
section
variable (G:az)
def PshF(s:Bool)(sz:Nat)(D:List (List PV))(h0:List AO)(a:PshS):Prop:=a.i<=D.length/\h0.length<=a.id/\h0.length<=a.h.length/\(∀j,j<h0.length->a.h[j]?=h0[j]?)/\∃rows J,RowOwn s a.h a.id sz rows (D.take a.i) J/\∀j∈J,h0.length<=j
theorem yO{h h2:List AO}(hl:h.length<=h2.length)(hf:∀j,j<h.length->h2[j]?=h[j]?):h2=h++h2.drop h.length:=by
 have e:h2.take h.length=h:=by
  apply List.ext_getElem?
  intro j
  by_cases hj:j<h.length
  ·rw[List.getElem?_take_of_lt hj];exact hf j hj
  ·rw[List.getElem?_eq_none (by rw[List.length_take];omega),List.getElem?_eq_none (by omega)]
 have e2:=List.take_append_drop h.length h2
 rw[e] at e2
 exact e2.symm
theorem PshF.step{s:Bool}{sz i id:Nat}{D:List (List PV)}{h0 h:List AO}(H:PshF s sz D h0 ⟨i,id,h⟩){e:List PV}(hi:D[i]?=some e){h2:List AO}(hl:h.length<=h2.length)(hf:∀j,j<h.length->h2[j]?=h[j]?){r':List AV}{I2:List Nat}(ho:OwnL s h2 r' e I2)(nd2:I2.Nodup)(hn:∀j∈I2,h.length<=j)(he:e.length=sz):
 ∃rows,(∀os,(h2++os)[id]?=some (.row sz rows))/\rows.length=i/\i<D.length/\id<h2.length/\∀os1 os2,PshF s sz D h0 ⟨i+1,(h2++os1).length,(h2++os1).set id .dead++ .row sz (rows++[r'])::os2⟩:=by
 obtain⟨h1,h3,h4,h5,rows,J,hr,hJ⟩:=H
 have hil:i<D.length:=(List.getElem?_eq_some_iff.1 hi).1
 have hlen:=hr.len
 simp only at h1 h3 h4 h5 hlen hr
 rw[List.length_take,Nat.min_eq_left h1] at hlen
 have e2:=yO hl hf
 have hid:=hr.lt
 have h2e:h2[id]?=some (.row sz rows):=by rw[hf id hid];exact hr.here
 refine⟨rows,λos=>by rw[List.getElem?_append_left (by omega)];exact h2e,hlen,hil,by omega,λos1 os2=>⟨hil,by simp only[List.length_append];omega,by simp;omega,λj hj=>?_,rows++[r'],J++I2,?_,λj hj=>?_⟩⟩
 ·simp only
  rw[List.getElem?_append_left (by simp only[List.length_set,List.length_append,List.length_cons];omega),List.getElem?_set_ne (by omega),List.getElem?_append_left (by omega),hf j (by omega)]
  exact h5 j hj
 ·have hp:=(hr.push (h2:=h2++os1) (os:=h2.drop h.length++os1) (by rw[←List.append_assoc,←e2]) (ho.more os1) nd2 hn he).more os2
  have hd:D.take i++[e]=D.take (i+1):=by rw[List.take_add_one,hi];rfl
  rw[hd,List.append_assoc] at hp
  exact hp
 ·rcases List.mem_append.1 hj with hj|hj
  ·exact hJ j hj
  ·have:=hn j hj;omega
theorem PshF.done{s:Bool}{sz i id:Nat}{D:List (List PV)}{h0 h:List AO}(H:PshF s sz D h0 ⟨i,id,h⟩)(hi:D.length<=i):h0.length<=h.length/\(∀j,j<h0.length->h[j]?=h0[j]?)/\∃I,OwnL s h [.sl id sz 0 i] [.lst sz D] I/\I.Nodup/\∀j∈I,h0.length<=j:=by
 obtain⟨h1,h3,h4,h5,rows,J,hr,hJ⟩:=H
 simp only at h1 h3 h4 h5 hr
 rw[List.take_of_length_le hi] at hr
 exact⟨h4,h5,id::J,hr.tree (by omega),hr.nd,λj hj=>by
  rcases List.mem_cons.1 hj with rfl|hj
  ·exact h3
  ·exact hJ j hj⟩
end
section
variable (G:az)
theorem Dq{ρ:List Nat}:∀{args:List AV},aq 0 args->TW ρ args args
 |[],_=>trivial
 |v::r,h=>⟨.inr ⟨(bz (Nat.zero_le _) [v] ⟨h.1,trivial⟩).1,by have:=iq ρ [v] ⟨h.1,trivial⟩;simpa[be] using this⟩,Dq h.2⟩
theorem Ig{f:FuncId}{args:List AV}{b:List Int}{p:Nat}{Q:AV->Nat->Prop}(H:AC Tryz.prog G f (.ptr 0 2 0 0::args) [rdO b p] λx h=>∃v q,x= .ret v/\h=[rdO b q]/\Q v q)(hq:∀v q,Q v q->below 0 v){h:List AO}{k:Nat}(hk:h[k]?=some (rdO b p))(ha:aq 0 args):
 AC Tryz.prog G f (.ptr k 2 0 0::args) h λx h'=>∃v q,x= .ret v/\h'=h.set k (rdO b q)/\Q v q:=by
 refine(H.frame (h:=h) (args:= .ptr k 2 0 0::args) [k] (by simp) ⟨.inr ⟨by simp[below],by simp[ren]⟩,Dq ha⟩ (gG hk (bJ _ _ _) fS)).mono ?_
 rintro x h' ⟨x0,h0,⟨v,q,rfl,rfl,r⟩,hl,rfl,rfl⟩
 refine⟨v,q,?_,?_,r⟩
 ·simp only[yE]
  have:=iq ([k]++List.range' h.length ([rdO b q].length-[rdO b p].length)) [v] ⟨hq v q r,trivial⟩
  simpa[be] using this
 ·have hp2:∀σ,ec σ (rdO b q)=rdO b q:=λσ=>by simp[rdO,ec,be,ren]
  simp[mrg,hp2]
theorem uB{l:List Int}(h:Byt l)(n:Nat):Byt (l.take n):=λx hx=>h x (List.mem_of_mem_take hx)
theorem CM{f:FuncId}{args:List AV}{R:ARes->Prop}(H:AC Tryz.prog G f args [] λx _=>R x)(hR:∀x,R x->∃v,x= .ret v/\below 0 v)(ha:aq 0 args)(h:List AO):AC Tryz.prog G f args h λx h'=>R x/\h'=h:=by
 have H2:AC Tryz.prog G f args [] λx h'=>R x/\h'=[]:=by
  refine H.wk (λt v h' r=>by obtain⟨_,e,_⟩:=hR _ r;cases e) λv h' r=>?_
  obtain⟨v',e,hv⟩:=hR _ r
  cases e
  exact⟨v,[],Dr rfl ⟨.inr ⟨hv,rfl⟩,trivial⟩,r,rfl⟩
 refine(H2.pre h ha (λo ho=>by cases ho) (λx h' r=>by rw[r.2])).mono ?_
 rintro x h' ⟨h1,⟨r,rfl⟩,rfl⟩
 exact⟨r,rfl⟩
variable (hK:G yp=some yB) (hS:G vJ=some [.tbl opK opV])
include hK hS
end
section
theorem It{u:List Cd}(h:unB u=true):GU u:=by
 simp only[unB,Bool.and_eq_true,decide_eq_true_eq] at h
 obtain⟨⟨h1,h2⟩,_⟩:=h
 simp only[inR,Bool.and_eq_true,decide_eq_true_eq] at h1
 refine⟨⟨λe=>by rw[e] at h1;simp at h1,by omega⟩,λc hc=>?_⟩
 obtain⟨i,hi⟩:=List.getElem?_of_mem hc
 have h3:=allI_iff.1 h2 i c hi
 simp only[cdB,Bool.and_eq_true,inR,decide_eq_true_eq] at h3
 obtain⟨⟨⟨_,_⟩,h4⟩,h5⟩:=h3
 refine⟨by omega,by omega,λx hx=>?_⟩
 obtain⟨j,hj⟩:=List.getElem?_of_mem hx
 have h6:=allI_iff.1 h5 j x hj
 simp only[bkB,Bool.and_eq_true] at h6
 have h7:=h6.1.1.1.1
 rw[decide_eq_true_eq] at h7
 have h8:nxN x.jump<=2:=by
  unfold nxN
  split
  ·decide
  ·split
   ·decide
   ·split<;>decide
 omega
variable (G:az)
theorem Al{b:List Int}(hb:Byt b)(hl:b.length<=2000){p:Nat}(hp:p<=9000000000):AC Tryz.prog G fN [.ptr 0 2 0 0] [rdO b p] λx h=>∃v q,x= .ret v/\h=[rdO b q]/\(∃cs,v= .agg [.p (cdL cs)]/\GU cs)/\p<=q/\q<=p+200010000:=by
 refine gg G (AC.go oU ?_)
 obtain⟨p1,hp1⟩:∃p1,p1=p+1:=⟨_,rfl⟩
 have hprog:AC Tryz.prog G eA [.ptr 0 2 0 0] [rdO b p1] λx h=>∃v q,x= .ret v/\h=[rdO b q]/\((∃l:List Fd,v= .agg [.p (fdL l)]/\cr l=true)/\p1<=q/\q<=p1+200000000):=
  (Gk G hb hl (by omega)).mono λx h ⟨l,q,e1,e2,e3,e4,e5,e6⟩=>⟨_,q,e1,e2,⟨l,rfl,e3⟩,e5,e6⟩
 simp-implicitDefEqProofs[jx]
 refine(aF G b hb hl p (by omega) 2 _).mono ?_
 rintro r h ⟨k1,rfl,rfl,_⟩
 rw[←hp1]
 simp-implicitDefEqProofs[aa]
 have alt:∀(rest:List AO) (q:Nat),p<=q->q<=p+200000001->AC Tryz.prog G cU [.ptr 0 2 0 0] (rdO b q::rest) λx h=>∃v q2,x= .ret v/\h=rdO b q2::rest/\(∃cs,v= .agg [.p (cdL cs)]/\SmU cs)/\q<=q2/\q2<=q+4000:=λrest q _ _=>gS G (uY G hb hl (p:=q) (by omega)) rest (by simp[below])
 refine aG (λhc=>?_) (λhc=>?_)
 ·simp-implicitDefEqProofs[]
  refine(gS G hprog _ (by simp[below])).mono ?_
  rintro r h ⟨v,q,rfl,rfl,⟨l,rfl,hok⟩,h1,h2⟩
  have hz:=tx hok
  have hll:l.length<=4:=((ln l).1 hok).1.2
  simp-implicitDefEqProofs[aa]
  refine(CX G l (by omega) (ur hok)).use ?_
  have hu:=uX G (unR l) (EU l (-1) (by omega) (by omega))
  simp-implicitDefEqProofs[]
  refine hu.use ?_
  simp-implicitDefEqProofs[]
  refine aG (λhv=>?_) (λhv=>?_)
  ·simp-implicitDefEqProofs[]
   exact⟨_,_,q,.agg [.p (cdL (unR l))],rfl,rfl,.keep (by simp) .nil,⟨_,rfl,It hv⟩,by omega,by omega⟩
  ·simp-implicitDefEqProofs[]
   refine(alt _ q (by omega) (by omega)).mono ?_
   rintro r h ⟨v,q2,rfl,rfl,⟨cs,rfl,hs⟩,h3,h4⟩
   simp-implicitDefEqProofs[aa]
   exact⟨_,_,q2,.agg [.p (cdL cs)],rfl,rfl,.keep (by simp) .nil,⟨cs,rfl,⟨hs.1,by have:=hs.2.1;omega⟩,λc hc=>(hs.2.2 c hc).g⟩,by omega,by omega⟩
 ·simp-implicitDefEqProofs[]
  refine(alt _ p1 (by omega) (by omega)).mono ?_
  rintro r h ⟨v,q2,rfl,rfl,⟨cs,rfl,hs⟩,h3,h4⟩
  simp-implicitDefEqProofs[aa]
  exact⟨_,_,q2,.agg [.p (cdL cs)],rfl,rfl,.keep (by simp) .nil,⟨cs,rfl,⟨hs.1,by have:=hs.2.1;omega⟩,λc hc=>(hs.2.2 c hc).g⟩,by omega,by omega⟩
theorem AU{b:List Int}(hb:Byt b)(hl:b.length<=2000){p:Nat}(hp:p<=8000000000):AC Tryz.prog G fx [.ptr 0 2 0 0] [rdO b p] λx h=>∃v q,x= .ret v/\h=[rdO b q]/\(∃cs,v= .agg [.p (cdL cs)]/\GU cs)/\p<=q/\q<=p+200020000:=by
 refine gg G (AC.go pi ?_)
 obtain⟨p1,hp1⟩:∃p1,p1=p+1:=⟨_,rfl⟩
 simp-implicitDefEqProofs[jO]
 refine(aF G b hb hl p (by omega) 12 _).mono ?_
 rintro r h ⟨k1,rfl,rfl,_⟩
 rw[←hp1]
 simp-implicitDefEqProofs[aa]
 refine aG (λhc=>?_) (λhc=>?_)
 ·simp-implicitDefEqProofs[]
  refine(gS G (Cq G hb hl (p:=p1) (by omega)) _ (by simp[below])).mono ?_
  rintro r h ⟨v,q,rfl,rfl,⟨cs,rfl,hs⟩,h1,h2⟩
  simp-implicitDefEqProofs[aa]
  exact⟨_,_,q,.agg [.p (cdL cs)],rfl,rfl,.keep (by simp) .nil,⟨cs,rfl,hs⟩,by omega,by omega⟩
 ·simp-implicitDefEqProofs[]
  refine(gS G (Al G hb hl (p:=p1) (by omega)) _ (by simp[below])).mono ?_
  rintro r h ⟨v,q,rfl,rfl,⟨cs,rfl,hs⟩,h1,h2⟩
  simp-implicitDefEqProofs[aa]
  exact⟨_,_,q,.agg [.p (cdL cs)],rfl,rfl,.keep (by simp) .nil,⟨cs,rfl,hs⟩,by omega,by omega⟩
def CdQ(p n:Nat)(v:AV)(q:Nat):Prop:=(∃c:Cd,v= .agg (c.cs.map .p)/\GCd c)/\p<=q/\q<=p+n
theorem sL{b:List Int}(hb:Byt b)(hl:b.length<=2000){p:Nat}(hp:p<=7000000000):AC Tryz.prog G dD [.ptr 0 2 0 0] [rdO b p] λx h=>∃v q,x= .ret v/\h=[rdO b q]/\CdQ p 200020000 v q:=by
 refine gg G (AC.go rx ?_)
 simp-implicitDefEqProofs[jr]
 refine(gS G (AU G hb hl (p:=p) (by omega)) _ (by simp[below])).mono ?_
 rintro r h ⟨v,q,rfl,rfl,⟨cs,rfl,hs⟩,h1,h2⟩
 have hcl:cdL cs= .lst 3 (cs.map Cd.cs):=rfl
 have hpos:=List.length_pos_iff.2 hs.1.1
 obtain⟨m,hm⟩:∃m,cs.length=m+1:=⟨cs.length-1,by omega⟩
 have hm4:=hs.1.2
 have hw:IntKind.i64.wrap (m:Int)=(m:Int):=ag (by omega) (by omega)
 have hg:cs[m]?=some cs[m]:=List.getElem?_eq_getElem (by omega)
 have hgc:=hs.2 _ (List.mem_of_getElem? hg)
 generalize cs[m]=c at hg hgc
 have hge:=λhh=>dV hg hh
 have hcc:=c.cs_eq2
 simp-implicitDefEqProofs[aa,hcl,hm,hw,hg,hge,hcc]
 exact⟨_,_,q,.agg (c.cs.map .p),rfl,rfl,.keep (by simp[hcc]) .nil,⟨c,rfl,hgc⟩,h1,h2⟩
def DrC(x:ARes):Prop:=∃c:Cd,x= .ret (.agg (c.cs.map .p))/\GCd c
theorem BX(x:ARes)(h:DrC x):∃v,x= .ret v/\below 0 v:=by
 obtain⟨c,rfl,_⟩:=h
 exact⟨_,rfl,by simp[below,c.cs_eq2]⟩
theorem CQ(n:Nat)(b:List Int)(q:Nat):bW n (rdO b q)=rdO b q:=by simp[rdO,bW,ck,bk]
end
section
theorem GCd.csm{c:Cd}(h:GCd c):CSm c:=by
 obtain⟨_,h2,h3⟩:=h
 refine⟨⟨by omega,λx hx=>by have:=h3 x hx;omega⟩,?_⟩
 have key:∀l:List Bk,(∀x∈l,x.next.length<=2)->(l.map λx=>x.next.length).sum<=2*l.length:=by
  intro l
  induction l with
  |nil=>intro _;simp
  |cons a r ih=>
   intro h
   have h1:=h a (by simp)
   have h2:=ih λx hx=>h x (by simp[hx])
   simp only[List.map_cons,List.sum_cons,List.length_cons]
   omega
 have:=key _ h3
 omega
variable (G:az)
end
section
def Out(h:List AO)(V:AV)(L:List Int):Prop:=(V= .nils/\L=[])\/∃id,V= .sl id 1 0 L.length/\h[id]?=some (.row 1 (aE L))
theorem Out.view{h:List AO}{V:AV}{L:List Int}(o:Out h V L):View h V (aD L):=by
 rcases o with⟨rfl,rfl⟩|⟨id,rfl,e⟩
 ·exact .nils 1
 ·exact iF e
theorem Out.app{h:List AO}{V:AV}{L:List Int}(o:Out h V L)(t:List AO):Out (h++t) V L:=by
 rcases o with h1|⟨id,h1,h2⟩
 ·exact .inl h1
 ·exact .inr ⟨id,h1,by rw[List.getElem?_append_left (List.getElem?_eq_some_iff.1 h2).1];exact h2⟩
theorem Out.below{h:List AO}{V:AV}{L:List Int}(o:Out h V L):Aw.below h.length V:=by
 rcases o with⟨rfl,_⟩|⟨id,rfl,h2⟩
 ·simp[Aw.below]
 ·simp only[Aw.below];exact(List.getElem?_eq_some_iff.1 h2).1
theorem sG{c:Cd}{x:Nat}(h:x<c.blocks.length):dc c x=aL c.blocks x:=by
 have:inR (x:Int) 0 ((c.blocks.length:Int)-1)=true:=by simp only[inR,Bool.and_eq_true,decide_eq_true_eq];omega
 rw[dc,this,if_pos rfl]
variable (G:az)
end
section
variable (G:az)
theorem DJ(code:List Int)(hb:Byt code):AC Tryz.prog G fJ [.p (mg code)] [] λx _=>DrC x:=by
 refine AC.go lw ?_
 simp-implicitDefEqProofs[fk]
 refine(AC.lift (Bs G code) (by simp) rfl rfl).mono ?_
 rintro r h ⟨rfl,rfl⟩
 have hbt:=uB hb 2000
 have hbl:(code.take 2000).length<=2000:=by rw[List.length_take];omega
 generalize code.take 2000=b at hbt hbl
 simp-implicitDefEqProofs[aa,bk,CQ]
 refine(Ig G (sL G hbt hbl (p:=0) (by omega)) (λv q ⟨⟨c,e,_⟩,_⟩=>by rw[e];simp[below,c.cs_eq2]) (h:=[.row 3 [[.p (.int .i64 0),.p (.int .i64 0),.nils]],rdO b 0]) (k:=1) rfl trivial).mono ?_
 rintro r h ⟨v,q,rfl,rfl,⟨c,rfl,hg⟩,_⟩
 have hcc:=c.cs_eq2
 simp-implicitDefEqProofs[aa,hcc]
 exact⟨c,rfl,hg⟩
theorem rd(code:List Int)(hb:Byt code):AC Tryz.prog G cN [.p (mg code)] [] λx _=>DrC x:=by
 refine AC.go kC ?_
 simp-implicitDefEqProofs[eX]
 refine(AC.lift (Bs G code) (by simp) rfl rfl).mono ?_
 rintro r h ⟨rfl,rfl⟩
 have hbt:=uB hb 2000
 have hbl:(code.take 2000).length<=2000:=by rw[List.length_take];omega
 generalize code.take 2000=b at hbt hbl
 simp-implicitDefEqProofs[aa,bk,CQ]
 refine(Ig G (sL G hbt hbl (p:=0) (by omega)) (λv q ⟨⟨c,e,_⟩,_⟩=>by rw[e];simp[below,c.cs_eq2]) (h:=[.row 3 [[.p (.int .i64 0),.p (.int .i64 0),.nils]],rdO b 0]) (k:=1) rfl trivial).mono ?_
 rintro r h ⟨v,q,rfl,rfl,⟨c,rfl,hg⟩,_⟩
 have hcc:=c.cs_eq2
 simp-implicitDefEqProofs[aa,hcc]
 exact⟨c,rfl,hg⟩
end
end Go.Proofs.YtdfplkcigiblcaaGreat
namespace Go.Proofs.YtdfplkcigiblcaaGreat
open Go
def lays189_ren:Go.Shelf.Ren:=⟨λ|125=>123|128=>138|129=>139|189=>101|215=>151|216=>135|257=>122|294=>129|295=>130|296=>131|297=>132|298=>133|299=>134|300=>136|301=>137|328=>146|329=>147|330=>148|331=>149|332=>150|343=>167|n=>n,λ|0=>0|3=>3|4=>4|5=>5|9=>9|28=>30|46=>101|51=>124|53=>126|131=>121|182=>116|183=>117|218=>145|222=>149|228=>171|229=>172|n=>n,λn=>n⟩
theorem ta:Lays.n189 Tryz.prog lays189_ren where
 mixed:=by kernel_rfl
 f125:=Tryz.func123.trans (congrArg some (by kernel_rfl))
 f128:=Tryz.func138.trans (congrArg some (by kernel_rfl))
 f129:=Tryz.func139.trans (congrArg some (by kernel_rfl))
 f189:=Tryz.func101.trans (congrArg some (by kernel_rfl))
 f215:=Tryz.func151.trans (congrArg some (by kernel_rfl))
 f216:=Tryz.func135.trans (congrArg some (by kernel_rfl))
 f257:=Tryz.func122.trans (congrArg some (by kernel_rfl))
 f294:=Tryz.func129.trans (congrArg some (by kernel_rfl))
 f295:=Tryz.func130.trans (congrArg some (by kernel_rfl))
 f296:=Tryz.func131.trans (congrArg some (by kernel_rfl))
 f297:=Tryz.func132.trans (congrArg some (by kernel_rfl))
 f298:=Tryz.func133.trans (congrArg some (by kernel_rfl))
 f299:=Tryz.func134.trans (congrArg some (by kernel_rfl))
 f300:=Tryz.func136.trans (congrArg some (by kernel_rfl))
 f301:=Tryz.func137.trans (congrArg some (by kernel_rfl))
 f328:=Tryz.func146.trans (congrArg some (by kernel_rfl))
 f329:=Tryz.func147.trans (congrArg some (by kernel_rfl))
 f330:=Tryz.func148.trans (congrArg some (by kernel_rfl))
 f331:=Tryz.func149.trans (congrArg some (by kernel_rfl))
 f332:=Tryz.func150.trans (congrArg some (by kernel_rfl))
 f343:=Tryz.func167.trans (congrArg some (by kernel_rfl))
 t0:=Tryz.underlying0
 a0:=Tryz.isAgg0
 z0:=Tryz.sizeOf0
 v0:=Tryz.zeroValue0
 t3:=Tryz.underlying3
 a3:=Tryz.isAgg3
 z3:=Tryz.sizeOf3
 v3:=Tryz.zeroValue3
 t4:=Tryz.underlying4
 a4:=Tryz.isAgg4
 z4:=Tryz.sizeOf4
 v4:=Tryz.zeroValue4
 t5:=Tryz.underlying5
 a5:=Tryz.isAgg5
 z5:=Tryz.sizeOf5
 v5:=Tryz.zeroValue5
 t9:=Tryz.underlying9
 a9:=Tryz.isAgg9
 z9:=Tryz.sizeOf9
 v9:=Tryz.zeroValue9
 t28:=Tryz.underlying30
 a28:=Tryz.isAgg30
 z28:=Tryz.sizeOf30
 v28:=Tryz.zeroValue30
 t46:=Tryz.underlying101
 a46:=Tryz.isAgg101
 z46:=Tryz.sizeOf101
 v46:=Tryz.zeroValue101
 t51:=Tryz.underlying124
 a51:=Tryz.isAgg124
 z51:=Tryz.sizeOf124
 v51:=Tryz.zeroValue124
 t53:=Tryz.underlying126
 a53:=Tryz.isAgg126
 z53:=Tryz.sizeOf126
 v53:=Tryz.zeroValue126
 t131:=Tryz.underlying121
 a131:=Tryz.isAgg121
 z131:=Tryz.sizeOf121
 v131:=Tryz.zeroValue121
 t182:=Tryz.underlying116
 a182:=Tryz.isAgg116
 z182:=Tryz.sizeOf116
 v182:=Tryz.zeroValue116
 t183:=Tryz.underlying117
 a183:=Tryz.isAgg117
 z183:=Tryz.sizeOf117
 v183:=Tryz.zeroValue117
 t218:=Tryz.underlying145
 a218:=Tryz.isAgg145
 z218:=Tryz.sizeOf145
 v218:=Tryz.zeroValue145
 t222:=Tryz.underlying149
 a222:=Tryz.isAgg149
 z222:=Tryz.sizeOf149
 v222:=Tryz.zeroValue149
 t228:=Tryz.underlying171
 a228:=Tryz.isAgg171
 z228:=Tryz.sizeOf171
 v228:=Tryz.zeroValue171
 t229:=Tryz.underlying172
 a229:=Tryz.isAgg172
 z229:=Tryz.sizeOf172
 v229:=Tryz.zeroValue172
def lays20_ren:Go.Shelf.Ren:=⟨λ|20=>102|n=>n,λ|0=>0|3=>3|4=>4|22=>30|n=>n,λn=>n⟩
theorem yP:Lays2.n20 Tryz.prog lays20_ren where
 mixed:=by kernel_rfl
 f20:=Tryz.func102.trans (congrArg some (by kernel_rfl))
 t0:=Tryz.underlying0
 a0:=Tryz.isAgg0
 z0:=Tryz.sizeOf0
 v0:=Tryz.zeroValue0
 t3:=Tryz.underlying3
 a3:=Tryz.isAgg3
 z3:=Tryz.sizeOf3
 v3:=Tryz.zeroValue3
 t4:=Tryz.underlying4
 a4:=Tryz.isAgg4
 z4:=Tryz.sizeOf4
 v4:=Tryz.zeroValue4
 t22:=Tryz.underlying30
 a22:=Tryz.isAgg30
 z22:=Tryz.sizeOf30
 v22:=Tryz.zeroValue30
 i3:=by kernel_rfl
end Go.Proofs.YtdfplkcigiblcaaGreat
namespace Go.Proofs.YtdfplkcigiblcaaGreat
open Go Go.Aw
set_option maxRecDepth 100000
set_option maxHeartbeats 4000000
section
structure VH (c:Cd) (X:List AO) (seen:List Bool) (out:List Nat):Prop where
 len:5<=X.length
 code:X[0]?=some (.row 3 [[.p (.int .i64 c.params),.p (.int .i64 c.regs),.p (bkL c.blocks)]])
 se:X[2]?=some (.row 1 (mo seen))
 sb:X[3]?=some (.row 1 [[.sl 2 1 0 c.blocks.length]])
 fn:X[4]?=some (.row 1 [[.fn (.func co) [.ptr 3 1 0 0,.ptr 0 3 0 0,.ptr 4 1 0 0,.ptr 1 1 0 0]]])
 ou:∃V,X[1]?=some (.row 1 [[V]])/\((V= .nils/\out=[])\/∃id,5<=id/\V= .sl id 1 0 out.length/\X[id]?=some (.row 1 (aE (cu out))))
 sl:seen.length=c.blocks.length
structure VsS where (i:Nat) (X:List AO)
variable (G:az)
theorem yC(c:Cd)(hc:CBd c)(hfit:dq c.blocks=true):∀(f:Nat) (X:List AO) (b:Nat) (seen:List Bool) (out:List Nat),b<c.blocks.length->sn seen b=false->fls seen<=f->VH c X seen out->out.length+fls seen<=1073741824->
 AC Tryz.prog G co [.p (.int .i64 b),.ptr 3 1 0 0,.ptr 0 3 0 0,.ptr 4 1 0 0,.ptr 1 1 0 0] X λx X'=>x= .ret (.tup [])/\X.length<=X'.length/\VH c X' (dfs (nxC c.blocks) f (seen,out) b).1 (dfs (nxC c.blocks) f (seen,out) b).2:=by
 intro f
 induction f with
 |zero=>
  intro X b seen out hb hsb hf
  have:=lP hsb
  omega
 |succ f ih=>
  intro X b seen out hb hsb hf hX hsz
  have hsl:=hX.sl
  have hbl:bkL c.blocks= .lst 5 (c.blocks.map Bk.cs):=rfl
  have hl1:=hc.1
  have hgb:=List.getElem?_eq_getElem hb
  have hmb:=List.getElem_mem hb
  generalize c.blocks[b]=x at hgb hmb
  have hnx:=hc.2 _ hmb
  have hxs:=x.cs_eq2
  have hnl:aD x.next= .lst 1 (x.next.map λn=>[.int .i64 n]):=rfl
  have hset:=lP hsb
  have hD0:∀i,(eQ (nxC c.blocks) f (seen.set b true,out) ((nxC c.blocks b).take i)).2.length+fls (eQ (nxC c.blocks) f (seen.set b true,out) ((nxC c.blocks b).take i)).1+1=out.length+fls seen/\(eQ (nxC c.blocks) f (seen.set b true,out) ((nxC c.blocks b).take i)).1.length=seen.length/\fls (eQ (nxC c.blocks) f (seen.set b true,out) ((nxC c.blocks b).take i)).1<=f:=λi=>by
   have:=(zm (nxC c.blocks) f).1 ((nxC c.blocks b).take i) (seen.set b true,out) (by simp only;omega)
   simp only[List.length_set] at this
   omega
  obtain⟨D,hD⟩:∃D:Nat->List Bool × List Nat,D=λi=>eQ (nxC c.blocks) f (seen.set b true,out) ((nxC c.blocks b).take i):=⟨_,rfl⟩
  have hDz:D 0=(seen.set b true,out):=by rw[hD];rfl
  have hDs:∀(i:Nat) (m:Nat),(nxC c.blocks b)[i]?=some m->D (i+1)=if sn (D i).1 m then D i else dfs (nxC c.blocks) f (D i) m:=λi m h=>by
   rw[hD];exact Ao h
  have hDe:dfs (nxC c.blocks) (f+1) (seen,out) b=((D x.next.length).1,(D x.next.length).2++[b]):=by
   rw[rh,hD]
   have:(nxC c.blocks b).take x.next.length=nxC c.blocks b:=by rw[jC hgb,List.take_of_length_le (by simp)]
   simp only[this]
  have hD1:∀i,(D i).2.length+fls (D i).1+1=out.length+fls seen/\(D i).1.length=seen.length/\fls (D i).1<=f:=λi=>by rw[hD];exact hD0 i
  clear hD0 hD
  have hXl:=hX.len
  have hrow:(mo seen)[b]?=some [.p (.bool false)]:=by rw[←hsb];exact uq (sZ (by omega))
  refine AC.go oA ?_
  have e0:∀t,(X.set 2 t)[0]?=some (.row 3 [[.p (.int .i64 c.params),.p (.int .i64 c.regs),.p (bkL c.blocks)]]):=λt=>by rw[List.getElem?_set_ne (by omega)];exact hX.code
  simp-implicitDefEqProofs[jf,hX.sb,hX.se,hrow,Bu,e0,hbl,hgb,hxs,hnl]
  refine⟨hb,?_⟩
  have hVz:VH c (X.set 2 (.row 1 (mo (seen.set b true)))) (D 0).1 (D 0).2:=by
   rw[hDz]
   refine⟨by simp;omega,e0 _,by rw[List.getElem?_set_self (by omega)],by rw[List.getElem?_set_ne (by omega)];exact hX.sb,by rw[List.getElem?_set_ne (by omega)];exact hX.fn,?_,by rw[List.length_set];exact hsl⟩
   obtain⟨V,h1,h2⟩:=hX.ou
   refine⟨V,by rw[List.getElem?_set_ne (by omega)];exact h1,h2.imp id λ⟨id,a1,a2,a3⟩=>⟨id,a1,a2,by rw[List.getElem?_set_ne (by omega)];exact a3⟩⟩
  have hlz:X.length<=(X.set 2 (.row 1 (mo (seen.set b true)))).length:=by simp
  generalize X.set 2 (.row 1 (mo (seen.set b true)))=X0 at hVz hlz
  refine aJ (λa:VsS=>aA 35 [(18,.p (.int .i64 a.i)),(17,.p (.int .i64 x.next.length)),(16,.p (.lst 1 (x.next.map λn=>[.int .i64 n]))),(0,.p (.int .i64 b)),(1,.ptr 3 1 0 0),(2,.ptr 0 3 0 0),(3,.ptr 4 1 0 0),(4,.ptr 1 1 0 0)]) (λa=>a.X)
   (λa=>a.i<=x.next.length/\X.length<=a.X.length/\VH c a.X (D a.i).1 (D a.i).2) (λa=>x.next.length-a.i) ⟨0,X0⟩ ⟨Nat.zero_le _,hlz,hVz⟩ (ab hlz (by have:=hVz.len;simp[below];omega)) ?_
  clear hVz hlz X0 e0
  rintro⟨i,Y⟩ ⟨hi,hYl,hY⟩
  simp only at hi hYl hY
  have hY5:=hY.len
  simp-implicitDefEqProofs[]
  refine aG (λhc1=>?_) (λhc1=>?_)
  ·simp at hc1
   have hg2:=List.getElem?_eq_getElem hc1
   generalize x.next[i]=r at hg2
   have hr:=mF hfit hgb (List.mem_of_getElem? hg2)
   have hrn:((r.toNat:Nat):Int)=r:=by omega
   have hDn:=hDs i r.toNat (DU hgb hg2)
   generalize hm:r.toNat=m at hrn hDn
   subst hrn
   have hml:m<c.blocks.length:=by omega
   have⟨q1,q2,q3⟩:=hD1 i
   have hrw:(mo (D i).1)[m]?=some [.p (.bool (sn (D i).1 m))]:=uq (sZ (by omega))
   have hw1:=w1 (i:=i) (by omega)
   simp-implicitDefEqProofs[hg2,hY.sb,hY.se,hrw,hml]
   refine aG (λhe=>?_) (λhe=>?_)
   ·have he:sn (D i).1 m=false:=by simpa using he
    simp only[he,Bool.false_eq_true,if_false] at hDn
    have hcall:=ih Y m (D i).1 (D i).2 hml he q3 hY (by omega)
    simp-implicitDefEqProofs[hY.fn]
    refine hcall.mono ?_
    rintro rr Z ⟨rfl,z1,z2⟩
    rw[show((D i).1,(D i).2)=D i from rfl,←hDn] at z2
    simp-implicitDefEqProofs[aa]
    exact⟨⟨i+1,Z⟩,⟨by simp only;omega,by simp only;omega,z2⟩,by simp only;omega,ab (by omega) (by have:=z2.len;simp[below,hw1];omega)⟩
   ·have he:sn (D i).1 m=true:=by simpa using he
    simp only[he,if_true] at hDn
    simp-implicitDefEqProofs[]
    exact⟨⟨i+1,Y⟩,⟨by simp only;omega,hYl,by simp only[hDn];exact hY⟩,by simp only;omega,ab (by omega) (by simp[below,hw1];omega)⟩
  ·simp at hc1
   have hie:i=x.next.length:=by omega
   subst hie
   rw[hDe]
   have⟨q1,q2,q3⟩:=hD1 x.next.length
   generalize D x.next.length=Z at*
   obtain⟨V,v1,v2⟩:=hY.ou
   have v1':∀t,(Y++t)[1]?=some (.row 1 [[V]]):=λt=>by rw[List.getElem?_append_left (by omega)];exact v1
   have v1e:=λt hh=>IJ (v1' t) hh
   rcases v2 with⟨rfl,hn⟩|⟨id,hid,rfl,v3⟩
   ·simp-implicitDefEqProofs[v1,v1',v1e]
    refine⟨by omega,by simp;omega,?_,?_,?_,?_,⟨.sl (Y.length+1) 1 0 1,?_,.inr ⟨Y.length+1,by omega,by rw[hn];rfl,?_⟩⟩,by rw[q2];exact hsl⟩
    ·rw[List.getElem?_set_ne (by omega),List.getElem?_append_left (by omega)];exact hY.code
    ·rw[List.getElem?_set_ne (by omega),List.getElem?_append_left (by omega)];exact hY.se
    ·rw[List.getElem?_set_ne (by omega),List.getElem?_append_left (by omega)];exact hY.sb
    ·rw[List.getElem?_set_ne (by omega),List.getElem?_append_left (by omega)];exact hY.fn
    ·rw[List.getElem?_set_self (by simp)]
    ·rw[List.getElem?_set_ne (by omega),List.getElem?_append_right (by omega),hn];simp[aE,cu]
   ·have hol:=(List.getElem?_eq_some_iff.1 v3).1
    have htl:List.take Z.2.length (aE (cu Z.2))=aE (cu Z.2):=List.take_of_length_le (by simp[aE,cu])
    have hrl:(aE (cu Z.2)).length=Z.2.length:=by simp[aE,cu]
    have hxm:∀t,(Y++t)[id]?=some (.row 1 (aE (cu Z.2))):=λt=>by rw[List.getElem?_append_left hol];exact v3
    have v4:∀t t',((Y++t).set id .dead++t')[1]?=some (.row 1 [[.sl id 1 0 Z.2.length]]):=λt t'=>by
     rw[List.getElem?_append_left (by simp;omega),List.getElem?_set_ne (by omega)];exact v1' t
    have v4e:=λt t' hh=>IJ (v4 t t') hh
    simp-implicitDefEqProofs[v1,v1',v1e,hxm,htl,hrl,v4,v4e]
    refine⟨⟨by omega,by omega⟩,by omega,by simp;omega,?_,?_,?_,?_,⟨.sl (Y.length+1) 1 0 (Z.2.length+1),?_,.inr ⟨Y.length+1,by omega,by simp,?_⟩⟩,by rw[q2];exact hsl⟩
    ·rw[List.getElem?_set_ne (by omega),List.getElem?_append_left (by simp<;>omega),List.getElem?_set_ne (by omega),List.getElem?_append_left (by omega)];exact hY.code
    ·rw[List.getElem?_set_ne (by omega),List.getElem?_append_left (by simp;omega),List.getElem?_set_ne (by omega),List.getElem?_append_left (by omega)];exact hY.se
    ·rw[List.getElem?_set_ne (by omega),List.getElem?_append_left (by simp;omega),List.getElem?_set_ne (by omega),List.getElem?_append_left (by omega)];exact hY.sb
    ·rw[List.getElem?_set_ne (by omega),List.getElem?_append_left (by simp;omega),List.getElem?_set_ne (by omega),List.getElem?_append_left (by omega)];exact hY.fn
    ·rw[List.getElem?_set_self (by simp)]
    ·rw[List.getElem?_set_ne (by omega),List.getElem?_append_right (by simp),Aq];simp[aE,cu]
def mf(bs:List Bk):List Nat:=(dfs (nxC bs) bs.length (List.replicate bs.length false,[]) 0).2
theorem AG(c:Cd)(hc:CBd c)(hfit:dq c.blocks=true):AC Tryz.prog G gW [.agg (c.cs.map .p)] [] λr h=>∃id,mf c.blocks≠[]/\r= .ret (.sl id 1 0 (mf c.blocks).length)/\h[id]?=some (.row 1 (aE (cu (mf c.blocks)))):=by
 have hcs:=c.cs_eq2
 have hbl:bkL c.blocks= .lst 5 (c.blocks.map Bk.cs):=rfl
 have hl1:=hc.1
 have hpos:=pD hfit
 have hsl:(List.replicate c.blocks.length false).length=c.blocks.length:=List.length_replicate
 have h0:sn (List.replicate c.blocks.length false) 0=false:=by rw[tA];exact decide_eq_false (by omega)
 have hne:mf c.blocks≠[]:=by
  rw[mf]
  obtain⟨n,hn⟩:∃n,c.blocks.length=n+1:=⟨c.blocks.length-1,by omega⟩
  rw[hn,rh]
  simp
 have hv:=yC G c hc hfit c.blocks.length [.row 3 [[.p (.int .i64 c.params),.p (.int .i64 c.regs),.p (bkL c.blocks)]],.row 1 [[.nils]],.row 1 (mo (List.replicate c.blocks.length false)),.row 1 [[.sl 2 1 0 c.blocks.length]],.row 1 [[.fn (.func co) [.ptr 3 1 0 0,.ptr 0 3 0 0,.ptr 4 1 0 0,.ptr 1 1 0 0]]]] 0 (List.replicate c.blocks.length false) [] hpos h0 (by rw[oO];exact Nat.le_refl _) ⟨by simp,rfl,rfl,rfl,rfl,⟨_,rfl,.inl ⟨rfl,rfl⟩⟩,hsl⟩ (by rw[oO];simp;omega)
 rw[hbl] at hv
 refine AC.go sj ?_
 simp-implicitDefEqProofs[kX,hcs,hbl,IL]
 refine⟨by omega,?_⟩
 refine hv.mono ?_
 rintro r Y ⟨rfl,hYl,hY⟩
 obtain⟨V,v1,v2⟩:=hY.ou
 have hY5:=hY.len
 change (V= .nils/\mf c.blocks=[])\/∃id,5<=id/\V= .sl id 1 0 (mf c.blocks).length/\Y[id]?=some (.row 1 (aE (cu (mf c.blocks)))) at v2
 rcases v2 with⟨_,hn⟩|⟨id,hid,rfl,v3⟩
 ·exact absurd hn hne
 ·simp-implicitDefEqProofs[aa,v1]
  exact⟨hne,v3⟩
def rvK(l:List Int)(k:Nat):List Int:=(List.range l.length).map λj=>if j<k\/l.length-k<=j then l.getD (l.length-1-j) 0 else l.getD j 0
theorem iY(l:List Int)(k:Nat):(rvK l k).length=l.length:=by simp[rvK]
theorem kw{l:List Int}{k j:Nat}(h:j<l.length):(rvK l k)[j]?=some (if j<k\/l.length-k<=j then l.getD (l.length-1-j) 0 else l.getD j 0):=by simp[rvK,h]
theorem BV(l:List Int):rvK l 0=l:=by
 refine List.ext_getElem? λj=>?_
 by_cases h:j<l.length
 ·rw[kw h,if_neg (by omega),List.getD_eq_getElem?_getD,List.getElem?_eq_getElem h];rfl
 ·rw[List.getElem?_eq_none (by rw[iY];omega),List.getElem?_eq_none (by omega)]
theorem EZ{l:List Int}{k:Nat}(h:l.length<=2*k+1):rvK l k=l.reverse:=by
 refine List.ext_getElem? λj=>?_
 by_cases hj:j<l.length
 ·rw[kw hj,List.getElem?_reverse hj]
  by_cases h2:j<k\/l.length-k<=j
  ·rw[if_pos h2,List.getD_eq_getElem?_getD,List.getElem?_eq_getElem (by omega)];rfl
  ·rw[if_neg h2,List.getD_eq_getElem?_getD,show l.length-1-j=j by omega,List.getElem?_eq_getElem (by omega)];rfl
 ·rw[List.getElem?_eq_none (by rw[iY];omega),List.getElem?_eq_none (by simp;omega)]
theorem CU{l:List Int}{k:Nat}(h:2*k+1<l.length):((rvK l k).set k (l.getD (l.length-1-k) 0)).set (l.length-1-k) (l.getD k 0)=rvK l (k+1):=by
 refine List.ext_getElem? λj=>?_
 by_cases hj:j<l.length
 ·rw[kw hj]
  by_cases e1:l.length-1-k=j
  ·subst e1
   rw[List.getElem?_set_self (by rw[List.length_set,iY];omega),if_pos (by omega)]
   congr 2;omega
  ·rw[List.getElem?_set_ne e1]
   by_cases e2:k=j
   ·subst e2
    rw[List.getElem?_set_self (by rw[iY];omega),if_pos (by omega)]
   ·rw[List.getElem?_set_ne e2,kw hj]
    by_cases h3:j<k\/l.length-k<=j
    ·rw[if_pos h3,if_pos (by omega)]
    ·rw[if_neg h3,if_neg (by omega)]
 ·rw[List.getElem?_eq_none (by simp[iY];omega),List.getElem?_eq_none (by rw[iY];omega)]
theorem nw{l:List Int}{i:Nat}{x:Int}(h:l[i]?=some x):(aE l)[i]?=some [.p (.int .i64 x)]:=by simp[aE,h]
theorem AH(l:List Int)(i:Nat)(x:Int):(aE l).set i [.p (.int .i64 x)]=aE (l.set i x):=by simp[aE,List.map_set]
theorem re{α:Type}{l:List α}{k:Nat}{x:α}(h:l[k]?=some x):l.set k x=l:=by
 obtain⟨hk,rfl⟩:=List.getElem?_eq_some_iff.1 h
 exact List.set_getElem_self hk
theorem AA{h:List AO}{id:Nat}(l:List Int)(hl:l.length<=1073741824)(hh:h[id]?=some (.row 1 (aE l))):AC Tryz.prog G cD [.sl id 1 0 l.length] h λr h'=>r= .ret (.tup [])/\h'=h.set id (.row 1 (aE l.reverse)):=by
 have hid:=(List.getElem?_eq_some_iff.1 hh).1
 refine AC.go jD ?_
 have hw0:IntKind.i64.wrap ((l.length:Int)-1)=(l.length:Int)-1:=ag (by omega) (by omega)
 simp-implicitDefEqProofs[eE,hw0]
 refine aJ (λk:Nat=>aA 28 [(2,.p (.int .i64 k)),(3,.p (.int .i64 ((l.length:Int)-1-k))),(0,.sl id 1 0 l.length)]) (λk=>h.set id (.row 1 (aE (rvK l k)))) (λk=>2*k<=l.length+1) (λk=>l.length-2*k+1) 0 (by omega) ?_ ?_
 ·have:h.set id (.row 1 (aE (rvK l 0)))=h:=by rw[BV];exact re hh
  rw[this]
  exact ab (Nat.le_refl _) (by simp[below,hid])
 intro k hk
 by_cases hkn:2*k+1<l.length
 ·obtain⟨m,hm⟩:∃m,m=l.length-1-k:=⟨_,rfl⟩
  have hmi:(l.length:Int)-1-k=(m:Int):=by omega
  have hkm:(k:Int)<(m:Int):=by omega
  have hkl:k<l.length:=by omega
  have hml:m<l.length:=by omega
  have g1:(rvK l k)[k]?=some (l.getD k 0):=by rw[kw hkl,if_neg (by omega)]
  have g2:(rvK l k)[m]?=some (l.getD m 0):=by rw[kw hml,if_neg (by omega)]
  have hs:=CU hkn
  rw[←hm] at hs
  have hL:=iY l k
  have hw1:=w1 (i:=k) (by omega)
  have hw2:IntKind.i64.wrap ((m:Int)-1)=(l.length:Int)-1-((k+1:Nat):Int):=by rw[ag (by omega) (by omega)];omega
  generalize l.getD k 0=a at g1 hs
  generalize l.getD m 0=b at g2 hs
  have r1:(aE (rvK l k))[k]?=some [.p (.int .i64 a)]:=nw g1
  have r2:(aE (rvK l k))[m]?=some [.p (.int .i64 b)]:=nw g2
  have r3:(aE ((rvK l k).set k b))[m]?=some [.p (.int .i64 b)]:=nw (by rw[List.getElem?_set_ne (by omega)];exact g2)
  have e1:∀t,(h.set id t)[id]?=some t:=λt=>List.getElem?_set_self hid
  rw[hmi]
  simp-implicitDefEqProofs[hkm,e1,hkl,hml,r1,r2,r3,AH,hs]
  exact⟨k+1,by omega,by omega,ab (by simp) (by simp[below,hw1,hw2,hid])⟩
 ·have hcf:¬(k:Int)<(l.length:Int)-1-k:=by omega
  rw[EZ (by omega)]
  simp-implicitDefEqProofs[hcf]
theorem DY{f:FuncId}{args:List AV}{l:List Int}(H:AC Tryz.prog G f args [] λr h=>∃id,r= .ret (.sl id 1 0 l.length)/\h[id]?=some (.row 1 (aE l))):AC Tryz.prog G f args [] λr h=>r= .ret (.sl 0 1 0 l.length)/\h=[.row 1 (aE l)]:=
 H.gc (λt v h ⟨_,e,_⟩=>by cases e) λv h ⟨id,e1,e2⟩=>by
  cases e1
  refine⟨.sl 0 1 0 l.length,[.row 1 (aE l)],⟨[id],by simp,λi hi=>by simp at hi,by simp,by simp[below],by simp[ren],cy e2 (λx hx=>by obtain⟨n,_,rfl⟩:=List.mem_map.1 hx;simp[below]) fS⟩,rfl,rfl⟩
def tN(bs:List Bk):List Int:=if dq bs then(cu (mf bs)).reverse else[]
theorem Bo(c:Cd)(hc:CBd c):VF Tryz.prog G fX [.agg (c.cs.map .p)] (.p (aD (tN c.blocks))):=by
 have hcs:=c.cs_eq2
 have hbl:bkL c.blocks= .lst 5 (c.blocks.map Bk.cs):=rfl
 have hl1:=hc.1
 have hg:=sX G c hc
 rw[hcs,hbl] at hg
 refine zD G ?_
 refine AC.go pN ?_
 simp-implicitDefEqProofs[jz,hcs,hbl]
 refine hg.use ?_
 cases hfit:dq c.blocks with
 |false=>
  have hm:tN c.blocks=[]:=by rw[tN,hfit];rfl
  rw[hm]
  simp-implicitDefEqProofs[]
  exact .nils 1
 |true=>
  have hm:tN c.blocks=(cu (mf c.blocks)).reverse:=by rw[tN,if_pos hfit]
  have hvl:(mf c.blocks).length<=1073741824:=by
   have h0:sn (List.replicate c.blocks.length false) 0=false:=by rw[tA];have:=pD hfit;exact decide_eq_false (by omega)
   have:=((zm (nxC c.blocks) c.blocks.length).2 0 (List.replicate c.blocks.length false,[]) h0 (by rw[oO];exact Nat.le_refl _)).1
   simp only[oO,List.length_nil] at this
   rw[mf];omega
  have hv:=DY (l:=cu (mf c.blocks)) G ((AG G c hc hfit).mono λr h ⟨id,_,h1,h2⟩=>⟨id,by rw[sS];exact h1,h2⟩)
  rw[hcs,hbl] at hv
  generalize hL:cu (mf c.blocks)=L at hv hm
  have hLl:L.length<=1073741824:=by rw[←hL,sS];exact hvl
  rw[hm]
  simp-implicitDefEqProofs[]
  refine(AC.lift hv (by simp[below]) rfl (by simp[zg,aE,pK,od])).mono ?_
  rintro r h ⟨rfl,rfl⟩
  have hsh:∀n,bW n (.row 1 (aE L))= .row 1 (aE L):=λn=>by simp[bW,aE,ck,bk]
  simp-implicitDefEqProofs[aa,bk,hsh]
  refine(AA G (id:=1) L hLl rfl).mono ?_
  rintro r h ⟨rfl,rfl⟩
  simp-implicitDefEqProofs[aa]
  exact Out.view (.inr ⟨1,by simp,rfl⟩)
end
section
theorem ET{bs:List Bk}(h:dq bs=false):tN bs=[]:=by rw[tN,h];rfl
theorem Bb{l:List Nat}{x:Nat}:(x:Int)∈cu l↔x∈l:=by
 simp only[cu,List.mem_map]
 constructor
 ·rintro⟨y,hy,e⟩
  have:y=x:=by have e:(y:Int)=(x:Int):=e;omega
  exact this▸hy
 ·exact λh=>⟨x,h,rfl⟩
theorem Dj{p:Nat->Bool}{n x:Nat}:(x:Int)∈oo p n↔x<n/\p x=true:=by
 rw[oo]
 have:= @Bb ((List.range n).filter p) x
 rw[cu] at this
 rw[this,List.mem_filter,List.mem_range]
theorem BB{p:Nat->Bool}{n:Nat}{x:Int}(h:x∈oo p n):0<=x/\x.toNat<n/\p x.toNat=true/\((x.toNat:Nat):Int)=x:=by
 rw[oo,List.mem_map] at h
 obtain⟨y,hy,rfl⟩:=h
 rw[List.mem_filter,List.mem_range] at hy
 exact⟨Int.natCast_nonneg y,by simpa using hy.1,by simpa using hy.2,by simp⟩
theorem AP{bs:List Bk}(hfit:dq bs=true){p b:Nat}:(p:Int)∈aL bs (b:Int)↔b∈nxC bs p:=by
 rw[aL,List.mem_map]
 constructor
 ·rintro⟨⟨x,i⟩,hm,e⟩
  rw[List.mem_filter,List.mem_zipIdx_iff_getElem?] at hm
  have:i=p:=by have e:(i:Int)=(p:Int):=e;omega
  subst this
  simp only[decide_eq_true_eq] at hm
  rw[jC hm.1,List.mem_map]
  exact⟨(b:Int),hm.2,by simp⟩
 ·intro h
  rw[nxC] at h
  split at h
  ·rename_i x hx
   obtain⟨n,hn,e⟩:=List.mem_map.1 h
   have:=mF hfit hx hn
   have hnb:n=(b:Int):=by omega
   subst hnb
   exact⟨(x,p),by rw[List.mem_filter,List.mem_zipIdx_iff_getElem?];exact⟨hx,by simpa using hn⟩,rfl⟩
  ·cases h
end
section
theorem oB{xs:List Int}(hp:xs.Pairwise (· <= ·)):∀j,j<xs.length->∃i,i<=j/\Lib.keeps xs.toArray i=true/\xs[i]! =xs[j]! :=by
 intro j
 induction j with
 |zero=>intro h;exact⟨0,Nat.le_refl _,Lib.keeps_lt_one _ 0 (by omega),rfl⟩
 |succ j ih=>
  intro h
  by_cases e:xs.toArray[j+1]! =xs.toArray[j+1-1]!
  ·obtain⟨i,h1,h2,h3⟩:=ih (by omega)
   refine⟨i,by omega,h2,?_⟩
   have e':xs[j+1]! =xs[j]! :=by simpa using e
   rw[h3,e']
  ·exact⟨j+1,Nat.le_refl _,Lib.keeps_pos e,rfl⟩
theorem tS(xs:List Int):(Lib.compact xs).length<=xs.length:=by
 unfold Lib.compact Lib.compactUpTo
 rw[List.length_map]
 have:=List.length_filter_le (Lib.keeps xs.toArray) (List.range xs.length)
 rwa[List.length_range] at this
theorem ml{xs:List Int}(hp:xs.Pairwise (· <= ·))(x:Int):x∈Lib.compact xs↔x∈xs:=by
 unfold Lib.compact Lib.compactUpTo
 simp only[List.mem_map,List.mem_filter,List.mem_range]
 constructor
 ·rintro⟨j,⟨h1,_⟩,rfl⟩
  have e:xs.toArray[j]! =xs[j]:=by simp[h1]
  rw[e]
  exact List.getElem_mem h1
 ·intro h
  obtain⟨j,hj,rfl⟩:=List.mem_iff_getElem.1 h
  obtain⟨i,h1,h2,h3⟩:=oB hp j hj
  refine⟨i,⟨by omega,h2⟩,?_⟩
  have e:xs.toArray[i]! =xs[i]! :=by simp
  rw[e,h3]
  simp[hj]
theorem uk{xs:List Int}(hp:xs.Pairwise (· <= ·)):(Lib.compact xs).Pairwise (· < ·):=by
 unfold Lib.compact Lib.compactUpTo
 rw[List.pairwise_map]
 have hr:((List.range xs.length).filter (Lib.keeps xs.toArray)).Pairwise (· < ·):=List.Pairwise.filter _ List.pairwise_lt_range
 refine List.Pairwise.imp_of_mem (λ{a b} ha hb hab=>?_) hr
 simp only[List.mem_filter,List.mem_range] at ha hb
 obtain⟨hbl,hbk⟩:=hb
 unfold Lib.keeps at hbk
 have hne:xs.toArray[b]! ≠xs.toArray[b-1]! :=by
  rcases of_decide_eq_true hbk with h|h
  ·omega
  ·exact h
 have h1:xs.toArray[b]! =xs[b]:=by simp[hbl]
 have h2:xs.toArray[b-1]! =xs[b-1]:=by simp[show b-1<xs.length by omega]
 have h3:xs.toArray[a]! =xs[a]:=by simp[ha.1]
 rw[h1,h2] at hne
 rw[h1,h3]
 have k1:xs[b-1]<=xs[b]:=List.pairwise_iff_getElem.1 hp (b-1) b (by omega) hbl (by omega)
 have k2:xs[a]<=xs[b-1]:=by
  by_cases e:a=b-1
  ·subst e;exact Int.le_refl _
  ·exact List.pairwise_iff_getElem.1 hp a (b-1) ha.1 (by omega) (by omega)
 omega
theorem pE(xs:List Int):(xs.mergeSort λx y=>decide (x<=y)).Pairwise (· <= ·):=by
 have:=List.pairwise_mergeSort (le:=λx y:Int=>decide (x<=y)) (λa b c h1 h2=>by simp at*;omega) (λa b=>by simp;omega) xs
 exact this.imp λh=>by simpa using h
theorem yI{a b:List Int}(ha:a.Pairwise (· < ·))(hb:b.Pairwise (· < ·))(hm:∀x,x∈a↔x∈b):a=b:=by
 refine List.Perm.eq_of_pairwise (le:=(· < ·)) (λx y _ _ h1 h2=>by omega) ha hb ?_
 exact(List.perm_ext_iff_of_nodup (ha.imp λh=>by omega) (hb.imp λh=>by omega)).2 hm
theorem Eo(p:Nat->Bool)(n:Nat):(oo p n).Pairwise (· < ·):=by
 rw[oo,List.pairwise_map]
 exact(List.Pairwise.filter _ List.pairwise_lt_range).imp λh=>by
  have h:_<_:=h
  exact Int.ofNat_lt.2 h
theorem AL{p:Nat->Bool}{n:Nat}{x:Int}:x∈oo p n↔0<=x/\x.toNat<n/\p x.toNat=true:=by
 constructor
 ·intro h
  obtain⟨h1,h2,h3,_⟩:=BB h
  exact⟨h1,h2,h3⟩
 ·rintro⟨h1,h2,h3⟩
  have:=(Dj (p:=p) (n:=n) (x:=x.toNat)).2 ⟨h2,h3⟩
  rwa[show((x.toNat:Nat):Int)=x by omega] at this
def inI(l:List Int)(k:Nat):Bool:=decide ((k:Int)∈l)
def gy(l:List Int):List Int:=Lib.compact (l.mergeSort λx y=>decide (x<=y))
theorem vl{l:List Int}{n:Nat}(h:∀x∈l,0<=x/\x.toNat<n):gy l=oo (inI l) n:=by
 refine yI (uk (pE l)) (Eo _ _) λx=>?_
 rw[gy,ml (pE l),List.mem_mergeSort,AL,inI,decide_eq_true_iff]
 constructor
 ·intro hx
  obtain⟨h1,h2⟩:=h x hx
  exact⟨h1,h2,by rwa[show((x.toNat:Nat):Int)=x by omega]⟩
 ·rintro⟨h1,_,h3⟩
  rwa[show((x.toNat:Nat):Int)=x by omega] at h3
end
section
theorem AC.shelfNil{P:Program}{G:az}{f:FuncId}{h:List AO}{rv:AV}{r:Value}(hf:dE P f=true)(hr:∀(W:World) (S:Nat->Prop) (φ:Aw.Place) (n:Nat),VRel W S φ n rv r)
 (H:∀W:World,Calls P f #[.slice none 0 0] W λe W'=>e= .returned r/\W'=W):AC P G f [.nils] h λx h'=>x= .ret rv/\h'=h:=by
 refine⟨hf,λW S φ vs hH hA=>?_⟩
 have hs1:vs.size=1:=hA.1
 obtain⟨v0,rfl⟩:∃v0,vs=#[v0]:=⟨vs[0],by
  apply Array.ext
  ·simp[hs1]
  ·intro i h1 h2
   have:i=0:=by omega
   subst this;rfl⟩
 have hv:=hA.2 0 _ v0 rfl rfl
 cases hv
 refine(H W).mono ?_
 rintro e W' ⟨rfl,rfl⟩
 exact⟨.ret rv,S,φ,h,⟨rfl,rfl⟩,hH,.ret _ _ (hr _ _ _ _),Keep.refl hH⟩
theorem AC.shelfEmpty{P:Program}{G:az}{f:FuncId}{h:List AO}{id sz off:Nat}{rv:AV}{r:Option Addr->Nat->Value}(hf:dE P f=true)(hr:∀(W:World) (S:Nat->Prop) (φ:Aw.Place) (n:Nat) (p:Option Addr) (cap:Nat),VRel W S φ n (.sl id sz off 0) (.slice p 0 cap)->VRel W S φ n rv (r p cap))
 (H:∀(W:World) (p:Option Addr) (cap:Nat),Calls P f #[.slice p 0 cap] W λe W'=>e= .returned (r p cap)/\W'=W):AC P G f [.sl id sz off 0] h λx h'=>x= .ret rv/\h'=h:=by
 refine⟨hf,λW S φ vs hH hA=>?_⟩
 have hs1:vs.size=1:=hA.1
 obtain⟨v0,rfl⟩:∃v0,vs=#[v0]:=⟨vs[0],by
  apply Array.ext
  ·simp[hs1]
  ·intro i h1 h2
   have:i=0:=by omega
   subst this;rfl⟩
 have hv:=hA.2 0 _ v0 rfl rfl
 have hv2:=hv
 cases hv with
 |sl _ _ _ _ cap ba _ hl hb hc=>
  refine(H W ba cap).mono ?_
  rintro e W' ⟨rfl,rfl⟩
  exact⟨.ret rv,S,φ,h,⟨rfl,rfl⟩,hH,.ret _ _ (hr _ _ _ _ _ _ hv2),Keep.refl hH⟩
variable (G:az)
theorem FF{h:List AO}{id:Nat}{xs:List Int}(hid:h[id]?=some (gr xs))(hx:xs≠[])(hb:xs.length<4611686018427387904):
 AC Tryz.prog G (lays189_ren.f 189) [.sl id 1 0 xs.length] h λx h'=>x= .ret (.tup [])/\h'=h.set id (gr (xs.mergeSort λx y=>decide (x<=y))):=
 AC.shelfInts (r:=λ_ _ _=> .tuple #[]) (by kernel_rfl) hid hx (by simp) (λ_ _ _ _ _ _ _ _=> .tup [] #[] rfl (λj c v e=>by simp at e))
  λblk off cap W hH hbk _=>Any.slices_Sort_int ta blk off cap xs W hH hbk hb
theorem Bi{h:List AO}{id:Nat}{xs:List Int}(hid:h[id]?=some (gr xs))(hx:xs≠[])(hb:xs.length<=9223372036854775807)(hl:(Lib.compact xs).length<=xs.length):
 AC Tryz.prog G (lays20_ren.f 20) [.sl id 1 0 xs.length] h λx h'=>x= .ret (.sl id 1 0 (Lib.compact xs).length)/\h'=h.set id (gr (Lib.compact xs++List.replicate (xs.length-(Lib.compact xs).length) 0)):=by
 refine AC.shelfInts (r:=λblk off cap=> .slice (some ⟨blk,off,none⟩) (Lib.compact xs).length cap) (by kernel_rfl) hid hx (by simp;omega) (λW S φ n cap hi hc hs=>?_) λblk off cap W hH hbk hcap=>?_
 ·exact .sl id 1 0 _ cap _ hi (by omega) (λ_=>by simp) (λc t fr e=>by have:=hs c t fr e;omega)
 ·refine(Any.slices_Compact_int yP blk off cap xs W hH hb hcap).mono ?_
  rintro e W' ⟨rfl,q,rfl⟩
  exact⟨rfl,q,#[],by simp⟩
theorem ua(id:Nat)(h:List AO):AC Tryz.prog G (lays189_ren.f 189) [.sl id 1 0 0] h λx h'=>x= .ret (.tup [])/\h'=h:=
 AC.shelfEmpty (r:=λ_ _=> .tuple #[]) (by kernel_rfl) (λ_ _ _ _ _ _ _=> .tup [] #[] rfl (λj c v e=>by simp at e)) λW p cap=>Any.slices_Sort_int_none ta p cap W
theorem pM(id:Nat)(h:List AO):AC Tryz.prog G (lays20_ren.f 20) [.sl id 1 0 0] h λx h'=>x= .ret (.sl id 1 0 0)/\h'=h:=
 AC.shelfEmpty (r:=λp cap=> .slice p 0 cap) (by kernel_rfl) (λ_ _ _ _ _ _ h=>h) λW p cap=>Any.slices_Compact_int_empty yP p cap W
theorem AE(h:List AO):AC Tryz.prog G (lays189_ren.f 189) [.nils] h λx h'=>x= .ret (.tup [])/\h'=h:=
 AC.shelfNil (r:= .tuple #[]) (by kernel_rfl) (λ_ _ _ _=> .tup [] #[] rfl (λj c v e=>by simp at e)) λW=>Any.slices_Sort_int_none ta none 0 W
theorem tt(h:List AO):AC Tryz.prog G (lays20_ren.f 20) [.nils] h λx h'=>x= .ret .nils/\h'=h:=
 AC.shelfNil (r:= .slice none 0 0) (by kernel_rfl) (λ_ _ _ _=> .nils) λW=>Any.slices_Compact_int_empty yP none 0 W
theorem EA(l:List Int)(hl:l.length<=1073741824)(h:List AO):AC Tryz.prog G cd [.p (aD l)] h λx h'=>∃V os,x= .ret V/\h'=h++os/\((V= .nils/\l=[])\/∃id,V= .sl id 1 0 l.length/\h.length<=id/\h'[id]?=some (gr l)):=by
 have hsl:aD l= .lst 1 (l.map λw=>[.int .i64 w]):=rfl
 refine AC.go lB ?_
 simp-implicitDefEqProofs[fI,hsl]
 cases l with
 |nil=>
  simp[vW,gr]
 |cons w r=>
  simp only[List.length_cons] at hl
  simp[vW]
  refine⟨⟨by omega,by omega⟩,?_⟩
  simp[gr]
theorem uD{h:List AO}{id m:Nat}{l:List Int}{t:List Int}(e:h[id]?=some (gr (l++t)))(hm:m=l.length):View h (.sl id 1 0 m) (aD l):=by
 have:=View.fl (h:=h) id 1 0 ((l++t).map λn=>[AV.p (.int .i64 n)]) (l.map λn=>PV.int .i64 n) e (λi q hq=>by
  rw[nK,Nat.zero_add,List.map_append,List.getElem?_append_left (by have:=(List.getElem?_eq_some_iff.1 hq).1;simpa using this),List.getElem?_map]
  rw[List.getElem?_map] at hq
  cases hh:l[i]? with
  |none=>rw[hh] at hq;cases hq
  |some x=>rw[hh] at hq;cases hq;rfl)
 rw[List.length_map,List.map_map] at this
 rw[hm]
 exact this
theorem Eb(A:AV)(l:List Int)(hl:l.length<=1073741824)(h:List AO)(hclone:AC Tryz.prog G cd [A] h λx h'=>∃V os,x= .ret V/\h'=h++os/\((V= .nils/\l=[])\/∃id,V= .sl id 1 0 l.length/\h.length<=id/\h'[id]?=some (gr l))):
 AC Tryz.prog G gD [A] h λx h'=>h.length<=h'.length/\(∀i,i<h.length->h'[i]?=h[i]?)/\((x= .ret .nils/\gy l=[])\/∃id t,h.length<=id/\x= .ret (.sl id 1 0 (gy l).length)/\h'[id]?=some (gr (gy l++t))):=by
 generalize hS:l.mergeSort (λx y=>decide (x<=y))=S
 have hSl:S.length=l.length:=by rw[←hS,List.length_mergeSort]
 have hcl:=tS S
 have hO:gy l=Lib.compact S:=by rw[gy,hS]
 rw[hO]
 refine AC.go uL ?_
 simp-implicitDefEqProofs[oc]
 refine hclone.mono ?_
 rintro r h1 ⟨V,os,rfl,rfl,⟨rfl,hn⟩|⟨id,rfl,hid,hr⟩⟩
 ·have hS0:S=[]:=by rw[hn] at hSl;exact List.length_eq_zero_iff.1 (by simpa using hSl)
  simp-implicitDefEqProofs[aa]
  refine(AE G _).mono ?_
  rintro r h' ⟨rfl,rfl⟩
  simp-implicitDefEqProofs[aa]
  refine(tt G _).mono ?_
  rintro r h'' ⟨rfl,rfl⟩
  simp-implicitDefEqProofs[aa]
  rw[hS0]
  exact⟨λi hi=>List.getElem?_append_left hi,rfl⟩
 ·have hidl:=(List.getElem?_eq_some_iff.1 hr).1
  by_cases hn:l=[]
  ·subst hn
   have hS0:S=[]:=List.length_eq_zero_iff.1 (by simpa using hSl)
   subst hS0
   simp-implicitDefEqProofs[aa]
   refine(ua G id _).mono ?_
   rintro r h' ⟨rfl,rfl⟩
   simp-implicitDefEqProofs[aa]
   refine(pM G id _).mono ?_
   rintro r h'' ⟨rfl,rfl⟩
   simp-implicitDefEqProofs[aa]
   exact⟨λi hi=>List.getElem?_append_left hi,id,hid,⟨rfl,rfl⟩,[],hr⟩
  simp-implicitDefEqProofs[aa]
  refine(FF G hr hn (by omega)).mono ?_
  rintro r h' ⟨rfl,rfl⟩
  rw[hS]
  have hC:=Bi G (h:=(h++os).set id (gr S)) (id:=id) (xs:=S) (List.getElem?_set_self hidl) (by intro e;rw[e] at hSl;simp at hSl;exact hn (List.length_eq_zero_iff.1 hSl.symm)) (by omega) hcl
  rw[hSl] at hC
  simp-implicitDefEqProofs[aa]
  refine hC.mono ?_
  rintro r h'' ⟨rfl,rfl⟩
  simp-implicitDefEqProofs[aa]
  refine⟨λi hi=>?_,id,hid,rfl,_,List.getElem?_set_self (by simpa using hidl)⟩
  rw[List.getElem?_set_ne (by omega),List.getElem?_append_left hi]
theorem FW(l:List Int)(hl:l.length<=1073741824):VF Tryz.prog G gD [.p (aD l)] (.p (aD (gy l))):=by
 refine(Eb G (.p (aD l)) l hl [] (EA G l hl [])).freezeR (λt v h hh=>?_) λv h hh=>?_
 ·rcases hh with⟨_,_,⟨e,_⟩|⟨_,_,_,e,_⟩⟩<;>cases e
 ·rcases hh with⟨_,_,⟨e,hn⟩|⟨id,t,_,e,hid⟩⟩
  ·cases e
   rw[hn]
   exact .one (.nils 1) .nil
  ·cases e
   exact .one (uD hid rfl) .nil
end
section
theorem uj(bs:List Bk)(b:Int):(aL bs b).length<=bs.length:=by
 rw[aL,List.length_map]
 exact Nat.le_trans (List.length_filter_le _ _) (by simp)
theorem vV(c:Cd)(b:Int):(dc c b).length<=c.blocks.length:=by
 rw[dc]
 split
 ·exact uj _ _
 ·simp
variable (G:az)
end
section
def iW(l:List Int):Bool:=l.any λn=> !decide (n=l.headD 0)
def dz(bs:List Bk)(n:Int):Bool:=decide (1<(aL bs n).length)
def shX(bs:List Bk)(x:Bk):Bool:=iW x.next&&x.next.any (dz bs)
def iM(bs:List Bk):Bool:=dq bs&&bs.any (shX bs)
theorem BM(p:Nat->Bool)(n:Nat):(oo p n).Pairwise (· < ·):=by
 rw[oo,List.pairwise_map]
 refine List.Pairwise.imp (R:=(· < ·)) (λh=>Int.ofNat_lt.2 h) ?_
 exact List.Pairwise.sublist List.filter_sublist List.pairwise_lt_range
theorem DO{L:List Int}{a b:Int}(h1:a∈L)(h2:b∈L)(h:a≠b):2<=L.length:=by
 cases L with
 |nil=>cases h1
 |cons x t=>
  cases t with
  |nil=>
   rw[List.mem_singleton] at h1 h2
   exact absurd (h1.trans h2.symm) h
  |cons y t=>simp
theorem BO{l:List Int}{n:Nat}(h:∀x∈l,0<=x/\x.toNat<n):decide ((gy l).length<2)= !iW l:=by
 have hm:∀x,x∈gy l↔x∈l:=λx=>by
  rw[gy,ml (pE l),List.mem_mergeSort]
 cases hd:iW l with
 |true=>
  rw[iW,List.any_eq_true] at hd
  obtain⟨a,ha,hne⟩:=hd
  have hne:a≠l.headD 0:=by simpa using hne
  have hh:l.headD 0∈l:=by
   cases l with
   |nil=>cases ha
   |cons x t=>simp
  have:=DO ((hm a).2 ha) ((hm _).2 hh) hne
  rw[Bool.not_true,decide_eq_false_iff_not];omega
 |false=>
  rw[Bool.not_false,decide_eq_true_iff]
  rw[iW,List.any_eq_false] at hd
  refine Nat.lt_of_not_le λhge=>?_
  have ho:=vl h
  have hasc:=BM (inI l) n
  rw[←ho] at hasc
  cases e:gy l with
  |nil=>rw[e] at hge;simp at hge
  |cons x t=>
   cases t with
   |nil=>rw[e] at hge;simp at hge
   |cons y t=>
    rw[e] at hasc
    have hxy:x<y:=by
     have:=(List.pairwise_cons.1 hasc).1 y (by simp)
     exact this
    have h1:=hd x ((hm x).1 (by rw[e];simp))
    have h2:=hd y ((hm y).1 (by rw[e];simp))
    simp at h1 h2
    omega
def shF(P:Int->Bool)(l:List Int):List Int:=l.foldl (λout n=>if P n&& !decide (n∈out) then out++[n] else out) []
theorem vq(P:Int->Bool)(l:List Int)(n:Int):shF P (l++[n])=if P n&& !decide (n∈shF P l) then shF P l++[n] else shF P l:=by rw[shF,List.foldl_append];rfl
theorem EM(P:Int->Bool)(l:List Int)(k:Nat):(shF P (l.take k)).length<=k:=by
 induction k with
 |zero=>simp[shF]
 |succ k ih=>
  by_cases hk:k<l.length
  ·rw[List.take_add_one,List.getElem?_eq_getElem hk,Option.toList_some,vq]
   split
   ·rw[List.length_append];simp;omega
   ·omega
  ·rw[List.take_of_length_le (by omega)] at ih⊢
   omega
theorem DQ(P:Int->Bool)(l:List Int):decide (0<(shF P l).length)=l.any P:=by
 have key:∀(l out:List Int),decide (0<(l.foldl (λout n=>if P n&& !decide (n∈out) then out++[n] else out) out).length)=(decide (0<out.length)||l.any P):=by
  intro l
  induction l with
  |nil=>intro out;simp
  |cons n t ih=>
   intro out
   rw[List.foldl_cons,ih,List.any_cons]
   cases hP:P n with
   |false=>simp
   |true=>
    cases out with
    |nil=>simp
    |cons a b=>
     split<;>simp
 have:=key l []
 simpa[shF] using this
variable (G:az)
theorem yX(c:Cd)(hc:CBd c)(i j:Nat)(x:Bk)(hx:c.blocks[i]?=some x)(r:Int)(hr:x.next[j]?=some r):VF Tryz.prog G eS [.agg (c.cs.map .p),.p (.int .i64 i),.p (.int .i64 j)] (.p (.bool (iW x.next&&dz c.blocks r))):=by
 have hcs:=c.cs_eq2
 have hbl:bkL c.blocks= .lst 5 (c.blocks.map Bk.cs):=rfl
 have hP:=sB G c r hc.1 hc.2
 have hxs:=x.cs_eq2
 have hnl:aD x.next= .lst 1 (x.next.map λn=>[.int .i64 n]):=rfl
 have hnx:=hc.2 x (List.mem_of_getElem? hx)
 rw[hcs,hbl] at hP
 have hd0:iW x.next=x.next.any λn=> !decide (n=x.next.headD 0):=rfl
 have hj:=(List.getElem?_eq_some_iff.1 hr).1
 have hge:=λhh=>dV hx hh
 have hil:=(List.getElem?_eq_some_iff.1 hx).1
 have hpn:aD (aL c.blocks r)= .lst 1 ((aL c.blocks r).map λn=>[.int .i64 n]):=rfl
 have hm:dz c.blocks r=decide (1<(aL c.blocks r).length):=rfl
 have hpl:(aL c.blocks r).length<=c.blocks.length:=by
  rw[aL,List.length_map]
  exact Nat.le_trans (List.length_filter_le _ _) (by simp)
 have hc1:=hc.1
 obtain⟨y,hy⟩:∃y,x.next.headD 0=y:=⟨_,rfl⟩
 have hg0:x.next[0]?=some y:=by
  cases e:x.next with
  |nil=>rw[e] at hj;simp at hj
  |cons a t=>rw[e] at hy;simpa using hy
 rw[hd0,hy,hm]
 clear hd0 hm
 refine AC.go ov ?_
 simp-implicitDefEqProofs[jc,hcs,hbl,hx,hge,hxs,hnl]
 generalize x.next=L at*
 refine aJ (λk:Nat=>aA 44 [(9,.p (.int .i64 k)),(8,.p (.bool ((L.take k).any λn=> !decide (n=y)))),(7,.p (.lst 1 (L.map λn=>[.int .i64 n]))),(3,.ptr 0 3 0 0),(2,.p (.int .i64 j))]) (λ_=>[.row 3 [[.p (.int .i64 c.params),.p (.int .i64 c.regs),.p (.lst 5 (c.blocks.map Bk.cs))]]]) (λk=>k<=L.length) (λk=>L.length-k) 0 (Nat.zero_le _) (ab (Nat.zero_le _) (by simp[below])) ?_
 intro k hk
 simp-implicitDefEqProofs[]
 refine aG (λhc2=>?_) (λhc2=>?_)
 ·have hc2:k<L.length:=by simpa using hc2
  have hwk:=w1 (i:=k) (by omega)
  have hgk:=List.getElem?_eq_getElem hc2
  have htk:=CG (p:=λn=> !decide (n=y)) hc2
  generalize L[k]=z at hgk htk
  generalize hB:((L.take k).any λn=> !decide (n=y))=B at htk
  cases B with
  |true=>
   simp-implicitDefEqProofs[hB]
   refine⟨k+1,hc2,by omega,ab (Nat.zero_le _) ?_⟩
   simp[below,hwk,htk]
  |false=>
   simp-implicitDefEqProofs[hB,hgk,hg0]
   refine⟨k+1,hc2,by omega,ab (Nat.zero_le _) ?_⟩
   simp[below,hwk,htk]
 ·have hc2:L.length<=k:=by simpa using hc2
  rw[List.take_of_length_le hc2]
  generalize (L.any λn=> !decide (n=y))=B
  cases B with
  |false=>simp-implicitDefEqProofs[]
  |true=>
   simp-implicitDefEqProofs[hr]
   refine hP.use ?_
   simp-implicitDefEqProofs[hpn]
   omega
end
section
structure SgS where (i:Nat) (X:List AO) (V:AV)
def yj(b:Bool):Prop:=b=false
theorem nC{α:Type}{p:α->Bool}{l:List α}{j:Nat}{x:α}(hj:l[j]?=some x):(l.take (j+1)).any p=((l.take j).any p||p x):=by
 rw[List.take_add_one,hj];simp
variable (G:az)
theorem yF(c:Cd)(hc:CBd c):VF Tryz.prog G eO [.agg (c.cs.map .p)] (.p (.bool (iM c.blocks))):=by
 have hcs:=c.cs_eq2
 have hbl:bkL c.blocks= .lst 5 (c.blocks.map Bk.cs):=rfl
 have h1:=Ah G c hc
 have h2:=λi j x hx r hr=>yX G c hc i j x hx r hr
 have hc1:=hc.1
 rw[hcs,hbl] at h1 h2
 have hS:iM c.blocks=(dq c.blocks&&c.blocks.any (shX c.blocks)):=rfl
 generalize iM c.blocks=S at hS
 refine AC.go oz ?_
 simp-implicitDefEqProofs[jd,hcs,hbl]
 refine aJ (λi:Nat=>aA 31 [(3,.p (.int .i64 i)),(1,.ptr 0 3 0 0)]) (λ_=>[.row 3 [[.p (.int .i64 c.params),.p (.int .i64 c.regs),.p (.lst 5 (c.blocks.map Bk.cs))]]]) (λi=>i<=c.blocks.length/\yj ((c.blocks.take i).any (shX c.blocks))) (λi=>c.blocks.length-i) 0 ⟨Nat.zero_le _,rfl⟩ (ab (Nat.zero_le _) (by simp[below])) ?_
 rintro i ⟨hi,hI⟩
 have hI:(c.blocks.take i).any (shX c.blocks)=false:=hI
 simp-implicitDefEqProofs[]
 by_cases hcc:i<c.blocks.length
 ·have hwi:=w1 (i:=i) (by omega)
  have hx:=List.getElem?_eq_getElem hcc
  have htk:=nC (p:=shX c.blocks) hx
  have hmem:=List.getElem_mem hcc
  generalize c.blocks[i]=x at hx htk hmem
  have hnx:=hc.2 x hmem
  have hge:=λhh=>dV hx hh
  have hxs:=x.cs_eq2
  have hnl:aD x.next= .lst 1 (x.next.map λn=>[.int .i64 n]):=rfl
  have h2:=λj=>h2 i j x hx
  have hsx:shX c.blocks x=(iW x.next&&x.next.any (dz c.blocks)):=rfl
  simp-implicitDefEqProofs[hcc]
  refine h1.use ?_
  cases hfit:dq c.blocks with
  |false=>
   rw[hfit,Bool.false_and] at hS
   subst hS
   simp-implicitDefEqProofs[]
  |true=>
   rw[hfit,Bool.true_and] at hS
   simp-implicitDefEqProofs[]
   refine aJ (λj:Nat=>aA 31 [(4,.p (.int .i64 j)),(3,.p (.int .i64 i)),(1,.ptr 0 3 0 0)]) (λ_=>[.row 3 [[.p (.int .i64 c.params),.p (.int .i64 c.regs),.p (.lst 5 (c.blocks.map Bk.cs))]]]) (λj=>j<=x.next.length/\yj (iW x.next&&(x.next.take j).any (dz c.blocks))) (λj=>x.next.length-j) 0 ⟨Nat.zero_le _,by simp[yj]⟩ (ab (Nat.zero_le _) (by simp[below])) ?_
   rintro j ⟨hj,hJ⟩
   have hJ:(iW x.next&&(x.next.take j).any (dz c.blocks))=false:=hJ
   simp-implicitDefEqProofs[hx,hge,hxs,hnl,hcc]
   refine aG (λhc2=>?_) (λhc2=>?_)
   ·have hc2:j<x.next.length:=by simpa using hc2
    have hwj:=w1 (i:=j) (by omega)
    have hr:=List.getElem?_eq_getElem hc2
    have htj:=nC (p:=dz c.blocks) hr
    have hrm:=List.getElem_mem hc2
    generalize x.next[j]=r at hr htj hrm
    simp-implicitDefEqProofs[]
    refine(h2 j r hr).use ?_
    cases hsh:iW x.next&&dz c.blocks r with
    |true=>
     rw[Bool.and_eq_true] at hsh
     have:S=true:=by
      rw[hS,List.any_eq_true]
      refine⟨x,hmem,?_⟩
      rw[hsx,hsh.1,Bool.true_and,List.any_eq_true]
      exact⟨r,hrm,hsh.2⟩
     subst this
     simp-implicitDefEqProofs[]
    |false=>
     simp-implicitDefEqProofs[]
     exact⟨j+1,⟨hc2,by rw[yj,htj,Bool.and_or_distrib_left,hJ,hsh];rfl⟩,by omega,ab (Nat.zero_le _) (by simp[below,hwj])⟩
   ·have hc2:x.next.length<=j:=by simpa using hc2
    rw[List.take_of_length_le hc2] at hJ
    simp-implicitDefEqProofs[]
    exact⟨i+1,⟨hcc,by rw[yj,htk,hI,hsx,hJ];rfl⟩,by omega,ab (Nat.zero_le _) (by simp[below,hwi])⟩
 ·have hie:i=c.blocks.length:=by omega
  subst hie
  rw[List.take_length] at hI
  rw[hI,Bool.and_false] at hS
  subst hS
  simp-implicitDefEqProofs[]
theorem uf(c:Cd)(hc:CBd c)(hfit:dq c.blocks=true)(i:Nat)(x:Bk)(hx:c.blocks[i]?=some x):VF Tryz.prog G dX [.agg (c.cs.map .p),.p (.int .i64 i)] (.p (aD (if iW x.next then shF (dz c.blocks) x.next else[]))):=by
 have hcs:=c.cs_eq2
 have hbl:bkL c.blocks= .lst 5 (c.blocks.map Bk.cs):=rfl
 have hxs:=x.cs_eq2
 have hnl:aD x.next= .lst 1 (x.next.map λn=>[.int .i64 n]):=rfl
 have hnx:=hc.2 x (List.mem_of_getElem? hx)
 have hge:=λhh=>dV hx hh
 have hil:=(List.getElem?_eq_some_iff.1 hx).1
 have hin:∀n∈x.next,0<=n/\n.toNat<c.blocks.length:=λn hn=>by have:=mF hfit hx hn;omega
 have hO:=FW G x.next hnx
 have hod:=BO hin
 have hol:(gy x.next).length<=c.blocks.length:=by rw[vl hin];exact Df _ _
 have hP:∀n∈x.next,VF Tryz.prog G bE [.agg (c.cs.map .p),.p (.int .i64 n)] (.p (aD (aL c.blocks n))):=λn hn=>by
  have h1:=hin n hn
  have h2:=sV G c n hc.1 hc.2
  have h3:dc c n=aL c.blocks n:=by
   have:=sG (c:=c) (x:=n.toNat) h1.2
   rwa[show((n.toNat:Nat):Int)=n by omega] at this
  rwa[h3] at h2
 rw[hcs,hbl] at hP
 have hpl:∀n:Int,(aL c.blocks n).length<=c.blocks.length:=λn=>by
  rw[aL,List.length_map]
  exact Nat.le_trans (List.length_filter_le _ _) (by simp)
 have hc1:=hc.1
 refine zD G ?_
 refine AC.go nh ?_
 rw[hnl] at hO
 simp-implicitDefEqProofs[iJ,hcs,hbl,hx,hge,hxs,hnl]
 generalize x.next=L at*
 generalize gy L=OL at hO hod hol
 have hon:aD OL= .lst 1 (OL.map λn=>[.int .i64 n]):=rfl
 refine hO.use ?_
 simp-implicitDefEqProofs[hon]
 cases hd:iW L with
 |false=>
  rw[hd] at hod
  have hod:OL.length<2:=by simpa using hod
  have hod2:(OL.length:Int)<2:=by omega
  simp-implicitDefEqProofs[hod2]
  exact .nils 1
 |true=>
  rw[hd] at hod
  have hod:¬OL.length<2:=by simpa using hod
  have hod2:¬(OL.length:Int)<2:=by omega
  simp-implicitDefEqProofs[hod2]
  have hFl:=EM (dz c.blocks) L
  have hFs:∀k n,L[k]?=some n->shF (dz c.blocks) (L.take (k+1))=if dz c.blocks n&& !decide (n∈shF (dz c.blocks) (L.take k)) then shF (dz c.blocks) (L.take k)++[n] else shF (dz c.blocks) (L.take k):=λk n h=>by
   rw[List.take_add_one,h,Option.toList_some,vq]
  have hFe:shF (dz c.blocks) (L.take L.length)=shF (dz c.blocks) L:=by rw[List.take_length]
  have hF0:shF (dz c.blocks) (L.take 0)=[]:=rfl
  rw[←hFe]
  obtain⟨F,hF⟩:∃F:Nat->List Int,F=λk=>shF (dz c.blocks) (L.take k):=⟨_,rfl⟩
  have hFk:∀k,shF (dz c.blocks) (L.take k)=F k:=λk=>by rw[hF]
  simp only[hFk] at hFl hFs hF0⊢
  clear hF hFe hFk
  refine aJ (λa:SgS=>aA 42 [(21,.p (.int .i64 a.i)),(20,.p (.int .i64 L.length)),(19,.p (.lst 1 (L.map λn=>[.int .i64 n]))),(6,a.V),(2,.ptr 0 3 0 0)]) (λa=>a.X)
   (λa=>a.i<=L.length/\a.X[0]?=some (.row 3 [[.p (.int .i64 c.params),.p (.int .i64 c.regs),.p (.lst 5 (c.blocks.map Bk.cs))]])/\((a.V= .nils/\F a.i=[])\/∃id,1<=id/\a.V= .sl id 1 0 (F a.i).length/\a.X[id]?=some (.row 1 (aE (F a.i))))) (λa=>L.length-a.i) ⟨0,_,.nils⟩ ⟨Nat.zero_le _,rfl,.inl ⟨rfl,hF0⟩⟩ (ab (Nat.zero_le _) (by simp[Aw.below])) ?_
  rintro⟨k,X,V⟩ ⟨hk,g0,hV⟩
  simp only at hk g0 hV
  have h0l:=(List.getElem?_eq_some_iff.1 g0).1
  simp-implicitDefEqProofs[]
  refine aG (λhc2=>?_) (λhc2=>?_)
  ·have hc2:k<L.length:=by simpa using hc2
   have hwk:=w1 (i:=k) (by omega)
   have hgk:=List.getElem?_eq_getElem hc2
   have hPn:=hP _ (List.getElem_mem hc2)
   generalize L[k]=n at hgk hPn
   have hFs:=hFs k n hgk
   have hFl:=hFl k
   have hpn:aD (aL c.blocks n)= .lst 1 ((aL c.blocks n).map λn=>[.int .i64 n]):=rfl
   have hVb:Aw.below X.length V:=by
    rcases hV with⟨rfl,_⟩|⟨id,_,rfl,h2⟩
    ·simp[Aw.below]
    ·simp only[Aw.below];exact(List.getElem?_eq_some_iff.1 h2).1
   have hVw:View X V (aD (F k)):=by
    rcases hV with⟨rfl,e⟩|⟨id,_,rfl,h2⟩
    ·rw[e];exact .nils 1
    ·exact iF h2
   have hCt:=(kT G (F k) n (by omega)).lend (.one hVw (.keep (by simp[Aw.below]) .nil)) rfl
   have hplk:=hpl n
   simp-implicitDefEqProofs[hgk,g0]
   refine hPn.use ?_
   cases hm:dz c.blocks n with
   |false=>
    rw[hm] at hFs
    have hFs:F (k+1)=F k:=by simpa using hFs
    have hml:¬1<((aL c.blocks n).length:Int):=by rw[dz,decide_eq_false_iff_not] at hm;omega
    simp-implicitDefEqProofs[hpn,hml]
    exact⟨⟨k+1,X,V⟩,⟨hc2,g0,by simp only[hFs];exact hV⟩,by simp only;omega,ab (Nat.zero_le _) (by simp[Aw.below,hVb,hwk];omega)⟩
   |true=>
    rw[hm] at hFs
    have hml:1<((aL c.blocks n).length:Int):=by rw[dz,decide_eq_true_iff] at hm;omega
    simp-implicitDefEqProofs[hpn,hml]
    refine hCt.mono ?_
    rintro _ _ ⟨rfl,rfl⟩
    cases hin2:decide (n∈F k) with
    |true=>
     rw[hin2] at hFs
     have hFs:F (k+1)=F k:=by simpa using hFs
     simp-implicitDefEqProofs[aa]
     exact⟨⟨k+1,_,V⟩,⟨hc2,g0,by simp only[hFs];exact hV⟩,by simp only;omega,ab (Nat.zero_le _) (by simp[Aw.below,hVb,hwk];omega)⟩
    |false=>
     rw[hin2] at hFs
     have hFs:F (k+1)=F k++[n]:=by simpa using hFs
     rename_i h'
     clear hCt hVw
     rcases hV with⟨rfl,hn⟩|⟨id,hid,rfl,h2⟩
     ·rw[hn] at hFs
      simp-implicitDefEqProofs[aa]
      refine⟨⟨k+1,_,.sl (h'.length+1) 1 0 1⟩,⟨hc2,?_,.inr ⟨h'.length+1,by omega,by simp only[hFs];rfl,?_⟩⟩,by simp only;omega,ab (Nat.zero_le _) (by simp[Aw.below,hwk])⟩
      ·simp only;rw[List.getElem?_append_left h0l];exact g0
      ·simp only;rw[List.getElem?_append_right (by omega),hFs];simp[aE]
     ·have hidl:=(List.getElem?_eq_some_iff.1 h2).1
      have hxm:∀t,(h'++t)[id]?=some (.row 1 (aE (F k))):=λt=>by rw[List.getElem?_append_left hidl];exact h2
      have htl:List.take (F k).length (aE (F k))=aE (F k):=List.take_of_length_le (by simp[aE])
      have hrl:(aE (F k)).length=(F k).length:=by simp[aE]
      simp-implicitDefEqProofs[aa,hxm,htl,hrl]
      refine⟨⟨by omega,by omega⟩,⟨k+1,_,.sl (h'.length+1) 1 0 ((F k).length+1)⟩,⟨hc2,?_,.inr ⟨h'.length+1,by omega,by simp only[hFs];simp,?_⟩⟩,by simp only;omega,ab (Nat.zero_le _) (by simp[Aw.below,hwk])⟩
      ·simp only;rw[List.getElem?_append_left (by simp<;>omega),List.getElem?_set_ne (by omega),List.getElem?_append_left h0l];exact g0
      ·simp only;rw[List.getElem?_append_right (by simp),hFs];simp[aE]
  ·have hke:k=L.length:=by simp at hc2;omega
   subst hke
   simp-implicitDefEqProofs[]
   rcases hV with⟨rfl,e⟩|⟨id,_,rfl,h2⟩
   ·rw[e];exact .nils 1
   ·exact iF h2
theorem ym(c:Cd)(hc:CBd c):VF Tryz.prog G eR [.agg (c.cs.map .p)] (.p (.bool (iM c.blocks))):=by
 have hcs:=c.cs_eq2
 have hbl:bkL c.blocks= .lst 5 (c.blocks.map Bk.cs):=rfl
 have h1:=sX G c hc
 have h2:=λhf i x hx=>uf G c hc hf i x hx
 have hc1:=hc.1
 rw[hcs,hbl] at h1 h2
 have hS:iM c.blocks=(dq c.blocks&&c.blocks.any (shX c.blocks)):=rfl
 generalize iM c.blocks=S at hS
 refine AC.go oD ?_
 simp-implicitDefEqProofs[jh,hcs,hbl]
 refine h1.use ?_
 cases hfit:dq c.blocks with
 |false=>
  rw[hfit,Bool.false_and] at hS
  subst hS
  simp-implicitDefEqProofs[]
 |true=>
  rw[hfit,Bool.true_and] at hS
  simp-implicitDefEqProofs[]
  refine aJ (λi:Nat=>aA 19 [(10,.p (.int .i64 i)),(9,.p (.int .i64 c.blocks.length)),(1,.ptr 0 3 0 0)]) (λ_=>[.row 3 [[.p (.int .i64 c.params),.p (.int .i64 c.regs),.p (.lst 5 (c.blocks.map Bk.cs))]]]) (λi=>i<=c.blocks.length/\yj ((c.blocks.take i).any (shX c.blocks))) (λi=>c.blocks.length-i) 0 ⟨Nat.zero_le _,rfl⟩ (ab (Nat.zero_le _) (by simp[below])) ?_
  rintro i ⟨hi,hI⟩
  have hI:(c.blocks.take i).any (shX c.blocks)=false:=hI
  simp-implicitDefEqProofs[]
  refine aG (λhcc=>?_) (λhcc=>?_)
  ·have hcc:i<c.blocks.length:=by simpa using hcc
   have hwi:=w1 (i:=i) (by omega)
   have hx:=List.getElem?_eq_getElem hcc
   have htk:=nC (p:=shX c.blocks) hx
   have hmem:=List.getElem_mem hcc
   generalize c.blocks[i]=x at hx htk hmem
   have h2:=h2 hfit i x hx
   have hsx:shX c.blocks x=(iW x.next&&x.next.any (dz c.blocks)):=rfl
   have hsl:decide (0<(if iW x.next=true then shF (dz c.blocks) x.next else[]).length)=shX c.blocks x:=by
    rw[hsx]
    cases iW x.next with
    |false=>rfl
    |true=>rw[if_pos rfl,DQ,Bool.true_and]
   generalize (if iW x.next=true then shF (dz c.blocks) x.next else[])=Q at h2 hsl
   have hqn:aD Q= .lst 1 (Q.map λn=>[.int .i64 n]):=rfl
   simp-implicitDefEqProofs[]
   refine h2.use ?_
   cases hsh:shX c.blocks x with
   |true=>
    rw[hsh] at hsl
    have hq:Q≠[]:=λe=>by rw[e] at hsl;simp at hsl
    have hq0:0<Q.length:=by simpa using hsl
    have:S=true:=by
     rw[hS,List.any_eq_true]
     exact⟨x,hmem,hsh⟩
    subst this
    simp-implicitDefEqProofs[hqn,hq,hq0]
   |false=>
    rw[hsh] at hsl
    have hq:Q=[]:=by
     cases Q with
     |nil=>rfl
     |cons a t=>simp at hsl
    subst hq
    simp-implicitDefEqProofs[hqn]
    exact⟨i+1,⟨hcc,by rw[yj,htk,hI,hsh];rfl⟩,by omega,ab (Nat.zero_le _) (by simp[below,hwi])⟩
  ·have hie:i=c.blocks.length:=by simp at hcc;omega
   subst hie
   rw[List.take_length] at hI
   rw[hI] at hS
   subst hS
   simp-implicitDefEqProofs[]
end
section
theorem Ak{c:Cd}(hfit:dq c.blocks=true)(hS:iM c.blocks=false){i:Nat}{x:Bk}(hx:c.blocks[i]?=some x){p q n:Int}(hn:x.next=[p,q])(hpq:¬p=q)(hm:n∈x.next):dc c n=[(i:Int)]:=by
 have h1:=mF hfit hx hm
 have h3:dc c n=aL c.blocks n:=by
  have:=sG (c:=c) (x:=n.toNat) (by omega)
  rwa[show((n.toNat:Nat):Int)=n by omega] at this
 rw[h3]
 have hmn:dz c.blocks n=false:=by
  rw[iM,hfit,Bool.true_and,List.any_eq_false] at hS
  have:=hS x (List.mem_of_getElem? hx)
  cases e:dz c.blocks n with
  |false=>rfl
  |true=>
   refine absurd ?_ this
   have hd:iW x.next=true:=by rw[hn,iW];simp;omega
   rw[shX,hd,Bool.true_and,List.any_eq_true]
   exact⟨n,hm,e⟩
 rw[dz,decide_eq_false_iff_not] at hmn
 have hin:(i:Int)∈aL c.blocks n:=by
  have h2:((n.toNat:Nat):Int)=n:=by omega
  rw[←h2,AP hfit,jC hx,List.mem_map]
  exact⟨n,hm,rfl⟩
 cases e:aL c.blocks n with
 |nil=>rw[e] at hin;cases hin
 |cons a t=>
  rw[e] at hin hmn
  have:t=[]:=by
   cases t with
   |nil=>rfl
   |cons b t=>simp at hmn
  subst this
  rw[List.mem_singleton] at hin
  rw[hin]
structure HsS where (i:Nat) (W:List AO)
variable (G:az)
theorem rG(code:List Int)(hb:Byt code)(hl:code.length<=9223372036854775807):VF Tryz.prog G gf [.p (mg code)] (.p (.bool true)):=by
 have hbl:mg code= .lst 1 (code.map λn=>[.int .u8 n]):=rfl
 refine AC.go mE ?_
 simp-implicitDefEqProofs[gt,hbl]
 refine aG (λ_=>?_) (λ_=>?_)
 ·simp-implicitDefEqProofs[]
 simp-implicitDefEqProofs[]
 have hd:=CM G (rd G code hb) BX (by simp) []
 rw[hbl] at hd
 refine hd.mono ?_
 rintro r h ⟨⟨c,rfl,hg⟩,rfl⟩
 have hcs:=hg.csm
 have h160:=hg.2.1
 have hcc:=c.cs_eq2
 have hbk:bkL c.blocks= .lst 5 (c.blocks.map Bk.cs):=rfl
 have hN:=ym G c hcs.1
 have hS:=yF G c hcs.1
 have hO:=Bo G c hcs.1
 have hP:=λx=>sV G c x hcs.1.1 hcs.1.2
 rw[hcc,hbk] at hN hS hO hP
 have hone:=λhf hs i x h=> @Ak c hf hs i x h
 have hof:tN c.blocks≠[]->dq c.blocks=true:=λh=>by
  cases e:dq c.blocks with
  |true=>rfl
  |false=>exact absurd (ET e) h
 have hpl:∀n,(dc c n).length<=c.blocks.length:=λn=>vV c n
 generalize iM c.blocks=S at hN hS hone
 generalize tN c.blocks=Q at hO hof
 have hQn:aD Q= .lst 1 (Q.map λn=>[.int .i64 n]):=rfl
 simp-implicitDefEqProofs[aa,hcc,hbk]
 refine hN.use ?_
 simp-implicitDefEqProofs[]
 refine hS.use ?_
 simp-implicitDefEqProofs[]
 refine aJ (λa:HsS=>aA 75 [(23,.p (.int .i64 a.i)),(22,.p (.int .i64 c.blocks.length)),(21,.p (.lst 5 (c.blocks.map Bk.cs))),(4,.p (.bool S)),(3,.ptr 0 3 0 0)]) (λa=> .row 3 [[.p (.int .i64 c.params),.p (.int .i64 c.regs),.p (.lst 5 (c.blocks.map Bk.cs))]]::a.W) (λa=>a.i<=c.blocks.length) (λa=>c.blocks.length-a.i) ⟨0,[]⟩ (Nat.zero_le _) (ab (Nat.zero_le _) (by simp[below])) ?_
 rintro⟨i,W⟩ hi
 simp only at hi⊢
 simp-implicitDefEqProofs[]
 refine aG (λhc=>?_) (λhc=>?_)
 ·have hc:i<c.blocks.length:=by simpa using hc
  have hwi:=w1 (i:=i) (by omega)
  have hx:=List.getElem?_eq_getElem hc
  have hmem:=List.getElem_mem hc
  generalize c.blocks[i]=x at hx hmem
  have hxs:=x.cs_eq2
  have hnl:aD x.next= .lst 1 (x.next.map λn=>[.int .i64 n]):=rfl
  have hx2:=hg.2.2 x hmem
  simp-implicitDefEqProofs[hx,hxs,hnl]
  cases hSv:S with
  |true=>
   simp-implicitDefEqProofs[]
   exact⟨⟨i+1,_⟩,hc,by simp only;omega,ab (Nat.zero_le _) (by simp[below,hwi])⟩
  |false=>
   simp-implicitDefEqProofs[]
   rcases hl2:x.next with _|⟨p,_|⟨q,_|⟨z,t⟩⟩⟩
   ·simp-implicitDefEqProofs[]
    exact⟨⟨i+1,_⟩,hc,by simp only;omega,ab (Nat.zero_le _) (by simp[below,hwi])⟩
   ·simp-implicitDefEqProofs[]
    exact⟨⟨i+1,_⟩,hc,by simp only;omega,ab (Nat.zero_le _) (by simp[below,hwi])⟩
   ·by_cases hpq:p=q
    ·subst hpq
     simp-implicitDefEqProofs[]
     exact⟨⟨i+1,_⟩,hc,by simp only;omega,ab (Nat.zero_le _) (by simp[below,hwi])⟩
    ·simp-implicitDefEqProofs[hpq]
     refine hO.use ?_
     simp-implicitDefEqProofs[hQn]
     refine aG (λhz=>?_) (λhz=>?_)
     ·simp-implicitDefEqProofs[]
      exact⟨⟨i+1,_⟩,hc,by simp only;omega,ab (Nat.zero_le _) (by simp[below,hwi])⟩
     ·have hfit:=hof (by simpa using hz)
      have hall:=λn (hm:n∈x.next)=>hone hfit hSv i x hx hl2 hpq hm
      rw[hl2] at hall
      simp-implicitDefEqProofs[]
      generalize (W++[AO.row 5 [[AV.p (phL x.phis),AV.p (inL x.ins),AV.p (PV.int IntKind.i64 x.jump),AV.p (PV.int IntKind.i64 x.on),AV.p (PV.lst 1 [[PV.int IntKind.i64 p],[PV.int IntKind.i64 q]])]]])=W2
      have hgp:∀(j:Nat) (r:Int),[p,q][j]?=some r->[[PV.int IntKind.i64 p],[PV.int IntKind.i64 q]][j]?=some [PV.int IntKind.i64 r]:=λj r h=>by
       match j with
       |0=>simpa using h
       |1=>simpa using h
       |j+2=>simp at h
      refine aJ (λj:Nat=>aA 75 [(55,.p (.int .i64 j)),(54,.p (.int .i64 2)),(53,.p (.lst 1 [[.int .i64 p],[.int .i64 q]])),(5,.p (.int .i64 i)),(23,.p (.int .i64 i)),(22,.p (.int .i64 c.blocks.length)),(21,.p (.lst 5 (c.blocks.map Bk.cs))),(4,.p (.bool false)),(3,.ptr 0 3 0 0)]) (λ_=> .row 3 [[.p (.int .i64 c.params),.p (.int .i64 c.regs),.p (.lst 5 (c.blocks.map Bk.cs))]]::W2) (λj=>j<=2) (λj=>2-j) 0 (Nat.zero_le _) (ab (Nat.zero_le _) (by simp[below])) ?_
      intro j hj
      simp-implicitDefEqProofs[]
      refine aG (λhc2=>?_) (λhc2=>?_)
      ·have hc2:j<2:=by simp at hc2;omega
       have hwj:=w1 (i:=j) (by omega)
       have hgj:[p,q][j]?=some [p,q][j]:=List.getElem?_eq_getElem (by simpa using hc2)
       have hgm:=List.mem_of_getElem? hgj
       generalize [p,q][j]=r at hgj hgm
       have hgr:=hgp j r hgj
       have hpr:=hall r hgm
       have hP:=hP r
       rw[hpr] at hP
       have hin:aD [(i:Int)]= .lst 1 [[.int .i64 i]]:=rfl
       simp-implicitDefEqProofs[hgr]
       refine hP.use ?_
       simp-implicitDefEqProofs[hin]
       refine hP.use ?_
       simp-implicitDefEqProofs[hin]
       exact⟨j+1,by omega,by omega,ab (Nat.zero_le _) (by simp[below,hwj])⟩
      ·simp-implicitDefEqProofs[]
       exact⟨⟨i+1,_⟩,hc,by simp only;omega,ab (Nat.zero_le _) (by simp[below,hwi])⟩
   ·rw[hl2] at hx2
    simp at hx2
 ·simp-implicitDefEqProofs[]
end
end Go.Proofs.YtdfplkcigiblcaaGreat
namespace Go.Proofs.YtdfplkcigiblcaaGreat
open Go Go.Aw Go.ChangeShapes Go.WideShapes Go.ChangeAt Go.RowKit
set_option maxRecDepth 100000
abbrev zN:TypeId:=22
abbrev tw:TypeId:=5
theorem Ip:Kids Tryz.prog (· <Tryz.prog.types.size):=kids_rows (by kernel_rfl) (by kernel_rfl)
theorem HS:∀t e,t<Tryz.prog.types.size->Tryz.prog.underlying t=some (.slice e)->0<Tryz.prog.cellsOf e:=slices_full_of Tryz.prog (by kernel_rfl)
def zG:List TypeId:=[zN,tw]
theorem Gq:Plain Tryz.prog zG=true:=by kernel_rfl
theorem JV:ownKnob Tryz.prog.godebug=none:=by kernel_rfl
theorem oV{H:Type}:∀l:List (DataW H),Rows.uptoBulkAll l=(l.map Rows.uptoBulk).sum
 |[]=>by simp[Rows.uptoBulkAll]
 |d::r=>by simp[Rows.uptoBulkAll,oV r]
theorem Ew{H:Type}:BulkOk (Rows.uptoBulk (H:=H)) where
 lit:=λl=>by cases l<;>simp[Rows.uptoBulk]
 str:=λs=>by simp[Rows.uptoBulk]
 nil:=by simp[Rows.uptoBulk]
 slice:=λes sp=>by simp only[Rows.uptoBulk,oV];omega
 agg:=λps=>by simp only[Rows.uptoBulk,oV];omega
theorem Cb{t e:TypeId}{vs:List PV}(h:Conf Tryz.prog t vs)(hu:Tryz.prog.underlying t=some (.slice e)):∃es,vs=[.lst (Tryz.prog.cellsOf e) es]/\es.length<=9223372036854775807/\∀x∈es,Conf Tryz.prog e x:=by
 cases h with
 |sl es e' hl hs=>rw[hu] at e';cases e';exact⟨es,rfl,hl,hs⟩
 |bool b e=>rw[e] at hu;cases hu
 |int n e=>rw[e] at hu;cases hu
 |str s e=>rw[e] at hu;cases hu
 |st vs e=>rw[e] at hu;cases hu
 |arr vs e=>rw[e] at hu;cases hu
theorem yz{vs:List PV}(h:Conf Tryz.prog zN vs):∃l:List Int,vs=[mg l]/\l.length<=9223372036854775807/\Byt l:=by
 obtain⟨es,rfl,hl,h4⟩:=Cb h (e:=tw) (by kernel_rfl)
 have hk:∀x∈es,∃n:Int,x=[PV.int .u8 n]/\(Lit.int .u8 n).wf=true:=λx hx=>BC (h4 x hx) (by kernel_rfl)
 obtain⟨l,rfl⟩:=zH (λn:Int=>[PV.int .u8 n]) (λx hx=>by obtain⟨n,e,_⟩:=hk x hx;exact⟨n,e⟩)
 rw[show Tryz.prog.cellsOf tw=1 by kernel_rfl]
 refine⟨l,rfl,by rwa[List.length_map] at hl,λn hn=>?_⟩
 obtain⟨m,e,hw⟩:=hk [PV.int .u8 n] (List.mem_map.2 ⟨n,hn,rfl⟩)
 cases e
 simp[Lit.wf,IntKind.min,IntKind.max,IntKind.bits,IntKind.signed] at hw
 omega
def G0:az:=λ_=>none
end Go.Proofs.YtdfplkcigiblcaaGreat
