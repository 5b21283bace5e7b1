/-
  Contracts and lemmas that the card needs, part 8.
-/
import Derived.Test.YtdfplkcigiblcaaGreatFe7
import Derived.Test.YtdfplkcigiblcaaGreatChecked
import Derived.Shelf.Sort.AssemblyIn
import Derived.Shelf.Slices.CompactI
import Derived.Lib.SlicesCompact
import Derived.Shelf.Sort.Plain
import Derived.Shelf.Slices.In.SortNone
namespace Go.Proofs.YtdfplkcigiblcaaGreat
open Go Go.Aw
set_option maxRecDepth 100000
set_option maxHeartbeats 4000000
section
structure RS (l:List Fd) (pr:Int) (L:Nat) (S I0 E:List Nat) (h:List AO) (w:Lw) (nx:Nat) (vs:Vs) (X:List AO) (K V:AV) (I:List Nat):Prop where
 stb:Stb (lwR l pr V nx) L S I0 (vi V++E) h w X K I
 va:VAt X V vs
 vE:∀i∈vi V,i∉E/\(i∈S\/h.length<=i)
section
variable {l:List Fd} {pr:Int} {L:Nat} {S I0 E E2:List Nat} {h:List AO} {w w2:Lw} {nx nx2:Nat} {vs vs2:Vs} {X X2:List AO} {K K2 V V2:AV} {I I2 J:List Nat}
theorem RS.more(T:RS l pr L S I0 E h w nx vs X K V I)(os:List AO):RS l pr L S I0 E h w nx vs (X++os) K V I:=⟨T.stb.more os,T.va.more os,T.vE⟩
theorem RS.few(T:RS l pr L S I0 E h w nx vs X K V I)(hE:∀i∈E2,i∈E):RS l pr L S I0 E2 h w nx vs X K V I:=
 ⟨⟨T.stb.ls,T.stb.fr,T.stb.hL,T.stb.hS,T.stb.sub,λi hi=>T.stb.ap i (by
   rcases List.mem_append.1 hi with h|h
   ·exact List.mem_append.2 (.inl h)
   ·exact List.mem_append.2 (.inr (hE i h)))⟩,T.va,λi hi=>⟨λh=>(T.vE i hi).1 (hE i h),(T.vE i hi).2⟩⟩
theorem RS.add(T:RS l pr L S I0 E h w nx vs X K V I){j:Nat}(h1:j<X.length)(h2:j∉L::I)(h3:j∉vi V):RS l pr L S I0 (j::E) h w nx vs X K V I:=
 ⟨⟨T.stb.ls,T.stb.fr,T.stb.hL,T.stb.hS,T.stb.sub,λi hi=>by
   rcases List.mem_append.1 hi with h|h
   ·exact T.stb.ap i (List.mem_append.2 (.inl h))
   ·rcases List.mem_cons.1 h with rfl|h
    ·exact⟨h1,h2⟩
    ·exact T.stb.ap i (List.mem_append.2 (.inr h))⟩,T.va,λi hi=>⟨λh=>by
   rcases List.mem_cons.1 h with rfl|h
   ·exact h3 hi
   ·exact(T.vE i hi).1 h,(T.vE i hi).2⟩⟩
theorem RS.box(T:RS l pr L S I0 E h w nx vs X K V I)(o:AO):RS l pr L S I0 (X.length::E) h w nx vs (X++[o]) K V I:=
 (T.more [o]).add (by simp) (by
   simp only[List.mem_cons,not_or]
   exact⟨by have:=T.stb.ls.lt;omega,λhm=>by have:=T.stb.ls.own.lt hm;omega⟩) (λhm=>by have:=T.va.lt _ hm;omega)
theorem RS.start(T:RS l pr L S I0 E h w nx vs X K V I):RS l pr L (L::(vi V++I)) I [] X w nx vs X K V I:=
 ⟨⟨T.stb.ls,Frm.refl _ _,by simp,λj hj=>by simp[hj],λj hj=> .inl hj,λi hi=>T.stb.ap i (by rw[List.append_nil] at hi;exact List.mem_append.2 (.inl hi))⟩,T.va,λi hi=>⟨by simp,.inl (by simp[hi])⟩⟩
theorem RS.of(H:LS (lwR l pr V nx) L w h K I)(hV:VAt h V vs)(hVd:∀i∈vi V,i∉L::I):RS l pr L (L::(vi V++I)) I [] h w nx vs h K V I:=
 ⟨⟨H,Frm.refl _ _,by simp,λj hj=>by simp[hj],λj hj=> .inl hj,λi hi=>by rw[List.append_nil] at hi;exact⟨hV.lt i hi,hVd i hi⟩⟩,hV,λi hi=>⟨by simp,.inl (by simp[hi])⟩⟩
theorem RS.at(T:RS l pr L S I0 E h w nx vs X K V I):(∀i∈E,i<X.length/\i∉L::I)/\(∀i∈vi V,i<X.length/\i∉L::I):=
 ⟨λi hi=>T.stb.ap i (by simp[hi]),λi hi=>T.stb.ap i (by simp[hi])⟩
theorem RS.fresh(T:RS l pr L S I0 E h w nx vs X K V I):(∀j∈[X.length],h.length<=j/\j∉vi V++E)/\(∀j∈[X.length],j≠L/\j∉I):=T.stb.fresh
theorem RS.step(T:RS l pr L S I0 E h w nx vs X K V I)(hJ:∀j∈J,h.length<=j/\j∉vi V++E)(H:LR (lwR l pr V nx) L w2 (I++J) X X2):∃K2 I2,RS l pr L S I0 E h w2 nx vs X2 K2 V I2/\∀i∈E,X2[i]?=X[i]?:=by
 obtain⟨K2,I2,a1,a2⟩:=T.stb.step hJ H
 exact⟨K2,I2,⟨a1,T.va.frame λi hi=>a2 i (by simp[hi]),T.vE⟩,λi hi=>a2 i (by simp[hi])⟩
theorem RS.lift(T:RS l pr L S I0 E h w nx vs X K V I)(T2:RS l pr L (L::(vi V++I)) I [] X w2 nx2 vs2 X2 K2 V2 I2):RS l pr L S I0 E h w2 nx2 vs2 X2 K2 V2 I2/\∀i∈E,X2[i]?=X[i]?:=by
 have hX:=T.stb.fr.1
 have hX2:=T2.stb.fr.1
 refine⟨⟨⟨T2.stb.ls,T.stb.fr.trans T2.stb.fr λj hj=>?_,T.stb.hL,T.stb.hS,λj hj=>?_,λi hi=>?_⟩,T2.va,λi hi=>⟨λhE=>?_,?_⟩⟩,λi hi=>?_⟩
 ·simp only[List.mem_cons,List.mem_append] at hj
  rcases hj with rfl|hj|hj
  ·exact .inl T.stb.hL
  ·exact(T.vE j hj).2
  ·rcases T.stb.sub j hj with h|h
   ·exact .inl (T.stb.hS j h)
   ·exact .inr h
 ·rcases T2.stb.sub j hj with h|h
  ·exact T.stb.sub j h
  ·exact .inr (by omega)
 ·rcases List.mem_append.1 hi with h|h
  ·exact T2.stb.ap i (by simp[h])
  ·have h1:=T.at.1 i h
   refine⟨by omega,λhm=>?_⟩
   have h2:=h1.2
   simp only[List.mem_cons,not_or] at h2 hm
   rcases hm with hm|hm
   ·exact h2.1 hm
   ·rcases T2.stb.sub i hm with h|h
    ·exact h2.2 h
    ·omega
 ·have h1:=T.at.1 i hE
  rcases(T2.vE i hi).2 with h|h
  ·simp only[List.mem_cons,List.mem_append] at h
   rcases h with rfl|h|h
   ·exact h1.2 (by simp)
   ·exact(T.vE i h).1 hE
   ·exact h1.2 (by simp[h])
  ·omega
 ·rcases(T2.vE i hi).2 with h|h
  ·simp only[List.mem_cons,List.mem_append] at h
   rcases h with rfl|h|h
   ·exact .inl T.stb.hL
   ·exact(T.vE i h).2
   ·rcases T.stb.sub i h with h|h
    ·exact .inl (T.stb.hS i h)
    ·exact .inr h
  ·exact .inr (by omega)
 ·have h1:=T.at.1 i hi
  have h2:=h1.2
  simp only[List.mem_cons,not_or] at h2
  refine T2.stb.fr.2 i h1.1 ?_
  simp only[List.mem_cons,List.mem_append,not_or]
  exact⟨h2.1,λhm=>(T.vE i hm).1 hi,h2.2⟩
theorem RS.alt(T:RS l pr L S I0 E h w nx vs X K V I)(hX:X.length<=X2.length)(hL:X2[L]?=some (lwR l pr V2 nx2 w K))(e:∀i,i<X.length->i≠L->i∉vi V->X2[i]?=X[i]?)(hv:VAt X2 V2 vs2)(hv2:∀i∈vi V2,i∈vi V\/X.length<=i):RS l pr L S I0 E h w nx2 vs2 X2 K V2 I/\∀i∈E,X2[i]?=X[i]?:=by
 have hXl:=T.stb.fr.1
 have hI:∀i∈I,X2[i]?=X[i]?:=λi hi=>e i (T.stb.ls.own.lt hi) (λe=>(List.nodup_cons.1 T.stb.ls.nd).1 (e▸hi)) λhm=>(T.at.2 i hm).2 (by simp[hi])
 refine⟨⟨⟨⟨hL,T.stb.ls.own.frame hI,T.stb.ls.nd,T.stb.ls.noc.1,λkid n rows eK hg=>?_⟩,T.stb.fr.trans (T:=L::vi V) ⟨hX,λi hi hn=>?_⟩ λj hj=>?_,T.stb.hL,T.stb.hS,T.stb.sub,λi hi=>?_⟩,hv,λi hi=>⟨λhE=>?_,?_⟩⟩,λi hi=>?_⟩
 ·have ho:=T.stb.ls.own
  rw[eK] at ho
  rw[hI kid (rE ho)] at hg
  exact T.stb.ls.noc.2 kid n rows eK hg
 ·simp only[List.mem_cons,not_or] at hn
  exact e i hi hn.1 hn.2
 ·rcases List.mem_cons.1 hj with rfl|hj
  ·exact .inl T.stb.hL
  ·exact(T.vE j hj).2
 ·rcases List.mem_append.1 hi with h|h
  ·refine⟨hv.lt i h,?_⟩
   rcases hv2 i h with h|h
   ·exact(T.at.2 i h).2
   ·simp only[List.mem_cons,not_or]
    exact⟨by have:=T.stb.ls.lt;omega,λhm=>by have:=T.stb.ls.own.lt hm;omega⟩
  ·have:=T.at.1 i h
   exact⟨by omega,this.2⟩
 ·rcases hv2 i hi with h|h
  ·exact(T.vE i h).1 hE
  ·have:=(T.at.1 i hE).1;omega
 ·rcases hv2 i hi with h|h
  ·exact(T.vE i h).2
  ·exact .inr (by omega)
 ·have h1:=T.at.1 i hi
  refine e i h1.1 (λe=>h1.2 (by simp[e])) λhm=>(T.vE i hm).1 hi
theorem VAt.form(H:VAt X V vs):(V= .nils/\vs=[])\/∃vid,V= .sl vid 3 0 vs.length:=by
 cases H with
 |nil=>exact .inl ⟨rfl,rfl⟩
 |sl vid rows _ _ _=>exact .inr ⟨vid,rfl⟩
variable (G:ay)
theorem jN(T:RS l pr L S I0 E h w nx vs X K V I){B:Nat}(hok:w.Ok B)(hB:B<=1073741824):
 AC Tryz.prog G bP [.ptr L 8 0 0] X λr h'=>r= .ret (.p (.int .i64 w.bs.length))/\∃K' I',RS l pr L S I0 E h (w.name 1) nx vs h' K' V I'/\∀i∈E,h'[i]?=X[i]?:=
 (ty G T.stb.ls hok hB ⟨T.va.is.1,T.va.is.2.1⟩).mono λr h' ⟨a,b⟩=>⟨a,T.step (J:=[]) (λj hj=>by cases hj) (by rw[List.append_nil];exact b)⟩
theorem rP(T:RS l pr L S I0 E h w nx vs X K V I){B:Nat}(hok:w.Ok B)(j o:Int)(a:Int)(g:Nat){gI:Int}(hg:gI=(g:Int)):
 AC Tryz.prog G bk [.ptr L 8 0 0,.p (.int .i64 j),.p (.int .i64 o),.sl X.length 1 0 1,.p (.int .i64 gI)] (X++[.row 1 [[.p (.int .i64 a)]]]) λr h'=>r= .ret (.tup [])/\∃K' I',RS l pr L S I0 E h (w.fin j o g [a]) nx vs h' K' V I'/\∀i∈E,h'[i]?=X[i]?:=by
 obtain⟨f1,f2⟩:=T.fresh
 have hm:=lM G (T.stb.ls.more [.row 1 ([a].map λn=>[AV.p (.int .i64 n)])]) hok j o g [a] (fV X [a] rfl) (by simp) f2
 simp only[List.map_cons,List.map_nil,List.length_cons,List.length_nil] at hm
 rw[hg]
 refine hm.mono λr h' ⟨e,b⟩=>⟨e,?_⟩
 obtain⟨K2,I2,a1,a2⟩:=(T.more [_]).step f1 b
 exact⟨K2,I2,a1,λi hi=>(a2 i hi).trans (List.getElem?_append_left (T.at.1 i hi).1)⟩
theorem CH(T:RS l pr L S I0 E h w nx vs X K V I){B:Nat}(hok:w.Ok B)(j o:Int)(a b:Int)(g:Nat){gI:Int}(hg:gI=(g:Int)):
 AC Tryz.prog G bk [.ptr L 8 0 0,.p (.int .i64 j),.p (.int .i64 o),.sl X.length 1 0 2,.p (.int .i64 gI)] (X++[.row 1 [[.p (.int .i64 a)],[.p (.int .i64 b)]]]) λr h'=>r= .ret (.tup [])/\∃K' I',RS l pr L S I0 E h (w.fin j o g [a,b]) nx vs h' K' V I'/\∀i∈E,h'[i]?=X[i]?:=by
 obtain⟨f1,f2⟩:=T.fresh
 have hm:=lM G (T.stb.ls.more [.row 1 ([a,b].map λn=>[AV.p (.int .i64 n)])]) hok j o g [a,b] (fV X [a,b] rfl) (by simp) f2
 simp only[List.map_cons,List.map_nil,List.length_cons,List.length_nil] at hm
 rw[hg]
 refine hm.mono λr h' ⟨e,b⟩=>⟨e,?_⟩
 obtain⟨K2,I2,a1,a2⟩:=(T.more [_]).step f1 b
 exact⟨K2,I2,a1,λi hi=>(a2 i hi).trans (List.getElem?_append_left (T.at.1 i hi).1)⟩
theorem IS(T:RS l pr L S I0 E h w nx vs X K V I){B:Nat}(hok:w.Ok B)(j o:Int)(g:Nat){gI:Int}(hg:gI=(g:Int)):
 AC Tryz.prog G bk [.ptr L 8 0 0,.p (.int .i64 j),.p (.int .i64 o),.p (aD []),.p (.int .i64 gI)] X λr h'=>r= .ret (.tup [])/\∃K' I',RS l pr L S I0 E h (w.fin j o g []) nx vs h' K' V I'/\∀i∈E,h'[i]?=X[i]?:=by
 rw[hg]
 exact(lM G T.stb.ls hok j o g [] (Y:= .p (aD [])) (J:=[]) (.p _ (λh=>by cases h) .nil) List.nodup_nil (λj hj=>by cases hj)).mono λr h' ⟨e,b⟩=>⟨e,T.step (J:=[]) (λj hj=>by cases hj) b⟩
theorem Cu(T:RS l pr L S I0 E h w nx vs X K V I){B:Nat}(hok:w.Ok B)(hB:B<=1073741824)(x:Ii){A:AV}(hA:OwnL false X [A] [aD x.args] J)(ndJ:J.Nodup)(hJ:∀j∈J,h.length<=j/\j∉vi V++E)(hJ2:∀j∈J,j≠L/\j∉I):
 AC Tryz.prog G bM [.ptr L 8 0 0,.p (.int .i64 x.op),.p (.int .i64 x.to),.p (.int .i64 x.n),A] X λr h'=>r= .ret (.p (.int .i64 x.to))/\∃K' I',RS l pr L S I0 E h (w.put x) nx vs h' K' V I'/\∀i∈E,h'[i]?=X[i]?:=
 (nt G T.stb.ls hok hB x hA ndJ hJ2).mono λr h' ⟨e,b⟩=>⟨e,T.step hJ b⟩
theorem JM(T:RS l pr L S I0 E h w nx vs X K V I){B:Nat}(hok:w.Ok B){e:Ex}(hB:B+8*e.sz<=1073741823)(he:ExR G l pr L V nx vs e):
 AC Tryz.prog G aW [.ptr L 8 0 0,.agg (e.cs.map .p)] X λx h'=>x= .ret (.p (.int .i64 (lwE (faI l) (rgV vs) e w).1))/\∃K' I',RS l pr L S I0 E h (lwE (faI l) (rgV vs) e w).2 nx vs h' K' V I'/\∀i∈E,h'[i]?=X[i]?:=
 (he w X K I B T.stb.ls hok hB T.va (λi hi=>(T.at.2 i hi).2)).mono λr h' ⟨e,b⟩=>⟨e,T.step (J:=[]) (λj hj=>by cases hj) (by rw[List.append_nil];exact b)⟩
def Eh(l0:List Fd)(pr:Int)(L:Nat)(l:List Sm):Prop:=∀(w:Lw) (h:List AO) (K V:AV) (I:List Nat) (B:Nat) (vs:Vs) (nx:Nat) (m:Scp) (up:List Scp),RS l0 pr L (L::(vi V++I)) I [] h w nx vs h K V I->w.Ok B->B+20*aN l<=1073741000->nx+aN l<=1073741000->vs.length+aN l<=1073741000->rgV vs=scF (-1) (m::up)->
 AC Tryz.prog G aZ [.ptr L 8 0 0,.p (smL l)] h λx h'=>x= .ret (.tup [])/\∃K' V' I',RS l0 pr L (L::(vi V++I)) I [] h (aV (faI l0) (-1) l m up nx w).2.2 (aV (faI l0) (-1) l m up nx w).2.1 vs h' K' V' I'
def StR(l0:List Fd)(pr:Int)(L:Nat)(s:Sm):Prop:=∀(w:Lw) (h:List AO) (K V:AV) (I:List Nat) (B:Nat) (vs:Vs) (nx:Nat) (m:Scp) (up:List Scp),RS l0 pr L (L::(vi V++I)) I [] h w nx vs h K V I->w.Ok B->B+20*s.sz<=1073741000->nx+s.sz<=1073741000->vs.length+s.sz<=1073741000->rgV vs=scF (-1) (m::up)->
 AC Tryz.prog G ey [.ptr L 8 0 0,.agg (s.cs.map .p)] h λx h'=>x= .ret (.tup [])/\∃vs' K' V' I',RS l0 pr L (L::(vi V++I)) I [] h (lwS (faI l0) (-1) s m up nx w).2.2 (lwS (faI l0) (-1) s m up nx w).2.1 vs' h' K' V' I'/\vs'.take vs.length=vs/\vs.length<=vs'.length/\vs'.length<=vs.length+1/\rgV vs'=scF (-1) ((lwS (faI l0) (-1) s m up nx w).1::up)
theorem rL{b:List Sm}(hb:Eh G l pr L b)(T:RS l pr L S I0 E h w nx vs X K V I){B:Nat}{m:Scp}{up:List Scp}(hok:w.Ok B)(h1:B+20*aN b<=1073741000)(h2:nx+aN b<=1073741000)(h3:vs.length+aN b<=1073741000)(h4:rgV vs=scF (-1) (m::up)):
 AC Tryz.prog G aZ [.ptr L 8 0 0,.p (smL b)] X λx h'=>x= .ret (.tup [])/\∃K' V' I',RS l pr L S I0 E h (aV (faI l) (-1) b m up nx w).2.2 (aV (faI l) (-1) b m up nx w).2.1 vs h' K' V' I'/\∀i∈E,h'[i]?=X[i]?:=
 (hb w X K V I B vs nx m up T.start hok h1 h2 h3 h4).mono λr h' ⟨e,K',V',I',T2⟩=>⟨e,K',V',I',T.lift T2⟩
end
end
section
theorem KU{fa:List UInt8->Int}{d:Int}{s:Sm}(h:s.op=6){a0:Ex}{ar:List Ex}(ha:s.args=a0::ar)(m:Scp)(up:List Scp)(nx:Nat)(w:Lw){x:Int × Lw}(hx:x=lwE fa (scF d (m::up)) a0 ((w.name 3).fin 1 0 w.bs.length [(w.bs.length:Int)])){y:Scp × Nat × Lw}(hy:y=aV fa d s.body [] (m::up) nx (x.2.fin 2 x.1 (w.bs.length+1) [(w.bs.length:Int)+1,(w.bs.length:Int)+2])):
 lwS fa d s m up nx w=(m,y.2.1,y.2.2.fin 1 0 (w.bs.length+2) [(w.bs.length:Int)]):=by
 subst hy;subst hx
 obtain⟨o,n,a,bd,el⟩:=s
 simp only[Sm.op,Sm.args] at h ha
 rw[lwS,if_pos h,ha];rfl
theorem Ku{fa:List UInt8->Int}{d:Int}{s:Sm}(h:¬s.op=6)(m:Scp)(up:List Scp)(nx:Nat)(w:Lw){x:List Int × Lw}(hx:x=bA fa (scF d (m::up)) s.args w):
 lwS fa d s m up nx w=if s.op=1 then(mV m s.name nx,nx+1,x.2.put ⟨2,nx,x.1,0⟩)
  else if s.op=2 then(m,nx,x.2.put ⟨2,scF d (m::up) s.name,x.1,0⟩)
  else if s.op=3 then(m,nx,x.2.put ⟨13,-1,x.1,0⟩)
  else if s.op=4 then(m,nx,x.2.put ⟨12,-1,x.1,0⟩)
  else if s.op=5 then
   let t:=x.2.bs.length
   let y:=aV fa d s.body [] (m::up) nx ((x.2.name 3).fin 2 (x.1.headD 0) t [(t:Int),(t:Int)+1])
   let z:=aV fa d s.els [] (m::up) y.2.1 (y.2.2.fin 1 0 (t+1) [(t:Int)+2])
   (m,z.2.1,z.2.2.fin 1 0 (t+2) [(t:Int)+2])
  else if s.op=7 then(m,nx,(x.2.name 1).fin 3 (x.1.headD 0) x.2.bs.length [])
  else(m,nx,x.2):=by
 subst hx
 obtain⟨o,n,a,bd,el⟩:=s
 simp only[Sm.op] at h
 rw[lwS,if_neg h];rfl
variable (G:ay)
end
section
theorem RS.ofStg{l:List Fd}{pr:Int}{L:Nat}{I:List Nat}{h hB:List AO}{w:Lw}{nx:Nat}{vs:Vs}{X:List AO}{K V:AV}{I1:List Nat}{oid:Nat}(S:Stg (lwR l pr V nx) L I (h.length::vi V) h hB w X K I1)(hv:VAt X V vs)(hV:∀i∈vi V,i<h.length)(ho:oid<X.length)(hoE:oid∉h.length::vi V)(hoI:oid∉L::I1):RS l pr L (L::(vi V++I)) I [oid,h.length] h w nx vs X K V I1:=by
 refine⟨⟨S.ls,⟨S.fr.1,λi hi hn=>S.fr.2 i hi λhm=>hn ?_⟩,by simp,λj hj=>by simp[hj],S.sub,λi hi=>?_⟩,hv,λi hi=>⟨λhm=>?_,.inl (by simp[hi])⟩⟩
 ·rcases List.mem_cons.1 hm with rfl|hm
  ·simp
  ·simp[hm]
 ·simp only[List.mem_append,List.mem_cons,List.not_mem_nil,or_false] at hi
  rcases hi with hi|rfl|rfl
  ·exact S.ap i (by simp[hi])
  ·exact⟨ho,hoI⟩
  ·exact S.ap _ (by simp)
 ·simp only[List.mem_cons,List.not_mem_nil,or_false] at hm
  rcases hm with rfl|rfl
  ·exact hoE (by simp[hi])
  ·have:=hV _ hi;omega
variable (G:ay)
theorem HU(l0:List Fd)(hl0:l0.length<=1073741824)(pr:Int)(L:Nat)(s:Sm)(o6:s.op=6)(hne:s.args≠[])(ha:∀a∈s.args,bO 6 a=true)(hb:Eh G l0 pr L s.body){w:Lw}{h:List AO}{K V:AV}{I:List Nat}{B:Nat}{vs:Vs}{nx:Nat}{m:Scp}{up:List Scp}(T:RS l0 pr L (L::(vi V++I)) I [] h w nx vs h K V I)(hok:w.Ok B)(hB:B+20*s.sz<=1073741000)(hnx:nx+s.sz<=1073741000)(hvl:vs.length+s.sz<=1073741000)(hrg:rgV vs=scF (-1) (m::up)):
 AC Tryz.prog G dX [.ptr L 8 0 0,.agg (s.cs.map .p)] h λx h'=>x= .ret (.tup [])/\∃K' V' I',RS l0 pr L (L::(vi V++I)) I [] h (lwS (faI l0) (-1) s m up nx w).2.2 (lwS (faI l0) (-1) s m up nx w).2.1 vs h' K' V' I'/\(lwS (faI l0) (-1) s m up nx w).1=m:=by
 have hsc:=s.cs_eq
 have hsz:=s.sz_eq
 obtain⟨a0,ar,ha0⟩:∃a r,s.args=a::r:=by
  match hx:s.args,hne with
  |a::r,_=>exact⟨a,r,rfl⟩
 obtain⟨t,ht⟩:∃t,t=w.bs.length:=⟨_,rfl⟩
 have hac:=a0.cs_eq
 have hkx:exL s.args= .lst 4 ([.int .i64 a0.op,.int .i64 a0.n,.str a0.name,exL a0.kids]::ar.map Ex.cs):=by rw[ha0,←hac];rfl
 have haz:aR s.args=a0.sz+aR ar:=by rw[ha0,aR]
 have htb:t<=B:=by rw[ht];exact hok.bs
 have T0:=T.box (AO.row 5 [[.p (.int .i64 6),.p (.str s.name),.p (exL s.args),.p (smL s.body),.p (smL s.els)]])
 have r0:(h++[AO.row 5 [[.p (.int .i64 6),.p (.str s.name),.p (exL s.args),.p (smL s.body),.p (smL s.els)]]])[h.length]?=some (AO.row 5 [[.p (.int .i64 6),.p (.str s.name),.p (exL s.args),.p (smL s.body),.p (smL s.els)]]):=by simp
 rw[hkx] at T0 r0
 refine AC.go oJ ?_
 rw[hsc,o6,hkx]
 simp-implicitDefEqProofs[-AV.cells,-AV.isCell,aF,ae,ah,an,al,aE,af,aq,aj,-Lw.name_len,iC]
 refine(jN G T0 hok (by omega)).mono ?_
 rintro x X1 ⟨rfl,K1,I1,T1,e1⟩
 have r1:=(e1 h.length (by simp)).trans r0
 have ok1:=hok.name 1
 have hl1:(w.name 1).bs.length=t+1:=by rw[Lw.name_len,ht]
 simp-implicitDefEqProofs[-AV.cells,-AV.isCell,aF,ae,ah,an,al,aE,af,aq,aj,-Lw.name_len,aa,←ht]
 refine(jN G T1 ok1 (by omega)).mono ?_
 rintro x X2 ⟨rfl,K2,I2,T2,e2⟩
 have r2:=(e2 h.length (by simp)).trans r1
 have ok2:=ok1.name 1
 have hl2:((w.name 1).name 1).bs.length=t+2:=by rw[Lw.name_len,hl1]
 simp-implicitDefEqProofs[-AV.cells,-AV.isCell,aF,ae,ah,an,al,aE,af,aq,aj,-Lw.name_len,aa,hl1]
 refine(jN G T2 ok2 (by omega)).mono ?_
 rintro x X3 ⟨rfl,K3,I3,T3,e3⟩
 have r3:=(e3 h.length (by simp)).trans r2
 have ok3:(w.name 3).Ok (B+3):=hok.name 3
 have hn3:((w.name 1).name 1).name 1=w.name 3:=by rw[Lw.name_name,Lw.name_name]
 rw[hn3] at T3
 simp-implicitDefEqProofs[-AV.cells,-AV.isCell,aF,ae,ah,an,al,aE,af,aq,aj,-Lw.name_len,aa,hl2]
 refine(rP G T3 ok3 1 0 t t rfl).mono ?_
 rintro x X4 ⟨rfl,K4,I4,T4,e4⟩
 have r4:=(e4 h.length (by simp)).trans r3
 have ok4:=ok3.fin 1 0 (g:=t) (by rw[Lw.name_len,ht];omega) [(t:Int)]
 simp-implicitDefEqProofs[-AV.cells,-AV.isCell,aF,ae,ah,an,al,aE,af,aq,aj,-Lw.name_len,aa,r4]
 have h5:=JM G T4 ok4 (e:=a0) (by omega) (CK G l0 hl0 pr L V nx vs (by omega) 6 a0 (ha a0 (by rw[ha0];simp)))
 obtain⟨ok5,len5⟩:=mZ (faI l0) (rgV vs) a0 _ _ ok4
 obtain⟨x5,hx5⟩:∃x5,x5=lwE (faI l0) (rgV vs) a0 ((w.name 3).fin 1 0 t [(t:Int)]):=⟨_,rfl⟩
 rw[hac,←hx5] at h5
 rw[←hx5] at ok5 len5
 simp only[Lw.fin_len,Lw.name_len,←ht] at len5
 refine h5.mono ?_
 rintro x X5 ⟨rfl,K5,I5,T5,e5⟩
 have r5:=(e5 h.length (by simp)).trans r4
 simp-implicitDefEqProofs[-AV.cells,-AV.isCell,aF,ae,ah,an,al,aE,af,aq,aj,-Lw.name_len,aa]
 refine(CH G T5 ok5 2 x5.1 ((t:Int)+1) ((t:Int)+2) (t+1) (by omega)).mono ?_
 rintro x X6 ⟨rfl,K6,I6,T6,e6⟩
 have r6:=(e6 h.length (by simp)).trans r5
 have ok6:=ok5.fin 2 x5.1 (g:=t+1) (by omega) [(t:Int)+1,(t:Int)+2]
 simp-implicitDefEqProofs[-AV.cells,-AV.isCell,aF,ae,ah,an,al,aE,af,aq,aj,-Lw.name_len,aa,r6]
 have h7:=rL G hb T6 (m:=[]) (up:=m::up) ok6 (by omega) (by omega) (by omega) (by rw[hrg];rfl)
 have okb:=ee (faI l0) (-1) s.body [] (m::up) nx _ _ ok6
 obtain⟨y7,hy7⟩:∃y,y=aV (faI l0) (-1) s.body [] (m::up) nx (x5.2.fin 2 x5.1 (t+1) [(t:Int)+1,(t:Int)+2]):=⟨_,rfl⟩
 rw[←hy7] at h7 okb
 refine h7.mono ?_
 rintro x X7 ⟨rfl,K7,V7,I7,T7,e7⟩
 obtain⟨ok7,len7,nx7,nxx7⟩:=okb
 simp-implicitDefEqProofs[-AV.cells,-AV.isCell,aF,ae,ah,an,al,aE,af,aq,aj,-Lw.name_len,aa]
 refine(rP G T7 ok7 1 0 t (t+2) (by omega)).mono ?_
 rintro x X8 ⟨rfl,K8,I8,T8,e8⟩
 simp-implicitDefEqProofs[-AV.cells,-AV.isCell,aF,ae,ah,an,al,aE,af,aq,aj,-Lw.name_len,aa]
 subst ht
 rw[hrg] at hx5
 rw[KU o6 ha0 m up nx w hx5 hy7]
 exact⟨⟨K8,V7,I8,T8.few (λi hi=>by cases hi)⟩,rfl⟩
theorem Hz(l0:List Fd)(hl0:l0.length<=1073741824)(pr:Int)(L:Nat)(s:Sm)(hne:s.args≠[])(ha:∀a∈s.args,bO 6 a=true)(hb:Eh G l0 pr L s.body)(he:Eh G l0 pr L s.els):StR G l0 pr L s:=by
 intro w h K V I B vs nx m up T hok hB hnx hvl hrg
 have hsc:=s.cs_eq
 have hsz:=s.sz_eq
 have H:=T.stb.ls
 have hV:=T.va
 have hVd:=λi hi=>(T.at.2 i hi).2
 have hLl:=H.lt
 have hxl:∀l,exL l= .lst 4 (l.map Ex.cs):=λ_=>rfl
 obtain⟨v1,v2,v3⟩:=hV.is
 obtain⟨E,hE⟩:∃E,E=h.length::vi V:=⟨_,rfl⟩
 obtain⟨bo,hbo⟩:∃bo,bo=AO.row 5 [[.p (.int .i64 s.op),.p (.str s.name),.p (exL s.args),.p (smL s.body),.p (smL s.els)]]:=⟨_,rfl⟩
 refine AC.go oh ?_
 rw[hsc]
 by_cases o6:s.op=6
 ·have T0:=T.box bo
  have hF:=HU G l0 hl0 pr L s o6 hne ha hb T0.start hok hB hnx hvl hrg
  rw[hsc] at hF
  rw[o6] at hbo hF
  simp-implicitDefEqProofs[-AV.cells,-AV.isCell,aF,ae,ah,an,al,aE,af,aq,aj,-Lw.name_len,ep,o6]
  rw[←hbo]
  refine hF.mono ?_
  rintro x X1 ⟨rfl,K1,V1,I1,T1,hm1⟩
  simp-implicitDefEqProofs[-AV.cells,-AV.isCell,aF,ae,ah,an,al,aE,af,aq,aj,-Lw.name_len,aa]
  exact⟨vs,⟨K1,V1,I1,(T0.lift T1).1.few (λi hi=>by cases hi)⟩,by rw[List.take_length],Nat.le_refl _,by omega,by rw[hm1];exact hrg⟩
 have hS0:Stg (lwR l0 pr V nx) L I E h (h++[bo]) w (h++[bo]) K I:=Stg.of H [bo] (λi hi=>by
  rw[hE] at hi
  rcases List.mem_cons.1 hi with rfl|hi
  ·refine⟨by simp,?_⟩
   simp only[List.mem_cons,not_or]
   exact⟨by have:=H.lt;omega,λhm=>by have:=H.own.lt hm;omega⟩
  ·exact⟨by have:=hV.lt i hi;simp;omega,hVd i hi⟩)
 have hb0:(h++[bo])[h.length]?=some bo:=by simp
 have kE:∀{w2:Lw} {X:List AO} {K2:AV} {I2:List Nat},Stg (lwR l0 pr V nx) L I E h (h++[bo]) w2 X K2 I2->X[h.length]?=some bo/\VAt X V vs/\(∀i∈vi V,i∉L::I2):=λ{w2 X K2 I2} S=>⟨(S.keep _ (by rw[hE];simp)).trans hb0,(hV.more [bo]).frame λi hi=>S.keep i (by rw[hE];simp[hi]),λi hi=>(S.ap i (by rw[hE];simp[hi])).2⟩
 have hal:=fH s.args
 have hbl:(h++[bo]).length=h.length+1:=by simp
 simp-implicitDefEqProofs[-AV.cells,-AV.isCell,aF,ae,ah,an,al,aE,af,aq,aj,-Lw.name_len,ep,o6,hxl]
 refine JE 0 (λts' X=>∃oid K1 I1,Stg (lwR l0 pr V nx) L I E h (h++[bo]) (bA (faI l0) (rgV vs) s.args w).2 X K1 I1/\X[oid]?=some (rn (bA (faI l0) (rgV vs) s.args w).1)/\h.length<oid/\oid∉E/\oid∉L::I1/\∃z,ts'=aB 132 ((20,z)::(19,.p (.int .i64 s.args.length))::(18,.p (.lst 4 (s.args.map Ex.cs)))::(17,.ptr h.length 5 0 2)::(16,.p (.int .i64 s.args.length))::[(4,.sl oid 1 0 s.args.length),(5,.p (.int .i64 s.args.length)),(3,.ptr h.length 5 0 0),(0,.ptr L 8 0 0)])) (λQ' qE=>?_) ?_
 ·rw[hxl] at hbo
  have S00:Stg (lwR l0 pr V nx) L I E h (h++[bo]) w (h++[bo]++[.row 1 []]) K I:=hS0.more _
  have e0:h++[bo]++[AO.row 1 []]=h++[bo,.row 1 []]:=by simp
  rw[e0] at S00
  have hvE:h.length+1∉E:=λhm=>by have:=(hS0.ap _ hm).1;simp at this
  refine aH (λa:MpQ=>aB 132 [(4,.sl a.o 1 0 a.i),(5,.p (.int .i64 a.i)),(3,.ptr h.length 5 0 0),(0,.ptr L 8 0 0)]) (λa=>a.X)
   (λa=>a.i<=s.args.length/\∃K1 I1,Stg (lwR l0 pr V nx) L I E h (h++[bo]) (bA (faI l0) (rgV vs) (s.args.take a.i) w).2 a.X K1 I1/\a.X[a.o]?=some (rn (bA (faI l0) (rgV vs) (s.args.take a.i) w).1)/\h.length<a.o/\a.o∉E/\a.o∉L::I1) (λa=>s.args.length-a.i) ⟨0,h++[bo,.row 1 []],h.length+1⟩ ⟨Nat.zero_le _,K,I,by rw[List.take_zero,bA];exact S00,by rw[List.take_zero,bA,←e0,List.getElem?_append_right (by simp)];simp[rn],by simp,hvE,by
     simp only[List.mem_cons,not_or]
     exact⟨by omega,λhm=>by have:=H.own.lt hm;omega⟩⟩ ?_ ?_
  ·rw[hbo]
   exact ab (by simp) (by simp[below];omega)
  rintro⟨i,X,o⟩ ⟨hi,K1,I1,S,hx,ho,hoE,hoI⟩
  simp only at hi S hx ho hoE hoI
  have hXl:=S.fr.1
  have hXL:=S.ls.lt
  have hox:o<X.length:=(List.getElem?_eq_some_iff.1 hx).1
  have hlen:(bA (faI l0) (rgV vs) (s.args.take i) w).1.length=i:=by rw[gu,List.length_take];omega
  obtain⟨y0,yV,yd⟩:=kE S
  rw[hbo] at y0
  have hbX:h.length<X.length:=(List.getElem?_eq_some_iff.1 y0).1
  simp-implicitDefEqProofs[y0]
  refine aG (λhc1=>?_) (λhc1=>?_)
  ·simp at hc1
   have hg:=List.getElem?_eq_getElem hc1
   have hm:=List.getElem_mem hc1
   have htk:=vr (fa:=faI l0) (sc:=rgV vs) hc1 w
   have hok1:=(jS (faI l0) (rgV vs) (s.args.take i) w B hok).1
   have hzt:aR (s.args.take i)+s.args[i].sz<=aR s.args:=by
    have h1:=List.take_append_drop (i+1) s.args
    have h2:aR s.args=aR (s.args.take (i+1))+aR (s.args.drop (i+1)):=by
     conv=>lhs;rw[←h1]
     rw[dT]
    rw[az hc1,dT] at h2
    simp only[aR] at h2
    omega
   have hcall:=CK G l0 hl0 pr L V nx vs (by omega) 6 s.args[i] (ha _ hm) _ _ K1 I1 _ S.ls hok1 (by omega) yV yd
   generalize s.args[i]=k at*
   have hkc:=k.cs_eq
   generalize bA (faI l0) (rgV vs) (s.args.take i) w=cur at*
   obtain⟨out,w1⟩:=cur
   simp only at htk hcall hok1 S hx hlen
   rw[hkc] at hcall
   simp-implicitDefEqProofs[-AV.cells,-AV.isCell,aF,ae,ah,an,al,aE,af,aq,aj,-Lw.name_len,y0,hg,hkc]
   refine hcall.mono ?_
   rintro r X2 ⟨rfl,hlr⟩
   have hl2:X.length<=X2.length:=by obtain⟨_,_,_,a,_⟩:=hlr;exact a.1
   have hx2:X2[o]?=some (rn out):=by
    obtain⟨_,_,_,a,_⟩:=hlr
    rw[a.2 o hox hoI];exact hx
   have hE2:∀j∈o::E,j<X.length/\j∉L::I1:=λj hj=>by
    rcases List.mem_cons.1 hj with rfl|hj
    ·exact⟨hox,hoI⟩
    ·exact S.ap j hj
   obtain⟨K2,I2,S2o⟩:=(show Stg (lwR l0 pr V nx) L I (o::E) h X w1 X K1 I1 from⟨S.ls,S.fr,S.sub,λ_ _=>rfl,hE2,Nat.le_refl _⟩).step (J:=[]) (λj hj=>by cases hj) (by rw[List.append_nil];exact hlr)
   have hoI2:o∉L::I2:=(S2o.ap o (by simp)).2
   have S2:Stg (lwR l0 pr V nx) L I E h (h++[bo]) _ X2 K2 I2:=⟨S2o.ls,S2o.fr,S2o.sub,λj hj=>(S2o.keep j (by simp[hj])).trans (S.keep j hj),λj hj=>S2o.ap j (by simp[hj]),Nat.le_trans S.ge hl2⟩
   have hx2':∀t,(X2++t)[o]?=some (.row 1 (out.map λn=>[AV.p (.int .i64 n)])):=λt=>by rw[List.getElem?_append_left (by omega)];exact hx2
   have hot:List.take i (out.map λn=>[AV.p (.int .i64 n)])=out.map λn=>[AV.p (.int .i64 n)]:=List.take_of_length_le (by simp;omega)
   simp-implicitDefEqProofs[-AV.cells,-AV.isCell,aF,ae,ah,an,al,aE,af,aq,aj,-Lw.name_len,aa,hx2',hlen,hot]
   refine⟨by omega,⟨i+1,_,X2.length+1⟩,⟨by simp only;omega,K2,I2,by
    rw[htk]
    exact S2.upd (oid:=o) (by simp;omega) (λj hj hn=>by rw[List.getElem?_append_left (by simp;omega),List.getElem?_set_ne (Ne.symm hn),List.getElem?_append_left hj]) (by omega) hoE hoI2,?_,by simp only;omega,λhm=>by have:=(S2.ap _ hm).1;simp only at this;omega,?_⟩,by simp only;omega,ab (by simp;omega) ?_⟩
   ·rw[htk,List.getElem?_append_right (by simp)];simp[rn]
   ·simp only[List.mem_cons,not_or]
    exact⟨by have:=S2.ls.lt;omega,λhm=>by have:=S2.ls.own.lt hm;omega⟩
   ·simp[below,show IntKind.i64.wrap ((i:Int)+1)=(i:Int)+1 from ag (by omega) (by omega)]
    omega
  ·simp at hc1
   have hie:i=s.args.length:=by omega
   subst hie
   rw[List.take_length] at S hx hlen
   simp-implicitDefEqProofs[]
   exact qE _ _ ⟨o,K1,I1,S,hx,ho,hoE,hoI,_,rfl⟩
 ·rintro ts' X ⟨oid,K1,I1,S,hx,ho,hoE,hoI,z,rfl⟩
  obtain⟨y0,yV,yd⟩:=kE S
  rw[hbo] at y0
  obtain⟨okm,lenm⟩:=jS (faI l0) (rgV vs) s.args w B hok
  have hlm:=gu (faI l0) (rgV vs) s.args w
  obtain⟨t1,ht1⟩:∃x,x=bA (faI l0) (rgV vs) s.args w:=⟨_,rfl⟩
  have heq:=Ku (fa:=faI l0) (d:= -1) o6 m up nx w (x:=t1) (by rw[←hrg];exact ht1)
  rw[←ht1] at S hx okm lenm hlm
  have hA:OwnL false X [.sl oid 1 0 s.args.length] [aD t1.1] [oid]:=si hx hlm.symm
  have hox:=(List.getElem?_eq_some_iff.1 hx).1
  rw[hE] at S hoE
  have To:RS l0 pr L (L::(vi V++I)) I [oid,h.length] h t1.2 nx vs X K1 V I1:=RS.ofStg S yV hV.lt hox hoE hoI
  have Tq:RS l0 pr L (L::(vi V++I)) I [h.length] h t1.2 nx vs X K1 V I1:=To.few (by simp)
  have hJ:∀j∈[oid],h.length<=j/\j∉vi V++[h.length]:=λj hj=>by
   rw[List.mem_singleton.1 hj]
   refine⟨by omega,λhm=>hoE ?_⟩
   rcases List.mem_append.1 hm with hm|hm
   ·simp[hm]
   ·rw[List.mem_singleton.1 hm];simp
  have hJ2:∀j∈[oid],j≠L/\j∉I1:=λj hj=>by
   rw[List.mem_singleton.1 hj]
   simpa only[List.mem_cons,not_or] using hoI
  have r1:=y0
  have yL:=S.ls.here
  simp only[lwR] at yL
  clear ht1
  have hsl0:0<s.args.length:=List.length_pos_iff.2 hne
  have hq:∃q0 qr,t1.1=q0::qr:=by
   match hx:t1.1,s.args,hne,hlm with
   |q::r,_,_,_=>exact⟨q,r,rfl⟩
   |[],[],h,_=>exact(h rfl).elim
   |[],_::_,_,h=>simp at h
  simp-implicitDefEqProofs[-AV.cells,-AV.isCell,aF,ae,ah,an,al,aE,af,aq,aj,-Lw.name_len,r1]
  refine aG (λo1=>?_) (λo1=>?_)
  ·have o1:s.op=1:=by simpa using o1
   simp-implicitDefEqProofs[-AV.cells,-AV.isCell,aF,ae,ah,an,al,aE,af,aq,aj,-Lw.name_len,r1,yL]
   refine(Cu G Tq okm (by omega) ⟨2,nx,t1.1,0⟩ hA (by simp) hJ hJ2).mono ?_
   rintro x X1 ⟨rfl,K2,I2,T2,e2⟩
   simp-implicitDefEqProofs[-AV.cells,-AV.isCell,aF,ae,ah,an,al,aE,af,aq,aj,-Lw.name_len,aa]
   have vform:=T2.va
   have dl:=(T2.at.2)
   have yL2:=T2.stb.ls.here
   simp only[lwR] at yL2
   have r2:=(e2 h.length (by simp)).trans r1
   have hrgn:rgV (vs++[(s.name,nx)])=scF (-1) (mV m s.name nx::up):=by
    funext t
    rw[tC,hrg,scF,scF,yx,yx,oU]
    by_cases hst:s.name=t
    ·simp[hst]
    ·simp[hst]
   have hwn:IntKind.i64.wrap ((nx:Int)+1)=(nx:Int)+1:=ag (by omega) (by omega)
   have hLX:=T2.stb.ls.lt
   cases vform with
   |nil=>
    have hLs:∀t o,((X1++t).set L o)[L]?=some o:=λt o=>List.getElem?_set_self (by simp;omega)
    have hLm:∀t,(X1++t)[L]?=X1[L]?:=λt=>List.getElem?_append_left hLX
    have hrm:∀t o,((X1++t).set L o)[h.length]?=X1[h.length]?:=λt o=>by
     rw[List.getElem?_set_ne (λe=>(T2.at.1 h.length (by simp)).2 (by rw[e];simp)),List.getElem?_append_left (T2.at.1 h.length (by simp)).1]
    simp-implicitDefEqProofs[-AV.cells,-AV.isCell,aF,ae,ah,an,al,aE,af,aq,aj,-Lw.name_len,r2,yL2,hLm, ↓hLs,hwn,hrm]
    obtain⟨V2,hV2⟩:∃V2,V2=AV.sl X1.length 3 0 1:=⟨_,rfl⟩
    rw[heq,if_pos o1]
    have hX2:∀X2,X2=(X1++[AO.row 3 [[.p (.str s.name),.p (.int .i64 nx),.p (.int .i64 0)]]]).set L (.row 8 [[.p (fdL l0),.p (.int .i64 pr),.p (.int .i64 (t1.2.put ⟨2,nx,t1.1,0⟩).regs),K2,.p (.int .i64 (t1.2.put ⟨2,nx,t1.1,0⟩).pos),.sl X1.length 3 0 1,.p (.int .i64 ((nx:Int)+1)),.nils]])->RS l0 pr L (L::(vi .nils++I)) I [h.length] h (t1.2.put ⟨2,nx,t1.1,0⟩) (nx+1) [(s.name,nx)] X2 K2 (.sl X1.length 3 0 1) I2:=λX2 e=>by
     subst e
     refine(T2.alt (by simp) (by rw[hLs,lwR];simp) (λi hi hn _=>by rw[List.getElem?_set_ne (Ne.symm hn),List.getElem?_append_left hi]) (.sl _ [ny (s.name,nx)] [(s.name,nx)] (by rw[List.getElem?_set_ne (by omega),List.getElem?_append_right (Nat.le_refl _)];simp[ny]) rfl) (λi hi=> .inr (by rw[List.mem_singleton.1 hi];exact Nat.le_refl _))).1
    refine⟨[(s.name,nx)],⟨_,_,_,(hX2 _ (by simp[List.set_set])).few (E2:=[]) (λi hi=>by cases hi)⟩,?_⟩
    simpa using hrgn
   |sl vid rows _ hv1 hv2=>
    have hvX:=(List.getElem?_eq_some_iff.1 hv1).1
    have hvd:=(T2.at.2 vid (by simp[vi])).2
    simp only[List.mem_cons,not_or] at hvd
    have hLs:∀t u o,(((X1++t).set vid .dead++u).set L o)[L]?=some o:=λt u o=>List.getElem?_set_self (by simp;omega)
    have hLm:∀t u,((X1++t).set vid .dead++u)[L]?=X1[L]?:=λt u=>by rw[List.getElem?_append_left (by simp;omega),List.getElem?_set_ne hvd.1,List.getElem?_append_left hLX]
    have hLs0:∀u o,((X1.set vid .dead++u).set L o)[L]?=some o:=λu o=>List.getElem?_set_self (by simp;omega)
    have hLm0:∀u,(X1.set vid .dead++u)[L]?=X1[L]?:=λu=>by rw[List.getElem?_append_left (by simp;omega),List.getElem?_set_ne hvd.1]
    have hvk:vs.length<=rows.length:=by
     have:=congrArg List.length hv2
     rw[List.length_take,List.length_map] at this
     omega
    simp-implicitDefEqProofs[-AV.cells,-AV.isCell,aF,ae,ah,an,al,aE,af,aq,aj,-Lw.name_len,r2,yL2,hv1,hv2, ↓hLs, ↓hLm, ↓hLs0, ↓hLm0,hwn]
    rw[heq,if_pos o1]
    have hX2:∀X2,X2=(X1.set vid .dead++[AO.row 3 (vs.map ny++[[.p (.str s.name),.p (.int .i64 nx),.p (.int .i64 0)]])]).set L (.row 8 [[.p (fdL l0),.p (.int .i64 pr),.p (.int .i64 (t1.2.put ⟨2,nx,t1.1,0⟩).regs),K2,.p (.int .i64 (t1.2.put ⟨2,nx,t1.1,0⟩).pos),.sl X1.length 3 0 (vs.length+1),.p (.int .i64 ((nx:Int)+1)),.nils]])->RS l0 pr L (L::(vi (.sl vid 3 0 vs.length)++I)) I [h.length] h (t1.2.put ⟨2,nx,t1.1,0⟩) (nx+1) (vs++[(s.name,nx)]) X2 K2 (.sl X1.length 3 0 (vs.length+1)) I2:=λX2 e=>by
     subst e
     have hlv:(vs++[(s.name,nx)]).length=vs.length+1:=by simp
     refine(T2.alt (by simp) (by rw[hLs0,lwR];simp) (λi hi hn hv=>by
      rw[List.getElem?_set_ne (Ne.symm hn),List.getElem?_append_left (by simpa using hi),List.getElem?_set_ne (λe=>hv (by rw[←e];simp[vi]))]) (hlv▸ .sl _ (vs.map ny++[ny (s.name,nx)]) (vs++[(s.name,nx)]) (by rw[List.getElem?_set_ne (by omega),List.getElem?_append_right (by simp)];simp[ny]) (by rw[List.take_of_length_le (by simp)];simp)) (λi hi=> .inr (by rw[List.mem_singleton.1 hi];exact Nat.le_refl _))).1
    refine⟨⟨by omega,by omega⟩,vs++[(s.name,nx)],⟨_,_,_,(hX2 _ (by simp[List.set_set])).few (E2:=[]) (λi hi=>by cases hi)⟩,?_⟩
    simpa using hrgn
  have o1:¬s.op=1:=by simpa using o1
  simp-implicitDefEqProofs[-AV.cells,-AV.isCell,aF,ae,ah,an,al,aE,af,aq,aj,-Lw.name_len,r1]
  refine aG (λo2=>?_) (λo2=>?_)
  ·have o2:s.op=2:=by simpa using o2
   simp-implicitDefEqProofs[-AV.cells,-AV.isCell,aF,ae,ah,an,al,aE,af,aq,aj,-Lw.name_len,r1,yL]
   refine(FJ G S.ls.here yV (by omega) s.name).mono ?_
   rintro x X' ⟨rfl,rfl⟩
   simp-implicitDefEqProofs[-AV.cells,-AV.isCell,aF,ae,ah,an,al,aE,af,aq,aj,-Lw.name_len,aa,r1]
   refine(Cu G Tq okm (by omega) ⟨2,rgV vs s.name,t1.1,0⟩ hA (by simp) hJ hJ2).mono ?_
   rintro x X1 ⟨rfl,K2,I2,T2,e2⟩
   simp-implicitDefEqProofs[-AV.cells,-AV.isCell,aF,ae,ah,an,al,aE,af,aq,aj,-Lw.name_len,aa]
   rw[hrg] at T2
   rw[heq,if_neg o1,if_pos o2]
   exact⟨vs,⟨_,_,_,T2.few (λi hi=>by cases hi)⟩,by rw[List.take_length],Nat.le_refl _,by omega,hrg⟩
  have o2:¬s.op=2:=by simpa using o2
  simp-implicitDefEqProofs[-AV.cells,-AV.isCell,aF,ae,ah,an,al,aE,af,aq,aj,-Lw.name_len,r1]
  refine aG (λo3=>?_) (λo3=>?_)
  ·have o3:s.op=3:=by simpa using o3
   simp-implicitDefEqProofs[-AV.cells,-AV.isCell,aF,ae,ah,an,al,aE,af,aq,aj,-Lw.name_len,r1,yL]
   refine(Cu G Tq okm (by omega) ⟨13,-1,t1.1,0⟩ hA (by simp) hJ hJ2).mono ?_
   rintro x X1 ⟨rfl,K2,I2,T2,e2⟩
   simp-implicitDefEqProofs[-AV.cells,-AV.isCell,aF,ae,ah,an,al,aE,af,aq,aj,-Lw.name_len,aa]
   rw[heq,if_neg o1,if_neg o2,if_pos o3]
   exact⟨vs,⟨_,_,_,T2.few (λi hi=>by cases hi)⟩,by rw[List.take_length],Nat.le_refl _,by omega,hrg⟩
  have o3:¬s.op=3:=by simpa using o3
  simp-implicitDefEqProofs[-AV.cells,-AV.isCell,aF,ae,ah,an,al,aE,af,aq,aj,-Lw.name_len,r1]
  refine aG (λo4=>?_) (λo4=>?_)
  ·have o4:s.op=4:=by simpa using o4
   simp-implicitDefEqProofs[-AV.cells,-AV.isCell,aF,ae,ah,an,al,aE,af,aq,aj,-Lw.name_len,r1,yL]
   refine(Cu G Tq okm (by omega) ⟨12,-1,t1.1,0⟩ hA (by simp) hJ hJ2).mono ?_
   rintro x X1 ⟨rfl,K2,I2,T2,e2⟩
   simp-implicitDefEqProofs[-AV.cells,-AV.isCell,aF,ae,ah,an,al,aE,af,aq,aj,-Lw.name_len,aa]
   rw[heq,if_neg o1,if_neg o2,if_neg o3,if_pos o4]
   exact⟨vs,⟨_,_,_,T2.few (λi hi=>by cases hi)⟩,by rw[List.take_length],Nat.le_refl _,by omega,hrg⟩
  have o4:¬s.op=4:=by simpa using o4
  simp-implicitDefEqProofs[-AV.cells,-AV.isCell,aF,ae,ah,an,al,aE,af,aq,aj,-Lw.name_len,r1]
  refine aG (λo7=>?_) (λo7=>?_)
  ·have o7:s.op=7:=by simpa using o7
   obtain⟨q0,qr,hq⟩:=hq
   obtain⟨t,ht⟩:∃t,t=t1.2.bs.length:=⟨_,rfl⟩
   have htb:t<=B+8*aR s.args:=by rw[ht];exact okm.bs
   have ho1:X[oid]?=some (.row 1 ([.p (.int .i64 q0)]::qr.map λn=>[AV.p (.int .i64 n)])):=by rw[hx,rn,hq];rfl
   have hhd:t1.1.headD 0=q0:=by rw[hq];rfl
   simp-implicitDefEqProofs[-AV.cells,-AV.isCell,aF,ae,ah,an,al,aE,af,aq,aj,-Lw.name_len,r1,ho1,hsl0]
   refine(jN G To okm (by omega)).mono ?_
   rintro x X2 ⟨rfl,K2,I2,T2,e2⟩
   have o2':=(e2 oid (by simp)).trans ho1
   have r2:=(e2 h.length (by simp)).trans r1
   have ok2:=okm.name 1
   simp-implicitDefEqProofs[-AV.cells,-AV.isCell,aF,ae,ah,an,al,aE,af,aq,aj,-Lw.name_len,aa,←ht,o2',hsl0,r2]
   refine(IS G T2 ok2 3 q0 t rfl).mono ?_
   rintro x X3 ⟨rfl,K3,I3,T3,e3⟩
   simp-implicitDefEqProofs[-AV.cells,-AV.isCell,aF,ae,ah,an,al,aE,af,aq,aj,-Lw.name_len,aa]
   rw[heq,if_neg o1,if_neg o2,if_neg o3,if_neg o4,if_neg (by omega),if_pos o7,hhd,←ht]
   exact⟨vs,⟨_,_,_,T3.few (λi hi=>by cases hi)⟩,by rw[List.take_length],Nat.le_refl _,by omega,hrg⟩
  have o7:¬s.op=7:=by simpa using o7
  simp-implicitDefEqProofs[-AV.cells,-AV.isCell,aF,ae,ah,an,al,aE,af,aq,aj,-Lw.name_len,r1]
  refine aG (λo5=>?_) (λo5=>?_)
  ·have o5:s.op=5:=by simpa using o5
   obtain⟨q0,qr,hq⟩:=hq
   obtain⟨t,ht⟩:∃t,t=t1.2.bs.length:=⟨_,rfl⟩
   have htb:t<=B+8*aR s.args:=by rw[ht];exact okm.bs
   have ho1:X[oid]?=some (.row 1 ([.p (.int .i64 q0)]::qr.map λn=>[AV.p (.int .i64 n)])):=by rw[hx,rn,hq];rfl
   have hhd:t1.1.headD 0=q0:=by rw[hq];rfl
   simp-implicitDefEqProofs[-AV.cells,-AV.isCell,aF,ae,ah,an,al,aE,af,aq,aj,-Lw.name_len,r1]
   refine(jN G To okm (by omega)).mono ?_
   rintro x X2 ⟨rfl,K2,I2,T2,e2⟩
   have r2:=(e2 h.length (by simp)).trans r1
   have ok2:=okm.name 1
   have hl2:(t1.2.name 1).bs.length=t+1:=by rw[Lw.name_len,ht]
   simp-implicitDefEqProofs[-AV.cells,-AV.isCell,aF,ae,ah,an,al,aE,af,aq,aj,-Lw.name_len,aa,←ht,r2]
   refine(jN G T2 ok2 (by omega)).mono ?_
   rintro x X3 ⟨rfl,K3,I3,T3,e3⟩
   have r3:=(e3 h.length (by simp)).trans r2
   have ok3:=ok2.name 1
   have hl3:((t1.2.name 1).name 1).bs.length=t+2:=by rw[Lw.name_len,hl2]
   simp-implicitDefEqProofs[-AV.cells,-AV.isCell,aF,ae,ah,an,al,aE,af,aq,aj,-Lw.name_len,aa,hl2,r3]
   refine(jN G T3 ok3 (by omega)).mono ?_
   rintro x X4 ⟨rfl,K4,I4,T4,e4⟩
   have r4:=(e4 h.length (by simp)).trans r3
   have ok4:(t1.2.name 3).Ok _:=okm.name 3
   have hn4:((t1.2.name 1).name 1).name 1=t1.2.name 3:=by rw[Lw.name_name,Lw.name_name]
   rw[hn4] at T4
   have o4':=(e4 oid (by simp)).trans ((e3 oid (by simp)).trans ((e2 oid (by simp)).trans ho1))
   simp-implicitDefEqProofs[-AV.cells,-AV.isCell,aF,ae,ah,an,al,aE,af,aq,aj,-Lw.name_len,aa,hl3,r4,o4',hsl0]
   refine(CH G T4 ok4 2 q0 t ((t:Int)+1) t rfl).mono ?_
   rintro x X5 ⟨rfl,K5,I5,T5,e5⟩
   have r5:=(e5 h.length (by simp)).trans r4
   have ok5:=ok4.fin 2 q0 (g:=t) (by rw[Lw.name_len,ht];omega) [(t:Int),(t:Int)+1]
   simp-implicitDefEqProofs[-AV.cells,-AV.isCell,aF,ae,ah,an,al,aE,af,aq,aj,-Lw.name_len,aa,r5]
   have h6:=rL G hb T5 (m:=[]) (up:=m::up) ok5 (by omega) (by omega) (by omega) (by rw[hrg];rfl)
   have okb:=ee (faI l0) (-1) s.body [] (m::up) nx _ _ ok5
   obtain⟨y6,hy6⟩:∃y,y=aV (faI l0) (-1) s.body [] (m::up) nx ((t1.2.name 3).fin 2 q0 t [(t:Int),(t:Int)+1]):=⟨_,rfl⟩
   rw[←hy6] at h6 okb
   refine h6.mono ?_
   rintro x X6 ⟨rfl,K6,V6,I6,T6,e6⟩
   obtain⟨ok6,len6,nx6,nxx6⟩:=okb
   simp only[Lw.fin_len,Lw.name_len,←ht] at len6
   have r6:=(e6 h.length (by simp)).trans r5
   simp-implicitDefEqProofs[-AV.cells,-AV.isCell,aF,ae,ah,an,al,aE,af,aq,aj,-Lw.name_len,aa,r6]
   refine(rP G T6 ok6 1 0 ((t:Int)+2) (t+1) (by omega)).mono ?_
   rintro x X7 ⟨rfl,K7,I7,T7,e7⟩
   have r7:=(e7 h.length (by simp)).trans r6
   have ok7:=ok6.fin 1 0 (g:=t+1) (by omega) [(t:Int)+2]
   simp-implicitDefEqProofs[-AV.cells,-AV.isCell,aF,ae,ah,an,al,aE,af,aq,aj,-Lw.name_len,aa,r7]
   have h8:=rL G he T7 (m:=[]) (up:=m::up) ok7 (by omega) (by omega) (by omega) (by rw[hrg];rfl)
   have okb:=ee (faI l0) (-1) s.els [] (m::up) y6.2.1 _ _ ok7
   obtain⟨y8,hy8⟩:∃y,y=aV (faI l0) (-1) s.els [] (m::up) y6.2.1 (y6.2.2.fin 1 0 (t+1) [(t:Int)+2]):=⟨_,rfl⟩
   rw[←hy8] at h8 okb
   refine h8.mono ?_
   rintro x X8 ⟨rfl,K8,V8,I8,T8,e8⟩
   obtain⟨ok8,len8,nx8,nxx8⟩:=okb
   simp only[Lw.fin_len] at len8
   have r8:=(e8 h.length (by simp)).trans r7
   simp-implicitDefEqProofs[-AV.cells,-AV.isCell,aF,ae,ah,an,al,aE,af,aq,aj,-Lw.name_len,aa,r8]
   refine(rP G T8 ok8 1 0 ((t:Int)+2) (t+2) (by omega)).mono ?_
   rintro x X9 ⟨rfl,K9,I9,T9,e9⟩
   simp-implicitDefEqProofs[-AV.cells,-AV.isCell,aF,ae,ah,an,al,aE,af,aq,aj,-Lw.name_len,aa]
   have hE5:lwS (faI l0) (-1) s m up nx w=(m,y8.2.1,y8.2.2.fin 1 0 (t+2) [(t:Int)+2]):=by
    rw[heq,if_neg o1,if_neg o2,if_neg o3,if_neg o4,if_pos o5]
    simp only[hhd,←ht]
    rw[←hy6,←hy8]
   rw[hE5]
   exact⟨vs,⟨_,_,_,T9.few (λi hi=>by cases hi)⟩,by rw[List.take_length],Nat.le_refl _,by omega,hrg⟩
  have o5:¬s.op=5:=by simpa using o5
  simp-implicitDefEqProofs[-AV.cells,-AV.isCell,aF,ae,ah,an,al,aE,af,aq,aj,-Lw.name_len,r1]
  rw[heq,if_neg o1,if_neg o2,if_neg o3,if_neg o4,if_neg o5,if_neg o7]
  exact⟨vs,⟨_,_,_,Tq.few (λi hi=>by cases hi)⟩,by rw[List.take_length],Nat.le_refl _,by omega,hrg⟩
structure SlS where (i:Nat) (X:List AO)
theorem sf(l0:List Fd)(pr:Int)(L:Nat)(b:List Sm)(hs:∀s∈b,StR G l0 pr L s):Eh G l0 pr L b:=by
 intro w h K V I B vs nx m up T hok hB hnx hvl hrg
 have hsl:∀l,smL l= .lst 5 (l.map Sm.cs):=λ_=>rfl
 have hll:=eF b
 have yL0:=T.stb.ls.here
 simp only[lwR] at yL0
 refine AC.go nE ?_
 rcases T.va.form with⟨hVe,hve⟩|⟨vid0,hVe⟩
 ·have hv00:vs.length=0:=by rw[hve];rfl
  rw[hVe] at yL0
  simp-implicitDefEqProofs[dP,yL0,hsl]
  refine aH (λa:SlS=>aB 32 [(5,.p (.int .i64 a.i)),(4,.p (.int .i64 0)),(0,.ptr L 8 0 0),(1,.p (smL b))]) (λa=>a.X)
   (λa=>a.i<=b.length/\∃vs1 K1 V1 I1,RS l0 pr L (L::(vi V++I)) I [] h (aV (faI l0) (-1) (b.take a.i) m up nx w).2.2 (aV (faI l0) (-1) (b.take a.i) m up nx w).2.1 vs1 a.X K1 V1 I1/\vs1.take vs.length=vs/\vs.length<=vs1.length/\vs1.length<=vs.length+a.i/\rgV vs1=scF (-1) ((aV (faI l0) (-1) (b.take a.i) m up nx w).1::up)) (λa=>b.length-a.i) ⟨0,h⟩ ⟨Nat.zero_le _,vs,K,V,I,by rw[List.take_zero,aV];exact T,by rw[List.take_length],Nat.le_refl _,by simp,by rw[List.take_zero,aV];exact hrg⟩ ?_ ?_
  ·exact ab (Nat.le_refl _) (by simp[below,hsl,T.stb.ls.lt])
  rintro⟨i,X⟩ ⟨hi,vs1,K1,V1,I1,T1,p1,p2,p3,p4⟩
  simp only at hi T1 p3 p4
  have hXL:=T1.stb.ls.lt
  simp-implicitDefEqProofs[hsl]
  refine aG (λhc=>?_) (λhc=>?_)
  ·simp at hc
   have hg:=List.getElem?_eq_getElem hc
   have hm:=List.getElem_mem hc
   have htk:=uV (fa:=faI l0) (d:= -1) hc m up nx w
   have hok1:=ee (faI l0) (-1) (b.take i) m up nx w B hok
   have hzt:aN (b.take i)+b[i].sz<=aN b:=by
    have h1:=List.take_append_drop (i+1) b
    have h2:aN b=aN (b.take (i+1))+aN (b.drop (i+1)):=by
     conv=>lhs;rw[←h1]
     rw[cu]
    rw[az hc,cu] at h2
    simp only[aN] at h2
    omega
   have htl:i<=aN (b.take i):=by
    have:=eF (b.take i)
    rw[List.length_take] at this
    omega
   have hst:=hs b[i] hm
   generalize b[i]=s at hg hm htk hzt hst
   have hsc:=s.cs_eq
   generalize aV (faI l0) (-1) (b.take i) m up nx w=cur at*
   obtain⟨mc,nc,wc⟩:=cur
   simp only at htk hok1 T1 p4
   obtain⟨okc,_,_,hnc⟩:=hok1
   have hcall:=hst wc X K1 V1 I1 _ vs1 nc mc up T1.start okc (by omega) (by omega) (by omega) p4
   rw[hsc] at hcall
   simp-implicitDefEqProofs[hg,hsc]
   refine hcall.mono ?_
   rintro r X2 ⟨rfl,vs2,K2,V2,I2,T2,q1,q2,q3,q4⟩
   obtain⟨T3,_⟩:=T1.lift T2
   simp-implicitDefEqProofs[aa]
   refine⟨⟨i+1,X2⟩,⟨by simp only;omega,vs2,⟨K2,V2,I2,by rw[htk];exact T3⟩,?_,by omega,by simp only;omega,by rw[htk];exact q4⟩,by simp only;omega,ab (Nat.le_trans T1.stb.fr.1 T2.stb.fr.1) ?_⟩
   ·rw[←q1,List.take_take,Nat.min_eq_left p2] at p1
    exact p1
   ·simp[below,hsl,show IntKind.i64.wrap ((i:Int)+1)=(i:Int)+1 from ag (by omega) (by omega)]
    exact T3.stb.ls.lt
  ·simp at hc
   have hie:i=b.length:=by omega
   subst hie
   rw[List.take_length] at T1
   have yL:=T1.stb.ls.here
   simp only[lwR] at yL
   have fin:∀V2,VAt (X.set L (lwR l0 pr V2 (aV (faI l0) (-1) b m up nx w).2.1 (aV (faI l0) (-1) b m up nx w).2.2 K1)) V2 vs->(∀i∈vi V2,i∈vi V1)->RS l0 pr L (L::(vi V++I)) I [] h (aV (faI l0) (-1) b m up nx w).2.2 (aV (faI l0) (-1) b m up nx w).2.1 vs (X.set L (lwR l0 pr V2 (aV (faI l0) (-1) b m up nx w).2.1 (aV (faI l0) (-1) b m up nx w).2.2 K1)) K1 V2 I1:=λV2 hv2 hs2=>(T1.alt (by simp) (List.getElem?_set_self T1.stb.ls.lt) (λi hi hn _=>List.getElem?_set_ne (Ne.symm hn)) hv2 (λi hi=> .inl (hs2 i hi))).1
   have va:=T1.va
   have vd:=T1.at.2
   cases va with
   |nil=>
    have hv0:vs=[]:=List.length_eq_zero_iff.1 (by simpa using p2)
    have hv1:vs.length=0:=by rw[hv0];rfl
    simp-implicitDefEqProofs[yL,hv1]
    exact⟨K1,.nils,I1,by have:=fin .nils (by rw[hv0];exact .nil) (λi hi=>hi);simpa only[lwR] using this⟩
   |sl vid rows _ h1 h2=>
    have hvl2:vs1.length<=rows.length:=by
     have:=congrArg List.length h2
     rw[List.length_take,List.length_map] at this
     omega
    have hne:vid≠L:=λe=>(vd vid (by simp[vi])).2 (by rw[e];simp)
    simp-implicitDefEqProofs[yL,h1,p2]
    refine⟨K1,.sl vid 3 0 0,I1,?_⟩
    have:=fin (.sl vid 3 0 vs.length) (.sl vid rows vs (by rw[List.getElem?_set_ne (Ne.symm hne)];exact h1) (by
     have e:=congrArg (List.take vs.length) h2
     rw[List.take_take,Nat.min_eq_left p2,←List.map_take,p1] at e
     exact e)) (λi hi=>by simpa[vi] using hi)
    rw[hv00] at this
    simpa only[lwR] using this
 ·rw[hVe] at yL0
  simp-implicitDefEqProofs[dP,yL0,hsl]
  refine aH (λa:SlS=>aB 32 [(5,.p (.int .i64 a.i)),(4,.p (.int .i64 vs.length)),(0,.ptr L 8 0 0),(1,.p (smL b))]) (λa=>a.X)
   (λa=>a.i<=b.length/\∃vs1 K1 V1 I1,RS l0 pr L (L::(vi V++I)) I [] h (aV (faI l0) (-1) (b.take a.i) m up nx w).2.2 (aV (faI l0) (-1) (b.take a.i) m up nx w).2.1 vs1 a.X K1 V1 I1/\vs1.take vs.length=vs/\vs.length<=vs1.length/\vs1.length<=vs.length+a.i/\rgV vs1=scF (-1) ((aV (faI l0) (-1) (b.take a.i) m up nx w).1::up)) (λa=>b.length-a.i) ⟨0,h⟩ ⟨Nat.zero_le _,vs,K,V,I,by rw[List.take_zero,aV];exact T,by rw[List.take_length],Nat.le_refl _,by simp,by rw[List.take_zero,aV];exact hrg⟩ ?_ ?_
  ·exact ab (Nat.le_refl _) (by simp[below,hsl,T.stb.ls.lt])
  rintro⟨i,X⟩ ⟨hi,vs1,K1,V1,I1,T1,p1,p2,p3,p4⟩
  simp only at hi T1 p3 p4
  have hXL:=T1.stb.ls.lt
  simp-implicitDefEqProofs[hsl]
  refine aG (λhc=>?_) (λhc=>?_)
  ·simp at hc
   have hg:=List.getElem?_eq_getElem hc
   have hm:=List.getElem_mem hc
   have htk:=uV (fa:=faI l0) (d:= -1) hc m up nx w
   have hok1:=ee (faI l0) (-1) (b.take i) m up nx w B hok
   have hzt:aN (b.take i)+b[i].sz<=aN b:=by
    have h1:=List.take_append_drop (i+1) b
    have h2:aN b=aN (b.take (i+1))+aN (b.drop (i+1)):=by
     conv=>lhs;rw[←h1]
     rw[cu]
    rw[az hc,cu] at h2
    simp only[aN] at h2
    omega
   have htl:i<=aN (b.take i):=by
    have:=eF (b.take i)
    rw[List.length_take] at this
    omega
   have hst:=hs b[i] hm
   generalize b[i]=s at hg hm htk hzt hst
   have hsc:=s.cs_eq
   generalize aV (faI l0) (-1) (b.take i) m up nx w=cur at*
   obtain⟨mc,nc,wc⟩:=cur
   simp only at htk hok1 T1 p4
   obtain⟨okc,_,_,hnc⟩:=hok1
   have hcall:=hst wc X K1 V1 I1 _ vs1 nc mc up T1.start okc (by omega) (by omega) (by omega) p4
   rw[hsc] at hcall
   simp-implicitDefEqProofs[hg,hsc]
   refine hcall.mono ?_
   rintro r X2 ⟨rfl,vs2,K2,V2,I2,T2,q1,q2,q3,q4⟩
   obtain⟨T3,_⟩:=T1.lift T2
   simp-implicitDefEqProofs[aa]
   refine⟨⟨i+1,X2⟩,⟨by simp only;omega,vs2,⟨K2,V2,I2,by rw[htk];exact T3⟩,?_,by omega,by simp only;omega,by rw[htk];exact q4⟩,by simp only;omega,ab (Nat.le_trans T1.stb.fr.1 T2.stb.fr.1) ?_⟩
   ·rw[←q1,List.take_take,Nat.min_eq_left p2] at p1
    exact p1
   ·simp[below,hsl,show IntKind.i64.wrap ((i:Int)+1)=(i:Int)+1 from ag (by omega) (by omega)]
    exact T3.stb.ls.lt
  ·simp at hc
   have hie:i=b.length:=by omega
   subst hie
   rw[List.take_length] at T1
   have yL:=T1.stb.ls.here
   simp only[lwR] at yL
   have fin:∀V2,VAt (X.set L (lwR l0 pr V2 (aV (faI l0) (-1) b m up nx w).2.1 (aV (faI l0) (-1) b m up nx w).2.2 K1)) V2 vs->(∀i∈vi V2,i∈vi V1)->RS l0 pr L (L::(vi V++I)) I [] h (aV (faI l0) (-1) b m up nx w).2.2 (aV (faI l0) (-1) b m up nx w).2.1 vs (X.set L (lwR l0 pr V2 (aV (faI l0) (-1) b m up nx w).2.1 (aV (faI l0) (-1) b m up nx w).2.2 K1)) K1 V2 I1:=λV2 hv2 hs2=>(T1.alt (by simp) (List.getElem?_set_self T1.stb.ls.lt) (λi hi hn _=>List.getElem?_set_ne (Ne.symm hn)) hv2 (λi hi=> .inl (hs2 i hi))).1
   have va:=T1.va
   have vd:=T1.at.2
   cases va with
   |nil=>
    have hv0:vs=[]:=List.length_eq_zero_iff.1 (by simpa using p2)
    have hv1:vs.length=0:=by rw[hv0];rfl
    simp-implicitDefEqProofs[yL,hv1]
    exact⟨K1,.nils,I1,by have:=fin .nils (by rw[hv0];exact .nil) (λi hi=>hi);simpa only[lwR] using this⟩
   |sl vid rows _ h1 h2=>
    have hvl2:vs1.length<=rows.length:=by
     have:=congrArg List.length h2
     rw[List.length_take,List.length_map] at this
     omega
    have hne:vid≠L:=λe=>(vd vid (by simp[vi])).2 (by rw[e];simp)
    simp-implicitDefEqProofs[yL,h1,p2]
    refine⟨K1,.sl vid 3 0 vs.length,I1,?_⟩
    have:=fin (.sl vid 3 0 vs.length) (.sl vid rows vs (by rw[List.getElem?_set_ne (Ne.symm hne)];exact h1) (by
     have e:=congrArg (List.take vs.length) h2
     rw[List.take_take,Nat.min_eq_left p2,←List.map_take,p1] at e
     exact e)) (λi hi=>by simpa[vi] using hi)
    simpa only[lwR] using this
theorem Fe(l0:List Fd)(hl0:l0.length<=1073741824)(pr:Int)(L:Nat):∀(d:Nat) (b:List Sm),(∀s∈b,aQ d s=true)->Eh G l0 pr L b:=by
 intro d
 induction d with
 |zero=>
  intro b hb
  refine sf G l0 pr L b λs hs=>?_
  have:=hb s hs
  cases this
 |succ d ih=>
  intro b hb
  refine sf G l0 pr L b λs hs=>?_
  have hf:=hb s hs
  exact Hz G l0 hl0 pr L s (KP hf) (Ez hf) (ih s.body (EN hf)) (ih s.els (Ih hf))
end
section
theorem Bb(nf:Bool)(id n:Nat):(vaC nf id n).isCell=true:=by cases nf<;>rfl
theorem DI(nf:Bool)(id n:Nat):(vaC nf id n).cells=[vaC nf id n]:=by cases nf<;>rfl
attribute [simp ↓] Bb DI
variable (G:ay)
end
section
def w0(fns:List Fd)(k:Nat)(f:Fd):WS:=⟨[],0,if uz fns f.name=some k then 0 else 2⟩
variable (G:ay)
end
section
def AX(b0:AO)(fns:List Fd)(k:Nat)(up:List GS)(gap:List AO)(c:Int):List AO:=b0::cO fns k c::(scH up++gap)
variable (G:ay)
end
section
abbrev BL:Nat:=9223372036854775807
theorem Fd.cs_eq'(f:Fd):f.cs=[.str f.name,bJ f.params,smL f.body]:=rfl
variable (G:ay)
end
section
theorem CX:∀(a b:List (List UInt8)) (m:Scp) (i:Nat),psS (a++b) m i=psS b (psS a m i) (i+a.length)
 |[],b,m,i=>by simp[psS]
 |p::r,b,m,i=>by rw[List.cons_append,psS,psS,CX r];simp;congr 1;omega
theorem FO{l:List (List UInt8)}{i:Nat}(h:i<l.length)(m:Scp):psS (l.take (i+1)) m 0=mV (psS (l.take i) m 0) l[i] i:=by
 rw[az h,CX,psS,psS,List.length_take,Nat.min_eq_left (by omega),Nat.zero_add]
variable (G:ay)
end
section
def rj(l:List Cd):List (List AV):=l.map λc=>c.cs.map .p
theorem Cd.cs_eq'(c:Cd):c.cs=[.int .i64 c.params,.int .i64 c.regs,bkL c.blocks]:=rfl
variable (G:ay)
end
section
variable (G:ay)
theorem uN(b:Bool):VF Tryz.prog G gA [.p (.bool b)] (.p (.int .i64 (if b then 1 else 0))):=by
 refine AC.go tZ ?_
 cases b<;>simp-implicitDefEqProofs[lm]
end
section
theorem pz:∀a b:List Sm,bf (a++b)=bf a+bf b
 |[],b=>by simp[bf]
 |s::r,b=>by rw[List.cons_append,bf,bf,pz r b,Nat.add_assoc]
theorem Bv{l:List Sm}{i:Nat}(h:i<l.length):bf (l.take (i+1))=bf (l.take i)+Ea l[i]:=by rw[az h,pz,bf,bf];rfl
theorem zD(l:List Sm)(i:Nat):bf (l.take i)<=bf l:=by
 have:=pz (l.take i) (l.drop i)
 rw[List.take_append_drop] at this
 omega
variable (G:ay)
theorem Fh:∀(k:Nat) (l:List Sm),aN l<=k->k<=1099511627776->VF Tryz.prog G dw [.p (smL l)] (.p (.int .i64 (bf l))):=by
 intro k
 induction k with
 |zero=>
  intro l hl _
  have:l=[]:=by
   cases l with
   |nil=>rfl
   |cons s r=>have:=s.sz_eq;simp only[aN] at hl;omega
  subst this
  refine AC.go mo ?_
  have hsl:smL []= .lst 5 []:=rfl
  simp-implicitDefEqProofs[jd,hsl]
  refine aH (λ_:Unit=>aB 35 [(0,.p (.lst 5 [])),(3,.p (.int .i64 0)),(4,.p (.int .i64 0))]) (λ_=>[]) (λ_=>True) (λ_=>0) () trivial (bt rfl (by simp[below])) ?_
  intro _ _
  simp-implicitDefEqProofs[bf]
 |succ k ih=>
  intro l hl hk
  have hll:=eF l
  have hnz:=Nat.le_trans (jB l) (iu l)
  refine AC.go mo ?_
  have hsl:∀l,smL l= .lst 5 (l.map Sm.cs):=λ_=>rfl
  simp-implicitDefEqProofs[jd,hsl]
  refine aH (λi:Nat=>aB 35 [(0,.p (smL l)),(3,.p (.int .i64 (bf (l.take i)))),(4,.p (.int .i64 i))]) (λ_=>[]) (λi=>i<=l.length) (λi=>l.length-i) 0 (by simp) (bt rfl (by simp[below,hsl,bf])) ?_
  intro i hi
  have k2:=zD l i
  simp-implicitDefEqProofs[hsl]
  refine aG (λh=>?_) (λh=>?_)
  ·simp at h
   have hg:=List.getElem?_eq_getElem h
   have hks:=nO (List.getElem_mem h)
   have hse:=l[i].sz_eq
   have hce:=l[i].cs_eq
   have k1:=Bv h
   have k4:=zD l (i+1)
   have k5:=HO l[i]
   have hb:=ih l[i].body (by omega) (by omega)
   have he:=ih l[i].els (by omega) (by omega)
   generalize l[i]=s at*
   generalize bf (l.take i)=n at*
   obtain⟨n2,hn2⟩:∃n2,n2=bf (l.take (i+1)):=⟨_,rfl⟩
   rw[←hn2] at k1 k4
   by_cases ho:s.op=1
   ·rw[if_pos ho] at k5
    simp-implicitDefEqProofs[hg,hce,ho]
    refine(uN G true).use ?_
    have w0':IntKind.i64.wrap ((n:Int)+1)=(n:Int)+1:=ag (by omega) (by omega)
    simp-implicitDefEqProofs[hg,hce,w0']
    refine hb.use ?_
    have w1':IntKind.i64.wrap ((n:Int)+1+(bf s.body:Int))=(n:Int)+1+(bf s.body:Int):=ag (by omega) (by omega)
    simp-implicitDefEqProofs[hg,hce,w1']
    refine he.use ?_
    have w2':IntKind.i64.wrap ((n:Int)+1+(bf s.body:Int)+(bf s.els:Int))=(n2:Int):=by rw[ag (by omega) (by omega)];omega
    simp-implicitDefEqProofs[w2']
    exact⟨i+1,h,by omega,bt rfl (by simp[below,hsl,←hn2,w1 (i:=i) (by omega)])⟩
   ·rw[if_neg ho] at k5
    simp-implicitDefEqProofs[hg,hce,ho]
    refine(uN G false).use ?_
    have w0':IntKind.i64.wrap (n:Int)=(n:Int):=ag (by omega) (by omega)
    simp-implicitDefEqProofs[hg,hce,w0']
    refine hb.use ?_
    have w1':IntKind.i64.wrap ((n:Int)+(bf s.body:Int))=(n:Int)+(bf s.body:Int):=ag (by omega) (by omega)
    simp-implicitDefEqProofs[hg,hce,w1']
    refine he.use ?_
    have w2':IntKind.i64.wrap ((n:Int)+(bf s.body:Int)+(bf s.els:Int))=(n2:Int):=by rw[ag (by omega) (by omega)];omega
    simp-implicitDefEqProofs[w2']
    exact⟨i+1,h,by omega,bt rfl (by simp[below,hsl,←hn2,w1 (i:=i) (by omega)])⟩
  ·simp at h
   rw[List.take_of_length_le h]
   simp-implicitDefEqProofs[]
section
variable {l:List Fd} {pr:Int} {L:Nat} {S I0 E:List Nat} {h:List AO} {w:Lw} {nx:Nat} {vs:Vs} {X:List AO} {K V:AV} {I:List Nat}
theorem Iu(T:RS l pr L S I0 E h w nx vs X K V I)(hw:w.regs<=1073741824):
 AC Tryz.prog G br [.ptr L 8 0 0] X λx h'=>x= .ret (.p (.int .i64 w.regs))/\∃K' I',RS l pr L S I0 E h w.reg nx vs h' K' V I'/\∀i∈E,h'[i]?=X[i]?:=
 (jq G T.stb.ls hw).mono λx h' ⟨a,b⟩=>⟨a,T.step (J:=[]) (λj hj=>by cases hj) (by rw[List.append_nil];exact b)⟩
theorem Kd(T:RS l pr L S I0 E h w nx vs X K V I){B:Nat}(hok:w.Ok B)(hB:B<=1073741824)(op to n:Int):
 AC Tryz.prog G bM [.ptr L 8 0 0,.p (.int .i64 op),.p (.int .i64 to),.p (.int .i64 n),.sl X.length 1 0 0] (X++[.row 1 []]) λr h'=>r= .ret (.p (.int .i64 to))/\∃K' I',RS l pr L S I0 E h (w.put ⟨op,to,[],n⟩) nx vs h' K' V I'/\∀i∈E,h'[i]?=X[i]?:=by
 obtain⟨f1,f2⟩:=T.fresh
 refine(nt G (T.stb.ls.more [.row 1 []]) hok hB ⟨op,to,[],n⟩ (fV X ([]:List Int) rfl) (by simp) f2).mono λr h' ⟨e,b⟩=>⟨e,?_⟩
 obtain⟨K2,I2,a1,a2⟩:=(T.more [_]).step f1 b
 exact⟨K2,I2,a1,λi hi=>(a2 i hi).trans (List.getElem?_append_left (T.at.1 i hi).1)⟩
theorem Iy(T:RS l pr L S I0 E h w nx vs X K V I){B:Nat}(hok:w.Ok B)(j o:Int)(g:Nat){gI:Int}(hg:gI=(g:Int)):
 AC Tryz.prog G bk [.ptr L 8 0 0,.p (.int .i64 j),.p (.int .i64 o),.sl X.length 1 0 0,.p (.int .i64 gI)] (X++[.row 1 []]) λr h'=>r= .ret (.tup [])/\∃K' I',RS l pr L S I0 E h (w.fin j o g []) nx vs h' K' V I'/\∀i∈E,h'[i]?=X[i]?:=by
 obtain⟨f1,f2⟩:=T.fresh
 rw[hg]
 refine(lM G (T.stb.ls.more [.row 1 []]) hok j o g [] (fV X ([]:List Int) rfl) (by simp) f2).mono λr h' ⟨e,b⟩=>⟨e,?_⟩
 obtain⟨K2,I2,a1,a2⟩:=(T.more [_]).step f1 b
 exact⟨K2,I2,a1,λi hi=>(a2 i hi).trans (List.getElem?_append_left (T.at.1 i hi).1)⟩
theorem Dr{n:Nat}(hg:X[L]?=some (.row 8 [[.p (fdL l),.p (.int .i64 pr),.p (.int .i64 n),.nils,.p (.int .i64 0),V,.p (.int .i64 nx),.nils]]))(hV:V.cells=[V]/\V.isCell=true):
 AC Tryz.prog G bP [.ptr L 8 0 0] X λr h'=>r= .ret (.p (.int .i64 0))/\∃K I,LS (lwR l pr V nx) L ⟨n,[bk0],0⟩ h' K I/\Frm [L] X h'/\∀j∈I,X.length<=j:=by
 have hLl:=(List.getElem?_eq_some_iff.1 hg).1
 obtain⟨v1,v2⟩:=hV
 have hgt:∀t,(X++t)[L]?=some (.row 8 [[.p (fdL l),.p (.int .i64 pr),.p (.int .i64 n),.nils,.p (.int .i64 0),V,.p (.int .i64 nx),.nils]]):=λt=>by rw[List.getElem?_append_left hLl];exact hg
 have hs3:∀t o,((X++t).set L o)[L]?=some o:=λt o=>List.getElem?_set_self (by simp;omega)
 refine AC.go gJ ?_
 simp-implicitDefEqProofs[-AV.cells,-AV.isCell,aF,ae,ah,an,al,aE,af,aq,aj,v1,v2,dJ,hg,hgt, ↓hs3]
 have key:∀o1:AO,∃K I,LS (lwR l pr V nx) L ⟨n,[bk0],0⟩ ((X++[.row 2 [],.row 4 [],.row 1 [],o1,.row 5 [[.sl X.length 2 0 0,.sl (X.length+1) 4 0 0,.p (.int .i64 0),.p (.int .i64 0),.sl (X.length+2) 1 0 0]]]).set L (lwR l pr V nx ⟨n,[bk0],0⟩ (.sl (X.length+4) 5 0 1))) K I/\Frm [L] X ((X++[.row 2 [],.row 4 [],.row 1 [],o1,.row 5 [[.sl X.length 2 0 0,.sl (X.length+1) 4 0 0,.p (.int .i64 0),.p (.int .i64 0),.sl (X.length+2) 1 0 0]]]).set L (lwR l pr V nx ⟨n,[bk0],0⟩ (.sl (X.length+4) 5 0 1)))/\∀j∈I,X.length<=j:=λo1=>by
  obtain⟨H,hH⟩:∃H,H=((X++[.row 2 [],.row 4 [],.row 1 [],o1,.row 5 [[.sl X.length 2 0 0,.sl (X.length+1) 4 0 0,.p (.int .i64 0),.p (.int .i64 0),.sl (X.length+2) 1 0 0]]]).set L (lwR l pr V nx ⟨n,[bk0],0⟩ (.sl (X.length+4) 5 0 1))):=⟨_,rfl⟩
  have g:∀k,H[X.length+k]?=[AO.row 2 [],.row 4 [],.row 1 [],o1,.row 5 [[.sl X.length 2 0 0,.sl (X.length+1) 4 0 0,.p (.int .i64 0),.p (.int .i64 0),.sl (X.length+2) 1 0 0]]][k]?:=λk=>by
   rw[hH,List.getElem?_set_ne (by omega),List.getElem?_append_right (by omega)]
   rw[Nat.add_sub_cancel_left]
  rw[←hH]
  have hr:RowOwn false H (X.length+4) 5 [[.sl X.length 2 0 0,.sl (X.length+1) 4 0 0,.p (.int .i64 0),.p (.int .i64 0),.sl (X.length+2) 1 0 0]] [bk0.cs] [X.length,X.length+1,X.length+2]:=
   ⟨g 4,rfl,by simp,by simp[bk0,Bk.cs],by rw[List.flatten_singleton,List.flatten_singleton];exact Cq (g 0) (g 1) (g 2),by simp⟩
  refine⟨_,_,⟨by rw[hH];exact List.getElem?_set_self (by simp;omega),hr.tree rfl,by simp;omega,λq e=>(by cases e),λkid n2 rows2 eK hg2 r hr2=>?_⟩,⟨by rw[hH];simp,λi hi hn=>?_⟩,λj hj=>?_⟩
  ·cases eK
   rw[hr.here] at hg2
   cases hg2
   rw[List.mem_singleton.1 hr2]
   intro q;simp
  ·rw[hH,List.getElem?_set_ne (λe=>hn (by simp[e])),List.getElem?_append_left hi]
  ·simp only[List.mem_cons,List.not_mem_nil,or_false] at hj
   omega
 have e:=key (.row 5 [[.sl X.length 2 0 0,.sl (X.length+1) 4 0 0,.p (.int .i64 0),.p (.int .i64 0),.sl (X.length+2) 1 0 0]])
 exact⟨ag (by omega) (by omega),e⟩
end
structure PvS where (i:Nat) (X:List AO)
theorem HC{vs:Vs}{ps:List (List UInt8)}{i:Nat}(hi:i<ps.length)(hl:vs.length=i)(h:rgV vs=scF (-1) [psS (ps.take i) [] 0]):rgV (vs++[(ps[i],i)])=scF (-1) [psS (ps.take (i+1)) [] 0]:=by
 funext t
 simp only[tC,h,FO hi,scF,yx,oU]
 by_cases hst:ps[i]=t
 ·simp[hst]
 ·simp[hst]
theorem Kp(l:List Fd)(hl:l.length<=1073741824)(k:Nat)(f:Fd)(hk:l[k]?=some f)(hz:f.sz<=16777216)(hf:∀x∈f.body,aQ 4 x=true):AC Tryz.prog G io [.agg [.p (fdL l)],.p (.int .i64 k)] [] (MkW .agg false (lwF l (-1) f).cs):=by
 have hfc:=f.cs_eq'
 have hfl:fdL l= .lst 3 (l.map Fd.cs):=rfl
 have hlk:=(List.getElem?_eq_some_iff.1 hk).1
 have hfz:f.sz=1+f.name.length+(f.params.length+(f.params.map List.length).sum)+aN f.body:=rfl
 have hst:bJ f.params= .lst 1 (f.params.map λw=>[.str w]):=rfl
 have hlet:=Nat.le_trans (jB f.body) (iu f.body)
 refine AC.go zC ?_
 simp-implicitDefEqProofs[pS,hfl,hk,hfc,hst]
 rw[←hfl]
 refine(Fh G _ f.body (Nat.le_refl _) (by omega)).use ?_
 have hwl:IntKind.i64.wrap ((f.params.length:Int)+(bf f.body:Int))=((f.params.length+bf f.body:Nat):Int):=by rw[ag (by omega) (by omega)];omega
 simp-implicitDefEqProofs[hst,hwl]
 obtain⟨n,hn⟩:∃n:Nat,n=f.params.length+bf f.body:=⟨_,rfl⟩
 have hnI:(f.params.length:Int)+(bf f.body:Int)=n:=by omega
 rw[hnI]
 refine aH (λa:PvS=>aB 80 [(4,.ptr 1 3 0 0),(5,.ptr 2 3 0 0),(6,.ptr 3 8 0 0),(7,.p (.int .i64 a.i))]) (λa=>a.X)
  (λa=>a.i<=f.params.length/\4<=a.X.length/\a.X[1]?=some (.row 3 [[.p (.int .i64 0),.p (.int .i64 0),.nils]])/\a.X[2]?=some (.row 3 [[.p (.str f.name),.p (.lst 1 (f.params.map λw=>[.str w])),.p (smL f.body)]])/\∃V vs,a.X[3]?=some (.row 8 [[.p (fdL l),.p (.int .i64 f.params.length),.p (.int .i64 n),.nils,.p (.int .i64 0),V,.p (.int .i64 f.params.length),.nils]])/\VAt a.X V vs/\(∀i∈vi V,4<=i)/\vs.length=a.i/\rgV vs=scF (-1) [psS (f.params.take a.i) [] 0]) (λa=>f.params.length-a.i)
  ⟨0,[.row 1 [[.p (fdL l)]],.row 3 [[.p (.int .i64 0),.p (.int .i64 0),.nils]],.row 3 [[.p (.str f.name),.p (.lst 1 (f.params.map λw=>[.str w])),.p (smL f.body)]],.row 8 [[.p (fdL l),.p (.int .i64 f.params.length),.p (.int .i64 n),.nils,.p (.int .i64 0),.nils,.p (.int .i64 f.params.length),.nils]]]⟩ ⟨Nat.zero_le _,by simp,rfl,rfl,.nils,[],rfl,.nil,(λi hi=>by cases hi),rfl,rfl⟩ ?_ ?_
 ·exact ab (by simp) (by simp[below])
 rintro⟨i,X⟩ ⟨hi,hX4,hx1,hx2,V,vs,hx3,hV,hVi,hvl,hrg⟩
 simp only at hi hX4 hx1 hx2 hx3 hV hvl hrg
 obtain⟨v1,v2,v3⟩:=hV.is
 simp-implicitDefEqProofs[hx2]
 refine aG (λhc=>?_) (λhc=>?_)
 ·simp at hc
  have hg:=List.getElem?_eq_getElem hc
  have hrg2:=HC hc hvl hrg
  generalize f.params[i]=p at hg hrg2
  have hwi:=w1 (i:=i) (by omega)
  have hX2m:∀t,(X++t)[2]?=some (.row 3 [[.p (.str f.name),.p (.lst 1 (f.params.map λw=>[.str w])),.p (smL f.body)]]):=λt=>by rw[List.getElem?_append_left (by omega)];exact hx2
  cases hV with
  |nil=>
   have hvi:i=0:=hvl.symm
   subst hvi
   have hX3m:∀t,(X++t)[3]?=some (.row 8 [[.p (fdL l),.p (.int .i64 f.params.length),.p (.int .i64 n),.nils,.p (.int .i64 0),.nils,.p (.int .i64 f.params.length),.nils]]):=λt=>by rw[List.getElem?_append_left (by omega)];exact hx3
   simp-implicitDefEqProofs[hx2,hx3,hg,hX3m,hX2m]
   have hw11:IntKind.i64.wrap 1=1:=ag (by omega) (by omega)
   refine⟨⟨1,_⟩,⟨by simp only;omega,?_,?_,?_,.sl X.length 3 0 1,?_,[(p,0)],?_,?_,rfl,by simpa using hrg2⟩,by simp only;omega,ab ?_ ?_⟩
   rotate_left 6
   ·exact Nat.zero_le _
   ·simp[below,hw11]
    omega
   ·simp;omega
   ·rw[List.getElem?_set_ne (by omega),List.getElem?_append_left (by omega)];exact hx1
   ·rw[List.getElem?_set_ne (by omega),List.getElem?_append_left (by omega)];exact hx2
   ·exact List.getElem?_set_self (by simp;omega)
   ·exact .sl _ [ny (p,0)] [(p,0)] (by rw[List.getElem?_set_ne (by omega),List.getElem?_append_right (Nat.le_refl _)];simp[ny]) rfl
   ·intro j hj;rw[List.mem_singleton.1 hj];exact hX4
  |sl vid rows _ hv1 hv2=>
   have hvX:=(List.getElem?_eq_some_iff.1 hv1).1
   have hv4:=hVi vid (by simp[vi])
   have hvk:vs.length<=rows.length:=by
    have:=congrArg List.length hv2
    rw[List.length_take,List.length_map] at this
    omega
   have hX3m:∀t,(X.set vid .dead++t)[3]?=X[3]?:=λt=>by rw[List.getElem?_append_left (by simp;omega),List.getElem?_set_ne (by omega)]
   have hX2n:∀t,(X.set vid .dead++t)[2]?=X[2]?:=λt=>by rw[List.getElem?_append_left (by simp;omega),List.getElem?_set_ne (by omega)]
   simp-implicitDefEqProofs[hx2,hx3,hg,hv1,hv2, ↓hX3m, ↓hX2n,hwi]
   refine⟨⟨by omega,by omega⟩,⟨i+1,_⟩,⟨by simp only;omega,?_,?_,?_,.sl X.length 3 0 (vs.length+1),?_,vs++[(p,i)],?_,?_,by simp;omega,hrg2⟩,by simp only;omega,ab ?_ ?_⟩
   rotate_left 6
   ·exact Nat.zero_le _
   ·simp[below,hwi]
    omega
   ·simp;omega
   ·rw[List.getElem?_set_ne (by omega),List.getElem?_append_left (by simp;omega),List.getElem?_set_ne (by omega)];exact hx1
   ·rw[List.getElem?_set_ne (by omega),List.getElem?_append_left (by simp;omega),List.getElem?_set_ne (by omega)];exact hx2
   ·exact List.getElem?_set_self (by simp;omega)
   ·have hlv:(vs++[(p,i)]).length=vs.length+1:=by simp
    exact hlv▸ .sl _ (vs.map ny++[ny (p,i)]) (vs++[(p,i)]) (by rw[List.getElem?_set_ne (by omega),List.getElem?_append_right (by simp)];simp[ny]) (by rw[List.take_of_length_le (by simp)];simp)
   ·intro j hj;rw[List.mem_singleton.1 hj];exact hX4
 ·simp at hc
  have hie:i=f.params.length:=by omega
  subst hie
  rw[List.take_length] at hrg
  simp-implicitDefEqProofs[]
  refine(Dr G hx3 ⟨v1,v2⟩).mono ?_
  rintro x X1 ⟨rfl,K1,I1,H1,hfr,hI1⟩
  have hl1:=hfr.1
  have va1:VAt X1 V vs:=hV.frame λi hi=>hfr.2 i (hV.lt i hi) (by have:=hVi i hi;simp;omega)
  have T1':=RS.of H1 va1 (λi hi=>by
   have h4:=hVi i hi
   have h5:=hV.lt i hi
   simp only[List.mem_cons,not_or]
   exact⟨by omega,λhm=>by have:=hI1 i hm;omega⟩)
  have T1:=T1'.add (j:=1) (by omega) (by
   simp only[List.mem_cons,not_or]
   exact⟨by omega,λhm=>by have:=hI1 1 hm;omega⟩) (λhm=>by have:=hVi 1 hm;omega)
  have b1:X1[1]?=some (.row 3 [[.p (.int .i64 0),.p (.int .i64 0),.nils]]):=(hfr.2 1 (by omega) (by simp)).trans hx1
  have b2:X1[2]?=some (.row 3 [[.p (.str f.name),.p (.lst 1 (f.params.map λw=>[.str w])),.p (smL f.body)]]):=(hfr.2 2 (by omega) (by simp)).trans hx2
  have ok1:(⟨n,[bk0],0⟩:Lw).Ok (f.sz+1):=⟨by show n<=_;omega,by show 1<=_;omega,λb hb=>by rw[List.mem_singleton.1 hb];show 0<=_;omega,by show 0<1;omega⟩
  simp-implicitDefEqProofs[aa,b2]
  obtain⟨y,hy⟩:∃y,y=aV (faI l) (-1) f.body (psS f.params [] 0) [] f.params.length ⟨n,[bk0],0⟩:=⟨_,rfl⟩
  have h2:=rL G (Fe G l hl f.params.length 3 4 f.body hf) T1 ok1 (by omega) (by omega) (by omega) hrg
  have ok2:=ee (faI l) (-1) f.body (psS f.params [] 0) [] f.params.length ⟨n,[bk0],0⟩ _ ok1
  rw[←hy] at h2 ok2
  refine h2.mono ?_
  rintro x X2 ⟨rfl,K2,V2,I2,T2,e2⟩
  obtain⟨ok2,_,_,_⟩:=ok2
  have b1:=(e2 1 (by simp)).trans b1
  simp-implicitDefEqProofs[aa]
  refine(Iu G T2 (by have:=ok2.regs;omega)).mono ?_
  rintro x X3 ⟨rfl,K3,I3,T3,e3⟩
  have b1:=(e3 1 (by simp)).trans b1
  have ok3:=ok2.reg
  simp-implicitDefEqProofs[aa]
  refine(Kd G T3 ok3 (by omega) 1 y.2.2.regs 0).mono ?_
  rintro x X4 ⟨rfl,K4,I4,T4,e4⟩
  have b1:=(e4 1 (by simp)).trans b1
  have ok4:=ok3.put ⟨1,y.2.2.regs,[],0⟩
  simp-implicitDefEqProofs[aa]
  refine(Iy G T4 ok4 3 y.2.2.regs 0 rfl).mono ?_
  rintro x X5 ⟨rfl,K5,I5,T5,e5⟩
  have b1:=(e5 1 (by simp)).trans b1
  have l5:=T5.stb.ls.here
  simp only[lwR] at l5
  obtain⟨k1,k2⟩:=jP T5.stb.ls.own
  have hs1:∀o,(X5.set 1 o)[1]?=some o:=λo=>List.getElem?_set_self (T5.at.1 1 (by simp)).1
  simp-implicitDefEqProofs[-AV.cells,-AV.isCell,aF,ae,ah,an,al,aE,af,aq,aj,k1,k2,aa,l5,b1, ↓hs1]
  have hres:lwF l (-1) f=⟨f.params.length,((y.2.2.reg.put ⟨1,y.2.2.regs,[],0⟩).fin 3 y.2.2.regs 0 []).regs,((y.2.2.reg.put ⟨1,y.2.2.regs,[],0⟩).fin 3 y.2.2.regs 0 []).bs⟩:=by
   rw[lwF,←hn,←hy];rfl
  rw[hres]
  refine⟨_,I5,rfl,.p _ (λ_=>rfl) (.p _ (λ_=>rfl) (T5.stb.ls.own.frame λi hi=>List.getElem?_set_ne λe=>(T5.at.1 1 (by simp)).2 (by rw[e];exact List.mem_cons_of_mem _ hi))),(List.nodup_cons.1 T5.stb.ls.nd).2⟩
theorem IY(l:List Fd)(hl:l.length<=1073741824)(k:Nat)(f:Fd)(hk:l[k]?=some f)(hz:f.sz<=16777216)(hf:∀x∈f.body,aQ 4 x=true):VF Tryz.prog G io [.agg [.p (fdL l)],.p (.int .i64 k)] (.agg ((lwF l (-1) f).cs.map .p)):=
 AC.mkFreeze rT (Kp G l hl k f hk hz hf)
def unR(l:List Fd):List Cd:=l.map (lwF l (-1))
structure UnS where (i:Nat) (X:List AO)
theorem FE(l:List Fd)(hz:cr l<=16777216)(hf:∀f∈l,∀x∈f.body,aQ 4 x=true):VF Tryz.prog G fg [.agg [.p (fdL l)]] (.agg [.p (cdL (unR l))]):=by
 have hfl:fdL l= .lst 3 (l.map Fd.cs):=rfl
 have hll:l.length<=cr l:=oF l
 have key:AC Tryz.prog G fg [.agg [.p (fdL l)]] [] λx h=>∃V,x= .ret (.agg [V])/\((V= .nils/\l=[])\/∃id,V= .sl id 3 0 l.length/\h[id]?=some (.row 3 (rj (unR l)))):=by
  refine AC.go uC ?_
  simp-implicitDefEqProofs[mL]
  refine aH (λa:UnS=>aB 22 [(1,.ptr 0 1 0 0),(2,.ptr 1 1 0 0),(3,.ptr 2 1 0 0),(4,.p (.int .i64 a.i))]) (λa=>a.X)
   (λa=>a.i<=l.length/\3<=a.X.length/\a.X[0]?=some (.row 1 [[.p (fdL l)]])/\a.X[1]?=some (.row 1 [[.nils]])/\∃V,a.X[2]?=some (.row 1 [[V]])/\((V= .nils/\a.i=0)\/∃id,V= .sl id 3 0 a.i/\3<=id/\a.X[id]?=some (.row 3 (rj (unR l|>.take a.i))))) (λa=>l.length-a.i)
   ⟨0,[.row 1 [[.p (fdL l)]],.row 1 [[.nils]],.row 1 [[.nils]]]⟩ ⟨Nat.zero_le _,by simp,rfl,rfl,.nils,rfl,.inl ⟨rfl,rfl⟩⟩ ?_ ?_
  ·exact ab (by simp) (by simp[below])
  rintro⟨i,X⟩ ⟨hi,hX3,hx0,hx1,V,hx2,hV⟩
  simp only at hi hX3 hx0 hx1 hx2 hV
  simp-implicitDefEqProofs[hx0,hfl]
  refine aG (λhc=>?_) (λhc=>?_)
  ·simp at hc
   have hg:=List.getElem?_eq_getElem hc
   have hm:=List.getElem_mem hc
   have hfz:=oO hm
   have hcall:=IY G l (by omega) i l[i] hg (by omega) (hf _ hm)
   have htk:(unR l).take (i+1)=(unR l).take i++[lwF l (-1) l[i]]:=by
    rw[unR,←List.map_take,←List.map_take,az hc,List.map_append];rfl
   have hcs:=(lwF l (-1) l[i]).cs_eq'
   have hlt:((unR l).take i).length=i:=by simp[unR];omega
   have hwi:=w1 (i:=i) (by omega)
   generalize lwF l (-1) l[i]=c at hcall htk hcs
   rw[hcs] at hcall
   rw[hfl] at hcall
   have hX2:∀t,(X++t)[2]?=some (.row 1 [[V]]):=λt=>by rw[List.getElem?_append_left (by omega)];exact hx2
   rcases hV with⟨rfl,rfl⟩|⟨id,rfl,hid,hxi⟩
   ·simp-implicitDefEqProofs[hx2,hx0,hfl]
    refine hcall.use ?_
    simp-implicitDefEqProofs[hx2,hX2]
    have hw11:IntKind.i64.wrap 1=1:=ag (by omega) (by omega)
    refine⟨⟨1,_⟩,⟨by simp only;omega,?_,?_,?_,.sl (X.length+1) 3 0 1,?_,.inr ⟨X.length+1,rfl,by omega,?_⟩⟩,by simp only;omega,ab ?_ ?_⟩
    rotate_left 5
    ·exact Nat.zero_le _
    ·simp[below,hw11];omega
    ·simp;omega
    ·rw[List.getElem?_set_ne (by omega),List.getElem?_append_left (by omega)];exact hx0
    ·rw[List.getElem?_set_ne (by omega),List.getElem?_append_left (by omega)];exact hx1
    ·exact List.getElem?_set_self (by simp;omega)
    ·rw[htk,List.getElem?_set_ne (by omega),List.getElem?_append_right (by omega)]
     simp[rj,hcs]
   ·have hiX:=(List.getElem?_eq_some_iff.1 hxi).1
    have hX2n:∀t u,((X++t).set id .dead++u)[2]?=X[2]?:=λt u=>by rw[List.getElem?_append_left (by simp;omega),List.getElem?_set_ne (by omega),List.getElem?_append_left (by omega)]
    have hxim:∀t,(X++t)[id]?=some (.row 3 (rj (List.take i (unR l)))):=λt=>by rw[List.getElem?_append_left hiX];exact hxi
    have htl:List.take i (rj (List.take i (unR l)))=rj (List.take i (unR l)):=List.take_of_length_le (by simp[rj];omega)
    have hcl:(rj (List.take i (unR l))).length=i:=by simp only[rj,List.length_map];exact hlt
    simp-implicitDefEqProofs[hx2,hx0,hfl]
    refine hcall.use ?_
    simp-implicitDefEqProofs[hx2,hX2,hxi,hxim, ↓hX2n,htl,hcl,hwi]
    refine⟨⟨by omega,by omega⟩,⟨i+1,_⟩,⟨by simp only;omega,?_,?_,?_,.sl (X.length+1) 3 0 (i+1),?_,.inr ⟨X.length+1,rfl,by omega,?_⟩⟩,by simp only;omega,ab ?_ ?_⟩
    rotate_left 5
    ·exact Nat.zero_le _
    ·simp[below,hwi];omega
    ·simp;omega
    ·rw[List.getElem?_set_ne (by omega),List.getElem?_append_left (by simp),List.getElem?_set_ne (by omega),List.getElem?_append_left (by omega)];exact hx0
    ·rw[List.getElem?_set_ne (by omega),List.getElem?_append_left (by simp;omega),List.getElem?_set_ne (by omega),List.getElem?_append_left (by omega)];exact hx1
    ·exact List.getElem?_set_self (by simp;omega)
    ·rw[htk,List.getElem?_set_ne (by omega),List.getElem?_append_right (by simp)]
     simp[rj,hcs]
  ·simp at hc
   have hie:i=l.length:=by omega
   subst hie
   have hx1s:∀o,(X.set 1 o)[1]?=some o:=λo=>List.getElem?_set_self (by omega)
   have hul:(unR l).take l.length=unR l:=List.take_of_length_le (by simp[unR])
   rw[hul] at hV
   rcases hV with⟨rfl,h0⟩|⟨id,rfl,hid,hxi⟩
   ·simp-implicitDefEqProofs[hx2,hx1, ↓hx1s]
    exact List.length_eq_zero_iff.1 h0
   ·simp-implicitDefEqProofs[hx2,hx1, ↓hx1s]
    rw[List.getElem?_set_ne (by omega)]
    exact hxi
 refine key.freezeR (λt v h ⟨V,e,_⟩=>by cases e) ?_
 rintro v h ⟨V,e,hV⟩
 cases e
 refine .agg ?_ .nil
 rcases hV with⟨rfl,rfl⟩|⟨id,rfl,hid⟩
 ·exact .one (View.nils 3) .nil
 ·have hh:rj (unR l)=((unR l).map Cd.cs).map (·.map .p):=by simp[rj]
  rw[hh] at hid
  have:=eB (n:=l.length) hid (by simp[unR]) (λx hx=>by obtain⟨b,_,rfl⟩:=List.mem_map.1 hx;rfl)
  exact .one this .nil
end
section
theorem Bn{d:Nat}{e:Ex}(h:bO (d+1) e=true):(∀a∈e.kids,bO d a=true)/\(e.op=1\/e.op=2->e.kids=[])/\(e.op=10->∃a b,e.kids=[a,b]):=by
 rw[bO,Bool.and_eq_true] at h
 refine⟨λa ha=>List.all_eq_true.1 h.2 a ha,λho=>?_,λho=>?_⟩
 ·have h:=h.1
  simp only[lb,Bool.and_eq_true,inR,decide_eq_true_eq] at h
  obtain⟨⟨⟨⟨⟨_,h2⟩,_⟩,_⟩,_⟩,_⟩:=h
  rw[loK,if_pos ho,hiK,if_pos ho] at h2
  exact List.length_eq_zero_iff.1 (by omega)
 ·have h:=h.1
  simp only[lb,Bool.and_eq_true,inR,decide_eq_true_eq] at h
  obtain⟨⟨⟨⟨⟨_,h2⟩,_⟩,_⟩,_⟩,_⟩:=h
  rw[ho,show loK 10=2 from rfl,show hiK 10=2 from rfl] at h2
  match e.kids,h2 with
  |[a,b],_=>exact⟨a,b,rfl⟩
  |[],h=>simp at h
  |[_],h=>simp at h
  |_::_::_::r,h=>simp only[List.length_cons] at h;omega
theorem Gs{d:Nat}{s:Sm}(h:aQ (d+1) s=true):(∀a∈s.args,bO 6 a=true)/\(∀x∈s.body,aQ d x=true)/\(∀x∈s.els,aQ d x=true)/\(s.op=6->∃a,s.args=[a])/\(¬s.op=5->s.els=[])/\(¬s.op=5->¬s.op=6->s.body=[]):=by
 rw[aQ,Bool.and_eq_true,Bool.and_eq_true] at h
 obtain⟨⟨hh,hb⟩,he⟩:=h
 simp only[fS,Bool.and_eq_true,List.all_eq_true,Bool.or_eq_true,decide_eq_true_eq,List.isEmpty_iff] at hh
 refine⟨λa ha=>?_,λx hx=>List.all_eq_true.1 hb x hx,λx hx=>List.all_eq_true.1 he x hx,λh6=>?_,λh5=>?_,λh5 h6=>?_⟩
 ·have:=hh.1.1.1.2 a ha
  rw[ry,Bool.and_eq_true] at this
  exact this.1
 ·have h1:=hh.1.1.1.1.1.1.2
  rw[ko,if_neg (by omega)] at h1
  exact List.length_eq_one_iff.1 h1
 ·rcases hh.1.2 with h|h
  ·exact h
  ·exact(h5 h).elim
 ·rcases hh.2 with(h|h)|h
  ·exact h
  ·exact(h5 h).elim
  ·exact(h6 h).elim
end
section
theorem jR{s:List UInt8}(h:cn s=true):s.length<=4:=by
 simp only[cn,Bool.and_eq_true,decide_eq_true_eq] at h
 exact h.1.2
theorem BB{e:Ex}(h:lb e=true):e.name.length<=4:=by
 simp only[lb,Bool.and_eq_true] at h
 have h1:=h.1.1.1.2
 have h2:=h.1.1.2
 cases hn:AP e.op with
 |true=>
  rw[hn] at h1
  exact jR (by simpa using h1)
 |false=>
  rw[hn] at h2
  have:e.name=[]:=by simpa using h2
  rw[this];simp
theorem Bm{l:List Ex}(h:∀e∈l,e.sz<=5*e.parts):aR l<=5*iR l:=by
 induction l with
 |nil=>simp[aR]
 |cons e r ih=>
  have h1:=h e (by simp)
  have h2:=ih λx hx=>h x (by simp[hx])
  simp only[aR,iR]
  omega
theorem Gt:∀(d:Nat) (e:Ex),bO d e=true->e.sz<=5*e.parts:=by
 intro d
 induction d with
 |zero=>intro e h;cases h
 |succ d ih=>
  intro e h
  have hk:=(Bn h).1
  rw[bO,Bool.and_eq_true] at h
  have hn:=BB h.1
  have hz:=Bm (l:=e.kids) λa ha=>ih a (hk a ha)
  rw[e.sz_eq,e.parts_eq]
  omega
theorem HQ{e:Ex}(h:ry e=true):e.sz<=150:=by
 simp only[ry,Bool.and_eq_true,decide_eq_true_eq] at h
 have:=Gt 6 e h.1
 omega
theorem sB:∀{l:List Ex},(∀e∈l,e.sz<=150)->aR l<=150*l.length
 |[],_=>by simp[aR]
 |e::r,h=>by
  have h1:=h e (by simp)
  have h2:=sB (l:=r) λx hx=>h x (by simp[hx])
  simp only[aR,List.length_cons]
  omega
theorem GN{s:Sm}(h:fS s=true):s.name.length<=4/\aR s.args<=300:=by
 simp only[fS,Bool.and_eq_true] at h
 have ha:=h.1.1.1.2
 have hl:=h.1.1.1.1.1.1.2
 have h1:=h.1.1.1.1.1.2
 have h2:=h.1.1.1.1.2
 refine⟨?_,?_⟩
 ·cases hn:yR s.op with
  |true=>
   rw[hn] at h1
   exact jR (by simpa using h1)
  |false=>
   rw[hn] at h2
   have:s.name=[]:=by simpa using h2
   rw[this];simp
 ·have:=sB (l:=s.args) λe he=>HQ (List.all_eq_true.1 ha e he)
  have hl2:s.args.length<=2:=by
   simp only[decide_eq_true_eq] at hl
   rw[hl,ko];split<;>omega
  omega
theorem sZ{l:List Sm}(h:∀s∈l,s.sz<=305*s.cnt):aN l<=305*cG l:=by
 induction l with
 |nil=>simp[aN]
 |cons e r ih=>
  have h1:=h e (by simp)
  have h2:=ih λx hx=>h x (by simp[hx])
  simp only[aN,cG]
  omega
theorem Gi:∀(d:Nat) (s:Sm),aQ d s=true->s.sz<=305*s.cnt:=by
 intro d
 induction d with
 |zero=>intro e h;cases h
 |succ d ih=>
  intro s h
  obtain⟨_,hb,he,_⟩:=Gs h
  rw[aQ,Bool.and_eq_true,Bool.and_eq_true] at h
  obtain⟨hn,ha⟩:=GN h.1.1
  have h1:=sZ (l:=s.body) λx hx=>ih x (hb x hx)
  have h2:=sZ (l:=s.els) λx hx=>ih x (he x hx)
  rw[s.sz_eq,s.cnt_eq]
  omega
theorem Cl:∀{l:List (List UInt8)},(∀w∈l,w.length<=4)->(l.map List.length).sum<=4*l.length
 |[],_=>by simp
 |w::r,h=>by
  have h1:=h w (by simp)
  have h2:=Cl (l:=r) λx hx=>h x (by simp[hx])
  simp only[List.map_cons,List.sum_cons,List.length_cons]
  omega
theorem Hp{f:Fd}(h:lc f=true):f.sz<=20+305*cG f.body:=by
 simp only[lc,Bool.and_eq_true,decide_eq_true_eq,List.all_eq_true] at h
 obtain⟨⟨⟨hp,hn⟩,h3⟩,hb⟩:=h
 have h1:=jR hn
 have h2:=Cl (l:=f.params) λw hw=>jR (hp w hw)
 have h4:=sZ (l:=f.body) λx hx=>Gi 4 x (hb x hx)
 rw[Fd.sz]
 omega
theorem tI:∀{l:List Fd},(∀f∈l,lc f=true)->cr l<=20*l.length+305*pO l
 |[],_=>by simp[cr]
 |f::r,h=>by
  have h1:=Hp (h f (by simp))
  have h2:=tI (l:=r) λx hx=>h x (by simp[hx])
  simp only[cr,pO,List.map_cons,List.sum_cons,List.length_cons] at h2⊢
  omega
theorem yE{l:List Fd}(h:cI l=true):cr l<=12280:=by
 rw[mN] at h
 obtain⟨⟨_,h4⟩,hf,hn⟩:=h
 have:=tI hf
 omega
theorem zE{l:List Fd}(h:cI l=true):∀f∈l,∀x∈f.body,aQ 4 x=true:=λf hf x hx=>by
 rw[mN] at h
 have h1:=h.2.1 f hf
 simp only[lc,Bool.and_eq_true,List.all_eq_true] at h1
 exact h1.2 x hx
def Lw.Ar(A:Nat)(w:Lw):Prop:=∀b∈w.bs,b.phis=[]/\b.next.length<=2/\∀x∈b.ins,x.args.length<=A
theorem zF{f:Bk->Bk}{l:List Bk}{i:Nat}{b:Bk}(h:b∈modB f l i):b∈l\/∃c∈l,b=f c:=by
 unfold modB at h
 split at h
 ·rename_i c hc
  rcases List.mem_or_eq_of_mem_set h with h|h
  ·exact .inl h
  ·exact .inr ⟨c,List.mem_of_getElem? hc,h⟩
 ·exact .inl h
theorem Lw.Ar.put{A:Nat}{w:Lw}(H:w.Ar A){x:Ii}(hx:x.args.length<=A):(w.put x).Ar A:=λb hb=>by
 rcases zF hb with h|⟨c,hc,rfl⟩
 ·exact H b h
 ·obtain⟨h1,h2,h3⟩:=H c hc
  refine⟨h1,h2,λy hy=>?_⟩
  rcases List.mem_append.1 hy with h|h
  ·exact h3 y h
  ·rw[List.mem_singleton.1 h];exact hx
theorem Lw.Ar.mk'{A:Nat}{w:Lw}(H:w.Ar A){op n:Int}{args:List Int}(hx:args.length<=A):(w.mk' op n args).Ar A:=Lw.Ar.put (w:=w.reg) H hx
theorem Lw.Ar.name{A:Nat}{w:Lw}(H:w.Ar A)(n:Nat):(w.name n).Ar A:=λb hb=>by
 rcases List.mem_append.1 hb with h|h
 ·exact H b h
 ·rw[(List.mem_replicate.1 h).2];simp[bk0]
theorem Lw.Ar.fin{A:Nat}{w:Lw}(H:w.Ar A){j o:Int}{g:Nat}{nx:List Int}(hx:nx.length<=2):(w.fin j o g nx).Ar A:=λb hb=>by
 rcases zF hb with h|⟨c,hc,rfl⟩
 ·exact H b h
 ·obtain⟨h1,h2,h3⟩:=H c hc
  exact⟨h1,hx,h3⟩
mutual
theorem yM(fa sc:List UInt8->Int){A:Nat}(hA:1<=A):∀(e:Ex) (w:Lw),w.Ar A->e.sz<=A->(lwE fa sc e w).2.Ar A
 | .mk o n s ks,w,H,hz=>by
   simp only[Ex.sz] at hz
   have hkl:=fH ks
   rw[lwE]
   split
   ·exact H.mk' (by simp)
   split
   ·exact H
   split
   ·exact Kb fa sc hA ks w H (by omega)
   ·refine(yB fa sc hA ks w H (by omega)).mk' ?_
    rw[gu];omega
theorem Kb(fa sc:List UInt8->Int){A:Nat}(hA:1<=A):∀(l:List Ex) (w:Lw),w.Ar A->aR l<=A->(lwA fa sc l w).2.Ar A
 |[],w,H,_=>by rw[lwA];exact H;intro a b h;cases h
 |[a],w,H,_=>by rw[lwA];exact H;intro a b h;cases h
 |a::b::c::r,w,H,_=>by rw[lwA];exact H;intro a b h;cases h
 |[a,b],w,H,hz=>by
  simp only[aR] at hz
  have h1:=yM fa sc hA a w H (by omega)
  rw[lwA]
  simp only
  have h2:=((h1.mk' (op:=1) (n:=0) (args:=[]) (by simp)).name 2).fin (j:=2) (o:=(lwE fa sc a w).1) (g:=((lwE fa sc a w).2.mk' 1 0 []).bs.length) (nx:=[(((lwE fa sc a w).2.mk' 1 0 []).bs.length:Int),(((lwE fa sc a w).2.mk' 1 0 []).bs.length:Int)+1]) (by simp)
  exact(((yM fa sc hA b _ h2 (by omega)).mk' (by simpa using hA)).put (by simpa using hA)).fin (by simp)
theorem yB(fa sc:List UInt8->Int){A:Nat}(hA:1<=A):∀(l:List Ex) (w:Lw),w.Ar A->aR l<=A->(bA fa sc l w).2.Ar A
 |[],w,H,_=>by rw[bA];exact H
 |e::r,w,H,hz=>by
  simp only[aR] at hz
  rw[bA]
  exact yB fa sc hA r _ (yM fa sc hA e w H (by omega)) (by omega)
end
mutual
theorem Ko(fa:List UInt8->Int)(q:Int){A:Nat}(hA:1<=A):∀(s:Sm) (m:Scp) (up:List Scp) (nx:Nat) (w:Lw),w.Ar A->s.sz<=A->(lwS fa q s m up nx w).2.2.Ar A
 | .mk o n a bd el,m,up,nx,w,H,hz=>by
   simp only[Sm.sz] at hz
   have hhd:=zV a
   have hal:=fH a
   rw[lwS]
   simp only
   split
   ·have h1:=yM fa (scF q (m::up)) hA (a.headD (.mk 0 0 [] [])) _ ((H.name 3).fin (j:=1) (o:=0) (g:=w.bs.length) (nx:=[(w.bs.length:Int)]) (by simp)) (by omega)
    exact(nW fa q hA bd [] (m::up) nx _ (h1.fin (by simp)) (by omega)).fin (by simp)
   ·have h1:=yB fa (scF q (m::up)) hA a w H (by omega)
    have hl:(bA fa (scF q (m::up)) a w).1.length<=A:=by rw[gu];omega
    split
    ·exact h1.put hl
    split
    ·exact h1.put hl
    split
    ·exact h1.put hl
    split
    ·exact h1.put hl
    split
    ·exact(nW fa q hA el [] (m::up) _ _ ((nW fa q hA bd [] (m::up) nx _ ((h1.name 3).fin (by simp)) (by omega)).fin (by simp)) (by omega)).fin (by simp)
    split
    ·exact(h1.name 1).fin (by simp)
    ·exact h1
theorem nW(fa:List UInt8->Int)(q:Int){A:Nat}(hA:1<=A):∀(l:List Sm) (m:Scp) (up:List Scp) (nx:Nat) (w:Lw),w.Ar A->aN l<=A->(aV fa q l m up nx w).2.2.Ar A
 |[],m,up,nx,w,H,_=>by rw[aV];exact H
 |s::r,m,up,nx,w,H,hz=>by
  simp only[aN] at hz
  rw[aV]
  exact nW fa q hA r _ up _ _ (Ko fa q hA s m up nx w H (by omega)) (by omega)
end
theorem Ie(l:List Fd)(q:Int)(f:Fd)(hz:f.sz<=16777216):Jw 1073741824 (lwF l q f)/\0<=(lwF l q f).regs/\(lwF l q f).regs<=1073741824/\0<(lwF l q f).blocks.length:=by
 have hfz:f.sz=1+f.name.length+(f.params.length+(f.params.map List.length).sum)+aN f.body:=rfl
 have hlet:=Nat.le_trans (jB f.body) (iu f.body)
 have hok:(⟨f.params.length+bf f.body,[bk0],0⟩:Lw).Ok (f.sz+1):=⟨by show f.params.length+bf f.body<=_;omega,by show 1<=_;omega,λb hb=>by rw[List.mem_singleton.1 hb];show 0<=_;omega,by show 0<1;omega⟩
 have har:(⟨f.params.length+bf f.body,[bk0],0⟩:Lw).Ar 16777217:=λb hb=>by rw[List.mem_singleton.1 hb];simp[bk0]
 obtain⟨h1,h2,_,_⟩:=ee (faI l) q f.body (psS f.params [] 0) [] f.params.length _ _ hok
 have h3:=nW (faI l) q (A:=16777217) (by omega) f.body (psS f.params [] 0) [] f.params.length _ har (by omega)
 rw[lwF]
 simp only
 generalize aV (faI l) q f.body (psS f.params [] 0) [] f.params.length _=y at*
 have k1:=(h1.mk' 1 0 []).fin 3 y.2.2.regs (g:=0) (by
  have:=h1.pos
  rw[Lw.mk'_len];omega) []
 have k3:=(h3.mk' (op:=1) (n:=0) (args:=[]) (by simp)).fin (j:=3) (o:=y.2.2.regs) (g:=0) (nx:=[]) (by simp)
 refine⟨⟨by have:=k1.bs;show((y.2.2.mk' 1 0 []).fin 3 y.2.2.regs 0 []).bs.length<=_;omega,λb hb=>?_⟩,by show(0:Int)<=((y.2.2.mk' 1 0 []).regs:Int);omega,by have:=k1.regs;show((y.2.2.mk' 1 0 []).regs:Int)<=_;have h:((y.2.2.mk' 1 0 []).fin 3 y.2.2.regs 0 []).regs=(y.2.2.mk' 1 0 []).regs:=rfl;omega,by have:=k1.pos;show 0<((y.2.2.mk' 1 0 []).fin 3 y.2.2.regs 0 []).bs.length;omega⟩
 obtain⟨a1,a2,a3⟩:=k3 b hb
 have a4:=k1.ins b hb
 exact⟨by rw[a1];simp,by omega,by omega,by rw[a1];simp,λx hx=>by have:=a3 x hx;omega⟩
theorem vu:∀{l:List Fd} {f:Fd},f∈l->f.sz<=cr l
 |x::r,f,h=>by
  simp only[cr,List.map_cons,List.sum_cons]
  rcases List.mem_cons.1 h with rfl|h
  ·omega
  ·have:=vu h
   simp only[cr] at this
   omega
theorem Io(l:List Fd)(q:Int)(hz:cr l<=16777216)(hl:l.length<=1073741824):JQ 1073741824 (l.map (lwF l q)):=
 ⟨by rw[List.length_map];exact hl,λc hc=>by
   obtain⟨f,hf,rfl⟩:=List.mem_map.1 hc
   have:=vu hf
   exact(Ie l q f (by omega)).1⟩
end
section
variable (G:ay)
def PshF(s:Bool)(sz:Nat)(D:List (List PV))(h0:List AO)(a:PshS):Prop:=a.i<=D.length/\h0.length<=a.id/\h0.length<=a.h.length/\(∀j,j<h0.length->a.h[j]?=h0[j]?)/\∃rows J,RowOwn s a.h a.id sz rows (D.take a.i) J/\∀j∈J,h0.length<=j
theorem BM{h h2:List AO}(hl:h.length<=h2.length)(hf:∀j,j<h.length->h2[j]?=h[j]?):h2=h++h2.drop h.length:=by
 have e:h2.take h.length=h:=by
  apply List.ext_getElem?
  intro j
  by_cases hj:j<h.length
  ·rw[List.getElem?_take_of_lt hj];exact hf j hj
  ·rw[List.getElem?_eq_none (by rw[List.length_take];omega),List.getElem?_eq_none (by omega)]
 have e2:=List.take_append_drop h.length h2
 rw[e] at e2
 exact e2.symm
theorem PshF.step{s:Bool}{sz i id:Nat}{D:List (List PV)}{h0 h:List AO}(H:PshF s sz D h0 ⟨i,id,h⟩){e:List PV}(hi:D[i]?=some e){h2:List AO}(hl:h.length<=h2.length)(hf:∀j,j<h.length->h2[j]?=h[j]?){r':List AV}{I2:List Nat}(ho:OwnL s h2 r' e I2)(nd2:I2.Nodup)(hn:∀j∈I2,h.length<=j)(he:e.length=sz):
 ∃rows,(∀os,(h2++os)[id]?=some (.row sz rows))/\rows.length=i/\i<D.length/\id<h2.length/\∀os1 os2,PshF s sz D h0 ⟨i+1,(h2++os1).length,(h2++os1).set id .dead++ .row sz (rows++[r'])::os2⟩:=by
 obtain⟨h1,h3,h4,h5,rows,J,hr,hJ⟩:=H
 have hil:i<D.length:=(List.getElem?_eq_some_iff.1 hi).1
 have hlen:=hr.len
 simp only at h1 h3 h4 h5 hlen hr
 rw[List.length_take,Nat.min_eq_left h1] at hlen
 have e2:=BM hl hf
 have hid:=hr.lt
 have h2e:h2[id]?=some (.row sz rows):=by rw[hf id hid];exact hr.here
 refine⟨rows,λos=>by rw[List.getElem?_append_left (by omega)];exact h2e,hlen,hil,by omega,λos1 os2=>⟨hil,by simp only[List.length_append];omega,by simp;omega,λj hj=>?_,rows++[r'],J++I2,?_,λj hj=>?_⟩⟩
 ·simp only
  rw[List.getElem?_append_left (by simp only[List.length_set,List.length_append,List.length_cons];omega),List.getElem?_set_ne (by omega),List.getElem?_append_left (by omega),hf j (by omega)]
  exact h5 j hj
 ·have hp:=(hr.push (h2:=h2++os1) (os:=h2.drop h.length++os1) (by rw[←List.append_assoc,←e2]) (ho.more os1) nd2 hn he).more os2
  have hd:D.take i++[e]=D.take (i+1):=by rw[List.take_add_one,hi];rfl
  rw[hd,List.append_assoc] at hp
  exact hp
 ·rcases List.mem_append.1 hj with hj|hj
  ·exact hJ j hj
  ·have:=hn j hj;omega
theorem PshF.done{s:Bool}{sz i id:Nat}{D:List (List PV)}{h0 h:List AO}(H:PshF s sz D h0 ⟨i,id,h⟩)(hi:D.length<=i):h0.length<=h.length/\(∀j,j<h0.length->h[j]?=h0[j]?)/\∃I,OwnL s h [.sl id sz 0 i] [.lst sz D] I/\I.Nodup/\∀j∈I,h0.length<=j:=by
 obtain⟨h1,h3,h4,h5,rows,J,hr,hJ⟩:=H
 simp only at h1 h3 h4 h5 hr
 rw[List.take_of_length_le hi] at hr
 exact⟨h4,h5,id::J,hr.tree (by omega),hr.nd,λj hj=>by
  rcases List.mem_cons.1 hj with rfl|hj
  ·exact h3
  ·exact hJ j hj⟩
end
section
variable (G:ay)
theorem ET{ρ:List Nat}:∀{args:List AV},aw 0 args->TW ρ args args
 |[],_=>trivial
 |v::r,h=>⟨.inr ⟨(bL (Nat.zero_le _) [v] ⟨h.1,trivial⟩).1,by have:=jp ρ [v] ⟨h.1,trivial⟩;simpa[bi] using this⟩,ET h.2⟩
theorem Mr{f:FuncId}{args:List AV}{b:List Int}{p:Nat}{Q:AV->Nat->Prop}(H:AC Tryz.prog G f (.ptr 0 2 0 0::args) [rdO b p] λx h=>∃v q,x= .ret v/\h=[rdO b q]/\Q v q)(hq:∀v q,Q v q->below 0 v){h:List AO}{k:Nat}(hk:h[k]?=some (rdO b p))(ha:aw 0 args):
 AC Tryz.prog G f (.ptr k 2 0 0::args) h λx h'=>∃v q,x= .ret v/\h'=h.set k (rdO b q)/\Q v q:=by
 refine(H.frame (h:=h) (args:= .ptr k 2 0 0::args) [k] (by simp) ⟨.inr ⟨by simp[below],by simp[ren]⟩,ET ha⟩ (iG hk (bS _ _ _) gG)).mono ?_
 rintro x h' ⟨x0,h0,⟨v,q,rfl,rfl,r⟩,hl,rfl,rfl⟩
 refine⟨v,q,?_,?_,r⟩
 ·simp only[Bo]
  have:=jp ([k]++List.range' h.length ([rdO b q].length-[rdO b p].length)) [v] ⟨hq v q r,trivial⟩
  simpa[bi] using this
 ·have hp2:∀σ,eU σ (rdO b q)=rdO b q:=λσ=>by simp[rdO,eU,bi,ren]
  simp[mrg,hp2]
theorem zK{l:List Int}(h:Byt l)(n:Nat):Byt (l.take n):=λx hx=>h x (List.mem_of_mem_take hx)
theorem GB{f:FuncId}{args:List AV}{R:ARes->Prop}(H:AC Tryz.prog G f args [] λx _=>R x)(hR:∀x,R x->∃v,x= .ret v/\below 0 v)(ha:aw 0 args)(h:List AO):AC Tryz.prog G f args h λx h'=>R x/\h'=h:=by
 have H2:AC Tryz.prog G f args [] λx h'=>R x/\h'=[]:=by
  refine H.wk (λt v h' r=>by obtain⟨_,e,_⟩:=hR _ r;cases e) λv h' r=>?_
  obtain⟨v',e,hv⟩:=hR _ r
  cases e
  exact⟨v,[],EA rfl ⟨.inr ⟨hv,rfl⟩,trivial⟩,r,rfl⟩
 refine(H2.pre h ha (λo ho=>by cases ho) (λx h' r=>by rw[r.2])).mono ?_
 rintro x h' ⟨h1,⟨r,rfl⟩,rfl⟩
 exact⟨r,rfl⟩
variable (hK:G Bp=some BW) (hS:G AA=some [.tbl opK opV])
include hK hS
end
section
theorem LY{u:List Cd}(h:unB u=true):GU u:=by
 simp only[unB,Bool.and_eq_true,decide_eq_true_eq] at h
 obtain⟨⟨h1,h2⟩,_⟩:=h
 simp only[inR,Bool.and_eq_true,decide_eq_true_eq] at h1
 refine⟨⟨λe=>by rw[e] at h1;simp at h1,by omega⟩,λc hc=>?_⟩
 obtain⟨i,hi⟩:=List.getElem?_of_mem hc
 have h3:=allI_iff.1 h2 i c hi
 simp only[cdB,Bool.and_eq_true,inR,decide_eq_true_eq] at h3
 obtain⟨⟨⟨_,_⟩,h4⟩,h5⟩:=h3
 refine⟨by omega,by omega,λx hx=>?_⟩
 obtain⟨j,hj⟩:=List.getElem?_of_mem hx
 have h6:=allI_iff.1 h5 j x hj
 simp only[bkB,Bool.and_eq_true] at h6
 have h7:=h6.1.1.1.1
 rw[decide_eq_true_eq] at h7
 have h8:nxN x.jump<=2:=by
  unfold nxN
  split
  ·decide
  ·split
   ·decide
   ·split<;>decide
 omega
variable (G:ay)
theorem Es{b:List Int}(hb:Byt b)(hl:b.length<=2000){p:Nat}(hp:p<=9000000000):AC Tryz.prog G gV [.ptr 0 2 0 0] [rdO b p] λx h=>∃v q,x= .ret v/\h=[rdO b q]/\(∃cs,v= .agg [.p (cdL cs)]/\GU cs)/\p<=q/\q<=p+200010000:=by
 refine iE G (AC.go tt ?_)
 obtain⟨p1,hp1⟩:∃p1,p1=p+1:=⟨_,rfl⟩
 have hprog:AC Tryz.prog G fw [.ptr 0 2 0 0] [rdO b p1] λx h=>∃v q,x= .ret v/\h=[rdO b q]/\((∃l:List Fd,v= .agg [.p (fdL l)]/\cI l=true)/\p1<=q/\q<=p1+200000000):=
  (KJ G hb hl (by omega)).mono λx h ⟨l,q,e1,e2,e3,e4,e5,e6⟩=>⟨_,q,e1,e2,⟨l,rfl,e3⟩,e5,e6⟩
 simp-implicitDefEqProofs[ll]
 refine(aI G b hb hl p (by omega) 2 _).mono ?_
 rintro r h ⟨k1,rfl,rfl,_⟩
 rw[←hp1]
 simp-implicitDefEqProofs[aa]
 have alt:∀(rest:List AO) (q:Nat),p<=q->q<=p+200000001->AC Tryz.prog G dy [.ptr 0 2 0 0] (rdO b q::rest) λx h=>∃v q2,x= .ret v/\h=rdO b q2::rest/\(∃cs,v= .agg [.p (cdL cs)]/\SmU cs)/\q<=q2/\q2<=q+4000:=λrest q _ _=>iK G (Aa G hb hl (p:=q) (by omega)) rest (by simp[below])
 refine aG (λhc=>?_) (λhc=>?_)
 ·simp-implicitDefEqProofs[]
  refine(iK G hprog _ (by simp[below])).mono ?_
  rintro r h ⟨v,q,rfl,rfl,⟨l,rfl,hok⟩,h1,h2⟩
  have hz:=yE hok
  have hll:l.length<=4:=((mN l).1 hok).1.2
  simp-implicitDefEqProofs[aa]
  refine(FE G l (by omega) (zE hok)).use ?_
  have hu:=zZ G (unR l) (Io l (-1) (by omega) (by omega))
  simp-implicitDefEqProofs[]
  refine hu.use ?_
  simp-implicitDefEqProofs[]
  refine aG (λhv=>?_) (λhv=>?_)
  ·simp-implicitDefEqProofs[]
   exact⟨_,_,q,.agg [.p (cdL (unR l))],rfl,rfl,.keep (by simp) .nil,⟨_,rfl,LY hv⟩,by omega,by omega⟩
  ·simp-implicitDefEqProofs[]
   refine(alt _ q (by omega) (by omega)).mono ?_
   rintro r h ⟨v,q2,rfl,rfl,⟨cs,rfl,hs⟩,h3,h4⟩
   simp-implicitDefEqProofs[aa]
   exact⟨_,_,q2,.agg [.p (cdL cs)],rfl,rfl,.keep (by simp) .nil,⟨cs,rfl,⟨hs.1,by have:=hs.2.1;omega⟩,λc hc=>(hs.2.2 c hc).g⟩,by omega,by omega⟩
 ·simp-implicitDefEqProofs[]
  refine(alt _ p1 (by omega) (by omega)).mono ?_
  rintro r h ⟨v,q2,rfl,rfl,⟨cs,rfl,hs⟩,h3,h4⟩
  simp-implicitDefEqProofs[aa]
  exact⟨_,_,q2,.agg [.p (cdL cs)],rfl,rfl,.keep (by simp) .nil,⟨cs,rfl,⟨hs.1,by have:=hs.2.1;omega⟩,λc hc=>(hs.2.2 c hc).g⟩,by omega,by omega⟩
theorem Eg{b:List Int}(hb:Byt b)(hl:b.length<=2000){p:Nat}(hp:p<=8000000000):AC Tryz.prog G gW [.ptr 0 2 0 0] [rdO b p] λx h=>∃v q,x= .ret v/\h=[rdO b q]/\(∃cs,v= .agg [.p (cdL cs)]/\GU cs)/\p<=q/\q<=p+200020000:=by
 refine iE G (AC.go sr ?_)
 obtain⟨p1,hp1⟩:∃p1,p1=p+1:=⟨_,rfl⟩
 simp-implicitDefEqProofs[kU]
 refine(aI G b hb hl p (by omega) 12 _).mono ?_
 rintro r h ⟨k1,rfl,rfl,_⟩
 rw[←hp1]
 simp-implicitDefEqProofs[aa]
 refine aG (λhc=>?_) (λhc=>?_)
 ·simp-implicitDefEqProofs[]
  refine(iK G (EC G hb hl (p:=p1) (by omega)) _ (by simp[below])).mono ?_
  rintro r h ⟨v,q,rfl,rfl,⟨cs,rfl,hs⟩,h1,h2⟩
  simp-implicitDefEqProofs[aa]
  exact⟨_,_,q,.agg [.p (cdL cs)],rfl,rfl,.keep (by simp) .nil,⟨cs,rfl,hs⟩,by omega,by omega⟩
 ·simp-implicitDefEqProofs[]
  refine(iK G (Es G hb hl (p:=p1) (by omega)) _ (by simp[below])).mono ?_
  rintro r h ⟨v,q,rfl,rfl,⟨cs,rfl,hs⟩,h1,h2⟩
  simp-implicitDefEqProofs[aa]
  exact⟨_,_,q,.agg [.p (cdL cs)],rfl,rfl,.keep (by simp) .nil,⟨cs,rfl,hs⟩,by omega,by omega⟩
def CdQ(p n:Nat)(v:AV)(q:Nat):Prop:=(∃c:Cd,v= .agg (c.cs.map .p)/\GCd c)/\p<=q/\q<=p+n
theorem uY{b:List Int}(hb:Byt b)(hl:b.length<=2000){p:Nat}(hp:p<=7000000000):AC Tryz.prog G eq [.ptr 0 2 0 0] [rdO b p] λx h=>∃v q,x= .ret v/\h=[rdO b q]/\CdQ p 200020000 v q:=by
 refine iE G (AC.go sT ?_)
 simp-implicitDefEqProofs[kY]
 refine(iK G (Eg G hb hl (p:=p) (by omega)) _ (by simp[below])).mono ?_
 rintro r h ⟨v,q,rfl,rfl,⟨cs,rfl,hs⟩,h1,h2⟩
 have hcl:cdL cs= .lst 3 (cs.map Cd.cs):=rfl
 have hpos:=List.length_pos_iff.2 hs.1.1
 obtain⟨m,hm⟩:∃m,cs.length=m+1:=⟨cs.length-1,by omega⟩
 have hm4:=hs.1.2
 have hw:IntKind.i64.wrap (m:Int)=(m:Int):=ag (by omega) (by omega)
 have hg:cs[m]?=some cs[m]:=List.getElem?_eq_getElem (by omega)
 have hgc:=hs.2 _ (List.mem_of_getElem? hg)
 generalize cs[m]=c at hg hgc
 have hge:=λhh=>dV hg hh
 have hcc:=c.cs_eq2
 simp-implicitDefEqProofs[aa,hcl,hm,hw,hg,hge,hcc]
 exact⟨_,_,q,.agg (c.cs.map .p),rfl,rfl,.keep (by simp[hcc]) .nil,⟨c,rfl,hgc⟩,h1,h2⟩
def DrC(x:ARes):Prop:=∃c:Cd,x= .ret (.agg (c.cs.map .p))/\GCd c
theorem GM(x:ARes)(h:DrC x):∃v,x= .ret v/\below 0 v:=by
 obtain⟨c,rfl,_⟩:=h
 exact⟨_,rfl,by simp[below,c.cs_eq2]⟩
theorem FN(n:Nat)(b:List Int)(q:Nat):co n (rdO b q)=rdO b q:=by simp[rdO,co,cx,bp]
end
section
theorem GCd.csm{c:Cd}(h:GCd c):CSm c:=by
 obtain⟨_,h2,h3⟩:=h
 refine⟨⟨by omega,λx hx=>by have:=h3 x hx;omega⟩,?_⟩
 have key:∀l:List Bk,(∀x∈l,x.next.length<=2)->(l.map λx=>x.next.length).sum<=2*l.length:=by
  intro l
  induction l with
  |nil=>intro _;simp
  |cons a r ih=>
   intro h
   have h1:=h a (by simp)
   have h2:=ih λx hx=>h x (by simp[hx])
   simp only[List.map_cons,List.sum_cons,List.length_cons]
   omega
 have:=key _ h3
 omega
variable (G:ay)
end
section
def Out(h:List AO)(V:AV)(L:List Int):Prop:=(V= .nils/\L=[])\/∃id,V= .sl id 1 0 L.length/\h[id]?=some (.row 1 (am L))
theorem Out.view{h:List AO}{V:AV}{L:List Int}(o:Out h V L):View h V (aD L):=by
 rcases o with⟨rfl,rfl⟩|⟨id,rfl,e⟩
 ·exact .nils 1
 ·exact dg e
theorem Out.app{h:List AO}{V:AV}{L:List Int}(o:Out h V L)(t:List AO):Out (h++t) V L:=by
 rcases o with h1|⟨id,h1,h2⟩
 ·exact .inl h1
 ·exact .inr ⟨id,h1,by rw[List.getElem?_append_left (List.getElem?_eq_some_iff.1 h2).1];exact h2⟩
theorem Out.below{h:List AO}{V:AV}{L:List Int}(o:Out h V L):Aw.below h.length V:=by
 rcases o with⟨rfl,_⟩|⟨id,rfl,h2⟩
 ·simp[Aw.below]
 ·simp only[Aw.below];exact(List.getElem?_eq_some_iff.1 h2).1
variable (G:ay)
end
section
variable (G:ay)
theorem Hi(code:List Int)(hb:Byt code):AC Tryz.prog G gi [.p (oW code)] [] λx _=>DrC x:=by
 refine AC.go nu ?_
 simp-implicitDefEqProofs[gt]
 refine(AC.lift (Fc G code) (by simp) rfl rfl).mono ?_
 rintro r h ⟨rfl,rfl⟩
 have hbt:=zK hb 2000
 have hbl:(code.take 2000).length<=2000:=by rw[List.length_take];omega
 generalize code.take 2000=b at hbt hbl
 simp-implicitDefEqProofs[aa,bp,FN]
 refine(Mr G (uY G hbt hbl (p:=0) (by omega)) (λv q ⟨⟨c,e,_⟩,_⟩=>by rw[e];simp[below,c.cs_eq2]) (h:=[.row 3 [[.p (.int .i64 0),.p (.int .i64 0),.nils]],rdO b 0]) (k:=1) rfl trivial).mono ?_
 rintro r h ⟨v,q,rfl,rfl,⟨c,rfl,hg⟩,_⟩
 have hcc:=c.cs_eq2
 simp-implicitDefEqProofs[aa,hcc]
 exact⟨c,rfl,hg⟩
theorem tn(code:List Int)(hb:Byt code):AC Tryz.prog G dm [.p (oW code)] [] λx _=>DrC x:=by
 refine AC.go mj ?_
 simp-implicitDefEqProofs[fU]
 refine(AC.lift (Fc G code) (by simp) rfl rfl).mono ?_
 rintro r h ⟨rfl,rfl⟩
 have hbt:=zK hb 2000
 have hbl:(code.take 2000).length<=2000:=by rw[List.length_take];omega
 generalize code.take 2000=b at hbt hbl
 simp-implicitDefEqProofs[aa,bp,FN]
 refine(Mr G (uY G hbt hbl (p:=0) (by omega)) (λv q ⟨⟨c,e,_⟩,_⟩=>by rw[e];simp[below,c.cs_eq2]) (h:=[.row 3 [[.p (.int .i64 0),.p (.int .i64 0),.nils]],rdO b 0]) (k:=1) rfl trivial).mono ?_
 rintro r h ⟨v,q,rfl,rfl,⟨c,rfl,hg⟩,_⟩
 have hcc:=c.cs_eq2
 simp-implicitDefEqProofs[aa,hcc]
 exact⟨c,rfl,hg⟩
end
end Go.Proofs.YtdfplkcigiblcaaGreat
namespace Go.Proofs.YtdfplkcigiblcaaGreat
open Go
def lays189_ren:Go.Shelf.Ren:=⟨λ|125=>123|128=>138|129=>139|189=>101|215=>151|216=>135|257=>122|294=>129|295=>130|296=>131|297=>132|298=>133|299=>134|300=>136|301=>137|328=>146|329=>147|330=>148|331=>149|332=>150|343=>167|n=>n,λ|0=>0|3=>3|4=>4|5=>5|9=>9|28=>30|46=>101|51=>124|53=>126|131=>121|182=>116|183=>117|218=>145|222=>149|228=>171|229=>172|n=>n,λn=>n⟩
theorem yW:Lays.n189 Tryz.prog lays189_ren where
 mixed:=by kernel_rfl
 f125:=Tryz.func123.trans (congrArg some (by kernel_rfl))
 f128:=Tryz.func138.trans (congrArg some (by kernel_rfl))
 f129:=Tryz.func139.trans (congrArg some (by kernel_rfl))
 f189:=Tryz.func101.trans (congrArg some (by kernel_rfl))
 f215:=Tryz.func151.trans (congrArg some (by kernel_rfl))
 f216:=Tryz.func135.trans (congrArg some (by kernel_rfl))
 f257:=Tryz.func122.trans (congrArg some (by kernel_rfl))
 f294:=Tryz.func129.trans (congrArg some (by kernel_rfl))
 f295:=Tryz.func130.trans (congrArg some (by kernel_rfl))
 f296:=Tryz.func131.trans (congrArg some (by kernel_rfl))
 f297:=Tryz.func132.trans (congrArg some (by kernel_rfl))
 f298:=Tryz.func133.trans (congrArg some (by kernel_rfl))
 f299:=Tryz.func134.trans (congrArg some (by kernel_rfl))
 f300:=Tryz.func136.trans (congrArg some (by kernel_rfl))
 f301:=Tryz.func137.trans (congrArg some (by kernel_rfl))
 f328:=Tryz.func146.trans (congrArg some (by kernel_rfl))
 f329:=Tryz.func147.trans (congrArg some (by kernel_rfl))
 f330:=Tryz.func148.trans (congrArg some (by kernel_rfl))
 f331:=Tryz.func149.trans (congrArg some (by kernel_rfl))
 f332:=Tryz.func150.trans (congrArg some (by kernel_rfl))
 f343:=Tryz.func167.trans (congrArg some (by kernel_rfl))
 t0:=Tryz.underlying0
 a0:=Tryz.isAgg0
 z0:=Tryz.sizeOf0
 v0:=Tryz.zeroValue0
 t3:=Tryz.underlying3
 a3:=Tryz.isAgg3
 z3:=Tryz.sizeOf3
 v3:=Tryz.zeroValue3
 t4:=Tryz.underlying4
 a4:=Tryz.isAgg4
 z4:=Tryz.sizeOf4
 v4:=Tryz.zeroValue4
 t5:=Tryz.underlying5
 a5:=Tryz.isAgg5
 z5:=Tryz.sizeOf5
 v5:=Tryz.zeroValue5
 t9:=Tryz.underlying9
 a9:=Tryz.isAgg9
 z9:=Tryz.sizeOf9
 v9:=Tryz.zeroValue9
 t28:=Tryz.underlying30
 a28:=Tryz.isAgg30
 z28:=Tryz.sizeOf30
 v28:=Tryz.zeroValue30
 t46:=Tryz.underlying101
 a46:=Tryz.isAgg101
 z46:=Tryz.sizeOf101
 v46:=Tryz.zeroValue101
 t51:=Tryz.underlying124
 a51:=Tryz.isAgg124
 z51:=Tryz.sizeOf124
 v51:=Tryz.zeroValue124
 t53:=Tryz.underlying126
 a53:=Tryz.isAgg126
 z53:=Tryz.sizeOf126
 v53:=Tryz.zeroValue126
 t131:=Tryz.underlying121
 a131:=Tryz.isAgg121
 z131:=Tryz.sizeOf121
 v131:=Tryz.zeroValue121
 t182:=Tryz.underlying116
 a182:=Tryz.isAgg116
 z182:=Tryz.sizeOf116
 v182:=Tryz.zeroValue116
 t183:=Tryz.underlying117
 a183:=Tryz.isAgg117
 z183:=Tryz.sizeOf117
 v183:=Tryz.zeroValue117
 t218:=Tryz.underlying145
 a218:=Tryz.isAgg145
 z218:=Tryz.sizeOf145
 v218:=Tryz.zeroValue145
 t222:=Tryz.underlying149
 a222:=Tryz.isAgg149
 z222:=Tryz.sizeOf149
 v222:=Tryz.zeroValue149
 t228:=Tryz.underlying171
 a228:=Tryz.isAgg171
 z228:=Tryz.sizeOf171
 v228:=Tryz.zeroValue171
 t229:=Tryz.underlying172
 a229:=Tryz.isAgg172
 z229:=Tryz.sizeOf172
 v229:=Tryz.zeroValue172
def lays20_ren:Go.Shelf.Ren:=⟨λ|20=>102|n=>n,λ|0=>0|3=>3|4=>4|22=>30|n=>n,λn=>n⟩
theorem Bz:Lays2.n20 Tryz.prog lays20_ren where
 mixed:=by kernel_rfl
 f20:=Tryz.func102.trans (congrArg some (by kernel_rfl))
 t0:=Tryz.underlying0
 a0:=Tryz.isAgg0
 z0:=Tryz.sizeOf0
 v0:=Tryz.zeroValue0
 t3:=Tryz.underlying3
 a3:=Tryz.isAgg3
 z3:=Tryz.sizeOf3
 v3:=Tryz.zeroValue3
 t4:=Tryz.underlying4
 a4:=Tryz.isAgg4
 z4:=Tryz.sizeOf4
 v4:=Tryz.zeroValue4
 t22:=Tryz.underlying30
 a22:=Tryz.isAgg30
 z22:=Tryz.sizeOf30
 v22:=Tryz.zeroValue30
 i3:=by kernel_rfl
end Go.Proofs.YtdfplkcigiblcaaGreat
namespace Go.Proofs.YtdfplkcigiblcaaGreat
open Go Go.Aw
set_option maxRecDepth 100000
set_option maxHeartbeats 4000000
section
structure VH (c:Cd) (X:List AO) (seen:List Bool) (out:List Nat):Prop where
 len:5<=X.length
 code:X[0]?=some (.row 3 [[.p (.int .i64 c.params),.p (.int .i64 c.regs),.p (bkL c.blocks)]])
 se:X[2]?=some (.row 1 (bq seen))
 sb:X[3]?=some (.row 1 [[.sl 2 1 0 c.blocks.length]])
 fn:X[4]?=some (.row 1 [[.fn (.func cD) [.ptr 3 1 0 0,.ptr 0 3 0 0,.ptr 4 1 0 0,.ptr 1 1 0 0]]])
 ou:∃V,X[1]?=some (.row 1 [[V]])/\((V= .nils/\out=[])\/∃id,5<=id/\V= .sl id 1 0 out.length/\X[id]?=some (.row 1 (am (aC out))))
 sl:seen.length=c.blocks.length
structure VsS where (i:Nat) (X:List AO)
variable (G:ay)
theorem BX(c:Cd)(hc:CBd c)(hfit:aP c.blocks=true):∀(f:Nat) (X:List AO) (b:Nat) (seen:List Bool) (out:List Nat),b<c.blocks.length->sn seen b=false->fls seen<=f->VH c X seen out->out.length+fls seen<=1073741824->
 AC Tryz.prog G cD [.p (.int .i64 b),.ptr 3 1 0 0,.ptr 0 3 0 0,.ptr 4 1 0 0,.ptr 1 1 0 0] X λx X'=>x= .ret (.tup [])/\X.length<=X'.length/\VH c X' (dfs (nxC c.blocks) f (seen,out) b).1 (dfs (nxC c.blocks) f (seen,out) b).2:=by
 intro f
 induction f with
 |zero=>
  intro X b seen out hb hsb hf
  have:=fY hsb
  omega
 |succ f ih=>
  intro X b seen out hb hsb hf hX hsz
  have hsl:=hX.sl
  have hbl:bkL c.blocks= .lst 5 (c.blocks.map Bk.cs):=rfl
  have hl1:=hc.1
  have hgb:=List.getElem?_eq_getElem hb
  have hmb:=List.getElem_mem hb
  generalize c.blocks[b]=x at hgb hmb
  have hnx:=hc.2 _ hmb
  have hxs:=x.cs_eq2
  have hnl:aD x.next= .lst 1 (x.next.map λn=>[.int .i64 n]):=rfl
  have hset:=fY hsb
  have hD0:∀i,(cg (nxC c.blocks) f (seen.set b true,out) ((nxC c.blocks b).take i)).2.length+fls (cg (nxC c.blocks) f (seen.set b true,out) ((nxC c.blocks b).take i)).1+1=out.length+fls seen/\(cg (nxC c.blocks) f (seen.set b true,out) ((nxC c.blocks b).take i)).1.length=seen.length/\fls (cg (nxC c.blocks) f (seen.set b true,out) ((nxC c.blocks b).take i)).1<=f:=λi=>by
   have:=(rJ (nxC c.blocks) f).1 ((nxC c.blocks b).take i) (seen.set b true,out) (by simp only;omega)
   simp only[List.length_set] at this
   omega
  obtain⟨D,hD⟩:∃D:Nat->List Bool × List Nat,D=λi=>cg (nxC c.blocks) f (seen.set b true,out) ((nxC c.blocks b).take i):=⟨_,rfl⟩
  have hDz:D 0=(seen.set b true,out):=by rw[hD];rfl
  have hDs:∀(i:Nat) (m:Nat),(nxC c.blocks b)[i]?=some m->D (i+1)=if sn (D i).1 m then D i else dfs (nxC c.blocks) f (D i) m:=λi m h=>by
   rw[hD];exact vh h
  have hDe:dfs (nxC c.blocks) (f+1) (seen,out) b=((D x.next.length).1,(D x.next.length).2++[b]):=by
   rw[lG,hD]
   have:(nxC c.blocks b).take x.next.length=nxC c.blocks b:=by rw[jy hgb,List.take_of_length_le (by simp)]
   simp only[this]
  have hD1:∀i,(D i).2.length+fls (D i).1+1=out.length+fls seen/\(D i).1.length=seen.length/\fls (D i).1<=f:=λi=>by rw[hD];exact hD0 i
  clear hD0 hD
  have hXl:=hX.len
  have hrow:(bq seen)[b]?=some [.p (.bool false)]:=by rw[←hsb];exact cQ (jZ (by omega))
  refine AC.go rx ?_
  have e0:∀t,(X.set 2 t)[0]?=some (.row 3 [[.p (.int .i64 c.params),.p (.int .i64 c.regs),.p (bkL c.blocks)]]):=λt=>by rw[List.getElem?_set_ne (by omega)];exact hX.code
  simp-implicitDefEqProofs[kj,hX.sb,hX.se,hrow,cN,e0,hbl,hgb,hxs,hnl]
  refine⟨hb,?_⟩
  have hVz:VH c (X.set 2 (.row 1 (bq (seen.set b true)))) (D 0).1 (D 0).2:=by
   rw[hDz]
   refine⟨by simp;omega,e0 _,by rw[List.getElem?_set_self (by omega)],by rw[List.getElem?_set_ne (by omega)];exact hX.sb,by rw[List.getElem?_set_ne (by omega)];exact hX.fn,?_,by rw[List.length_set];exact hsl⟩
   obtain⟨V,h1,h2⟩:=hX.ou
   refine⟨V,by rw[List.getElem?_set_ne (by omega)];exact h1,h2.imp id λ⟨id,a1,a2,a3⟩=>⟨id,a1,a2,by rw[List.getElem?_set_ne (by omega)];exact a3⟩⟩
  have hlz:X.length<=(X.set 2 (.row 1 (bq (seen.set b true)))).length:=by simp
  generalize X.set 2 (.row 1 (bq (seen.set b true)))=X0 at hVz hlz
  refine aH (λa:VsS=>aB 35 [(18,.p (.int .i64 a.i)),(17,.p (.int .i64 x.next.length)),(16,.p (.lst 1 (x.next.map λn=>[.int .i64 n]))),(0,.p (.int .i64 b)),(1,.ptr 3 1 0 0),(2,.ptr 0 3 0 0),(3,.ptr 4 1 0 0),(4,.ptr 1 1 0 0)]) (λa=>a.X)
   (λa=>a.i<=x.next.length/\X.length<=a.X.length/\VH c a.X (D a.i).1 (D a.i).2) (λa=>x.next.length-a.i) ⟨0,X0⟩ ⟨Nat.zero_le _,hlz,hVz⟩ (ab hlz (by have:=hVz.len;simp[below];omega)) ?_
  clear hVz hlz X0 e0
  rintro⟨i,Y⟩ ⟨hi,hYl,hY⟩
  simp only at hi hYl hY
  have hY5:=hY.len
  simp-implicitDefEqProofs[]
  refine aG (λhc1=>?_) (λhc1=>?_)
  ·simp at hc1
   have hg2:=List.getElem?_eq_getElem hc1
   generalize x.next[i]=r at hg2
   have hr:=rO hfit hgb (List.mem_of_getElem? hg2)
   have hrn:((r.toNat:Nat):Int)=r:=by omega
   have hDn:=hDs i r.toNat (Cp hgb hg2)
   generalize hm:r.toNat=m at hrn hDn
   subst hrn
   have hml:m<c.blocks.length:=by omega
   have⟨q1,q2,q3⟩:=hD1 i
   have hrw:(bq (D i).1)[m]?=some [.p (.bool (sn (D i).1 m))]:=cQ (jZ (by omega))
   have hw1:=w1 (i:=i) (by omega)
   simp-implicitDefEqProofs[hg2,hY.sb,hY.se,hrw,hml]
   refine aG (λhe=>?_) (λhe=>?_)
   ·have he:sn (D i).1 m=false:=by simpa using he
    simp only[he,Bool.false_eq_true,if_false] at hDn
    have hcall:=ih Y m (D i).1 (D i).2 hml he q3 hY (by omega)
    simp-implicitDefEqProofs[hY.fn]
    refine hcall.mono ?_
    rintro rr Z ⟨rfl,z1,z2⟩
    rw[show((D i).1,(D i).2)=D i from rfl,←hDn] at z2
    simp-implicitDefEqProofs[aa]
    exact⟨⟨i+1,Z⟩,⟨by simp only;omega,by simp only;omega,z2⟩,by simp only;omega,ab (by omega) (by have:=z2.len;simp[below,hw1];omega)⟩
   ·have he:sn (D i).1 m=true:=by simpa using he
    simp only[he,if_true] at hDn
    simp-implicitDefEqProofs[]
    exact⟨⟨i+1,Y⟩,⟨by simp only;omega,hYl,by simp only[hDn];exact hY⟩,by simp only;omega,ab (by omega) (by simp[below,hw1];omega)⟩
  ·simp at hc1
   have hie:i=x.next.length:=by omega
   subst hie
   rw[hDe]
   have⟨q1,q2,q3⟩:=hD1 x.next.length
   generalize D x.next.length=Z at*
   obtain⟨V,v1,v2⟩:=hY.ou
   have v1':∀t,(Y++t)[1]?=some (.row 1 [[V]]):=λt=>by rw[List.getElem?_append_left (by omega)];exact v1
   have v1e:=λt hh=>GQ (v1' t) hh
   rcases v2 with⟨rfl,hn⟩|⟨id,hid,rfl,v3⟩
   ·simp-implicitDefEqProofs[v1,v1',v1e]
    refine⟨by omega,by simp;omega,?_,?_,?_,?_,⟨.sl (Y.length+1) 1 0 1,?_,.inr ⟨Y.length+1,by omega,by rw[hn];rfl,?_⟩⟩,by rw[q2];exact hsl⟩
    ·rw[List.getElem?_set_ne (by omega),List.getElem?_append_left (by omega)];exact hY.code
    ·rw[List.getElem?_set_ne (by omega),List.getElem?_append_left (by omega)];exact hY.se
    ·rw[List.getElem?_set_ne (by omega),List.getElem?_append_left (by omega)];exact hY.sb
    ·rw[List.getElem?_set_ne (by omega),List.getElem?_append_left (by omega)];exact hY.fn
    ·rw[List.getElem?_set_self (by simp)]
    ·rw[List.getElem?_set_ne (by omega),List.getElem?_append_right (by omega),hn];simp[am,aC]
   ·have hol:=(List.getElem?_eq_some_iff.1 v3).1
    have htl:List.take Z.2.length (am (aC Z.2))=am (aC Z.2):=List.take_of_length_le (by simp[am,aC])
    have hrl:(am (aC Z.2)).length=Z.2.length:=by simp[am,aC]
    have hxm:∀t,(Y++t)[id]?=some (.row 1 (am (aC Z.2))):=λt=>by rw[List.getElem?_append_left hol];exact v3
    have v4:∀t t',((Y++t).set id .dead++t')[1]?=some (.row 1 [[.sl id 1 0 Z.2.length]]):=λt t'=>by
     rw[List.getElem?_append_left (by simp;omega),List.getElem?_set_ne (by omega)];exact v1' t
    have v4e:=λt t' hh=>GQ (v4 t t') hh
    simp-implicitDefEqProofs[v1,v1',v1e,hxm,htl,hrl,v4,v4e]
    refine⟨⟨by omega,by omega⟩,by omega,by simp;omega,?_,?_,?_,?_,⟨.sl (Y.length+1) 1 0 (Z.2.length+1),?_,.inr ⟨Y.length+1,by omega,by simp,?_⟩⟩,by rw[q2];exact hsl⟩
    ·rw[List.getElem?_set_ne (by omega),List.getElem?_append_left (by simp<;>omega),List.getElem?_set_ne (by omega),List.getElem?_append_left (by omega)];exact hY.code
    ·rw[List.getElem?_set_ne (by omega),List.getElem?_append_left (by simp;omega),List.getElem?_set_ne (by omega),List.getElem?_append_left (by omega)];exact hY.se
    ·rw[List.getElem?_set_ne (by omega),List.getElem?_append_left (by simp;omega),List.getElem?_set_ne (by omega),List.getElem?_append_left (by omega)];exact hY.sb
    ·rw[List.getElem?_set_ne (by omega),List.getElem?_append_left (by simp;omega),List.getElem?_set_ne (by omega),List.getElem?_append_left (by omega)];exact hY.fn
    ·rw[List.getElem?_set_self (by simp)]
    ·rw[List.getElem?_set_ne (by omega),List.getElem?_append_right (by simp),mb];simp[am,aC]
def kB(bs:List Bk):List Nat:=(dfs (nxC bs) bs.length (List.replicate bs.length false,[]) 0).2
theorem DF(c:Cd)(hc:CBd c)(hfit:aP c.blocks=true):AC Tryz.prog G jc [.agg (c.cs.map .p)] [] λr h=>∃id,kB c.blocks≠[]/\r= .ret (.sl id 1 0 (kB c.blocks).length)/\h[id]?=some (.row 1 (am (aC (kB c.blocks)))):=by
 have hcs:=c.cs_eq2
 have hbl:bkL c.blocks= .lst 5 (c.blocks.map Bk.cs):=rfl
 have hl1:=hc.1
 have hpos:=bN hfit
 have hsl:(List.replicate c.blocks.length false).length=c.blocks.length:=List.length_replicate
 have h0:sn (List.replicate c.blocks.length false) 0=false:=by rw[dE];exact decide_eq_false (by omega)
 have hne:kB c.blocks≠[]:=by
  rw[kB]
  obtain⟨n,hn⟩:∃n,c.blocks.length=n+1:=⟨c.blocks.length-1,by omega⟩
  rw[hn,lG]
  simp
 have hv:=BX G c hc hfit c.blocks.length [.row 3 [[.p (.int .i64 c.params),.p (.int .i64 c.regs),.p (bkL c.blocks)]],.row 1 [[.nils]],.row 1 (bq (List.replicate c.blocks.length false)),.row 1 [[.sl 2 1 0 c.blocks.length]],.row 1 [[.fn (.func cD) [.ptr 3 1 0 0,.ptr 0 3 0 0,.ptr 4 1 0 0,.ptr 1 1 0 0]]]] 0 (List.replicate c.blocks.length false) [] hpos h0 (by rw[kf];exact Nat.le_refl _) ⟨by simp,rfl,rfl,rfl,rfl,⟨_,rfl,.inl ⟨rfl,rfl⟩⟩,hsl⟩ (by rw[kf];simp;omega)
 rw[hbl] at hv
 refine AC.go uj ?_
 simp-implicitDefEqProofs[mI,hcs,hbl,ve]
 refine⟨by omega,?_⟩
 refine hv.mono ?_
 rintro r Y ⟨rfl,hYl,hY⟩
 obtain⟨V,v1,v2⟩:=hY.ou
 have hY5:=hY.len
 change (V= .nils/\kB c.blocks=[])\/∃id,5<=id/\V= .sl id 1 0 (kB c.blocks).length/\Y[id]?=some (.row 1 (am (aC (kB c.blocks)))) at v2
 rcases v2 with⟨_,hn⟩|⟨id,hid,rfl,v3⟩
 ·exact absurd hn hne
 ·simp-implicitDefEqProofs[aa,v1]
  exact⟨hne,v3⟩
theorem pn(l:List Int)(i:Nat)(x:Int):(am l).set i [.p (.int .i64 x)]=am (l.set i x):=by simp[am,List.map_set]
theorem AE{α:Type}{l:List α}{k:Nat}{x:α}(h:l[k]?=some x):l.set k x=l:=by
 obtain⟨hk,rfl⟩:=List.getElem?_eq_some_iff.1 h
 exact List.set_getElem_self hk
theorem Jd{f:FuncId}{args:List AV}{l:List Int}(H:AC Tryz.prog G f args [] λr h=>∃id,r= .ret (.sl id 1 0 l.length)/\h[id]?=some (.row 1 (am l))):AC Tryz.prog G f args [] λr h=>r= .ret (.sl 0 1 0 l.length)/\h=[.row 1 (am l)]:=
 H.gc (λt v h ⟨_,e,_⟩=>by cases e) λv h ⟨id,e1,e2⟩=>by
  cases e1
  refine⟨.sl 0 1 0 l.length,[.row 1 (am l)],⟨[id],by simp,λi hi=>by simp at hi,by simp,by simp[below],by simp[ren],cV e2 (λx hx=>by obtain⟨n,_,rfl⟩:=List.mem_map.1 hx;simp[below]) gG⟩,rfl,rfl⟩
end
section
theorem Fy{l:List Nat}(nd:l.Nodup){i j x:Nat}(hi:l[i]?=some x)(hj:l[j]?=some x):i=j:=by
 obtain⟨h1,e1⟩:=List.getElem?_eq_some_iff.1 hi
 obtain⟨h2,e2⟩:=List.getElem?_eq_some_iff.1 hj
 have hp:=List.pairwise_iff_getElem.1 nd
 rcases Nat.lt_trichotomy i j with h|h|h
 ·exact absurd (e1.trans e2.symm) (hp i j h1 h2 h)
 ·exact h
 ·exact absurd (e2.trans e1.symm) (hp j i h2 h1 h)
theorem Gp{l:List Nat}(nd:l.Nodup):l.reverse.Nodup:=List.pairwise_reverse.2 (List.Pairwise.imp Ne.symm nd)
theorem HI{bs:List Bk}(h:aP bs=true):sn (List.replicate bs.length false) 0=false:=by
 rw[dE]
 have:=bN h
 have e1:¬bs.length<=0:=by omega
 simp only[e1,decide_false]
theorem KE{bs:List Bk}(h:aP bs=true):∃l,kB bs=l++[0]/\(l++[0]).Nodup/\(∀x,x∈l++[0]↔bg bs x=true)/\∀x∈l,∃p,Aft (l++[0]) x p/\x∈nxC bs p:=by
 obtain⟨l,o,hl⟩:=sU (nx:=nxC bs) [] (HI h) (f:=bs.length) (by rw[kf];exact Nat.le_refl _)
 have h0:0∉l:=by
  have:=o.nodup
  rw[List.nodup_append] at this
  exact λhm=>this.2.2 0 hm 0 (by simp) rfl
 refine⟨l,by rw[kB,o.outE];rfl,o.nodup,λx=>?_,λx hx=>?_⟩
 ·rw[hl x,rchB_iff]
  have e:(λy=>sn (List.replicate bs.length false) y=true)=λy=>False\/bs.length<=y:=by
   funext y;rw[dE];simp
  rw[e]
  exact Gz h
 ·rcases o.par x (by simp[hx]) with h1|h1
  ·rw[List.mem_singleton] at h1
   subst h1;exact absurd hx h0
  ·exact h1
def mR(bs:List Bk):List Nat:=(kB bs).reverse
structure OrdOk (bs:List Bk) (l:List Nat):Prop where
 head:∃t,l=0::t
 nd:l.Nodup
 mem:∀x,x∈l↔bg bs x=true
 par:∀(i:Nat) x,l[i+1]?=some x->∃p∈l.take (i+1),x∈nxC bs p
theorem tA{bs:List Bk}(h:aP bs=true):OrdOk bs (mR bs):=by
 obtain⟨l,e,nd,hm,hp⟩:=KE h
 have e2:mR bs=0::l.reverse:=by rw[mR,e];simp
 refine⟨⟨_,e2⟩,?_,λx=>?_,λi x hi=>?_⟩
 ·rw[mR,e];exact Gp nd
 ·rw[mR,List.mem_reverse,e];exact hm x
 ·rw[e2,List.getElem?_cons_succ] at hi
  have hx:x∈l:=List.mem_reverse.1 (List.mem_of_getElem? hi)
  obtain⟨p,⟨u,v,e3,hv⟩,hn⟩:=hp x hx
  refine⟨p,?_,hn⟩
  rw[mR,e,e3,List.reverse_append,List.reverse_cons,List.append_assoc]
  have hil:i+1<((l++[0]).reverse).length:=by
   have:=(List.getElem?_eq_some_iff.1 hi).1
   simp at this⊢;omega
  have hg:(v.reverse++([x]++u.reverse))[i+1]?=some x:=by
   rw[←hi]
   have:v.reverse++([x]++u.reverse)=0::l.reverse:=by
    rw[←e2,mR,e,e3,List.reverse_append,List.reverse_cons,List.append_assoc]
   rw[this,List.getElem?_cons_succ]
  have hnd:(v.reverse++([x]++u.reverse)).Nodup:=by
   have:=Gp nd
   rwa[e3,List.reverse_append,List.reverse_cons,List.append_assoc] at this
  have hlv:v.length=i+1:=by
   have h1:(v.reverse++([x]++u.reverse))[v.length]?=some x:=by
    rw[List.getElem?_append_right (by simp)];simp
   exact Fy hnd h1 hg
  rw[←hlv,List.take_append_of_le_length (by simp)]
  rw[List.take_of_length_le (by simp)]
  exact List.mem_reverse.2 hv
theorem uT{l:List Nat}{p:Nat->Bool}{n:Nat}(nd:l.Nodup)(h:∀x,x∈l↔x<n/\p x=true):l.length=((List.range n).filter p).length:=by
 have h2:((List.range n).filter p).Nodup:=List.Nodup.sublist List.filter_sublist List.nodup_range
 exact((List.perm_ext_iff_of_nodup nd h2).2 λx=>by rw[h x,List.mem_filter,List.mem_range]).length_eq
theorem Jp{bs:List Bk}(h:aP bs=true):(mR bs).length=(dL (bg bs) bs.length).length:=by
 rw[dL,List.length_map]
 exact uT (tA h).nd λx=>by
  rw[(tA h).mem x]
  exact⟨λhx=>⟨pA h (rchB_iff.1 hx),hx⟩,λhx=>hx.2⟩
theorem pN{l:List Nat}{x:Nat}:(x:Int)∈aC l↔x∈l:=by
 simp only[aC,List.mem_map]
 constructor
 ·rintro⟨y,hy,e⟩
  have:y=x:=by have e:(y:Int)=(x:Int):=e;omega
  exact this▸hy
 ·exact λh=>⟨x,h,rfl⟩
theorem Gl{p:Nat->Bool}{n x:Nat}:(x:Int)∈dL p n↔x<n/\p x=true:=by
 rw[dL]
 have:= @pN ((List.range n).filter p) x
 rw[aC] at this
 rw[this,List.mem_filter,List.mem_range]
theorem Gv{p:Nat->Bool}{n:Nat}{x:Int}(h:x∈dL p n):0<=x/\x.toNat<n/\p x.toNat=true/\((x.toNat:Nat):Int)=x:=by
 rw[dL,List.mem_map] at h
 obtain⟨y,hy,rfl⟩:=h
 rw[List.mem_filter,List.mem_range] at hy
 exact⟨Int.natCast_nonneg y,by simpa using hy.1,by simpa using hy.2,by simp⟩
theorem tm(bs:List Bk):bg bs 0=true:=rchB_iff.2 Rch.zero
end
section
theorem rm{xs:List Int}(hp:xs.Pairwise (· <= ·)):∀j,j<xs.length->∃i,i<=j/\Lib.keeps xs.toArray i=true/\xs[i]! =xs[j]! :=by
 intro j
 induction j with
 |zero=>intro h;exact⟨0,Nat.le_refl _,Lib.keeps_lt_one _ 0 (by omega),rfl⟩
 |succ j ih=>
  intro h
  by_cases e:xs.toArray[j+1]! =xs.toArray[j+1-1]!
  ·obtain⟨i,h1,h2,h3⟩:=ih (by omega)
   refine⟨i,by omega,h2,?_⟩
   have e':xs[j+1]! =xs[j]! :=by simpa using e
   rw[h3,e']
  ·exact⟨j+1,Nat.le_refl _,Lib.keeps_pos e,rfl⟩
theorem yz(xs:List Int):(Lib.compact xs).length<=xs.length:=by
 unfold Lib.compact Lib.compactUpTo
 rw[List.length_map]
 have:=List.length_filter_le (Lib.keeps xs.toArray) (List.range xs.length)
 rwa[List.length_range] at this
theorem yq{xs:List Int}(hp:xs.Pairwise (· <= ·))(x:Int):x∈Lib.compact xs↔x∈xs:=by
 unfold Lib.compact Lib.compactUpTo
 simp only[List.mem_map,List.mem_filter,List.mem_range]
 constructor
 ·rintro⟨j,⟨h1,_⟩,rfl⟩
  have e:xs.toArray[j]! =xs[j]:=by simp[h1]
  rw[e]
  exact List.getElem_mem h1
 ·intro h
  obtain⟨j,hj,rfl⟩:=List.mem_iff_getElem.1 h
  obtain⟨i,h1,h2,h3⟩:=rm hp j hj
  refine⟨i,⟨by omega,h2⟩,?_⟩
  have e:xs.toArray[i]! =xs[i]! :=by simp
  rw[e,h3]
  simp[hj]
theorem Ae{xs:List Int}(hp:xs.Pairwise (· <= ·)):(Lib.compact xs).Pairwise (· < ·):=by
 unfold Lib.compact Lib.compactUpTo
 rw[List.pairwise_map]
 have hr:((List.range xs.length).filter (Lib.keeps xs.toArray)).Pairwise (· < ·):=List.Pairwise.filter _ List.pairwise_lt_range
 refine List.Pairwise.imp_of_mem (λ{a b} ha hb hab=>?_) hr
 simp only[List.mem_filter,List.mem_range] at ha hb
 obtain⟨hbl,hbk⟩:=hb
 unfold Lib.keeps at hbk
 have hne:xs.toArray[b]! ≠xs.toArray[b-1]! :=by
  rcases of_decide_eq_true hbk with h|h
  ·omega
  ·exact h
 have h1:xs.toArray[b]! =xs[b]:=by simp[hbl]
 have h2:xs.toArray[b-1]! =xs[b-1]:=by simp[show b-1<xs.length by omega]
 have h3:xs.toArray[a]! =xs[a]:=by simp[ha.1]
 rw[h1,h2] at hne
 rw[h1,h3]
 have k1:xs[b-1]<=xs[b]:=List.pairwise_iff_getElem.1 hp (b-1) b (by omega) hbl (by omega)
 have k2:xs[a]<=xs[b-1]:=by
  by_cases e:a=b-1
  ·subst e;exact Int.le_refl _
  ·exact List.pairwise_iff_getElem.1 hp a (b-1) ha.1 (by omega) (by omega)
 omega
theorem AB(xs:List Int):(xs.mergeSort λx y=>decide (x<=y)).Pairwise (· <= ·):=by
 have:=List.pairwise_mergeSort (le:=λx y:Int=>decide (x<=y)) (λa b c h1 h2=>by simp at*;omega) (λa b=>by simp;omega) xs
 exact this.imp λh=>by simpa using h
theorem BS{a b:List Int}(ha:a.Pairwise (· < ·))(hb:b.Pairwise (· < ·))(hm:∀x,x∈a↔x∈b):a=b:=by
 refine List.Perm.eq_of_pairwise (le:=(· < ·)) (λx y _ _ h1 h2=>by omega) ha hb ?_
 exact(List.perm_ext_iff_of_nodup (ha.imp λh=>by omega) (hb.imp λh=>by omega)).2 hm
theorem Hw(p:Nat->Bool)(n:Nat):(dL p n).Pairwise (· < ·):=by
 rw[dL,List.pairwise_map]
 exact(List.Pairwise.filter _ List.pairwise_lt_range).imp λh=>by
  have h:_<_:=h
  exact Int.ofNat_lt.2 h
theorem Ep{p:Nat->Bool}{n:Nat}{x:Int}:x∈dL p n↔0<=x/\x.toNat<n/\p x.toNat=true:=by
 constructor
 ·intro h
  obtain⟨h1,h2,h3,_⟩:=Gv h
  exact⟨h1,h2,h3⟩
 ·rintro⟨h1,h2,h3⟩
  have:=(Gl (p:=p) (n:=n) (x:=x.toNat)).2 ⟨h2,h3⟩
  rwa[show((x.toNat:Nat):Int)=x by omega] at this
def inI(l:List Int)(k:Nat):Bool:=decide ((k:Int)∈l)
def ra(l:List Int):List Int:=Lib.compact (l.mergeSort λx y=>decide (x<=y))
theorem Hh{l:List Int}{n:Nat}(h:∀x∈l,0<=x/\x.toNat<n):ra l=dL (inI l) n:=by
 refine BS (Ae (AB l)) (Hw _ _) λx=>?_
 rw[ra,yq (AB l),List.mem_mergeSort,Ep,inI,decide_eq_true_iff]
 constructor
 ·intro hx
  obtain⟨h1,h2⟩:=h x hx
  exact⟨h1,h2,by rwa[show((x.toNat:Nat):Int)=x by omega]⟩
 ·rintro⟨h1,_,h3⟩
  rwa[show((x.toNat:Nat):Int)=x by omega] at h3
end
section
theorem AC.shelfNil{P:Program}{G:ay}{f:FuncId}{h:List AO}{rv:AV}{r:Value}(hf:eH P f=true)(hr:∀(W:World) (S:Nat->Prop) (φ:Aw.Place) (n:Nat),VRel W S φ n rv r)
 (H:∀W:World,Calls P f #[.slice none 0 0] W λe W'=>e= .returned r/\W'=W):AC P G f [.nils] h λx h'=>x= .ret rv/\h'=h:=by
 refine⟨hf,λW S φ vs hH hA=>?_⟩
 have hs1:vs.size=1:=hA.1
 obtain⟨v0,rfl⟩:∃v0,vs=#[v0]:=⟨vs[0],by
  apply Array.ext
  ·simp[hs1]
  ·intro i h1 h2
   have:i=0:=by omega
   subst this;rfl⟩
 have hv:=hA.2 0 _ v0 rfl rfl
 cases hv
 refine(H W).mono ?_
 rintro e W' ⟨rfl,rfl⟩
 exact⟨.ret rv,S,φ,h,⟨rfl,rfl⟩,hH,.ret _ _ (hr _ _ _ _),Keep.refl hH⟩
theorem AC.shelfEmpty{P:Program}{G:ay}{f:FuncId}{h:List AO}{id sz off:Nat}{rv:AV}{r:Option Addr->Nat->Value}(hf:eH P f=true)(hr:∀(W:World) (S:Nat->Prop) (φ:Aw.Place) (n:Nat) (p:Option Addr) (cap:Nat),VRel W S φ n (.sl id sz off 0) (.slice p 0 cap)->VRel W S φ n rv (r p cap))
 (H:∀(W:World) (p:Option Addr) (cap:Nat),Calls P f #[.slice p 0 cap] W λe W'=>e= .returned (r p cap)/\W'=W):AC P G f [.sl id sz off 0] h λx h'=>x= .ret rv/\h'=h:=by
 refine⟨hf,λW S φ vs hH hA=>?_⟩
 have hs1:vs.size=1:=hA.1
 obtain⟨v0,rfl⟩:∃v0,vs=#[v0]:=⟨vs[0],by
  apply Array.ext
  ·simp[hs1]
  ·intro i h1 h2
   have:i=0:=by omega
   subst this;rfl⟩
 have hv:=hA.2 0 _ v0 rfl rfl
 have hv2:=hv
 cases hv with
 |sl _ _ _ _ cap ba _ hl hb hc=>
  refine(H W ba cap).mono ?_
  rintro e W' ⟨rfl,rfl⟩
  exact⟨.ret rv,S,φ,h,⟨rfl,rfl⟩,hH,.ret _ _ (hr _ _ _ _ _ _ hv2),Keep.refl hH⟩
variable (G:ay)
theorem JV{h:List AO}{id:Nat}{xs:List Int}(hid:h[id]?=some (jm xs))(hx:xs≠[])(hb:xs.length<4611686018427387904):
 AC Tryz.prog G (lays189_ren.f 189) [.sl id 1 0 xs.length] h λx h'=>x= .ret (.tup [])/\h'=h.set id (jm (xs.mergeSort λx y=>decide (x<=y))):=
 AC.shelfInts (r:=λ_ _ _=> .tuple #[]) (by kernel_rfl) hid hx (by simp) (λ_ _ _ _ _ _ _ _=> .tup [] #[] rfl (λj c v e=>by simp at e))
  λblk off cap W hH hbk _=>Any.slices_Sort_int yW blk off cap xs W hH hbk hb
theorem Eb{h:List AO}{id:Nat}{xs:List Int}(hid:h[id]?=some (jm xs))(hx:xs≠[])(hb:xs.length<=9223372036854775807)(hl:(Lib.compact xs).length<=xs.length):
 AC Tryz.prog G (lays20_ren.f 20) [.sl id 1 0 xs.length] h λx h'=>x= .ret (.sl id 1 0 (Lib.compact xs).length)/\h'=h.set id (jm (Lib.compact xs++List.replicate (xs.length-(Lib.compact xs).length) 0)):=by
 refine AC.shelfInts (r:=λblk off cap=> .slice (some ⟨blk,off,none⟩) (Lib.compact xs).length cap) (by kernel_rfl) hid hx (by simp;omega) (λW S φ n cap hi hc hs=>?_) λblk off cap W hH hbk hcap=>?_
 ·exact .sl id 1 0 _ cap _ hi (by omega) (λ_=>by simp) (λc t fr e=>by have:=hs c t fr e;omega)
 ·refine(Any.slices_Compact_int Bz blk off cap xs W hH hb hcap).mono ?_
  rintro e W' ⟨rfl,q,rfl⟩
  exact⟨rfl,q,#[],by simp⟩
theorem zk(id:Nat)(h:List AO):AC Tryz.prog G (lays189_ren.f 189) [.sl id 1 0 0] h λx h'=>x= .ret (.tup [])/\h'=h:=
 AC.shelfEmpty (r:=λ_ _=> .tuple #[]) (by kernel_rfl) (λ_ _ _ _ _ _ _=> .tup [] #[] rfl (λj c v e=>by simp at e)) λW p cap=>Any.slices_Sort_int_none yW p cap W
theorem tJ(id:Nat)(h:List AO):AC Tryz.prog G (lays20_ren.f 20) [.sl id 1 0 0] h λx h'=>x= .ret (.sl id 1 0 0)/\h'=h:=
 AC.shelfEmpty (r:=λp cap=> .slice p 0 cap) (by kernel_rfl) (λ_ _ _ _ _ _ h=>h) λW p cap=>Any.slices_Compact_int_empty Bz p cap W
theorem Dy(h:List AO):AC Tryz.prog G (lays189_ren.f 189) [.nils] h λx h'=>x= .ret (.tup [])/\h'=h:=
 AC.shelfNil (r:= .tuple #[]) (by kernel_rfl) (λ_ _ _ _=> .tup [] #[] rfl (λj c v e=>by simp at e)) λW=>Any.slices_Sort_int_none yW none 0 W
theorem vW(h:List AO):AC Tryz.prog G (lays20_ren.f 20) [.nils] h λx h'=>x= .ret .nils/\h'=h:=
 AC.shelfNil (r:= .slice none 0 0) (by kernel_rfl) (λ_ _ _ _=> .nils) λW=>Any.slices_Compact_int_empty Bz none 0 W
theorem Au{h:List AO}{id m:Nat}{l:List Int}{t:List Int}(e:h[id]?=some (jm (l++t)))(hm:m=l.length):View h (.sl id 1 0 m) (aD l):=by
 have:=View.fl (h:=h) id 1 0 ((l++t).map λn=>[AV.p (.int .i64 n)]) (l.map λn=>PV.int .i64 n) e (λi q hq=>by
  rw[pq,Nat.zero_add,List.map_append,List.getElem?_append_left (by have:=(List.getElem?_eq_some_iff.1 hq).1;simpa using this),List.getElem?_map]
  rw[List.getElem?_map] at hq
  cases hh:l[i]? with
  |none=>rw[hh] at hq;cases hq
  |some x=>rw[hh] at hq;cases hq;rfl)
 rw[List.length_map,List.map_map] at this
 rw[hm]
 exact this
theorem FA{h:List AO}{id:Nat}(l:List Int)(hl:l.length<=1073741824)(hn:l≠[])(hg:h[id]?=some (jm l)):AC Tryz.prog G cC [.sl id 1 0 l.length] h λx h'=>∃V os,x= .ret V/\h'=h++os/\((V= .nils/\l=[])\/∃id,V= .sl id 1 0 l.length/\h.length<=id/\h'[id]?=some (jm l)):=by
 have hil:=(List.getElem?_eq_some_iff.1 hg).1
 have hgm:∀t,(h++t)[id]?=some (.row 1 (l.map λx=>[.p (.int .i64 x)])):=λt=>by rw[List.getElem?_append_left hil];exact hg
 have hge:=λt hh=>dV (hgm t) hh
 refine AC.go nj ?_
 have htk:List.take l.length (l.map λx=>[AV.p (.int .i64 x)])=l.map λx=>[AV.p (.int .i64 x)]:=List.take_of_length_le (by simp)
 have hll:(l.map λx=>[AV.p (.int .i64 x)]).length=l.length:=by simp
 simp-implicitDefEqProofs[gg,hgm,hge,htk,hll]
 exact⟨List.length_pos_iff.2 hn,⟨by omega,by omega⟩,rfl⟩
theorem II(A:AV)(l:List Int)(hl:l.length<=1073741824)(h:List AO)(hclone:AC Tryz.prog G cC [A] h λx h'=>∃V os,x= .ret V/\h'=h++os/\((V= .nils/\l=[])\/∃id,V= .sl id 1 0 l.length/\h.length<=id/\h'[id]?=some (jm l))):
 AC Tryz.prog G lB [A] h λx h'=>h.length<=h'.length/\(∀i,i<h.length->h'[i]?=h[i]?)/\((x= .ret .nils/\ra l=[])\/∃id t,h.length<=id/\x= .ret (.sl id 1 0 (ra l).length)/\h'[id]?=some (jm (ra l++t))):=by
 generalize hS:l.mergeSort (λx y=>decide (x<=y))=S
 have hSl:S.length=l.length:=by rw[←hS,List.length_mergeSort]
 have hcl:=yz S
 have hO:ra l=Lib.compact S:=by rw[ra,hS]
 rw[hO]
 refine AC.go Ao ?_
 simp-implicitDefEqProofs[re]
 refine hclone.mono ?_
 rintro r h1 ⟨V,os,rfl,rfl,⟨rfl,hn⟩|⟨id,rfl,hid,hr⟩⟩
 ·have hS0:S=[]:=by rw[hn] at hSl;exact List.length_eq_zero_iff.1 (by simpa using hSl)
  simp-implicitDefEqProofs[aa]
  refine(Dy G _).mono ?_
  rintro r h' ⟨rfl,rfl⟩
  simp-implicitDefEqProofs[aa]
  refine(vW G _).mono ?_
  rintro r h'' ⟨rfl,rfl⟩
  simp-implicitDefEqProofs[aa]
  rw[hS0]
  exact⟨λi hi=>List.getElem?_append_left hi,rfl⟩
 ·have hidl:=(List.getElem?_eq_some_iff.1 hr).1
  by_cases hn:l=[]
  ·subst hn
   have hS0:S=[]:=List.length_eq_zero_iff.1 (by simpa using hSl)
   subst hS0
   simp-implicitDefEqProofs[aa]
   refine(zk G id _).mono ?_
   rintro r h' ⟨rfl,rfl⟩
   simp-implicitDefEqProofs[aa]
   refine(tJ G id _).mono ?_
   rintro r h'' ⟨rfl,rfl⟩
   simp-implicitDefEqProofs[aa]
   exact⟨λi hi=>List.getElem?_append_left hi,id,hid,⟨rfl,rfl⟩,[],hr⟩
  simp-implicitDefEqProofs[aa]
  refine(JV G hr hn (by omega)).mono ?_
  rintro r h' ⟨rfl,rfl⟩
  rw[hS]
  have hC:=Eb G (h:=(h++os).set id (jm S)) (id:=id) (xs:=S) (List.getElem?_set_self hidl) (by intro e;rw[e] at hSl;simp at hSl;exact hn (List.length_eq_zero_iff.1 hSl.symm)) (by omega) hcl
  rw[hSl] at hC
  simp-implicitDefEqProofs[aa]
  refine hC.mono ?_
  rintro r h'' ⟨rfl,rfl⟩
  simp-implicitDefEqProofs[aa]
  refine⟨λi hi=>?_,id,hid,rfl,_,List.getElem?_set_self (by simpa using hidl)⟩
  rw[List.getElem?_set_ne (by omega),List.getElem?_append_left hi]
end
section
noncomputable def fL (bs:List Bk):List Int:=if aP bs then dL (bg bs) bs.length else[]
theorem rU{bs:List Bk}(h:aP bs=true):fL bs=dL (bg bs) bs.length:=by rw[fL,if_pos h]
theorem uS{bs:List Bk}(h:aP bs=false):fL bs=[]:=by rw[fL,h];rfl
theorem IL{bs:List Bk}(h:aP bs=true){x:Nat}(hx:x∈mR bs):x<bs.length:=pA h (rchB_iff.1 (((tA h).mem x).1 hx))
theorem AL{p q:Nat->Bool}{n:Nat}(h:∀k,k<n->p k=q k):dL p n=dL q n:=by
 rw[dL,dL,List.filter_congr λk hk=>h k (List.mem_range.1 hk)]
theorem Js{bs:List Bk}(h:aP bs=true){l:List Int}(hm:∀x:Nat,(x:Int)∈l↔x∈mR bs):dL (inI l) bs.length=fL bs:=by
 rw[rU h]
 refine AL λk _=>?_
 rw[inI,Bool.eq_iff_iff,decide_eq_true_iff,hm,(tA h).mem]
theorem AH{bs:List Bk}(x:Nat):(x:Int)∈aC (kB bs)↔x∈mR bs:=by
 rw[pN,mR,List.mem_reverse]
variable (G:ay)
theorem zm(c:Cd)(hc:CBd c):VF Tryz.prog G eT [.agg (c.cs.map .p)] (.p (aD (fL c.blocks))):=by
 have hcs:=c.cs_eq2
 have hbl:bkL c.blocks= .lst 5 (c.blocks.map Bk.cs):=rfl
 have hgk:=pf G c hc
 rw[hcs,hbl] at hgk
 refine ff G ?_
 refine AC.go oZ ?_
 simp-implicitDefEqProofs[jl,hcs,hbl]
 refine hgk.use ?_
 cases e1:aP c.blocks with
 |false=>
  rw[uS e1]
  simp-implicitDefEqProofs[]
  exact .nils 1
 |true=>
  have hv:=Jd (l:=aC (kB c.blocks)) G ((DF G c hc e1).mono λr h ⟨id,_,h1,h2⟩=>⟨id,by rw[dh];exact h1,h2⟩)
  rw[hcs,hbl] at hv
  have hne:aC (kB c.blocks)≠[]:=by
   obtain⟨t,e⟩:=(tA e1).head
   intro h0
   have:=congrArg List.length h0
   rw[dh,←List.length_reverse,show(kB c.blocks).reverse=mR c.blocks from rfl,e] at this
   simp at this
  have hon:ra (aC (kB c.blocks))=fL c.blocks:=by
   rw[Hh (n:=c.blocks.length) λx hx=>by
    obtain⟨y,hy,rfl⟩:=List.mem_map.1 hx
    exact⟨Int.natCast_nonneg y,by simpa using IL e1 (by rw[mR];exact List.mem_reverse.2 hy)⟩]
   exact Js e1 λx=>AH x
  have hle:(aC (kB c.blocks)).length<=1073741824:=by
   have:=Jp e1
   have:=lE (bg c.blocks) c.blocks.length
   have:=hc.1
   rw[mR,List.length_reverse] at*
   rw[dh];omega
  rw[←hon]
  generalize aC (kB c.blocks)=L at hv hne hle
  have hsh:∀n,co n (.row 1 (am L))= .row 1 (am L):=λn=>by simp[co,am,cx,bp]
  simp-implicitDefEqProofs[]
  refine(AC.lift hv (by simp[below]) rfl (by simp[CD,am,tf,pR])).mono ?_
  rintro r h ⟨rfl,rfl⟩
  simp-implicitDefEqProofs[aa,bp,hsh]
  refine(II G (.sl 1 1 0 L.length) L hle _ (FA G L hle hne rfl)).mono ?_
  rintro r h ⟨_,_,⟨rfl,hn⟩|⟨id,t,_,rfl,hid⟩⟩
  ·simp-implicitDefEqProofs[aa]
   rw[hn]
   exact .nils 1
  ·simp-implicitDefEqProofs[aa]
   exact Au hid rfl
end
section
variable (G:ay)
theorem FZ(xs:List Int)(hb:xs.length<=1073741824):VF Tryz.prog G iS [.p (aD xs),.p (aD xs)] (.p (.bool true)):=by
 refine AC.go uD ?_
 have hsl:∀l,aD l= .lst 1 (l.map λw=>[.int .i64 w]):=λ_=>rfl
 simp-implicitDefEqProofs[mD,hsl]
 refine aH (λi:Nat=>aB 29 [(0,.p (aD xs)),(1,.p (aD xs)),(10,.p (.int .i64 xs.length)),(11,.p (.int .i64 i))]) (λ_=>[]) (λi=>i<=xs.length) (λi=>xs.length-i) 0 (by simp) ?_ ?_
 ·exact bt rfl (by simp[below,aD])
 intro i hi
 simp-implicitDefEqProofs[hsl]
 refine aG (λh1=>?_) (λh1=>?_)
 ·simp at h1
  have hg:xs[i]?=some xs[i]:=List.getElem?_eq_getElem h1
  generalize xs[i]=x at hg
  simp-implicitDefEqProofs[hg]
  refine⟨i+1,by omega,by omega,bt rfl ?_⟩
  simp[below,aD,w1 (i:=i) (by omega)]
 ·simp at h1
  simp-implicitDefEqProofs[]
theorem Jr(xs:List Int)(k:Int)(hb:xs.length<=1073741824):VF Tryz.prog G jO [.p (aD xs),.p (.int .i64 k)] (.p (.bool (decide (k∈xs)))):=by
 refine AC.go vN ?_
 have hsl:∀l,aD l= .lst 1 (l.map λw=>[.int .i64 w]):=λ_=>rfl
 simp-implicitDefEqProofs[oB,hsl]
 refine aH (λi:Nat=>aB 17 [(1,.p (.int .i64 k)),(7,.p (aD xs)),(8,.p (.int .i64 xs.length)),(9,.p (.int .i64 i))]) (λ_=>[]) (λi=>i<=xs.length/\k∉xs.take i) (λi=>xs.length-i) 0 (by simp) ?_ ?_
 ·exact bt rfl (by simp[below,aD])
 intro i ⟨hi,hn⟩
 simp-implicitDefEqProofs[hsl]
 refine aG (λh1=>?_) (λh1=>?_)
 ·simp at h1
  have hg:xs[i]?=some xs[i]:=List.getElem?_eq_getElem h1
  have hT:xs.take (i+1)=xs.take i++[xs[i]]:=az h1
  have hm:=List.getElem_mem h1
  generalize xs[i]=x at hg hT hm
  by_cases hx:x=k
  ·subst hx
   simp-implicitDefEqProofs[hg,hm]
  ·simp-implicitDefEqProofs[hg,hx]
   refine⟨i+1,⟨by omega,?_⟩,by omega,bt rfl ?_⟩
   ·rw[hT,List.mem_append]
    rintro(h|h)
    ·exact hn h
    ·exact hx (List.mem_singleton.1 h).symm
   ·simp[below,aD,w1 (i:=i) (by omega)]
 ·simp at h1
  rw[List.take_of_length_le h1] at hn
  simp-implicitDefEqProofs[hn]
end
section
theorem DV{bs:List Bk}:(fL bs).length<=bs.length:=by
 rw[fL]
 split
 ·exact lE _ _
 ·simp
structure OlS where (i lid:Nat) (W:List AO)
variable (G:ay)
end
section
noncomputable def idH (bs:List Bk) (b a:Nat):Bool:=decide (a≠b)&&aY bs a b
noncomputable def gP (bs:List Bk) (b:Nat):Option Nat:=ij (aY bs) (idH bs b) bs.length
noncomputable def idI (bs:List Bk) (b:Nat):Int:=ixI (gP bs b)
noncomputable def kb (bs:List Bk):List Int:=if aP bs then(List.range bs.length).map (idI bs) else[]
theorem jT{bs:List Bk}(h:aP bs=true):kb bs=(List.range bs.length).map (idI bs):=by rw[kb,if_pos h]
theorem vq{bs:List Bk}(h:aP bs=false):kb bs=[]:=by rw[kb,h];rfl
variable (G:ay)
theorem BE(bs:List Bk)(hl1:bs.length<=1073741824):VF Tryz.prog G fM [.p (Iw bs)] (.p (aD ((List.range bs.length).map (idI bs)))):=by
 obtain⟨DL,BL,hd,hdl,hdg,hbll,hbg⟩:=uL bs
 rw[hd]
 refine ff G ?_
 refine AC.go ri ?_
 simp-implicitDefEqProofs[kx]
 refine aH (λa:OlS=>aB 51 [(4,.p (.int .i64 a.i)),(3,.sl a.lid 1 0 a.i),(0,.p (.lst 1 DL))]) (λa=>a.W) (λa=>a.i<=bs.length/\a.W[a.lid]?=some (.row 1 (am ((List.range a.i).map (idI bs))))) (λa=>bs.length-a.i) ⟨0,0,[.row 1 []]⟩ ⟨Nat.zero_le _,rfl⟩ (ab (Nat.zero_le _) (by simp[below])) ?_
 rintro⟨i,lid,W⟩ ⟨hi,hw1⟩
 simp only at hi hw1⊢
 have hwl:=(List.getElem?_eq_some_iff.1 hw1).1
 simp-implicitDefEqProofs[hdl]
 refine aG (λhc=>?_) (λhc=>?_)
 ·have hc:i<bs.length:=by simpa using hc
  have hwi:=w1 (i:=i) (by omega)
  simp-implicitDefEqProofs[]
  obtain⟨B,hB⟩:∃B:Nat->Option Nat,B=λn=>ij (aY bs) (idH bs i) n:=⟨_,rfl⟩
  have hB0:B 0=none:=by rw[hB];rfl
  have hBl:∀n m,B n=some m->m<n:=λn m h=>(lY (by rw[hB] at h;exact h)).1
  have hBs:∀n,B (n+1)=if dj (aY bs) (idH bs i) n (B n)=true then some n else B n:=λn=>by rw[hB];rfl
  have hBe:idI bs i=ixI (B bs.length):=by rw[hB];rfl
  have htk:(List.range (i+1)).map (idI bs)=(List.range i).map (idI bs)++[ixI (B bs.length)]:=by rw[List.range_succ,List.map_append,←hBe];rfl
  clear hB hBe
  refine aH (λj:Nat=>aB 51 [(6,.p (.int .i64 j)),(5,.p (.int .i64 (ixI (B j)))),(4,.p (.int .i64 i)),(3,.sl lid 1 0 i),(0,.p (.lst 1 DL))]) (λ_=>W) (λj=>j<=bs.length) (λj=>bs.length-j) 0 (Nat.zero_le _) (ab (Nat.zero_le _) (by simp[below,hB0,ixI];omega)) ?_
  intro j hj
  simp-implicitDefEqProofs[hdl]
  refine aG (λhc1=>?_) (λhc1=>?_)
  ·simp at hc1
   have hw1':=w1 (i:=j) (by omega)
   have x1:=hdg j hc1
   have x2:=hbg j i hc
   have x4:=hBs j
   have x5:=hBl j
   have x6:∀m,B j=some m->(BL m)[j]?=some [.bool (aY bs m j)]/\DL[m]?=some [.lst 1 (BL m)]:=λm hm=>⟨hbg m j hc1,hdg m (by have:=hBl j m hm;omega)⟩
   clear hdg hbg hBs hBl hB0 hd hbll
   by_cases c0:j=i
   ·have hne:decide (j≠i)=false:=by simp[c0]
    simp only[dj,idH,hne,Bool.false_and,Bool.false_eq_true,if_false] at x4
    subst c0
    simp-implicitDefEqProofs[]
    refine⟨j+1,hc1,by omega,ab (Nat.zero_le _) ?_⟩
    simp[below,hw1',x4];omega
   ·have hne:decide (j≠i)=true:=by simp[c0]
    have c0:¬((j:Int)=(i:Int)):=by omega
    cases c1:aY bs j i with
    |false=>
     rw[c1] at x2
     simp only[dj,idH,c1,Bool.and_false,Bool.false_and,Bool.false_eq_true,if_false] at x4
     simp-implicitDefEqProofs[x1,x2,c0]
     refine⟨j+1,hc1,by omega,ab (Nat.zero_le _) ?_⟩
     simp[below,hw1',x4];omega
    |true=>
     rw[c1] at x2
     cases hbi:B j with
     |none=>
      simp only[dj,idH,c1,hne,hbi,Bool.and_self,if_true] at x4
      simp-implicitDefEqProofs[x1,x2,c0,ixI]
      refine⟨j+1,hc1,by omega,ab (Nat.zero_le _) ?_⟩
      simp[below,hw1',x4,ixI];omega
     |some m=>
      obtain⟨x7,x8⟩:=x6 m hbi
      cases c3:aY bs m j with
      |false=>
       rw[c3] at x7
       simp only[dj,idH,c1,hne,c3,hbi,Bool.and_false,Bool.false_eq_true,if_false] at x4
       simp-implicitDefEqProofs[x1,x2,c0,x7,x8,ixI]
       refine⟨j+1,hc1,by omega,ab (Nat.zero_le _) ?_⟩
       simp[below,hw1',x4,ixI];omega
      |true=>
       rw[c3] at x7
       simp only[dj,idH,c1,hne,c3,hbi,Bool.and_self,if_true] at x4
       simp-implicitDefEqProofs[x1,x2,c0,x7,x8,ixI]
       refine⟨j+1,hc1,by omega,ab (Nat.zero_le _) ?_⟩
       simp[below,hw1',x4,ixI];omega
  ·have hjl:j=bs.length:=by simp at hc1;omega
   subst hjl
   have hgm:∀t,(W++t)[lid]?=some (.row 1 (am ((List.range i).map (idI bs)))):=λt=>by rw[List.getElem?_append_left hwl];exact hw1
   have hgme:=λt hh=>dV (hgm t) hh
   have hlt:(am ((List.range i).map (idI bs))).length=i:=by simp[am]
   have htt:List.take i (am ((List.range i).map (idI bs)))=am ((List.range i).map (idI bs)):=List.take_of_length_le (by omega)
   simp-implicitDefEqProofs[hgm,hgme,hlt,htt]
   refine⟨⟨by omega,by omega⟩,⟨i+1,W.length+1,_⟩,⟨hc,?_⟩,by simp only;omega,ab (Nat.zero_le _) ?_⟩
   ·simp only
    rw[List.getElem?_append_right (by simp),htk];simp[am]
   ·simp[below,hwi]
 ·have hie:i=bs.length:=by simp at hc;omega
  subst hie
  simp-implicitDefEqProofs[]
  have:=dg (h:=W) (id:=lid) (l:=(List.range bs.length).map (idI bs)) hw1
  rwa[List.length_map,List.length_range] at this
theorem DQ(c:Cd)(hc:CBd c):VF Tryz.prog G gw [.agg (c.cs.map .p)] (.p (aD (kb c.blocks))):=by
 have hcs:=c.cs_eq2
 have hbl:bkL c.blocks= .lst 5 (c.blocks.map Bk.cs):=rfl
 have h1:=vv G c hc
 have h2:=λhf=>DE G c hc hf
 have h3:=BE G c.blocks hc.1
 rw[hcs,hbl] at h1 h2
 refine ff G ?_
 refine AC.go tS ?_
 simp-implicitDefEqProofs[kJ,hcs,hbl]
 refine h1.use ?_
 cases e1:aP c.blocks with
 |false=>
  rw[vq e1]
  simp-implicitDefEqProofs[]
  exact dg (l:=[]) rfl
 |true=>
  rw[jT e1]
  simp-implicitDefEqProofs[]
  refine(h2 e1).use ?_
  simp-implicitDefEqProofs[]
  refine h3.use ?_
  simp-implicitDefEqProofs[]
  exact .p _
theorem FC{h:List AO}{q0 q1 b:Nat}(c:Cd)(hfit:aP c.blocks=true)(hb:b<c.blocks.length)(h0:h[q0]?=some (.row 1 [[.p (.int .i64 b)]]))(h1:h[q1]?=some (.row 1 [[dmV c]]))(i:Nat)(hi:i<c.blocks.length):
 AC Tryz.prog G cB [.p (.int .i64 i),.ptr q0 1 0 0,.ptr q1 1 0 0] h λr h'=>r= .ret (.p (.bool (idH c.blocks b i)))/\h'=h:=by
 have hd:dmV c= .eptr (dmE c) 0:=by rw[dmV,hfit];rfl
 obtain⟨DL,BL,RL,e,hDl,hDg,hBl,hBg,hRl,hRg⟩:=pj c
 rw[hd,e] at h1
 have x1:=hDg i hi
 have x2:=hBg i b hb
 refine AC.go mU ?_
 by_cases c0:i=b
 ·simp-implicitDefEqProofs[dI,h0,h1,c0,idH]
 ·have c0I:¬((i:Int)=(b:Int)):=by omega
  simp-implicitDefEqProofs[dI,h0,h1,x1,x2,c0,c0I,idH]
theorem EG(c:Cd)(hc:CBd c)(hfit:aP c.blocks=true)(b:Nat)(hb:b<c.blocks.length):VF Tryz.prog G da [dmV c,.p (.int .i64 b)] (.p (.int .i64 (idI c.blocks b))):=by
 have hd:dmV c= .eptr (dmE c) 0:=by rw[dmV,hfit];rfl
 have hq:ij (aY c.blocks) (λi=>bg c.blocks i&&idH c.blocks b i) c.blocks.length=gP c.blocks b:=by
  rw[gP]
  congr 1
  funext i
  rw[idH]
  cases hr:bg c.blocks i with
  |true=>simp
  |false=>rw[vg hr];simp
 have:=Em G (h:=[.row 1 [[dmV c]],.row 1 [[.p (.int .i64 b)]]]) (f:=cB) (caps:=[.ptr 1 1 0 0,.ptr 0 1 0 0]) c hc hfit (idH c.blocks b) (by simp[below]) (λi hi _=>FC G c hfit hb rfl rfl i hi)
 rw[hq,hd] at this
 rw[hd]
 refine AC.go py ?_
 simp-implicitDefEqProofs[jv]
 refine this.mono ?_
 rintro _ _ ⟨rfl,rfl⟩
 simp-implicitDefEqProofs[aa]
 rfl
theorem GR{bs:List Bk}{b:Nat}(h:bg bs b=false):idI bs b= -1:=by
 have:gP bs b=none:=by
  cases e:gP bs b with
  |none=>rfl
  |some m=>
   have:=(lY e).2
   rw[idH,lU h,Bool.and_false] at this
   cases this
 rw[idI,this]
 rfl
end
section
noncomputable def idP (bs:List Bk) (i:Nat):List Int:=(List.range i).map (idI bs)++List.replicate (bs.length-i) 0
theorem Jq(bs:List Bk){i:Nat}(h:i<=bs.length):(idP bs i).length=bs.length:=by simp[idP];omega
theorem IH(bs:List Bk):idP bs bs.length=(List.range bs.length).map (idI bs):=by simp[idP]
theorem FH{bs:List Bk}{b m:Nat}(h:idI bs b=(m:Int)):gP bs b=some m:=by
 rw[idI] at h
 cases e:gP bs b with
 |none=>rw[e] at h;simp[ixI] at h
 |some k=>rw[e] at h;have:(k:Int)=(m:Int):=h;have:k=m:=by omega
          rw[this]
theorem cd{bs:List Bk}{b m:Nat}(h:gP bs b=some m):m≠b/\aY bs m b=true/\∀d,d<bs.length->d≠b->aY bs d b=true->aY bs d m=true:=by
 have h1:=(lY h).2
 rw[idH,Bool.and_eq_true,decide_eq_true_iff] at h1
 refine⟨h1.1,h1.2,λd hd hdb hdd=>?_⟩
 refine sv (dom:=aY bs) (holds:=idH bs b) (λx hx=>?_) (λ_ _ _=>lR) (λx y hx hy=>?_) h d hd (by rw[idH,hdd,Bool.and_true,decide_eq_true_iff];exact hdb)
 ·rw[idH,Bool.and_eq_true] at hx
  exact dS (bn hx.2).1
 ·rw[idH,Bool.and_eq_true] at hx hy
  exact Cv hx.2 hy.2
theorem Gy{bs:List Bk}{b m:Nat}(h:gP bs b=some m)(d:Nat)(hd:d<bs.length):aY bs d b=((decide (d=b)&&bg bs b)||aY bs d m):=by
 obtain⟨h1,h2,h3⟩:=cd h
 rw[Bool.eq_iff_iff,Bool.or_eq_true,Bool.and_eq_true,decide_eq_true_iff]
 constructor
 ·intro hdd
  by_cases e:d=b
  ·exact .inl ⟨e,(bn hdd).2⟩
  ·exact .inr (h3 d hd e hdd)
 ·rintro(⟨rfl,e⟩|e)
  ·exact dS e
  ·exact lR e h2
theorem Fw{bs:List Bk}(hfit:aP bs=true){b:Nat}:gP bs b=none↔b=0\/bg bs b=false:=by
 constructor
 ·intro h
  have:=lX h 0 (bN hfit)
  by_cases e:b=0
  ·exact .inl e
  ·refine .inr ?_
   cases hr:bg bs b with
   |false=>rfl
   |true=>
    rw[idH,lS hr,Bool.and_true,decide_eq_false_iff_not] at this
    exact absurd (Ne.symm e) this
 ·intro h
  cases e:gP bs b with
  |none=>rfl
  |some m=>
   obtain⟨h1,h2,_⟩:=cd e
   rcases h with rfl|h
   ·exact absurd (ma h2 (lS (bn h2).1)) h1
   ·rw[lU h] at h2;cases h2
theorem Hg{bs:List Bk}{d b:Nat}(h:b=0\/bg bs b=false):aY bs d b=(decide (d=b)&&bg bs b):=by
 rw[Bool.eq_iff_iff,Bool.and_eq_true,decide_eq_true_iff]
 constructor
 ·intro hd
  rcases h with rfl|h
  ·exact⟨ma hd (lS (bn hd).1),(bn hd).2⟩
  ·rw[lU h] at hd;cases hd
 ·rintro⟨rfl,e⟩
  exact dS e
theorem Fu(bs:List Bk):idP bs 0=List.replicate bs.length 0:=by simp[idP]
theorem Ig{bs:List Bk}{i:Nat}(h:i<bs.length):(idP bs i).set i (idI bs i)=idP bs (i+1):=by
 have hn:bs.length-i=(bs.length-(i+1))+1:=by omega
 rw[idP,idP,List.set_append_right _ _ (by simp),List.range_succ,List.map_append,List.append_assoc,hn,List.replicate_succ]
 simp
theorem Kj(n:Nat):List.replicate n [AV.p (PV.int .i64 0)]=am (List.replicate n 0):=by simp[am]
variable (G:ay)
theorem Dl(c:Cd)(hc:CSm c):VF Tryz.prog G gr [.agg (c.cs.map .p)] (.p (aD (kb c.blocks))):=by
 have hcs:=c.cs_eq2
 have hbl:bkL c.blocks= .lst 5 (c.blocks.map Bk.cs):=rfl
 have hl1:=hc.1.1
 have hd:=sV G c hc
 rw[hcs,hbl] at hd
 refine ff G ?_
 refine AC.go tR ?_
 simp-implicitDefEqProofs[lC,hcs,hbl]
 cases hfit:aP c.blocks with
 |false=>
  have hdm:dmV c= .nilp:=by rw[dmV,hfit];rfl
  rw[hdm] at hd
  rw[vq hfit]
  refine hd.use ?_
  simp-implicitDefEqProofs[]
  exact .nils 1
 |true=>
  have hI:=λb=>EG G c hc.1 hfit b
  have hdm:dmV c= .eptr (dmE c) 0:=by rw[dmV,hfit];rfl
  obtain⟨DL,BL,RL,e,hDl,hDg,hBl,hBg,hRl,hRg⟩:=pj c
  rw[jT hfit]
  rw[hdm,e] at hd hI
  refine hd.use ?_
  simp-implicitDefEqProofs[Kj]
  refine⟨by omega,?_⟩
  rw[←Fu]
  refine aH (λi:Nat=>aB 37 [(16,.p (.int .i64 i)),(15,.p (.int .i64 c.blocks.length)),(4,.sl 1 1 0 c.blocks.length),(3,.eptr [.int .i64 c.params,.int .i64 c.regs,bkL c.blocks,.lst 1 DL,.lst 1 RL] 0)]) (λi=>[.row 3 [[.p (.int .i64 c.params),.p (.int .i64 c.regs),.p (.lst 5 (c.blocks.map Bk.cs))]],.row 1 (am (idP c.blocks i))]) (λi=>i<=c.blocks.length) (λi=>c.blocks.length-i) 0 (Nat.zero_le _) (ab (Nat.zero_le _) (by simp[below])) ?_
  intro i hi
  simp-implicitDefEqProofs[]
  refine aG (λhc1=>?_) (λhc1=>?_)
  ·have hc1:i<c.blocks.length:=by simpa using hc1
   have hwi:=w1 (i:=i) (by omega)
   have hlen:=Jq c.blocks hi
   have hrl:(am (idP c.blocks i)).length=c.blocks.length:=by simp[am,hlen]
   have hg:∀x,(am (idP c.blocks i)).set i x=(am (idP c.blocks i)).set i x:=λ_=>rfl
   have hgi:(idP c.blocks i)[i]?=some (idP c.blocks i)[i]:=List.getElem?_eq_getElem (by omega)
   generalize (idP c.blocks i)[i]=z at hgi
   have hri:(am (idP c.blocks i))[i]?=some [.p (.int .i64 z)]:=by simp[am,hgi]
   have hri2:((am (idP c.blocks i)).set i [.p (.int .i64 (-1))])[i]?=some [.p (.int .i64 (-1))]:=List.getElem?_set_self (by omega)
   have hr:=hRg i hc1
   have hset:=Ig hc1
   simp-implicitDefEqProofs[hri,hr,hc1]
   cases hb:bg c.blocks i with
   |false=>
    rw[GR hb] at hset
    simp-implicitDefEqProofs[hri,hr,hc1,pn,hset]
    exact⟨i+1,hc1,by omega,ab (Nat.zero_le _) (by simp[below,hwi])⟩
   |true=>
    simp-implicitDefEqProofs[hri,hr,hc1]
    refine(hI i hc1).use ?_
    have hri3:(am ((idP c.blocks i).set i (-1)))[i]?=some [.p (.int .i64 (-1))]:=by rw[←pn];exact hri2
    simp-implicitDefEqProofs[hri,hri3,hr,hc1,pn,hset,List.set_set]
    exact⟨i+1,hc1,by omega,ab (Nat.zero_le _) (by simp[below,hwi])⟩
  ·have hie:i=c.blocks.length:=by simp at hc1;omega
   subst hie
   simp-implicitDefEqProofs[]
   rw[IH]
   have:=dg (h:=[.row 3 [[.p (.int .i64 c.params),.p (.int .i64 c.regs),.p (.lst 5 (c.blocks.map Bk.cs))]],.row 1 (am ((List.range c.blocks.length).map (idI c.blocks)))]) (id:=1) (l:=(List.range c.blocks.length).map (idI c.blocks)) rfl
   rwa[List.length_map,List.length_range] at this
end
section
noncomputable def dcN (bs:List Bk) (b n:Nat):Nat:=((List.range n).filter λa=>aY bs a b).length
theorem sC(bs:List Bk)(b n:Nat):dcN bs b (n+1)=dcN bs b n+(if aY bs n b then 1 else 0):=by
 rw[dcN,dcN,List.range_succ,List.filter_append,List.length_append]
 cases h:aY bs n b<;>simp[List.filter_cons,h]
theorem BA(bs:List Bk)(b n:Nat):dcN bs b n<=n:=by
 have:=List.length_filter_le (λa=>aY bs a b) (List.range n)
 rwa[List.length_range] at this
variable (G:ay)
end
section
theorem zr{bs:List Bk}:∀n,dcN bs 0 n=if 0<n then 1 else 0
 |0=>rfl
 |n+1=>by
  rw[sC,zr n,Hg (.inl rfl)]
  cases n with
  |zero=>simp[tm]
  |succ n=>simp
theorem sJ{bs:List Bk}{b m:Nat}(h:gP bs b=some m):∀n,n<=bs.length->dcN bs b n=(if b<n then 1 else 0)+dcN bs m n
 |0,_=>rfl
 |n+1,hn=>by
  obtain⟨h1,h2,_⟩:=cd h
  have hbm:aY bs b m=false:=by
   cases e:aY bs b m with
   |false=>rfl
   |true=>exact absurd (ma h2 e) h1
  rw[sC,sC,sJ h n (by omega),Gy h n (by omega),(bn h2).2]
  by_cases e:n=b
  ·subst e
   simp[hbm];omega
  ·have h3:(b<n+1)=(b<n):=by apply propext;omega
   simp only[e,decide_false,Bool.false_and,Bool.false_or,h3]
   omega
theorem Jf{bs:List Bk}{b:Nat}(hr:bg bs b=true){n:Nat}(hb:b<n):1<=dcN bs b n:=by
 rw[dcN]
 exact List.length_pos_of_mem (List.mem_filter.2 ⟨List.mem_range.2 hb,dS hr⟩)
variable (G:ay)
end
section
noncomputable def pi (bs:List Bk) (b i:Nat):Bool:=decide (idI bs i=(b:Int))
variable (G:ay)
theorem DA(bs:List Bk)(hl1:bs.length<=1073741824)(b:Nat):VF Tryz.prog G gR [.p (aD ((List.range bs.length).map (idI bs))),.p (.int .i64 b)] (.p (aD (dL (pi bs b) bs.length))):=by
 have hll:((List.range bs.length).map (idI bs)).length=bs.length:=by simp
 have hat:∀i,i<bs.length->((List.range bs.length).map (idI bs))[i]?=some (idI bs i):=λi hi=>by rw[List.getElem?_map,List.getElem?_range hi];rfl
 generalize (List.range bs.length).map (idI bs)=L at hll hat
 have hLn:aD L= .lst 1 (L.map λn=>[.int .i64 n]):=rfl
 have hFl:=lE (pi bs b)
 have hFs:=Iz (pi bs b)
 have hF0:=Dp (pi bs b)
 generalize dL (pi bs b)=F at hFl hFs hF0
 refine ff G ?_
 refine AC.go sI ?_
 simp-implicitDefEqProofs[lz,hLn]
 refine aH (λa:OlS=>aB 25 [(6,.p (.int .i64 a.i)),(5,.sl a.lid 1 0 (F a.i).length),(0,.p (.lst 1 (L.map λn=>[.int .i64 n]))),(1,.p (.int .i64 b))]) (λa=>a.W) (λa=>a.i<=bs.length/\a.W[a.lid]?=some (.row 1 (am (F a.i)))) (λa=>bs.length-a.i) ⟨0,0,[.row 1 []]⟩ ⟨Nat.zero_le _,by simp only[hF0];rfl⟩ (ab (Nat.zero_le _) (by simp[below,hF0])) ?_
 rintro⟨i,lid,W⟩ ⟨hi,hw1⟩
 simp only at hi hw1⊢
 have hwl:=(List.getElem?_eq_some_iff.1 hw1).1
 simp-implicitDefEqProofs[hll]
 refine aG (λhc=>?_) (λhc=>?_)
 ·have hc:i<bs.length:=by simpa using hc
  have hwi:=w1 (i:=i) (by omega)
  have hgi:=hat i hc
  have hFi:=hFs i
  have hfl:=hFl i
  cases hk:decide (idI bs i=(b:Int)) with
  |true=>
   have hk2:idI bs i=(b:Int):=by simpa using hk
   have hFi:F (i+1)=F i++[(i:Int)]:=by rw[hFi,pi,hk];rfl
   have hgm:∀t,(W++t)[lid]?=some (.row 1 (am (F i))):=λt=>by rw[List.getElem?_append_left hwl];exact hw1
   have hlt:(am (F i)).length=(F i).length:=by simp[am]
   have htt:List.take (F i).length (am (F i))=am (F i):=List.take_of_length_le (by omega)
   simp-implicitDefEqProofs[hgi,hk2,hgm,hlt,htt]
   refine⟨⟨by omega,by omega⟩,⟨i+1,W.length+1,_⟩,⟨hc,?_⟩,by simp only;omega,ab (Nat.zero_le _) ?_⟩
   ·simp only
    rw[List.getElem?_append_right (by simp),hFi];simp[am]
   ·simp[below,hwi,hFi]
  |false=>
   have hk2:¬idI bs i=(b:Int):=by simpa using hk
   have hFi:F (i+1)=F i:=by rw[hFi,pi,hk];simp[bI]
   simp-implicitDefEqProofs[hgi,hk2]
   refine⟨⟨i+1,lid,W⟩,⟨hc,by simp only[hFi];exact hw1⟩,by simp only;omega,ab (Nat.zero_le _) ?_⟩
   simp[below,hwi,hFi];omega
 ·have hie:i=bs.length:=by simp at hc;omega
  subst hie
  simp-implicitDefEqProofs[]
  exact dg hw1
end
section
noncomputable def bu (bs:List Bk) (b:Nat):List Nat:=(List.range bs.length).filter (pi bs b)
noncomputable def bE (bs:List Bk):Nat->Nat->List Nat
 |0,_=>[]
 |f+1,b=>b::(bu bs b).flatMap (bE bs f)
theorem kid_iff{bs:List Bk}{b k:Nat}:k∈bu bs b↔k<bs.length/\gP bs k=some b:=by
 rw[bu,List.mem_filter,List.mem_range,pi,decide_eq_true_iff]
 refine and_congr_right λ_=>⟨FH,λh=>by rw[idI,h];rfl⟩
theorem sx{bs:List Bk}{b k:Nat}(h:k∈bu bs b):dcN bs k bs.length=1+dcN bs b bs.length:=by
 obtain⟨h1,h2⟩:=kid_iff.1 h
 rw[sJ h2 bs.length (Nat.le_refl _),if_pos h1]
theorem KH{bs:List Bk}(hfit:aP bs=true){b:Nat}:∀(d x:Nat),dcN bs x bs.length<=d->aY bs b x=true->x≠b->∃k∈bu bs b,aY bs k x=true:=by
 intro d
 induction d with
 |zero=>
  intro x hd hx _
  have:=Jf (bn hx).2 (Cs hfit hx).2
  omega
 |succ d ih=>
  intro x hd hx hne
  have hl:=Cs hfit hx
  cases e:gP bs x with
  |none=>
   have:=lX e b hl.1
   rw[idH,hx,Bool.and_true,decide_eq_false_iff_not] at this
   exact absurd (Ne.symm hne) this
  |some m=>
   obtain⟨f1,f2,f3⟩:=cd e
   by_cases hm:m=b
   ·subst hm
    exact⟨x,kid_iff.2 ⟨hl.2,e⟩,dS (bn hx).2⟩
   ·have h4:=sJ e bs.length (Nat.le_refl _)
    rw[if_pos hl.2] at h4
    obtain⟨k,hk,hkm⟩:=ih m (by omega) (f3 b hl.1 (Ne.symm hne) hx) hm
    exact⟨k,hk,lR hkm f2⟩
theorem Dk{bs:List Bk}(hfit:aP bs=true){b k1 k2 u:Nat}(h1:k1∈bu bs b)(h2:k2∈bu bs b)(hne:k1≠k2)(d1:aY bs k1 u=true)(d2:aY bs k2 u=true):False:=by
 obtain⟨l1,e1⟩:=kid_iff.1 h1
 obtain⟨l2,e2⟩:=kid_iff.1 h2
 obtain⟨f1,f2,f3⟩:=cd e1
 obtain⟨g1,g2,g3⟩:=cd e2
 rcases Cv d1 d2 with h|h
 ·exact f1 (ma f2 (g3 k1 l1 hne h))
 ·exact g1 (ma g2 (f3 k2 l2 (Ne.symm hne) h))
theorem nJ{bs:List Bk}(hfit:aP bs=true):∀(f b:Nat),bg bs b=true->bs.length<dcN bs b bs.length+f->∀x,x∈bE bs f b↔aY bs b x=true:=by
 intro f
 induction f with
 |zero=>
  intro b _ h
  have:=BA bs b bs.length
  omega
 |succ f ih=>
  intro b hb h x
  rw[bE,List.mem_cons,List.mem_flatMap]
  constructor
  ·rintro(rfl|⟨k,hk,hx⟩)
   ·exact dS hb
   ·obtain⟨f1,f2,_⟩:=cd (kid_iff.1 hk).2
    have hx:=(ih k (bn f2).2 (by rw[sx hk];omega) x).1 hx
    exact lR f2 hx
  ·intro hx
   by_cases e:x=b
   ·exact .inl e
   ·obtain⟨k,hk,hkx⟩:=KH hfit _ x (Nat.le_refl _) hx e
    exact .inr ⟨k,hk,(ih k (bn hkx).1 (by rw[sx hk];omega) x).2 hkx⟩
theorem HP{bs:List Bk}(hfit:aP bs=true):∀(f b:Nat),bg bs b=true->bs.length<dcN bs b bs.length+f->(bE bs f b).Pairwise λu v=>aY bs v u=false:=by
 intro f
 induction f with
 |zero=>intro b _ _;exact List.Pairwise.nil
 |succ f ih=>
  intro b hb h
  have hkd:∀k∈bu bs b,bg bs k=true/\bs.length<dcN bs k bs.length+f:=λk hk=>by
   obtain⟨_,f2,_⟩:=cd (kid_iff.1 hk).2
   exact⟨(bn f2).2,by rw[sx hk];omega⟩
  rw[bE,List.pairwise_cons,List.pairwise_flatMap]
  refine⟨λv hv=>?_,λk hk=>ih k (hkd k hk).1 (hkd k hk).2,?_⟩
  ·obtain⟨k,hk,hv⟩:=List.mem_flatMap.1 hv
   have hkv:=(nJ hfit f k (hkd k hk).1 (hkd k hk).2 v).1 hv
   obtain⟨f1,f2,_⟩:=cd (kid_iff.1 hk).2
   cases e:aY bs v b with
   |false=>rfl
   |true=>exact absurd (ma f2 (lR hkv e)) f1
  ·have hlt:(bu bs b).Pairwise (· < ·):=List.Pairwise.sublist List.filter_sublist List.pairwise_lt_range
   have hall:(bu bs b).Pairwise λk1 k2=>k1∈bu bs b/\k2∈bu bs b/\k1<k2:=by
    have h2:=List.Pairwise.and_mem.1 hlt
    exact h2
   refine hall.imp λ{k1 k2} ⟨m1,m2,hl⟩ u hu v hv=>?_
   have hu:=(nJ hfit f k1 (hkd k1 m1).1 (hkd k1 m1).2 u).1 hu
   have hv:=(nJ hfit f k2 (hkd k2 m2).1 (hkd k2 m2).2 v).1 hv
   cases e:aY bs v u with
   |false=>rfl
   |true=>exact absurd (Dk hfit m1 m2 (by omega) hu (lR hv e)) id
noncomputable def eO (bs:List Bk):List Nat:=bE bs bs.length 0
noncomputable def dR (bs:List Bk):List Int:=if aP bs then aC (eO bs) else[]
theorem lO{bs:List Bk}(hfit:aP bs=true):bs.length<dcN bs 0 bs.length+bs.length:=by
 rw[zr,if_pos (bN hfit)];omega
theorem jM{bs:List Bk}(hfit:aP bs=true)(x:Nat):x∈eO bs↔bg bs x=true:=by
 rw[eO,nJ hfit _ _ (tm bs) (lO hfit)]
 exact⟨λh=>(bn h).2,lS⟩
theorem vZ{bs:List Bk}(hfit:aP bs=true):(eO bs).Pairwise λu v=>aY bs v u=false:=HP hfit _ _ (tm bs) (lO hfit)
theorem Cw{bs:List Bk}(hfit:aP bs=true):(eO bs).Nodup:=by
 have h2:=List.Pairwise.and_mem.1 (vZ hfit)
 refine h2.imp λ{u v} ⟨m1,_,h⟩ e=>?_
 subst e
 rw[dS ((jM hfit u).1 m1)] at h
 cases h
theorem tE{bs:List Bk}(hfit:aP bs=true):(eO bs).length=(dL (bg bs) bs.length).length:=by
 rw[dL,List.length_map]
 exact uT (Cw hfit) λx=>by
  rw[jM hfit]
  exact⟨λhx=>⟨pA hfit (rchB_iff.1 hx),hx⟩,λhx=>hx.2⟩
structure DwS where (i o:Nat) (X:List AO)
variable (G:ay)
theorem Ee(bs:List Bk)(hl1:bs.length<=1073741824):∀(f:Nat) (h:List AO) (b oid:Nat) (out:List Nat),bs.length<dcN bs b bs.length+f->h[oid]?=some (.row 1 (am (aC out)))->out.length+(bE bs f b).length<=1073741824->
 AC Tryz.prog G eu [.p (aD ((List.range bs.length).map (idI bs))),.p (.int .i64 b),.sl oid 1 0 out.length] h λx h'=>∃id,x= .ret (.sl id 1 0 (out++bE bs f b).length)/\h'[id]?=some (.row 1 (am (aC (out++bE bs f b))))/\h.length<=h'.length:=by
 intro f
 induction f with
 |zero=>
  intro h b oid out hb
  have:=BA bs b bs.length
  omega
 |succ f ih=>
  intro h b oid out hb ho hsz
  have hK:=DA G bs hl1 b
  have hKe:dL (pi bs b) bs.length=aC (bu bs b):=rfl
  rw[hKe] at hK
  have hdn:bE bs (f+1) b=b::(bu bs b).flatMap (bE bs f):=rfl
  have hkd:∀k∈bu bs b,bs.length<dcN bs k bs.length+f:=λk hk=>by rw[sx hk];omega
  rw[hdn] at hsz⊢
  have hKl:(bu bs b).length<=bs.length:=by
   have:=List.length_filter_le (pi bs b) (List.range bs.length)
   rwa[List.length_range] at this
  generalize bu bs b=K at hK hkd hsz hKl
  have hKn:aD (aC K)= .lst 1 ((aC K).map λn=>[.int .i64 n]):=rfl
  have hKll:=dh K
  have hIn:aD ((List.range bs.length).map (idI bs))= .lst 1 (((List.range bs.length).map (idI bs)).map λn=>[.int .i64 n]):=rfl
  have hoid:=(List.getElem?_eq_some_iff.1 ho).1
  have hgm:∀t,(h++t)[oid]?=some (.row 1 (am (aC out))):=λt=>by rw[List.getElem?_append_left hoid];exact ho
  have hol:(aC out).length=out.length:=dh out
  have htt:List.take out.length (am (aC out))=am (aC out):=List.take_of_length_le (by simp[am,hol])
  have hrl:(am (aC out)).length=out.length:=by simp[am,hol]
  rw[List.length_cons] at hsz
  generalize aD ((List.range bs.length).map (idI bs))=ID at hK ih
  obtain⟨T,hT⟩:∃T,T=out++b::K.flatMap (bE bs f):=⟨_,rfl⟩
  rw[←hT]
  refine AC.go tU ?_
  simp-implicitDefEqProofs[kL,hgm,htt,hrl]
  refine⟨⟨by omega,by omega⟩,?_⟩
  refine hK.use ?_
  simp-implicitDefEqProofs[]
  have hsz1:∀i,(out++b::(K.take i).flatMap (bE bs f)).length<=1073741824/\∀k,K[i]?=some k->(out++b::(K.take i).flatMap (bE bs f)).length+(bE bs f k).length<=1073741824:=λi=>by
   have hs:K.flatMap (bE bs f)=(K.take i).flatMap (bE bs f)++(K.drop i).flatMap (bE bs f):=by rw[←List.flatMap_append,List.take_append_drop]
   have hs2:=congrArg List.length hs
   rw[List.length_append] at hs2
   refine⟨by rw[List.length_append,List.length_cons];omega,λk hk=>?_⟩
   have hd:(K.drop i).flatMap (bE bs f)=bE bs f k++(K.drop (i+1)).flatMap (bE bs f):=by
    have hil:=(List.getElem?_eq_some_iff.1 hk)
    obtain⟨h1,h2⟩:=hil
    rw[List.drop_eq_getElem_cons h1,List.flatMap_cons,h2]
   rw[hd,List.length_append] at hs2
   rw[List.length_append,List.length_cons];omega
  have hDs1:∀i k,K[i]?=some k->out++b::(K.take (i+1)).flatMap (bE bs f)=(out++b::(K.take i).flatMap (bE bs f))++bE bs f k:=λi k hgi=>by rw[List.take_add_one,hgi];simp
  have hDe1:out++b::(K.take K.length).flatMap (bE bs f)=out++b::K.flatMap (bE bs f):=by rw[List.take_length]
  obtain⟨D,hD⟩:∃D:Nat->List Nat,D=λi=>out++b::(K.take i).flatMap (bE bs f):=⟨_,rfl⟩
  have hDz:D 0=out++[b]:=by rw[hD];simp
  have hDs:∀i k,K[i]?=some k->D (i+1)=D i++bE bs f k:=λi k h=>by rw[hD];exact hDs1 i k h
  have hDe:D K.length=T:=by rw[hD,hT];exact hDe1
  have hDz2:∀i,(D i).length<=1073741824/\∀k,K[i]?=some k->(D i).length+(bE bs f k).length<=1073741824:=λi=>by rw[hD];exact hsz1 i
  clear hsz1 hDs1 hDe1 hD
  rw[←hDe]
  refine aH (λa:DwS=>aB 30 [(8,.p (.int .i64 a.i)),(7,.p (aD (aC K))),(2,.sl a.o 1 0 (D a.i).length),(0,.p ID)]) (λa=>a.X) (λa=>a.i<=K.length/\h.length<=a.X.length/\a.X[a.o]?=some (.row 1 (am (aC (D a.i))))) (λa=>K.length-a.i) ⟨0,h.length+1,(h++[AO.row 1 [[.p (.int .i64 b)]]]).set oid .dead++[.row 1 (am (aC out)++[[.p (.int .i64 b)]])]⟩ ⟨Nat.zero_le _,?_,?_⟩ ?_ ?_
  ·simp;omega
  ·simp only;rw[List.getElem?_append_right (by simp),hDz];simp[aC,am]
  ·refine ab (by simp;omega) ?_
   simp[below,hDz]
  rintro⟨i,o,X⟩ ⟨hi,hXl,hX⟩
  simp only at hi hXl hX
  have hol2:=(List.getElem?_eq_some_iff.1 hX).1
  obtain⟨hz1,hz2⟩:=hDz2 i
  simp-implicitDefEqProofs[hKn,hKll]
  refine aG (λhc1=>?_) (λhc1=>?_)
  ·have hc1:i<K.length:=by simpa using hc1
   have hwi:=w1 (i:=i) (by omega)
   have hgi:=List.getElem?_eq_getElem hc1
   have hkk:=hkd _ (List.getElem_mem hc1)
   generalize K[i]=k at hgi hkk
   have hLi:(aC K)[i]?=some (k:Int):=by rw[aC,List.getElem?_map,hgi];rfl
   have hcall:=ih X k o _ hkk hX (hz2 k hgi)
   rw[←hDs i k hgi] at hcall
   simp-implicitDefEqProofs[hLi]
   refine hcall.mono ?_
   rintro _ h' ⟨id,rfl,e1,e2⟩
   have hid:=(List.getElem?_eq_some_iff.1 e1).1
   simp-implicitDefEqProofs[aa]
   exact⟨⟨i+1,id,h'⟩,⟨hc1,by simp only;omega,e1⟩,by simp only;omega,ab (by omega) (by simp[below,hwi];omega)⟩
  ·have hie:i=K.length:=by simp at hc1;omega
   subst hie
   simp-implicitDefEqProofs[]
   exact⟨hX,hXl⟩
theorem Bw(c:Cd)(hc:CBd c):VF Tryz.prog G fQ [.agg (c.cs.map .p)] (.p (aD (dR c.blocks))):=by
 have hcs:=c.cs_eq2
 have hbl:bkL c.blocks= .lst 5 (c.blocks.map Bk.cs):=rfl
 have h1:=vv G c hc
 have h2:=DQ G c hc
 have hc1:=hc.1
 rw[hcs,hbl] at h1 h2
 refine ff G ?_
 refine AC.go ru ?_
 simp-implicitDefEqProofs[kh,hcs,hbl]
 refine h1.use ?_
 cases hfit:aP c.blocks with
 |false=>
  rw[dR,hfit]
  simp-implicitDefEqProofs[]
  exact dg (l:=[]) rfl
 |true=>
  rw[dR,if_pos hfit]
  rw[jT hfit] at h2
  have hdl:(eO c.blocks).length<=c.blocks.length:=by rw[tE hfit];exact lE _ _
  have h3:=λ(h:List AO) oid ho=>Ee G c.blocks hc.1 c.blocks.length h 0 oid [] (lO hfit) ho (by show 0+(eO c.blocks).length<=_;omega)
  simp-implicitDefEqProofs[]
  refine h2.use ?_
  simp-implicitDefEqProofs[]
  refine(h3 _ 1 rfl).mono ?_
  rintro _ h' ⟨id,rfl,e1,_⟩
  rw[List.nil_append] at e1
  simp-implicitDefEqProofs[aa]
  have:=dg e1
  rwa[dh] at this
end
section
def Jj(es:List (PV × AV)):Prop:=∀e∈es,∃n:Int,e.1= .int .i64 n
theorem zY{es:List (PV × AV)}(k:Int)(v:AV)(h:Jj es):∃es',jK (.int .i64 k) v es=some es'/\Jj es'/\bR (.int .i64 k) es'=some (some v)/\∀q,q≠k->bR (.int .i64 q) es'=bR (.int .i64 q) es:=by
 induction es with
 |nil=>
  refine⟨[(.int .i64 k,v)],rfl,λe he=>⟨k,by simp at he;rw[he]⟩,by simp[bR,keq],λq hq=>by simp[bR,keq,hq]⟩
 |cons e r ih=>
  obtain⟨n,hn⟩:=h e (by simp)
  obtain⟨e1,e2⟩:=e
  simp only at hn
  subst hn
  obtain⟨es',h1,h2,h3,h4⟩:=ih λx hx=>h x (by simp[hx])
  by_cases hk:k=n
  ·subst hk
   refine⟨(.int .i64 k,v)::r,by simp[jK,keq],λx hx=>?_,by simp[bR,keq],λq hq=>by simp[bR,keq,hq]⟩
   rcases List.mem_cons.1 hx with rfl|hx
   ·exact⟨k,rfl⟩
   ·exact h x (by simp[hx])
  ·refine⟨(.int .i64 n,e2)::es',by simp[jK,keq,hk,h1],λx hx=>?_,by simp[bR,keq,hk,h3],λq hq=>by simp only[bR,keq];rw[h4 q hq]⟩
   rcases List.mem_cons.1 hx with rfl|hx
   ·exact⟨n,rfl⟩
   ·exact h2 x hx
noncomputable def kmK (bs:List Bk) (p:Int) (i:Nat):List Nat:=(List.range i).filter λj=>bg bs j&&decide (idI bs j=p)
theorem tQ(bs:List Bk)(p:Int)(i:Nat):kmK bs p (i+1)=kmK bs p i++if bg bs i&&decide (idI bs i=p) then[i] else[]:=by
 rw[kmK,kmK,List.range_succ,List.filter_append]
 cases h:bg bs i&&decide (idI bs i=p)<;>simp[List.filter_cons,h]
theorem Hy(bs:List Bk)(p:Int)(i:Nat):(kmK bs p i).length<=i:=by
 have:=List.length_filter_le (λj=>bg bs j&&decide (idI bs j=p)) (List.range i)
 rwa[List.length_range] at this
theorem IC(bs:List Bk)(b:Nat):kmK bs (b:Int) bs.length=bu bs b:=by
 rw[kmK,bu]
 refine List.filter_congr λj _=>?_
 rw[pi]
 cases h:bg bs j with
 |true=>rfl
 |false=>
  rw[GR h,Bool.false_and]
  symm
  rw[decide_eq_false_iff_not];omega
theorem Ek{bs:List Bk}{p q:Int}{i:Nat}(hne:p≠q)(h:kmK bs p i=kmK bs q i):kmK bs p i=[]:=by
 cases e:kmK bs p i with
 |nil=>rfl
 |cons j t=>
  have h1:j∈kmK bs p i:=by rw[e];simp
  have h2:j∈kmK bs q i:=by rw[←h,e];simp
  rw[kmK,List.mem_filter,Bool.and_eq_true,decide_eq_true_iff] at h1 h2
  exact absurd (h1.2.2.symm.trans h2.2.2) hne
theorem Ej{a b:List Nat}(h:am (aC a)=am (aC b)):a=b:=by
 have h1:∀(l:List Nat),(am (aC l)).map (λr=>match r with|[.p (.int _ n)]=>n.toNat|_=>0)=l:=λl=>by
  induction l with
  |nil=>rfl
  |cons a t ih=>
   simp only[am,aC,List.map_cons,List.map_map] at ih⊢
   rw[ih];simp
 rw[←h1 a,h,h1 b]
def MI(bs:List Bk)(i:Nat)(es:List (PV × AV))(X:List AO):Prop:=Jj es/\∀p:Int,(bR (.int .i64 p) es=some none/\kmK bs p i=[])\/∃id,2<=id/\bR (.int .i64 p) es=some (some (.sl id 1 0 (kmK bs p i).length))/\X[id]?=some (AO.row 1 (am (aC (kmK bs p i))))/\kmK bs p i≠[]
structure DmM where (i:Nat) (es:List (PV × AV)) (X:List AO)
theorem mh:AK.whole dq=FK.ak dr:=rfl
variable (G:ay)
structure DoI (bs:List Bk) (es:List (PV × AV)) (q:Nat) (X:List AO) (out:List Nat):Prop where
 mp:X[0]?=some (.mp es)
 ce:X[1]?=some (.row 1 [[.mp 0]])
 fn:X[q+1]?=some (.row 1 [[.fn (.func bF) [.ptr q 1 0 0,.ptr 1 1 0 0,.ptr (q+1) 1 0 0]]])
 ou:∃V,X[q]?=some (.row 1 [[V]])/\((V= .nils/\out=[])\/∃id,q+2<=id/\V= .sl id 1 0 out.length/\X[id]?=some (.row 1 (am (aC out))))
 kd:∀b:Nat,(bR (.int .i64 b) es=some none/\bu bs b=[])\/∃id,2<=id/\id<q/\bR (.int .i64 b) es=some (some (.sl id 1 0 (bu bs b).length))/\X[id]?=some (AO.row 1 (am (aC (bu bs b))))
theorem DoI.q2{bs:List Bk}{es:List (PV × AV)}{q:Nat}{X:List AO}{out:List Nat}(h:DoI bs es q X out):q+2<=X.length:=by
 have:=(List.getElem?_eq_some_iff.1 h.fn).1;omega
theorem DoI.grow{bs:List Bk}{es:List (PV × AV)}{q:Nat}{X X':List AO}{out out':List Nat}(h:DoI bs es q X out)(hq:2<=q)(hf:∀j,j<q\/j=q+1->X'[j]?=X[j]?)(ho:∃V,X'[q]?=some (.row 1 [[V]])/\((V= .nils/\out'=[])\/∃id,q+2<=id/\V= .sl id 1 0 out'.length/\X'[id]?=some (.row 1 (am (aC out'))))):DoI bs es q X' out':=by
 refine⟨by rw[hf 0 (by omega)];exact h.mp,by rw[hf 1 (by omega)];exact h.ce,by rw[hf (q+1) (by omega)];exact h.fn,ho,λb=>?_⟩
 rcases h.kd b with g|⟨id,g1,g2,g3,g4⟩
 ·exact .inl g
 ·exact .inr ⟨id,g1,g2,g3,by rw[hf id (by omega)];exact g4⟩
structure CiS where (i:Nat) (X:List AO)
theorem DD(bs:List Bk)(hl1:bs.length<=1073741824)(es:List (PV × AV))(q:Nat)(hq:2<=q):∀(f:Nat) (X:List AO) (b:Nat) (out:List Nat),bs.length<dcN bs b bs.length+f->DoI bs es q X out->out.length+(bE bs f b).length<=1073741824->
 AC Tryz.prog G bF [.p (.int .i64 b),.ptr q 1 0 0,.ptr 1 1 0 0,.ptr (q+1) 1 0 0] X λx X'=>x= .ret (.tup [])/\X.length<=X'.length/\DoI bs es q X' (out++bE bs f b):=by
 intro f
 induction f with
 |zero=>
  intro X b out hb
  have:=BA bs b bs.length
  omega
 |succ f ih=>
  intro X b out hb hX hsz
  have hdn:bE bs (f+1) b=b::(bu bs b).flatMap (bE bs f):=rfl
  have hkd:∀k∈bu bs b,bs.length<dcN bs k bs.length+f:=λk hk=>by rw[sx hk];omega
  have hX2:=hX.q2
  have hKl:(bu bs b).length<=bs.length:=by
   have:=List.length_filter_le (pi bs b) (List.range bs.length)
   rwa[List.length_range] at this
  have hkb:=hX.kd b
  rw[hdn] at hsz⊢
  rw[List.length_cons] at hsz
  refine AC.goK mg mh ?_
  simp-implicitDefEqProofs[dq,dr]
  refine fD (λ_:CiS=>aB 23 [(0,.p (.int .i64 b)),(1,.ptr q 1 0 0),(2,.ptr 1 1 0 0),(3,.ptr (q+1) 1 0 0)]) (λa=>a.X) (λa=>X.length<=a.X.length/\DoI bs es q a.X (out++[b])) ?_ ?_
  ·obtain⟨V,hV1,hV2⟩:=hX.ou
   have hqX:∀t,(X++t)[q]?=some (.row 1 [[V]]):=λt=>by rw[List.getElem?_append_left (by omega)];exact hV1
   rcases hV2 with⟨rfl,rfl⟩|⟨id,hid,rfl,hV3⟩
   ·simp-implicitDefEqProofs[hqX,hV1]
    have hqs:∀o,((X++[AO.row 1 [[AV.p (.int .i64 b)]],AO.row 1 [[AV.p (.int .i64 b)]]]).set q o)[q]?=some o:=λo=>List.getElem?_set_self (by simp;omega)
    refine⟨⟨0,_⟩,⟨by simp,hX.grow hq (λj hj=>?_) ⟨.sl (X.length+1) 1 0 1,hqs _,.inr ⟨X.length+1,by omega,rfl,?_⟩⟩⟩,ab (by simp) (by simp[below];omega)⟩
    ·rw[List.getElem?_set_ne (by omega),List.getElem?_append_left (by omega)]
    ·rw[List.getElem?_set_ne (by omega),List.getElem?_append_right (by omega),Nat.add_sub_cancel_left];rfl
   ·have hidl:=(List.getElem?_eq_some_iff.1 hV3).1
    have hgm:∀t,(X++t)[id]?=some (.row 1 (am (aC out))):=λt=>by rw[List.getElem?_append_left hidl];exact hV3
    have hol:(aC out).length=out.length:=dh out
    have htt:List.take out.length (am (aC out))=am (aC out):=List.take_of_length_le (by simp[am,hol])
    have hrl:(am (aC out)).length=out.length:=by simp[am,hol]
    have hq3:∀t t2,((X++t).set id AO.dead++t2)[q]?=some (.row 1 [[.sl id 1 0 out.length]]):=λt t2=>by
     rw[List.getElem?_append_left (by simp;omega),List.getElem?_set_ne (by omega)];exact hqX t
    simp-implicitDefEqProofs[hqX,hV1,hgm,htt,hrl,hq3]
    refine⟨⟨by omega,by omega⟩,⟨0,_⟩,⟨by simp;omega,hX.grow hq (λj hj=>?_) ⟨.sl (X.length+1) 1 0 (out.length+1),?_,.inr ⟨X.length+1,by omega,by simp,?_⟩⟩⟩,ab (by simp;omega) (by simp[below];omega)⟩
    ·simp only
     rw[List.getElem?_set_ne (by omega),List.getElem?_append_left (by simp;omega),List.getElem?_set_ne (by omega),List.getElem?_append_left (by omega)]
    ·simp only
     rw[List.getElem?_set_self (by simp;omega)]
    ·simp only
     rw[List.getElem?_set_ne (by omega),List.getElem?_append_right (by simp)];simp[am,aC]
  rintro⟨_,Y⟩ ⟨hYl,hY⟩
  simp only at hYl hY⊢
  have hmp:=hY.mp
  have hce:=hY.ce
  have hY2:=hY.q2
  rcases hY.kd b with⟨hm,hk⟩|⟨kid,k2,kq,hm,hk⟩
  ·rw[hk]
   simp-implicitDefEqProofs[hmp,hce,hm]
   refine aH (λ_:CiS=>aB 23 [(15,.p (.int .i64 0)),(14,.p (.int .i64 0)),(13,.nils)]) (λ_=>Y) (λ_=>True) (λ_=>0) ⟨0,[]⟩ trivial (ab hYl (by simp[below])) ?_
   intro _ _
   simp-implicitDefEqProofs[]
   exact⟨hYl,hY⟩
  ·simp-implicitDefEqProofs[hmp,hce,hm]
   have hsz1:∀i k,(bu bs b)[i]?=some k->(out++b::((bu bs b).take i).flatMap (bE bs f)).length+(bE bs f k).length<=1073741824:=λi k hk=>by
    have hs:(bu bs b).flatMap (bE bs f)=((bu bs b).take i).flatMap (bE bs f)++((bu bs b).drop i).flatMap (bE bs f):=by rw[←List.flatMap_append,List.take_append_drop]
    have hs2:=congrArg List.length hs
    rw[List.length_append] at hs2
    have hd:((bu bs b).drop i).flatMap (bE bs f)=bE bs f k++((bu bs b).drop (i+1)).flatMap (bE bs f):=by
     obtain⟨h1,h2⟩:=List.getElem?_eq_some_iff.1 hk
     rw[List.drop_eq_getElem_cons h1,List.flatMap_cons,h2]
    rw[hd,List.length_append] at hs2
    rw[List.length_append,List.length_cons];omega
   have hDs1:∀i k,(bu bs b)[i]?=some k->out++b::((bu bs b).take (i+1)).flatMap (bE bs f)=(out++b::((bu bs b).take i).flatMap (bE bs f))++bE bs f k:=λi k hgi=>by rw[List.take_add_one,hgi];simp
   have hDe1:out++b::((bu bs b).take (bu bs b).length).flatMap (bE bs f)=out++b::(bu bs b).flatMap (bE bs f):=by rw[List.take_length]
   obtain⟨D,hD⟩:∃D:Nat->List Nat,D=λi=>out++b::((bu bs b).take i).flatMap (bE bs f):=⟨_,rfl⟩
   have hDz:D 0=out++[b]:=by rw[hD];simp
   have hDs:∀i k,(bu bs b)[i]?=some k->D (i+1)=D i++bE bs f k:=λi k h=>by rw[hD];exact hDs1 i k h
   have hDe:D (bu bs b).length=out++b::(bu bs b).flatMap (bE bs f):=by rw[hD];exact hDe1
   have hDz2:∀i k,(bu bs b)[i]?=some k->(D i).length+(bE bs f k).length<=1073741824:=λi=>by rw[hD];exact hsz1 i
   clear hsz1 hDs1 hDe1 hD
   refine aH (λa:CiS=>aB 23 [(15,.p (.int .i64 a.i)),(14,.p (.int .i64 (bu bs b).length)),(13,.sl kid 1 0 (bu bs b).length),(1,.ptr q 1 0 0),(2,.ptr 1 1 0 0),(3,.ptr (q+1) 1 0 0)]) (λa=>a.X) (λa=>a.i<=(bu bs b).length/\X.length<=a.X.length/\DoI bs es q a.X (D a.i)/\a.X[kid]?=some (.row 1 (am (aC (bu bs b))))) (λa=>(bu bs b).length-a.i) ⟨0,Y⟩ ⟨Nat.zero_le _,hYl,by simp only[hDz];exact hY,hk⟩ (ab hYl (by simp[below];omega)) ?_
   rintro⟨i,Z⟩ ⟨hi,hZl,hZ,hkid⟩
   simp only at hi hZl hZ hkid
   have hZ2:=hZ.q2
   have hfn:=hZ.fn
   simp-implicitDefEqProofs[]
   refine aG (λhc1=>?_) (λhc1=>?_)
   ·have hc1:i<(bu bs b).length:=by simpa using hc1
    have hwi:=w1 (i:=i) (by omega)
    have hgi:=List.getElem?_eq_getElem hc1
    have hkk:=hkd _ (List.getElem_mem hc1)
    generalize (bu bs b)[i]=k at hgi hkk
    have hri:(am (aC (bu bs b)))[i]?=some [.p (.int .i64 k)]:=by simp[am,aC,hgi]
    have hcall:=ih Z k _ hkk hZ (hDz2 i k hgi)
    rw[←hDs i k hgi] at hcall
    simp-implicitDefEqProofs[hkid,hri,hfn,hc1]
    refine hcall.mono ?_
    rintro _ Z2 ⟨rfl,e1,e2⟩
    have hk2:Z2[kid]?=some (.row 1 (am (aC (bu bs b)))):=by
     rcases e2.kd b with⟨g,_⟩|⟨id',g1,g2,g3,g4⟩
     ·rw[hm] at g;cases g
     ·rw[hm] at g3;cases g3;exact g4
    have:=e2.q2
    simp-implicitDefEqProofs[aa]
    exact⟨⟨i+1,Z2⟩,⟨hc1,by simp only;omega,e2,hk2⟩,by simp only;omega,ab (by omega) (by simp[below,hwi];omega)⟩
   ·have hie:i=(bu bs b).length:=by simp at hc1;omega
    subst hie
    rw[hDe] at hZ
    simp-implicitDefEqProofs[]
    exact⟨hZl,hZ⟩
end
section
theorem MI.same{bs:List Bk}{i:Nat}{es:List (PV × AV)}{X:List AO}(h:MI bs i es X)(hr:bg bs i=false):MI bs (i+1) es X:=by
 refine⟨h.1,λp=>?_⟩
 have e:kmK bs p (i+1)=kmK bs p i:=by rw[tQ,hr];simp
 rw[e]
 exact h.2 p
theorem MI.push{bs:List Bk}{i:Nat}{es es':List (PV × AV)}{X X':List AO}{id:Nat}(h:MI bs i es X)(hr:bg bs i=true)(h1:Jj es')(h2:bR (.int .i64 (idI bs i)) es'=some (some (.sl id 1 0 ((kmK bs (idI bs i) i).length+1))))(h3:∀q,q≠idI bs i->bR (.int .i64 q) es'=bR (.int .i64 q) es)(hid:2<=id)(hX:X'[id]?=some (AO.row 1 (am (aC (kmK bs (idI bs i) i))++[[.p (.int .i64 i)]])))
 (hf:∀(q:Int) (j:Nat),q≠idI bs i->X[j]?=some (AO.row 1 (am (aC (kmK bs q i))))->kmK bs q i≠[]->X'[j]?=X[j]?):MI bs (i+1) es' X':=by
 refine⟨h1,λp=>?_⟩
 by_cases hp:p=idI bs i
 ·subst hp
  have e:kmK bs (idI bs i) (i+1)=kmK bs (idI bs i) i++[i]:=by rw[tQ,hr];simp
  rw[e]
  exact .inr ⟨id,hid,by rw[h2];simp,by rw[hX];simp[am,aC],by simp⟩
 ·have e:kmK bs p (i+1)=kmK bs p i:=by
   have:¬idI bs i=p:=λe=>hp e.symm
   rw[tQ,decide_eq_false this,Bool.and_false];simp
  rw[e,h3 p hp]
  rcases h.2 p with g|⟨j,g1,g2,g3,g4⟩
  ·exact .inl g
  ·exact .inr ⟨j,g1,g2,by rw[hf p j hp g3 g4];exact g3,g4⟩
theorem nZ:AK.whole eC=FK.ak dY:=rfl
variable (G:ay)
theorem FI(c:Cd)(hc:CBd c)(hfit:aP c.blocks=true):AC Tryz.prog G eG [dmV c] [] λr h=>∃V,r= .ret V/\View h V (aD (aC (eO c.blocks))):=by
 have hl1:=hc.1
 have hI:=λb=>EG G c hc hfit b
 have hd:dmV c= .eptr (dmE c) 0:=by rw[dmV,hfit];rfl
 obtain⟨DL,BL,RL,e,hDl,hDg,hBl,hBg,hRl,hRg⟩:=pj c
 rw[hd,e] at hI
 rw[hd,e]
 refine AC.goK oG nZ ?_
 simp-implicitDefEqProofs[eC,dY]
 refine fD (λ_:DmM=>aB 40 [(3,.ptr 1 1 0 0)]) (λa=>a.X) (λa=>a.X[0]?=some (.mp a.es)/\a.X[1]?=some (.row 1 [[.mp 0]])/\MI c.blocks c.blocks.length a.es a.X) ?_ ?_
 ·simp-implicitDefEqProofs[hRl]
  refine aH (λa:DmM=>aB 40 [(14,.p (.int .i64 a.i)),(13,.p (.int .i64 c.blocks.length)),(3,.ptr 1 1 0 0),(0,.eptr [.int .i64 c.params,.int .i64 c.regs,bkL c.blocks,.lst 1 DL,.lst 1 RL] 0)]) (λa=>a.X) (λa=>a.i<=c.blocks.length/\a.X[0]?=some (.mp a.es)/\a.X[1]?=some (.row 1 [[.mp 0]])/\MI c.blocks a.i a.es a.X) (λa=>c.blocks.length-a.i) ⟨0,[],_⟩ ⟨Nat.zero_le _,rfl,rfl,λe he=>(by cases he),λp=> .inl ⟨rfl,rfl⟩⟩ (ab (Nat.zero_le _) (by simp[Aw.below])) ?_
  rintro⟨i,es,X⟩ ⟨hi,g0,g1,hM⟩
  simp only at hi g0 g1 hM
  have h1l:=(List.getElem?_eq_some_iff.1 g1).1
  simp-implicitDefEqProofs[]
  refine aG (λhc1=>?_) (λhc1=>?_)
  ·have hc1:i<c.blocks.length:=by simpa using hc1
   have hwi:=w1 (i:=i) (by omega)
   have x1:=hRg i hc1
   cases hr:bg c.blocks i with
   |false=>
    rw[hr] at x1
    simp-implicitDefEqProofs[x1]
    exact⟨⟨i+1,es,X⟩,⟨hc1,g0,g1,hM.same hr⟩,by simp only;omega,ab (Nat.zero_le _) (by simp[Aw.below,hwi];omega)⟩
   |true=>
    rw[hr] at x1
    have hkl:=Hy c.blocks (idI c.blocks i) i
    simp-implicitDefEqProofs[x1]
    refine(hI i hc1).use ?_
    rcases hM.2 (idI c.blocks i) with⟨m1,m2⟩|⟨id,m1,m2,m3,m4⟩
    ·obtain⟨es',n1,n2,n3,n4⟩:=zY (idI c.blocks i) (.sl X.length 1 0 1) hM.1
     have a0:∀t,(X++t)[0]?=some (.mp es):=λt=>by rw[List.getElem?_append_left (by omega)];exact g0
     have a1:∀t,(X++t)[1]?=some (.row 1 [[.mp 0]]):=λt=>by rw[List.getElem?_append_left (by omega)];exact g1
     have a0e:=λt hh=>dV (a0 t) hh
     have a1e:=λt hh=>dV (a1 t) hh
     simp-implicitDefEqProofs[g0,g1,m1,a0,a1,a0e,a1e,n1]
     refine⟨⟨i+1,es',_⟩,⟨hc1,?_,?_,hM.push (id:=X.length) hr n2 (by rw[n3,m2];rfl) n4 (by omega) ?_ (λq j hq hj hne=>?_)⟩,by simp only;omega,ab (Nat.zero_le _) (by simp[Aw.below,hwi];omega)⟩
     ·simp only;rw[List.getElem?_set_self (by simp<;>omega)]
     ·simp only;rw[List.getElem?_set_ne (by omega)];exact a1 _
     ·simp only;rw[List.getElem?_set_ne (by omega),List.getElem?_append_right (Nat.le_refl _),Nat.sub_self,m2];rfl
     ·have hj0:0≠j:=by
       rintro rfl
       rw[g0] at hj;simp at hj
      have hjl:=(List.getElem?_eq_some_iff.1 hj).1
      simp only
      rw[List.getElem?_set_ne hj0,List.getElem?_append_left hjl]
    ·obtain⟨es',n1,n2,n3,n4⟩:=zY (idI c.blocks i) (.sl X.length 1 0 ((kmK c.blocks (idI c.blocks i) i).length+1)) hM.1
     have hidl:=(List.getElem?_eq_some_iff.1 m3).1
     have a0:∀t,(X.set id .dead++t)[0]?=some (.mp es):=λt=>by rw[List.getElem?_append_left (by simp;omega),List.getElem?_set_ne (by omega)];exact g0
     have a1:∀t,(X.set id .dead++t)[1]?=some (.row 1 [[.mp 0]]):=λt=>by rw[List.getElem?_append_left (by simp;omega),List.getElem?_set_ne (by omega)];exact g1
     have htt:List.take (kmK c.blocks (idI c.blocks i) i).length (am (aC (kmK c.blocks (idI c.blocks i) i)))=am (aC (kmK c.blocks (idI c.blocks i) i)):=List.take_of_length_le (by simp[am,aC])
     have hrl:(am (aC (kmK c.blocks (idI c.blocks i) i))).length=(kmK c.blocks (idI c.blocks i) i).length:=by simp[am,aC]
     have a0e:=λt hh=>dV (a0 t) hh
     have a1e:=λt hh=>dV (a1 t) hh
     simp-implicitDefEqProofs[g0,g1,m2,m3,a0,a1,a0e,a1e,n1,htt,hrl]
     refine⟨⟨by omega,by omega⟩,⟨i+1,es',_⟩,⟨hc1,?_,?_,hM.push (id:=X.length) hr n2 n3 n4 (by omega) ?_ (λq j hq hj hne=>?_)⟩,by simp only;omega,ab (Nat.zero_le _) (by simp[Aw.below,hwi];omega)⟩
     ·simp only;rw[List.getElem?_set_self (by simp)]
     ·simp only;rw[List.getElem?_set_ne (by omega)];exact a1 _
     ·simp only;rw[List.getElem?_set_ne (by omega),List.getElem?_append_right (by simp)];simp
     ·have hj0:0≠j:=by
       rintro rfl
       rw[g0] at hj;simp at hj
      have hjd:id≠j:=by
       rintro rfl
       rw[m3] at hj
       simp only[Option.some.injEq,AO.row.injEq,true_and] at hj
       exact hne (Ek hq (Ej hj).symm)
      have hjl:=(List.getElem?_eq_some_iff.1 hj).1
      simp only
      rw[List.getElem?_set_ne hj0,List.getElem?_append_left (by simp;omega),List.getElem?_set_ne hjd]
  ·have hie:i=c.blocks.length:=by simp at hc1;omega
   subst hie
   simp-implicitDefEqProofs[]
   exact⟨⟨0,es,X⟩,⟨g0,g1,hM⟩,ab (Nat.zero_le _) (by simp[Aw.below];omega)⟩
 rintro⟨_,es,X⟩ ⟨g0,g1,hM⟩
 simp only at g0 g1 hM⊢
 have h1l:=(List.getElem?_eq_some_iff.1 g1).1
 simp-implicitDefEqProofs[]
 have hdl:(eO c.blocks).length<=c.blocks.length:=by rw[tE hfit];exact lE _ _
 have hDI:DoI c.blocks es X.length (X++[AO.row 1 [[AV.nils]],AO.row 1 [[AV.fn (.func bF) [AV.ptr X.length 1 0 0,AV.ptr 1 1 0 0,AV.ptr (X.length+1) 1 0 0]]]]) []:=by
  refine⟨by rw[List.getElem?_append_left (by omega)];exact g0,by rw[List.getElem?_append_left (by omega)];exact g1,by rw[List.getElem?_append_right (by omega),Nat.add_sub_cancel_left];rfl,⟨.nils,by rw[List.getElem?_append_right (by omega),Nat.sub_self];rfl,.inl ⟨rfl,rfl⟩⟩,λb=>?_⟩
  rw[←IC]
  rcases hM.2 (b:Int) with g|⟨id,m1,m2,m3,_⟩
  ·exact .inl g
  ·have hl:=(List.getElem?_eq_some_iff.1 m3).1
   exact .inr ⟨id,m1,hl,m2,by rw[List.getElem?_append_left hl];exact m3⟩
 refine(DD G c.blocks hc.1 es X.length (by omega) c.blocks.length _ 0 [] (lO hfit) hDI (by show 0+(eO c.blocks).length<=_;omega)).mono ?_
 rintro _ Y ⟨rfl,e1,e2⟩
 rw[List.nil_append] at e2
 obtain⟨V,hV1,hV2⟩:=e2.ou
 rcases hV2 with⟨rfl,he⟩|⟨id,_,rfl,hV3⟩
 ·simp-implicitDefEqProofs[aa,hV1]
  rw[show eO c.blocks=[] from he]
  exact .nils 1
 ·simp-implicitDefEqProofs[aa,hV1]
  have:=dg hV3
  rwa[dh] at this
theorem BD(c:Cd)(hc:CSm c):VF Tryz.prog G fO [.agg (c.cs.map .p)] (.p (aD (dR c.blocks))):=by
 have hcs:=c.cs_eq2
 have hbl:bkL c.blocks= .lst 5 (c.blocks.map Bk.cs):=rfl
 have hd:=sV G c hc
 rw[hcs,hbl] at hd
 refine ff G ?_
 refine AC.go ro ?_
 simp-implicitDefEqProofs[ku,hcs,hbl]
 cases hfit:aP c.blocks with
 |false=>
  have hdm:dmV c= .nilp:=by rw[dmV,hfit];rfl
  have hm:dR c.blocks=[]:=by rw[dR,hfit];rfl
  rw[hdm] at hd
  rw[hm]
  refine hd.use ?_
  simp-implicitDefEqProofs[]
  exact .nils 1
 |true=>
  have hdm:dmV c= .eptr (dmE c) 0:=by rw[dmV,hfit];rfl
  have hF:=ff G (FI G c hc.1 hfit)
  have hm:dR c.blocks=aC (eO c.blocks):=by rw[dR,if_pos hfit]
  rw[hm]
  rw[hdm] at hd hF
  generalize dmE c=E at hd hF
  refine hd.use ?_
  simp-implicitDefEqProofs[]
  refine hF.use ?_
  simp-implicitDefEqProofs[]
  exact .p _
end
section
theorem Hm{bs:List Bk}(hfit:aP bs=true){x:Nat}(h:x∈eO bs):x<bs.length:=pA hfit (rchB_iff.1 ((jM hfit x).1 h))
theorem Di{bs:List Bk}:(dR bs).length=(fL bs).length:=by
 cases h:aP bs with
 |false=>rw[dR,h,uS h];rfl
 |true=>rw[dR,if_pos h,dh,tE h,rU h]
theorem sM{bs:List Bk}{i:Nat}{v:Int}(h:(dR bs)[i]?=some v):aP bs=true/\∃x:Nat,v=(x:Int)/\(eO bs)[i]?=some x/\x<bs.length:=by
 cases hf:aP bs with
 |false=>rw[dR,hf] at h;simp at h
 |true=>
  rw[dR,if_pos hf,aC,List.getElem?_map,Option.map_eq_some_iff] at h
  obtain⟨x,h1,h2⟩:=h
  exact⟨rfl,x,h2.symm,h1,Hm hf (List.mem_of_getElem? h1)⟩
theorem JB{R:Nat->Nat->Prop}{l:List Nat}(h:l.Pairwise R){i j x y:Nat}(hx:l[i]?=some x)(hy:l[j]?=some y)(hij:i<j):R x y:=by
 obtain⟨h1,e1⟩:=List.getElem?_eq_some_iff.1 hx
 obtain⟨h2,e2⟩:=List.getElem?_eq_some_iff.1 hy
 have:=List.pairwise_iff_getElem.1 h i j h1 h2 hij
 rwa[e1,e2] at this
theorem zo{bs:List Bk}{i:Nat}{v w:Int}(hv:(dR bs)[i]?=some v)(hw:w∈(dR bs).drop (i+1)):¬w=v/\AT bs w v=false:=by
 obtain⟨j,hj⟩:=List.getElem?_of_mem hw
 rw[List.getElem?_drop] at hj
 obtain⟨hf,x,rfl,hx,hxl⟩:=sM hv
 obtain⟨_,y,rfl,hy,hyl⟩:=sM hj
 have h1:=JB (vZ hf) hx hy (by omega)
 refine⟨λe=>?_,?_⟩
 ·have:y=x:=by omega
  subst this
  rw[dS ((jM hf y).1 (List.mem_of_getElem? hx))] at h1;cases h1
 ·have:=FU hf hyl (x:=(x:Int)) (CC hf hxl)
  rw[this,Int.toNat_natCast];exact h1
theorem Dm{bs:List Bk}{i:Nat}{v:Int}(hi:0<i)(hv:(dR bs)[i]?=some v):∃x:Nat,v=(x:Int)/\(kb bs)[x]?=some (idI bs x)/\idI bs x∈(dR bs).take i:=by
 obtain⟨hf,x,rfl,hx,hxl⟩:=sM hv
 have hr:=(jM hf x).1 (List.mem_of_getElem? hx)
 refine⟨x,rfl,by rw[jT hf,List.getElem?_map,List.getElem?_range hxl];rfl,?_⟩
 have h0:(eO bs)[0]?=some 0:=by
  rw[eO]
  obtain⟨n,hn⟩:∃n,bs.length=n+1:=⟨bs.length-1,by have:=bN hf;omega⟩
  rw[hn,bE];rfl
 cases e:gP bs x with
 |none=>
  rcases(Fw hf).1 e with rfl|h
  ·have:=Fy (Cw hf) hx h0
   omega
  ·rw[hr] at h;cases h
 |some m=>
  obtain⟨f1,f2,_⟩:=cd e
  have hm:=(jM hf m).2 (bn f2).1
  obtain⟨j,hj⟩:=List.getElem?_of_mem hm
  have hji:j<i:=by
   rcases Nat.lt_trichotomy j i with h|h|h
   ·exact h
   ·subst h;rw[hx] at hj;cases hj;exact absurd rfl f1
   ·have:=JB (vZ hf) hx hj h
    rw[f2] at this;cases this
  have hid:idI bs x=(m:Int):=by rw[idI,e];rfl
  rw[hid,dR,if_pos hf,aC,←List.map_take]
  have:(m:Int)∈aC ((eO bs).take i):=by
   rw[pN]
   obtain⟨hl,e2⟩:=List.getElem?_eq_some_iff.1 hj
   exact List.mem_take_iff_getElem.2 ⟨j,by omega,e2⟩
  exact this
variable (G:ay)
theorem sy(code:List Int)(hb:Byt code)(hl:code.length<=9223372036854775807):VF Tryz.prog G iH [.p (oW code)] (.p (.bool true)):=by
 have hbl:oW code= .lst 1 (code.map λn=>[.int .u8 n]):=rfl
 refine AC.go og ?_
 simp-implicitDefEqProofs[iw,hbl]
 refine aG (λ_=>?_) (λ_=>?_)
 ·simp-implicitDefEqProofs[]
 simp-implicitDefEqProofs[]
 have hd:=GB G (tn G code hb) GM (by simp) []
 rw[hbl] at hd
 refine hd.mono ?_
 rintro r h ⟨⟨c,rfl,hg⟩,rfl⟩
 have hcs:=hg.csm
 have h160:=hg.2.1
 have hcc:=c.cs_eq2
 have hbk:bkL c.blocks= .lst 5 (c.blocks.map Bk.cs):=rfl
 have hI:=BD G c hcs
 have hS:=Bw G c hcs.1
 have hR:=zm G c hcs.1
 have hM:=Dl G c hcs
 have hD:=λx y=>Aq G c hcs x y
 rw[hcc,hbk] at hI hS hR hM hD
 have hrl:= @DV c.blocks
 have hll:= @Di c.blocks
 have hlat:=λi v w=> @zo c.blocks i v w
 have hpar:=λi v=> @Dm c.blocks i v
 generalize dR c.blocks=L at*
 have hW:=FZ G L (by omega)
 have hLn:aD L= .lst 1 (L.map λn=>[.int .i64 n]):=rfl
 have hRn:aD (fL c.blocks)= .lst 1 ((fL c.blocks).map λn=>[.int .i64 n]):=rfl
 have hMn:aD (kb c.blocks)= .lst 1 ((kb c.blocks).map λn=>[.int .i64 n]):=rfl
 simp-implicitDefEqProofs[aa,hcc,hbk]
 refine hI.use ?_
 simp-implicitDefEqProofs[]
 refine hS.use ?_
 simp-implicitDefEqProofs[]
 refine hW.use ?_
 simp-implicitDefEqProofs[hLn]
 refine aH (λi:Nat=>aB 68 [(23,.p (.int .i64 i)),(22,.p (.int .i64 L.length)),(21,.p (.lst 1 (L.map λn=>[.int .i64 n]))),(4,.p (.lst 1 (L.map λn=>[.int .i64 n]))),(3,.ptr 0 3 0 0)]) (λ_=>[.row 3 [[.p (.int .i64 c.params),.p (.int .i64 c.regs),.p (.lst 5 (c.blocks.map Bk.cs))]]]) (λi=>i<=L.length) (λi=>L.length-i) 0 (Nat.zero_le _) (ab (Nat.zero_le _) (by simp[below])) ?_
 intro i hi
 simp-implicitDefEqProofs[]
 refine aG (λhc=>?_) (λhc=>?_)
 ·have hc:i<L.length:=by simpa using hc
  have hwi:=w1 (i:=i) (by omega)
  have hwi2:IntKind.i64.wrap ((i:Int)+1)=(i:Int)+1:=ag (by omega) (by omega)
  have hgi:=List.getElem?_eq_getElem hc
  generalize L[i]=v at hgi
  have hlt:=λw=>hlat i v w hgi
  have hp1:(0:Int)<=(i:Int)+1:=by omega
  have hp2:i+1<=L.length:=hc
  have hdrop:(L.map λn=>[PV.int .i64 n]).drop (i+1)=(L.drop (i+1)).map λn=>[PV.int .i64 n]:=by rw[List.map_drop]
  have hdl:(L.drop (i+1)).length<=L.length:=by rw[List.length_drop];omega
  have hdl2:L.length-(i+1)=(L.drop (i+1)).length:=by rw[List.length_drop]
  simp-implicitDefEqProofs[hgi,hwi2,hp1,hp2]
  have he31:List.drop (i+1) (List.take L.length (List.map (λn=>[PV.int IntKind.i64 n]) L))=(L.drop (i+1)).map λn=>[PV.int .i64 n]:=by
   rw[List.take_of_length_le (by simp),List.map_drop]
  rw[he31,hdl2]
  generalize L.drop (i+1)=D at hlt hdl
  refine aH (λj:Nat=>aB 68 [(33,.p (.int .i64 j)),(32,.p (.int .i64 D.length)),(31,.p (.lst 1 (D.map λn=>[.int .i64 n]))),(6,.p (.int .i64 v)),(5,.p (.int .i64 i)),(23,.p (.int .i64 i)),(22,.p (.int .i64 L.length)),(21,.p (.lst 1 (L.map λn=>[.int .i64 n]))),(4,.p (.lst 1 (L.map λn=>[.int .i64 n]))),(3,.ptr 0 3 0 0)]) (λ_=>[.row 3 [[.p (.int .i64 c.params),.p (.int .i64 c.regs),.p (.lst 5 (c.blocks.map Bk.cs))]]]) (λj=>j<=D.length) (λj=>D.length-j) 0 (Nat.zero_le _) (ab (Nat.zero_le _) (by simp[below])) ?_
  intro j hj
  simp-implicitDefEqProofs[]
  refine aG (λhc2=>?_) (λhc2=>?_)
  ·have hc2:j<D.length:=by simpa using hc2
   have hwj:=w1 (i:=j) (by omega)
   have hgj:=List.getElem?_eq_getElem hc2
   have hw2:=hlt _ (List.getElem_mem hc2)
   generalize D[j]=w at hgj hw2
   obtain⟨hne,hdo⟩:=hw2
   simp-implicitDefEqProofs[hgj,hne]
   refine(hD w v).use ?_
   rw[hdo]
   simp-implicitDefEqProofs[]
   exact⟨j+1,hc2,by omega,ab (Nat.zero_le _) (by simp[below,hwj])⟩
  ·by_cases hi0:i=0
   ·subst hi0
    simp-implicitDefEqProofs[]
    exact⟨1,by omega,by omega,ab (Nat.zero_le _) (by simp[below];exact hwi)⟩
   ·have hi1:0<i:=by omega
    obtain⟨x,rfl,q1,q2⟩:=hpar i v hi1 hgi
    have hH:=Jr G (L.take i) (idI c.blocks x) (by rw[List.length_take];omega)
    rw[decide_eq_true q2] at hH
    have hqt:aD (L.take i)= .lst 1 ((L.take i).map λn=>[.int .i64 n]):=rfl
    rw[hqt,List.map_take] at hH
    have hil:i<=L.length:=by omega
    simp-implicitDefEqProofs[hi1,hil]
    refine hM.use ?_
    simp-implicitDefEqProofs[hMn,q1]
    refine VF.use hH ?_
    simp-implicitDefEqProofs[]
    exact⟨i+1,hc,by omega,ab (Nat.zero_le _) (by simp[below,hwi])⟩
 ·have hie:i=L.length:=by simp at hc;omega
  simp-implicitDefEqProofs[]
  refine hR.use ?_
  simp-implicitDefEqProofs[hRn,hll]
end
end Go.Proofs.YtdfplkcigiblcaaGreat
namespace Go.Proofs.YtdfplkcigiblcaaGreat
open Go Go.Aw Go.ChangeShapes Go.WideShapes Go.ChangeAt Go.RowKit
set_option maxRecDepth 100000
abbrev Dd:TypeId:=22
abbrev vG:TypeId:=5
theorem MA:Kids Tryz.prog (· <Tryz.prog.types.size):=kids_rows (by kernel_rfl) (by kernel_rfl)
theorem LN:∀t e,t<Tryz.prog.types.size->Tryz.prog.underlying t=some (.slice e)->0<Tryz.prog.cellsOf e:=slices_full_of Tryz.prog (by kernel_rfl)
def Ce:List TypeId:=[Dd,vG]
theorem JZ:Plain Tryz.prog Ce=true:=by kernel_rfl
theorem NZ:ownKnob Tryz.prog.godebug=none:=by kernel_rfl
theorem tD{H:Type}:∀l:List (DataW H),Rows.uptoBulkAll l=(l.map Rows.uptoBulk).sum
 |[]=>by simp[Rows.uptoBulkAll]
 |d::r=>by simp[Rows.uptoBulkAll,tD r]
theorem Ik{H:Type}:BulkOk (Rows.uptoBulk (H:=H)) where
 lit:=λl=>by cases l<;>simp[Rows.uptoBulk]
 str:=λs=>by simp[Rows.uptoBulk]
 nil:=by simp[Rows.uptoBulk]
 slice:=λes sp=>by simp only[Rows.uptoBulk,tD];omega
 agg:=λps=>by simp only[Rows.uptoBulk,tD];omega
theorem FP{t e:TypeId}{vs:List PV}(h:Conf Tryz.prog t vs)(hu:Tryz.prog.underlying t=some (.slice e)):∃es,vs=[.lst (Tryz.prog.cellsOf e) es]/\es.length<=9223372036854775807/\∀x∈es,Conf Tryz.prog e x:=by
 cases h with
 |sl es e' hl hs=>rw[hu] at e';cases e';exact⟨es,rfl,hl,hs⟩
 |bool b e=>rw[e] at hu;cases hu
 |int n e=>rw[e] at hu;cases hu
 |str s e=>rw[e] at hu;cases hu
 |st vs e=>rw[e] at hu;cases hu
 |arr vs e=>rw[e] at hu;cases hu
theorem BY{vs:List PV}(h:Conf Tryz.prog Dd vs):∃l:List Int,vs=[oW l]/\l.length<=9223372036854775807/\Byt l:=by
 obtain⟨es,rfl,hl,h4⟩:=FP h (e:=vG) (by kernel_rfl)
 have hk:∀x∈es,∃n:Int,x=[PV.int .u8 n]/\(Lit.int .u8 n).wf=true:=λx hx=>GH (h4 x hx) (by kernel_rfl)
 obtain⟨l,rfl⟩:=CZ (λn:Int=>[PV.int .u8 n]) (λx hx=>by obtain⟨n,e,_⟩:=hk x hx;exact⟨n,e⟩)
 rw[show Tryz.prog.cellsOf vG=1 by kernel_rfl]
 refine⟨l,rfl,by rwa[List.length_map] at hl,λn hn=>?_⟩
 obtain⟨m,e,hw⟩:=hk [PV.int .u8 n] (List.mem_map.2 ⟨n,hn,rfl⟩)
 cases e
 simp[Lit.wf,IntKind.min,IntKind.max,IntKind.bits,IntKind.signed] at hw
 omega
def G0:ay:=λ_=>none
end Go.Proofs.YtdfplkcigiblcaaGreat
