/-
  Contracts and lemmas that the card needs, part 3.
-/
import Derived.Test.YtdfplkcigiblcaaGreatFp2
import Derived.ChangeSame
import Derived.ReadAgain
import Derived.OpenShut
import Derived.Deep.DeepHandedRow
import Derived.ChangeMaps
import Derived.WideShapes
import Derived.WideHanded
import Derived.Sort.Grow
import Derived.Maps.RangeRun
namespace Go.Aw
def iY(P:Program)(L:List TypeId)(t:TypeId):Bool:=
 match P.underlying t with
 |some .bool|some (.int _)|some .string=>P.cellsOf t==1
 |some (.slice e)=>P.cellsOf t==1&&L.contains e&&decide (0<P.cellsOf e)
 |some (.array n e)=>L.contains e&&P.cellsOf t==n*P.cellsOf e
 |some (.struct fs)=>fs.toList.all (λf=>L.contains f.type)&&P.cellsOf t==(fs.toList.map λf=>P.cellsOf f.type).sum&&
   (List.range fs.size).all λj=>match fs.toList[j]? with
     |some f=>f.offset==((fs.toList.take j).map λf=>P.cellsOf f.type).sum
     |none=>true
 |_=>false
def Plain(P:Program)(L:List TypeId):Bool:=L.all (iY P L)
theorem Plain.kids{P:Program}{L:List TypeId}(h:Plain P L=true):Kids P (· ∈L):=by
 have k:∀t,t∈L->iY P L t=true:=λt ht=>List.all_eq_true.1 h t ht
 refine⟨λht hu=>?_,λht hu=>?_,λht hu=>?_,λht hu=>?_,λht hu=>?_⟩
 ·have:=k _ ht;simp[iY,hu] at this
 ·have:=k _ ht;simp[iY,hu] at this;exact this.1.2
 ·have:=k _ ht;simp[iY,hu] at this;exact this
 ·rename_i t fs
  have:=k _ ht
  simp only[iY,hu,Bool.and_eq_true,List.all_eq_true,beq_iff_eq,List.contains_iff_mem] at this
  refine⟨λf hf=>this.1.1 f hf,this.1.2,λj f hj=>?_⟩
  have h2:=this.2 j (by
   have:=(List.getElem?_eq_some_iff.1 hj).1
   simpa using this)
  rw[hj] at h2
  simpa using h2
 ·have:=k _ ht;simp[iY,hu] at this
mutual
inductive Conf (P:Program):TypeId->List PV->Prop
 |bool {t:TypeId} (b:Bool):P.underlying t=some .bool->Conf P t [.bool b]
 |int {t:TypeId} {k:IntKind} (n:Int):P.underlying t=some (.int k)->(Lit.int k n).wf=true->Conf P t [.int k n]
 |str {t:TypeId} (s:List UInt8):P.underlying t=some .string->s.length<=maxLen->Conf P t [.str s]
 |sl {t e:TypeId} (es:List (List PV)):P.underlying t=some (.slice e)->es.length<=maxLen->(∀x,x∈es->Conf P e x)->Conf P t [.lst (P.cellsOf e) es]
 |st {t:TypeId} {fs:Array Field} (vs:List PV):P.underlying t=some (.struct fs)->ConfS P (fs.toList.map (·.type)) vs->Conf P t vs
 |arr {t e:TypeId} {n:Nat} (vs:List PV):P.underlying t=some (.array n e)->ConfS P (List.replicate n e) vs->Conf P t vs
inductive ConfS (P:Program):List TypeId->List PV->Prop
 |nil:ConfS P [] []
 |cons {t:TypeId} {ts:List TypeId} {a b:List PV}:Conf P t a->ConfS P ts b->ConfS P (t::ts) (a++b)
end
mutual
def vL:PV->Nat
 | .bool _=>1
 | .int _ _=>1
 | .str s=>s.length+1
 | .lst _ es=>eC es+1
 | .tbl _ _=>1
def dz:List PV->Nat
 |[]=>0
 |v::r=>vL v+dz r
def eC:List (List PV)->Nat
 |[]=>0
 |v::r=>dz v+eC r
end
theorem vn(a b:List PV):dz (a++b)=dz a+dz b:=by
 induction a with
 |nil=>simp[dz]
 |cons v r ih=>simp[dz,ih];omega
def gw{H:Type}(P:Program):Nat->TypeId->DataW H->List PV
 |0,_,_=>[]
 |n+1,t,d=>match P.underlying t,d with
  |some .bool,.lit (.bool b)=>[.bool b]
  |some (.int _),.lit (.int k n)=>[.int k n]
  |some .string,.lit (.string s)=>[.str s]
  |some (.slice e),.slice es _=>[.lst (P.cellsOf e) (es.map (gw P n e))]
  |some (.slice e),.nil=>[.lst (P.cellsOf e) []]
  |some (.struct fs),.agg ps=>(List.zipWith (λt x=>gw P n t x) (fs.toList.map (·.type)) ps).flatten
  |some (.array m e),.agg ps=>(List.zipWith (λt x=>gw P n t x) (List.replicate m e) ps).flatten
  |_,_=>[]
structure BulkOk {H:Type} (ub:DataW H->Nat):Prop where
 lit:∀l,1<=ub (.lit l)
 str:∀s,s.length+1<=ub (.lit (.string s))
 nil:1<=ub .nil
 slice:∀es sp,(es.map ub).sum+1<=ub (.slice es sp)
 agg:∀ps,(ps.map ub).sum+1<=ub (.agg ps)
structure Reads {H:Type} (P:Program) (W:World) (ub:DataW H->Nat) (t:TypeId) (cs:List Value) (d:DataW H) (vs:List PV):Prop where
 conf:Conf P t vs
 len:vs.length=P.cellsOf t
 clen:cs.length=P.cellsOf t
 rel:∀(j:Nat) (c:PV) (v:Value),vs[j]?=some c->cs[j]?=some v->PRel W (· <W.heap.size) c v
 bulk:dz vs<=ub d
theorem lg{α β:Type}{f:α->Option β}:∀{l:List α} {r:List β},l.mapM f=some r->r.length=l.length/\∀(i:Nat) (x:α),l[i]?=some x->∃y,f x=some y/\r[i]?=some y
 |[],r,h=>by simp at h;subst h;simp
 |a::l,r,h=>by
  simp only[List.mapM_cons,Option.bind_eq_bind,Option.bind_eq_some_iff] at h
  obtain⟨y,hy,r',hr,e⟩:=h
  cases e
  obtain⟨h1,h2⟩:=lg hr
  refine⟨by simp[h1],λi x hi=>?_⟩
  cases i with
  |zero=>simp at hi;subst hi;exact⟨y,hy,rfl⟩
  |succ i=>simpa using h2 i x (by simpa using hi)
theorem Cf{w:World}{a:Addr}{v:Value}(h:w.cell? a=some v):a.spot=none:=by
 cases hsp:a.spot with
 |none=>rfl
 |some s=>
  simp only[World.cell?] at h
  split at h
  ·simp[hsp] at h
  ·cases h
theorem zP{a:Addr}(h:a.spot=none)(i:Nat):a.add i=⟨a.block,a.off+i,none⟩:=by
 unfold Addr.add
 split
 ·rename_i h0;subst h0;cases a;simp_all
 ·rfl
theorem tY{w:World}{b:Nat}{a:Addr}{n:Nat}{cs:List Value}(h:w.cells? b a n=some cs):
 cs.length=n/\(0<n->a.spot=none)/\∀i,i<n->∃v,cs[i]?=some v/\w.cell? ⟨a.block,a.off+i,none⟩=some v:=by
 unfold World.cells? at h
 split at h
 ·obtain⟨h1,h2⟩:=lg h
  have hs:0<n->a.spot=none:=λhn=>by
   obtain⟨y,hy,_⟩:=h2 0 0 (by simp[hn])
   exact Cf hy
  refine⟨by simpa using h1,hs,λi hi=>?_⟩
  obtain⟨y,hy,hr⟩:=h2 i i (by simp[hi])
  rw[zP (hs (by omega))] at hy
  exact⟨y,hr,hy⟩
 ·cases h
section
variable {H:Type} {enc:TypeId × Value->H} {P:Program} {W:World} {sp:Nat->Bool} {held:Bool} {L:List TypeId} {ub:DataW H->Nat}
theorem pT(r:TypeId->List Value->Option (DataW H × List MemPlace))(pv:TypeId->DataW H->List PV)
 (hr:∀t cs x,t∈L->r t cs=some x->Reads P W ub t cs x.1 (pv t x.1))(cs:List Value):
 ∀(ts:List TypeId) (xs:List (DataW H × List MemPlace)) (off:Nat),(∀t∈ts,t∈L)->xs.length=ts.length->
  (∀(j:Nat) t,ts[j]?=some t->∃y,xs[j]?=some y/\r t ((cs.drop (off+((ts.take j).map P.cellsOf).sum)).take (P.cellsOf t))=some y)->
  ConfS P ts (List.zipWith pv ts (xs.map (·.1))).flatten/\(List.zipWith pv ts (xs.map (·.1))).flatten.length=(ts.map P.cellsOf).sum/\
  (∀(j:Nat) (c:PV) (v:Value),(List.zipWith pv ts (xs.map (·.1))).flatten[j]?=some c->cs[off+j]?=some v->PRel W (· <W.heap.size) c v)/\
  dz (List.zipWith pv ts (xs.map (·.1))).flatten<=((xs.map (·.1)).map ub).sum
 |[],[],off,_,_,_=>⟨.nil,rfl,by simp,by simp[dz]⟩
 |t::ts,x::xs,off,hL,hl,h=>by
  obtain⟨y,hy,h0⟩:=h 0 t rfl
  simp at hy;subst hy
  have R:=hr _ _ _ (hL t (by simp)) h0
  obtain⟨i1,i2,i3,i4⟩:=pT r pv hr cs ts xs (off+P.cellsOf t) (λt ht=>hL t (by simp[ht])) (by simpa using hl) (λj t' hj=>by
   obtain⟨y,hy,h1⟩:=h (j+1) t' (by simpa using hj)
   refine⟨y,by simpa using hy,?_⟩
   simpa[Nat.add_assoc] using h1)
  simp only[List.map_cons,List.zipWith_cons_cons,List.flatten_cons]
  refine⟨.cons R.conf i1,by simp[i2,R.len],λj c v hc hv=>?_,by rw[vn];have:=R.bulk;simp only[List.sum_cons];omega⟩
  by_cases hj:j<(pv t x.1).length
  ·rw[List.getElem?_append_left hj] at hc
   refine R.rel j c v hc ?_
   rw[R.len] at hj
   rw[List.getElem?_take,if_pos hj,List.getElem?_drop]
   simpa using hv
  ·rw[List.getElem?_append_right (by omega),R.len] at hc
   rw[R.len] at hj
   exact i3 _ c v hc (by rw[←hv];congr 1;omega)
theorem MV(hP:Plain P L=true)(hub:BulkOk ub):∀(n:Nat) (t:TypeId) (cs:List Value) (x:DataW H × List MemPlace),t∈L->
 DataW.trod enc P W 0 sp held n t cs=some x->Reads P W ub t cs x.1 (gw P n t x.1):=by
 intro n
 induction n with
 |zero=>intro t cs x _ h;simp[DataW.trod] at h
 |succ n ih=>
  intro t cs x hL h
  have hk:=List.all_eq_true.1 hP t hL
  have iv:∀(pv:PV) (v:Value),PRel W (· <W.heap.size) pv v->∀(j:Nat) (c:PV) (v':Value),[pv][j]?=some c->[v][j]?=some v'->PRel W (· <W.heap.size) c v':=by
   intro pv v hp j c v' h1 h2
   cases j with
   |zero=>simp at h1 h2;subst h1;subst h2;exact hp
   |succ j=>simp at h1
  unfold iY at hk
  unfold DataW.trod at h
  split at hk
  ·rename_i hu
   rw[hu] at h
   split at h<;>simp_all
   subst h
   simp only[gw,hu]
   exact⟨.bool _ hu,by simp[hk],by simp[hk],iv _ _ (.bool _),by simpa[dz,vL] using hub.lit _⟩
  ·rename_i hu
   rw[hu] at h
   split at h<;>simp_all
   obtain⟨⟨rfl,hw⟩,rfl⟩:=h
   simp only[gw,hu]
   exact⟨.int _ hu hw,by simp[hk],by simp[hk],iv _ _ (.int _ _),by simpa[dz,vL] using hub.lit _⟩
  ·rename_i hu
   rw[hu] at h
   split at h<;>simp_all
   obtain⟨hw,rfl⟩:=h
   simp only[gw,hu]
   exact⟨.str _ hu (by simpa using hw),by simp[hk],by simp[hk],iv _ _ (.str _),by simp only[dz,vL,Nat.add_zero];exact hub.str _⟩
  ·rename_i e hu
   rw[hu] at h
   simp at hk
   split at h
   all_goals first|(exfalso;simp only[Option.some.injEq,reduceCtorEq] at*;done)|skip
   ·cases h
    simp only[gw,hu]
    refine⟨.sl [] hu (by simp) (by simp),by simp[hk],by simp[hk],iv _ _ (.lst0 _ _ _),by simpa[dz,vL,eC] using hub.nil⟩
   ·rename_i e' a len cap he
    injection he with he
    injection he with he
    subst he
    simp only at h
    split at h
    ·rename_i hc
     simp only[Option.bind_eq_some_iff,Option.map_eq_some_iff] at h
     obtain⟨elems,h1,rest,h2,rfl⟩:=h
     obtain⟨hl,hg⟩:=lg h1
     simp only[List.length_range] at hl
     have hR:∀i,i<len->∃cs y,W.cells? 0 (a.add (i*P.cellsOf e)) (P.cellsOf e)=some cs/\elems[i]?=some y/\Reads P W ub e cs y.1 (gw P n e y.1):=λi hi=>by
      obtain⟨y,hy,hy2⟩:=hg i i (by simp[hi])
      simp only[Option.bind_eq_some_iff] at hy
      obtain⟨cs,hc1,hc2⟩:=hy
      exact⟨cs,y,hc1,hy2,ih _ _ _ hk.1.2 hc2⟩
     have hlen:∀x∈(elems.map (·.1)).map (gw P n e),Conf P e x/\x.length=P.cellsOf e:=by
      intro x hx
      obtain⟨i,hi⟩:=List.getElem?_of_mem hx
      have hi':=(List.getElem?_eq_some_iff.1 hi).1
      simp[hl] at hi'
      obtain⟨cs,y,_,hy,R⟩:=hR i hi'
      simp[hy] at hi
      subst hi
      exact⟨R.conf,R.len⟩
     have hfl:∀(j:Nat) (c:PV),(((elems.map (·.1)).map (gw P n e)).flatten)[j]?=some c->a.spot=none/\a.block<W.heap.size/\∃v,W.cell? ⟨a.block,a.off+j,none⟩=some v/\PRel W (· <W.heap.size) c v:=by
      intro j c hj
      have hpos:=hk.2
      have e1:j=(j/P.cellsOf e)*P.cellsOf e+j%P.cellsOf e:=by rw[Nat.mul_comm];exact(Nat.div_add_mod _ _).symm
      have e2:j%P.cellsOf e<P.cellsOf e:=Nat.mod_lt _ hpos
      rw[e1,bk (λx hx=>(hlen x hx).2) _ _ e2] at hj
      simp only[Option.bind_eq_some_iff] at hj
      obtain⟨x,hx,hx2⟩:=hj
      have hi':=(List.getElem?_eq_some_iff.1 hx).1
      simp[hl] at hi'
      obtain⟨cs,y,hcs,hy,R⟩:=hR _ hi'
      simp[hy] at hx
      subst hx
      obtain⟨g1,g2,g3⟩:=tY hcs
      obtain⟨v,hv,hv2⟩:=g3 _ e2
      obtain⟨cs0,y0,hcs0,_,_⟩:=hR 0 (Nat.lt_of_le_of_lt (Nat.zero_le _) hi')
      have hsp:=(tY hcs0).2.1 hpos
      simp only[Nat.zero_mul] at hsp
      have hsp':a.spot=none:=by simpa[Addr.add] using hsp
      rw[zP hsp'] at hv2
      refine⟨hsp',?_,v,?_,R.rel _ _ _ hx2 hv⟩
      ·simp only[World.cell?] at hv2
       split at hv2
       ·rename_i h3
        exact(Array.getElem?_eq_some_iff.1 h3).1
       ·cases hv2
      ·rw[show a.off+j=a.off+(j/P.cellsOf e)*P.cellsOf e+j%P.cellsOf e by omega]
       exact hv2
     simp only[gw,hu]
     refine⟨.sl _ hu (by simp;omega) (λx hx=>(hlen x hx).1),by simp[hk],by simp[hk],iv _ _ ?_,?_⟩
     ·have hll:((elems.map (·.1)).map (gw P n e)).length=len:=by simp[hl]
      cases len with
      |zero=>
       have:elems=[]:=List.length_eq_zero_iff.1 hl
       subst this
       exact .lst0 _ _ _
      |succ len=>
       have hex:∃c,(((elems.map (·.1)).map (gw P n e)).flatten)[0]?=some c:=by
        have:0<(((elems.map (·.1)).map (gw P n e)).flatten).length:=by
         rw[aJ (λx hx=>(hlen x hx).2),hll]
         exact Nat.mul_pos (by omega) hk.2
        exact⟨_,List.getElem?_eq_getElem this⟩
       obtain⟨c0,hc0⟩:=hex
       obtain⟨s1,s2,_⟩:=hfl 0 c0 hc0
       have ea:a=⟨a.block,a.off,none⟩:=by cases a;simp_all
       have:=PRel.lst (W:=W) (S:=(· <W.heap.size)) (P.cellsOf e) ((elems.map (·.1)).map (gw P n e)) a.block a.off cap (λj=>(W.cell? ⟨a.block,a.off+j,none⟩).getD default) s2 (λx hx=>(hlen x hx).2) (by rw[hll];exact hc.2.1)
        (λj c hj=>by obtain⟨_,_,v,h3,h4⟩:=hfl j c hj;simp[h3]) (λj c hj=>by obtain⟨_,_,v,h3,h4⟩:=hfl j c hj;simpa[h3] using h4)
       rw[hll,←ea] at this
       exact this
     ·have hb:=hub.slice (elems.map (·.1)) (rest.map (·.1))
      have:eC ((elems.map (·.1)).map (gw P n e))<=((elems.map (·.1)).map ub).sum:=by
       have key:∀l:List (DataW H × List MemPlace),(∀y∈l,dz (gw P n e y.1)<=ub y.1)->eC ((l.map (·.1)).map (gw P n e))<=((l.map (·.1)).map ub).sum:=by
        intro l
        induction l with
        |nil=>intro _;simp[eC]
        |cons y r ihl=>
         intro hy
         have h1:=hy y (by simp)
         have h2:=ihl λz hz=>hy z (by simp[hz])
         simp only[List.map_cons,eC,List.sum_cons]
         omega
       refine key elems λy hy=>?_
       obtain⟨i,hi⟩:=List.getElem?_of_mem hy
       have hi':=(List.getElem?_eq_some_iff.1 hi).1
       rw[hl] at hi'
       obtain⟨_,y',_,hy',R⟩:=hR i hi'
       rw[hi] at hy'
       cases hy'
       exact R.bulk
      simp only[dz,vL]
      omega
    ·cases h
  ·rename_i m e hu
   rw[hu] at h
   simp at hk
   dsimp only at h
   split at h
   ·rename_i hc
    simp only[Option.map_eq_some_iff] at h
    obtain⟨xs,h1,rfl⟩:=h
    obtain⟨hl,hg⟩:=lg h1
    simp only[List.length_range] at hl
    have hsum:∀j,j<=m->(((List.replicate m e).take j).map P.cellsOf).sum=j*P.cellsOf e:=λj hj=>by
     rw[List.take_replicate,List.map_replicate,List.sum_replicate_nat,Nat.min_eq_left hj]
    obtain⟨i1,i2,i3,i4⟩:=pT (L:=L) (P:=P) (W:=W) (ub:=ub) (DataW.trod enc P W 0 sp held n) (gw P n) (λt cs x ht hx=>ih t cs x ht hx) cs (List.replicate m e) xs 0 (λt ht=>by rw[List.eq_of_mem_replicate ht];exact hk.1) (by simp[hl]) (λj t hj=>by
     obtain⟨hj1,hj2⟩:=List.getElem?_eq_some_iff.1 hj
     simp at hj1 hj2
     subst hj2
     obtain⟨y,hy,hy2⟩:=hg j j (by simp[hj1])
     refine⟨y,hy2,?_⟩
     rw[hsum j (by omega),Nat.zero_add]
     exact hy)
    simp only[gw,hu]
    refine⟨.arr _ hu i1,?_,hc,λj c v h1 h2=>i3 j c v h1 (by simpa using h2),?_⟩
    ·rw[i2,hk.2]
     simp
    ·exact Nat.le_trans i4 (Nat.le_trans (Nat.le_succ _) (hub.agg _))
   ·cases h
  ·rename_i fs hu
   rw[hu] at h
   simp only[Bool.and_eq_true,List.all_eq_true,beq_iff_eq,List.contains_iff_mem] at hk
   dsimp only at h
   split at h
   ·rename_i hc
    simp only[Option.map_eq_some_iff] at h
    obtain⟨xs,h1,rfl⟩:=h
    obtain⟨hl,hg⟩:=lg h1
    obtain⟨i1,i2,i3,i4⟩:=pT (L:=L) (P:=P) (W:=W) (ub:=ub) (DataW.trod enc P W 0 sp held n) (gw P n) (λt cs x ht hx=>ih t cs x ht hx) cs (fs.toList.map (·.type)) xs 0 (λt ht=>by
     obtain⟨f,hf,rfl⟩:=List.mem_map.1 ht
     exact hk.1.1 f hf) (by simp[hl]) (λj t hj=>by
     simp only[List.getElem?_map,Option.map_eq_some_iff] at hj
     obtain⟨f,hj,rfl⟩:=hj
     obtain⟨y,hy,hy2⟩:=hg j f hj
     refine⟨y,hy2,?_⟩
     have h2:=hk.2 j (by
      have:=(List.getElem?_eq_some_iff.1 hj).1
      simpa using this)
     rw[hj] at h2
     simp only[beq_iff_eq] at h2
     rw[h2] at hy
     rw[Nat.zero_add,←List.map_take,List.map_map]
     exact hy)
    simp only[gw,hu]
    refine⟨.st _ hu i1,?_,hc,λj c v h1 h2=>i3 j c v h1 (by simpa using h2),?_⟩
    ·rw[i2,hk.1.2,List.map_map];rfl
    ·exact Nat.le_trans i4 (Nat.le_trans (Nat.le_succ _) (hub.agg _))
   ·cases h
  ·cases hk
end
end Go.Aw
namespace Go.Aw
open Go.ChangeShapes Go.WideShapes Go.RowKit
def Di(P:Program)(t:TypeId)(vs:List PV):AV:=
 match P.underlying t with
 |some (.struct _)|some (.array _ _)=> .agg (vs.map .p)
 |_=> .p (vs.headD (.bool false))
section
variable {H:Type} {enc:TypeId × Value->H} {P:Program} {W W':World} {L:List TypeId} {ub:DataW H->Nat} {φ:Place} {n:Nat}
theorem IQ{t:TypeId}{v:Value}{d:DataW H}{vs:List PV}{base:Nat}(hk:iY P L t=true)(R:Reads P W ub t v.cells.toList d vs)(hv:Value.okWide P W .any base t v):
 VRel W (· <W.heap.size) φ n (Di P t vs) v:=by
 have agg:∀cs:Array Value,v= .agg cs->VRel W (· <W.heap.size) φ n (.agg (vs.map .p)) v:=by
  intro cs e
  subst e
  have hl:=R.clen
  simp only[Value.cells,Array.length_toList] at hl
  refine .agg _ cs (by simp[R.len,hl]) λj c x hc hx=>?_
  simp only[List.getElem?_map,Option.map_eq_some_iff] at hc
  obtain⟨c',hc',rfl⟩:=hc
  exact .p _ _ (R.rel j c' x hc' (by simpa[Value.cells] using hx))
 have iv:(v.cells=#[v])->P.cellsOf t=1->VRel W (· <W.heap.size) φ n (.p (vs.headD (.bool false))) v:=by
  intro e h1
  have hl:=R.len
  rw[h1] at hl
  match vs,hl,R with
  |[c],_,R=>exact .p _ _ (R.rel 0 c v rfl (by simp[e]))
 unfold Di
 unfold iY at hk
 split at hk
 ·rename_i hu
  rw[hu]
  obtain⟨b,rfl⟩:=okWide_bool hu hv
  exact iv rfl (by simpa using hk)
 ·rename_i hu
  rw[hu]
  obtain⟨b,rfl⟩:=okWide_int hu hv
  exact iv rfl (by simpa using hk)
 ·rename_i hu
  rw[hu]
  obtain⟨b,rfl⟩:=okWide_string hu hv
  exact iv rfl (by simpa using hk)
 ·rename_i hu
  rw[hu]
  obtain⟨a,len,cap,rfl⟩:=okWide_slice hu hv
  simp at hk
  exact iv rfl hk.1.1
 ·rename_i hu
  rw[hu]
  simp only[Value.okWide,hu] at hv
  obtain⟨cs,e,_⟩:=hv
  exact agg cs e
 ·rename_i hu
  rw[hu]
  obtain⟨cs,e,_⟩:=okWide_struct hu hv
  exact agg cs e
 ·cases hk
def iU(P:Program)(ts:List TypeId)(vss:List (List PV)):List AV:=List.zipWith (Di P) ts vss
inductive Confs (P:Program):List TypeId->List (List PV)->Prop
 |nil:Confs P [] []
 |cons {t:TypeId} {ts:List TypeId} {vs:List PV} {vss:List (List PV)}:Conf P t vs->Confs P ts vss->Confs P (t::ts) (vs::vss)
theorem zK(hP:Plain P L=true)(hub:BulkOk ub){base:Nat}:∀{ts:List TypeId} {vs:List Value} {ds:List (DataW H)} {p:List MemPlace},(∀t∈ts,t∈L)->
 DataW.TrodAll enc P W 0 (λ_=>true) true ts vs ds p->(∀(j:Nat) t v,ts[j]?=some t->vs[j]?=some v->Value.okWide P W .any base t v)->
 ∃vss,Confs P ts vss/\eC vss<=(ds.map ub).sum/\vs.length=(iU P ts vss).length/\∀(j:Nat) c v,(iU P ts vss)[j]?=some c->vs[j]?=some v->VRel W (· <W.heap.size) φ n c v
 |[],[],[],_,_,_,_=>⟨[],.nil,by simp[eC],rfl,by simp[iU]⟩
 |t::ts,v::vs,d::ds,_,hL,⟨p,q,⟨fuel,h1⟩,h2,_⟩,hok=>by
  obtain⟨vss,i1,i2,i3,i4⟩:=zK hP hub (λt ht=>hL t (by simp[ht])) h2 (λj t v h3 h4=>hok (j+1) t v (by simpa using h3) (by simpa using h4))
  have R:=MV hP hub fuel t _ _ (hL t (by simp)) h1
  have hk:=List.all_eq_true.1 hP t (hL t (by simp))
  refine⟨_::vss,.cons R.conf i1,?_,by simp[iU] at i3⊢;exact i3,λj c x hc hx=>?_⟩
  ·have:=R.bulk
   simp only[eC,List.map_cons,List.sum_cons]
   simp only at this
   omega
  ·cases j with
   |zero=>
    simp[iU] at hc hx
    subst hc;subst hx
    exact IQ hk R (hok 0 t v rfl rfl)
   |succ j=>exact i4 j c x (by simpa[iU] using hc) (by simpa using hx)
def Same(W W':World):Prop:=W'.os=W.os/\W'.output=W.output/\∀b,b<W.heap.size->W'.heap[b]?=W.heap[b]?
theorem Same.keptBut(h:Same W W')(may:MemPlace->Prop):W.keptBut W' may:=by
 refine⟨h.1,h.2.1,λi hi=>?_⟩
 rw[h.2.2 i hi]
 cases W.heap[i]? with
 |none=>simp
 |some o=>cases o<;>simp
theorem Same.at(h:Same W W'){p:MemPlace}(hp:p.block<W.heap.size):W.sameAt W' p:=by
 cases p with
 |cell b off=>exact aP (h.2.2 b hp) off
 |map b=>exact h.2.2 b hp
theorem Same.frozen(h:Same W W'){b off:Nat}(hb:b<W.heap.size):W'.frozen? ⟨b,off,none⟩=W.frozen? ⟨b,off,none⟩:=by
 simp only[World.frozen?,h.2.2 b hb]
variable {T:TypeId->Prop}
theorem yx:∀{ts:List TypeId} {vs:List Value} {ds:List (DataW H)} {ps:List MemPlace} {sp:Nat->Bool} {held:Bool},DataW.TrodAll enc P W 0 sp held ts vs ds ps->(∀p∈ps,W.sameAt W' p)->
 DataW.TrodAll enc P W' 0 sp held ts vs ds ps
 |[],[],[],_,_,_,h,_=>h
 |_::_,_::_,_::_,_,_,_,⟨p,q,⟨n,h1⟩,h2,e⟩,hs=>⟨p,q,⟨n,DataW.trod_carry n _ _ _ h1 λx hx=>hs x (by rw[e];exact List.mem_append_left _ hx)⟩,yx h2 (λx hx=>hs x (by rw[e];exact List.mem_append_right _ hx)),e⟩
theorem tR(K:Kids P T)(hz:∀t e,T t->P.underlying t=some (.slice e)->0<P.cellsOf e)(hg:∀(g:Nat) t,(P.globals[g]?).map (·.type)=some t->T t)(S:Same W W'){sp:Nat->Bool}:
 ∀{ns:List String} {ds:List (DataW H)} {ps:List MemPlace},DataW.TrodVars enc P W (λ_=>true) ns ds ps->(∀p∈ps,p.block<W.heap.size/\sp p.block=true)->DataW.TrodVars enc P W' sp ns ds ps
 |[],[],_,h,_=>h
 |_::_,_::_,_,⟨g,t,cs,fuel,p,q,h1,h2,h3,h4,h5,e⟩,hs=>by
  refine⟨g,t,cs,fuel,p,q,h1,h2,?_,?_,tR K hz hg S h5 (λx hx=>hs x (by rw[e];simp[hx])),e⟩
  ·rw[←h3]
   simp only[World.var?,h1,Option.bind_some] at h3⊢
   have hlt:g<W.heap.size:=by
    by_cases hb:g<W.heap.size
    ·exact hb
    ·rw[Array.getElem?_eq_none (by omega)] at h3;cases h3
   rw[S.2.2 g hlt]
  ·exact DataW.trod_respare K hz fuel t _ _ (hg g t h2) (DataW.trod_carry fuel _ _ _ h4 λx hx=>S.at (hs x (by rw[e];simp[hx])).1) (λx hx=>(hs x (by rw[e];simp[hx])).2)
theorem Ce(K:Kids P T)(hz:∀t e,T t->P.underlying t=some (.slice e)->0<P.cellsOf e)(S:Same W W'){sp:Nat->Bool}{ts:List TypeId}{vs:List Value}{ds:List (DataW H)}{ps:List MemPlace}(hT:∀t∈ts,T t)
 (h:DataW.TrodAll enc P W 0 (λ_=>true) true ts vs ds ps)(hs:∀p∈ps,p.block<W.heap.size/\sp p.block=true):DataW.TrodAll enc P W' 0 sp true ts vs ds ps:=
 DataW.TrodAll.respare K hz hT (yx h λp hp=>S.at (hs p hp).1) λp hp=>(hs p hp).2
theorem DW{f:Func}{s:ChangeSpec}{fresh handsOn again:Bool}{args:Array Value}{ds gs:List (DataW H)}{before:List MemPlace}{tb:TypeId}
 (K:Kids P T)(hz:∀t e,T t->P.underlying t=some (.slice e)->0<P.cellsOf e)(hg:∀(g:Nat) t,(P.globals[g]?).map (·.type)=some t->T t)(hT:∀t∈f.params.toList,T t)
 (hr:f.resultTypes=#[tb])(hb:P.underlying tb=some .bool)
 (hW:DataW.Whole enc P f.params.toList s.vars false W args.toList ds gs before)(S:Same W W')
 (hspec:s.fn H (ds++gs)={results:=[.lit (.bool true)],args:=ds,vars:=gs}):s.post enc P f false fresh handsOn again W args (.bool true) W':=by
 have hlt:=hW.lt
 have hW0:=hW
 obtain⟨p,q,hA,hV,hbf,hfz,_⟩:=hW
 have hlp:∀x∈p,x.block<W.heap.size:=λx hx=>hlt x (by rw[hbf];simp[hx])
 have hlq:∀x∈q,x.block<W.heap.size:=λx hx=>hlt x (by rw[hbf];simp[hx])
 have res:∀(b:Nat) (sp:Nat->Bool) (hd:Bool),DataW.TrodAll enc P W' b sp hd f.resultTypes.toList ((Value.bool true).resultList f.resultTypes.size) (s.fn H (ds++gs)).results []:=by
  intro b sp hd
  rw[hspec,hr]
  exact trodAll_mk1 ⟨1,by simp[DataW.trod,hb,Value.cells]⟩
 have ar:∀sp:Nat->Bool,(∀b,b<W.heap.size->sp b=true)->DataW.TrodAll enc P W' 0 sp true f.params.toList args.toList (s.fn H (ds++gs)).args p:=by
  intro sp hsp
  rw[hspec]
  exact Ce K hz S hT hA λx hx=>⟨hlp x hx,hsp _ (hlp x hx)⟩
 have va:∀sp:Nat->Bool,(∀b,b<W.heap.size->sp b=true)->DataW.TrodVars enc P W' sp s.vars (s.fn H (ds++gs)).vars q:=by
  intro sp hsp
  rw[hspec]
  exact tR K hz hg S hV λx hx=>⟨hlq x hx,hsp _ (hlq x hx)⟩
 refine⟨ds,gs,before,[],p,q,hW0,res _ _ _,ar _ (by simp),va _ (by simp),S.keptBut _,λ_=>⟨?_,?_⟩⟩
 ·exact ok_one hr rfl (okWide_bool_mk hb _)
 ·refine⟨_,_,([]++p)++q,⟨[]++p,q,trodAll_append (ar _ (λ_ _=>rfl)) (res _ _ _),va _ (λ_ _=>rfl),rfl,?_,by simp⟩,?_⟩
  ·intro b off hp
   have hp':MemPlace.cell b off∈before:=by rw[hbf];simpa using hp
   rw[S.frozen (b:=b) (off:=off) (hlt _ hp')]
   exact hfz b off hp'
  ·intro x hx _
   rw[hbf];simpa using hx
theorem ER{f:FuncId}{fn:Func}{s:ChangeSpec}{fresh handsOn again:Bool}{args:Array Value}{ds gs:List (DataW H)}{before:List MemPlace}{tb:TypeId}{G:az}{base:Nat}
 (hP:Plain P L=true)(hub:BulkOk ub)(hL:∀t∈fn.params.toList,t∈L)
 (K:Kids P T)(hz:∀t e,T t->P.underlying t=some (.slice e)->0<P.cellsOf e)(hg:∀(g:Nat) t,(P.globals[g]?).map (·.type)=some t->T t)(hT:∀t∈fn.params.toList,T t)
 (hr:fn.resultTypes=#[tb])(hb:P.underlying tb=some .bool)
 (hval:∀(j:Nat) t v,fn.params[j]?=some t->args[j]?=some v->Value.okWide P W .any base t v)
 (hW:DataW.Whole enc P fn.params.toList s.vars false W args.toList ds gs before)
 (hspec:s.fn H (ds++gs)={results:=[.lit (.bool true)],args:=ds,vars:=gs})
 (hG:∀g cs,G g=some cs->g<W.heap.size/\∀j c,cs[j]?=some c->∃v,W.cell? ⟨g,j,none⟩=some v/\PRel W (· <W.heap.size) c v)
 (walk:∀vss,Confs P fn.params.toList vss->eC vss<=(ds.map ub).sum->VF P G f (iU P fn.params.toList vss) (.p (.bool true))):
 Calls P f args W λe W'=>∃v,e= .returned v/\s.post enc P fn false fresh handsOn again W args v W':=by
 obtain⟨p,q,hA,hV,hbf,hfz,hn⟩:=hW
 obtain⟨vss,c1,c2,c3,c4⟩:=zK (φ:=λ_=>(0,0)) (n:=0) hP hub hL hA (base:=base) (λj t v h1 h2=>hval j t v (by simpa using h1) (by simpa using h2))
 have H0:HRel G W (· <W.heap.size) (λ_=>(0,0)) []:=⟨λid sz es e=>by simp at e,λid o e _=>by simp at e,λid id' e=>(aL e).elim,λb hb=>⟨hb,λid e=>(aL e).elim⟩,λid hid=>by simp at hid,hG⟩
 refine((walk vss c1 c2).2 W (· <W.heap.size) (λ_=>(0,0)) args H0 ⟨by simpa using c3,λj c v h1 h2=>c4 j c v h1 (by simpa using h2)⟩).mono λe W' ⟨r,S',φ',h',k1,k2,k3,k4⟩=>?_
 subst k1
 cases k3 with
 |ret _ x hv=>
  cases hv with
  |p _ _ hp=>
   cases hp
   refine⟨_,rfl,DW K hz hg hT hr hb ⟨p,q,hA,hV,hbf,hfz,hn⟩ ⟨k4.os,k4.output,λb hb=>k4.out b hb λid e=>(aL e).elim⟩ hspec⟩
end
end Go.Aw
namespace Go.Aw
section
variable {H:Type} {enc:TypeId × Value->H} {P:Program} {W:World}
theorem rp{b:Nat}{sp:Nat->Bool}{held:Bool}:∀{ts:List TypeId} {vs:List Value} {ds:List (DataW H)} {ps:List MemPlace},DataW.TrodAll enc P W b sp held ts vs ds ps->ds.length=ts.length
 |[],[],[],_,_=>rfl
 |_::_,_::_,_::_,_,⟨_,_,_,h,_⟩=>by simp[rp h]
theorem oo{sp:Nat->Bool}:∀{ns:List String} {ds:List (DataW H)} {ps:List MemPlace},DataW.TrodVars enc P W sp ns ds ps->ds.length=ns.length
 |[],[],_,_=>rfl
 |_::_,_::_,_,⟨_,_,_,_,_,_,_,_,_,_,h,_⟩=>by simp[oo h]
theorem DR{ts:List TypeId}{vars:List String}{ap:Bool}{vs:List Value}{ds gs:List (DataW H)}{ps:List MemPlace}(h:DataW.Whole enc P ts vars ap W vs ds gs ps):ds.length=ts.length/\gs.length=vars.length:=by
 obtain⟨p,q,h1,h2,_⟩:=h
 exact⟨rp h1,oo h2⟩
end
theorem BG{P:Program}(h:(P.globals.toList.all λg=>decide (g.type<P.types.size))=true)(g:Nat)(t:TypeId)(e:(P.globals[g]?).map (·.type)=some t):t<P.types.size:=by
 cases hg:P.globals[g]? with
 |none=>rw[hg] at e;cases e
 |some x=>
  rw[hg] at e
  cases e
  have:=List.all_eq_true.1 h x (List.mem_of_getElem? (by simpa using hg))
  simpa using this
theorem EK{P:Program}{ts:List TypeId}(h:(ts.all λt=>decide (t<P.types.size))=true):∀t∈ts,t<P.types.size:=λt ht=>by
 have:=List.all_eq_true.1 h t ht
 simpa using this
end Go.Aw
namespace Go.Aw
@[simp] theorem Ag(n:Nat):∀l:List PV,aA n (l.map .p)=True
 |[]=>by simp[aA]
 |v::r=>by simp[aA,below,Ag n r]
@[simp] theorem ND(n:Nat)(v:PV):below n (.p v)=True:=by simp[below]
@[simp] theorem LM(n:Nat):below n .any=True:=by simp[below]
@[simp] theorem KK(n:Nat):below n .nils=True:=by simp[below]
@[simp] theorem LA(n:Nat)(l:List AV):below n (.agg l)=aA n l:=by simp[below]
@[simp] theorem Ll(n:Nat)(l:List AV):below n (.tup l)=aA n l:=by simp[below]
@[simp] theorem KJ(n:Nat):aA n []=True:=by simp[aA]
@[simp] theorem JG(n:Nat)(v:AV)(r:List AV):aA n (v::r)=(below n v/\aA n r):=by simp[aA]
@[simp] theorem NG(n:Nat):Fgt n [] []=True:=by simp[Fgt]
@[simp] theorem Mt(n:Nat)(v v1:AV)(r r1:List AV):Fgt n (v::r) (v1::r1)=((v1= .any\/(below n v1/\v1=v))/\Fgt n r r1):=by simp[Fgt]
@[simp] theorem Mb(n:Nat):((n:Int)<0)=False:=by simp
theorem ae{x:Int}(h0: -9223372036854775808<=x)(h1:x<=9223372036854775807):IntKind.i64.wrap x=x:=by
 simp[IntKind.wrap,IntKind.bits,IntKind.signed]
 omega
theorem w1{i:Nat}(h:i<9223372036854775807):IntKind.i64.wrap (↑i+1)=((i+1:Nat):Int):=by
 rw[ae (by omega) (by omega)];simp
end Go.Aw
namespace Go.Aw
inductive View (h:List AO):AV->PV->Prop where
 |p (v:PV):View h (.p v) v
 |nils (sz:Nat):View h .nils (.lst sz [])
 |e (sz sz':Nat):View h (.p (.lst sz [])) (.lst sz' [])
 |sl (id sz off:Nat) (es:List (List AV)) (ps:List (List PV)):h[id]?=some (.row sz es)->off+ps.length<=es.length->(∀e∈ps,e.length=sz)->
   (∀(i j:Nat) (e:List PV) (q:PV) (e':List AV) (a:AV),ps[i]?=some e->e[j]?=some q->es[off+i]?=some e'->e'[j]?=some a->View h a q)->View h (.sl id sz off ps.length) (.lst sz ps)
 |fl (id sz off:Nat) (es:List (List AV)) (ps:List PV):h[id]?=some (.row sz es)->(∀(i:Nat) (q:PV),ps[i]?=some q->es.flatten[off+i]?=some (.p q))->View h (.sl id 1 off ps.length) (.lst 1 (ps.map λq=>[q]))
theorem Bn{α:Type}:∀l:List α,(l.map λq=>[q]).flatten=l
 |[]=>rfl
 |a::r=>by rw[List.map_cons,List.flatten_cons,Bn r];rfl
def eQ(φ:Place)(h:List AO)(b:Nat):Prop:=∃id,Live h id/\(φ id).1=b
theorem View.prel{G:az}{W:World}{S:Nat->Prop}{φ:Place}{h:List AO}(H:HRel G W S φ h){a:AV}{q:PV}(hv:View h a q):∀{x:Value},VRel W S φ h.length a x->PRel W (λb=>S b\/eQ φ h b) q x:=by
 induction hv with
 |p v=>
  intro x hx
  cases hx with
  |p _ _ hp=>exact hp.mono λb hb=>⟨.inl hb,rfl⟩
 |nils sz=>intro x hx;cases hx;exact .lst0 _ _ _
 |e sz sz'=>
  intro x hx
  cases hx with
  |p _ _ hp=>cases hp<;>exact .lst0 _ _ _
 |sl id sz off es ps hid hfit hsz hc ih=>
  intro x hx
  cases hx with
  |sl _ _ _ _ cap ba hid' hl hba hb=>
   obtain⟨c,t,fr,a1,a2,a3,a4,a5⟩:=H.obj id sz es hid
   cases hps:ps with
   |nil=>subst hps;exact .lst0 _ _ _
   |cons e0 r0=>
    rw[←hps]
    have hpos:0<cap:=by have:0<ps.length:=by rw[hps];simp
                        omega
    have hba':=hba hpos
    subst hba'
    have cell:∀(j:Nat) (q:PV),ps.flatten[j]?=some q->∃v,W.cell? ⟨(φ id).1,(φ id).2+off*sz+j,none⟩=some v/\PRel W (λb=>S b\/eQ φ h b) q v:=by
     intro j q hj
     have hszp:0<sz:=by
      rcases Nat.eq_zero_or_pos sz with h0|h0
      ·exfalso
       have:=(List.getElem?_eq_some_iff.1 hj).1
       rw[aJ hsz,h0] at this
       simp at this
      ·exact h0
     have e1:j=(j/sz)*sz+j%sz:=by rw[Nat.mul_comm];exact(Nat.div_add_mod _ _).symm
     have e2:j%sz<sz:=Nat.mod_lt _ hszp
     rw[e1,bk hsz _ _ e2] at hj
     simp only[Option.bind_eq_some_iff] at hj
     obtain⟨e,he,hq⟩:=hj
     have hi1:j/sz<ps.length:=(List.getElem?_eq_some_iff.1 he).1
     obtain⟨e',he'⟩:∃e',es[off+j/sz]?=some e':=⟨_,List.getElem?_eq_getElem (by omega)⟩
     have hle:e'.length=sz:=a3 e' (List.mem_of_getElem? he')
     obtain⟨a,ha⟩:∃a,e'[j%sz]?=some a:=⟨_,List.getElem?_eq_getElem (by omega)⟩
     have hfl:es.flatten[(off+j/sz)*sz+j%sz]?=some a:=by
      rw[bk a3 _ _ e2,he'];exact ha
     obtain⟨_,v,hv1,hv2⟩:=a5 _ a hfl
     refine⟨v,?_,ih _ _ e q e' a he hq he' ha hv2⟩
     ·simp only[World.cell?,a1]
      rw[show(φ id).2+off*sz+j=(φ id).2+((off+j/sz)*sz+j%sz) by rw[Nat.add_mul];omega]
      simp[hv1]
    have:=PRel.lst (W:=W) (S:=λb=>S b\/eQ φ h b) sz ps (φ id).1 ((φ id).2+off*sz) cap (λj=>(W.cell? ⟨(φ id).1,(φ id).2+off*sz+j,none⟩).getD default) (.inr ⟨id,bh hid,rfl⟩) hsz (by omega)
     (λj c hj=>by obtain⟨v,h1,h2⟩:=cell j c hj;rw[h1];rfl) (λj c hj=>by obtain⟨v,h1,h2⟩:=cell j c hj;rw[h1];exact h2)
    exact this
 |fl id sz off es ps hid hc=>
  intro x hx
  cases hx with
  |sl _ _ _ _ cap ba hid' hl hba hb=>
   obtain⟨c,t,fr,a1,a2,a3,a4,a5⟩:=H.obj id sz es hid
   by_cases hp:ps=[]
   ·subst hp;exact .lst0 _ _ _
   have hpos:0<cap:=by have:=List.length_pos_iff.2 hp;omega
   have hba':=hba hpos
   subst hba'
   have cell:∀(j:Nat) (q:PV),(ps.map λq=>[q]).flatten[j]?=some q->∃v,W.cell? ⟨(φ id).1,(φ id).2+off*1+j,none⟩=some v/\PRel W (λb=>S b\/eQ φ h b) q v:=by
    intro j q hj
    rw[Bn] at hj
    obtain⟨_,v,hv1,hv2⟩:=a5 _ _ (hc j q hj)
    refine⟨v,?_,?_⟩
    ·simp only[World.cell?,a1]
     rw[show(φ id).2+off*1+j=(φ id).2+(off+j) by omega]
     simp[hv1]
    ·cases hv2 with
     |p _ _ hp=>exact hp.mono λb hb=>⟨.inl hb,rfl⟩
   have:=PRel.lst (W:=W) (S:=λb=>S b\/eQ φ h b) 1 (ps.map λq=>[q]) (φ id).1 ((φ id).2+off*1) cap (λj=>(W.cell? ⟨(φ id).1,(φ id).2+off*1+j,none⟩).getD default) (.inr ⟨id,bh hid,rfl⟩) (λe he=>by obtain⟨q,_,rfl⟩:=List.mem_map.1 he;rfl) (by rw[List.length_map];omega)
    (λj c hj=>by obtain⟨v,h1,h2⟩:=cell j c hj;rw[h1];rfl) (λj c hj=>by obtain⟨v,h1,h2⟩:=cell j c hj;rw[h1];exact h2)
   rwa[List.length_map] at this
inductive Views (h:List AO):List AV->List AV->Prop where
 |nil:Views h [] []
 |one {a:AV} {q:PV} {l l':List AV}:View h a q->Views h l l'->Views h (a::l) (.p q::l')
 |agg {cs cs' l l':List AV}:Views h cs cs'->Views h l l'->Views h (.agg cs::l) (.agg cs'::l')
 |tup {cs cs' l l':List AV}:Views h cs cs'->Views h l l'->Views h (.tup cs::l) (.tup cs'::l')
 |keep {a:AV} {l l':List AV}:below 0 a->Views h l l'->Views h (a::l) (a::l')
theorem Views.len{h:List AO}:∀{l l':List AV},Views h l l'->l.length=l'.length
 |_,_,.nil=>rfl
 |_,_,.one _ r=>by simp[r.len]
 |_,_,.agg _ r=>by simp[r.len]
 |_,_,.tup _ r=>by simp[r.len]
 |_,_,.keep _ r=>by simp[r.len]
theorem tr{W:World}{S S':Nat->Prop}{φ φ':Place}{n n':Nat}(hS:∀b,S b->S' b){v:AV}(hb:below 0 v){x:Value}(h:VRel W S φ n v x):VRel W S' φ' n' v x:=by
 have h1:VRel W S φ' n' v x:=gt v hb h
 clear h
 induction h1 with
 |p v x hp=>exact .p _ _ (hp.mono λb hb=>⟨hS b hb,rfl⟩)
 |agg cs vs hs _ ih=>exact .agg cs vs hs λj c y h1 h2=>ih j c y h1 h2 (aY (by simpa[below] using hb) j c h1)
 |tup cs vs hs _ ih=>exact .tup cs vs hs λj c y h1 h2=>ih j c y h1 h2 (aY (by simpa[below] using hb) j c h1)
 |ptr=>simp[below] at hb
 |sl=>simp[below] at hb
 |mp=>simp[below] at hb
 |it=>simp[below] at hb
 |eptr e off b o hb' hc=>
  exact .eptr e off b o (hS b hb') λj c hj=>by
   obtain⟨v,h1,h2⟩:=hc j c hj
   exact⟨v,h1,h2.mono λb hb=>⟨hS b hb,rfl⟩⟩
 |gp g off=>exact .gp g off
 |fn f caps vs hs _ ih=>exact .fn f caps vs hs λj c y h1 h2=>ih j c y h1 h2 (aY (by simpa[below] using hb) j c h1)
 |nils=>exact .nils
 |nilp=>exact .nilp
 |nilf=>exact .nilf
 |nilm=>exact .nilm
 |nili=>exact .nili
 |ifc t pv x hp=>exact .ifc _ _ _ (hp.mono λb hb=>⟨hS b hb,rfl⟩)
 |any x=>exact .any x
theorem Views.rel{G:az}{W:World}{S:Nat->Prop}{φ:Place}{h:List AO}(H:HRel G W S φ h):∀{l l':List AV},Views h l l'->∀(j:Nat) (c c':AV) (x:Value),l[j]?=some c->l'[j]?=some c'->VRel W S φ h.length c x->VRel W (λb=>S b\/eQ φ h b) φ 0 c' x
 |_,_,.nil,j,c,c',x,h1,_,_=>by simp at h1
 |_,_,.one hv r,j,c,c',x,h1,h2,hx=>by
  cases j with
  |zero=>simp at h1 h2;subst h1;subst h2;exact .p _ _ (hv.prel H hx)
  |succ j=>exact r.rel H j c c' x (by simpa using h1) (by simpa using h2) hx
 |_,_,.agg hv r,j,c,c',x,h1,h2,hx=>by
  cases j with
  |zero=>
   simp at h1 h2;subst h1;subst h2
   cases hx with
   |agg cs vs hs hc=>
    refine .agg _ vs (by rw[hs,hv.len]) λi d y h3 h4=>?_
    have hi:i<vs.size:=(Array.getElem?_eq_some_iff.1 h4).1
    exact hv.rel H i _ d y (List.getElem?_eq_getElem (by omega)) h3 (hc i _ y (List.getElem?_eq_getElem (by omega)) h4)
  |succ j=>exact r.rel H j c c' x (by simpa using h1) (by simpa using h2) hx
 |_,_,.tup hv r,j,c,c',x,h1,h2,hx=>by
  cases j with
  |zero=>
   simp at h1 h2;subst h1;subst h2
   cases hx with
   |tup cs vs hs hc=>
    refine .tup _ vs (by rw[hs,hv.len]) λi d y h3 h4=>?_
    have hi:i<vs.size:=(Array.getElem?_eq_some_iff.1 h4).1
    exact hv.rel H i _ d y (List.getElem?_eq_getElem (by omega)) h3 (hc i _ y (List.getElem?_eq_getElem (by omega)) h4)
  |succ j=>exact r.rel H j c c' x (by simpa using h1) (by simpa using h2) hx
 |_,_,.keep hb r,j,c,c',x,h1,h2,hx=>by
  cases j with
  |zero=>simp at h1 h2;subst h1;subst h2;exact tr (λb hb=> .inl hb) hb hx
  |succ j=>exact r.rel H j c c' x (by simpa using h1) (by simpa using h2) hx
def Kp:AV->Bool
 | .p (.bool _)| .p (.int ..)| .p (.str _)=>true
 |_=>false
theorem VF.lend{P:Program}{G:az}{f:FuncId}{args pargs:List AV}{r:AV}(H:VF P G f pargs r){h:List AO}(hv:Views h args pargs)(hr:Kp r=true):AC P G f args h λx h'=>x= .ret r/\h'=h:=by
 refine⟨H.1,λW S φ vs hH hA=>?_⟩
 have h0:HRel G W (λb=>S b\/eQ φ h b) φ []:=⟨λid sz es e=>by simp at e,λid o e _=>by simp at e,λid id' e=>(aL e).elim,λb hb=>⟨by
  rcases hb with hb|⟨id,e,he⟩
  ·exact(hH.sep b hb).1
  ·rw[←he];exact hH.bnd id e.lt,λid e=>(aL e).elim⟩,λid hid=>by simp at hid,λg cs hg=>by
  obtain⟨g1,g2⟩:=hH.glob g cs hg
  exact⟨.inl g1,λj c hj=>by obtain⟨v,k1,k2⟩:=g2 j c hj;exact⟨v,k1,k2.mono λb hb=>⟨.inl hb,rfl⟩⟩⟩⟩
 refine(H.2 W _ φ vs h0 ⟨by rw[hA.1,hv.len],λj c v h1 h2=>?_⟩).mono λe W' ⟨x,S',φ',h',k1,k2,k3,k4⟩=>?_
 ·have hj:j<vs.size:=(Array.getElem?_eq_some_iff.1 h2).1
  have hjl:j<args.length:=by rw[←hA.1];exact hj
  exact hv.rel hH j _ c v (List.getElem?_eq_getElem hjl) h1 (hA.2 j _ v (List.getElem?_eq_getElem hjl) h2)
 subst k1
 have hout:∀b,b<W.heap.size->W'.heap[b]?=W.heap[b]?:=λb hb=>k4.out b hb λid e=>(aL e).elim
 have hlt:∀{id:Nat} {o:AO},h[id]?=some o->id<h.length:=λe=>(List.getElem?_eq_some_iff.1 e).1
 have K:Keep W S φ h W' S φ h:=
  {pure:=λb hb=>⟨hb,hout b (hH.sep b hb).1⟩,len:=Nat.le_refl _,same:=λ_ _=>rfl
   blk:=λid hid c t fr e=>⟨c,t,fr,by rw[←hout _ (hH.bnd id hid)];exact e,rfl⟩
   os:=k4.os,tape:=k4.tape,output:=k4.output,size:=k4.size,out:=λb hb _=>hout b hb
   img:=λid e=> .inr ⟨id,e,rfl⟩
   newS:=λb hb=> .inl hb}
 refine⟨.ret r,S,φ,h,⟨rfl,rfl⟩,⟨λid sz es e=>?_,λid o1 e lo=>?_,hH.inj,λb hb=>⟨Nat.lt_of_lt_of_le (hH.sep b hb).1 k4.size,(hH.sep b hb).2⟩,λid hid=>Nat.lt_of_lt_of_le (hH.bnd id hid) k4.size,λg cs hg=>?_⟩,?_,K⟩
 ·obtain⟨c,t,fr,a1,a2,a3,a4,a5⟩:=hH.obj id sz es e
  refine⟨c,t,fr,by rw[hout _ (hH.bnd id (hlt e))];exact a1,a2,a3,a4,λj u hj=>?_⟩
  obtain⟨b1,v,b2,b3⟩:=a5 j u hj
  exact⟨b1,v,b2,b3.kept K.toKept⟩
 ·rw[hout _ (hH.bnd id (hlt e))]
  exact(hH.oobj id o1 e lo).mono λa v r=>r.kept K.toKept
 ·obtain⟨g1,g2⟩:=hH.glob g cs hg
  refine⟨g1,λj c hj=>?_⟩
  obtain⟨v,v1,v2⟩:=g2 j c hj
  exact⟨v,by rw[aP (K.pure g g1).2];exact v1,v2.mono K.pure⟩
 ·cases k3 with
  |ret _ x hv=>
   refine .ret _ _ ?_
   cases hv<;>simp[Kp] at hr
   rename_i pv hp
   cases hp<;>simp[Kp] at hr
   ·exact .p _ _ (.bool _)
   ·exact .p _ _ (.int _ _)
   ·exact .p _ _ (.str _)
end Go.Aw
namespace Go.Aw
mutual
def clean:AV->Bool
 | .p (.lst _ [])=>true
 | .p (.lst _ _)=>false
 | .p (.tbl _ _)=>false
 | .p _=>true
 | .agg cs=>dQ cs
 | .tup cs=>dQ cs
 | .ptr .. =>true
 | .sl .. =>true
 | .mp .. =>true
 | .it .. =>true
 | .gp .. =>true
 | .nils| .nilp| .nilf| .nilm| .nili=>true
 | .any=>true
 |_=>false
def dQ:List AV->Bool
 |[]=>true
 |v::r=>clean v&&dQ r
end
mutual
def bz(n:Nat):AV->AV
 | .ptr id g i o=> .ptr (n+id) g i o
 | .sl id g o l=> .sl (n+id) g o l
 | .mp id=> .mp (n+id)
 | .it id=> .it (n+id)
 | .agg cs=> .agg (cK n cs)
 | .tup cs=> .tup (cK n cs)
 |v=>v
def cK(n:Nat):List AV->List AV
 |[]=>[]
 |v::r=>bz n v::cK n r
end
def cL(n:Nat):AO->AO
 | .row sz es=> .row sz (es.map (cK n))
 | .mp es=> .mp (es.map λx=>(x.1,bz n x.2))
 | .sit s pos=> .sit s pos
 | .dead=> .dead
theorem bJ(n:Nat):∀l:List AV,cK n l=l.map (bz n)
 |[]=>rfl
 |v::r=>by simp[cK,bJ n r]
theorem gP:∀{l:List AV},dQ l=true->∀(j:Nat) (c:AV),l[j]?=some c->clean c=true
 |v::r,h,0,c,e=>by simp at e;subst e;simp[dQ] at h;exact h.1
 |v::r,h,j+1,c,e=>by simp[dQ] at h;exact gP h.2 j c (by simpa using e)
theorem oM(n:Nat)(v:AV):(bz n v).isCell=v.isCell:=by cases v<;>rfl
def cleanO:AO->Bool
 | .row _ es=>es.all dQ
 | .mp es=>es.all λx=>clean x.2
 | .sit .. =>true
 | .dead=>true
def iy(n:Nat)(φ φ':Place):Place:=λi=>if i<n then φ i else φ' (i-n)
theorem cH(n:Nat)(φ φ':Place)(i:Nat):iy n φ φ' (n+i)=φ' i:=by
 unfold iy;rw[if_neg (by omega),Nat.add_sub_cancel_left]
theorem pD{W:World}{S S':Nat->Prop}{φ φ':Place}{n m:Nat}:∀{v:AV} {x:Value},VRel W S' φ' m v x->clean v=true->VRel W S (iy n φ φ') (n+m) (bz n v) x:=by
 intro v x h
 induction h with
 |p pv x hp=>
  intro hc
  cases hp with
  |bool b=>exact .p _ _ (.bool b)
  |int k n=>exact .p _ _ (.int k n)
  |str s=>exact .p _ _ (.str s)
  |lst0 sz a cap=>exact .p _ _ (.lst0 sz a cap)
  |lst sz es b off cap vs _ _ _ _ _=>
   cases es with
   |nil=>exact .p _ _ (.lst0 _ _ _)
   |cons e r=>simp[clean] at hc
  |tbl ks vs b clock ents cv _ _ _ _ _ _ _=>simp[clean] at hc
 |agg cs vs hs _ ih=>
  intro hc
  simp only[clean] at hc
  simp only[bz,bJ]
  refine .agg _ vs (by simp[hs]) λj c y h1 h2=>?_
  simp only[List.getElem?_map,Option.map_eq_some_iff] at h1
  obtain⟨c0,h1,rfl⟩:=h1
  exact ih j c0 y h1 h2 (gP hc j c0 h1)
 |tup cs vs hs _ ih=>
  intro hc
  simp only[clean] at hc
  simp only[bz,bJ]
  refine .tup _ vs (by simp[hs]) λj c y h1 h2=>?_
  simp only[List.getElem?_map,Option.map_eq_some_iff] at h1
  obtain⟨c0,h1,rfl⟩:=h1
  exact ih j c0 y h1 h2 (gP hc j c0 h1)
 |ptr id esz i off hid=>
  intro _
  have:=VRel.ptr (W:=W) (S:=S) (φ:=iy n φ φ') (n:=n+m) (n+id) esz i off (by omega)
  rw[cH] at this;exact this
 |sl id esz off len cap ba hid hl hb hc=>
  intro _
  have:=VRel.sl (W:=W) (S:=S) (φ:=iy n φ φ') (n:=n+m) (n+id) esz off len cap ba (by omega) hl (by rw[cH];exact hb) (by rw[cH];exact hc)
  simpa[bz] using this
 |mp id hid=>
  intro _
  have:=VRel.mp (W:=W) (S:=S) (φ:=iy n φ φ') (n:=n+m) (n+id) (by omega)
  rw[cH] at this;exact this
 |it id hid=>
  intro _
  have:=VRel.it (W:=W) (S:=S) (φ:=iy n φ φ') (n:=n+m) (n+id) (by omega)
  rw[cH] at this;exact this
 |gp g off=>intro _;exact .gp g off
 |nils=>intro _;exact .nils
 |nilp=>intro _;exact .nilp
 |nilf=>intro _;exact .nilf
 |nilm=>intro _;exact .nilm
 |nili=>intro _;exact .nili
 |any x=>intro _;exact .any x
 |eptr=>intro hc;simp[clean] at hc
 |fn=>intro hc;simp[clean] at hc
 |ifc=>intro hc;simp[clean] at hc
theorem AC.lend{P:Program}{G:az}{f:FuncId}{args pargs:List AV}{r:AV}{h1:List AO}(H:AC P G f pargs [] λx h'=>x= .ret r/\h'=h1){h:List AO}(hv:Views h args pargs)(hr:clean r=true)(hh:h1.all cleanO=true):
 AC P G f args h λx h'=>x= .ret (bz h.length r)/\h'=h++h1.map (cL h.length):=by
 refine⟨H.1,λW S φ vs hH hA=>?_⟩
 have h0:HRel G W (λb=>S b\/eQ φ h b) φ []:=⟨λid sz es e=>by simp at e,λid o e _=>by simp at e,λid id' e=>(aL e).elim,λb hb=>⟨by
  rcases hb with hb|⟨id,e,he⟩
  ·exact(hH.sep b hb).1
  ·rw[←he];exact hH.bnd id e.lt,λid e=>(aL e).elim⟩,λid hid=>by simp at hid,λg cs hg=>by
  obtain⟨g1,g2⟩:=hH.glob g cs hg
  exact⟨.inl g1,λj c hj=>by obtain⟨v,k1,k2⟩:=g2 j c hj;exact⟨v,k1,k2.mono λb hb=>⟨.inl hb,rfl⟩⟩⟩⟩
 refine(H.2 W _ φ vs h0 ⟨by rw[hA.1,hv.len],λj c v h1 h2=>?_⟩).mono λe W' ⟨x,S',φ',h',⟨k0,k1⟩,k2,k3,k4⟩=>?_
 ·have hj:j<vs.size:=(Array.getElem?_eq_some_iff.1 h2).1
  have hjl:j<args.length:=by rw[←hA.1];exact hj
  exact hv.rel hH j _ c v (List.getElem?_eq_getElem hjl) h1 (hA.2 j _ v (List.getElem?_eq_getElem hjl) h2)
 subst k0;subst k1
 have hout:∀b,b<W.heap.size->W'.heap[b]?=W.heap[b]?:=λb hb=>k4.out b hb λid e=>(aL e).elim
 have hlt:∀{id:Nat} {o:AO},h[id]?=some o->id<h.length:=λe=>(List.getElem?_eq_some_iff.1 e).1
 have himg:∀id,Live h' id->W.heap.size<=(φ' id).1:=λid e=>by
  rcases k4.img id e with h2|⟨id2,h2,_⟩
  ·exact h2
  ·exact(aL h2).elim
 have hφ:∀{i},i<h.length->iy h.length φ φ' i=φ i:=λhi=>by simp[iy,hi]
 have hφ':∀i,iy h.length φ φ' (h.length+i)=φ' i:=λi=>cH _ _ _ i
 have hget:∀{i o},(h++h'.map (cL h.length))[i]?=some o->(i<h.length/\h[i]?=some o)\/(∃k o',i=h.length+k/\h'[k]?=some o'/\o=cL h.length o'):=λ{i o} e=>by
  rcases Nat.lt_or_ge i h.length with hi|hi
  ·rw[List.getElem?_append_left hi] at e;exact .inl ⟨hi,e⟩
  ·rw[List.getElem?_append_right hi,List.getElem?_map,Option.map_eq_some_iff] at e
   obtain⟨o,e2,e3⟩:=e
   exact .inr ⟨_,o,by omega,e2,e3.symm⟩
 have hsl:∀{o:AO},(cL h.length o).live->o.live:=λ{o} l=>by cases o<;>exact l
 have K:Keep W S φ h W' S (iy h.length φ φ') (h++h'.map (cL h.length)):=
  {pure:=λb hb=>⟨hb,hout b (hH.sep b hb).1⟩,len:=by simp,same:=λ_ hid=>hφ hid
   blk:=λid hid c t fr e=>⟨c,t,fr,by rw[←hout _ (hH.bnd id hid)];exact e,rfl⟩
   os:=k4.os,tape:=k4.tape,output:=k4.output,size:=k4.size,out:=λb hb _=>hout b hb
   img:=λid ⟨o,e,l⟩=>by
    rcases hget e with⟨hi,e'⟩|⟨k,o',rfl,e',rfl⟩
    ·exact .inr ⟨id,⟨_,e',l⟩,by rw[hφ hi]⟩
    ·rw[hφ'];exact .inl (himg _ ⟨_,e',hsl l⟩)
   newS:=λb hb=> .inl hb}
 have hlen:(h++h'.map (cL h.length)).length=h.length+h'.length:=by simp
 refine⟨.ret (bz h.length r),S,iy h.length φ φ',_,⟨rfl,rfl⟩,⟨λid sz es e=>?_,λid o1 e lo=>?_,λid id' ⟨o1,e1,l1⟩ ⟨o2,e2,l2⟩ he=>?_,λb hb=>⟨Nat.lt_of_lt_of_le (hH.sep b hb).1 k4.size,λid ⟨o1,e,l1⟩ he=>?_⟩,λid hid=>?_,λg cs hg=>?_⟩,?_,K⟩
 ·rcases hget e with⟨hi,e'⟩|⟨k,o',rfl,e',eo⟩
  ·obtain⟨c,t,fr,a1,a2,a3,a4,a5⟩:=hH.obj id sz es e'
   refine⟨c,t,fr,by rw[hφ hi,hout _ (hH.bnd id hi)];exact a1,a2,a3,by rw[hφ hi];exact a4,λj u hj=>?_⟩
   obtain⟨b1,v,b2,b3⟩:=a5 j u hj
   exact⟨b1,v,by rw[hφ hi];exact b2,b3.kept K.toKept⟩
  ·obtain⟨es',rfl,rfl⟩:∃es',o'= .row sz es'/\es=es'.map (cK h.length):=by cases o'<;>cases eo;exact⟨_,rfl,rfl⟩
   obtain⟨c,t,fr,a1,a2,a3,a4,a5⟩:=k2.obj k sz es' e'
   refine⟨c,t,fr,by rw[hφ'];exact a1,a2,λe he=>?_,by rw[hφ'];simpa using a4,λj u hj=>?_⟩
   ·obtain⟨e0,he0,rfl⟩:=List.mem_map.1 he
    rw[bJ];simpa using a3 e0 he0
   ·have hfl:(es'.map (cK h.length)).flatten=es'.flatten.map (bz h.length):=by
     rw[List.map_flatten];congr 1;exact List.map_congr_left λl _=>bJ _ l
    rw[hfl,List.getElem?_map,Option.map_eq_some_iff] at hj
    obtain⟨u0,hj,rfl⟩:=hj
    obtain⟨b1,v,b2,b3⟩:=a5 j u0 hj
    have hcl:clean u0=true:=by
     have h3:=List.all_eq_true.1 hh _ (List.mem_of_getElem? e')
     simp only[cleanO] at h3
     obtain⟨l,hl,hu⟩:=List.mem_flatten.1 (List.mem_of_getElem? hj)
     have h4:=List.all_eq_true.1 h3 l hl
     obtain⟨q,hq⟩:=List.getElem?_of_mem hu
     exact gP h4 q u0 hq
    exact⟨by rw[oM];exact b1,v,by rw[hφ'];exact b2,by rw[hlen];exact pD b3 hcl⟩
 ·rcases hget e with⟨hi,e'⟩|⟨k,o',rfl,e',eo⟩
  ·rw[hφ hi,hout _ (hH.bnd id hi)]
   exact(hH.oobj id o1 e' lo).mono λa v r=>r.kept K.toKept
  ·subst eo
   rw[hφ']
   have hq:=k2.oobj k o' e' (hsl lo)
   cases o' with
   |dead=>trivial
   |row sz es=>trivial
   |sit t pos=>exact hq
   |mp es'=>
    obtain⟨ents,clock,a1,a2,a3,a4⟩:=hq
    refine⟨ents,clock,a1,by simpa using a2,λj k a hj=>?_,a4⟩
    rw[List.getElem?_map,Option.map_eq_some_iff] at hj
    obtain⟨⟨k0,a0⟩,hj,hk⟩:=hj
    cases hk
    obtain⟨x,c1,c2,c3⟩:=a3 j _ _ hj
    have hcl:clean a0=true:=by
     have h3:=List.all_eq_true.1 hh _ (List.mem_of_getElem? e')
     simp only[cleanO] at h3
     exact List.all_eq_true.1 h3 _ (List.mem_of_getElem? hj)
    exact⟨x,c1,c2,by rw[hlen];exact pD c3 hcl⟩
 ·rcases hget e1 with⟨hi,e1'⟩|⟨k,_,rfl,e1',rfl⟩<;>rcases hget e2 with⟨hi',e2'⟩|⟨k',_,rfl,e2',rfl⟩
  ·rw[hφ hi,hφ hi'] at he;exact hH.inj _ _ ⟨_,e1',l1⟩ ⟨_,e2',l2⟩ he
  ·rw[hφ hi,hφ'] at he
   have:=himg _ ⟨_,e2',hsl l2⟩
   have:=hH.bnd id hi
   omega
  ·rw[hφ hi',hφ'] at he
   have:=himg _ ⟨_,e1',hsl l1⟩
   have:=hH.bnd id' hi'
   omega
  ·rw[hφ',hφ'] at he;rw[k2.inj _ _ ⟨_,e1',hsl l1⟩ ⟨_,e2',hsl l2⟩ he]
 ·rcases hget e with⟨hi,e'⟩|⟨k,_,rfl,e',rfl⟩
  ·rw[hφ hi] at he;exact(hH.sep b hb).2 _ ⟨_,e',l1⟩ he
  ·rw[hφ'] at he
   have:=himg _ ⟨_,e',hsl l1⟩
   have:=(hH.sep b hb).1
   omega
 ·rcases Nat.lt_or_ge id h.length with hi|hi
  ·rw[hφ hi];exact Nat.lt_of_lt_of_le (hH.bnd id hi) k4.size
  ·have hid':id-h.length<h'.length:=by rw[hlen] at hid;omega
   have:=hφ' (id-h.length)
   rw[show h.length+(id-h.length)=id by omega] at this
   rw[this]
   exact k2.bnd _ hid'
 ·obtain⟨g1,g2⟩:=hH.glob g cs hg
  refine⟨g1,λj c hj=>?_⟩
  obtain⟨v,v1,v2⟩:=g2 j c hj
  exact⟨v,by rw[aP (K.pure g g1).2];exact v1,v2.mono K.pure⟩
 ·cases k3 with
  |ret _ x hv=>rw[hlen];exact .ret _ _ (pD hv hr)
end Go.Aw
namespace Go.Aw
theorem AC.freeze{P:Program}{G:az}{f:FuncId}{args:List AV}{r r':AV}{h1:List AO}(H:AC P G f args [] λx h'=>x= .ret r/\h'=h1)(hv:Views h1 [r] [r']):VF P G f args r':=by
 refine⟨H.1,λW S φ vs hH hA=>?_⟩
 refine(H.2 W S φ vs hH hA).mono λe W' ⟨x,S',φ',h',⟨k0,k1⟩,k2,k3,k4⟩=>?_
 subst k0;subst k1
 have himg:∀b,eQ φ' h' b->W.heap.size<=b:=λb ⟨id,e,he⟩=>by
  rcases k4.img id e with h2|⟨id2,h2,_⟩
  ·omega
  ·exact(aL h2).elim
 refine⟨.ret r',(λb=>S' b\/eQ φ' h' b),φ',[],rfl,⟨λid sz es e=>by simp at e,λid o e _=>by simp at e,λid id' e=>(aL e).elim,λb hb=>⟨by
  rcases hb with hb|⟨id,e,he⟩
  ·exact(k2.sep b hb).1
  ·rw[←he];exact k2.bnd id e.lt,λid e=>(aL e).elim⟩,λid hid=>by simp at hid,λg cs hg=>by
  obtain⟨g1,g2⟩:=k2.glob g cs hg
  exact⟨.inl g1,λj c hj=>by obtain⟨v,q1,q2⟩:=g2 j c hj;exact⟨v,q1,q2.mono λb hb=>⟨.inl hb,rfl⟩⟩⟩⟩,?_,?_⟩
 ·cases k3 with
  |ret _ x hx=>exact .ret _ _ (hv.rel k2 0 r r' x rfl rfl hx)
 ·exact{pure:=λb hb=>⟨.inl (k4.pure b hb).1,(k4.pure b hb).2⟩,len:=Nat.le_refl _,same:=λid hid=>by simp at hid
        blk:=λid hid=>by simp at hid
        os:=k4.os,tape:=k4.tape,output:=k4.output,size:=k4.size,out:=k4.out
        img:=λid e=>(aL e).elim
        newS:=λb hb=>by
         rcases hb with hb|hb
         ·exact k4.newS b hb
         ·exact .inr (.inl (himg b hb))}
end Go.Aw
namespace Go.Aw
theorem pp(n:Nat):∀v:AV,below n v->ren (List.range n) v=v:=by
 have key:∀(m:Nat),(∀v:AV,SizeOf.sizeOf v<m->below n v->ren (List.range n) v=v)/\(∀l:List AV,SizeOf.sizeOf l<m->aA n l->bn (List.range n) l=l):=by
  intro m
  induction m with
  |zero=>exact⟨λv h=>by omega,λl h=>by omega⟩
  |succ m ih=>
   refine⟨λv hs hb=>?_,λl hs hb=>?_⟩
   ·cases v<;>simp only[ren,below] at hb⊢ <;>first|rfl|(rw[ih.2 _ (by simp at hs;omega) hb])|(simp[List.getD_eq_getElem?_getD,hb])
   ·cases l with
    |nil=>rfl
    |cons v r=>simp only[bn];rw[ih.1 v (by simp at hs;omega) hb.1,ih.2 r (by simp at hs;omega) hb.2]
 exact λv=>(key _).1 v (Nat.lt_succ_self _)
theorem uq(n:Nat):∀l:List AV,aA n l->bn (List.range n) l=l
 |[],_=>rfl
 |v::r,h=>by simp only[bn];rw[pp n v h.1,uq n r h.2]
def Fst(n:Nat)(h h1:List AO):Prop:=h1.length=n/\n<=h.length/\(∀(i:Nat) (sz:Nat) (es:List (List AV)),h1[i]?=some (.row sz es)->h[i]?=some (.row sz es)/\∀e∈es,aA n e)/\
 (∀(i:Nat) (es:List (PV × AV)),h1[i]?=some (.mp es)->h[i]?=some (.mp es)/\∀e∈es,below n e.2)/\
 ∀(i:Nat) (s:List UInt8) (pos:Nat),h1[i]?=some (.sit s pos)->h[i]?=some (.sit s pos)
theorem vS{k n:Nat}{ts ts1:List AV}{h h1:List AO}(hk:k<=n)(HF:Fst n h h1)(HT:Fgt n ts ts1):∃ρ:List Nat,k<=ρ.length/\(∀i,i<k->ρ.getD i 0=i)/\ρ.Nodup/\TW ρ ts ts1/\HW ρ h ρ h1:=by
 obtain⟨f1,f2,f3,f4,f5⟩:=HF
 refine⟨List.range n,by simpa using hk,λi hi=>by simp[List.getD_eq_getElem?_getD,show i<n by omega],List.nodup_range,?_,?_⟩
 ·revert HT
  induction ts generalizing ts1 with
  |nil=>intro H;cases ts1<;>first|exact trivial|exact H.elim
  |cons v r ih=>
   intro H
   cases ts1 with
   |nil=>exact H.elim
   |cons v1 r1=>
    refine⟨?_,ih H.2⟩
    rcases H.1 with h|⟨h1,h2⟩
    ·exact .inl h
    ·exact .inr ⟨by simpa using h1,by rw[←h2];exact pp n v1 h1⟩
 ·have key:∀(m a:Nat) (l:List AO),a+m=n->l.length=m->(∀i,l[i]?=h1[a+i]?)->HW (List.range n) h (List.range' a m) l:=by
   intro m
   induction m with
   |zero=>intro a l _ hl _;have:l=[]:=List.length_eq_zero_iff.1 hl;subst this;exact trivial
   |succ m ih=>
    intro a l ha hl hg
    match l,hl with
    |o::r,hl=>
     refine⟨by omega,?_,ih (a+1) r (by omega) (by simpa using hl) (λi=>by have:=hg (i+1);simp at this;rw[this];congr 1;omega)⟩
     have h0:=hg 0
     simp at h0
     cases o with
     |dead=>exact trivial
     |row sz es=>
      obtain⟨g1,g2⟩:=f3 a sz es h0.symm
      refine⟨λe he=>by simpa using g2 e he,?_⟩
      rw[g1]
      congr 2
      symm
      rw[List.map_congr_left (g:=id) λe he=>uq n e (g2 e he)]
      simp
     |sit t pos=>exact f5 a t pos h0.symm
     |mp es=>
      obtain⟨g1,g2⟩:=f4 a es h0.symm
      refine⟨λe he=>by simpa using g2 e he,?_⟩
      rw[g1]
      congr 2
      symm
      rw[List.map_congr_left (g:=id) λe he=>by simp[pp n e.2 (g2 e he)]]
      simp
  rw[List.range_eq_range']
  have:=key n 0 h1 (by omega) f1 (λi=>by simp)
  rwa[List.range_eq_range'] at this
theorem zD{k n:Nat}{ts ts1:List AV}{h h1:List AO}(hk:k<=n)(HF:Fst n h h1)(HT:Fgt n ts ts1):Wk k ts h ts1 h1:=by
 obtain⟨ρ,a,b,c,d,e⟩:=vS hk HF HT
 exact Wk.of ρ a b c d e
theorem GX{α:Type}{l:List α}{z v:α}{i n:Nat}(hn:l.length=n)(h:i<n)(hv:l[i]?=some v):(l.take i++List.replicate (n-i) z).set i v=l.take (i+1)++List.replicate (n-(i+1)) z:=by
 have hl:(l.take i).length=i:=by simp;omega
 rw[List.set_append_right _ _ (by omega),hl,Nat.sub_self]
 have e:n-i=(n-(i+1))+1:=by omega
 rw[e,List.replicate_succ,List.set_cons_zero,List.take_add_one,hv]
 simp
theorem eb{h:List AO}{id sz n:Nat}{ls:List (List PV)}(he:h[id]?=some (.row sz (ls.map (·.map .p))))(hn:n=ls.length)(hs:∀l∈ls,l.length=sz):View h (.sl id sz 0 n) (.lst sz ls):=by
 subst hn
 refine .sl id sz 0 _ ls he (by simp) hs λi j e q e' a h1 h2 h3 h4=>?_
 simp only[Nat.zero_add,List.getElem?_map,h1,Option.map_some,Option.some.injEq] at h3
 subst h3
 simp only[List.getElem?_map,h2,Option.map_some,Option.some.injEq] at h4
 subst h4
 exact .p q
end Go.Aw
namespace Go.Aw
section
variable {P:Program} {G:az}
def WkR(k:Nat)(v:AV)(h:List AO)(v1:AV)(h1:List AO):Prop:=
 ∃ρ:List Nat,k<=ρ.length/\(∀i,i<k->ρ.getD i 0=i)/\ρ.Nodup/\below ρ.length v1/\ren ρ v1=v/\HW ρ h ρ h1
theorem Er{k:Nat}{v v1:AV}{h h1:List AO}(w:WkR k v h v1 h1):Wk k [v] h [v1] h1:=by
 obtain⟨ρ,r1,r2,r3,r4,r5,r6⟩:=w
 exact Wk.of ρ r1 r2 r3 ⟨.inr ⟨r4,r5⟩,trivial⟩ r6
theorem AC.gc{f:FuncId}{args:List AV}{h:List AO}{R R':ARes->List AO->Prop}(H:AC P G f args h R)(hp:∀t v h',R (.pan t v) h'->R' (.pan t v) h')
 (hw:∀v h',R (.ret v) h'->∃v1 h1,WkR h.length v h' v1 h1/\R' (.ret v1) h1):AC P G f args h R':=by
 refine⟨H.1,λW S φ vs hH hA=>(H.2 W S φ vs hH hA).mono λe W' ⟨r,S',φ',h',k1,k2,k3,k4⟩=>?_⟩
 cases r with
 |pan t v=>exact⟨_,S',φ',h',hp t v h' k1,k2,k3,k4⟩
 |ret v=>
  cases k3 with
  |ret _ x hv=>
   obtain⟨v1,h1,w,hr⟩:=hw v h' k1
   have s:St G W S φ h W' S' φ' {tmps:=#[x],defers:=[]} [v] h':=⟨k2,⟨rfl,λi u hi=>by
    cases i with
    |zero=>simp at hi;subst hi;exact hv
    |succ i=>simp at hi⟩,rfl,k4⟩
   obtain⟨S1,φ1,s1⟩:=Er w G W S φ h W' S' φ' _ rfl s
   exact⟨.ret v1,S1,φ1,h1,hr,s1.hrel,.ret _ _ (s1.trel.get 0 v1 rfl),s1.keep⟩
theorem VRel.isBelow{W:World}{S:Nat->Prop}{φ:Place}{n:Nat}{v:AV}{x:Value}(h:VRel W S φ n v x):Aw.below n v:=by
 induction h with
 |agg cs vs hs hc ih=>
  simp only[Aw.below]
  have:∀(l:List AV),(∀c∈l,Aw.below n c)->aA n l:=by
   intro l;induction l with
   |nil=>intro _;trivial
   |cons a r ih=>intro h;exact⟨h a (by simp),ih λc hc=>h c (by simp[hc])⟩
  refine this _ λc hc'=>?_
  obtain⟨j,hj⟩:=List.getElem?_of_mem hc'
  have hl:=(List.getElem?_eq_some_iff.1 hj).1
  exact ih j c _ hj (Array.getElem?_eq_getElem (by omega))
 |tup cs vs hs hc ih=>
  simp only[Aw.below]
  have:∀(l:List AV),(∀c∈l,Aw.below n c)->aA n l:=by
   intro l;induction l with
   |nil=>intro _;trivial
   |cons a r ih=>intro h;exact⟨h a (by simp),ih λc hc=>h c (by simp[hc])⟩
  refine this _ λc hc'=>?_
  obtain⟨j,hj⟩:=List.getElem?_of_mem hc'
  have hl:=(List.getElem?_eq_some_iff.1 hj).1
  exact ih j c _ hj (Array.getElem?_eq_getElem (by omega))
 |fn f cs vs hs hc ih=>
  simp only[Aw.below]
  have:∀(l:List AV),(∀c∈l,Aw.below n c)->aA n l:=by
   intro l;induction l with
   |nil=>intro _;trivial
   |cons a r ih=>intro h;exact⟨h a (by simp),ih λc hc=>h c (by simp[hc])⟩
  refine this _ λc hc'=>?_
  obtain⟨j,hj⟩:=List.getElem?_of_mem hc'
  have hl:=(List.getElem?_eq_some_iff.1 hj).1
  exact ih j c _ hj (Array.getElem?_eq_getElem (by omega))
 |ptr _ _ _ _ hid=>exact hid
 |sl _ _ _ _ _ _ hid=>exact hid
 |mp _ hid=>exact hid
 |it _ hid=>exact hid
 |_=>trivial
def HB(h:List AO):Prop:=
 (∀(i sz:Nat) (es:List (List AV)),h[i]?=some (.row sz es)->∀e∈es,e.length=sz/\aA h.length e/\e.all AV.isCell=true)/\
 ∀(i:Nat) (es:List (PV × AV)),h[i]?=some (.mp es)->∀e∈es,below h.length e.2
theorem HRel.hb{W:World}{S:Nat->Prop}{φ:Place}{h:List AO}(H:HRel G W S φ h):HB h:=by
 refine⟨λi sz es e x hx=>?_,λi es e x hx=>?_⟩
 ·obtain⟨c,t,fr,a1,a2,a3,a4,a5⟩:=H.obj i sz es e
  have key:∀u∈x,u.isCell=true/\Aw.below h.length u:=λu hu=>by
   obtain⟨j,hj⟩:=List.getElem?_of_mem (List.mem_flatten.2 ⟨x,hx,hu⟩)
   obtain⟨b1,v,b2,b3⟩:=a5 j u hj
   exact⟨b1,b3.isBelow⟩
  refine⟨a3 x hx,?_,List.all_eq_true.2 λu hu=>(key u hu).1⟩
  have:∀(l:List AV),(∀c∈l,Aw.below h.length c)->aA h.length l:=by
   intro l;induction l with
   |nil=>intro _;trivial
   |cons a r ih=>intro h;exact⟨h a (by simp),ih λc hc=>h c (by simp[hc])⟩
  exact this x λu hu=>(key u hu).2
 ·obtain⟨ents,clock,a1,a2,a3,a4⟩:=H.oobj i _ e trivial
  obtain⟨j,hj⟩:=List.getElem?_of_mem hx
  obtain⟨e0,_,_,h3⟩:=a3 j x.1 x.2 hj
  exact h3.isBelow
theorem AC.hb{f:FuncId}{args:List AV}{h:List AO}{R:ARes->List AO->Prop}(hc:eg P f=true)(H:HB h->AC P G f args h R):AC P G f args h R:=
 ⟨hc,λW S φ vs hH hA=>(H hH.hb).2 W S φ vs hH hA⟩
theorem Jh{k:Nat}{ts ts1:List AV}{h:List AO}(hk:k<=h.length)(hb:HB h)(HT:Fgt h.length ts ts1):Wk k ts h ts1 h:=
 zD (n:=h.length) hk ⟨rfl,Nat.le_refl _,(λi sz es e=>⟨e,λx hx=>(hb.1 i sz es e x hx).2.1⟩),(λi es e=>⟨e,λx hx=>hb.2 i es e x hx⟩),λi s p e=>e⟩ HT
theorem bx{n m:Nat}(hnm:n<=m):∀(l:List AV),aA n l->aA m l:=by
 have key:∀(s:Nat),(∀v:AV,SizeOf.sizeOf v<s->below n v->below m v)/\(∀l:List AV,SizeOf.sizeOf l<s->aA n l->aA m l):=by
  intro s
  induction s with
  |zero=>exact⟨λv h=>by omega,λl h=>by omega⟩
  |succ s ih=>
   refine⟨λv hs hb=>?_,λl hs hb=>?_⟩
   ·cases v<;>simp only[below] at hb⊢ <;>first|trivial|omega|(exact ih.2 _ (by simp at hs;omega) hb)
   ·cases l with
    |nil=>trivial
    |cons v r=>exact⟨ih.1 v (by simp at hs;omega) hb.1,ih.2 r (by simp at hs;omega) hb.2⟩
 exact λl=>(key _).2 l (Nat.lt_succ_self _)
def okO(n:Nat):AO->Prop
 | .row _ es=>∀e∈es,aA n e
 | .mp es=>∀e∈es,below n e.2
 |_=>True
theorem Jk{k:Nat}{ts ts1:List AV}{h:List AO}(hk:k<=h.length)(ho:∀o∈h,okO h.length o)(HT:Fgt h.length ts ts1):Wk k ts h ts1 h:=
 zD (n:=h.length) hk ⟨rfl,Nat.le_refl _,(λi sz es e=>⟨e,λx hx=>ho _ (List.mem_of_getElem? e) x hx⟩),(λi es e=>⟨e,λx hx=>ho _ (List.mem_of_getElem? e) x hx⟩),λi s p e=>e⟩ HT
theorem AC.trim{f:FuncId}{args:List AV}{h:List AO}{r:AV}(H:AC P G f args h λx h'=>x= .ret r/\∃l,h'=h++l)(hr:below h.length r):AC P G f args h λx h'=>x= .ret r/\h'=h:=by
 refine AC.hb H.1 λhb=>H.gc (λt v h' ⟨e,_⟩=>by cases e) λv h' ⟨e,l,e2⟩=>?_
 cases e;subst e2
 obtain⟨ρ,r1,r2,r3,r4,r5⟩:=vS (k:=h.length) (n:=h.length) (ts:=[r]) (ts1:=[r]) (h:=h++l) (h1:=h) (Nat.le_refl _)
  ⟨rfl,by simp,(λi sz es e=>⟨by rw[List.getElem?_append_left (List.getElem?_eq_some_iff.1 e).1];exact e,λx hx=>(hb.1 i sz es e x hx).2.1⟩),
    (λi es e=>⟨by rw[List.getElem?_append_left (List.getElem?_eq_some_iff.1 e).1];exact e,λx hx=>hb.2 i es e x hx⟩),
    λi s p e=>by rw[List.getElem?_append_left (List.getElem?_eq_some_iff.1 e).1];exact e⟩ ⟨.inr ⟨hr,rfl⟩,trivial⟩
 rcases r4.1 with h1|⟨h1,h2⟩
 ·subst h1
  exact⟨.any,h,⟨ρ,r1,r2,r3,by simp[below],by simp[ren],r5⟩,rfl,rfl⟩
 ·exact⟨r,h,⟨ρ,r1,r2,r3,h1,h2,r5⟩,rfl,rfl⟩
theorem jO(ρ:List Nat):∀l:List AV,aA 0 l->bn ρ l=l:=by
 have key:∀(s:Nat),(∀v:AV,SizeOf.sizeOf v<s->below 0 v->ren ρ v=v)/\(∀l:List AV,SizeOf.sizeOf l<s->aA 0 l->bn ρ l=l):=by
  intro s
  induction s with
  |zero=>exact⟨λv h=>by omega,λl h=>by omega⟩
  |succ s ih=>
   refine⟨λv hs hb=>?_,λl hs hb=>?_⟩
   ·cases v<;>simp only[ren,below] at hb⊢ <;>first|rfl|omega|(rw[ih.2 _ (by simp at hs;omega) hb])
   ·cases l with
    |nil=>rfl
    |cons v r=>simp only[bn];rw[ih.1 v (by simp at hs;omega) hb.1,ih.2 r (by simp at hs;omega) hb.2]
 exact λl=>(key _).2 l (Nat.lt_succ_self _)
theorem jb{ρ:List Nat}{h:List AO}:HW ρ h [] []:=trivial
theorem dx{ρ:List Nat}{h:List AO}{i:Nat}{π:List Nat}{sz:Nat}{es:List (List AV)}{r1:List AO}(e:h[i]?=some (.row sz es))(hp:∀x∈es,aA 0 x)(hr:HW ρ h π r1):HW ρ h (i::π) (.row sz es::r1):=
 ⟨(List.getElem?_eq_some_iff.1 e).1,⟨λx hx=>bx (Nat.zero_le _) _ (hp x hx),by rw[List.map_congr_left (g:=id) λx hx=>jO ρ x (hp x hx)];simpa using e⟩,hr⟩
theorem ed{ρ:List Nat}{h:List AO}{i:Nat}{π:List Nat}{sz:Nat}{es:List (List AV)}{r1:List AO}(hp:∀x∈es,aA ρ.length x)(e:h[i]?=some (.row sz (es.map (bn ρ))))(hr:HW ρ h π r1):HW ρ h (i::π) (.row sz es::r1):=
 ⟨(List.getElem?_eq_some_iff.1 e).1,⟨hp,e⟩,hr⟩
theorem sb{ρ:List Nat}{h:List AO}{i:Nat}{π:List Nat}{r1:List AO}(e:i<h.length)(hr:HW ρ h π r1):HW ρ h (i::π) (.dead::r1):=⟨e,trivial,hr⟩
@[simp] theorem Ot(ρ:List Nat):TW ρ [] []=True:=by simp[TW]
@[simp] theorem Jr(ρ:List Nat)(v v1:AV)(r r1:List AV):TW ρ (v::r) (v1::r1)=((v1= .any\/(below ρ.length v1/\ren ρ v1=v))/\TW ρ r r1):=by simp[TW]
theorem AC.freezeR{f:FuncId}{args:List AV}{r':AV}{R:ARes->List AO->Prop}(H:AC P G f args [] R)(hp:∀t v h,¬R (.pan t v) h)(hv0:∀v h,R (.ret v) h->Views h [v] [r']):VF P G f args r':=by
 refine⟨H.1,λW S φ vs hH hA=>?_⟩
 refine(H.2 W S φ vs hH hA).mono λe W' ⟨x,S',φ',h',k0,k2,k3,k4⟩=>?_
 obtain⟨r,rfl⟩:∃r,x= .ret r:=by
  cases x with
  |ret v=>exact⟨v,rfl⟩
  |pan t v=>exact(hp _ _ _ k0).elim
 have hv:=hv0 _ _ k0
 have himg:∀b,eQ φ' h' b->W.heap.size<=b:=λb ⟨id,e,he⟩=>by
  rcases k4.img id e with h2|⟨id2,h2,_⟩
  ·omega
  ·exact(aL h2).elim
 refine⟨.ret r',(λb=>S' b\/eQ φ' h' b),φ',[],rfl,⟨λid sz es e=>by simp at e,λid o e _=>by simp at e,λid id' e=>(aL e).elim,λb hb=>⟨by
  rcases hb with hb|⟨id,e,he⟩
  ·exact(k2.sep b hb).1
  ·rw[←he];exact k2.bnd id e.lt,λid e=>(aL e).elim⟩,λid hid=>by simp at hid,λg cs hg=>by
  obtain⟨g1,g2⟩:=k2.glob g cs hg
  exact⟨.inl g1,λj c hj=>by obtain⟨v,q1,q2⟩:=g2 j c hj;exact⟨v,q1,q2.mono λb hb=>⟨.inl hb,rfl⟩⟩⟩⟩,?_,?_⟩
 ·cases k3 with
  |ret _ x hx=>exact .ret _ _ (hv.rel k2 0 r r' x rfl rfl hx)
 ·exact{pure:=λb hb=>⟨.inl (k4.pure b hb).1,(k4.pure b hb).2⟩,len:=Nat.le_refl _,same:=λid hid=>by simp at hid
        blk:=λid hid=>by simp at hid
        os:=k4.os,tape:=k4.tape,output:=k4.output,size:=k4.size,out:=k4.out
        img:=λid e=>(aL e).elim
        newS:=λb hb=>by
         rcases hb with hb|hb
         ·exact k4.newS b hb
         ·exact .inr (.inl (himg b hb))}
end
end Go.Aw
namespace Go.Aw
def look:List (Nat × AV)->Nat->AV
 |[],_=> .any
 |x::r,j=>if x.1=j then x.2 else look r j
@[simp] theorem Nd(j:Nat):look [] j= .any:=rfl
@[simp] theorem MO(d:Nat)(v:AV)(r:List (Nat × AV)):look ((d,v)::r) d=v:=by simp[look]
@[simp] theorem LW{d j:Nat}(v:AV)(r:List (Nat × AV))(h:d≠j):look ((d,v)::r) j=look r j:=by simp[look,h]
def aw(n:Nat)(l:List (Nat × AV)):List AV:=(List.range n).map (look l)
theorem eO{n i:Nat}{l:List (Nat × AV)}(h:i<n):(aw n l)[i]?=some (look l i):=by simp[aw,h]
@[simp] theorem MW{n j:Nat}{l:List (Nat × AV)}(h:j<n):sel (aw n l) j=look l j:=by
 rw[←mY,List.getD_eq_getElem?_getD,eO h];rfl
@[simp] theorem EW(n d:Nat)(v:AV)(l:List (Nat × AV)):yT (aw n l) d v=aw n ((d,v)::l):=by
 rw[←su]
 refine List.ext_getElem? λi=>?_
 rw[List.getElem?_set]
 by_cases hi:i<n
 ·rw[eO hi,eO hi]
  by_cases hd:d=i
  ·subst hd
   simp[aw,hi]
  ·simp[hd]
 ·simp only[aw,List.length_map,List.length_range]
  rw[List.getElem?_eq_none (by simp;omega),List.getElem?_eq_none (by simp;omega)]
  split
  ·rw[if_neg (by omega)]
  ·rfl
def ze:Nat->List AV->List (Nat × AV)
 |_,[]=>[]
 |k,a::r=>(k,a)::ze (k+1) r
@[simp] theorem Mr(k:Nat):ze k []=[]:=rfl
@[simp] theorem Lu(k:Nat)(a:AV)(r:List AV):ze k (a::r)=(k,a)::ze (k+1) r:=rfl
theorem vt:∀(l:List AV) (k i:Nat),look (ze k l) i=if k<=i then(l[i-k]?).getD .any else .any
 |[],k,i=>by simp
 |a::r,k,i=>by
  simp only[ze,look]
  split
  ·rename_i h;subst h;simp
  ·rename_i h
   rw[vt r (k+1) i]
   by_cases hk:k<=i
   ·rw[if_pos (by omega),if_pos hk,show i-k=(i-(k+1))+1 by omega];simp
   ·rw[if_neg (by omega),if_neg hk]
theorem vJ{n:Nat}{args:List AV}(h:args.length<=n):args++List.replicate (n-args.length) .any=aw n (ze 0 args):=by
 refine List.ext_getElem? λi=>?_
 by_cases hi:i<n
 ·rw[eO hi,vt,if_pos (Nat.zero_le _),Nat.sub_zero]
  by_cases ha:i<args.length
  ·rw[List.getElem?_append_left ha,List.getElem?_eq_getElem ha];rfl
  ·rw[List.getElem?_append_right (by omega),List.getElem?_replicate,if_pos (by omega),List.getElem?_eq_none (by omega)];rfl
 ·rw[List.getElem?_eq_none (by simp;omega),List.getElem?_eq_none (by simp[aw];omega)]
theorem AC.go{P:Program}{G:az}{f:FuncId}{F:FK}(hF:aq P f=some F){args:List AV}{h:List AO}{R:ARes->List AO->Prop}
 (H:AKW P G h.length F.ak (aw F.ntmps (ze 0 args)) h (pz G F.res R))(hl:Nat.ble args.length F.ntmps=true:=by rfl):AC P G f args h R:=
 AC.enter hF (by rw[vJ (Nat.le_of_ble_eq_true hl)];exact H)
theorem AC.goK{P:Program}{G:az}{f:FuncId}{F:FK}(hF:aq P f=some F){K:AK}(hK:K.whole=F.ak){args:List AV}{h:List AO}{R:ARes->List AO->Prop}
 (H:AKW P G h.length K (aw F.ntmps (ze 0 args)) h (pz G F.res R))(hl:Nat.ble args.length F.ntmps=true:=by rfl):AC P G f args h R:=
 AC.enterK hF K (λ_ h=>KOk.cuts (hK▸h)) (by rw[vJ (Nat.le_of_ble_eq_true hl)];exact H)
def FgA(m:Nat)(l:List (Nat × AV)):List (Nat × AV)->Prop
 |[]=>True
 |x::r=>(below m x.2/\look l x.1=x.2)/\FgA m l r
@[simp] theorem NQ(m:Nat)(l:List (Nat × AV)):FgA m l []=True:=rfl
@[simp] theorem Md(m:Nat)(l:List (Nat × AV))(x:Nat × AV)(r:List (Nat × AV)):FgA m l (x::r)=((below m x.2/\look l x.1=x.2)/\FgA m l r):=rfl
def TWA(ρ:List Nat)(l:List (Nat × AV)):List (Nat × AV)->Prop
 |[]=>True
 |x::r=>(below ρ.length x.2/\ren ρ x.2=look l x.1)/\TWA ρ l r
@[simp] theorem Nr(ρ:List Nat)(l:List (Nat × AV)):TWA ρ l []=True:=rfl
@[simp] theorem MI(ρ:List Nat)(l:List (Nat × AV))(x:Nat × AV)(r:List (Nat × AV)):TWA ρ l (x::r)=((below ρ.length x.2/\ren ρ x.2=look l x.1)/\TWA ρ l r):=rfl
theorem DN{m:Nat}{l:List (Nat × AV)}:∀{l1:List (Nat × AV)},FgA m l l1->∀i,look l1 i= .any\/(below m (look l1 i)/\look l1 i=look l i)
 |[],_,i=> .inl rfl
 |x::r,h,i=>by
  simp only[look]
  split
  ·rename_i e;subst e;exact .inr ⟨h.1.1,h.1.2.symm⟩
  ·exact DN h.2 i
theorem CK{ρ:List Nat}{l:List (Nat × AV)}:∀{l1:List (Nat × AV)},TWA ρ l l1->∀i,look l1 i= .any\/(below ρ.length (look l1 i)/\ren ρ (look l1 i)=look l i)
 |[],_,i=> .inl rfl
 |x::r,h,i=>by
  simp only[look]
  split
  ·rename_i e;subst e;exact .inr h.1
  ·exact CK h.2 i
theorem oe{m n:Nat}{l l1:List (Nat × AV)}(h:FgA m l l1):Fgt m (aw n l) (aw n l1):=by
 have key:∀r:List Nat,Fgt m (r.map (look l)) (r.map (look l1)):=by
  intro r
  induction r with
  |nil=>trivial
  |cons i r ih=>exact⟨DN h i,ih⟩
 exact key _
theorem CQ{ρ:List Nat}{n:Nat}{l l1:List (Nat × AV)}(h:TWA ρ l l1):TW ρ (aw n l) (aw n l1):=by
 have key:∀r:List Nat,TW ρ (r.map (look l)) (r.map (look l1)):=by
  intro r
  induction r with
  |nil=>trivial
  |cons i r ih=>exact⟨CK h i,ih⟩
 exact key _
theorem aU{k n:Nat}{l l1:List (Nat × AV)}{h:List AO}(hk:k=0)(H:FgA 0 l l1):Wk k (aw n l) h (aw n l1) []:=Gg hk (oe H)
theorem yZ{k n m:Nat}{l l1:List (Nat × AV)}{h h1:List AO}(hk:k<=m)(HF:Fst m h h1)(H:FgA m l l1):Wk k (aw n l) h (aw n l1) h1:=zD hk HF (oe H)
theorem aK{k n:Nat}{l l1:List (Nat × AV)}{h:List AO}(hk:k<=h.length)(ho:∀o∈h,okO h.length o)(H:FgA h.length l l1):Wk k (aw n l) h (aw n l1) h:=Jk hk ho (oe H)
theorem Hn{k n:Nat}{l l1:List (Nat × AV)}{h:List AO}(hk:k<=h.length)(hb:HB h)(H:FgA h.length l l1):Wk k (aw n l) h (aw n l1) h:=Jh hk hb (oe H)
structure Blk (A B:Prop):Type where
 mk::
def DQ(b:Bool)(A B:Prop)(_w:Blk A B):Prop:=Cnd b A B
@[simp high] theorem Mk(A B:Prop)(b:Bool):Fv A B (.p (.bool b))=DQ b A B ⟨⟩:=rfl
@[simp high] theorem Lz(A B:Prop)(b:Bool):grd true A B (.p (.bool b))=DQ b A B ⟨⟩:=rfl
@[simp high] theorem Lt(A B:Prop)(b:Bool):grd false A B (.p (.bool b))=DQ (!b) A B ⟨⟩:=rfl
@[simp] theorem LJ(A B:Prop)(w:Blk A B):DQ true A B w=A:=FS A B
@[simp] theorem KY(A B:Prop)(w:Blk A B):DQ false A B w=B:=Ev A B
theorem aF{b:Bool}{A B:Prop}{w:Blk A B}(h1:b=true->A)(h2:b=false->B):DQ b A B w:=⟨h1,h2⟩
theorem iC{ρ:List Nat}{h:List AO}{i:Nat}{π:List Nat}{o:AO}{r1:List AO}(e:h[i]?=some o)(ho:okO 0 o)(hr:HW ρ h π r1):HW ρ h (i::π) (o::r1):=by
 cases o with
 |dead=>exact sb (List.getElem?_eq_some_iff.1 e).1 hr
 |row sz es=>exact dx e ho hr
 |sit s p=>exact⟨(List.getElem?_eq_some_iff.1 e).1,e,hr⟩
 |mp es=>
  refine⟨(List.getElem?_eq_some_iff.1 e).1,⟨λx hx=>?_,?_⟩,hr⟩
  ·have:=bx (Nat.zero_le ρ.length) [x.2] ⟨ho x hx,trivial⟩
   exact this.1
  ·have:es.map (λx=>(x.1,ren ρ x.2))=es:=by
    rw[List.map_congr_left (g:=id) λx hx=>by
     have:=jO ρ [x.2] ⟨ho x hx,trivial⟩
     simp only[bn,List.cons.injEq,and_true] at this
     rw[this];rfl]
    simp
   rw[this];exact e
theorem mf(ρ:List Nat){k n:Nat}{l l1:List (Nat × AV)}{h h1:List AO}(hk:k<=ρ.length)(hi:∀i,i<k->ρ.getD i 0=i)(nd:ρ.Nodup)(HH:HW ρ h ρ h1)(H:TWA ρ l l1):Wk k (aw n l) h (aw n l1) h1:=
 Wk.of ρ hk hi nd (CQ H) HH
theorem Ik(ρ:List Nat){k n:Nat}{l l1:List (Nat × AV)}{h h1:List AO}(hk:k<=ρ.length)(hi:∀i,i<k->ρ.getD i 0=i)(nd:(gT ρ h1).Nodup)(HH:HW ρ h ρ h1)(H:TWA ρ l l1):Wk k (aw n l) h (aw n l1) h1:=
 Wk.ofL ρ hk hi nd (CQ H) HH
attribute [simp] mb
end Go.Aw
namespace Go.Aw
mutual
def uS:AV->Bool
 | .agg cs=>sN cs
 | .tup cs=>sN cs
 | .fn _ _=>false
 |_=>true
def sN:List AV->Bool
 |[]=>true
 |v::r=>uS v&&sN r
end
def FQ:AO->Bool
 | .row _ es=>es.all sN
 | .mp es=>es.all λx=>uS x.2
 | .sit .. =>true
 | .dead=>true
theorem mg:∀{l:List AV},sN l=true->∀(j:Nat) (c:AV),l[j]?=some c->uS c=true
 |v::r,h,0,c,e=>by simp at e;subst e;simp[sN] at h;exact h.1
 |v::r,h,j+1,c,e=>by simp[sN] at h;exact mg h.2 j c (by simpa using e)
theorem tX{W:World}{S:Nat->Prop}{φ φ':Place}{n m:Nat}:∀{v:AV} {x:Value},VRel W S φ' m v x->uS v=true->VRel W S (iy n φ φ') (n+m) (bz n v) x:=by
 intro v x h
 induction h with
 |p pv x hp=>intro _;exact .p _ _ hp
 |agg cs vs hs _ ih=>
  intro hc
  simp only[uS] at hc
  simp only[bz,bJ]
  refine .agg _ vs (by simp[hs]) λj c y h1 h2=>?_
  simp only[List.getElem?_map,Option.map_eq_some_iff] at h1
  obtain⟨c0,h1,rfl⟩:=h1
  exact ih j c0 y h1 h2 (mg hc j c0 h1)
 |tup cs vs hs _ ih=>
  intro hc
  simp only[uS] at hc
  simp only[bz,bJ]
  refine .tup _ vs (by simp[hs]) λj c y h1 h2=>?_
  simp only[List.getElem?_map,Option.map_eq_some_iff] at h1
  obtain⟨c0,h1,rfl⟩:=h1
  exact ih j c0 y h1 h2 (mg hc j c0 h1)
 |ptr id esz i off hid=>
  intro _
  have:=VRel.ptr (W:=W) (S:=S) (φ:=iy n φ φ') (n:=n+m) (n+id) esz i off (by omega)
  rw[cH] at this;exact this
 |sl id esz off len cap ba hid hl hb hc=>
  intro _
  have:=VRel.sl (W:=W) (S:=S) (φ:=iy n φ φ') (n:=n+m) (n+id) esz off len cap ba (by omega) hl (by rw[cH];exact hb) (by rw[cH];exact hc)
  simpa[bz] using this
 |mp id hid=>
  intro _
  have:=VRel.mp (W:=W) (S:=S) (φ:=iy n φ φ') (n:=n+m) (n+id) (by omega)
  rw[cH] at this;exact this
 |it id hid=>
  intro _
  have:=VRel.it (W:=W) (S:=S) (φ:=iy n φ φ') (n:=n+m) (n+id) (by omega)
  rw[cH] at this;exact this
 |gp g off=>intro _;exact .gp g off
 |nils=>intro _;exact .nils
 |nilp=>intro _;exact .nilp
 |nilf=>intro _;exact .nilf
 |nilm=>intro _;exact .nilm
 |nili=>intro _;exact .nili
 |any x=>intro _;exact .any x
 |eptr e off b o hb hc=>intro _;exact .eptr e off b o hb hc
 |fn=>intro hc;simp[uS] at hc
 |ifc t pv x hp=>intro _;exact .ifc t pv x hp
theorem AC.lift{P:Program}{G:az}{f:FuncId}{args:List AV}{r:AV}{h1:List AO}(H:AC P G f args [] λx h'=>x= .ret r/\h'=h1){h:List AO}(hv:aA 0 args)(hr:uS r=true)(hh:h1.all FQ=true):
 AC P G f args h λx h'=>x= .ret (bz h.length r)/\h'=h++h1.map (cL h.length):=by
 refine⟨H.1,λW S φ vs hH hA=>?_⟩
 have h0:HRel G W S φ []:=⟨λid sz es e=>by simp at e,λid o e _=>by simp at e,λid id' e=>(aL e).elim,λb hb=>⟨(hH.sep b hb).1,λid e=>(aL e).elim⟩,λid hid=>by simp at hid,hH.glob⟩
 refine(H.2 W _ φ vs h0 ⟨hA.1,λj c v h1 h2=>?_⟩).mono λe W' ⟨x,S',φ',h',⟨k0,k1⟩,k2,k3,k4⟩=>?_
 ·exact tr (λb hb=>hb) (aY hv j c h1) (hA.2 j _ v h1 h2)
 subst k0;subst k1
 have hout:∀b,b<W.heap.size->W'.heap[b]?=W.heap[b]?:=λb hb=>k4.out b hb λid e=>(aL e).elim
 have hlt:∀{id:Nat} {o:AO},h[id]?=some o->id<h.length:=λe=>(List.getElem?_eq_some_iff.1 e).1
 have himg:∀id,Live h' id->W.heap.size<=(φ' id).1:=λid e=>by
  rcases k4.img id e with h2|⟨id2,h2,_⟩
  ·exact h2
  ·exact(aL h2).elim
 have hφ:∀{i},i<h.length->iy h.length φ φ' i=φ i:=λhi=>by simp[iy,hi]
 have hφ':∀i,iy h.length φ φ' (h.length+i)=φ' i:=λi=>cH _ _ _ i
 have hget:∀{i o},(h++h'.map (cL h.length))[i]?=some o->(i<h.length/\h[i]?=some o)\/(∃k o',i=h.length+k/\h'[k]?=some o'/\o=cL h.length o'):=λ{i o} e=>by
  rcases Nat.lt_or_ge i h.length with hi|hi
  ·rw[List.getElem?_append_left hi] at e;exact .inl ⟨hi,e⟩
  ·rw[List.getElem?_append_right hi,List.getElem?_map,Option.map_eq_some_iff] at e
   obtain⟨o,e2,e3⟩:=e
   exact .inr ⟨_,o,by omega,e2,e3.symm⟩
 have hsl:∀{o:AO},(cL h.length o).live->o.live:=λ{o} l=>by cases o<;>exact l
 have hnew:∀b,S' b->S b\/W.heap.size<=b:=λb hb=>by
  rcases k4.newS b hb with h2|h2|⟨id,h2,_⟩
  ·exact .inl h2
  ·exact .inr h2
  ·exact(aL h2).elim
 have K:Keep W S φ h W' S' (iy h.length φ φ') (h++h'.map (cL h.length)):=
  {pure:=λb hb=>⟨(k4.pure b hb).1,hout b (hH.sep b hb).1⟩,len:=by simp,same:=λ_ hid=>hφ hid
   blk:=λid hid c t fr e=>⟨c,t,fr,by rw[←hout _ (hH.bnd id hid)];exact e,rfl⟩
   os:=k4.os,tape:=k4.tape,output:=k4.output,size:=k4.size,out:=λb hb _=>hout b hb
   img:=λid ⟨o,e,l⟩=>by
    rcases hget e with⟨hi,e'⟩|⟨k,o',rfl,e',rfl⟩
    ·exact .inr ⟨id,⟨_,e',l⟩,by rw[hφ hi]⟩
    ·rw[hφ'];exact .inl (himg _ ⟨_,e',hsl l⟩)
   newS:=λb hb=>(hnew b hb).elim .inl λh2=> .inr (.inl h2)}
 have hlen:(h++h'.map (cL h.length)).length=h.length+h'.length:=by simp
 refine⟨.ret (bz h.length r),S',iy h.length φ φ',_,⟨rfl,rfl⟩,⟨λid sz es e=>?_,λid o1 e lo=>?_,λid id' ⟨o1,e1,l1⟩ ⟨o2,e2,l2⟩ he=>?_,λb hb=>⟨(k2.sep b hb).1,λid ⟨o1,e,l1⟩ he=>?_⟩,λid hid=>?_,λg cs hg=>?_⟩,?_,K⟩
 ·rcases hget e with⟨hi,e'⟩|⟨k,o',rfl,e',eo⟩
  ·obtain⟨c,t,fr,a1,a2,a3,a4,a5⟩:=hH.obj id sz es e'
   refine⟨c,t,fr,by rw[hφ hi,hout _ (hH.bnd id hi)];exact a1,a2,a3,by rw[hφ hi];exact a4,λj u hj=>?_⟩
   obtain⟨b1,v,b2,b3⟩:=a5 j u hj
   exact⟨b1,v,by rw[hφ hi];exact b2,b3.kept K.toKept⟩
  ·obtain⟨es',rfl,rfl⟩:∃es',o'= .row sz es'/\es=es'.map (cK h.length):=by cases o'<;>cases eo;exact⟨_,rfl,rfl⟩
   obtain⟨c,t,fr,a1,a2,a3,a4,a5⟩:=k2.obj k sz es' e'
   refine⟨c,t,fr,by rw[hφ'];exact a1,a2,λe he=>?_,by rw[hφ'];simpa using a4,λj u hj=>?_⟩
   ·obtain⟨e0,he0,rfl⟩:=List.mem_map.1 he
    rw[bJ];simpa using a3 e0 he0
   ·have hfl:(es'.map (cK h.length)).flatten=es'.flatten.map (bz h.length):=by
     rw[List.map_flatten];congr 1;exact List.map_congr_left λl _=>bJ _ l
    rw[hfl,List.getElem?_map,Option.map_eq_some_iff] at hj
    obtain⟨u0,hj,rfl⟩:=hj
    obtain⟨b1,v,b2,b3⟩:=a5 j u0 hj
    have hcl:uS u0=true:=by
     have h3:=List.all_eq_true.1 hh _ (List.mem_of_getElem? e')
     simp only[FQ] at h3
     obtain⟨l,hl,hu⟩:=List.mem_flatten.1 (List.mem_of_getElem? hj)
     have h4:=List.all_eq_true.1 h3 l hl
     obtain⟨q,hq⟩:=List.getElem?_of_mem hu
     exact mg h4 q u0 hq
    exact⟨by rw[oM];exact b1,v,by rw[hφ'];exact b2,by rw[hlen];exact tX b3 hcl⟩
 ·rcases hget e with⟨hi,e'⟩|⟨k,o',rfl,e',eo⟩
  ·rw[hφ hi,hout _ (hH.bnd id hi)]
   exact(hH.oobj id o1 e' lo).mono λa v r=>r.kept K.toKept
  ·subst eo
   rw[hφ']
   have hq:=k2.oobj k o' e' (hsl lo)
   cases o' with
   |dead=>trivial
   |row sz es=>trivial
   |sit t pos=>exact hq
   |mp es'=>
    obtain⟨ents,clock,a1,a2,a3,a4⟩:=hq
    refine⟨ents,clock,a1,by simpa using a2,λj k a hj=>?_,a4⟩
    rw[List.getElem?_map,Option.map_eq_some_iff] at hj
    obtain⟨⟨k0,a0⟩,hj,hk⟩:=hj
    cases hk
    obtain⟨x,c1,c2,c3⟩:=a3 j _ _ hj
    have hcl:uS a0=true:=by
     have h3:=List.all_eq_true.1 hh _ (List.mem_of_getElem? e')
     simp only[FQ] at h3
     exact List.all_eq_true.1 h3 _ (List.mem_of_getElem? hj)
    exact⟨x,c1,c2,by rw[hlen];exact tX c3 hcl⟩
 ·rcases hget e1 with⟨hi,e1'⟩|⟨k,_,rfl,e1',rfl⟩<;>rcases hget e2 with⟨hi',e2'⟩|⟨k',_,rfl,e2',rfl⟩
  ·rw[hφ hi,hφ hi'] at he;exact hH.inj _ _ ⟨_,e1',l1⟩ ⟨_,e2',l2⟩ he
  ·rw[hφ hi,hφ'] at he
   have:=himg _ ⟨_,e2',hsl l2⟩
   have:=hH.bnd id hi
   omega
  ·rw[hφ hi',hφ'] at he
   have:=himg _ ⟨_,e1',hsl l1⟩
   have:=hH.bnd id' hi'
   omega
  ·rw[hφ',hφ'] at he;rw[k2.inj _ _ ⟨_,e1',hsl l1⟩ ⟨_,e2',hsl l2⟩ he]
 ·rcases hget e with⟨hi,e'⟩|⟨k,_,rfl,e',rfl⟩
  ·rw[hφ hi] at he
   rcases hnew b hb with h2|h2
   ·exact(hH.sep b h2).2 _ ⟨_,e',l1⟩ he
   ·have:=hH.bnd id hi
    omega
  ·rw[hφ'] at he
   exact(k2.sep b hb).2 _ ⟨_,e',hsl l1⟩ he
 ·rcases Nat.lt_or_ge id h.length with hi|hi
  ·rw[hφ hi];exact Nat.lt_of_lt_of_le (hH.bnd id hi) k4.size
  ·have hid':id-h.length<h'.length:=by rw[hlen] at hid;omega
   have:=hφ' (id-h.length)
   rw[show h.length+(id-h.length)=id by omega] at this
   rw[this]
   exact k2.bnd _ hid'
 ·obtain⟨g1,g2⟩:=hH.glob g cs hg
  refine⟨(K.pure g g1).1,λj c hj=>?_⟩
  obtain⟨v,v1,v2⟩:=g2 j c hj
  exact⟨v,by rw[aP (K.pure g g1).2];exact v1,v2.mono K.pure⟩
 ·cases k3 with
  |ret _ x hv=>rw[hlen];exact .ret _ _ (tX hv hr)
end Go.Aw
namespace Go.Aw
variable {P:Program}
theorem Fw{t:TypeId}{k:IntKind}{vs:List PV}(h:Conf P t vs)(hu:P.underlying t=some (.int k)):∃n,vs=[.int k n]/\(Lit.int k n).wf=true:=by
 cases h with
 |int n e hw=>rw[hu] at e;cases e;exact⟨n,rfl,hw⟩
 |sl es e=>rw[e] at hu;cases hu
 |bool b e=>rw[e] at hu;cases hu
 |str s e=>rw[e] at hu;cases hu
 |st vs e=>rw[e] at hu;cases hu
 |arr vs e=>rw[e] at hu;cases hu
theorem BO{t:TypeId}{ts:List TypeId}{vss:List (List PV)}(h:Confs P (t::ts) vss):∃vs r,vss=vs::r/\Conf P t vs/\Confs P ts r:=by
 cases h with
 |cons h1 h2=>exact⟨_,_,rfl,h1,h2⟩
theorem EF{vss:List (List PV)}(h:Confs P [] vss):vss=[]:=by cases h;rfl
theorem CX{α β:Type}(g:β->α):∀{es:List α},(∀x∈es,∃m,x=g m)->∃ms:List β,es=ms.map g
 |[],_=>⟨[],rfl⟩
 |e::r,h=>by
  obtain⟨m,hm⟩:=h e (by simp)
  obtain⟨ms,hms⟩:=CX g (es:=r) λx hx=>h x (by simp[hx])
  exact⟨m::ms,by simp[hm,hms]⟩
end Go.Aw
namespace Go.Aw
def slE(id sz:Nat)(l:List (List AV)):AV:=if l=[] then .nils else .sl id sz 0 l.length
def dd(sz:Nat)(l:List (List AV)):AO:=if l=[] then .dead else .row sz l
theorem DK(id sz:Nat):slE id sz []= .nils:=rfl
theorem Br(sz:Nat):dd sz []= .dead:=rfl
theorem cU{id sz:Nat}{l:List (List AV)}(h:l≠[]):slE id sz l= .sl id sz 0 l.length:=if_neg h
theorem fx{sz:Nat}{l:List (List AV)}(h:l≠[]):dd sz l= .row sz l:=if_neg h
def EC:AV->Option AV
 | .p (.lst _ es)=>some (.p (.int .i64 es.length))
 | .nils=>some (.p (.int .i64 0))
 | .sl _ _ _ n=>some (.p (.int .i64 n))
 |_=>none
section
variable {P:Program} {G:az} {d:Option Nat} {r:List CO} {ts:List AV} {h:List AO} {K:KT} {Qp:QP}
theorem JE(x:AOp):ev G ts h (.len false x)=(EC (x.ev ts)).map (·,h):=by
 show(un (.len false x) (x.ev ts)).map (·,h)=_
 cases x.ev ts<;>try rfl
 rename_i v;cases v<;>rfl
@[simp high] theorem NK(x:AOp):rK P G (⟨d,none,.len false x⟩::r) ts h K Qp=nxt P G d r ts K Qp ((EC (x.ev ts)).map (·,h)):=by
 rw[←JE (G:=G)];exact bf _ rfl
@[simp] theorem Oa(sz:Nat)(es:List (List PV)):EC (.p (.lst sz es))=some (.p (.int .i64 es.length)):=rfl
@[simp] theorem LL:EC .nils=some (.p (.int .i64 0)):=rfl
@[simp] theorem Ni(a b c n:Nat):EC (.sl a b c n)=some (.p (.int .i64 n)):=rfl
@[simp] theorem On(id sz:Nat)(l:List (List AV)):EC (slE id sz l)=some (.p (.int .i64 l.length)):=by
 by_cases e:l=[]
 ·subst e;rfl
 ·rw[cU e];rfl
end
section
variable {G:az} {h:List AO} {id sz:Nat} {l:List (List AV)}
@[simp high] theorem Gr(o:AOp):un (.len false o) (slE id sz l)=some (.p (.int .i64 l.length)):=by
 by_cases e:l=[]
 ·subst e;rfl
 ·rw[cU e];rfl
@[simp high] theorem Jf:lenOf (slE id sz l)=some l.length:=by
 by_cases e:l=[]
 ·subst e;rfl
 ·rw[cU e];rfl
@[simp high] theorem Ij(he:h[id]?=some (dd sz l)):elems h sz (slE id sz l)=some l:=by
 by_cases e:l=[]
 ·subst e;rfl
 ·rw[cU e];rw[fx e] at he;simp[he]
@[simp high] theorem Oi{b:Nat}{xs:List (List AV)}(he:h[id]?=some (dd sz l))(hx:xs≠[]):
 Ej h sz b (some xs) (slE id sz l)=if(l.length+xs.length)*b<=140737488355328/\l.length+xs.length<=140737488355328 then some (.sl h.length sz 0 (l.length+xs.length),h.set id .dead++[.row sz (l++xs)]) else none:=by
 by_cases e:l=[]
 ·subst e
  have:h.set id .dead=h:=by
   refine List.ext_getElem? λi=>?_
   rw[List.getElem?_set]
   split
   ·rename_i hi;subst hi
    split
    ·exact he.symm
    ·rename_i hl;rw[List.getElem?_eq_none (by omega)]
   ·rfl
  rw[DK,Ea,this];simp[hx]
 ·rw[cU e,HI];rw[fx e] at he;simp[he]
@[simp high] theorem Og(esz:Nat)(k:IntKind)(n:Int):Ft h esz (slE id sz l) (.p (.int k n))=if l≠[]/\sz=esz/\0<=n/\n<l.length then some (.ptr id esz n.toNat 0,h) else none:=by
 by_cases e:l=[]
 ·subst e;rfl
 ·rw[cU e,Ic];simp[e]
@[simp high] theorem EH{esz i off:Nat}(he:h[id]?=some (dd sz l)):fw G h (.ptr id esz i off)=if sz=esz then(l[i]?).map (·,off) else none:=by
 by_cases e:l=[]
 ·subst e
  simp only[fw,he,Br];simp
 ·rw[fx e] at he
  simp only[fw,he]
@[simp] theorem lY{m:Nat}(hi:id<m):below m (slE id sz l):=by
 by_cases e:l=[]
 ·subst e;trivial
 ·rw[cU e];exact hi
@[simp] theorem OU{ρ:List Nat}:ren ρ (slE id sz l)=slE (ρ.getD id 0) sz l:=by
 by_cases e:l=[]
 ·subst e;rfl
 ·rw[cU e,cU e];rfl
@[simp] theorem It(xs:List (List AV))(hx:xs≠[]):slE id sz (l++xs)= .sl id sz 0 (l.length+xs.length):=by
 rw[cU (by simp[hx])];simp
@[simp] theorem Fo(xs:List (List AV))(hx:xs≠[]):dd sz (l++xs)= .row sz (l++xs):=fx (by simp[hx])
@[simp high] theorem Fq:(slE id sz l).isCell=true:=by
 by_cases e:l=[]
 ·subst e;rfl
 ·rw[cU e];rfl
@[simp high] theorem HK:(slE id sz l).cells=[slE id sz l]:=by
 by_cases e:l=[]
 ·subst e;rfl
 ·rw[cU e];rfl
end
attribute [simp ↓] Fq HK Gr Jf Ij EH
theorem LX{sz:Nat}{l:List (List AV)}(h:∀x∈l,aA 0 x):okO 0 (dd sz l):=by
 by_cases e:l=[]
 ·subst e;trivial
 ·rw[fx e];exact h
theorem Km{h:List AO}{id sz:Nat}{ls:List (List PV)}(e:h[id]?=some (dd sz (ls.map (·.map .p))))(hl:∀l∈ls,l.length=sz):View h (slE id sz (ls.map (·.map .p))) (.lst sz ls):=by
 by_cases e2:ls=[]
 ·subst e2;exact View.nils sz
 ·have e3:ls.map (·.map AV.p)≠[]:=by simpa using e2
  rw[fx e3] at e
  rw[cU e3,List.length_map]
  exact eb e rfl hl
end Go.Aw
namespace Go.Aw
variable {P:Program} {G:az}
theorem Cx{W:World}{S:Nat->Prop}{φ φ':Place}{n m:Nat}{σ:List Nat}(hσ:∀i,i<m->σ.getD i 0<n/\φ (σ.getD i 0)=φ' i){v:AV}{x:Value}(h:VRel W S φ' m v x):VRel W S φ n (ren σ v) x:=by
 induction h with
 |p pv x hp=>exact .p _ _ hp
 |agg cs vs hs _ ih=>
  simp only[ren]
  refine .agg _ vs (by rw[hs,bA]) λj c y h1 h2=>?_
  rw[cX,Option.map_eq_some_iff] at h1
  obtain⟨c0,h1,rfl⟩:=h1
  exact ih j c0 y h1 h2
 |tup cs vs hs _ ih=>
  simp only[ren]
  refine .tup _ vs (by rw[hs,bA]) λj c y h1 h2=>?_
  rw[cX,Option.map_eq_some_iff] at h1
  obtain⟨c0,h1,rfl⟩:=h1
  exact ih j c0 y h1 h2
 |ptr id esz i off hid=>
  have:=VRel.ptr (W:=W) (S:=S) (φ:=φ) (n:=n) (σ.getD id 0) esz i off (hσ id hid).1
  rw[(hσ id hid).2] at this
  exact this
 |sl id esz off len cap ba hid hl hb hc=>
  exact VRel.sl (W:=W) (S:=S) (φ:=φ) (n:=n) (σ.getD id 0) esz off len cap ba (hσ id hid).1 hl (by rw[(hσ id hid).2];exact hb) (by rw[(hσ id hid).2];exact hc)
 |mp id hid=>
  have:=VRel.mp (W:=W) (S:=S) (φ:=φ) (n:=n) (σ.getD id 0) (hσ id hid).1
  rw[(hσ id hid).2] at this
  exact this
 |it id hid=>
  have:=VRel.it (W:=W) (S:=S) (φ:=φ) (n:=n) (σ.getD id 0) (hσ id hid).1
  rw[(hσ id hid).2] at this
  exact this
 |fn f caps vs hs _ ih=>
  simp only[ren]
  refine .fn f _ vs (by rw[hs,bA]) λj c y h1 h2=>?_
  rw[cX,Option.map_eq_some_iff] at h1
  obtain⟨c0,h1,rfl⟩:=h1
  exact ih j c0 y h1 h2
 |gp g off=>exact .gp g off
 |nils=>exact .nils
 |nilp=>exact .nilp
 |nilf=>exact .nilf
 |nilm=>exact .nilm
 |nili=>exact .nili
 |any x=>exact .any x
 |eptr e off b o hb hc=>exact .eptr e off b o hb hc
 |ifc t pv x hp=>exact .ifc t pv x hp
def eZ(σ:List Nat):AO->AO
 | .row sz es=> .row sz (es.map (bn σ))
 | .mp es=> .mp (es.map λx=>(x.1,ren σ x.2))
 | .sit s pos=> .sit s pos
 | .dead=> .dead
def Cj(σ:List Nat):ARes->ARes
 | .ret v=> .ret (ren σ v)
 | .pan t v=> .pan t v
def mrg(h:List AO):List Nat->List AO->List AO
 |i::π,o::os=>mrg (h.set i o) π os
 |_,_=>h
theorem oc:∀(π:List Nat) (os h:List AO),(mrg h π os).length=h.length
 |[],_,_=>by simp[mrg]
 |_::_,[],_=>by simp[mrg]
 |i::π,o::os,h=>by rw[mrg,oc,List.length_set]
theorem zC:∀(π:List Nat) (os h:List AO) (j:Nat),j∉π->(mrg h π os)[j]?=h[j]?
 |[],_,_,_,_=>by simp[mrg]
 |_::_,[],_,_,_=>by simp[mrg]
 |i::π,o::os,h,j,hj=>by
  simp only[List.mem_cons,not_or] at hj
  rw[mrg,zC π os _ j hj.2,List.getElem?_set_ne (Ne.symm hj.1)]
theorem Hl:∀(π:List Nat) (os h:List AO),π.Nodup->(∀i∈π,i<h.length)->∀(i:Nat) (o:AO),i<π.length->os[i]?=some o->(mrg h π os)[π.getD i 0]?=some o
 |[],_,_,_,_,i,o,hi,_=>by simp at hi
 |_::_,[],_,_,_,i,o,_,e=>by simp at e
 |p::π,q::os,h,nd,hb,i,o,hi,e=>by
  simp only[List.nodup_cons] at nd
  rw[mrg]
  cases i with
  |zero=>
   simp at e;subst e
   have hp:=hb p (by simp)
   simp only[List.getD_cons_zero]
   rw[zC π os _ p nd.1]
   simp[hp]
  |succ i=>
   simp only[List.getD_cons_succ]
   exact Hl π os _ nd.2 (λj hj=>by rw[List.length_set];exact hb j (by simp[hj])) i o (by simpa using hi) (by simpa using e)
theorem eW{σ:List Nat}{o:AO}(l:(eZ σ o).live):o.live:=by cases o<;>exact l
theorem AC.frame{f:FuncId}{args0 args:List AV}{h0 h:List AO}{R:ARes->List AO->Prop}(H:AC P G f args0 h0 R)(π:List Nat)(nd:π.Nodup)(hT:TW π args args0)(hW:HW π h π h0):
 AC P G f args h λx h'=>∃x0 h0',R x0 h0'/\h0.length<=h0'.length/\x=Cj (π++List.range' h.length (h0'.length-h0.length)) x0/\
  h'=mrg h π ((h0'.take h0.length).map (eZ (π++List.range' h.length (h0'.length-h0.length))))++(h0'.drop h0.length).map (eZ (π++List.range' h.length (h0'.length-h0.length))):=by
 obtain⟨t1,t2⟩:=Bu hT
 obtain⟨q1,q2,q3,q4,q5⟩:=tM hW
 refine⟨H.1,λW S φ vs hH hA=>?_⟩
 have hliv:∀{id},Live h0 id->Live h (π.getD id 0):=λ{id} ⟨o,e,l⟩=>by
  cases o with
  |dead=>exact l.elim
  |row sz es=>exact bh (q3 _ _ _ e).2
  |mp es=>exact oR (q4 _ _ e).2
  |sit t pos=>exact sL (q5 _ _ _ e)
 have hmem:∀{i},i<π.length->π.getD i 0∈π:=λ{i} hi=>by
  rw[List.getD_eq_getElem?_getD,List.getElem?_eq_getElem hi];exact List.getElem_mem hi
 have hinj:∀i j,i<π.length->j<π.length->π.getD i 0=π.getD j 0->i=j:=λi j hi hj e=>by
  rw[List.getD_eq_getElem?_getD,List.getD_eq_getElem?_getD,List.getElem?_eq_getElem hi,List.getElem?_eq_getElem hj] at e
  refine(List.getElem?_inj hi nd).1 ?_
  rw[List.getElem?_eq_getElem hi,List.getElem?_eq_getElem hj]
  exact congrArg some (by simpa using e)
 have hbnd:∀i∈π,i<h.length:=λi hi=>by
  obtain⟨j,hj⟩:=List.getElem?_of_mem hi
  have:=q2 j (List.getElem?_eq_some_iff.1 hj).1
  rwa[List.getD_eq_getElem?_getD,hj] at this
 have H0:HRel G W S (λi=>φ (π.getD i 0)) h0:=by
  refine⟨λid sz es hid=>?_,λid o hid lo=>?_,λid id' e1 e2 he=>?_,λb hb=>⟨(hH.sep b hb).1,λid hid he=>?_⟩,λid hid=>?_,hH.glob⟩
  ·obtain⟨b1,b2⟩:=q3 id sz es hid
   obtain⟨c,t,fr,a1,a2,a3,a4,a5⟩:=hH.obj _ _ _ b2
   refine⟨c,t,fr,a1,a2,λe he=>?_,by simpa using a4,λj u hj=>?_⟩
   ·have:=a3 (bn π e) (List.mem_map.2 ⟨e,he,rfl⟩)
    rwa[bA] at this
   ·have hr:(es.map (bn π)).flatten[j]?=some (ren π u):=by rw[eI,cX,hj];rfl
    obtain⟨c1,v,c2,c3⟩:=a5 j _ hr
    rw[nu] at c1
    exact⟨c1,v,c2,by rw[←q1];exact gh u (aY (ij _ b1) j u hj) c3⟩
  ·cases o with
   |dead=>trivial
   |row sz es=>trivial
   |sit t pos=>exact hH.oobj _ _ (q5 id t pos hid) trivial
   |mp es=>
    obtain⟨b1,b2⟩:=q4 id es hid
    obtain⟨ents,clock,a1,a2,a3,a4⟩:=hH.oobj _ _ b2 trivial
    refine⟨ents,clock,a1,by simpa using a2,λj k a hj=>?_,a4⟩
    obtain⟨e,c1,c2,c3⟩:=a3 j k (ren π a) (by rw[List.getElem?_map,hj];rfl)
    exact⟨e,c1,c2,by rw[←q1];exact gh a (b1 _ (List.mem_of_getElem? hj)) c3⟩
  ·exact hinj _ _ (by rw[q1];exact e1.lt) (by rw[q1];exact e2.lt) (hH.inj _ _ (hliv e1) (hliv e2) he)
  ·exact(hH.sep b hb).2 _ (hliv hid) he
  ·exact hH.bnd _ (q2 id (by rw[q1];exact hid))
 have hA0:kf W S (λi=>φ (π.getD i 0)) h0.length args0 vs:=⟨hA.1.trans t1,λj c v h1 h2=>by
  rcases t2 j c h1 with rfl|⟨b1,b2⟩
  ·exact .any _
  ·rw[←q1];exact gh c b1 (hA.2 j _ v b2 h2)⟩
 refine(H.2 W S _ vs H0 hA0).mono λe W' ⟨x,S',φ',h',k1,k2,k3,k4⟩=>?_
 have hle:=k4.len
 have hkl:π.length=h0.length:=q1
 let σ:List Nat:=π++List.range' h.length (h'.length-h0.length)
 let ψ:Place:=λj=>if j<h.length then φ j else φ' (h0.length+(j-h.length))
 have hψ1:∀{j},j<h.length->ψ j=φ j:=λ{j} hj=>by show(if j<h.length then φ j else _)=_;rw[if_pos hj]
 have hψ2:∀j,ψ (h.length+j)=φ' (h0.length+j):=λj=>by show(if h.length+j<h.length then φ _ else φ' _)=_;rw[if_neg (by omega)];congr 1;omega
 have hσ1:∀i,i<h0.length->σ.getD i 0=π.getD i 0:=λi hi=>by
  show(π++_).getD i 0=_
  rw[List.getD_eq_getElem?_getD,List.getD_eq_getElem?_getD,List.getElem?_append_left (by omega)]
 have hσ2:∀i,i<h'.length-h0.length->σ.getD (h0.length+i) 0=h.length+i:=λi hi=>by
  show(π++List.range' h.length (h'.length-h0.length)).getD _ 0=_
  rw[List.getD_eq_getElem?_getD,List.getElem?_append_right (by omega),show h0.length+i-π.length=i by omega]
  simp[hi]
 let hm:List AO:=mrg h π ((h'.take h0.length).map (eZ σ))++(h'.drop h0.length).map (eZ σ)
 have hml:hm.length=h.length+(h'.length-h0.length):=by simp[hm,oc]
 have hσ:∀i,i<h'.length->σ.getD i 0<hm.length/\ψ (σ.getD i 0)=φ' i:=λi hi=>by
  rcases Nat.lt_or_ge i h0.length with h1|h1
  ·have:=q2 i (by omega)
   rw[hσ1 i h1]
   exact⟨by omega,by rw[hψ1 this];exact(k4.same i h1).symm⟩
  ·obtain⟨j,rfl⟩:∃j,i=h0.length+j:=⟨i-h0.length,by omega⟩
   rw[hσ2 j (by omega)]
   exact⟨by omega,hψ2 j⟩
 have hget:∀{j o},hm[j]?=some o->(∃i o',i<h'.length/\σ.getD i 0=j/\h'[i]?=some o'/\o=eZ σ o')\/(j<h.length/\j∉π/\h[j]?=some o):=λ{j o} e=>by
  rcases Nat.lt_or_ge j h.length with hj|hj
  ·have e':(mrg h π ((h'.take h0.length).map (eZ σ)))[j]?=some o:=by rw[←e];exact(List.getElem?_append_left (by rw[oc];exact hj)).symm
   by_cases hp:j∈π
   ·left
    obtain⟨i,hi⟩:=List.getElem?_of_mem hp
    have hil:=(List.getElem?_eq_some_iff.1 hi).1
    have hig:π.getD i 0=j:=by rw[List.getD_eq_getElem?_getD,hi];rfl
    have hih:i<h'.length:=by omega
    have hio:h'[i]?=some h'[i]:=List.getElem?_eq_getElem hih
    have:=Hl π ((h'.take h0.length).map (eZ σ)) h nd hbnd i (eZ σ h'[i]) hil (by rw[List.getElem?_map,List.getElem?_take_of_lt (by omega),hio];rfl)
    rw[hig,e'] at this
    exact⟨i,h'[i],hih,by rw[hσ1 i (by omega),hig],hio,Option.some.inj this⟩
   ·exact .inr ⟨hj,hp,by rw[←e',zC _ _ _ _ hp]⟩
  ·left
   have e':((h'.drop h0.length).map (eZ σ))[j-h.length]?=some o:=by
    rw[←e]
    show _=(mrg h π _++_)[j]?
    rw[List.getElem?_append_right (by rw[oc];exact hj),oc]
   rw[List.getElem?_map,Option.map_eq_some_iff] at e'
   obtain⟨o',e1,e2⟩:=e'
   rw[List.getElem?_drop] at e1
   have hl:=(List.getElem?_eq_some_iff.1 e1).1
   exact⟨h0.length+(j-h.length),o',hl,by rw[hσ2 _ (by omega)];omega,e1,e2.symm⟩
 have hout:∀{j},j<h.length->j∉π->Live h j->W'.heap[(φ j).1]?=W.heap[(φ j).1]?:=λ{j} hj hp lj=>k4.out _ (hH.bnd j hj) λid hid he=>by
  have:=hH.inj _ _ (hliv hid) lj he
  exact hp (this▸hmem (by rw[q1];exact hid.lt))
 have hnew:∀b,S' b->S b\/W.heap.size<=b\/∃i,Live h0 i/\(φ (π.getD i 0)).1=b:=λb hb=>k4.newS b hb
 have K:Keep W S φ h W' S' ψ hm:=
  {pure:=k4.pure,len:=by omega,same:=λ_ hid=>hψ1 hid
   blk:=λid hid c t fr e=>by
    by_cases hx:∃i,Live h0 i/\(φ (π.getD i 0)).1=(φ id).1
    ·obtain⟨i,li,ei⟩:=hx
     have:=k4.blk i li.lt c t fr (by rw[ei];exact e)
     rwa[ei] at this
    ·rw[k4.out _ (hH.bnd id hid) λi li ei=>hx ⟨i,li,ei⟩] at e
     exact⟨c,t,fr,e,rfl⟩
   os:=k4.os,tape:=k4.tape,output:=k4.output,size:=k4.size
   out:=λb hb hn=>k4.out b hb λi li=>hn _ (hliv li)
   img:=λid ⟨o,e,l⟩=>by
    rcases hget e with⟨i,o',hi,rfl,e',rfl⟩|⟨hj,_,e'⟩
    ·rw[(hσ i hi).2]
     rcases k4.img i ⟨_,e',eW l⟩ with h2|⟨id2,h2,h3⟩
     ·exact .inl h2
     ·exact .inr ⟨_,hliv h2,h3⟩
    ·exact .inr ⟨id,⟨_,e',l⟩,by rw[hψ1 hj]⟩
   newS:=λb hb=>by
    rcases hnew b hb with h2|h2|⟨i,h2,h3⟩
    ·exact .inl h2
    ·exact .inr (.inl h2)
    ·exact .inr (.inr ⟨_,hliv h2,h3⟩)}
 refine⟨Cj σ x,S',ψ,hm,⟨x,h',k1,hle,rfl,rfl⟩,⟨λid sz es e=>?_,λid o1 e lo=>?_,λid id' ⟨o1,e1,l1⟩ ⟨o2,e2,l2⟩ he=>?_,λb hb=>⟨(k2.sep b hb).1,λid ⟨o1,e,l1⟩ he=>?_⟩,λid hid=>?_,k2.glob⟩,?_,K⟩
 ·rcases hget e with⟨i,o',hi,rfl,e',eo⟩|⟨hj,hp,e'⟩
  ·obtain⟨es',rfl,rfl⟩:∃es',o'= .row sz es'/\es=es'.map (bn σ):=by cases o'<;>cases eo;exact⟨_,rfl,rfl⟩
   obtain⟨c,t,fr,a1,a2,a3,a4,a5⟩:=k2.obj i sz es' e'
   refine⟨c,t,fr,by rw[(hσ i hi).2];exact a1,a2,λe he=>?_,by rw[(hσ i hi).2];simpa using a4,λj u hj=>?_⟩
   ·obtain⟨e0,he0,rfl⟩:=List.mem_map.1 he
    rw[bA];exact a3 e0 he0
   ·rw[eI,cX,Option.map_eq_some_iff] at hj
    obtain⟨u0,hj,rfl⟩:=hj
    obtain⟨b1,v,b2,b3⟩:=a5 j u0 hj
    exact⟨by rw[nu];exact b1,v,by rw[(hσ i hi).2];exact b2,Cx hσ b3⟩
  ·obtain⟨c,t,fr,a1,a2,a3,a4,a5⟩:=hH.obj id sz es e'
   refine⟨c,t,fr,by rw[hψ1 hj,hout hj hp (bh e')];exact a1,a2,a3,by rw[hψ1 hj];exact a4,λj u hj2=>?_⟩
   obtain⟨b1,v,b2,b3⟩:=a5 j u hj2
   exact⟨b1,v,by rw[hψ1 hj];exact b2,b3.kept K.toKept⟩
 ·rcases hget e with⟨i,o',hi,rfl,e',rfl⟩|⟨hj,hp,e'⟩
  ·rw[(hσ i hi).2]
   have hq:=k2.oobj i o' e' (eW lo)
   cases o' with
   |dead=>trivial
   |row sz es=>trivial
   |sit t pos=>exact hq
   |mp es'=>
    obtain⟨ents,clock,a1,a2,a3,a4⟩:=hq
    refine⟨ents,clock,a1,by simpa using a2,λj k a hj=>?_,a4⟩
    rw[List.getElem?_map,Option.map_eq_some_iff] at hj
    obtain⟨⟨k0,a0⟩,hj,hk⟩:=hj
    cases hk
    obtain⟨x,c1,c2,c3⟩:=a3 j _ _ hj
    exact⟨x,c1,c2,Cx hσ c3⟩
  ·rw[hψ1 hj,hout hj hp ⟨_,e',lo⟩]
   exact(hH.oobj id o1 e' lo).mono λa v r=>r.kept K.toKept
 ·rcases hget e1 with⟨i,o',hi,rfl,e1',rfl⟩|⟨hj,hp,e1'⟩<;>rcases hget e2 with⟨i',o'',hi',rfl,e2',rfl⟩|⟨hj',hp',e2'⟩
  ·rw[(hσ i hi).2,(hσ i' hi').2] at he
   rw[k2.inj _ _ ⟨_,e1',eW l1⟩ ⟨_,e2',eW l2⟩ he]
  ·rw[(hσ i hi).2,hψ1 hj'] at he
   rcases k4.img i ⟨_,e1',eW l1⟩ with h2|⟨id2,h2,h3⟩
   ·have:=hH.bnd _ hj'
    omega
   ·have:=hH.inj _ _ (hliv h2) ⟨_,e2',l2⟩ (h3.trans he)
    exact(hp' (this▸hmem (by rw[q1];exact h2.lt))).elim
  ·rw[(hσ i' hi').2,hψ1 hj] at he
   rcases k4.img i' ⟨_,e2',eW l2⟩ with h2|⟨id2,h2,h3⟩
   ·have:=hH.bnd _ hj
    omega
   ·have:=hH.inj _ _ (hliv h2) ⟨_,e1',l1⟩ (h3.trans he.symm)
    exact(hp (this▸hmem (by rw[q1];exact h2.lt))).elim
  ·rw[hψ1 hj,hψ1 hj'] at he;exact hH.inj _ _ ⟨_,e1',l1⟩ ⟨_,e2',l2⟩ he
 ·rcases hget e with⟨i,o',hi,rfl,e',rfl⟩|⟨hj,hp,e'⟩
  ·rw[(hσ i hi).2] at he
   exact(k2.sep b hb).2 _ ⟨_,e',eW l1⟩ he
  ·rw[hψ1 hj] at he
   rcases hnew b hb with h2|h2|⟨i,h2,h3⟩
   ·exact(hH.sep b h2).2 _ ⟨_,e',l1⟩ he
   ·have:=hH.bnd id hj
    omega
   ·have:=hH.inj _ _ (hliv h2) ⟨_,e',l1⟩ (h3.trans he.symm)
    exact hp (this▸hmem (by rw[q1];exact h2.lt))
 ·rcases Nat.lt_or_ge id h.length with hi|hi
  ·rw[hψ1 hi];exact Nat.lt_of_lt_of_le (hH.bnd id hi) k4.size
  ·obtain⟨k,rfl⟩:∃k,id=h.length+k:=⟨id-h.length,by omega⟩
   rw[hψ2]
   exact k2.bnd _ (by omega)
 ·cases k3 with
  |ret _ x hv=>exact .ret _ _ (Cx hσ hv)
  |pan t v x hp=>exact .pan t v x hp
inductive Fzs (hF:List AO) (n:Nat):List AV->List AV->Prop where
 |nil:Fzs hF n [] []
 |one {a:AV} {q:PV} {l l':List AV}:View hF a q->Fzs hF n l l'->Fzs hF n (a::l) (.p q::l')
 |agg {cs cs' l l':List AV}:Fzs hF n cs cs'->Fzs hF n l l'->Fzs hF n (.agg cs::l) (.agg cs'::l')
 |tup {cs cs' l l':List AV}:Fzs hF n cs cs'->Fzs hF n l l'->Fzs hF n (.tup cs::l) (.tup cs'::l')
 |keep {a:AV} {l l':List AV}:below n a->Fzs hF n l l'->Fzs hF n (a::l) (a::l')
 |ptr {id esz i off:Nat} {es:List (List AV)} {e:List PV} {l l':List AV}:hF[id]?=some (.row esz es)->es[i]?=some (e.map .p)->Fzs hF n l l'->Fzs hF n (.ptr id esz i off::l) (.eptr e off::l')
theorem Fzs.len{hF:List AO}{n:Nat}:∀{l l':List AV},Fzs hF n l l'->l.length=l'.length
 |_,_,.nil=>rfl
 |_,_,.one _ r=>by simp[r.len]
 |_,_,.agg _ r=>by simp[r.len]
 |_,_,.tup _ r=>by simp[r.len]
 |_,_,.keep _ r=>by simp[r.len]
 |_,_,.ptr _ _ r=>by simp[r.len]
theorem Fzs.append{hF:List AO}{n:Nat}:∀{l l' m m':List AV},Fzs hF n l l'->Fzs hF n m m'->Fzs hF n (l++m) (l'++m')
 |_,_,_,_,.nil,h=>h
 |_,_,_,_,.one v r,h=> .one v (r.append h)
 |_,_,_,_,.agg v r,h=> .agg v (r.append h)
 |_,_,_,_,.tup v r,h=> .tup v (r.append h)
 |_,_,_,_,.keep v r,h=> .keep v (r.append h)
 |_,_,_,_,.ptr a b r,h=> .ptr a b (r.append h)
theorem tk{W:World}{S S':Nat->Prop}{φ:Place}{n m:Nat}(hS:∀b,S b->S' b){v:AV}(hb:below m v){x:Value}(h:VRel W S φ n v x):VRel W S' φ m v x:=by
 induction h with
 |p v x hp=>exact .p _ _ (hp.mono λb hb=>⟨hS b hb,rfl⟩)
 |agg cs vs hs _ ih=>exact .agg cs vs hs λj c y h1 h2=>ih j c y h1 h2 (aY (by simpa[below] using hb) j c h1)
 |tup cs vs hs _ ih=>exact .tup cs vs hs λj c y h1 h2=>ih j c y h1 h2 (aY (by simpa[below] using hb) j c h1)
 |ptr id e i o _=>exact .ptr id e i o hb
 |sl id e o l cap ba _ h1 h2 h3=>exact .sl id e o l cap ba hb h1 h2 h3
 |mp id _=>exact .mp id hb
 |it id _=>exact .it id hb
 |eptr e off b o hb' hc=>
  exact .eptr e off b o (hS b hb') λj c hj=>by
   obtain⟨v,h1,h2⟩:=hc j c hj
   exact⟨v,h1,h2.mono λb hb=>⟨hS b hb,rfl⟩⟩
 |gp g off=>exact .gp g off
 |fn f caps vs hs _ ih=>exact .fn f caps vs hs λj c y h1 h2=>ih j c y h1 h2 (aY (by simpa[below] using hb) j c h1)
 |nils=>exact .nils
 |nilp=>exact .nilp
 |nilf=>exact .nilf
 |nilm=>exact .nilm
 |nili=>exact .nili
 |ifc t pv x hp=>exact .ifc _ _ _ (hp.mono λb hb=>⟨hS b hb,rfl⟩)
 |any x=>exact .any x
theorem Fzs.rel{W:World}{S:Nat->Prop}{φ:Place}{hF:List AO}{n:Nat}(H:HRel G W S φ hF):∀{l l':List AV},Fzs hF n l l'->∀(j:Nat) (c c':AV) (x:Value),l[j]?=some c->l'[j]?=some c'->VRel W S φ hF.length c x->VRel W (λb=>S b\/eQ φ hF b) φ n c' x/\(c.isCell=true->c'.isCell=true)
 |_,_,.nil,j,c,c',x,h1,_,_=>by simp at h1
 |_,_,.one hv r,j,c,c',x,h1,h2,hx=>by
  cases j with
  |zero=>simp at h1 h2;subst h1;subst h2;exact⟨.p _ _ (hv.prel H hx),λ_=>rfl⟩
  |succ j=>exact r.rel H j c c' x (by simpa using h1) (by simpa using h2) hx
 |_,_,.agg (cs:=cs0) hv r,j,c,c',x,h1,h2,hx=>by
  cases j with
  |zero=>
   simp at h1 h2;subst h1;subst h2
   cases hx with
   |agg cs vs hs hc=>
    refine⟨.agg _ vs (hs.trans hv.len) λi u y e1 e2=>?_,λh=>by cases h⟩
    obtain⟨u0,e0⟩:∃u0,cs0[i]?=some u0:=⟨_,List.getElem?_eq_getElem (by rw[hv.len];exact(List.getElem?_eq_some_iff.1 e1).1)⟩
    exact(hv.rel H i u0 u y e0 e1 (hc i u0 y e0 e2)).1
  |succ j=>exact r.rel H j c c' x (by simpa using h1) (by simpa using h2) hx
 |_,_,.tup (cs:=cs0) hv r,j,c,c',x,h1,h2,hx=>by
  cases j with
  |zero=>
   simp at h1 h2;subst h1;subst h2
   cases hx with
   |tup cs vs hs hc=>
    refine⟨.tup _ vs (hs.trans hv.len) λi u y e1 e2=>?_,λh=>by cases h⟩
    obtain⟨u0,e0⟩:∃u0,cs0[i]?=some u0:=⟨_,List.getElem?_eq_getElem (by rw[hv.len];exact(List.getElem?_eq_some_iff.1 e1).1)⟩
    exact(hv.rel H i u0 u y e0 e1 (hc i u0 y e0 e2)).1
  |succ j=>exact r.rel H j c c' x (by simpa using h1) (by simpa using h2) hx
 |_,_,.keep hb r,j,c,c',x,h1,h2,hx=>by
  cases j with
  |zero=>simp at h1 h2;subst h1;subst h2;exact⟨tk (λb hb=> .inl hb) hb hx,id⟩
  |succ j=>exact r.rel H j c c' x (by simpa using h1) (by simpa using h2) hx
 |_,_,.ptr (id:=pid) (esz:=esz) (i:=i) (off:=off) (es:=es) (e:=e) he hi r,j,c,c',x,h1,h2,hx=>by
  cases j with
  |zero=>
   simp at h1 h2;subst h1;subst h2
   refine⟨?_,λ_=>rfl⟩
   cases hx with
   |ptr _ _ _ _ hid=>
    obtain⟨ct,t,fr,a1,a2,a3,a4,a5⟩:=H.obj pid esz es he
    have hv:=VRel.eptr (W:=W) (S:=λb=>S b\/eQ φ hF b) (φ:=φ) (n:=n) e off (φ pid).1 ((φ pid).2+i*esz) (.inr ⟨pid,bh he,rfl⟩) (λj q hq=>by
     have hle:(e.map AV.p).length=esz:=a3 _ (List.mem_of_getElem? hi)
     have hj:j<esz:=by
      have:=(List.getElem?_eq_some_iff.1 hq).1
      rw[List.length_map] at hle
      omega
     have hfl:es.flatten[i*esz+j]?=some (.p q):=by
      rw[bk a3 _ _ hj,hi];simp[hq]
     obtain⟨_,v,hv1,hv2⟩:=a5 _ _ hfl
     refine⟨v,?_,?_⟩
     ·simp only[World.cell?,a1]
      rw[Nat.add_assoc]
      simp[hv1]
     ·cases hv2 with
      |p _ _ hp=>exact hp.mono λb hb=>⟨.inl hb,rfl⟩)
    rw[Nat.add_assoc] at hv
    exact hv
  |succ j=>exact r.rel H j c c' x (by simpa using h1) (by simpa using h2) hx
inductive FzO (hF:List AO) (n:Nat):List AO->List AO->Prop where
 |nil (r:List AO):FzO hF n r []
 |same {o:AO} {r r1:List AO}:okO n o->FzO hF n r r1->FzO hF n (o::r) (o::r1)
 |one {sz:Nat} {e e1:List AV} {r r1:List AO}:Fzs hF n e e1->FzO hF n r r1->FzO hF n (.row sz [e]::r) (.row sz [e1]::r1)
 |rows {sz:Nat} {es es1:List (List AV)} {r r1:List AO}:es.length=es1.length->(∀(j:Nat) (e e1:List AV),es[j]?=some e->es1[j]?=some e1->Fzs hF n e e1)->FzO hF n r r1->FzO hF n (.row sz es::r) (.row sz es1::r1)
 |dead {o:AO} {r r1:List AO}:FzO hF n r r1->FzO hF n (o::r) (.dead::r1)
def FzI(hF:List AO)(n:Nat)(h:List AO)(i:Nat):AO->Prop
 | .row sz es1=>∃es,h[i]?=some (.row sz es)/\es.length=es1.length/\∀(j:Nat) (e e1:List AV),es[j]?=some e->es1[j]?=some e1->Fzs hF n e e1
 | .mp es=>h[i]?=some (.mp es)/\∀e∈es,below n e.2
 | .sit s p=>h[i]?=some (.sit s p)
 | .dead=>True
theorem lM{hF:List AO}{n:Nat}:∀{l:List AV},aA n l->Fzs hF n l l
 |[],_=> .nil
 |_::_,h=> .keep h.1 (lM h.2)
theorem FzO.get{hF:List AO}{n:Nat}:∀{h h1:List AO},FzO hF n h h1->∀(i:Nat) (o:AO),h1[i]?=some o->FzI hF n h i o
 |_,_,.nil _,i,o,e=>by simp at e
 |_,_,.same (o:=o0) ho r,i,o,e=>by
  cases i with
  |zero=>
   simp at e;subst e
   cases o0 with
   |dead=>trivial
   |row sz es=>exact⟨es,rfl,rfl,λj e e1 h1 h2=>by rw[h1] at h2;cases h2;exact lM (ho e (List.mem_of_getElem? h1))⟩
   |mp es=>exact⟨rfl,ho⟩
   |sit s p=>exact rfl
  |succ i=>
   have:=r.get i o (by simpa using e)
   cases o<;>exact this
 |_,_,.one (e:=e0) (e1:=e01) hv r,i,o,e=>by
  cases i with
  |zero=>
   simp at e;subst e
   refine⟨_,rfl,rfl,λj e e1 h1 h2=>?_⟩
   cases j with
   |zero=>simp at h1 h2;subst h1;subst h2;exact hv
   |succ j=>simp at h1
  |succ i=>
   have:=r.get i o (by simpa using e)
   cases o<;>exact this
 |_,_,.rows hl hv r,i,o,e=>by
  cases i with
  |zero=>simp at e;subst e;exact⟨_,rfl,hl,hv⟩
  |succ i=>
   have:=r.get i o (by simpa using e)
   cases o<;>exact this
 |_,_,.dead r,i,o,e=>by
  cases i with
  |zero=>simp at e;subst e;trivial
  |succ i=>
   have:=r.get i o (by simpa using e)
   cases o<;>exact this
theorem rC{hF:List AO}{n:Nat}:∀{es es1:List (List AV)},es.length=es1.length->(∀(j:Nat) (e e1:List AV),es[j]?=some e->es1[j]?=some e1->Fzs hF n e e1)->Fzs hF n es.flatten es1.flatten
 |[],[],_,_=> .nil
 |e::r,e1::r1,hl,h=>by
  simp only[List.flatten_cons]
  exact(h 0 e e1 rfl rfl).append (rC (by simpa using hl) λj a b ha hb=>h (j+1) a b (by simpa using ha) (by simpa using hb))
 |[],_::_,hl,_=>by simp at hl
 |_::_,[],hl,_=>by simp at hl
def jc(n:Nat)(h:List AO):List AO:=List.replicate n .dead++h.drop n
theorem Gv{k n:Nat}{ts ts1:List AV}{h h1:List AO}(hk:k<=n)(hnl:n<=h.length)(hl:h1.length=n)(htl:ts.length=ts1.length)
 (hT:∀(i:Nat) (v1:AV),ts1[i]?=some v1->v1= .any\/∃v,ts[i]?=some v/\Fzs (jc n h) n [v] [v1])(ho:FzO (jc n h) n h h1):Wk k ts h ts1 h1:=by
 intro G W0 S0 φ0 h0 W S φ a ek s
 subst ek
 have k2:=s.hrel
 have k4:=s.keep
 have htn:(jc n h).length=h.length:=by simp[jc];omega
 have htg:∀{id o},(jc n h)[id]?=some o->o.live->n<=id/\h[id]?=some o:=λ{id o} e l=>by
  rcases Nat.lt_or_ge id n with hi|hi
  ·rw[jc,List.getElem?_append_left (by simpa using hi),List.getElem?_replicate,if_pos hi] at e
   cases e;exact l.elim
  ·rw[jc,List.getElem?_append_right (by simpa using hi),List.length_replicate,List.getElem?_drop,show n+(id-n)=id by omega] at e
   exact⟨hi,e⟩
 have HF:HRel G W S φ (jc n h):=by
  refine⟨λid sz es e=>?_,λid o e lo=>?_,λid id' ⟨o1,e1,l1⟩ ⟨o2,e2,l2⟩ he=>k2.inj _ _ ⟨_,(htg e1 l1).2,l1⟩ ⟨_,(htg e2 l2).2,l2⟩ he,λb hb=>⟨(k2.sep b hb).1,λid ⟨o1,e,l1⟩ he=>(k2.sep b hb).2 id ⟨_,(htg e l1).2,l1⟩ he⟩,λid hid=>k2.bnd id (by rwa[htn] at hid),k2.glob⟩
  ·rw[htn];exact k2.obj id sz es (htg e trivial).2
  ·rw[htn];exact k2.oobj id o (htg e lo).2 lo
 have hg:∀{i o},h1[i]?=some o->o.live->i<n/\Live h i:=λ{i o} e l=>by
  refine⟨by rw[←hl];exact(List.getElem?_eq_some_iff.1 e).1,?_⟩
  have:=ho.get i o e
  cases o with
  |dead=>exact l.elim
  |row sz es=>obtain⟨es',e',_⟩:=this;exact bh e'
  |mp es=>exact oR this.1
  |sit s p=>exact sL this
 refine⟨(λb=>S b\/eQ φ (jc n h) b),φ,⟨⟨λid sz es e=>?_,λid o e lo=>?_,λid id' ⟨o1,e1,l1⟩ ⟨o2,e2,l2⟩ he=>k2.inj _ _ (hg e1 l1).2 (hg e2 l2).2 he,λb hb=>⟨?_,λid ⟨o1,e,l1⟩ he=>?_⟩,λid hid=>k2.bnd id (by omega),λg cs hgl=>?_⟩,⟨s.trel.size.trans htl,λi v hi=>?_⟩,s.defers,?_⟩⟩
 ·obtain⟨es',e',hel,hef⟩:=ho.get id _ e
  obtain⟨c,t,fr,a1,a2,a3,a4,a5⟩:=k2.obj id sz es' e'
  have hall:=rC hel hef
  refine⟨c,t,fr,a1,a2,λx hx=>?_,by rw[←hel];exact a4,λj u hj=>?_⟩
  ·obtain⟨j,hj⟩:=List.getElem?_of_mem hx
   obtain⟨y,hy⟩:∃y,es'[j]?=some y:=⟨_,List.getElem?_eq_getElem (by rw[hel];exact(List.getElem?_eq_some_iff.1 hj).1)⟩
   rw[←(hef j y x hy hj).len];exact a3 y (List.mem_of_getElem? hy)
  ·obtain⟨u0,hu0⟩:∃u0,es'.flatten[j]?=some u0:=⟨_,List.getElem?_eq_getElem (by rw[hall.len];exact(List.getElem?_eq_some_iff.1 hj).1)⟩
   obtain⟨b1,v,b2,b3⟩:=a5 j u0 hu0
   obtain⟨c1,c2⟩:=hall.rel HF j u0 u v hu0 hj (by rw[htn];exact b3)
   exact⟨c2 b1,v,b2,by rw[hl];exact c1⟩
 ·have hi:=ho.get id o e
  cases o with
  |dead=>trivial
  |row sz es=>trivial
  |sit s p=>exact k2.oobj id _ hi trivial
  |mp es=>
   obtain⟨ents,clock,a1,a2,a3,a4⟩:=k2.oobj id _ hi.1 trivial
   refine⟨ents,clock,a1,a2,λj k a hj=>?_,a4⟩
   obtain⟨x,c1,c2,c3⟩:=a3 j k a hj
   exact⟨x,c1,c2,by rw[hl];exact tk (λb hb=> .inl hb) (hi.2 _ (List.mem_of_getElem? hj)) c3⟩
 ·rcases hb with hb|⟨id,⟨o,e,l⟩,he⟩
  ·exact(k2.sep b hb).1
  ·rw[←he];exact k2.bnd id (by rw[←htn];exact(List.getElem?_eq_some_iff.1 e).1)
 ·obtain⟨g1,g2⟩:=hg e l1
  rcases hb with hb|⟨id2,⟨o,e2,l⟩,he2⟩
  ·exact(k2.sep b hb).2 id g2 he
  ·obtain⟨g3,g4⟩:=htg e2 l
   have:=k2.inj _ _ g2 ⟨_,g4,l⟩ (he.trans he2.symm)
   omega
 ·obtain⟨g1,g2⟩:=k2.glob g cs hgl
  exact⟨.inl g1,λj c hj=>by obtain⟨v,q1,q2⟩:=g2 j c hj;exact⟨v,q1,q2.mono λb hb=>⟨.inl hb,rfl⟩⟩⟩
 ·rcases hT i v hi with rfl|⟨v0,e0,hv⟩
  ·exact .any _
  ·rw[hl]
   exact(hv.rel HF 0 v0 v _ rfl rfl (by rw[htn];exact s.trel.get i _ e0)).1
 ·exact{pure:=λb hb=>⟨.inl (k4.pure b hb).1,(k4.pure b hb).2⟩,len:=by omega,same:=k4.same
        blk:=k4.blk,os:=k4.os,tape:=k4.tape,output:=k4.output,size:=k4.size,out:=k4.out
        img:=λid ⟨o,e,l⟩=>k4.img id (hg e l).2
        newS:=λb hb=>by
         rcases hb with hb|⟨id,⟨o,e,l⟩,he⟩
         ·exact k4.newS b hb
         ·rcases k4.img id ⟨_,(htg e l).2,l⟩ with h2|⟨id2,h2,h3⟩
          ·exact .inr (.inl (by rw[←he];exact h2))
          ·exact .inr (.inr ⟨id2,h2,by rw[h3,he]⟩)}
theorem AC.wk{f:FuncId}{args:List AV}{h:List AO}{R R':ARes->List AO->Prop}(H:AC P G f args h R)(hp:∀t v h',R (.pan t v) h'->R' (.pan t v) h')
 (hw:∀v h',R (.ret v) h'->∃v1 h1,Wk h.length [v] h' [v1] h1/\R' (.ret v1) h1):AC P G f args h R':=by
 refine⟨H.1,λW S φ vs hH hA=>(H.2 W S φ vs hH hA).mono λe W' ⟨r,S',φ',h',k1,k2,k3,k4⟩=>?_⟩
 cases r with
 |pan t v=>exact⟨_,S',φ',h',hp t v h' k1,k2,k3,k4⟩
 |ret v=>
  cases k3 with
  |ret _ x hv=>
   obtain⟨v1,h1,w,hr⟩:=hw v h' k1
   have s:St G W S φ h W' S' φ' {tmps:=#[x],defers:=[]} [v] h':=⟨k2,⟨rfl,λi u hi=>by
    cases i with
    |zero=>simp at hi;subst hi;exact hv
    |succ i=>simp at hi⟩,rfl,k4⟩
   obtain⟨S1,φ1,s1⟩:=w G W S φ h W' S' φ' _ rfl s
   exact⟨.ret v1,S1,φ1,h1,hr,s1.hrel,.ret _ _ (s1.trel.get 0 v1 rfl),s1.keep⟩
theorem AC.frz{f:FuncId}{args:List AV}{h:List AO}{R R':ARes->List AO->Prop}(H:AC P G f args h R)(n:Nat)(hn:h.length<=n)(hp:∀t v h',R (.pan t v) h'->R' (.pan t v) h')
 (hw:∀v h',R (.ret v) h'->∃v1 h1,n<=h'.length/\h1.length=n/\Fzs (jc n h') n [v] [v1]/\FzO (jc n h') n h' h1/\R' (.ret v1) h1):AC P G f args h R':=
 H.wk hp λv h' r=>by
  obtain⟨v1,h1,a1,a2,a3,a4,a5⟩:=hw v h' r
  exact⟨v1,h1,Gv hn a1 a2 rfl (λi u hi=>by
   cases i with
   |zero=>simp at hi;subst hi;exact .inr ⟨v,rfl,a3⟩
   |succ i=>simp at hi) a4,a5⟩
def FzA(hF:List AO)(m:Nat)(l:List (Nat × AV)):List (Nat × AV)->Prop
 |[]=>True
 |x::r=>Fzs hF m [look l x.1] [x.2]/\FzA hF m l r
theorem Dh{hF:List AO}{m:Nat}{l:List (Nat × AV)}:∀{l1:List (Nat × AV)},FzA hF m l l1->∀i,look l1 i= .any\/Fzs hF m [look l i] [look l1 i]
 |[],_,i=> .inl rfl
 |x::r,h,i=>by
  simp only[look]
  split
  ·rename_i e;subst e;exact .inr h.1
  ·exact Dh h.2 i
theorem lX(m:Nat){k n:Nat}{l l1:List (Nat × AV)}{h h1:List AO}(hk:k<=m)(hm:m<=h.length)(hl:h1.length=m)(ho:FzO (jc m h) m h h1)(H:FzA (jc m h) m l l1):Wk k (aw n l) h (aw n l1) h1:=
 Gv hk hm hl (by simp[aw]) (λi v1 hi=>by
  have hin:i<n:=by
   have:=(List.getElem?_eq_some_iff.1 hi).1
   simpa[aw] using this
  rw[eO hin] at hi
  cases hi
  rcases Dh H i with e|e
  ·exact .inl e
  ·exact .inr ⟨_,eO hin,e⟩) ho
end Go.Aw
namespace Go.Aw
variable {P:Program} {G:az}
theorem ka{σ:List Nat}{n:Nat}(hσ:∀i,i<n->σ.getD i 0=i):∀v:AV,below n v->ren σ v=v:=by
 have key:∀(s:Nat),(∀v:AV,SizeOf.sizeOf v<s->below n v->ren σ v=v)/\(∀l:List AV,SizeOf.sizeOf l<s->aA n l->bn σ l=l):=by
  intro s
  induction s with
  |zero=>exact⟨λv h=>by omega,λl h=>by omega⟩
  |succ s ih=>
   refine⟨λv hs hb=>?_,λl hs hb=>?_⟩
   ·cases v<;>simp only[ren,below] at hb⊢ <;>first
     |rfl
     |(rw[ih.2 _ (by simp at hs;omega) hb])
     |(rw[hσ _ hb])
   ·cases l with
    |nil=>rfl
    |cons v r=>
     simp only[bn];rw[ih.1 v (by simp at hs;omega) hb.1,ih.2 r (by simp at hs;omega) hb.2]
 exact λv=>(key _).1 v (Nat.lt_succ_self _)
theorem oT{σ:List Nat}{n:Nat}(hσ:∀i,i<n->σ.getD i 0=i):∀l:List AV,aA n l->bn σ l=l
 |[],_=>rfl
 |v::r,h=>by simp only[bn];rw[ka hσ v h.1,oT hσ r h.2]
theorem oG{σ:List Nat}{n:Nat}(hσ:∀i,i<n->σ.getD i 0=i):∀o:AO,okO n o->eZ σ o=o
 | .row sz es,h=>by
   simp only[eZ];rw[List.map_congr_left (g:=id) λe he=>oT hσ e (h e he)];simp
 | .mp es,h=>by
   simp only[eZ];rw[List.map_congr_left (g:=id) λe he=>by rw[ka hσ e.2 (h e he)];rfl];simp
 | .sit s p,_=>rfl
 | .dead,_=>rfl
theorem AC.known{f:FuncId}{args:List AV}{h:List AO}{R:ARes->List AO->Prop}(H:AC P G f args h R):AC P G f args h λx h'=>R x h'/\HB h'/\(∀v,x= .ret v->below h'.length v)/\h.length<=h'.length:=
 ⟨H.1,λW S φ vs a b=>(H.2 W S φ vs a b).mono λ_ _ ⟨r,S',φ',h',k1,k2,k3,k4⟩=>⟨r,S',φ',h',⟨k1,k2.hb,λv e=>by
   subst e
   cases k3 with
   |ret _ x hv=>exact hv.isBelow,k4.len⟩,k2,k3,k4⟩⟩
theorem zB:∀(a b rest:List AO) (n:Nat),b.length=a.length->∀pre:List AO,pre.length=n->mrg (pre++a++rest) (List.range' n a.length) b=pre++b++rest
 |[],[],rest,n,_,pre,_=>by simp[mrg]
 |x::a,y::b,rest,n,hl,pre,hp=>by
  simp only[List.length_cons,List.range'_succ,mrg]
  have e:(pre++x::a++rest).set n y=(pre++[y])++a++rest:=by
   subst hp
   rw[List.append_assoc,List.set_append_right _ _ (Nat.le_refl _),Nat.sub_self];simp
  rw[e,zB a b rest (n+1) (by simpa using hl) (pre++[y]) (by simp[hp])]
  simp
 |[],_::_,_,_,hl,_,_=>by simp at hl
 |_::_,[],_,_,hl,_,_=>by simp at hl
theorem JO{n:Nat}{h0 rest:List AO}(hn:h0.length=n)(ho:∀o∈h0,okO n o):HW (List.range' 0 n) (h0++rest) (List.range' 0 n) h0:=by
 have hσ:∀i,i<n->(List.range' 0 n).getD i 0=i:=λi hi=>by simp[List.getD_eq_getElem?_getD,hi]
 have key:∀(l:List AO) (k:Nat),k+l.length=n->(∀i,l[i]?=h0[k+i]?)->HW (List.range' 0 n) (h0++rest) (List.range' k l.length) l:=by
  intro l
  induction l with
  |nil=>intro _ _ _;exact trivial
  |cons o r ih=>
   intro k hk hg
   have h0k:=hg 0
   simp at h0k hk
   have hm:o∈h0:=List.mem_of_getElem? h0k.symm
   have hget:(h0++rest)[k]?=some o:=by rw[List.getElem?_append_left (by omega)];exact h0k.symm
   refine⟨by simp;omega,?_,ih (k+1) (by omega) λi=>by have:=hg (i+1);simp at this;rw[this];congr 1;omega⟩
   have hoo:=ho o hm
   cases o with
   |dead=>trivial
   |row sz es=>exact⟨λe he=>by simpa using hoo e he,by rw[hget,List.map_congr_left (g:=id) λe he=>oT hσ e (hoo e he)];simp⟩
   |mp es=>exact⟨λe he=>by simpa using hoo e he,by rw[hget,List.map_congr_left (g:=id) λe he=>by rw[ka hσ e.2 (hoo e he)];rfl];simp⟩
   |sit s p=>exact hget
 have:=key h0 0 (by omega) (λi=>by simp)
 rwa[hn] at this
theorem Da{n:Nat}:∀{args:List AV},aA n args->TW (List.range' 0 n) args args
 |[],_=>trivial
 |v::r,h=>⟨.inr ⟨by simpa using h.1,ka (λi hi=>by simp[List.getD_eq_getElem?_getD,hi]) v h.1⟩,Da h.2⟩
theorem AC.pre{f:FuncId}{args:List AV}{h0:List AO}{R:ARes->List AO->Prop}(H:AC P G f args h0 R)(rest:List AO)(hb:aA h0.length args)(ho:∀o∈h0,okO h0.length o)
 (hl:∀x h',R x h'->h'.length=h0.length):AC P G f args (h0++rest) λx h'=>∃h1,R x h1/\h'=h1++rest:=by
 refine(H.known.frame (List.range' 0 h0.length) List.nodup_range' (Da hb) (JO rfl ho)).mono λx h' ⟨x0,h1,⟨r,hbb,hv,_⟩,_,e1,e2⟩=>?_
 have hl1:=hl _ _ r
 have hσ:∀i,i<h0.length->(List.range' 0 h0.length++List.range' (h0++rest).length (h1.length-h0.length)).getD i 0=i:=λi hi=>by
  rw[List.getD_eq_getElem?_getD,List.getElem?_append_left (by simpa using hi)];simp[hi]
 have hoo:∀o∈h1,okO h0.length o:=λo ho=>by
  obtain⟨i,hi⟩:=List.getElem?_of_mem ho
  cases o with
  |dead=>trivial
  |row sz es=>intro e he;have:=(hbb.1 i sz es hi e he).2.1;rwa[hl1] at this
  |mp es=>intro e he;have:=hbb.2 i es hi e he;rwa[hl1] at this
  |sit s p=>trivial
 have em:h1.map (eZ (List.range' 0 h0.length++List.range' (h0++rest).length (h1.length-h0.length)))=h1:=by
  rw[List.map_congr_left (g:=id) λo ho=>oG hσ o (hoo o ho)];simp
 refine⟨h1,?_,?_⟩
 ·subst e1
  cases x0 with
  |pan t v=>exact r
  |ret v=>
   have:=hv v rfl
   rw[hl1] at this
   simp only[Cj]
   rw[ka hσ v this];exact r
 ·rw[e2,List.take_of_length_le (by omega),List.drop_of_length_le (by omega),em,List.map_nil,List.append_nil]
  have:=zB h0 h1 rest 0 hl1 [] rfl
  simpa using this
theorem AC.pre1{f:FuncId}{args:List AV}{h0:List AO}{R:List AO->List (List AV)->Prop}{sz:Nat}(H:AC P G f args h0 λx h'=>∃h1 es,h'=h1++[.row sz es]/\h1.length=h0.length/\x= .ret (.sl h0.length sz 0 es.length)/\(∀e∈es,aA 0 e)/\R h1 es)(rest:List AO)(hb:aA h0.length args)(ho:∀o∈h0,okO h0.length o)
 (hk:∀h1 es,R h1 es->∀o∈h1,okO h0.length o):AC P G f args (h0++rest) λx h'=>∃h1 es,h'=h1++rest++[.row sz es]/\h1.length=h0.length/\x= .ret (.sl (h0.length+rest.length) sz 0 es.length)/\(∀e∈es,aA 0 e)/\R h1 es:=by
 refine(H.frame (List.range' 0 h0.length) List.nodup_range' (Da hb) (JO rfl ho)).mono λx h' ⟨x0,h2,⟨h1,es,eh,hl1,ex,hp,r⟩,_,e1,e2⟩=>?_
 subst eh
 have hlen:(h1++[AO.row sz es]).length-h0.length=1:=by simp;omega
 rw[hlen] at e1 e2
 have hσ:∀i,i<h0.length->(List.range' 0 h0.length++List.range' (h0++rest).length 1).getD i 0=i:=λi hi=>by
  rw[List.getD_eq_getElem?_getD,List.getElem?_append_left (by simpa using hi)];simp[hi]
 have hσn:(List.range' 0 h0.length++List.range' (h0++rest).length 1).getD h0.length 0=h0.length+rest.length:=by
  rw[List.getD_eq_getElem?_getD,List.getElem?_append_right (by simp)];simp
 have em:h1.map (eZ (List.range' 0 h0.length++List.range' (h0++rest).length 1))=h1:=by
  rw[List.map_congr_left (g:=id) λo ho=>oG hσ o (hk h1 es r o ho)];simp
 refine⟨h1,es,?_,hl1,?_,hp,r⟩
 ·rw[e2,List.take_append_of_le_length (by omega),List.take_of_length_le (by omega),em,List.drop_append_of_le_length (by omega),List.drop_of_length_le (by omega),List.nil_append]
  have:=zB h0 h1 rest 0 hl1 [] rfl
  simp only[List.nil_append] at this
  rw[this]
  simp only[List.map_cons,List.map_nil,eZ]
  rw[List.map_congr_left (g:=id) λe he=>jO _ e (hp e he)];simp
 ·rw[e1,ex];simp only[Cj,ren];rw[hσn]
def Cuts:List AO->List AO->Prop
 |[],[]=>True
 |o::r,o1::r1=>(o1=o\/∃sz es k,o= .row sz es/\o1= .row sz (es.take k))/\Cuts r r1
 |_,_=>False
theorem Cuts.get:∀{h h1:List AO},Cuts h h1->h.length=h1.length/\∀(i:Nat) (o1:AO),h1[i]?=some o1->∃o,h[i]?=some o/\(o1=o\/∃sz es k,o= .row sz es/\o1= .row sz (es.take k))
 |[],[],_=>⟨rfl,λi o e=>by simp at e⟩
 |o::r,o1::r1,hc=>by
  obtain⟨c1,c2⟩:=hc
  obtain⟨g1,g2⟩:=Cuts.get c2
  refine⟨by simp[g1],λi u e=>?_⟩
  cases i with
  |zero=>simp at e;subst e;exact⟨o,rfl,c1⟩
  |succ i=>simp at e;simpa using g2 i u e
 |[],_::_,hc=>hc.elim
 |_::_,[],hc=>hc.elim
theorem ry{α:Type}:∀(es:List (List α)) (k:Nat),∃m,(es.take k).flatten=es.flatten.take m
 |[],k=>⟨0,by simp⟩
 |e::r,0=>⟨0,by simp⟩
 |e::r,k+1=>by
  obtain⟨m,hm⟩:=ry r k
  refine⟨e.length+m,?_⟩
  simp only[List.take_succ_cons,List.flatten_cons,hm]
  rw[List.take_append,List.take_of_length_le (l:=e) (by omega),Nat.add_sub_cancel_left]
theorem Il{k:Nat}{ts:List AV}{h h1:List AO}(hc:Cuts h h1):Wk k ts h ts h1:=by
 intro G W0 S0 φ0 h0 W S φ a ek s
 obtain⟨hl,hg⟩:=hc.get
 have hliv:∀{i},Live h1 i->Live h i:=λ{i} ⟨o,e,l⟩=>by
  obtain⟨o0,e0,c⟩:=hg i o e
  rcases c with rfl|⟨sz,es,k,rfl,rfl⟩
  ·exact⟨_,e0,l⟩
  ·exact⟨_,e0,trivial⟩
 have k2:=s.hrel
 have k4:=s.keep
 refine⟨S,φ,⟨⟨λid sz es e=>?_,λid o e lo=>?_,λid id' e1 e2 he=>k2.inj _ _ (hliv e1) (hliv e2) he,λb hb=>⟨(k2.sep b hb).1,λid e he=>(k2.sep b hb).2 id (hliv e) he⟩,λid hid=>k2.bnd id (by omega),k2.glob⟩,by rw[←hl];exact s.trel,s.defers,?_⟩⟩
 ·rw[←hl]
  obtain⟨o0,e0,c⟩:=hg id _ e
  rcases c with rfl|⟨sz',es',m,rfl,c⟩
  ·exact k2.obj id sz es e0
  ·cases c
   obtain⟨c,t,fr,a1,a2,a3,a4,a5⟩:=k2.obj id _ _ e0
   refine⟨c,t,fr,a1,a2,λx hx=>a3 x (List.mem_of_mem_take hx),?_,λj u hj=>?_⟩
   ·have:(es'.take m).length*sz<=es'.length*sz:=Nat.mul_le_mul_right _ (by simp;omega)
    omega
   ·obtain⟨q,hq⟩:=ry es' m
    rw[hq,List.getElem?_take] at hj
    split at hj
    ·exact a5 j u hj
    ·cases hj
 ·rw[←hl]
  obtain⟨o0,e0,c⟩:=hg id _ e
  rcases c with rfl|⟨sz',es',m,rfl,rfl⟩
  ·exact k2.oobj id _ e0 lo
  ·trivial
 ·exact{pure:=k4.pure,len:=by rw[←hl];exact k4.len,same:=k4.same,blk:=k4.blk,os:=k4.os,tape:=k4.tape,output:=k4.output,size:=k4.size,out:=k4.out
        img:=λid e=>k4.img id (hliv e),newS:=k4.newS}
end Go.Aw
namespace Go.Aw
section
variable {H:Type} {enc:TypeId × Value->H} {P:Program} {W:World} {sp:Nat->Bool} {held:Bool} {L:List TypeId} {ub:DataW H->Nat}
end
end Go.Aw
namespace Go.Aw
def Gf:PV->Bool
 | .lst _ (_::_)=>false
 | .tbl _ _=>false
 |_=>true
inductive OwnL (s:Bool) (h:List AO):List AV->List PV->List Nat->Prop where
 |nil:OwnL s h [] [] []
 |p (q:PV) {vs:List AV} {qs:List PV} {I:List Nat}:(s=true->Gf q=true)->OwnL s h vs qs I->OwnL s h (.p q::vs) (q::qs) I
 |nils (sz:Nat) {vs:List AV} {qs:List PV} {I:List Nat}:OwnL s h vs qs I->OwnL s h (.nils::vs) (.lst sz []::qs) I
 |sl (id sz n:Nat) (rows:List (List AV)) (es:List (List PV)) {J:List Nat} {vs:List AV} {qs:List PV} {I:List Nat}:h[id]?=some (.row sz rows)->n=es.length->rows.length=es.length->
   (∀e∈rows,e.length=sz)->(∀e∈es,e.length=sz)->OwnL s h rows.flatten es.flatten J->OwnL s h vs qs I->OwnL s h (.sl id sz 0 n::vs) (.lst sz es::qs) (id::(J++I))
section
variable {s:Bool} {h h':List AO} {vs:List AV} {qs:List PV} {I:List Nat}
theorem OwnL.len(H:OwnL s h vs qs I):vs.length=qs.length:=by
 induction H with
 |nil=>rfl
 |p q _ _ ih=>simp[ih]
 |nils sz _ ih=>simp[ih]
 |sl id sz n rows es _ _ _ _ _ _ _ _ ih=>simp[ih]
theorem OwnL.frame(H:OwnL s h vs qs I)(e:∀i∈I,h'[i]?=h[i]?):OwnL s h' vs qs I:=by
 induction H with
 |nil=>exact .nil
 |p q hq _ ih=>exact .p q hq (ih e)
 |nils sz _ ih=>exact .nils sz (ih e)
 |sl id sz n rows es a1 a2 a3 a4 a5 _ _ ih1 ih2=>
  exact .sl id sz n rows es (by rw[e _ (by simp)];exact a1) a2 a3 a4 a5 (ih1 λi hi=>e i (by simp[hi])) (ih2 λi hi=>e i (by simp[hi]))
theorem OwnL.more(H:OwnL s h vs qs I)(os:List AO):OwnL s (h++os) vs qs I:=by
 induction H with
 |nil=>exact .nil
 |p q hq _ ih=>exact .p q hq ih
 |nils sz _ ih=>exact .nils sz ih
 |sl id sz n rows es a1 a2 a3 a4 a5 _ _ ih1 ih2=>
  exact .sl id sz n rows es (by rw[List.getElem?_append_left (List.getElem?_eq_some_iff.1 a1).1];exact a1) a2 a3 a4 a5 ih1 ih2
theorem OwnL.set_out(H:OwnL s h vs qs I){id:Nat}(hn:id∉I)(o:AO):OwnL s (h.set id o) vs qs I:=
 H.frame λi hi=>List.getElem?_set_ne (by rintro rfl;exact hn hi)
theorem OwnL.ids(H:OwnL s h vs qs I):∀i∈I,∃sz rows,h[i]?=some (.row sz rows):=by
 induction H with
 |nil=>intro i hi;cases hi
 |p q hq _ ih=>exact ih
 |nils sz _ ih=>exact ih
 |sl id sz n rows es a1 a2 a3 a4 a5 _ _ ih1 ih2=>
  intro i hi
  simp only[List.mem_cons,List.mem_append] at hi
  rcases hi with rfl|hi|hi
  ·exact⟨_,_,a1⟩
  ·exact ih1 i hi
  ·exact ih2 i hi
theorem OwnL.lt(H:OwnL s h vs qs I){i:Nat}(hi:i∈I):i<h.length:=by
 obtain⟨_,_,e⟩:=H.ids i hi
 exact(List.getElem?_eq_some_iff.1 e).1
theorem OwnL.app{a b:List AV}{c d:List PV}{J:List Nat}(H:OwnL s h a c I)(H2:OwnL s h b d J):OwnL s h (a++b) (c++d) (I++J):=by
 induction H with
 |nil=>exact H2
 |p q hq _ ih=>exact .p q hq ih
 |nils sz _ ih=>exact .nils sz ih
 |sl id sz n rows es a1 a2 a3 a4 a5 a6 _ ih1 ih2=>
  have:=OwnL.sl id sz n rows es a1 a2 a3 a4 a5 a6 ih2
  simpa only[List.cons_append,List.append_assoc] using this
theorem OwnL.split:∀{a b:List AV} {c d:List PV} {I:List Nat},OwnL s h (a++b) (c++d) I->a.length=c.length->∃I1 I2,I=I1++I2/\OwnL s h a c I1/\OwnL s h b d I2
 |[],b,[],d,I,H,_=>⟨[],I,rfl,.nil,H⟩
 |v::a,b,q::c,d,I,H,hl=>by
  simp only[List.cons_append] at H
  have hl':a.length=c.length:=by simpa using hl
  cases H with
  |p _ hq H=>
   obtain⟨I1,I2,e,h1,h2⟩:=OwnL.split H hl'
   exact⟨I1,I2,e,.p _ hq h1,h2⟩
  |nils sz H=>
   obtain⟨I1,I2,e,h1,h2⟩:=OwnL.split H hl'
   exact⟨I1,I2,e,.nils _ h1,h2⟩
  |sl id sz n rows es a1 a2 a3 a4 a5 a6 H=>
   obtain⟨I1,I2,e,h1,h2⟩:=OwnL.split H hl'
   subst e
   exact⟨_::(_++I1),I2,by simp,.sl id sz n rows es a1 a2 a3 a4 a5 a6 h1,h2⟩
 |[],_,_::_,_,_,_,hl=>by simp at hl
 |_::_,_,[],_,_,_,hl=>by simp at hl
theorem OwnL.one{v:AV}{q:PV}{vs:List AV}{qs:List PV}(H:OwnL s h (v::vs) (q::qs) I):∃I1 I2,I=I1++I2/\OwnL s h [v] [q] I1/\OwnL s h vs qs I2:=
 OwnL.split (a:=[v]) (c:=[q]) H rfl
theorem uo{α:Type}{sz:Nat}:∀{l:List (List α)},(∀e∈l,e.length=sz)->l.flatten.length=l.length*sz
 |[],_=>by simp
 |e::r,hl=>by
  rw[List.flatten_cons,List.length_append,uo (λx hx=>hl x (List.mem_cons_of_mem _ hx)),hl e (List.mem_cons_self ..),List.length_cons,Nat.succ_mul];omega
theorem oL{α:Type}{l:List α}{i:Nat}{x:α}(e:l[i]?=some x):l=l.take i++x::l.drop (i+1):=by
 obtain⟨hi,e⟩:=List.getElem?_eq_some_iff.1 e
 rw[←e,←List.drop_eq_getElem_cons hi,List.take_append_drop]
theorem mM{α:Type}{l:List α}{i:Nat}(x:α)(hi:i<l.length):l.set i x=l.take i++x::l.drop (i+1):=by
 rw[List.set_eq_take_append_cons_drop,if_pos hi]
theorem OwnL.put{sz:Nat}{rows:List (List AV)}{es:List (List PV)}{J:List Nat}(H:OwnL s h rows.flatten es.flatten J)(hl:rows.length=es.length)(hr:∀e∈rows,e.length=sz)(he:∀e∈es,e.length=sz){i:Nat}{e:List PV}(hi:es[i]?=some e):
 ∃r J1 Ji J2,rows[i]?=some r/\J=J1++(Ji++J2)/\OwnL s h r e Ji/\∀(h':List AO) (r':List AV) (e':List PV) (Ji':List Nat),(∀j∈J1++J2,h'[j]?=h[j]?)->OwnL s h' r' e' Ji'->OwnL s h' (rows.set i r').flatten (es.set i e').flatten (J1++(Ji'++J2)):=by
 have hil:i<es.length:=(List.getElem?_eq_some_iff.1 hi).1
 have hir:i<rows.length:=by omega
 have e1:=List.getElem?_eq_getElem hir
 have d1:=oL e1
 have d2:=oL hi
 generalize rows[i]=r at e1 d1
 have t1:(rows.take i).flatten.length=(es.take i).flatten.length:=by
  rw[uo (λx hx=>hr x (List.mem_of_mem_take hx)),uo (λx hx=>he x (List.mem_of_mem_take hx)),List.length_take,List.length_take,hl]
 have t2:r.length=e.length:=by rw[hr r (List.mem_of_getElem? e1),he e (List.mem_of_getElem? hi)]
 have H0:=H
 rw[d1,d2,List.flatten_append,List.flatten_append,List.flatten_cons,List.flatten_cons] at H0
 obtain⟨J1,J3,rfl,k1,k2⟩:=OwnL.split H0 t1
 obtain⟨Ji,J2,rfl,k3,k4⟩:=OwnL.split k2 t2
 refine⟨r,J1,Ji,J2,e1,rfl,k3,λh' r' e' Ji' hf ho=>?_⟩
 rw[mM _ hir,mM _ hil,List.flatten_append,List.flatten_append,List.flatten_cons,List.flatten_cons]
 exact(k1.frame λj hj=>hf j (by simp[hj])).app (ho.app (k4.frame λj hj=>hf j (by simp[hj])))
theorem OwnL.view(H:OwnL s h vs qs I):∀(j:Nat) (v:AV) (q:PV),vs[j]?=some v->qs[j]?=some q->View h v q:=by
 induction H with
 |nil=>intro j v q e;simp at e
 |p q hq _ ih=>
  intro j v q' e1 e2
  cases j with
  |zero=>cases e1;cases e2;exact .p _
  |succ j=>exact ih j v q' (by simpa using e1) (by simpa using e2)
 |nils sz _ ih=>
  intro j v q' e1 e2
  cases j with
  |zero=>cases e1;cases e2;exact .nils _
  |succ j=>exact ih j v q' (by simpa using e1) (by simpa using e2)
 |sl id sz n rows es a1 a2 a3 a4 a5 _ _ ih1 ih2=>
  intro j v q' e1 e2
  cases j with
  |succ j=>exact ih2 j v q' (by simpa using e1) (by simpa using e2)
  |zero=>
   cases e1;cases e2;subst a2
   refine .sl id sz 0 rows es a1 (by omega) a5 λi j e q e' a b1 b2 b3 b4=>?_
   rw[Nat.zero_add] at b3
   have hj:j<sz:=by
    have:=(List.getElem?_eq_some_iff.1 b2).1
    rw[a5 e (List.mem_of_getElem? b1)] at this;exact this
   exact ih1 (i*sz+j) a q (by rw[bk a4 i j hj,b3];exact b4) (by rw[bk a5 i j hj,b1];exact b2)
theorem OwnL.views(H:OwnL s h vs qs I):Views h vs (qs.map .p):=by
 have hv:=H.view
 have hl:=H.len
 clear H
 induction vs generalizing qs with
 |nil=>
  cases qs with
  |nil=>exact .nil
  |cons q qs=>simp at hl
 |cons v vs ih=>
  cases qs with
  |nil=>simp at hl
  |cons q qs=>exact .one (hv 0 v q rfl rfl) (ih (λj v q e1 e2=>hv (j+1) v q (by simpa using e1) (by simpa using e2)) (by simpa using hl))
theorem OwnL.ren{σ:List Nat}(H:OwnL s h vs qs I)(hσ:∀i∈I,∀sz rows,h[i]?=some (.row sz rows)->h'[σ.getD i 0]?=some (.row sz (rows.map (bn σ)))):OwnL s h' (bn σ vs) qs (I.map λi=>σ.getD i 0):=by
 induction H with
 |nil=>exact .nil
 |p q hq _ ih=>exact .p q hq (ih hσ)
 |nils sz _ ih=>exact .nils sz (ih hσ)
 |sl id sz n rows es a1 a2 a3 a4 a5 _ _ ih1 ih2=>
  have k1:=ih1 λi hi=>hσ i (by simp[hi])
  rw[←eI] at k1
  have:=OwnL.sl (s:=s) (σ.getD id 0) sz n (rows.map (bn σ)) es (hσ id (by simp) _ _ a1) a2 (by simpa using a3) (λe he=>by obtain⟨e0,he0,rfl⟩:=List.mem_map.1 he;rw[bA];exact a4 e0 he0) a5 k1 (ih2 λi hi=>hσ i (by simp[hi]))
  simpa[bn,Go.Aw.ren] using this
theorem sP(n:Nat)(es:List (List AV)):(es.map (cK n)).flatten=cK n es.flatten:=by
 rw[bJ,List.map_flatten];congr 1;exact List.map_congr_left λl _=>bJ n l
theorem OwnL.shift(H:OwnL s h vs qs I)(pre:List AO):OwnL s (pre++h.map (cL pre.length)) (cK pre.length vs) qs (I.map λi=>pre.length+i):=by
 induction H with
 |nil=>exact .nil
 |p q hq _ ih=>exact .p q hq ih
 |nils sz _ ih=>exact .nils sz ih
 |sl id sz n rows es a1 a2 a3 a4 a5 _ _ ih1 ih2=>
  rw[←sP] at ih1
  have:=OwnL.sl (s:=s) (h:=pre++h.map (cL pre.length)) (pre.length+id) sz n (rows.map (cK pre.length)) es (by rw[List.getElem?_append_right (by omega),Nat.add_sub_cancel_left,List.getElem?_map,a1];rfl) a2 (by simpa using a3) (λe he=>by obtain⟨e0,he0,rfl⟩:=List.mem_map.1 he;rw[bJ,List.length_map];exact a4 e0 he0) a5 ih1 ih2
  simpa[cK,bz] using this
theorem OwnL.clean(H:OwnL true h vs qs I):dQ vs=true:=by
 induction H with
 |nil=>rfl
 |p q hq _ ih=>
  have:=hq rfl
  simp only[dQ,Bool.and_eq_true]
  refine⟨?_,ih⟩
  match q,this with
  | .bool _,_=>rfl
  | .int _ _,_=>rfl
  | .str _,_=>rfl
  | .lst _ [],_=>rfl
 |nils sz _ ih=>simpa[dQ,Go.Aw.clean] using ih
 |sl id sz n rows es a1 _ _ _ _ _ _ _ ih2=>simpa[dQ,Go.Aw.clean] using ih2
theorem th:∀{l:List AV},(∀v∈l,Go.Aw.clean v=true)->dQ l=true
 |[],_=>rfl
 |v::r,hl=>by simp only[dQ,Bool.and_eq_true];exact⟨hl v (by simp),th λx hx=>hl x (by simp[hx])⟩
theorem OwnL.cleanO(H:OwnL true h vs qs I):∀i∈I,∀o,h[i]?=some o->Go.Aw.cleanO o=true:=by
 induction H with
 |nil=>intro i hi;cases hi
 |p q hq _ ih=>exact ih
 |nils sz _ ih=>exact ih
 |sl id sz n rows es a1 a2 a3 a4 a5 k _ ih1 ih2=>
  intro i hi o ho
  simp only[List.mem_cons,List.mem_append] at hi
  rcases hi with rfl|hi|hi
  ·rw[a1] at ho;cases ho
   have kc:=k.clean
   simp only[Go.Aw.cleanO,List.all_eq_true]
   intro e he
   refine th λv hv=>?_
   obtain⟨j,hj⟩:=List.getElem?_of_mem (List.mem_flatten.2 ⟨e,he,hv⟩)
   exact gP kc j v hj
  ·exact ih1 i hi o ho
  ·exact ih2 i hi o ho
end
def MkW(w:List AV->AV)(s:Bool)(qs:List PV)(x:ARes)(h:List AO):Prop:=∃vs I,x= .ret (w vs)/\OwnL s h vs qs I/\I.Nodup
structure Shp (w:List AV->AV):Prop where
 ren:∀σ vs,Go.Aw.ren σ (w vs)=w (bn σ vs)
 shift:∀n vs,bz n (w vs)=w (cK n vs)
 clean:∀vs,dQ vs=true->Go.Aw.clean (w vs)=true
 below:∀n vs,aA n vs->Go.Aw.below n (w vs)
 views:∀h vs (qs:List PV),Views h vs (qs.map .p)->Views h [w vs] [w (qs.map .p)]
def iv(vs:List AV):AV:=vs.headD .any
theorem sk:Shp .agg:=⟨λ_ _=>rfl,λ_ _=>rfl,λ_ h=>h,λ_ _ h=>h,λ_ _ _ h=> .agg h .nil⟩
section
variable {P:Program} {G:az} {f:FuncId} {w:List AV->AV} {s:Bool} {qs:List PV}
theorem vO{g:Nat->Nat}(hg:∀i j,g i=g j->i=j):∀{l:List Nat},l.Nodup->(l.map g).Nodup
 |[],_=>by simp
 |a::r,hn=>by
  rw[List.nodup_cons] at hn
  rw[List.map_cons,List.nodup_cons]
  exact⟨λhm=>by obtain⟨b,hb,e⟩:=List.mem_map.1 hm;rw[hg _ _ e] at hb;exact hn.1 hb,vO hg hn.2⟩
theorem AC.mkFreeze{args:List AV}(hw:Shp w)(H:AC P G f args [] (MkW w s qs)):VF P G f args (w (qs.map .p)):=
 H.freezeR (λt v h ⟨_,_,e,_⟩=>by cases e) λv h ⟨vs,I,e,ho,_⟩=>by cases e;exact hw.views _ _ _ ho.views
end
structure RowOwn (s:Bool) (h:List AO) (id sz:Nat) (rows:List (List AV)) (D:List (List PV)) (J:List Nat):Prop where
 here:h[id]?=some (.row sz rows)
 len:rows.length=D.length
 rl:∀e∈rows,e.length=sz
 dl:∀e∈D,e.length=sz
 own:OwnL s h rows.flatten D.flatten J
 nd:(id::J).Nodup
section
variable {s:Bool} {h:List AO} {id sz:Nat} {rows:List (List AV)} {D:List (List PV)} {J:List Nat}
theorem RowOwn.lt(H:RowOwn s h id sz rows D J):id<h.length:=(List.getElem?_eq_some_iff.1 H.here).1
theorem RowOwn.tree(H:RowOwn s h id sz rows D J){n:Nat}(hn:n=D.length):OwnL s h [.sl id sz 0 n] [.lst sz D] (id::J):=by
 have:=OwnL.sl id sz n rows D H.here hn H.len H.rl H.dl H.own .nil
 rwa[List.append_nil] at this
theorem OwnL.inv{v:AV}{I:List Nat}(H:OwnL s h [v] [.lst sz D] I)(nd:I.Nodup):(D=[]/\I=[]/\(v= .nils\/v= .p (.lst sz [])))\/(s=false/\v= .p (.lst sz D)/\I=[])\/∃id rows J,v= .sl id sz 0 D.length/\I=id::J/\RowOwn s h id sz rows D J:=by
 cases H with
 |p _ hq H=>
  cases H
  cases s with
  |false=>exact .inr (.inl ⟨rfl,rfl,rfl⟩)
  |true=>
   cases D with
   |nil=>exact .inl ⟨rfl,rfl,.inr rfl⟩
   |cons=>simp[Gf] at hq
 |nils _ H=>cases H;exact .inl ⟨rfl,rfl,.inl rfl⟩
 |sl id sz n rows es a1 a2 a3 a4 a5 a6 H=>
  cases H
  subst a2
  rw[List.append_nil] at nd⊢
  exact .inr (.inr ⟨id,rows,_,rfl,rfl,a1,a3,a4,a5,a6,nd⟩)
theorem RowOwn.fill(H:RowOwn s h id sz rows D J){i:Nat}(hi:i<D.length){h2 os:List AO}(e2:h2=h++os){r':List AV}{e':List PV}{I2:List Nat}(ho:OwnL s h2 r' e' I2)(nd2:I2.Nodup)(hf:∀j∈I2,h.length<=j)(he:e'.length=sz):
 ∃J',RowOwn s (h2.set id (.row sz (rows.set i r'))) id sz (rows.set i r') (D.set i e') J':=by
 subst e2
 obtain⟨r,J1,Ji,J2,g1,rfl,g3,g4⟩:=H.own.put H.len H.rl H.dl (List.getElem?_eq_getElem hi)
 have hid:=H.lt
 have hn:=H.nd
 have hlt:∀j∈J1++(Ji++J2),j<h.length:=λj hj=>H.own.lt hj
 simp only[List.nodup_cons,List.nodup_append,List.mem_append,not_or] at hn hlt
 obtain⟨⟨n1,n2,n3⟩,m1,⟨m2,m3,m4⟩,m5⟩:=hn
 have hid2:id∉I2:=λhm=>by have:=hf _ hm;omega
 refine⟨J1++(I2++J2),by rw[List.getElem?_set_self (by simp;omega)],by simp[H.len],λe he'=>?_,λe he'=>?_,g4 _ r' e' I2 (λj hj=>?_) (ho.set_out hid2 _),?_⟩
 ·rcases List.mem_or_eq_of_mem_set he' with h1|rfl
  ·exact H.rl e h1
  ·rw[ho.len,he]
 ·rcases List.mem_or_eq_of_mem_set he' with h1|rfl
  ·exact H.dl e h1
  ·exact he
 ·have hj2:j≠id:=λe=>by
   subst e
   rcases List.mem_append.1 hj with hj|hj
   ·exact n1 hj
   ·exact n3 hj
  have hjl:j<h.length:=by
   rcases List.mem_append.1 hj with hj|hj
   ·exact hlt j (.inl hj)
   ·exact hlt j (.inr (.inr hj))
  rw[List.getElem?_set_ne (Ne.symm hj2),List.getElem?_append_left hjl]
 ·simp only[List.nodup_cons,List.nodup_append,List.mem_append,not_or]
  refine⟨⟨n1,hid2,n3⟩,m1,⟨nd2,m3,λa ha b hb e=>?_⟩,λa ha b hb e=>?_⟩
  ·have:=hf a ha;have:=hlt b (.inr (.inr hb));omega
  ·rcases hb with hb|hb
   ·have:=hf b hb;have:=hlt a (.inl ha);omega
   ·exact m5 a ha b (.inr hb) e
theorem RowOwn.change(H:RowOwn s h id sz rows D J){i:Nat}{e:List PV}(hi:D[i]?=some e):
 ∃r Ji,rows[i]?=some r/\OwnL s h r e Ji/\(id::Ji).Nodup/\(∀j∈Ji,j∈J)/\∀(h2:List AO) (r':List AV) (e':List PV),h2[id]?=some (.row sz (rows.set i r'))->(∀j,j<h.length->j≠id->j∉Ji->h2[j]?=h[j]?)->OwnL s h2 r' e' Ji->e'.length=sz->
  RowOwn s h2 id sz (rows.set i r') (D.set i e') J:=by
 obtain⟨r,J1,Ji,J2,g1,rfl,g3,g4⟩:=H.own.put H.len H.rl H.dl hi
 have hn:=H.nd
 have hlt:∀j∈J1++(Ji++J2),j<h.length:=λj hj=>H.own.lt hj
 simp only[List.nodup_cons,List.nodup_append,List.mem_append,not_or] at hn hlt
 obtain⟨⟨n1,n2,n3⟩,m1,⟨m2,m3,m4⟩,m5⟩:=hn
 refine⟨r,Ji,g1,g3,by simp[n2,m2],λj hj=>by simp[hj],λh2 r' e' k1 k2 k3 k4=>⟨k1,by simp[H.len],λx hx=>?_,λx hx=>?_,g4 h2 r' e' Ji (λj hj=>?_) k3,H.nd⟩⟩
 ·rcases List.mem_or_eq_of_mem_set hx with h1|rfl
  ·exact H.rl x h1
  ·rw[k3.len,k4]
 ·rcases List.mem_or_eq_of_mem_set hx with h1|rfl
  ·exact H.dl x h1
  ·exact k4
 ·rcases List.mem_append.1 hj with hj|hj
  ·exact k2 j (hlt j (.inl hj)) (λe=>n1 (e▸hj)) λhm=>m5 j hj j (.inl hm) rfl
  ·exact k2 j (hlt j (.inr (.inr hj))) (λe=>n3 (e▸hj)) λhm=>m4 j hm j hj rfl
theorem RowOwn.push(H:RowOwn s h id sz rows D J){h2 os:List AO}(e2:h2=h++os){r':List AV}{e':List PV}{I2:List Nat}(ho:OwnL s h2 r' e' I2)(nd2:I2.Nodup)(hf:∀j∈I2,h.length<=j)(he:e'.length=sz):
 RowOwn s (h2.set id .dead++[.row sz (rows++[r'])]) h2.length sz (rows++[r']) (D++[e']) (J++I2):=by
 subst e2
 have hid:=H.lt
 have hn:=H.nd
 rw[List.nodup_cons] at hn
 have hid2:id∉I2:=λhm=>by have:=hf _ hm;omega
 have hlt:∀j∈J,j<h.length:=λj hj=>H.own.lt hj
 have hlt2:∀j∈I2,j<(h++os).length:=λj hj=>ho.lt hj
 refine⟨by rw[List.getElem?_append_right (by simp)];simp,by simp[H.len],λe he'=>?_,λe he'=>?_,?_,?_⟩
 ·rcases List.mem_append.1 he' with h1|h1
  ·exact H.rl e h1
  ·rw[List.mem_singleton.1 h1,ho.len,he]
 ·rcases List.mem_append.1 he' with h1|h1
  ·exact H.dl e h1
  ·rw[List.mem_singleton.1 h1,he]
 ·rw[List.flatten_append,List.flatten_append,List.flatten_singleton,List.flatten_singleton]
  exact(((H.own.more os).set_out hn.1 _).more _).app ((ho.set_out hid2 _).more _)
 ·rw[List.nodup_cons,List.nodup_append]
  refine⟨λhm=>?_,hn.2,nd2,λa ha b hb e=>?_⟩
  ·rcases List.mem_append.1 hm with hm|hm
   ·have:=hlt _ hm;simp at this;omega
   ·have:=hlt2 _ hm;omega
  ·have:=hlt a ha;have:=hf b hb;omega
theorem RowOwn.more(H:RowOwn s h id sz rows D J)(os:List AO):RowOwn s (h++os) id sz rows D J:=
 ⟨by rw[List.getElem?_append_left H.lt];exact H.here,H.len,H.rl,H.dl,H.own.more os,H.nd⟩
theorem RowOwn.frame(H:RowOwn s h id sz rows D J){h':List AO}(e:∀i∈id::J,h'[i]?=h[i]?):RowOwn s h' id sz rows D J:=
 ⟨by rw[e id (by simp)];exact H.here,H.len,H.rl,H.dl,H.own.frame λi hi=>e i (by simp[hi]),H.nd⟩
end
theorem HB.row{h:List AO}(hb:HB h){i sz:Nat}{rows:List (List AV)}(e:h[i]?=some (.row sz rows)):∀x∈rows,x.length=sz/\aA h.length x/\x.all AV.isCell=true:=hb.1 i sz rows e
theorem OwnL.cells{s:Bool}{h:List AO}{vs:List AV}{qs:List PV}{I:List Nat}(H:OwnL s h vs qs I):vs.all AV.isCell=true:=by
 induction H with
 |nil=>rfl
 |p q hq _ ih=>simpa[AV.isCell] using ih
 |nils sz _ ih=>simpa[AV.isCell] using ih
 |sl id sz n rows es a1 _ _ _ _ _ _ _ ih2=>simpa[AV.isCell] using ih2
theorem ab{k n:Nat}{l l1:List (Nat × AV)}{h:List AO}(hk:k<=h.length)(H:FgA h.length l l1):Wk k (aw n l) h (aw n l1) h:=by
 intro G W0 S0 φ0 h0 W S φ a ek s
 exact Hn hk s.hrel.hb H G W0 S0 φ0 h0 W S φ a ek s
structure FilS where (i:Nat) (h:List AO)
def FilI(s:Bool)(id sz:Nat)(D:List (List PV))(z:List PV)(a:FilS):Prop:=
 a.i<=D.length/\∃rows J,RowOwn s a.h id sz rows (D.take a.i++List.replicate (D.length-a.i) z) J
section
variable {s:Bool} {h:List AO} {id sz i:Nat} {D:List (List PV)} {z:List PV}
theorem FilI.step(H:FilI s id sz D z ⟨i,h⟩){e:List PV}(hi:D[i]?=some e){h2 os:List AO}(e2:h2=h++os){r':List AV}{I2:List Nat}(ho:OwnL s h2 r' e I2)(nd2:I2.Nodup)(hf:∀j∈I2,h.length<=j)(he:e.length=sz):
 ∃rows r,h2[id]?=some (.row sz rows)/\rows[i]?=some r/\r.length=sz/\rows.length=D.length/\i<D.length/\FilI s id sz D z ⟨i+1,h2.set id (.row sz (rows.set i r'))⟩:=by
 obtain⟨_,rows,J,hr⟩:=H
 have hil:i<D.length:=(List.getElem?_eq_some_iff.1 hi).1
 have hlen:rows.length=D.length:=by have:=hr.len;simp at this;omega
 obtain⟨J',hr'⟩:=hr.fill (i:=i) (by simp;omega) e2 ho nd2 hf he
 have h2e:h2[id]?=some (.row sz rows):=by rw[e2,List.getElem?_append_left hr.lt];exact hr.here
 have hd:(D.take i++List.replicate (D.length-i) z).set i e=D.take (i+1)++List.replicate (D.length-(i+1)) z:=GX rfl hil hi
 rw[hd] at hr'
 have hri:=List.getElem?_eq_getElem (l:=rows) (i:=i) (by omega)
 exact⟨rows,_,h2e,hri,hr.rl _ (List.mem_of_getElem? hri),hlen,hil,hil,_,J',hr'⟩
theorem FilI.done(H:FilI s id sz D z ⟨i,h⟩)(hi:D.length<=i):∃rows J,RowOwn s h id sz rows D J:=by
 obtain⟨h1,rows,J,hr⟩:=H
 simp only at h1 hr
 obtain rfl:i=D.length:=by omega
 refine⟨rows,J,?_⟩
 simpa using hr
end
structure PshS where (i id:Nat) (h:List AO)
def PshI(s:Bool)(sz:Nat)(D:List (List PV))(a:PshS):Prop:=a.i<=D.length/\∃rows J,RowOwn s a.h a.id sz rows (D.take a.i) J
section
variable {s:Bool} {h:List AO} {id sz i:Nat} {D:List (List PV)}
theorem PshI.row(H:PshI s sz D ⟨i,id,h⟩)(os:List AO):∃rows,(h++os)[id]?=some (.row sz rows)/\rows.length=i/\id<h.length:=by
 obtain⟨h1,rows,J,hr⟩:=H
 have:=hr.len
 simp only at h1 this hr
 rw[List.length_take,Nat.min_eq_left h1] at this
 exact⟨rows,(hr.more os).here,this,hr.lt⟩
theorem PshI.step(H:PshI s sz D ⟨i,id,h⟩){e:List PV}(hi:D[i]?=some e){h2 os:List AO}(e2:h2=h++os){r':List AV}{I2:List Nat}(ho:OwnL s h2 r' e I2)(nd2:I2.Nodup)(hf:∀j∈I2,h.length<=j)(he:e.length=sz):
 ∃rows,h2[id]?=some (.row sz rows)/\rows.length=i/\i<D.length/\id<h2.length/\∀os2,PshI s sz D ⟨i+1,h2.length,h2.set id .dead++ .row sz (rows++[r'])::os2⟩:=by
 obtain⟨h1,rows,J,hr⟩:=H
 have hil:i<D.length:=(List.getElem?_eq_some_iff.1 hi).1
 have hlen:=hr.len
 simp only at h1 hlen hr
 rw[List.length_take,Nat.min_eq_left h1] at hlen
 have hp:=hr.push e2 ho nd2 hf he
 have h2e:h2[id]?=some (.row sz rows):=by rw[e2,List.getElem?_append_left hr.lt];exact hr.here
 refine⟨rows,h2e,hlen,hil,(List.getElem?_eq_some_iff.1 h2e).1,λos2=>⟨hil,rows++[r'],J++I2,?_⟩⟩
 have:=hp.more os2
 have hd:D.take i++[e]=D.take (i+1):=by rw[List.take_add_one,hi];rfl
 rw[hd,List.append_assoc] at this
 exact this
theorem PshI.done(H:PshI s sz D ⟨i,id,h⟩)(hi:D.length<=i):∃rows J,RowOwn s h id sz rows D J:=by
 obtain⟨h1,rows,J,hr⟩:=H
 simp only at h1 hr
 exact⟨rows,J,by rwa[List.take_of_length_le hi] at hr⟩
end
end Go.Aw
namespace Go.Aw
def MkI(h0:List AO)(id sz:Nat)(A L:List (List PV))(J:List Nat)(a:FilS):Prop:=
 a.i<=L.length/\(∃rows,RowOwn true a.h id sz rows (A.take a.i++L.drop a.i) J)/\(∀j,j<h0.length->j∉id::J->a.h[j]?=h0[j]?)/\h0.length<=a.h.length
section
variable {h0 h:List AO} {id sz i:Nat} {A L:List (List PV)} {J:List Nat}
theorem Jq{α:Type}{A L:List α}{i:Nat}{x:α}(hA:A[i]?=some x)(hi:i<L.length):(A.take i++L.drop i).set i x=A.take (i+1)++L.drop (i+1):=by
 obtain⟨ha,e⟩:=List.getElem?_eq_some_iff.1 hA
 have hl:(A.take i).length=i:=by rw[List.length_take];omega
 rw[List.set_append_right _ _ (by omega),hl,Nat.sub_self,List.drop_eq_getElem_cons hi,List.set_cons_zero,List.take_add_one,hA]
 simp
theorem MkI.step(H:MkI h0 id sz A L J ⟨i,h⟩){e e':List PV}(hi:L[i]?=some e)(hA:A[i]?=some e'):
 ∃rows r Ji,h[id]?=some (.row sz rows)/\rows[i]?=some r/\OwnL true h r e Ji/\(id::Ji).Nodup/\id<h.length/\i<rows.length/\∀(h2:List AO) (r':List AV),h2[id]?=some (.row sz (rows.set i r'))->(∀j,j<h.length->j≠id->j∉Ji->h2[j]?=h[j]?)->
  OwnL true h2 r' e' Ji->e'.length=sz->h.length<=h2.length->MkI h0 id sz A L J ⟨i+1,h2⟩:=by
 obtain⟨_,⟨rows,ho⟩,hf,hl⟩:=H
 simp only at ho hf hl
 have hil:i<L.length:=(List.getElem?_eq_some_iff.1 hi).1
 have hal:i<A.length:=(List.getElem?_eq_some_iff.1 hA).1
 have hget:(A.take i++L.drop i)[i]?=some e:=by
  rw[List.getElem?_append_right (by rw[List.length_take];omega),List.length_take,Nat.min_eq_left (by omega),Nat.sub_self,List.getElem?_drop,Nat.add_zero];exact hi
 obtain⟨r,Ji,k1,k2,k3,k4,k5⟩:=ho.change hget
 refine⟨rows,r,Ji,ho.here,k1,k2,k3,ho.lt,(List.getElem?_eq_some_iff.1 k1).1,λh2 r' a1 a2 a3 a4 a6=>⟨hil,⟨rows.set i r',?_⟩,λj hj hn=>?_,Nat.le_trans hl a6⟩⟩
 ·have:=k5 h2 r' e' a1 a2 a3 a4
  rwa[Jq hA hil] at this
 ·have hn':=hn
  rw[List.mem_cons,not_or] at hn'
  rw[a2 j (by omega) hn'.1 λhm=>hn'.2 (k4 j hm)]
  exact hf j hj hn
theorem MkI.done(H:MkI h0 id sz A L J ⟨i,h⟩)(hi:L.length<=i)(hA:A.length=L.length):(∃rows,RowOwn true h id sz rows A J)/\(∀j,j<h0.length->j∉id::J->h[j]?=h0[j]?)/\h0.length<=h.length:=by
 obtain⟨h1,⟨rows,ho⟩,hf,hl⟩:=H
 simp only at h1 ho hf hl
 refine⟨⟨rows,?_⟩,hf,hl⟩
 rwa[List.take_of_length_le (by omega),List.drop_of_length_le (by omega),List.append_nil] at ho
end
inductive Spl:List AO->List AO->List AO->Prop where
 |nil:Spl [] [] []
 |keep (o:AO) {h hX hR:List AO}:Spl h hX hR->Spl (o::h) (.dead::hX) (o::hR)
 |give (o:AO) {h hX hR:List AO}:Spl h hX hR->Spl (o::h) (o::hX) (.dead::hR)
theorem Spl.rest:∀h:List AO,Spl h (List.replicate h.length .dead) h
 |[]=> .nil
 |o::r=> .keep o (Spl.rest r)
theorem Spl.get{h hX hR:List AO}(H:Spl h hX hR):hX.length=h.length/\hR.length=h.length/\(∀(i:Nat) o,hX[i]?=some o->o.live->h[i]?=some o)/\(∀(i:Nat) o,hR[i]?=some o->o.live->h[i]?=some o)/\∀i:Nat,Live hX i->¬Live hR i:=by
 induction H with
 |nil=>exact⟨rfl,rfl,λi o e=>by simp at e,λi o e=>by simp at e,λi h=>(aL h).elim⟩
 |keep o _ ih=>
  obtain⟨a,b,c,d,e⟩:=ih
  refine⟨by simp[a],by simp[b],λi x hx lx=>?_,λi x hx lx=>?_,λi ⟨x,hx,lx⟩ ⟨y,hy,ly⟩=>?_⟩
  ·cases i with
   |zero=>cases hx;exact lx.elim
   |succ i=>exact c i x (by simpa using hx) lx
  ·cases i with
   |zero=>exact hx
   |succ i=>exact d i x (by simpa using hx) lx
  ·cases i with
   |zero=>cases hx;exact lx.elim
   |succ i=>exact e i ⟨x,by simpa using hx,lx⟩ ⟨y,by simpa using hy,ly⟩
 |give o _ ih=>
  obtain⟨a,b,c,d,e⟩:=ih
  refine⟨by simp[a],by simp[b],λi x hx lx=>?_,λi x hx lx=>?_,λi ⟨x,hx,lx⟩ ⟨y,hy,ly⟩=>?_⟩
  ·cases i with
   |zero=>exact hx
   |succ i=>exact c i x (by simpa using hx) lx
  ·cases i with
   |zero=>cases hx;exact lx.elim
   |succ i=>exact d i x (by simpa using hx) lx
  ·cases i with
   |zero=>cases hy;exact ly.elim
   |succ i=>exact e i ⟨x,by simpa using hx,lx⟩ ⟨y,by simpa using hy,ly⟩
section
variable {P:Program} {G:az}
theorem HRel.sub{W:World}{S:Nat->Prop}{φ:Place}{h h1:List AO}(H:HRel G W S φ h)(hl:h1.length=h.length)(hg:∀(i:Nat) o,h1[i]?=some o->o.live->h[i]?=some o):HRel G W S φ h1:=by
 have hlv:∀{i},Live h1 i->Live h i:=λ⟨o,e,l⟩=>⟨o,hg _ _ e l,l⟩
 refine⟨λid sz es e=>?_,λid o e lo=>?_,λid id' a b=>H.inj id id' (hlv a) (hlv b),λb hb=>⟨(H.sep b hb).1,λid a=>(H.sep b hb).2 id (hlv a)⟩,λid hid=>H.bnd id (by rwa[hl] at hid),H.glob⟩
 ·rw[hl];exact H.obj id sz es (hg _ _ e trivial)
 ·rw[hl];exact H.oobj id o (hg _ _ e lo) lo
theorem HRel.wide{W:World}{S:Nat->Prop}{φ:Place}{h hX:List AO}(H:HRel G W S φ h)(HX:HRel G W S φ hX)(hl:hX.length=h.length)(hd:∀i j:Nat,Live hX i->Live h j->(φ i).1≠(φ j).1):HRel G W (λb=>S b\/eQ φ hX b) φ h:=by
 have K:Kept W S φ h.length W (λb=>S b\/eQ φ hX b) φ h.length:=⟨λb hb=>⟨.inl hb,rfl⟩,Nat.le_refl _,λ_ _=>rfl,λ_ _ c t fr e=>⟨c,t,fr,e,rfl⟩⟩
 refine⟨λid sz es e=>?_,λid o e lo=>(H.oobj id o e lo).mono λa v r=>r.kept K,H.inj,λb hb=>?_,H.bnd,λg cs hg=>?_⟩
 ·obtain⟨c,t,fr,a1,a2,a3,a4,a5⟩:=H.obj id sz es e
  exact⟨c,t,fr,a1,a2,a3,a4,λj u hj=>by obtain⟨b1,v,b2,b3⟩:=a5 j u hj;exact⟨b1,v,b2,b3.kept K⟩⟩
 ·rcases hb with hb|⟨id,e,he⟩
  ·exact H.sep b hb
  ·subst he
   exact⟨HX.bnd id e.lt,λid2 e2 he=>hd id id2 e e2 he.symm⟩
 ·obtain⟨g1,g2⟩:=H.glob g cs hg
  exact⟨.inl g1,λj c hj=>by obtain⟨v,k1,k2⟩:=g2 j c hj;exact⟨v,k1,k2.mono λb hb=>⟨.inl hb,rfl⟩⟩⟩
theorem AC.give{f:FuncId}{args pargs:List AV}{h hX hR:List AO}{R:ARes->List AO->Prop}(hs:Spl h hX hR)(hv:Fzs hX h.length args pargs)(H:AC P G f pargs hR R):AC P G f args h R:=by
 obtain⟨l1,l2,g1,g2,g3⟩:=hs.get
 refine⟨H.1,λW S φ vs hH hA=>?_⟩
 have HX:=hH.sub l1 g1
 have HR:=(hH.sub l2 g2).wide HX (by rw[l1,l2]) λi j a b e=>by
  obtain⟨o,e1,lo⟩:=a
  obtain⟨o2,e2,lo2⟩:=b
  have:=hH.inj i j ⟨o,g1 _ _ e1 lo,lo⟩ ⟨o2,g2 _ _ e2 lo2,lo2⟩ e
  subst this
  exact g3 i ⟨o,e1,lo⟩ ⟨o2,e2,lo2⟩
 have hlX:∀{i},Live hX i->Live h i:=λ⟨o,e,l⟩=>⟨o,g1 _ _ e l,l⟩
 have hlR:∀{i},Live hR i->Live h i:=λ⟨o,e,l⟩=>⟨o,g2 _ _ e l,l⟩
 have hA':kf W (λb=>S b\/eQ φ hX b) φ hR.length pargs vs:=by
  refine⟨by rw[hA.1,hv.len],λj c v e1 e2=>?_⟩
  have hj:j<vs.size:=(Array.getElem?_eq_some_iff.1 e2).1
  have hjl:j<args.length:=by rw[←hA.1];exact hj
  rw[l2]
  exact(hv.rel HX j _ c v (List.getElem?_eq_getElem hjl) e1 (by rw[l1];exact hA.2 j _ v (List.getElem?_eq_getElem hjl) e2)).1
 refine(H.2 W _ φ vs HR hA').mono λe W' ⟨r,S',φ',h',k1,k2,k3,k4⟩=>⟨r,S',φ',h',k1,k2,k3,?_⟩
 exact{pure:=λb hb=>k4.pure b (.inl hb),len:=by rw[←l2];exact k4.len,same:=λid hid=>k4.same id (by rw[l2];exact hid)
       blk:=λid hid=>k4.blk id (by rw[l2];exact hid)
       os:=k4.os,tape:=k4.tape,output:=k4.output,size:=k4.size,out:=λb hb hn=>k4.out b hb λid a=>hn id (hlR a)
       img:=λid a=>by
        rcases k4.img id a with h2|⟨id2,h2,h3⟩
        ·exact .inl h2
        ·exact .inr ⟨id2,hlR h2,h3⟩
       newS:=λb hb=>by
        rcases k4.newS b hb with(h2|⟨id,h2,h3⟩)|h2|⟨id2,h2,h3⟩
        ·exact .inl h2
        ·exact .inr (.inr ⟨id,hlX h2,h3⟩)
        ·exact .inr (.inl h2)
        ·exact .inr (.inr ⟨id2,hlR h2,h3⟩)}
end
end Go.Aw
namespace Go.Aw
inductive Thn (hF:List AO) (n:Nat):List AO->List AO->List AO->Prop where
 |nil:Thn hF n [] [] []
 |same {o:AO} {r rX r1:List AO}:okO n o->Thn hF n r rX r1->Thn hF n (o::r) (.dead::rX) (o::r1)
 |one {sz:Nat} {e e1:List AV} {r rX r1:List AO}:Fzs hF n e e1->Thn hF n r rX r1->Thn hF n (.row sz [e]::r) (.dead::rX) (.row sz [e1]::r1)
 |rows {sz:Nat} {es es1:List (List AV)} {r rX r1:List AO}:es.length=es1.length->(∀(j:Nat) (e e1:List AV),es[j]?=some e->es1[j]?=some e1->Fzs hF n e e1)->Thn hF n r rX r1->Thn hF n (.row sz es::r) (.dead::rX) (.row sz es1::r1)
 |drop {o:AO} {r rX r1:List AO}:Thn hF n r rX r1->Thn hF n (o::r) (.dead::rX) (.dead::r1)
 |give {o:AO} {r rX r1:List AO}:Thn hF n r rX r1->Thn hF n (o::r) (o::rX) (.dead::r1)
theorem Thn.len{hF:List AO}{n:Nat}{h hX h1:List AO}(H:Thn hF n h hX h1):hX.length=h.length/\h1.length=h.length:=by
 induction H with
 |nil=>exact⟨rfl,rfl⟩
 |same ho _ ih=>simp[ih]
 |one hv _ ih=>simp[ih]
 |rows hl hv _ ih=>simp[ih]
 |drop _ ih=>simp[ih]
 |give _ ih=>simp[ih]
theorem Thn.sub{hF:List AO}{n:Nat}{h hX h1:List AO}(H:Thn hF n h hX h1):∀(i:Nat) o,hX[i]?=some o->o.live->h[i]?=some o/\¬Live h1 i:=by
 induction H with
 |nil=>intro i o e;simp at e
 |give _ ih=>
  intro i o e l
  cases i with
  |zero=>exact⟨e,λ⟨o2,e2,l2⟩=>by cases e2;exact l2⟩
  |succ i=>
   obtain⟨a,b⟩:=ih i o (by simpa using e) l
   exact⟨a,λ⟨o2,e2,l2⟩=>b ⟨o2,by simpa using e2,l2⟩⟩
 |same ho _ ih=>
  intro i o e l
  cases i with
  |zero=>cases e;exact l.elim
  |succ i=>
   obtain⟨a,b⟩:=ih i o (by simpa using e) l
   exact⟨a,λ⟨o2,e2,l2⟩=>b ⟨o2,by simpa using e2,l2⟩⟩
 |one hv _ ih=>
  intro i o e l
  cases i with
  |zero=>cases e;exact l.elim
  |succ i=>
   obtain⟨a,b⟩:=ih i o (by simpa using e) l
   exact⟨a,λ⟨o2,e2,l2⟩=>b ⟨o2,by simpa using e2,l2⟩⟩
 |rows hl hv _ ih=>
  intro i o e l
  cases i with
  |zero=>cases e;exact l.elim
  |succ i=>
   obtain⟨a,b⟩:=ih i o (by simpa using e) l
   exact⟨a,λ⟨o2,e2,l2⟩=>b ⟨o2,by simpa using e2,l2⟩⟩
 |drop _ ih=>
  intro i o e l
  cases i with
  |zero=>cases e;exact l.elim
  |succ i=>
   obtain⟨a,b⟩:=ih i o (by simpa using e) l
   exact⟨a,λ⟨o2,e2,l2⟩=>b ⟨o2,by simpa using e2,l2⟩⟩
end Go.Aw
namespace Go.Aw
open Go Go.Sort
section
variable {G:az} {W:World} {S:Nat->Prop} {φ:Place} {h:List AO}
theorem HRel.grown(H:HRel G W S φ h)(os:Array Obj):HRel G (grow W os) S φ h/\Keep W S φ h (grow W os) S φ h:=by
 have hg:∀b,b<W.heap.size->(grow W os).heap[b]?=W.heap[b]?:=λb hb=>by
  simp[grow,Array.getElem?_append,hb]
 have hS:∀b,S b->b<W.heap.size:=λb hb=>(H.sep b hb).1
 have K:Kept W S φ h.length (grow W os) S φ h.length:=
  {pure:=λb hb=>⟨hb,hg b (hS b hb)⟩
   len:=Nat.le_refl _
   same:=λ_ _=>rfl
   blk:=λi hi c' t' fr' e=>by
    rw[hg _ (H.bnd i hi)] at e
    exact⟨c',t',fr',e,rfl⟩}
 have hs:W.heap.size<=(grow W os).heap.size:=by simp[grow]
 refine⟨⟨λi s es e=>?_,λi o e lo=>?_,H.inj,λb hb=>⟨Nat.lt_of_lt_of_le (hS b hb) hs,(H.sep b hb).2⟩,λi hi=>Nat.lt_of_lt_of_le (H.bnd i hi) hs,λg cs hgl=>?_⟩,
  {K with os:=rfl,tape:=rfl,output:=rfl,size:=hs,out:=λb hb _=>hg b hb,img:=λi hi=> .inr ⟨i,hi,rfl⟩,newS:=λb hb=> .inl hb}⟩
 ·obtain⟨c,t,fr,a1,a2,a3,a4,a5⟩:=H.obj i s es e
  refine⟨c,t,fr,by rw[hg _ (H.bnd i (H.lt e))];exact a1,a2,a3,a4,λj a hj=>?_⟩
  obtain⟨b1,v,b2,b3⟩:=a5 j a hj
  exact⟨b1,v,b2,b3.kept K⟩
 ·rw[hg _ (H.bnd i (H.lt e))]
  exact(H.oobj i o e lo).mono λa v r=>r.kept K
 ·obtain⟨g1,g2⟩:=H.glob g cs hgl
  refine⟨g1,λj c' hj=>?_⟩
  obtain⟨v,k1,k2⟩:=g2 j c' hj
  exact⟨v,by rw[aP (K.pure g g1).2];exact k1,k2.mono K.pure⟩
end
theorem EM{α:Type}[Inhabited α](enc:α->Value){W:World}{n blk off:Nat}{d:Array α}{c:Array Value}{t:TypeId}{fr:Nat × Nat}(e:W.heap[blk]?=some (.cells c t fr)):
 BlockSet W (putRow enc (Go.Sort.ahead W n) blk off d) blk (putCells enc off d c) t fr where
 at_b:=by simp[putRow,mapBlock,Go.Sort.ahead,Array.getElem?_modify,e,onCells]
 other:=λb' hb=>by
  have:¬blk=b':=λe=>hb e.symm
  simp[putRow,mapBlock,Go.Sort.ahead,Array.getElem?_modify,this]
 size:=by simp[putRow,mapBlock,Go.Sort.ahead]
 os:=rfl
 tape:=rfl
 output:=rfl
def kM(xs:List Int):AO:= .row 1 (xs.map λx=>[.p (.int .i64 x)])
theorem yy(xs:List Int):(xs.map λx=>[AV.p (.int .i64 x)]).flatten=xs.map λx=> .p (.int .i64 x):=by
 induction xs with
 |nil=>rfl
 |cons x r ih=>rw[List.map_cons,List.flatten_cons,ih];rfl
theorem AC.shelfInts{P:Program}{G:az}{f:FuncId}{h:List AO}{id:Nat}{xs ys:List Int}{rv:AV}{r:Nat->Nat->Nat->Value}(hf:eg P f=true)(hid:h[id]?=some (kM xs))(hx:xs≠[])(hy:ys.length=xs.length)
 (hr:∀(W:World) (S:Nat->Prop) (φ:Place) (n cap:Nat),id<n->xs.length<=cap->(∀c t fr,W.heap[(φ id).1]?=some (.cells c t fr)->(φ id).2+cap<=c.size)->VRel W S φ n rv (r (φ id).1 (φ id).2 cap))
 (H:∀(blk off cap:Nat) (W:World),Holds (Value.int .i64) W blk off xs.toArray->blk<W.heap.size->xs.length<=cap->Calls P f #[.slice (some ⟨blk,off,none⟩) xs.length cap] W λe W'=>e= .returned (r blk off cap)/\∃n os,W'=grow (putRow (Value.int .i64) (Go.Sort.ahead W n) blk off ys.toArray) os):
 AC P G f [.sl id 1 0 xs.length] h λx h'=>x= .ret rv/\h'=h.set id (kM ys):=by
 refine⟨hf,λW S φ vs hH hA=>?_⟩
 obtain⟨c,t,fr,a1,a2,a3,a4,a5⟩:=hH.obj id 1 _ hid
 rw[yy] at a5
 rw[List.length_map,Nat.mul_one] at a4
 have hidl:=hH.lt hid
 have hs1:vs.size=1:=hA.1
 obtain⟨v0,rfl⟩:∃v0,vs=#[v0]:=⟨vs[0],by
  apply Array.ext
  ·simp[hs1]
  ·intro i h1 h2
   have:i=0:=by omega
   subst this;rfl⟩
 have hv:=hA.2 0 _ v0 rfl rfl
 cases hv with
 |sl _ _ _ _ cap ba _ hl hb hc=>
  rw[Nat.zero_mul,Nat.add_zero] at hb
  have hxl:0<xs.length:=List.length_pos_iff.2 hx
  rw[hb (by omega)]
  have hcell:∀j,j<xs.length->c[(φ id).2+j]?=some (.int .i64 xs[j]!):=λj hj=>by
   obtain⟨_,v,b2,b3⟩:=a5 j (.p (.int .i64 xs[j])) (by simp[hj])
   cases b3 with
   |p _ _ hp=>
    cases hp
    rw[b2];simp[hj]
  refine(H (φ id).1 (φ id).2 cap W (λj hj=>?_) (hH.bnd id hidl) hl).mono ?_
  ·have hj':j<xs.length:=by simpa using hj
   refine⟨?_,?_⟩
   ·simp only[World.cell?,a1]
    have:=hcell j hj'
    simpa using this
   ·have:=a2 ((φ id).2+j) (by omega)
    simp only[World.frozen?,a1]
    simpa using this
  ·rintro e W' ⟨rfl,n,os,rfl⟩
   have B:=EM (Value.int .i64) (n:=n) (off:=(φ id).2) (d:=ys.toArray) a1
   have hU:=hH.update (es':=ys.map λx=>[.p (.int .i64 x)]) hid a1 (by simp[putCells]) B (by simpa[putCells] using a2) (by simp) (by simp[putCells,hy];exact a4) (λj a hj=>by
    rw[yy] at hj
    have hjl:j<ys.length:=by
     have:=(List.getElem?_eq_some_iff.1 hj).1
     simpa using this
    have ha:a= .p (.int .i64 ys[j]):=by
     rw[List.getElem?_map,List.getElem?_eq_getElem hjl] at hj
     cases hj;rfl
    subst ha
    refine⟨rfl,.int .i64 ys[j],?_,.p _ _ (.int _ _)⟩
    have hb:(φ id).2+j<c.size:=by omega
    simp[putCells,hb,hjl])
   have hG:=hU.1.grown os
   refine⟨.ret rv,S,φ,h.set id (kM ys),⟨rfl,rfl⟩,hG.1,.ret _ _ (hr _ _ _ _ _ (by simpa using hidl) hl λc' t' fr' e'=>?_),hU.2.trans hG.2⟩
   have hlt:(φ id).1<(putRow (Value.int .i64) (Go.Sort.ahead W n) (φ id).1 (φ id).2 ys.toArray).heap.size:=by rw[B.size];exact hH.bnd id hidl
   have e2:(grow (putRow (Value.int .i64) (Go.Sort.ahead W n) (φ id).1 (φ id).2 ys.toArray) os).heap[(φ id).1]?=(putRow (Value.int .i64) (Go.Sort.ahead W n) (φ id).1 (φ id).2 ys.toArray).heap[(φ id).1]?:=by
    exact Array.getElem?_append_left hlt
   rw[e2,B.at_b] at e'
   cases e'
   have:=hc _ _ _ a1
   simp[putCells]
   omega
end Go.Aw
namespace Go.Aw
open Go
theorem ny{h:List AO}{id i:Nat}{o:AO}(e:(h.set id .dead)[i]?=some o)(l:o.live):i≠id/\h[i]?=some o:=by
 rw[List.getElem?_set] at e
 split at e
 ·split at e
  ·cases e;exact l.elim
  ·cases e
 ·rename_i hne
  exact⟨λh=>hne h.symm,e⟩
theorem cy{h:List AO}{id i:Nat}(l:Live (h.set id .dead) i):i≠id/\Live h i:=by
 obtain⟨o,e,l⟩:=l
 obtain⟨h1,h2⟩:=ny e l
 exact⟨h1,o,h2,l⟩
section
variable {G:az} {W:World} {S:Nat->Prop} {φ:Aw.Place} {h:List AO}
theorem HRel.forget(H:HRel G W S φ h)(id:Nat):HRel G W S φ (h.set id .dead) where
 obj:=λi sz es e=>by
  rw[List.length_set]
  exact H.obj i sz es (ny e trivial).2
 oobj:=λi o e l=>by
  rw[List.length_set]
  exact H.oobj i o (ny e l).2 l
 inj:=λi j li lj e=>H.inj i j (cy li).2 (cy lj).2 e
 sep:=λb hb=>⟨(H.sep b hb).1,λi li=>(H.sep b hb).2 i (cy li).2⟩
 bnd:=λi hi=>H.bnd i (by simpa using hi)
 glob:=H.glob
theorem Keep.forget{id:Nat}{W':World}{S':Nat->Prop}{φ':Aw.Place}{h':List AO}(K:Keep W S φ (h.set id .dead) W' S' φ' h'):Keep W S φ h W' S' φ' h' where
 pure:=K.pure
 len:=by have:=K.len;rwa[List.length_set] at this
 same:=λi hi=>K.same i (by rw[List.length_set];exact hi)
 blk:=λi hi=>K.blk i (by rw[List.length_set];exact hi)
 os:=K.os
 tape:=K.tape
 output:=K.output
 size:=K.size
 out:=λb hb hn=>K.out b hb λi li=>hn i (cy li).2
 img:=λi li=>by
  rcases K.img i li with h1|⟨j,h1,h2⟩
  ·exact .inl h1
  ·exact .inr ⟨j,(cy h1).2,h2⟩
 newS:=λb hb=>by
  rcases K.newS b hb with h1|h1|⟨j,h1,h2⟩
  ·exact .inl h1
  ·exact .inr (.inl h1)
  ·exact .inr (.inr ⟨j,(cy h1).2,h2⟩)
structure Aside (r:Nat) (w w':World):Prop where
 other:∀b,b≠r->w'.heap[b]?=w.heap[b]?
 size:w'.heap.size=w.heap.size
 cells:∀c t fr,w'.heap[r]?≠some (.cells c t fr)
 os:w'.os=w.os
 tape:w'.tape=w.tape
 output:w'.output=w.output
theorem Aside.kept{r n:Nat}{w w':World}(A:Aside r w w')(hS:¬S r):Kept w S φ n w' S φ n where
 pure:=λb hb=>⟨hb,A.other b λe=>hS (e▸hb)⟩
 len:=Nat.le_refl _
 same:=λ_ _=>rfl
 blk:=λi _ c t fr e=>by
  by_cases he:(φ i).1=r
  ·rw[he] at e;exact(A.cells c t fr e).elim
  ·rw[A.other _ he] at e;exact⟨c,t,fr,e,rfl⟩
theorem HRel.aside{r:Nat}{w w':World}(H:HRel G w S φ h)(A:Aside r w w')(hn:∀i,Live h i->(φ i).1≠r)(hS:¬S r):HRel G w' S φ h where
 obj:=λi sz es e=>by
  obtain⟨c,t,fr,a1,a2,a3,a4,a5⟩:=H.obj i sz es e
  refine⟨c,t,fr,by rw[A.other _ (hn i (bh e))];exact a1,a2,a3,a4,λj u hj=>?_⟩
  obtain⟨b1,v,b2,b3⟩:=a5 j u hj
  exact⟨b1,v,b2,b3.kept (A.kept hS)⟩
 oobj:=λi o e l=>by
  rw[A.other _ (hn i ⟨o,e,l⟩)]
  exact(H.oobj i o e l).mono λa v q=>q.kept (A.kept hS)
 inj:=H.inj
 sep:=λb hb=>⟨by rw[A.size];exact(H.sep b hb).1,(H.sep b hb).2⟩
 bnd:=λi hi=>by rw[A.size];exact H.bnd i hi
 glob:=λg cs hg=>by
  obtain⟨g1,g2⟩:=H.glob g cs hg
  refine⟨g1,λj c hj=>?_⟩
  obtain⟨v,v1,v2⟩:=g2 j c hj
  have hne:g≠r:=λe=>hS (e▸g1)
  exact⟨v,by rw[aP (A.other g hne)];exact v1,v2.mono λb hb=>⟨hb,A.other b λe=>hS (e▸hb)⟩⟩
theorem St.aside{W0:World}{S0:Nat->Prop}{φ0:Aw.Place}{h0:List AO}{a:Act}{ts:List AV}{r:Nat}{w w':World}(s:St G W0 S0 φ0 h0 w S φ a ts h)(A:Aside r w w')(hn:∀i,Live h i->(φ i).1≠r)(hS:¬S r)(hr:W0.heap.size<=r):St G W0 S0 φ0 h0 w' S φ a ts h where
 hrel:=s.hrel.aside A hn hS
 trel:=s.trel.kept (A.kept hS)
 defers:=s.defers
 keep:=by
  have k:=s.keep
  have q:Kept w S φ h.length w' S φ h.length:=A.kept hS
  exact{pure:=λb hb=>⟨(k.pure b hb).1,(q.pure b (k.pure b hb).1).2.trans (k.pure b hb).2⟩
        len:=k.len
        same:=k.same
        blk:=λi hi c t fr e=>by
         have h1:=q.blk i (Nat.lt_of_lt_of_le hi k.len) c t fr (by rw[k.same i hi];exact e)
         rw[k.same i hi] at h1
         obtain⟨c1,t1,fr1,e1,s1⟩:=h1
         obtain⟨c2,t2,fr2,e2,s2⟩:=k.blk i hi c1 t1 fr1 e1
         exact⟨c2,t2,fr2,e2,s2.trans s1⟩
        os:=A.os.trans k.os
        tape:=A.tape.trans k.tape
        output:=A.output.trans k.output
        size:=by rw[A.size];exact k.size
        out:=λb hb hn2=>(A.other b (by omega)).trans (k.out b hb hn2)
        img:=k.img
        newS:=k.newS}
end
structure Free (W:World) (S:Nat->Prop) (φ:Aw.Place) (h:List AO) (b:Nat):Prop where
 lt:b<W.heap.size
 live:∀i,Live h i->(φ i).1≠b
 notS:¬S b
theorem Free.keep{W W':World}{S S':Nat->Prop}{φ φ':Aw.Place}{h h':List AO}{b:Nat}(F:Free W S φ h b)(K:Keep W S φ h W' S' φ' h'):Free W' S' φ' h' b/\W'.heap[b]?=W.heap[b]?:=
 ⟨⟨Nat.lt_of_lt_of_le F.lt K.size,λi li e=>by
   rcases K.img i li with h1|⟨j,h1,h2⟩
   ·have:=F.lt;omega
   ·exact F.live j h1 (h2.trans e),λhb=>by
   rcases K.newS b hb with h1|h1|⟨j,h1,h2⟩
   ·exact F.notS h1
   ·have:=F.lt;omega
   ·exact F.live j h1 h2⟩,K.out b F.lt F.live⟩
theorem DH{P:Program}{G:az}{W0:World}{S0:Nat->Prop}{φ0:Aw.Place}{h0:List AO}{c:Code}{k:AK}(hk:gE P c=some k){W:World}{S:Nat->Prop}{φ:Aw.Place}{a:Act}{ts:List AV}{h:List AO}(s:St G W0 S0 φ0 h0 W S φ a ts h)
 {Q:AX->List AV->List AO->Prop}(hq:AKW P G h.length k ts h Q){Q':Exit->Act->World->Prop}
 (K:∀x ts' h' S' φ' e a' W',Q x ts' h'->XRel W' S' x e->St G W0 S0 φ0 h0 W' S' φ' a' ts' h'->Keep W S φ h W' S' φ' h'->Q' e a' W'):c.wp P Q' a W:=by
 have s1:St G W S φ h W S φ a ts h:=⟨s.hrel,s.trel,s.defers,Keep.refl s.hrel⟩
 refine wp_mono (vM (fL hk) s1 hq) λe a' W' ⟨x,ts',h',S',φ',q1,q2,q3⟩=>?_
 exact K x ts' h' S' φ' e a' W' q1 q2 ⟨q3.hrel,q3.trel,q3.defers,s.keep.trans q3.keep⟩ q3.keep
theorem St.forget{G:az}{W0:World}{S0:Nat->Prop}{φ0:Aw.Place}{h0:List AO}{id:Nat}{W:World}{S:Nat->Prop}{φ:Aw.Place}{a:Act}{ts:List AV}{h:List AO}(s:St G W0 S0 φ0 (h0.set id .dead) W S φ a ts h):St G W0 S0 φ0 h0 W S φ a ts h:=
 ⟨s.hrel,s.trel,s.defers,s.keep.forget⟩
theorem yw{l:List (Nat × AV)}:∀{l1:List (Nat × AV)},(∀x∈l1,look l x.1=x.2)->∀i,look l1 i= .any\/look l1 i=look l i
 |[],_,i=> .inl rfl
 |x::r,h,i=>by
  by_cases e:x.1=i
  ·right
   rw[look,if_pos e,←e]
   exact(h x (by simp)).symm
  ·rw[look,if_neg e]
   exact yw (λy hy=>h y (by simp[hy])) i
theorem St.less{G:az}{W0:World}{S0:Nat->Prop}{φ0:Aw.Place}{h0:List AO}{W:World}{S:Nat->Prop}{φ:Aw.Place}{a:Act}{n:Nat}{l l1:List (Nat × AV)}{h:List AO}(s:St G W0 S0 φ0 h0 W S φ a (aw n l) h)(hl:∀x∈l1,look l x.1=x.2):St G W0 S0 φ0 h0 W S φ a (aw n l1) h:=by
 refine⟨s.hrel,⟨by simpa[aw] using s.trel.size,λi v hi=>?_⟩,s.defers,s.keep⟩
 have hin:i<n:=by have:=(List.getElem?_eq_some_iff.1 hi).1;simpa[aw] using this
 rw[eO hin] at hi
 cases hi
 rcases yw hl i with e|e
 ·rw[e];exact .any _
 ·rw[e];exact s.trel.get i _ (eO hin)
theorem FH(n d:Nat)(v:AV)(l:List (Nat × AV)):put (some d) v (aw n l)=aw n ((d,v)::l):=by
 rw[←EW,←su];rfl
theorem St.set{G:az}{W0:World}{S0:Nat->Prop}{φ0:Aw.Place}{h0:List AO}{W:World}{S:Nat->Prop}{φ:Aw.Place}{a:Act}{n:Nat}{l:List (Nat × AV)}{h:List AO}(s:St G W0 S0 φ0 h0 W S φ a (aw n l) h){v:AV}{x:Value}(hv:VRel W S φ h.length v x)(d:Nat):St G W0 S0 φ0 h0 W S φ (a.put (some d) x) (aw n ((d,v)::l)) h:=by
 rw[←FH]
 exact s.put (some d) hv s.hrel (Keep.refl s.hrel)
theorem St.look{G:az}{W0:World}{S0:Nat->Prop}{φ0:Aw.Place}{h0:List AO}{W:World}{S:Nat->Prop}{φ:Aw.Place}{a:Act}{n:Nat}{l:List (Nat × AV)}{h:List AO}(s:St G W0 S0 φ0 h0 W S φ a (aw n l) h)(i:Nat)(hi:i<n):VRel W S φ h.length (look l i) (a.tmps.getD i undef):=s.trel.get i _ (eO hi)
theorem St.size{G:az}{W0:World}{S0:Nat->Prop}{φ0:Aw.Place}{h0:List AO}{W:World}{S:Nat->Prop}{φ:Aw.Place}{a:Act}{n:Nat}{l:List (Nat × AV)}{h:List AO}(s:St G W0 S0 φ0 h0 W S φ a (aw n l) h):a.tmps.size=n:=by
 have:=s.trel.size
 simpa[aw] using this
theorem uj{e:MapEntry}{p:MapEntry->Bool}:∀{l:List MapEntry},l.Pairwise (λx y=>x.born≠y.born)->e∈l->p e=true->(l.filter p).Perm (e::l.filter λx=>p x&&x.born !=e.born)
 |x::r,hp,he,hpe=>by
  obtain⟨h1,h2⟩:=List.pairwise_cons.1 hp
  rcases List.mem_cons.1 he with rfl|he
  ·have e1:(r.filter λx=>p x&&x.born !=e.born)=r.filter p:=List.filter_congr λy hy=>by
    have:y.born≠e.born:=λq=>h1 y hy q.symm
    simp[this]
   rw[List.filter_cons,if_pos hpe,List.filter_cons,if_neg (by simp),e1]
  ·have hne:x.born≠e.born:=h1 e he
   have ih:=uj h2 he hpe
   rw[List.filter_cons,List.filter_cons]
   by_cases hx:p x=true
   ·rw[if_pos hx,if_pos (by simp[hx,hne])]
    exact(ih.cons x).trans (List.Perm.swap e x _)
   ·rw[if_neg hx,if_neg (by simp[hx])]
    exact ih
theorem vU{ents:Array MapEntry}{seen:Array Nat}{e:MapEntry}(hp:ents.toList.Pairwise (λx y=>x.born≠y.born))(he:e∈(leftOf ents seen).toList):(leftOf ents seen).toList.Perm (e::(leftOf ents (seen.push e.born)).toList):=by
 simp only[leftOf,Array.toList_filter] at he⊢
 obtain⟨h1,h2⟩:=List.mem_filter.1 he
 refine(uj hp h1 h2).trans (List.Perm.of_eq ?_)
 congr 1
 refine List.filter_congr λx _=>?_
 by_cases hx:x.born=e.born
 ·simp[hx]
 ·simp[hx]
theorem BD{ents:Array MapEntry}(h:∀(i j:Nat) (e e':MapEntry),ents[i]?=some e->ents[j]?=some e'->e.born=e'.born->i=j):ents.toList.Pairwise (λx y=>x.born≠y.born):=by
 rw[List.pairwise_iff_getElem]
 intro i j hi hj hij e
 have:=h i j ents.toList[i] ents.toList[j] (by rw[←Array.getElem?_toList];exact List.getElem?_eq_getElem hi) (by rw[←Array.getElem?_toList];exact List.getElem?_eq_getElem hj) e
 omega
theorem EE{w w1:World}(hw:w1=w\/w1=w.drew){r:Nat}{o:Obj}(ho:∀c t fr,o≠ .cells c t fr):Aside r w (Go.ChangeMaps.setBlock w1 r o):=by
 have hh:w1.heap=w.heap:=by rcases hw with rfl|rfl<;>rfl
 refine⟨λb hb=>?_,?_,λc t fr e=>?_,?_,?_,?_⟩
 ·simp only[Go.ChangeMaps.setBlock,hh]
  exact Array.getElem?_setIfInBounds_ne λe=>hb e.symm
 ·simp[Go.ChangeMaps.setBlock,hh]
 ·simp only[Go.ChangeMaps.setBlock,hh] at e
  rw[Array.getElem?_setIfInBounds] at e
  rw[if_pos rfl] at e
  split at e
  ·cases e;exact ho _ _ _ rfl
  ·cases e
 ·rcases hw with rfl|rfl<;>rfl
 ·rcases hw with rfl|rfl<;>rfl
 ·rcases hw with rfl|rfl<;>rfl
theorem eH{P:Program}{ops:Array Oper}{Q:Exit->Act->World->Prop}{o:Oper}{rest:List Oper}{a:Act}{w w':World}{v:Value}(hg:o.guard=none)(hr:(execOp a.eval o).run P w= .ok (.value v) w')(h:wpList P ops Q rest (a.put o.dst v) w'):wpList P ops Q (o::rest) a w:=by
 simp only[wpList]
 rw[if_pos (by simp[Region.wanted,hg])]
 refine .inl ?_
 unfold Oper.wp
 rw[hr]
 exact h
theorem ic{a:Act}{d:Nat}{v:Value}(h:d<a.tmps.size):(a.put (some d) v).eval (.tmp d)=v:=by simp[Act.eval,Act.put,h]
theorem sE(a:Act)(d:Nat)(v:Value):(a.put (some d) v).tmps.size=a.tmps.size:=by simp[Act.put]
theorem uz{P:Program}{m:Sem Value}{w w':World}{v:Value}(h:m.run P w= .ok v w'):(do let x ←m;pure (Next.value x):Sem Next).run P w= .ok (.value v) w':=by
 rw[Sem.run_bind,h];rfl
theorem BH(w:World)(o:Obj):w.alloc o=Go.Sort.grow w #[o]:=by
 simp only[World.alloc,Go.Sort.grow]
 rw[Array.push_eq_append]
theorem AC.enterC{P:Program}{G:az}{f:FuncId}{fn:Func}{c:Code}{rs:List RV}(hf:P.funcs[f]?=some fn)(hb:fn.body=some c)(hr:lO P fn.results.toList=some rs)(hcall:eg P f=true){args:List AV}{h:List AO}{R:ARes->List AO->Prop}
 (H:∀(W:World) (S:Nat->Prop) (φ:Aw.Place) (a:Act),HRel G W S φ h->St G W S φ h W S φ a (args++List.replicate (fn.ntmps-args.length) .any) h->c.wp P (vj G W S φ h (pz G rs R)) a W):AC P G f args h R:=by
 refine⟨hcall,λW S φ vs hH hA=>?_⟩
 have s:St G W S φ h W S φ {tmps:=vs++Array.replicate (fn.ntmps-vs.size) undef,defers:=[]} (args++List.replicate (fn.ntmps-args.length) .any) h:=by
  refine⟨hH,⟨by simp[hA.1],λi v hi=>?_⟩,rfl,Keep.refl hH⟩
  rw[List.getElem?_append] at hi
  split at hi
  ·rename_i hl
   have hl':i<vs.size:=by rw[hA.1];exact hl
   have:(vs++Array.replicate (fn.ntmps-vs.size) undef).getD i undef=vs[i]:=by
    rw[Array.getD_eq_getD_getElem?,Array.getElem?_append_left hl',Array.getElem?_eq_getElem hl'];rfl
   simp only
   rw[this]
   exact hA.2 i v _ hi (Array.getElem?_eq_getElem hl')
  ·have:=List.mem_of_getElem? hi
   rw[(List.mem_replicate.1 this).2]
   exact .any _
 refine calls_of_wp hf hb (wp_mono (H W S φ _ hH s) λe a' W' ⟨x,ts,h',S',φ',q1,q2,q3⟩=>?_)
 have fin:(∃vs,kL G ts h' rs=some vs/\R (.ret (mG vs)) h')->a'.defers=[]/\∃v,(results fn a'.tmps).run P W'= .ok v W'/\∃r S' φ' h',R r h'/\HRel G W' S' φ' h'/\ERel W' S' φ' h'.length r (.returned v)/\Keep W S φ h W' S' φ' h':=λ⟨vs,e1,e2⟩=>by
  obtain⟨xs,k1,k2⟩:=sB q3.hrel q3.trel hr e1
  have hm:(fn.results.mapM λr=>(match r with| .tmp t=>pure (a'.tmps.getD t undef)| .cell d t=>do loadVar t (←asAddr (a'.tmps.getD d undef)):Sem Value)).run P W'= .ok xs.toArray W':=by
   rw[Array.mapM_eq_mapM_toList,Sem.run_map]
   exact(congrArg (λr=>Result.andThen r λa w'=>Result.ok a.toArray w') k1).trans rfl
  refine⟨q3.defers,if h:xs.toArray.size=1 then xs.toArray[0] else .tuple xs.toArray,?_,.ret (mG vs),S',φ',h',e2,q3.hrel,.ret _ _ ?_,q3.keep⟩
  ·unfold results
   rw[Sem.run_bind]
   refine(congrArg (λr=>Result.andThen r _) hm).trans ?_
   rfl
  ·have hl:=k2.1
   match vs,xs,hl,k2 with
   |[],[],_,k2=>exact .tup _ _ rfl λj c v h1=>by simp at h1
   |[v],[x],_,k2=>exact k2.2 0 v x rfl rfl
   |v::v'::r,x::x'::r',hl,k2=>exact .tup _ _ (by simpa using hl) λj c y h1 h2=>k2.2 j c y h1 (by simpa using h2)
 cases q2 with
 |normal=>exact fin q1
 |ret=>exact fin q1
 |exit id=>exact q1.elim
 |pan t v x hp=>exact⟨q3.defers,_,S',φ',h',q1,q3.hrel,.pan t v x hp,q3.keep⟩
end Go.Aw
