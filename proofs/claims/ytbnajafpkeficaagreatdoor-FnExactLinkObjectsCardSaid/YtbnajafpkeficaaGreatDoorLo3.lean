/-
  Contracts and lemmas that the card needs, part 3.
-/
import Derived.Test.YtbnajafpkeficaaGreatDoorLo2
import Derived.ChangeSame
import Derived.ReadAgain
import Derived.OpenShut
import Derived.Deep.DeepHandedRow
namespace Go.Aw
def jS(P:Program)(L:List TypeId)(t:TypeId):Bool:=
 match P.underlying t with
 |some .bool|some (.int _)|some .string=>P.cellsOf t==1
 |some (.slice e)=>P.cellsOf t==1&&L.contains e&&decide (0<P.cellsOf e)
 |some (.array n e)=>L.contains e&&P.cellsOf t==n*P.cellsOf e
 |some (.struct fs)=>fs.toList.all (λf=>L.contains f.type)&&P.cellsOf t==(fs.toList.map λf=>P.cellsOf f.type).sum&&
   (List.range fs.size).all λj=>match fs.toList[j]? with
     |some f=>f.offset==((fs.toList.take j).map λf=>P.cellsOf f.type).sum
     |none=>true
 |_=>false
def Plain(P:Program)(L:List TypeId):Bool:=L.all (jS P L)
theorem Plain.kids{P:Program}{L:List TypeId}(h:Plain P L=true):Kids P (· ∈L):=by
 have k:∀t,t∈L->jS P L t=true:=λt ht=>List.all_eq_true.1 h t ht
 refine⟨λht hu=>?_,λht hu=>?_,λht hu=>?_,λht hu=>?_,λht hu=>?_⟩
 ·have:=k _ ht;simp[jS,hu] at this
 ·have:=k _ ht;simp[jS,hu] at this;exact this.1.2
 ·have:=k _ ht;simp[jS,hu] at this;exact this
 ·rename_i t fs
  have:=k _ ht
  simp only[jS,hu,Bool.and_eq_true,List.all_eq_true,beq_iff_eq,List.contains_iff_mem] at this
  refine⟨λf hf=>this.1.1 f hf,this.1.2,λj f hj=>?_⟩
  have h2:=this.2 j (by
   have:=(List.getElem?_eq_some_iff.1 hj).1
   simpa using this)
  rw[hj] at h2
  simpa using h2
 ·have:=k _ ht;simp[jS,hu] at this
mutual
inductive Conf (P:Program):TypeId->List PV->Prop
 |bool {t:TypeId} (b:Bool):P.underlying t=some .bool->Conf P t [.bool b]
 |int {t:TypeId} {k:IntKind} (n:Int):P.underlying t=some (.int k)->(Lit.int k n).wf=true->Conf P t [.int k n]
 |str {t:TypeId} (s:List UInt8):P.underlying t=some .string->s.length<=maxLen->Conf P t [.str s]
 |sl {t e:TypeId} (es:List (List PV)):P.underlying t=some (.slice e)->es.length<=maxLen->(∀x,x∈es->Conf P e x)->Conf P t [.lst (P.cellsOf e) es]
 |st {t:TypeId} {fs:Array Field} (vs:List PV):P.underlying t=some (.struct fs)->ConfS P (fs.toList.map (·.type)) vs->Conf P t vs
 |arr {t e:TypeId} {n:Nat} (vs:List PV):P.underlying t=some (.array n e)->ConfS P (List.replicate n e) vs->Conf P t vs
inductive ConfS (P:Program):List TypeId->List PV->Prop
 |nil:ConfS P [] []
 |cons {t:TypeId} {ts:List TypeId} {a b:List PV}:Conf P t a->ConfS P ts b->ConfS P (t::ts) (a++b)
end
mutual
def zr:PV->Nat
 | .bool _=>1
 | .int _ _=>1
 | .str s=>s.length+1
 | .lst _ es=>fL es+1
 | .tbl _ _=>1
def eF:List PV->Nat
 |[]=>0
 |v::r=>zr v+eF r
def fL:List (List PV)->Nat
 |[]=>0
 |v::r=>eF v+fL r
end
theorem yg(a b:List PV):eF (a++b)=eF a+eF b:=by
 induction a with
 |nil=>simp[eF]
 |cons v r ih=>simp[eF,ih];omega
def gS{H:Type}(P:Program):Nat->TypeId->DataW H->List PV
 |0,_,_=>[]
 |n+1,t,d=>match P.underlying t,d with
  |some .bool,.lit (.bool b)=>[.bool b]
  |some (.int _),.lit (.int k n)=>[.int k n]
  |some .string,.lit (.string s)=>[.str s]
  |some (.slice e),.slice es _=>[.lst (P.cellsOf e) (es.map (gS P n e))]
  |some (.slice e),.nil=>[.lst (P.cellsOf e) []]
  |some (.struct fs),.agg ps=>(List.zipWith (λt x=>gS P n t x) (fs.toList.map (·.type)) ps).flatten
  |some (.array m e),.agg ps=>(List.zipWith (λt x=>gS P n t x) (List.replicate m e) ps).flatten
  |_,_=>[]
structure BulkOk {H:Type} (ub:DataW H->Nat):Prop where
 lit:∀l,1<=ub (.lit l)
 str:∀s,s.length+1<=ub (.lit (.string s))
 nil:1<=ub .nil
 slice:∀es sp,(es.map ub).sum+1<=ub (.slice es sp)
 agg:∀ps,(ps.map ub).sum+1<=ub (.agg ps)
structure Reads {H:Type} (P:Program) (W:World) (ub:DataW H->Nat) (t:TypeId) (cs:List Value) (d:DataW H) (vs:List PV):Prop where
 conf:Conf P t vs
 len:vs.length=P.cellsOf t
 clen:cs.length=P.cellsOf t
 rel:∀(j:Nat) (c:PV) (v:Value),vs[j]?=some c->cs[j]?=some v->PRel W (· <W.heap.size) c v
 bulk:eF vs<=ub d
theorem mV{α β:Type}{f:α->Option β}:∀{l:List α} {r:List β},l.mapM f=some r->r.length=l.length/\∀(i:Nat) (x:α),l[i]?=some x->∃y,f x=some y/\r[i]?=some y
 |[],r,h=>by simp at h;subst h;simp
 |a::l,r,h=>by
  simp only[List.mapM_cons,Option.bind_eq_bind,Option.bind_eq_some_iff] at h
  obtain⟨y,hy,r',hr,e⟩:=h
  cases e
  obtain⟨h1,h2⟩:=mV hr
  refine⟨by simp[h1],λi x hi=>?_⟩
  cases i with
  |zero=>simp at hi;subst hi;exact⟨y,hy,rfl⟩
  |succ i=>simpa using h2 i x (by simpa using hi)
theorem Ds{w:World}{a:Addr}{v:Value}(h:w.cell? a=some v):a.spot=none:=by
 cases hsp:a.spot with
 |none=>rfl
 |some s=>
  simp only[World.cell?] at h
  split at h
  ·simp[hsp] at h
  ·cases h
theorem AD{a:Addr}(h:a.spot=none)(i:Nat):a.add i=⟨a.block,a.off+i,none⟩:=by
 unfold Addr.add
 split
 ·rename_i h0;subst h0;cases a;simp_all
 ·rfl
theorem uN{w:World}{b:Nat}{a:Addr}{n:Nat}{cs:List Value}(h:w.cells? b a n=some cs):
 cs.length=n/\(0<n->a.spot=none)/\∀i,i<n->∃v,cs[i]?=some v/\w.cell? ⟨a.block,a.off+i,none⟩=some v:=by
 unfold World.cells? at h
 split at h
 ·obtain⟨h1,h2⟩:=mV h
  have hs:0<n->a.spot=none:=λhn=>by
   obtain⟨y,hy,_⟩:=h2 0 0 (by simp[hn])
   exact Ds hy
  refine⟨by simpa using h1,hs,λi hi=>?_⟩
  obtain⟨y,hy,hr⟩:=h2 i i (by simp[hi])
  rw[AD (hs (by omega))] at hy
  exact⟨y,hr,hy⟩
 ·cases h
section
variable {H:Type} {enc:TypeId × Value->H} {P:Program} {W:World} {sp:Nat->Bool} {held:Bool} {L:List TypeId} {ub:DataW H->Nat}
theorem sb(r:TypeId->List Value->Option (DataW H × List MemPlace))(pv:TypeId->DataW H->List PV)
 (hr:∀t cs x,t∈L->r t cs=some x->Reads P W ub t cs x.1 (pv t x.1))(cs:List Value):
 ∀(ts:List TypeId) (xs:List (DataW H × List MemPlace)) (off:Nat),(∀t∈ts,t∈L)->xs.length=ts.length->
  (∀(j:Nat) t,ts[j]?=some t->∃y,xs[j]?=some y/\r t ((cs.drop (off+((ts.take j).map P.cellsOf).sum)).take (P.cellsOf t))=some y)->
  ConfS P ts (List.zipWith pv ts (xs.map (·.1))).flatten/\(List.zipWith pv ts (xs.map (·.1))).flatten.length=(ts.map P.cellsOf).sum/\
  (∀(j:Nat) (c:PV) (v:Value),(List.zipWith pv ts (xs.map (·.1))).flatten[j]?=some c->cs[off+j]?=some v->PRel W (· <W.heap.size) c v)/\
  eF (List.zipWith pv ts (xs.map (·.1))).flatten<=((xs.map (·.1)).map ub).sum
 |[],[],off,_,_,_=>⟨.nil,rfl,by simp,by simp[eF]⟩
 |t::ts,x::xs,off,hL,hl,h=>by
  obtain⟨y,hy,h0⟩:=h 0 t rfl
  simp at hy;subst hy
  have R:=hr _ _ _ (hL t (by simp)) h0
  obtain⟨i1,i2,i3,i4⟩:=sb r pv hr cs ts xs (off+P.cellsOf t) (λt ht=>hL t (by simp[ht])) (by simpa using hl) (λj t' hj=>by
   obtain⟨y,hy,h1⟩:=h (j+1) t' (by simpa using hj)
   refine⟨y,by simpa using hy,?_⟩
   simpa[Nat.add_assoc] using h1)
  simp only[List.map_cons,List.zipWith_cons_cons,List.flatten_cons]
  refine⟨.cons R.conf i1,by simp[i2,R.len],λj c v hc hv=>?_,by rw[yg];have:=R.bulk;simp only[List.sum_cons];omega⟩
  by_cases hj:j<(pv t x.1).length
  ·rw[List.getElem?_append_left hj] at hc
   refine R.rel j c v hc ?_
   rw[R.len] at hj
   rw[List.getElem?_take,if_pos hj,List.getElem?_drop]
   simpa using hv
  ·rw[List.getElem?_append_right (by omega),R.len] at hc
   rw[R.len] at hj
   exact i3 _ c v hc (by rw[←hv];congr 1;omega)
theorem JJ(hP:Plain P L=true)(hub:BulkOk ub):∀(n:Nat) (t:TypeId) (cs:List Value) (x:DataW H × List MemPlace),t∈L->
 DataW.trod enc P W 0 sp held n t cs=some x->Reads P W ub t cs x.1 (gS P n t x.1):=by
 intro n
 induction n with
 |zero=>intro t cs x _ h;simp[DataW.trod] at h
 |succ n ih=>
  intro t cs x hL h
  have hk:=List.all_eq_true.1 hP t hL
  have lZ:∀(pv:PV) (v:Value),PRel W (· <W.heap.size) pv v->∀(j:Nat) (c:PV) (v':Value),[pv][j]?=some c->[v][j]?=some v'->PRel W (· <W.heap.size) c v':=by
   intro pv v hp j c v' h1 h2
   cases j with
   |zero=>simp at h1 h2;subst h1;subst h2;exact hp
   |succ j=>simp at h1
  unfold jS at hk
  unfold DataW.trod at h
  split at hk
  ·rename_i hu
   rw[hu] at h
   split at h<;>simp_all
   subst h
   simp only[gS,hu]
   exact⟨.bool _ hu,by simp[hk],by simp[hk],lZ _ _ (.bool _),by simpa[eF,zr] using hub.lit _⟩
  ·rename_i hu
   rw[hu] at h
   split at h<;>simp_all
   obtain⟨⟨rfl,hw⟩,rfl⟩:=h
   simp only[gS,hu]
   exact⟨.int _ hu hw,by simp[hk],by simp[hk],lZ _ _ (.int _ _),by simpa[eF,zr] using hub.lit _⟩
  ·rename_i hu
   rw[hu] at h
   split at h<;>simp_all
   obtain⟨hw,rfl⟩:=h
   simp only[gS,hu]
   exact⟨.str _ hu (by simpa using hw),by simp[hk],by simp[hk],lZ _ _ (.str _),by simp only[eF,zr,Nat.add_zero];exact hub.str _⟩
  ·rename_i e hu
   rw[hu] at h
   simp at hk
   split at h
   all_goals first|(exfalso;simp only[Option.some.injEq,reduceCtorEq] at*;done)|skip
   ·cases h
    simp only[gS,hu]
    refine⟨.sl [] hu (by simp) (by simp),by simp[hk],by simp[hk],lZ _ _ (.lst0 _ _ _),by simpa[eF,zr,fL] using hub.nil⟩
   ·rename_i e' a len cap he
    injection he with he
    injection he with he
    subst he
    simp only at h
    split at h
    ·rename_i hc
     simp only[Option.bind_eq_some_iff,Option.map_eq_some_iff] at h
     obtain⟨elems,h1,rest,h2,rfl⟩:=h
     obtain⟨hl,hg⟩:=mV h1
     simp only[List.length_range] at hl
     have hR:∀i,i<len->∃cs y,W.cells? 0 (a.add (i*P.cellsOf e)) (P.cellsOf e)=some cs/\elems[i]?=some y/\Reads P W ub e cs y.1 (gS P n e y.1):=λi hi=>by
      obtain⟨y,hy,hy2⟩:=hg i i (by simp[hi])
      simp only[Option.bind_eq_some_iff] at hy
      obtain⟨cs,hc1,hc2⟩:=hy
      exact⟨cs,y,hc1,hy2,ih _ _ _ hk.1.2 hc2⟩
     have hlen:∀x∈(elems.map (·.1)).map (gS P n e),Conf P e x/\x.length=P.cellsOf e:=by
      intro x hx
      obtain⟨i,hi⟩:=List.getElem?_of_mem hx
      have hi':=(List.getElem?_eq_some_iff.1 hi).1
      simp[hl] at hi'
      obtain⟨cs,y,_,hy,R⟩:=hR i hi'
      simp[hy] at hi
      subst hi
      exact⟨R.conf,R.len⟩
     have hfl:∀(j:Nat) (c:PV),(((elems.map (·.1)).map (gS P n e)).flatten)[j]?=some c->a.spot=none/\a.block<W.heap.size/\∃v,W.cell? ⟨a.block,a.off+j,none⟩=some v/\PRel W (· <W.heap.size) c v:=by
      intro j c hj
      have hpos:=hk.2
      have e1:j=(j/P.cellsOf e)*P.cellsOf e+j%P.cellsOf e:=by rw[Nat.mul_comm];exact(Nat.div_add_mod _ _).symm
      have e2:j%P.cellsOf e<P.cellsOf e:=Nat.mod_lt _ hpos
      rw[e1,bv (λx hx=>(hlen x hx).2) _ _ e2] at hj
      simp only[Option.bind_eq_some_iff] at hj
      obtain⟨x,hx,hx2⟩:=hj
      have hi':=(List.getElem?_eq_some_iff.1 hx).1
      simp[hl] at hi'
      obtain⟨cs,y,hcs,hy,R⟩:=hR _ hi'
      simp[hy] at hx
      subst hx
      obtain⟨g1,g2,g3⟩:=uN hcs
      obtain⟨v,hv,hv2⟩:=g3 _ e2
      obtain⟨cs0,y0,hcs0,_,_⟩:=hR 0 (Nat.lt_of_le_of_lt (Nat.zero_le _) hi')
      have hsp:=(uN hcs0).2.1 hpos
      simp only[Nat.zero_mul] at hsp
      have hsp':a.spot=none:=by simpa[Addr.add] using hsp
      rw[AD hsp'] at hv2
      refine⟨hsp',?_,v,?_,R.rel _ _ _ hx2 hv⟩
      ·simp only[World.cell?] at hv2
       split at hv2
       ·rename_i h3
        exact(Array.getElem?_eq_some_iff.1 h3).1
       ·cases hv2
      ·rw[show a.off+j=a.off+(j/P.cellsOf e)*P.cellsOf e+j%P.cellsOf e by omega]
       exact hv2
     simp only[gS,hu]
     refine⟨.sl _ hu (by simp;omega) (λx hx=>(hlen x hx).1),by simp[hk],by simp[hk],lZ _ _ ?_,?_⟩
     ·have hll:((elems.map (·.1)).map (gS P n e)).length=len:=by simp[hl]
      cases len with
      |zero=>
       have:elems=[]:=List.length_eq_zero_iff.1 hl
       subst this
       exact .lst0 _ _ _
      |succ len=>
       have hex:∃c,(((elems.map (·.1)).map (gS P n e)).flatten)[0]?=some c:=by
        have:0<(((elems.map (·.1)).map (gS P n e)).flatten).length:=by
         rw[aK (λx hx=>(hlen x hx).2),hll]
         exact Nat.mul_pos (by omega) hk.2
        exact⟨_,List.getElem?_eq_getElem this⟩
       obtain⟨c0,hc0⟩:=hex
       obtain⟨s1,s2,_⟩:=hfl 0 c0 hc0
       have ea:a=⟨a.block,a.off,none⟩:=by cases a;simp_all
       have:=PRel.lst (W:=W) (S:=(· <W.heap.size)) (P.cellsOf e) ((elems.map (·.1)).map (gS P n e)) a.block a.off cap (λj=>(W.cell? ⟨a.block,a.off+j,none⟩).getD default) s2 (λx hx=>(hlen x hx).2) (by rw[hll];exact hc.2.1)
        (λj c hj=>by obtain⟨_,_,v,h3,h4⟩:=hfl j c hj;simp[h3]) (λj c hj=>by obtain⟨_,_,v,h3,h4⟩:=hfl j c hj;simpa[h3] using h4)
       rw[hll,←ea] at this
       exact this
     ·have hb:=hub.slice (elems.map (·.1)) (rest.map (·.1))
      have:fL ((elems.map (·.1)).map (gS P n e))<=((elems.map (·.1)).map ub).sum:=by
       have key:∀l:List (DataW H × List MemPlace),(∀y∈l,eF (gS P n e y.1)<=ub y.1)->fL ((l.map (·.1)).map (gS P n e))<=((l.map (·.1)).map ub).sum:=by
        intro l
        induction l with
        |nil=>intro _;simp[fL]
        |cons y r ihl=>
         intro hy
         have h1:=hy y (by simp)
         have h2:=ihl λz hz=>hy z (by simp[hz])
         simp only[List.map_cons,fL,List.sum_cons]
         omega
       refine key elems λy hy=>?_
       obtain⟨i,hi⟩:=List.getElem?_of_mem hy
       have hi':=(List.getElem?_eq_some_iff.1 hi).1
       rw[hl] at hi'
       obtain⟨_,y',_,hy',R⟩:=hR i hi'
       rw[hi] at hy'
       cases hy'
       exact R.bulk
      simp only[eF,zr]
      omega
    ·cases h
  ·rename_i m e hu
   rw[hu] at h
   simp at hk
   dsimp only at h
   split at h
   ·rename_i hc
    simp only[Option.map_eq_some_iff] at h
    obtain⟨xs,h1,rfl⟩:=h
    obtain⟨hl,hg⟩:=mV h1
    simp only[List.length_range] at hl
    have hsum:∀j,j<=m->(((List.replicate m e).take j).map P.cellsOf).sum=j*P.cellsOf e:=λj hj=>by
     rw[List.take_replicate,List.map_replicate,List.sum_replicate_nat,Nat.min_eq_left hj]
    obtain⟨i1,i2,i3,i4⟩:=sb (L:=L) (P:=P) (W:=W) (ub:=ub) (DataW.trod enc P W 0 sp held n) (gS P n) (λt cs x ht hx=>ih t cs x ht hx) cs (List.replicate m e) xs 0 (λt ht=>by rw[List.eq_of_mem_replicate ht];exact hk.1) (by simp[hl]) (λj t hj=>by
     obtain⟨hj1,hj2⟩:=List.getElem?_eq_some_iff.1 hj
     simp at hj1 hj2
     subst hj2
     obtain⟨y,hy,hy2⟩:=hg j j (by simp[hj1])
     refine⟨y,hy2,?_⟩
     rw[hsum j (by omega),Nat.zero_add]
     exact hy)
    simp only[gS,hu]
    refine⟨.arr _ hu i1,?_,hc,λj c v h1 h2=>i3 j c v h1 (by simpa using h2),?_⟩
    ·rw[i2,hk.2]
     simp
    ·exact Nat.le_trans i4 (Nat.le_trans (Nat.le_succ _) (hub.agg _))
   ·cases h
  ·rename_i fs hu
   rw[hu] at h
   simp only[Bool.and_eq_true,List.all_eq_true,beq_iff_eq,List.contains_iff_mem] at hk
   dsimp only at h
   split at h
   ·rename_i hc
    simp only[Option.map_eq_some_iff] at h
    obtain⟨xs,h1,rfl⟩:=h
    obtain⟨hl,hg⟩:=mV h1
    obtain⟨i1,i2,i3,i4⟩:=sb (L:=L) (P:=P) (W:=W) (ub:=ub) (DataW.trod enc P W 0 sp held n) (gS P n) (λt cs x ht hx=>ih t cs x ht hx) cs (fs.toList.map (·.type)) xs 0 (λt ht=>by
     obtain⟨f,hf,rfl⟩:=List.mem_map.1 ht
     exact hk.1.1 f hf) (by simp[hl]) (λj t hj=>by
     simp only[List.getElem?_map,Option.map_eq_some_iff] at hj
     obtain⟨f,hj,rfl⟩:=hj
     obtain⟨y,hy,hy2⟩:=hg j f hj
     refine⟨y,hy2,?_⟩
     have h2:=hk.2 j (by
      have:=(List.getElem?_eq_some_iff.1 hj).1
      simpa using this)
     rw[hj] at h2
     simp only[beq_iff_eq] at h2
     rw[h2] at hy
     rw[Nat.zero_add,←List.map_take,List.map_map]
     exact hy)
    simp only[gS,hu]
    refine⟨.st _ hu i1,?_,hc,λj c v h1 h2=>i3 j c v h1 (by simpa using h2),?_⟩
    ·rw[i2,hk.1.2,List.map_map];rfl
    ·exact Nat.le_trans i4 (Nat.le_trans (Nat.le_succ _) (hub.agg _))
   ·cases h
  ·cases hk
end
end Go.Aw
namespace Go.Aw
open Go.ChangeShapes Go.WideShapes Go.RowKit
def Ei(P:Program)(t:TypeId)(vs:List PV):AV:=
 match P.underlying t with
 |some (.struct _)|some (.array _ _)=> .agg (vs.map .p)
 |_=> .p (vs.headD (.bool false))
section
variable {H:Type} {enc:TypeId × Value->H} {P:Program} {W W':World} {L:List TypeId} {ub:DataW H->Nat} {φ:au} {n:Nat}
theorem Jd{t:TypeId}{v:Value}{d:DataW H}{vs:List PV}{base:Nat}(hk:jS P L t=true)(R:Reads P W ub t v.cells.toList d vs)(hv:Value.okWide P W .any base t v):
 VRel W (· <W.heap.size) φ n (Ei P t vs) v:=by
 have agg:∀cs:Array Value,v= .agg cs->VRel W (· <W.heap.size) φ n (.agg (vs.map .p)) v:=by
  intro cs e
  subst e
  have hl:=R.clen
  simp only[Value.cells,Array.length_toList] at hl
  refine .agg _ cs (by simp[R.len,hl]) λj c x hc hx=>?_
  simp only[List.getElem?_map,Option.map_eq_some_iff] at hc
  obtain⟨c',hc',rfl⟩:=hc
  exact .p _ _ (R.rel j c' x hc' (by simpa[Value.cells] using hx))
 have lZ:(v.cells=#[v])->P.cellsOf t=1->VRel W (· <W.heap.size) φ n (.p (vs.headD (.bool false))) v:=by
  intro e h1
  have hl:=R.len
  rw[h1] at hl
  match vs,hl,R with
  |[c],_,R=>exact .p _ _ (R.rel 0 c v rfl (by simp[e]))
 unfold Ei
 unfold jS at hk
 split at hk
 ·rename_i hu
  rw[hu]
  obtain⟨b,rfl⟩:=okWide_bool hu hv
  exact lZ rfl (by simpa using hk)
 ·rename_i hu
  rw[hu]
  obtain⟨b,rfl⟩:=okWide_int hu hv
  exact lZ rfl (by simpa using hk)
 ·rename_i hu
  rw[hu]
  obtain⟨b,rfl⟩:=okWide_string hu hv
  exact lZ rfl (by simpa using hk)
 ·rename_i hu
  rw[hu]
  obtain⟨a,len,cap,rfl⟩:=okWide_slice hu hv
  simp at hk
  exact lZ rfl hk.1.1
 ·rename_i hu
  rw[hu]
  simp only[Value.okWide,hu] at hv
  obtain⟨cs,e,_⟩:=hv
  exact agg cs e
 ·rename_i hu
  rw[hu]
  obtain⟨cs,e,_⟩:=okWide_struct hu hv
  exact agg cs e
 ·cases hk
def jU(P:Program)(ts:List TypeId)(vss:List (List PV)):List AV:=List.zipWith (Ei P) ts vss
inductive Confs (P:Program):List TypeId->List (List PV)->Prop
 |nil:Confs P [] []
 |cons {t:TypeId} {ts:List TypeId} {vs:List PV} {vss:List (List PV)}:Conf P t vs->Confs P ts vss->Confs P (t::ts) (vs::vss)
theorem BR(hP:Plain P L=true)(hub:BulkOk ub){base:Nat}:∀{ts:List TypeId} {vs:List Value} {ds:List (DataW H)} {p:List MemPlace},(∀t∈ts,t∈L)->
 DataW.TrodAll enc P W 0 (λ_=>true) true ts vs ds p->(∀(j:Nat) t v,ts[j]?=some t->vs[j]?=some v->Value.okWide P W .any base t v)->
 ∃vss,Confs P ts vss/\fL vss<=(ds.map ub).sum/\vs.length=(jU P ts vss).length/\∀(j:Nat) c v,(jU P ts vss)[j]?=some c->vs[j]?=some v->VRel W (· <W.heap.size) φ n c v
 |[],[],[],_,_,_,_=>⟨[],.nil,by simp[fL],rfl,by simp[jU]⟩
 |t::ts,v::vs,d::ds,_,hL,⟨p,q,⟨fuel,h1⟩,h2,_⟩,hok=>by
  obtain⟨vss,i1,i2,i3,i4⟩:=BR hP hub (λt ht=>hL t (by simp[ht])) h2 (λj t v h3 h4=>hok (j+1) t v (by simpa using h3) (by simpa using h4))
  have R:=JJ hP hub fuel t _ _ (hL t (by simp)) h1
  have hk:=List.all_eq_true.1 hP t (hL t (by simp))
  refine⟨_::vss,.cons R.conf i1,?_,by simp[jU] at i3⊢;exact i3,λj c x hc hx=>?_⟩
  ·have:=R.bulk
   simp only[fL,List.map_cons,List.sum_cons]
   simp only at this
   omega
  ·cases j with
   |zero=>
    simp[jU] at hc hx
    subst hc;subst hx
    exact Jd hk R (hok 0 t v rfl rfl)
   |succ j=>exact i4 j c x (by simpa[jU] using hc) (by simpa using hx)
def Same(W W':World):Prop:=W'.os=W.os/\W'.output=W.output/\∀b,b<W.heap.size->W'.heap[b]?=W.heap[b]?
theorem Same.keptBut(h:Same W W')(may:MemPlace->Prop):W.keptBut W' may:=by
 refine⟨h.1,h.2.1,λi hi=>?_⟩
 rw[h.2.2 i hi]
 cases W.heap[i]? with
 |none=>simp
 |some o=>cases o<;>simp
theorem Same.at(h:Same W W'){p:MemPlace}(hp:p.block<W.heap.size):W.sameAt W' p:=by
 cases p with
 |cell b off=>exact aW (h.2.2 b hp) off
 |map b=>exact h.2.2 b hp
theorem Same.frozen(h:Same W W'){b off:Nat}(hb:b<W.heap.size):W'.frozen? ⟨b,off,none⟩=W.frozen? ⟨b,off,none⟩:=by
 simp only[World.frozen?,h.2.2 b hb]
variable {T:TypeId->Prop}
theorem zu:∀{ts:List TypeId} {vs:List Value} {ds:List (DataW H)} {ps:List MemPlace} {sp:Nat->Bool} {held:Bool},DataW.TrodAll enc P W 0 sp held ts vs ds ps->(∀p∈ps,W.sameAt W' p)->
 DataW.TrodAll enc P W' 0 sp held ts vs ds ps
 |[],[],[],_,_,_,h,_=>h
 |_::_,_::_,_::_,_,_,_,⟨p,q,⟨n,h1⟩,h2,e⟩,hs=>⟨p,q,⟨n,DataW.trod_carry n _ _ _ h1 λx hx=>hs x (by rw[e];exact List.mem_append_left _ hx)⟩,zu h2 (λx hx=>hs x (by rw[e];exact List.mem_append_right _ hx)),e⟩
theorem uC(K:Kids P T)(hz:∀t e,T t->P.underlying t=some (.slice e)->0<P.cellsOf e)(hg:∀(g:Nat) t,(P.globals[g]?).map (·.type)=some t->T t)(S:Same W W'){sp:Nat->Bool}:
 ∀{ns:List String} {ds:List (DataW H)} {ps:List MemPlace},DataW.TrodVars enc P W (λ_=>true) ns ds ps->(∀p∈ps,p.block<W.heap.size/\sp p.block=true)->DataW.TrodVars enc P W' sp ns ds ps
 |[],[],_,h,_=>h
 |_::_,_::_,_,⟨g,t,cs,fuel,p,q,h1,h2,h3,h4,h5,e⟩,hs=>by
  refine⟨g,t,cs,fuel,p,q,h1,h2,?_,?_,uC K hz hg S h5 (λx hx=>hs x (by rw[e];simp[hx])),e⟩
  ·rw[←h3]
   simp only[World.var?,h1,Option.bind_some] at h3⊢
   have hlt:g<W.heap.size:=by
    by_cases hb:g<W.heap.size
    ·exact hb
    ·rw[Array.getElem?_eq_none (by omega)] at h3;cases h3
   rw[S.2.2 g hlt]
  ·exact DataW.trod_respare K hz fuel t _ _ (hg g t h2) (DataW.trod_carry fuel _ _ _ h4 λx hx=>S.at (hs x (by rw[e];simp[hx])).1) (λx hx=>(hs x (by rw[e];simp[hx])).2)
theorem Da(K:Kids P T)(hz:∀t e,T t->P.underlying t=some (.slice e)->0<P.cellsOf e)(S:Same W W'){sp:Nat->Bool}{ts:List TypeId}{vs:List Value}{ds:List (DataW H)}{ps:List MemPlace}(hT:∀t∈ts,T t)
 (h:DataW.TrodAll enc P W 0 (λ_=>true) true ts vs ds ps)(hs:∀p∈ps,p.block<W.heap.size/\sp p.block=true):DataW.TrodAll enc P W' 0 sp true ts vs ds ps:=
 DataW.TrodAll.respare K hz hT (zu h λp hp=>S.at (hs p hp).1) λp hp=>(hs p hp).2
theorem Fa{f:Func}{s:ChangeSpec}{fresh handsOn again:Bool}{args:Array Value}{ds gs:List (DataW H)}{before:List MemPlace}{tb:TypeId}
 (K:Kids P T)(hz:∀t e,T t->P.underlying t=some (.slice e)->0<P.cellsOf e)(hg:∀(g:Nat) t,(P.globals[g]?).map (·.type)=some t->T t)(hT:∀t∈f.params.toList,T t)
 (hr:f.resultTypes=#[tb])(hb:P.underlying tb=some .bool)
 (hW:DataW.Whole enc P f.params.toList s.vars false W args.toList ds gs before)(S:Same W W')
 (hspec:s.fn H (ds++gs)={results:=[.lit (.bool true)],args:=ds,vars:=gs}):s.post enc P f false fresh handsOn again W args (.bool true) W':=by
 have hlt:=hW.lt
 have hW0:=hW
 obtain⟨p,q,hA,hV,hbf,hfz,_⟩:=hW
 have hlp:∀x∈p,x.block<W.heap.size:=λx hx=>hlt x (by rw[hbf];simp[hx])
 have hlq:∀x∈q,x.block<W.heap.size:=λx hx=>hlt x (by rw[hbf];simp[hx])
 have res:∀(b:Nat) (sp:Nat->Bool) (hd:Bool),DataW.TrodAll enc P W' b sp hd f.resultTypes.toList ((Value.bool true).resultList f.resultTypes.size) (s.fn H (ds++gs)).results []:=by
  intro b sp hd
  rw[hspec,hr]
  exact trodAll_mk1 ⟨1,by simp[DataW.trod,hb,Value.cells]⟩
 have ar:∀sp:Nat->Bool,(∀b,b<W.heap.size->sp b=true)->DataW.TrodAll enc P W' 0 sp true f.params.toList args.toList (s.fn H (ds++gs)).args p:=by
  intro sp hsp
  rw[hspec]
  exact Da K hz S hT hA λx hx=>⟨hlp x hx,hsp _ (hlp x hx)⟩
 have va:∀sp:Nat->Bool,(∀b,b<W.heap.size->sp b=true)->DataW.TrodVars enc P W' sp s.vars (s.fn H (ds++gs)).vars q:=by
  intro sp hsp
  rw[hspec]
  exact uC K hz hg S hV λx hx=>⟨hlq x hx,hsp _ (hlq x hx)⟩
 refine⟨ds,gs,before,[],p,q,hW0,res _ _ _,ar _ (by simp),va _ (by simp),S.keptBut _,λ_=>⟨?_,?_⟩⟩
 ·exact ok_one hr rfl (okWide_bool_mk hb _)
 ·refine⟨_,_,([]++p)++q,⟨[]++p,q,trodAll_append (ar _ (λ_ _=>rfl)) (res _ _ _),va _ (λ_ _=>rfl),rfl,?_,by simp⟩,?_⟩
  ·intro b off hp
   have hp':MemPlace.cell b off∈before:=by rw[hbf];simpa using hp
   rw[S.frozen (b:=b) (off:=off) (hlt _ hp')]
   exact hfz b off hp'
  ·intro x hx _
   rw[hbf];simpa using hx
theorem Es{f:FuncId}{fn:Func}{s:ChangeSpec}{fresh handsOn again:Bool}{args:Array Value}{ds gs:List (DataW H)}{before:List MemPlace}{tb:TypeId}{G:az}{base:Nat}
 (hP:Plain P L=true)(hub:BulkOk ub)(hL:∀t∈fn.params.toList,t∈L)
 (K:Kids P T)(hz:∀t e,T t->P.underlying t=some (.slice e)->0<P.cellsOf e)(hg:∀(g:Nat) t,(P.globals[g]?).map (·.type)=some t->T t)(hT:∀t∈fn.params.toList,T t)
 (hr:fn.resultTypes=#[tb])(hb:P.underlying tb=some .bool)
 (hval:∀(j:Nat) t v,fn.params[j]?=some t->args[j]?=some v->Value.okWide P W .any base t v)
 (hW:DataW.Whole enc P fn.params.toList s.vars false W args.toList ds gs before)
 (hspec:s.fn H (ds++gs)={results:=[.lit (.bool true)],args:=ds,vars:=gs})
 (hG:∀g cs,G g=some cs->g<W.heap.size/\∀j c,cs[j]?=some c->∃v,W.cell? ⟨g,j,none⟩=some v/\PRel W (· <W.heap.size) c v)
 (walk:∀vss,Confs P fn.params.toList vss->fL vss<=(ds.map ub).sum->VF P G f (jU P fn.params.toList vss) (.p (.bool true))):
 Calls P f args W λe W'=>∃v,e= .returned v/\s.post enc P fn false fresh handsOn again W args v W':=by
 obtain⟨p,q,hA,hV,hbf,hfz,hn⟩:=hW
 obtain⟨vss,c1,c2,c3,c4⟩:=BR (φ:=λ_=>(0,0)) (n:=0) hP hub hL hA (base:=base) (λj t v h1 h2=>hval j t v (by simpa using h1) (by simpa using h2))
 have H0:HRel G W (· <W.heap.size) (λ_=>(0,0)) []:=⟨λid sz es e=>by simp at e,λid o e _=>by simp at e,λid id' e=>(aH e).elim,λb hb=>⟨hb,λid e=>(aH e).elim⟩,λid hid=>by simp at hid,hG⟩
 refine((walk vss c1 c2).2 W (· <W.heap.size) (λ_=>(0,0)) args H0 ⟨by simpa using c3,λj c v h1 h2=>c4 j c v h1 (by simpa using h2)⟩).mono λe W' ⟨r,S',φ',h',k1,k2,k3,k4⟩=>?_
 subst k1
 cases k3 with
 |ret _ x hv=>
  cases hv with
  |p _ _ hp=>
   cases hp
   refine⟨_,rfl,Fa K hz hg hT hr hb ⟨p,q,hA,hV,hbf,hfz,hn⟩ ⟨k4.os,k4.output,λb hb=>k4.out b hb λid e=>(aH e).elim⟩ hspec⟩
end
end Go.Aw
namespace Go.Aw
theorem Br{P:Program}{W:World}{n:String}{d:DataW Unit}:∀{laid:List (String × DataW Unit)} {ps:List MemPlace},DataW.LaidVars P W laid ps->(n,d)∈laid->
 ∃g t cs fuel p,P.globalNamed n=some g/\(P.globals[g]?).map (·.type)=some t/\W.var? P n=some cs/\DataW.trod (λ_=>()) P W 0 (λ_=>true) false fuel t cs.toList=some (d,p)
 |[],_,_,hm=>by cases hm
 |(n',d')::r,ps,⟨g,t,cs,fuel,p,q,h1,h2,h3,h4,h5,_⟩,hm=>by
  rcases List.mem_cons.1 hm with e|hm
  ·cases e;exact⟨g,t,cs,fuel,p,h1,h2,h3,h4⟩
  ·exact Br h5 hm
mutual
def ubD{H:Type}:DataW H->Nat
 | .lit (.string s)=>s.length+1
 | .lit _=>1
 | .nil=>1
 | .ptr d=>ubD d+1
 | .slice es sp=>ubL es+ubL sp+1
 | .agg ps=>ubL ps+1
 | .iface _ d=>ubD d+1
 | .map es=>ubE es+1
 | .held _=>1
def ubL{H:Type}:List (DataW H)->Nat
 |[]=>0
 |d::r=>ubD d+ubL r
def ubE{H:Type}:List (Lit × DataW H)->Nat
 |[]=>0
 |x::r=>ubX x+ubE r
def ubX{H:Type}:Lit × DataW H->Nat
 |(_,d)=>ubD d+1
end
theorem Af{H:Type}:∀l:List (DataW H),ubL l=(l.map ubD).sum
 |[]=>rfl
 |d::r=>by simp[ubL,Af r]
theorem Kd{H:Type}:BulkOk (ubD (H:=H)) where
 lit:=λl=>by cases l<;>simp[ubD]
 str:=λs=>by simp[ubD]
 nil:=by simp[ubD]
 slice:=λes sp=>by simp only[ubD,Af];omega
 agg:=λps=>by simp only[ubD,Af];omega
theorem zb{P:Program}{W:World}{L:List TypeId}{laid:List (String × DataW Unit)}(hP:Plain P L=true)(hl:laidMet P laid W){n:String}{d:DataW Unit}(hm:(n,d)∈laid){g:Nat}{t:TypeId}
 (hg:P.globalNamed n=some g)(ht:(P.globals[g]?).map (·.type)=some t)(htL:t∈L){vs:List PV}(hd:∀k,gS P (k+10) t d=vs):
 g<W.heap.size/\∀(j:Nat) (c:PV),vs[j]?=some c->∃v,W.cell? ⟨g,j,none⟩=some v/\PRel W (· <W.heap.size) c v:=by
 obtain⟨ps,hl,_⟩:=hl
 obtain⟨g',t',cs,fuel,p,h1,h2,h3,h4⟩:=Br hl hm
 rw[hg] at h1;cases h1
 rw[ht] at h2;cases h2
 have R:=JJ (ub:=ubD) hP Kd (fuel+10) t cs.toList _ htL (DataW.trod_le (Nat.le_add_right _ _) h4)
 simp only[hd] at R
 simp only[World.var?,hg,Option.bind_some] at h3
 split at h3<;>first|(cases h3;done)|skip
 rename_i c0 t0 fr hb
 cases h3
 refine⟨(Array.getElem?_eq_some_iff.1 hb).1,λj c hj=>?_⟩
 have hlt:j<cs.toList.length:=by
  have:=(List.getElem?_eq_some_iff.1 hj).1
  rw[R.clen,←R.len];exact this
 refine⟨cs.toList[j],?_,R.rel j c _ hj (List.getElem?_eq_getElem hlt)⟩
 simp at hlt
 simp[World.cell?,hb,hlt]
section
variable {H:Type} {enc:TypeId × Value->H} {P:Program} {W:World}
theorem sG{b:Nat}{sp:Nat->Bool}{held:Bool}:∀{ts:List TypeId} {vs:List Value} {ds:List (DataW H)} {ps:List MemPlace},DataW.TrodAll enc P W b sp held ts vs ds ps->ds.length=ts.length
 |[],[],[],_,_=>rfl
 |_::_,_::_,_::_,_,⟨_,_,_,h,_⟩=>by simp[sG h]
theorem pV{sp:Nat->Bool}:∀{ns:List String} {ds:List (DataW H)} {ps:List MemPlace},DataW.TrodVars enc P W sp ns ds ps->ds.length=ns.length
 |[],[],_,_=>rfl
 |_::_,_::_,_,⟨_,_,_,_,_,_,_,_,_,_,h,_⟩=>by simp[pV h]
theorem Fr{ts:List TypeId}{vars:List String}{ap:Bool}{vs:List Value}{ds gs:List (DataW H)}{ps:List MemPlace}(h:DataW.Whole enc P ts vars ap W vs ds gs ps):ds.length=ts.length/\gs.length=vars.length:=by
 obtain⟨p,q,h1,h2,_⟩:=h
 exact⟨sG h1,pV h2⟩
end
theorem CV{P:Program}(h:(P.globals.toList.all λg=>decide (g.type<P.types.size))=true)(g:Nat)(t:TypeId)(e:(P.globals[g]?).map (·.type)=some t):t<P.types.size:=by
 cases hg:P.globals[g]? with
 |none=>rw[hg] at e;cases e
 |some x=>
  rw[hg] at e
  cases e
  have:=List.all_eq_true.1 h x (List.mem_of_getElem? (by simpa using hg))
  simpa using this
theorem Fp{P:Program}{ts:List TypeId}(h:(ts.all λt=>decide (t<P.types.size))=true):∀t∈ts,t<P.types.size:=λt ht=>by
 have:=List.all_eq_true.1 h t ht
 simpa using this
end Go.Aw
namespace Go.Aw
@[simp] theorem At(n:Nat):∀l:List PV,ab n (l.map .p)=True
 |[]=>by simp[ab]
 |v::r=>by simp[ab,below,At n r]
@[simp] theorem MI(n:Nat)(v:PV):below n (.p v)=True:=by simp[below]
@[simp] theorem KI(n:Nat):below n .any=True:=by simp[below]
@[simp] theorem KA(n:Nat):below n .nils=True:=by simp[below]
@[simp] theorem Ll(n:Nat)(l:List AV):below n (.agg l)=ab n l:=by simp[below]
@[simp] theorem KS(n:Nat)(l:List AV):below n (.tup l)=ab n l:=by simp[below]
@[simp] theorem Kp(n:Nat):ab n []=True:=by simp[ab]
@[simp] theorem JI(n:Nat)(v:AV)(r:List AV):ab n (v::r)=(below n v/\ab n r):=by simp[ab]
@[simp] theorem Nj(n:Nat):Fgt n [] []=True:=by simp[Fgt]
@[simp] theorem LC(n:Nat)(v v1:AV)(r r1:List AV):Fgt n (v::r) (v1::r1)=((v1= .any\/(below n v1/\v1=v))/\Fgt n r r1):=by simp[Fgt]
@[simp] theorem Mm(n:Nat):((n:Int)<0)=False:=by simp
theorem aa{x:Int}(h0: -9223372036854775808<=x)(h1:x<=9223372036854775807):IntKind.i64.wrap x=x:=by
 simp[IntKind.wrap,IntKind.bits,IntKind.signed]
 omega
theorem w1{i:Nat}(h:i<9223372036854775807):IntKind.i64.wrap (↑i+1)=((i+1:Nat):Int):=by
 rw[aa (by omega) (by omega)];simp
theorem Ch{α:Type}{xs ys:List α}{i:Nat}{h1:i<xs.length}{h2:i<ys.length}(h:xs[i]≠ys[i]):xs≠ys:=λe=>by subst e;exact h rfl
theorem cF{α:Type}{xs ys:List α}{i:Nat}(h1:i<xs.length)(h2:i<ys.length)(h:xs[i]=ys[i])(ht:xs.take i=ys.take i):xs.take (i+1)=ys.take (i+1):=by
 rw[List.take_add_one,List.take_add_one,ht,List.getElem?_eq_getElem h1,List.getElem?_eq_getElem h2,h]
theorem rF{α:Type}{xs ys:List α}{i:Nat}(hl:xs.length=ys.length)(h:xs.length<=i)(ht:xs.take i=ys.take i):xs=ys:=by
 rwa[List.take_of_length_le h,List.take_of_length_le (by omega)] at ht
end Go.Aw
namespace Go.Aw
inductive View (h:List AO):AV->PV->Prop where
 |p (v:PV):View h (.p v) v
 |nils (sz:Nat):View h .nils (.lst sz [])
 |e (sz sz':Nat):View h (.p (.lst sz [])) (.lst sz' [])
 |sl (id sz off:Nat) (es:List (List AV)) (ps:List (List PV)):h[id]?=some (.row sz es)->off+ps.length<=es.length->(∀e∈ps,e.length=sz)->
   (∀(i j:Nat) (e:List PV) (q:PV) (e':List AV) (a:AV),ps[i]?=some e->e[j]?=some q->es[off+i]?=some e'->e'[j]?=some a->View h a q)->View h (.sl id sz off ps.length) (.lst sz ps)
 |fl (id sz off:Nat) (es:List (List AV)) (ps:List PV):h[id]?=some (.row sz es)->(∀(i:Nat) (q:PV),ps[i]?=some q->es.flatten[off+i]?=some (.p q))->View h (.sl id 1 off ps.length) (.lst 1 (ps.map λq=>[q]))
theorem fT{α:Type}:∀l:List α,(l.map λq=>[q]).flatten=l
 |[]=>rfl
 |a::r=>by rw[List.map_cons,List.flatten_cons,fT r];rfl
def fM(φ:au)(h:List AO)(b:Nat):Prop:=∃id,Live h id/\(φ id).1=b
theorem View.prel{G:az}{W:World}{S:Nat->Prop}{φ:au}{h:List AO}(H:HRel G W S φ h){a:AV}{q:PV}(hv:View h a q):∀{x:Value},VRel W S φ h.length a x->PRel W (λb=>S b\/fM φ h b) q x:=by
 induction hv with
 |p v=>
  intro x hx
  cases hx with
  |p _ _ hp=>exact hp.mono λb hb=>⟨.inl hb,rfl⟩
 |nils sz=>intro x hx;cases hx;exact .lst0 _ _ _
 |e sz sz'=>
  intro x hx
  cases hx with
  |p _ _ hp=>cases hp<;>exact .lst0 _ _ _
 |sl id sz off es ps hid hfit hsz hc ih=>
  intro x hx
  cases hx with
  |sl _ _ _ _ cap ba hid' hl hba hb=>
   obtain⟨c,t,fr,a1,a2,a3,a4,a5⟩:=H.obj id sz es hid
   cases hps:ps with
   |nil=>subst hps;exact .lst0 _ _ _
   |cons e0 r0=>
    rw[←hps]
    have hpos:0<cap:=by have:0<ps.length:=by rw[hps];simp
                        omega
    have hba':=hba hpos
    subst hba'
    have cell:∀(j:Nat) (q:PV),ps.flatten[j]?=some q->∃v,W.cell? ⟨(φ id).1,(φ id).2+off*sz+j,none⟩=some v/\PRel W (λb=>S b\/fM φ h b) q v:=by
     intro j q hj
     have hszp:0<sz:=by
      rcases Nat.eq_zero_or_pos sz with h0|h0
      ·exfalso
       have:=(List.getElem?_eq_some_iff.1 hj).1
       rw[aK hsz,h0] at this
       simp at this
      ·exact h0
     have e1:j=(j/sz)*sz+j%sz:=by rw[Nat.mul_comm];exact(Nat.div_add_mod _ _).symm
     have e2:j%sz<sz:=Nat.mod_lt _ hszp
     rw[e1,bv hsz _ _ e2] at hj
     simp only[Option.bind_eq_some_iff] at hj
     obtain⟨e,he,hq⟩:=hj
     have hi1:j/sz<ps.length:=(List.getElem?_eq_some_iff.1 he).1
     obtain⟨e',he'⟩:∃e',es[off+j/sz]?=some e':=⟨_,List.getElem?_eq_getElem (by omega)⟩
     have hle:e'.length=sz:=a3 e' (List.mem_of_getElem? he')
     obtain⟨a,ha⟩:∃a,e'[j%sz]?=some a:=⟨_,List.getElem?_eq_getElem (by omega)⟩
     have hfl:es.flatten[(off+j/sz)*sz+j%sz]?=some a:=by
      rw[bv a3 _ _ e2,he'];exact ha
     obtain⟨_,v,hv1,hv2⟩:=a5 _ a hfl
     refine⟨v,?_,ih _ _ e q e' a he hq he' ha hv2⟩
     ·simp only[World.cell?,a1]
      rw[show(φ id).2+off*sz+j=(φ id).2+((off+j/sz)*sz+j%sz) by rw[Nat.add_mul];omega]
      simp[hv1]
    have:=PRel.lst (W:=W) (S:=λb=>S b\/fM φ h b) sz ps (φ id).1 ((φ id).2+off*sz) cap (λj=>(W.cell? ⟨(φ id).1,(φ id).2+off*sz+j,none⟩).getD default) (.inr ⟨id,bD hid,rfl⟩) hsz (by omega)
     (λj c hj=>by obtain⟨v,h1,h2⟩:=cell j c hj;rw[h1];rfl) (λj c hj=>by obtain⟨v,h1,h2⟩:=cell j c hj;rw[h1];exact h2)
    exact this
 |fl id sz off es ps hid hc=>
  intro x hx
  cases hx with
  |sl _ _ _ _ cap ba hid' hl hba hb=>
   obtain⟨c,t,fr,a1,a2,a3,a4,a5⟩:=H.obj id sz es hid
   by_cases hp:ps=[]
   ·subst hp;exact .lst0 _ _ _
   have hpos:0<cap:=by have:=List.length_pos_iff.2 hp;omega
   have hba':=hba hpos
   subst hba'
   have cell:∀(j:Nat) (q:PV),(ps.map λq=>[q]).flatten[j]?=some q->∃v,W.cell? ⟨(φ id).1,(φ id).2+off*1+j,none⟩=some v/\PRel W (λb=>S b\/fM φ h b) q v:=by
    intro j q hj
    rw[fT] at hj
    obtain⟨_,v,hv1,hv2⟩:=a5 _ _ (hc j q hj)
    refine⟨v,?_,?_⟩
    ·simp only[World.cell?,a1]
     rw[show(φ id).2+off*1+j=(φ id).2+(off+j) by omega]
     simp[hv1]
    ·cases hv2 with
     |p _ _ hp=>exact hp.mono λb hb=>⟨.inl hb,rfl⟩
   have:=PRel.lst (W:=W) (S:=λb=>S b\/fM φ h b) 1 (ps.map λq=>[q]) (φ id).1 ((φ id).2+off*1) cap (λj=>(W.cell? ⟨(φ id).1,(φ id).2+off*1+j,none⟩).getD default) (.inr ⟨id,bD hid,rfl⟩) (λe he=>by obtain⟨q,_,rfl⟩:=List.mem_map.1 he;rfl) (by rw[List.length_map];omega)
    (λj c hj=>by obtain⟨v,h1,h2⟩:=cell j c hj;rw[h1];rfl) (λj c hj=>by obtain⟨v,h1,h2⟩:=cell j c hj;rw[h1];exact h2)
   rwa[List.length_map] at this
inductive Views (h:List AO):List AV->List AV->Prop where
 |nil:Views h [] []
 |one {a:AV} {q:PV} {l l':List AV}:View h a q->Views h l l'->Views h (a::l) (.p q::l')
 |agg {cs cs' l l':List AV}:Views h cs cs'->Views h l l'->Views h (.agg cs::l) (.agg cs'::l')
 |tup {cs cs' l l':List AV}:Views h cs cs'->Views h l l'->Views h (.tup cs::l) (.tup cs'::l')
 |keep {a:AV} {l l':List AV}:below 0 a->Views h l l'->Views h (a::l) (a::l')
theorem Views.len{h:List AO}:∀{l l':List AV},Views h l l'->l.length=l'.length
 |_,_,.nil=>rfl
 |_,_,.one _ r=>by simp[r.len]
 |_,_,.agg _ r=>by simp[r.len]
 |_,_,.tup _ r=>by simp[r.len]
 |_,_,.keep _ r=>by simp[r.len]
theorem vS{W:World}{S S':Nat->Prop}{φ φ':au}{n n':Nat}(hS:∀b,S b->S' b){v:AV}(hb:below 0 v){x:Value}(h:VRel W S φ n v x):VRel W S' φ' n' v x:=by
 have h1:VRel W S φ' n' v x:=iy v hb h
 clear h
 induction h1 with
 |p v x hp=>exact .p _ _ (hp.mono λb hb=>⟨hS b hb,rfl⟩)
 |agg cs vs hs _ ih=>exact .agg cs vs hs λj c y h1 h2=>ih j c y h1 h2 (bg (by simpa[below] using hb) j c h1)
 |tup cs vs hs _ ih=>exact .tup cs vs hs λj c y h1 h2=>ih j c y h1 h2 (bg (by simpa[below] using hb) j c h1)
 |ptr=>simp[below] at hb
 |sl=>simp[below] at hb
 |mp=>simp[below] at hb
 |it=>simp[below] at hb
 |eptr e off b o hb' hc=>
  exact .eptr e off b o (hS b hb') λj c hj=>by
   obtain⟨v,h1,h2⟩:=hc j c hj
   exact⟨v,h1,h2.mono λb hb=>⟨hS b hb,rfl⟩⟩
 |gp g off=>exact .gp g off
 |fn f caps vs hs _ ih=>exact .fn f caps vs hs λj c y h1 h2=>ih j c y h1 h2 (bg (by simpa[below] using hb) j c h1)
 |nils=>exact .nils
 |nilp=>exact .nilp
 |nilf=>exact .nilf
 |nilm=>exact .nilm
 |nili=>exact .nili
 |ifc t pv x hp=>exact .ifc _ _ _ (hp.mono λb hb=>⟨hS b hb,rfl⟩)
 |any x=>exact .any x
theorem Views.rel{G:az}{W:World}{S:Nat->Prop}{φ:au}{h:List AO}(H:HRel G W S φ h):∀{l l':List AV},Views h l l'->∀(j:Nat) (c c':AV) (x:Value),l[j]?=some c->l'[j]?=some c'->VRel W S φ h.length c x->VRel W (λb=>S b\/fM φ h b) φ 0 c' x
 |_,_,.nil,j,c,c',x,h1,_,_=>by simp at h1
 |_,_,.one hv r,j,c,c',x,h1,h2,hx=>by
  cases j with
  |zero=>simp at h1 h2;subst h1;subst h2;exact .p _ _ (hv.prel H hx)
  |succ j=>exact r.rel H j c c' x (by simpa using h1) (by simpa using h2) hx
 |_,_,.agg hv r,j,c,c',x,h1,h2,hx=>by
  cases j with
  |zero=>
   simp at h1 h2;subst h1;subst h2
   cases hx with
   |agg cs vs hs hc=>
    refine .agg _ vs (by rw[hs,hv.len]) λi d y h3 h4=>?_
    have hi:i<vs.size:=(Array.getElem?_eq_some_iff.1 h4).1
    exact hv.rel H i _ d y (List.getElem?_eq_getElem (by omega)) h3 (hc i _ y (List.getElem?_eq_getElem (by omega)) h4)
  |succ j=>exact r.rel H j c c' x (by simpa using h1) (by simpa using h2) hx
 |_,_,.tup hv r,j,c,c',x,h1,h2,hx=>by
  cases j with
  |zero=>
   simp at h1 h2;subst h1;subst h2
   cases hx with
   |tup cs vs hs hc=>
    refine .tup _ vs (by rw[hs,hv.len]) λi d y h3 h4=>?_
    have hi:i<vs.size:=(Array.getElem?_eq_some_iff.1 h4).1
    exact hv.rel H i _ d y (List.getElem?_eq_getElem (by omega)) h3 (hc i _ y (List.getElem?_eq_getElem (by omega)) h4)
  |succ j=>exact r.rel H j c c' x (by simpa using h1) (by simpa using h2) hx
 |_,_,.keep hb r,j,c,c',x,h1,h2,hx=>by
  cases j with
  |zero=>simp at h1 h2;subst h1;subst h2;exact vS (λb hb=> .inl hb) hb hx
  |succ j=>exact r.rel H j c c' x (by simpa using h1) (by simpa using h2) hx
def Ks:AV->Bool
 | .p (.bool _)| .p (.int ..)| .p (.str _)=>true
 |_=>false
theorem VF.lend{P:Program}{G:az}{f:FuncId}{args pargs:List AV}{r:AV}(H:VF P G f pargs r){h:List AO}(hv:Views h args pargs)(hr:Ks r=true):AC P G f args h λx h'=>x= .ret r/\h'=h:=by
 refine⟨H.1,λW S φ vs hH hA=>?_⟩
 have h0:HRel G W (λb=>S b\/fM φ h b) φ []:=⟨λid sz es e=>by simp at e,λid o e _=>by simp at e,λid id' e=>(aH e).elim,λb hb=>⟨by
  rcases hb with hb|⟨id,e,he⟩
  ·exact(hH.sep b hb).1
  ·rw[←he];exact hH.bnd id e.lt,λid e=>(aH e).elim⟩,λid hid=>by simp at hid,λg cs hg=>by
  obtain⟨g1,g2⟩:=hH.glob g cs hg
  exact⟨.inl g1,λj c hj=>by obtain⟨v,k1,k2⟩:=g2 j c hj;exact⟨v,k1,k2.mono λb hb=>⟨.inl hb,rfl⟩⟩⟩⟩
 refine(H.2 W _ φ vs h0 ⟨by rw[hA.1,hv.len],λj c v h1 h2=>?_⟩).mono λe W' ⟨x,S',φ',h',k1,k2,k3,k4⟩=>?_
 ·have hj:j<vs.size:=(Array.getElem?_eq_some_iff.1 h2).1
  have hjl:j<args.length:=by rw[←hA.1];exact hj
  exact hv.rel hH j _ c v (List.getElem?_eq_getElem hjl) h1 (hA.2 j _ v (List.getElem?_eq_getElem hjl) h2)
 subst k1
 have hout:∀b,b<W.heap.size->W'.heap[b]?=W.heap[b]?:=λb hb=>k4.out b hb λid e=>(aH e).elim
 have hlt:∀{id:Nat} {o:AO},h[id]?=some o->id<h.length:=λe=>(List.getElem?_eq_some_iff.1 e).1
 have K:Keep W S φ h W' S φ h:=
  {pure:=λb hb=>⟨hb,hout b (hH.sep b hb).1⟩,len:=Nat.le_refl _,same:=λ_ _=>rfl
   blk:=λid hid c t fr e=>⟨c,t,fr,by rw[←hout _ (hH.bnd id hid)];exact e,rfl⟩
   os:=k4.os,tape:=k4.tape,output:=k4.output,size:=k4.size,out:=λb hb _=>hout b hb
   img:=λid e=> .inr ⟨id,e,rfl⟩
   newS:=λb hb=> .inl hb}
 refine⟨.ret r,S,φ,h,⟨rfl,rfl⟩,⟨λid sz es e=>?_,λid o1 e lo=>?_,hH.inj,λb hb=>⟨Nat.lt_of_lt_of_le (hH.sep b hb).1 k4.size,(hH.sep b hb).2⟩,λid hid=>Nat.lt_of_lt_of_le (hH.bnd id hid) k4.size,λg cs hg=>?_⟩,?_,K⟩
 ·obtain⟨c,t,fr,a1,a2,a3,a4,a5⟩:=hH.obj id sz es e
  refine⟨c,t,fr,by rw[hout _ (hH.bnd id (hlt e))];exact a1,a2,a3,a4,λj u hj=>?_⟩
  obtain⟨b1,v,b2,b3⟩:=a5 j u hj
  exact⟨b1,v,b2,b3.kept K.toKept⟩
 ·rw[hout _ (hH.bnd id (hlt e))]
  exact(hH.oobj id o1 e lo).mono λa v r=>r.kept K.toKept
 ·obtain⟨g1,g2⟩:=hH.glob g cs hg
  refine⟨g1,λj c hj=>?_⟩
  obtain⟨v,v1,v2⟩:=g2 j c hj
  exact⟨v,by rw[aW (K.pure g g1).2];exact v1,v2.mono K.pure⟩
 ·cases k3 with
  |ret _ x hv=>
   refine .ret _ _ ?_
   cases hv<;>simp[Ks] at hr
   rename_i pv hp
   cases hp<;>simp[Ks] at hr
   ·exact .p _ _ (.bool _)
   ·exact .p _ _ (.int _ _)
   ·exact .p _ _ (.str _)
end Go.Aw
namespace Go.Aw
mutual
def clean:AV->Bool
 | .p (.lst _ [])=>true
 | .p (.lst _ _)=>false
 | .p (.tbl _ _)=>false
 | .p _=>true
 | .agg cs=>dk cs
 | .tup cs=>dk cs
 | .ptr .. =>true
 | .sl .. =>true
 | .mp .. =>true
 | .it .. =>true
 | .gp .. =>true
 | .nils| .nilp| .nilf| .nilm| .nili=>true
 | .any=>true
 |_=>false
def dk:List AV->Bool
 |[]=>true
 |v::r=>clean v&&dk r
end
mutual
def aY(n:Nat):AV->AV
 | .ptr id g i o=> .ptr (n+id) g i o
 | .sl id g o l=> .sl (n+id) g o l
 | .mp id=> .mp (n+id)
 | .it id=> .it (n+id)
 | .agg cs=> .agg (bi n cs)
 | .tup cs=> .tup (bi n cs)
 |v=>v
def bi(n:Nat):List AV->List AV
 |[]=>[]
 |v::r=>aY n v::bi n r
end
def aX(n:Nat):AO->AO
 | .row sz es=> .row sz (es.map (bi n))
 | .mp es=> .mp (es.map λx=>(x.1,aY n x.2))
 | .sit s pos=> .sit s pos
 | .dead=> .dead
theorem bu(n:Nat):∀l:List AV,bi n l=l.map (aY n)
 |[]=>rfl
 |v::r=>by simp[bi,bu n r]
theorem gh:∀{l:List AV},dk l=true->∀(j:Nat) (c:AV),l[j]?=some c->clean c=true
 |v::r,h,0,c,e=>by simp at e;subst e;simp[dk] at h;exact h.1
 |v::r,h,j+1,c,e=>by simp[dk] at h;exact gh h.2 j c (by simpa using e)
theorem lh(n:Nat)(v:AV):(aY n v).isCell=v.isCell:=by cases v<;>rfl
def cleanO:AO->Bool
 | .row _ es=>es.all dk
 | .mp es=>es.all λx=>clean x.2
 | .sit .. =>true
 | .dead=>true
def gb(n:Nat)(φ φ':au):au:=λi=>if i<n then φ i else φ' (i-n)
theorem dc(n:Nat)(φ φ':au)(i:Nat):gb n φ φ' (n+i)=φ' i:=by
 unfold gb;rw[if_neg (by omega),Nat.add_sub_cancel_left]
theorem iB{W:World}{S S':Nat->Prop}{φ φ':au}{n m:Nat}:∀{v:AV} {x:Value},VRel W S' φ' m v x->clean v=true->VRel W S (gb n φ φ') (n+m) (aY n v) x:=by
 intro v x h
 induction h with
 |p pv x hp=>
  intro hc
  cases hp with
  |bool b=>exact .p _ _ (.bool b)
  |int k n=>exact .p _ _ (.int k n)
  |str s=>exact .p _ _ (.str s)
  |lst0 sz a cap=>exact .p _ _ (.lst0 sz a cap)
  |lst sz es b off cap vs _ _ _ _ _=>
   cases es with
   |nil=>exact .p _ _ (.lst0 _ _ _)
   |cons e r=>simp[clean] at hc
  |tbl ks vs b clock ents cv _ _ _ _ _ _ _=>simp[clean] at hc
 |agg cs vs hs _ ih=>
  intro hc
  simp only[clean] at hc
  simp only[aY,bu]
  refine .agg _ vs (by simp[hs]) λj c y h1 h2=>?_
  simp only[List.getElem?_map,Option.map_eq_some_iff] at h1
  obtain⟨c0,h1,rfl⟩:=h1
  exact ih j c0 y h1 h2 (gh hc j c0 h1)
 |tup cs vs hs _ ih=>
  intro hc
  simp only[clean] at hc
  simp only[aY,bu]
  refine .tup _ vs (by simp[hs]) λj c y h1 h2=>?_
  simp only[List.getElem?_map,Option.map_eq_some_iff] at h1
  obtain⟨c0,h1,rfl⟩:=h1
  exact ih j c0 y h1 h2 (gh hc j c0 h1)
 |ptr id esz i off hid=>
  intro _
  have:=VRel.ptr (W:=W) (S:=S) (φ:=gb n φ φ') (n:=n+m) (n+id) esz i off (by omega)
  rw[dc] at this;exact this
 |sl id esz off len cap ba hid hl hb hc=>
  intro _
  have:=VRel.sl (W:=W) (S:=S) (φ:=gb n φ φ') (n:=n+m) (n+id) esz off len cap ba (by omega) hl (by rw[dc];exact hb) (by rw[dc];exact hc)
  simpa[aY] using this
 |mp id hid=>
  intro _
  have:=VRel.mp (W:=W) (S:=S) (φ:=gb n φ φ') (n:=n+m) (n+id) (by omega)
  rw[dc] at this;exact this
 |it id hid=>
  intro _
  have:=VRel.it (W:=W) (S:=S) (φ:=gb n φ φ') (n:=n+m) (n+id) (by omega)
  rw[dc] at this;exact this
 |gp g off=>intro _;exact .gp g off
 |nils=>intro _;exact .nils
 |nilp=>intro _;exact .nilp
 |nilf=>intro _;exact .nilf
 |nilm=>intro _;exact .nilm
 |nili=>intro _;exact .nili
 |any x=>intro _;exact .any x
 |eptr=>intro hc;simp[clean] at hc
 |fn=>intro hc;simp[clean] at hc
 |ifc=>intro hc;simp[clean] at hc
theorem AC.lend{P:Program}{G:az}{f:FuncId}{args pargs:List AV}{r:AV}{h1:List AO}(H:AC P G f pargs [] λx h'=>x= .ret r/\h'=h1){h:List AO}(hv:Views h args pargs)(hr:clean r=true)(hh:h1.all cleanO=true):
 AC P G f args h λx h'=>x= .ret (aY h.length r)/\h'=h++h1.map (aX h.length):=by
 refine⟨H.1,λW S φ vs hH hA=>?_⟩
 have h0:HRel G W (λb=>S b\/fM φ h b) φ []:=⟨λid sz es e=>by simp at e,λid o e _=>by simp at e,λid id' e=>(aH e).elim,λb hb=>⟨by
  rcases hb with hb|⟨id,e,he⟩
  ·exact(hH.sep b hb).1
  ·rw[←he];exact hH.bnd id e.lt,λid e=>(aH e).elim⟩,λid hid=>by simp at hid,λg cs hg=>by
  obtain⟨g1,g2⟩:=hH.glob g cs hg
  exact⟨.inl g1,λj c hj=>by obtain⟨v,k1,k2⟩:=g2 j c hj;exact⟨v,k1,k2.mono λb hb=>⟨.inl hb,rfl⟩⟩⟩⟩
 refine(H.2 W _ φ vs h0 ⟨by rw[hA.1,hv.len],λj c v h1 h2=>?_⟩).mono λe W' ⟨x,S',φ',h',⟨k0,k1⟩,k2,k3,k4⟩=>?_
 ·have hj:j<vs.size:=(Array.getElem?_eq_some_iff.1 h2).1
  have hjl:j<args.length:=by rw[←hA.1];exact hj
  exact hv.rel hH j _ c v (List.getElem?_eq_getElem hjl) h1 (hA.2 j _ v (List.getElem?_eq_getElem hjl) h2)
 subst k0;subst k1
 have hout:∀b,b<W.heap.size->W'.heap[b]?=W.heap[b]?:=λb hb=>k4.out b hb λid e=>(aH e).elim
 have hlt:∀{id:Nat} {o:AO},h[id]?=some o->id<h.length:=λe=>(List.getElem?_eq_some_iff.1 e).1
 have himg:∀id,Live h' id->W.heap.size<=(φ' id).1:=λid e=>by
  rcases k4.img id e with h2|⟨id2,h2,_⟩
  ·exact h2
  ·exact(aH h2).elim
 have hφ:∀{i},i<h.length->gb h.length φ φ' i=φ i:=λhi=>by simp[gb,hi]
 have hφ':∀i,gb h.length φ φ' (h.length+i)=φ' i:=λi=>dc _ _ _ i
 have hget:∀{i o},(h++h'.map (aX h.length))[i]?=some o->(i<h.length/\h[i]?=some o)\/(∃k o',i=h.length+k/\h'[k]?=some o'/\o=aX h.length o'):=λ{i o} e=>by
  rcases Nat.lt_or_ge i h.length with hi|hi
  ·rw[List.getElem?_append_left hi] at e;exact .inl ⟨hi,e⟩
  ·rw[List.getElem?_append_right hi,List.getElem?_map,Option.map_eq_some_iff] at e
   obtain⟨o,e2,e3⟩:=e
   exact .inr ⟨_,o,by omega,e2,e3.symm⟩
 have hsl:∀{o:AO},(aX h.length o).live->o.live:=λ{o} l=>by cases o<;>exact l
 have K:Keep W S φ h W' S (gb h.length φ φ') (h++h'.map (aX h.length)):=
  {pure:=λb hb=>⟨hb,hout b (hH.sep b hb).1⟩,len:=by simp,same:=λ_ hid=>hφ hid
   blk:=λid hid c t fr e=>⟨c,t,fr,by rw[←hout _ (hH.bnd id hid)];exact e,rfl⟩
   os:=k4.os,tape:=k4.tape,output:=k4.output,size:=k4.size,out:=λb hb _=>hout b hb
   img:=λid ⟨o,e,l⟩=>by
    rcases hget e with⟨hi,e'⟩|⟨k,o',rfl,e',rfl⟩
    ·exact .inr ⟨id,⟨_,e',l⟩,by rw[hφ hi]⟩
    ·rw[hφ'];exact .inl (himg _ ⟨_,e',hsl l⟩)
   newS:=λb hb=> .inl hb}
 have hlen:(h++h'.map (aX h.length)).length=h.length+h'.length:=by simp
 refine⟨.ret (aY h.length r),S,gb h.length φ φ',_,⟨rfl,rfl⟩,⟨λid sz es e=>?_,λid o1 e lo=>?_,λid id' ⟨o1,e1,l1⟩ ⟨o2,e2,l2⟩ he=>?_,λb hb=>⟨Nat.lt_of_lt_of_le (hH.sep b hb).1 k4.size,λid ⟨o1,e,l1⟩ he=>?_⟩,λid hid=>?_,λg cs hg=>?_⟩,?_,K⟩
 ·rcases hget e with⟨hi,e'⟩|⟨k,o',rfl,e',eo⟩
  ·obtain⟨c,t,fr,a1,a2,a3,a4,a5⟩:=hH.obj id sz es e'
   refine⟨c,t,fr,by rw[hφ hi,hout _ (hH.bnd id hi)];exact a1,a2,a3,by rw[hφ hi];exact a4,λj u hj=>?_⟩
   obtain⟨b1,v,b2,b3⟩:=a5 j u hj
   exact⟨b1,v,by rw[hφ hi];exact b2,b3.kept K.toKept⟩
  ·obtain⟨es',rfl,rfl⟩:∃es',o'= .row sz es'/\es=es'.map (bi h.length):=by cases o'<;>cases eo;exact⟨_,rfl,rfl⟩
   obtain⟨c,t,fr,a1,a2,a3,a4,a5⟩:=k2.obj k sz es' e'
   refine⟨c,t,fr,by rw[hφ'];exact a1,a2,λe he=>?_,by rw[hφ'];simpa using a4,λj u hj=>?_⟩
   ·obtain⟨e0,he0,rfl⟩:=List.mem_map.1 he
    rw[bu];simpa using a3 e0 he0
   ·have hfl:(es'.map (bi h.length)).flatten=es'.flatten.map (aY h.length):=by
     rw[List.map_flatten];congr 1;exact List.map_congr_left λl _=>bu _ l
    rw[hfl,List.getElem?_map,Option.map_eq_some_iff] at hj
    obtain⟨u0,hj,rfl⟩:=hj
    obtain⟨b1,v,b2,b3⟩:=a5 j u0 hj
    have hcl:clean u0=true:=by
     have h3:=List.all_eq_true.1 hh _ (List.mem_of_getElem? e')
     simp only[cleanO] at h3
     obtain⟨l,hl,hu⟩:=List.mem_flatten.1 (List.mem_of_getElem? hj)
     have h4:=List.all_eq_true.1 h3 l hl
     obtain⟨q,hq⟩:=List.getElem?_of_mem hu
     exact gh h4 q u0 hq
    exact⟨by rw[lh];exact b1,v,by rw[hφ'];exact b2,by rw[hlen];exact iB b3 hcl⟩
 ·rcases hget e with⟨hi,e'⟩|⟨k,o',rfl,e',eo⟩
  ·rw[hφ hi,hout _ (hH.bnd id hi)]
   exact(hH.oobj id o1 e' lo).mono λa v r=>r.kept K.toKept
  ·subst eo
   rw[hφ']
   have hq:=k2.oobj k o' e' (hsl lo)
   cases o' with
   |dead=>trivial
   |row sz es=>trivial
   |sit t pos=>exact hq
   |mp es'=>
    obtain⟨ents,clock,a1,a2,a3,a4⟩:=hq
    refine⟨ents,clock,a1,by simpa using a2,λj k a hj=>?_,a4⟩
    rw[List.getElem?_map,Option.map_eq_some_iff] at hj
    obtain⟨⟨k0,a0⟩,hj,hk⟩:=hj
    cases hk
    obtain⟨x,c1,c2,c3⟩:=a3 j _ _ hj
    have hcl:clean a0=true:=by
     have h3:=List.all_eq_true.1 hh _ (List.mem_of_getElem? e')
     simp only[cleanO] at h3
     exact List.all_eq_true.1 h3 _ (List.mem_of_getElem? hj)
    exact⟨x,c1,c2,by rw[hlen];exact iB c3 hcl⟩
 ·rcases hget e1 with⟨hi,e1'⟩|⟨k,_,rfl,e1',rfl⟩<;>rcases hget e2 with⟨hi',e2'⟩|⟨k',_,rfl,e2',rfl⟩
  ·rw[hφ hi,hφ hi'] at he;exact hH.inj _ _ ⟨_,e1',l1⟩ ⟨_,e2',l2⟩ he
  ·rw[hφ hi,hφ'] at he
   have:=himg _ ⟨_,e2',hsl l2⟩
   have:=hH.bnd id hi
   omega
  ·rw[hφ hi',hφ'] at he
   have:=himg _ ⟨_,e1',hsl l1⟩
   have:=hH.bnd id' hi'
   omega
  ·rw[hφ',hφ'] at he;rw[k2.inj _ _ ⟨_,e1',hsl l1⟩ ⟨_,e2',hsl l2⟩ he]
 ·rcases hget e with⟨hi,e'⟩|⟨k,_,rfl,e',rfl⟩
  ·rw[hφ hi] at he;exact(hH.sep b hb).2 _ ⟨_,e',l1⟩ he
  ·rw[hφ'] at he
   have:=himg _ ⟨_,e',hsl l1⟩
   have:=(hH.sep b hb).1
   omega
 ·rcases Nat.lt_or_ge id h.length with hi|hi
  ·rw[hφ hi];exact Nat.lt_of_lt_of_le (hH.bnd id hi) k4.size
  ·have hid':id-h.length<h'.length:=by rw[hlen] at hid;omega
   have:=hφ' (id-h.length)
   rw[show h.length+(id-h.length)=id by omega] at this
   rw[this]
   exact k2.bnd _ hid'
 ·obtain⟨g1,g2⟩:=hH.glob g cs hg
  refine⟨g1,λj c hj=>?_⟩
  obtain⟨v,v1,v2⟩:=g2 j c hj
  exact⟨v,by rw[aW (K.pure g g1).2];exact v1,v2.mono K.pure⟩
 ·cases k3 with
  |ret _ x hv=>rw[hlen];exact .ret _ _ (iB hv hr)
end Go.Aw
namespace Go.Aw
theorem AC.freeze{P:Program}{G:az}{f:FuncId}{args:List AV}{r r':AV}{h1:List AO}(H:AC P G f args [] λx h'=>x= .ret r/\h'=h1)(hv:Views h1 [r] [r']):VF P G f args r':=by
 refine⟨H.1,λW S φ vs hH hA=>?_⟩
 refine(H.2 W S φ vs hH hA).mono λe W' ⟨x,S',φ',h',⟨k0,k1⟩,k2,k3,k4⟩=>?_
 subst k0;subst k1
 have himg:∀b,fM φ' h' b->W.heap.size<=b:=λb ⟨id,e,he⟩=>by
  rcases k4.img id e with h2|⟨id2,h2,_⟩
  ·omega
  ·exact(aH h2).elim
 refine⟨.ret r',(λb=>S' b\/fM φ' h' b),φ',[],rfl,⟨λid sz es e=>by simp at e,λid o e _=>by simp at e,λid id' e=>(aH e).elim,λb hb=>⟨by
  rcases hb with hb|⟨id,e,he⟩
  ·exact(k2.sep b hb).1
  ·rw[←he];exact k2.bnd id e.lt,λid e=>(aH e).elim⟩,λid hid=>by simp at hid,λg cs hg=>by
  obtain⟨g1,g2⟩:=k2.glob g cs hg
  exact⟨.inl g1,λj c hj=>by obtain⟨v,q1,q2⟩:=g2 j c hj;exact⟨v,q1,q2.mono λb hb=>⟨.inl hb,rfl⟩⟩⟩⟩,?_,?_⟩
 ·cases k3 with
  |ret _ x hx=>exact .ret _ _ (hv.rel k2 0 r r' x rfl rfl hx)
 ·exact{pure:=λb hb=>⟨.inl (k4.pure b hb).1,(k4.pure b hb).2⟩,len:=Nat.le_refl _,same:=λid hid=>by simp at hid
        blk:=λid hid=>by simp at hid
        os:=k4.os,tape:=k4.tape,output:=k4.output,size:=k4.size,out:=k4.out
        img:=λid e=>(aH e).elim
        newS:=λb hb=>by
         rcases hb with hb|hb
         ·exact k4.newS b hb
         ·exact .inr (.inl (himg b hb))}
end Go.Aw
namespace Go.Aw
theorem sj(n:Nat):∀v:AV,below n v->ren (List.range n) v=v:=by
 have key:∀(m:Nat),(∀v:AV,SizeOf.sizeOf v<m->below n v->ren (List.range n) v=v)/\(∀l:List AV,SizeOf.sizeOf l<m->ab n l->aF (List.range n) l=l):=by
  intro m
  induction m with
  |zero=>exact⟨λv h=>by omega,λl h=>by omega⟩
  |succ m ih=>
   refine⟨λv hs hb=>?_,λl hs hb=>?_⟩
   ·cases v<;>simp only[ren,below] at hb⊢ <;>first|rfl|(rw[ih.2 _ (by simp at hs;omega) hb])|(simp[List.getD_eq_getElem?_getD,hb])
   ·cases l with
    |nil=>rfl
    |cons v r=>simp only[aF];rw[ih.1 v (by simp at hs;omega) hb.1,ih.2 r (by simp at hs;omega) hb.2]
 exact λv=>(key _).1 v (Nat.lt_succ_self _)
theorem ve(n:Nat):∀l:List AV,ab n l->aF (List.range n) l=l
 |[],_=>rfl
 |v::r,h=>by simp only[aF];rw[sj n v h.1,ve n r h.2]
def Fst(n:Nat)(h h1:List AO):Prop:=h1.length=n/\n<=h.length/\(∀(i:Nat) (sz:Nat) (es:List (List AV)),h1[i]?=some (.row sz es)->h[i]?=some (.row sz es)/\∀e∈es,ab n e)/\
 (∀(i:Nat) (es:List (PV × AV)),h1[i]?=some (.mp es)->h[i]?=some (.mp es)/\∀e∈es,below n e.2)/\
 ∀(i:Nat) (s:List UInt8) (pos:Nat),h1[i]?=some (.sit s pos)->h[i]?=some (.sit s pos)
theorem yZ{k n:Nat}{ts ts1:List AV}{h h1:List AO}(hk:k<=n)(HF:Fst n h h1)(HT:Fgt n ts ts1):∃ρ:List Nat,k<=ρ.length/\(∀i,i<k->ρ.getD i 0=i)/\ρ.Nodup/\TW ρ ts ts1/\HW ρ h ρ h1:=by
 obtain⟨f1,f2,f3,f4,f5⟩:=HF
 refine⟨List.range n,by simpa using hk,λi hi=>by simp[List.getD_eq_getElem?_getD,show i<n by omega],List.nodup_range,?_,?_⟩
 ·revert HT
  induction ts generalizing ts1 with
  |nil=>intro H;cases ts1<;>first|exact trivial|exact H.elim
  |cons v r ih=>
   intro H
   cases ts1 with
   |nil=>exact H.elim
   |cons v1 r1=>
    refine⟨?_,ih H.2⟩
    rcases H.1 with h|⟨h1,h2⟩
    ·exact .inl h
    ·exact .inr ⟨by simpa using h1,by rw[←h2];exact sj n v1 h1⟩
 ·have key:∀(m a:Nat) (l:List AO),a+m=n->l.length=m->(∀i,l[i]?=h1[a+i]?)->HW (List.range n) h (List.range' a m) l:=by
   intro m
   induction m with
   |zero=>intro a l _ hl _;have:l=[]:=List.length_eq_zero_iff.1 hl;subst this;exact trivial
   |succ m ih=>
    intro a l ha hl hg
    match l,hl with
    |o::r,hl=>
     refine⟨by omega,?_,ih (a+1) r (by omega) (by simpa using hl) (λi=>by have:=hg (i+1);simp at this;rw[this];congr 1;omega)⟩
     have h0:=hg 0
     simp at h0
     cases o with
     |dead=>exact trivial
     |row sz es=>
      obtain⟨g1,g2⟩:=f3 a sz es h0.symm
      refine⟨λe he=>by simpa using g2 e he,?_⟩
      rw[g1]
      congr 2
      symm
      rw[List.map_congr_left (g:=id) λe he=>ve n e (g2 e he)]
      simp
     |sit t pos=>exact f5 a t pos h0.symm
     |mp es=>
      obtain⟨g1,g2⟩:=f4 a es h0.symm
      refine⟨λe he=>by simpa using g2 e he,?_⟩
      rw[g1]
      congr 2
      symm
      rw[List.map_congr_left (g:=id) λe he=>by simp[sj n e.2 (g2 e he)]]
      simp
  rw[List.range_eq_range']
  have:=key n 0 h1 (by omega) f1 (λi=>by simp)
  rwa[List.range_eq_range'] at this
theorem so{k n:Nat}{ts ts1:List AV}{h h1:List AO}(hk:k<=n)(HF:Fst n h h1)(HT:Fgt n ts ts1):Wk k ts h ts1 h1:=by
 obtain⟨ρ,a,b,c,d,e⟩:=yZ hk HF HT
 exact Wk.of ρ a b c d e
theorem MG{α:Type}{l:List α}{z:α}{i n:Nat}(hn:l.length=n)(h:i<n):(l.take i++List.replicate (n-i) z)[i]?=some z:=by
 have:(l.take i).length=i:=by simp;omega
 rw[List.getElem?_append_right (by omega),this,Nat.sub_self,List.getElem?_replicate,if_pos (by omega)]
theorem Hz{α:Type}{l:List α}{z v:α}{i n:Nat}(hn:l.length=n)(h:i<n)(hv:l[i]?=some v):(l.take i++List.replicate (n-i) z).set i v=l.take (i+1)++List.replicate (n-(i+1)) z:=by
 have hl:(l.take i).length=i:=by simp;omega
 rw[List.set_append_right _ _ (by omega),hl,Nat.sub_self]
 have e:n-i=(n-(i+1))+1:=by omega
 rw[e,List.replicate_succ,List.set_cons_zero,List.take_add_one,hv]
 simp
theorem uf{n sz:Nat}{es es1:List (List AV)}{h:List AO}(hn:n=1)(e:es1=es)(hp:∀x∈es1,ab n x):Fst n (.row sz es::h) [.row sz es1]:=by
 subst hn;subst e
 refine⟨rfl,by simp,λi s q hq=>?_,λi q hq=>?_,λi t p hq=>?_⟩
 ·cases i with
  |zero=>simp at hq;obtain⟨rfl,rfl⟩:=hq;exact⟨rfl,hp⟩
  |succ i=>simp at hq
 ·cases i<;>simp at hq
 ·cases i<;>simp at hq
theorem eP{h:List AO}{id sz n:Nat}{ls:List (List PV)}(he:h[id]?=some (.row sz (ls.map (·.map .p))))(hn:n=ls.length)(hs:∀l∈ls,l.length=sz):View h (.sl id sz 0 n) (.lst sz ls):=by
 subst hn
 refine .sl id sz 0 _ ls he (by simp) hs λi j e q e' a h1 h2 h3 h4=>?_
 simp only[Nat.zero_add,List.getElem?_map,h1,Option.map_some,Option.some.injEq] at h3
 subst h3
 simp only[List.getElem?_map,h2,Option.map_some,Option.some.injEq] at h4
 subst h4
 exact .p q
end Go.Aw
namespace Go.Aw
section
variable {P:Program} {G:az}
def WkR(k:Nat)(v:AV)(h:List AO)(v1:AV)(h1:List AO):Prop:=
 ∃ρ:List Nat,k<=ρ.length/\(∀i,i<k->ρ.getD i 0=i)/\ρ.Nodup/\below ρ.length v1/\ren ρ v1=v/\HW ρ h ρ h1
theorem ES{k:Nat}{v v1:AV}{h h1:List AO}(w:WkR k v h v1 h1):Wk k [v] h [v1] h1:=by
 obtain⟨ρ,r1,r2,r3,r4,r5,r6⟩:=w
 exact Wk.of ρ r1 r2 r3 ⟨.inr ⟨r4,r5⟩,trivial⟩ r6
theorem AC.gc{f:FuncId}{args:List AV}{h:List AO}{R R':ARes->List AO->Prop}(H:AC P G f args h R)(hp:∀t v h',R (.pan t v) h'->R' (.pan t v) h')
 (hw:∀v h',R (.ret v) h'->∃v1 h1,WkR h.length v h' v1 h1/\R' (.ret v1) h1):AC P G f args h R':=by
 refine⟨H.1,λW S φ vs hH hA=>(H.2 W S φ vs hH hA).mono λe W' ⟨r,S',φ',h',k1,k2,k3,k4⟩=>?_⟩
 cases r with
 |pan t v=>exact⟨_,S',φ',h',hp t v h' k1,k2,k3,k4⟩
 |ret v=>
  cases k3 with
  |ret _ x hv=>
   obtain⟨v1,h1,w,hr⟩:=hw v h' k1
   have s:St G W S φ h W' S' φ' {tmps:=#[x],defers:=[]} [v] h':=⟨k2,⟨rfl,λi u hi=>by
    cases i with
    |zero=>simp at hi;subst hi;exact hv
    |succ i=>simp at hi⟩,rfl,k4⟩
   obtain⟨S1,φ1,s1⟩:=ES w G W S φ h W' S' φ' _ rfl s
   exact⟨.ret v1,S1,φ1,h1,hr,s1.hrel,.ret _ _ (s1.trel.get 0 v1 rfl),s1.keep⟩
theorem VRel.isBelow{W:World}{S:Nat->Prop}{φ:au}{n:Nat}{v:AV}{x:Value}(h:VRel W S φ n v x):Aw.below n v:=by
 induction h with
 |agg cs vs hs hc ih=>
  simp only[Aw.below]
  have:∀(l:List AV),(∀c∈l,Aw.below n c)->ab n l:=by
   intro l;induction l with
   |nil=>intro _;trivial
   |cons a r ih=>intro h;exact⟨h a (by simp),ih λc hc=>h c (by simp[hc])⟩
  refine this _ λc hc'=>?_
  obtain⟨j,hj⟩:=List.getElem?_of_mem hc'
  have hl:=(List.getElem?_eq_some_iff.1 hj).1
  exact ih j c _ hj (Array.getElem?_eq_getElem (by omega))
 |tup cs vs hs hc ih=>
  simp only[Aw.below]
  have:∀(l:List AV),(∀c∈l,Aw.below n c)->ab n l:=by
   intro l;induction l with
   |nil=>intro _;trivial
   |cons a r ih=>intro h;exact⟨h a (by simp),ih λc hc=>h c (by simp[hc])⟩
  refine this _ λc hc'=>?_
  obtain⟨j,hj⟩:=List.getElem?_of_mem hc'
  have hl:=(List.getElem?_eq_some_iff.1 hj).1
  exact ih j c _ hj (Array.getElem?_eq_getElem (by omega))
 |fn f cs vs hs hc ih=>
  simp only[Aw.below]
  have:∀(l:List AV),(∀c∈l,Aw.below n c)->ab n l:=by
   intro l;induction l with
   |nil=>intro _;trivial
   |cons a r ih=>intro h;exact⟨h a (by simp),ih λc hc=>h c (by simp[hc])⟩
  refine this _ λc hc'=>?_
  obtain⟨j,hj⟩:=List.getElem?_of_mem hc'
  have hl:=(List.getElem?_eq_some_iff.1 hj).1
  exact ih j c _ hj (Array.getElem?_eq_getElem (by omega))
 |ptr _ _ _ _ hid=>exact hid
 |sl _ _ _ _ _ _ hid=>exact hid
 |mp _ hid=>exact hid
 |it _ hid=>exact hid
 |_=>trivial
def HB(h:List AO):Prop:=
 (∀(i sz:Nat) (es:List (List AV)),h[i]?=some (.row sz es)->∀e∈es,e.length=sz/\ab h.length e/\e.all AV.isCell=true)/\
 ∀(i:Nat) (es:List (PV × AV)),h[i]?=some (.mp es)->∀e∈es,below h.length e.2
theorem HRel.hb{W:World}{S:Nat->Prop}{φ:au}{h:List AO}(H:HRel G W S φ h):HB h:=by
 refine⟨λi sz es e x hx=>?_,λi es e x hx=>?_⟩
 ·obtain⟨c,t,fr,a1,a2,a3,a4,a5⟩:=H.obj i sz es e
  have key:∀u∈x,u.isCell=true/\Aw.below h.length u:=λu hu=>by
   obtain⟨j,hj⟩:=List.getElem?_of_mem (List.mem_flatten.2 ⟨x,hx,hu⟩)
   obtain⟨b1,v,b2,b3⟩:=a5 j u hj
   exact⟨b1,b3.isBelow⟩
  refine⟨a3 x hx,?_,List.all_eq_true.2 λu hu=>(key u hu).1⟩
  have:∀(l:List AV),(∀c∈l,Aw.below h.length c)->ab h.length l:=by
   intro l;induction l with
   |nil=>intro _;trivial
   |cons a r ih=>intro h;exact⟨h a (by simp),ih λc hc=>h c (by simp[hc])⟩
  exact this x λu hu=>(key u hu).2
 ·obtain⟨ents,clock,a1,a2,a3,a4⟩:=H.oobj i _ e trivial
  obtain⟨j,hj⟩:=List.getElem?_of_mem hx
  obtain⟨e0,_,_,h3⟩:=a3 j x.1 x.2 hj
  exact h3.isBelow
theorem AC.hb{f:FuncId}{args:List AV}{h:List AO}{R:ARes->List AO->Prop}(hc:fS P f=true)(H:HB h->AC P G f args h R):AC P G f args h R:=
 ⟨hc,λW S φ vs hH hA=>(H hH.hb).2 W S φ vs hH hA⟩
theorem kV{k:Nat}{ts ts1:List AV}{h:List AO}(hk:k<=h.length)(hb:HB h)(HT:Fgt h.length ts ts1):Wk k ts h ts1 h:=
 so (n:=h.length) hk ⟨rfl,Nat.le_refl _,(λi sz es e=>⟨e,λx hx=>(hb.1 i sz es e x hx).2.1⟩),(λi es e=>⟨e,λx hx=>hb.2 i es e x hx⟩),λi s p e=>e⟩ HT
theorem mF{f:FuncId}{F:FK}(h:ah P f=some F):fS P f=true:=by
 unfold ah at h
 split at h<;>first|(cases h;done)|skip
 split at h<;>first|(cases h;done)|skip
 split at h<;>first|(cases h;done)|skip
 split at h<;>first|(cases h;done)|skip
 assumption
theorem AC.enterB{f:FuncId}{F:FK}{args:List AV}{h:List AO}{R:ARes->List AO->Prop}(hF:ah P f=some F)(H:HB h->AC P G f args h R):AC P G f args h R:=AC.hb (mF hF) H
theorem mZ{n m:Nat}(hnm:n<=m):∀(l:List AV),ab n l->ab m l:=by
 have key:∀(s:Nat),(∀v:AV,SizeOf.sizeOf v<s->below n v->below m v)/\(∀l:List AV,SizeOf.sizeOf l<s->ab n l->ab m l):=by
  intro s
  induction s with
  |zero=>exact⟨λv h=>by omega,λl h=>by omega⟩
  |succ s ih=>
   refine⟨λv hs hb=>?_,λl hs hb=>?_⟩
   ·cases v<;>simp only[below] at hb⊢ <;>first|trivial|omega|(exact ih.2 _ (by simp at hs;omega) hb)
   ·cases l with
    |nil=>trivial
    |cons v r=>exact⟨ih.1 v (by simp at hs;omega) hb.1,ih.2 r (by simp at hs;omega) hb.2⟩
 exact λl=>(key _).2 l (Nat.lt_succ_self _)
theorem HB.set_row{h:List AO}(hb:HB h){id sz:Nat}{es:List (List AV)}(he:∀e∈es,e.length=sz/\ab h.length e/\e.all AV.isCell=true):HB (h.set id (.row sz es)):=by
 refine⟨λi s es1 e x hx=>?_,λi es1 e x hx=>?_⟩
 ·rw[List.length_set]
  by_cases hi:i=id
  ·subst hi
   rw[List.getElem?_set] at e
   split at e
   ·split at e
    ·cases e;exact he x hx
    ·cases e
   ·exact hb.1 _ _ _ e x hx
  ·rw[List.getElem?_set_ne (Ne.symm hi)] at e
   exact hb.1 _ _ _ e x hx
 ·rw[List.length_set]
  by_cases hi:i=id
  ·subst hi
   rw[List.getElem?_set] at e
   split at e
   ·split at e<;>cases e
   ·exact hb.2 _ _ e x hx
  ·rw[List.getElem?_set_ne (Ne.symm hi)] at e
   exact hb.2 _ _ e x hx
def okO(n:Nat):AO->Prop
 | .row _ es=>∀e∈es,ab n e
 | .mp es=>∀e∈es,below n e.2
 |_=>True
theorem aU{k:Nat}{ts ts1:List AV}{h:List AO}(hk:k<=h.length)(ho:∀o∈h,okO h.length o)(HT:Fgt h.length ts ts1):Wk k ts h ts1 h:=
 so (n:=h.length) hk ⟨rfl,Nat.le_refl _,(λi sz es e=>⟨e,λx hx=>ho _ (List.mem_of_getElem? e) x hx⟩),(λi es e=>⟨e,λx hx=>ho _ (List.mem_of_getElem? e) x hx⟩),λi s p e=>e⟩ HT
theorem AC.trim{f:FuncId}{args:List AV}{h:List AO}{r:AV}(H:AC P G f args h λx h'=>x= .ret r/\∃l,h'=h++l)(hr:below h.length r):AC P G f args h λx h'=>x= .ret r/\h'=h:=by
 refine AC.hb H.1 λhb=>H.gc (λt v h' ⟨e,_⟩=>by cases e) λv h' ⟨e,l,e2⟩=>?_
 cases e;subst e2
 obtain⟨ρ,r1,r2,r3,r4,r5⟩:=yZ (k:=h.length) (n:=h.length) (ts:=[r]) (ts1:=[r]) (h:=h++l) (h1:=h) (Nat.le_refl _)
  ⟨rfl,by simp,(λi sz es e=>⟨by rw[List.getElem?_append_left (List.getElem?_eq_some_iff.1 e).1];exact e,λx hx=>(hb.1 i sz es e x hx).2.1⟩),
    (λi es e=>⟨by rw[List.getElem?_append_left (List.getElem?_eq_some_iff.1 e).1];exact e,λx hx=>hb.2 i es e x hx⟩),
    λi s p e=>by rw[List.getElem?_append_left (List.getElem?_eq_some_iff.1 e).1];exact e⟩ ⟨.inr ⟨hr,rfl⟩,trivial⟩
 rcases r4.1 with h1|⟨h1,h2⟩
 ·subst h1
  exact⟨.any,h,⟨ρ,r1,r2,r3,by simp[below],by simp[ren],r5⟩,rfl,rfl⟩
 ·exact⟨r,h,⟨ρ,r1,r2,r3,h1,h2,r5⟩,rfl,rfl⟩
theorem rY(ρ:List Nat):∀l:List AV,ab 0 l->aF ρ l=l:=by
 have key:∀(s:Nat),(∀v:AV,SizeOf.sizeOf v<s->below 0 v->ren ρ v=v)/\(∀l:List AV,SizeOf.sizeOf l<s->ab 0 l->aF ρ l=l):=by
  intro s
  induction s with
  |zero=>exact⟨λv h=>by omega,λl h=>by omega⟩
  |succ s ih=>
   refine⟨λv hs hb=>?_,λl hs hb=>?_⟩
   ·cases v<;>simp only[ren,below] at hb⊢ <;>first|rfl|omega|(rw[ih.2 _ (by simp at hs;omega) hb])
   ·cases l with
    |nil=>rfl
    |cons v r=>simp only[aF];rw[ih.1 v (by simp at hs;omega) hb.1,ih.2 r (by simp at hs;omega) hb.2]
 exact λl=>(key _).2 l (Nat.lt_succ_self _)
theorem aj{ρ:List Nat}{h:List AO}:HW ρ h [] []:=trivial
theorem af{ρ:List Nat}{h:List AO}{i:Nat}{π:List Nat}{sz:Nat}{es:List (List AV)}{r1:List AO}(e:h[i]?=some (.row sz es))(hp:∀x∈es,ab 0 x)(hr:HW ρ h π r1):HW ρ h (i::π) (.row sz es::r1):=
 ⟨(List.getElem?_eq_some_iff.1 e).1,⟨λx hx=>mZ (Nat.zero_le _) _ (hp x hx),by rw[List.map_congr_left (g:=id) λx hx=>rY ρ x (hp x hx)];simpa using e⟩,hr⟩
theorem aE{ρ:List Nat}{h:List AO}{i:Nat}{π:List Nat}{sz:Nat}{es:List (List AV)}{r1:List AO}(hp:∀x∈es,ab ρ.length x)(e:h[i]?=some (.row sz (es.map (aF ρ))))(hr:HW ρ h π r1):HW ρ h (i::π) (.row sz es::r1):=
 ⟨(List.getElem?_eq_some_iff.1 e).1,⟨hp,e⟩,hr⟩
theorem cm{ρ:List Nat}{h:List AO}{i:Nat}{π:List Nat}{r1:List AO}(e:i<h.length)(hr:HW ρ h π r1):HW ρ h (i::π) (.dead::r1):=⟨e,trivial,hr⟩
theorem Ao(ρ:List Nat){k:Nat}{ts ts1:List AV}{h h1:List AO}(hk:k=0)(nd:ρ.Nodup)(HH:HW ρ h ρ h1)(HT:TW ρ ts ts1):Wk k ts h ts1 h1:=
 Wk.of ρ (by omega) (λi hi=>by omega) nd HT HH
@[simp] theorem NZ(ρ:List Nat):TW ρ [] []=True:=by simp[TW]
@[simp] theorem MH(ρ:List Nat)(v v1:AV)(r r1:List AV):TW ρ (v::r) (v1::r1)=((v1= .any\/(below ρ.length v1/\ren ρ v1=v))/\TW ρ r r1):=by simp[TW]
theorem AC.freezeR{f:FuncId}{args:List AV}{r':AV}{R:ARes->List AO->Prop}(H:AC P G f args [] R)(hp:∀t v h,¬R (.pan t v) h)(hv0:∀v h,R (.ret v) h->Views h [v] [r']):VF P G f args r':=by
 refine⟨H.1,λW S φ vs hH hA=>?_⟩
 refine(H.2 W S φ vs hH hA).mono λe W' ⟨x,S',φ',h',k0,k2,k3,k4⟩=>?_
 obtain⟨r,rfl⟩:∃r,x= .ret r:=by
  cases x with
  |ret v=>exact⟨v,rfl⟩
  |pan t v=>exact(hp _ _ _ k0).elim
 have hv:=hv0 _ _ k0
 have himg:∀b,fM φ' h' b->W.heap.size<=b:=λb ⟨id,e,he⟩=>by
  rcases k4.img id e with h2|⟨id2,h2,_⟩
  ·omega
  ·exact(aH h2).elim
 refine⟨.ret r',(λb=>S' b\/fM φ' h' b),φ',[],rfl,⟨λid sz es e=>by simp at e,λid o e _=>by simp at e,λid id' e=>(aH e).elim,λb hb=>⟨by
  rcases hb with hb|⟨id,e,he⟩
  ·exact(k2.sep b hb).1
  ·rw[←he];exact k2.bnd id e.lt,λid e=>(aH e).elim⟩,λid hid=>by simp at hid,λg cs hg=>by
  obtain⟨g1,g2⟩:=k2.glob g cs hg
  exact⟨.inl g1,λj c hj=>by obtain⟨v,q1,q2⟩:=g2 j c hj;exact⟨v,q1,q2.mono λb hb=>⟨.inl hb,rfl⟩⟩⟩⟩,?_,?_⟩
 ·cases k3 with
  |ret _ x hx=>exact .ret _ _ (hv.rel k2 0 r r' x rfl rfl hx)
 ·exact{pure:=λb hb=>⟨.inl (k4.pure b hb).1,(k4.pure b hb).2⟩,len:=Nat.le_refl _,same:=λid hid=>by simp at hid
        blk:=λid hid=>by simp at hid
        os:=k4.os,tape:=k4.tape,output:=k4.output,size:=k4.size,out:=k4.out
        img:=λid e=>(aH e).elim
        newS:=λb hb=>by
         rcases hb with hb|hb
         ·exact k4.newS b hb
         ·exact .inr (.inl (himg b hb))}
end
end Go.Aw
