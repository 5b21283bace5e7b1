/-
  Contracts and lemmas that the card needs, part 1.
-/
import Derived.WalkKit
import Derived.Deep.Quiet
import Derived.Laws.Append
import Derived.Laws.Slices
import Derived.Laws.AppendOwn
import Derived.Laws.BytesString
import Derived.Laws.StructEq
import Derived.Carry
import Derived.Lib.AppendZerosOnto
namespace Go.Aw
def _root_.Go.Value.oneC:Value->Bool
 | .agg _| .tuple _=>false
 |_=>true
inductive PV where
 |bool (b:Bool)
 |int (k:IntKind) (n:Int)
 |str (s:List UInt8)
 |lst (sz:Nat) (es:List (List PV))
 |tbl (ks:List PV) (vs:List (List PV))
def eb:PV->Nat
 | .int _ _=>0
 | .str _=>1
 | .bool _=>2
 | .lst _ _=>3
 | .tbl _ _=>4
def vg:PV->Option Value
 | .bool b=>some (.bool b)
 | .int k n=>some (.int k n)
 | .str s=>some (.string ⟨⟨s⟩⟩)
 |_=>none
def Ab(n:Nat)(f:Nat->Value):Value:=if n=1 then f 0 else .agg ((List.range n).map f).toArray
instance:Inhabited PV:=⟨.bool false⟩
inductive PRel (W:World) (S:Nat->Prop):PV->Value->Prop where
 |bool (b:Bool):PRel W S (.bool b) (.bool b)
 |int (k:IntKind) (n:Int):PRel W S (.int k n) (.int k n)
 |str (s:List UInt8):PRel W S (.str s) (.string ⟨⟨s⟩⟩)
 |lst0 (sz:Nat) (a:Option Addr) (cap:Nat):PRel W S (.lst sz []) (.slice a 0 cap)
 |lst (sz:Nat) (es:List (List PV)) (b off cap:Nat) (vs:Nat->Value):S b->(∀e∈es,e.length=sz)->es.length<=cap->
   (∀j c,es.flatten[j]?=some c->W.cell? ⟨b,off+j,none⟩=some (vs j))->
   (∀j c,es.flatten[j]?=some c->PRel W S c (vs j))->PRel W S (.lst sz es) (.slice (some ⟨b,off,none⟩) es.length cap)
 |tbl (ks:List PV) (vs:List (List PV)) (b clock:Nat) (ents:Array MapEntry) (cv:Nat->Nat->Value):S b->W.heap[b]?=some (.map ents clock)->vs.length=ks.length->
   (∀(j:Nat) (k:PV) (cs:List PV),ks[j]?=some k->vs[j]?=some cs->∃(i:Nat) (e:MapEntry),ents[i]?=some e/\vg k=some e.key/\e.val=Ab cs.length (cv j))->
   (∀(i:Nat) (e:MapEntry),ents[i]?=some e->∃k∈ks,vg k=some e.key)->
   (∀(i i':Nat) (e e':MapEntry),ents[i]?=some e->ents[i']?=some e'->e.key=e'.key->i=i')->
   (∀(j i:Nat) (cs:List PV) (c:PV),vs[j]?=some cs->cs[i]?=some c->PRel W S c (cv j i))->PRel W S (.tbl ks vs) (.map (some b))
theorem aW{W W':World}{b:Nat}(h:W'.heap[b]?=W.heap[b]?)(off:Nat):W'.cell? ⟨b,off,none⟩=W.cell? ⟨b,off,none⟩:=by
 simp only[World.cell?,h]
theorem PRel.mono{W W':World}{S S':Nat->Prop}(hS:∀b,S b->S' b/\W'.heap[b]?=W.heap[b]?){pv:PV}{v:Value}(h:PRel W S pv v):PRel W' S' pv v:=by
 induction h with
 |bool b=>exact .bool b
 |int k n=>exact .int k n
 |str s=>exact .str s
 |lst0 sz a cap=>exact .lst0 sz a cap
 |lst sz es b off cap vs hb hsz hcap hc _ ih=>
  exact .lst sz es b off cap vs (hS b hb).1 hsz hcap (λj c hj=>by rw[aW (hS b hb).2];exact hc j c hj) ih
 |tbl ks vs b clock ents cv hb hm hl h1 h2 h3 _ ih=>exact .tbl ks vs b clock ents cv (hS b hb).1 (by rw[(hS b hb).2];exact hm) hl h1 h2 h3 ih
theorem PRel.oneCell{W:World}{S:Nat->Prop}{pv:PV}{v:Value}(h:PRel W S pv v):v.oneC=true:=by cases h<;>rfl
inductive AV where
 |p (v:PV)
 |agg (cs:List AV)
 |tup (cs:List AV)
 |ptr (id esz i off:Nat)
 |sl (id esz off len:Nat)
 |eptr (e:List PV) (off:Nat)
 |gp (g off:Nat)
 |fn (f:Fn) (caps:List AV)
 |nils|nilp|nilf|nilm|nili
 |ifc (t:TypeId) (v:PV)
 |mp (id:Nat)
 |it (id:Nat)
 |any
instance:Inhabited AV:=⟨.any⟩
def AV.isCell:AV->Bool
 | .agg _| .tup _| .any=>false
 |_=>true
def AV.cells:AV->List AV
 | .agg cs=>cs
 |v=>[v]
inductive AO where
 |row (sz:Nat) (es:List (List AV))
 |mp (es:List (PV × AV))
 |sit (s:List UInt8) (pos:Nat)
 |dead
def AO.live:AO->Prop
 | .dead=>False
 |_=>True
def Live(h:List AO)(id:Nat):Prop:=∃o,h[id]?=some o/\o.live
theorem bD{h:List AO}{id sz:Nat}{es:List (List AV)}(e:h[id]?=some (.row sz es)):Live h id:=⟨_,e,trivial⟩
theorem Aj{h:List AO}{id:Nat}{es:List (PV × AV)}(e:h[id]?=some (.mp es)):Live h id:=⟨_,e,trivial⟩
theorem uF{h:List AO}{id:Nat}{s:List UInt8}{pos:Nat}(e:h[id]?=some (.sit s pos)):Live h id:=⟨_,e,trivial⟩
theorem aH{id:Nat}:¬Live [] id:=λ⟨o,e,_⟩=>by simp at e
theorem Live.lt{h:List AO}{id:Nat}(l:Live h id):id<h.length:=by
 obtain⟨o,e,_⟩:=l
 exact(List.getElem?_eq_some_iff.1 e).1
def MRel(R:AV->Value->Prop)(es:List (PV × AV))(ents:Array MapEntry)(clock:Nat):Prop:=
 ents.size=es.length/\(∀(j:Nat) (k:PV) (a:AV),es[j]?=some (k,a)->∃e,ents[j]?=some e/\vg k=some e.key/\R a e.val)/\
 (∀(j:Nat) (e:MapEntry),ents[j]?=some e->e.born<clock)/\∀(i j:Nat) (e e':MapEntry),ents[i]?=some e->ents[j]?=some e'->e.born=e'.born->i=j
theorem MRel.mono{R R':AV->Value->Prop}{es:List (PV × AV)}{ents:Array MapEntry}{clock:Nat}(hr:∀a v,R a v->R' a v)(h:MRel R es ents clock):MRel R' es ents clock:=
 ⟨h.1,λj k a e=>by obtain⟨x,h1,h2,h3⟩:=h.2.1 j k a e;exact⟨x,h1,h2,hr _ _ h3⟩,h.2.2⟩
def ORel(R:AV->Value->Prop):AO->Option Obj->Prop
 | .mp es,x=>∃ents clock,x=some (.map ents clock)/\MRel R es ents clock
 | .sit s pos,x=>x=some (.stringIter ⟨⟨s⟩⟩ pos)
 |_,_=>True
theorem ORel.mono{R R':AV->Value->Prop}(hr:∀a v,R a v->R' a v):∀{o:AO} {x:Option Obj},ORel R o x->ORel R' o x
 | .mp _,_,⟨ents,clock,h1,h2⟩=>⟨ents,clock,h1,h2.mono hr⟩
 | .sit _ _,_,h=>h
 | .row _ _,_,_=>trivial
 | .dead,_,_=>trivial
abbrev au:=Nat->Nat × Nat
inductive VRel (W:World) (S:Nat->Prop) (φ:au) (n:Nat):AV->Value->Prop where
 |p (pv:PV) (x:Value):PRel W S pv x->VRel W S φ n (.p pv) x
 |agg (cs:List AV) (vs:Array Value):vs.size=cs.length->(∀(j:Nat) (c:AV) (v:Value),cs[j]?=some c->vs[j]?=some v->VRel W S φ n c v)->VRel W S φ n (.agg cs) (.agg vs)
 |tup (cs:List AV) (vs:Array Value):vs.size=cs.length->(∀(j:Nat) (c:AV) (v:Value),cs[j]?=some c->vs[j]?=some v->VRel W S φ n c v)->VRel W S φ n (.tup cs) (.tuple vs)
 |ptr (id esz i off:Nat):id<n->VRel W S φ n (.ptr id esz i off) (.pointer (some ⟨(φ id).1,(φ id).2+(i*esz+off),none⟩))
 |sl (id esz off len cap:Nat) (ba:Option Addr):id<n->len<=cap->(0<cap->ba=some ⟨(φ id).1,(φ id).2+off*esz,none⟩)->
   (∀c t fr,W.heap[(φ id).1]?=some (.cells c t fr)->(φ id).2+(off+cap)*esz<=c.size)->VRel W S φ n (.sl id esz off len) (.slice ba len cap)
 |eptr (e:List PV) (off b o:Nat):S b->(∀j c,e[j]?=some c->∃v,W.cell? ⟨b,o+j,none⟩=some v/\PRel W S c v)->
   VRel W S φ n (.eptr e off) (.pointer (some ⟨b,o+off,none⟩))
 |gp (g off:Nat):VRel W S φ n (.gp g off) (.pointer (some ⟨g,off,none⟩))
 |fn (f:Fn) (caps:List AV) (vs:Array Value):vs.size=caps.length->(∀(j:Nat) (c:AV) (v:Value),caps[j]?=some c->vs[j]?=some v->VRel W S φ n c v)->VRel W S φ n (.fn f caps) (.func f #[] vs)
 |nils:VRel W S φ n .nils (.slice none 0 0)
 |nilp:VRel W S φ n .nilp (.pointer none)
 |nilf:VRel W S φ n .nilf .nilFunc
 |nilm:VRel W S φ n .nilm (.map none)
 |nili:VRel W S φ n .nili .nilIface
 |ifc (t:TypeId) (pv:PV) (x:Value):PRel W S pv x->VRel W S φ n (.ifc t pv) (.iface t x)
 |mp (id:Nat):id<n->VRel W S φ n (.mp id) (.map (some (φ id).1))
 |it (id:Nat):id<n->VRel W S φ n (.it id) (.pointer (some ⟨(φ id).1,0,none⟩))
 |any (x:Value):VRel W S φ n .any x
theorem VRel.oneCell{W:World}{S:Nat->Prop}{φ:au}{n:Nat}{av:AV}{x:Value}(hv:VRel W S φ n av x)(hc:av.isCell=true):x.oneC=true:=by
 cases hv<;>first|rfl|assumption|(exact PRel.oneCell (by assumption))|(simp[AV.isCell] at hc)
structure Kept (W:World) (S:Nat->Prop) (φ:au) (n:Nat) (W':World) (S':Nat->Prop) (φ':au) (n':Nat):Prop where
 pure:∀b,S b->S' b/\W'.heap[b]?=W.heap[b]?
 len:n<=n'
 same:∀id,id<n->φ' id=φ id
 blk:∀id,id<n->∀c' t' fr',W'.heap[(φ id).1]?=some (.cells c' t' fr')->∃c t fr,W.heap[(φ id).1]?=some (.cells c t fr)/\c.size=c'.size
theorem VRel.kept{W W':World}{S S':Nat->Prop}{φ φ':au}{n n':Nat}(K:Kept W S φ n W' S' φ' n'){av:AV}{x:Value}(hv:VRel W S φ n av x):
 VRel W' S' φ' n' av x:=by
 induction hv with
 |p pv x hp=>exact .p pv x (hp.mono K.pure)
 |agg cs vs hs _ ih=>exact .agg cs vs hs ih
 |tup cs vs hs _ ih=>exact .tup cs vs hs ih
 |ptr id esz i off hid=>rw[←K.same id hid];exact .ptr id esz i off (Nat.lt_of_lt_of_le hid K.len)
 |sl id esz off len cap ba hid hl hb hc=>
  refine .sl id esz off len cap ba (Nat.lt_of_lt_of_le hid K.len) hl (λh=>by rw[K.same id hid];exact hb h) λc t fr e=>?_
  rw[K.same id hid] at e⊢
  obtain⟨c0,t0,fr0,e0,es⟩:=K.blk id hid c t fr e
  rw[←es];exact hc _ _ _ e0
 |eptr e off b o hb hc=>
  refine .eptr e off b o (K.pure b hb).1 λj c hj=>?_
  obtain⟨v,h1,h2⟩:=hc j c hj
  exact⟨v,by rw[aW (K.pure b hb).2];exact h1,h2.mono K.pure⟩
 |gp g off=>exact .gp g off
 |fn f caps vs hs _ ih=>exact .fn f caps vs hs ih
 |nils=>exact .nils
 |nilp=>exact .nilp
 |nilf=>exact .nilf
 |nilm=>exact .nilm
 |nili=>exact .nili
 |ifc t pv x hp=>exact .ifc t pv x (hp.mono K.pure)
 |mp id hid=>rw[←K.same id hid];exact .mp id (Nat.lt_of_lt_of_le hid K.len)
 |it id hid=>rw[←K.same id hid];exact .it id (Nat.lt_of_lt_of_le hid K.len)
 |any x=>exact .any x
abbrev az:=Nat->Option (List PV)
structure HRel (G:az) (W:World) (S:Nat->Prop) (φ:au) (h:List AO):Prop where
 obj:∀(id sz:Nat) (es:List (List AV)),h[id]?=some (.row sz es)->∃c t fr,W.heap[(φ id).1]?=some (.cells c t fr)/\(∀j,j<c.size->¬(fr.1<=j/\j<fr.2))/\
  (∀e∈es,e.length=sz)/\(φ id).2+es.length*sz<=c.size/\
  ∀(j:Nat) (a:AV),es.flatten[j]?=some a->a.isCell=true/\∃v,c[(φ id).2+j]?=some v/\VRel W S φ h.length a v
 oobj:∀(id:Nat) (o:AO),h[id]?=some o->o.live->ORel (VRel W S φ h.length) o W.heap[(φ id).1]?
 inj:∀id id',Live h id->Live h id'->(φ id).1=(φ id').1->id=id'
 sep:∀b,S b->b<W.heap.size/\∀id,Live h id->(φ id).1≠b
 bnd:∀id,id<h.length->(φ id).1<W.heap.size
 glob:∀g cs,G g=some cs->S g/\∀j c,cs[j]?=some c->∃v,W.cell? ⟨g,j,none⟩=some v/\PRel W S c v
structure Keep (W:World) (S:Nat->Prop) (φ:au) (h:List AO) (W':World) (S':Nat->Prop) (φ':au) (h':List AO):Prop extends Kept W S φ h.length W' S' φ' h'.length where
 os:W'.os=W.os
 tape:W'.tape=W.tape
 output:W'.output=W.output
 size:W.heap.size<=W'.heap.size
 out:∀b,b<W.heap.size->(∀id,Live h id->(φ id).1≠b)->W'.heap[b]?=W.heap[b]?
 img:∀id,Live h' id->W.heap.size<=(φ' id).1\/∃id2,Live h id2/\(φ id2).1=(φ' id).1
 newS:∀b,S' b->S b\/W.heap.size<=b\/∃id,Live h id/\(φ id).1=b
theorem Keep.refl{G:az}{W:World}{S:Nat->Prop}{φ:au}{h:List AO}(_H:HRel G W S φ h):Keep W S φ h W S φ h where
 pure:=λb hb=>⟨hb,rfl⟩
 len:=Nat.le_refl _
 same:=λ_ _=>rfl
 blk:=λ_ _ c t fr e=>⟨c,t,fr,e,rfl⟩
 os:=rfl
 tape:=rfl
 output:=rfl
 size:=Nat.le_refl _
 out:=λ_ _ _=>rfl
 img:=λid hid=> .inr ⟨id,hid,rfl⟩
 newS:=λ_ hb=> .inl hb
theorem Keep.trans{W0 W1 W2:World}{S0 S1 S2:Nat->Prop}{φ0 φ1 φ2:au}{h0 h1 h2:List AO}
 (a:Keep W0 S0 φ0 h0 W1 S1 φ1 h1)(b:Keep W1 S1 φ1 h1 W2 S2 φ2 h2):Keep W0 S0 φ0 h0 W2 S2 φ2 h2 where
 pure:=λx hx=>⟨(b.pure x (a.pure x hx).1).1,(b.pure x (a.pure x hx).1).2.trans (a.pure x hx).2⟩
 len:=Nat.le_trans a.len b.len
 same:=λid hid=>(b.same id (Nat.lt_of_lt_of_le hid a.len)).trans (a.same id hid)
 blk:=λid hid c t fr e=>by
  have h1:=b.blk id (Nat.lt_of_lt_of_le hid a.len) c t fr (by rw[a.same id hid];exact e)
  rw[a.same id hid] at h1
  obtain⟨c1,t1,fr1,e1,s1⟩:=h1
  obtain⟨c0,t0,fr0,e0,s0⟩:=a.blk id hid c1 t1 fr1 e1
  exact⟨c0,t0,fr0,e0,s0.trans s1⟩
 os:=b.os.trans a.os
 tape:=b.tape.trans a.tape
 output:=b.output.trans a.output
 size:=Nat.le_trans a.size b.size
 out:=λx hx hn=>by
  refine(b.out x (Nat.lt_of_lt_of_le hx a.size) λid hid he=>?_).trans (a.out x hx hn)
  rcases a.img id hid with h'|⟨id2,h',e⟩
  ·omega
  ·exact hn id2 h' (e.trans he)
 img:=λid hid=>by
  rcases b.img id hid with h'|⟨id2,h',e⟩
  ·exact .inl (Nat.le_trans a.size h')
  ·rcases a.img id2 h' with h''|⟨id3,h'',e'⟩
   ·exact .inl (by omega)
   ·exact .inr ⟨id3,h'',e'.trans e⟩
 newS:=λx hx=>by
  rcases b.newS x hx with h'|h'|⟨id,h',e⟩
  ·exact a.newS x h'
  ·exact .inr (.inl (Nat.le_trans a.size h'))
  ·rcases a.img id h' with h''|⟨id3,h'',e'⟩
   ·exact .inr (.inl (by omega))
   ·exact .inr (.inr ⟨id3,h'',e'.trans e⟩)
end Go.Aw
namespace Go.Aw
inductive AOp where
 |t (n:Nat)
 |c (v:AV)
def AOp.ev(ts:List AV):AOp->AV
 | .t n=>ts.getD n .any
 | .c v=>v
def cv1:Value->Option AV
 | .bool b=>some (.p (.bool b))
 | .int k n=>some (.p (.int k n))
 | .string s=>some (.p (.str s.data.toList))
 | .slice none 0 0=>some .nils
 | .pointer none=>some .nilp
 | .nilFunc=>some .nilf
 | .map none=>some .nilm
 | .nilIface=>some .nili
 |_=>none
def cvs:List Value->Option (List AV)
 |[]=>some []
 |v::r=>match cv1 v,cvs r with
  |some a,some l=>some (a::l)
  |_,_=>none
def cv:Value->Option AV
 | .agg cs=>(cvs cs.toList).map .agg
 |v=>cv1 v
def cop:Operand->Option AOp
 | .tmp t=>some (.t t)
 | .const v=>(cv v).map .c
 | .global g=>some (.c (.gp g 0))
 | .func f=>some (.c (.fn (.func f) []))
structure TRel (W:World) (S:Nat->Prop) (φ:au) (n:Nat) (ts:List AV) (tmps:Array Value):Prop where
 size:tmps.size=ts.length
 get:∀i v,ts[i]?=some v->VRel W S φ n v (tmps.getD i undef)
section
variable {W:World} {S:Nat->Prop} {φ:au} {n:Nat}
theorem Eh{v:Value}{a:AV}(e:cv1 v=some a):VRel W S φ n a v:=by
 unfold cv1 at e
 split at e<;>first|(cases e;done)|skip
 all_goals (cases e)
 ·exact .p _ _ (.bool _)
 ·exact .p _ _ (.int _ _)
 ·exact .p _ _ (.str _)
 ·exact .nils
 ·exact .nilp
 ·exact .nilf
 ·exact .nilm
 ·exact .nili
theorem DZ:∀{l:List Value} {as:List AV},cvs l=some as->l.length=as.length/\∀(j:Nat) (a:AV) (v:Value),as[j]?=some a->l[j]?=some v->VRel W S φ n a v
 |[],as,e=>by cases e;exact⟨rfl,λj a v h1=>by simp at h1⟩
 |x::r,as,e=>by
  unfold cvs at e
  split at e
  ·rename_i a l h1 h2
   cases e
   obtain⟨e1,e2⟩:=DZ h2
   refine⟨by simp[e1],λj b v g1 g2=>?_⟩
   cases j with
   |zero=>simp at g1 g2;subst g1;subst g2;exact Eh h1
   |succ j=>simp at g1 g2;exact e2 j b v g1 g2
  ·cases e
theorem Cq{v:Value}{a:AV}(e:cv v=some a):VRel W S φ n a v:=by
 unfold cv at e
 split at e
 ·rename_i cs
  rw[Option.map_eq_some_iff] at e
  obtain⟨l,e1,rfl⟩:=e
  obtain⟨e2,e3⟩:=DZ e1
  exact .agg l cs (by simpa using e2) λj c v h1 h2=>e3 j c v h1 (by simpa using h2)
 ·exact Eh e
theorem am{o:Operand}{x:AOp}(e:cop o=some x){ts:List AV}{a:Act}(T:TRel W S φ n ts a.tmps):VRel W S φ n (x.ev ts) (a.eval o):=by
 cases o with
 |tmp t=>
  cases e
  simp only[AOp.ev,Act.eval,List.getD_eq_getElem?_getD]
  cases h1:ts[t]? with
  |none=>exact .any _
  |some v=>exact T.get t v h1
 |const v=>
  simp only[cop,Option.map_eq_some_iff] at e
  obtain⟨v',e,rfl⟩:=e
  exact Cq e
 |global g=>cases e;exact .gp g 0
 |func f=>cases e;exact .fn _ [] #[] rfl λj c v h1=>by simp at h1
theorem TRel.put{ts:List AV}{a:Act}(T:TRel W S φ n ts a.tmps){v:AV}{x:Value}(hv:VRel W S φ n v x)(d:Option Nat):
 TRel W S φ n (match d with|some d=>ts.set d v|none=>ts) (a.put d x).tmps:=by
 cases d with
 |none=>exact T
 |some d=>
  refine⟨by simpa[Act.put] using T.size,λi u hi=>?_⟩
  simp only[Act.put]
  rw[List.getElem?_set] at hi
  have hs:=T.size
  split at hi
  ·rename_i hd
   split at hi
   ·rename_i hl;cases hi;subst hd
    simpa[Array.getD_eq_getD_getElem?,hs,hl] using hv
   ·cases hi
  ·rename_i hd
   have:=T.get i u hi
   simpa[Array.getD_eq_getD_getElem?,Array.getElem?_setIfInBounds_ne hd] using this
end
theorem TRel.kept{W W':World}{S S':Nat->Prop}{φ φ':au}{n n':Nat}{ts:List AV}{tmps:Array Value}(T:TRel W S φ n ts tmps)(K:Kept W S φ n W' S' φ' n'):
 TRel W' S' φ' n' ts tmps:=⟨T.size,λi v hi=>(T.get i v hi).kept K⟩
inductive NV:Next->Value->Prop where
 |value (v:Value):NV (.value v) v
 |skip:NV .skip undef
def Yld(P:Program)(G:az)(o:Oper)(ts:List AV)(h:List AO)(av:AV)(h':List AO):Prop:=
 ∀(W:World) (S:Nat->Prop) (φ:au) (a:Act),HRel G W S φ h->TRel W S φ h.length ts a.tmps->
  ∃n v W' S' φ',(execOp a.eval o).run P W= .ok n W'/\NV n v/\VRel W' S' φ' h'.length av v/\HRel G W' S' φ' h'/\Keep W S φ h W' S' φ' h'
theorem Yld.of_same{P:Program}{G:az}{o:Oper}{ts:List AV}{h:List AO}{av:AV}
 (H:∀(W:World) (S:Nat->Prop) (φ:au) (a:Act),HRel G W S φ h->TRel W S φ h.length ts a.tmps->∃v,(execOp a.eval o).run P W= .ok (.value v) W/\VRel W S φ h.length av v):
 Yld P G o ts h av h:=λW S φ a hr ht=>by
 obtain⟨v,h1,h2⟩:=H W S φ a hr ht
 exact⟨_,v,W,S,φ,h1,.value v,h2,hr,Keep.refl hr⟩
end Go.Aw
namespace Go.Aw
def wr(c:Array Value)(off:Nat):List Value->Array Value
 |[]=>c
 |v::r=>wr (c.setIfInBounds off v) (off+1) r
theorem dp(c:Array Value)(off:Nat)(l:List Value):(wr c off l).size=c.size:=by
 induction l generalizing c off with
 |nil=>rfl
 |cons v r ih=>simp[wr,ih]
theorem sw(c:Array Value)(off:Nat)(l:List Value)(h:off+l.length<=c.size)(j:Nat):
 (wr c off l)[j]?=if off<=j/\j<off+l.length then l[j-off]? else c[j]?:=by
 induction l generalizing c off with
 |nil=>simp[wr];intro h1 h2;omega
 |cons v r ih=>
  simp only[List.length_cons] at h
  rw[wr,ih _ _ (by simp;omega)]
  simp only[List.length_cons]
  by_cases h1:off+1<=j/\j<off+1+r.length
  ·rw[if_pos h1,if_pos (by omega),show j-off=(j-(off+1))+1 by omega,List.getElem?_cons_succ]
  ·rw[if_neg h1]
   by_cases h2:j=off
   ·subst h2
    rw[if_pos (by omega),Nat.sub_self,List.getElem?_cons_zero,Array.getElem?_setIfInBounds_self]
    simp;omega
   ·rw[if_neg (by omega),Array.getElem?_setIfInBounds_ne (Ne.symm h2)]
structure BlockSet (W W':World) (b:Nat) (c:Array Value) (t:TypeId) (fr:Nat × Nat):Prop where
 at_b:W'.heap[b]?=some (.cells c t fr)
 other:∀b',b'≠b->W'.heap[b']?=W.heap[b']?
 size:W'.heap.size=W.heap.size
 os:W'.os=W.os
 tape:W'.tape=W.tape
 output:W'.output=W.output
theorem yz{W:World}{b off:Nat}{c:Array Value}{t:TypeId}{fr:Nat × Nat}(h:W.heap[b]?=some (.cells c t fr))(v:Value):
 BlockSet W (W.setCell ⟨b,off,none⟩ v) b (c.setIfInBounds off v) t fr where
 at_b:=by simp[World.setCell,Array.getElem?_modify,h]
 other:=λb' hb=>by simp[World.setCell,Array.getElem?_modify,Ne.symm hb]
 size:=by simp[World.setCell]
 os:=rfl
 tape:=rfl
 output:=rfl
theorem fJ{P:Program}(l:List Value):∀(W:World) (b off i:Nat) (c:Array Value) (t:TypeId) (fr:Nat × Nat),W.heap[b]?=some (.cells c t fr)->
 (∀j,j<c.size->¬(fr.1<=j/\j<fr.2))->off+i+l.length<=c.size->(∀v∈l,v.oneC=true)->
 ∃W',(storeCells ⟨b,off,none⟩ l i).run P W= .ok () W'/\BlockSet W W' b (wr c (off+i) l) t fr:=by
 induction l with
 |nil=>intro W b off i c t fr h _ _ _;exact⟨W,by simp[storeCells],⟨h,λ_ _=>rfl,rfl,rfl,rfl,rfl⟩⟩
 |cons v r ih=>
  intro W b off i c t fr h hf hl hv
  simp only[List.length_cons] at hl
  have hoff:off+i<c.size:=by omega
  have hadd:(⟨b,off,none⟩:Addr).add i=⟨b,off+i,none⟩:=by unfold Addr.add;split<;>simp_all
  have hcell:W.cell? ⟨b,off+i,none⟩=some c[off+i]:=by simp[World.cell?,h,hoff]
  have hfz:W.frozen? ⟨b,off+i,none⟩=false:=by
   have:=hf _ hoff
   simp only[World.frozen?,h]
   simpa using this
  have h1:=yz (W:=W) (off:=off+i) h v
  obtain⟨W',hrun,hB⟩:=ih (W.setCell ⟨b,off+i,none⟩ v) b off (i+1) _ t fr h1.at_b (λj hj=>hf j (by simpa using hj)) (by simp;omega) (λu hu=>hv u (List.mem_cons_of_mem _ hu))
  refine⟨W',?_,⟨?_,λb' hb=>(hB.other b' hb).trans (h1.other b' hb),hB.size.trans h1.size,hB.os,hB.tape,hB.output⟩⟩
  ·have h1c:=hv v (List.mem_cons_self ..)
   simp only[storeCells,hadd]
   cases v<;>first|(simp[Value.oneC] at h1c;done)|(simp[store,Sem.run,hcell,hfz];exact hrun)
  ·rw[hB.at_b];simp[wr,Nat.add_assoc]
theorem bv{α:Type}{sz:Nat}:∀{es:List (List α)},(∀e∈es,e.length=sz)->∀i j,j<sz->es.flatten[i*sz+j]?=(es[i]?).bind (·[j]?)
 |[],_,i,j,_=>by simp
 |e::r,h,i,j,hj=>by
  have he:=h e (List.mem_cons_self ..)
  have ih:=bv (es:=r) (λx hx=>h x (List.mem_cons_of_mem _ hx))
  cases i with
  |zero=>simp[List.getElem?_append,he,hj]
  |succ i=>
   have:(i+1)*sz+j=e.length+(i*sz+j):=by rw[he,Nat.add_mul];omega
   rw[this,List.flatten_cons,List.getElem?_append_right (by omega),Nat.add_sub_cancel_left,ih i j hj]
   simp
theorem aK{α:Type}{sz:Nat}:∀{es:List (List α)},(∀e∈es,e.length=sz)->es.flatten.length=es.length*sz
 |[],_=>by simp
 |e::r,h=>by
  have he:=h e (List.mem_cons_self ..)
  have ih:=aK (es:=r) (λx hx=>h x (List.mem_cons_of_mem _ hx))
  simp[ih,he,Nat.add_mul];omega
section
variable {G:az} {W:World} {S:Nat->Prop} {φ:au} {h:List AO}
def upd(φ:au)(id:Nat)(B:Nat × Nat):au:=λi=>if i=id then B else φ i
theorem HRel.lt(H:HRel G W S φ h){id:Nat}{o:AO}(e:h[id]?=some o):id<h.length:=(List.getElem?_eq_some_iff.1 e).1
theorem HRel.update(H:HRel G W S φ h){W':World}{id sz:Nat}{es es':List (List AV)}{c c0:Array Value}{t t0:TypeId}{fr fr0:Nat × Nat}
 (hid:h[id]?=some (.row sz es))(h0:W.heap[(φ id).1]?=some (.cells c0 t0 fr0))(hcs:c.size=c0.size)(B:BlockSet W W' (φ id).1 c t fr)
 (hfr:∀j,j<c.size->¬(fr.1<=j/\j<fr.2))(hsz:∀e∈es',e.length=sz)(hfit:(φ id).2+es'.length*sz<=c.size)
 (hc:∀(j:Nat) (a:AV),es'.flatten[j]?=some a->a.isCell=true/\∃v,c[(φ id).2+j]?=some v/\VRel W S φ h.length a v):
 HRel G W' S φ (h.set id (.row sz es'))/\Keep W S φ h W' S φ (h.set id (.row sz es')):=by
 have hidl:id<h.length:=H.lt hid
 have hget:∀{i o},(h.set id (AO.row sz es'))[i]?=some o->(i=id/\o= .row sz es')\/(i≠id/\h[i]?=some o):=λ{i o} e=>by
  by_cases hi:i=id
  ·subst hi;rw[List.getElem?_set_self hidl] at e;cases e;exact .inl ⟨rfl,rfl⟩
  ·rw[List.getElem?_set_ne (Ne.symm hi)] at e;exact .inr ⟨hi,e⟩
 have hlive:∀{i},Live (h.set id (AO.row sz es')) i->Live h i:=λ⟨o,e,l⟩=>by
  rcases hget e with⟨rfl,_⟩|⟨_,e'⟩
  ·exact bD hid
  ·exact⟨_,e',l⟩
 have K:Kept W S φ h.length W' S φ (h.set id (AO.row sz es')).length:=
  {pure:=λb hb'=>⟨hb',B.other b λe=>(H.sep b hb').2 _ (bD hid) e.symm⟩
   len:=by simp
   same:=λ_ _=>rfl
   blk:=λi hi c' t' fr' e=>by
    by_cases hb:(φ i).1=(φ id).1
    ·rw[hb,B.at_b] at e;cases e;exact⟨c0,t0,fr0,by rw[hb];exact h0,hcs.symm⟩
    ·rw[B.other _ hb] at e;exact⟨c',t',fr',e,rfl⟩}
 refine⟨?_,{K with os:=B.os,tape:=B.tape,output:=B.output,size:=by rw[B.size];exact Nat.le_refl _,out:=λb hb' hn=>B.other b (λe=>hn id (bD hid) e.symm),img:=?_,newS:=λb hb'=> .inl hb'}⟩
 ·refine⟨λi s es1 e=>?_,λi o1 e lo=>?_,λi i' e1 e2 he=>H.inj _ _ (hlive e1) (hlive e2) he,λb hb'=>⟨by have:=(H.sep b hb').1;rw[B.size];exact this,λi e he=>(H.sep b hb').2 _ (hlive e) he⟩,λi hi=>by rw[B.size];exact H.bnd i (by simpa using hi),λg cs hg=>?_⟩
  ·rcases hget e with⟨rfl,e'⟩|⟨hi,e'⟩
   ·cases e'
    refine⟨c,t,fr,B.at_b,hfr,hsz,hfit,λj a hj=>?_⟩
    obtain⟨b1,v,b2,b3⟩:=hc j a hj
    exact⟨b1,v,b2,b3.kept K⟩
   ·obtain⟨c1,t1,fr1,a1,a2,a3,a4,a5⟩:=H.obj i s es1 e'
    refine⟨c1,t1,fr1,by rw[B.other _ (λhe=>hi (H.inj _ _ (bD e') (bD hid) he))];exact a1,a2,a3,a4,λj a hj=>?_⟩
    obtain⟨b1,v,b2,b3⟩:=a5 j a hj
    exact⟨b1,v,b2,b3.kept K⟩
  ·rcases hget e with⟨rfl,e'⟩|⟨hi,e'⟩
   ·cases e';trivial
   ·rw[B.other _ (λhe=>hi (H.inj _ _ ⟨_,e',lo⟩ (bD hid) he))]
    exact(H.oobj i o1 e' lo).mono λa v r=>r.kept K
  ·obtain⟨g1,g2⟩:=H.glob g cs hg
   refine⟨g1,λj c' hj=>?_⟩
   obtain⟨v,k1,k2⟩:=g2 j c' hj
   exact⟨v,by rw[aW (K.pure g g1).2];exact k1,k2.mono K.pure⟩
 ·intro i e
  exact .inr ⟨i,hlive e,rfl⟩
theorem HRel.push(H:HRel G W S φ h){W':World}{d:Option Nat}{B:Nat × Nat}{sz:Nat}{es:List (List AV)}{c:Array Value}{t:TypeId}{fr:Nat × Nat}
 (hB:W.heap.size<=B.1\/∃id sz0 es0 c0 t0 fr0,d=some id/\h[id]?=some (.row sz0 es0)/\B.1=(φ id).1/\W.heap[B.1]?=some (.cells c0 t0 fr0)/\c0.size=c.size)
 (hb:W'.heap[B.1]?=some (.cells c t fr))(ho:∀b,b<W.heap.size->b≠B.1->W'.heap[b]?=W.heap[b]?)(hs:W.heap.size<=W'.heap.size)
 (h1:W'.os=W.os)(h2:W'.tape=W.tape)(h3:W'.output=W.output)
 (hfr:∀j,j<c.size->¬(fr.1<=j/\j<fr.2))(hsz:∀e∈es,e.length=sz)(hfit:B.2+es.length*sz<=c.size)
 (hc:∀(j:Nat) (a:AV),es.flatten[j]?=some a->a.isCell=true/\∃v,c[B.2+j]?=some v/\VRel W S φ h.length a v)
 {h':List AO}(hh:h'=(match d with|some id=>h.set id .dead|none=>h)++[.row sz es]):
 HRel G W' S (upd φ h.length B) h'/\Keep W S φ h W' S (upd φ h.length B) h':=by
 have hlen:h'.length=h.length+1:=by subst hh;cases d<;>simp
 have hlast:h'[h.length]?=some (.row sz es):=by subst hh;cases d<;>simp
 have hget:∀{i o},o.live->h'[i]?=some o->(i=h.length/\o= .row sz es)\/(i<h.length/\h[i]?=some o/\∀id,d=some id->i≠id):=λ{i o} ol e=>by
  rcases Nat.lt_trichotomy i h.length with hi|hi|hi
  ·refine .inr ⟨hi,?_⟩
   subst hh
   cases d with
   |none=>simp only at e;rw[List.getElem?_append_left hi] at e;exact⟨e,λ_ h=>by cases h⟩
   |some id=>
    simp only at e
    rw[List.getElem?_append_left (by simpa using hi)] at e
    by_cases hid:i=id
    ·subst hid;rw[List.getElem?_set_self hi] at e;cases e;exact ol.elim
    ·rw[List.getElem?_set_ne (Ne.symm hid)] at e;exact⟨e,λ_ h=>by cases h;exact hid⟩
  ·subst hi;rw[hlast] at e;cases e;exact .inl ⟨rfl,rfl⟩
  ·rw[List.getElem?_eq_none (by omega)] at e;cases e
 have hφ:∀{i},i<h.length->upd φ h.length B i=φ i:=λhi=>by simp only[upd];rw[if_neg (by omega)]
 have hφn:upd φ h.length B h.length=B:=by simp[upd]
 have hne:∀{i},i<h.length->Live h i->(∀id,d=some id->i≠id)->(φ i).1≠B.1:=λhi e hd he=>by
  rcases hB with hB|⟨id,sz0,es0,c0,t0,fr0,e1,e2,e3,_⟩
  ·have:=H.bnd _ hi;omega
  ·exact hd id e1 (H.inj _ _ e (bD e2) (he.trans e3))
 have hS:∀{b},S b->b≠B.1:=λhb' he=>by
  rcases hB with hB|⟨id,sz0,es0,c0,t0,fr0,e1,e2,e3,_⟩
  ·have:=(H.sep _ hb').1;omega
  ·exact(H.sep _ hb').2 _ (bD e2) (he.trans e3).symm
 have K:Kept W S φ h.length W' S (upd φ h.length B) h'.length:=
  {pure:=λb hb'=>⟨hb',ho b (H.sep b hb').1 (hS hb')⟩
   len:=by omega
   same:=λid hid=>hφ hid
   blk:=λi hi c' t' fr' e=>by
    by_cases hb':(φ i).1=B.1
    ·rcases hB with hB|⟨id,sz0,es0,c0,t0,fr0,e1,e2,e3,e4,e5⟩
     ·have:=H.bnd _ hi;omega
     ·rw[hb',hb] at e;cases e
      exact⟨c0,t0,fr0,by rw[hb'];exact e4,e5⟩
    ·rw[ho _ (H.bnd _ hi) hb'] at e;exact⟨c',t',fr',e,rfl⟩}
 refine⟨?_,{K with os:=h1,tape:=h2,output:=h3,size:=hs,out:=λb hb' hn=>ho b hb' λhe=>?_,img:=?_,newS:=λb hb'=> .inl hb'}⟩
 ·refine⟨λi s es1 e=>?_,λi o1 e lo=>?_,λi i' ⟨o1,e1,l1⟩ ⟨o2,e2,l2⟩ he=>?_,λb hb'=>⟨Nat.lt_of_lt_of_le (H.sep b hb').1 hs,λi ⟨o1,e,l1⟩ he=>?_⟩,λi hi=>?_,λg cs hg=>?_⟩
  ·rcases hget (o:= .row s es1) trivial e with⟨rfl,eo⟩|⟨hi,e',hd⟩
   ·cases eo
    refine⟨c,t,fr,by rw[hφn];exact hb,hfr,hsz,by rw[hφn];exact hfit,λj a hj=>?_⟩
    obtain⟨b1,v,b2,b3⟩:=hc j a hj
    exact⟨b1,v,by rw[hφn];exact b2,b3.kept K⟩
   ·obtain⟨c1,t1,fr1,a1,a2,a3,a4,a5⟩:=H.obj i s es1 e'
    refine⟨c1,t1,fr1,by rw[hφ hi,ho _ (H.bnd _ hi) (hne hi (bD e') hd)];exact a1,a2,a3,by rw[hφ hi];exact a4,λj a hj=>?_⟩
    obtain⟨b1,v,b2,b3⟩:=a5 j a hj
    exact⟨b1,v,by rw[hφ hi];exact b2,b3.kept K⟩
  ·rcases hget lo e with⟨rfl,eo⟩|⟨hi,e',hd⟩
   ·cases eo;trivial
   ·rw[hφ hi,ho _ (H.bnd _ hi) (hne hi ⟨_,e',lo⟩ hd)]
    exact(H.oobj i o1 e' lo).mono λa v r=>r.kept K
  ·rcases hget l1 e1 with⟨rfl,_⟩|⟨hi,e1',hd⟩<;>rcases hget l2 e2 with⟨rfl,_⟩|⟨hi',e2',hd'⟩
   ·rfl
   ·rw[hφn,hφ hi'] at he;exact(hne hi' ⟨_,e2',l2⟩ hd' he.symm).elim
   ·rw[hφn,hφ hi] at he;exact(hne hi ⟨_,e1',l1⟩ hd he).elim
   ·rw[hφ hi,hφ hi'] at he;exact H.inj _ _ ⟨_,e1',l1⟩ ⟨_,e2',l2⟩ he
  ·rcases hget l1 e with⟨rfl,_⟩|⟨hi,e',hd⟩
   ·rw[hφn] at he;exact hS hb' he.symm
   ·rw[hφ hi] at he;exact(H.sep b hb').2 _ ⟨_,e',l1⟩ he
  ·rcases Nat.lt_or_ge i h.length with hi'|hi'
   ·rw[hφ hi'];exact Nat.lt_of_lt_of_le (H.bnd _ hi') hs
   ·have:i=h.length:=by omega
    subst this
    rw[hφn]
    exact(Array.getElem?_eq_some_iff.1 hb).1
  ·obtain⟨g1,g2⟩:=H.glob g cs hg
   refine⟨g1,λj c' hj=>?_⟩
   obtain⟨v,k1,k2⟩:=g2 j c' hj
   exact⟨v,by rw[aW (K.pure g g1).2];exact k1,k2.mono K.pure⟩
 ·rcases hB with hB|⟨id,sz0,es0,c0,t0,fr0,e1,e2,e3,_⟩
  ·omega
  ·exact hn id (bD e2) (e3.symm.trans he.symm)
 ·intro i ⟨o,e,l⟩
  rcases hget l e with⟨rfl,_⟩|⟨hi,e',_⟩
  ·rw[hφn]
   rcases hB with hB|⟨id,sz0,es0,c0,t0,fr0,e1,e2,e3,_⟩
   ·exact .inl hB
   ·exact .inr ⟨id,bD e2,e3.symm⟩
  ·exact .inr ⟨i,⟨_,e',l⟩,by rw[hφ hi]⟩
end
end Go.Aw
namespace Go.Aw
inductive AI where
 |mov (x:AOp)
 |nilck (x:AOp)
 |not (x:AOp)
 |neg (x:AOp)
 |bin (op:BinOp) (x y:AOp)
 |bins (op:BinOp) (x y:AOp)
 |beq (ne:Bool) (x y:AOp)
 |pnil (kd:Nat) (ne:Bool) (x:AOp)
 |conv (k:IntKind) (x:AOp)
 |fldv (off:Nat) (sz:Option Nat) (x:AOp)
 |ext (i:Nat) (x:AOp)
 |fldA (off:Nat) (x:AOp)
 |idxS (esz:Nat) (x i:AOp)
 |idxA (n esz:Nat) (x i:AOp)
 |idxStr (x i:AOp)
 |len (s:Bool) (x:AOp)
 |mx (x y:AOp)
 |mn (x y:AOp)
 |ld (sz:Option Nat) (x:AOp)
 |st (n:Nat) (x y:AOp)
 |box (n:Nat) (x:AOp)
 |alloc (z:List AV)
 |bld (z:List AV) (parts:List (Nat × Nat × AOp))
 |bsl (esz:Nat) (z:List AV) (len:Nat) (parts:List (Nat × Nat × AOp))
 |mks (esz bytes:Nat) (z:List AV) (l c:AOp)
 |slS (esz:Nat) (x:AOp) (lo hi:Option AOp)
 |slStr (x:AOp) (lo hi:Option AOp)
 |slA (n esz:Nat) (x:AOp) (lo hi:Option AOp)
 |app (esz bytes:Nat) (s x:AOp)
 |mkf (f:Fn) (caps:List AOp)
 |strB (x:AOp)
 |pick (c a b:AOp)
 |call (f:FuncId) (args:List AOp)
 |callv (g:AOp) (args:List AOp)
 |qcall (f:FuncId) (args:List AOp)
 |qcallv (g:AOp) (args:List AOp)
 |bslP (esz:Nat) (z:List AV) (len:Nat) (parts:List (Nat × Nat × AOp))
 |pcall (f:FuncId) (args:List AOp)
 |chk (sz:Option Nat) (n d:Nat)
 |bad
 |idxV (m esz:Nat) (r:Option Nat) (x i:AOp)
 |snil (ne:Bool) (x:AOp)
 |copy (esz:Nat) (d x:AOp)
 |btos (x:AOp)
 |mkm
 |appz (esz bytes:Nat) (z:List AV) (s n:AOp)
 |lk (kd:Nat) (z:AV) (comma:Bool) (m k:AOp)
 |mup (kd:Nat) (m k v:AOp)
 |rngS (x:AOp)
 |nxtS (x:AOp)
 |aeq (ks:List Nat) (ne:Bool) (x y:AOp)
def gE(G:az)(h:List AO):AV->Option (List AV × Nat)
 | .ptr id esz i off=>match h[id]? with
   |some (.row sz es)=>if sz=esz then(es[i]?).map (·,off) else none
   |_=>none
 | .eptr e off=>some (e.map .p,off)
 | .gp g off=>(G g).map λcs=>(cs.map .p,off)
 |_=>none
def elems(h:List AO)(esz:Nat):AV->Option (List (List AV))
 | .p (.lst sz es)=>if sz=esz then some (es.map (·.map .p)) else none
 | .nils=>some []
 | .sl id sz off len=>match h[id]? with
   |some (.row sz' es)=>if sz'=esz/\sz=esz/\off+len<=es.length then some ((es.drop off).take len) else none
   |_=>none
 |_=>none
def lenOf:AV->Option Nat
 | .p (.lst _ es)=>some es.length
 | .p (.str s)=>some s.length
 | .nils=>some 0
 | .sl _ _ _ len=>some len
 |_=>none
def IK(op:BinOp)(k:IntKind)(a b:Int):Option PV:=
 match op with
 | .add=>some (.int k (k.wrap (a+b)))
 | .sub=>some (.int k (k.wrap (a-b)))
 | .mul=>some (.int k (k.wrap (a*b)))
 | .quo=>if b≠0 then some (.int k (k.wrap (a.tdiv b))) else none
 | .rem=>if b≠0 then some (.int k (a.tmod b)) else none
 | .eql=>some (.bool (decide (a=b)))
 | .neq=>some (.bool (!decide (a=b)))
 | .lss=>some (.bool (decide (a<b)))
 | .leq=>some (.bool (decide (a<=b)))
 | .gtr=>some (.bool (decide (b<a)))
 | .geq=>some (.bool (decide (b<=a)))
 | .and=>some (.int k (k.wrap (BitVec.ofInt k.bits a&&& BitVec.ofInt k.bits b).toNat))
 | .or=>some (.int k (k.wrap (BitVec.ofInt k.bits a|||BitVec.ofInt k.bits b).toNat))
 | .xor=>some (.int k (k.wrap (BitVec.ofInt k.bits a^^^BitVec.ofInt k.bits b).toNat))
 | .andNot=>some (.int k (k.wrap (BitVec.ofInt k.bits a&&& ~~~(BitVec.ofInt k.bits b)).toNat))
 |_=>none
def shB(op:BinOp)(k:IntKind)(a b:Int):Option PV:=
 match op with
 | .shl=>if 0<=b then some (.int k (k.wrap (a*2^min b.toNat k.bits))) else none
 | .shr=>if 0<=b then some (.int k (a.fdiv (2^min b.toNat k.bits))) else none
 |_=>none
def Gy(op:BinOp)(a b:List UInt8):Option PV:=
 match op with
 | .add=>if a.length+b.length<=9223372036854775807 then some (.str (a++b)) else none
 | .eql=>some (.bool (decide (a=b)))
 | .neq=>some (.bool (!decide (a=b)))
 |_=>none
def pG(f:PV->PV->Option PV):AV->AV->Option AV
 | .p x,.p y=>(f x y).map .p
 |_,_=>none
def Au(op:BinOp):PV->PV->Option PV
 | .int k a,.int k' b=>match op with
   | .shl=>shB .shl k a b
   | .shr=>shB .shr k a b
   |op=>if k=k' then IK op k a b else none
 |_,_=>none
def CH(op:BinOp):PV->PV->Option PV
 | .str a,.str b=>Gy op a b
 |_,_=>none
def FN(ne:Bool):PV->PV->Option PV
 | .bool a,.bool b=>some (.bool (if ne then !decide (a=b) else decide (a=b)))
 |_,_=>none
def Kc:PV->PV->Option PV
 | .int k a,.int _ b=>some (.int k (if b>a then b else a))
 |_,_=>none
def KD:PV->PV->Option PV
 | .int k a,.int _ b=>some (.int k (if b<a then b else a))
 |_,_=>none
def HL:AV->Option Bool
 | .nilp| .nilf| .nilm=>some true
 | .ptr .. | .eptr .. | .gp .. | .fn .. =>some false
 |_=>none
def un(ai:AI)(x:AV):Option AV:=
 match ai,x with
 | .mov _,x=>some x
 | .nilck _,x=>match HL x with|some false=>some x|_=>none
 | .not _,.p (.bool b)=>some (.p (.bool (!b)))
 | .neg _,.p (.int k n)=>some (.p (.int k (k.wrap (0-n))))
 | .conv k _,.p (.int _ n)=>some (.p (.int k (k.wrap n)))
 | .ext i _,.tup cs=>cs[i]?
 | .fldA off _,.ptr id g i o=>some (.ptr id g i (o+off))
 | .fldA off _,.eptr e o=>some (.eptr e (o+off))
 | .fldA off _,.gp g o=>some (.gp g (o+off))
 | .len true _,.p (.str s)=>some (.p (.int .i64 s.length))
 | .len false _,.p (.lst _ es)=>some (.p (.int .i64 es.length))
 | .len false _,.nils=>some (.p (.int .i64 0))
 | .len false _,.sl _ _ _ n=>some (.p (.int .i64 n))
 |_,_=>none
def Ag:Nat->AV->Option Bool
 |0,.nilp=>some true
 |0,.ptr .. |0,.eptr .. |0,.gp .. =>some false
 |1,.nilf=>some true
 |1,.fn .. =>some false
 |2,.nilm=>some true
 |_,_=>none
def gW(cs:List AV)(off:Nat):Option Nat->Option AV
 |none=>match cs[off]? with
  |some v=>if v.isCell then some v else none
  |none=>none
 |some n=>if off+n<=cs.length then some (.agg ((cs.drop off).take n)) else none
def dP(e:List AV)(off:Nat)(ys:List AV):List AV:=e.take off++ys++e.drop (off+ys.length)
def lI(ts:List AV):List AV->List (Nat × Nat × AOp)->Option (List AV)
 |cs,[]=>some cs
 |cs,(off,sz,y)::r=>
  if(y.ev ts).cells.length=sz/\(y.ev ts).cells.all AV.isCell=true/\off+sz<=cs.length then lI ts (dP cs off (y.ev ts).cells) r else none
def lo?(ts:List AV):Option AOp->Option Nat
 |none=>some 0
 |some x=>match x.ev ts with
  | .p (.int _ n)=>if 0<=n then some n.toNat else none
  |_=>none
def hi?(ts:List AV)(d:Nat):Option AOp->Option Nat
 |none=>some d
 |some x=>match x.ev ts with
  | .p (.int _ n)=>if 0<=n then some n.toNat else none
  |_=>none
def Ke(esz l h:Nat):AV->Option AV
 | .p (.lst sz es)=>if sz=esz/\l<=h/\h<=es.length then some (.p (.lst sz ((es.take h).drop l))) else none
 | .nils=>if l=0/\h=0 then some .nils else none
 | .sl id sz off len=>if sz=esz/\l<=h/\h<=len then some (.sl id sz (off+l) (h-l)) else none
 |_=>none
def Dj(l h:Nat):AV->Option AV
 | .p (.str s)=>if l<=h/\h<=s.length then some (.p (.str ((s.take h).drop l))) else none
 |_=>none
def cd{α:Type}(esz:Nat)(cs:List α):Nat->Nat->List (List α)
 |_,0=>[]
 |off,n+1=>(cs.drop off).take esz::cd esz cs (off+esz) n
def DI:List (List PV)->Option (List UInt8)
 |[]=>some []
 |[.int .u8 n]::r=>(DI r).map (UInt8.ofNat n.toNat:: ·)
 |_=>none
def nD:List AV->Option (List PV)
 |[]=>some []
 | .p v::r=>(nD r).map (v:: ·)
 | .nils::r=>(nD r).map (.lst 0 []:: ·)
 |_=>none
theorem pL:∀{l:List AV} {r:List PV},nD l=some r->l.length=r.length/\∀(j:Nat) (c:PV),r[j]?=some c->l[j]?=some (.p c)\/(l[j]?=some .nils/\c= .lst 0 [])
 |[],r,h=>by cases h;exact⟨rfl,λj c e=>by simp at e⟩
 |a::l,r,h=>by
  cases a<;>simp only[nD] at h<;>first|(cases h;done)|skip
  all_goals
   rw[Option.map_eq_some_iff] at h
   obtain⟨r',h1,rfl⟩:=h
   obtain⟨k1,k2⟩:=pL h1
   refine⟨by simp[k1],λj c e=>?_⟩
   cases j with
   |zero=>simp at e;subst e;simp
   |succ j=>simp at e;simpa using k2 j c e
def pg:List (List AV)->Option (List UInt8)
 |[]=>some []
 |[.p (.int .u8 n)]::r=>(pg r).map (UInt8.ofNat n.toNat:: ·)
 |_=>none
def keq:PV->PV->Option Bool
 | .int k a,.int k' b=>if k=k' then some (decide (a=b)) else none
 | .str a,.str b=>some (decide (a=b))
 | .bool a,.bool b=>some (decide (a=b))
 |_,_=>none
def tU:List PV->AV
 |[c]=> .p c
 |cs=> .agg (cs.map .p)
def Ja(ks:List PV)(vs:List (List PV)):List (PV × AV):=List.zipWith (λk cs=>(k,tU cs)) ks vs
def bB(k:PV):List (PV × AV)->Option (Option AV)
 |[]=>some none
 |(k',v)::r=>match keq k k' with
  |some true=>some (some v)
  |some false=>bB k r
  |none=>none
def eA(k:PV)(v:AV):List (PV × AV)->Option (List (PV × AV))
 |[]=>some [(k,v)]
 |(k',v')::r=>match keq k k' with
  |some true=>some ((k',v)::r)
  |some false=>(eA k v r).map ((k',v'):: ·)
  |none=>none
def fI:List Nat->List AV->List AV->Option Bool
 |[],[],[]=>some true
 |k::ks,.p a::r,.p b::r'=>if eb a=k then match keq a b,fI ks r r' with
  |some x,some y=>some (x&&y)
  |_,_=>none
  else none
 |_,_,_=>none
def ev(G:az)(ts:List AV)(h:List AO):AI->Option (AV × List AO)
 | .bin op x y=>(pG (Au op) (x.ev ts) (y.ev ts)).map (·,h)
 | .bins op x y=>(pG (CH op) (x.ev ts) (y.ev ts)).map (·,h)
 | .beq ne x y=>(pG (FN ne) (x.ev ts) (y.ev ts)).map (·,h)
 | .mx x y=>(pG Kc (x.ev ts) (y.ev ts)).map (·,h)
 | .mn x y=>(pG KD (x.ev ts) (y.ev ts)).map (·,h)
 | .pnil kd ne x=>(Ag kd (x.ev ts)).map λb=>(.p (.bool (if ne then !b else b)),h)
 | .fldv off sz x=>match x.ev ts with
   | .agg cs=>(gW cs off sz).map (·,h)
   |_=>none
 | .idxS esz x i=>match x.ev ts,i.ev ts with
   | .p (.lst sz es),.p (.int _ n)=>if sz=esz/\0<=n then(es[n.toNat]?).map λe=>(.eptr e 0,h) else none
   | .sl id sz off len,.p (.int _ n)=>if sz=esz/\0<=n/\n<len then some (.ptr id esz (off+n.toNat) 0,h) else none
   |_,_=>none
 | .idxA n esz x i=>match x.ev ts,i.ev ts with
   | .ptr id g j off,.p (.int _ m)=>if 0<=m/\m<n then some (.ptr id g j (off+m.toNat*esz),h) else none
   | .eptr e off,.p (.int _ m)=>if 0<=m/\m<n then some (.eptr e (off+m.toNat*esz),h) else none
   | .gp g off,.p (.int _ m)=>if 0<=m/\m<n then some (.gp g (off+m.toNat*esz),h) else none
   |_,_=>none
 | .idxV m esz r x i=>match x.ev ts,i.ev ts with
   | .agg cs,.p (.int _ n)=>if 0<=n/\n<m then(gW cs (n.toNat*esz) r).map (·,h) else none
   |_,_=>none
 | .idxStr x i=>match x.ev ts,i.ev ts with
   | .p (.str s),.p (.int _ n)=>if 0<=n then(s[n.toNat]?).map λb=>(.p (.int .u8 b.toNat),h) else none
   |_,_=>none
 | .ld sz x=>match gE G h (x.ev ts) with
   |some (cs,off)=>(gW cs off sz).map (·,h)
   |none=>none
 | .st n x y=>match x.ev ts with
   | .ptr id esz i off=>match h[id]? with
     |some (.row sz es)=>match es[i]? with
      |some e=>if sz=esz/\(y.ev ts).cells.length=n/\(y.ev ts).cells.all AV.isCell=true/\off+n<=e.length then
        some (.any,h.set id (.row sz (es.set i (dP e off (y.ev ts).cells)))) else none
      |none=>none
     |_=>none
   |_=>none
 | .box n x=>if(x.ev ts).cells.length=n/\(x.ev ts).cells.all AV.isCell=true then some (.ptr h.length n 0 0,h++[.row n [(x.ev ts).cells]]) else none
 | .alloc z=>some (.ptr h.length z.length 0 0,h++[.row z.length [z]])
 | .bld z parts=>(lI ts z parts).map λcs=>(.agg cs,h)
 | .bsl esz z len parts=>(lI ts (List.replicate len z).flatten parts).map λcs=>(.sl h.length esz 0 len,h++[.row esz (cd esz cs 0 len)])
 | .bslP esz z len parts=>((lI ts (List.replicate len z).flatten parts).bind nD).map λcs=>(.p (.lst esz (cd esz cs 0 len)),h)
 | .mks esz bytes z l c=>match l.ev ts,c.ev ts with
   | .p (.int _ n),.p (.int _ m)=>if 0<=n/\n<=m/\bytes*m<=281474976710656/\m<=281474976710656 then
      some (.sl h.length esz 0 n.toNat,h++[.row esz (List.replicate n.toNat z)]) else none
   |_,_=>none
 | .slS esz x lo hi=>match lenOf (x.ev ts) with
   |some d=>match lo? ts lo,hi? ts d hi with
    |some l,some m=>(Ke esz l m (x.ev ts)).map (·,h)
    |_,_=>none
   |none=>none
 | .slStr x lo hi=>match lenOf (x.ev ts) with
   |some d=>match lo? ts lo,hi? ts d hi with
    |some l,some m=>(Dj l m (x.ev ts)).map (·,h)
    |_,_=>none
   |none=>none
 | .slA n esz x lo hi=>match x.ev ts,lo? ts lo,hi? ts n hi with
   | .gp g off,some l,some m=>match G g with
     |some cs=>if l<=m/\m<=n/\off+n*esz<=cs.length then some (.p (.lst esz (((cd esz cs off n).take m).drop l)),h) else none
     |none=>none
   | .eptr e off,some l,some m=>if l<=m/\m<=n/\off+n*esz<=e.length then some (.p (.lst esz (((cd esz e off n).take m).drop l)),h) else none
   | .ptr id sz i off,some l,some m=>match h[id]? with
     |some (.row sz' es)=>if sz'=sz/\esz=1/\l=0/\m=n/\i<es.length/\off+n<=sz then some (.sl id 1 (i*sz+off) n,h) else none
     |_=>none
   |_,_,_=>none
 | .app esz bytes s x=>match elems h esz (x.ev ts) with
   |none=>none
   |some xs=>match s.ev ts with
    | .nils=>if xs.length*bytes<=140737488355328/\xs.length<=140737488355328 then
       if xs=[] then some (.nils,h) else some (.sl h.length esz 0 xs.length,h++[.row esz xs]) else none
    | .sl id sz off len=>match h[id]? with
      |some (.row sz' es)=>if sz'=esz/\sz=esz/\off+len<=es.length/\(len+xs.length)*bytes<=140737488355328/\len+xs.length<=140737488355328 then
        some (.sl h.length esz 0 (len+xs.length),h.set id .dead++[.row esz ((es.drop off).take len++xs)]) else none
      |_=>none
    |_=>none
 | .appz esz bytes z s n=>match n.ev ts with
   | .p (.int _ k)=>if 0<k/\k<=65536/\bytes<=65536 then match s.ev ts with
     | .nils=>some (.sl h.length esz 0 k.toNat,h++[.row esz (List.replicate k.toNat z)])
     | .sl id sz off len=>match h[id]? with
       |some (.row sz' es)=>if sz'=esz/\sz=esz/\off+len<=es.length/\(len+k.toNat)*bytes<=140737488355328/\len+k.toNat<=140737488355328 then
         some (.sl h.length esz 0 (len+k.toNat),h.set id .dead++[.row esz ((es.drop off).take len++List.replicate k.toNat z)]) else none
       |_=>none
     |_=>none
     else none
   |_=>none
 | .mkf f caps=>some (.fn f (caps.map (·.ev ts)),h)
 | .pick c x y=>match c.ev ts with
   | .p (.bool b)=>some (if b then x.ev ts else y.ev ts,h)
   |_=>none
 | .strB x=>match x.ev ts with
   | .p (.int _ n)=>if 0<=n/\n<128 then some (.p (.str [UInt8.ofNat n.toNat]),h) else none
   |_=>none
 | .copy esz d x=>match elems h esz (x.ev ts) with
   |none=>none
   |some xs=>match d.ev ts with
    | .nils=>some (.p (.int .i64 0),h)
    | .sl id sz off len=>match h[id]? with
      |some (.row sz' es)=>if sz'=esz/\sz=esz/\off+len<=es.length then
        some (.p (.int .i64 (min xs.length len:Nat)),h.set id (.row esz (es.take off++xs.take len++es.drop (off+min xs.length len)))) else none
      |_=>none
    |_=>none
 | .btos x=>match elems h 1 (x.ev ts) with
   |some xs=>(pg xs).map λl=>(.p (.str l),h)
   |none=>none
 | .mkm=>some (.mp h.length,h++[.mp []])
 | .lk kd z comma m k=>match k.ev ts with
   | .p kv=>if eb kv=kd then match m.ev ts with
     | .mp id=>match h[id]? with
       |some (.mp es)=>(bB kv es).map λr=>(if comma then .tup [r.getD z,.p (.bool r.isSome)] else r.getD z,h)
       |_=>none
     | .nilm=>some (if comma then .tup [z,.p (.bool false)] else z,h)
     | .p (.tbl ks vs)=>if(ks.all λk'=>(keq kv k').isSome)=true then(bB kv (Ja ks vs)).map λr=>(if comma then .tup [r.getD z,.p (.bool r.isSome)] else r.getD z,h) else none
     |_=>none
     else none
   |_=>none
 | .mup kd m k v=>match k.ev ts with
   | .p kv=>if eb kv=kd then match m.ev ts with
     | .mp id=>match h[id]? with
       |some (.mp es)=>(eA kv (v.ev ts) es).map λes'=>(.any,h.set id (.mp es'))
       |_=>none
     |_=>none
     else none
   |_=>none
 | .rngS x=>match x.ev ts with
   | .p (.str s)=>some (.it h.length,h++[.sit s 0])
   |_=>none
 | .nxtS x=>match x.ev ts with
   | .it id=>match h[id]? with
     |some (.sit s pos)=>if pos<s.length then
       some (.tup [.p (.bool true),.p (.int .i64 pos),.p (.int .i32 (Utf8.decode ⟨⟨s⟩⟩ pos).1)],h.set id (.sit s (pos+(Utf8.decode ⟨⟨s⟩⟩ pos).2)))
       else some (.tup [.p (.bool false)],h)
     |_=>none
   |_=>none
 | .aeq ks ne x y=>match x.ev ts,y.ev ts with
   | .agg cs,.agg ds=>(fI ks cs ds).map λb=>(.p (.bool (if ne then !b else b)),h)
   |_,_=>none
 | .mov x=>(un (.mov x) (x.ev ts)).map (·,h)
 | .nilck x=>(un (.nilck x) (x.ev ts)).map (·,h)
 | .not x=>(un (.not x) (x.ev ts)).map (·,h)
 | .neg x=>(un (.neg x) (x.ev ts)).map (·,h)
 | .conv k x=>(un (.conv k x) (x.ev ts)).map (·,h)
 | .ext i x=>(un (.ext i x) (x.ev ts)).map (·,h)
 | .fldA off x=>(un (.fldA off x) (x.ev ts)).map (·,h)
 | .len s x=>(un (.len s x) (x.ev ts)).map (·,h)
 |_=>none
def AI.ops:AI->List AOp
 | .mov x| .nilck x| .not x| .neg x| .pnil _ _ x| .conv _ x| .fldv _ _ x| .ext _ x| .fldA _ x| .len _ x| .ld _ x| .box _ x| .strB x| .snil _ x| .btos x| .rngS x| .nxtS x=>[x]
 | .bin _ x y| .bins _ x y| .beq _ x y| .idxS _ x y| .idxA _ _ x y| .idxStr x y| .idxV _ _ _ x y| .mx x y| .mn x y| .st _ x y| .mks _ _ _ x y| .app _ _ x y| .appz _ _ _ x y| .copy _ x y| .lk _ _ _ x y| .aeq _ _ x y=>[x,y]
 | .alloc _| .bad| .mkm=>[]
 | .mup _ x y z=>[x,y,z]
 | .bld _ ps| .bsl _ _ _ ps| .bslP _ _ _ ps=>ps.map (·.2.2)
 | .slS _ x l h| .slStr x l h| .slA _ _ x l h=>x::(l.toList++h.toList)
 | .mkf _ cs| .call _ cs| .qcall _ cs| .pcall _ cs=>cs
 | .chk _ n d=>[.t n,.t d]
 | .pick x y z=>[x,y,z]
 | .callv x cs| .qcallv x cs=>x::cs
def AI.silent:AI->Bool
 | .mov _| .nilck _| .not _| .neg _| .pnil .. | .conv .. | .fldv .. | .ext .. | .fldA .. | .len .. | .strB _| .bin .. | .bins .. | .beq .. | .idxS .. | .idxA .. | .idxStr .. | .idxV .. | .mx .. | .mn ..
 | .bld .. | .bslP .. | .slS .. | .slStr .. | .mkf .. | .pick .. | .aeq .. =>true
 |_=>false
def AI.quiet:AI->Bool
 | .ld .. | .lk .. | .btos .. | .slA .. | .qcall .. | .qcallv .. | .pcall .. =>true
 |ai=>ai.silent
theorem th{ts ts':List AV}:∀(ps:List (Nat × Nat × AOp)) (cs:List AV),(∀x∈ps.map (·.2.2),x.ev ts'=x.ev ts)->lI ts' cs ps=lI ts cs ps
 |[],_,_=>rfl
 |(off,sz,y)::r,cs,h=>by
  have h1:=h y (by simp)
  simp only[lI,h1]
  split
  ·exact th r _ λx hx=>h x (by simp at hx⊢;exact .inr hx)
  ·rfl
theorem HG{ts ts':List AV}{x:Option AOp}(h:∀y∈x.toList,y.ev ts'=y.ev ts):lo? ts' x=lo? ts x:=by
 cases x with
 |none=>rfl
 |some y=>simp only[lo?,h y (by simp)]
theorem Ib{ts ts':List AV}{d:Nat}{x:Option AOp}(h:∀y∈x.toList,y.ev ts'=y.ev ts):hi? ts' d x=hi? ts d x:=by
 cases x with
 |none=>rfl
 |some y=>simp only[hi?,h y (by simp)]
theorem eR{G:az}{ts ts':List AV}{hp:List AO}{ai:AI}(h:∀x∈ai.ops,x.ev ts'=x.ev ts):ev G ts' hp ai=ev G ts hp ai:=by
 cases ai<;>simp only[AI.ops,List.mem_cons,List.not_mem_nil,or_false,forall_eq_or_imp,forall_eq,List.mem_append,or_imp,forall_and] at h<;>first
  |(simp only[ev,un,h];done)
  |rfl
  |(simp only[ev,th _ _ h];done)
  |(simp only[ev,h.1,HG h.2.1,Ib h.2.2];done)
  |(simp only[ev];rw[List.map_congr_left h])
theorem nH{G:az}{ts:List AV}{hp:List AO}{ai:AI}(h:ai.silent=true):ev G ts hp ai=(ev G ts [] ai).map λx=>(x.1,hp):=by
 cases ai<;>first|(simp[AI.silent] at h;done)|skip
 all_goals (simp only[ev];repeat' split)
 all_goals first|rfl|(simp;done)|(simp[Option.map_map,Function.comp_def];done)|skip
end Go.Aw
namespace Go.Aw
section
variable {P:Program} {G:az} {o:Oper} {ts:List AV} {h h':List AO} {av:AV}
theorem DR{x:Operand}{x':AOp}(ho:o.op= .move x\/o.op= .assign x)(hx:cop x=some x')(he:ev G ts h (.mov x')=some (av,h')):Yld P G o ts h av h':=by
 simp only[ev,un,Option.map_some,Option.some.injEq,Prod.mk.injEq] at he
 obtain⟨rfl,rfl⟩:=he
 refine Yld.of_same λW S φ a H T=>⟨a.eval x,?_,am hx T⟩
 rcases ho with ho|ho<;>simp[execOp,ho]
theorem kb{W:World}{S:Nat->Prop}{φ:au}{hp:Nat}{pv:PV}{x:Value}(h:VRel W S φ hp (.p pv) x):PRel W S pv x:=by cases h;assumption
theorem bU{W:World}{S:Nat->Prop}{φ:au}{hp:Nat}{k:IntKind}{n:Int}{x:Value}(h:VRel W S φ hp (.p (.int k n)) x):x= .int k n:=by cases kb h;rfl
theorem kD{W:World}{S:Nat->Prop}{φ:au}{hp:Nat}{b:Bool}{x:Value}(h:VRel W S φ hp (.p (.bool b)) x):x= .bool b:=by cases kb h;rfl
theorem vT{W:World}{S:Nat->Prop}{φ:au}{hp:Nat}{l:List UInt8}{x:Value}(h:VRel W S φ hp (.p (.str l)) x):x= .string ⟨⟨l⟩⟩:=by cases kb h;rfl
theorem EG{x:Operand}{x':AOp}(ho:o.op= .nilCheck x)(hx:cop x=some x')(he:ev G ts h (.nilck x')=some (av,h')):Yld P G o ts h av h':=by
 simp only[ev,un,Option.map_eq_some_iff,Prod.mk.injEq] at he
 obtain⟨v,h1,rfl,rfl⟩:=he
 refine Yld.of_same λW S φ a H T=>?_
 have hr:=am hx T
 generalize hy:a.eval x=y at hr
 have run:y≠ .pointer none->y≠ .nilIface->y≠ .nilFunc->(∀f g c,y= .func f g c->g=#[])->(execOp a.eval o).run P W= .ok (.value y) W:=by
  intro k2 k3 k4 k5
  simp only[execOp,ho,hy]
  split
  ·simp_all
  ·simp_all
  ·simp_all
  ·rename_i nm g c _
   have:=k5 _ _ _ rfl
   subst this
   simp
  ·rfl
 generalize x'.ev ts=u at h1 hr
 cases hr<;>simp[HL] at h1<;>subst h1
 ·exact⟨_,run (by simp) (by simp) (by simp) (by simp),.ptr _ _ _ _ (by assumption)⟩
 ·exact⟨_,run (by simp) (by simp) (by simp) (by simp),.eptr _ _ _ _ (by assumption) (by assumption)⟩
 ·exact⟨_,run (by simp) (by simp) (by simp) (by simp),.gp _ _⟩
 ·exact⟨_,run (by simp) (by simp) (by simp) (by rintro f g c e;cases e;rfl),.fn _ _ _ (by assumption) (by assumption)⟩
theorem Iz{x:Operand}{x':AOp}{t:TypeId}(ho:o.op= .unOp .not t x)(hx:cop x=some x')(he:ev G ts h (.not x')=some (av,h')):Yld P G o ts h av h':=by
 simp only[ev,Option.map_eq_some_iff,Prod.mk.injEq] at he
 obtain⟨v,h1,rfl,rfl⟩:=he
 refine Yld.of_same λW S φ a H T=>?_
 have hr:=am hx T
 generalize x'.ev ts=u at h1 hr
 unfold un at h1
 split at h1<;>first|contradiction|skip
 cases h1
 exact⟨_,by simp[execOp,ho,kD hr,Op.unary],.p _ _ (.bool _)⟩
theorem Iy{x:Operand}{x':AOp}{t:TypeId}(ho:o.op= .unOp .neg t x)(hx:cop x=some x')(he:ev G ts h (.neg x')=some (av,h')):Yld P G o ts h av h':=by
 simp only[ev,Option.map_eq_some_iff,Prod.mk.injEq] at he
 obtain⟨v,h1,rfl,rfl⟩:=he
 refine Yld.of_same λW S φ a H T=>?_
 have hr:=am hx T
 generalize x'.ev ts=u at h1 hr
 unfold un at h1
 split at h1<;>first|contradiction|skip
 cases h1
 exact⟨_,by simp[execOp,ho,bU hr,Op.unary,Op.intArith],.p _ _ (.int _ _)⟩
theorem GP{x:Operand}{x':AOp}{s d:TypeId}{k0 k:IntKind}(ho:o.op= .convert s d x)(hs:P.underlying s=some (.int k0))(hd:P.underlying d=some (.int k))(hx:cop x=some x')
 (he:ev G ts h (.conv k x')=some (av,h')):Yld P G o ts h av h':=by
 simp only[ev,Option.map_eq_some_iff,Prod.mk.injEq] at he
 obtain⟨v,h1,rfl,rfl⟩:=he
 refine Yld.of_same λW S φ a H T=>?_
 have hr:=am hx T
 generalize x'.ev ts=u at h1 hr
 unfold un at h1
 split at h1<;>first|contradiction|skip
 rename_i e1
 cases e1;cases h1
 exact⟨_,by simp[execOp,ho,bU hr,convert,run_underlying hs,run_underlying hd,Conv.intToInt],.p _ _ (.int _ _)⟩
theorem An{n:Int}(h0:0<=n)(h1:n<128):Utf8.encode n=⟨⟨[UInt8.ofNat n.toNat]⟩⟩:=by
 obtain⟨m,rfl⟩:∃m:Nat,n=m:=⟨n.toNat,by omega⟩
 have hm:m<128:=by omega
 clear h0 h1
 have key:∀m:Fin 128,Utf8.encode (m.val:Int)=⟨⟨[UInt8.ofNat m.val]⟩⟩:=by decide+kernel
 exact key ⟨m,hm⟩
theorem Gs{x:Operand}{x':AOp}{s d:TypeId}{k0:IntKind}(ho:o.op= .convert s d x)(hs:P.underlying s=some (.int k0))(hd:P.underlying d=some .string)(hx:cop x=some x')
 (he:ev G ts h (.strB x')=some (av,h')):Yld P G o ts h av h':=by
 simp only[ev] at he
 split at he<;>first|contradiction|skip
 rename_i k n e1
 split at he<;>first|contradiction|skip
 rename_i hn
 simp only[Option.some.injEq,Prod.mk.injEq] at he
 obtain⟨rfl,rfl⟩:=he
 refine Yld.of_same λW S φ a H T=>?_
 have hr:=am hx T
 rw[e1] at hr
 exact⟨_,by simp[execOp,ho,bU hr,convert,run_underlying hs,run_underlying hd,Conv.intToString,An hn.1 hn.2],.p _ _ (.str _)⟩
theorem It{x:Operand}{x':AOp}{i:Nat}(ho:o.op= .extract x i)(hx:cop x=some x')(he:ev G ts h (.ext i x')=some (av,h')):Yld P G o ts h av h':=by
 simp only[ev,Option.map_eq_some_iff,Prod.mk.injEq] at he
 obtain⟨v,h1,rfl,rfl⟩:=he
 refine Yld.of_same λW S φ a H T=>?_
 have hr:=am hx T
 generalize x'.ev ts=u at h1 hr
 generalize hy:a.eval x=y at hr
 unfold un at h1
 split at h1<;>first|contradiction|skip
 rename_i cs heq
 cases heq
 cases hr with
 |tup _ vs hs hc=>
  have hi:i<cs.length:=(List.getElem?_eq_some_iff.1 h1).1
  have hv:vs[i]?=some vs[i]:=Array.getElem?_eq_getElem (by omega)
  exact⟨vs[i],by simp[execOp,ho,hy,Instr.extract,hv],hc i _ _ h1 hv⟩
theorem vl{W:World}{a:Addr}{f:Field}{i:TypeInfo}(hi:P.info? f.type=some i)(hz:i.size≠0):(fieldPlace a f).run P W= .ok (a.add f.offset) W:=by
 simp[fieldPlace,sizeOf,typeInfo,hi,hz]
theorem cT(b off n:Nat):(⟨b,off,none⟩:Addr).add n=⟨b,off+n,none⟩:=by unfold Addr.add;split<;>simp_all
theorem GD{x:Operand}{x':AOp}{s:TypeId}{f:Nat}{fs:Array Field}{fl:Field}{i:TypeInfo}(ho:o.op= .fieldAddr s x f)(hs:P.underlying s=some (.struct fs))(hf:fs[f]?=some fl)
 (hi:P.info? fl.type=some i)(hz:i.size≠0)(hx:cop x=some x')(he:ev G ts h (.fldA fl.offset x')=some (av,h')):Yld P G o ts h av h':=by
 simp only[ev,Option.map_eq_some_iff,Prod.mk.injEq] at he
 obtain⟨v,h1,rfl,rfl⟩:=he
 refine Yld.of_same λW S φ a H T=>?_
 have hr:=am hx T
 generalize x'.ev ts=u at h1 hr
 generalize hy:a.eval x=y at hr
 have run:∀b off,y= .pointer (some ⟨b,off,none⟩)->(execOp a.eval o).run P W= .ok (.value (.pointer (some ⟨b,off+fl.offset,none⟩))) W:=λb off e=>by
  simp[execOp,ho,hy,e,Instr.fieldAt,run_underlying hs,hf,Instr.sureAddr,vl hi hz,cT]
 cases hr<;>simp[un] at h1<;>subst h1
 ·exact⟨_,run _ _ rfl,by rw[Nat.add_assoc,Nat.add_assoc];exact .ptr _ _ _ _ (by assumption)⟩
 ·exact⟨_,run _ _ rfl,by rw[Nat.add_assoc];exact .eptr _ _ _ _ (by assumption) (by assumption)⟩
 ·exact⟨_,run _ _ rfl,.gp _ _⟩
end
end Go.Aw
namespace Go.Aw
section
variable {P:Program} {G:az} {o:Oper} {ts:List AV} {h h':List AO} {av:AV}
theorem Db{f:PV->PV->Option PV}{a b v:AV}(h:pG f a b=some v):∃x y z,a= .p x/\b= .p y/\f x y=some z/\v= .p z:=by
 unfold pG at h
 split at h
 ·rename_i x y
  rw[Option.map_eq_some_iff] at h
  obtain⟨z,h1,rfl⟩:=h
  exact⟨x,y,z,rfl,rfl,h1,rfl⟩
 ·cases h
theorem js{α:Type}[BEq α][LawfulBEq α][DecidableEq α](a b:α):(a==b)=decide (a=b):=by rw[Bool.eq_iff_iff];simp
theorem mN{f:PV->PV->Option PV}{x y:Operand}{x' y':AOp}(hx:cop x=some x')(hy:cop y=some y')(he:(pG f (x'.ev ts) (y'.ev ts)).map (·,h)=some (av,h'))
 (H:∀(W:World) (S:Nat->Prop) (a:Act) (p q z:PV),PRel W S p (a.eval x)->PRel W S q (a.eval y)->f p q=some z->∃v,(execOp a.eval o).run P W= .ok (.value v) W/\PRel W S z v):Yld P G o ts h av h':=by
 simp only[Option.map_eq_some_iff,Prod.mk.injEq] at he
 obtain⟨v,h1,rfl,rfl⟩:=he
 obtain⟨p,q,z,e1,e2,e3,rfl⟩:=Db h1
 refine Yld.of_same λW S φ a _ T=>?_
 have hrx:=am hx T
 have hry:=am hy T
 rw[e1] at hrx
 rw[e2] at hry
 obtain⟨v,k1,k2⟩:=H W S a p q z (kb hrx) (kb hry) e3
 exact⟨v,k1,.p _ _ k2⟩
theorem IL{op:BinOp}{t u:TypeId}{x y:Operand}{x' y':AOp}(ho:o.op= .binOp op t x y u)(hx:cop x=some x')(hy:cop y=some y')
 (he:ev G ts h (.bin op x' y')=some (av,h')):Yld P G o ts h av h':=by
 refine mN hx hy he λW S a p q z hp hq e3=>?_
 unfold Au at e3
 split at e3<;>first|contradiction|skip
 rename_i k n k' m
 generalize hvx:a.eval x=vx at hp
 generalize hvy:a.eval y=vy at hq
 cases hp
 cases hq
 split at e3
 ·simp only[shB] at e3
  split at e3<;>first|(cases e3;done)|skip
  rename_i h0
  cases e3
  exact⟨.int _ _,by simp[execOp,ho,hvx,hvy,eqGuard,binOp,Op.shift,show¬m<0 by omega],.int _ _⟩
 ·simp only[shB] at e3
  split at e3<;>first|(cases e3;done)|skip
  rename_i h0
  cases e3
  exact⟨.int _ _,by simp[execOp,ho,hvx,hvy,eqGuard,binOp,Op.shift,show¬m<0 by omega],.int _ _⟩
 ·rename_i n1 n2
  split at e3
  ·rename_i hk
   subst hk
   by_cases hop:op= .andNot
   ·subst hop
    simp only[IK,Option.some.injEq] at e3
    subst e3
    exact⟨.int _ _,by simp only[execOp,ho,hvx,hvy];simp[eqGuard,binOp,Op.intBits],.int _ _⟩
   cases op<;>simp[IK] at e3<;>first
    |(exact absurd rfl hop)
    |(subst e3;exact⟨.int _ _,by simp[execOp,ho,hvx,hvy,eqGuard,binOp,Op.intArith,Op.intCmp]<;>rfl,.int _ _⟩)
    |(subst e3;exact⟨.bool _,by simp[execOp,ho,hvx,hvy,eqGuard,binOp,Op.intArith,Op.intCmp]<;>rfl,.bool _⟩)
    |(obtain⟨h0,rfl⟩:=e3;exact⟨.int _ _,by simp[execOp,ho,hvx,hvy,eqGuard,binOp,Op.intDiv,h0]<;>rfl,.int _ _⟩)
    |(subst e3;exact⟨.int _ _,by simp[execOp,ho,hvx,hvy,eqGuard,binOp,Op.intBits],.int _ _⟩)
  ·cases e3
theorem HU{op:BinOp}{t u:TypeId}{x y:Operand}{x' y':AOp}(ho:o.op= .binOp op t x y u)(hx:cop x=some x')(hy:cop y=some y')
 (he:ev G ts h (.bins op x' y')=some (av,h')):Yld P G o ts h av h':=by
 refine mN hx hy he λW S a p q z hp hq e3=>?_
 unfold CH at e3
 split at e3<;>first|contradiction|skip
 rename_i l m
 generalize hvx:a.eval x=vx at hp
 generalize hvy:a.eval y=vy at hq
 cases hp
 cases hq
 cases op<;>simp[Gy] at e3
 ·obtain⟨h0,rfl⟩:=e3
  have h1:¬((((⟨⟨l⟩⟩:ByteArray).size+(⟨⟨m⟩⟩:ByteArray).size:Nat):Int)>IntKind.i64.max):=by
   have e:IntKind.i64.max=9223372036854775807:=by decide
   rw[e]
   have:(⟨⟨l⟩⟩:ByteArray).size=l.length:=rfl
   have:(⟨⟨m⟩⟩:ByteArray).size=m.length:=rfl
   omega
  refine⟨.string ⟨⟨l++m⟩⟩,?_,.str _⟩
  simp only[execOp,ho,hvx,hvy,eqGuard,binOp,Op.stringOp,if_neg h1]
  have:(⟨⟨l⟩⟩:ByteArray)++⟨⟨m⟩⟩=⟨⟨l++m⟩⟩:=by
   apply ByteArray.ext
   simp[ByteArray.data_append]
  rw[this]
  rfl
 ·subst e3
  exact⟨_,by simp[execOp,ho,hvx,hvy,eqGuard,binOp,Op.stringOp,ByteArray.toList_eq,js],.bool _⟩
 ·subst e3
  exact⟨_,by simp[execOp,ho,hvx,hvy,eqGuard,binOp,Op.stringOp,ByteArray.toList_eq,js],.bool _⟩
theorem mQ{t:TypeId}(ht:P.underlying t=some .bool)(a b:Bool)(w:World):(Op.equal t (.bool a) (.bool b)).run P w= .ok (decide (a=b)) w:=by
 have:∀d,(Op.equalIn (d+1) t (.bool a) (.bool b)).run P w= .ok (decide (a=b)) w:=λd=>by simp[Op.equalIn,run_underlying ht,js]
 exact this 9999
theorem DL{ne:Bool}{t u:TypeId}{x y:Operand}{x' y':AOp}(ho:o.op= .binOp (if ne then .neq else .eql) t x y u)(ht:P.underlying t=some .bool)(hx:cop x=some x')(hy:cop y=some y')
 (he:ev G ts h (.beq ne x' y')=some (av,h')):Yld P G o ts h av h':=by
 refine mN hx hy he λW S a p q z hp hq e3=>?_
 unfold FN at e3
 split at e3<;>first|contradiction|skip
 rename_i l m
 generalize hvx:a.eval x=vx at hp
 generalize hvy:a.eval y=vy at hq
 cases hp
 cases hq
 cases ne<;>simp at e3 ho<;>subst e3
 ·exact⟨.bool _,by simp[execOp,ho,hvx,hvy,eqGuard,binOp,mQ ht]<;>rfl,.bool _⟩
 ·exact⟨.bool _,by simp[execOp,ho,hvx,hvy,eqGuard,binOp,mQ ht]<;>rfl,.bool _⟩
theorem Kt{x y:Operand}{x' y':AOp}{c:Call}(ho:o.op= .call c)(hc:c.callee= .builtin .max)(ha:c.args=#[x,y])(hx:cop x=some x')(hy:cop y=some y')
 (he:ev G ts h (.mx x' y')=some (av,h')):Yld P G o ts h av h':=by
 refine mN hx hy he λW S a p q z hp hq e3=>?_
 unfold Kc at e3
 split at e3<;>first|contradiction|skip
 cases e3
 generalize hvx:a.eval x=vx at hp
 generalize hvy:a.eval y=vy at hq
 cases hp
 cases hq
 exact⟨_,by simp[execOp,ho,hc,ha,hvx,hvy,resolve,invoke,builtin,Builtin.max_,Builtin.max2],.int _ _⟩
theorem Kl{x y:Operand}{x' y':AOp}{c:Call}(ho:o.op= .call c)(hc:c.callee= .builtin .min)(ha:c.args=#[x,y])(hx:cop x=some x')(hy:cop y=some y')
 (he:ev G ts h (.mn x' y')=some (av,h')):Yld P G o ts h av h':=by
 refine mN hx hy he λW S a p q z hp hq e3=>?_
 unfold KD at e3
 split at e3<;>first|contradiction|skip
 cases e3
 generalize hvx:a.eval x=vx at hp
 generalize hvy:a.eval y=vy at hq
 cases hp
 cases hq
 exact⟨_,by simp[execOp,ho,hc,ha,hvx,hvy,resolve,invoke,builtin,Builtin.min_,Builtin.min2],.int _ _⟩
theorem yL{t e:TypeId}(ht:P.underlying t=some (.pointer e))(b:Option Addr)(w:World):
 (Op.equal t (.pointer none) (.pointer b)).run P w= .ok b.isNone w/\(Op.equal t (.pointer b) (.pointer none)).run P w= .ok b.isNone w:=by
 have h1:∀d,(Op.equalIn (d+1) t (.pointer none) (.pointer b)).run P w= .ok b.isNone w:=λd=>by simp[Op.equalIn,run_underlying ht]
 have h2:∀d,(Op.equalIn (d+1) t (.pointer b) (.pointer none)).run P w= .ok b.isNone w:=λd=>by cases b<;>simp[Op.equalIn,run_underlying ht]
 exact⟨h1 9999,h2 9999⟩
theorem zV{t e:TypeId}(ht:P.underlying t=some (.slice e))(b:Option Addr)(l c:Nat)(w:World):
 (Op.equal t (.slice none 0 0) (.slice b l c)).run P w= .ok b.isNone w/\(Op.equal t (.slice b l c) (.slice none 0 0)).run P w= .ok b.isNone w:=by
 have h1:∀d,(Op.equalIn (d+1) t (.slice none 0 0) (.slice b l c)).run P w= .ok b.isNone w:=λd=>by simp[Op.equalIn,run_underlying ht]
 have h2:∀d,(Op.equalIn (d+1) t (.slice b l c) (.slice none 0 0)).run P w= .ok b.isNone w:=λd=>by cases b<;>simp[Op.equalIn,run_underlying ht]
 exact⟨h1 9999,h2 9999⟩
theorem Gg{ne:Bool}{t u e:TypeId}{x y z:Operand}(ho:o.op= .binOp (if ne then .neq else .eql) t x y u)(hxy:(x=z/\y= .const (.slice none 0 0))\/(x= .const (.slice none 0 0)/\y=z))
 (ht:P.underlying t=some (.slice e)){b:Option Addr}{l c:Nat}{a:Act}(hv:a.eval z= .slice b l c)(W:World):
 (execOp a.eval o).run P W= .ok (.value (.bool (if ne then !b.isNone else b.isNone))) W:=by
 obtain⟨k1,k2⟩:=zV ht b l c W
 have hn:a.eval (.const (.slice none 0 0))= .slice none 0 0:=rfl
 rcases hxy with⟨rfl,rfl⟩|⟨rfl,rfl⟩<;>cases ne<;>simp only[ho,execOp,hv,hn]<;>cases b<;>simp_all [eqGuard,binOp]
theorem rg{t:TypeId}{ps rs:Array TypeId}{v:Bool}(ht:P.underlying t=some (.func ps rs v))(f:Fn)(c g:Array Value)(w:World):
 (Op.equal t .nilFunc .nilFunc).run P w= .ok true w/\(Op.equal t .nilFunc (.func f c g)).run P w= .ok false w/\(Op.equal t (.func f c g) .nilFunc).run P w= .ok false w:=by
 have h1:∀d,(Op.equalIn (d+1) t .nilFunc .nilFunc).run P w= .ok true w:=λd=>by simp[Op.equalIn,run_underlying ht]
 have h2:∀d,(Op.equalIn (d+1) t .nilFunc (.func f c g)).run P w= .ok false w:=λd=>by simp[Op.equalIn,run_underlying ht]
 have h3:∀d,(Op.equalIn (d+1) t (.func f c g) .nilFunc).run P w= .ok false w:=λd=>by simp[Op.equalIn,run_underlying ht]
 exact⟨h1 9999,h2 9999,h3 9999⟩
theorem rf{kd:Nat}{ne:Bool}{t u e:TypeId}{x y z:Operand}{nl:Value}{x':AOp}(ho:o.op= .binOp (if ne then .neq else .eql) t x y u)
 (hxy:(x=z/\y= .const nl)\/(x= .const nl/\y=z))
 (ht:(kd=0/\P.underlying t=some (.pointer e)/\nl= .pointer none)\/(∃ps rs v,kd=1/\P.underlying t=some (.func ps rs v)/\nl= .nilFunc))(hx:cop z=some x')
 (he:ev G ts h (.pnil kd ne x')=some (av,h')):Yld P G o ts h av h':=by
 simp only[ev,Option.map_eq_some_iff,Prod.mk.injEq] at he
 obtain⟨b,h1,rfl,rfl⟩:=he
 refine Yld.of_same λW S φ a _ T=>?_
 have hr:=am hx T
 generalize hvx:a.eval z=vx at hr
 generalize x'.ev ts=ax at h1 hr
 have hn:a.eval (.const nl)=nl:=rfl
 refine⟨.bool (if ne then !b else b),?_,.p _ _ (.bool _)⟩
 rcases ht with⟨rfl,ht,rfl⟩|⟨ps,rs,v,rfl,ht,rfl⟩
 ·have key:∀q,vx= .pointer q->q.isNone=b->(execOp a.eval o).run P W= .ok (.value (.bool (if ne then !b else b))) W:=λq hq hb=>by
   subst hq
   obtain⟨k1,k2⟩:=yL ht q W
   rcases hxy with⟨rfl,rfl⟩|⟨rfl,rfl⟩<;>cases ne<;>simp only[ho,execOp,hvx,hn]<;>cases q<;>simp_all [eqGuard,binOp]
  cases hr<;>simp[Ag] at h1<;>subst h1
  ·exact key _ rfl rfl
  ·exact key _ rfl rfl
  ·exact key _ rfl rfl
  ·exact key _ rfl rfl
 ·cases hr<;>simp[Ag] at h1<;>subst h1
  ·rename_i f caps vs _ _
   obtain⟨k1,k2,k3⟩:=rg ht f #[] vs W
   rcases hxy with⟨rfl,rfl⟩|⟨rfl,rfl⟩<;>cases ne<;>simp[ho,execOp,hvx,hn,eqGuard,binOp,k1,k2,k3]
  ·obtain⟨k1,k2,k3⟩:=rg ht (.func 0) #[] #[] W
   rcases hxy with⟨rfl,rfl⟩|⟨rfl,rfl⟩<;>cases ne<;>simp[ho,execOp,hvx,hn,eqGuard,binOp,k1]
theorem Eg{b:Bool}{x:Operand}{x':AOp}{c:Call}{t e:TypeId}(ho:o.op= .call c)(hc:c.callee= .builtin .len)(ha:c.args=#[x])(hat:c.argTypes=#[t])
 (ht:P.underlying t=some (if b then .string else .slice e))(hx:cop x=some x')(he:ev G ts h (.len b x')=some (av,h')):Yld P G o ts h av h':=by
 simp only[ev,Option.map_eq_some_iff,Prod.mk.injEq] at he
 obtain⟨v,h1,rfl,rfl⟩:=he
 refine Yld.of_same λW S φ a _ T=>?_
 have hr:=am hx T
 generalize hvx:a.eval x=vx at hr
 generalize hax:x'.ev ts=ax at h1 hr
 cases b
 ·have run:∀ad n cap,vx= .slice ad n cap->(execOp a.eval o).run P W= .ok (.value (.int .i64 n)) W:=λad n cap e1=>by
   subst e1
   simp[execOp,ho,hc,ha,hat,hvx,resolve,invoke,builtin,Builtin.len_,run_underlying ht,goInt]
  cases hr<;>simp[un] at h1
  ·rename_i pv hp
   cases hp<;>simp at h1<;>subst h1
   ·exact⟨_,run _ _ _ rfl,.p _ _ (.int _ _)⟩
   ·exact⟨_,run _ _ _ rfl,.p _ _ (.int _ _)⟩
  ·subst h1;exact⟨_,run _ _ _ rfl,.p _ _ (.int _ _)⟩
  ·subst h1;exact⟨_,run _ _ _ rfl,.p _ _ (.int _ _)⟩
 ·cases hr<;>simp[un] at h1
  rename_i pv hp
  cases hp<;>simp at h1
  rename_i l
  subst h1
  have hsz:(⟨⟨l⟩⟩:ByteArray).size=l.length:=rfl
  exact⟨_,by simp[execOp,ho,hc,ha,hat,hvx,resolve,invoke,builtin,Builtin.len_,run_underlying ht,goInt,hsz],.p _ _ (.int _ _)⟩
end
end Go.Aw
namespace Go.Aw
def nX(P:Program)(t:TypeId):Option (Option Nat):=
 match P.underlying t,P.info? t with
 |some (.struct _),some i=>some (some i.size)
 |some (.array _ _),some i=>some (some i.size)
 |some _,some i=>if i.size=1 then some none else none
 |_,_=>none
section
variable {P:Program} {G:az} {o:Oper} {ts:List AV} {h h':List AO} {av:AV}
theorem rE{t:TypeId}{r:Option Nat}(h:nX P t=some r)(W:World):(isAgg t).run P W= .ok r.isSome W/\∀n,r=some n->(sizeOf t).run P W= .ok n W:=by
 unfold nX at h
 split at h<;>first|(cases h;done)|skip
 ·rename_i fs i h1 h2;cases h;exact⟨by simp[isAgg,run_underlying h1],λn e=>by cases e;simp[sizeOf,typeInfo,h2]⟩
 ·rename_i k e i h1 h2;cases h;exact⟨by simp[isAgg,run_underlying h1],λn e=>by cases e;simp[sizeOf,typeInfo,h2]⟩
 ·rename_i d i hn1 hn2 h1 h2
  split at h
  ·cases h
   refine⟨?_,λn e=>by cases e⟩
   cases d<;>first|(exact(hn1 _ rfl).elim)|(exact(hn2 _ _ rfl).elim)|(simp[isAgg,run_underlying h1])
  ·cases h
theorem ut{W:World}{S:Nat->Prop}{φ:au}{n:Nat}{cs:List AV}{vs:Array Value}{off:Nat}{r:Option Nat}{v:AV}{t:TypeId}(hr:nX P t=some r)
 (hs:cs.length<=vs.size)(hc:∀(j:Nat) (c:AV) (v:Value),cs[j]?=some c->vs[j]?=some v->VRel W S φ n c v)(he:gW cs off r=some v):
 ∃x,(part t vs off).run P W= .ok x W/\VRel W S φ n v x:=by
 obtain⟨h1,h2⟩:=rE hr W
 unfold gW at he
 split at he
 ·split at he
  ·rename_i c hcc
   split at he
   ·cases he
    have hi:off<cs.length:=(List.getElem?_eq_some_iff.1 hcc).1
    have hv:vs[off]?=some vs[off]:=Array.getElem?_eq_getElem (by omega)
    exact⟨vs[off],by simp[part,h1,hv],hc off _ _ hcc hv⟩
   ·cases he
  ·cases he
 ·rename_i m
  split at he
  ·rename_i hm
   cases he
   refine⟨.agg (vs.extract off (off+m)),by simp[part,h1,h2 m rfl],.agg _ _ (by simp;omega) λj c x e1 e2=>?_⟩
   rw[List.getElem?_take] at e1
   split at e1
   ·rename_i hj
    rw[List.getElem?_drop] at e1
    rw[Array.getElem?_extract] at e2
    split at e2
    ·exact hc _ _ _ e1 e2
    ·cases e2
   ·cases e1
  ·cases he
theorem GJ{t:TypeId}{x:Operand}{x':AOp}{f:Nat}{fs:Array Field}{fl:Field}{r:Option Nat}(ho:o.op= .field t x f)(ht:P.underlying t=some (.struct fs))(hf:fs[f]?=some fl)
 (hr:nX P fl.type=some r)(hx:cop x=some x')(he:ev G ts h (.fldv fl.offset r x')=some (av,h')):Yld P G o ts h av h':=by
 simp only[ev] at he
 split at he<;>first|(cases he;done)|skip
 rename_i cs e1
 simp only[Option.map_eq_some_iff,Prod.mk.injEq] at he
 obtain⟨v,h1,rfl,rfl⟩:=he
 refine Yld.of_same λW S φ a H T=>?_
 have hrx:=am hx T
 rw[e1] at hrx
 generalize hvx:a.eval x=vx at hrx
 cases hrx with
 |agg _ vs hs hc=>
  obtain⟨y,k1,k2⟩:=ut (P:=P) hr (by omega) hc h1
  exact⟨y,by simp[execOp,ho,hvx,Instr.field,run_underlying ht,hf,asAgg,k1],k2⟩
theorem HI{t e:TypeId}{m:Nat}{x i:Operand}{x' i':AOp}{ei:TypeInfo}{r:Option Nat}(ho:o.op= .index t x i)(ht:P.underlying t=some (.array m e))(hei:P.info? e=some ei)(hr:nX P e=some r)(hx:cop x=some x')(hi:cop i=some i')
 (he:ev G ts h (.idxV m ei.size r x' i')=some (av,h')):Yld P G o ts h av h':=by
 simp only[ev] at he
 split at he<;>first|(cases he;done)|skip
 rename_i cs k n e1 e2
 split at he<;>first|(cases he;done)|skip
 rename_i hn
 simp only[Option.map_eq_some_iff,Prod.mk.injEq] at he
 obtain⟨v,h1,rfl,rfl⟩:=he
 refine Yld.of_same λW S φ a H T=>?_
 have hrx:=am hx T
 have hri:=am hi T
 rw[e1] at hrx
 rw[e2] at hri
 generalize hvx:a.eval x=vx at hrx
 cases hrx with
 |agg _ vs hs hc=>
  obtain⟨y,k1,k2⟩:=ut (P:=P) hr (by omega) hc h1
  exact⟨y,by simp[execOp,ho,hvx,bU hri,Instr.index,asIntOf,run_underlying ht,sizeOf,typeInfo,hei,hn,k1],k2⟩
theorem GS{t e:TypeId}{x i:Operand}{x' i':AOp}{ei:TypeInfo}(ho:o.op= .indexAddr t x i)(ht:P.underlying t=some (.slice e))(hei:P.info? e=some ei)(hx:cop x=some x')(hi:cop i=some i')
 (he:ev G ts h (.idxS ei.size x' i')=some (av,h')):Yld P G o ts h av h':=by
 refine λW S φ a H T=>?_
 have hrx:=am hx T
 have hri:=am hi T
 generalize hvx:a.eval x=vx at hrx
 generalize hvi:a.eval i=vi at hri
 have run:∀(k:IntKind) (n:Int) (len cap:Nat) (ad:Addr),vi= .int k n->vx= .slice (some ad) len cap->0<=n->n<len->
  (execOp a.eval o).run P W= .ok (.value (.pointer (some (ad.add (n.toNat*ei.size))))) W:=λk n len cap ad e1 e2 h1 h2=>by
  subst e1;subst e2
  simp[execOp,ho,hvx,hvi,Instr.indexAt,asIntOf,run_underlying ht,sizeOf,typeInfo,hei,h1,h2]
 have fin:∀(av':AV) (x:Value),(execOp a.eval o).run P W= .ok (.value x) W->VRel W S φ h.length av' x->av'=av->h=h'->
  ∃n v W' S' φ',(execOp a.eval o).run P W= .ok n W'/\NV n v/\VRel W' S' φ' h'.length av v/\HRel G W' S' φ' h'/\Keep W S φ h W' S' φ' h':=λav' x r1 r2 r3 r4=>by
  subst r3;subst r4;exact⟨_,_,W,S,φ,r1,.value _,r2,H,Keep.refl H⟩
 simp only[ev] at he
 split at he<;>first|(cases he;done)|skip
 ·rename_i sz es k n e1 e2
  rw[e1] at hrx
  rw[e2] at hri
  split at he<;>first|(cases he;done)|skip
  rename_i hn
  obtain⟨rfl,hn⟩:=hn
  simp only[Option.map_eq_some_iff,Prod.mk.injEq] at he
  obtain⟨e',hee,he1,he2⟩:=he
  have hlt:=(List.getElem?_eq_some_iff.1 hee).1
  have hp:=kb hrx
  cases hp with
  |lst0=>simp at hlt
  |lst _ _ b off cap vs hb hsz hcap hcc hcr=>
   refine fin (.eptr e' 0) _ (run k n _ _ _ (bU hri) rfl hn (by omega)) ?_ he1 he2
   rw[cT]
   exact .eptr e' 0 b (off+n.toNat*ei.size) hb λj c hj=>by
    have hj':j<ei.size:=by rw[←hsz e' (List.mem_of_getElem? hee)];exact(List.getElem?_eq_some_iff.1 hj).1
    have hfl:=bv hsz n.toNat j hj'
    rw[hee] at hfl
    simp only[Option.bind_some,hj] at hfl
    exact⟨_,by rw[Nat.add_assoc];exact hcc _ _ hfl,hcr _ _ hfl⟩
 ·rename_i id sz off len k n e1 e2
  rw[e1] at hrx
  rw[e2] at hri
  split at he
  ·rename_i hn
   cases he
   obtain⟨hs,hn1,hn2⟩:=hn
   subst hs
   cases hrx with
   |sl _ _ _ _ cap ba hid hl hb hc=>
    rw[hb (by omega)] at hvx
    refine fin (.ptr id ei.size (off+n.toNat) 0) _ (run k n _ _ _ (bU hri) (by rw[hb (by omega)]) hn1 hn2) ?_ rfl rfl
    rw[cT,show(φ id).2+off*ei.size+n.toNat*ei.size=(φ id).2+((off+n.toNat)*ei.size+0) by rw[Nat.add_mul];omega]
    exact .ptr _ _ _ _ hid
  ·cases he
theorem Hb{t e:TypeId}{x i:Operand}{x' i':AOp}{ei:TypeInfo}{m:Nat}(ho:o.op= .indexAddr t x i)(ht:P.underlying t=some (.array m e))(hei:P.info? e=some ei)(hx:cop x=some x')(hi:cop i=some i')
 (he:ev G ts h (.idxA m ei.size x' i')=some (av,h')):Yld P G o ts h av h':=by
 have hin:∀{b:Prop} [Decidable b] {y:AV},(if b then some (y,h) else none)=some (av,h')->b/\y=av/\h=h':=λ{b} _ {y} e=>by
  split at e
  ·rename_i hb;cases e;exact⟨hb,rfl,rfl⟩
  ·cases e
 simp only[ev] at he
 refine λW S φ a H T=>?_
 have hrx:=am hx T
 have hri:=am hi T
 generalize hvx:a.eval x=vx at hrx
 generalize hvi:a.eval i=vi at hri
 have run:∀(k:IntKind) (n:Int) (b off:Nat),vi= .int k n->vx= .pointer (some ⟨b,off,none⟩)->0<=n->n<m->
  (execOp a.eval o).run P W= .ok (.value (.pointer (some ⟨b,off+n.toNat*ei.size,none⟩))) W:=λk n b off e1 e2 h1 h2=>by
  subst e1;subst e2
  simp[execOp,ho,hvx,hvi,Instr.indexAt,asIntOf,run_underlying ht,Instr.sureAddr,sizeOf,typeInfo,hei,h1,h2,cT]
 have fin:∀(av':AV) (x:Value),(execOp a.eval o).run P W= .ok (.value x) W->VRel W S φ h.length av' x->av'=av->h=h'->
  ∃n v W' S' φ',(execOp a.eval o).run P W= .ok n W'/\NV n v/\VRel W' S' φ' h'.length av v/\HRel G W' S' φ' h'/\Keep W S φ h W' S' φ' h':=λav' x r1 r2 r3 r4=>by
  subst r3;subst r4;exact⟨_,_,W,S,φ,r1,.value _,r2,H,Keep.refl H⟩
 split at he<;>first|(cases he;done)|skip
 ·rename_i id g j off k n e1 e2
  rw[e1] at hrx
  rw[e2] at hri
  obtain⟨⟨n1,n2⟩,q1,q2⟩:=hin he
  cases hrx
  refine fin _ _ (run k n _ _ (bU hri) rfl n1 n2) ?_ q1 q2
  rw[Nat.add_assoc,Nat.add_assoc]
  exact .ptr _ _ _ _ (by assumption)
 ·rename_i e' off k n e1 e2
  rw[e1] at hrx
  rw[e2] at hri
  obtain⟨⟨n1,n2⟩,q1,q2⟩:=hin he
  cases hrx
  refine fin _ _ (run k n _ _ (bU hri) rfl n1 n2) ?_ q1 q2
  rw[Nat.add_assoc]
  exact .eptr _ _ _ _ (by assumption) (by assumption)
 ·rename_i g off k n e1 e2
  rw[e1] at hrx
  rw[e2] at hri
  obtain⟨⟨n1,n2⟩,q1,q2⟩:=hin he
  cases hrx
  exact fin _ _ (run k n _ _ (bU hri) rfl n1 n2) (.gp _ _) q1 q2
theorem Do{t:TypeId}{x i:Operand}{x' i':AOp}(ho:o.op= .index t x i)(ht:P.underlying t=some .string)(hx:cop x=some x')(hi:cop i=some i')
 (he:ev G ts h (.idxStr x' i')=some (av,h')):Yld P G o ts h av h':=by
 simp only[ev] at he
 split at he<;>first|(cases he;done)|skip
 rename_i s k n e1 e2
 split at he<;>first|(cases he;done)|skip
 rename_i hn
 simp only[Option.map_eq_some_iff,Prod.mk.injEq] at he
 obtain⟨b,h1,rfl,rfl⟩:=he
 refine Yld.of_same λW S φ a H T=>?_
 have hrx:=am hx T
 have hri:=am hi T
 rw[e1] at hrx
 rw[e2] at hri
 have hb:(⟨⟨s⟩⟩:ByteArray)[n.toNat]?=some b:=by
  have hlt:=(List.getElem?_eq_some_iff.1 h1)
  obtain⟨hl,hg⟩:=hlt
  rw[getElem?_pos (⟨⟨s⟩⟩:ByteArray) n.toNat (show n.toNat<(⟨⟨s⟩⟩:ByteArray).size from hl)]
  exact congrArg some hg
 exact⟨.int .u8 b.toNat,by simp[execOp,ho,vT hrx,bU hri,Instr.index,asIntOf,run_underlying ht,hn,hb],.p _ _ (.int _ _)⟩
theorem Gt{W:World}{S:Nat->Prop}{φ:au}(H:HRel G W S φ h){ax:AV}{x:Value}{cs:List AV}{off:Nat}(hr:VRel W S φ h.length ax x)(he:gE G h ax=some (cs,off)):
 ∃b o',x= .pointer (some ⟨b,o'+off,none⟩)/\∀(j:Nat) (c:AV),cs[j]?=some c->∃v,W.cell? ⟨b,o'+j,none⟩=some v/\VRel W S φ h.length c v:=by
 cases hr<;>simp only[gE] at he<;>first|(cases he;done)|skip
 ·rename_i id esz i o' hid
  split at he<;>first|(cases he;done)|skip
  rename_i sz es hrow
  split at he<;>first|(cases he;done)|skip
  rename_i hs
  subst hs
  simp only[Option.map_eq_some_iff,Prod.mk.injEq] at he
  obtain⟨e',h1,rfl,rfl⟩:=he
  obtain⟨c,t,fr,k1,k2,k3,k4,k5⟩:=H.obj id sz es hrow
  refine⟨(φ id).1,(φ id).2+i*sz,by rw[Nat.add_assoc],λj c' hj=>?_⟩
  have hj':j<sz:=by rw[←k3 e' (List.mem_of_getElem? h1)];exact(List.getElem?_eq_some_iff.1 hj).1
  have hfl:=bv k3 i j hj'
  rw[h1] at hfl
  simp only[Option.bind_some,hj] at hfl
  obtain⟨_,v,v1,v2⟩:=k5 _ _ hfl
  exact⟨v,by simp only[World.cell?,k1];simp[Nat.add_assoc,v1],v2⟩
 ·rename_i e off' b o' hb hc
  simp only[Option.some.injEq,Prod.mk.injEq] at he
  obtain⟨rfl,rfl⟩:=he
  refine⟨b,o',rfl,λj c hj=>?_⟩
  simp only[List.getElem?_map,Option.map_eq_some_iff] at hj
  obtain⟨c',hj,rfl⟩:=hj
  obtain⟨v,v1,v2⟩:=hc j c' hj
  exact⟨v,v1,.p _ _ v2⟩
 ·rename_i g off'
  simp only[Option.map_eq_some_iff,Prod.mk.injEq] at he
  obtain⟨gs,h1,rfl,rfl⟩:=he
  refine⟨g,0,by simp,λj c hj=>?_⟩
  simp only[List.getElem?_map,Option.map_eq_some_iff] at hj
  obtain⟨c',hj,rfl⟩:=hj
  obtain⟨v,v1,v2⟩:=(H.glob g gs h1).2 j c' hj
  exact⟨v,by simpa using v1,.p _ _ v2⟩
theorem sR{W:World}{S:Nat->Prop}{φ:au}{n b o':Nat}{cs:List AV}
 (hc:∀(j:Nat) (c:AV),cs[j]?=some c->∃v,W.cell? ⟨b,o'+j,none⟩=some v/\VRel W S φ n c v):
 ∃vs:List Value,vs.length=cs.length/\(∀(j:Nat) (v:Value),vs[j]?=some v->W.cell? ⟨b,o'+j,none⟩=some v)/\
  ∀(j:Nat) (c:AV) (v:Value),cs[j]?=some c->vs[j]?=some v->VRel W S φ n c v:=by
 induction cs generalizing o' with
 |nil=>exact⟨[],rfl,λj v h=>by simp at h,λj c v h=>by simp at h⟩
 |cons c r ih=>
  obtain⟨v,h1,h2⟩:=hc 0 c rfl
  obtain⟨vs,k1,k2,k3⟩:=ih (o':=o'+1) λj c' hj=>by
   have:=hc (j+1) c' (by simpa using hj)
   rwa[show o'+(j+1)=o'+1+j by omega] at this
  refine⟨v::vs,by simp[k1],λj x hj=>?_,λj c' x hj hx=>?_⟩
  ·cases j with
   |zero=>simp at hj;subst hj;exact h1
   |succ j=>simp at hj;have:=k2 j x hj;rwa[show o'+1+j=o'+(j+1) by omega] at this
  ·cases j with
   |zero=>simp at hj hx;subst hj;subst hx;exact h2
   |succ j=>simp at hj hx;exact k3 j c' x hj hx
theorem JV{t:TypeId}{x:Operand}{x':AOp}{r:Option Nat}(ho:o.op= .load t x)(hr:nX P t=some r)(hx:cop x=some x')
 (he:ev G ts h (.ld r x')=some (av,h')):Yld P G o ts h av h':=by
 simp only[ev] at he
 split at he<;>first|(cases he;done)|skip
 rename_i cs off e1
 simp only[Option.map_eq_some_iff,Prod.mk.injEq] at he
 obtain⟨v,h1,rfl,rfl⟩:=he
 refine Yld.of_same λW S φ a H T=>?_
 have hrx:=am hx T
 generalize hvx:a.eval x=vx at hrx
 obtain⟨b,o',rfl,hc⟩:=Gt H hrx e1
 obtain⟨hA,hz⟩:=rE hr W
 unfold gW at h1
 split at h1
 ·split at h1
  ·rename_i c hcc
   split at h1
   ·cases h1
    obtain⟨y,k1,k2⟩:=hc off _ hcc
    exact⟨y,by simp[execOp,ho,hvx,Instr.loadAt,Instr.sureAddr,loadVar,hA,load,Sem.run,k1],k2⟩
   ·cases h1
  ·cases h1
 ·rename_i m
  split at h1
  ·rename_i hm
   cases h1
   obtain⟨vs,q1,q2,q3⟩:=sR (W:=W) (S:=S) (φ:=φ) (n:=h.length) (b:=b) (o':=o'+off) (cs:=(cs.drop off).take m) λj c hj=>by
    rw[List.getElem?_take] at hj
    split at hj
    ·rw[List.getElem?_drop] at hj
     have:=hc (off+j) c hj
     rwa[←Nat.add_assoc] at this
    ·cases hj
   have hlen:vs.length=m:=by rw[q1];simp;omega
   refine⟨.agg vs.toArray,?_,.agg _ _ (by simp[q1]) λj c v e1 e2=>q3 j c v e1 (by simpa using e2)⟩
   have hl:=run_loadCells_list (P:=P) W ⟨b,o'+off,none⟩ vs λj v hj=>by rw[cT];exact q2 j v hj
   rw[hlen] at hl
   simp[execOp,ho,hvx,Instr.loadAt,Instr.sureAddr,loadVar,hA,hz m rfl,hl]
  ·cases h1
theorem Jq{fn:Fn}{caps:Array Operand}{cs':List AOp}(ho:o.op= .makeFunc fn #[] caps)(hx:caps.toList.mapM cop=some cs')
 (he:ev G ts h (.mkf fn cs')=some (av,h')):Yld P G o ts h av h':=by
 simp only[ev,Option.some.injEq,Prod.mk.injEq] at he
 obtain⟨rfl,rfl⟩:=he
 refine Yld.of_same λW S φ a H T=>⟨.func fn #[] (caps.map a.eval),by simp[execOp,ho,Instr.makeFunc],?_⟩
 have key:∀(l:List Operand) (l':List AOp),l.mapM cop=some l'->l.length=l'.length/\∀(j:Nat) (c:AV) (v:Value),(l'.map (·.ev ts))[j]?=some c->(l.map a.eval)[j]?=some v->VRel W S φ h.length c v:=by
  intro l
  induction l with
  |nil=>intro l' e;simp at e;subst e;exact⟨rfl,λj c v h=>by simp at h⟩
  |cons y r ih=>
   intro l' e
   simp only[List.mapM_cons] at e
   cases hy:cop y with
   |none=>rw[hy] at e;cases e
   |some y'=>
    cases hr:r.mapM cop with
    |none=>rw[hy,hr] at e;cases e
    |some r'=>
     rw[hy,hr] at e
     cases e
     obtain⟨i1,i2⟩:=ih r' hr
     refine⟨by simp[i1],λj c v h1 h2=>?_⟩
     cases j with
     |zero=>simp at h1 h2;subst h1;subst h2;exact am hy T
     |succ j=>simp at h1 h2;exact i2 j c v (by simpa using h1) (by simpa using h2)
 obtain⟨k1,k2⟩:=key _ _ hx
 exact .fn _ _ _ (by simp[←k1]) λj c v h1 h2=>k2 j c v h1 (by simpa using h2)
end
end Go.Aw
namespace Go.Aw
def tE:Option Operand->Option (Option AOp)
 |none=>some none
 |some x=>(cop x).map some
section
variable {P:Program} {G:az} {o:Oper} {ts:List AV} {h h':List AO} {av:AV}
theorem uL{W:World}{S:Nat->Prop}{φ:au}{n:Nat}{a:Act}(T:TRel W S φ n ts a.tmps){x:Option Operand}{x':Option AOp}{l:Nat}(hx:tE x=some x')(he:lo? ts x'=some l):
 (x=none/\l=0)\/∃y k m,x=some y/\a.eval y= .int k m/\0<=m/\l=m.toNat:=by
 cases x with
 |none=>cases hx;simp[lo?] at he;exact .inl ⟨rfl,he.symm⟩
 |some y=>
  simp only[tE,Option.map_eq_some_iff] at hx
  obtain⟨y',h1,rfl⟩:=hx
  have hr:=am h1 T
  simp only[lo?] at he
  split at he<;>first|(cases he;done)|skip
  rename_i k m e1
  split at he<;>first|(cases he;done)|skip
  rename_i h0
  cases he
  rw[e1] at hr
  exact .inr ⟨y,k,m,rfl,bU hr,h0,rfl⟩
theorem vG{W:World}{S:Nat->Prop}{φ:au}{n:Nat}{a:Act}(T:TRel W S φ n ts a.tmps){x:Option Operand}{x':Option AOp}{d l:Nat}(hx:tE x=some x')(he:hi? ts d x'=some l):
 (x=none/\l=d)\/∃y k m,x=some y/\a.eval y= .int k m/\0<=m/\l=m.toNat:=by
 cases x with
 |none=>cases hx;simp[hi?] at he;exact .inl ⟨rfl,he.symm⟩
 |some y=>
  simp only[tE,Option.map_eq_some_iff] at hx
  obtain⟨y',h1,rfl⟩:=hx
  have hr:=am h1 T
  simp only[hi?] at he
  split at he<;>first|(cases he;done)|skip
  rename_i k m e1
  split at he<;>first|(cases he;done)|skip
  rename_i h0
  cases he
  rw[e1] at hr
  exact .inr ⟨y,k,m,rfl,bU hr,h0,rfl⟩
theorem oL{a:Act}{x y:Option Operand}{l m d cap:Nat}(isS:Bool)(h1:(x=none/\l=0)\/∃y k m,x=some y/\a.eval y= .int k m/\0<=m/\l=m.toNat)
 (h2:(y=none/\m=d)\/∃z k n,y=some z/\a.eval z= .int k n/\0<=n/\m=n.toNat)(hlm:l<=m)(hmc:m<=cap)(W:World):
 (Instr.sliceBounds isS d cap (x.map a.eval) (y.map a.eval) none).run P W= .ok (l,m,cap) W:=by
 rcases h2 with⟨rfl,rfl⟩|⟨z,k2,n,rfl,e2,n0,rfl⟩
 ·rcases h1 with⟨rfl,rfl⟩|⟨z,k1,n1,rfl,e1,n10,rfl⟩
  ·simp[Instr.sliceBounds]
  ·have:n1<=(m:Int):=by omega
   simp[Instr.sliceBounds,Instr.sliceBound,asIntOf,e1,n10,this]
 ·have q:n<=(cap:Int):=by omega
  rcases h1 with⟨rfl,rfl⟩|⟨z',k1,n1,rfl,e1,n10,rfl⟩
  ·simp[Instr.sliceBounds,Instr.sliceBound,asIntOf,e2,n0,q]
  ·have q2:n1<=max n 0:=by omega
   simp[Instr.sliceBounds,Instr.sliceBound,asIntOf,e1,n10,e2,n0,q,q2]
theorem lr{α:Type}{sz:Nat}{es:List (List α)}(hs:∀e∈es,e.length=sz)(l:Nat):(es.drop l).flatten=es.flatten.drop (l*sz):=by
 induction es generalizing l with
 |nil=>simp
 |cons e r ih=>
  have he:=hs e (List.mem_cons_self ..)
  have ih':=ih (λx hx=>hs x (List.mem_cons_of_mem _ hx))
  cases l with
  |zero=>simp
  |succ l=>
   rw[List.drop_succ_cons,ih' l,List.flatten_cons,Nat.add_mul,List.drop_append]
   simp only[Nat.one_mul,he]
   rw[show List.drop (l*sz+sz) e=[] from List.drop_eq_nil_of_le (by omega),Nat.add_sub_cancel,List.nil_append]
theorem iu{α:Type}{sz:Nat}{es:List (List α)}(hs:∀e∈es,e.length=sz)(l:Nat):(es.take l).flatten=es.flatten.take (l*sz):=by
 induction es generalizing l with
 |nil=>simp
 |cons e r ih=>
  have he:=hs e (List.mem_cons_self ..)
  have ih':=ih (λx hx=>hs x (List.mem_cons_of_mem _ hx))
  cases l with
  |zero=>simp
  |succ l=>
   rw[List.take_succ_cons,List.flatten_cons,ih' l,List.flatten_cons,Nat.add_mul,List.take_append]
   simp only[Nat.one_mul,he]
   rw[show List.take (l*sz+sz) e=e from List.take_of_length_le (by omega),Nat.add_sub_cancel]
theorem Bj{W:World}{S:Nat->Prop}{sz:Nat}{es:List (List PV)}{x:Value}(h:PRel W S (.lst sz es) x){l m:Nat}(hlm:l<=m)(hm:m<=es.length):
 ∃ad cap,x= .slice ad es.length cap/\es.length<=cap/\PRel W S (.lst sz ((es.take m).drop l)) (.slice (if cap=l then ad else ad.map (·.add (l*sz))) (m-l) (cap-l)):=by
 cases h with
 |lst0 _ a cap=>
  refine⟨a,cap,rfl,Nat.zero_le _,?_⟩
  have:m=0:=by simpa using hm
  subst this
  have:l=0:=by omega
  subst this
  exact .lst0 _ _ _
 |lst _ _ b off cap vs hb hsz hcap hc hr=>
  refine⟨_,cap,rfl,hcap,?_⟩
  rcases Nat.lt_or_ge l m with hlt|hge
  ·rw[if_neg (by omega),Option.map_some,cT]
   have hlen:((es.take m).drop l).length=m-l:=by simp;omega
   rw[←hlen]
   have hall:∀e∈(es.take m).drop l,e.length=sz:=λe he=>hsz e (List.mem_of_mem_take (List.mem_of_mem_drop he))
   have key:∀(j:Nat) (c:PV),((es.take m).drop l).flatten[j]?=some c->es.flatten[l*sz+j]?=some c:=λj c hj=>by
    rw[lr (λe he=>hsz e (List.mem_of_mem_take he)),iu hsz,List.getElem?_drop,List.getElem?_take] at hj
    split at hj
    ·exact hj
    ·cases hj
   exact .lst _ _ b (off+l*sz) (cap-l) (λj=>vs (l*sz+j)) hb hall (by omega) (λj c hj=>by rw[Nat.add_assoc];exact hc _ _ (key j c hj)) (λj c hj=>hr _ _ (key j c hj))
  ·have:m-l=0:=by omega
   rw[this,List.drop_eq_nil_of_le (by simp;omega)]
   exact .lst0 _ _ _
theorem ID{t e:TypeId}{x:Operand}{lo hi:Option Operand}{x':AOp}{lo' hi':Option AOp}{ei:TypeInfo}(ho:o.op= .slice t x lo hi none)(ht:P.underlying t=some (.slice e))(hei:P.info? e=some ei)
 (hx:cop x=some x')(hlo:tE lo=some lo')(hhi:tE hi=some hi')(he:ev G ts h (.slS ei.size x' lo' hi')=some (av,h')):Yld P G o ts h av h':=by
 simp only[ev] at he
 split at he<;>first|(cases he;done)|skip
 rename_i d hd
 split at he<;>first|(cases he;done)|skip
 rename_i l m hl hm
 simp only[Option.map_eq_some_iff,Prod.mk.injEq] at he
 obtain⟨v,h1,rfl,rfl⟩:=he
 refine Yld.of_same λW S φ a H T=>?_
 have hrx:=am hx T
 have kl:=uL T hlo hl
 have km:=vG T hhi hm
 generalize hvx:a.eval x=vx at hrx
 generalize x'.ev ts=ax at hd h1 hrx
 have run:∀(ad:Option Addr) (cap:Nat),vx= .slice ad d cap->l<=m->m<=cap->
  (execOp a.eval o).run P W= .ok (.value (.slice (if cap=l then ad else ad.map (·.add (l*ei.size))) (m-l) (cap-l))) W:=λad cap e1 q1 q2=>by
  subst e1
  have:=oL (P:=P) (cap:=cap) true kl km q1 q2 W
  simp[execOp,ho,hvx,Instr.sliceAt,Instr.slice,run_underlying ht,this,sizeOf,typeInfo,hei]
 unfold Ke at h1
 split at h1<;>first|(cases h1;done)|skip
 ·rename_i sz es
  split at h1<;>first|(cases h1;done)|skip
  rename_i hlm
  cases h1
  obtain⟨rfl,q1,q2⟩:=hlm
  obtain⟨ad,cap,rfl,hcap,hr⟩:=Bj (kb hrx) q1 q2
  cases hd
  exact⟨_,run _ _ rfl q1 (by omega),.p _ _ hr⟩
 ·split at h1<;>first|(cases h1;done)|skip
  rename_i hlm
  cases h1
  obtain⟨rfl,rfl⟩:=hlm
  cases hrx
  cases hd
  exact⟨_,run none 0 rfl (Nat.le_refl _) (Nat.le_refl _),.nils⟩
 ·rename_i id sz off len
  split at h1<;>first|(cases h1;done)|skip
  rename_i hlm
  cases h1
  obtain⟨rfl,q1,q2⟩:=hlm
  cases hrx with
  |sl _ _ _ _ cap ba hid hle hb hc=>
   cases hd
   refine⟨_,run _ _ rfl q1 (by omega),.sl _ _ _ _ _ _ hid (by omega) (λhp=>?_) λc t fr hcc=>?_⟩
   ·rw[if_neg (by omega),hb (by omega),Option.map_some,cT,Nat.add_assoc,←Nat.add_mul]
   ·have:=hc c t fr hcc
    rw[show off+l+(cap-l)=off+cap by omega]
    exact this
theorem ED{t:TypeId}{x:Operand}{lo hi:Option Operand}{x':AOp}{lo' hi':Option AOp}(ho:o.op= .slice t x lo hi none)(ht:P.underlying t=some .string)
 (hx:cop x=some x')(hlo:tE lo=some lo')(hhi:tE hi=some hi')(he:ev G ts h (.slStr x' lo' hi')=some (av,h')):Yld P G o ts h av h':=by
 simp only[ev] at he
 split at he<;>first|(cases he;done)|skip
 rename_i d hd
 split at he<;>first|(cases he;done)|skip
 rename_i l m hl hm
 simp only[Option.map_eq_some_iff,Prod.mk.injEq] at he
 obtain⟨v,h1,rfl,rfl⟩:=he
 refine Yld.of_same λW S φ a H T=>?_
 have hrx:=am hx T
 have kl:=uL T hlo hl
 have km:=vG T hhi hm
 generalize hvx:a.eval x=vx at hrx
 generalize x'.ev ts=ax at hd h1 hrx
 unfold Dj at h1
 split at h1<;>first|(cases h1;done)|skip
 rename_i s
 split at h1<;>first|(cases h1;done)|skip
 rename_i hlm
 cases h1
 rw[vT hrx] at hvx
 cases hd
 have hb:=oL (P:=P) (cap:=s.length) false kl km hlm.1 hlm.2 W
 have hsz:(⟨⟨s⟩⟩:ByteArray).size=s.length:=rfl
 refine⟨.string ⟨⟨(s.take m).drop l⟩⟩,?_,.p _ _ (.str _)⟩
 have hex:(⟨⟨s⟩⟩:ByteArray).extract l m=⟨⟨(s.take m).drop l⟩⟩:=by
  apply ByteArray.ext
  rw[ByteArray.data_extract]
  simp[List.extract_eq_take_drop,List.drop_take]
 simp[execOp,ho,hvx,Instr.sliceAt,Instr.slice,run_underlying ht,hsz,hb,hex]
end
end Go.Aw
namespace Go.Aw
def Ptw(W:World)(S:Nat->Prop)(φ:au)(n:Nat)(cs:List AV)(vs:List Value):Prop:=
 vs.length=cs.length/\∀(j:Nat) (c:AV) (v:Value),cs[j]?=some c->vs[j]?=some v->VRel W S φ n c v
section
variable {W:World} {S:Nat->Prop} {φ:au} {n:Nat}
theorem nx{av:AV}{x:Value}(h:VRel W S φ n av x)(hc:av.cells.all AV.isCell=true):Ptw W S φ n av.cells x.cells.toList/\∀v∈x.cells.toList,v.oneC=true:=by
 by_cases ha:av.isCell=true
 ·have h1:=h.oneCell ha
  have e1:x.cells=#[x]:=by cases x<;>first|rfl|(simp[Value.oneC] at h1)
  have e2:av.cells=[av]:=by cases av<;>first|rfl|(simp[AV.isCell] at ha)
  rw[e1,e2]
  refine⟨⟨rfl,λj c v h3 h4=>?_⟩,λv hv=>?_⟩
  ·cases j with
   |zero=>simp at h3 h4;subst h3;subst h4;exact h
   |succ j=>simp at h3
  ·simp at hv;subst hv;exact h1
 ·cases h with
  |agg cs vs hs hr=>
   refine⟨⟨by simpa[Value.cells,AV.cells] using hs,λj c v h1 h2=>hr j c v h1 (by simpa[Value.cells] using h2)⟩,λv hv=>?_⟩
   simp only[Value.cells] at hv
   obtain⟨j,hj⟩:=List.getElem?_of_mem hv
   have hl:j<cs.length:=by rw[←hs];simpa using(List.getElem?_eq_some_iff.1 hj).1
   have hcj:=List.getElem?_eq_getElem hl
   exact(hr j _ v hcj (by simpa using hj)).oneCell (List.all_eq_true.1 hc _ (List.mem_of_getElem? hcj))
  |_=>first|(simp[AV.cells,AV.isCell] at hc;done)|(simp[AV.isCell] at ha;done)
theorem oH{e ys:List AV}{off:Nat}(h:off+ys.length<=e.length):(dP e off ys).length=e.length:=by simp[dP];omega
theorem uA{e ys:List AV}{off:Nat}(h:off+ys.length<=e.length)(j:Nat):(dP e off ys)[j]?=if off<=j/\j<off+ys.length then ys[j-off]? else e[j]?:=by
 have ho:(e.take off).length=off:=by rw[List.length_take];omega
 unfold dP
 rw[List.append_assoc,List.getElem?_append,List.getElem?_append,ho]
 split
 ·rw[List.getElem?_take,if_pos (by assumption),if_neg (by omega)]
 ·split
  ·rw[if_pos (by omega)]
  ·rw[if_neg (by omega),List.getElem?_drop]
   congr 1;omega
theorem Ci{cs ys:List AV}{c:Array Value}{l:List Value}{off:Nat}(h:off+ys.length<=cs.length)(hc:Ptw W S φ n cs c.toList)(hy:Ptw W S φ n ys l):
 Ptw W S φ n (dP cs off ys) (wr c off l).toList:=by
 have e1:c.size=cs.length:=by simpa using hc.1
 have e2:l.length=ys.length:=hy.1
 refine⟨by rw[oH h];simpa[dp] using e1,λj a v h1 h2=>?_⟩
 rw[uA h] at h1
 have h2':(wr c off l)[j]?=some v:=by simpa using h2
 rw[sw _ _ _ (by omega)] at h2'
 split at h1
 ·rw[if_pos (by omega)] at h2';exact hy.2 _ _ _ h1 h2'
 ·rw[if_neg (by omega)] at h2';exact hc.2 _ _ _ h1 (by simpa using h2')
theorem GU(l:List Value):∀(c:Array Value) (off k:Nat),(l.zipIdx k).foldl (λcs (x:Value × Nat)=>cs.setIfInBounds (off+x.2) x.1) c=wr c (off+k) l:=by
 induction l with
 |nil=>intro c off k;rfl
 |cons v r ih=>intro c off k;simp only[List.zipIdx_cons,List.foldl_cons,wr];rw[ih];rfl
theorem Fq(v:Value)(c:Array Value)(off:Nat):v.cells.zipIdx.foldl (λcs (c,j)=>cs.setIfInBounds (off+j) c) c=wr c off v.cells.toList:=by
 have:=GU v.cells.toList c off 0
 rw[Nat.add_zero] at this
 rw[←this,←Array.foldl_toList,Array.toList_zipIdx]
def lm(place:Nat->Option (Nat × Nat)):List (Nat × Operand)->List (Nat × Nat × AOp)->Prop
 |[],[]=>True
 |(i,x)::r,(off,sz,y)::r'=>place i=some (off,sz)/\cop x=some y/\lm place r r'
 |_,_=>False
theorem na{ts:List AV}{a:Act}(T:TRel W S φ n ts a.tmps)(place:Nat->Option (Nat × Nat)):∀(l:List (Nat × Operand)) (l':List (Nat × Nat × AOp)) (cs cs':List AV) (c:Array Value),
 lm place l l'->Ptw W S φ n cs c.toList->(∀v∈c.toList,v.oneC=true)->lI ts cs l'=some cs'->
 ∃c',Instr.fill place c (l.map λ(i,x)=>(i,a.eval x))=some c'/\Ptw W S φ n cs' c'.toList/\(∀v∈c'.toList,v.oneC=true)/\cs'.length=cs.length
 |[],[],cs,cs',c,_,hp,h1,he=>by cases he;exact⟨c,rfl,hp,h1,rfl⟩
 |(i,x)::r,(off,sz,y)::r',cs,cs',c,hk,hp,h1,he=>by
  obtain⟨k1,k2,k3⟩:=hk
  simp only[lI] at he
  split at he<;>first|(cases he;done)|skip
  rename_i hc
  obtain⟨c1,c2,c3⟩:=hc
  have hr:=am k2 T
  obtain⟨q1,q2⟩:=nx hr c2
  have e1:(a.eval x).cells.size=sz:=by have:=q1.1;simp at this;omega
  have e2:c.size=cs.length:=by simpa using hp.1
  have hsp:=Ci (off:=off) (by omega) hp q1
  obtain⟨c',f1,f2,f3,f4⟩:=na T place r r' _ cs' (wr c off (a.eval x).cells.toList) k3 hsp (λv hv=>by
   obtain⟨j,hj⟩:=List.getElem?_of_mem hv
   have hj':(wr c off (a.eval x).cells.toList)[j]?=some v:=by simpa using hj
   rw[sw _ _ _ (by simp;omega)] at hj'
   split at hj'
   ·exact q2 v (List.mem_of_getElem? hj')
   ·exact h1 v (List.mem_of_getElem? (by simpa using hj'))) he
  refine⟨c',?_,f2,f3,by rw[f4,oH (by omega)]⟩
  simp only[List.map_cons,Instr.fill,k1]
  rw[if_neg (by simp;omega),Fq]
  exact f1
 |[],_::_,_,_,_,hk,_,_,_=>hk.elim
 |_::_,[],_,_,_,hk,_,_,_=>hk.elim
end
end Go.Aw
namespace Go.Aw
def ft(P:Program)(t:TypeId):Option (List AV):=
 match P.info? t with
 |some i=>match i.zero with
  |some z=>match cv z with
   |some a=>if a.cells.all AV.isCell=true/\a.cells.length=i.size then some a.cells else none
   |none=>none
  |none=>none
 |none=>none
section
variable {P:Program} {G:az} {o:Oper} {ts:List AV} {h h':List AO} {av:AV}
theorem dt{t:TypeId}{z:List AV}(hz:ft P t=some z)(W:World)(S:Nat->Prop)(φ:au)(n:Nat):
 ∃zv,(zeroValue t).run P W= .ok zv W/\Ptw W S φ n z zv.cells.toList/\(∀v∈zv.cells.toList,v.oneC=true)/\(∃i,P.info? t=some i/\i.size=z.length)/\z.all AV.isCell=true:=by
 unfold ft at hz
 split at hz<;>first|(cases hz;done)|skip
 rename_i i hi
 split at hz<;>first|(cases hz;done)|skip
 rename_i zv hzv
 split at hz<;>first|(cases hz;done)|skip
 rename_i a ha
 split at hz<;>first|(cases hz;done)|skip
 rename_i hc
 cases hz
 obtain⟨k1,k2⟩:=nx (Cq (W:=W) (S:=S) (φ:=φ) (n:=n) ha) hc.1
 exact⟨zv,by simp[zeroValue,typeInfo,hi,hzv],k1,k2,⟨i,hi,hc.2.symm⟩,hc.1⟩
theorem iA{W:World}{S:Nat->Prop}{φ:au}(H:HRel G W S φ h){es:List (List AV)}{sz:Nat}{c:Array Value}{t:TypeId}{l:List Value}(hsz:∀e∈es,e.length=sz)
 (hcell:es.flatten.all AV.isCell=true)(hp:Ptw W S φ h.length es.flatten l)(hl:∃r,c.toList=l++r)(W':World)(hW:W'.heap=(W.alloc (.cells c t)).heap)(h1:W'.os=W.os)(h2:W'.tape=W.tape)(h3:W'.output=W.output):
 HRel G W' S (upd φ h.length (W.heap.size,0)) (h++[.row sz es])/\Keep W S φ h W' S (upd φ h.length (W.heap.size,0)) (h++[.row sz es]):=by
 obtain⟨r,hr⟩:=hl
 have hlen:=aK hsz
 refine H.push (d:=none) (B:=(W.heap.size,0)) (c:=c) (t:=t) (fr:=(0,0)) (sz:=sz) (es:=es) (.inl (Nat.le_refl _)) (by rw[hW];show(W.heap.push _)[W.heap.size]?=_;simp) (λb hb _=>by rw[hW];show(W.heap.push _)[b]?=_;rw[Array.getElem?_push,if_neg (by omega)]) (by rw[hW];simp)
  h1 h2 h3 (by omega) hsz ?_ (λj a hj=>?_) rfl
 ·have e1:=hp.1
  have:c.size=l.length+r.length:=by rw[←Array.length_toList,hr,List.length_append]
  simp only[Nat.zero_add]
  omega
 ·have hjl:j<l.length:=by have:=(List.getElem?_eq_some_iff.1 hj).1;rw[hp.1];exact this
  have hv:c[j]?=some l[j]:=by
   rw[←Array.getElem?_toList,hr,List.getElem?_append_left hjl,List.getElem?_eq_getElem hjl]
  exact⟨List.all_eq_true.1 hcell a (List.mem_of_getElem? hj),l[j],by simpa using hv,hp.2 j a _ hj (List.getElem?_eq_getElem hjl)⟩
theorem Jh{t:TypeId}{x:Operand}{x':AOp}{m:Nat}(ho:o.op= .box t x)(hx:cop x=some x')(he:ev G ts h (.box m x')=some (av,h')):Yld P G o ts h av h':=by
 simp only[ev] at he
 split at he<;>first|(cases he;done)|skip
 rename_i hc
 cases he
 intro W S φ a H T
 have hr:=am hx T
 obtain⟨k1,k2⟩:=nx hr hc.2
 obtain⟨A,B⟩:=iA H (es:=[(x'.ev ts).cells]) (sz:=m) (c:=(a.eval x).cells) (t:=t) (l:=(a.eval x).cells.toList) (by simp[hc.1]) (by simpa using hc.2) (by simpa using k1) ⟨[],by simp⟩ (W.alloc (.cells (a.eval x).cells t)) rfl rfl rfl rfl
 refine⟨.value (.pointer (some ⟨W.heap.size,0,none⟩)),_,_,S,_,?_,.value _,?_,A,B⟩
 ·simp[execOp,ho,Instr.box,newVar,newRow]
 ·have:=VRel.ptr (W:=W.alloc (.cells (a.eval x).cells t)) (S:=S) (φ:=upd φ h.length (W.heap.size,0)) (n:=(h++[AO.row m [(x'.ev ts).cells]]).length) h.length m 0 0 (by simp)
  simpa[upd] using this
theorem FE{t:TypeId}{z:List AV}(ho:o.op= .alloc t)(hz:ft P t=some z)(he:ev G ts h (.alloc z)=some (av,h')):Yld P G o ts h av h':=by
 simp only[ev,Option.some.injEq,Prod.mk.injEq] at he
 obtain⟨rfl,rfl⟩:=he
 intro W S φ a H T
 obtain⟨zv,r1,r2,r3,⟨i,hi,his⟩,hcell⟩:=dt hz W S φ h.length
 obtain⟨A,B⟩:=iA H (es:=[z]) (sz:=z.length) (c:=zv.cells) (t:=t) (l:=zv.cells.toList) (by simp) (by simpa using hcell) (by simpa using r2) ⟨[],by simp⟩ (W.alloc (.cells zv.cells t)) rfl rfl rfl rfl
 refine⟨.value (.pointer (some ⟨W.heap.size,0,none⟩)),_,_,S,_,?_,.value _,?_,A,B⟩
 ·simp[execOp,ho,Instr.alloc,newVar,newRow,r1]
 ·have:=VRel.ptr (W:=W.alloc (.cells zv.cells t)) (S:=S) (φ:=upd φ h.length (W.heap.size,0)) (n:=(h++[AO.row z.length [z]]).length) h.length z.length 0 0 (by simp)
  simpa[upd] using this
theorem Gv{t:TypeId}{fs:Array Field}{parts:Array (Nat × Operand)}{parts':List (Nat × Nat × AOp)}{z:List AV}{places:Array (Nat × Nat)}(ho:o.op= .build t parts)(ht:P.underlying t=some (.struct fs))(hz:ft P t=some z)
 (hpl:fs.toList.mapM (λf=>(P.info? f.type).map λi=>(f.offset,i.size))=some places.toList)(hp:lm (places[·]?) parts.toList parts')
 (he:ev G ts h (.bld z parts')=some (av,h')):Yld P G o ts h av h':=by
 simp only[ev,Option.map_eq_some_iff,Prod.mk.injEq] at he
 obtain⟨cs,h1,rfl,rfl⟩:=he
 refine Yld.of_same λW S φ a H T=>?_
 obtain⟨zv,r1,r2,r3,⟨i,hi,his⟩,hcell⟩:=dt hz W S φ h.length
 obtain⟨c',f1,f2,f3,f4⟩:=na T _ _ _ _ _ _ hp r2 r3 h1
 have hm:(fs.mapM λf=>(do pure (f.offset,←sizeOf f.type):Sem (Nat × Nat))).run P W= .ok places W:=by
  rw[Array.mapM_eq_mapM_toList]
  have key:∀(l:List Field) (r:List (Nat × Nat)),l.mapM (λf=>(P.info? f.type).map λi=>(f.offset,i.size))=some r->(l.mapM λf=>(do pure (f.offset,←sizeOf f.type):Sem (Nat × Nat))).run P W= .ok r W:=by
   intro l
   induction l with
   |nil=>intro r e;simp at e;subst e;simp
   |cons f l ih=>
    intro r e
    simp only[List.mapM_cons] at e⊢
    cases hf:P.info? f.type with
    |none=>rw[hf] at e;cases e
    |some fi=>
     rw[hf] at e
     cases hl:l.mapM (λf=>(P.info? f.type).map λi=>(f.offset,i.size)) with
     |none=>rw[hl] at e;cases e
     |some r'=>
      rw[hl] at e
      cases e
      have:=ih r' hl
      simp[sizeOf,typeInfo,hf] at this⊢
      simp[this]
  have:=key _ _ hpl
  simp at this⊢
  simp[this]
 refine⟨.agg c',?_,.agg _ _ (by simpa using f2.1) λj c v e1 e2=>f2.2 j c v e1 (by simpa using e2)⟩
 have hm':(fs.mapM λf=>(Prod.mk f.offset<$>sizeOf f.type:Sem (Nat × Nat))).run P W= .ok places W:=by simpa using hm
 have f1':Instr.fill (λx=>places[x]?) zv.cells (parts.toList.map λx=>(x.1,a.eval x.2))=some c':=f1
 simp[execOp,ho,Instr.build,run_underlying ht,r1,hm',f1']
theorem Gc{t e:TypeId}{m:Nat}{parts:Array (Nat × Operand)}{parts':List (Nat × Nat × AOp)}{z:List AV}{ei:TypeInfo}(ho:o.op= .build t parts)(ht:P.underlying t=some (.array m e))(hz:ft P t=some z)
 (hei:P.info? e=some ei)(hp:lm (λi=>some (i*ei.size,ei.size)) parts.toList parts')
 (he:ev G ts h (.bld z parts')=some (av,h')):Yld P G o ts h av h':=by
 simp only[ev,Option.map_eq_some_iff,Prod.mk.injEq] at he
 obtain⟨cs,h1,rfl,rfl⟩:=he
 refine Yld.of_same λW S φ a H T=>?_
 obtain⟨zv,r1,r2,r3,⟨i,hi,his⟩,hcell⟩:=dt hz W S φ h.length
 obtain⟨c',f1,f2,f3,f4⟩:=na T _ _ _ _ _ _ hp r2 r3 h1
 refine⟨.agg c',?_,.agg _ _ (by simpa using f2.1) λj c v e1 e2=>f2.2 j c v e1 (by simpa using e2)⟩
 have f1':Instr.fill (λi=>some (i*ei.size,ei.size)) zv.cells (parts.toList.map λx=>(x.1,a.eval x.2))=some c':=f1
 simp[execOp,ho,Instr.build,run_underlying ht,r1,sizeOf,typeInfo,hei,f1']
theorem KC{t:TypeId}{x y:Operand}{x' y':AOp}{i:TypeInfo}(ho:o.op= .store t x y)(hi:P.info? t=some i)(hx:cop x=some x')(hy:cop y=some y')
 (he:ev G ts h (.st i.size x' y')=some (av,h')):Yld P G o ts h av h':=by
 simp only[ev] at he
 split at he<;>first|(cases he;done)|skip
 rename_i id esz ix off e1
 split at he<;>first|(cases he;done)|skip
 rename_i sz es hrow
 split at he<;>first|(cases he;done)|skip
 rename_i e hee
 split at he<;>first|(cases he;done)|skip
 rename_i hc
 cases he
 obtain⟨rfl,c1,c2,c3⟩:=hc
 intro W S φ a H T
 have hrx:=am hx T
 have hry:=am hy T
 rw[e1] at hrx
 generalize hvx:a.eval x=vx at hrx
 obtain⟨k1,k2⟩:=nx hry c2
 obtain⟨c,t0,fr,o1,o2,o3,o4,o5⟩:=H.obj id sz es hrow
 cases hrx with
 |ptr _ _ _ _ hid=>
  have hle:ix<es.length:=(List.getElem?_eq_some_iff.1 hee).1
  have hel:e.length=sz:=o3 e (List.mem_of_getElem? hee)
  have hys:(a.eval y).cells.size=i.size:=by have:=k1.1;simp at this;omega
  have hfit:(φ id).2+(ix*sz+off)+i.size<=c.size:=by
   have:(ix+1)*sz<=es.length*sz:=Nat.mul_le_mul_right _ hle
   rw[Nat.add_mul] at this
   omega
  obtain⟨W',hrun,hB⟩:=fJ (P:=P) (a.eval y).cells.toList W (φ id).1 ((φ id).2+(ix*sz+off)) 0 c t0 fr o1 o2 (by simp;omega) k2
  have hsz':∀e'∈es.set ix (dP e off (y'.ev ts).cells),e'.length=sz:=λe' he'=>by
   rcases List.mem_or_eq_of_mem_set he' with h'|h'
   ·exact o3 e' h'
   ·rw[h',oH (by omega)];exact hel
  obtain⟨A,B⟩:=H.update (W':=W') (es':=es.set ix (dP e off (y'.ev ts).cells)) hrow o1 (by rw[dp]) hB (by rw[dp];exact o2) hsz' (by rw[dp];simpa using o4) (λj u hj=>by
   have hjs:j<es.length*sz:=by
    have:=(List.getElem?_eq_some_iff.1 hj).1
    rw[aK hsz'] at this
    simpa using this
   have hsp:0<sz:=Nat.pos_of_ne_zero λh0=>by subst h0;simp at hjs
   have hdm:=Nat.div_add_mod j sz
   have hml:=Nat.mod_lt j hsp
   have hjeq:j=j/sz*sz+j%sz:=by rw[Nat.mul_comm];exact hdm.symm
   rw[hjeq,bv hsz' _ _ hml] at hj
   rw[sw _ _ _ (by simp;omega)]
   by_cases hq:j/sz=ix
   ·rw[hq,List.getElem?_set_self hle] at hj
    simp only[Option.bind_some] at hj
    rw[uA (by omega)] at hj
    have hj2:j=ix*sz+j%sz:=by rw[←hq];exact hjeq
    split at hj
    ·rename_i hrange
     rw[if_pos (by simp;omega)]
     have hlt:j%sz-off<(a.eval y).cells.toList.length:=by simp;omega
     have hv:=List.getElem?_eq_getElem hlt
     refine⟨List.all_eq_true.1 c2 u (List.mem_of_getElem? hj),_,?_,k1.2 _ _ _ hj hv⟩
     rw[←hv];congr 1;omega
    ·rename_i hrange
     rw[if_neg (by simp;omega)]
     have:=o5 j u (by rw[hjeq,bv o3 _ _ hml,hq,hee];exact hj)
     exact this
   ·rw[List.getElem?_set_ne (Ne.symm hq)] at hj
    have hne:¬((φ id).2+(ix*sz+off)+0<=(φ id).2+j/\(φ id).2+j<(φ id).2+(ix*sz+off)+0+(a.eval y).cells.toList.length):=by
     simp only[Array.length_toList,hys]
     intro ⟨g1,g2⟩
     have g3:ix*sz<=j:=by omega
     have g4:j<(ix+1)*sz:=by rw[Nat.add_mul];omega
     exact hq (Nat.div_eq_of_lt_le g3 g4)
    rw[if_neg hne]
    exact o5 j u (by rw[hjeq,bv o3 _ _ hml];exact hj))
  refine⟨.skip,undef,W',S,φ,?_,.skip,.any _,A,B⟩
  simp[execOp,ho,hvx,Instr.storeAt,Instr.sureAddr,storeVar,hys,sizeOf,typeInfo,hi,hrun]
end
end Go.Aw
namespace Go.Aw
section
variable {P:Program} {G:az} {o:Oper} {ts:List AV} {h h':List AO} {av:AV}
theorem gC{α:Type}(esz:Nat)(cs:List α):∀(n off:Nat),(cd esz cs off n).length=n
 |0,_=>rfl
 |n+1,off=>by simp[cd,gC esz cs n]
theorem jy{α:Type}(esz:Nat)(cs:List α):∀(n off:Nat),off+n*esz<=cs.length->∀e∈cd esz cs off n,e.length=esz
 |0,_,_,e,he=>by simp[cd] at he
 |n+1,off,hl,e,he=>by
  rw[Nat.add_mul] at hl
  simp only[cd,List.mem_cons] at he
  rcases he with rfl|he
  ·simp;omega
  ·exact jy esz cs n (off+esz) (by omega) e he
theorem jv{α:Type}(esz:Nat)(cs:List α):∀(n off:Nat),off+n*esz<=cs.length->(cd esz cs off n).flatten=(cs.drop off).take (n*esz)
 |0,_,_=>by simp[cd]
 |n+1,off,hl=>by
  rw[Nat.add_mul] at hl
  rw[cd,List.flatten_cons,jv esz cs n (off+esz) (by omega),Nat.add_mul,Nat.one_mul,Nat.add_comm (n*esz) esz,List.take_add,List.drop_drop]
theorem nn{W:World}{S:Nat->Prop}{φ:au}{n m s:Nat}{z:List AV}{zv:Array Value}(hz:Ptw W S φ n z zv.toList)(hs:s=z.length)(hp:m=0\/0<s):
 Ptw W S φ n (List.replicate m z).flatten (((Array.range (m*s)).map λi=>zv[i%zv.size]!).toList):=by
 subst hs
 have e1:zv.size=z.length:=by simpa using hz.1
 have hall:∀e∈List.replicate m z,e.length=z.length:=λe he=>by rw[(List.mem_replicate.1 he).2]
 refine⟨by rw[aK hall];simp,λj c v h1 h2=>?_⟩
 have hj:j<m*z.length:=by have:=(List.getElem?_eq_some_iff.1 h1).1;rw[aK hall] at this;simpa using this
 have hsp:0<z.length:=by
  rcases hp with rfl|hp
  ·simp at hj
  ·exact hp
 have hml:=Nat.mod_lt j hsp
 have hjeq:j=j/z.length*z.length+j%z.length:=by rw[Nat.mul_comm];exact(Nat.div_add_mod j _).symm
 rw[hjeq,bv hall _ _ hml] at h1
 have hdiv:j/z.length<m:=Nat.div_lt_of_lt_mul (by rw[Nat.mul_comm];exact hj)
 rw[List.getElem?_replicate,if_pos hdiv] at h1
 simp only[Option.bind_some] at h1
 have h2':zv[j%zv.size]! =v:=by
  have:((Array.range (m*z.length)).map λi=>zv[i%zv.size]!)[j]?=some (zv[j%zv.size]!):=by simp[hj]
  rw[Array.getElem?_toList,this] at h2
  cases h2;rfl
 rw[e1] at h2'
 have hlt:j%z.length<zv.size:=by omega
 rw[getElem!_pos zv _ hlt] at h2'
 exact hz.2 _ c v h1 (by rw[Array.getElem?_toList,Array.getElem?_eq_getElem hlt,h2'])
theorem Jr{t e:TypeId}{len:Nat}{parts:Array (Nat × Operand)}{parts':List (Nat × Nat × AOp)}{z:List AV}{ei:TypeInfo}(ho:o.op= .buildSlice t len parts)(ht:P.underlying t=some (.slice e))(hz:ft P e=some z)
 (hei:P.info? e=some ei)(hsmall:len*ei.size<=2^24)(hsp:0<ei.size)(hp:lm (λi=>some (i*ei.size,ei.size)) parts.toList parts')
 (he:ev G ts h (.bsl ei.size z len parts')=some (av,h')):Yld P G o ts h av h':=by
 simp only[ev,Option.map_eq_some_iff,Prod.mk.injEq] at he
 obtain⟨cs,h1,rfl,rfl⟩:=he
 intro W S φ a H T
 obtain⟨zv,r1,r2,r3,⟨i,hi,his⟩,hcell⟩:=dt hz W S φ h.length
 rw[hei] at hi;cases hi
 have hrep:=nn (m:=len) (s:=ei.size) r2 his (.inr hsp)
 have honeC:∀v∈((Array.range (len*ei.size)).map λi=>zv.cells[i%zv.cells.size]!).toList,v.oneC=true:=λv hv=>by
  simp at hv
  obtain⟨q,hq,rfl⟩:=hv
  have:0<zv.cells.size:=by have:=r2.1;simp at this;omega
  have hlt:=Nat.mod_lt q this
  rw[getElem!_pos zv.cells _ hlt]
  exact r3 _ (by simp)
 obtain⟨c',f1,f2,f3,f4⟩:=na T _ _ _ _ _ _ hp hrep honeC h1
 have hlen:cs.length=len*ei.size:=by rw[f4,aK (sz:=z.length) (λe he=>by rw[(List.mem_replicate.1 he).2])];simp[his]
 have hflat:(cd ei.size cs 0 len).flatten=cs:=by rw[jv _ _ _ _ (by omega)];simp[←hlen]
 have hallc:cs.all AV.isCell=true:=by
  have key:∀(l:List (Nat × Nat × AOp)) (x y:List AV),x.all AV.isCell=true->lI ts x l=some y->y.all AV.isCell=true:=by
   intro l
   induction l with
   |nil=>intro x y hx hy;cases hy;exact hx
   |cons q r ih=>
    intro x y hx hy
    obtain⟨off,sz,yo⟩:=q
    simp only[lI] at hy
    split at hy<;>first|(cases hy;done)|skip
    rename_i hc
    refine ih _ _ ?_ hy
    rw[List.all_eq_true]
    intro u hu
    simp only[dP,List.mem_append] at hu
    rcases hu with(hu|hu)|hu
    ·exact List.all_eq_true.1 hx u (List.mem_of_mem_take hu)
    ·exact List.all_eq_true.1 hc.2.1 u hu
    ·exact List.all_eq_true.1 hx u (List.mem_of_mem_drop hu)
  refine key _ _ _ ?_ h1
  rw[List.all_eq_true]
  intro u hu
  obtain⟨l,hl,hu⟩:=List.mem_flatten.1 hu
  rw[(List.mem_replicate.1 hl).2] at hu
  exact List.all_eq_true.1 hcell u hu
 obtain⟨A,B⟩:=iA H (es:=cd ei.size cs 0 len) (sz:=ei.size) (c:=c') (t:=e) (l:=c'.toList) (jy _ _ _ _ (by omega)) (by rw[hflat];exact hallc) (by rw[hflat];exact f2) ⟨[],by simp⟩ (W.alloc (.cells c' e)) rfl rfl rfl rfl
 refine⟨.value (.slice (some ⟨W.heap.size,0,none⟩) len len),_,_,S,_,?_,.value _,?_,A,B⟩
 ·have hf:Instr.fill (λi=>some (i*ei.size,ei.size)) ((Array.range (len*ei.size)).map λi=>zv.cells[i%zv.cells.size]!) (parts.toList.map λx=>(x.1,a.eval x.2))=some c':=f1
  have hb:¬(16777216<len*ei.size):=by omega
  by_cases h0:len=0
  ·subst h0
   have hr0:Array.range 0=#[]:=rfl
   simp[hr0] at hf
   simp[hr0,execOp,ho,Instr.buildSlice,run_underlying ht,sizeOf,typeInfo,hei,hf,newRow]
  ·have h0':¬(ei.size=0):=by omega
   have hne:len*ei.size≠0:=Nat.mul_ne_zero h0 h0'
   simp[execOp,ho,Instr.buildSlice,run_underlying ht,sizeOf,typeInfo,hei,hb,h0,h0',r1,hf,newRow]
   first|done|exact λhc=>absurd hc hne
 ·have hc':c'.size=len*ei.size:=by have:=f2.1;simp at this;omega
  have:=VRel.sl (W:=W.alloc (.cells c' e)) (S:=S) (φ:=upd φ h.length (W.heap.size,0)) (n:=(h++[AO.row ei.size (cd ei.size cs 0 len)]).length) h.length ei.size 0 len len (some ⟨W.heap.size,0,none⟩) (by simp) (Nat.le_refl _)
   (λ_=>by simp[upd]) (λc t fr hc=>by
     have:(W.alloc (.cells c' e)).heap[W.heap.size]?=some (.cells c' e):=by show(W.heap.push _)[W.heap.size]?=_;simp
     simp only[upd,if_true] at hc⊢
     rw[this] at hc;cases hc;simp[hc'])
  exact this
theorem Cj{W:World}{S:Nat->Prop}{φ:au}(H:HRel G W S φ h)(o:Obj):HRel G (W.alloc o) S φ h/\Keep W S φ h (W.alloc o) S φ h:=by
 have hold:∀b,b<W.heap.size->(W.alloc o).heap[b]?=W.heap[b]?:=λb hb=>by
  show(W.heap.push _)[b]?=_
  rw[Array.getElem?_push,if_neg (by omega)]
 have hs:W.heap.size<=(W.alloc o).heap.size:=by show _<=(W.heap.push _).size;simp
 have hlt:∀{id:Nat} {o:AO},h[id]?=some o->id<h.length:=λe=>(List.getElem?_eq_some_iff.1 e).1
 have K:Kept W S φ h.length (W.alloc o) S φ h.length:=
  {pure:=λb hb=>⟨hb,hold b (H.sep b hb).1⟩
   len:=Nat.le_refl _
   same:=λ_ _=>rfl
   blk:=λi hi c t fr e=>⟨c,t,fr,by rw[←hold _ (H.bnd i hi)];exact e,rfl⟩}
 refine⟨⟨λid sz es e=>?_,λid o1 e lo=>?_,H.inj,λb hb=>⟨Nat.lt_of_lt_of_le (H.sep b hb).1 hs,(H.sep b hb).2⟩,λid hid=>Nat.lt_of_lt_of_le (H.bnd id hid) hs,λg cs hg=>?_⟩,{K with os:=rfl,tape:=rfl,output:=rfl,size:=hs,out:=λb hb _=>hold b hb,img:=λid e=> .inr ⟨id,e,rfl⟩,newS:=λb hb=> .inl hb}⟩
 ·obtain⟨c,t,fr,a1,a2,a3,a4,a5⟩:=H.obj id sz es e
  refine⟨c,t,fr,by rw[hold _ (H.bnd id (hlt e))];exact a1,a2,a3,a4,λj u hj=>?_⟩
  obtain⟨b1,v,b2,b3⟩:=a5 j u hj
  exact⟨b1,v,b2,b3.kept K⟩
 ·rw[hold _ (H.bnd id (hlt e))]
  exact(H.oobj id o1 e lo).mono λa v r=>r.kept K
 ·obtain⟨g1,g2⟩:=H.glob g cs hg
  refine⟨g1,λj c hj=>?_⟩
  obtain⟨v,k1,k2⟩:=g2 j c hj
  exact⟨v,by rw[aW (hold g (H.sep g g1).1)];exact k1,k2.mono K.pure⟩
theorem CQ{W:World}{S:Nat->Prop}{φ:au}(H:HRel G W S φ h)(o:Obj):
 HRel G (W.alloc o) (λb=>S b\/b=W.heap.size) φ h/\Keep W S φ h (W.alloc o) (λb=>S b\/b=W.heap.size) φ h:=by
 have hold:∀b,b<W.heap.size->(W.alloc o).heap[b]?=W.heap[b]?:=λb hb=>by
  show(W.heap.push _)[b]?=_
  rw[Array.getElem?_push,if_neg (by omega)]
 have hs:W.heap.size<=(W.alloc o).heap.size:=by show _<=(W.heap.push _).size;simp
 have hlt:∀{id:Nat} {o:AO},h[id]?=some o->id<h.length:=λe=>(List.getElem?_eq_some_iff.1 e).1
 have K:Kept W S φ h.length (W.alloc o) (λb=>S b\/b=W.heap.size) φ h.length:=
  {pure:=λb hb=>⟨.inl hb,hold b (H.sep b hb).1⟩
   len:=Nat.le_refl _
   same:=λ_ _=>rfl
   blk:=λi hi c t fr e=>⟨c,t,fr,by rw[←hold _ (H.bnd i hi)];exact e,rfl⟩}
 refine⟨⟨λid sz es e=>?_,λid o1 e lo=>?_,H.inj,λb hb=>?_,λid hid=>Nat.lt_of_lt_of_le (H.bnd id hid) hs,λg cs hg=>?_⟩,{K with os:=rfl,tape:=rfl,output:=rfl,size:=hs,out:=λb hb _=>hold b hb,img:=λid e=> .inr ⟨id,e,rfl⟩,newS:=λb hb=>by rcases hb with hb|hb;exact .inl hb;exact .inr (.inl (by omega))}⟩
 ·obtain⟨c,t,fr,a1,a2,a3,a4,a5⟩:=H.obj id sz es e
  refine⟨c,t,fr,by rw[hold _ (H.bnd id (hlt e))];exact a1,a2,a3,a4,λj u hj=>?_⟩
  obtain⟨b1,v,b2,b3⟩:=a5 j u hj
  exact⟨b1,v,b2,b3.kept K⟩
 ·rw[hold _ (H.bnd id (hlt e))]
  exact(H.oobj id o1 e lo).mono λa v r=>r.kept K
 ·rcases hb with hb|rfl
  ·exact⟨Nat.lt_of_lt_of_le (H.sep b hb).1 hs,(H.sep b hb).2⟩
  ·refine⟨by show _<(W.heap.push _).size;simp,λid e he=>?_⟩
   have:=H.bnd id e.lt
   omega
 ·obtain⟨g1,g2⟩:=H.glob g cs hg
  refine⟨.inl g1,λj c hj=>?_⟩
  obtain⟨v,k1,k2⟩:=g2 j c hj
  exact⟨v,by rw[aW (hold g (H.sep g g1).1)];exact k1,k2.mono K.pure⟩
theorem HN{t e:TypeId}{len:Nat}{parts:Array (Nat × Operand)}{parts':List (Nat × Nat × AOp)}{z:List AV}{ei:TypeInfo}(ho:o.op= .buildSlice t len parts)(ht:P.underlying t=some (.slice e))(hz:ft P e=some z)
 (hei:P.info? e=some ei)(hsmall:len*ei.size<=2^24)(hsp:0<ei.size)(hp:lm (λi=>some (i*ei.size,ei.size)) parts.toList parts')
 (he:ev G ts h (.bslP ei.size z len parts')=some (av,h')):Yld P G o ts h av h':=by
 simp only[ev,Option.map_eq_some_iff,Option.bind_eq_some_iff,Prod.mk.injEq] at he
 obtain⟨pvs,⟨cs,h1,hpv⟩,rfl,rfl⟩:=he
 obtain⟨hcl,hcs⟩:=pL hpv
 intro W S φ a H T
 obtain⟨zv,r1,r2,r3,⟨i,hi,his⟩,hcell⟩:=dt hz W S φ h.length
 rw[hei] at hi;cases hi
 have hrep:=nn (m:=len) (s:=ei.size) r2 his (.inr hsp)
 have honeC:∀v∈((Array.range (len*ei.size)).map λi=>zv.cells[i%zv.cells.size]!).toList,v.oneC=true:=λv hv=>by
  simp at hv
  obtain⟨q,hq,rfl⟩:=hv
  have:0<zv.cells.size:=by have:=r2.1;simp at this;omega
  have hlt:=Nat.mod_lt q this
  rw[getElem!_pos zv.cells _ hlt]
  exact r3 _ (by simp)
 obtain⟨c',f1,f2,f3,f4⟩:=na T _ _ _ _ _ _ hp hrep honeC h1
 have hlen:cs.length=len*ei.size:=by rw[f4,aK (sz:=z.length) (λe he=>by rw[(List.mem_replicate.1 he).2])];simp[his]
 obtain⟨A,B⟩:=CQ H (.cells c' e)
 have hpl:pvs.length=len*ei.size:=by rw[←hcl];exact hlen
 have hchl:(cd ei.size pvs 0 len).length=len:=gC _ _ _ _
 have hchf:(cd ei.size pvs 0 len).flatten=pvs:=by rw[jv _ _ _ _ (by omega)];simp[←hpl]
 refine⟨.value (.slice (some ⟨W.heap.size,0,none⟩) len len),_,_,_,_,?_,.value _,?_,A,B⟩
 ·have hf:Instr.fill (λi=>some (i*ei.size,ei.size)) ((Array.range (len*ei.size)).map λi=>zv.cells[i%zv.cells.size]!) (parts.toList.map λx=>(x.1,a.eval x.2))=some c':=f1
  have hb:¬(16777216<len*ei.size):=by omega
  by_cases h0:len=0
  ·subst h0
   have hr0:Array.range 0=#[]:=rfl
   simp[hr0] at hf
   simp[hr0,execOp,ho,Instr.buildSlice,run_underlying ht,sizeOf,typeInfo,hei,hf,newRow]
  ·have h0':¬(ei.size=0):=by omega
   have hne:len*ei.size≠0:=Nat.mul_ne_zero h0 h0'
   simp[execOp,ho,Instr.buildSlice,run_underlying ht,sizeOf,typeInfo,hei,hb,h0,h0',r1,hf,newRow]
   first|done|exact λhc=>absurd hc hne
 ·have hat:(W.alloc (.cells c' e)).heap[W.heap.size]?=some (.cells c' e):=by show(W.heap.push _)[W.heap.size]?=_;simp
  have hcell':∀(j:Nat) (c:PV),pvs[j]?=some c->∃v,(W.alloc (.cells c' e)).cell? ⟨W.heap.size,0+j,none⟩=some v/\PRel W S c v:=λj c hj=>by
   have hlt:j<c'.toList.length:=by
    have:=(List.getElem?_eq_some_iff.1 hj).1
    rw[f2.1];omega
   have hp:PRel W S c c'.toList[j]:=by
    rcases hcs j c hj with hj2|⟨hj2,rfl⟩
    ·have:=f2.2 j _ _ hj2 (List.getElem?_eq_getElem hlt)
     cases this with|p _ _ hp=>exact hp
    ·have:=f2.2 j _ _ hj2 (List.getElem?_eq_getElem hlt)
     generalize c'.toList[j]=y at this
     cases this
     exact .lst0 _ _ _
   refine⟨c'.toList[j],?_,?_⟩
   ·simp only[World.cell?,hat,Nat.zero_add]
    simp at hlt
    simp[hlt]
   ·exact hp
  cases len with
  |zero=>exact .p _ _ (.lst0 _ _ _)
  |succ len=>
   have:=PRel.lst (W:=W.alloc (.cells c' e)) (S:=λb=>S b\/b=W.heap.size) ei.size (cd ei.size pvs 0 (len+1)) W.heap.size 0 (len+1) (λj=>((W.alloc (.cells c' e)).cell? ⟨W.heap.size,0+j,none⟩).getD default) (.inr rfl) (jy _ _ _ _ (by omega)) (by omega)
    (λj c hj=>by rw[hchf] at hj;obtain⟨v,h3,h4⟩:=hcell' j c hj;rw[h3];rfl) (λj c hj=>by rw[hchf] at hj;obtain⟨v,h3,h4⟩:=hcell' j c hj;rw[h3];exact h4.mono B.toKept.pure)
   rw[hchl] at this
   exact .p _ _ this
theorem mO(n:Nat)(W:World):(askRoom n).run P W= .ok () W:=by
 unfold askRoom
 split<;>simp[mark,Sem.run]
theorem Ig{t e:TypeId}{l c:Operand}{l' c':AOp}{z:List AV}{ei:TypeInfo}(ho:o.op= .makeSlice t l c)(ht:P.underlying t=some (.slice e))(hz:ft P e=some z)
 (hei:P.info? e=some ei)(hsp:0<ei.size)(hl:cop l=some l')(hc:cop c=some c')
 (he:ev G ts h (.mks ei.size ei.bytes z l' c')=some (av,h')):Yld P G o ts h av h':=by
 simp only[ev] at he
 split at he<;>first|(cases he;done)|skip
 rename_i k n k2 m e1 e2
 split at he<;>first|(cases he;done)|skip
 rename_i hb
 cases he
 obtain⟨b1,b2,b3,b4⟩:=hb
 intro W S φ a H T
 have hrl:=am hl T
 have hrc:=am hc T
 rw[e1] at hrl
 rw[e2] at hrc
 obtain⟨zv,r1,r2,r3,⟨i,hi,his⟩,hcell⟩:=dt hz W S φ h.length
 rw[hei] at hi;cases hi
 have hrep:=nn (m:=n.toNat) (s:=ei.size) r2 his (.inr hsp)
 have hrepc:=nn (m:=m.toNat) (s:=ei.size) r2 his (.inr hsp)
 have hall:∀x∈List.replicate n.toNat z,x.length=ei.size:=λx hx=>by rw[(List.mem_replicate.1 hx).2];exact his.symm
 have hle:n.toNat*ei.size<=m.toNat*ei.size:=Nat.mul_le_mul_right _ (by omega)
 let C:=(Array.range (m.toNat*ei.size)).map λi=>zv.cells[i%zv.cells.size]!
 let L:=(Array.range (n.toNat*ei.size)).map λi=>zv.cells[i%zv.cells.size]!
 have hCL:C.toList=L.toList++C.toList.drop (n.toNat*ei.size):=by
  have:L.toList=C.toList.take (n.toNat*ei.size):=by
   apply List.ext_getElem?
   intro j
   rw[List.getElem?_take]
   simp only[C,L,Array.getElem?_toList,Array.getElem?_map,Array.getElem?_range]
   split
   ·rw[if_pos (by omega)]
   ·rfl
  rw[this,List.take_append_drop]
 obtain⟨A,B⟩:=iA H (es:=List.replicate n.toNat z) (sz:=ei.size) (c:=C) (t:=e) (l:=L.toList) hall (by
  rw[List.all_eq_true]
  intro u hu
  obtain⟨l,hl,hu⟩:=List.mem_flatten.1 hu
  rw[(List.mem_replicate.1 hl).2] at hu
  exact List.all_eq_true.1 hcell u hu) hrep ⟨_,hCL⟩ (W.alloc (.cells C e)) rfl rfl rfl rfl
 refine⟨.value (.slice (some ⟨W.heap.size,0,none⟩) n.toNat m.toNat),_,_,S,_,?_,.value _,?_,A,B⟩
 ·have w1:IntKind.i64.wrap n=n:=IntWalk.i64_in n (by omega)
  have w2:IntKind.i64.wrap m=m:=IntWalk.i64_in m (by omega)
  have q1:¬(m<0):=by omega
  have q2:¬(281474976710656<(ei.bytes:Int)*m):=by omega
  have q3:¬(n<0):=by omega
  have q4:¬(m<n):=by omega
  have hz':¬(ei.size=0):=by omega
  by_cases hm0:m=0
  ·have:C=#[]:=by simp[C,hm0]
   subst hm0
   simp[execOp,ho,Instr.makeSlice,run_underlying ht,asInt,asIntOf,bU hrl,bU hrc,w1,w2,typeInfo,hei,q1,q2,q3,q4,mO,sizeOf,newRow,this,show Array.range 0=#[] from rfl]
  ·have hm1:¬(m<=0):=by omega
   simp[execOp,ho,Instr.makeSlice,run_underlying ht,asInt,asIntOf,bU hrl,bU hrc,w1,w2,typeInfo,hei,q1,q2,q3,q4,mO,sizeOf,hz',hm1,r1,newRow,C]
   exact λhc=>absurd hc (Nat.mul_ne_zero (by omega) hz')
 ·have hC:C.size=m.toNat*ei.size:=by simp[C]
  exact VRel.sl (W:=W.alloc (.cells C e)) (S:=S) (φ:=upd φ h.length (W.heap.size,0)) (n:=(h++[AO.row ei.size (List.replicate n.toNat z)]).length) h.length ei.size 0 n.toNat m.toNat (some ⟨W.heap.size,0,none⟩) (by simp) (by omega)
   (λ_=>by simp[upd]) (λc t fr hc=>by
     have:(W.alloc (.cells C e)).heap[W.heap.size]?=some (.cells C e):=by show(W.heap.push _)[W.heap.size]?=_;simp
     simp only[upd,if_true] at hc⊢
     rw[this] at hc;cases hc;simp[hC])
end
end Go.Aw
namespace Go.Aw
section
variable {P:Program} {G:az} {o:Oper} {ts:List AV} {h h':List AO} {av:AV}
theorem jT{α:Type}(f:Nat->α){m j:Nat}(hj:j<m):((List.range m).map f)[j]?=some (f j):=by simp[hj]
theorem kC{W:World}{S:Nat->Prop}{φ:au}(H:HRel G W S φ h){esz:Nat}{ax:AV}{x:Value}{xs:List (List AV)}(hr:VRel W S φ h.length ax x)(he:elems h esz ax=some xs):
 ∃ad cap news,x= .slice ad xs.length cap/\(xs.length=0\/∃b off,ad=some ⟨b,off,none⟩/\∀(j:Nat) (v:Value),news[j]?=some v->W.cell? ⟨b,off+j,none⟩=some v)/\
  Ptw W S φ h.length xs.flatten news/\(∀e∈xs,e.length=esz)/\xs.flatten.all AV.isCell=true/\∀v∈news,v.oneC=true:=by
 unfold elems at he
 split at he<;>first|(cases he;done)|skip
 ·rename_i sz es
  split at he<;>first|(cases he;done)|skip
  rename_i hs
  subst hs
  cases he
  cases kb hr with
  |lst0 _ a cap=>exact⟨a,cap,[],rfl,.inl rfl,⟨rfl,λj c v h1=>by simp at h1⟩,λe he=>by simp at he,rfl,λv hv=>by simp at hv⟩
  |lst _ _ b off cap vs hb hsz hcap hc hp=>
   have hfl:(es.map (·.map AV.p)).flatten=es.flatten.map AV.p:=by rw[List.map_flatten]
   refine⟨_,cap,(List.range es.flatten.length).map vs,by simp,.inr ⟨b,off,rfl,λj v hj=>?_⟩,⟨by rw[hfl,List.length_map,List.length_map,List.length_range],λj c v h1 h2=>?_⟩,λe he=>?_,?_,λv hv=>?_⟩
   ·have hl:j<es.flatten.length:=by have:=(List.getElem?_eq_some_iff.1 hj).1;rwa[List.length_map,List.length_range] at this
    have:vs j=v:=by rw[jT vs hl] at hj;exact Option.some.inj hj
    rw[←this];exact hc j _ (List.getElem?_eq_getElem hl)
   ·rw[hfl,List.getElem?_map,Option.map_eq_some_iff] at h1
    obtain⟨c',h1,rfl⟩:=h1
    have hl:=(List.getElem?_eq_some_iff.1 h1).1
    have:vs j=v:=by rw[jT vs hl] at h2;exact Option.some.inj h2
    rw[←this];exact .p _ _ (hp j c' h1)
   ·obtain⟨e',he',rfl⟩:=List.mem_map.1 he
    simpa using hsz e' he'
   ·rw[hfl,List.all_eq_true]
    intro u hu
    obtain⟨q,_,rfl⟩:=List.mem_map.1 hu
    rfl
   ·obtain⟨j,hj⟩:=List.getElem?_of_mem hv
    have hl:j<es.flatten.length:=by have:=(List.getElem?_eq_some_iff.1 hj).1;rwa[List.length_map,List.length_range] at this
    have:vs j=v:=by rw[jT vs hl] at hj;exact Option.some.inj hj
    rw[←this];exact(hp j _ (List.getElem?_eq_getElem hl)).oneCell
 ·cases he
  cases hr
  exact⟨none,0,[],rfl,.inl rfl,⟨rfl,λj c v h1=>by simp at h1⟩,λe he=>by simp at he,rfl,λv hv=>by simp at hv⟩
 ·rename_i id sz off len
  split at he<;>first|(cases he;done)|skip
  rename_i sz' es hrow
  split at he<;>first|(cases he;done)|skip
  rename_i hs
  cases he
  obtain⟨rfl,rfl,hle⟩:=hs
  obtain⟨c,t,fr,o1,o2,o3,o4,o5⟩:=H.obj id sz es hrow
  cases hr with
  |sl _ _ _ _ cap ba hid hl hb hc=>
   have hall:∀e∈(es.drop off).take len,e.length=sz:=λe he=>o3 e (List.mem_of_mem_drop (List.mem_of_mem_take he))
   have hlen:((es.drop off).take len).length=len:=by simp;omega
   have hfl:((es.drop off).take len).flatten=(es.flatten.drop (off*sz)).take (len*sz):=by
    rw[iu (λe he=>o3 e (List.mem_of_mem_drop he)),lr o3]
   have key:∀(j:Nat) (a:AV),((es.drop off).take len).flatten[j]?=some a->es.flatten[off*sz+j]?=some a/\j<len*sz:=λj a hj=>by
    rw[hfl,List.getElem?_take] at hj
    split at hj
    ·rw[List.getElem?_drop] at hj;exact⟨hj,by assumption⟩
    ·cases hj
   rw[hlen]
   have hbnd:(φ id).2+(off+len)*sz<=c.size:=by
    have:(off+len)*sz<=es.length*sz:=Nat.mul_le_mul_right _ hle
    omega
   rw[Nat.add_mul] at hbnd
   refine⟨ba,cap,(c.toList.drop ((φ id).2+off*sz)).take (len*sz),rfl,?_,⟨?_,λj a v h1 h2=>?_⟩,hall,?_,λv hv=>?_⟩
   ·rcases Nat.eq_zero_or_pos len with h0|h0
    ·exact .inl h0
    ·refine .inr ⟨_,_,hb (by omega),λj v hj=>?_⟩
     rw[List.getElem?_take] at hj
     split at hj
     ·rw[List.getElem?_drop] at hj
      simp only[World.cell?,o1]
      simpa using hj
     ·cases hj
   ·rw[hfl,List.length_take,List.length_take,List.length_drop,List.length_drop,aK o3,Array.length_toList]
    have:off*sz+len*sz<=es.length*sz:=by rw[←Nat.add_mul];exact Nat.mul_le_mul_right _ hle
    omega
   ·obtain⟨k1,k2⟩:=key j a h1
    obtain⟨_,v',v1,v2⟩:=o5 _ _ k1
    rw[List.getElem?_take,if_pos k2,List.getElem?_drop] at h2
    have:c[(φ id).2+(off*sz+j)]?=some v:=by rw[←Nat.add_assoc];simpa using h2
    rw[v1] at this;cases this;exact v2
   ·rw[List.all_eq_true]
    intro u hu
    obtain⟨j,hj⟩:=List.getElem?_of_mem hu
    exact(o5 _ _ (key j u hj).1).1
   ·obtain⟨j,hj⟩:=List.getElem?_of_mem hv
    rw[List.getElem?_take] at hj
    split at hj
    ·rename_i hlt
     rw[List.getElem?_drop] at hj
     have hl:j<((es.drop off).take len).flatten.length:=by
      rw[aK hall,hlen];exact hlt
     obtain⟨k1,_⟩:=key j _ (List.getElem?_eq_getElem hl)
     obtain⟨q1,v',v1,v2⟩:=o5 _ _ k1
     have:c[(φ id).2+(off*sz+j)]?=some v:=by rw[←Nat.add_assoc];simpa using hj
     rw[v1] at this;cases this
     exact v2.oneCell q1
    ·cases hj
theorem kJ{W:World}{size:Nat}{ad:Option Addr}{n cap:Nat}{news:List Value}(hl:news.length=n*size)
 (hc:n=0\/∃b off,ad=some ⟨b,off,none⟩/\∀(j:Nat) (v:Value),news[j]?=some v->W.cell? ⟨b,off+j,none⟩=some v):
 (Builtin.firstCells size n (.slice ad n cap)).run P W= .ok news.toArray W:=by
 rcases hc with rfl|⟨b,off,rfl,hc⟩
 ·have:news=[]:=List.eq_nil_of_length_eq_zero (by simpa using hl)
  subst this
  cases ad with
  |none=>simp[Builtin.firstCells]
  |some a=>simp[Builtin.firstCells,loadCells,loadCellsFrom]
 ·exact run_firstCells_some W size n _ n cap news hl λj v hj=>by rw[cT];exact hc j v hj
theorem If{c:Call}{t e:TypeId}{s x:Operand}{s' x':AOp}{ei:TypeInfo}{z:List AV}(ho:o.op= .call c)(hc:c.callee= .builtin .append)(ha:c.args=#[s,x])(hat:c.argTypes=#[t,t])
 (ht:P.underlying t=some (.slice e))(hei:P.info? e=some ei)(hz:ft P e=some z)(hs:cop s=some s')(hx:cop x=some x')
 (he:ev G ts h (.app ei.size ei.bytes s' x')=some (av,h')):Yld P G o ts h av h':=by
 simp only[ev] at he
 split at he<;>first|(cases he;done)|skip
 rename_i xs hxs
 intro W S φ a H T
 have hrs:=am hs T
 have hrx:=am hx T
 obtain⟨zv,z1,z2,z3,⟨i,hi,his⟩,hcell⟩:=dt hz W S φ h.length
 rw[hei] at hi;cases hi
 generalize hvs:a.eval s=vs at hrs
 generalize hvx:a.eval x=vx at hrx
 obtain⟨ad,cap,news,rfl,n1,n2,n3,n4,n5⟩:=kC H hrx hxs
 have hnl:news.length=xs.length*ei.size:=by rw[n2.1,aK n3]
 have hzr:ei.zero=some zv:=by
  cases hz0:ei.zero with
  |none=>simp[zeroValue,typeInfo,hei,hz0,unsupported,Sem.run] at z1
  |some q=>simp[zeroValue,typeInfo,hei,hz0] at z1;rw[z1]
 split at he<;>first|(cases he;done)|skip
 ·rename_i e1
  rw[e1] at hrs
  cases hrs
  split at he<;>first|(cases he;done)|skip
  rename_i hb
  split at he
  ·rename_i hnil
   cases he
   subst hnil
   refine⟨.value (.slice none 0 0),_,W,S,φ,?_,.value _,.nils,H,Keep.refl H⟩
   have hf:=kJ (P:=P) (W:=W) (cap:=cap) hnl n1
   simp only[List.length_nil] at hf hvx
   simp[execOp,ho,hc,ha,hat,hvs,hvx,resolve,invoke,builtin,Builtin.append_,run_underlying ht,sizeOf,typeInfo,hei,Builtin.lenOf,hf]
  ·rename_i hnil
   cases he
   have hpos:0<xs.length:=Nat.pos_of_ne_zero λh0=>hnil (List.eq_nil_of_length_eq_zero h0)
   rcases n1 with h0|⟨b,off,rfl,n1⟩
   ·omega
   have hrun:=run_append_nil (P:=P) W t o.type e ei zv ht hei hzr ⟨b,off,none⟩ xs.length cap news hnl (λj v hj=>by rw[cT];exact n1 j v hj) hpos (by omega) (by omega)
   obtain⟨A,B⟩:=iA H (es:=xs) (sz:=ei.size) (c:=news.toArray++Builtin.zeroCells zv.cells (grownCap W xs.length 0 e-xs.length)) (t:=e) (l:=news) n3 n4 n2 ⟨_,by simp;rfl⟩
    (W.drew.alloc (.cells (news.toArray++Builtin.zeroCells zv.cells (grownCap W xs.length 0 e-xs.length)) e)) rfl rfl rfl rfl
   refine⟨.value (.slice (some ⟨W.heap.size,0,none⟩) xs.length (grownCap W xs.length 0 e)),_,_,S,_,?_,.value _,?_,A,B⟩
   ·simp[execOp,ho,hc,ha,hat,hvs,hvx,resolve,invoke,builtin,hrun]
   ·have hcap:=grownCap_ge W xs.length 0 e
    exact VRel.sl (φ:=upd φ h.length (W.heap.size,0)) h.length ei.size 0 xs.length (grownCap W xs.length 0 e) (some ⟨W.heap.size,0,none⟩) (by simp) hcap
     (λ_=>by simp[upd]) (λc t fr hcc=>by
       simp only[upd,if_true] at hcc⊢
       have:(W.drew.alloc (.cells (news.toArray++Builtin.zeroCells zv.cells (grownCap W xs.length 0 e-xs.length)) e)).heap[W.heap.size]?=some (.cells (news.toArray++Builtin.zeroCells zv.cells (grownCap W xs.length 0 e-xs.length)) e):=by
        show(W.heap.push _)[W.heap.size]?=_;simp
       rw[this] at hcc;cases hcc
       have hzs:zv.cells.size=ei.size:=by have:=z2.1;simp at this;omega
       simp only[Array.size_append,List.size_toArray,hnl,Builtin.zeroCells,Array.size_map,Array.size_range,hzs,Nat.zero_add]
       rw[←Nat.add_mul]
       exact Nat.mul_le_mul_right _ (by omega))
 ·rename_i id sz off len e1
  rw[e1] at hrs
  split at he<;>first|(cases he;done)|skip
  rename_i sz' es hrow
  split at he<;>first|(cases he;done)|skip
  rename_i hb
  cases he
  obtain⟨rfl,rfl,hle,hb1,hb2⟩:=hb
  obtain⟨c0,t0,fr0,o1,o2,o3,o4,o5⟩:=H.obj id ei.size es hrow
  have hres:elems h ei.size (.sl id ei.size off len)=some ((es.drop off).take len):=by simp[elems,hrow,hle]
  obtain⟨ado,capo,olds,q0,q1,q2,q3,q4,q5⟩:=kC H hrs hres
  have hlen:((es.drop off).take len).length=len:=by simp;omega
  rw[hlen] at q0 q1
  have hol:olds.length=len*ei.size:=by rw[q2.1,aK q3,hlen]
  cases hrs with
  |sl _ _ _ _ cap' ba hid hl hb hcc=>
   cases q0
   have hall:∀e∈(es.drop off).take len++xs,e.length=ei.size:=λe he=>by
    rcases List.mem_append.1 he with he|he
    ·exact q3 e he
    ·exact n3 e he
   have hcl:((es.drop off).take len++xs).flatten.all AV.isCell=true:=by rw[List.flatten_append,List.all_append,q4,n4];rfl
   have hptw:Ptw W S φ h.length ((es.drop off).take len++xs).flatten (olds++news):=by
    refine⟨by rw[List.flatten_append,List.length_append,List.length_append,q2.1,n2.1],λj c v h1 h2=>?_⟩
    rw[List.flatten_append,List.getElem?_append] at h1
    rw[List.getElem?_append] at h2
    split at h1
    ·rename_i hj
     rw[if_pos (by rw[q2.1];exact hj)] at h2
     exact q2.2 _ _ _ h1 h2
    ·rename_i hj
     rw[if_neg (by rw[q2.1];exact hj),q2.1] at h2
     exact n2.2 _ _ _ h1 h2
   by_cases hfit:len+xs.length<=capo
   ·
    have hroom:=hcc c0 t0 fr0 o1
    have hnfit:(φ id).2+off*ei.size+(len+xs.length)*ei.size<=c0.size:=by
     have:(off+(len+xs.length))*ei.size<=(off+capo)*ei.size:=Nat.mul_le_mul_right _ (by omega)
     rw[Nat.add_mul] at this
     omega
    have hnfit':(φ id).2+off*ei.size+len*ei.size+xs.length*ei.size<=c0.size:=by rw[Nat.add_mul] at hnfit;omega
    obtain⟨W',hrun,hB⟩:=fJ (P:=P) news W (φ id).1 ((φ id).2+off*ei.size+len*ei.size) 0 c0 t0 fr0 o1 o2 (by rw[hnl];omega) n5
    obtain⟨A,B⟩:=H.push (W':=W') (d:=some id) (B:=((φ id).1,(φ id).2+off*ei.size)) (sz:=ei.size) (es:=(es.drop off).take len++xs) (c:=wr c0 ((φ id).2+off*ei.size+len*ei.size+0) news) (t:=t0) (fr:=fr0)
     (.inr ⟨id,ei.size,es,c0,t0,fr0,rfl,hrow,rfl,o1,by rw[dp]⟩) hB.at_b (λb _ hne=>hB.other b hne) (by rw[hB.size];exact Nat.le_refl _) hB.os hB.tape hB.output (by rw[dp];exact o2) hall
     (by rw[dp,List.length_append,hlen];exact hnfit) (λj u hj=>by
       have hjl:=(List.getElem?_eq_some_iff.1 hj).1
       rw[aK hall,List.length_append,hlen] at hjl
       rw[sw _ _ _ (by rw[hnl];omega)]
       refine⟨List.all_eq_true.1 hcl u (List.mem_of_getElem? hj),?_⟩
       have hjo:j<(olds++news).length:=by rw[List.length_append,hol,hnl,←Nat.add_mul];exact hjl
       have hv:=List.getElem?_eq_getElem hjo
       refine⟨_,?_,hptw.2 _ _ _ hj hv⟩
       rw[←hv]
       have hjl':=hjl
       rw[Nat.add_mul] at hjl'
       by_cases hw:j<len*ei.size
       ·have hjol:j<olds.length:=by rw[hol];exact hw
        rw[List.getElem?_append_left hjol,if_neg (by omega)]
        rcases q1 with h0|⟨b,off',k1,k2⟩
        ·subst h0;simp at hw
        ·have:=k2 j _ (List.getElem?_eq_getElem hjol)
         have hlp:0<len:=Nat.pos_of_ne_zero λh0=>by subst h0;simp at hw
         rw[hb (by omega)] at k1
         cases k1
         simp only[World.cell?,o1] at this
         rw[List.getElem?_eq_getElem hjol]
         simpa using this
       ·rw[List.getElem?_append_right (by omega),if_pos (by omega),hol];congr 1;omega) rfl
    refine⟨.value (.slice ado (len+xs.length) capo),_,W',S,_,?_,.value _,?_,A,B⟩
    ·have hf:=kJ (P:=P) (W:=W) (cap:=cap) hnl n1
     rcases Nat.eq_zero_or_pos capo with h0|h0
     ·have hx0:xs.length=0:=by omega
      have hl0:len=0:=by omega
      have hn0:news=[]:=List.eq_nil_of_length_eq_zero (by rw[hnl,hx0];simp)
      subst hn0
      have hW:W'=W:=by simpa[storeCells,Sem.run] using hrun.symm
      rw[hW]
      cases ado with
      |none=>simp[execOp,ho,hc,ha,hat,hvs,hvx,resolve,invoke,builtin,Builtin.append_,run_underlying ht,sizeOf,typeInfo,hei,Builtin.lenOf,hf,hfit]
      |some bb=>simp[execOp,ho,hc,ha,hat,hvs,hvx,resolve,invoke,builtin,Builtin.append_,run_underlying ht,sizeOf,typeInfo,hei,Builtin.lenOf,hf,hfit,storeCells]
     ·rw[hb h0] at hvs⊢
      simp[execOp,ho,hc,ha,hat,hvs,hvx,resolve,invoke,builtin,Builtin.append_,run_underlying ht,sizeOf,typeInfo,hei,Builtin.lenOf,hf,hfit,cT,hrun]
    ·refine VRel.sl h.length ei.size 0 (len+xs.length) capo ado (by simp) hfit (λhp=>by rw[hb hp];simp[upd]) (λc t fr hc'=>?_)
     simp only[upd,if_true] at hc'⊢
     rw[hB.at_b] at hc';cases hc'
     rw[dp,Nat.zero_add]
     rw[Nat.add_mul] at hroom
     omega
   ·
    have hpos:0<xs.length:=by omega
    rcases n1 with h0|⟨b,offx,rfl,n1⟩
    ·omega
    have h63:((len+xs.length:Nat):Int)<=9223372036854775807:=by omega
    have hcap:=grownCap_ge W (len+xs.length) capo e
    have hfits:Builtin.nextslicecap (len+xs.length) capo*ei.bytes<=281474976710656:=growslice_fits (by omega) (by omega)
    have hf:=kJ (P:=P) (W:=W.drew) (cap:=cap) hnl (.inr ⟨b,offx,rfl,n1⟩)
    have hfo:=kJ (P:=P) (W:=W.drew) (size:=ei.size) (ad:=ado) (n:=len) (cap:=capo) (news:=olds) hol q1
    have hn:¬(len+xs.length<=capo):=hfit
    have h63':¬(9223372036854775807<((len:Int)+(xs.length:Int))):=by omega
    have h48':¬(281474976710656<Builtin.nextslicecap (len+xs.length) capo*ei.bytes):=by omega
    obtain⟨A,B⟩:=H.push (W':=W.drew.alloc (.cells (olds.toArray++(news.toArray++Builtin.zeroCells zv.cells (grownCap W (len+xs.length) capo e-(len+xs.length)))) e)) (d:=some id) (B:=(W.heap.size,0)) (sz:=ei.size) (es:=(es.drop off).take len++xs)
     (c:=olds.toArray++(news.toArray++Builtin.zeroCells zv.cells (grownCap W (len+xs.length) capo e-(len+xs.length)))) (t:=e) (fr:=(0,0)) (.inl (Nat.le_refl _)) (by show(W.heap.push _)[W.heap.size]?=_;simp)
     (λb' hb' _=>by show(W.heap.push _)[b']?=_;rw[Array.getElem?_push,if_neg (by omega)]) (by simp) rfl rfl rfl (by omega) hall
     (by simp only[Nat.zero_add,List.length_append,hlen,Array.size_append,List.size_toArray,hol,hnl,Nat.add_mul];omega) (λj u hj=>by
       have hjl:=(List.getElem?_eq_some_iff.1 hj).1
       rw[aK hall,List.length_append,hlen] at hjl
       refine⟨List.all_eq_true.1 hcl u (List.mem_of_getElem? hj),?_⟩
       have hjo:j<(olds++news).length:=by rw[List.length_append,hol,hnl,←Nat.add_mul];exact hjl
       have hv:=List.getElem?_eq_getElem hjo
       refine⟨_,?_,hptw.2 _ _ _ hj hv⟩
       rw[←hv,Nat.zero_add,←Array.append_assoc,Array.getElem?_append_left (by simpa using hjo)]
       simp) rfl
    refine⟨.value (.slice (some ⟨W.heap.size,0,none⟩) (len+xs.length) (grownCap W (len+xs.length) capo e)),_,_,S,_,?_,.value _,?_,A,B⟩
    ·simp[execOp,ho,hc,ha,hat,hvs,hvx,resolve,invoke,builtin,Builtin.append_,run_underlying ht,sizeOf,typeInfo,zeroValue,hei,hzr,Builtin.lenOf,hn,h63',h48',Question.forced,hf,hfo,newRow,grownCap,mO]
    ·refine VRel.sl h.length ei.size 0 (len+xs.length) (grownCap W (len+xs.length) capo e) _ (by simp) hcap (λhp=>by simp[upd]) (λc t fr hc'=>?_)
     simp only[upd,if_true] at hc'⊢
     have:(W.drew.alloc (.cells (olds.toArray++(news.toArray++Builtin.zeroCells zv.cells (grownCap W (len+xs.length) capo e-(len+xs.length)))) e)).heap[W.heap.size]?=some (.cells (olds.toArray++(news.toArray++Builtin.zeroCells zv.cells (grownCap W (len+xs.length) capo e-(len+xs.length)))) e):=by
      show(W.heap.push _)[W.heap.size]?=_;simp
     rw[this] at hc';cases hc'
     have hzs:zv.cells.size=ei.size:=by have:=z2.1;simp at this;omega
     simp only[Array.size_append,List.size_toArray,hol,hnl,Builtin.zeroCells,Array.size_map,Array.size_range,hzs,Nat.zero_add,←Nat.add_mul]
     exact Nat.mul_le_mul_right _ (by omega)
end
end Go.Aw
namespace Go.Aw
section
variable {P:Program} {G:az} {o:Oper} {ts:List AV} {h h':List AO} {av:AV}
theorem pn{W:World}{size:Nat}{ad:Option Addr}{m n cap:Nat}{news:List Value}(hl:news.length=m*size)
 (hc:m=0\/∃b off,ad=some ⟨b,off,none⟩/\∀(j:Nat) (v:Value),news[j]?=some v->W.cell? ⟨b,off+j,none⟩=some v):
 (Builtin.firstCells size m (.slice ad n cap)).run P W= .ok news.toArray W:=by
 rcases hc with rfl|⟨b,off,rfl,hc⟩
 ·have:news=[]:=List.eq_nil_of_length_eq_zero (by simpa using hl)
  subst this
  cases ad with
  |none=>simp[Builtin.firstCells]
  |some a=>simp[Builtin.firstCells,loadCells,loadCellsFrom]
 ·have:=run_firstCells_some (P:=P) W size m ⟨b,off,none⟩ m cap news hl λj v hj=>by rw[cT];exact hc j v hj
  simpa[Builtin.firstCells] using this
theorem HZ{c:Call}{t u e:TypeId}{d x:Operand}{d' x':AOp}{ei:TypeInfo}(ho:o.op= .call c)(hc:c.callee= .builtin .copy)(ha:c.args=#[d,x])(hat:c.argTypes=#[t,u])
 (ht:P.underlying t=some (.slice e))(hei:P.info? e=some ei)(hd:cop d=some d')(hx:cop x=some x')
 (he:ev G ts h (.copy ei.size d' x')=some (av,h')):Yld P G o ts h av h':=by
 simp only[ev] at he
 split at he<;>first|(cases he;done)|skip
 rename_i xs hxs
 intro W S φ a H T
 have hrd:=am hd T
 have hrx:=am hx T
 generalize hvd:a.eval d=vd at hrd
 generalize hvx:a.eval x=vx at hrx
 obtain⟨ad,cap,news,rfl,n1,n2,n3,n4,n5⟩:=kC H hrx hxs
 have hnl:news.length=xs.length*ei.size:=by rw[n2.1,aK n3]
 have run0:∀(ba:Option Addr) (len cap' m:Nat),vd= .slice ba len cap'->min xs.length len=0->(execOp a.eval o).run P W= .ok (.value (.int .i64 0)) W:=λba len cap' m hv hm=>by
  have hf:(Builtin.firstCells ei.size 0 (.slice ad xs.length cap)).run P W= .ok #[] W:=pn (news:=[]) (by simp) (.inl rfl)
  subst hv
  have hm':Nat.min xs.length len=0:=hm
  cases ba with
  |none=>simp[execOp,ho,hc,ha,hat,hvd,hvx,resolve,invoke,builtin,Builtin.copy_,run_underlying ht,sizeOf,typeInfo,hei,Builtin.lenOf,hm',hf,goInt]
  |some b=>simp[execOp,ho,hc,ha,hat,hvd,hvx,resolve,invoke,builtin,Builtin.copy_,run_underlying ht,sizeOf,typeInfo,hei,Builtin.lenOf,hm',hf,goInt,storeCells]
 split at he<;>first|(cases he;done)|skip
 ·rename_i e1
  rw[e1] at hrd
  cases hrd
  cases he
  exact⟨_,_,W,S,φ,run0 none 0 0 0 rfl (by simp),.value _,.p _ _ (.int _ _),H,Keep.refl H⟩
 ·rename_i id sz off len e1
  rw[e1] at hrd
  split at he<;>first|(cases he;done)|skip
  rename_i sz' es hrow
  split at he<;>first|(cases he;done)|skip
  rename_i hb
  cases he
  obtain⟨rfl,rfl,hle⟩:=hb
  obtain⟨c0,t0,fr0,o1,o2,o3,o4,o5⟩:=H.obj id ei.size es hrow
  cases hrd with
  |sl _ _ _ _ cap' ba hid hl hba hcc=>
   by_cases hm:min xs.length len=0
   ·have e0:es.take off++xs.take len++es.drop (off+min xs.length len)=es:=by
     have:xs.take len=[]:=List.eq_nil_of_length_eq_zero (by rw[List.length_take];omega)
     rw[this,hm];simp
    rw[e0,show h.set id (.row ei.size es)=h from by
     obtain⟨hi,e⟩:=List.getElem?_eq_some_iff.1 hrow
     rw[←e];simp]
    exact⟨_,_,W,S,φ,run0 ba len cap' 0 rfl hm,.value _,by rw[hm];exact .p _ _ (.int _ _),H,Keep.refl H⟩
   ·generalize hM:min xs.length len=M at*
    have hMl:M<=len:=by omega
    have hXl:(xs.take len).length=M:=by rw[List.length_take];omega
    have hX3:∀e∈xs.take len,e.length=ei.size:=λe he=>n3 e (List.mem_of_mem_take he)
    have hXf:(xs.take len).flatten=xs.flatten.take (len*ei.size):=iu n3 len
    have hNl:(news.take (len*ei.size)).length=M*ei.size:=by
     rw[List.length_take,hnl,←hM]
     rcases Nat.le_total len xs.length with hq|hq
     ·rw[Nat.min_eq_left (Nat.mul_le_mul_right _ hq),Nat.min_eq_right hq]
     ·rw[Nat.min_eq_right (Nat.mul_le_mul_right _ hq),Nat.min_eq_left hq]
    rw[hba (by omega)] at hvd
    have hoM:off*ei.size+M*ei.size<=es.length*ei.size:=by rw[←Nat.add_mul];exact Nat.mul_le_mul_right _ (by omega)
    obtain⟨W',hrun,hB⟩:=fJ (P:=P) (news.take (len*ei.size)) W (φ id).1 ((φ id).2+off*ei.size) 0 c0 t0 fr0 o1 o2 (by rw[hNl];omega) (λv hv=>n5 v (List.mem_of_mem_take hv))
    have hf:=pn (P:=P) (W:=W) (size:=ei.size) (ad:=ad) (m:=M) (n:=xs.length) (cap:=cap) (news:=news.take (len*ei.size)) hNl (by
     rcases n1 with h0|⟨b,of',k1,k2⟩
     ·omega
     ·exact .inr ⟨b,of',k1,λj v hj=>by
       rw[List.getElem?_take] at hj
       split at hj
       ·exact k2 j v hj
       ·cases hj⟩)
    have hall:∀e∈es.take off++xs.take len++es.drop (off+M),e.length=ei.size:=λe he=>by
     rcases List.mem_append.1 he with he|he
     ·rcases List.mem_append.1 he with he|he
      ·exact o3 e (List.mem_of_mem_take he)
      ·exact hX3 e he
     ·exact o3 e (List.mem_of_mem_drop he)
    have hlen:(es.take off++xs.take len++es.drop (off+M)).length=es.length:=by simp[hXl];omega
    have hfl:(es.take off++xs.take len++es.drop (off+M)).flatten=es.flatten.take (off*ei.size)++(xs.take len).flatten++es.flatten.drop ((off+M)*ei.size):=by
     rw[List.flatten_append,List.flatten_append,iu o3,lr o3]
    have hesl:=aK o3
    obtain⟨A,B⟩:=H.update (W':=W') (es':=es.take off++xs.take len++es.drop (off+M)) hrow o1 (by rw[dp]) hB (by rw[dp];exact o2) hall (by rw[dp,hlen];exact o4) (λj u hj=>by
     rw[sw _ _ _ (by rw[hNl];omega),hNl]
     rw[hfl,List.append_assoc,List.getElem?_append] at hj
     have htk:(es.flatten.take (off*ei.size)).length=off*ei.size:=by rw[List.length_take,hesl];omega
     have hXfl:(xs.take len).flatten.length=M*ei.size:=by rw[aK hX3,hXl]
     rw[htk] at hj
     split at hj
     ·rename_i hjl
      rw[List.getElem?_take,if_pos hjl] at hj
      rw[if_neg (by omega)]
      exact o5 j u hj
     ·rename_i hjl
      rw[List.getElem?_append,hXfl] at hj
      split at hj
      ·rename_i hj2
       rw[if_pos (by omega)]
       rw[hXf,List.getElem?_take] at hj
       split at hj
       ·rename_i hj3
        have hlt:j-off*ei.size<news.length:=by
         have:=(List.getElem?_eq_some_iff.1 hj).1
         rw[n2.1];exact this
        refine⟨List.all_eq_true.1 n4 u (List.mem_of_getElem? hj),news[j-off*ei.size],?_,n2.2 _ _ _ hj (List.getElem?_eq_getElem hlt)⟩
        rw[List.getElem?_take,if_pos (by omega),←List.getElem?_eq_getElem hlt]
        congr 1;omega
       ·cases hj
      ·rename_i hj2
       rw[if_neg (by omega)]
       rw[List.getElem?_drop,Nat.add_mul,show off*ei.size+M*ei.size+(j-off*ei.size-M*ei.size)=j by omega] at hj
       exact o5 j u hj)
    refine⟨.value (.int .i64 M),_,W',S,φ,?_,.value _,.p _ _ (.int _ _),A,B⟩
    have hM':Nat.min xs.length len=M:=hM
    rw[Nat.add_zero] at*
    simp[execOp,ho,hc,ha,hat,hvd,hvx,resolve,invoke,builtin,Builtin.copy_,run_underlying ht,sizeOf,typeInfo,hei,Builtin.lenOf,hM',hf,goInt,hrun]
theorem ti:∀{xs:List (List AV)} {l:List UInt8},pg xs=some l->∃ns:List Int,xs=ns.map (λn=>[AV.p (.int .u8 n)])/\l=ns.map λn=>UInt8.ofNat n.toNat
 |[],l,h=>by cases h;exact⟨[],rfl,rfl⟩
 |x::r,l,h=>by
  unfold pg at h
  split at h<;>first|(cases h;done)|skip
  ·rename_i e;cases e
  ·rename_i n r' e
   cases e
   rw[Option.map_eq_some_iff] at h
   obtain⟨l',h1,rfl⟩:=h
   obtain⟨ns,rfl,rfl⟩:=ti h1
   exact⟨n::ns,rfl,rfl⟩
theorem Cp(ns:List Int):∀s:ByteArray,ns.foldl (λr n=>r.push (UInt8.ofNat n.toNat)) s=⟨s.data++(ns.map λn=>UInt8.ofNat n.toNat).toArray⟩:=by
 induction ns with
 |nil=>intro s;simp
 |cons n r ih=>intro s;rw[List.foldl_cons,ih];simp[ByteArray.push]
theorem rr:∀ns:List Int,(ns.map (λn=>[AV.p (.int .u8 n)])).flatten=ns.map λn=>AV.p (.int .u8 n)
 |[]=>rfl
 |n::r=>by simp[←rr r]
theorem Hw{x:Operand}{x':AOp}{s d e:TypeId}(ho:o.op= .convert s d x)(hs:P.underlying s=some (.slice e))(hee:P.underlying e=some (.int .u8))(hd:P.underlying d=some .string)(hx:cop x=some x')
 (he:ev G ts h (.btos x')=some (av,h')):Yld P G o ts h av h':=by
 simp only[ev] at he
 split at he<;>first|(cases he;done)|skip
 rename_i xs hxs
 rw[Option.map_eq_some_iff] at he
 obtain⟨l,hl,he⟩:=he
 cases he
 refine .of_same λW S φ a H T=>?_
 have hrx:=am hx T
 generalize hvx:a.eval x=vx at hrx
 obtain⟨ad,cap,news,rfl,n1,n2,n3,n4,n5⟩:=kC H hrx hxs
 obtain⟨ns,rfl,rfl⟩:=ti hl
 rw[rr] at n2
 have hnews:news=ns.map (Value.int .u8):=by
  refine List.ext_getElem? λj=>?_
  have hlen:=n2.1
  simp only[List.length_map] at hlen
  rw[List.getElem?_map]
  cases hj:ns[j]? with
  |none=>rw[List.getElem?_eq_none_iff] at hj;simp;omega
  |some n=>
   have hjl:=(List.getElem?_eq_some_iff.1 hj).1
   have:=n2.2 j (.p (.int .u8 n)) _ (by rw[List.getElem?_map,hj];rfl) (List.getElem?_eq_getElem (by omega:j<news.length))
   rw[List.getElem?_eq_getElem (by omega),bU this];rfl
 have hconv:=run_convert_bytes_string (P:=P) W s d e ad (ns.map λn=>[AV.p (.int .u8 n)]).length cap hs hee hd
 cases ad with
 |none=>
  have:ns=[]:=by
   rcases n1 with h0|⟨b,off,k,_⟩
   ·simpa using h0
   ·cases k
  subst this
  refine⟨.string ⟨⟨[]⟩⟩,?_,.p _ _ (.str _)⟩
  simp only[execOp,ho,hvx]
  simp only[Sem.run_map,Sem.run_bind,hconv,Conv.bytesToString]
  rfl
 |some b=>
  have hlc:(loadCells b (ns.map λn=>[AV.p (.int .u8 n)]).length).run P W= .ok (ns.map (Value.int .u8)).toArray W:=by
   rw[←hnews]
   have:=pn (P:=P) (W:=W) (size:=1) (ad:=some b) (m:=(ns.map λn=>[AV.p (.int .u8 n)]).length) (n:=0) (cap:=0) (news:=news) (by rw[hnews];simp) n1
   simpa[Builtin.firstCells] using this
  have h2:=run_bytesToString (P:=P) W b (ns.map λn=>[AV.p (.int .u8 n)]).length cap ns hlc
  refine⟨.string ⟨⟨ns.map λn=>UInt8.ofNat n.toNat⟩⟩,?_,.p _ _ (.str _)⟩
  rw[Cp] at h2
  simp only[execOp,ho,hvx]
  simp only[Sem.run_map,Sem.run_bind,hconv,h2]
  rw[show(ByteArray.empty).data++(ns.map λn=>UInt8.ofNat n.toNat).toArray=⟨ns.map λn=>UInt8.ofNat n.toNat⟩ from by simp[ByteArray.empty,ByteArray.emptyWithCapacity];rfl]
  rfl
theorem yO{W:World}{S:Nat->Prop}{φ:au}(H:HRel G W S φ h){ob:Obj}{ao:AO}(hr:∀sz es,ao≠ .row sz es)(hc:∀c t fr,ob≠ .cells c t fr)(ho:∀R,ORel R ao (some ob)):
 HRel G (W.alloc ob) S (upd φ h.length (W.heap.size,0)) (h++[ao])/\Keep W S φ h (W.alloc ob) S (upd φ h.length (W.heap.size,0)) (h++[ao]):=by
 have hold:∀b,b<W.heap.size->(W.alloc ob).heap[b]?=W.heap[b]?:=λb hb=>by
  show(W.heap.push _)[b]?=_
  rw[Array.getElem?_push,if_neg (by omega)]
 have hnew:(W.alloc ob).heap[W.heap.size]?=some ob:=by show(W.heap.push _)[W.heap.size]?=_;simp
 have hs:W.heap.size<(W.alloc ob).heap.size:=by show _<(W.heap.push _).size;simp
 have hφ:∀{i},i<h.length->upd φ h.length (W.heap.size,0) i=φ i:=λhi=>by simp only[upd];rw[if_neg (by omega)]
 have hφn:upd φ h.length (W.heap.size,0) h.length=(W.heap.size,0):=by simp[upd]
 have hget:∀{i o},(h++[ao])[i]?=some o->(i=h.length/\o=ao)\/(i<h.length/\h[i]?=some o):=λ{i o} e=>by
  rcases Nat.lt_trichotomy i h.length with hi|hi|hi
  ·rw[List.getElem?_append_left hi] at e;exact .inr ⟨hi,e⟩
  ·subst hi;simp at e;exact .inl ⟨rfl,e.symm⟩
  ·rw[List.getElem?_eq_none (by simp;omega)] at e;cases e
 have K:Kept W S φ h.length (W.alloc ob) S (upd φ h.length (W.heap.size,0)) (h++[ao]).length:=
  {pure:=λb hb=>⟨hb,hold b (H.sep b hb).1⟩
   len:=by simp
   same:=λid hid=>hφ hid
   blk:=λi hi c t fr e=>⟨c,t,fr,by rw[←hold _ (H.bnd i hi)];exact e,rfl⟩}
 refine⟨⟨λid sz es e=>?_,λid o e lo=>?_,λid id' ⟨o1,e1,l1⟩ ⟨o2,e2,l2⟩ he=>?_,λb hb=>⟨Nat.lt_of_lt_of_le (H.sep b hb).1 (Nat.le_of_lt hs),λid ⟨o,e,l⟩ he=>?_⟩,λid hid=>?_,λg cs hg=>?_⟩,
  {K with os:=rfl,tape:=rfl,output:=rfl,size:=Nat.le_of_lt hs,out:=λb hb _=>hold b hb,img:=λid ⟨o,e,l⟩=>?_,newS:=λb hb=> .inl hb}⟩
 ·rcases hget e with⟨rfl,e'⟩|⟨hi,e'⟩
  ·exact(hr _ _ e'.symm).elim
  ·obtain⟨c,t,fr,a1,a2,a3,a4,a5⟩:=H.obj id sz es e'
   refine⟨c,t,fr,by rw[hφ hi,hold _ (H.bnd id hi)];exact a1,a2,a3,by rw[hφ hi];exact a4,λj u hj=>?_⟩
   obtain⟨b1,v,b2,b3⟩:=a5 j u hj
   exact⟨b1,v,by rw[hφ hi];exact b2,b3.kept K⟩
 ·rcases hget e with⟨rfl,rfl⟩|⟨hi,e'⟩
  ·rw[hφn,hnew];exact ho _
  ·rw[hφ hi,hold _ (H.bnd id hi)]
   exact(H.oobj id o e' lo).mono λa v r=>r.kept K
 ·rcases hget e1 with⟨rfl,_⟩|⟨hi,e1'⟩<;>rcases hget e2 with⟨rfl,_⟩|⟨hi',e2'⟩
  ·rfl
  ·rw[hφn,hφ hi'] at he;have:=H.bnd _ hi';simp only at he;omega
  ·rw[hφn,hφ hi] at he;have:=H.bnd _ hi;simp only at he;omega
  ·rw[hφ hi,hφ hi'] at he;exact H.inj _ _ ⟨_,e1',l1⟩ ⟨_,e2',l2⟩ he
 ·rcases hget e with⟨rfl,_⟩|⟨hi,e'⟩
  ·rw[hφn] at he;have:=(H.sep b hb).1;simp only at he;omega
  ·rw[hφ hi] at he;exact(H.sep b hb).2 _ ⟨_,e',l⟩ he
 ·rcases Nat.lt_or_ge id h.length with hi|hi
  ·rw[hφ hi];exact Nat.lt_trans (H.bnd _ hi) hs
  ·have:id=h.length:=by simp at hid;omega
   subst this
   rw[hφn];exact hs
 ·obtain⟨g1,g2⟩:=H.glob g cs hg
  refine⟨g1,λj c hj=>?_⟩
  obtain⟨v,k1,k2⟩:=g2 j c hj
  exact⟨v,by rw[aW (K.pure g g1).2];exact k1,k2.mono K.pure⟩
 ·rcases hget e with⟨rfl,_⟩|⟨hi,e'⟩
  ·rw[hφn];exact .inl (Nat.le_refl _)
  ·rw[hφ hi];exact .inr ⟨id,⟨_,e',l⟩,rfl⟩
def World.withObj(W:World)(b:Nat)(ob:Obj):World:={W with heap:=W.heap.setIfInBounds b ob}
theorem zI{W:World}{S:Nat->Prop}{φ:au}(H:HRel G W S φ h){id:Nat}{ob:Obj}{ao ao':AO}(hid:h[id]?=some ao)(lo:ao.live)(hr:∀sz es,ao'≠ .row sz es)(lo':ao'.live)(hc:∀c t fr,ob≠ .cells c t fr)
 (ho:ORel (VRel W S φ h.length) ao' (some ob)):
 HRel G (World.withObj W (φ id).1 ob) S φ (h.set id ao')/\Keep W S φ h (World.withObj W (φ id).1 ob) S φ (h.set id ao'):=by
 have hidl:id<h.length:=H.lt hid
 have hlv:Live h id:=⟨_,hid,lo⟩
 have hb:=H.bnd id hidl
 have hat:(World.withObj W (φ id).1 ob).heap[(φ id).1]?=some ob:=by simp[World.withObj,hb]
 have hoth:∀b,b≠(φ id).1->(World.withObj W (φ id).1 ob).heap[b]?=W.heap[b]?:=λb hb=>by simp[World.withObj,Array.getElem?_setIfInBounds_ne (Ne.symm hb)]
 have hsz:(World.withObj W (φ id).1 ob).heap.size=W.heap.size:=by simp[World.withObj]
 have hget:∀{i o},(h.set id ao')[i]?=some o->(i=id/\o=ao')\/(i≠id/\h[i]?=some o):=λ{i o} e=>by
  by_cases hi:i=id
  ·subst hi;rw[List.getElem?_set_self hidl] at e;cases e;exact .inl ⟨rfl,rfl⟩
  ·rw[List.getElem?_set_ne (Ne.symm hi)] at e;exact .inr ⟨hi,e⟩
 have hlive:∀{i},Live (h.set id ao') i->Live h i:=λ⟨o,e,l⟩=>by
  rcases hget e with⟨rfl,_⟩|⟨_,e'⟩
  ·exact hlv
  ·exact⟨_,e',l⟩
 have K:Kept W S φ h.length (World.withObj W (φ id).1 ob) S φ (h.set id ao').length:=
  {pure:=λb hb'=>⟨hb',hoth b λe=>(H.sep b hb').2 _ hlv e.symm⟩
   len:=by simp
   same:=λ_ _=>rfl
   blk:=λi hi c' t' fr' e=>by
    by_cases hb:(φ i).1=(φ id).1
    ·rw[hb,hat] at e;cases e;exact(hc _ _ _ rfl).elim
    ·rw[hoth _ hb] at e;exact⟨c',t',fr',e,rfl⟩}
 refine⟨⟨λi s es1 e=>?_,λi o1 e l1=>?_,λi i' e1 e2 he=>H.inj _ _ (hlive e1) (hlive e2) he,λb hb'=>⟨by have:=(H.sep b hb').1;rw[hsz];exact this,λi e he=>(H.sep b hb').2 _ (hlive e) he⟩,λi hi=>by rw[hsz];exact H.bnd i (by simpa using hi),λg cs hg=>?_⟩,
  {K with os:=rfl,tape:=rfl,output:=rfl,size:=by rw[hsz];exact Nat.le_refl _,out:=λb hb' hn=>hoth b (λe=>hn id hlv e.symm),img:=λi e=> .inr ⟨i,hlive e,rfl⟩,newS:=λb hb'=> .inl hb'}⟩
 ·rcases hget e with⟨rfl,e'⟩|⟨hi,e'⟩
  ·exact(hr _ _ e'.symm).elim
  ·obtain⟨c1,t1,fr1,a1,a2,a3,a4,a5⟩:=H.obj i s es1 e'
   refine⟨c1,t1,fr1,by rw[hoth _ (λhe=>hi (H.inj _ _ (bD e') hlv he))];exact a1,a2,a3,a4,λj a hj=>?_⟩
   obtain⟨b1,v,b2,b3⟩:=a5 j a hj
   exact⟨b1,v,b2,b3.kept K⟩
 ·rcases hget e with⟨rfl,rfl⟩|⟨hi,e'⟩
  ·rw[hat];exact ho.mono λa v r=>r.kept K
  ·rw[hoth _ (λhe=>hi (H.inj _ _ ⟨_,e',l1⟩ hlv he))]
   exact(H.oobj i o1 e' l1).mono λa v r=>r.kept K
 ·obtain⟨g1,g2⟩:=H.glob g cs hg
  refine⟨g1,λj c' hj=>?_⟩
  obtain⟨v,k1,k2⟩:=g2 j c' hj
  exact⟨v,by rw[aW (K.pure g g1).2];exact k1,k2.mono K.pure⟩
theorem IZ{t:TypeId}(ho:o.op= .makeMap t none)(he:ev G ts h .mkm=some (av,h')):Yld P G o ts h av h':=by
 cases he
 intro W S φ a H T
 obtain⟨A,B⟩:=yO H (ob:= .map #[] 0) (ao:= .mp []) (λ_ _ e=>by cases e) (λ_ _ _ e=>by cases e) (λR=>⟨#[],0,rfl,rfl,λj k a e=>by simp at e,λj e h=>by simp at h,λi j e e' h=>by simp at h⟩)
 refine⟨.value (.map (some W.heap.size)),_,_,S,_,?_,.value _,?_,A,B⟩
 ·simp[execOp,ho,Instr.makeMap]
 ·have:=VRel.mp (W:=W.alloc (.map #[] 0)) (S:=S) (φ:=upd φ h.length (W.heap.size,0)) (n:=(h++[AO.mp []]).length) h.length (by simp)
  simpa[upd] using this
def iM:TypeDesc->Option Nat
 | .int _=>some 0
 | .string=>some 1
 | .bool=>some 2
 |_=>none
theorem mu{kind:TypeDesc}{kv k':PV}{b:Bool}{v v':Value}(hk:iM kind=some (eb kv))(h:keq kv k'=some b)(hv:vg kv=some v)(hv':vg k'=some v'):Instr.sameNow kind v v'=some b/\(b=true->v=v'):=by
 cases kv<;>cases k'<;>simp only[keq] at h<;>first|(cases h;done)|skip
 ·cases hv;cases hv';cases h
  cases kind<;>simp[iM,eb] at hk
  refine⟨?_,λh=>by simp at h;rw[h]⟩
  simp only[Instr.sameNow]
  exact congrArg some (js _ _)
 ·rename_i k1 n1 k2 n2
  split at h<;>first|(cases h;done)|skip
  rename_i e
  cases hv;cases hv';cases h;subst e
  cases kind<;>simp[iM,eb] at hk
  refine⟨by simp[Instr.sameNow,js],λh=>by simp at h;rw[h]⟩
 ·rename_i s1 s2
  cases hv;cases hv';cases h
  cases kind<;>simp[iM,eb] at hk
  refine⟨?_,λh=>by simp at h;rw[h]⟩
  simp only[Instr.sameNow]
  congr 1
  rw[Bool.eq_iff_iff,beq_toListBytes,ByteArray.toList_eq,ByteArray.toList_eq]
  simp
theorem uX{kind:TypeDesc}{kv:PV}{v:Value}(hk:iM kind=some (eb kv))(hv:vg kv=some v){R:AV->Value->Prop}:∀(es:List (PV × AV)) (el:List MapEntry) (i:Nat),el.length=es.length->
 (∀(j:Nat) (k:PV) (a:AV),es[j]?=some (k,a)->∃e,el[j]?=some e/\vg k=some e.key/\R a e.val)->
 (∀r,bB kv es=some r->(r=none/\Instr.findNow kind v el i=some none/\∀w,eA kv w es=some (es++[(kv,w)]))\/
   ∃j k a e,r=some a/\es[j]?=some (k,a)/\el[j]?=some e/\e.key=v/\R a e.val/\Instr.findNow kind v el i=some (some (i+j,e.val))/\∀w,eA kv w es=some (es.set j (k,w)))/\
 (bB kv es=none->∀w,eA kv w es=none)
 |[],el,i,hl,_=>by
  have:el=[]:=List.eq_nil_of_length_eq_zero hl
  subst this
  exact⟨λr h=>by cases h;exact .inl ⟨rfl,rfl,λw=>rfl⟩,λh=>by cases h⟩
 |(k',a')::es,el,i,hl,hr=>by
  match el,hl with
  |e::el,hl=>
   obtain⟨e0,h1,h2,h3⟩:=hr 0 k' a' rfl
   cases h1
   cases hq:keq kv k' with
   |none=>exact⟨λr h=>by simp[bB,hq] at h,λ_ w=>by simp[eA,hq]⟩
   |some b=>
    obtain⟨q1,q2⟩:=mu hk hq hv h2
    cases b with
    |true=>
     refine⟨λr h=> .inr ⟨0,k',a',e,?_,rfl,rfl,(q2 rfl).symm,h3,by simp[Instr.findNow,q1],λw=>by simp[eA,hq]⟩,λh=>by simp[bB,hq] at h⟩
     simp[bB,hq] at h;exact h.symm
    |false=>
     obtain⟨ih1,ih2⟩:=uX hk hv es el (i+1) (by simpa using hl) (λj k a h=>hr (j+1) k a h)
     refine⟨λr h=>?_,λh w=>by simp only[bB,hq] at h;simp[eA,hq,ih2 h w]⟩
     simp only[bB,hq] at h
     rcases ih1 r h with⟨g1,g2,g3⟩|⟨j,k,a,e1,g1,g2,g3,g4,g5,g6,g7⟩
     ·exact .inl ⟨g1,by simp[Instr.findNow,q1,g2],λw=>by simp[eA,hq,g3]⟩
     ·exact .inr ⟨j+1,k,a,e1,g1,g2,g3,g4,g5,by simp[Instr.findNow,q1,g6];omega,λw=>by simp[eA,hq,g7]⟩
theorem AY{kv:PV}:∀(ks:List PV) (vs:List (List PV)) (r:Option AV),vs.length=ks.length->(ks.all λk'=>(keq kv k').isSome)=true->bB kv (Ja ks vs)=some r->
 (r=none/\∀k∈ks,keq kv k=some false)\/∃(j:Nat) (k:PV) (cs:List PV),ks[j]?=some k/\vs[j]?=some cs/\keq kv k=some true/\r=some (tU cs)
 |[],vs,r,hl,_,h=>by
  have:vs=[]:=List.eq_nil_of_length_eq_zero hl
  subst this
  simp[Ja,bB] at h
  exact .inl ⟨h.symm,λk hk=>by cases hk⟩
 |k::ks,[],r,hl,_,h=>by simp at hl
 |k::ks,cs::vs,r,hl,ha,h=>by
  rw[List.all_cons,Bool.and_eq_true] at ha
  simp only[Ja,List.zipWith_cons_cons,bB] at h
  cases hq:keq kv k with
  |none=>rw[hq] at ha;simp at ha
  |some b=>
   rw[hq] at h
   cases b with
   |true=>
    simp only[Option.some.injEq] at h
    exact .inr ⟨0,k,cs,rfl,rfl,hq,h.symm⟩
   |false=>
    rcases AY ks vs r (by simpa using hl) ha.2 h with⟨h1,h2⟩|⟨j,k',cs',h1,h2,h3,h4⟩
    ·exact .inl ⟨h1,λx hx=>by
      rcases List.mem_cons.1 hx with rfl|hx
      ·exact hq
      ·exact h2 x hx⟩
    ·exact .inr ⟨j+1,k',cs',h1,h2,h3,h4⟩
theorem DW{kind:TypeDesc}{v:Value}:∀(el:List MapEntry) (s:Nat),(∀e∈el,Instr.sameNow kind v e.key=some false)->Instr.findNow kind v el s=some none
 |[],s,_=>rfl
 |e::el,s,h=>by simp[Instr.findNow,h e (by simp),DW el (s+1) λx hx=>h x (by simp[hx])]
theorem Bs{kind:TypeDesc}{v:Value}:∀(el:List MapEntry) (s i:Nat) (e:MapEntry),el[i]?=some e->Instr.sameNow kind v e.key=some true->(∀i' e',i'≠i->el[i']?=some e'->Instr.sameNow kind v e'.key=some false)->Instr.findNow kind v el s=some (some (s+i,e.val))
 |[],s,i,e,h,_,_=>by simp at h
 |x::el,s,0,e,h,h1,_=>by
  simp at h;subst h
  simp[Instr.findNow,h1]
 |x::el,s,i+1,e,h,h1,h2=>by
  have h0:=h2 0 x (by omega) rfl
  have ih:=Bs el (s+1) i e (by simpa using h) h1 λi' e' hi he=>h2 (i'+1) e' (by omega) (by simpa using he)
  simp[Instr.findNow,h0,ih];omega
theorem BX{W:World}{S:Nat->Prop}{φ:au}{n:Nat}{cs:List PV}{f:Nat->Value}(h:∀(i:Nat) (c:PV),cs[i]?=some c->PRel W S c (f i)):VRel W S φ n (tU cs) (Ab cs.length f):=by
 have gen:∀cs:List PV,cs.length≠1->(∀(i:Nat) (c:PV),cs[i]?=some c->PRel W S c (f i))->VRel W S φ n (.agg (cs.map .p)) (Ab cs.length f):=λcs hl h=>by
  rw[Ab,if_neg hl]
  refine .agg _ _ (by simp) λj c v e1 e2=>?_
  rw[List.getElem?_map,Option.map_eq_some_iff] at e1
  obtain⟨x,hx,rfl⟩:=e1
  have hj:=(List.getElem?_eq_some_iff.1 hx).1
  have e3:f j=v:=by simpa[hj] using e2
  subst e3
  exact .p _ _ (h j x hx)
 match cs,h with
 |[c],h=>exact .p _ _ (h 0 c rfl)
 |[],h=>exact gen [] (by simp) h
 |a::b::r,h=>exact gen (a::b::r) (by simp) h
theorem nB{W:World}{kt:TypeId}{kind:TypeDesc}{kd:Nat}(hu:P.underlying kt=some kind)(hk:iM kind=some kd)(b:Bool)(v:Value):(Instr.checkKey b 10000 kt v).run P W= .ok () W:=by
 have key:∀n,(Instr.checkKey b (n+1) kt v).run P W= .ok () W:=λn=>by
  cases kind<;>simp[iM] at hk<;>simp[Instr.checkKey,run_underlying hu]
 exact key 9999
theorem Ay{W:World}{S:Nat->Prop}{φ:au}{n:Nat}{kv:PV}{x:Value}{kind:TypeDesc}(hk:iM kind=some (eb kv))(h:VRel W S φ n (.p kv) x):vg kv=some x:=by
 cases kb h with
 |bool b=>rfl
 |int k n=>rfl
 |str s=>rfl
 |lst0 sz a c=>cases kind<;>simp[iM,eb] at hk
 |lst sz es b off cap vs _ _ _ _ _=>cases kind<;>simp[iM,eb] at hk
 |tbl ks vs b clock ents cv _ _ _ _ _ _ _=>cases kind<;>simp[iM,eb] at hk
def Aa(P:Program)(t:TypeId):Option AV:=
 match P.info? t with
 |some i=>i.zero.bind cv
 |none=>none
theorem Dy{t:TypeId}{z:AV}(hz:Aa P t=some z)(W:World)(S:Nat->Prop)(φ:au)(n:Nat):∃zv,(zeroValue t).run P W= .ok zv W/\VRel W S φ n z zv:=by
 unfold Aa at hz
 split at hz<;>first|(cases hz;done)|skip
 rename_i i hi
 rw[Option.bind_eq_some_iff] at hz
 obtain⟨zv,h1,h2⟩:=hz
 exact⟨zv,by simp[zeroValue,typeInfo,hi,h1],Cq h2⟩
theorem Kz{t kt et:TypeId}{kind:TypeDesc}{kd:Nat}{z:AV}{m k:Operand}{m' k':AOp}{comma:Bool}(ho:o.op= .lookup t m k comma)(ht:P.underlying t=some (.map kt et))(hkt:P.underlying kt=some kind)(hkd:iM kind=some kd)
 (hz:Aa P et=some z)(hm:cop m=some m')(hk:cop k=some k')(he:ev G ts h (.lk kd z comma m' k')=some (av,h')):Yld P G o ts h av h':=by
 simp only[ev] at he
 split at he<;>first|(cases he;done)|skip
 rename_i kv ek
 split at he<;>first|(cases he;done)|skip
 rename_i hkk
 subst hkk
 suffices hs:∀(W:World) (S:Nat->Prop) (φ:au) (a:Act),HRel G W S φ h->TRel W S φ h.length ts a.tmps->∃v b r,(Instr.lookup t (a.eval m) (a.eval k) comma).run P W= .ok (if comma then .tuple #[v,.bool b] else v) W/\h'=h/\
  VRel W S φ h.length r v/\av=(if comma then .tup [r,.p (.bool b)] else r) by
  intro W S φ a H T
  obtain⟨v,b,r,h1,rfl,h3,rfl⟩:=hs W S φ a H T
  refine⟨.value (if comma then .tuple #[v,.bool b] else v),_,W,S,φ,?_,.value _,?_,H,Keep.refl H⟩
  ·simp[execOp,ho,h1]
  ·cases comma with
   |false=>exact h3
   |true=>
    refine .tup _ _ rfl λj c x e1 e2=>?_
    match j,e1,e2 with
    |0,e1,e2=>cases e1;cases e2;exact h3
    |1,e1,e2=>cases e1;cases e2;exact .p _ _ (.bool _)
    |j+2,e1,e2=>simp at e1
 intro W S φ a H T
 have hrk:=am hk T
 have hrm:=am hm T
 rw[ek] at hrk
 have hkey:=Ay hkd hrk
 obtain⟨zv,z1,z2⟩:=Dy hz W S φ h.length
 generalize a.eval k=vk at*
 generalize a.eval m=vm at*
 split at he<;>first|(cases he;done)|skip
 ·rename_i id em
  rw[em] at hrm
  split at he<;>first|(cases he;done)|skip
  rename_i es hes
  rw[Option.map_eq_some_iff] at he
  obtain⟨r,hr,he⟩:=he
  cases he
  obtain⟨ents,clock,a1,a2⟩:=H.oobj id _ hes trivial
  cases hrm with
  |mp _ hid=>
   have hg:(getObj (φ id).1).run P W= .ok (.map ents clock) W:=MapKept.run_getObj_map a1
   have hck:=nB (P:=P) (W:=W) hkt hkd
   rcases(uX hkd hkey es ents.toList 0 (by simpa using a2.1) (λj k a e=>by simpa using a2.2.1 j k a e)).1 r hr with⟨rfl,g2,_⟩|⟨j,k0,a0,e0,rfl,g2,g3,g4,g5,g6,_⟩
   ·refine⟨zv,false,z,?_,rfl,z2,by cases comma<;>rfl⟩
    cases comma<;>simp[Instr.lookup,run_underlying ht,hg,hck,Instr.findKey,run_underlying hkt,g2,z1]
   ·refine⟨e0.val,true,a0,?_,rfl,g5,by cases comma<;>rfl⟩
    cases comma<;>simp[Instr.lookup,run_underlying ht,hg,hck,Instr.findKey,run_underlying hkt,g6]
 ·rename_i em
  rw[em] at hrm
  cases hrm
  cases he
  have hck:=nB (P:=P) (W:=W) hkt hkd
  refine⟨zv,false,z,?_,rfl,z2,by cases comma<;>rfl⟩
  cases comma<;>simp[Instr.lookup,run_underlying ht,hck,Instr.findKey,run_underlying hkt,Instr.findNow,z1]
 ·rename_i ks vs em
  rw[em] at hrm
  split at he<;>first|(cases he;done)|skip
  rename_i hall
  rw[Option.map_eq_some_iff] at he
  obtain⟨r,hr,he⟩:=he
  cases he
  cases kb hrm with
  |tbl _ _ b clock ents cv hb hmp hl h1 h2 h3 h4=>
   have hg:(getObj b).run P W= .ok (.map ents clock) W:=MapKept.run_getObj_map hmp
   have hck:=nB (P:=P) (W:=W) hkt hkd
   have hcmp:∀(i:Nat) (e:MapEntry),ents[i]?=some e->∃k b,k∈ks/\vg k=some e.key/\keq kv k=some b/\Instr.sameNow kind vk e.key=some b/\(b=true->vk=e.key):=λi e he=>by
    obtain⟨k,hk1,hk2⟩:=h2 i e he
    have:=List.all_eq_true.1 hall k hk1
    cases hq:keq kv k with
    |none=>rw[hq] at this;cases this
    |some b=>
     obtain⟨q1,q2⟩:=mu hkd hq hkey hk2
     exact⟨k,b,hk1,hk2,hq,q1,q2⟩
   rcases AY ks vs r hl hall hr with⟨rfl,g2⟩|⟨j,k,cs,g1,g2,g3,rfl⟩
   ·have hf:Instr.findNow kind vk ents.toList 0=some none:=DW _ _ λe he=>by
     obtain⟨i,hi⟩:=List.getElem?_of_mem he
     obtain⟨k,b,k1,k2,k3,k4,_⟩:=hcmp i e (by simpa using hi)
     rw[g2 k k1] at k3;cases k3;exact k4
    refine⟨zv,false,z,?_,rfl,z2,by cases comma<;>rfl⟩
    cases comma<;>simp[Instr.lookup,run_underlying ht,hg,hck,Instr.findKey,run_underlying hkt,hf,z1]
   ·obtain⟨i,e,e1,e2,e3⟩:=h1 j k cs g1 g2
    obtain⟨q1,q2⟩:=mu hkd g3 hkey e2
    have hf:Instr.findNow kind vk ents.toList 0=some (some (0+i,e.val)):=Bs _ _ _ _ (by simpa using e1) q1 λi' e' hne he=>by
     obtain⟨k',b,k1,k2,k3,k4,k5⟩:=hcmp i' e' (by simpa using he)
     cases b with
     |false=>exact k4
     |true=>exact absurd (h3 i' i e' e (by simpa using he) e1 (by rw[←k5 rfl,←q2 rfl])) hne
    refine⟨e.val,true,tU cs,?_,rfl,by rw[e3];exact BX λi c hc=>h4 j i cs c g2 hc,by cases comma<;>rfl⟩
    cases comma<;>simp[Instr.lookup,run_underlying ht,hg,hck,Instr.findKey,run_underlying hkt,hf]
theorem zT{kv:PV}{v:Value}(h:vg kv=some v)(n:Nat):Instr.sameBits (n+1) v v=true:=by
 cases kv<;>simp[vg] at h<;>subst h<;>simp only[Instr.sameBits]
 ·simp
 ·simp
 ·rw[beq_toListBytes];simp
theorem DP{t kt et:TypeId}{kind:TypeDesc}{kd:Nat}{m k x:Operand}{m' k' x':AOp}(ho:o.op= .mapUpdate t m k x\/o.op= .insert t m k x)(ht:P.underlying t=some (.map kt et))(hkt:P.underlying kt=some kind)(hkd:iM kind=some kd)
 (hm:cop m=some m')(hk:cop k=some k')(hx:cop x=some x')(he:ev G ts h (.mup kd m' k' x')=some (av,h')):Yld P G o ts h av h':=by
 simp only[ev] at he
 split at he<;>first|(cases he;done)|skip
 rename_i kv ek
 split at he<;>first|(cases he;done)|skip
 rename_i hkk
 subst hkk
 split at he<;>first|(cases he;done)|skip
 rename_i id em
 split at he<;>first|(cases he;done)|skip
 rename_i es hes
 rw[Option.map_eq_some_iff] at he
 obtain⟨es',hes',he⟩:=he
 cases he
 intro W S φ a H T
 have hrk:=am hk T
 have hrm:=am hm T
 have hrx:=am hx T
 rw[ek] at hrk
 rw[em] at hrm
 have hkey:=Ay hkd hrk
 have hrun:∀W',(Instr.mapUpdate t (a.eval m) (a.eval k) (a.eval x)).run P W= .ok () W'->(execOp a.eval o).run P W= .ok .skip W':=λW' e=>by
  rcases ho with ho|ho<;>simp[execOp,ho,e]
 generalize a.eval k=vk at*
 generalize a.eval m=vm at*
 generalize a.eval x=vx at*
 obtain⟨ents,clock,a1,a2,a3,a4,a5⟩:=H.oobj id _ hes trivial
 cases hrm with
 |mp _ hid=>
  have hg:(getObj (φ id).1).run P W= .ok (.map ents clock) W:=MapKept.run_getObj_map a1
  have hck:=nB (P:=P) (W:=W) hkt hkd
  have hset:∀ob,(setObj (φ id).1 ob).run P W= .ok () (World.withObj W (φ id).1 ob):=λob=>by simp[setObj,Sem.run,a1,World.withObj]
  obtain⟨f1,f2⟩:=uX hkd hkey es ents.toList 0 (by simpa using a2) (λj k a e=>by simpa using a3 j k a e)
  cases hq:bB kv es with
  |none=>rw[f2 hq] at hes';cases hes'
  |some r=>
   rcases f1 r hq with⟨rfl,g2,g3⟩|⟨j,k0,a0,e0,rfl,g2,g3,g4,g5,g6,g7⟩
   ·rw[g3] at hes'
    cases hes'
    obtain⟨A,B⟩:=zI H (ob:= .map (ents.push {key:=vk,val:=vx,born:=clock}) (clock+1)) (ao':= .mp (es++[(kv,x'.ev ts)])) hes trivial (λ_ _ e=>by cases e) trivial (λ_ _ _ e=>by cases e)
     ⟨_,_,rfl,by simp[a2],(λj k a e=>by
       rcases Nat.lt_trichotomy j es.length with hj|hj|hj
       ·rw[List.getElem?_append_left hj] at e
        obtain⟨e1,h1,h2,h3⟩:=a3 j k a e
        exact⟨e1,by rw[Array.getElem?_push,if_neg (by omega)];exact h1,h2,h3⟩
       ·subst hj
        simp at e
        obtain⟨rfl,rfl⟩:=e
        exact⟨{key:=vk,val:=vx,born:=clock},by rw[Array.getElem?_push,if_pos a2.symm],hkey,hrx⟩
       ·rw[List.getElem?_eq_none (by simp;omega)] at e;cases e),(λj e h1=>by
       rw[Array.getElem?_push] at h1
       split at h1
       ·cases h1;simp
       ·have:=a4 j e h1;omega),(λi j e e' h1 h2 hb=>by
       rw[Array.getElem?_push] at h1 h2
       split at h1<;>split at h2
       ·omega
       ·cases h1;have:=a4 j e' h2;simp at hb;omega
       ·cases h2;have:=a4 i e h1;simp at hb;omega
       ·exact a5 i j e e' h1 h2 hb)⟩
    refine⟨_,_,_,S,φ,hrun _ ?_,.skip,.any _,A,B⟩
    simp[Instr.mapUpdate,run_underlying ht,hg,hck,Instr.findKey,run_underlying hkt,g2,hset]
   ·rw[g7] at hes'
    cases hes'
    have hjl:j<es.length:=(List.getElem?_eq_some_iff.1 g2).1
    have g3':ents[j]?=some e0:=by simpa using g3
    obtain⟨A,B⟩:=zI H (ob:= .map (ents.modify j λe=>{e with key:=vk,val:=vx}) clock) (ao':= .mp (es.set j (k0,x'.ev ts))) hes trivial (λ_ _ e=>by cases e) trivial (λ_ _ _ e=>by cases e)
     ⟨_,_,rfl,by simp[a2],(λi k a e=>by
       by_cases hi:i=j
       ·subst hi
        rw[List.getElem?_set_self hjl] at e
        cases e
        refine⟨{e0 with key:=vk,val:=vx},by simp[Array.getElem?_modify,g3'],?_,hrx⟩
        obtain⟨e1,h1,h2,h3⟩:=a3 i _ _ g2
        rw[g3'] at h1;cases h1
        rw[h2,g4]
       ·rw[List.getElem?_set_ne (Ne.symm hi)] at e
        obtain⟨e1,h1,h2,h3⟩:=a3 i k a e
        exact⟨e1,by rw[Array.getElem?_modify,if_neg (Ne.symm hi)];exact h1,h2,h3⟩),(λi e h1=>by
       rw[Array.getElem?_modify] at h1
       split at h1
       ·rw[Option.map_eq_some_iff] at h1
        obtain⟨e1,h1,rfl⟩:=h1
        exact a4 i e1 h1
       ·exact a4 i e h1),(λi i' e e' h1 h2 hb=>by
       rw[Array.getElem?_modify] at h1 h2
       have q1:∃d,ents[i]?=some d/\d.born=e.born:=by
        split at h1
        ·rw[Option.map_eq_some_iff] at h1;obtain⟨d,h1,rfl⟩:=h1;exact⟨d,h1,rfl⟩
        ·exact⟨e,h1,rfl⟩
       have q2:∃d,ents[i']?=some d/\d.born=e'.born:=by
        split at h2
        ·rw[Option.map_eq_some_iff] at h2;obtain⟨d,h2,rfl⟩:=h2;exact⟨d,h2,rfl⟩
        ·exact⟨e',h2,rfl⟩
       obtain⟨d1,c1,c2⟩:=q1
       obtain⟨d2,c3,c4⟩:=q2
       exact a5 i i' d1 d2 c1 c3 (by rw[c2,c4,hb]))⟩
    refine⟨_,_,_,S,φ,hrun _ ?_,.skip,.any _,A,B⟩
    have hsb:Instr.sameBits 10000 vk vk=true:=zT hkey 9999
    simp[Instr.mapUpdate,run_underlying ht,hg,hck,Instr.findKey,run_underlying hkt,g6,g3',Instr.keyThatStays,g4,hsb,hset]
theorem Gd{t:TypeId}{x:Operand}{x':AOp}(ho:o.op= .range t x)(ht:P.underlying t=some .string)(hx:cop x=some x')(he:ev G ts h (.rngS x')=some (av,h')):Yld P G o ts h av h':=by
 simp only[ev] at he
 split at he<;>first|(cases he;done)|skip
 rename_i s e1
 cases he
 intro W S φ a H T
 have hrx:=am hx T
 rw[e1] at hrx
 have hv:=vT hrx
 obtain⟨A,B⟩:=yO H (ob:= .stringIter ⟨⟨s⟩⟩ 0) (ao:= .sit s 0) (λ_ _ e=>by cases e) (λ_ _ _ e=>by cases e) (λR=>rfl)
 refine⟨.value (.pointer (some ⟨W.heap.size,0,none⟩)),_,_,S,_,?_,.value _,?_,A,B⟩
 ·simp[execOp,ho,hv,Instr.range,run_underlying ht]
 ·have:=VRel.it (W:=W.alloc (.stringIter ⟨⟨s⟩⟩ 0)) (S:=S) (φ:=upd φ h.length (W.heap.size,0)) (n:=(h++[AO.sit s 0]).length) h.length (by simp)
  simpa[upd] using this
theorem HY{x:Operand}{x':AOp}(ho:o.op= .next x true)(hx:cop x=some x')(he:ev G ts h (.nxtS x')=some (av,h')):Yld P G o ts h av h':=by
 simp only[ev] at he
 split at he<;>first|(cases he;done)|skip
 rename_i id e1
 split at he<;>first|(cases he;done)|skip
 rename_i s pos hs
 intro W S φ a H T
 have hrx:=am hx T
 rw[e1] at hrx
 have ho1:W.heap[(φ id).1]?=some (.stringIter ⟨⟨s⟩⟩ pos):=H.oobj id _ hs trivial
 have hsz:(⟨⟨s⟩⟩:ByteArray).size=s.length:=rfl
 have hg:(getObj (φ id).1).run P W= .ok (.stringIter ⟨⟨s⟩⟩ pos) W:=by simp[getObj,Sem.run,ho1]
 have hset:∀ob,(setObj (φ id).1 ob).run P W= .ok () (World.withObj W (φ id).1 ob):=λob=>by simp[setObj,Sem.run,ho1,World.withObj]
 generalize hvx:a.eval x=vx at hrx
 cases hrx with
 |it _ hid=>
  split at he
  ·rename_i hp
   cases he
   obtain⟨A,B⟩:=zI H (ob:= .stringIter ⟨⟨s⟩⟩ (pos+(Utf8.decode ⟨⟨s⟩⟩ pos).2)) (ao':= .sit s (pos+(Utf8.decode ⟨⟨s⟩⟩ pos).2)) hs trivial (λ_ _ e=>by cases e) trivial (λ_ _ _ e=>by cases e) rfl
   refine⟨.value (.tuple #[.bool true,goInt pos,.int .i32 (Utf8.decode ⟨⟨s⟩⟩ pos).1]),_,_,S,φ,?_,.value _,?_,A,B⟩
   ·have hp':pos<(⟨⟨s⟩⟩:ByteArray).size:=by rw[hsz];exact hp
    simp[execOp,ho,hvx,Instr.next,hg,hp',hset]
   ·refine .tup _ _ rfl λj c x e1 e2=>?_
    match j,e1,e2 with
    |0,e1,e2=>cases e1;cases e2;exact .p _ _ (.bool _)
    |1,e1,e2=>cases e1;cases e2;exact .p _ _ (.int _ _)
    |2,e1,e2=>cases e1;cases e2;exact .p _ _ (.int _ _)
    |j+3,e1,e2=>simp at e1
  ·rename_i hp
   cases he
   refine⟨.value (.tuple #[.bool false]),_,W,S,φ,?_,.value _,?_,H,Keep.refl H⟩
   ·have hp':¬pos<(⟨⟨s⟩⟩:ByteArray).size:=by rw[hsz];exact hp
    simp[execOp,ho,hvx,Instr.next,hg,hp']
   ·refine .tup _ _ rfl λj c x e1 e2=>?_
    match j,e1,e2 with
    |0,e1,e2=>cases e1;cases e2;exact .p _ _ (.bool _)
    |j+1,e1,e2=>simp at e1
end
end Go.Aw
namespace Go.Aw
section
variable {P:Program} {G:az} {o:Oper} {ts:List AV} {h h':List AO} {av:AV}
theorem Gu{c:Call}{t u e:TypeId}{s x:Operand}{s' x':AOp}{ei:TypeInfo}{z:List AV}{kn:IntKind}(ho:o.op= .call c)(hc:c.callee= .builtin .append)(ha:c.args=#[s,x])(hat:c.argTypes=#[t,u])
 (ht:P.underlying t=some (.slice e))(hu:P.underlying u=some (.int kn))(hei:P.info? e=some ei)(hz:ft P e=some z)(hsp:0<ei.size)(hs:cop s=some s')(hx:cop x=some x')
 (he:ev G ts h (.appz ei.size ei.bytes z s' x')=some (av,h')):Yld P G o ts h av h':=by
 simp only[ev] at he
 split at he<;>first|(cases he;done)|skip
 rename_i kk k e0
 split at he<;>first|(cases he;done)|skip
 rename_i hkb
 obtain⟨hk0,hk1,hk2⟩:=hkb
 intro W S φ a H T
 have hrs:=am hs T
 have hrx:=am hx T
 obtain⟨zv,z1,z2,z3,⟨i,hi,his⟩,hcell⟩:=dt hz W S φ h.length
 rw[hei] at hi;cases hi
 generalize hvs:a.eval s=vs at hrs
 generalize hvx:a.eval x=vx at hrx
 rw[e0] at hrx
 obtain⟨n,rfl⟩:∃n:Nat,k=n:=⟨k.toNat,by omega⟩
 simp only[Int.toNat_natCast] at he
 have hn0:0<n:=by omega
 have hw:IntKind.i64.wrap (n:Int)=n:=IntWalk.i64_in n (by omega)
 have hzr:ei.zero=some zv:=by
  cases hz0:ei.zero with
  |none=>simp[zeroValue,typeInfo,hei,hz0,unsupported,Sem.run] at z1
  |some q=>simp[zeroValue,typeInfo,hei,hz0] at z1;rw[z1]
 have hzs:zv.cells.size=ei.size:=by have:=z2.1;simp at this;omega
 obtain⟨news,hnews⟩:∃news,news=(Builtin.zeroCells zv.cells n).toList:=⟨_,rfl⟩
 have hzc:Builtin.zeroCells zv.cells n=news.toArray:=by rw[hnews]
 have hnl:news.length=n*ei.size:=by rw[hnews];simp[Builtin.zeroCells,hzs]
 have n2:Ptw W S φ h.length (List.replicate n z).flatten news:=by
  have:=nn (m:=n) (s:=ei.size) z2 his (.inr hsp)
  rw[hnews,Builtin.zeroCells,hzs]
  rw[hzs] at this
  exact this
 have n3:∀e∈List.replicate n z,e.length=ei.size:=λe he=>by rw[(List.mem_replicate.1 he).2];exact his.symm
 have n4:(List.replicate n z).flatten.all AV.isCell=true:=by
  rw[List.all_eq_true]
  intro u hu
  obtain⟨l,hl,hu⟩:=List.mem_flatten.1 hu
  rw[(List.mem_replicate.1 hl).2] at hu
  exact List.all_eq_true.1 hcell u hu
 have n5:∀v∈news,v.oneC=true:=λv hv=>by
  rw[hnews,Builtin.zeroCells,Array.toList_map,List.mem_map] at hv
  obtain⟨j,_,rfl⟩:=hv
  have hlt:j%zv.cells.size<zv.cells.size:=Nat.mod_lt _ (by omega)
  rw[getElem!_pos zv.cells _ hlt]
  exact z3 _ (by simp)
 cases hrx with
 |p _ _ hq=>
 cases hq
 split at he<;>first|(cases he;done)|skip
 ·rename_i e1
  rw[e1] at hrs
  cases hrs
  cases he
  have hrun:=Lib.run_append_nil_zeros (P:=P) W t u o.type e ei zv kk kn ht hu hei hzr n hn0 hsp (by omega) (by
   have:n*ei.bytes<=65536*65536:=Nat.mul_le_mul (by omega) hk2
   omega)
  obtain⟨A,B⟩:=iA H (es:=List.replicate n z) (sz:=ei.size) (c:=Builtin.zeroCells zv.cells n++Builtin.zeroCells zv.cells (grownCap W n 0 e-n)) (t:=e) (l:=news) n3 n4 n2 ⟨_,by rw[hzc];simp;rfl⟩
   (W.drew.alloc (.cells (Builtin.zeroCells zv.cells n++Builtin.zeroCells zv.cells (grownCap W n 0 e-n)) e)) rfl rfl rfl rfl
  refine⟨.value (.slice (some ⟨W.heap.size,0,none⟩) n (grownCap W n 0 e)),_,_,S,_,?_,.value _,?_,A,B⟩
  ·simp[execOp,ho,hc,ha,hat,hvs,hvx,resolve,invoke,builtin,hrun]
  ·have hcap:=grownCap_ge W n 0 e
   exact VRel.sl (φ:=upd φ h.length (W.heap.size,0)) h.length ei.size 0 n (grownCap W n 0 e) (some ⟨W.heap.size,0,none⟩) (by simp) hcap
    (λ_=>by simp[upd]) (λc t fr hcc=>by
      simp only[upd,if_true] at hcc⊢
      have:(W.drew.alloc (.cells (Builtin.zeroCells zv.cells n++Builtin.zeroCells zv.cells (grownCap W n 0 e-n)) e)).heap[W.heap.size]?=some (.cells (Builtin.zeroCells zv.cells n++Builtin.zeroCells zv.cells (grownCap W n 0 e-n)) e):=by
       show(W.heap.push _)[W.heap.size]?=_;simp
      rw[this] at hcc;cases hcc
      simp only[Array.size_append,Builtin.zeroCells,Array.size_map,Array.size_range,hzs,Nat.zero_add]
      rw[←Nat.add_mul]
      exact Nat.mul_le_mul_right _ (by omega))
 ·rename_i id sz off len e1
  rw[e1] at hrs
  split at he<;>first|(cases he;done)|skip
  rename_i sz' es hrow
  split at he<;>first|(cases he;done)|skip
  rename_i hb
  cases he
  obtain⟨rfl,rfl,hle,hb1,hb2⟩:=hb
  obtain⟨c0,t0,fr0,o1,o2,o3,o4,o5⟩:=H.obj id ei.size es hrow
  have hres:elems h ei.size (.sl id ei.size off len)=some ((es.drop off).take len):=by simp[elems,hrow,hle]
  obtain⟨ado,capo,olds,q0,q1,q2,q3,q4,q5⟩:=kC H hrs hres
  have hlen:((es.drop off).take len).length=len:=by simp;omega
  rw[hlen] at q0 q1
  have hol:olds.length=len*ei.size:=by rw[q2.1,aK q3,hlen]
  have hxl:(List.replicate n z).length=n:=by simp
  cases hrs with
  |sl _ _ _ _ cap' ba hid hl hb hcc=>
   cases q0
   have hall:∀e∈(es.drop off).take len++List.replicate n z,e.length=ei.size:=λe he=>by
    rcases List.mem_append.1 he with he|he
    ·exact q3 e he
    ·exact n3 e he
   have hcl:((es.drop off).take len++List.replicate n z).flatten.all AV.isCell=true:=by rw[List.flatten_append,List.all_append,q4,n4];rfl
   have hptw:Ptw W S φ h.length ((es.drop off).take len++List.replicate n z).flatten (olds++news):=by
    refine⟨by rw[List.flatten_append,List.length_append,List.length_append,q2.1,n2.1],λj c v h1 h2=>?_⟩
    rw[List.flatten_append,List.getElem?_append] at h1
    rw[List.getElem?_append] at h2
    split at h1
    ·rename_i hj
     rw[if_pos (by rw[q2.1];exact hj)] at h2
     exact q2.2 _ _ _ h1 h2
    ·rename_i hj
     rw[if_neg (by rw[q2.1];exact hj),q2.1] at h2
     exact n2.2 _ _ _ h1 h2
   have hneg:¬((n:Int)<0):=by omega
   have hns:¬(n*ei.size=0):=Nat.mul_ne_zero (by omega) (by omega)
   have h48n:n*ei.bytes<=281474976710656:=by
    have:n*ei.bytes<=65536*65536:=Nat.mul_le_mul (by omega) hk2
    omega
   have h48i:¬(281474976710656<(n:Int)*(ei.bytes:Int)):=by
    rw[←Int.natCast_mul]
    omega
   by_cases hfit:len+n<=capo
   ·
    have hroom:=hcc c0 t0 fr0 o1
    have hnfit:(φ id).2+off*ei.size+(len+n)*ei.size<=c0.size:=by
     have:(off+(len+n))*ei.size<=(off+capo)*ei.size:=Nat.mul_le_mul_right _ (by omega)
     rw[Nat.add_mul] at this
     omega
    have hnfit':(φ id).2+off*ei.size+len*ei.size+n*ei.size<=c0.size:=by rw[Nat.add_mul] at hnfit;omega
    obtain⟨W',hrun,hB⟩:=fJ (P:=P) news W (φ id).1 ((φ id).2+off*ei.size+len*ei.size) 0 c0 t0 fr0 o1 o2 (by rw[hnl];omega) n5
    obtain⟨A,B⟩:=H.push (W':=W') (d:=some id) (B:=((φ id).1,(φ id).2+off*ei.size)) (sz:=ei.size) (es:=(es.drop off).take len++List.replicate n z) (c:=wr c0 ((φ id).2+off*ei.size+len*ei.size+0) news) (t:=t0) (fr:=fr0)
     (.inr ⟨id,ei.size,es,c0,t0,fr0,rfl,hrow,rfl,o1,by rw[dp]⟩) hB.at_b (λb _ hne=>hB.other b hne) (by rw[hB.size];exact Nat.le_refl _) hB.os hB.tape hB.output (by rw[dp];exact o2) hall
     (by rw[dp,List.length_append,hlen,hxl];exact hnfit) (λj u hj=>by
       have hjl:=(List.getElem?_eq_some_iff.1 hj).1
       rw[aK hall,List.length_append,hlen,hxl] at hjl
       rw[sw _ _ _ (by rw[hnl];omega)]
       refine⟨List.all_eq_true.1 hcl u (List.mem_of_getElem? hj),?_⟩
       have hjo:j<(olds++news).length:=by rw[List.length_append,hol,hnl,←Nat.add_mul];exact hjl
       have hv:=List.getElem?_eq_getElem hjo
       refine⟨_,?_,hptw.2 _ _ _ hj hv⟩
       rw[←hv]
       have hjl':=hjl
       rw[Nat.add_mul] at hjl'
       by_cases hw:j<len*ei.size
       ·have hjol:j<olds.length:=by rw[hol];exact hw
        rw[List.getElem?_append_left hjol,if_neg (by omega)]
        rcases q1 with h0|⟨b,off',k1,k2⟩
        ·subst h0;simp at hw
        ·have:=k2 j _ (List.getElem?_eq_getElem hjol)
         have hlp:0<len:=Nat.pos_of_ne_zero λh0=>by subst h0;simp at hw
         rw[hb (by omega)] at k1
         cases k1
         simp only[World.cell?,o1] at this
         rw[List.getElem?_eq_getElem hjol]
         simpa using this
       ·rw[List.getElem?_append_right (by omega),if_pos (by omega),hol];congr 1;omega) rfl
    have h0:0<capo:=by omega
    refine⟨.value (.slice ado (len+n) capo),_,W',S,_,?_,.value _,?_,A,B⟩
    ·rw[hb h0] at hvs⊢
     simp[execOp,ho,hc,ha,hat,hvs,hvx,resolve,invoke,builtin,Builtin.append_,run_underlying ht,run_underlying hu,sizeOf,typeInfo,zeroValue,hei,hzr,asInt,asIntOf,hw,hneg,hns,h48i,hzc,hfit,cT,hrun]
    ·refine VRel.sl h.length ei.size 0 (len+n) capo ado (by simp) hfit (λhp=>by rw[hb hp];simp[upd]) (λc t fr hc'=>?_)
     simp only[upd,if_true] at hc'⊢
     rw[hB.at_b] at hc';cases hc'
     rw[dp,Nat.zero_add]
     rw[Nat.add_mul] at hroom
     omega
   ·
    have hcap:=grownCap_ge W (len+n) capo e
    have hfits:Builtin.nextslicecap (len+n) capo*ei.bytes<=281474976710656:=growslice_fits (by omega) (by omega)
    have hfo:=kJ (P:=P) (W:=W.drew) (size:=ei.size) (ad:=ado) (n:=len) (cap:=capo) (news:=olds) hol q1
    have hrun:=Lib.run_append_grow_zeros (P:=P) W t u o.type e ei zv kk kn ht hu hei hzr ado len capo olds hfo n hn0 hsp (by omega) (by omega) h48n hfits
    rw[hzc] at hrun
    obtain⟨A,B⟩:=H.push (W':=W.drew.alloc (.cells (olds.toArray++news.toArray++Builtin.zeroCells zv.cells (grownCap W (len+n) capo e-(len+n))) e)) (d:=some id) (B:=(W.heap.size,0)) (sz:=ei.size) (es:=(es.drop off).take len++List.replicate n z)
     (c:=olds.toArray++news.toArray++Builtin.zeroCells zv.cells (grownCap W (len+n) capo e-(len+n))) (t:=e) (fr:=(0,0)) (.inl (Nat.le_refl _)) (by show(W.heap.push _)[W.heap.size]?=_;simp)
     (λb' hb' _=>by show(W.heap.push _)[b']?=_;rw[Array.getElem?_push,if_neg (by omega)]) (by simp) rfl rfl rfl (by omega) hall
     (by simp only[Nat.zero_add,List.length_append,hlen,hxl,Array.size_append,List.size_toArray,hol,hnl,Nat.add_mul];omega) (λj u hj=>by
       have hjl:=(List.getElem?_eq_some_iff.1 hj).1
       rw[aK hall,List.length_append,hlen,hxl] at hjl
       refine⟨List.all_eq_true.1 hcl u (List.mem_of_getElem? hj),?_⟩
       have hjo:j<(olds++news).length:=by rw[List.length_append,hol,hnl,←Nat.add_mul];exact hjl
       have hv:=List.getElem?_eq_getElem hjo
       refine⟨_,?_,hptw.2 _ _ _ hj hv⟩
       rw[←hv,Nat.zero_add,Array.getElem?_append_left (by simpa using hjo)]
       simp) rfl
    refine⟨.value (.slice (some ⟨W.heap.size,0,none⟩) (len+n) (grownCap W (len+n) capo e)),_,_,S,_,?_,.value _,?_,A,B⟩
    ·simp[execOp,ho,hc,ha,hat,hvs,hvx,resolve,invoke,builtin,hrun]
    ·refine VRel.sl h.length ei.size 0 (len+n) (grownCap W (len+n) capo e) _ (by simp) hcap (λhp=>by simp[upd]) (λc t fr hc'=>?_)
     simp only[upd,if_true] at hc'⊢
     have:(W.drew.alloc (.cells (olds.toArray++news.toArray++Builtin.zeroCells zv.cells (grownCap W (len+n) capo e-(len+n))) e)).heap[W.heap.size]?=some (.cells (olds.toArray++news.toArray++Builtin.zeroCells zv.cells (grownCap W (len+n) capo e-(len+n))) e):=by
      show(W.heap.push _)[W.heap.size]?=_;simp
     rw[this] at hc';cases hc'
     simp only[Array.size_append,List.size_toArray,hol,hnl,Builtin.zeroCells,Array.size_map,Array.size_range,hzs,Nat.zero_add,←Nat.add_mul]
     exact Nat.mul_le_mul_right _ (by omega)
end
end Go.Aw
