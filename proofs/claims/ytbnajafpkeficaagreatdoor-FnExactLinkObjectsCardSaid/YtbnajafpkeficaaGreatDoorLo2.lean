/-
  Contracts and lemmas that the card needs, part 2.
-/
import Derived.Test.YtbnajafpkeficaaGreatDoorLo1
import Derived.Laws.StructEq
import Derived.LoopN
namespace Go.Aw
section
variable {P:Program} {G:az} {o:Oper} {ts:List AV} {h h':List AO} {av:AV}
theorem Co{W:World}{S:Nat->Prop}{cs:List PV}{b o' esz n off cap:Nat}(hb:S b)(hc:∀(j:Nat) (c:PV),cs[j]?=some c->∃v,W.cell? ⟨b,o'+j,none⟩=some v/\PRel W S c v)
 (hl:off+n*esz<=cs.length)(hn:n<=cap):PRel W S (.lst esz (cd esz cs off n)) (.slice (some ⟨b,o'+off,none⟩) n cap):=by
 have hch:∀j:Nat,∃v,∀c,cs[j]?=some c->W.cell? ⟨b,o'+j,none⟩=some v/\PRel W S c v:=λj=>by
  cases hj:cs[j]? with
  |none=>exact⟨undef,λc h=>by cases h⟩
  |some c=>obtain⟨v,h1,h2⟩:=hc j c hj;exact⟨v,λc' e=>by cases e;exact⟨h1,h2⟩⟩
 let vs:Nat->Value:=λj=>Classical.choose (hch (off+j))
 have hvs:∀j,∀c,cs[off+j]?=some c->W.cell? ⟨b,o'+(off+j),none⟩=some (vs j)/\PRel W S c (vs j):=λj=>Classical.choose_spec (hch (off+j))
 have key:∀(j:Nat) (c:PV),(cd esz cs off n).flatten[j]?=some c->cs[off+j]?=some c:=λj c hj=>by
  rw[jv _ _ _ _ hl,List.getElem?_take] at hj
  split at hj
  ·rwa[List.getElem?_drop] at hj
  ·cases hj
 have:=PRel.lst (W:=W) (S:=S) esz (cd esz cs off n) b (o'+off) cap vs hb (jy _ _ _ _ hl) (by rw[gC];exact hn)
  (λj c hj=>by rw[Nat.add_assoc];exact(hvs j c (key j c hj)).1) (λj c hj=>(hvs j c (key j c hj)).2)
 rwa[gC] at this
theorem Ef{t e:TypeId}{m:Nat}{x:Operand}{lo hi:Option Operand}{x':AOp}{lo' hi':Option AOp}{ei:TypeInfo}(ho:o.op= .slice t x lo hi none)
 (ht:P.underlying t=some (.array m e)\/∃r,P.underlying t=some (.pointer r)/\P.underlying r=some (.array m e))(hei:P.info? e=some ei)
 (hx:cop x=some x')(hlo:tE lo=some lo')(hhi:tE hi=some hi')(he:ev G ts h (.slA m ei.size x' lo' hi')=some (av,h')):Yld P G o ts h av h':=by
 simp only[ev] at he
 have run:∀(W:World) (a:Act) (b off l k:Nat),a.eval x= .pointer (some ⟨b,off,none⟩)->((lo=none/\l=0)\/∃y k m,lo=some y/\a.eval y= .int k m/\0<=m/\l=m.toNat)->
  ((hi=none/\k=m)\/∃z q n,hi=some z/\a.eval z= .int q n/\0<=n/\k=n.toNat)->l<=k->k<=m->
  (execOp a.eval o).run P W= .ok (.value (.slice (some (if m=l then⟨b,off,none⟩ else⟨b,off+l*ei.size,none⟩)) (k-l) (m-l))) W:=λW a b off l k e1 e2 e3 e4 e5=>by
  have hb:=oL (P:=P) (cap:=m) false e2 e3 e4 e5 W
  rcases ht with ht|⟨r,ht,ht2⟩
  ·simp[execOp,ho,e1,Instr.sliceAt,run_underlying ht,Instr.sureAddr,hb,sizeOf,typeInfo,hei,cT]
  ·simp[execOp,ho,e1,Instr.sliceAt,Instr.slice,run_underlying ht,run_underlying ht2,asAddr,hb,sizeOf,typeInfo,hei,cT]
 have fin:∀(W:World) (S:Nat->Prop) (a:Act) (b o' off l k:Nat) (cs:List PV),a.eval x= .pointer (some ⟨b,o'+off,none⟩)->S b->(∀(j:Nat) (c:PV),cs[j]?=some c->∃v,W.cell? ⟨b,o'+j,none⟩=some v/\PRel W S c v)->
  ((lo=none/\l=0)\/∃y k m,lo=some y/\a.eval y= .int k m/\0<=m/\l=m.toNat)->((hi=none/\k=m)\/∃z q n,hi=some z/\a.eval z= .int q n/\0<=n/\k=n.toNat)->l<=k->k<=m->off+m*ei.size<=cs.length->
  ∃v,(execOp a.eval o).run P W= .ok (.value v) W/\PRel W S (.lst ei.size (((cd ei.size cs off m).take k).drop l)) v:=λW S a b o' off l k cs e1 hb hc e2 e3 e4 e5 e6=>by
  have hp:=Co (W:=W) (S:=S) (n:=m) (cap:=m) hb hc e6 (Nat.le_refl _)
  obtain⟨ad,cap,k1,k2,k3⟩:=Bj hp e4 (by rw[gC];exact e5)
  rw[gC] at k1
  cases k1
  refine⟨_,run W a b (o'+off) l k e1 e2 e3 e4 e5,?_⟩
  split
  ·rename_i hml
   rw[if_pos hml] at k3
   exact k3
  ·rename_i hml
   rw[if_neg hml,Option.map_some,cT] at k3
   exact k3
 split at he<;>first|(cases he;done)|skip
 ·rename_i g off l k e1 e2 e3
  split at he<;>first|(cases he;done)|skip
  rename_i cs hg
  split at he<;>first|(cases he;done)|skip
  rename_i hb
  cases he
  refine Yld.of_same λW S φ a H T=>?_
  have hrx:=am hx T
  rw[e1] at hrx
  generalize hvx:a.eval x=vx at hrx
  cases hrx
  obtain⟨g1,g2⟩:=H.glob g cs hg
  obtain⟨v,v1,v2⟩:=fin W S a g 0 off l k cs (by rw[hvx,Nat.zero_add]) g1 (λj c hj=>by rw[Nat.zero_add];exact g2 j c hj) (uL T hlo e2) (vG T hhi e3) hb.1 hb.2.1 hb.2.2
  exact⟨v,v1,.p _ _ v2⟩
 ·rename_i e' off l k e1 e2 e3
  split at he<;>first|(cases he;done)|skip
  rename_i hb
  cases he
  refine Yld.of_same λW S φ a H T=>?_
  have hrx:=am hx T
  rw[e1] at hrx
  generalize hvx:a.eval x=vx at hrx
  cases hrx with
  |eptr _ _ b o' hS hc=>
   obtain⟨v,v1,v2⟩:=fin W S a b o' off l k e' hvx hS hc (uL T hlo e2) (vG T hhi e3) hb.1 hb.2.1 hb.2.2
   exact⟨v,v1,.p _ _ v2⟩
 ·rename_i id sz i off l k e1 e2 e3
  split at he<;>first|(cases he;done)|skip
  rename_i sz' es hid
  split at he<;>first|(cases he;done)|skip
  rename_i hb
  cases he
  obtain⟨h1,hesz,h3,h4,hi,hfit⟩:=hb
  subst h1 h3 h4
  refine Yld.of_same λW S φ a H T=>?_
  have hrx:=am hx T
  rw[e1] at hrx
  generalize hvx:a.eval x=vx at hrx
  obtain⟨c,t,fr,a1,a2,a3,a4,a5⟩:=H.obj id _ es hid
  cases hrx with
  |ptr _ _ _ _ hlt=>
   refine⟨_,run W a (φ id).1 _ 0 _ hvx (uL T hlo e2) (vG T hhi e3) (Nat.zero_le _) (Nat.le_refl _),?_⟩
   have hle:i*sz'+off+k<=es.length*sz':=by
    have:=Nat.mul_le_mul_right sz' (Nat.succ_le_of_lt hi)
    rw[Nat.succ_mul] at this
    omega
   rw[Nat.sub_zero]
   refine .sl _ _ _ k k _ hlt (Nat.le_refl _) (λ_=>?_) (λc' t' fr' e=>?_)
   ·split<;>simp[Nat.mul_one]
   ·rw[a1] at e;cases e
    omega
theorem Ha{c x y:Operand}{c' x' y':AOp}(ho:o.op= .pick c x y)(hc:cop c=some c')(hx:cop x=some x')(hy:cop y=some y')
 (he:ev G ts h (.pick c' x' y')=some (av,h')):Yld P G o ts h av h':=by
 simp only[ev] at he
 split at he<;>first|(cases he;done)|skip
 rename_i b e1
 cases he
 refine Yld.of_same λW S φ a H T=>?_
 have hrc:=am hc T
 rw[e1] at hrc
 cases b
 ·exact⟨a.eval y,by simp[execOp,ho,kD hrc,asBool],am hy T⟩
 ·exact⟨a.eval x,by simp[execOp,ho,kD hrc,asBool],am hx T⟩
def Ac(P:Program)(t:TypeId):Operand->Option Nat
 | .const (.pointer none)=>match P.underlying t with|some (.pointer _)=>some 0|_=>none
 | .const .nilFunc=>match P.underlying t with|some (.func _ _ _)=>some 1|_=>none
 |_=>none
def sv(place:Nat->Option (Nat × Nat)):List (Nat × Operand)->Option (List (Nat × Nat × AOp))
 |[]=>some []
 |(i,x)::r=>match place i,cop x,sv place r with
  |some (off,sz),some y,some r'=>some ((off,sz,y)::r')
  |_,_,_=>none
theorem kx{place:Nat->Option (Nat × Nat)}:∀{l:List (Nat × Operand)} {l':List (Nat × Nat × AOp)},sv place l=some l'->lm place l l'
 |[],l',h=>by cases h;trivial
 |(i,x)::r,l',h=>by
  simp only[sv] at h
  split at h<;>first|(cases h;done)|skip
  rename_i off sz y r' h1 h2 h3
  cases h
  exact⟨h1,h2,kx h3⟩
def Aq(P:Program):Nat->List Field->Option (List Nat)
 |_,[]=>some []
 |j,f::r=>if(f.name != "_" &&f.offset==j)=true then
   match P.underlying f.type,Aq P (j+1) r with
   |some (.int _),some l=>some (0::l)
   |some .string,some l=>some (1::l)
   |some .bool,some l=>some (2::l)
   |_,_=>none
  else none
def GI(P:Program)(t:TypeId):Option (List Nat):=match P.underlying t with
 |some (.struct fs)=>if(!P.stoodInHeld t&& !P.eqGuardType P.depth t)=true then Aq P 0 fs.toList else none
 |_=>none
theorem Bt{W:World}{S:Nat->Prop}{φ:au}{n:Nat}{xs ys:Array Value}(d:Nat):∀(l:List Field) (j:Nat) (ks:List Nat) (cs ds:List AV) (b:Bool),Aq P j l=some ks->fI ks cs ds=some b->
 (∀(i:Nat) c,cs[i]?=some c->∃v,xs[j+i]?=some v/\VRel W S φ n c v)->(∀(i:Nat) c,ds[i]?=some c->∃v,ys[j+i]?=some v/\VRel W S φ n c v)->(Op.eqFields (d+1) xs ys l).run P W= .ok b W
 |[],j,ks,cs,ds,b,hf,he,_,_=>by
  cases hf
  unfold fI at he
  split at he<;>first|(cases he;done)|skip
  ·cases he;rfl
  ·rename_i heq _ _;cases heq
 |f::r,j,ks,cs,ds,b,hf,he,hx,hy=>by
  simp only[Aq] at hf
  split at hf<;>first|(cases hf;done)|skip
  rename_i hc
  simp only[Bool.and_eq_true,bne_iff_ne,ne_eq,beq_iff_eq] at hc
  obtain⟨hnm,hoff⟩:=hc
  have rest:∀(l:List Nat) (k:Nat),Aq P (j+1) r=some l->ks=k::l->∃a b' r1 r2 x y,cs= .p a::r1/\ds= .p b'::r2/\eb a=k/\keq a b'=some x/\(Op.eqFields (d+1) xs ys r).run P W= .ok y W/\b=(x&&y):=λl k h1 h2=>by
   subst h2
   rcases cs with _|⟨c,r1⟩
   ·simp[fI] at he
   rcases ds with _|⟨c',r2⟩
   ·cases c<;>simp[fI] at he
   cases c<;>first|(simp[fI] at he;done)|skip
   cases c'<;>first|(simp[fI] at he;done)|skip
   rename_i a b'
   simp only[fI] at he
   split at he<;>first|(cases he;done)|skip
   rename_i hk
   split at he<;>first|(cases he;done)|skip
   rename_i x y e1 e2
   cases he
   refine⟨a,b',r1,r2,x,y,rfl,rfl,hk,e1,Bt (S:=S) (φ:=φ) (n:=n) d r (j+1) l r1 r2 y h1 e2 (λi c hi=>?_) (λi c hi=>?_),rfl⟩
   ·have:=hx (i+1) c (by simpa using hi);rwa[show j+(i+1)=j+1+i by omega] at this
   ·have:=hy (i+1) c (by simpa using hi);rwa[show j+(i+1)=j+1+i by omega] at this
  have fin:∀(v w:Value) (x y:Bool),(part f.type xs f.offset).run P W= .ok v W->(part f.type ys f.offset).run P W= .ok w W->(Op.equalIn (d+1) f.type v w).run P W= .ok x W->(Op.eqFields (d+1) xs ys r).run P W= .ok y W->b=(x&&y)->(Op.eqFields (d+1) xs ys (f::r)).run P W= .ok b W:=λv w x y h1 h2 h3 h4 h5=>by
   simp only[Op.eqFields,if_pos hnm,Sem.run_bind,h1,h2,h3,Result.andThen_ok,h5]
   cases x
   ·simp
   ·simpa using h4
  split at hf<;>first|(cases hf;done)|skip
  ·rename_i kk l hu hl
   cases hf
   obtain⟨a,b',r1,r2,x,y,rfl,rfl,hk,e1,e2,e3⟩:=rest l 0 hl rfl
   obtain⟨v,v1,v2⟩:=hx 0 _ rfl
   obtain⟨w,w1,w2⟩:=hy 0 _ rfl
   rw[Nat.add_zero,←hoff] at v1 w1
   obtain⟨k1,n1,rfl⟩:∃k1 n1,a= .int k1 n1:=by cases a<;>first|(simp[eb] at hk;done)|exact⟨_,_,rfl⟩
   obtain⟨q,rfl,rfl⟩:∃q,b'= .int k1 q/\x=decide (n1=q):=by cases b'<;>simp[keq] at e1;first|exact⟨_,rfl,e1.symm⟩|exact⟨_,by rw[e1.1],e1.2.symm⟩
   obtain rfl:v= .int k1 n1:=by cases v2 with|p _ _ hp=>cases hp with|_=>rfl
   obtain rfl:w= .int k1 q:=by cases w2 with|p _ _ hp=>cases hp with|_=>rfl
   exact fin (.int k1 n1) (.int k1 q) _ _ (by simp[part,isAgg,run_underlying hu,v1]) (by simp[part,isAgg,run_underlying hu,w1]) ((run_equalIn_int (P:=P) W d f.type _ kk _ _ hu).trans (by rw[js])) e2 e3
  ·rename_i l hu hl
   cases hf
   obtain⟨a,b',r1,r2,x,y,rfl,rfl,hk,e1,e2,e3⟩:=rest l 1 hl rfl
   obtain⟨v,v1,v2⟩:=hx 0 _ rfl
   obtain⟨w,w1,w2⟩:=hy 0 _ rfl
   rw[Nat.add_zero,←hoff] at v1 w1
   obtain⟨n1,rfl⟩:∃n1,a= .str n1:=by cases a<;>first|(simp[eb] at hk;done)|exact⟨_,rfl⟩
   obtain⟨q,rfl,rfl⟩:∃q,b'= .str q/\x=decide (n1=q):=by cases b'<;>simp[keq] at e1;first|exact⟨_,rfl,e1.symm⟩|exact⟨_,by rw[e1.1],e1.2.symm⟩
   obtain rfl:v= .string ⟨⟨n1⟩⟩:=by cases v2 with|p _ _ hp=>cases hp with|_=>rfl
   obtain rfl:w= .string ⟨⟨q⟩⟩:=by cases w2 with|p _ _ hp=>cases hp with|_=>rfl
   exact fin (.string ⟨⟨n1⟩⟩) (.string ⟨⟨q⟩⟩) _ _ (by simp[part,isAgg,run_underlying hu,v1]) (by simp[part,isAgg,run_underlying hu,w1]) ((run_equalIn_string (P:=P) W d f.type _ _ hu).trans (by rw[ByteArray.toList_eq,ByteArray.toList_eq,js])) e2 e3
  ·rename_i l hu hl
   cases hf
   obtain⟨a,b',r1,r2,x,y,rfl,rfl,hk,e1,e2,e3⟩:=rest l 2 hl rfl
   obtain⟨v,v1,v2⟩:=hx 0 _ rfl
   obtain⟨w,w1,w2⟩:=hy 0 _ rfl
   rw[Nat.add_zero,←hoff] at v1 w1
   obtain⟨n1,rfl⟩:∃n1,a= .bool n1:=by cases a<;>first|(simp[eb] at hk;done)|exact⟨_,rfl⟩
   obtain⟨q,rfl,rfl⟩:∃q,b'= .bool q/\x=decide (n1=q):=by cases b'<;>simp[keq] at e1;first|exact⟨_,rfl,e1.symm⟩|exact⟨_,by rw[e1.1],e1.2.symm⟩
   obtain rfl:v= .bool n1:=by cases v2 with|p _ _ hp=>cases hp with|_=>rfl
   obtain rfl:w= .bool q:=by cases w2 with|p _ _ hp=>cases hp with|_=>rfl
   exact fin (.bool n1) (.bool q) _ _ (by simp[part,isAgg,run_underlying hu,v1]) (by simp[part,isAgg,run_underlying hu,w1]) ((run_equalIn_bool' (P:=P) W d f.type _ _ hu).trans (by rw[js])) e2 e3
theorem DN{ks:List Nat}{ne:Bool}{t u:TypeId}{x y:Operand}{x' y':AOp}(ho:o.op= .binOp (if ne then .neq else .eql) t x y u)(ht:GI P t=some ks)(hx:cop x=some x')(hy:cop y=some y')
 (he:ev G ts h (.aeq ks ne x' y')=some (av,h')):Yld P G o ts h av h':=by
 simp only[ev] at he
 split at he<;>first|(cases he;done)|skip
 rename_i cs ds e1 e2
 rw[Option.map_eq_some_iff] at he
 obtain⟨b,e3,e4⟩:=he
 cases e4
 unfold GI at ht
 split at ht<;>first|(cases ht;done)|skip
 rename_i fs hu
 split at ht<;>first|(cases ht;done)|skip
 rename_i hg
 simp only[Bool.and_eq_true,Bool.not_eq_true'] at hg
 refine Yld.of_same λW S φ a H T=>?_
 have r1:=am hx T
 have r2:=am hy T
 rw[e1] at r1
 rw[e2] at r2
 generalize hvx:a.eval x=vx at r1
 generalize hvy:a.eval y=vy at r2
 cases r1 with
 |agg _ xs s1 h1=>
  cases r2 with
  |agg _ ys s2 h2=>
   have hfs:P.fieldsOf t=fs:=by simp[Program.fieldsOf,hu]
   have hr:(Op.equal t (.agg xs) (.agg ys)).run P W= .ok b W:=by
    have:=run_equalIn_struct (P:=P) W 9999 t xs ys (by rw[hfs];exact hu) hg.1
    rw[hfs] at this
    refine this.trans (Bt (W:=W) (S:=S) (φ:=φ) (n:=h.length) 9998 fs.toList 0 ks cs ds b ht e3 (λi c hi=>?_) (λi c hi=>?_))
    ·have hl:i<xs.size:=by rw[s1];exact(List.getElem?_eq_some_iff.1 hi).1
     exact⟨xs[i],by simp[hl],h1 i c _ hi (by simp[hl])⟩
    ·have hl:i<ys.size:=by rw[s2];exact(List.getElem?_eq_some_iff.1 hi).1
     exact⟨ys[i],by simp[hl],h2 i c _ hi (by simp[hl])⟩
   refine⟨.bool (if ne then !b else b),?_,.p _ _ (.bool _)⟩
   have hgd:∀op,(eqGuard op t x y (.agg xs) (.agg ys)).run P W= .ok () W:=λop=>run_eqGuard_agg (P:=P) W op t x y xs ys hg.2
   cases ne
   ·simp only[Bool.false_eq_true,if_false] at ho⊢
    simp[execOp,ho,hvx,hvy,hgd,binOp,hr]
   ·simp only[if_true] at ho⊢
    simp[execOp,ho,hvx,hvy,hgd,binOp,hr]
def jx(P:Program)(op:BinOp)(t:TypeId)(x y:Operand):Option AI:=
 match Ac P t y,Ac P t x,op with
 |some kd,_,.eql=>(cop x).map (.pnil kd false)
 |some kd,_,.neq=>(cop x).map (.pnil kd true)
 |none,some kd,.eql=>(cop y).map (.pnil kd false)
 |none,some kd,.neq=>(cop y).map (.pnil kd true)
 |_,_,_=>match P.underlying t,cop x,cop y with
  |some (.int _),some x',some y'=>some (.bin op x' y')
  |some .string,some x',some y'=>some (.bins op x' y')
  |some .bool,some x',some y'=>match op with
   | .eql=>some (.beq false x' y')
   | .neq=>some (.beq true x' y')
   |_=>none
  |some (.struct _),some x',some y'=>match GI P t,op with
   |some ks,.eql=>some (.aeq ks false x' y')
   |some ks,.neq=>some (.aeq ks true x' y')
   |_,_=>none
  |_,_,_=>none
def gN(P:Program)(c:Call):Option AI:=
 match c.callee,c.args.toList,c.argTypes.toList with
 | .builtin .len,[x],[t]=>match P.underlying t with
   |some .string=>(cop x).map (.len true)
   |some (.slice _)=>(cop x).map (.len false)
   |_=>none
 | .builtin .max,[x,y],_=>match cop x,cop y with|some x',some y'=>some (.mx x' y')|_,_=>none
 | .builtin .min,[x,y],_=>match cop x,cop y with|some x',some y'=>some (.mn x' y')|_,_=>none
 | .builtin .append,[s,x],[t,u]=>match P.underlying t,cop s,cop x with
   |some (.slice e),some s',some x'=>match P.info? e,ft P e with
    |some ei,some z=>if t=u then some (.app ei.size ei.bytes s' x') else match P.underlying u with
     |some (.int _)=>if 0<ei.size then some (.appz ei.size ei.bytes z s' x') else none
     |_=>none
    |_,_=>none
   |_,_,_=>none
 | .builtin .copy,[d,x],[t,_]=>match P.underlying t,cop d,cop x with
   |some (.slice e),some d',some x'=>(P.info? e).map λei=> .copy ei.size d' x'
   |_,_,_=>none
 | .value (.func f),l,_=>(l.mapM cop).map (.call f)
 | .value (.tmp g),l,_=>(l.mapM cop).map (.callv (.t g))
 |_,_,_=>none
def ck(P:Program)(o:Oper):Option AI:=
 match o.op with
 | .move x| .assign x=>(cop x).map .mov
 | .nilCheck x=>(cop x).map .nilck
 | .pick c x y=>match cop c,cop x,cop y with
   |some c',some x',some y'=>some (.pick c' x' y')
   |_,_,_=>none
 | .unOp .not _ x=>(cop x).map .not
 | .unOp .neg _ x=>(cop x).map .neg
 | .binOp op t x y _=>jx P op t x y
 | .convert s d x=>match P.underlying s,P.underlying d with
   |some (.int _),some (.int k)=>(cop x).map (.conv k)
   |some (.int _),some .string=>(cop x).map .strB
   |some (.slice e),some .string=>match P.underlying e with
    |some (.int .u8)=>(cop x).map .btos
    |_=>none
   |_,_=>none
 | .makeMap _ none=>some .mkm
 | .lookup t m k comma=>match P.underlying t,cop m,cop k with
   |some (.map kt et),some m',some k'=>match(P.underlying kt).bind iM,Aa P et with
    |some kd,some z=>some (.lk kd z comma m' k')
    |_,_=>none
   |_,_,_=>none
 | .mapUpdate t m k x| .insert t m k x=>match P.underlying t,cop m,cop k,cop x with
   |some (.map kt _),some m',some k',some x'=>match(P.underlying kt).bind iM with
    |some kd=>some (.mup kd m' k' x')
    |none=>none
   |_,_,_,_=>none
 | .range t x=>match P.underlying t with
   |some .string=>(cop x).map .rngS
   |_=>none
 | .next x true=>(cop x).map .nxtS
 | .field t x f=>match P.underlying t with
   |some (.struct fs)=>match fs[f]? with
    |some fl=>match nX P fl.type,cop x with
     |some r,some x'=>some (.fldv fl.offset r x')
     |_,_=>none
    |none=>none
   |_=>none
 | .extract x i=>(cop x).map (.ext i)
 | .fieldAddr s x f=>match P.underlying s with
   |some (.struct fs)=>match fs[f]? with
    |some fl=>match P.info? fl.type,cop x with
     |some i,some x'=>if i.size≠0 then some (.fldA fl.offset x') else none
     |_,_=>none
    |none=>none
   |_=>none
 | .indexAddr t x i=>match P.underlying t,cop x,cop i with
   |some (.slice e),some x',some i'=>(P.info? e).map λei=> .idxS ei.size x' i'
   |some (.array m e),some x',some i'=>(P.info? e).map λei=> .idxA m ei.size x' i'
   |_,_,_=>none
 | .index t x i=>match P.underlying t,cop x,cop i with
   |some .string,some x',some i'=>some (.idxStr x' i')
   |_,_,_=>none
 | .load t x=>match nX P t,cop x with
   |some r,some x'=>some (.ld r x')
   |_,_=>none
 | .store t x y=>match P.info? t,cop x,cop y with
   |some i,some x',some y'=>some (.st i.size x' y')
   |_,_,_=>none
 | .box t x=>match P.info? t,cop x with
   |some i,some x'=>some (.box i.size x')
   |_,_=>none
 | .alloc t=>(ft P t).map .alloc
 | .build t parts=>match P.underlying t,ft P t with
   |some (.struct fs),some z=>match fs.toList.mapM (λf=>(P.info? f.type).map λi=>(f.offset,i.size)) with
    |some pl=>(sv (λi=>pl[i]?) parts.toList).map (.bld z)
    |none=>none
   |some (.array _ e),some z=>match P.info? e with
    |some ei=>(sv (λi=>some (i*ei.size,ei.size)) parts.toList).map (.bld z)
    |none=>none
   |_,_=>none
 | .buildSlice t len parts=>match P.underlying t with
   |some (.slice e)=>match P.info? e,ft P e with
    |some ei,some z=>if len*ei.size<=2^24/\0<ei.size then(sv (λi=>some (i*ei.size,ei.size)) parts.toList).map (.bsl ei.size z len) else none
    |_,_=>none
   |_=>none
 | .makeSlice t l c=>match P.underlying t with
   |some (.slice e)=>match P.info? e,ft P e,cop l,cop c with
    |some ei,some z,some l',some c'=>if 0<ei.size then some (.mks ei.size ei.bytes z l' c') else none
    |_,_,_,_=>none
   |_=>none
 | .slice t x lo hi none=>match cop x,tE lo,tE hi with
   |some x',some lo',some hi'=>match P.underlying t with
    |some (.slice e)=>(P.info? e).map λei=> .slS ei.size x' lo' hi'
    |some .string=>some (.slStr x' lo' hi')
    |some (.array m e)=>(P.info? e).map λei=> .slA m ei.size x' lo' hi'
    |some (.pointer r)=>match P.underlying r with
     |some (.array m e)=>(P.info? e).map λei=> .slA m ei.size x' lo' hi'
     |_=>none
    |_=>none
   |_,_,_=>none
 | .makeFunc fn first caps=>if first.size=0 then(caps.toList.mapM cop).map (.mkf fn) else none
 | .call c=>gN P c
 |_=>none
def nS(P:Program)(o:Oper):AI:=
 match o.op with
 | .index t x i=>match P.underlying t,cop x,cop i with
   |some (.array m e),some x',some i'=>match nX P e,P.info? e with
    |some r,some ei=> .idxV m ei.size r x' i'
    |_,_=> .bad
   |_,_,_=> .bad
 | .binOp .eql t x (.const (.slice none 0 0)) _=>match P.underlying t,cop x with
   |some (.slice _),some x'=> .snil false x'
   |_,_=> .bad
 | .binOp .neq t x (.const (.slice none 0 0)) _=>match P.underlying t,cop x with
   |some (.slice _),some x'=> .snil true x'
   |_,_=> .bad
 |_=> .bad
def AI.isX:AI->Bool
 | .bad| .idxV .. | .snil .. =>true
 |_=>false
theorem ki(P:Program)(o:Oper):(nS P o).isX=true:=by
 unfold nS
 repeat' split
 all_goals rfl
def comp(P:Program)(o:Oper):AI:=
 match ck P o with
 |some ai=>ai
 |none=>nS P o
theorem Iw{α:Type}{a:Array α}{x:α}(h:a.toList=[x]):a=#[x]:=by cases a;simp at h;rw[h]
theorem Bu{α:Type}{a:Array α}{x y:α}(h:a.toList=[x,y]):a=#[x,y]:=by cases a;simp at h;rw[h]
def AI.plain:AI->Bool
 | .call .. | .callv .. | .qcall .. | .qcallv .. | .bslP .. | .pcall .. | .chk .. | .bad| .idxV .. | .snil .. =>false
 |_=>true
theorem Cs{ai:AI}{op:BinOp}{t u:TypeId}{x y:Operand}(ho:o.op= .binOp op t x y u)(hc:jx P op t x y=some ai)(he:ev G ts h ai=some (av,h')):Yld P G o ts h av h':=by
 have nilT:∀{kd:Nat} {z:Operand},Ac P t z=some kd->∃nl e,z= .const nl/\((kd=0/\P.underlying t=some (.pointer e)/\nl= .pointer none)\/(∃ps rs v,kd=1/\P.underlying t=some (.func ps rs v)/\nl= .nilFunc)):=λ{kd z} hz=>by
  unfold Ac at hz
  split at hz<;>first|(cases hz;done)|skip
  ·split at hz<;>first|(cases hz;done)|skip
   rename_i e ht
   cases hz
   exact⟨_,e,rfl,.inl ⟨rfl,ht,rfl⟩⟩
  ·split at hz<;>first|(cases hz;done)|skip
   rename_i ps rs v ht
   cases hz
   exact⟨_,0,rfl,.inr ⟨ps,rs,v,rfl,ht,rfl⟩⟩
 unfold jx at hc
 split at hc
 ·rename_i kd q hz
  obtain⟨nl,e,rfl,hk⟩:=nilT hz
  rw[Option.map_eq_some_iff] at hc
  obtain⟨x',hx,rfl⟩:=hc
  exact rf (ne:=false) (e:=e) ho (.inl ⟨rfl,rfl⟩) hk hx he
 ·rename_i kd q hz
  obtain⟨nl,e,rfl,hk⟩:=nilT hz
  rw[Option.map_eq_some_iff] at hc
  obtain⟨x',hx,rfl⟩:=hc
  exact rf (ne:=true) (e:=e) ho (.inl ⟨rfl,rfl⟩) hk hx he
 ·rename_i kd q hz
  obtain⟨nl,e,rfl,hk⟩:=nilT hz
  rw[Option.map_eq_some_iff] at hc
  obtain⟨x',hx,rfl⟩:=hc
  exact rf (ne:=false) (e:=e) ho (.inr ⟨rfl,rfl⟩) hk hx he
 ·rename_i kd q hz
  obtain⟨nl,e,rfl,hk⟩:=nilT hz
  rw[Option.map_eq_some_iff] at hc
  obtain⟨x',hx,rfl⟩:=hc
  exact rf (ne:=true) (e:=e) ho (.inr ⟨rfl,rfl⟩) hk hx he
 ·split at hc<;>first|(cases hc;done)|skip
  ·rename_i k x' y' ht hx hy
   cases hc
   exact IL ho hx hy he
  ·rename_i x' y' ht hx hy
   cases hc
   exact HU ho hx hy he
  ·rename_i x' y' ht hx hy
   split at hc<;>first|(cases hc;done)|skip
   ·cases hc;exact DL (ne:=false) ho ht hx hy he
   ·cases hc;exact DL (ne:=true) ho ht hx hy he
  ·rename_i x' y' ht hx hy
   split at hc<;>first|(cases hc;done)|skip
   ·cases hc;exact DN (ne:=false) ho (by assumption) hx hy he
   ·cases hc;exact DN (ne:=true) ho (by assumption) hx hy he
theorem BK{ai:AI}{c:Call}(ho:o.op= .call c)(hc:gN P c=some ai)(hp:ai.plain=true)(he:ev G ts h ai=some (av,h')):Yld P G o ts h av h':=by
 unfold gN at hc
 split at hc<;>first|(cases hc;done)|skip
 ·rename_i x t h1 h2 h3
  split at hc<;>first|(cases hc;done)|skip
  ·rename_i ht
   rw[Option.map_eq_some_iff] at hc
   obtain⟨x',hx,rfl⟩:=hc
   exact Eg (b:=true) (e:=0) ho h1 (Iw h2) (Iw h3) ht hx he
  ·rename_i e ht
   rw[Option.map_eq_some_iff] at hc
   obtain⟨x',hx,rfl⟩:=hc
   exact Eg (b:=false) (e:=e) ho h1 (Iw h2) (Iw h3) ht hx he
 ·rename_i x y _ h1 h2
  split at hc<;>first|(cases hc;done)|skip
  rename_i hx hy
  cases hc
  exact Kt ho h1 (Bu h2) hx hy he
 ·rename_i x y _ h1 h2
  split at hc<;>first|(cases hc;done)|skip
  rename_i hx hy
  cases hc
  exact Kl ho h1 (Bu h2) hx hy he
 ·rename_i s x t u h1 h2 h3
  split at hc<;>first|(cases hc;done)|skip
  rename_i e s' x' ht hs hx
  split at hc<;>first|(cases hc;done)|skip
  rename_i ei z hei hz
  split at hc
  ·rename_i htu
   cases hc
   subst htu
   exact If ho h1 (Bu h2) (Bu h3) ht hei hz hs hx he
  ·split at hc<;>first|(cases hc;done)|skip
   rename_i kn hu
   split at hc<;>first|(cases hc;done)|skip
   rename_i hsp
   cases hc
   exact Gu ho h1 (Bu h2) (Bu h3) ht hu hei hz hsp hs hx he
 ·rename_i d x t u h1 h2 h3
  split at hc<;>first|(cases hc;done)|skip
  rename_i e d' x' ht hd hx
  rw[Option.map_eq_some_iff] at hc
  obtain⟨ei,hei,rfl⟩:=hc
  exact HZ ho h1 (Bu h2) (Bu h3) ht hei hd hx he
 ·rw[Option.map_eq_some_iff] at hc
  obtain⟨x',hx,rfl⟩:=hc
  simp[AI.plain] at hp
 ·rw[Option.map_eq_some_iff] at hc
  obtain⟨x',hx,rfl⟩:=hc
  simp[AI.plain] at hp
theorem IB{ai:AI}(hc:ck P o=some ai)(hp:ai.plain=true)(he:ev G ts h ai=some (av,h')):Yld P G o ts h av h':=by
 unfold ck at hc
 split at hc<;>first|(cases hc;done)|skip
 ·rename_i x ho;rw[Option.map_eq_some_iff] at hc;obtain⟨x',hx,rfl⟩:=hc;exact DR (.inl ho) hx he
 ·rename_i x ho;rw[Option.map_eq_some_iff] at hc;obtain⟨x',hx,rfl⟩:=hc;exact DR (.inr ho) hx he
 ·rename_i x ho;rw[Option.map_eq_some_iff] at hc;obtain⟨x',hx,rfl⟩:=hc;exact EG ho hx he
 ·rename_i c x y ho
  split at hc<;>first|(cases hc;done)|skip
  rename_i hc' hx hy
  cases hc
  exact Ha ho hc' hx hy he
 ·rename_i x ho;rw[Option.map_eq_some_iff] at hc;obtain⟨x',hx,rfl⟩:=hc;exact Iz ho hx he
 ·rename_i x ho;rw[Option.map_eq_some_iff] at hc;obtain⟨x',hx,rfl⟩:=hc;exact Iy ho hx he
 ·rename_i op t x y _ ho;exact Cs ho hc he
 ·rename_i s d x ho
  split at hc<;>first|(cases hc;done)|skip
  ·rename_i hs hd
   rw[Option.map_eq_some_iff] at hc;obtain⟨x',hx,rfl⟩:=hc;exact GP ho hs hd hx he
  ·rename_i hs hd
   rw[Option.map_eq_some_iff] at hc;obtain⟨x',hx,rfl⟩:=hc;exact Gs ho hs hd hx he
  ·rename_i e hs hd
   split at hc<;>first|(cases hc;done)|skip
   rename_i he8
   rw[Option.map_eq_some_iff] at hc;obtain⟨x',hx,rfl⟩:=hc
   exact Hw ho hs he8 hd hx he
 ·rename_i t ho;cases hc;exact IZ ho he
 ·rename_i t m k comma ho
  split at hc<;>first|(cases hc;done)|skip
  rename_i kt et m' k' ht hm hk
  split at hc<;>first|(cases hc;done)|skip
  rename_i kd z hkd hz
  cases hc
  obtain⟨kind,hkt,hkd⟩:=Option.bind_eq_some_iff.1 hkd
  exact Kz ho ht hkt hkd hz hm hk he
 ·rename_i t m k x ho
  split at hc<;>first|(cases hc;done)|skip
  rename_i kt et m' k' x' ht hm hk hx
  split at hc<;>first|(cases hc;done)|skip
  rename_i kd hkd
  cases hc
  obtain⟨kind,hkt,hkd⟩:=Option.bind_eq_some_iff.1 hkd
  exact DP (.inl ho) ht hkt hkd hm hk hx he
 ·rename_i t m k x ho
  split at hc<;>first|(cases hc;done)|skip
  rename_i kt et m' k' x' ht hm hk hx
  split at hc<;>first|(cases hc;done)|skip
  rename_i kd hkd
  cases hc
  obtain⟨kind,hkt,hkd⟩:=Option.bind_eq_some_iff.1 hkd
  exact DP (.inr ho) ht hkt hkd hm hk hx he
 ·rename_i t x ho
  split at hc<;>first|(cases hc;done)|skip
  rename_i ht
  rw[Option.map_eq_some_iff] at hc;obtain⟨x',hx,rfl⟩:=hc
  exact Gd ho ht hx he
 ·rename_i x ho
  rw[Option.map_eq_some_iff] at hc;obtain⟨x',hx,rfl⟩:=hc
  exact HY ho hx he
 ·rename_i t x f ho
  split at hc<;>first|(cases hc;done)|skip
  rename_i fs ht
  split at hc<;>first|(cases hc;done)|skip
  rename_i fl hf
  split at hc<;>first|(cases hc;done)|skip
  rename_i hr hx
  cases hc
  exact GJ ho ht hf hr hx he
 ·rename_i x i ho;rw[Option.map_eq_some_iff] at hc;obtain⟨x',hx,rfl⟩:=hc;exact It ho hx he
 ·rename_i s x f ho
  split at hc<;>first|(cases hc;done)|skip
  rename_i fs ht
  split at hc<;>first|(cases hc;done)|skip
  rename_i fl hf
  split at hc<;>first|(cases hc;done)|skip
  rename_i hi hx
  split at hc<;>first|(cases hc;done)|skip
  rename_i hz
  cases hc
  exact GD ho ht hf hi hz hx he
 ·rename_i t x i ho
  split at hc<;>first|(cases hc;done)|skip
  ·rename_i ht hx hi
   rw[Option.map_eq_some_iff] at hc;obtain⟨ei,hei,rfl⟩:=hc
   exact GS ho ht hei hx hi he
  ·rename_i ht hx hi
   rw[Option.map_eq_some_iff] at hc;obtain⟨ei,hei,rfl⟩:=hc
   exact Hb ho ht hei hx hi he
 ·rename_i t x i ho
  split at hc<;>first|(cases hc;done)|skip
  rename_i ht hx hi
  cases hc
  exact Do ho ht hx hi he
 ·rename_i t x ho
  split at hc<;>first|(cases hc;done)|skip
  rename_i hr hx
  cases hc
  exact JV ho hr hx he
 ·rename_i t x y ho
  split at hc<;>first|(cases hc;done)|skip
  rename_i hi hx hy
  cases hc
  exact KC ho hi hx hy he
 ·rename_i t x ho
  split at hc<;>first|(cases hc;done)|skip
  rename_i hi hx
  cases hc
  exact Jh ho hx he
 ·rename_i t ho
  rw[Option.map_eq_some_iff] at hc;obtain⟨z,hz,rfl⟩:=hc
  exact FE ho hz he
 ·rename_i t parts ho
  split at hc<;>first|(cases hc;done)|skip
  ·rename_i fs z ht hz
   split at hc<;>first|(cases hc;done)|skip
   rename_i pl hpl
   rw[Option.map_eq_some_iff] at hc;obtain⟨ps,hps,rfl⟩:=hc
   exact Gv (places:=pl.toArray) ho ht hz (by simpa using hpl) (by simpa using kx hps) he
  ·rename_i e z ht hz
   split at hc<;>first|(cases hc;done)|skip
   rename_i ei hei
   rw[Option.map_eq_some_iff] at hc;obtain⟨ps,hps,rfl⟩:=hc
   exact Gc ho ht hz hei (kx hps) he
 ·rename_i t len parts ho
  split at hc<;>first|(cases hc;done)|skip
  rename_i e ht
  split at hc<;>first|(cases hc;done)|skip
  rename_i ei z hei hz
  split at hc<;>first|(cases hc;done)|skip
  rename_i hb
  rw[Option.map_eq_some_iff] at hc;obtain⟨ps,hps,rfl⟩:=hc
  exact Jr ho ht hz hei hb.1 hb.2 (kx hps) he
 ·rename_i t l c ho
  split at hc<;>first|(cases hc;done)|skip
  rename_i e ht
  split at hc<;>first|(cases hc;done)|skip
  rename_i ei z l' c' hei hz hl hc'
  split at hc<;>first|(cases hc;done)|skip
  rename_i hb
  cases hc
  exact Ig ho ht hz hei hb hl hc' he
 ·rename_i t x lo hi ho
  split at hc<;>first|(cases hc;done)|skip
  rename_i x' lo' hi' hx hlo hhi
  split at hc<;>first|(cases hc;done)|skip
  ·rename_i e ht
   rw[Option.map_eq_some_iff] at hc;obtain⟨ei,hei,rfl⟩:=hc
   exact ID ho ht hei hx hlo hhi he
  ·rename_i ht
   cases hc
   exact ED ho ht hx hlo hhi he
  ·rename_i m e ht
   rw[Option.map_eq_some_iff] at hc;obtain⟨ei,hei,rfl⟩:=hc
   exact Ef ho (.inl ht) hei hx hlo hhi he
  ·rename_i r ht
   split at hc<;>first|(cases hc;done)|skip
   rename_i m e ht2
   rw[Option.map_eq_some_iff] at hc;obtain⟨ei,hei,rfl⟩:=hc
   exact Ef ho (.inr ⟨r,ht,ht2⟩) hei hx hlo hhi he
 ·rename_i fn first caps ho
  split at hc<;>first|(cases hc;done)|skip
  rename_i hf
  have:first=#[]:=Array.eq_empty_of_size_eq_zero hf
  subst this
  rw[Option.map_eq_some_iff] at hc;obtain⟨cs,hcs,rfl⟩:=hc
  exact Jq ho hcs he
 ·rename_i c ho;exact BK ho hc hp he
theorem Ho{esz:Nat}{z:List AV}{len:Nat}{ps:List (Nat × Nat × AOp)}(hc:ck P o=some (.bsl esz z len ps))(he:ev G ts h (.bslP esz z len ps)=some (av,h')):Yld P G o ts h av h':=by
 unfold ck at hc
 split at hc<;>first|(simp at hc;done)|skip
 all_goals first
  |(rw[Option.map_eq_some_iff] at hc;obtain⟨_,_,hc⟩:=hc;cases hc;done)
  |(rename_i t len' parts ho
    split at hc<;>first|(cases hc;done)|skip
    rename_i e ht
    split at hc<;>first|(cases hc;done)|skip
    rename_i ei z' hei hz
    split at hc<;>first|(cases hc;done)|skip
    rename_i hb
    rw[Option.map_eq_some_iff] at hc;obtain⟨ps',hps,hc⟩:=hc
    cases hc
    exact HN ho ht hz hei hb.1 hb.2 (kx hps) he)
  |(unfold jx at hc;repeat' split at hc
    all_goals first
     |(cases hc;done)
     |(rw[Option.map_eq_some_iff] at hc;obtain⟨_,_,hc⟩:=hc;cases hc;done))
  |(unfold gN at hc
    repeat' split at hc
    all_goals first
     |(cases hc;done)
     |(rw[Option.map_eq_some_iff] at hc;obtain⟨_,h1,hc⟩:=hc;cases hc;done))
  |(repeat' split at hc
    all_goals first
     |(cases hc;done)
     |(rw[Option.map_eq_some_iff] at hc;obtain⟨_,_,hc⟩:=hc;cases hc;done))
theorem EL{z:List AV}(hc:ck P o=some (.alloc z))(W:World)(S:Nat->Prop)(φ:au)(n:Nat)(a:Act):
 z.all AV.isCell=true/\∃zc t,(execOp a.eval o).run P W= .ok (.value (.pointer (some ⟨W.heap.size,0,none⟩))) (W.alloc (.cells zc t))/\Ptw W S φ n z zc.toList:=by
 unfold ck at hc
 split at hc<;>first|(simp at hc;done)|skip
 all_goals first
  |(rw[Option.map_eq_some_iff] at hc;obtain⟨_,_,hc⟩:=hc;cases hc;done)
  |(rename_i t ho
    rw[Option.map_eq_some_iff] at hc;obtain⟨z',hz,hc⟩:=hc
    cases hc
    obtain⟨zv,r1,r2,r3,_,hcell⟩:=dt hz W S φ n
    exact⟨hcell,zv.cells,t,by simp[execOp,ho,Instr.alloc,newVar,newRow,r1],r2⟩)
  |(unfold jx at hc;repeat' split at hc
    all_goals first
     |(cases hc;done)
     |(rw[Option.map_eq_some_iff] at hc;obtain⟨_,_,hc⟩:=hc;cases hc;done))
  |(unfold gN at hc
    repeat' split at hc
    all_goals first
     |(cases hc;done)
     |(rw[Option.map_eq_some_iff] at hc;obtain⟨_,h1,hc⟩:=hc;cases hc;done))
  |(repeat' split at hc
    all_goals first
     |(cases hc;done)
     |(rw[Option.map_eq_some_iff] at hc;obtain⟨_,_,hc⟩:=hc;cases hc;done))
theorem Ce{m esz:Nat}{r:Option Nat}{x i:AOp}(hc:nS P o= .idxV m esz r x i)(he:ev G ts h (.idxV m esz r x i)=some (av,h')):Yld P G o ts h av h':=by
 unfold nS at hc
 split at hc
 ·rename_i t x0 i0 ho
  split at hc<;>first|(cases hc;done)|skip
  rename_i ht hx hi
  split at hc<;>first|(cases hc;done)|skip
  rename_i hr hei
  cases hc
  exact HI ho ht hei hr hx hi he
 ·split at hc<;>cases hc
 ·split at hc<;>cases hc
 ·cases hc
theorem Dh{ne:Bool}{x:AOp}(hc:nS P o= .snil ne x):∃t u e z,o.op= .binOp (if ne then .neq else .eql) t z (.const (.slice none 0 0)) u/\P.underlying t=some (.slice e)/\cop z=some x:=by
 unfold nS at hc
 split at hc
 ·split at hc<;>first|(cases hc;done)|skip
  split at hc<;>cases hc
 ·rename_i t z u ho
  split at hc<;>first|(cases hc;done)|skip
  rename_i ht hx
  cases hc
  exact⟨t,u,_,z,ho,ht,hx⟩
 ·rename_i t z u ho
  split at hc<;>first|(cases hc;done)|skip
  rename_i ht hx
  cases hc
  exact⟨t,u,_,z,ho,ht,hx⟩
 ·cases hc
end
end Go.Aw
namespace Go.Aw
inductive ARes where
 |ret (v:AV)
 |pan (t:TypeId) (v:PV)
inductive ERel (W:World) (S:Nat->Prop) (φ:au) (n:Nat):ARes->Ending->Prop where
 |ret (v:AV) (x:Value):VRel W S φ n v x->ERel W S φ n (.ret v) (.returned x)
 |pan (t:TypeId) (v:PV) (x:Value):PRel W S v x->ERel W S φ n (.pan t v) (.panicked [{v:= .iface t x,recovered:=false}])
def kS(W:World)(S:Nat->Prop)(φ:au)(n:Nat)(args:List AV)(vs:Array Value):Prop:=
 vs.size=args.length/\∀(j:Nat) (c:AV) (v:Value),args[j]?=some c->vs[j]?=some v->VRel W S φ n c v
def fS(P:Program)(f:FuncId):Bool:=
 match P.funcs[f]? with
 |some fn=>fn.body.isSome&& !(fn.name== "runtime.NumGoroutine")
 |none=>false
def AC(P:Program)(G:az)(f:FuncId)(args:List AV)(h:List AO)(R:ARes->List AO->Prop):Prop:=
 fS P f=true/\∀(W:World) (S:Nat->Prop) (φ:au) (vs:Array Value),HRel G W S φ h->kS W S φ h.length args vs->
  Calls P f vs W λe W'=>∃r S' φ' h',R r h'/\HRel G W' S' φ' h'/\ERel W' S' φ' h'.length r e/\Keep W S φ h W' S' φ' h'
theorem AC.mono{P:Program}{G:az}{f:FuncId}{args:List AV}{h:List AO}{R R':ARes->List AO->Prop}(H:AC P G f args h R)(hr:∀r h',R r h'->R' r h'):AC P G f args h R':=
 ⟨H.1,λW S φ vs a b=>(H.2 W S φ vs a b).mono λ_ _ ⟨r,S',φ',h',k,rest⟩=>⟨r,S',φ',h',hr _ _ k,rest⟩⟩
structure CO where
 dst:Option Nat
 guard:Option (Nat × Bool)
 ai:AI
def put(d:Option Nat)(v:AV)(ts:List AV):List AV:=
 match d with
 |some d=>ts.set d v
 |none=>ts
def Cnd(b:Bool)(A B:Prop):Prop:=(b=true->A)/\(b=false->B)
abbrev KT:=List AV->List AO->Prop
abbrev QP:=TypeId->PV->List AO->Prop
def okE(r:Option (AV × List AO))(K:AV->List AO->Prop):Prop:=∃v h',r=some (v,h')/\K v h'
def lK(K:AV->List AO->Prop)(Qp:QP):ARes->List AO->Prop
 | .ret v,h=>K v h
 | .pan t v,h=>Qp t v h
def oK(P:Program)(G:az)(ai:AI)(ts:List AV)(h:List AO)(K:AV->List AO->Prop)(Qp:QP):Prop:=
 match ai with
 | .call f args=>AC P G f (args.map (·.ev ts)) h (lK K Qp)
 | .callv g args=>match g.ev ts with
   | .fn (.func f) caps=>AC P G f (args.map (·.ev ts)++caps) h (lK K Qp)
   |_=>False
 | .qcall f args=>∃v,AC P G f (args.map (·.ev ts)) h (λr h'=>r= .ret v/\h'=h)/\K v h
 | .qcallv g args=>match g.ev ts with
   | .fn (.func f) caps=>∃v,AC P G f (args.map (·.ev ts)++caps) h (λr h'=>r= .ret v/\h'=h)/\K v h
   |_=>False
 | .pcall f args=>∃v,(∀h,AC P G f (args.map (·.ev ts)) h (λr h'=>r= .ret v/\h'=h))/\K v h
 | .chk sz n d=>ev G ts h (.ld sz (.t n))=some (ts.getD d .any,h)/\K .any h
 | .bad=>False
 | .snil ne x=>match x.ev ts with
   | .nils=>K (.p (.bool (!ne))) h
   | .p (.lst _ [])=>K (.p (.bool true)) h/\K (.p (.bool false)) h
   | .p (.lst _ (_::_))=>K (.p (.bool ne)) h
   | .sl _ _ _ len=>0<len/\K (.p (.bool ne)) h
   |_=>False
 |ai=>okE (ev G ts h ai) K
def gK(c:CO)(ts:List AV)(A B:Prop):Prop:=
 match c.guard with
 |none=>A
 |some (j,w)=>match ts.getD j .any with
  | .p (.bool b)=>Cnd (if w then b else !b) A B
  | .tup []=>B
  |_=>False
def sK(P:Program)(G:az)(c:CO)(ts:List AV)(h:List AO)(K:KT)(Qp:QP):Prop:=
 gK c ts (oK P G c.ai ts h (λv h'=>K (put c.dst v ts) h') Qp) (K (put c.dst (.tup []) ts) h)
def rK(P:Program)(G:az):List CO->List AV->List AO->KT->QP->Prop
 |[],ts,h,K,_=>K ts h
 |c::r,ts,h,K,Qp=>sK P G c ts h (λts' h'=>rK P G r ts' h' K Qp) Qp
structure St (G:az) (W0:World) (S0:Nat->Prop) (φ0:au) (h0:List AO) (W:World) (S:Nat->Prop) (φ:au) (a:Act) (ts:List AV) (h:List AO):Prop where
 hrel:HRel G W S φ h
 trel:TRel W S φ h.length ts a.tmps
 defers:a.defers=[]
 keep:Keep W0 S0 φ0 h0 W S φ h
inductive AX where
 |normal
 |exit (id:Nat)
 |ret
 |pan (t:TypeId) (v:PV)
inductive XRel (W:World) (S:Nat->Prop):AX->Exit->Prop where
 |normal:XRel W S .normal .normal
 |exit (id:Nat):XRel W S (.exit id) (.exit id)
 |ret:XRel W S .ret .ret
 |pan (t:TypeId) (v:PV) (x:Value):PRel W S v x->XRel W S (.pan t v) (.panic [{v:= .iface t x,recovered:=false}])
def AQ(G:az)(W0:World)(S0:Nat->Prop)(φ0:au)(h0:List AO)(Q:AX->List AV->List AO->Prop)(e:Exit)(a:Act)(W:World):Prop:=
 ∃x ts h S φ,Q x ts h/\XRel W S x e/\St G W0 S0 φ0 h0 W S φ a ts h
section
variable {P:Program} {G:az} {W0:World} {S0:Nat->Prop} {φ0:au} {h0:List AO}
theorem St.put{W:World}{S:Nat->Prop}{φ:au}{a:Act}{ts:List AV}{h:List AO}(s:St G W0 S0 φ0 h0 W S φ a ts h){W':World}{S':Nat->Prop}{φ':au}{h':List AO}{v:AV}{x:Value}(d:Option Nat)
 (hv:VRel W' S' φ' h'.length v x)(H:HRel G W' S' φ' h')(K:Keep W S φ h W' S' φ' h'):St G W0 S0 φ0 h0 W' S' φ' (a.put d x) (put d v ts) h' where
 hrel:=H
 trel:=by
  have:=(s.trel.kept K.toKept).put hv d
  cases d<;>exact this
 defers:=by cases d<;>exact s.defers
 keep:=s.keep.trans K
def _root_.Go.Aw.AI.isQ:AI->Bool
 | .qcall .. | .qcallv .. | .bslP .. | .pcall .. | .chk .. =>true
 |_=>false
def vI(P:Program)(ops:Array Oper)(o:Oper)(c:CO):Prop:=
 c.dst=o.dst/\(match o.guard,c.guard with
  |none,none=>True
  |some (j,w),some (d,w')=>w=w'/\(ops[j]?).bind (·.dst)=some d
  |_,_=>False)/\
 ((ck P o=some c.ai/\c.ai.isQ=false)\/(∃f l,ck P o=some (.call f l)/\c.ai= .qcall f l)\/(∃f l,ck P o=some (.callv f l)/\c.ai= .qcallv f l)\/
   (∃f l,ck P o=some (.call f l)/\c.ai= .pcall f l)\/(∃e z n l,ck P o=some (.bsl e z n l)/\c.ai= .bslP e z n l)\/nS P o=c.ai)
theorem vV{o:Oper}{ai:AI}(hc:ck P o=some ai)(hx:ai.isX=true):False:=by
 cases ai<;>simp only[AI.isX] at hx<;>first|(cases hx;done)|skip
 all_goals
  unfold ck at hc
  split at hc<;>first|(simp at hc;done)|skip
  all_goals first
   |(rw[Option.map_eq_some_iff] at hc;obtain⟨_,_,hc⟩:=hc;cases hc;done)
   |(unfold jx at hc;repeat' split at hc
     all_goals first
      |(cases hc;done)
      |(rw[Option.map_eq_some_iff] at hc;obtain⟨_,_,hc⟩:=hc;cases hc;done))
   |(unfold gN at hc
     repeat' split at hc
     all_goals first
      |(cases hc;done)
      |(rw[Option.map_eq_some_iff] at hc;obtain⟨_,h1,hc⟩:=hc;cases hc;done))
   |(repeat' split at hc
     all_goals first
      |(cases hc;done)
      |(rw[Option.map_eq_some_iff] at hc;obtain⟨_,_,hc⟩:=hc;cases hc;done))
theorem mq{o:Oper}{a:Act}{W W':World}{n:Next}{v:Value}{K:Act->World->Prop}{Q:Exit->Act->World->Prop}(hr:(execOp a.eval o).run P W= .ok n W')(hn:NV n v)(h:K (a.put o.dst v) W'):o.wp P a W K Q:=by
 unfold Oper.wp
 rw[hr]
 cases hn
 ·exact h
 ·exact h
theorem Fh{ops:Array Oper}{o:Oper}{c:CO}(hc:vI P ops o c){W:World}{S:Nat->Prop}{φ:au}{n:Nat}{a:Act}{ts:List AV}(T:TRel W S φ n ts a.tmps){A B:Prop}(hg:gK c ts A B):
 (Region.wanted o (yielded ops a.tmps)=true/\A)\/(Region.wanted o (yielded ops a.tmps)=false/\B):=by
 obtain⟨_,h2,_⟩:=hc
 unfold gK at hg
 unfold Region.wanted
 cases hog:o.guard with
 |none=>
  rw[hog] at h2
  cases hcg:c.guard with
  |none=>rw[hcg] at hg;exact .inl ⟨rfl,hg⟩
  |some q=>rw[hcg] at h2;exact h2.elim
 |some q=>
  obtain⟨j,w⟩:=q
  rw[hog] at h2
  cases hcg:c.guard with
  |none=>rw[hcg] at h2;exact h2.elim
  |some q'=>
   obtain⟨d,w'⟩:=q'
   rw[hcg] at h2 hg
   obtain⟨rfl,hd⟩:=h2
   simp only at hg
   split at hg
   ·rename_i b hb
    have hy:yielded ops a.tmps j=some b:=by
     unfold yielded
     rw[hd]
     simp only[Option.bind_some]
     have hl:d<ts.length:=by
      rcases Nat.lt_or_ge d ts.length with h'|h'
      ·exact h'
      ·rw[List.getD_eq_getElem?_getD,List.getElem?_eq_none h'] at hb;cases hb
     have hts:ts[d]?=some (.p (.bool b)):=by
      rw[List.getD_eq_getElem?_getD,List.getElem?_eq_getElem hl] at hb
      rw[List.getElem?_eq_getElem hl];exact congrArg some hb
     have:=kD (T.get d _ hts)
     have hl2:d<a.tmps.size:=by rw[T.size];exact hl
     rw[Array.getD_eq_getD_getElem?,Array.getElem?_eq_getElem hl2] at this
     rw[Array.getElem?_eq_getElem hl2]
     simp only[Option.getD_some] at this
     rw[this]
    simp only[hy]
    cases w<;>cases b<;>simp[Cnd] at hg⊢ <;>exact hg
   ·rename_i hb
    have hy:yielded ops a.tmps j=none:=by
     unfold yielded
     rw[hd]
     simp only[Option.bind_some]
     have hl:d<ts.length:=by
      rcases Nat.lt_or_ge d ts.length with h'|h'
      ·exact h'
      ·rw[List.getD_eq_getElem?_getD,List.getElem?_eq_none h'] at hb;cases hb
     have hts:ts[d]?=some (.tup []):=by
      rw[List.getD_eq_getElem?_getD,List.getElem?_eq_getElem hl] at hb
      rw[List.getElem?_eq_getElem hl];exact congrArg some hb
     have hv:=T.get d _ hts
     have hl2:d<a.tmps.size:=by rw[T.size];exact hl
     rw[Array.getD_eq_getD_getElem?,Array.getElem?_eq_getElem hl2] at hv
     rw[Array.getElem?_eq_getElem hl2]
     simp only[Option.getD_some] at hv
     generalize a.tmps[d]=x at hv⊢
     cases hv
     rfl
    simp only[hy]
    exact .inr ⟨rfl,hg⟩
   ·exact hg.elim
theorem AG{ops:Array Oper}{o:Oper}{c:CO}(hc:vI P ops o c){W:World}{S:Nat->Prop}{φ:au}{a:Act}{ts:List AV}{h:List AO}(s:St G W0 S0 φ0 h0 W S φ a ts h){K:KT}{Qp:QP}
 (hk:sK P G c ts h K Qp){K':Act->World->Prop}{Q':Exit->Act->World->Prop}(hK:∀a' W' S' φ' ts' h',(∃x,a'=a.put o.dst x)->St G W0 S0 φ0 h0 W' S' φ' a' ts' h'->K ts' h'->K' a' W')
 (hQ:∀W' S' φ' h' t v x,PRel W' S' v x->St G W0 S0 φ0 h0 W' S' φ' a ts h'->Qp t v h'->Q' (.panic [{v:= .iface t x,recovered:=false}]) a W'):
 (Region.wanted o (yielded ops a.tmps)=true/\o.wp P a W K' Q')\/(Region.wanted o (yielded ops a.tmps)=false/\K' (a.put o.dst undef) W):=by
 have hd:=hc.1
 rcases Fh hc s.trel hk with⟨hw,hA⟩|⟨hw,hB⟩
 ·refine .inl ⟨hw,?_⟩
  obtain⟨_,_,hcomp⟩:=hc
  have plainS:ck P o=some c.ai->c.ai.plain=true->okE (ev G ts h c.ai) (λv h'=>K (put c.dst v ts) h')->o.wp P a W K' Q':=λh1 h2 ⟨v,h',h3,h4⟩=>by
   obtain⟨n,x,W',S',φ',r1,r2,r3,r4,r5⟩:=IB h1 h2 h3 W S φ a s.hrel s.trel
   exact mq r1 r2 (hK _ _ _ _ _ _ ⟨_,rfl⟩ (by rw[←hd];exact s.put c.dst r3 r4 r5) h4)
  have callS:∀(f:FuncId) (args:List AV) (vs:Array Value) (R:ARes->List AO->Prop),(fS P f=true->(execOp a.eval o).run P W= .ok (.enter f vs) W)->kS W S φ h.length args vs->AC P G f args h R->
   (∀r h',R r h'->lK (λv h'=>K (put c.dst v ts) h') Qp r h')->o.wp P a W K' Q':=λf args vs R e1 e2 e3 e4=>by
   unfold Oper.wp
   rw[e1 e3.1,Oper.upon_enter]
   refine(e3.2 W S φ vs s.hrel e2).mono λe W' ⟨r,S',φ',h',k1,k2,k3,k4⟩=>?_
   have:=e4 r h' k1
   cases k3 with
   |ret v x hv=>exact hK _ _ _ _ _ _ ⟨_,rfl⟩ (by rw[←hd];exact s.put c.dst hv k2 k4) this
   |pan t v x hp=>
    exact hQ W' S' φ' h' t v x hp ⟨k2,s.trel.kept k4.toKept,s.defers,s.keep.trans k4⟩ this
  have exact_R:∀(v:AV) (r:ARes) (h':List AO),K (put c.dst v ts) h->(r= .ret v/\h'=h)->lK (λv h'=>K (put c.dst v ts) h') Qp r h':=λv r h' k e=>by
   obtain⟨rfl,rfl⟩:=e;exact k
  have beg:∀(cl:Call),o.op= .call cl->∀(f:FuncId) (caps:Array Value) (fo:Operand),cl.callee= .value fo->a.eval fo= .func (.func f) #[] caps->fS P f=true->(execOp a.eval o).run P W= .ok (.enter f (cl.args.map a.eval++caps)) W:=λcl h1 f caps fo h2 h3 h4=>by
   unfold fS at h4
   split at h4<;>first|(cases h4;done)|skip
   rename_i fn hf
   simp only[Bool.and_eq_true,Bool.not_eq_true'] at h4
   obtain⟨bd,hbd⟩:=Option.isSome_iff_exists.1 h4.1
   have hnm:¬(fn.name= "runtime.NumGoroutine"):=by simpa using h4.2
   simp[execOp,h1,resolve,h2,h3,Deferred.ofValue,invoke,callFunc,hf,hnm,hbd]
  have argsR:∀(l:List Operand) (l':List AOp),l.mapM cop=some l'->kS W S φ h.length (l'.map (·.ev ts)) (l.map a.eval).toArray:=by
   intro l
   induction l with
   |nil=>intro l' e;simp at e;subst e;exact⟨rfl,λj c v h=>by simp at h⟩
   |cons y r ih=>
    intro l' e
    simp only[List.mapM_cons] at e
    cases hy:cop y with
    |none=>rw[hy] at e;cases e
    |some y'=>
     cases hr:r.mapM cop with
     |none=>rw[hy,hr] at e;cases e
     |some r'=>
      rw[hy,hr] at e
      cases e
      obtain⟨i1,i2⟩:=ih r' hr
      refine⟨by simpa using i1,λj c v h1 h2=>?_⟩
      cases j with
      |zero=>simp at h1 h2;subst h1;subst h2;exact am hy s.trel
      |succ j=>simp at h1 h2;exact i2 j c v (by simpa using h1) (by simpa using h2)
  have argsC:∀(l:List AV) (vs:Array Value) (caps:List AV) (cs:Array Value),kS W S φ h.length l vs->cs.size=caps.length->(∀(j:Nat) (c:AV) (v:Value),caps[j]?=some c->cs[j]?=some v->VRel W S φ h.length c v)->kS W S φ h.length (l++caps) (vs++cs):=λl vs caps cs h1 h2 h3=>by
   refine⟨by simp[h1.1,h2],λj c v k1 k2=>?_⟩
   rw[List.getElem?_append] at k1
   rw[Array.getElem?_append,h1.1] at k2
   split at k1
   ·rename_i hj
    rw[if_pos hj] at k2;exact h1.2 _ _ _ k1 k2
   ·rename_i hj
    rw[if_neg hj] at k2;exact h3 _ _ _ k1 k2
  have compCallF:∀f l,ck P o=some (.call f l)->∃cl,o.op= .call cl/\cl.callee= .value (.func f)/\cl.args.toList.mapM cop=some l:=λf l hcc=>by
   unfold ck at hcc
   split at hcc<;>first|(simp at hcc;done)|skip
   all_goals first
    |(rw[Option.map_eq_some_iff] at hcc;obtain⟨_,_,hcc⟩:=hcc;cases hcc;done)
    |(rename_i cl ho
      unfold gN at hcc
      repeat' split at hcc
      all_goals first
       |(cases hcc;done)
       |(rw[Option.map_eq_some_iff] at hcc;obtain⟨_,h1,hcc⟩:=hcc;cases hcc;done)
       |(rw[Option.map_eq_some_iff] at hcc;obtain⟨_,h1,hcc⟩:=hcc;cases hcc;exact⟨cl,ho,by assumption,h1⟩))
    |(unfold jx at hcc;repeat' split at hcc
      all_goals first
       |(cases hcc;done)
       |(rw[Option.map_eq_some_iff] at hcc;obtain⟨_,_,hcc⟩:=hcc;cases hcc;done))
    |(repeat' split at hcc
      all_goals first
       |(cases hcc;done)
       |(rw[Option.map_eq_some_iff] at hcc;obtain⟨_,_,hcc⟩:=hcc;cases hcc;done))
  have compCallV:∀g l,ck P o=some (.callv g l)->∃cl t,o.op= .call cl/\cl.callee= .value (.tmp t)/\g= .t t/\cl.args.toList.mapM cop=some l:=λg l hcc=>by
   unfold ck at hcc
   split at hcc<;>first|(simp at hcc;done)|skip
   all_goals first
    |(rw[Option.map_eq_some_iff] at hcc;obtain⟨_,_,hcc⟩:=hcc;cases hcc;done)
    |(rename_i cl ho
      unfold gN at hcc
      repeat' split at hcc
      all_goals first
       |(cases hcc;done)
       |(rw[Option.map_eq_some_iff] at hcc;obtain⟨_,h1,hcc⟩:=hcc;cases hcc;done)
       |(rw[Option.map_eq_some_iff] at hcc;obtain⟨_,h1,hcc⟩:=hcc;cases hcc;exact⟨cl,_,ho,by assumption,rfl,h1⟩))
    |(unfold jx at hcc;repeat' split at hcc
      all_goals first
       |(cases hcc;done)
       |(rw[Option.map_eq_some_iff] at hcc;obtain⟨_,_,hcc⟩:=hcc;cases hcc;done))
    |(repeat' split at hcc
      all_goals first
       |(cases hcc;done)
       |(rw[Option.map_eq_some_iff] at hcc;obtain⟨_,_,hcc⟩:=hcc;cases hcc;done))
  have mapA:∀(cl:Call),(cl.args.toList.map a.eval).toArray=cl.args.map a.eval:=λcl=>by apply Array.ext';simp
  have doF:∀f l,ck P o=some (.call f l)->∀R,AC P G f (l.map (·.ev ts)) h R->(∀r h',R r h'->lK (λv h'=>K (put c.dst v ts) h') Qp r h')->o.wp P a W K' Q':=λf l hcc R h1 h2=>by
   obtain⟨cl,q1,q2,q3⟩:=compCallF f l hcc
   have hA:=argsR _ _ q3
   rw[mapA] at hA
   exact callS f _ _ R (λhcl=>by have:=beg cl q1 f #[] _ q2 rfl hcl;simpa using this) hA h1 h2
  have doV:∀g l,ck P o=some (.callv g l)->∀f caps,g.ev ts= .fn (.func f) caps->∀R,AC P G f (l.map (·.ev ts)++caps) h R->(∀r h',R r h'->lK (λv h'=>K (put c.dst v ts) h') Qp r h')->o.wp P a W K' Q':=λg l hcc f caps hg R h1 h2=>by
   obtain⟨cl,t,q1,q2,rfl,q3⟩:=compCallV g l hcc
   have hA:=argsR _ _ q3
   rw[mapA] at hA
   have hv:=am (o:= .tmp t) rfl s.trel
   rw[hg] at hv
   generalize hx:a.eval (.tmp t)=x at hv
   cases hv with
   |fn _ _ vs hs hc'=>
    exact callS f _ _ R (λhcl=>beg cl q1 f vs _ q2 hx hcl) (argsC _ _ _ _ hA hs hc') h1 h2
  rcases hcomp with⟨hcomp,hq⟩|⟨f,l,hcomp,hai⟩|⟨g,l,hcomp,hai⟩|⟨f,l,hcomp,hai⟩|⟨ez,z,n,l,hcomp,hai⟩|hcomp
  ·by_cases hp:c.ai.plain=true
   ·refine plainS hcomp hp ?_
    unfold oK at hA
    split at hA<;>first|exact hA|(rename_i e;rw[e] at hp;simp[AI.plain] at hp)
   ·unfold oK at hA
    split at hA
    ·rename_i f args e
     rw[e] at hcomp
     exact doF f args hcomp _ hA λ_ _ h=>h
    ·rename_i g args e
     rw[e] at hcomp
     split at hA
     ·rename_i f caps hg
      exact doV g args hcomp f caps hg _ hA λ_ _ h=>h
     ·exact hA.elim
    ·rename_i f args e
     rw[e] at hq;cases hq
    ·rename_i g args e
     rw[e] at hq;cases hq
    ·rename_i f args e
     rw[e] at hq;cases hq
    ·rename_i f args d e
     rw[e] at hq;cases hq
    ·exact hA.elim
    ·rename_i ne x e
     exact(vV hcomp (by rw[e];rfl)).elim
    ·rename_i n1 n2 n3 n4 n5 n6 n7 n8
     exfalso
     cases hai:c.ai<;>rw[hai] at hp<;>first
      |(exact hp rfl)
      |(exact n1 _ _ hai)
      |(exact n2 _ _ hai)
      |(exact n3 _ _ hai)
      |(exact n4 _ _ hai)
      |(exact n5 _ _ hai)
      |(exact n6 _ _ _ hai)
      |(exact n7 hai)
      |(exact n8 _ _ hai)
      |(exact vV hcomp (by rw[hai];rfl))
      |(rw[hai] at hq;cases hq)
  ·rw[hai] at hA
   obtain⟨v,h1,h2⟩:=hA
   exact doF f l hcomp _ h1 λr h' e=>exact_R v r h' h2 e
  ·rw[hai] at hA
   simp only[oK] at hA
   split at hA
   ·rename_i f caps hg
    obtain⟨v,h1,h2⟩:=hA
    exact doV g l hcomp f caps hg _ h1 λr h' e=>exact_R v r h' h2 e
   ·exact hA.elim
  ·rw[hai] at hA
   obtain⟨v,h1,h2⟩:=hA
   exact doF f l hcomp _ (h1 h) λr h' e=>exact_R v r h' h2 e
  ·rw[hai] at hA
   obtain⟨v,h',h3,h4⟩:=hA
   obtain⟨n,x,W',S',φ',r1,r2,r3,r4,r5⟩:=Ho hcomp h3 W S φ a s.hrel s.trel
   exact mq r1 r2 (hK _ _ _ _ _ _ ⟨_,rfl⟩ (by rw[←hd];exact s.put c.dst r3 r4 r5) h4)
  ·
   have hx:=ki P o
   rw[hcomp] at hx
   cases hai:c.ai<;>rw[hai] at hx<;>first|(cases hx;done)|skip
   ·rw[hai] at hA;exact hA.elim
   ·rename_i m esz r x i
    rw[hai] at hA hcomp
    obtain⟨v,h',h3,h4⟩:=hA
    obtain⟨n,x,W',S',φ',r1,r2,r3,r4,r5⟩:=Ce hcomp h3 W S φ a s.hrel s.trel
    exact mq r1 r2 (hK _ _ _ _ _ _ ⟨_,rfl⟩ (by rw[←hd];exact s.put c.dst r3 r4 r5) h4)
   ·rename_i ne x
    rw[hai] at hA hcomp
    obtain⟨t,u,e,z,q1,q2,q3⟩:=Dh hcomp
    have hv:=am q3 s.trel
    have fin:∀(bo:Option Addr) (l cp:Nat) (b:Bool),a.eval z= .slice bo l cp->(if ne then !bo.isNone else bo.isNone)=b->K (put c.dst (.p (.bool b)) ts) h->o.wp P a W K' Q':=λbo l cp b e1 e2 e3=>by
     have r1:=Gg (ne:=ne) q1 (.inl ⟨rfl,rfl⟩) q2 e1 W
     rw[e2] at r1
     exact mq r1 (.value _) (hK _ _ _ _ _ _ ⟨_,rfl⟩ (by rw[←hd];exact s.put c.dst (.p _ _ (.bool _)) s.hrel (Keep.refl s.hrel)) e3)
    generalize hvz:a.eval z=vz at hv
    simp only[oK] at hA
    split at hA
    ·rename_i e1
     rw[e1] at hv
     cases hv
     exact fin none 0 0 _ hvz (by cases ne<;>rfl) hA
    ·rename_i e1
     rw[e1] at hv
     cases hv with
     |p _ _ hp=>
      cases hp with
      |lst0 _ bo cp=>
       cases hb:(if ne then !bo.isNone else bo.isNone) with
       |true=>exact fin bo 0 cp _ hvz hb hA.1
       |false=>exact fin bo 0 cp _ hvz hb hA.2
      |lst _ _ b off cp vs _ _ _ _ _=>
       cases hb:(if ne then !(some (⟨b,off,none⟩:Addr)).isNone else(some (⟨b,off,none⟩:Addr)).isNone) with
       |true=>exact fin _ _ cp _ hvz hb hA.1
       |false=>exact fin _ _ cp _ hvz hb hA.2
    ·rename_i e1
     rw[e1] at hv
     cases hv with
     |p _ _ hp=>
      cases hp with
      |lst _ _ b off cp vs _ _ _ _ _=>exact fin _ _ cp _ hvz (by cases ne<;>rfl) hA
    ·rename_i id esz off len e1
     rw[e1] at hv
     cases hv with
     |sl _ _ _ _ cp ba _ hl hb _=>
      have:=hb (by omega)
      subst this
      exact fin _ _ cp _ hvz (by cases ne<;>rfl) hA.2
    ·exact hA.elim
 ·exact .inr ⟨hw,hK _ _ _ _ _ _ ⟨_,rfl⟩ (by rw[←hd];exact s.put c.dst (.tup [] #[] rfl λj c v h=>by simp at h) s.hrel (Keep.refl s.hrel)) hB⟩
end
end Go.Aw
namespace Go.Aw
section
variable {P:Program} {G:az}
theorem DD{c:CO}{ts:List AV}{A B A' B':Prop}(ha:A->A')(hb:B->B')(h:gK c ts A B):gK c ts A' B':=by
 unfold gK at*
 split
 ·exact ha (by simpa[*] using h)
 ·rename_i j w e
  simp only[e] at h
  split at h
  ·exact⟨λx=>ha (h.1 x),λx=>hb (h.2 x)⟩
  ·exact hb h
  ·exact h.elim
theorem Jv{ai:AI}{ts:List AV}{h:List AO}{K K':AV->List AO->Prop}{Qp:QP}(hk:∀v h',K v h'->K' v h')(H:oK P G ai ts h K Qp):oK P G ai ts h K' Qp:=by
 have hc:∀r h',lK K Qp r h'->lK K' Qp r h':=λr h'=>by cases r<;>first|exact hk _ _|exact id
 cases ai
 case call f args=>exact AC.mono H hc
 case callv g args=>
  revert H
  simp only[oK]
  generalize g.ev ts=y
  intro H
  cases y<;>first
   |exact H.elim
   |(rename_i f caps;cases f<;>first|exact H.elim|exact AC.mono H hc)
 case qcall f args=>obtain⟨v,h1,h2⟩:=H;exact⟨v,h1,hk _ _ h2⟩
 case qcallv g args=>
  revert H
  simp only[oK]
  generalize g.ev ts=y
  intro H
  cases y<;>first
   |exact H.elim
   |(rename_i f caps;cases f<;>first|exact H.elim|(obtain⟨v,h1,h2⟩:=H;exact⟨v,h1,hk _ _ h2⟩))
 case pcall f args=>obtain⟨v,h1,h2⟩:=H;exact⟨v,h1,hk _ _ h2⟩
 case chk sz n d=>exact⟨H.1,hk _ _ H.2⟩
 case bad=>exact H
 case snil ne x=>
  revert H
  simp only[oK]
  split<;>first|exact id|exact hk _ _|exact λh=>⟨hk _ _ h.1,hk _ _ h.2⟩|exact λh=>⟨h.1,hk _ _ h.2⟩
 all_goals
  obtain⟨v,h',h1,h2⟩:=H
  exact⟨v,h',h1,hk _ _ h2⟩
theorem fe{c:CO}{ts:List AV}{h:List AO}{K K':KT}{Qp:QP}(hk:∀ts' h',(∃u,ts'=put c.dst u ts)->K ts' h'->K' ts' h')(H:sK P G c ts h K Qp):sK P G c ts h K' Qp:=
 DD (Jv λv h'=>hk _ _ ⟨v,rfl⟩) (hk _ _ ⟨_,rfl⟩) H
theorem DX{cs:List CO}:∀{ts:List AV} {h:List AO} {K K':KT} {Qp:QP},(∀ts' h',K ts' h'->K' ts' h')->rK P G cs ts h K Qp->rK P G cs ts h K' Qp:=by
 induction cs with
 |nil=>intro ts h K K' Qp hk H;exact hk _ _ H
 |cons c r ih=>intro ts h K K' Qp hk H;exact fe (λts' h' _=>ih hk) H
def jk(P:Program)(ops:Array Oper)(l:List Oper)(cs:List CO):Prop:=l.length=cs.length/\∀(j:Nat) (o:Oper) (c:CO),l[j]?=some o->cs[j]?=some c->vI P ops o c
section text
variable {W0:World} {S0:Nat->Prop} {φ0:au} {h0:List AO}
theorem yR{ops:Array Oper}{Q':Exit->Act->World->Prop}{K:KT}{Qp:QP}
 (hK:∀a' W' S' φ' ts' h',St G W0 S0 φ0 h0 W' S' φ' a' ts' h'->K ts' h'->Q' .normal a' W')
 (hQ:∀a W' S' φ' ts h' t v x,PRel W' S' v x->St G W0 S0 φ0 h0 W' S' φ' a ts h'->Qp t v h'->Q' (.panic [{v:= .iface t x,recovered:=false}]) a W'):
 ∀(l:List Oper) (cs:List CO),jk P ops l cs->∀(W:World) (S:Nat->Prop) (φ:au) (a:Act) (ts:List AV) (h:List AO),St G W0 S0 φ0 h0 W S φ a ts h->rK P G cs ts h K Qp->wpList P ops Q' l a W
 |[],[],_,W,S,φ,a,ts,h,s,hr=>hK _ _ _ _ _ _ s hr
 |[],c::cs,h,_,_,_,_,_,_,_,_=>by have:=h.1;simp at this
 |o::l,[],h,_,_,_,_,_,_,_,_=>by have:=h.1;simp at this
 |o::l,c::cs,hok,W,S,φ,a,ts,h,s,hr=>by
  have hc:=hok.2 0 o c rfl rfl
  have hok':jk P ops l cs:=⟨by have:=hok.1;simpa using this,λj o c h1 h2=>hok.2 (j+1) o c (by simpa using h1) (by simpa using h2)⟩
  have:=AG hc s hr (K':=wpList P ops Q' l) (Q':=Q') (λa' W' S' φ' ts' h' _ s' k'=>yR hK hQ l cs hok' W' S' φ' a' ts' h' s' k') (λW' S' φ' h' t v x k1 k2 k3=>hQ _ _ _ _ _ _ _ _ _ k1 k2 k3)
  unfold wpList
  rcases this with⟨hw,h1⟩|⟨hw,h1⟩
  ·rw[if_pos hw];exact .inl h1
  ·rw[if_neg (by simp[hw])];exact h1
theorem Cc{id:Nat}{ops:Array Oper}{cs:List CO}(hok:jk P ops ops.toList cs){W:World}{S:Nat->Prop}{φ:au}{a:Act}{ts:List AV}{h:List AO}(s:St G W0 S0 φ0 h0 W S φ a ts h)
 {Q:AX->List AV->List AO->Prop}(hr:rK P G cs ts h (Q .normal) (λt v h'=>∀ts',Q (.pan t v) ts' h')):(Code.region id ops false).wp P (AQ G W0 S0 φ0 h0 Q) a W:=
 wp_region_list (yR (λa' W' S' φ' ts' h' s' k=>⟨.normal,ts',h',S',φ',k,.normal,s'⟩) (λa' W' S' φ' ts' h' t v x k1 k2 k3=>⟨.pan t v,ts',h',S',φ',k3 ts',.pan t v x k1,k2⟩) _ _ hok W S φ a ts h s hr)
end text
def CO.looks(c:CO):List Nat:=(c.ai.ops.flatMap λ| .t n=>[n]| .c _=>[])++(match c.guard with|some (j,_)=>[j]|none=>[])
def oG(c1 c2:CO):Bool:=
 (match c1.dst with
  |some d=> !c2.looks.contains d&&c2.dst !=some d
  |none=>true)&&
 (match c2.dst with
  |some d=> !c1.looks.contains d
  |none=>true)
theorem AS{c1 c2:CO}(h:oG c1 c2=true):(∀d,c1.dst=some d->d∉c2.looks)/\(∀d,c1.dst=some d->c2.dst≠some d)/\(∀d,c2.dst=some d->d∉c1.looks):=by
 refine⟨λd hd=>?_,λd hd=>?_,λd hd=>?_⟩<;>simp[oG,hd] at h
 ·exact h.1.1
 ·exact h.1.2
 ·exact h.2
theorem gU{d:Option Nat}{u:AV}{ts:List AV}{j:Nat}(h:∀e,d=some e->j≠e):(put d u ts).getD j .any=ts.getD j .any:=by
 cases d with
 |none=>rfl
 |some e=>simp only[put,List.getD_eq_getElem?_getD,List.getElem?_set_ne (Ne.symm (h e rfl))]
theorem Ct{c:CO}{d:Option Nat}{u:AV}{ts:List AV}(h:∀e,d=some e->e∉c.looks):∀x∈c.ai.ops,x.ev (put d u ts)=x.ev ts:=λx hx=>by
 cases x with
 |c v=>rfl
 |t n=>
  simp only[AOp.ev]
  exact gU λe he hn=>h e he (by subst hn;exact List.mem_append_left _ (List.mem_flatMap.2 ⟨.t n,hx,by simp⟩))
theorem FU{d1 d2:Option Nat}(u v:AV)(ts:List AV)(h:∀d,d1=some d->d2≠some d):put d2 v (put d1 u ts)=put d1 u (put d2 v ts):=by
 cases d1 with
 |none=>rfl
 |some a=>
  cases d2 with
  |none=>rfl
  |some b=>
   have:a≠b:=λe=>h a rfl (by rw[e])
   simp only[put]
   exact List.set_comm _ _ this
theorem JR{c:CO}{d:Option Nat}{u:AV}{ts:List AV}(h:∀e,d=some e->e∉c.looks)(A B:Prop):gK c (put d u ts) A B=gK c ts A B:=by
 unfold gK
 cases hg:c.guard with
 |none=>rfl
 |some q=>
  obtain⟨j,w⟩:=q
  simp only
  rw[gU λe he hn=>h e he (by subst hn;exact List.mem_append_right _ (by rw[hg];simp))]
theorem Km{c:CO}{d:Option Nat}{u:AV}{ts:List AV}(h:∀e,d=some e->e∉c.looks)(hp:List AO)(K:AV->List AO->Prop)(Qp:QP):oK P G c.ai (put d u ts) hp K Qp=oK P G c.ai ts hp K Qp:=by
 have he:=Ct (u:=u) (ts:=ts) h
 have hev:ev G (put d u ts) hp c.ai=ev G ts hp c.ai:=eR he
 unfold oK
 cases hai:c.ai<;>rw[hai] at he hev<;>simp only[AI.ops] at he<;>first
  |(simp only[List.map_congr_left he];done)
  |(simp only[hev];done)
  |rfl
  |(rename_i ne x
    have h1:=he x (by simp)
    simp only[h1];done)
  |(rename_i sz n d2
    have h1:(put d u ts).getD n .any=ts.getD n .any:=he (.t n) (by simp)
    have h2:(put d u ts).getD d2 .any=ts.getD d2 .any:=he (.t d2) (by simp)
    have h3:ev G (put d u ts) hp (.ld sz (.t n))=ev G ts hp (.ld sz (.t n)):=eR (λx hx=>by simp[AI.ops] at hx;subst hx;exact h1)
    simp only[h2,h3];done)
  |(have h1:=he _ (List.mem_cons_self ..)
    have h2:∀x∈_,_:=λx hx=>he x (List.mem_cons_of_mem _ hx)
    simp only[h1,List.map_congr_left h2])
theorem Dr{c:CO}{d:Option Nat}{u:AV}{ts:List AV}(h:∀e,d=some e->e∉c.looks)(h2:∀e,d=some e->c.dst≠some e)(hp:List AO)(K:KT)(Qp:QP):
 sK P G c (put d u ts) hp K Qp=sK P G c ts hp (λts' h'=>K (put d u ts') h') Qp:=by
 unfold sK
 rw[JR h,Km h]
 have:∀v,put c.dst v (put d u ts)=put d u (put c.dst v ts):=λv=>FU u v ts h2
 simp only[this]
def _root_.Go.Aw.AI.free:AI->Bool
 | .pcall .. =>true
 |ai=>ai.silent
theorem CD{c:CO}(hs:c.ai.silent=true){ts:List AV}{h:List AO}{K:KT}{Qp:QP}(H:sK P G c ts h K Qp):
 ∃v,K (put c.dst v ts) h/\∀(ts':List AV) (h':List AO) (K':KT),(∀x∈c.ai.ops,x.ev ts'=x.ev ts)->(∀j w,c.guard=some (j,w)->ts'.getD j .any=ts.getD j .any)->K' (put c.dst v ts') h'->sK P G c ts' h' K' Qp:=by
 have ho:∀(ts:List AV) (h:List AO) (K:AV->List AO->Prop),oK P G c.ai ts h K Qp=okE (ev G ts h c.ai) K:=λts h K=>by
  unfold oK
  cases hai:c.ai<;>rw[hai] at hs<;>first|rfl|(simp[AI.silent] at hs)
 unfold sK at H
 rw[ho] at H
 unfold gK at H
 cases hg:c.guard with
 |none=>
  simp only[hg] at H
  obtain⟨v,h1,e1,k1⟩:=H
  rw[nH hs,Option.map_eq_some_iff] at e1
  obtain⟨q,e1,e2⟩:=e1
  cases e2
  refine⟨q.1,k1,λts' h' K' c1 _ k=>?_⟩
  unfold sK gK
  simp only[hg]
  rw[ho]
  exact⟨q.1,h',by rw[nH hs,eR c1,e1];rfl,k⟩
 |some q=>
  obtain⟨j,w⟩:=q
  simp only[hg] at H
  split at H
  ·rename_i b hb
   by_cases hbw:(if w then b else !b)=true
   ·obtain⟨v,h1,e1,k1⟩:=H.1 hbw
    rw[nH hs,Option.map_eq_some_iff] at e1
    obtain⟨q,e1,e2⟩:=e1
    cases e2
    refine⟨q.1,k1,λts' h' K' c1 c2 k=>?_⟩
    unfold sK gK
    simp only[hg,c2 j w rfl,hb]
    refine⟨λ_=>?_,(λhf=>by rw[hbw] at hf;cases hf)⟩
    rw[ho]
    exact⟨q.1,h',by rw[nH hs,eR c1,e1];rfl,k⟩
   ·have hbw':(if w then b else !b)=false:=by simpa using hbw
    refine⟨.tup [],H.2 hbw',λts' h' K' c1 c2 k=>?_⟩
    unfold sK gK
    simp only[hg,c2 j w rfl,hb]
    exact⟨(λhf=>by rw[hbw'] at hf;cases hf),λ_=>k⟩
  ·rename_i hb
   refine⟨.tup [],H,λts' h' K' c1 c2 k=>?_⟩
   unfold sK gK
   simp only[hg,c2 j w rfl,hb]
   exact k
  ·exact H.elim
theorem vf{c:CO}(hs:c.ai.free=true){ts:List AV}{h:List AO}{K:KT}{Qp:QP}(H:sK P G c ts h K Qp):
 ∃v,K (put c.dst v ts) h/\∀(ts':List AV) (h':List AO) (K':KT),(∀x∈c.ai.ops,x.ev ts'=x.ev ts)->(∀j w,c.guard=some (j,w)->ts'.getD j .any=ts.getD j .any)->K' (put c.dst v ts') h'->sK P G c ts' h' K' Qp:=by
 by_cases hsil:c.ai.silent=true
 ·exact CD hsil H
 ·cases hai:c.ai<;>rw[hai] at hs hsil<;>first|(exact absurd hs hsil)|skip
  rename_i f args
  have e:∀ts':List AV,(∀x∈c.ai.ops,x.ev ts'=x.ev ts)->args.map (·.ev ts')=args.map (·.ev ts):=λts' c1=>by
   rw[hai] at c1
   exact List.map_congr_left λx hx=>c1 x hx
  rw[hai] at e
  unfold sK gK at H
  rw[hai] at H
  cases hg:c.guard with
  |none=>
   simp only[hg] at H
   obtain⟨v,h1,k1⟩:=H
   refine⟨v,k1,λts' h' K' c1 _ k=>?_⟩
   unfold sK gK
   rw[hai]
   simp only[hg]
   exact⟨v,by rw[e ts' c1];exact h1,k⟩
  |some q=>
   obtain⟨j,w⟩:=q
   simp only[hg] at H
   split at H
   ·rename_i b hb
    by_cases hbw:(if w then b else !b)=true
    ·obtain⟨v,h1,k1⟩:=H.1 hbw
     refine⟨v,k1,λts' h' K' c1 c2 k=>?_⟩
     unfold sK gK
     rw[hai]
     simp only[hg,c2 j w rfl,hb]
     exact⟨λ_=>⟨v,by rw[e ts' c1];exact h1,k⟩,(λhf=>by rw[hbw] at hf;cases hf)⟩
    ·have hbw':(if w then b else !b)=false:=by simpa using hbw
     refine⟨.tup [],H.2 hbw',λts' h' K' c1 c2 k=>?_⟩
     unfold sK gK
     rw[hai]
     simp only[hg,c2 j w rfl,hb]
     exact⟨(λhf=>by rw[hbw'] at hf;cases hf),λ_=>k⟩
   ·rename_i hb
    refine⟨.tup [],H,λts' h' K' c1 c2 k=>?_⟩
    unfold sK gK
    rw[hai]
    simp only[hg,c2 j w rfl,hb]
    exact k
   ·exact H.elim
theorem sa{c:CO}(hs:c.ai.quiet=true){ts:List AV}{h:List AO}{K:KT}{Qp:QP}(H:sK P G c ts h K Qp):
 ∃v,K (put c.dst v ts) h/\∀(ts':List AV) (K':KT),(∀x∈c.ai.ops,x.ev ts'=x.ev ts)->(∀j w,c.guard=some (j,w)->ts'.getD j .any=ts.getD j .any)->K' (put c.dst v ts') h->sK P G c ts' h K' Qp:=by
 by_cases hsil:c.ai.free=true
 ·obtain⟨v,k1,k2⟩:=vf hsil H
  exact⟨v,k1,λts' K'=>k2 ts' h K'⟩
 ·
  have ho:∀{K:AV->List AO->Prop},oK P G c.ai ts h K Qp->∃v,K v h/\∀(ts':List AV) (K':AV->List AO->Prop),(∀x∈c.ai.ops,x.ev ts'=x.ev ts)->K' v h->oK P G c.ai ts' h K' Qp:=λ{K} hO=>by
   unfold oK at hO
   cases hai:c.ai<;>rw[hai] at hs hsil hO<;>first|(simp[AI.quiet,AI.silent] at hs;done)|(simp[AI.free,AI.silent] at hsil;done)|skip
   ·rename_i sz x
    obtain⟨v,h1,e1,k1⟩:=hO
    have:h1=h:=by
     simp only[ev] at e1
     split at e1<;>first|(cases e1;done)|skip
     rw[Option.map_eq_some_iff] at e1
     obtain⟨_,_,e⟩:=e1
     cases e;rfl
    subst this
    exact⟨v,k1,λts' K' c1 k=>⟨v,h1,by rw[eR c1];exact e1,k⟩⟩
   ·rename_i n esz x lo hi
    obtain⟨v,h1,e1,k1⟩:=hO
    have:h1=h:=by
     simp only[ev] at e1
     split at e1<;>first|(cases e1;done)|skip
     all_goals (try (split at e1<;>first|(cases e1;done)|skip))
     all_goals (try (split at e1<;>first|(cases e1;done)|skip))
     all_goals (try (split at e1<;>first|(cases e1;done)|skip))
     all_goals (cases e1;rfl)
    subst this
    exact⟨v,k1,λts' K' c1 k=>⟨v,h1,by rw[eR c1];exact e1,k⟩⟩
   ·rename_i f args
    obtain⟨v,h1,k1⟩:=hO
    refine⟨v,k1,λts' K' c1 k=>⟨v,?_,k⟩⟩
    have e:args.map (·.ev ts')=args.map (·.ev ts):=List.map_congr_left λx hx=>c1 x hx
    rw[e];exact h1
   ·rename_i g args
    simp only at hO
    split at hO
    ·rename_i f caps hg
     obtain⟨v,h1,k1⟩:=hO
     refine⟨v,k1,λts' K' c1 k=>?_⟩
     unfold oK
     simp only[c1 g (List.mem_cons_self ..),hg]
     have e:args.map (·.ev ts')=args.map (·.ev ts):=List.map_congr_left λx hx=>c1 x (List.mem_cons_of_mem _ hx)
     exact⟨v,by rw[e];exact h1,k⟩
    ·exact hO.elim
   ·obtain⟨v,h1,e1,k1⟩:=hO
    have:h1=h:=by
     simp only[ev] at e1
     split at e1<;>first|(cases e1;done)|skip
     rw[Option.map_eq_some_iff] at e1
     obtain⟨_,_,e⟩:=e1
     cases e;rfl
    subst this
    exact⟨v,k1,λts' K' c1 k=>⟨v,h1,by rw[eR c1];exact e1,k⟩⟩
   ·obtain⟨v,h1,e1,k1⟩:=hO
    have:h1=h:=by
     simp only[ev] at e1
     split at e1<;>first|(cases e1;done)|skip
     split at e1<;>first|(cases e1;done)|skip
     split at e1<;>first|(cases e1;done)|skip
     ·split at e1<;>first|(cases e1;done)|skip
      rw[Option.map_eq_some_iff] at e1
      obtain⟨_,_,e⟩:=e1
      cases e;rfl
     ·cases e1;rfl
     ·split at e1<;>first|(cases e1;done)|skip
      rw[Option.map_eq_some_iff] at e1
      obtain⟨_,_,e⟩:=e1
      cases e;rfl
    subst this
    exact⟨v,k1,λts' K' c1 k=>⟨v,h1,by rw[eR c1];exact e1,k⟩⟩
  unfold sK gK at H
  cases hg:c.guard with
  |none=>
   simp only[hg] at H
   obtain⟨v,k1,k2⟩:=ho H
   refine⟨v,k1,λts' K' c1 _ k=>?_⟩
   unfold sK gK
   simp only[hg]
   exact k2 ts' (λv h'=>K' (put c.dst v ts') h') c1 k
  |some q=>
   obtain⟨j,w⟩:=q
   simp only[hg] at H
   split at H
   ·rename_i b hb
    by_cases hbw:(if w then b else !b)=true
    ·obtain⟨v,k1,k2⟩:=ho (H.1 hbw)
     refine⟨v,k1,λts' K' c1 c2 k=>?_⟩
     unfold sK gK
     simp only[hg,c2 j w rfl,hb]
     exact⟨λ_=>k2 ts' (λv h'=>K' (put c.dst v ts') h') c1 k,(λhf=>by rw[hbw] at hf;cases hf)⟩
    ·have hbw':(if w then b else !b)=false:=by simpa using hbw
     refine⟨.tup [],H.2 hbw',λts' K' c1 c2 k=>?_⟩
     unfold sK gK
     simp only[hg,c2 j w rfl,hb]
     exact⟨(λhf=>by rw[hbw'] at hf;cases hf),λ_=>k⟩
   ·rename_i hb
    refine⟨.tup [],H,λts' K' c1 c2 k=>?_⟩
    unfold sK gK
    simp only[hg,c2 j w rfl,hb]
    exact k
   ·exact H.elim
def tI(c:CO):Option (Option Nat × Nat × Nat):=
 match c.ai,c.guard,c.dst with
 | .ld sz (.t n),none,some d=>if n=d then none else some (sz,n,d)
 |_,_,_=>none
theorem yV{c:CO}{q:Option Nat × Nat × Nat}(h:tI c=some q):c=⟨some q.2.2,none,.ld q.1 (.t q.2.1)⟩/\q.2.1≠q.2.2:=by
 unfold tI at h
 split at h<;>first|(cases h;done)|skip
 rename_i h1 h2 h3
 split at h<;>first|(cases h;done)|skip
 rename_i hne
 cases h
 cases c
 simp only at h1 h2 h3
 subst h1;subst h2;subst h3
 exact⟨rfl,hne⟩
def Ck(G:az)(ts:List AV)(h:List AO)(q:Option Nat × Nat × Nat):Prop:=ev G ts h (.ld q.1 (.t q.2.1))=some (ts.getD q.2.2 .any,h)
theorem Md{ts:List AV}{h h':List AO}{sz:Option Nat}{x:AOp}{v:AV}(e:ev G ts h (.ld sz x)=some (v,h')):h'=h:=by
 simp only[ev] at e
 split at e<;>first|(cases e;done)|skip
 rw[Option.map_eq_some_iff] at e
 obtain⟨_,_,e⟩:=e
 cases e;rfl
theorem IN{ci cj:CO}(ha:oG ci cj=true){ts:List AV}{h:List AO}{K:KT}{Qp:QP}
 (hk:ci.ai.free=true\/(ci.ai.quiet=true/\cj.ai.quiet=true)\/(∃q,tI ci=some q/\∀ts' h',K ts' h'->Ck G ts' h' q))
 (H:sK P G ci ts h (λts1 h1=>sK P G cj ts1 h1 K Qp) Qp):sK P G cj ts h (λts1 h1=>(∃u,K (put ci.dst u ts1) h1)/\sK P G ci ts1 h1 K Qp) Qp:=by
 obtain⟨a1,a2,a3⟩:=AS ha
 have gj:∀{u:AV} {ts:List AV} (j:Nat) (w:Bool),ci.guard=some (j,w)->(put cj.dst u ts).getD j .any=ts.getD j .any:=λj w hg=>gU λe he hn=>a3 e he (by subst hn;exact List.mem_append_right _ (by rw[hg];simp))
 rcases hk with hs|⟨q1,q2⟩|⟨q,hq,hld⟩
 ·obtain⟨v,k1,k2⟩:=vf hs H
  rw[Dr a1 a2] at k1
  refine fe (λts' h' ⟨u,hu⟩ k=>?_) k1
  subst hu
  exact⟨⟨v,k⟩,k2 _ _ _ (Ct a3) gj k⟩
 ·obtain⟨v,k1,k2⟩:=sa q1 H
  rw[Dr a1 a2] at k1
  obtain⟨u,m1,m2⟩:=sa q2 k1
  exact m2 ts _ (λ_ _=>rfl) (λ_ _ _=>rfl) ⟨⟨v,m1⟩,k2 _ _ (Ct a3) gj m1⟩
 ·obtain⟨e,hne⟩:=yV hq
  obtain⟨sz,n,d⟩:=q
  simp only at e hne
  subst e
  have H':okE (ev G ts h (.ld sz (.t n))) (λv h'=>sK P G cj (put (some d) v ts) h' K Qp):=H
  obtain⟨v,h1,e1,k1⟩:=H'
  have:=Md e1
  subst this
  rw[Dr a1 a2] at k1
  refine fe (λts' h' _ k=>⟨⟨v,k⟩,?_⟩) k1
  have hl:=hld _ _ k
  unfold Ck at hl
  simp only at hl
  have e2:ev G (put (some d) v ts') h' (.ld sz (.t n))=ev G ts' h' (.ld sz (.t n)):=eR (λx hx=>by
   simp[AI.ops] at hx;subst hx
   exact gU λe he hn=>by cases he;exact hne hn)
  rw[e2] at hl
  show okE (ev G ts' h' (.ld sz (.t n))) (λv h'=>K (put (some d) v ts') h')
  refine⟨_,_,hl,?_⟩
  have e3:put (some d) ((put (some d) v ts').getD d .any) ts'=put (some d) v ts':=by
   simp only[put]
   rcases Nat.lt_or_ge d ts'.length with hd|hd
   ·simp[List.getD_eq_getElem?_getD,List.getElem?_set_self hd]
   ·rw[List.set_eq_of_length_le hd,List.set_eq_of_length_le hd]
  show K (put (some d) ((put (some d) v ts').getD d .any) ts') h'
  rw[e3];exact k
def JW(G:az)(ts:List AV)(h:List AO):List (Option Nat × Nat × Nat)->Prop
 |[]=>True
 |q::r=>Ck G ts h q/\JW G ts h r
theorem tV:∀{l:List (Option Nat × Nat × Nat)} {r:List CO} {ts:List AV} {h:List AO} {K:KT} {Qp:QP},rK P G (l.map (λq=>⟨none,none,.chk q.1 q.2.1 q.2.2⟩)++r) ts h K Qp->JW G ts h l/\rK P G r ts h K Qp
 |[],_,_,_,_,_,H=>⟨trivial,H⟩
 |q::l,r,ts,h,K,Qp,H=>by
  have H':ev G ts h (.ld q.1 (.t q.2.1))=some (ts.getD q.2.2 .any,h)/\rK P G (l.map (λq=>⟨none,none,.chk q.1 q.2.1 q.2.2⟩)++r) ts h K Qp:=H
  obtain⟨k1,k2⟩:=tV H'.2
  exact⟨⟨H'.1,k1⟩,k2⟩
theorem vU{l:List (Option Nat × Nat × Nat)}{ts:List AV}{h:List AO}(H:JW G ts h l):∀q∈l,Ck G ts h q:=by
 induction l with
 |nil=>intro q hq;cases hq
 |cons x r ih=>
  intro q hq
  rcases List.mem_cons.1 hq with rfl|hq
  ·exact H.1
  ·exact ih H.2 q hq
end
end Go.Aw
namespace Go.Aw
def tK(o:Oper):List Nat:=(o.after.toList.filter (Region.binds .any ·)).map (·.on)
def re:List Oper->List (List Nat)->List (List Nat)
 |[],acc=>acc
 |o::r,acc=>re r (acc++[((tK o)++(tK o).flatMap (acc.getD · [])).eraseDups])
def Clo(ops:Array Oper)(listed:Array Bool):Prop:=∀(j:Nat) (o:Oper),ops[j]?=some o->listed.getD j false=true->∀d∈tK o,listed.getD d false=true
def BOk(ops:Array Oper)(B:List (List Nat)):Prop:=
 ∀(j i:Nat),i∈B.getD j []->∀listed,Clo ops listed->(∀o,ops[j]?=some o->∀d∈tK o,listed.getD d false=true)->listed.getD i false=true
theorem zz(ops:Array Oper):∀(l:List Oper) (acc:List (List Nat)),(∀(j:Nat),l[j]?=ops[acc.length+j]?)->BOk ops acc->BOk ops (re l acc)
 |[],acc,_,h=>h
 |o::r,acc,hl,h=>by
  refine zz ops r _ (λj=>by have:=hl (j+1);simp at this⊢;rw[this];congr 1;omega) ?_
  intro j i hi listed hc hd
  rw[List.getD_eq_getElem?_getD,List.getElem?_append] at hi
  split at hi
  ·rename_i hj
   exact h j i (by rw[List.getD_eq_getElem?_getD];exact hi) listed hc hd
  ·rename_i hj
   rcases Nat.lt_or_ge acc.length j with hj'|hj'
   ·rw[List.getElem?_eq_none (by simp;omega)] at hi;simp at hi
   ·have:j=acc.length:=by omega
    subst this
    simp only[Nat.sub_self,List.getElem?_cons_zero,Option.getD_some,List.mem_eraseDups,List.mem_append,List.mem_flatMap] at hi
    have ho:ops[acc.length]?=some o:=by simpa using(hl 0).symm
    rcases hi with hi|⟨d,hd1,hd2⟩
    ·exact hd o ho i hi
    ·have hdl:=hd o ho d hd1
     exact h d i hd2 listed hc λo' ho' d' hd'=>hc d o' ho' hdl d' hd'
def slB(cs:List CO)(l:Nat):Bool:=match cs[l]? with
 |some c=>c.ai.silent
 |none=>false
def oM(cs:List CO)(n:Nat)(B:List (List Nat))(i0:Nat)(listed:Array Bool):Bool:=(List.range n).all λl=>l==i0||listed.getD l true||(B.getD l []).contains i0||slB cs l
def eI(df:Option Nat)(ops:Array Oper)(cs:List CO)(B:List (List Nat))(listed:Array Bool):List Nat:=(Region.ready .any ops listed).filter λi=>df !=some i||oM cs ops.size B i listed
def uW(df:Option Nat)(ops:Array Oper)(cs:List CO)(B:List (List Nat))(pd:Nat->List (Nat × Option Nat × Nat × Nat)):List Nat->Array Bool->Bool
 |[],listed=>(Region.ready .any ops listed).isEmpty
 |i::π,listed=>(eI df ops cs B listed).contains i&&(match cs[i]? with
   |none=>false
   |some ci=>(List.range ops.size).all λj=>j==i||listed.getD j true||(B.getD j []).contains i||(df==some j&& !slB cs i)||(match cs[j]? with
     |some cj=>oG ci cj&&(ci.ai.free||(ci.ai.quiet&&cj.ai.quiet)||(match tI ci with
       |some q=>(pd j).contains (i,q)
       |none=>false))&&(pd i).isEmpty&&(pd j).all λq=>q.1==i||(B.getD q.1 []).contains i||(ci.dst !=some q.2.2.1&&ci.dst !=some q.2.2.2)
     |none=>false))&&uW df ops cs B pd π (listed.setIfInBounds i true)
def sI(cs:List CO)(pd:Nat->List (Nat × Option Nat × Nat × Nat)):List Nat->List CO
 |[]=>[]
 |i::π=>match cs[i]? with
  |some c=>c::(((pd i).map (·.2)).map (λq=>⟨none,none,.chk q.1 q.2.1 q.2.2⟩)++sI cs pd π)
  |none=>sI cs pd π
section
variable {P:Program} {G:az} {ops:Array Oper} {cs:List CO} {pd:Nat->List (Nat × Option Nat × Nat × Nat)} {df:Option Nat}
def PK(G:az)(pd:Nat->List (Nat × Option Nat × Nat × Nat))(listed:Array Bool)(j:Nat)(ts:List AV)(h:List AO):Prop:=∀q∈pd j,listed.getD q.1 false=true->Ck G ts h q.2
def mJ(df:Option Nat)(B:List (List Nat))(P:Program)(G:az)(ops:Array Oper)(cs:List CO)(pd:Nat->List (Nat × Option Nat × Nat × Nat))(Q:KT)(Qp:QP):Nat->Array Bool->List AV->List AO->Prop
 |0,listed,ts,h=>Region.ready .any ops listed=[]/\Q ts h
 |fuel+1,listed,ts,h=>(Region.ready .any ops listed=[]->Q ts h)/\
  ∀i∈eI df ops cs B listed,∃c,cs[i]?=some c/\sK P G c ts h (λts' h'=>PK G pd listed i ts' h'/\mJ df B P G ops cs pd Q Qp fuel (listed.setIfInBounds i true) ts' h') Qp
theorem AT{o:Oper}{e:Edge}(he:e∈o.after)(hb:Region.binds .any e=true):e.on∈tK o:=by
 unfold tK
 exact List.mem_map.2 ⟨e,List.mem_filter.2 ⟨by simpa using he,hb⟩,rfl⟩
theorem iR{j:Nat}{listed:Array Bool}(h:j∈Region.ready .any ops listed):∀o,ops[j]?=some o->∀d∈tK o,listed.getD d false=true:=λo ho d hd=>by
 obtain⟨_,o',ho',hall⟩:=mem_ready.1 h
 rw[ho] at ho';cases ho'
 obtain⟨e,he,rfl⟩:=List.mem_map.1 hd
 obtain⟨he1,he2⟩:=List.mem_filter.1 he
 exact hall e (by simpa using he1) he2
theorem Clo.step{j:Nat}{listed:Array Bool}(h:Clo ops listed)(hj:j∈Region.ready .any ops listed):Clo ops (listed.setIfInBounds j true):=λi o ho hi d hd=>by
 have keep:listed.getD d false=true->(listed.setIfInBounds j true).getD d false=true:=λh1=>by
  by_cases hdj:j=d
  ·subst hdj
   rcases Nat.lt_or_ge j listed.size with h'|h'
   ·simp[h']
   ·simp[Array.getElem?_eq_none h'] at h1
  ·rw[getD_set_ne false hdj];exact h1
 by_cases hij:j=i
 ·subst hij;exact keep (iR hj o ho d hd)
 ·rw[getD_set_ne false hij] at hi
  exact keep (h i o ho hi d hd)
theorem JY{listed:Array Bool}{i j:Nat}{d:Option Nat}{u:AV}{ts:List AV}{h:List AO}(hi:listed.getD i false=false)(hd:∀q∈pd j,listed.getD q.1 false=true->q.1=i\/(d≠some q.2.2.1/\d≠some q.2.2.2))(hij:∀l,listed.getD l false=true->(listed.setIfInBounds i true).getD l false=true)
 (H:PK G pd (listed.setIfInBounds i true) j (put d u ts) h):PK G pd listed j ts h:=λq hq hl=>by
 have hne:q.1≠i:=λe=>by rw[e,hi] at hl;cases hl
 have h1:=H q hq (hij _ hl)
 obtain⟨k1,k2⟩:=(hd q hq hl).resolve_left hne
 unfold Ck at h1⊢
 have e1:(put d u ts).getD q.2.2.1 .any=ts.getD q.2.2.1 .any:=gU λe he hn=>k1 (by rw[he,hn])
 have e2:(put d u ts).getD q.2.2.2 .any=ts.getD q.2.2.2 .any:=gU λe he hn=>k2 (by rw[he,hn])
 rw[e2] at h1
 rw[←h1]
 exact(eR (λx hx=>by simp[AI.ops] at hx;subst hx;exact e1)).symm
theorem FT{listed:Array Bool}{i l:Nat}(h:listed.getD l false=true):(listed.setIfInBounds i true).getD l false=true:=by
 by_cases hdj:i=l
 ·subst hdj
  rcases Nat.lt_or_ge i listed.size with h'|h'
  ·simp[h']
  ·simp[Array.getElem?_eq_none h'] at h
 ·rw[getD_set_ne false hdj];exact h
theorem te{B:List (List Nat)}{i j:Nat}{listed:Array Bool}(hj:j∈eI df ops cs B listed)(hne:j≠i):j∈eI df ops cs B (listed.setIfInBounds i true):=by
 obtain⟨h1,h2⟩:=List.mem_filter.1 hj
 refine List.mem_filter.2 ⟨ready_mono h1 hne,?_⟩
 simp only[Bool.or_eq_true] at h2⊢
 refine h2.imp id λh=>?_
 simp only[oM,List.all_eq_true,List.mem_range,Bool.or_eq_true,beq_iff_eq] at h⊢
 intro l hl
 rcases h l hl with((h|h)|h)|h
 ·exact .inl (.inl (.inl h))
 ·refine .inl (.inl (.inr ?_))
  by_cases hil:i=l
  ·subst hil
   rcases Nat.lt_or_ge i listed.size with h'|h'
   ·simp[h']
   ·simp[Array.getElem?_eq_none (by simpa using h':listed.size<=i)]
  ·rw[getD_set_ne true hil];exact h
 ·exact .inl (.inr h)
 ·exact .inr h
theorem Ec{B:List (List Nat)}(hB:BOk ops B){listed:Array Bool}(hc:Clo ops listed){i j:Nat}(hr:i∈Region.ready .any ops listed)(hj:j∈eI df ops cs B listed)(hji:j≠i):df≠some j\/slB cs i=true:=by
 refine Classical.or_iff_not_imp_right.2 λhsl hd=>?_
 obtain⟨h1,h2⟩:=List.mem_filter.1 hj
 simp only[hd,bne_self_eq_false,Bool.false_or] at h2
 simp only[oM,List.all_eq_true,List.mem_range,Bool.or_eq_true,beq_iff_eq] at h2
 obtain⟨hiun,oi,hoi,_⟩:=mem_ready.1 hr
 rcases h2 i (Array.getElem?_eq_some_iff.1 hoi).1 with((h|h)|h)|h
 ·exact hji h.symm
 ·rw[hiun] at h;cases h
 rotate_left
 ·exact hsl h
 ·have h3:=hB i j (by simpa using h) listed hc (iR hr)
  have h4:=(mem_ready.1 h1).1
  rcases Nat.lt_or_ge j listed.size with h'|h'
  ·simp[h'] at h3 h4;rw[h4] at h3;cases h3
  ·simp[Array.getElem?_eq_none h'] at h3
theorem vM{B:List (List Nat)}(hB:BOk ops B){Q:KT}{Qp:QP}{i:Nat}{ci:CO}(hi:cs[i]?=some ci):∀(fuel:Nat) (listed:Array Bool) (ts:List AV) (h:List AO),Clo ops listed->
 (∀(j:Nat),j<ops.size->j≠i->listed.getD j true=false->i∉B.getD j []->(df≠some j\/slB cs i=true)->∃cj,cs[j]?=some cj/\oG ci cj=true/\
   (ci.ai.free=true\/(ci.ai.quiet=true/\cj.ai.quiet=true)\/∃q,tI ci=some q/\(i,q)∈pd j)/\pd i=[]/\∀q∈pd j,q.1=i\/i∈B.getD q.1 []\/(ci.dst≠some q.2.2.1/\ci.dst≠some q.2.2.2))->
 i∈eI df ops cs B listed->sK P G ci ts h (λts' h'=>PK G pd listed i ts' h'/\mJ df B P G ops cs pd Q Qp fuel (listed.setIfInBounds i true) ts' h') Qp->mJ df B P G ops cs pd Q Qp (fuel+1) listed ts h:=by
 intro fuel
 induction fuel with
 |zero=>
  intro listed ts h hc hfree hr H
  have hrD:=hr
  have hr:=(List.mem_filter.1 hrD).1
  refine⟨λh0=>(by rw[h0] at hr;cases hr),λj hjD=>?_⟩
  have hj:=(List.mem_filter.1 hjD).1
  by_cases hji:j=i
  ·subst hji;exact⟨ci,hi,H⟩
  ·
   obtain⟨hjun,oj,hoj,_⟩:=mem_ready.1 hj
   have hjl:j<ops.size:=(Array.getElem?_eq_some_iff.1 hoj).1
   have hnb:i∉B.getD j []:=λhm=>by
    have:=hB j i hm listed hc (iR hj)
    have h0:=(mem_ready.1 hr).1
    rcases Nat.lt_or_ge i listed.size with h'|h'
    ·simp[h'] at h0 this;rw[h0] at this;cases this
    ·simp[Array.getElem?_eq_none h'] at this
   obtain⟨cj,hcj,ha,hk,_⟩:=hfree j hjl hji hjun hnb (Ec hB hc hr hjD hji)
   have hbad:∀ts1 h1,¬mJ df B P G ops cs pd Q Qp 0 (listed.setIfInBounds i true) ts1 h1:=λts1 h1 hh=>by
    have:=ready_mono hj hji
    rw[hh.1] at this;cases this
   exfalso
   have hq:ci.ai.free=true\/ci.ai.quiet=true:=by
    rcases hk with hs|⟨hq,_⟩|⟨q,hq,_⟩
    ·exact .inl hs
    ·exact .inr hq
    ·obtain⟨e,_⟩:=yV hq
     exact .inr (by rw[e];rfl)
   rcases hq with hs|hq
   ·obtain⟨v,k1,_⟩:=vf hs H;exact(hbad _ _ k1.2).elim
   ·obtain⟨v,k1,_⟩:=sa hq H;exact(hbad _ _ k1.2).elim
 |succ fuel ih=>
  intro listed ts h hc hfree hr H
  have hrD:=hr
  have hr:=(List.mem_filter.1 hrD).1
  refine⟨λh0=>(by rw[h0] at hr;cases hr),λj hjD=>?_⟩
  have hj:=(List.mem_filter.1 hjD).1
  by_cases hji:j=i
  ·subst hji;exact⟨ci,hi,H⟩
  ·obtain⟨hjun,oj,hoj,_⟩:=mem_ready.1 hj
   have hjl:j<ops.size:=(Array.getElem?_eq_some_iff.1 hoj).1
   have h0:=(mem_ready.1 hr).1
   have hil:i<listed.size:=by
    rcases Nat.lt_or_ge i listed.size with h'|h'
    ·exact h'
    ·simp[Array.getElem?_eq_none h'] at h0
   have hif:listed.getD i false=false:=by simp[hil] at h0⊢;exact h0
   have hnb:i∉B.getD j []:=λhm=>by
    have:=hB j i hm listed hc (iR hj)
    rw[hif] at this;cases this
   obtain⟨cj,hcj,ha,hk,hpi,hpd⟩:=hfree j hjl hji hjun hnb (Ec hB hc hr hjD hji)
   refine⟨cj,hcj,?_⟩
   have H':sK P G ci ts h (λts1 h1=>sK P G cj ts1 h1 (λts2 h2=>PK G pd (listed.setIfInBounds i true) j ts2 h2/\mJ df B P G ops cs pd Q Qp fuel ((listed.setIfInBounds i true).setIfInBounds j true) ts2 h2) Qp) Qp:=fe (λts1 h1 _ k=>by
    obtain⟨c',e1,e2⟩:=k.2.2 j (te hjD hji)
    rw[hcj] at e1;cases e1;exact e2) H
   have hk':ci.ai.free=true\/(ci.ai.quiet=true/\cj.ai.quiet=true)\/(∃q,tI ci=some q/\∀ts' h',(PK G pd (listed.setIfInBounds i true) j ts' h'/\mJ df B P G ops cs pd Q Qp fuel ((listed.setIfInBounds i true).setIfInBounds j true) ts' h')->Ck G ts' h' q):=by
    rcases hk with hs|hq|⟨q,hq,hm⟩
    ·exact .inl hs
    ·exact .inr (.inl hq)
    ·exact .inr (.inr ⟨q,hq,λts' h' k=>k.1 (i,q) hm (by simp[hil])⟩)
   refine fe (λts1 h1 _ k=>⟨?_,?_⟩) (IN ha hk' H')
   ·obtain⟨⟨u,k1,_⟩,_⟩:=k
    refine JY hif (λq hq hl=>?_) (λl=>FT) k1
    rcases hpd q hq with e|e|e
    ·exact .inl e
    ·have:=hB q.1 i e listed hc (λo ho d hd=>hc q.1 o ho hl d hd)
     rw[hif] at this;cases this
    ·exact .inr e
   ·refine ih (listed.setIfInBounds j true) ts1 h1 (hc.step hj) (λl hl hli hun hno hnd=>?_) (te hrD (Ne.symm hji)) ?_
    ·refine hfree l hl hli ?_ hno hnd
     by_cases hjk:j=l
     ·subst hjk;exact hjun
     ·rw[getD_set_ne true hjk] at hun;exact hun
    ·refine fe (λts2 h2 _ k2=>⟨(λq hq=>by rw[hpi] at hq;cases hq),?_⟩) k.2
     rw[Array.setIfInBounds_comm _ _ hji];exact k2.2
theorem vp{B:List (List Nat)}(hB:BOk ops B){Q:KT}{Qp:QP}:∀(π:List Nat) (listed:Array Bool) (ts:List AV) (h:List AO),Clo ops listed->uW df ops cs B pd π listed=true->
 rK P G (sI cs pd π) ts h Q Qp->mJ df B P G ops cs pd Q Qp π.length listed ts h
 |[],listed,ts,h,_,ho,hr=>⟨by simpa[uW] using ho,hr⟩
 |i::π,listed,ts,h,hc,ho,hr=>by
  simp only[uW,Bool.and_eq_true] at ho
  obtain⟨⟨o1,o2⟩,o3⟩:=ho
  have hri:i∈eI df ops cs B listed:=by simpa using o1
  have hri':=(List.mem_filter.1 hri).1
  cases hci:cs[i]? with
  |none=>rw[hci] at o2;cases o2
  |some ci=>
   rw[hci] at o2
   simp only[sI,hci,rK] at hr
   simp only[List.all_eq_true,List.mem_range] at o2
   refine vM hB hci π.length listed ts h hc (λj hj hji hun hno hnd=>?_) hri (fe (λts1 h1 _ k=>?_) hr)
   ·have:=o2 j hj
    have hno':(B.getD j []).contains i=false:=by simpa using hno
    have hnd':(df==some j&& !slB cs i)=false:=by rcases hnd with h|h<;>simp[h]
    simp only[beq_iff_eq,hji,hun,hno',hnd',Bool.or_eq_true,Bool.false_eq_true,false_or] at this
    cases hcj:cs[j]? with
    |none=>rw[hcj] at this;cases this
    |some cj=>
     rw[hcj] at this
     simp only[Bool.and_eq_true,Bool.or_eq_true] at this
     obtain⟨⟨⟨t1,t2⟩,t3⟩,t4⟩:=this
     refine⟨cj,rfl,t1,?_,by simpa using t3,λq hq=>?_⟩
     ·rcases t2 with(t2|t2)|t2
      ·exact .inl t2
      ·exact .inr (.inl t2)
      ·split at t2
       ·rename_i q hq
        exact .inr (.inr ⟨q,hq,by simpa using t2⟩)
       ·cases t2
     ·have:=List.all_eq_true.1 t4 q hq
      simpa[or_assoc] using this
   ·obtain⟨k1,k2⟩:=tV k
    exact⟨λq hq _=>vU k1 _ (List.mem_map.2 ⟨q,hq,rfl⟩),vp hB π _ ts1 h1 (hc.step hri') o3 k2⟩
inductive OTi where
 |done
 |one (i:Nat) (r:OTi)
 |alt (i:Nat) (r rest:OTi)
 |tru
inductive OT where
 |done
 |one (cs:List CO) (r:OT)
 |alt (a b:OT)
 |tru
def otK(P:Program)(G:az):OT->List AV->List AO->KT->QP->Prop
 | .done,ts,h,K,_=>K ts h
 | .one cs r,ts,h,K,Qp=>rK P G cs ts h (λts' h'=>otK P G r ts' h' K Qp) Qp
 | .alt a b,ts,h,K,Qp=>otK P G a ts h K Qp/\otK P G b ts h K Qp
 | .tru,_,_,_,_=>True
def Al(df:Option Nat)(ops:Array Oper)(cs:List CO)(B:List (List Nat))(pd:Nat->List (Nat × Option Nat × Nat × Nat))(i:Nat)(listed:Array Bool):Bool:=
 match cs[i]? with
 |none=>false
 |some ci=>(List.range ops.size).all λj=>j==i||listed.getD j true||(B.getD j []).contains i||(df==some j&& !slB cs i)||(match cs[j]? with
  |some cj=>oG ci cj&&(ci.ai.free||(ci.ai.quiet&&cj.ai.quiet)||(match tI ci with
    |some q=>(pd j).contains (i,q)
    |none=>false))&&(pd i).isEmpty&&(pd j).all λq=>q.1==i||(B.getD q.1 []).contains i||(ci.dst !=some q.2.2.1&&ci.dst !=some q.2.2.2)
  |none=>false)
def my(df:Option Nat)(ops:Array Oper)(cs:List CO)(B:List (List Nat))(pd:Nat->List (Nat × Option Nat × Nat × Nat)):Nat->OTi->List Nat->Array Bool->Bool
 |_,.done,acc,l=>acc.isEmpty&&(Region.ready .any ops l).isEmpty
 |f,.one i r,acc,l=>acc.isEmpty&&f !=0&&(eI df ops cs B l).contains i&&Al df ops cs B pd i l&&my df ops cs B pd (f-1) r [] (l.setIfInBounds i true)
 |f,.alt i r rest,acc,l=>f !=0&&(eI df ops cs B l).contains i&&(cs[i]?).isSome&&my df ops cs B pd (f-1) r [] (l.setIfInBounds i true)&&my df ops cs B pd f rest (i::acc) l
 |_,.tru,acc,l=> !acc.isEmpty&&(eI df ops cs B l).all λj=>acc.contains j
def Mv(l:List (Nat × Option Nat × Nat × Nat)):List CO:=(l.map (·.2)).map λq=>⟨none,none,.chk q.1 q.2.1 q.2.2⟩
def OTi.comp(cs:List CO)(pd:Nat->List (Nat × Option Nat × Nat × Nat)):OTi->Array Bool->OT
 | .done,_=> .done
 | .one i r,l=>match cs[i]? with
   |some c=> .one (c::(Mv (pd i)++[])) (r.comp cs pd (l.setIfInBounds i true))
   |none=> .tru
 | .alt i r rest,l=>match cs[i]? with
   |some c=> .alt (.one (c::(Mv ((pd i).filter λq=>l.getD q.1 false)++[])) (r.comp cs pd (l.setIfInBounds i true))) (rest.comp cs pd l)
   |none=> .tru
 | .tru,_=> .tru
theorem BL{B:List (List Nat)}{i:Nat}{listed:Array Bool}(h:Al df ops cs B pd i listed=true):∃ci,cs[i]?=some ci/\
 ∀(j:Nat),j<ops.size->j≠i->listed.getD j true=false->i∉B.getD j []->(df≠some j\/slB cs i=true)->∃cj,cs[j]?=some cj/\oG ci cj=true/\
  (ci.ai.free=true\/(ci.ai.quiet=true/\cj.ai.quiet=true)\/∃q,tI ci=some q/\(i,q)∈pd j)/\pd i=[]/\∀q∈pd j,q.1=i\/i∈B.getD q.1 []\/(ci.dst≠some q.2.2.1/\ci.dst≠some q.2.2.2):=by
 unfold Al at h
 cases hci:cs[i]? with
 |none=>rw[hci] at h;cases h
 |some ci=>
  rw[hci] at h
  simp only[List.all_eq_true,List.mem_range] at h
  refine⟨ci,rfl,λj hj hji hun hno hnd=>?_⟩
  have:=h j hj
  have hno':(B.getD j []).contains i=false:=by simpa using hno
  have hnd':(df==some j&& !slB cs i)=false:=by rcases hnd with h|h<;>simp[h]
  simp only[beq_iff_eq,hji,hun,hno',hnd',Bool.or_eq_true,Bool.false_eq_true,false_or] at this
  cases hcj:cs[j]? with
  |none=>rw[hcj] at this;cases this
  |some cj=>
   rw[hcj] at this
   simp only[Bool.and_eq_true,Bool.or_eq_true] at this
   obtain⟨⟨⟨t1,t2⟩,t3⟩,t4⟩:=this
   refine⟨cj,rfl,t1,?_,by simpa using t3,λq hq=>?_⟩
   ·rcases t2 with(t2|t2)|t2
    ·exact .inl t2
    ·exact .inr (.inl t2)
    ·split at t2
     ·rename_i q hq
      exact .inr (.inr ⟨q,hq,by simpa using t2⟩)
     ·cases t2
   ·have:=List.all_eq_true.1 t4 q hq
    simpa[or_assoc] using this
theorem iZ{B:List (List Nat)}{listed:Array Bool}{j:Nat}(h:j∈eI df ops cs B listed):j∈Region.ready .any ops listed:=(List.mem_filter.1 h).1
theorem rd{B:List (List Nat)}(hB:BOk ops B){Q:KT}{Qp:QP}:∀(t:OTi) (f:Nat) (acc:List Nat) (l:Array Bool) (ts:List AV) (h:List AO),Clo ops l->my df ops cs B pd f t acc l=true->otK P G (t.comp cs pd l) ts h Q Qp->
 (acc=[]->mJ df B P G ops cs pd Q Qp f l ts h)/\∀j∈eI df ops cs B l,j∉acc->0<f/\∃c,cs[j]?=some c/\sK P G c ts h (λts' h'=>PK G pd l j ts' h'/\mJ df B P G ops cs pd Q Qp (f-1) (l.setIfInBounds j true) ts' h') Qp
 | .done,f,acc,l,ts,h,_,ho,hk=>by
   simp only[my,Bool.and_eq_true,List.isEmpty_iff] at ho
   refine⟨λ_=>?_,λj hj=>(by have:=iZ hj;rw[ho.2] at this;cases this)⟩
   cases f with
   |zero=>exact⟨ho.2,hk⟩
   |succ f=>exact⟨λ_=>hk,λi hi=>(by have:=iZ hi;rw[ho.2] at this;cases this)⟩
 | .tru,f,acc,l,ts,h,_,ho,_=>by
   simp only[my,Bool.and_eq_true,List.all_eq_true,Bool.not_eq_true',List.contains_iff_mem] at ho
   refine⟨λe=>(by subst e;cases ho.1),λj hj hn=>absurd (ho.2 j hj) hn⟩
 | .one i r,f,acc,l,ts,h,hc,ho,hk=>by
   simp only[my,Bool.and_eq_true,List.contains_iff_mem] at ho
   obtain⟨⟨⟨⟨o0,of⟩,o1⟩,o2⟩,o3⟩:=ho
   obtain⟨g,rfl⟩:∃g,f=g+1:=⟨f-1,by have:f≠0:=by simpa using of
                                   omega⟩
   obtain⟨ci,hci,hfree⟩:=BL o2
   simp only[OTi.comp,hci,otK,rK] at hk
   have hA:mJ df B P G ops cs pd Q Qp (g+1) l ts h:=by
    refine vM hB hci g l ts h hc hfree o1 (fe (λts1 h1 _ k=>?_) hk)
    obtain⟨k1,k2⟩:=tV k
    exact⟨λq hq _=>vU k1 _ (List.mem_map.2 ⟨q,hq,rfl⟩),(rd hB r g [] _ ts1 h1 (hc.step (iZ o1)) o3 k2).1 rfl⟩
   exact⟨λ_=>hA,λj hj _=>⟨by omega,hA.2 j hj⟩⟩
 | .alt i r rest,f,acc,l,ts,h,hc,ho,hk=>by
   simp only[my,Bool.and_eq_true,List.contains_iff_mem] at ho
   obtain⟨⟨⟨⟨of,o1⟩,o2⟩,o3⟩,o4⟩:=ho
   obtain⟨g,rfl⟩:∃g,f=g+1:=⟨f-1,by have:f≠0:=by simpa using of
                                   omega⟩
   obtain⟨ci,hci⟩:=Option.isSome_iff_exists.1 o2
   simp only[OTi.comp,hci,otK,rK] at hk
   obtain⟨hk1,hk2⟩:=hk
   have hI:sK P G ci ts h (λts' h'=>PK G pd l i ts' h'/\mJ df B P G ops cs pd Q Qp g (l.setIfInBounds i true) ts' h') Qp:=by
    refine fe (λts1 h1 _ k=>?_) hk1
    obtain⟨k1,k2⟩:=tV k
    exact⟨λq hq hl=>vU k1 _ (List.mem_map.2 ⟨q,List.mem_filter.2 ⟨hq,hl⟩,rfl⟩),(rd hB r g [] _ ts1 h1 (hc.step (iZ o1)) o3 k2).1 rfl⟩
   have hR:=(rd hB rest (g+1) (i::acc) l ts h hc o4 hk2).2
   have hall:∀j∈eI df ops cs B l,j∉acc->∃c,cs[j]?=some c/\sK P G c ts h (λts' h'=>PK G pd l j ts' h'/\mJ df B P G ops cs pd Q Qp g (l.setIfInBounds j true) ts' h') Qp:=λj hj hn=>by
    by_cases e:j=i
    ·subst e;exact⟨ci,hci,hI⟩
    ·exact(hR j hj (by simp[e,hn])).2
   exact⟨λe=>⟨λh0=>(by have:=iZ o1;rw[h0] at this;cases this),λj hj=>hall j hj (by rw[e];simp)⟩,λj hj hn=>⟨by omega,hall j hj hn⟩⟩
variable {W0:World} {S0:Nat->Prop} {φ0:au} {h0:List AO}
def cnt(listed:Array Bool):Nat->Nat
 |0=>0
 |n+1=>cnt listed n+if listed.getD n true=false then 1 else 0
theorem Cu(listed:Array Bool):∀n,cnt listed n<=n
 |0=>Nat.le_refl _
 |n+1=>by simp only[cnt];have:=Cu listed n;split<;>omega
theorem Bg{listed:Array Bool}:∀{n:Nat},cnt listed n=0->∀l,l<n->listed.getD l true=true
 |n+1,h,l,hl=>by
  simp only[cnt] at h
  by_cases hn:listed.getD n true=false
  ·rw[if_pos hn] at h;omega
  ·by_cases e:l=n
   ·subst e;simpa using hn
   ·exact Bg (n:=n) (by omega) l (by omega)
theorem jC{listed:Array Bool}{i l:Nat}(h:(listed.setIfInBounds i true).getD l true=false):listed.getD l true=false/\l≠i:=by
 by_cases e:i=l
 ·subst e
  rcases Nat.lt_or_ge i listed.size with h'|h'
  ·simp[h'] at h
  ·simp[Array.getElem?_eq_none h'] at h
 ·rw[getD_set_ne true e] at h;exact⟨h,Ne.symm e⟩
theorem gH(listed:Array Bool)(i:Nat):∀n,cnt (listed.setIfInBounds i true) n<=cnt listed n
 |0=>Nat.le_refl _
 |n+1=>by
  simp only[cnt]
  have:=gH listed i n
  split
  ·rename_i h;rw[if_pos (jC h).1];omega
  ·omega
theorem CB{listed:Array Bool}{i:Nat}(h:listed.getD i true=false):∀{n:Nat},i<n->cnt (listed.setIfInBounds i true) n+1<=cnt listed n
 |n+1,hi=>by
  simp only[cnt]
  by_cases e:i=n
  ·subst e
   have:=gH listed i i
   rw[if_pos h,if_neg (λhh=>(jC hh).2 rfl)]
   omega
  ·have:=CB h (n:=n) (by omega)
   split
   ·rename_i hh;rw[if_pos (jC hh).1];omega
   ·omega
def Ft(ops:Array Oper)(cs:List CO)(B:List (List Nat))(i0 d:Nat):Bool:=
 (List.range ops.size).all λj=>match ops[j]?,cs[j]? with
   |some o,some c=>(tK o).all (λx=>decide (x<j))&&(!(tK o).contains i0||(B.getD j []).contains i0)&&(j==i0||c.dst !=some d)&&
     (!(B.getD j []).contains i0||(List.range ops.size).all λl=>l==i0||(B.getD l []).contains i0||(B.getD j []).contains l||slB cs l)
   |_,_=>false
theorem rA{B:List (List Nat)}{i0 d:Nat}(h:Ft ops cs B i0 d=true){j:Nat}{o:Oper}(ho:ops[j]?=some o):
 ∃c,cs[j]?=some c/\(∀x∈tK o,x<j)/\(i0∈tK o->i0∈B.getD j [])/\(j≠i0->c.dst≠some d)/\(i0∈B.getD j []->∀l,l<ops.size->l=i0\/i0∈B.getD l []\/l∈B.getD j []\/slB cs l=true):=by
 have hj:j<ops.size:=(Array.getElem?_eq_some_iff.1 ho).1
 have:=List.all_eq_true.1 h j (by simpa using hj)
 rw[ho] at this
 cases hc:cs[j]? with
 |none=>rw[hc] at this;cases this
 |some c=>
  rw[hc] at this
  simp only[Bool.and_eq_true,Bool.or_eq_true,List.all_eq_true,List.mem_range,decide_eq_true_eq,beq_iff_eq,bne_iff_ne,Bool.not_eq_true',List.contains_iff_mem,ne_eq] at this
  obtain⟨⟨⟨t1,t2⟩,t3⟩,t4⟩:=this
  refine⟨c,rfl,t1,λhm=>?_,λhn=>?_,λhm l hl=>?_⟩
  ·rcases t2 with t2|t2
   ·rw[List.contains_iff_mem.2 hm] at t2;cases t2
   ·exact t2
  ·exact t3.resolve_left hn
  ·rcases t4 with t4|t4
   ·rw[List.contains_iff_mem.2 hm] at t4;cases t4
   ·rcases t4 l hl with((h|h)|h)|h
    ·exact .inl h
    ·exact .inr (.inl h)
    ·exact .inr (.inr (.inl h))
    ·exact .inr (.inr (.inr h))
theorem FX{B:List (List Nat)}{i0 d:Nat}(h:Ft ops cs B i0 d=true){listed:Array Bool}(hsz:listed.size=ops.size)(he:Region.ready .any ops listed=[]):∀j,j<ops.size->listed.getD j true=true:=by
 intro j
 induction j using Nat.strongRecOn with
 |ind j ih=>
  intro hj
  by_cases hun:listed.getD j true=true
  ·exact hun
  ·exfalso
   obtain⟨o,ho⟩:∃o,ops[j]?=some o:=⟨_,Array.getElem?_eq_getElem hj⟩
   obtain⟨c,_,t1,_⟩:=rA h ho
   have:j∈Region.ready .any ops listed:=mem_ready.2 ⟨by simpa using hun,o,ho,λe he hb=>by
    have hlt:=t1 _ (AT he hb)
    have h1:=ih e.on hlt (by omega)
    have h2:e.on<listed.size:=by omega
    simp[h2] at h1⊢;exact h1⟩
   rw[he] at this;cases this
structure PendR (n0:Nat) (z:List AV) (d b:Nat) (W:World) (S:Nat->Prop) (φ:au) (a:Act) (ts:List AV) (h:List AO):Prop where
 lt:b<W.heap.size
 ge:n0<=b
 obj:∃c t,W.heap[b]?=some (.cells c t (0,0))/\Ptw W S φ h.length z c.toList
 notS:¬S b
 own:∀id,Live h id->(φ id).1≠b
 tmp:d<ts.length->a.tmps.getD d undef= .pointer (some ⟨b,0,none⟩)
 any:ts.getD d .any= .any
theorem PendR.step{n0:Nat}{z:List AV}{d b:Nat}{W W':World}{S S':Nat->Prop}{φ φ':au}{a:Act}{ts ts':List AV}{h h':List AO}(p:PendR n0 z d b W S φ a ts h)(K:Keep W S φ h W' S' φ' h')
 {o:Option Nat}{x:Value}{u:AV}(ho:o≠some d)(ht:ts'=put o u ts):PendR n0 z d b W' S' φ' (a.put o x) ts' h' where
 lt:=Nat.lt_of_lt_of_le p.lt K.size
 ge:=p.ge
 obj:=by
  obtain⟨c,t,h1,h2⟩:=p.obj
  exact⟨c,t,by rw[K.out b p.lt p.own];exact h1,h2.1,λj c v h3 h4=>(h2.2 j c v h3 h4).kept K.toKept⟩
 notS:=λhb=>by
  rcases K.newS b hb with h1|h1|⟨id,h1,h2⟩
  ·exact p.notS h1
  ·have:=p.lt;omega
  ·exact p.own _ h1 h2
 own:=λid e he=>by
  rcases K.img id e with h1|⟨id2,h1,h2⟩
  ·have:=p.lt;omega
  ·exact p.own _ h1 (h2.trans he)
 tmp:=λhd=>by
  have hd':d<ts.length:=by subst ht;cases o<;>simpa[put] using hd
  rw[←p.tmp hd']
  cases o with
  |none=>rfl
  |some e=>
   have hne:e≠d:=λhh=>ho (by rw[hh])
   simp[Act.put,Array.getElem?_setIfInBounds_ne hne]
 any:=by subst ht;exact(gU (d:=o) λe he hn=>ho (by rw[he,hn])).trans p.any
theorem PendR.told{z:List AV}{d b:Nat}{W:World}{S:Nat->Prop}{φ:au}{a:Act}{ts:List AV}{h:List AO}(p:PendR W0.heap.size z d b W S φ a ts h)(hz:z.all AV.isCell=true)(s:St G W0 S0 φ0 h0 W S φ a ts h):
 ∃φ',St G W0 S0 φ0 h0 W S φ' a (put (some d) (.ptr h.length z.length 0 0) ts) (h++[.row z.length [z]]):=by
 obtain⟨c,t,hb,hp⟩:=p.obj
 have H:=s.hrel
 have hφ:∀{i},i<h.length->upd φ h.length (b,0) i=φ i:=λhi=>by simp only[upd];rw[if_neg (by omega)]
 have hφn:upd φ h.length (b,0) h.length=(b,0):=by simp[upd]
 have hl0:(h++[AO.row z.length [z]]).length=h.length+1:=by simp
 have K1:Kept W S φ h.length W S (upd φ h.length (b,0)) (h++[AO.row z.length [z]]).length:=
  {pure:=λb hb=>⟨hb,rfl⟩
   len:=by omega
   same:=λid hid=>hφ hid
   blk:=λi hi c' t' fr' e=>⟨c',t',fr',e,rfl⟩}
 have hget:∀{i o},(h++[AO.row z.length [z]])[i]?=some o->(i=h.length/\o= .row z.length [z])\/(i<h.length/\h[i]?=some o):=λ{i o} e=>by
  rcases Nat.lt_trichotomy i h.length with hi|hi|hi
  ·rw[List.getElem?_append_left hi] at e;exact .inr ⟨hi,e⟩
  ·subst hi;simp at e;exact .inl ⟨rfl,e.symm⟩
  ·rw[List.getElem?_eq_none (by simp;omega)] at e;cases e
 refine⟨upd φ h.length (b,0),⟨?_,?_,s.defers,?_⟩⟩
 ·refine⟨λi s1 es1 e=>?_,λi o1 e lo=>?_,λi i' ⟨o1,e1,l1⟩ ⟨o2,e2,l2⟩ he=>?_,λb' hb'=>⟨(H.sep b' hb').1,λi ⟨o1,e,l1⟩ he=>?_⟩,λi hi=>?_,H.glob⟩
  ·rcases hget e with⟨rfl,eo⟩|⟨hi,e'⟩
   ·cases eo
    refine⟨c,t,(0,0),by rw[hφn];exact hb,λj _ hh=>by omega,by simp,?_,λj u hj=>?_⟩
    ·have hq:=hp.1
     simp only[Array.length_toList] at hq
     rw[hφn]
     simp only[List.length_singleton,Nat.one_mul,Nat.zero_add]
     omega
    ·simp only[List.flatten_cons,List.flatten_nil,List.append_nil] at hj
     have hjl:j<c.toList.length:=by have:=(List.getElem?_eq_some_iff.1 hj).1;rw[hp.1];exact this
     refine⟨List.all_eq_true.1 hz u (List.mem_of_getElem? hj),c.toList[j],?_,(hp.2 j u _ hj (List.getElem?_eq_getElem hjl)).kept K1⟩
     rw[hφn];simp at hjl⊢;try simp[hjl]
   ·obtain⟨c1,t1,fr1,a1,a2,a3,a4,a5⟩:=H.obj i s1 es1 e'
    refine⟨c1,t1,fr1,by rw[hφ hi];exact a1,a2,a3,by rw[hφ hi];exact a4,λj u hj=>?_⟩
    obtain⟨b1,v,b2,b3⟩:=a5 j u hj
    exact⟨b1,v,by rw[hφ hi];exact b2,b3.kept K1⟩
  ·rcases hget e with⟨rfl,eo⟩|⟨hi,e'⟩
   ·cases eo;trivial
   ·rw[hφ hi]
    exact(H.oobj i o1 e' lo).mono λa v r=>r.kept K1
  ·rcases hget e1 with⟨rfl,_⟩|⟨hi,e1'⟩<;>rcases hget e2 with⟨rfl,_⟩|⟨hi',e2'⟩
   ·rfl
   ·rw[hφn,hφ hi'] at he;exact(p.own _ ⟨_,e2',l2⟩ he.symm).elim
   ·rw[hφn,hφ hi] at he;exact(p.own _ ⟨_,e1',l1⟩ he).elim
   ·rw[hφ hi,hφ hi'] at he;exact H.inj _ _ ⟨_,e1',l1⟩ ⟨_,e2',l2⟩ he
  ·rcases hget e with⟨rfl,_⟩|⟨hi,e'⟩
   ·rw[hφn] at he;subst he;exact p.notS hb'
   ·rw[hφ hi] at he;exact(H.sep b' hb').2 _ ⟨_,e',l1⟩ he
  ·rcases Nat.lt_or_ge i h.length with hi'|hi'
   ·rw[hφ hi'];exact H.bnd _ hi'
   ·have:i=h.length:=by omega
    subst this
    rw[hφn];exact p.lt
 ·have T:=s.trel.kept K1
  refine⟨by rw[T.size];simp[put],λi v hi=>?_⟩
  by_cases e:d=i
  ·subst e
   simp only[put] at hi
   have hd:d<ts.length:=by have:=(List.getElem?_eq_some_iff.1 hi).1;simpa using this
   rw[List.getElem?_set_self hd] at hi
   cases hi
   rw[p.tmp hd]
   have:=VRel.ptr (W:=W) (S:=S) (φ:=upd φ h.length (b,0)) (n:=(h++[AO.row z.length [z]]).length) h.length z.length 0 0 (by simp)
   simpa[upd] using this
  ·simp only[put] at hi
   rw[List.getElem?_set_ne e] at hi
   exact T.get i v hi
 ·have k:=s.keep
  refine{(Kept.mk (λb hb=>k.pure b hb) (by have:=k.len;omega) (λid hid=>?_) (λid hid c' t' fr' e=>k.blk id hid c' t' fr' e):Kept W0 S0 φ0 h0.length W S (upd φ h.length (b,0)) (h++[AO.row z.length [z]]).length) with os:=k.os,tape:=k.tape,output:=k.output,size:=k.size,out:=k.out,img:=λid ⟨o,e,l⟩=>?_,newS:=k.newS}
  ·rw[hφ (Nat.lt_of_lt_of_le hid k.len)];exact k.same id hid
  ·rcases hget e with⟨rfl,_⟩|⟨hi,e'⟩
   ·rw[hφn];exact .inl p.ge
   ·rw[hφ hi];exact k.img id ⟨_,e',l⟩
section run
variable {B:List (List Nat)} {Q':Exit->Act->World->Prop} {K:KT} {Qp:QP} (hok:jk P ops ops.toList cs)
 (hK:∀a' W' S' φ' ts' h',St G W0 S0 φ0 h0 W' S' φ' a' ts' h'->K ts' h'->Q' .normal a' W')
 (hQ:∀a W' S' φ' ts h' t v x,PRel W' S' v x->St G W0 S0 φ0 h0 W' S' φ' a ts h'->Qp t v h'->Q' (.panic [{v:= .iface t x,recovered:=false}]) a W')
include hok hK hQ
theorem zW{i:Nat}{c:CO}{o:Oper}(ho:ops[i]?=some o)(hc:cs[i]?=some c){W:World}{S:Nat->Prop}{φ:au}{a:Act}{ts:List AV}{h:List AO}(s:St G W0 S0 φ0 h0 W S φ a ts h){K1:KT}{X:Act->World->Prop}
 (hs:sK P G c ts h K1 Qp)(hX:∀a' W' S' φ' ts' h',(∃x,a'=a.put o.dst x)->St G W0 S0 φ0 h0 W' S' φ' a' ts' h'->Keep W S φ h W' S' φ' h'->K1 ts' h'->X a' W'):wpOp P ops Q' i X a W:=by
 have _hK:=hK
 have s1:St G W S φ h W S φ a ts h:=⟨s.hrel,s.trel,s.defers,Keep.refl s.hrel⟩
 have:=AG (hok.2 i o c (by simpa using ho) hc) s1 hs (K':=X) (Q':=Q')
  (λa' W' S' φ' ts' h' hx s' k'=>hX a' W' S' φ' ts' h' hx ⟨s'.hrel,s'.trel,s'.defers,s.keep.trans s'.keep⟩ s'.keep k')
  (λW' S' φ' h' t v x k1 k2 k3=>hQ _ _ _ _ _ _ _ _ _ k1 ⟨k2.hrel,k2.trel,k2.defers,s.keep.trans k2.keep⟩ k3)
 unfold wpOp
 simp only[ho]
 rcases this with⟨hw,h1⟩|⟨hw,h1⟩
 ·rw[if_pos hw];exact .inl h1
 ·rw[if_neg (by simp[hw])];exact h1
theorem dN:∀(fuel:Nat) (listed:Array Bool) (W:World) (S:Nat->Prop) (φ:au) (a:Act) (ts:List AV) (h:List AO),(∀i0,df=some i0->listed.getD i0 true=true)->
 St G W0 S0 φ0 h0 W S φ a ts h->mJ df B P G ops cs pd K Qp fuel listed ts h->wpAny P .any ops Q' fuel listed a W
 |0,listed,W,S,φ,a,ts,h,_,s,hr=>⟨hr.1,hK _ _ _ _ _ _ s hr.2⟩
 |fuel+1,listed,W,S,φ,a,ts,h,hd,s,hr=>by
  refine⟨λh0=>hK _ _ _ _ _ _ s (hr.1 h0),λi hi=>?_⟩
  obtain⟨hun,o,ho,_⟩:=mem_ready.1 hi
  obtain⟨c,hc,hs⟩:=hr.2 i (List.mem_filter.2 ⟨hi,by
   have:df≠some i:=λe=>by have:=hd i e;rw[hun] at this;cases this
   simp[this]⟩)
  refine zW hok hK hQ ho hc s hs λa' W' S' φ' ts' h' _ s' _ k'=>dN fuel _ W' S' φ' a' ts' h' (λi0 e=>?_) s' k'.2
  by_cases e2:i=i0
  ·subst e2;rw[hd i e] at hun;cases hun
  ·rw[getD_set_ne true e2];exact hd i0 e
theorem CM{i0 d:Nat}{z:List AV}{b:Nat}(hdf:df=some i0)(hc0:cs[i0]?=some ⟨some d,none,.alloc z⟩)(hz:z.all AV.isCell=true)(hB:BOk ops B)(hdo:Ft ops cs B i0 d=true):
 ∀(fuel:Nat) (listed:Array Bool) (W:World) (S:Nat->Prop) (φ:au) (a:Act) (ts:List AV) (h:List AO),listed.size=ops.size->cnt (listed.setIfInBounds i0 true) ops.size<=fuel->Clo ops listed->i0∈Region.ready .any ops listed->
 St G W0 S0 φ0 h0 W S φ a ts h->PendR W0.heap.size z d b W S φ a ts h->mJ df B P G ops cs pd K Qp (fuel+1) listed ts h->wpAny P .any ops Q' fuel (listed.setIfInBounds i0 true) a W:=by
 intro fuel
 induction fuel with
 |zero=>
  intro listed W S φ a ts h hsz hcnt hclo hr0 s p hr
  have hl:oM cs ops.size B i0 listed=true:=by
   simp only[oM,List.all_eq_true,List.mem_range,Bool.or_eq_true,beq_iff_eq]
   intro l hl
   by_cases e:l=i0
   ·exact .inl (.inl (.inl e))
   ·have:=Bg (Nat.le_zero.1 hcnt) l hl
    rw[getD_set_ne true (Ne.symm e)] at this
    exact .inl (.inl (.inr this))
  obtain⟨c,hc,hs⟩:=hr.2 i0 (List.mem_filter.2 ⟨hr0,by simp[hl]⟩)
  rw[hc0] at hc;cases hc
  obtain⟨v,h',e1,_,e2⟩:=(hs:okE (ev G ts h (.alloc z)) _)
  cases e1
  obtain⟨φ',s'⟩:=p.told hz s
  refine dN hok hK hQ 0 _ W S φ' a _ _ (λi1 e=>?_) s' e2
  rw[hdf] at e;cases e
  have:i0<listed.size:=by obtain⟨_,o,ho,_⟩:=mem_ready.1 hr0;rw[hsz];exact(Array.getElem?_eq_some_iff.1 ho).1
  simp[this]
 |succ fuel ih=>
  intro listed W S φ a ts h hsz hcnt hclo hr0 s p hr
  have hi0:i0<listed.size:=by obtain⟨_,o,ho,_⟩:=mem_ready.1 hr0;rw[hsz];exact(Array.getElem?_eq_some_iff.1 ho).1
  by_cases hl:oM cs ops.size B i0 listed=true
  ·obtain⟨c,hc,hs⟩:=hr.2 i0 (List.mem_filter.2 ⟨hr0,by simp[hl]⟩)
   rw[hc0] at hc;cases hc
   obtain⟨v,h',e1,_,e2⟩:=(hs:okE (ev G ts h (.alloc z)) _)
   cases e1
   obtain⟨φ',s'⟩:=p.told hz s
   refine dN hok hK hQ (fuel+1) _ W S φ' a _ _ (λi1 e=>?_) s' e2
   rw[hdf] at e;cases e
   simp[hi0]
  ·have hlate:∀{x:Array Bool},x=listed.setIfInBounds i0 true->(∀l,l<ops.size->l=i0\/i0∈B.getD l []\/x.getD l false=true\/slB cs l=true)->False:=λhx hh=>hl (by
    simp only[oM,List.all_eq_true,List.mem_range,Bool.or_eq_true,beq_iff_eq]
    intro l hll
    rcases hh l hll with h1|h1|h1|h1
    ·exact .inl (.inl (.inl h1))
    ·exact .inl (.inr (by simpa using h1))
    ·by_cases e:l=i0
     ·exact .inl (.inl (.inl e))
     ·subst hx
      rw[getD_set_ne false (Ne.symm e)] at h1
      have:l<listed.size:=by omega
      refine .inl (.inl (.inr ?_))
      simp[this] at h1⊢;exact h1
    ·exact .inr h1)
   refine⟨λhe=>?_,λi hi=>?_⟩
   ·exfalso
    have:=FX hdo (by simpa using hsz) he
    refine hlate rfl λl hll=> .inr (.inr (.inl ?_))
    have h1:=this l hll
    have h2:l<(listed.setIfInBounds i0 true).size:=by simp;omega
    simp only[Array.getD_eq_getD_getElem?,Array.getElem?_eq_getElem h2,Option.getD_some] at h1⊢
    exact h1
   ·obtain⟨hun,o,ho,hall⟩:=mem_ready.1 hi
    obtain⟨hunl,hne⟩:=jC hun
    have hil:i<ops.size:=(Array.getElem?_eq_some_iff.1 ho).1
    obtain⟨c1,hc1,t1,t2,t3,t4⟩:=rA hdo ho
    have hclo':=hclo.step hr0
    have hno:i0∉tK o:=λhm=>by
     refine hlate rfl λl hll=>?_
     rcases t4 (t2 hm) l hll with h1|h1|h1|h1
     ·exact .inl h1
     ·exact .inr (.inl h1)
     ·exact .inr (.inr (.inl (hB i l h1 _ hclo' (iR hi))))
     ·exact .inr (.inr (.inr h1))
    have hri:i∈Region.ready .any ops listed:=mem_ready.2 ⟨hunl,o,ho,λe he hb=>by
     have h1:=hall e he hb
     have h2:e.on≠i0:=λh3=>hno (by rw[←h3];exact AT he hb)
     rw[getD_set_ne false (Ne.symm h2)] at h1;exact h1⟩
    obtain⟨c,hc,hs⟩:=hr.2 i (List.mem_filter.2 ⟨hri,by rw[hdf];simp[Ne.symm hne]⟩)
    rw[hc1] at hc;cases hc
    have hdst:=(hok.2 i o c1 (by simpa using ho) hc1).1
    have hs':sK P G c1 ts h (λts' h'=>(∃u,ts'=put c1.dst u ts)/\mJ df B P G ops cs pd K Qp (fuel+1) (listed.setIfInBounds i true) ts' h') Qp:=fe (λts' h' hu k=>⟨hu,k.2⟩) hs
    refine zW hok hK hQ ho hc1 s hs' λa' W' S' φ' ts' h' ⟨x,hx⟩ s' kp ⟨⟨u,hu⟩,k'⟩=>?_
    rw[Array.setIfInBounds_comm _ _ (Ne.symm hne)]
    refine ih (listed.setIfInBounds i true) W' S' φ' a' ts' h' (by simpa using hsz) ?_ (hclo.step hri) (ready_mono hr0 (Ne.symm hne)) s' ?_ k'
    ·rw[Array.setIfInBounds_comm _ _ hne]
     have:=CB hun hil
     omega
    ·subst hx
     exact p.step kp (by rw[←hdst];exact t3 hne) (by rw[←hdst];exact hu)
theorem ph{i0 d:Nat}{z:List AV}(hdf:df=some i0)(hc0:cs[i0]?=some ⟨some d,none,.alloc z⟩)(hB:BOk ops B)(hdo:Ft ops cs B i0 d=true):
 ∀(fuel:Nat) (listed:Array Bool) (W:World) (S:Nat->Prop) (φ:au) (a:Act) (ts:List AV) (h:List AO),listed.size=ops.size->cnt listed ops.size<=fuel->Clo ops listed->listed.getD i0 true=false->ts.getD d .any= .any->
 St G W0 S0 φ0 h0 W S φ a ts h->mJ df B P G ops cs pd K Qp fuel listed ts h->wpAny P .any ops Q' fuel listed a W
 |0,listed,W,S,φ,a,ts,h,_,_,_,_,_,s,hr=>⟨hr.1,hK _ _ _ _ _ _ s hr.2⟩
 |fuel+1,listed,W,S,φ,a,ts,h,hsz,hcnt,hclo,hun0,hany,s,hr=>by
  refine⟨λh0=>hK _ _ _ _ _ _ s (hr.1 h0),λi hi=>?_⟩
  obtain⟨hun,o,ho,_⟩:=mem_ready.1 hi
  have hil:i<ops.size:=(Array.getElem?_eq_some_iff.1 ho).1
  have hil':i<listed.size:=by omega
  have hcnt':cnt (listed.setIfInBounds i true) ops.size<=fuel:=by have:=CB hun hil;omega
  obtain⟨c1,hc1,t1,t2,t3,t4⟩:=rA hdo ho
  have hdst:=(hok.2 i o c1 (by simpa using ho) hc1).1
  by_cases hD:i∈eI df ops cs B listed
  ·obtain⟨c,hc,hs⟩:=hr.2 i hD
   rw[hc1] at hc;cases hc
   have hs':sK P G c1 ts h (λts' h'=>(∃u,ts'=put c1.dst u ts)/\mJ df B P G ops cs pd K Qp fuel (listed.setIfInBounds i true) ts' h') Qp:=fe (λts' h' hu k=>⟨hu,k.2⟩) hs
   refine zW hok hK hQ ho hc1 s hs' λa' W' S' φ' ts' h' _ s' _ ⟨⟨u,hu⟩,k'⟩=>?_
   by_cases e:i=i0
   ·subst e
    exact dN hok hK hQ fuel _ W' S' φ' a' ts' h' (λi1 e1=>by rw[hdf] at e1;cases e1;simp[hil']) s' k'
   ·refine ph hdf hc0 hB hdo fuel _ W' S' φ' a' ts' h' (by simpa using hsz) hcnt' (hclo.step hi) (by rw[getD_set_ne true e];exact hun0) ?_ s' k'
    subst hu
    exact(gU (d:=c1.dst) λe' he hn=>t3 e (by rw[he,hn])).trans hany
  ·
   have e:i=i0:=by
    apply Classical.byContradiction
    intro e
    exact hD (List.mem_filter.2 ⟨hi,by rw[hdf];simp[Ne.symm e]⟩)
   subst e
   rw[hc0] at hc1;cases hc1
   obtain⟨_,hg,hcomp⟩:=hok.2 i o _ (by simpa using ho) hc0
   have hcomp':ck P o=some (.alloc z):=by
    rcases hcomp with⟨h1,_⟩|⟨f,l,_,e⟩|⟨f,l,_,e⟩|⟨f,l,_,e⟩|⟨_,_,_,_,_,e⟩|e
    ·exact h1
    ·cases e
    ·cases e
    ·cases e
    ·cases e
    ·have:=ki P o;rw[e] at this;cases this
   have hng:o.guard=none:=by
    cases hgo:o.guard with
    |none=>rfl
    |some q=>rw[hgo] at hg;exact hg.elim
   obtain⟨hz,zc,t,r1,r2⟩:=EL hcomp' W S φ h.length a
   unfold wpOp
   simp only[ho]
   have hw:Region.wanted o (yielded ops a.tmps)=true:=by unfold Region.wanted;rw[hng]
   rw[if_pos hw]
   refine .inl ?_
   refine mq r1 (.value _) ?_
   obtain⟨A,Bk⟩:=Cj s.hrel (.cells zc t)
   have hd':o.dst=some d:=hdst.symm
   rw[hd']
   have hdl:d<ts.length\/ts.length<=d:=Nat.lt_or_ge _ _
   have T:=s.trel.kept Bk.toKept
   have T':TRel (W.alloc (.cells zc t)) S φ h.length ts (a.put (some d) (.pointer (some ⟨W.heap.size,0,none⟩))).tmps:=by
    refine⟨by simpa[Act.put] using T.size,λj v hj=>?_⟩
    by_cases e:d=j
    ·subst e
     rw[List.getD_eq_getElem?_getD,hj] at hany
     simp at hany
     subst hany
     exact .any _
    ·simp only[Act.put,Array.getD_eq_getD_getElem?,Array.getElem?_setIfInBounds_ne e]
     have:=T.get j v hj
     rw[Array.getD_eq_getD_getElem?] at this
     exact this
   have s':St G W0 S0 φ0 h0 (W.alloc (.cells zc t)) S φ (a.put (some d) (.pointer (some ⟨W.heap.size,0,none⟩))) ts h:=⟨A,T',s.defers,s.keep.trans Bk⟩
   refine CM hok hK hQ hdf hc0 hz hB hdo fuel listed _ S φ _ ts h hsz hcnt' hclo hi s' (b:=W.heap.size) ⟨?_,s.keep.size,⟨zc,t,?_,r2.1,λj c v h1 h2=>(r2.2 j c v h1 h2).kept Bk.toKept⟩,λhb=>?_,λid e he=>?_,?_,hany⟩ hr
   ·show _<(W.heap.push _).size;simp
   ·show(W.heap.push _)[W.heap.size]?=_;simp
   ·have:=(s.hrel.sep _ hb).1;omega
   ·have:=s.hrel.bnd id e.lt;omega
   ·intro hdt;have:d<a.tmps.size:=by rw[s.trel.size];exact hdt
    simp[Act.put,this]
end run
theorem St.drew{W:World}{S:Nat->Prop}{φ:au}{a:Act}{ts:List AV}{h:List AO}(s:St G W0 S0 φ0 h0 W S φ a ts h):St G W0 S0 φ0 h0 {W with drawn:=W.drawn+1} S φ a ts h:=by
 have K:Keep W S φ h {W with drawn:=W.drawn+1} S φ h:=by
  have k:=Keep.refl s.hrel
  exact{pure:=k.pure,len:=k.len,same:=k.same,blk:=k.blk,os:=rfl,tape:=rfl,output:=rfl,size:=Nat.le_refl _,out:=k.out,img:=k.img,newS:=k.newS}
 exact⟨⟨λid sz es e=>by
  obtain⟨c,t,fr,a1,a2,a3,a4,a5⟩:=s.hrel.obj id sz es e
  exact⟨c,t,fr,a1,a2,a3,a4,λj u hj=>by obtain⟨b1,v,b2,b3⟩:=a5 j u hj;exact⟨b1,v,b2,b3.kept K.toKept⟩⟩,λid o e lo=>(s.hrel.oobj id o e lo).mono λa v r=>r.kept K.toKept,s.hrel.inj,s.hrel.sep,s.hrel.bnd,λg cs hg=>by
  obtain⟨g1,g2⟩:=s.hrel.glob g cs hg
  exact⟨g1,λj c hj=>by obtain⟨v,v1,v2⟩:=g2 j c hj;exact⟨v,v1,v2.mono K.pure⟩⟩⟩,s.trel.kept K.toKept,s.defers,s.keep.trans K⟩
def mL(ops:Array Oper)(cs:List CO):Option (Nat × Nat)->Bool
 |none=>true
 |some (i0,d)=>(match cs[i0]? with
   |some ⟨some d',none,.alloc _⟩=>d'==d
   |_=>false)&&Ft ops cs (re ops.toList []) i0 d
def rI(df:Option (Nat × Nat)):List CO:=
 match df with
 |none=>[]
 |some (_,d)=>[⟨some d,none,.mov (.c .any)⟩]
theorem Dl(hm:P.follows .mixedOrders=true){id:Nat}(hok:jk P ops ops.toList cs){df:Option (Nat × Nat)}(hdf:mL ops cs df=true){π:List Nat}(hπ:π.length=ops.size)
 (ho:uW (df.map (·.1)) ops cs (re ops.toList []) pd π (Array.replicate ops.size false)=true)
 {W:World}{S:Nat->Prop}{φ:au}{a:Act}{ts:List AV}{h:List AO}(s:St G W0 S0 φ0 h0 W S φ a ts h){Q:AX->List AV->List AO->Prop}
 (hr:rK P G (rI df++sI cs pd π) ts h (Q .normal) (λt v h'=>∀ts',Q (.pan t v) ts' h')):(Code.region id ops true).wp P (AQ G W0 S0 φ0 h0 Q) a W:=by
 have hB:BOk ops (re ops.toList []):=zz ops ops.toList [] (λj=>by simp) (λj i hi=>by simp at hi)
 have hC:Clo ops (Array.replicate ops.size false):=λj o _ hj=>by
  simp[Array.getD_eq_getD_getElem?,Array.getElem?_replicate] at hj
  split at hj<;>simp at hj
 have hK:∀a' W' S' φ' ts' h',St G W0 S0 φ0 h0 W' S' φ' a' ts' h'->Q .normal ts' h'->AQ G W0 S0 φ0 h0 Q .normal a' W':=λa' W' S' φ' ts' h' s' k=>⟨.normal,ts',h',S',φ',k,.normal,s'⟩
 have hQ:∀a W' S' φ' ts h' t v x,PRel W' S' v x->St G W0 S0 φ0 h0 W' S' φ' a ts h'->(∀ts',Q (.pan t v) ts' h')->AQ G W0 S0 φ0 h0 Q (.panic [{v:= .iface t x,recovered:=false}]) a W':=
  λa' W' S' φ' ts' h' t v x k1 k2 k3=>⟨.pan t v,ts',h',S',φ',k3 ts',.pan t v x k1,k2⟩
 cases df with
 |none=>
  refine wp_region_any hm (dN (df:=none) (B:=re ops.toList []) (pd:=pd) hok hK hQ _ _ _ S φ a ts h (λi0 e=>by cases e) s.drew ?_)
  rw[←hπ]
  exact vp hB π _ ts h (by rw[hπ];exact hC) (by rw[hπ];exact ho) hr
 |some q=>
  obtain⟨i0,d⟩:=q
  simp only[mL,Bool.and_eq_true] at hdf
  obtain⟨g1,g2⟩:=hdf
  split at g1<;>first|(cases g1;done)|skip
  rename_i d' z hc0
  have:d'=d:=by simpa using g1
  subst this
  have hi0:i0<ops.size:=by
   have h1:=(List.getElem?_eq_some_iff.1 hc0).1
   have h2:=hok.1
   simp at h2;omega
  have hr':rK P G (sI cs pd π) (put (some d') .any ts) h (Q .normal) (λt v h'=>∀ts',Q (.pan t v) ts' h'):=by
   obtain⟨v,h',e1,k⟩:=(hr:okE (ev G ts h (.mov (.c .any))) _)
   cases e1
   exact k
  have sd:=s.drew
  have s':St G W0 S0 φ0 h0 {W with drawn:=W.drawn+1} S φ a (put (some d') .any ts) h:=by
   refine⟨sd.hrel,⟨by rw[sd.trel.size];simp[put],λi v hi=>?_⟩,sd.defers,sd.keep⟩
   by_cases e:d'=i
   ·subst e
    simp only[put] at hi
    have hd:d'<ts.length:=by have:=(List.getElem?_eq_some_iff.1 hi).1;simpa using this
    rw[List.getElem?_set_self hd] at hi
    cases hi
    exact .any _
   ·simp only[put] at hi
    rw[List.getElem?_set_ne e] at hi
    exact sd.trel.get i v hi
  refine wp_region_any hm (ph (df:=some i0) (B:=re ops.toList []) (pd:=pd) hok hK hQ rfl hc0 hB g2 ops.size _ _ S φ a (put (some d') .any ts) h (by simp) (Cu _ _) hC (by simp[hi0]) ?_ s' ?_)
  ·simp only[put]
   rcases Nat.lt_or_ge d' ts.length with hd|hd
   ·simp[List.getD_eq_getElem?_getD,List.getElem?_set_self hd]
   ·rw[List.set_eq_of_length_le hd];simp[List.getElem?_eq_none hd]
  ·rw[←hπ]
   exact vp hB π _ _ h (by rw[hπ];exact hC) (by rw[hπ];exact ho) hr'
theorem EC(hm:P.follows .mixedOrders=true){id:Nat}(hok:jk P ops ops.toList cs){df:Option (Nat × Nat)}(hdf:mL ops cs df=true)(t:OTi)
 (ho:my (df.map (·.1)) ops cs (re ops.toList []) pd ops.size t [] (Array.replicate ops.size false)=true)
 {W:World}{S:Nat->Prop}{φ:au}{a:Act}{ts:List AV}{h:List AO}(s:St G W0 S0 φ0 h0 W S φ a ts h){Q:AX->List AV->List AO->Prop}
 (hr:otK P G (.one (rI df) (t.comp cs pd (Array.replicate ops.size false))) ts h (Q .normal) (λt v h'=>∀ts',Q (.pan t v) ts' h')):(Code.region id ops true).wp P (AQ G W0 S0 φ0 h0 Q) a W:=by
 have hB:BOk ops (re ops.toList []):=zz ops ops.toList [] (λj=>by simp) (λj i hi=>by simp at hi)
 have hC:Clo ops (Array.replicate ops.size false):=λj o _ hj=>by
  simp[Array.getD_eq_getD_getElem?,Array.getElem?_replicate] at hj
  split at hj<;>simp at hj
 have hK:∀a' W' S' φ' ts' h',St G W0 S0 φ0 h0 W' S' φ' a' ts' h'->Q .normal ts' h'->AQ G W0 S0 φ0 h0 Q .normal a' W':=λa' W' S' φ' ts' h' s' k=>⟨.normal,ts',h',S',φ',k,.normal,s'⟩
 have hQ:∀a W' S' φ' ts h' t v x,PRel W' S' v x->St G W0 S0 φ0 h0 W' S' φ' a ts h'->(∀ts',Q (.pan t v) ts' h')->AQ G W0 S0 φ0 h0 Q (.panic [{v:= .iface t x,recovered:=false}]) a W':=
  λa' W' S' φ' ts' h' t v x k1 k2 k3=>⟨.pan t v,ts',h',S',φ',k3 ts',.pan t v x k1,k2⟩
 cases df with
 |none=>
  refine wp_region_any hm (dN (df:=none) (B:=re ops.toList []) (pd:=pd) hok hK hQ _ _ _ S φ a ts h (λi0 e=>by cases e) s.drew ?_)
  exact(rd hB t ops.size [] _ ts h hC ho hr).1 rfl
 |some q=>
  obtain⟨i0,d⟩:=q
  simp only[mL,Bool.and_eq_true] at hdf
  obtain⟨g1,g2⟩:=hdf
  split at g1<;>first|(cases g1;done)|skip
  rename_i d' z hc0
  have:d'=d:=by simpa using g1
  subst this
  have hi0:i0<ops.size:=by
   have h1:=(List.getElem?_eq_some_iff.1 hc0).1
   have h2:=hok.1
   simp at h2;omega
  have hr':otK P G (t.comp cs pd (Array.replicate ops.size false)) (put (some d') .any ts) h (Q .normal) (λt v h'=>∀ts',Q (.pan t v) ts' h'):=by
   obtain⟨v,h',e1,k⟩:=(hr:okE (ev G ts h (.mov (.c .any))) _)
   cases e1
   exact k
  have sd:=s.drew
  have s':St G W0 S0 φ0 h0 {W with drawn:=W.drawn+1} S φ a (put (some d') .any ts) h:=by
   refine⟨sd.hrel,⟨by rw[sd.trel.size];simp[put],λi v hi=>?_⟩,sd.defers,sd.keep⟩
   by_cases e:d'=i
   ·subst e
    simp only[put] at hi
    have hd:d'<ts.length:=by have:=(List.getElem?_eq_some_iff.1 hi).1;simpa using this
    rw[List.getElem?_set_self hd] at hi
    cases hi
    exact .any _
   ·simp only[put] at hi
    rw[List.getElem?_set_ne e] at hi
    exact sd.trel.get i v hi
  refine wp_region_any hm (ph (df:=some i0) (B:=re ops.toList []) (pd:=pd) hok hK hQ rfl hc0 hB g2 ops.size _ _ S φ a (put (some d') .any ts) h (by simp) (Cu _ _) hC (by simp[hi0]) ?_ s' ?_)
  ·simp only[put]
   rcases Nat.lt_or_ge d' ts.length with hd|hd
   ·simp[List.getD_eq_getElem?_getD,List.getElem?_set_self hd]
   ·rw[List.set_eq_of_length_le hd];simp[List.getElem?_eq_none hd]
  ·exact(rd hB t ops.size [] _ _ h hC ho hr').1 rfl
end
end Go.Aw
namespace Go.Aw
inductive AK where
 |skip
 |reg (cs:List CO)
 |ot (t:OT)
 |seq (a b:AK)
 |cut (a b:AK)
 |cond (c:AOp) (a b:AK)
 |blk (id:Nat) (b:AK)
 |loop (b:AK)
 |exit (id:Nat)
 |ret
mutual
def ren(ρ:List Nat):AV->AV
 | .agg cs=> .agg (aF ρ cs)
 | .tup cs=> .tup (aF ρ cs)
 | .ptr id e i o=> .ptr (ρ.getD id 0) e i o
 | .sl id e o l=> .sl (ρ.getD id 0) e o l
 | .fn f cs=> .fn f (aF ρ cs)
 | .mp id=> .mp (ρ.getD id 0)
 | .it id=> .it (ρ.getD id 0)
 |v=>v
def aF(ρ:List Nat):List AV->List AV
 |[]=>[]
 |v::r=>ren ρ v::aF ρ r
end
mutual
def below(n:Nat):AV->Prop
 | .agg cs=>ab n cs
 | .tup cs=>ab n cs
 | .ptr id _ _ _=>id<n
 | .sl id _ _ _=>id<n
 | .fn _ cs=>ab n cs
 | .mp id=>id<n
 | .it id=>id<n
 |_=>True
def ab(n:Nat):List AV->Prop
 |[]=>True
 |v::r=>below n v/\ab n r
end
theorem eK{ρ:List Nat}:∀{l:List AV} {j:Nat},(aF ρ l)[j]?=(l[j]?).map (ren ρ)
 |[],j=>by simp[aF]
 |v::r,0=>by simp[aF]
 |v::r,j+1=>by simp[aF,eK]
theorem bT{ρ:List Nat}:∀{l:List AV},(aF ρ l).length=l.length
 |[]=>rfl
 |v::r=>by simp[aF,bT]
theorem bg{n:Nat}:∀{l:List AV},ab n l->∀(j:Nat) (v:AV),l[j]?=some v->below n v
 |[],_,j,v,h=>by simp at h
 |x::r,hb,0,v,h=>by simp at h;subst h;exact hb.1
 |x::r,hb,j+1,v,h=>bg hb.2 j v (by simpa using h)
theorem is{W:World}{S:Nat->Prop}{φ:au}{n:Nat}{ρ:List Nat}(v:AV)(hb:below ρ.length v){x:Value}(h:VRel W S φ n (ren ρ v) x):
 VRel W S (λi=>φ (ρ.getD i 0)) ρ.length v x:=by
 match v,hb with
 | .agg cs,hb=>
   simp only[ren] at h
   cases h with
   |agg _ vs hs hc=>
    exact .agg cs vs (by rw[hs,bT]) λj c y h1 h2=>is c (bg hb j c h1) (hc j _ y (by rw[eK,h1];rfl) h2)
 | .tup cs,hb=>
   simp only[ren] at h
   cases h with
   |tup _ vs hs hc=>
    exact .tup cs vs (by rw[hs,bT]) λj c y h1 h2=>is c (bg hb j c h1) (hc j _ y (by rw[eK,h1];rfl) h2)
 | .ptr id e i o,hb=>
   simp only[ren] at h
   cases h with
   |ptr _ _ _ _ hid=>exact .ptr id e i o hb
 | .sl id e o l,hb=>
   simp only[ren] at h
   cases h with
   |sl _ _ _ _ cap ba hid hl h1 h2=>exact .sl id e o l cap ba hb hl h1 h2
 | .fn f cs,hb=>
   simp only[ren] at h
   cases h with
   |fn _ _ vs hs hc=>
    exact .fn f cs vs (by rw[hs,bT]) λj c y h1 h2=>is c (bg hb j c h1) (hc j _ y (by rw[eK,h1];rfl) h2)
 | .mp id,hb=>
   simp only[ren] at h
   cases h with
   |mp _ hid=>exact .mp id hb
 | .it id,hb=>
   simp only[ren] at h
   cases h with
   |it _ hid=>exact .it id hb
 | .p v,_=>simp only[ren] at h;cases h with|p _ _ hp=>exact .p _ _ hp
 | .eptr e o,_=>simp only[ren] at h;cases h with|eptr _ _ b o' h1 h2=>exact .eptr _ _ b o' h1 h2
 | .gp g o,_=>simp only[ren] at h;cases h;exact .gp _ _
 | .nils,_=>simp only[ren] at h;cases h;exact .nils
 | .nilp,_=>simp only[ren] at h;cases h;exact .nilp
 | .nilf,_=>simp only[ren] at h;cases h;exact .nilf
 | .nilm,_=>simp only[ren] at h;cases h;exact .nilm
 | .nili,_=>simp only[ren] at h;cases h;exact .nili
 | .ifc t v,_=>simp only[ren] at h;cases h with|ifc _ _ _ hp=>exact .ifc _ _ _ hp
 | .any,_=>exact .any x
termination_by SizeOf.sizeOf v
decreasing_by
 all_goals simp_wf
 all_goals (have:=List.sizeOf_lt_of_mem (List.mem_of_getElem? h1);omega)
theorem oO{ρ:List Nat}(v:AV):(ren ρ v).isCell=v.isCell:=by cases v<;>rfl
theorem sE{ρ:List Nat}:∀(l l':List AV),aF ρ (l++l')=aF ρ l++aF ρ l'
 |[],l'=>rfl
 |v::r,l'=>by simp[aF,sE r l']
theorem fF{ρ:List Nat}:∀(es:List (List AV)),(es.map (aF ρ)).flatten=aF ρ es.flatten
 |[]=>rfl
 |e::r=>by simp[sE,fF r]
theorem oh{n:Nat}:∀(l l':List AV),ab n l->ab n l'->ab n (l++l')
 |[],_,_,h=>h
 |v::r,l',h,h'=>⟨h.1,oh r l' h.2 h'⟩
theorem iG{n:Nat}:∀(es:List (List AV)),(∀e∈es,ab n e)->ab n es.flatten
 |[],_=>trivial
 |e::r,h=>by
  rw[List.flatten_cons]
  exact oh _ _ (h e (List.mem_cons_self ..)) (iG r λx hx=>h x (List.mem_cons_of_mem _ hx))
def TW(ρ:List Nat):List AV->List AV->Prop
 |[],[]=>True
 |v::r,v1::r1=>(v1= .any\/(below ρ.length v1/\ren ρ v1=v))/\TW ρ r r1
 |_,_=>False
def HW(ρ:List Nat)(h:List AO):List Nat->List AO->Prop
 |[],[]=>True
 |i::π,o1::r1=>i<h.length/\(match o1 with
   | .dead=>True
   | .row sz es1=>(∀e∈es1,ab ρ.length e)/\h[i]?=some (.row sz (es1.map (aF ρ)))
   | .mp es1=>(∀e∈es1,below ρ.length e.2)/\h[i]?=some (.mp (es1.map λx=>(x.1,ren ρ x.2)))
   | .sit s pos=>h[i]?=some (.sit s pos))/\HW ρ h π r1
 |_,_=>False
def Wk0(k:Nat)(ts:List AV)(h:List AO)(ts1:List AV)(h1:List AO):Prop:=
 ∃ρ:List Nat,k<=ρ.length/\(∀i,i<k->ρ.getD i 0=i)/\(∀i j,Live h1 i->Live h1 j->ρ.getD i 0=ρ.getD j 0->i=j)/\TW ρ ts ts1/\HW ρ h ρ h1
theorem CZ{ρ:List Nat}:∀{ts ts1:List AV},TW ρ ts ts1->ts.length=ts1.length/\∀(i:Nat) (v1:AV),ts1[i]?=some v1->v1= .any\/(below ρ.length v1/\ts[i]?=some (ren ρ v1))
 |[],[],_=>⟨rfl,λi v h=>by simp at h⟩
 |v::r,v1::r1,h=>by
  obtain⟨h1,h2⟩:=h
  obtain⟨k1,k2⟩:=CZ h2
  refine⟨by simp[k1],λi u hu=>?_⟩
  cases i with
  |zero=>simp at hu;subst hu;rcases h1 with h1|⟨h1,h3⟩;exact .inl h1;exact .inr ⟨h1,by simp[h3]⟩
  |succ i=>simp at hu;simpa using k2 i u hu
 |[],_::_,h=>h.elim
 |_::_,[],h=>h.elim
theorem xX{ρ:List Nat}{h:List AO}:∀{π:List Nat} {h1:List AO},HW ρ h π h1->π.length=h1.length/\(∀j,j<π.length->π.getD j 0<h.length)/\
 (∀(j sz:Nat) (es1:List (List AV)),h1[j]?=some (.row sz es1)->(∀e∈es1,ab ρ.length e)/\h[π.getD j 0]?=some (.row sz (es1.map (aF ρ))))/\
 (∀(j:Nat) (es1:List (PV × AV)),h1[j]?=some (.mp es1)->(∀e∈es1,below ρ.length e.2)/\h[π.getD j 0]?=some (.mp (es1.map λx=>(x.1,ren ρ x.2))))/\
 ∀(j:Nat) (s:List UInt8) (pos:Nat),h1[j]?=some (.sit s pos)->h[π.getD j 0]?=some (.sit s pos)
 |[],[],_=>⟨rfl,λj hj=>by simp at hj,λj sz es h=>by simp at h,λj es h=>by simp at h,λj s p h=>by simp at h⟩
 |i::π,o1::r1,hh=>by
  obtain⟨h1,h2,h3⟩:=hh
  obtain⟨k1,k2,k3,k4,k5⟩:=xX h3
  refine⟨by simp[k1],λj hj=>?_,λj sz es hj=>?_,λj es hj=>?_,λj s p hj=>?_⟩
  ·cases j with
   |zero=>simpa using h1
   |succ j=>simp at hj;simpa using k2 j hj
  ·cases j with
   |zero=>simp at hj;subst hj;simpa using h2
   |succ j=>simp at hj;simpa using k3 j sz es hj
  ·cases j with
   |zero=>simp at hj;subst hj;simpa using h2
   |succ j=>simp at hj;simpa using k4 j es hj
  ·cases j with
   |zero=>simp at hj;subst hj;simpa using h2
   |succ j=>simp at hj;simpa using k5 j s p hj
 |[],_::_,h=>h.elim
 |_::_,[],h=>h.elim
theorem Wk0.of{k:Nat}{ts ts1:List AV}{h h1:List AO}(ρ:List Nat)(hk:k<=ρ.length)(hi:∀i,i<k->ρ.getD i 0=i)(nd:ρ.Nodup)(HT:TW ρ ts ts1)(HH:HW ρ h ρ h1):Wk0 k ts h ts1 h1:=by
 refine⟨ρ,hk,hi,λi j li lj e=>?_,HT,HH⟩
 have hl:=(xX HH).1
 have hi:i<ρ.length:=by rw[hl];exact li.lt
 have hj:j<ρ.length:=by rw[hl];exact lj.lt
 rw[List.getD_eq_getElem?_getD,List.getD_eq_getElem?_getD,List.getElem?_eq_getElem hi,List.getElem?_eq_getElem hj] at e
 refine(List.getElem?_inj hi nd).1 ?_
 rw[List.getElem?_eq_getElem hi,List.getElem?_eq_getElem hj]
 exact congrArg some (by simpa using e)
def iq:List Nat->List AO->List Nat
 |_::ρ,.dead::h=>iq ρ h
 |i::ρ,_::h=>i::iq ρ h
 |_,_=>[]
theorem sc:∀{ρ:List Nat} {h:List AO} {i:Nat},Live h i->i<ρ.length->ρ.getD i 0∈iq ρ h
 |x::ρ,o::h,i,⟨o1,e,l⟩,hi=>by
  cases i with
  |zero=>
   simp at e;subst e
   cases o<;>first|exact l.elim|simp[iq]
  |succ i=>
   have:=sc (ρ:=ρ) (h:=h) (i:=i) ⟨o1,by simpa using e,l⟩ (by simpa using hi)
   cases o<;>simp[iq] at this⊢ <;>first|exact this|exact .inr this
 |[],_,i,_,hi=>by simp at hi
 |_::_,[],i,⟨o,e,_⟩,_=>by simp at e
theorem zk:∀{ρ:List Nat} {h:List AO},(iq ρ h).Nodup->ρ.length=h.length->∀i j,Live h i->Live h j->ρ.getD i 0=ρ.getD j 0->i=j
 |x::ρ,o::h,nd,hl,i,j,hi,hj,e=>by
  simp at hl
  have dn:∀{i:Nat},Live (o::h) (i+1)->Live h i:=λ⟨o1,e,l⟩=>⟨o1,by simpa using e,l⟩
  have hd:(iq ρ h).Nodup/\(Live (o::h) 0->x∉iq ρ h):=by
   cases o
   case dead=>exact⟨nd,λ⟨o1,e,l⟩=>by simp at e;subst e;exact l.elim⟩
   all_goals
    simp only[iq,List.nodup_cons] at nd
    exact⟨nd.2,λ_=>nd.1⟩
  cases i with
  |zero=>
   cases j with
   |zero=>rfl
   |succ j=>
    exfalso
    have:=sc (ρ:=ρ) (dn hj) (by rw[hl];exact(dn hj).lt)
    simp at e
    simp at this
    rw[←e] at this
    exact hd.2 hi this
  |succ i=>
   cases j with
   |zero=>
    exfalso
    have:=sc (ρ:=ρ) (dn hi) (by rw[hl];exact(dn hi).lt)
    simp at e
    simp at this
    rw[e] at this
    exact hd.2 hj this
   |succ j=>
    have:=zk hd.1 hl i j (dn hi) (dn hj) (by simpa using e)
    omega
 |[],[],_,_,i,j,hi,_,_=>by exact(aH hi).elim
 |[],_::_,_,hl,_,_,_,_,_=>by simp at hl
 |_::_,[],_,hl,_,_,_,_,_=>by simp at hl
theorem Wk0.ofL{k:Nat}{ts ts1:List AV}{h h1:List AO}(ρ:List Nat)(hk:k<=ρ.length)(hi:∀i,i<k->ρ.getD i 0=i)(nd:(iq ρ h1).Nodup)(HT:TW ρ ts ts1)(HH:HW ρ h ρ h1):Wk0 k ts h ts1 h1:=
 ⟨ρ,hk,hi,zk nd (xX HH).1,HT,HH⟩
section
variable {P:Program} {G:az} {W0:World} {S0:Nat->Prop} {φ0:au} {h0:List AO}
theorem St.wk0{W:World}{S:Nat->Prop}{φ:au}{a:Act}{ts ts1:List AV}{h h1:List AO}(s:St G W0 S0 φ0 h0 W S φ a ts h)(w:Wk0 h0.length ts h ts1 h1):∃φ',St G W0 S0 φ0 h0 W S φ' a ts1 h1:=by
 obtain⟨ρ,r1,r2,r3,r4,r5⟩:=w
 obtain⟨t1,t2⟩:=CZ r4
 obtain⟨q1,q2,q3,q4,q5⟩:=xX r5
 have hlt:∀{j:Nat} {o:AO},h1[j]?=some o->j<ρ.length:=λhj=>by rw[q1];exact(List.getElem?_eq_some_iff.1 hj).1
 have hliv:∀{id},Live h1 id->Live h (ρ.getD id 0):=λ{id} ⟨o,e,l⟩=>by
  cases o with
  |dead=>exact l.elim
  |row sz es=>exact bD (q3 _ _ _ e).2
  |mp es=>exact Aj (q4 _ _ e).2
  |sit t pos=>exact uF (q5 _ _ _ e)
 refine⟨λi=>φ (ρ.getD i 0),⟨⟨λid sz es hid=>?_,λid o hid lo=>?_,λid id' e1 e2 he=>?_,λb hb=>⟨(s.hrel.sep b hb).1,λid hid he=>?_⟩,λid hid=>?_,s.hrel.glob⟩,⟨s.trel.size.trans t1,λi v hi=>?_⟩,s.defers,?_⟩⟩
 ·obtain⟨b1,b2⟩:=q3 id sz es hid
  obtain⟨c,t,fr,a1,a2,a3,a4,a5⟩:=s.hrel.obj _ _ _ b2
  refine⟨c,t,fr,a1,a2,λe he=>?_,by simpa using a4,λj u hj=>?_⟩
  ·have:=a3 (aF ρ e) (List.mem_map.2 ⟨e,he,rfl⟩)
   rwa[bT] at this
  ·have hr:(es.map (aF ρ)).flatten[j]?=some (ren ρ u):=by rw[fF,eK,hj];rfl
   obtain⟨c1,v,c2,c3⟩:=a5 j _ hr
   rw[oO] at c1
   exact⟨c1,v,c2,by rw[←q1];exact is u (bg (iG _ b1) j u hj) c3⟩
 ·cases o with
  |dead=>trivial
  |row sz es=>trivial
  |sit t pos=>exact s.hrel.oobj _ _ (q5 id t pos hid) trivial
  |mp es=>
   obtain⟨b1,b2⟩:=q4 id es hid
   obtain⟨ents,clock,a1,a2,a3,a4⟩:=s.hrel.oobj _ _ b2 trivial
   refine⟨ents,clock,a1,by simpa using a2,λj k a hj=>?_,a4⟩
   obtain⟨e,c1,c2,c3⟩:=a3 j k (ren ρ a) (by rw[List.getElem?_map,hj];rfl)
   exact⟨e,c1,c2,by rw[←q1];exact is a (b1 _ (List.mem_of_getElem? hj)) c3⟩
 ·exact r3 _ _ e1 e2 (s.hrel.inj _ _ (hliv e1) (hliv e2) he)
 ·exact(s.hrel.sep b hb).2 _ (hliv hid) he
 ·exact s.hrel.bnd _ (q2 id (by rw[q1];exact hid))
 ·rcases t2 i v hi with rfl|⟨b1,b2⟩
  ·exact .any _
  ·rw[←q1];exact is v b1 (s.trel.get i _ b2)
 ·have k:=s.keep
  exact{pure:=k.pure,len:=by rw[←q1];exact r1,same:=λid hid=>by rw[r2 id hid];exact k.same id hid,blk:=k.blk,os:=k.os,tape:=k.tape,output:=k.output,size:=k.size,out:=k.out,
        img:=λid hid=>k.img _ (hliv hid),newS:=k.newS}
end
def Wk(k:Nat)(ts:List AV)(h:List AO)(ts1:List AV)(h1:List AO):Prop:=
 ∀(G:az) (W0:World) (S0:Nat->Prop) (φ0:au) (h0:List AO) (W:World) (S:Nat->Prop) (φ:au) (a:Act),h0.length=k->St G W0 S0 φ0 h0 W S φ a ts h->∃S' φ',St G W0 S0 φ0 h0 W S' φ' a ts1 h1
theorem Wk0.wk{k:Nat}{ts ts1:List AV}{h h1:List AO}(w:Wk0 k ts h ts1 h1):Wk k ts h ts1 h1:=
 λ_ _ _ _ _ _ S _ _ e s=>by
  subst e
  obtain⟨φ',s'⟩:=s.wk0 w
  exact⟨S,φ',s'⟩
theorem Wk.of{k:Nat}{ts ts1:List AV}{h h1:List AO}(ρ:List Nat)(hk:k<=ρ.length)(hi:∀i,i<k->ρ.getD i 0=i)(nd:ρ.Nodup)(HT:TW ρ ts ts1)(HH:HW ρ h ρ h1):Wk k ts h ts1 h1:=
 (Wk0.of ρ hk hi nd HT HH).wk
theorem Wk.ofL{k:Nat}{ts ts1:List AV}{h h1:List AO}(ρ:List Nat)(hk:k<=ρ.length)(hi:∀i,i<k->ρ.getD i 0=i)(nd:(iq ρ h1).Nodup)(HT:TW ρ ts ts1)(HH:HW ρ h ρ h1):Wk k ts h ts1 h1:=
 (Wk0.ofL ρ hk hi nd HT HH).wk
theorem Wk.trans{k:Nat}{ts ts1 ts2:List AV}{h h1 h2:List AO}(a:Wk k ts h ts1 h1)(b:Wk k ts1 h1 ts2 h2):Wk k ts h ts2 h2:=
 λG W0 S0 φ0 h0 W S φ x e s=>by
  obtain⟨S',φ',s'⟩:=a G W0 S0 φ0 h0 W S φ x e s
  exact b G W0 S0 φ0 h0 W S' φ' x e s'
section
variable {P:Program} {G:az} {W0:World} {S0:Nat->Prop} {φ0:au} {h0:List AO}
def Gl(k:Nat)(body:List AV->List AO->(AX->List AV->List AO->Prop)->Prop):Nat->List AV->List AO->(AX->List AV->List AO->Prop)->Prop
 |0,_,_,_=>False
 |n+1,ts,h,Q=>∃ts1 h1,Wk k ts h ts1 h1/\body ts1 h1 λx ts2 h2=>match x with
  | .normal=>Gl k body n ts2 h2 Q
  |x=>Q x ts2 h2
def AKW(P:Program)(G:az)(k:Nat):AK->List AV->List AO->(AX->List AV->List AO->Prop)->Prop
 | .skip,ts,h,Q=>Q .normal ts h
 | .reg cs,ts,h,Q=>rK P G cs ts h (Q .normal) λt v h'=>∀ts',Q (.pan t v) ts' h'
 | .ot t,ts,h,Q=>otK P G t ts h (Q .normal) λt v h'=>∀ts',Q (.pan t v) ts' h'
 | .seq a b,ts,h,Q=>AKW P G k a ts h λx ts' h'=>match x with
   | .normal=>AKW P G k b ts' h' Q
   |x=>Q x ts' h'
 | .cut a b,ts,h,Q=>∃J:List AV->List AO->Prop,(AKW P G k a ts h λx ts' h'=>match x with
   | .normal=>∃ts1 h1,Wk k ts' h' ts1 h1/\J ts1 h1
   |x=>Q x ts' h')/\∀ts1 h1,J ts1 h1->AKW P G k b ts1 h1 Q
 | .cond c a b,ts,h,Q=>match c.ev ts with
   | .p (.bool v)=>Cnd v (AKW P G k a ts h Q) (AKW P G k b ts h Q)
   |_=>False
 | .blk id a,ts,h,Q=>AKW P G k a ts h λx ts' h'=>match x with
   | .exit i=>if i=id then Q .normal ts' h' else Q (.exit i) ts' h'
   |x=>Q x ts' h'
 | .loop a,ts,h,Q=>∃n,Gl k (AKW P G k a) n ts h Q
 | .exit id,ts,h,Q=>Q (.exit id) ts h
 | .ret,ts,h,Q=>Q .ret ts h
inductive KOk (P:Program):Code->AK->Prop where
 |skip:KOk P .skip .skip
 |text (id:Nat) (ops:Array Oper) (cs:List CO):jk P ops ops.toList cs->KOk P (.region id ops false) (.reg cs)
 |any (id:Nat) (ops:Array Oper) (cs:List CO) (pd:Nat->List (Nat × Option Nat × Nat × Nat)) (df:Option (Nat × Nat)) (π:List Nat):P.follows .mixedOrders=true->jk P ops ops.toList cs->mL ops cs df=true->π.length=ops.size->uW (df.map (·.1)) ops cs (re ops.toList []) pd π (Array.replicate ops.size false)=true->
   KOk P (.region id ops true) (.reg (rI df++sI cs pd π))
 |anyT (id:Nat) (ops:Array Oper) (cs:List CO) (pd:Nat->List (Nat × Option Nat × Nat × Nat)) (df:Option (Nat × Nat)) (t:OTi):P.follows .mixedOrders=true->jk P ops ops.toList cs->mL ops cs df=true->my (df.map (·.1)) ops cs (re ops.toList []) pd ops.size t [] (Array.replicate ops.size false)=true->
   KOk P (.region id ops true) (.ot (.one (rI df) (t.comp cs pd (Array.replicate ops.size false))))
 |seq (a b:Code) (a' b':AK):KOk P a a'->KOk P b b'->KOk P (.seq a b) (.seq a' b')
 |cut (a b:Code) (a' b':AK):KOk P a a'->KOk P b b'->KOk P (.seq a b) (.cut a' b')
 |cond (c:Operand) (c':AOp) (a b:Code) (a' b':AK):cop c=some c'->KOk P a a'->KOk P b b'->KOk P (.cond c a b) (.cond c' a' b')
 |blk (id:Nat) (a:Code) (a':AK):KOk P a a'->KOk P (.block id a) (.blk id a')
 |loop (a:Code) (a':AK):KOk P a a'->KOk P (.loop a) (.loop a')
 |exit (id:Nat):KOk P (.exit id) (.exit id)
 |ret:KOk P .ret .ret
theorem FI{c:Code}{k:AK}(hk:KOk P c k):∀{W:World} {S:Nat->Prop} {φ:au} {a:Act} {ts:List AV} {h:List AO},St G W0 S0 φ0 h0 W S φ a ts h->
 ∀{Q:AX->List AV->List AO->Prop},AKW P G h0.length k ts h Q->c.wp P (AQ G W0 S0 φ0 h0 Q) a W:=by
 induction hk with
 |skip=>intro W S φ a ts h s Q hq;exact wp_skip ⟨.normal,ts,h,S,φ,hq,.normal,s⟩
 |text id ops cs hok=>intro W S φ a ts h s Q hq;exact Cc hok s hq
 |any id ops cs pd df π hm hok hd hπ ho=>intro W S φ a ts h s Q hq;exact Dl hm hok hd hπ ho s hq
 |anyT id ops cs pd df t hm hok hd ho=>intro W S φ a ts h s Q hq;exact EC hm hok hd t ho s hq
 |seq x y x' y' _ _ ih1 ih2=>
  intro W S φ a ts h s Q hq
  refine wp_seq (wp_mono (ih1 s hq) λe a' W' ⟨x,ts',h',S',φ',q1,q2,q3⟩=>?_)
  cases q2 with
  |normal=>exact ih2 q3 q1
  |exit id=>exact⟨_,ts',h',S',φ',q1,.exit id,q3⟩
  |ret=>exact⟨_,ts',h',S',φ',q1,.ret,q3⟩
  |pan t v x hp=>exact⟨_,ts',h',S',φ',q1,.pan t v x hp,q3⟩
 |cut x y x' y' _ _ ih1 ih2=>
  intro W S φ a ts h s Q ⟨J,hq,hj⟩
  refine wp_seq (wp_mono (ih1 s hq) λe a' W' ⟨x,ts',h',S',φ',q1,q2,q3⟩=>?_)
  cases q2 with
  |normal=>
   obtain⟨ts1,h1,w,j⟩:=q1
   obtain⟨S1,φ1,s1⟩:=w G W0 S0 φ0 h0 _ _ _ _ rfl q3
   exact ih2 s1 (hj _ _ j)
  |exit id=>exact⟨_,ts',h',S',φ',q1,.exit id,q3⟩
  |ret=>exact⟨_,ts',h',S',φ',q1,.ret,q3⟩
  |pan t v x hp=>exact⟨_,ts',h',S',φ',q1,.pan t v x hp,q3⟩
 |cond c c' x y x' y' hc _ _ ih1 ih2=>
  intro W S φ a ts h s Q hq
  simp only[AKW] at hq
  split at hq
  ·rename_i v hv
   have:=am hc s.trel
   rw[hv] at this
   refine wp_cond_split (kD this) (λe=>ih1 s (hq.1 e)) (λe=>ih2 s (hq.2 e))
  ·exact hq.elim
 |blk id x x' _ ih=>
  intro W S φ a ts h s Q hq
  refine wp_block (wp_mono (ih s hq) λe a' W' ⟨x,ts',h',S',φ',q1,q2,q3⟩=>?_)
  cases q2 with
  |normal=>exact⟨_,ts',h',S',φ',q1,.normal,q3⟩
  |exit i=>
   simp only[Exit.inBlock]
   simp only at q1
   split
   ·rename_i he;rw[if_pos he] at q1;exact⟨_,ts',h',S',φ',q1,.normal,q3⟩
   ·rename_i he;rw[if_neg he] at q1;exact⟨_,ts',h',S',φ',q1,.exit i,q3⟩
  |ret=>exact⟨_,ts',h',S',φ',q1,.ret,q3⟩
  |pan t v x hp=>exact⟨_,ts',h',S',φ',q1,.pan t v x hp,q3⟩
 |loop x x' _ ih=>
  intro W S φ a ts h s Q hq
  obtain⟨n,hn⟩:=hq
  refine wp_loop_rounds n ?_
  induction n generalizing W S φ a ts h with
  |zero=>exact hn.elim
  |succ n ihn=>
   obtain⟨ts1,h1,w,hb⟩:=hn
   obtain⟨S1,φ1,s1⟩:=w G W0 S0 φ0 h0 _ _ _ _ rfl s
   show Code.wp P x _ a W
   refine wp_mono (ih s1 hb) λe a' W' ⟨x,ts',h',S',φ',q1,q2,q3⟩=>?_
   cases q2 with
   |normal=>exact ihn q3 q1
   |exit i=>exact⟨_,ts',h',S',φ',q1,.exit i,q3⟩
   |ret=>exact⟨_,ts',h',S',φ',q1,.ret,q3⟩
   |pan t v x hp=>exact⟨_,ts',h',S',φ',q1,.pan t v x hp,q3⟩
 |exit id=>intro W S φ a ts h s Q hq;exact wp_exit ⟨_,ts,h,S,φ,hq,.exit id,s⟩
 |ret=>intro W S φ a ts h s Q hq;exact wp_ret ⟨_,ts,h,S,φ,hq,.ret,s⟩
end
end Go.Aw
namespace Go.Aw
inductive RV where
 |t (n:Nat)
 |c (n:Nat) (sz:Option Nat)
structure FK where
 ntmps:Nat
 res:List RV
 ak:AK
def FQ(P:Program)(ops:Array Oper)(o:Oper):Option CO:=
 if(comp P o).isQ then none else
 match o.guard with
 |none=>some ⟨o.dst,none,comp P o⟩
 |some (j,w)=>match(ops[j]?).bind (·.dst) with
  |some d=>some ⟨o.dst,some (d,w),comp P o⟩
  |none=>none
def xY(P:Program)(ops:Array Oper):List Oper->Option (List CO)
 |[]=>some []
 |o::r=>match FQ P ops o,xY P ops r with
  |some c,some l=>some (c::l)
  |_,_=>none
def oP(B:List (List Nat))(n i:Nat):List Nat:=(List.range n).filter λj=>j !=i&& !((B.getD j []).contains i)&& !((B.getD i []).contains j)
def JS:AI->Bool
 | .call .. | .callv .. =>true
 |_=>false
def Jw(cs:List CO)(ps:List (Nat × Nat × AOp)):Bool:=ps.any λx=>match x.2.2 with
 | .t d=>cs.any λc=>c.dst==some d&&(match c.ai with
   | .bld _ qs=>qs.any λy=>(match y.2.2 with
     | .t d2=>cs.any λc2=>c2.dst==some d2&&(match c2.ai with| .app .. =>true|_=>false)
     |_=>false)
   |_=>false)
 |_=>false
def Of:List AV->Bool
 |[.p _,.p _,.nils,.p _]=>true
 |[.p _,.p _,.nils]=>true
 |[.p _,.nils]=>true
 |[.nils,.nils,.p _,.p _,.nils]=>true
 |_=>false
def NB:List AV->Bool
 |[.p (.int .i64 0)]=>true
 |_=>false
def Ax:AI->Bool
 | .call .. =>true
 |_=>false
def HO(B:List (List Nat))(cs:List CO)(i:Nat)(c:CO):CO:=
 match c.ai with
 | .bsl e z n l=>if n !=0&&(oP B cs.length i).any λj=>(match cs[j]? with|some cj=> !cj.ai.silent&& !((Jw cs l||Of z)&&(tI cj).isSome)|none=>true) then{c with ai:= .bslP e z n l}
   else if n==0&&e==1&&NB z&&(oP B cs.length i).any λj=>(match cs[j]? with|some cj=>Ax cj.ai|none=>false) then{c with ai:= .bslP e z n l} else c
 |_=>c
def Hc(ops:Array Oper)(B:List (List Nat))(cs:List CO):Option (Nat × Nat):=
 (List.range cs.length).findSome? λi=>match(cs[i]?:Option CO) with
   |some ⟨some d,none,AI.alloc _⟩=>if((oP B cs.length i).any λj=>(match cs[j]? with|some cj=> !cj.ai.silent|none=>true))&&Ft ops cs B i d then some (i,d) else none
   |_=>none
def Ht(df:Option (Nat × Nat))(B:List (List Nat))(cs:List CO)(i:Nat)(c:CO):CO:=
 match c.ai with
 | .call f l=>
   if(oP B cs.length i).any λj=>df.map (·.1) !=some j&&(match cs[j]? with|some cj=> !cj.ai.quiet&& !JS cj.ai|none=>true) then{c with ai:= .pcall f l}
   else if(oP B cs.length i).any λj=>df.map (·.1) !=some j&&(match cs[j]? with|some cj=> !cj.ai.silent&&(tI cj).isNone|none=>true) then{c with ai:= .qcall f l} else c
 | .callv f l=>if(oP B cs.length i).any λj=>df.map (·.1) !=some j&&(match cs[j]? with|some cj=> !cj.ai.silent&&(tI cj).isNone|none=>true) then{c with ai:= .qcallv f l} else c
 |_=>c
def iP(m:Nat->CO->CO):Nat->List CO->List CO
 |_,[]=>[]
 |i,c::r=>m i c::iP m (i+1) r
def DU(df:Option (Nat × Nat))(B:List (List Nat))(cs0:List CO):List CO:=
 let cs1:=iP (HO B cs0) 0 cs0
 iP (Ht df B cs1) 0 cs1
def um(df:Option (Nat × Nat))(B:List (List Nat))(cs:List CO)(j:Nat):List (Nat × Option Nat × Nat × Nat):=
 match cs[j]? with
 |some cj=>if cj.ai.quiet||df.map (·.1)==some j then[] else(oP B cs.length j).filterMap λl=>((cs[l]?).bind tI).map (l,·)
 |none=>[]
def ud(df:Option Nat)(B:List (List Nat))(ops:Array Oper)(cs:List CO):Nat->Array Bool->List Nat
 |0,_=>[]
 |n+1,listed=>
  let rs:=eI df ops cs B listed
  let sil:=rs.filter λi=>match cs[i]? with|some c=>c.ai.silent|none=>false
  let qui:=rs.filter λi=>match cs[i]? with|some c=>c.ai.quiet|none=>false
  match sil,qui,rs with
  |i::_,_,_=>i::ud df B ops cs n (listed.setIfInBounds i true)
  |[],i::_,_=>i::ud df B ops cs n (listed.setIfInBounds i true)
  |[],[],i::_=>i::ud df B ops cs n (listed.setIfInBounds i true)
  |[],[],[]=>[]
def GO(df:Option Nat)(B:List (List Nat))(ops:Array Oper)(cs:List CO)(pd:Nat->List (Nat × Option Nat × Nat × Nat)):Nat->Array Bool->OTi
 |0,_=> .done
 |n+1,listed=>
  let rs:=eI df ops cs B listed
  let sil:=rs.filter λi=>match cs[i]? with|some c=>c.ai.silent|none=>false
  let qui:=rs.filter λi=>match cs[i]? with|some c=>c.ai.quiet|none=>false
  match(sil++qui).find? λi=>Al df ops cs B pd i listed with
  |some i=> .one i (GO df B ops cs pd n (listed.setIfInBounds i true))
  |none=>match rs with
   |[]=> .done
   |_=>rs.foldr (λi r=> .alt i (GO df B ops cs pd n (listed.setIfInBounds i true)) r) .tru
def pk(P:Program)(ops:Array Oper):Bool->Option AK
 |false=>(xY P ops ops.toList).map .reg
 |true=>match xY P ops ops.toList with
  |some cs0=>
   let B:=re ops.toList []
   let df:=Hc ops B cs0
   let cs:=DU df B cs0
   let π:=ud (df.map (·.1)) B ops cs ops.size (Array.replicate ops.size false)
   if P.follows .mixedOrders=true/\mL ops cs df=true/\π.length=ops.size/\uW (df.map (·.1)) ops cs B (um df B cs) π (Array.replicate ops.size false)=true then some (.reg (rI df++sI cs (um df B cs) π)) else
    let t:=GO (df.map (·.1)) B ops cs (um df B cs) ops.size (Array.replicate ops.size false)
    if P.follows .mixedOrders=true/\mL ops cs df=true/\my (df.map (·.1)) ops cs B (um df B cs) ops.size t [] (Array.replicate ops.size false)=true then some (.ot (.one (rI df) (t.comp cs (um df B cs) (Array.replicate ops.size false)))) else none
  |none=>none
def jA(P:Program):Code->Option AK
 | .skip=>some .skip
 | .region _ ops draw=>pk P ops draw
 | .seq a b=>match jA P a,jA P b with
   |some a',some b'=>some (.seq a' b')
   |_,_=>none
 | .cond c a b=>match cop c,jA P a,jA P b with
   |some c',some a',some b'=>some (.cond c' a' b')
   |_,_,_=>none
 | .block id a=>(jA P a).map (.blk id)
 | .loop a=>(jA P a).map .loop
 | .exit id=>some (.exit id)
 | .ret=>some .ret
 |_=>none
def oq(P:Program):List ResultVar->Option (List RV)
 |[]=>some []
 | .tmp t::r=>(oq P r).map (.t t:: ·)
 | .cell a t::r=>match nX P t,oq P r with
   |some sz,some l=>some (.c a sz::l)
   |_,_=>none
def ah(P:Program)(f:FuncId):Option FK:=
 match P.funcs[f]? with
 |some fn=>match fn.body with
  |some c=>match jA P c,oq P fn.results.toList with
   |some ak,some rs=>if fS P f=true then some ⟨fn.ntmps,rs,ak⟩ else none
   |_,_=>none
  |none=>none
 |none=>none
section
variable {P:Program} {G:az}
theorem IM(o:Oper)(hq:(comp P o).isQ=false):(ck P o=some (comp P o)/\(comp P o).isQ=false)\/nS P o=comp P o:=by
 revert hq
 unfold comp
 cases ck P o with
 |some ai=>exact λhq=> .inl ⟨rfl,hq⟩
 |none=>exact λ_=> .inr rfl
theorem GX{ops:Array Oper}{o:Oper}{c:CO}(h:FQ P ops o=some c):vI P ops o c:=by
 unfold FQ at h
 split at h<;>first|(cases h;done)|skip
 rename_i hq
 have hor:=IM (P:=P) o (by simpa using hq)
 have key:(ck P o=some (comp P o)/\(comp P o).isQ=false)\/(∃f l,ck P o=some (.call f l)/\comp P o= .qcall f l)\/(∃f l,ck P o=some (.callv f l)/\comp P o= .qcallv f l)\/
  (∃f l,ck P o=some (.call f l)/\comp P o= .pcall f l)\/(∃e z n l,ck P o=some (.bsl e z n l)/\comp P o= .bslP e z n l)\/nS P o=comp P o:=by
  rcases hor with h1|h1
  ·exact .inl h1
  ·exact .inr (.inr (.inr (.inr (.inr h1))))
 split at h
 ·rename_i h2
  cases h
  exact⟨rfl,by simp[h2],key⟩
 ·rename_i j w h2
  split at h<;>first|(cases h;done)|skip
  rename_i d hd
  cases h
  exact⟨rfl,by simp[h2,hd],key⟩
theorem nF{ops:Array Oper}:∀{l:List Oper} {cs:List CO},xY P ops l=some cs->jk P ops l cs
 |[],cs,h=>by cases h;exact⟨rfl,λj o c h=>by simp at h⟩
 |o::r,cs,h=>by
  simp only[xY] at h
  split at h<;>first|(cases h;done)|skip
  rename_i c l h1 h2
  cases h
  obtain⟨k1,k2⟩:=nF h2
  refine⟨by simp[k1],λj o' c' e1 e2=>?_⟩
  cases j with
  |zero=>simp at e1 e2;subst e1;subst e2;exact GX h1
  |succ j=>simp at e1 e2;exact k2 j o' c' e1 e2
theorem Gi{B:List (List Nat)}{cs:List CO}{i:Nat}{ops:Array Oper}{o:Oper}{c:CO}(h:vI P ops o c):vI P ops o (HO B cs i c):=by
 unfold HO
 split
 ·rename_i e z n l hai
  have key:vI P ops o {c with ai:= .bslP e z n l}:=by
   obtain⟨h1,h2,h3⟩:=h
   refine⟨h1,h2,?_⟩
   rcases h3 with⟨h3,hq⟩|⟨f,l,h3,e⟩|⟨f,l,h3,e⟩|⟨f,l,h3,e⟩|⟨_,_,_,_,h3,e⟩|h3
   ·rw[hai] at h3
    exact .inr (.inr (.inr (.inr (.inl ⟨_,_,_,_,h3,rfl⟩))))
   all_goals first|(rw[hai] at e;cases e;done)|(exfalso;have:=ki P o;rw[h3,hai] at this;cases this)
  split
  ·exact key
  ·split
   ·exact key
   ·exact h
 ·exact h
theorem Hh{df:Option (Nat × Nat)}{B:List (List Nat)}{cs:List CO}{i:Nat}{ops:Array Oper}{o:Oper}{c:CO}(h:vI P ops o c):vI P ops o (Ht df B cs i c):=by
 unfold Ht
 split
 ·rename_i f l hai
  have h3':ck P o=some (.call f l):=by
   obtain⟨h1,h2,h3⟩:=h
   rcases h3 with⟨h3,hq⟩|⟨f,l,h3,e⟩|⟨f,l,h3,e⟩|⟨f,l,h3,e⟩|⟨_,_,_,_,h3,e⟩|h3
   ·rw[hai] at h3;exact h3
   all_goals first|(rw[hai] at e;cases e;done)|(exfalso;have:=ki P o;rw[h3,hai] at this;cases this)
  split
  ·exact⟨h.1,h.2.1,.inr (.inr (.inr (.inl ⟨_,_,h3',rfl⟩)))⟩
  ·split
   ·exact⟨h.1,h.2.1,.inr (.inl ⟨_,_,h3',rfl⟩)⟩
   ·exact h
 ·rename_i f l hai
  have h3':ck P o=some (.callv f l):=by
   obtain⟨h1,h2,h3⟩:=h
   rcases h3 with⟨h3,hq⟩|⟨f,l,h3,e⟩|⟨f,l,h3,e⟩|⟨f,l,h3,e⟩|⟨_,_,_,_,h3,e⟩|h3
   ·rw[hai] at h3;exact h3
   all_goals first|(rw[hai] at e;cases e;done)|(exfalso;have:=ki P o;rw[h3,hai] at this;cases this)
  split
  ·exact⟨h.1,h.2.1,.inr (.inr (.inl ⟨_,_,h3',rfl⟩))⟩
  ·exact h
 ·exact h
theorem mX{m:Nat->CO->CO}{ops:Array Oper}(hm:∀i o c,vI P ops o c->vI P ops o (m i c)):∀{l:List Oper} {r:List CO} (i:Nat),jk P ops l r->jk P ops l (iP m i r)
 |[],[],_,h=>h
 |o::l,c::r,i,h=>by
  have h':jk P ops l r:=⟨by have:=h.1;simpa using this,λj o c h1 h2=>h.2 (j+1) o c (by simpa using h1) (by simpa using h2)⟩
  obtain⟨k1,k2⟩:=mX hm (i+1) h'
  refine⟨by simp[iP,k1],λj o' c' e1 e2=>?_⟩
  cases j with
  |zero=>simp[iP] at e1 e2;subst e1;subst e2;exact hm _ _ _ (h.2 0 o c rfl rfl)
  |succ j=>simp[iP] at e1 e2;exact k2 j o' c' e1 e2
 |[],_::_,_,h=>by have:=h.1;simp at this
 |_::_,[],_,h=>by have:=h.1;simp at this
theorem uw{df:Option (Nat × Nat)}{B:List (List Nat)}{cs:List CO}{ops:Array Oper}{l:List Oper}(h:jk P ops l cs):jk P ops l (DU df B cs):=
 mX (λ_ _ _=>Hh) 0 (mX (λ_ _ _=>Gi) 0 h)
theorem iU:∀{c:Code} {k:AK},jA P c=some k->KOk P c k
 | .skip,k,h=>by cases h;exact .skip
 | .region id ops false,k,h=>by
   simp only[jA,pk,Option.map_eq_some_iff] at h
   obtain⟨cs,h1,rfl⟩:=h
   exact .text id ops cs (nF h1)
 | .region id ops true,k,h=>by
   simp only[jA,pk] at h
   split at h<;>first|(cases h;done)|skip
   rename_i cs0 h1
   split at h
   ·rename_i hc
    cases h
    exact .any id ops _ _ _ _ hc.1 (uw (nF h1)) hc.2.1 hc.2.2.1 hc.2.2.2
   ·split at h<;>first|(cases h;done)|skip
    rename_i hc
    cases h
    exact .anyT id ops _ _ _ _ hc.1 (uw (nF h1)) hc.2.1 hc.2.2
 | .seq a b,k,h=>by
   simp only[jA] at h
   split at h<;>first|(cases h;done)|skip
   rename_i h1 h2
   cases h
   exact .seq _ _ _ _ (iU h1) (iU h2)
 | .cond c a b,k,h=>by
   simp only[jA] at h
   split at h<;>first|(cases h;done)|skip
   rename_i h1 h2 h3
   cases h
   exact .cond _ _ _ _ _ _ h1 (iU h2) (iU h3)
 | .block id a,k,h=>by
   simp only[jA,Option.map_eq_some_iff] at h
   obtain⟨a',h1,rfl⟩:=h
   exact .blk id _ _ (iU h1)
 | .loop a,k,h=>by
   simp only[jA,Option.map_eq_some_iff] at h
   obtain⟨a',h1,rfl⟩:=h
   exact .loop _ _ (iU h1)
 | .exit id,k,h=>by cases h;exact .exit id
 | .ret,k,h=>by cases h;exact .ret
 | .rangeFunc ..,k,h=>by cases h
 | .scope _,k,h=>by cases h
 | .label _,k,h=>by cases h
 | .goto _,k,h=>by cases h
 | .refuse _,k,h=>by cases h
def Em(G:az)(ts:List AV)(h:List AO):RV->Option AV
 | .t n=>some (ts.getD n .any)
 | .c n sz=>match gE G h (ts.getD n .any) with
   |some (cs,off)=>gW cs off sz
   |none=>none
def mP(G:az)(ts:List AV)(h:List AO):List RV->Option (List AV)
 |[]=>some []
 |r::l=>match Em G ts h r,mP G ts h l with
  |some v,some vs=>some (v::vs)
  |_,_=>none
def sL:List AV->AV
 |[v]=>v
 |vs=> .tup vs
def yE(G:az)(res:List RV)(R:ARes->List AO->Prop)(x:AX)(ts:List AV)(h:List AO):Prop:=
 match x with
 | .normal| .ret=>∃vs,mP G ts h res=some vs/\R (.ret (sL vs)) h
 | .pan t v=>R (.pan t v) h
 | .exit _=>False
theorem Gf{r:ResultVar}{l:List ResultVar}{r':RV}{l':List RV}(hc:oq P (r::l)=some (r'::l')){W:World}{S:Nat->Prop}{φ:au}{h:List AO}(H:HRel G W S φ h){ts:List AV}{a:Act}(T:TRel W S φ h.length ts a.tmps){v:AV}
 (he:Em G ts h r'=some v):
 oq P l=some l'/\∃x,((match r with| .tmp t=>pure (a.tmps.getD t undef)| .cell d t=>do loadVar t (←asAddr (a.tmps.getD d undef)):Sem Value)).run P W= .ok x W/\VRel W S φ h.length v x:=by
 cases r with
 |tmp t=>
  simp only[oq,Option.map_eq_some_iff] at hc
  obtain⟨l2,h1,h2⟩:=hc
  cases h2
  refine⟨h1,a.tmps.getD t undef,rfl,?_⟩
  simp only[Em,Option.some.injEq] at he
  subst he
  exact am (o:= .tmp t) rfl T
 |cell d t=>
  simp only[oq] at hc
  split at hc<;>first|(cases hc;done)|skip
  rename_i sz l2 hr hl
  cases hc
  refine⟨hl,?_⟩
  simp only[Em] at he
  split at he<;>first|(cases he;done)|skip
  rename_i cs off e1
  have hrx:=am (o:= .tmp d) rfl T
  simp only[AOp.ev,Act.eval] at hrx
  generalize hvx:a.tmps.getD d undef=vx at hrx
  obtain⟨b,o',rfl,hcell⟩:=Gt H hrx e1
  obtain⟨hA,hz⟩:=rE hr W
  unfold gW at he
  split at he
  ·split at he
   ·rename_i c hcc
    split at he
    ·cases he
     obtain⟨y,k1,k2⟩:=hcell off _ hcc
     exact⟨y,by simp only[hvx,asAddr];simp[loadVar,hA,load,Sem.run,k1],k2⟩
    ·cases he
   ·cases he
  ·rename_i m
   split at he
   ·rename_i hm
    cases he
    obtain⟨vs,q1,q2,q3⟩:=sR (W:=W) (S:=S) (φ:=φ) (n:=h.length) (b:=b) (o':=o'+off) (cs:=(cs.drop off).take m) λj c hj=>by
     rw[List.getElem?_take] at hj
     split at hj
     ·rw[List.getElem?_drop] at hj
      have:=hcell (off+j) c hj
      rwa[←Nat.add_assoc] at this
     ·cases hj
    have hlen:vs.length=m:=by rw[q1];simp;omega
    refine⟨.agg vs.toArray,?_,.agg _ _ (by simp[q1]) λj c v e1 e2=>q3 j c v e1 (by simpa using e2)⟩
    have hl:=run_loadCells_list (P:=P) W ⟨b,o'+off,none⟩ vs λj v hj=>by rw[cT];exact q2 j v hj
    rw[hlen] at hl
    simp only[hvx,asAddr]
    simp[loadVar,hA,hz m rfl,hl]
   ·cases he
theorem BY{W:World}{S:Nat->Prop}{φ:au}{h:List AO}(H:HRel G W S φ h){ts:List AV}{a:Act}(T:TRel W S φ h.length ts a.tmps):∀{l:List ResultVar} {l':List RV} {vs:List AV},oq P l=some l'->mP G ts h l'=some vs->
 ∃xs:List Value,(l.mapM λr=>(match r with| .tmp t=>pure (a.tmps.getD t undef)| .cell d t=>do loadVar t (←asAddr (a.tmps.getD d undef)):Sem Value)).run P W= .ok xs W/\Ptw W S φ h.length vs xs
 |[],l',vs,hc,he=>by cases hc;cases he;exact⟨[],by simp,rfl,λj c v h=>by simp at h⟩
 |r::l,l',vs,hc,he=>by
  have:∃r' l2,l'=r'::l2:=by
   cases r with
   |tmp t=>simp only[oq,Option.map_eq_some_iff] at hc;obtain⟨l2,_,rfl⟩:=hc;exact⟨_,_,rfl⟩
   |cell d t=>simp only[oq] at hc;split at hc<;>first|(cases hc;done)|(cases hc;exact⟨_,_,rfl⟩)
  obtain⟨r',l2,rfl⟩:=this
  simp only[mP] at he
  split at he<;>first|(cases he;done)|skip
  rename_i v vs' h1 h2
  cases he
  obtain⟨k1,x,k2,k3⟩:=Gf hc H T h1
  obtain⟨xs,k4,k5⟩:=BY H T k1 h2
  refine⟨x::xs,?_,by simp[k5.1],λj c y e1 e2=>?_⟩
  ·rw[List.mapM_cons]
   simp only[Sem.run_bind,k2,Result.andThen,k4]
   rfl
  ·cases j with
   |zero=>simp at e1 e2;subst e1;subst e2;exact k3
   |succ j=>simp at e1 e2;exact k5.2 j c y e1 e2
def AK.whole:AK->AK
 | .seq a b=> .seq a.whole b.whole
 | .cut a b=> .seq a.whole b.whole
 | .cond c a b=> .cond c a.whole b.whole
 | .blk id a=> .blk id a.whole
 | .loop a=> .loop a.whole
 |k=>k
theorem KOk.cuts:∀{k:AK} {c:Code},KOk P c k.whole->KOk P c k
 | .skip,_,h=>h
 | .reg _,_,h=>h
 | .ot _,_,h=>h
 | .exit _,_,h=>h
 | .ret,_,h=>h
 | .seq a b,_,h=>by
   simp only[AK.whole] at h
   cases h with|seq _ _ _ _ h1 h2=>exact .seq _ _ _ _ h1.cuts h2.cuts
 | .cut a b,_,h=>by
   simp only[AK.whole] at h
   cases h with|seq _ _ _ _ h1 h2=>exact .cut _ _ _ _ h1.cuts h2.cuts
 | .cond c a b,_,h=>by
   simp only[AK.whole] at h
   cases h with|cond _ _ _ _ _ _ hc h1 h2=>exact .cond _ _ _ _ _ _ hc h1.cuts h2.cuts
 | .blk id a,_,h=>by
   simp only[AK.whole] at h
   cases h with|blk _ _ _ h1=>exact .blk _ _ _ h1.cuts
 | .loop a,_,h=>by
   simp only[AK.whole] at h
   cases h with|loop _ _ h1=>exact .loop _ _ h1.cuts
theorem AC.enterK{f:FuncId}{F:FK}(hF:ah P f=some F)(K:AK)(hK:∀c,KOk P c F.ak->KOk P c K){args:List AV}{h:List AO}{R:ARes->List AO->Prop}
 (H:AKW P G h.length K (args++List.replicate (F.ntmps-args.length) .any) h (yE G F.res R)):AC P G f args h R:=by
 unfold ah at hF
 split at hF<;>first|(cases hF;done)|skip
 rename_i fn hf
 split at hF<;>first|(cases hF;done)|skip
 rename_i c hb
 split at hF<;>first|(cases hF;done)|skip
 rename_i ak rs hk hr
 split at hF<;>first|(cases hF;done)|skip
 rename_i hcall
 cases hF
 refine⟨hcall,λW S φ vs hH hA=>?_⟩
 have s:St G W S φ h W S φ {tmps:=vs++Array.replicate (fn.ntmps-vs.size) undef,defers:=[]} (args++List.replicate (fn.ntmps-args.length) .any) h:=by
  refine⟨hH,⟨by simp[hA.1],λi v hi=>?_⟩,rfl,Keep.refl hH⟩
  rw[List.getElem?_append] at hi
  split at hi
  ·rename_i hl
   have hl':i<vs.size:=by rw[hA.1];exact hl
   have:(vs++Array.replicate (fn.ntmps-vs.size) undef).getD i undef=vs[i]:=by
    rw[Array.getD_eq_getD_getElem?,Array.getElem?_append_left hl',Array.getElem?_eq_getElem hl'];rfl
   simp only
   rw[this]
   exact hA.2 i v _ hi (Array.getElem?_eq_getElem hl')
  ·have:=List.mem_of_getElem? hi
   rw[(List.mem_replicate.1 this).2]
   exact .any _
 refine calls_of_wp hf hb (wp_mono (FI (hK _ (iU hk)) s H) λe a' W' ⟨x,ts,h',S',φ',q1,q2,q3⟩=>?_)
 have fin:(∃vs,mP G ts h' rs=some vs/\R (.ret (sL vs)) h')->a'.defers=[]/\∃v,(results fn a'.tmps).run P W'= .ok v W'/\∃r S' φ' h',R r h'/\HRel G W' S' φ' h'/\ERel W' S' φ' h'.length r (.returned v)/\Keep W S φ h W' S' φ' h':=λ⟨vs,e1,e2⟩=>by
  obtain⟨xs,k1,k2⟩:=BY q3.hrel q3.trel hr e1
  have hm:(fn.results.mapM λr=>(match r with| .tmp t=>pure (a'.tmps.getD t undef)| .cell d t=>do loadVar t (←asAddr (a'.tmps.getD d undef)):Sem Value)).run P W'= .ok xs.toArray W':=by
   rw[Array.mapM_eq_mapM_toList,Sem.run_map,k1];rfl
  refine⟨q3.defers,if h:xs.toArray.size=1 then xs.toArray[0] else .tuple xs.toArray,?_,.ret (sL vs),S',φ',h',e2,q3.hrel,.ret _ _ ?_,q3.keep⟩
  ·unfold results
   rw[Sem.run_bind]
   refine(congrArg (λr=>Result.andThen r _) hm).trans ?_
   rfl
  ·have hl:=k2.1
   match vs,xs,hl,k2 with
   |[],[],_,k2=>exact .tup _ _ rfl λj c v h1=>by simp at h1
   |[v],[x],_,k2=>exact k2.2 0 v x rfl rfl
   |v::v'::r,x::x'::r',hl,k2=>exact .tup _ _ (by simpa using hl) λj c y h1 h2=>k2.2 j c y h1 (by simpa using h2)
 cases q2 with
 |normal=>exact fin q1
 |ret=>exact fin q1
 |exit id=>exact q1.elim
 |pan t v x hp=>exact⟨q3.defers,_,S',φ',h',q1,q3.hrel,.pan t v x hp,q3.keep⟩
theorem AC.enter{f:FuncId}{F:FK}(hF:ah P f=some F){args:List AV}{h:List AO}{R:ARes->List AO->Prop}
 (H:AKW P G h.length F.ak (args++List.replicate (F.ntmps-args.length) .any) h (yE G F.res R)):AC P G f args h R:=
 AC.enterK hF F.ak (λ_ h=>h) H
end
end Go.Aw
namespace Go.Aw
def sel:List AV->Nat->AV
 |[],_=> .any
 |v::_,0=>v
 |_::r,n+1=>sel r n
def zC:List AV->Nat->AV->List AV
 |[],_,_=>[]
 |_::r,0,v=>v::r
 |a::r,n+1,v=>a::zC r n v
theorem pu:∀(ts:List AV) (n:Nat),ts.getD n .any=sel ts n
 |[],n=>by simp[sel]
 |v::r,0=>rfl
 |v::r,n+1=>by rw[sel,←pu r n];simp
theorem zx:∀(ts:List AV) (n:Nat) (v:AV),ts.set n v=zC ts n v
 |[],n,v=>rfl
 |a::r,0,v=>rfl
 |a::r,n+1,v=>by simp[zC,zx r n v]
@[simp] theorem Oy(n:Nat)(ts:List AV):(AOp.t n).ev ts=sel ts n:=pu ts n
@[simp] theorem Oz(v:AV)(ts:List AV):(AOp.c v).ev ts=v:=rfl
@[simp] theorem Me(v:AV)(r:List AV):sel (v::r) 0=v:=rfl
@[simp] theorem LY(v:AV)(r:List AV)(n:Nat):sel (v::r) (n+1)=sel r n:=rfl
@[simp] theorem KK(a v:AV)(r:List AV):zC (a::r) 0 v=v::r:=rfl
@[simp] theorem KN(a v:AV)(r:List AV)(n:Nat):zC (a::r) (n+1) v=a::zC r n v:=rfl
@[simp] theorem LO(d:Nat)(v:AV)(ts:List AV):put (some d) v ts=zC ts d v:=zx ts d v
@[simp] theorem LR(v:AV)(ts:List AV):put none v ts=ts:=rfl
def nxt(P:Program)(G:az)(d:Option Nat)(r:List CO)(ts:List AV)(K:KT)(Qp:QP):Option (AV × List AO)->Prop
 |some (v,h)=>rK P G r (put d v ts) h K Qp
 |none=>False
def Dt(P:Program)(G:az)(d:Option Nat)(r:List CO)(ts:List AV)(K:KT)(Qp:QP):ARes->List AO->Prop
 | .ret v,h=>rK P G r (put d v ts) h K Qp
 | .pan t v,h=>Qp t v h
def po(P:Program)(G:az)(f:FuncId)(args:List AV)(h:List AO)(d:Option Nat)(r:List CO)(ts:List AV)(K:KT)(Qp:QP):Prop:=
 ∃v,AC P G f args h (λx h'=>x= .ret v/\h'=h)/\rK P G r (put d v ts) h K Qp
def Hm(P:Program)(G:az)(f:FuncId)(args:List AV)(h:List AO)(d:Option Nat)(r:List CO)(ts:List AV)(K:KT)(Qp:QP):Prop:=
 ∃v,(∀h,AC P G f args h (λx h'=>x= .ret v/\h'=h))/\rK P G r (put d v ts) h K Qp
def DF(P:Program)(G:az)(g:AV)(args:List AV)(h:List AO)(R:ARes->List AO->Prop):Prop:=
 match g with
 | .fn (.func f) caps=>AC P G f (args++caps) h R
 |_=>False
def zY(P:Program)(G:az)(g:AV)(args:List AV)(h:List AO)(d:Option Nat)(r:List CO)(ts:List AV)(K:KT)(Qp:QP):Prop:=
 match g with
 | .fn (.func f) caps=>po P G f (args++caps) h d r ts K Qp
 |_=>False
def evs(ts:List AV):List AOp->List AV
 |[]=>[]
 |x::r=>x.ev ts::evs ts r
theorem se(ts:List AV):∀l:List AOp,l.map (·.ev ts)=evs ts l
 |[]=>rfl
 |x::r=>by simp[evs,se ts r]
section
variable {P:Program} {G:az} {d:Option Nat} {r:List CO} {ts ts':List AV} {h h':List AO} {K:KT} {Qp:QP}
@[simp] theorem LV(v:AV)(h:List AO):nxt P G d r ts K Qp (some (v,h))=rK P G r (put d v ts) h K Qp:=rfl
@[simp] theorem LQ:nxt P G d r ts K Qp none=False:=rfl
@[simp] theorem Ni(c:Prop)[Decidable c](x:Option (AV × List AO)):nxt P G d r ts K Qp (if c then x else none)=(c/\nxt P G d r ts K Qp x):=by
 split
 ·rename_i hc;exact propext ⟨λh=>⟨hc,h⟩,λh=>h.2⟩
 ·rename_i hc;exact propext ⟨λh=>h.elim,λh=>(hc h.1).elim⟩
@[simp] theorem Mj(v:AV)(h:List AO):Dt P G d r ts K Qp (.ret v) h=rK P G r (put d v ts) h K Qp:=rfl
@[simp] theorem Mx(t:TypeId)(v:PV)(h:List AO):Dt P G d r ts K Qp (.pan t v) h=Qp t v h:=rfl
@[simp] theorem Mn(f:FuncId)(caps args:List AV)(R:ARes->List AO->Prop):DF P G (.fn (.func f) caps) args h R=AC P G f (args++caps) h R:=rfl
@[simp] theorem Lm(f:FuncId)(caps args:List AV):zY P G (.fn (.func f) caps) args h d r ts K Qp=po P G f (args++caps) h d r ts K Qp:=rfl
@[simp] theorem Nd:evs ts []=[]:=rfl
@[simp] theorem Ma(x:AOp)(l:List AOp):evs ts (x::l)=x.ev ts::evs ts l:=rfl
theorem zM(x:Option (AV × List AO)):okE x (λv h'=>rK P G r (put d v ts) h' K Qp)=nxt P G d r ts K Qp x:=by
 cases x with
 |none=>exact propext ⟨λ⟨v,h',e,_⟩=>(by cases e),λh=>h.elim⟩
 |some q=>obtain⟨v,h'⟩:=q;exact propext ⟨λ⟨v',h2,e,k⟩=>(by cases e;exact k),λk=>⟨v,h',rfl,k⟩⟩
@[simp] theorem NW:rK P G [] ts h K Qp=K ts h:=rfl
theorem br(ai:AI)(hp:ai.plain=true):rK P G (⟨d,none,ai⟩::r) ts h K Qp=nxt P G d r ts K Qp (ev G ts h ai):=by
 rw[←zM]
 show oK P G ai ts h _ Qp=_
 unfold oK
 cases ai<;>first|rfl|(simp[AI.plain] at hp)
theorem ag:lK (λv h'=>rK P G r (put d v ts) h' K Qp) Qp=Dt P G d r ts K Qp:=by funext x h';cases x<;>rfl
@[simp] theorem MZ(f:FuncId)(l:List AOp):rK P G (⟨d,none,.call f l⟩::r) ts h K Qp=AC P G f (evs ts l) h (Dt P G d r ts K Qp):=by
 rw[←se,←ag];rfl
@[simp] theorem LH(g:AOp)(l:List AOp):rK P G (⟨d,none,.callv g l⟩::r) ts h K Qp=DF P G (g.ev ts) (evs ts l) h (Dt P G d r ts K Qp):=by
 rw[←se,←ag];rfl
@[simp] theorem Mg(f:FuncId)(l:List AOp):rK P G (⟨d,none,.qcall f l⟩::r) ts h K Qp=po P G f (evs ts l) h d r ts K Qp:=by
 rw[←se];rfl
@[simp] theorem KO(g:AOp)(l:List AOp):rK P G (⟨d,none,.qcallv g l⟩::r) ts h K Qp=zY P G (g.ev ts) (evs ts l) h d r ts K Qp:=by
 rw[←se];rfl
def grd(w:Bool)(A B:Prop):AV->Prop
 | .p (.bool b)=>Cnd (if w then b else !b) A B
 | .tup []=>B
 |_=>False
@[simp] theorem LF(j:Nat)(w:Bool)(ai:AI):rK P G (⟨d,some (j,w),ai⟩::r) ts h K Qp=grd w (rK P G (⟨d,none,ai⟩::r) ts h K Qp) (rK P G r (put d (.tup []) ts) h K Qp) (sel ts j):=by
 rw[←pu];rfl
@[simp] theorem On(A B:Prop)(b:Bool):grd true A B (.p (.bool b))=Cnd b A B:=rfl
@[simp] theorem Nq(w:Bool)(A B:Prop):grd w A B (.tup [])=B:=rfl
@[simp] theorem Ol(A B:Prop)(b:Bool):grd false A B (.p (.bool b))=Cnd (!b) A B:=rfl
@[simp] theorem GG(A B:Prop):Cnd true A B=A:=propext ⟨λh=>h.1 rfl,λh=>⟨λ_=>h,λe=>(by cases e)⟩⟩
@[simp] theorem EE(A B:Prop):Cnd false A B=B:=propext ⟨λh=>h.2 rfl,λh=>⟨λe=>(by cases e),λ_=>h⟩⟩
theorem cnd{b:Bool}{A B:Prop}(h1:b=true->A)(h2:b=false->B):Cnd b A B:=⟨h1,h2⟩
def CJ(P:Program)(G:az)(k:Nat)(b:AK)(Q:AX->List AV->List AO->Prop)(x:AX)(ts:List AV)(h:List AO):Prop:=
 match x with
 | .normal=>AKW P G k b ts h Q
 |x=>Q x ts h
def GM(id:Nat)(Q:AX->List AV->List AO->Prop)(x:AX)(ts:List AV)(h:List AO):Prop:=
 match x with
 | .exit i=>if i=id then Q .normal ts h else Q (.exit i) ts h
 |x=>Q x ts h
def JZ(Q:AX->List AV->List AO->Prop):QP:=λt v h=>∀ts,Q (.pan t v) ts h
def GR(A B:Prop):AV->Prop
 | .p (.bool b)=>Cnd b A B
 |_=>False
def JU(Q:AX->List AV->List AO->Prop):KT:=λts h=>Q .normal ts h
variable {k:Nat} {Q:AX->List AV->List AO->Prop}
@[simp] theorem Mh:AKW P G k .skip ts h Q=Q .normal ts h:=rfl
@[simp] theorem MT(cs:List CO):AKW P G k (.reg cs) ts h Q=rK P G cs ts h (JU Q) (JZ Q):=rfl
@[simp] theorem NR(t:OT):AKW P G k (.ot t) ts h Q=otK P G t ts h (JU Q) (JZ Q):=rfl
def otN(P:Program)(G:az)(r:OT)(K:KT)(Qp:QP):KT:=λts h=>otK P G r ts h K Qp
@[simp] theorem Nw(r:OT)(K:KT)(Qp:QP):otN P G r K Qp ts h=otK P G r ts h K Qp:=rfl
@[simp] theorem Ml(K:KT)(Qp:QP):otK P G .done ts h K Qp=K ts h:=rfl
@[simp] theorem ML(cs:List CO)(r:OT)(K:KT)(Qp:QP):otK P G (.one cs r) ts h K Qp=rK P G cs ts h (otN P G r K Qp) Qp:=rfl
@[simp] theorem MX(a b:OT)(K:KT)(Qp:QP):otK P G (.alt a b) ts h K Qp=(otK P G a ts h K Qp/\otK P G b ts h K Qp):=rfl
@[simp] theorem Nr(K:KT)(Qp:QP):otK P G .tru ts h K Qp=True:=rfl
@[simp] theorem Nm(a b:AK):AKW P G k (.seq a b) ts h Q=AKW P G k a ts h (CJ P G k b Q):=rfl
@[simp] theorem Lx(c:AOp)(a b:AK):AKW P G k (.cond c a b) ts h Q=GR (AKW P G k a ts h Q) (AKW P G k b ts h Q) (c.ev ts):=rfl
@[simp] theorem Nh(id:Nat)(a:AK):AKW P G k (.blk id a) ts h Q=AKW P G k a ts h (GM id Q):=rfl
@[simp] theorem LL(id:Nat):AKW P G k (.exit id) ts h Q=Q (.exit id) ts h:=rfl
@[simp] theorem MQ:AKW P G k .ret ts h Q=Q .ret ts h:=rfl
@[simp] theorem NG(A B:Prop)(b:Bool):GR A B (.p (.bool b))=Cnd b A B:=rfl
@[simp] theorem Mu:JU Q ts h=Q .normal ts h:=rfl
@[simp] theorem Mp(t:TypeId)(v:PV):JZ Q t v h=∀ts,Q (.pan t v) ts h:=rfl
@[simp] theorem JP(b:AK):CJ P G k b Q .normal ts h=AKW P G k b ts h Q:=rfl
@[simp] theorem KH(b:AK)(i:Nat):CJ P G k b Q (.exit i) ts h=Q (.exit i) ts h:=rfl
@[simp] theorem Mz(b:AK):CJ P G k b Q .ret ts h=Q .ret ts h:=rfl
@[simp] theorem LJ(b:AK)(t:TypeId)(v:PV):CJ P G k b Q (.pan t v) ts h=Q (.pan t v) ts h:=rfl
@[simp] theorem JO(id:Nat):GM id Q .normal ts h=Q .normal ts h:=rfl
@[simp] theorem KP(id i:Nat):GM id Q (.exit i) ts h=if i=id then Q .normal ts h else Q (.exit i) ts h:=rfl
@[simp] theorem LU(id:Nat):GM id Q .ret ts h=Q .ret ts h:=rfl
@[simp] theorem Mr(id:Nat)(t:TypeId)(v:PV):GM id Q (.pan t v) ts h=Q (.pan t v) ts h:=rfl
def Ih(R:ARes->List AO->Prop)(h:List AO):Option (List AV)->Prop
 |some vs=>R (.ret (sL vs)) h
 |none=>False
@[simp] theorem Lj(R:ARes->List AO->Prop)(vs:List AV):Ih R h (some vs)=R (.ret (sL vs)) h:=rfl
@[simp] theorem HM(res:List RV)(R:ARes->List AO->Prop):yE G res R .ret ts h=Ih R h (mP G ts h res):=by
 unfold yE Ih
 cases hr:mP G ts h res with
 |none=>exact propext ⟨λ⟨vs,e,_⟩=>(by simp at e),λh=>h.elim⟩
 |some vs=>exact propext ⟨λ⟨vs',e,k⟩=>(by cases e;exact k),λk=>⟨vs,rfl,k⟩⟩
@[simp] theorem JL(res:List RV)(R:ARes->List AO->Prop):yE G res R .normal ts h=Ih R h (mP G ts h res):=HM res R
@[simp] theorem LP(res:List RV)(R:ARes->List AO->Prop)(t:TypeId)(v:PV):yE G res R (.pan t v) ts h=R (.pan t v) h:=rfl
@[simp] theorem Mq:mP G ts h []=some []:=rfl
@[simp] theorem NU(n:Nat)(l:List RV):mP G ts h (.t n::l)=(mP G ts h l).map (sel ts n:: ·):=by
 simp only[mP,Em,pu];cases mP G ts h l<;>rfl
@[simp] theorem Lg(v:AV):sL [v]=v:=rfl
@[simp] theorem KL:sL []= .tup []:=rfl
@[simp] theorem La(v w:AV)(l:List AV):sL (v::w::l)= .tup (v::w::l):=rfl
def Hu(sz:Option Nat):Option (List AV × Nat)->Option AV
 |some (cs,off)=>gW cs off sz
 |none=>none
@[simp] theorem Kk(sz:Option Nat)(cs:List AV)(off:Nat):Hu sz (some (cs,off))=gW cs off sz:=rfl
@[simp] theorem NA(n:Nat)(sz:Option Nat)(l:List RV):mP G ts h (.c n sz::l)=(Hu sz (gE G h (sel ts n))).bind λv=>(mP G ts h l).map (v:: ·):=by
 simp only[mP,Em,pu]
 cases hr:gE G h (sel ts n) with
 |none=>rfl
 |some q=>
  obtain⟨cs,off⟩:=q
  simp only[Hu]
  cases gW cs off sz with
  |none=>rfl
  |some v=>cases mP G ts h l<;>rfl
@[congr] theorem LD{cs:List CO}(e1:ts=ts')(e2:h=h'):rK P G cs ts h K Qp=rK P G cs ts' h' K Qp:=by rw[e1,e2]
@[congr] theorem Lh{x x':Option (AV × List AO)}(e:x=x'):nxt P G d r ts K Qp x=nxt P G d r ts K Qp x':=by rw[e]
@[congr] theorem Mb{f:FuncId}{a a':List AV}{R:ARes->List AO->Prop}(e1:a=a')(e2:h=h'):AC P G f a h R=AC P G f a' h' R:=by rw[e1,e2]
@[congr] theorem Lo{c:AK}(e1:ts=ts')(e2:h=h'):AKW P G k c ts h Q=AKW P G k c ts' h' Q:=by rw[e1,e2]
@[congr] theorem Lc{b b':Bool}{A B:Prop}(e:b=b'):Cnd b A B=Cnd b' A B:=by rw[e]
@[congr] theorem Ki{v v':AV}{A B:Prop}(e:v=v'):GR A B v=GR A B v':=by rw[e]
@[congr] theorem KU{v v':AV}{w:Bool}{A B:Prop}(e:v=v'):grd w A B v=grd w A B v':=by rw[e]
@[congr] theorem JM{g g':AV}{a a':List AV}{R:ARes->List AO->Prop}(e1:g=g')(e2:a=a')(e3:h=h'):DF P G g a h R=DF P G g' a' h' R:=by rw[e1,e2,e3]
@[congr] theorem Jy{g g':AV}{a a':List AV}(e1:g=g')(e2:a=a')(e3:h=h'):zY P G g a h d r ts K Qp=zY P G g' a' h' d r ts K Qp:=by rw[e1,e2,e3]
@[congr] theorem Im{f:FuncId}{a a':List AV}(e2:a=a')(e3:h=h'):po P G f a h d r ts K Qp=po P G f a' h' d r ts K Qp:=by rw[e2,e3]
@[congr] theorem JQ{f:FuncId}{a a':List AV}(e2:a=a')(e3:h=h'):Hm P G f a h d r ts K Qp=Hm P G f a' h' d r ts K Qp:=by rw[e2,e3]
@[congr] theorem Lf{t:OT}{K:KT}{Qp:QP}(e1:ts=ts')(e2:h=h'):otK P G t ts h K Qp=otK P G t ts' h' K Qp:=by rw[e1,e2]
@[congr] theorem Le{t:OT}{K:KT}{Qp:QP}(e1:ts=ts')(e2:h=h'):otN P G t K Qp ts h=otN P G t K Qp ts' h':=by rw[e1,e2]
@[congr] theorem Kj{b:AK}{x x':AX}(e:x=x')(e1:ts=ts')(e2:h=h'):CJ P G k b Q x ts h=CJ P G k b Q x' ts' h':=by rw[e,e1,e2]
@[congr] theorem Kf{x x':ARes}(e:x=x')(e2:h=h'):Dt P G d r ts K Qp x h=Dt P G d r ts K Qp x' h':=by rw[e,e2]
@[congr] theorem Kb{res:List RV}{R:ARes->List AO->Prop}{x x':AX}(e:x=x')(e1:ts=ts')(e2:h=h'):yE G res R x ts h=yE G res R x' ts' h':=by rw[e,e1,e2]
end
attribute [simp] ev un gE elems lenOf IK shB Gy pG Au CH FN Kc KD HL Ag gW lI lo? hi? Ke Dj cd DI pg eb AV.isCell AV.cells dP
section
variable {P:Program} {G:az} {d:Option Nat} {r:List CO} {ts:List AV} {h:List AO} {K:KT} {Qp:QP}
@[simp] theorem NC(x:AOp):rK P G (⟨d,none,.mov x⟩::r) ts h K Qp=rK P G r (put d (x.ev ts) ts) h K Qp:=br _ rfl
end
section
variable {P:Program} {G:az} {d:Option Nat} {r:List CO} {ts:List AV} {h:List AO} {K:KT} {Qp:QP}
@[simp] theorem LK(x:AOp):rK P G (⟨d,none,.nilck x⟩::r) ts h K Qp=nxt P G d r ts K Qp (ev G ts h (.nilck x)):=br _ rfl
@[simp] theorem NX(x:AOp):rK P G (⟨d,none,.not x⟩::r) ts h K Qp=nxt P G d r ts K Qp (ev G ts h (.not x)):=br _ rfl
@[simp] theorem NE(x:AOp):rK P G (⟨d,none,.neg x⟩::r) ts h K Qp=nxt P G d r ts K Qp (ev G ts h (.neg x)):=br _ rfl
@[simp] theorem NH(op:BinOp)(x y:AOp):rK P G (⟨d,none,.bin op x y⟩::r) ts h K Qp=nxt P G d r ts K Qp (ev G ts h (.bin op x y)):=br _ rfl
@[simp] theorem Ns(op:BinOp)(x y:AOp):rK P G (⟨d,none,.bins op x y⟩::r) ts h K Qp=nxt P G d r ts K Qp (ev G ts h (.bins op x y)):=br _ rfl
@[simp] theorem Nx(ne:Bool)(x y:AOp):rK P G (⟨d,none,.beq ne x y⟩::r) ts h K Qp=nxt P G d r ts K Qp (ev G ts h (.beq ne x y)):=br _ rfl
@[simp] theorem Nn(kd:Nat)(ne:Bool)(x:AOp):rK P G (⟨d,none,.pnil kd ne x⟩::r) ts h K Qp=nxt P G d r ts K Qp (ev G ts h (.pnil kd ne x)):=br _ rfl
@[simp] theorem Nf(k:IntKind)(x:AOp):rK P G (⟨d,none,.conv k x⟩::r) ts h K Qp=nxt P G d r ts K Qp (ev G ts h (.conv k x)):=br _ rfl
@[simp] theorem MP(off:Nat)(sz:Option Nat)(x:AOp):rK P G (⟨d,none,.fldv off sz x⟩::r) ts h K Qp=nxt P G d r ts K Qp (ev G ts h (.fldv off sz x)):=br _ rfl
@[simp] theorem Ob(i:Nat)(x:AOp):rK P G (⟨d,none,.ext i x⟩::r) ts h K Qp=nxt P G d r ts K Qp (ev G ts h (.ext i x)):=br _ rfl
@[simp] theorem Np(off:Nat)(x:AOp):rK P G (⟨d,none,.fldA off x⟩::r) ts h K Qp=nxt P G d r ts K Qp (ev G ts h (.fldA off x)):=br _ rfl
def HV(h:List AO)(esz:Nat):AV->AV->Option (AV × List AO)
 | .p (.lst sz es),.p (.int _ n)=>if sz=esz/\0<=n then(es[n.toNat]?).map λe=>(.eptr e 0,h) else none
 | .sl id sz off len,.p (.int _ n)=>if sz=esz/\0<=n/\n<len then some (.ptr id esz (off+n.toNat) 0,h) else none
 |_,_=>none
theorem Ic(esz:Nat)(x y:AOp):ev G ts h (.idxS esz x y)=HV h esz (x.ev ts) (y.ev ts):=by
 simp only[ev]
 cases x.ev ts<;>try rfl
 all_goals (rename_i a;first|(cases a<;>first|rfl|(cases y.ev ts<;>try rfl);(rename_i b;cases b<;>rfl))|(cases y.ev ts<;>try rfl);(rename_i b;cases b<;>rfl))
@[simp] theorem Nz(esz sz:Nat)(es:List (List PV))(k:IntKind)(n:Int):HV h esz (.p (.lst sz es)) (.p (.int k n))=if sz=esz/\0<=n then(es[n.toNat]?).map λe=>(.eptr e 0,h) else none:=rfl
@[simp] theorem JE(esz id sz off len:Nat)(k:IntKind)(n:Int):HV h esz (.sl id sz off len) (.p (.int k n))=if sz=esz/\0<=n/\n<len then some (.ptr id esz (off+n.toNat) 0,h) else none:=rfl
@[simp] theorem MY(esz:Nat)(x y:AOp):rK P G (⟨d,none,.idxS esz x y⟩::r) ts h K Qp=nxt P G d r ts K Qp (HV h esz (x.ev ts) (y.ev ts)):=by
 rw[←Ic (G:=G)];exact br _ rfl
@[simp] theorem MO(n esz:Nat)(x i:AOp):rK P G (⟨d,none,.idxA n esz x i⟩::r) ts h K Qp=nxt P G d r ts K Qp (ev G ts h (.idxA n esz x i)):=br _ rfl
@[simp] theorem KR(x i:AOp):rK P G (⟨d,none,.idxStr x i⟩::r) ts h K Qp=nxt P G d r ts K Qp (ev G ts h (.idxStr x i)):=br _ rfl
@[simp] theorem NQ(s:Bool)(x:AOp):rK P G (⟨d,none,.len s x⟩::r) ts h K Qp=nxt P G d r ts K Qp (ev G ts h (.len s x)):=br _ rfl
@[simp] theorem Ox(x y:AOp):rK P G (⟨d,none,.mx x y⟩::r) ts h K Qp=nxt P G d r ts K Qp (ev G ts h (.mx x y)):=br _ rfl
@[simp] theorem Ou(x y:AOp):rK P G (⟨d,none,.mn x y⟩::r) ts h K Qp=nxt P G d r ts K Qp (ev G ts h (.mn x y)):=br _ rfl
@[simp] theorem Oj(sz:Option Nat)(x:AOp):rK P G (⟨d,none,.ld sz x⟩::r) ts h K Qp=nxt P G d r ts K Qp (ev G ts h (.ld sz x)):=br _ rfl
@[simp] theorem Om(n:Nat)(x y:AOp):rK P G (⟨d,none,.st n x y⟩::r) ts h K Qp=nxt P G d r ts K Qp (ev G ts h (.st n x y)):=br _ rfl
@[simp] theorem NM(n:Nat)(x:AOp):rK P G (⟨d,none,.box n x⟩::r) ts h K Qp=nxt P G d r ts K Qp (ev G ts h (.box n x)):=br _ rfl
@[simp] theorem MC(z:List AV):rK P G (⟨d,none,.alloc z⟩::r) ts h K Qp=nxt P G d r ts K Qp (ev G ts h (.alloc z)):=br _ rfl
@[simp] theorem NY(z:List AV)(ps:List (Nat × Nat × AOp)):rK P G (⟨d,none,.bld z ps⟩::r) ts h K Qp=nxt P G d r ts K Qp (ev G ts h (.bld z ps)):=br _ rfl
def GC(ne:Bool)(h:List AO)(K:AV->List AO->Prop):AV->Prop
 | .nils=>K (.p (.bool (!ne))) h
 | .p (.lst _ [])=>K (.p (.bool true)) h/\K (.p (.bool false)) h
 | .p (.lst _ (_::_))=>K (.p (.bool ne)) h
 | .sl _ _ _ len=>0<len/\K (.p (.bool ne)) h
 |_=>False
@[simp] theorem Od:rK P G (⟨d,none,.bad⟩::r) ts h K Qp=False:=rfl
@[simp] theorem Ng(ne:Bool)(x:AOp):rK P G (⟨d,none,.snil ne x⟩::r) ts h K Qp=GC ne h (λv h'=>rK P G r (put d v ts) h' K Qp) (x.ev ts):=by
 show oK P G (.snil ne x) ts h (λv h'=>rK P G r (put d v ts) h' K Qp) Qp=_
 simp only[oK]
 generalize x.ev ts=y
 cases y<;>first
  |rfl
  |(rename_i v;cases v<;>first|rfl|(rename_i l;cases l<;>rfl))
@[simp] theorem Lt(ne:Bool)(K1:AV->List AO->Prop):GC ne h K1 .nils=K1 (.p (.bool (!ne))) h:=rfl
@[simp] theorem Ms(ne:Bool)(sz:Nat)(K1:AV->List AO->Prop):GC ne h K1 (.p (.lst sz []))=(K1 (.p (.bool true)) h/\K1 (.p (.bool false)) h):=rfl
@[simp] theorem Lb(ne:Bool)(sz:Nat)(x:List PV)(l:List (List PV))(K1:AV->List AO->Prop):GC ne h K1 (.p (.lst sz (x::l)))=K1 (.p (.bool ne)) h:=rfl
@[simp] theorem MM(ne:Bool)(id sz off len:Nat)(K1:AV->List AO->Prop):GC ne h K1 (.sl id sz off len)=(0<len/\K1 (.p (.bool ne)) h):=rfl
@[simp] theorem MJ(m esz:Nat)(q:Option Nat)(x y:AOp):rK P G (⟨d,none,.idxV m esz q x y⟩::r) ts h K Qp=nxt P G d r ts K Qp (ev G ts h (.idxV m esz q x y)):=by
 rw[←zM];rfl
@[simp] theorem MK(esz:Nat)(z:List AV)(n:Nat)(ps:List (Nat × Nat × AOp)):rK P G (⟨d,none,.bslP esz z n ps⟩::r) ts h K Qp=nxt P G d r ts K Qp (ev G ts h (.bslP esz z n ps)):=by
 rw[←zM];rfl
@[simp] theorem Mo(f:FuncId)(l:List AOp):rK P G (⟨d,none,.pcall f l⟩::r) ts h K Qp=Hm P G f (evs ts l) h d r ts K Qp:=by
 rw[←se];rfl
@[simp] theorem NS(sz:Option Nat)(n e:Nat):rK P G (⟨none,none,.chk sz n e⟩::r) ts h K Qp=(ev G ts h (.ld sz (.t n))=some (sel ts e,h)/\rK P G r ts h K Qp):=by
 rw[←pu];rfl
@[simp] theorem NP(esz:Nat)(z:List AV)(n:Nat)(ps:List (Nat × Nat × AOp)):rK P G (⟨d,none,.bsl esz z n ps⟩::r) ts h K Qp=nxt P G d r ts K Qp (ev G ts h (.bsl esz z n ps)):=br _ rfl
@[simp] theorem Ny(esz b:Nat)(z:List AV)(l c:AOp):rK P G (⟨d,none,.mks esz b z l c⟩::r) ts h K Qp=nxt P G d r ts K Qp (ev G ts h (.mks esz b z l c)):=br _ rfl
@[simp] theorem ND(esz:Nat)(x:AOp)(l m:Option AOp):rK P G (⟨d,none,.slS esz x l m⟩::r) ts h K Qp=nxt P G d r ts K Qp (ev G ts h (.slS esz x l m)):=br _ rfl
@[simp] theorem ME(x:AOp)(l m:Option AOp):rK P G (⟨d,none,.slStr x l m⟩::r) ts h K Qp=nxt P G d r ts K Qp (ev G ts h (.slStr x l m)):=br _ rfl
@[simp] theorem NF(n esz:Nat)(x:AOp)(l m:Option AOp):rK P G (⟨d,none,.slA n esz x l m⟩::r) ts h K Qp=nxt P G d r ts K Qp (ev G ts h (.slA n esz x l m)):=br _ rfl
def Fg(h:List AO)(esz bytes:Nat):Option (List (List AV))->AV->Option (AV × List AO)
 |none,_=>none
 |some xs,.nils=>if xs.length*bytes<=140737488355328/\xs.length<=140737488355328 then
   if xs=[] then some (.nils,h) else some (.sl h.length esz 0 xs.length,h++[.row esz xs]) else none
 |some xs,.sl id sz off len=>match h[id]? with
  |some (.row sz' es)=>if sz'=esz/\sz=esz/\off+len<=es.length/\(len+xs.length)*bytes<=140737488355328/\len+xs.length<=140737488355328 then
    some (.sl h.length esz 0 (len+xs.length),h.set id .dead++[.row esz ((es.drop off).take len++xs)]) else none
  |_=>none
 |some _,_=>none
theorem Kr(esz b:Nat)(s x:AOp):ev G ts h (.app esz b s x)=Fg h esz b (elems h esz (x.ev ts)) (s.ev ts):=by
 simp only[ev]
 cases elems h esz (x.ev ts) with
 |none=>rfl
 |some xs=>cases s.ev ts<;>rfl
@[simp] theorem KX(esz b:Nat)(s:AV):Fg h esz b none s=none:=rfl
@[simp] theorem ER(esz b:Nat)(xs:List (List AV)):Fg h esz b (some xs) .nils=if xs.length*b<=140737488355328/\xs.length<=140737488355328 then
 if xs=[] then some (.nils,h) else some (.sl h.length esz 0 xs.length,h++[.row esz xs]) else none:=rfl
@[simp] theorem Ie(esz b:Nat)(xs:List (List AV))(id sz off len:Nat):Fg h esz b (some xs) (.sl id sz off len)=match h[id]? with
 |some (.row sz' es)=>if sz'=esz/\sz=esz/\off+len<=es.length/\(len+xs.length)*b<=140737488355328/\len+xs.length<=140737488355328 then
   some (.sl h.length esz 0 (len+xs.length),h.set id .dead++[.row esz ((es.drop off).take len++xs)]) else none
 |_=>none:=rfl
@[simp] theorem NI(esz b:Nat)(s x:AOp):rK P G (⟨d,none,.app esz b s x⟩::r) ts h K Qp=nxt P G d r ts K Qp (Fg h esz b (elems h esz (x.ev ts)) (s.ev ts)):=by
 rw[←Kr (G:=G)];exact br _ rfl
@[simp] theorem NN(f:Fn)(cs:List AOp):rK P G (⟨d,none,.mkf f cs⟩::r) ts h K Qp=nxt P G d r ts K Qp (ev G ts h (.mkf f cs)):=br _ rfl
@[simp] theorem MV(x:AOp):rK P G (⟨d,none,.strB x⟩::r) ts h K Qp=nxt P G d r ts K Qp (ev G ts h (.strB x)):=br _ rfl
@[simp] theorem Nb(x y z:AOp):rK P G (⟨d,none,.pick x y z⟩::r) ts h K Qp=nxt P G d r ts K Qp (ev G ts h (.pick x y z)):=br _ rfl
@[simp] theorem MW(esz:Nat)(x y:AOp):rK P G (⟨d,none,.copy esz x y⟩::r) ts h K Qp=nxt P G d r ts K Qp (ev G ts h (.copy esz x y)):=br _ rfl
@[simp] theorem Nk(esz b:Nat)(z:List AV)(s n:AOp):rK P G (⟨d,none,.appz esz b z s n⟩::r) ts h K Qp=nxt P G d r ts K Qp (ev G ts h (.appz esz b z s n)):=br _ rfl
@[simp] theorem No(x:AOp):rK P G (⟨d,none,.btos x⟩::r) ts h K Qp=nxt P G d r ts K Qp (ev G ts h (.btos x)):=br _ rfl
@[simp] theorem Nv:rK P G (⟨d,none,.mkm⟩::r) ts h K Qp=nxt P G d r ts K Qp (ev G ts h .mkm):=br _ rfl
@[simp] theorem Ov(kd:Nat)(z:AV)(c:Bool)(x y:AOp):rK P G (⟨d,none,.lk kd z c x y⟩::r) ts h K Qp=nxt P G d r ts K Qp (ev G ts h (.lk kd z c x y)):=br _ rfl
@[simp] theorem Oa(kd:Nat)(x y z:AOp):rK P G (⟨d,none,.mup kd x y z⟩::r) ts h K Qp=nxt P G d r ts K Qp (ev G ts h (.mup kd x y z)):=br _ rfl
@[simp] theorem Nc(x:AOp):rK P G (⟨d,none,.rngS x⟩::r) ts h K Qp=nxt P G d r ts K Qp (ev G ts h (.rngS x)):=br _ rfl
@[simp] theorem Nl(x:AOp):rK P G (⟨d,none,.nxtS x⟩::r) ts h K Qp=nxt P G d r ts K Qp (ev G ts h (.nxtS x)):=br _ rfl
@[simp] theorem Oe(ks:List Nat)(ne:Bool)(x y:AOp):rK P G (⟨d,none,.aeq ks ne x y⟩::r) ts h K Qp=nxt P G d r ts K Qp (ev G ts h (.aeq ks ne x y)):=br _ rfl
end
end Go.Aw
namespace Go.Aw
def slots(n:Nat)(l:List (Nat × AV)):List AV:=l.foldl (λts x=>zC ts x.1 x.2) (List.replicate n .any)
section
variable {P:Program} {G:az} {k:Nat} {Q:AX->List AV->List AO->Prop} {ts:List AV} {h:List AO}
theorem Hp{ai:AI}{ts:List AV}{h:List AO}{K:AV->List AO->Prop}{Qp Qp':QP}(hp:∀t v h,Qp t v h->Qp' t v h)(H:oK P G ai ts h K Qp):oK P G ai ts h K Qp':=by
 have hc:∀r h',lK K Qp r h'->lK K Qp' r h':=λr h'=>by cases r<;>first|exact id|exact hp _ _ _
 cases ai
 case call f args=>exact AC.mono H hc
 case callv g args=>
  revert H
  simp only[oK]
  generalize g.ev ts=y
  intro H
  cases y<;>first
   |exact H.elim
   |(rename_i f caps;cases f<;>first|exact H.elim|exact AC.mono H hc)
 all_goals exact H
theorem uk:∀{cs:List CO} {ts:List AV} {h:List AO} {K:KT} {Qp Qp':QP},(∀t v h,Qp t v h->Qp' t v h)->rK P G cs ts h K Qp->rK P G cs ts h K Qp'
 |[],_,_,_,_,_,_,H=>H
 |c::r,ts,h,K,Qp,Qp',hp,H=>by
  have H2:sK P G c ts h (λts' h'=>rK P G r ts' h' K Qp') Qp:=fe (λts' h' _=>uk hp) H
  exact DD (Hp hp) id H2
theorem pC:∀{t:OT} {ts:List AV} {h:List AO} {K K':KT} {Qp Qp':QP},(∀ts' h',K ts' h'->K' ts' h')->(∀t v h',Qp t v h'->Qp' t v h')->otK P G t ts h K Qp->otK P G t ts h K' Qp'
 | .done,_,_,_,_,_,_,hk,_,H=>hk _ _ H
 | .one _ r,_,_,_,_,_,_,hk,hp,H=>DX (λ_ _=>pC (t:=r) hk hp) (uk hp H)
 | .alt a b,_,_,_,_,_,_,hk,hp,H=>⟨pC (t:=a) hk hp H.1,pC (t:=b) hk hp H.2⟩
 | .tru,_,_,_,_,_,_,_,_,_=>trivial
def BM{α:Type}(k:Nat)(T:α->List AV)(H:α->List AO)(inv:α->Prop)(μ:α->Nat)(a:α)(Q:AX->List AV->List AO->Prop)(x:AX)(ts:List AV)(h:List AO):Prop:=
 match x with
 | .normal=>∃a',inv a'/\μ a'<μ a/\Wk k ts h (T a') (H a')
 |x=>Q x ts h
section
variable {α:Type} {T:α->List AV} {H:α->List AO} {inv:α->Prop} {μ:α->Nat} {a:α}
@[simp] theorem IV:BM k T H inv μ a Q .normal ts h=∃a',inv a'/\μ a'<μ a/\Wk k ts h (T a') (H a'):=rfl
@[simp] theorem Ko(i:Nat):BM k T H inv μ a Q (.exit i) ts h=Q (.exit i) ts h:=rfl
@[simp] theorem Lr:BM k T H inv μ a Q .ret ts h=Q .ret ts h:=rfl
@[simp] theorem Lq(t:TypeId)(v:PV):BM k T H inv μ a Q (.pan t v) ts h=Q (.pan t v) ts h:=rfl
end
theorem ug:∀{c:AK} {ts:List AV} {h:List AO} {Q Q':AX->List AV->List AO->Prop},(∀x ts h,Q x ts h->Q' x ts h)->AKW P G k c ts h Q->AKW P G k c ts h Q':=by
 intro c
 induction c with
 |skip=>intro ts h Q Q' hq H;exact hq _ _ _ H
 |reg cs=>
  intro ts h Q Q' hq H
  simp only[AKW] at H⊢
  exact DX (λts' h'=>hq _ _ _) (uk (λt v h' hh ts'=>hq _ _ _ (hh ts')) H)
 |ot t=>
  intro ts h Q Q' hq H
  simp only[AKW] at H⊢
  exact pC (λts' h'=>hq _ _ _) (λt v h' hh ts'=>hq _ _ _ (hh ts')) H
 |seq a b ih1 ih2=>
  intro ts h Q Q' hq H
  refine ih1 (λx ts' h' hx=>?_) H
  cases x<;>first|exact ih2 hq hx|exact hq _ _ _ hx
 |cut a b ih1 ih2=>
  intro ts h Q Q' hq ⟨J,H,HJ⟩
  refine⟨J,ih1 (λx ts' h' hx=>?_) H,λts1 h1 j=>ih2 hq (HJ ts1 h1 j)⟩
  cases x<;>first|exact hx|exact hq _ _ _ hx
 |cond c a b ih1 ih2=>
  intro ts h Q Q' hq H
  simp only[AKW] at H⊢
  split at H
  ·exact⟨λe=>ih1 hq (H.1 e),λe=>ih2 hq (H.2 e)⟩
  ·exact H.elim
 |blk id a ih=>
  intro ts h Q Q' hq H
  refine ih (λx ts' h' hx=>?_) H
  cases x<;>first|exact hq _ _ _ hx|skip
  simp only at hx⊢
  split
  ·rename_i e;rw[if_pos e] at hx;exact hq _ _ _ hx
  ·rename_i e;rw[if_neg e] at hx;exact hq _ _ _ hx
 |loop a ih=>
  intro ts h Q Q' hq ⟨n,H⟩
  refine⟨n,?_⟩
  induction n generalizing ts h with
  |zero=>exact H.elim
  |succ n ihn=>
   obtain⟨ts1,h1,w,hb⟩:=H
   refine⟨ts1,h1,w,ih (λx ts' h' hx=>?_) hb⟩
   cases x<;>first|exact ihn hx|exact hq _ _ _ hx
 |exit id=>intro ts h Q Q' hq H;exact hq _ _ _ H
 |ret=>intro ts h Q Q' hq H;exact hq _ _ _ H
theorem aw{α:Type}(T:α->List AV)(H:α->List AO)(inv:α->Prop)(μ:α->Nat){b:AK}(a0:α)(i0:inv a0)(w0:Wk k ts h (T a0) (H a0))
 (body:∀a,inv a->AKW P G k b (T a) (H a) (BM k T H inv μ a Q)):AKW P G k (.loop b) ts h Q:=by
 have key:∀n a,μ a<n->inv a->∀ts h,Wk k ts h (T a) (H a)->Gl k (AKW P G k b) n ts h Q:=by
  intro n
  induction n with
  |zero=>intro a hm;omega
  |succ n ih=>
   intro a hm hi ts h w
   refine⟨T a,H a,w,ug (λx ts' h' hx=>?_) (body a hi)⟩
   cases x<;>first
    |(obtain⟨a',k1,k2,k3⟩:=hx;exact ih a' (by omega) k1 _ _ k3)
    |exact hx
 exact⟨μ a0+1,key _ a0 (by omega) i0 _ _ w0⟩
def Gm{α:Type}(k:Nat)(T:α->List AV)(H:α->List AO)(inv:α->Prop)(Q:AX->List AV->List AO->Prop)(x:AX)(ts:List AV)(h:List AO):Prop:=
 match x with
 | .normal=>∃s,inv s/\Wk k ts h (T s) (H s)
 |x=>Q x ts h
section
variable {α:Type} {T:α->List AV} {H:α->List AO} {inv:α->Prop}
@[simp] theorem JK:Gm k T H inv Q .normal ts h=∃s,inv s/\Wk k ts h (T s) (H s):=rfl
@[simp] theorem Ln(i:Nat):Gm k T H inv Q (.exit i) ts h=Q (.exit i) ts h:=rfl
@[simp] theorem Mc:Gm k T H inv Q .ret ts h=Q .ret ts h:=rfl
@[simp] theorem Lw(t:TypeId)(v:PV):Gm k T H inv Q (.pan t v) ts h=Q (.pan t v) ts h:=rfl
end
theorem LM{α:Type}(T:α->List AV)(H:α->List AO)(inv:α->Prop){a b:AK}(ha:AKW P G k a ts h (Gm k T H inv Q))
 (hb:∀s,inv s->AKW P G k b (T s) (H s) Q):AKW P G k (.cut a b) ts h Q:=
 ⟨λts1 h1=>∃s,inv s/\ts1=T s/\h1=H s,ug (λx ts' h' hx=>by
   cases x<;>first
    |(obtain⟨s,i,w⟩:=hx;exact⟨_,_,w,s,i,rfl,rfl⟩)
    |exact hx) ha,λts1 h1 ⟨s,i,e1,e2⟩=>by subst e1;subst e2;exact hb s i⟩
def As(k:Nat)(T:List AV)(H:List AO)(Q:AX->List AV->List AO->Prop)(x:AX)(ts:List AV)(h:List AO):Prop:=
 match x with
 | .normal=>Wk k ts h T H
 |x=>Q x ts h
@[simp] theorem JG{T:List AV}{H:List AO}:As k T H Q .normal ts h=Wk k ts h T H:=rfl
@[simp] theorem Ka{T:List AV}{H:List AO}(i:Nat):As k T H Q (.exit i) ts h=Q (.exit i) ts h:=rfl
@[simp] theorem KQ{T:List AV}{H:List AO}:As k T H Q .ret ts h=Q .ret ts h:=rfl
@[simp] theorem Lu{T:List AV}{H:List AO}(t:TypeId)(v:PV):As k T H Q (.pan t v) ts h=Q (.pan t v) ts h:=rfl
theorem NT(T:List AV)(H:List AO){a b:AK}(ha:AKW P G k a ts h (As k T H Q))(hb:AKW P G k b T H Q):AKW P G k (.cut a b) ts h Q:=
 ⟨λts1 h1=>ts1=T/\h1=H,ug (λx ts' h' hx=>by
   cases x<;>first
    |exact⟨_,_,hx,rfl,rfl⟩
    |exact hx) ha,λts1 h1 ⟨e1,e2⟩=>by subst e1;subst e2;exact hb⟩
def Fgt(n:Nat):List AV->List AV->Prop
 |[],[]=>True
 |v::r,v1::r1=>(v1= .any\/(below n v1/\v1=v))/\Fgt n r r1
 |_,_=>False
theorem oR{k:Nat}{ts ts1:List AV}{h:List AO}(hk:k=0)(H:Fgt 0 ts ts1):Wk k ts h ts1 []:=by
 refine Wk.of [] (by omega) (λi hi=>by omega) List.nodup_nil ?_ trivial
 have ren0:∀v,below 0 v->ren [] v=v:=by
  have key:∀(m:Nat),(∀v:AV,SizeOf.sizeOf v<m->below 0 v->ren [] v=v)/\(∀l:List AV,SizeOf.sizeOf l<m->ab 0 l->aF [] l=l):=by
   intro m
   induction m with
   |zero=>exact⟨λv h=>by omega,λl h=>by omega⟩
   |succ m ih=>
    refine⟨λv hs hb=>?_,λl hs hb=>?_⟩
    ·cases v<;>simp only[ren,below] at hb⊢ <;>first|rfl|omega|(rw[ih.2 _ (by simp at hs;omega) hb])
    ·cases l with
     |nil=>rfl
     |cons v r=>simp only[aF];rw[ih.1 v (by simp at hs;omega) hb.1,ih.2 r (by simp at hs;omega) hb.2]
  exact λv=>(key _).1 v (Nat.lt_succ_self _)
 revert H
 induction ts generalizing ts1 with
 |nil=>intro H;cases ts1<;>first|exact trivial|exact H.elim
 |cons v r ih=>
  intro H
  cases ts1 with
  |nil=>exact H.elim
  |cons v1 r1=>
   refine⟨?_,ih H.2⟩
   rcases H.1 with h|⟨h1,h2⟩
   ·exact .inl h
   ·exact .inr ⟨h1,by rw[←h2];exact ren0 v1 h1⟩
theorem iy{W:World}{S:Nat->Prop}{φ φ':au}{n n':Nat}(v:AV)(hb:below 0 v){x:Value}(h:VRel W S φ n v x):VRel W S φ' n' v x:=by
 match v,hb with
 | .agg cs,hb=>
   cases h with
   |agg _ vs hs hc=>exact .agg cs vs hs λj c y h1 h2=>iy c (bg hb j c h1) (hc j _ y h1 h2)
 | .tup cs,hb=>
   cases h with
   |tup _ vs hs hc=>exact .tup cs vs hs λj c y h1 h2=>iy c (bg hb j c h1) (hc j _ y h1 h2)
 | .ptr id e i o,hb=>simp[below] at hb
 | .sl id e o l,hb=>simp[below] at hb
 | .fn f cs,hb=>
   cases h with
   |fn _ _ vs hs hc=>exact .fn f cs vs hs λj c y h1 h2=>iy c (bg hb j c h1) (hc j _ y h1 h2)
 | .mp id,hb=>simp[below] at hb
 | .it id,hb=>simp[below] at hb
 | .p v,_=>cases h with|p _ _ hp=>exact .p _ _ hp
 | .eptr e o,_=>cases h with|eptr _ _ b o' h1 h2=>exact .eptr _ _ b o' h1 h2
 | .gp g o,_=>cases h;exact .gp _ _
 | .nils,_=>cases h;exact .nils
 | .nilp,_=>cases h;exact .nilp
 | .nilf,_=>cases h;exact .nilf
 | .nilm,_=>cases h;exact .nilm
 | .nili,_=>cases h;exact .nili
 | .ifc t v,_=>cases h with|ifc _ _ _ hp=>exact .ifc _ _ _ hp
 | .any,_=>exact .any x
termination_by SizeOf.sizeOf v
decreasing_by
 all_goals simp_wf
 all_goals (have:=List.sizeOf_lt_of_mem (List.mem_of_getElem? h1);omega)
def VF(P:Program)(G:az)(f:FuncId)(args:List AV)(r:AV):Prop:=AC P G f args [] λx _=>x= .ret r
theorem VF.ac{f:FuncId}{args:List AV}{r:AV}(H:VF P G f args r)(ha:ab 0 args)(hr:below 0 r)(h:List AO):AC P G f args h λx h'=>x= .ret r/\h'=h:=by
 refine⟨H.1,λW S φ vs hH hA=>?_⟩
 have h0:HRel G W S φ []:=⟨λid sz es e=>by simp at e,λid o e _=>by simp at e,λid id' e=>(aH e).elim,λb hb=>⟨(hH.sep b hb).1,λid e=>(aH e).elim⟩,λid hid=>by simp at hid,hH.glob⟩
 refine(H.2 W S φ vs h0 ⟨hA.1,λj c v h1 h2=>iy c (bg ha j c h1) (hA.2 j c v h1 h2)⟩).mono λe W' ⟨x,S',φ',h',k1,k2,k3,k4⟩=>?_
 subst k1
 have hnew:∀b,S' b->S b\/W.heap.size<=b:=λb hb=>by
  rcases k4.newS b hb with h1|h1|⟨id,h1,_⟩
  ·exact .inl h1
  ·exact .inr h1
  ·exact(aH h1).elim
 have hout:∀b,b<W.heap.size->W'.heap[b]?=W.heap[b]?:=λb hb=>k4.out b hb λid e=>(aH e).elim
 have hlt:∀{id:Nat} {o:AO},h[id]?=some o->id<h.length:=λe=>(List.getElem?_eq_some_iff.1 e).1
 have K:Keep W S φ h W' S' φ h:=
  {pure:=k4.pure,len:=Nat.le_refl _,same:=λ_ _=>rfl
   blk:=λid hid c t fr e=>⟨c,t,fr,by rw[←hout _ (hH.bnd id hid)];exact e,rfl⟩
   os:=k4.os,tape:=k4.tape,output:=k4.output,size:=k4.size,out:=λb hb _=>hout b hb
   img:=λid e=> .inr ⟨id,e,rfl⟩
   newS:=λb hb=>by rcases hnew b hb with h1|h1;exact .inl h1;exact .inr (.inl h1)}
 refine⟨.ret r,S',φ,h,⟨rfl,rfl⟩,⟨λid sz es e=>?_,λid o1 e lo=>?_,hH.inj,λb hb=>⟨(k2.sep b hb).1,λid e he=>?_⟩,λid hid=>Nat.lt_of_lt_of_le (hH.bnd id hid) k4.size,k2.glob⟩,?_,K⟩
 ·obtain⟨c,t,fr,a1,a2,a3,a4,a5⟩:=hH.obj id sz es e
  refine⟨c,t,fr,by rw[hout _ (hH.bnd id (hlt e))];exact a1,a2,a3,a4,λj u hj=>?_⟩
  obtain⟨b1,v,b2,b3⟩:=a5 j u hj
  exact⟨b1,v,b2,b3.kept K.toKept⟩
 ·rw[hout _ (hH.bnd id (hlt e))]
  exact(hH.oobj id o1 e lo).mono λa v r=>r.kept K.toKept
 ·rcases hnew b hb with h1|h1
  ·exact(hH.sep b h1).2 id e he
  ·have:=hH.bnd id e.lt;omega
 ·cases k3 with
  |ret _ x hv=>exact .ret _ _ (iy r hr hv)
theorem VF.use{f:FuncId}{args:List AV}{r:AV}(H:VF P G f args r){h:List AO}{R:ARes->List AO->Prop}(hk:R (.ret r) h)(ha:ab 0 args:=by simp[ab,below])(hr:below 0 r:=by simp[ab,below]):AC P G f args h R:=
 (H.ac ha hr h).mono λx h' ⟨e1,e2⟩=>by subst e1;subst e2;exact hk
theorem VF.useQ{f:FuncId}{args:List AV}{r:AV}(H:VF P G f args r){h:List AO}{d:Option Nat}{cs:List CO}{K:KT}{Qp:QP}(hk:rK P G cs (put d r ts) h K Qp)(ha:ab 0 args:=by simp[ab,below])(hr:below 0 r:=by simp[ab,below]):po P G f args h d cs ts K Qp:=
 ⟨r,H.ac ha hr h,hk⟩
end
end Go.Aw
