/-
  Contracts and lemmas that the card needs, part 2.
-/
import Derived.Test.YtigmcjbgnmpbeaaGreatKv1
import Derived.Laws.StructEq
namespace Go.Aw
section
variable {P:Program} {G:aw} {o:Oper} {ts:List AV} {h h':List AO} {av:AV}
theorem NY{c x y:Operand}{c' x' y':AOp}(ho:o.op= .pick c x y)(hc:cop c=some c')(hx:cop x=some x')(hy:cop y=some y')
 (he:ev G ts h (.pick c' x' y')=some (av,h')):Yld P G o ts h av h':=by
 simp only[ev] at he;split at he<;>first|(cases he;done)|skip
 rename_i b e1;cases he;refine Yld.of_same λW S φ a H T=>?_;have hrc:=ay hc T;rw[e1] at hrc;cases b
 ·exact⟨a.eval y,by simp[execOp,ho,jK hrc,asBool],ay hy T⟩
 ·exact⟨a.eval x,by simp[execOp,ho,jK hrc,asBool],ay hx T⟩
def EV(P:Program)(t:TypeId):Operand->Option Nat
 | .const (.pointer none)=>match P.underlying t with|some (.pointer _)=>some 0|_=>none
 | .const .nilFunc=>match P.underlying t with|some (.func _ _ _)=>some 1|_=>none
 |_=>none
def vM(place:Nat->Option (Nat × Nat)):List (Nat × Operand)->Option (List (Nat × Nat × AOp))
 |[]=>some []
 |(i,x)::r=>match place i,cop x,vM place r with
  |some (off,sz),some y,some r'=>some ((off,sz,y)::r')
  |_,_,_=>none
theorem mB{place:Nat->Option (Nat × Nat)}:∀{l:List (Nat × Operand)} {l':List (Nat × Nat × AOp)},vM place l=some l'->nh place l l'
 |[],l',h=>by cases h;trivial
 |(i,x)::r,l',h=>by
  simp only[vM] at h;split at h<;>first|(cases h;done)|skip
  rename_i off sz y r' h1 h2 h3;cases h;exact⟨h1,h2,mB h3⟩
def FP(P:Program):Nat->List Field->Option (List Nat)
 |_,[]=>some []
 |j,f::r=>if(f.name != "_" &&f.offset==j)=true then
   match P.underlying f.type,FP P (j+1) r with
   |some (.int _),some l=>some (0::l)
   |some .string,some l=>some (1::l)
   |some .bool,some l=>some (2::l)
   |_,_=>none
  else none
def VV(P:Program)(t:TypeId):Option (List Nat):=match P.underlying t with
 |some (.struct fs)=>if(!P.stoodInHeld t&& !P.eqGuardType P.depth t)=true then FP P 0 fs.toList else none
 |_=>none
theorem OD{W:World}{S:Nat->Prop}{φ:Place}{n:Nat}{xs ys:Array Value}(d:Nat):∀(l:List Field) (j:Nat) (ks:List Nat) (cs ds:List AV) (b:Bool),FP P j l=some ks->jr ks cs ds=some b->
 (∀(i:Nat) c,cs[i]?=some c->∃v,xs[j+i]?=some v/\VRel W S φ n c v)->(∀(i:Nat) c,ds[i]?=some c->∃v,ys[j+i]?=some v/\VRel W S φ n c v)->(Op.eqFields (d+1) xs ys l).run P W= .ok b W
 |[],j,ks,cs,ds,b,hf,he,_,_=>by
  cases hf;unfold jr at he;split at he<;>first|(cases he;done)|skip
  ·cases he;rfl
  ·rename_i heq _ _;cases heq
 |f::r,j,ks,cs,ds,b,hf,he,hx,hy=>by
  simp only[FP] at hf;split at hf<;>first|(cases hf;done)|skip
  rename_i hc;simp only[Wr,bne_iff_ne,ne_eq,beq_iff_eq] at hc;obtain⟨hnm,hoff⟩:=hc
  have rest:∀(l:List Nat) (k:Nat),FP P (j+1) r=some l->ks=k::l->∃a b' r1 r2 x y,cs= .p a::r1/\ds= .p b'::r2/\dp a=k/\keq a b'=some x/\(Op.eqFields (d+1) xs ys r).run P W= .ok y W/\b=(x&&y):=λl k h1 h2=>by
   subst h2;rcases cs with _|⟨c,r1⟩
   ·simp[jr] at he
   rcases ds with _|⟨c',r2⟩
   ·cases c<;>simp[jr] at he
   cases c<;>first|(simp[jr] at he;done)|skip
   cases c'<;>first|(simp[jr] at he;done)|skip
   rename_i a b';simp only[jr] at he;split at he<;>first|(cases he;done)|skip
   rename_i hk;split at he<;>first|(cases he;done)|skip
   rename_i x y e1 e2;cases he;refine⟨a,b',r1,r2,x,y,rfl,rfl,hk,e1,OD (S:=S) (φ:=φ) (n:=n) d r (j+1) l r1 r2 y h1 e2 (λi c hi=>?_) (λi c hi=>?_),rfl⟩
   ·have:=hx (i+1) c (by simpa using hi);rwa[show j+(i+1)=j+1+i by omega] at this
   ·have:=hy (i+1) c (by simpa using hi);rwa[show j+(i+1)=j+1+i by omega] at this
  have fin:∀(v w:Value) (x y:Bool),(part f.type xs f.offset).run P W= .ok v W->(part f.type ys f.offset).run P W= .ok w W->(Op.equalIn (d+1) f.type v w).run P W= .ok x W->(Op.eqFields (d+1) xs ys r).run P W= .ok y W->b=(x&&y)->(Op.eqFields (d+1) xs ys (f::r)).run P W= .ok b W:=λv w x y h1 h2 h3 h4 h5=>by
   simp only[Op.eqFields,Wz hnm,Sem.run_bind,h1,h2,h3,Result.andThen_ok,h5];cases x
   ·simp
   ·simpa using h4
  split at hf<;>first|(cases hf;done)|skip
  ·rename_i kk l hu hl;cases hf;obtain⟨a,b',r1,r2,x,y,rfl,rfl,hk,e1,e2,e3⟩:=rest l 0 hl rfl;obtain⟨v,v1,v2⟩:=hx 0 _ rfl;obtain⟨w,w1,w2⟩:=hy 0 _ rfl;rw[Yq,←hoff] at v1 w1;obtain⟨k1,n1,rfl⟩:∃k1 n1,a= .int k1 n1:=by cases a<;>first|(simp[dp] at hk;done)|exact⟨_,_,rfl⟩
   obtain⟨q,rfl,rfl⟩:∃q,b'= .int k1 q/\x=decide (n1=q):=(by cases b'<;>simp[keq] at e1;first|exact⟨_,rfl,e1.symm⟩|exact⟨_,by rw[e1.1],e1.2.symm⟩);obtain rfl:v= .int k1 n1:=(by cases v2 with|p _ _ hp=>cases hp with|_=>rfl);obtain rfl:w= .int k1 q:=(by cases w2 with|p _ _ hp=>cases hp with|_=>rfl);exact fin (.int k1 n1) (.int k1 q) _ _ (by simp[part,isAgg,run_underlying hu,v1]) (by simp[part,isAgg,run_underlying hu,w1]) ((run_equalIn_int (P:=P) W d f.type _ kk _ _ hu).trans (by rw[jD])) e2 e3
  ·rename_i l hu hl;cases hf;obtain⟨a,b',r1,r2,x,y,rfl,rfl,hk,e1,e2,e3⟩:=rest l 1 hl rfl;obtain⟨v,v1,v2⟩:=hx 0 _ rfl;obtain⟨w,w1,w2⟩:=hy 0 _ rfl;rw[Yq,←hoff] at v1 w1;obtain⟨n1,rfl⟩:∃n1,a= .str n1:=by cases a<;>first|(simp[dp] at hk;done)|exact⟨_,rfl⟩
   obtain⟨q,rfl,rfl⟩:∃q,b'= .str q/\x=decide (n1=q):=(by cases b'<;>simp[keq] at e1;first|exact⟨_,rfl,e1.symm⟩|exact⟨_,by rw[e1.1],e1.2.symm⟩);obtain rfl:v= .string ⟨⟨n1⟩⟩:=(by cases v2 with|p _ _ hp=>cases hp with|_=>rfl);obtain rfl:w= .string ⟨⟨q⟩⟩:=(by cases w2 with|p _ _ hp=>cases hp with|_=>rfl);exact fin (.string ⟨⟨n1⟩⟩) (.string ⟨⟨q⟩⟩) _ _ (by simp[part,isAgg,run_underlying hu,v1]) (by simp[part,isAgg,run_underlying hu,w1]) ((run_equalIn_string (P:=P) W d f.type _ _ hu).trans (by rw[ByteArray.toList_eq,ByteArray.toList_eq,jD])) e2 e3
  ·rename_i l hu hl;cases hf;obtain⟨a,b',r1,r2,x,y,rfl,rfl,hk,e1,e2,e3⟩:=rest l 2 hl rfl;obtain⟨v,v1,v2⟩:=hx 0 _ rfl;obtain⟨w,w1,w2⟩:=hy 0 _ rfl;rw[Yq,←hoff] at v1 w1;obtain⟨n1,rfl⟩:∃n1,a= .bool n1:=by cases a<;>first|(simp[dp] at hk;done)|exact⟨_,rfl⟩
   obtain⟨q,rfl,rfl⟩:∃q,b'= .bool q/\x=decide (n1=q):=(by cases b'<;>simp[keq] at e1;first|exact⟨_,rfl,e1.symm⟩|exact⟨_,by rw[e1.1],e1.2.symm⟩);obtain rfl:v= .bool n1:=(by cases v2 with|p _ _ hp=>cases hp with|_=>rfl);obtain rfl:w= .bool q:=(by cases w2 with|p _ _ hp=>cases hp with|_=>rfl);exact fin (.bool n1) (.bool q) _ _ (by simp[part,isAgg,run_underlying hu,v1]) (by simp[part,isAgg,run_underlying hu,w1]) ((run_equalIn_bool' (P:=P) W d f.type _ _ hu).trans (by rw[jD])) e2 e3
def nD(P:Program)(kt:TypeId):Bool:=match P.underlying kt with
 |some (.array n e)=>match P.underlying e,P.info? e with
  |some (.int .i64),some ei=>decide (n=2)&&decide (ei.size=1)
  |_,_=>false
 |_=>false
theorem pP{P:Program}{kt:TypeId}(h:nD P kt=true):∃e ei,P.underlying kt=some (.array 2 e)/\P.underlying e=some (.int .i64)/\P.info? e=some ei/\ei.size=1:=by
 unfold nD at h;split at h<;>first|(cases h;done)|skip
 rename_i n e hu;split at h<;>first|(cases h;done)|skip
 rename_i ei he hi;simp only[Wr,Wx] at h;obtain⟨rfl,h1⟩:=h;exact⟨e,ei,hu,he,hi,h1⟩
def kV(P:Program)(op:BinOp)(t:TypeId)(x y:Operand):Option AI:=
 match EV P t y,EV P t x,op with
 |some kd,_,.eql=>(cop x).map (.pnil kd false)
 |some kd,_,.neq=>(cop x).map (.pnil kd true)
 |none,some kd,.eql=>(cop y).map (.pnil kd false)
 |none,some kd,.neq=>(cop y).map (.pnil kd true)
 |_,_,_=>match P.underlying t,cop x,cop y with
  |some (.int _),some x',some y'=>some (.bin op x' y')
  |some .string,some x',some y'=>some (.bins op x' y')
  |some .bool,some x',some y'=>match op with
   | .eql=>some (.beq false x' y')
   | .neq=>some (.beq true x' y')
   |_=>none
  |_,_,_=>none
def il(P:Program)(c:Call):Option AI:=
 match c.callee,c.args.toList,c.argTypes.toList with
 | .builtin .len,[x],[t]=>match P.underlying t with
   |some .string=>(cop x).map (.len true)
   |some (.slice _)=>(cop x).map (.len false)
   |_=>none
 | .builtin .max,[x,y],_=>match cop x,cop y with|some x',some y'=>some (.mx x' y')|_,_=>none
 | .builtin .min,[x,y],_=>match cop x,cop y with|some x',some y'=>some (.mn x' y')|_,_=>none
 | .builtin .append,[s,x],[t,u]=>match P.underlying t,cop s,cop x with
   |some (.slice e),some s',some x'=>match P.info? e,fI P e with
    |some ei,some z=>if t=u then some (.app ei.size ei.bytes s' x') else none
    |_,_=>none
   |_,_,_=>none
 | .builtin .copy,[d,x],[t,_]=>match P.underlying t,cop d,cop x with
   |some (.slice e),some d',some x'=>(P.info? e).map λei=> .copy ei.size d' x'
   |_,_,_=>none
 | .value (.func f),l,_=>(l.mapM cop).map (.call f)
 | .value (.tmp g),l,_=>(l.mapM cop).map (.callv (.t g))
 |_,_,_=>none
def bM(P:Program)(o:Oper):Option AI:=
 match o.op with
 | .move x| .assign x=>(cop x).map .mov
 | .nilCheck x=>(cop x).map .nilck
 | .pick c x y=>match cop c,cop x,cop y with
   |some c',some x',some y'=>some (.pick c' x' y')
   |_,_,_=>none
 | .unOp .not _ x=>(cop x).map .not
 | .unOp .neg _ x=>(cop x).map .neg
 | .binOp op t x y _=>kV P op t x y
 | .convert s d x=>match P.underlying s,P.underlying d with
   |some (.int _),some (.int k)=>(cop x).map (.conv k)
   |some (.slice e),some .string=>match P.underlying e with
    |some (.int .u8)=>(cop x).map .btos
    |_=>none
   |_,_=>none
 | .makeMap _ none=>some .mkm
 | .lookup t m k comma=>match P.underlying t,cop m,cop k with
   |some (.map kt et),some m',some k'=>match(P.underlying kt).bind je,Bx P et with
    |some kd,some z=>some (.lk kd z comma m' k')
    |none,some z=>if nD P kt=true then some (.lk2 z comma m' k') else none
    |_,_=>none
   |_,_,_=>none
 | .mapUpdate t m k x| .insert t m k x=>match P.underlying t,cop m,cop k,cop x with
   |some (.map kt _),some m',some k',some x'=>match(P.underlying kt).bind je with
    |some kd=>some (.mup kd m' k' x')
    |none=>if nD P kt=true then some (.mup2 m' k' x') else none
   |_,_,_,_=>none
 | .field t x f=>match P.underlying t with
   |some (.struct fs)=>match fs[f]? with
    |some fl=>match su P fl.type,cop x with
     |some r,some x'=>some (.fldv fl.offset r x')
     |_,_=>none
    |none=>none
   |_=>none
 | .extract x i=>(cop x).map (.ext i)
 | .fieldAddr s x f=>match P.underlying s with
   |some (.struct fs)=>match fs[f]? with
    |some fl=>match P.info? fl.type,cop x with
     |some i,some x'=>if i.size≠0 then some (.fldA fl.offset x') else none
     |_,_=>none
    |none=>none
   |_=>none
 | .indexAddr t x i=>match P.underlying t,cop x,cop i with
   |some (.slice e),some x',some i'=>(P.info? e).map λei=> .idxS ei.size x' i'
   |_,_,_=>none
 | .load t x=>match su P t,cop x with
   |some r,some x'=>some (.ld r x')
   |_,_=>none
 | .store t x y=>match P.info? t,cop x,cop y with
   |some i,some x',some y'=>some (.st i.size x' y')
   |_,_,_=>none
 | .box t x=>match P.info? t,cop x with
   |some i,some x'=>some (.box i.size x')
   |_,_=>none
 | .alloc t=>(fI P t).map .alloc
 | .build t parts=>match P.underlying t,fI P t with
   |some (.struct fs),some z=>match fs.toList.mapM (λf=>(P.info? f.type).map λi=>(f.offset,i.size)) with
    |some pl=>(vM (λi=>pl[i]?) parts.toList).map (.bld z)
    |none=>none
   |some (.array _ e),some z=>match P.info? e with
    |some ei=>(vM (λi=>some (i*ei.size,ei.size)) parts.toList).map (.bld z)
    |none=>none
   |_,_=>none
 | .buildSlice t len parts=>match P.underlying t with
   |some (.slice e)=>match P.info? e,fI P e with
    |some ei,some z=>if len*ei.size<=2^24/\0<ei.size then(vM (λi=>some (i*ei.size,ei.size)) parts.toList).map (.bsl ei.size z len) else none
    |_,_=>none
   |_=>none
 | .makeSlice t l c=>match P.underlying t with
   |some (.slice e)=>match P.info? e,fI P e,cop l,cop c with
    |some ei,some z,some l',some c'=>if 0<ei.size then some (.mks ei.size ei.bytes z l' c') else none
    |_,_,_,_=>none
   |_=>none
 | .slice t x lo hi none=>match cop x,FR lo,FR hi with
   |some x',some lo',some hi'=>match P.underlying t with
    |some (.slice e)=>(P.info? e).map λei=> .slS ei.size x' lo' hi'
    |_=>none
   |_,_,_=>none
 | .makeFunc fn first caps=>if first.size=0 then(caps.toList.mapM cop).map (.mkf fn) else none
 | .call c=>il P c
 |_=>none
def rW(P:Program)(o:Oper):AI:=
 match o.op with
 | .index t x i=>match P.underlying t,cop x,cop i with
   |some (.array m e),some x',some i'=>match su P e,P.info? e with
    |some r,some ei=> .idxV m ei.size r x' i'
    |_,_=> .bad
   |_,_,_=> .bad
 | .binOp .eql t x (.const (.slice none 0 0)) _=>match P.underlying t,cop x with
   |some (.slice _),some x'=> .snil false x'
   |_,_=> .bad
 | .binOp .neq t x (.const (.slice none 0 0)) _=>match P.underlying t,cop x with
   |some (.slice _),some x'=> .snil true x'
   |_,_=> .bad
 |_=> .bad
def AI.isX:AI->Bool
 | .bad| .idxV .. | .snil .. =>true
 |_=>false
theorem mt(P:Program)(o:Oper):(rW P o).isX=true:=by
 unfold rW
 repeat' split
 all_goals rfl
def comp(P:Program)(o:Oper):AI:=
 match bM P o with
 |some ai=>ai
 |none=>rW P o
theorem QS{α:Type}{a:Array α}{x:α}(h:a.toList=[x]):a=#[x]:=by cases a;simp at h;rw[h]
theorem Lh{α:Type}{a:Array α}{x y:α}(h:a.toList=[x,y]):a=#[x,y]:=by cases a;simp at h;rw[h]
def AI.plain:AI->Bool
 | .call .. | .callv .. | .qcall .. | .qcallv .. | .bslP .. | .pcall .. | .chk .. | .bad| .idxV .. | .snil .. =>false
 |_=>true
theorem Jk{ai:AI}{op:BinOp}{t u:TypeId}{x y:Operand}(ho:o.op= .binOp op t x y u)(hc:kV P op t x y=some ai)(he:ev G ts h ai=some (av,h')):Yld P G o ts h av h':=by
 have nilT:∀{kd:Nat} {z:Operand},EV P t z=some kd->∃nl e,z= .const nl/\((kd=0/\P.underlying t=some (.pointer e)/\nl= .pointer none)\/(∃ps rs v,kd=1/\P.underlying t=some (.func ps rs v)/\nl= .nilFunc)):=λ{kd z} hz=>by
  unfold EV at hz;split at hz<;>first|(cases hz;done)|skip
  ·split at hz<;>first|(cases hz;done)|skip
   rename_i e ht;cases hz;exact⟨_,e,rfl,.inl ⟨rfl,ht,rfl⟩⟩
  ·split at hz<;>first|(cases hz;done)|skip
   rename_i ps rs v ht;cases hz;exact⟨_,0,rfl,.inr ⟨ps,rs,v,rfl,ht,rfl⟩⟩
 unfold kV at hc;split at hc
 ·rename_i kd q hz;obtain⟨nl,e,rfl,hk⟩:=nilT hz;rw[Wf] at hc;obtain⟨x',hx,rfl⟩:=hc;exact tR (ne:=false) (e:=e) ho (.inl ⟨rfl,rfl⟩) hk hx he
 ·rename_i kd q hz;obtain⟨nl,e,rfl,hk⟩:=nilT hz;rw[Wf] at hc;obtain⟨x',hx,rfl⟩:=hc;exact tR (ne:=true) (e:=e) ho (.inl ⟨rfl,rfl⟩) hk hx he
 ·rename_i kd q hz;obtain⟨nl,e,rfl,hk⟩:=nilT hz;rw[Wf] at hc;obtain⟨x',hx,rfl⟩:=hc;exact tR (ne:=false) (e:=e) ho (.inr ⟨rfl,rfl⟩) hk hx he
 ·rename_i kd q hz;obtain⟨nl,e,rfl,hk⟩:=nilT hz;rw[Wf] at hc;obtain⟨x',hx,rfl⟩:=hc;exact tR (ne:=true) (e:=e) ho (.inr ⟨rfl,rfl⟩) hk hx he
 ·split at hc<;>first|(cases hc;done)|skip
  ·rename_i k x' y' ht hx hy;cases hc;exact PS ho hx hy he
  ·rename_i x' y' ht hx hy;cases hc;exact NL ho hx hy he
  ·rename_i x' y' ht hx hy;split at hc<;>first|(cases hc;done)|skip
   ·cases hc;exact Kb (ne:=false) ho ht hx hy he
   ·cases hc;exact Kb (ne:=true) ho ht hx hy he
theorem GF{ai:AI}{c:Call}(ho:o.op= .call c)(hc:il P c=some ai)(hp:ai.plain=true)(he:ev G ts h ai=some (av,h')):Yld P G o ts h av h':=by
 unfold il at hc;split at hc<;>first|(cases hc;done)|skip
 ·rename_i x t h1 h2 h3;split at hc<;>first|(cases hc;done)|skip
  ·rename_i ht;rw[Wf] at hc;obtain⟨x',hx,rfl⟩:=hc;exact Ky (b:=true) (e:=0) ho h1 (QS h2) (QS h3) ht hx he
  ·rename_i e ht;rw[Wf] at hc;obtain⟨x',hx,rfl⟩:=hc;exact Ky (b:=false) (e:=e) ho h1 (QS h2) (QS h3) ht hx he
 ·rename_i x y _ h1 h2;split at hc<;>first|(cases hc;done)|skip
  rename_i hx hy;cases hc;exact RZ ho h1 (Lh h2) hx hy he
 ·rename_i x y _ h1 h2;split at hc<;>first|(cases hc;done)|skip
  rename_i hx hy;cases hc;exact RP ho h1 (Lh h2) hx hy he
 ·rename_i s x t u h1 h2 h3;split at hc<;>first|(cases hc;done)|skip
  rename_i e s' x' ht hs hx;split at hc<;>first|(cases hc;done)|skip
  rename_i ei z hei hz;split at hc
  ·rename_i htu;cases hc;subst htu;exact Py ho h1 (Lh h2) (Lh h3) ht hei hz hs hx he
  ·cases hc
 ·rename_i d x t u h1 h2 h3;split at hc<;>first|(cases hc;done)|skip
  rename_i e d' x' ht hd hx;rw[Wf] at hc;obtain⟨ei,hei,rfl⟩:=hc;exact Pk ho h1 (Lh h2) (Lh h3) ht hei hd hx he
 ·rw[Wf] at hc;obtain⟨x',hx,rfl⟩:=hc;simp[AI.plain] at hp
 ·rw[Wf] at hc;obtain⟨x',hx,rfl⟩:=hc;simp[AI.plain] at hp
theorem QU{ai:AI}(hc:bM P o=some ai)(hp:ai.plain=true)(he:ev G ts h ai=some (av,h')):Yld P G o ts h av h':=by
 unfold bM at hc;split at hc<;>first|(cases hc;done)|skip
 ·rename_i x ho;rw[Wf] at hc;obtain⟨x',hx,rfl⟩:=hc;exact KD (.inl ho) hx he
 ·rename_i x ho;rw[Wf] at hc;obtain⟨x',hx,rfl⟩:=hc;exact KD (.inr ho) hx he
 ·rename_i x ho;rw[Wf] at hc;obtain⟨x',hx,rfl⟩:=hc;exact Mv ho hx he
 ·rename_i c x y ho;split at hc<;>first|(cases hc;done)|skip
  rename_i hc' hx hy;cases hc;exact NY ho hc' hx hy he
 ·rename_i x ho;rw[Wf] at hc;obtain⟨x',hx,rfl⟩:=hc;exact QY ho hx he
 ·rename_i x ho;rw[Wf] at hc;obtain⟨x',hx,rfl⟩:=hc;exact PP ho hx he
 ·rename_i op t x y _ ho;exact Jk ho hc he
 ·rename_i s d x ho;split at hc<;>first|(cases hc;done)|skip
  ·rename_i hs hd;rw[Wf] at hc;obtain⟨x',hx,rfl⟩:=hc;exact Nl ho hs hd hx he
  ·rename_i e hs hd;split at hc<;>first|(cases hc;done)|skip
   rename_i he8;rw[Wf] at hc;obtain⟨x',hx,rfl⟩:=hc;exact Nm ho hs he8 hd hx he
 ·rename_i t ho;cases hc;exact PH ho he
 ·rename_i t m k comma ho;split at hc<;>first|(cases hc;done)|skip
  rename_i kt et m' k' ht hm hk;split at hc<;>first|(cases hc;done)|skip
  ·rename_i kd z hkd hz;cases hc;obtain⟨kind,hkt,hkd⟩:=XG.1 hkd;exact RH ho ht hkt hkd hz hm hk he
  ·rename_i z _ hz;split at hc<;>first|(cases hc;done)|skip
   cases hc;have hp:nD P kt=true:=(by assumption);obtain⟨e,ei,h1,h2,h3,h4⟩:=pP hp;exact Qa ho ht h1 h2 h3 h4 hz hm hk he
 ·rename_i t m k x ho;split at hc<;>first|(cases hc;done)|skip
  rename_i kt et m' k' x' ht hm hk hx;split at hc<;>first|(cases hc;done)|skip
  ·rename_i kd hkd;cases hc;obtain⟨kind,hkt,hkd⟩:=XG.1 hkd;exact Kz (.inl ho) ht hkt hkd hm hk hx he
  ·split at hc<;>first|(cases hc;done)|skip
   cases hc;have hp:nD P kt=true:=(by assumption);obtain⟨e,ei,h1,h2,h3,h4⟩:=pP hp;exact FT (.inl ho) ht h1 h2 h3 h4 hm hk hx he
 ·rename_i t m k x ho;split at hc<;>first|(cases hc;done)|skip
  rename_i kt et m' k' x' ht hm hk hx;split at hc<;>first|(cases hc;done)|skip
  ·rename_i kd hkd;cases hc;obtain⟨kind,hkt,hkd⟩:=XG.1 hkd;exact Kz (.inr ho) ht hkt hkd hm hk hx he
  ·split at hc<;>first|(cases hc;done)|skip
   cases hc;have hp:nD P kt=true:=(by assumption);obtain⟨e,ei,h1,h2,h3,h4⟩:=pP hp;exact FT (.inr ho) ht h1 h2 h3 h4 hm hk hx he
 ·rename_i t x f ho;split at hc<;>first|(cases hc;done)|skip
  rename_i fs ht;split at hc<;>first|(cases hc;done)|skip
  rename_i fl hf;split at hc<;>first|(cases hc;done)|skip
  rename_i hr hx;cases hc;exact Ni ho ht hf hr hx he
 ·rename_i x i ho;rw[Wf] at hc;obtain⟨x',hx,rfl⟩:=hc;exact QX ho hx he
 ·rename_i s x f ho;split at hc<;>first|(cases hc;done)|skip
  rename_i fs ht;split at hc<;>first|(cases hc;done)|skip
  rename_i fl hf;split at hc<;>first|(cases hc;done)|skip
  rename_i hi hx;split at hc<;>first|(cases hc;done)|skip
  rename_i hz;cases hc;exact MX ho ht hf hi hz hx he
 ·rename_i t x i ho;split at hc<;>first|(cases hc;done)|skip
  rename_i ht hx hi;rw[Wf] at hc;obtain⟨ei,hei,rfl⟩:=hc;exact Om ho ht hei hx hi he
 ·rename_i t x ho;split at hc<;>first|(cases hc;done)|skip
  rename_i hr hx;cases hc;exact Sf ho hr hx he
 ·rename_i t x y ho;split at hc<;>first|(cases hc;done)|skip
  rename_i hi hx hy;cases hc;exact RG ho hi hx hy he
 ·rename_i t x ho;split at hc<;>first|(cases hc;done)|skip
  rename_i hi hx;cases hc;exact PM ho hx he
 ·rename_i t ho;rw[Wf] at hc;obtain⟨z,hz,rfl⟩:=hc;exact Lk ho hz he
 ·rename_i t parts ho;split at hc<;>first|(cases hc;done)|skip
  ·rename_i fs z ht hz;split at hc<;>first|(cases hc;done)|skip
   rename_i pl hpl;rw[Wf] at hc;obtain⟨ps,hps,rfl⟩:=hc;exact Pm (places:=pl.toArray) ho ht hz (by simpa using hpl) (by simpa using mB hps) he
  ·rename_i e z ht hz;split at hc<;>first|(cases hc;done)|skip
   rename_i ei hei;rw[Wf] at hc;obtain⟨ps,hps,rfl⟩:=hc;exact OB ho ht hz hei (mB hps) he
 ·rename_i t len parts ho;split at hc<;>first|(cases hc;done)|skip
  rename_i e ht;split at hc<;>first|(cases hc;done)|skip
  rename_i ei z hei hz;split at hc<;>first|(cases hc;done)|skip
  rename_i hb;rw[Wf] at hc;obtain⟨ps,hps,rfl⟩:=hc;exact Qj ho ht hz hei hb.1 hb.2 (mB hps) he
 ·rename_i t l c ho;split at hc<;>first|(cases hc;done)|skip
  rename_i e ht;split at hc<;>first|(cases hc;done)|skip
  rename_i ei z l' c' hei hz hl hc';split at hc<;>first|(cases hc;done)|skip
  rename_i hb;cases hc;exact Qn ho ht hz hei hb hl hc' he
 ·rename_i t x lo hi ho;split at hc<;>first|(cases hc;done)|skip
  rename_i x' lo' hi' hx hlo hhi;split at hc<;>first|(cases hc;done)|skip
  rename_i e ht;rw[Wf] at hc;obtain⟨ei,hei,rfl⟩:=hc;exact Qo ho ht hei hx hlo hhi he
 ·rename_i fn first caps ho
  split at hc<;>first|(cases hc;done)|skip
  rename_i hf;have:first=#[]:=Array.eq_empty_of_size_eq_zero hf
  subst this;rw[Wf] at hc;obtain⟨cs,hcs,rfl⟩:=hc;exact QN ho hcs he
 ·rename_i c ho;exact GF ho hc hp he
theorem MN{esz:Nat}{z:List AV}{len:Nat}{ps:List (Nat × Nat × AOp)}(hc:bM P o=some (.bsl esz z len ps))(he:ev G ts h (.bslP esz z len ps)=some (av,h')):Yld P G o ts h av h':=by
 unfold bM at hc;split at hc<;>first|(simp at hc;done)|skip
 all_goals first
  |(rw[Wf] at hc;obtain⟨_,_,hc⟩:=hc;cases hc;done)
  |(rename_i t len' parts ho
    split at hc<;>first|(cases hc;done)|skip
    rename_i e ht;split at hc<;>first|(cases hc;done)|skip
    rename_i ei z' hei hz;split at hc<;>first|(cases hc;done)|skip
    rename_i hb;rw[Wf] at hc;obtain⟨ps',hps,hc⟩:=hc;cases hc;exact Pc ho ht hz hei hb.1 hb.2 (mB hps) he)
  |(unfold kV at hc;repeat' split at hc
    all_goals first
     |(cases hc;done)
     |(rw[Wf] at hc;obtain⟨_,_,hc⟩:=hc;cases hc;done))
  |(unfold il at hc
    repeat' split at hc
    all_goals first
     |(cases hc;done)
     |(rw[Wf] at hc;obtain⟨_,h1,hc⟩:=hc;cases hc;done))
  |(repeat' split at hc
    all_goals first
     |(cases hc;done)
     |(rw[Wf] at hc;obtain⟨_,_,hc⟩:=hc;cases hc;done))
theorem Mt{z:List AV}(hc:bM P o=some (.alloc z))(W:World)(S:Nat->Prop)(φ:Place)(n:Nat)(a:Act):
 z.all AV.isCell=true/\∃zc t,(execOp a.eval o).run P W= .ok (.value (.pointer (some ⟨W.heap.size,0,none⟩))) (W.alloc (.cells zc t))/\Ptw W S φ n z zc.toList:=by
 unfold bM at hc;split at hc<;>first|(simp at hc;done)|skip
 all_goals first
  |(rw[Wf] at hc;obtain⟨_,_,hc⟩:=hc;cases hc;done)
  |(rename_i t ho
    rw[Wf] at hc;obtain⟨z',hz,hc⟩:=hc;cases hc;obtain⟨zv,r1,r2,r3,_,hcell⟩:=dE hz W S φ n;exact⟨hcell,zv.cells,t,by simp[execOp,ho,Instr.alloc,newVar,newRow,r1],r2⟩)
  |(unfold kV at hc;repeat' split at hc
    all_goals first
     |(cases hc;done)
     |(rw[Wf] at hc;obtain⟨_,_,hc⟩:=hc;cases hc;done))
  |(unfold il at hc
    repeat' split at hc
    all_goals first
     |(cases hc;done)
     |(rw[Wf] at hc;obtain⟨_,h1,hc⟩:=hc;cases hc;done))
  |(repeat' split at hc
    all_goals first
     |(cases hc;done)
     |(rw[Wf] at hc;obtain⟨_,_,hc⟩:=hc;cases hc;done))
theorem Hx{m esz:Nat}{r:Option Nat}{x i:AOp}(hc:rW P o= .idxV m esz r x i)(he:ev G ts h (.idxV m esz r x i)=some (av,h')):Yld P G o ts h av h':=by
 unfold rW at hc;split at hc
 ·rename_i t x0 i0 ho;split at hc<;>first|(cases hc;done)|skip
  rename_i ht hx hi;split at hc<;>first|(cases hc;done)|skip
  rename_i hr hei;cases hc;exact Pd ho ht hei hr hx hi he
 ·split at hc<;>cases hc
 ·split at hc<;>cases hc
 ·cases hc
theorem Jf{ne:Bool}{x:AOp}(hc:rW P o= .snil ne x):∃t u e z,o.op= .binOp (if ne then .neq else .eql) t z (.const (.slice none 0 0)) u/\P.underlying t=some (.slice e)/\cop z=some x:=by
 unfold rW at hc;split at hc
 ·split at hc<;>first|(cases hc;done)|skip
  split at hc<;>cases hc
 ·rename_i t z u ho;split at hc<;>first|(cases hc;done)|skip
  rename_i ht hx;cases hc;exact⟨t,u,_,z,ho,ht,hx⟩
 ·rename_i t z u ho;split at hc<;>first|(cases hc;done)|skip
  rename_i ht hx;cases hc;exact⟨t,u,_,z,ho,ht,hx⟩
 ·cases hc
end
end Go.Aw
namespace Go.Aw
inductive ARes where
 |ret (v:AV)
 |pan (t:TypeId) (v:PV)
inductive ERel (W:World) (S:Nat->Prop) (φ:Place) (n:Nat):ARes->Ending->Prop where
 |ret (v:AV) (x:Value):VRel W S φ n v x->ERel W S φ n (.ret v) (.returned x)
 |pan (t:TypeId) (v:PV) (x:Value):PRel W S v x->ERel W S φ n (.pan t v) (.panicked [{v:= .iface t x,recovered:=false}])
def rd(W:World)(S:Nat->Prop)(φ:Place)(n:Nat)(args:List AV)(vs:Array Value):Prop:=
 vs.size=args.length/\∀(j:Nat) (c:AV) (v:Value),args[j]?=some c->vs[j]?=some v->VRel W S φ n c v
def dH(P:Program)(f:FuncId):Bool:=
 match P.funcs[f]? with
 |some fn=>fn.body.isSome&& !(fn.name== "runtime.NumGoroutine")
 |none=>false
def AC(P:Program)(G:aw)(f:FuncId)(args:List AV)(h:List AO)(R:ARes->List AO->Prop):Prop:=
 dH P f=true/\∀(W:World) (S:Nat->Prop) (φ:Place) (vs:Array Value),HRel G W S φ h->rd W S φ h.length args vs->
  Calls P f vs W λe W'=>∃r S' φ' h',R r h'/\HRel G W' S' φ' h'/\ERel W' S' φ' h'.length r e/\Keep W S φ h W' S' φ' h'
theorem AC.mono{P:Program}{G:aw}{f:FuncId}{args:List AV}{h:List AO}{R R':ARes->List AO->Prop}(H:AC P G f args h R)(hr:∀r h',R r h'->R' r h'):AC P G f args h R':=
 ⟨H.1,λW S φ vs a b=>(H.2 W S φ vs a b).mono λ_ _ ⟨r,S',φ',h',k,rest⟩=>⟨r,S',φ',h',hr _ _ k,rest⟩⟩
structure CO where
 dst:Option Nat
 guard:Option (Nat × Bool)
 ai:AI
def put(d:Option Nat)(v:AV)(ts:List AV):List AV:=
 match d with
 |some d=>ts.set d v
 |none=>ts
def Cnd(b:Bool)(A B:Prop):Prop:=(b=true->A)/\(b=false->B)
abbrev KT:=List AV->List AO->Prop
abbrev QP:=TypeId->PV->List AO->Prop
def okE(r:Option (AV × List AO))(K:AV->List AO->Prop):Prop:=∃v h',r=some (v,h')/\K v h'
def pR(K:AV->List AO->Prop)(Qp:QP):ARes->List AO->Prop
 | .ret v,h=>K v h
 | .pan t v,h=>Qp t v h
def oK(P:Program)(G:aw)(ai:AI)(ts:List AV)(h:List AO)(K:AV->List AO->Prop)(Qp:QP):Prop:=
 match ai with
 | .call f args=>AC P G f (args.map (·.ev ts)) h (pR K Qp)
 | .callv g args=>match g.ev ts with
   | .fn (.func f) caps=>AC P G f (args.map (·.ev ts)++caps) h (pR K Qp)
   |_=>False
 | .qcall f args=>∃v,AC P G f (args.map (·.ev ts)) h (λr h'=>r= .ret v/\h'=h)/\K v h
 | .qcallv g args=>match g.ev ts with
   | .fn (.func f) caps=>∃v,AC P G f (args.map (·.ev ts)++caps) h (λr h'=>r= .ret v/\h'=h)/\K v h
   |_=>False
 | .pcall f args=>∃v,(∀h,AC P G f (args.map (·.ev ts)) h (λr h'=>r= .ret v/\h'=h))/\K v h
 | .chk sz n d=>ev G ts h (.ld sz (.t n))=some (ts.getD d .any,h)/\K .any h
 | .bad=>False
 | .snil ne x=>match x.ev ts with
   | .nils=>K (.p (.bool (!ne))) h
   | .p (.lst _ [])=>K (.p (.bool true)) h/\K (.p (.bool false)) h
   | .p (.lst _ (_::_))=>K (.p (.bool ne)) h
   | .sl _ _ _ len=>0<len/\K (.p (.bool ne)) h
   |_=>False
 |ai=>okE (ev G ts h ai) K
def gK(c:CO)(ts:List AV)(A B:Prop):Prop:=
 match c.guard with
 |none=>A
 |some (j,w)=>match ts.getD j .any with
  | .p (.bool b)=>Cnd (if w then b else !b) A B
  | .tup []=>B
  |_=>False
def sK(P:Program)(G:aw)(c:CO)(ts:List AV)(h:List AO)(K:KT)(Qp:QP):Prop:=
 gK c ts (oK P G c.ai ts h (λv h'=>K (put c.dst v ts) h') Qp) (K (put c.dst (.tup []) ts) h)
def rK(P:Program)(G:aw):List CO->List AV->List AO->KT->QP->Prop
 |[],ts,h,K,_=>K ts h
 |c::r,ts,h,K,Qp=>sK P G c ts h (λts' h'=>rK P G r ts' h' K Qp) Qp
structure St (G:aw) (W0:World) (S0:Nat->Prop) (φ0:Place) (h0:List AO) (W:World) (S:Nat->Prop) (φ:Place) (a:Act) (ts:List AV) (h:List AO):Prop where
 hrel:HRel G W S φ h
 trel:TRel W S φ h.length ts a.tmps
 defers:a.defers=[]
 keep:Keep W0 S0 φ0 h0 W S φ h
inductive AX where
 |normal
 |exit (id:Nat)
 |ret
 |pan (t:TypeId) (v:PV)
inductive XRel (W:World) (S:Nat->Prop):AX->Exit->Prop where
 |normal:XRel W S .normal .normal
 |exit (id:Nat):XRel W S (.exit id) (.exit id)
 |ret:XRel W S .ret .ret
 |pan (t:TypeId) (v:PV) (x:Value):PRel W S v x->XRel W S (.pan t v) (.panic [{v:= .iface t x,recovered:=false}])
def Di(G:aw)(W0:World)(S0:Nat->Prop)(φ0:Place)(h0:List AO)(Q:AX->List AV->List AO->Prop)(e:Exit)(a:Act)(W:World):Prop:=
 ∃x ts h S φ,Q x ts h/\XRel W S x e/\St G W0 S0 φ0 h0 W S φ a ts h
section
variable {P:Program} {G:aw} {W0:World} {S0:Nat->Prop} {φ0:Place} {h0:List AO}
theorem St.put{W:World}{S:Nat->Prop}{φ:Place}{a:Act}{ts:List AV}{h:List AO}(s:St G W0 S0 φ0 h0 W S φ a ts h){W':World}{S':Nat->Prop}{φ':Place}{h':List AO}{v:AV}{x:Value}(d:Option Nat)
 (hv:VRel W' S' φ' h'.length v x)(H:HRel G W' S' φ' h')(K:Keep W S φ h W' S' φ' h'):St G W0 S0 φ0 h0 W' S' φ' (a.put d x) (put d v ts) h' where
 hrel:=H
 trel:=by
  have:=(s.trel.kept K.toKept).put hv d;cases d<;>exact this
 defers:=by cases d<;>exact s.defers
 keep:=s.keep.trans K
def _root_.Go.Aw.AI.isQ:AI->Bool
 | .qcall .. | .qcallv .. | .bslP .. | .pcall .. | .chk .. =>true
 |_=>false
def sU(P:Program)(ops:Array Oper)(o:Oper)(c:CO):Prop:=
 c.dst=o.dst/\(match o.guard,c.guard with
  |none,none=>True
  |some (j,w),some (d,w')=>w=w'/\(ops[j]?).bind (·.dst)=some d
  |_,_=>False)/\
 ((bM P o=some c.ai/\c.ai.isQ=false)\/(∃f l,bM P o=some (.call f l)/\c.ai= .qcall f l)\/(∃f l,bM P o=some (.callv f l)/\c.ai= .qcallv f l)\/
   (∃f l,bM P o=some (.call f l)/\c.ai= .pcall f l)\/(∃e z n l,bM P o=some (.bsl e z n l)/\c.ai= .bslP e z n l)\/rW P o=c.ai)
theorem BD{o:Oper}{ai:AI}(hc:bM P o=some ai)(hx:ai.isX=true):False:=by
 cases ai<;>simp only[AI.isX] at hx<;>first|(cases hx;done)|skip
 all_goals
  unfold bM at hc;split at hc<;>first|(simp at hc;done)|skip
  all_goals first
   |(rw[Wf] at hc;obtain⟨_,_,hc⟩:=hc;cases hc;done)
   |(unfold kV at hc;repeat' split at hc
     all_goals first
      |(cases hc;done)
      |(rw[Wf] at hc;obtain⟨_,_,hc⟩:=hc;cases hc;done))
   |(unfold il at hc
     repeat' split at hc
     all_goals first
      |(cases hc;done)
      |(rw[Wf] at hc;obtain⟨_,h1,hc⟩:=hc;cases hc;done))
   |(repeat' split at hc
     all_goals first
      |(cases hc;done)
      |(rw[Wf] at hc;obtain⟨_,_,hc⟩:=hc;cases hc;done))
theorem oL{o:Oper}{a:Act}{W W':World}{n:Next}{v:Value}{K:Act->World->Prop}{Q:Exit->Act->World->Prop}(hr:(execOp a.eval o).run P W= .ok n W')(hn:NV n v)(h:K (a.put o.dst v) W'):o.wp P a W K Q:=by
 unfold Oper.wp;rw[hr];cases hn
 ·exact h
 ·exact h
theorem La{ops:Array Oper}{o:Oper}{c:CO}(hc:sU P ops o c){W:World}{S:Nat->Prop}{φ:Place}{n:Nat}{a:Act}{ts:List AV}(T:TRel W S φ n ts a.tmps){A B:Prop}(hg:gK c ts A B):
 (Region.wanted o (yielded ops a.tmps)=true/\A)\/(Region.wanted o (yielded ops a.tmps)=false/\B):=by
 obtain⟨_,h2,_⟩:=hc;unfold gK at hg;unfold Region.wanted;cases hog:o.guard with
 |none=>
  rw[hog] at h2;cases hcg:c.guard with
  |none=>rw[hcg] at hg;exact .inl ⟨rfl,hg⟩
  |some q=>rw[hcg] at h2;exact h2.elim
 |some q=>
  obtain⟨j,w⟩:=q;rw[hog] at h2;cases hcg:c.guard with
  |none=>rw[hcg] at h2;exact h2.elim
  |some q'=>
   obtain⟨d,w'⟩:=q';rw[hcg] at h2 hg;obtain⟨rfl,hd⟩:=h2;simp only at hg;split at hg
   ·rename_i b hb
    have hy:yielded ops a.tmps j=some b:=by
     unfold yielded;rw[hd];simp only[YC]
     have hl:d<ts.length:=by
      rcases Xh d ts.length with h'|h'
      ·exact h'
      ·rw[Wv,WS h'] at hb;cases hb
     have hts:ts[d]?=some (.p (.bool b)):=by
      rw[Wv,Wc hl] at hb;rw[Wc hl];exact congrArg some hb
     have:=jK (T.get d _ hts);have hl2:d<a.tmps.size:=(by rw[T.size];exact hl);rw[Xg,WW hl2] at this;rw[WW hl2];simp only[Yb] at this;rw[this]
    simp only[hy];cases w<;>cases b<;>simp[Cnd] at hg⊢ <;>exact hg
   ·rename_i hb
    have hy:yielded ops a.tmps j=none:=by
     unfold yielded;rw[hd];simp only[YC]
     have hl:d<ts.length:=by
      rcases Xh d ts.length with h'|h'
      ·exact h'
      ·rw[Wv,WS h'] at hb;cases hb
     have hts:ts[d]?=some (.tup []):=by
      rw[Wv,Wc hl] at hb;rw[Wc hl];exact congrArg some hb
     have hv:=T.get d _ hts;have hl2:d<a.tmps.size:=(by rw[T.size];exact hl);rw[Xg,WW hl2] at hv;rw[WW hl2];simp only[Yb] at hv;generalize a.tmps[d]=x at hv⊢;cases hv;rfl
    simp only[hy];exact .inr ⟨rfl,hg⟩
   ·exact hg.elim
theorem Bn{ops:Array Oper}{o:Oper}{c:CO}(hc:sU P ops o c){W:World}{S:Nat->Prop}{φ:Place}{a:Act}{ts:List AV}{h:List AO}(s:St G W0 S0 φ0 h0 W S φ a ts h){K:KT}{Qp:QP}
 (hk:sK P G c ts h K Qp){K':Act->World->Prop}{Q':Exit->Act->World->Prop}(hK:∀a' W' S' φ' ts' h',(∃x,a'=a.put o.dst x)->St G W0 S0 φ0 h0 W' S' φ' a' ts' h'->K ts' h'->K' a' W')
 (hQ:∀W' S' φ' h' t v x,PRel W' S' v x->St G W0 S0 φ0 h0 W' S' φ' a ts h'->Qp t v h'->Q' (.panic [{v:= .iface t x,recovered:=false}]) a W'):
 (Region.wanted o (yielded ops a.tmps)=true/\o.wp P a W K' Q')\/(Region.wanted o (yielded ops a.tmps)=false/\K' (a.put o.dst undef) W):=by
 have hd:=hc.1;rcases La hc s.trel hk with⟨hw,hA⟩|⟨hw,hB⟩
 ·refine .inl ⟨hw,?_⟩;obtain⟨_,_,hcomp⟩:=hc
  have plainS:bM P o=some c.ai->c.ai.plain=true->okE (ev G ts h c.ai) (λv h'=>K (put c.dst v ts) h')->o.wp P a W K' Q':=λh1 h2 ⟨v,h',h3,h4⟩=>by
   obtain⟨n,x,W',S',φ',r1,r2,r3,r4,r5⟩:=QU h1 h2 h3 W S φ a s.hrel s.trel;exact oL r1 r2 (hK _ _ _ _ _ _ ⟨_,rfl⟩ (by rw[←hd];exact s.put c.dst r3 r4 r5) h4)
  have callS:∀(f:FuncId) (args:List AV) (vs:Array Value) (R:ARes->List AO->Prop),(dH P f=true->(execOp a.eval o).run P W= .ok (.enter f vs) W)->rd W S φ h.length args vs->AC P G f args h R->
   (∀r h',R r h'->pR (λv h'=>K (put c.dst v ts) h') Qp r h')->o.wp P a W K' Q':=λf args vs R e1 e2 e3 e4=>by
   unfold Oper.wp;rw[e1 e3.1,Oper.upon_enter];refine(e3.2 W S φ vs s.hrel e2).mono λe W' ⟨r,S',φ',h',k1,k2,k3,k4⟩=>?_;have:=e4 r h' k1;cases k3 with
   |ret v x hv=>exact hK _ _ _ _ _ _ ⟨_,rfl⟩ (by rw[←hd];exact s.put c.dst hv k2 k4) this
   |pan t v x hp=>exact hQ W' S' φ' h' t v x hp ⟨k2,s.trel.kept k4.toKept,s.defers,s.keep.trans k4⟩ this
  have exact_R:∀(v:AV) (r:ARes) (h':List AO),K (put c.dst v ts) h->(r= .ret v/\h'=h)->pR (λv h'=>K (put c.dst v ts) h') Qp r h':=λv r h' k e=>by obtain⟨rfl,rfl⟩:=e;exact k
  have beg:∀(cl:Call),o.op= .call cl->∀(f:FuncId) (caps:Array Value) (fo:Operand),cl.callee= .value fo->a.eval fo= .func (.func f) #[] caps->dH P f=true->(execOp a.eval o).run P W= .ok (.enter f (cl.args.map a.eval++caps)) W:=λcl h1 f caps fo h2 h3 h4=>by
   unfold dH at h4;split at h4<;>first|(cases h4;done)|skip
   rename_i fn hf;simp only[Wr,Yx] at h4;obtain⟨bd,hbd⟩:=YT.1 h4.1;have hnm:¬(fn.name= "runtime.NumGoroutine"):=(by simpa using h4.2);simp[execOp,h1,resolve,h2,h3,Deferred.ofValue,invoke,callFunc,hf,hnm,hbd]
  have argsR:∀(l:List Operand) (l':List AOp),l.mapM cop=some l'->rd W S φ h.length (l'.map (·.ev ts)) (l.map a.eval).toArray:=by
   intro l
   induction l with
   |nil=>intro l' e;simp at e;subst e;exact⟨rfl,λj c v h=>by simp at h⟩
   |cons y r ih=>
    intro l' e;simp only[Zd] at e;cases hy:cop y with
    |none=>rw[hy] at e;cases e
    |some y'=>
     cases hr:r.mapM cop with
     |none=>rw[hy,hr] at e;cases e
     |some r'=>
      rw[hy,hr] at e;cases e;obtain⟨i1,i2⟩:=ih r' hr;refine⟨by simpa using i1,λj c v h1 h2=>?_⟩;cases j with
      |zero=>simp at h1 h2;subst h1;subst h2;exact ay hy s.trel
      |succ j=>simp at h1 h2;exact i2 j c v (by simpa using h1) (by simpa using h2)
  have argsC:∀(l:List AV) (vs:Array Value) (caps:List AV) (cs:Array Value),rd W S φ h.length l vs->cs.size=caps.length->(∀(j:Nat) (c:AV) (v:Value),caps[j]?=some c->cs[j]?=some v->VRel W S φ h.length c v)->rd W S φ h.length (l++caps) (vs++cs):=λl vs caps cs h1 h2 h3=>by
   refine⟨by simp[h1.1,h2],λj c v k1 k2=>?_⟩;rw[XI] at k1;rw[Array.getElem?_append,h1.1] at k2;split at k1
   ·rename_i hj;rw[Wz hj] at k2;exact h1.2 _ _ _ k1 k2
   ·rename_i hj;rw[WB hj] at k2;exact h3 _ _ _ k1 k2
  have compCallF:∀f l,bM P o=some (.call f l)->∃cl,o.op= .call cl/\cl.callee= .value (.func f)/\cl.args.toList.mapM cop=some l:=λf l hcc=>by
   unfold bM at hcc;split at hcc<;>first|(simp at hcc;done)|skip
   all_goals first
    |(rw[Wf] at hcc;obtain⟨_,_,hcc⟩:=hcc;cases hcc;done)
    |(rename_i cl ho
      unfold il at hcc
      repeat' split at hcc
      all_goals first
       |(cases hcc;done)
       |(rw[Wf] at hcc;obtain⟨_,h1,hcc⟩:=hcc;cases hcc;done)
       |(rw[Wf] at hcc;obtain⟨_,h1,hcc⟩:=hcc;cases hcc;exact⟨cl,ho,by assumption,h1⟩))
    |(unfold kV at hcc;repeat' split at hcc
      all_goals first
       |(cases hcc;done)
       |(rw[Wf] at hcc;obtain⟨_,_,hcc⟩:=hcc;cases hcc;done))
    |(repeat' split at hcc
      all_goals first
       |(cases hcc;done)
       |(rw[Wf] at hcc;obtain⟨_,_,hcc⟩:=hcc;cases hcc;done))
  have compCallV:∀g l,bM P o=some (.callv g l)->∃cl t,o.op= .call cl/\cl.callee= .value (.tmp t)/\g= .t t/\cl.args.toList.mapM cop=some l:=λg l hcc=>by
   unfold bM at hcc;split at hcc<;>first|(simp at hcc;done)|skip
   all_goals first
    |(rw[Wf] at hcc;obtain⟨_,_,hcc⟩:=hcc;cases hcc;done)
    |(rename_i cl ho
      unfold il at hcc
      repeat' split at hcc
      all_goals first
       |(cases hcc;done)
       |(rw[Wf] at hcc;obtain⟨_,h1,hcc⟩:=hcc;cases hcc;done)
       |(rw[Wf] at hcc;obtain⟨_,h1,hcc⟩:=hcc;cases hcc;exact⟨cl,_,ho,by assumption,rfl,h1⟩))
    |(unfold kV at hcc;repeat' split at hcc
      all_goals first
       |(cases hcc;done)
       |(rw[Wf] at hcc;obtain⟨_,_,hcc⟩:=hcc;cases hcc;done))
    |(repeat' split at hcc
      all_goals first
       |(cases hcc;done)
       |(rw[Wf] at hcc;obtain⟨_,_,hcc⟩:=hcc;cases hcc;done))
  have mapA:∀(cl:Call),(cl.args.toList.map a.eval).toArray=cl.args.map a.eval:=λcl=>by apply Array.ext';simp
  have doF:∀f l,bM P o=some (.call f l)->∀R,AC P G f (l.map (·.ev ts)) h R->(∀r h',R r h'->pR (λv h'=>K (put c.dst v ts) h') Qp r h')->o.wp P a W K' Q':=λf l hcc R h1 h2=>by
   obtain⟨cl,q1,q2,q3⟩:=compCallF f l hcc;have hA:=argsR _ _ q3;rw[mapA] at hA;exact callS f _ _ R (λhcl=>by have:=beg cl q1 f #[] _ q2 rfl hcl;simpa using this) hA h1 h2
  have doV:∀g l,bM P o=some (.callv g l)->∀f caps,g.ev ts= .fn (.func f) caps->∀R,AC P G f (l.map (·.ev ts)++caps) h R->(∀r h',R r h'->pR (λv h'=>K (put c.dst v ts) h') Qp r h')->o.wp P a W K' Q':=λg l hcc f caps hg R h1 h2=>by
   obtain⟨cl,t,q1,q2,rfl,q3⟩:=compCallV g l hcc;have hA:=argsR _ _ q3;rw[mapA] at hA;have hv:=ay (o:= .tmp t) rfl s.trel;rw[hg] at hv;generalize hx:a.eval (.tmp t)=x at hv;cases hv with
   |fn _ _ vs hs hc'=>exact callS f _ _ R (λhcl=>beg cl q1 f vs _ q2 hx hcl) (argsC _ _ _ _ hA hs hc') h1 h2
  rcases hcomp with⟨hcomp,hq⟩|⟨f,l,hcomp,hai⟩|⟨g,l,hcomp,hai⟩|⟨f,l,hcomp,hai⟩|⟨ez,z,n,l,hcomp,hai⟩|hcomp
  ·by_cases hp:c.ai.plain=true
   ·refine plainS hcomp hp ?_;unfold oK at hA;split at hA<;>first|exact hA|(rename_i e;rw[e] at hp;simp[AI.plain] at hp)
   ·unfold oK at hA;split at hA
    ·rename_i f args e;rw[e] at hcomp;exact doF f args hcomp _ hA λ_ _ h=>h
    ·rename_i g args e;rw[e] at hcomp;split at hA
     ·rename_i f caps hg;exact doV g args hcomp f caps hg _ hA λ_ _ h=>h
     ·exact hA.elim
    ·rename_i f args e;rw[e] at hq;cases hq
    ·rename_i g args e;rw[e] at hq;cases hq
    ·rename_i f args e;rw[e] at hq;cases hq
    ·rename_i f args d e;rw[e] at hq;cases hq
    ·exact hA.elim
    ·rename_i ne x e;exact(BD hcomp (by rw[e];rfl)).elim
    ·rename_i n1 n2 n3 n4 n5 n6 n7 n8;exfalso
     cases hai:c.ai<;>rw[hai] at hp<;>first
      |(exact hp rfl)
      |(exact n1 _ _ hai)
      |(exact n2 _ _ hai)
      |(exact n3 _ _ hai)
      |(exact n4 _ _ hai)
      |(exact n5 _ _ hai)
      |(exact n6 _ _ _ hai)
      |(exact n7 hai)
      |(exact n8 _ _ hai)
      |(exact BD hcomp (by rw[hai];rfl))
      |(rw[hai] at hq;cases hq)
  ·rw[hai] at hA;obtain⟨v,h1,h2⟩:=hA;exact doF f l hcomp _ h1 λr h' e=>exact_R v r h' h2 e
  ·rw[hai] at hA;simp only[oK] at hA;split at hA
   ·rename_i f caps hg;obtain⟨v,h1,h2⟩:=hA;exact doV g l hcomp f caps hg _ h1 λr h' e=>exact_R v r h' h2 e
   ·exact hA.elim
  ·rw[hai] at hA;obtain⟨v,h1,h2⟩:=hA;exact doF f l hcomp _ (h1 h) λr h' e=>exact_R v r h' h2 e
  ·rw[hai] at hA;obtain⟨v,h',h3,h4⟩:=hA;obtain⟨n,x,W',S',φ',r1,r2,r3,r4,r5⟩:=MN hcomp h3 W S φ a s.hrel s.trel;exact oL r1 r2 (hK _ _ _ _ _ _ ⟨_,rfl⟩ (by rw[←hd];exact s.put c.dst r3 r4 r5) h4)
  ·
   have hx:=mt P o;rw[hcomp] at hx;cases hai:c.ai<;>rw[hai] at hx<;>first|(cases hx;done)|skip
   ·rw[hai] at hA;exact hA.elim
   ·rename_i m esz r x i;rw[hai] at hA hcomp;obtain⟨v,h',h3,h4⟩:=hA;obtain⟨n,x,W',S',φ',r1,r2,r3,r4,r5⟩:=Hx hcomp h3 W S φ a s.hrel s.trel;exact oL r1 r2 (hK _ _ _ _ _ _ ⟨_,rfl⟩ (by rw[←hd];exact s.put c.dst r3 r4 r5) h4)
   ·rename_i ne x;rw[hai] at hA hcomp;obtain⟨t,u,e,z,q1,q2,q3⟩:=Jf hcomp;have hv:=ay q3 s.trel
    have fin:∀(bo:Option Addr) (l cp:Nat) (b:Bool),a.eval z= .slice bo l cp->(if ne then !bo.isNone else bo.isNone)=b->K (put c.dst (.p (.bool b)) ts) h->o.wp P a W K' Q':=λbo l cp b e1 e2 e3=>by
     have r1:=MT (ne:=ne) q1 (.inl ⟨rfl,rfl⟩) q2 e1 W;rw[e2] at r1;exact oL r1 (.value _) (hK _ _ _ _ _ _ ⟨_,rfl⟩ (by rw[←hd];exact s.put c.dst (.p _ _ (.bool _)) s.hrel (Keep.refl s.hrel)) e3)
    generalize hvz:a.eval z=vz at hv;simp only[oK] at hA;split at hA
    ·rename_i e1;rw[e1] at hv;cases hv;exact fin none 0 0 _ hvz (by cases ne<;>rfl) hA
    ·rename_i e1;rw[e1] at hv;cases hv with
     |p _ _ hp=>
      cases hp with
      |lst0 _ bo cp=>
       cases hb:(if ne then !bo.isNone else bo.isNone) with
       |true=>exact fin bo 0 cp _ hvz hb hA.1
       |false=>exact fin bo 0 cp _ hvz hb hA.2
      |lst _ _ b off cp vs _ _ _ _ _=>
       cases hb:(if ne then !(some (⟨b,off,none⟩:Addr)).isNone else(some (⟨b,off,none⟩:Addr)).isNone) with
       |true=>exact fin _ _ cp _ hvz hb hA.1
       |false=>exact fin _ _ cp _ hvz hb hA.2
    ·rename_i e1;rw[e1] at hv;cases hv with
     |p _ _ hp=>
      cases hp with
      |lst _ _ b off cp vs _ _ _ _ _=>exact fin _ _ cp _ hvz (by cases ne<;>rfl) hA
    ·rename_i id esz off len e1;rw[e1] at hv;cases hv with
     |sl _ _ _ _ cp ba _ hl hb _=>
      have:=hb (by omega);subst this;exact fin _ _ cp _ hvz (by cases ne<;>rfl) hA.2
    ·exact hA.elim
 ·exact .inr ⟨hw,hK _ _ _ _ _ _ ⟨_,rfl⟩ (by rw[←hd];exact s.put c.dst (.tup [] #[] rfl λj c v h=>by simp at h) s.hrel (Keep.refl s.hrel)) hB⟩
end
end Go.Aw
namespace Go.Aw
section
variable {P:Program} {G:aw}
theorem JU{c:CO}{ts:List AV}{A B A' B':Prop}(ha:A->A')(hb:B->B')(h:gK c ts A B):gK c ts A' B':=by
 unfold gK at*
 split
 ·exact ha (by simpa[*] using h)
 ·rename_i j w e;simp only[e] at h;split at h
  ·exact⟨λx=>ha (h.1 x),λx=>hb (h.2 x)⟩
  ·exact hb h
  ·exact h.elim
theorem PA{ai:AI}{ts:List AV}{h:List AO}{K K':AV->List AO->Prop}{Qp:QP}(hk:∀v h',K v h'->K' v h')(H:oK P G ai ts h K Qp):oK P G ai ts h K' Qp:=by
 have hc:∀r h',pR K Qp r h'->pR K' Qp r h':=λr h'=>by cases r<;>first|exact hk _ _|exact id
 cases ai
 case call f args=>exact AC.mono H hc
 case callv g args=>
  revert H;simp only[oK];generalize g.ev ts=y;intro H
  cases y<;>first
   |exact H.elim
   |(rename_i f caps;cases f<;>first|exact H.elim|exact AC.mono H hc)
 case qcall f args=>obtain⟨v,h1,h2⟩:=H;exact⟨v,h1,hk _ _ h2⟩
 case qcallv g args=>
  revert H;simp only[oK];generalize g.ev ts=y;intro H
  cases y<;>first
   |exact H.elim
   |(rename_i f caps;cases f<;>first|exact H.elim|(obtain⟨v,h1,h2⟩:=H;exact⟨v,h1,hk _ _ h2⟩))
 case pcall f args=>obtain⟨v,h1,h2⟩:=H;exact⟨v,h1,hk _ _ h2⟩
 case chk sz n d=>exact⟨H.1,hk _ _ H.2⟩
 case bad=>exact H
 case snil ne x=>
  revert H;simp only[oK];split<;>first|exact id|exact hk _ _|exact λh=>⟨hk _ _ h.1,hk _ _ h.2⟩|exact λh=>⟨h.1,hk _ _ h.2⟩
 all_goals
  obtain⟨v,h',h1,h2⟩:=H;exact⟨v,h',h1,hk _ _ h2⟩
theorem eM{c:CO}{ts:List AV}{h:List AO}{K K':KT}{Qp:QP}(hk:∀ts' h',(∃u,ts'=put c.dst u ts)->K ts' h'->K' ts' h')(H:sK P G c ts h K Qp):sK P G c ts h K' Qp:=
 JU (PA λv h'=>hk _ _ ⟨v,rfl⟩) (hk _ _ ⟨_,rfl⟩) H
theorem Ar{cs:List CO}:∀{ts:List AV} {h:List AO} {K K':KT} {Qp:QP},(∀ts' h',K ts' h'->K' ts' h')->rK P G cs ts h K Qp->rK P G cs ts h K' Qp:=by
 induction cs with
 |nil=>intro ts h K K' Qp hk H;exact hk _ _ H
 |cons c r ih=>intro ts h K K' Qp hk H;exact eM (λts' h' _=>ih hk) H
def eB(P:Program)(ops:Array Oper)(l:List Oper)(cs:List CO):Prop:=l.length=cs.length/\∀(j:Nat) (o:Oper) (c:CO),l[j]?=some o->cs[j]?=some c->sU P ops o c
section text
variable {W0:World} {S0:Nat->Prop} {φ0:Place} {h0:List AO}
theorem uL{ops:Array Oper}{Q':Exit->Act->World->Prop}{K:KT}{Qp:QP}
 (hK:∀a' W' S' φ' ts' h',St G W0 S0 φ0 h0 W' S' φ' a' ts' h'->K ts' h'->Q' .normal a' W')
 (hQ:∀a W' S' φ' ts h' t v x,PRel W' S' v x->St G W0 S0 φ0 h0 W' S' φ' a ts h'->Qp t v h'->Q' (.panic [{v:= .iface t x,recovered:=false}]) a W'):
 ∀(l:List Oper) (cs:List CO),eB P ops l cs->∀(W:World) (S:Nat->Prop) (φ:Place) (a:Act) (ts:List AV) (h:List AO),St G W0 S0 φ0 h0 W S φ a ts h->rK P G cs ts h K Qp->wpList P ops Q' l a W
 |[],[],_,W,S,φ,a,ts,h,s,hr=>hK _ _ _ _ _ _ s hr
 |[],c::cs,h,_,_,_,_,_,_,_,_=>by have:=h.1;simp at this
 |o::l,[],h,_,_,_,_,_,_,_,_=>by have:=h.1;simp at this
 |o::l,c::cs,hok,W,S,φ,a,ts,h,s,hr=>by
  have hc:=hok.2 0 o c rfl rfl;have hok':eB P ops l cs:=⟨by have:=hok.1;simpa using this,λj o c h1 h2=>hok.2 (j+1) o c (by simpa using h1) (by simpa using h2)⟩;have:=Bn hc s hr (K':=wpList P ops Q' l) (Q':=Q') (λa' W' S' φ' ts' h' _ s' k'=>uL hK hQ l cs hok' W' S' φ' a' ts' h' s' k') (λW' S' φ' h' t v x k1 k2 k3=>hQ _ _ _ _ _ _ _ _ _ k1 k2 k3);unfold wpList;rcases this with⟨hw,h1⟩|⟨hw,h1⟩
  ·rw[Wz hw];exact .inl h1
  ·rw[WB (by simp[hw])];exact h1
theorem Gc{id:Nat}{ops:Array Oper}{cs:List CO}(hok:eB P ops ops.toList cs){W:World}{S:Nat->Prop}{φ:Place}{a:Act}{ts:List AV}{h:List AO}(s:St G W0 S0 φ0 h0 W S φ a ts h)
 {Q:AX->List AV->List AO->Prop}(hr:rK P G cs ts h (Q .normal) (λt v h'=>∀ts',Q (.pan t v) ts' h')):(Code.region id ops false).wp P (Di G W0 S0 φ0 h0 Q) a W:=
 wp_region_list (uL (λa' W' S' φ' ts' h' s' k=>⟨.normal,ts',h',S',φ',k,.normal,s'⟩) (λa' W' S' φ' ts' h' t v x k1 k2 k3=>⟨.pan t v,ts',h',S',φ',k3 ts',.pan t v x k1,k2⟩) _ _ hok W S φ a ts h s hr)
end text
def CO.looks(c:CO):List Nat:=(c.ai.ops.flatMap λ| .t n=>[n]| .c _=>[])++(match c.guard with|some (j,_)=>[j]|none=>[])
def sM(c1 c2:CO):Bool:=
 (match c1.dst with
  |some d=> !c2.looks.contains d&&c2.dst !=some d
  |none=>true)&&
 (match c2.dst with
  |some d=> !c1.looks.contains d
  |none=>true)
theorem GO{c1 c2:CO}(h:sM c1 c2=true):(∀d,c1.dst=some d->d∉c2.looks)/\(∀d,c1.dst=some d->c2.dst≠some d)/\(∀d,c2.dst=some d->d∉c1.looks):=by
 refine⟨λd hd=>?_,λd hd=>?_,λd hd=>?_⟩<;>simp[sM,hd] at h
 ·exact h.1.1
 ·exact h.1.2
 ·exact h.2
theorem ij{d:Option Nat}{u:AV}{ts:List AV}{j:Nat}(h:∀e,d=some e->j≠e):(put d u ts).getD j .any=ts.getD j .any:=by
 cases d with
 |none=>rfl
 |some e=>simp only[put,Wv,Wd (Ne.symm (h e rfl))]
theorem IS{c:CO}{d:Option Nat}{u:AV}{ts:List AV}(h:∀e,d=some e->e∉c.looks):∀x∈c.ai.ops,x.ev (put d u ts)=x.ev ts:=λx hx=>by
 cases x with
 |c v=>rfl
 |t n=>
  simp only[AOp.ev];exact ij λe he hn=>h e he (by subst hn;exact Zo _ (ZI.2 ⟨.t n,hx,by simp⟩))
theorem OV{d1 d2:Option Nat}(u v:AV)(ts:List AV)(h:∀d,d1=some d->d2≠some d):put d2 v (put d1 u ts)=put d1 u (put d2 v ts):=by
 cases d1 with
 |none=>rfl
 |some a=>
  cases d2 with
  |none=>rfl
  |some b=>
   have:a≠b:=λe=>h a rfl (by rw[e]);simp only[put];exact List.set_comm _ _ this
theorem So{c:CO}{d:Option Nat}{u:AV}{ts:List AV}(h:∀e,d=some e->e∉c.looks)(A B:Prop):gK c (put d u ts) A B=gK c ts A B:=by
 unfold gK;cases hg:c.guard with
 |none=>rfl
 |some q=>
  obtain⟨j,w⟩:=q;simp only;rw[ij λe he hn=>h e he (by subst hn;exact YM _ (by rw[hg];simp))]
theorem Rv{c:CO}{d:Option Nat}{u:AV}{ts:List AV}(h:∀e,d=some e->e∉c.looks)(hp:List AO)(K:AV->List AO->Prop)(Qp:QP):oK P G c.ai (put d u ts) hp K Qp=oK P G c.ai ts hp K Qp:=by
 have he:=IS (u:=u) (ts:=ts) h;have hev:ev G (put d u ts) hp c.ai=ev G ts hp c.ai:=dz he;unfold oK
 cases hai:c.ai<;>rw[hai] at he hev<;>simp only[AI.ops] at he<;>first
  |(simp only[WY he];done)
  |(simp only[hev];done)
  |rfl
  |(rename_i ne x
    have h1:=he x (by simp);simp only[h1];done)
  |(rename_i sz n d2
    have h1:(put d u ts).getD n .any=ts.getD n .any:=he (.t n) (by simp);have h2:(put d u ts).getD d2 .any=ts.getD d2 .any:=he (.t d2) (by simp);have h3:ev G (put d u ts) hp (.ld sz (.t n))=ev G ts hp (.ld sz (.t n)):=dz (λx hx=>by simp[AI.ops] at hx;subst hx;exact h1);simp only[h2,h3];done)
  |(have h1:=he _ (Yj ..)
    have h2:∀x∈_,_:=λx hx=>he x (Xb _ hx);simp only[h1,WY h2])
theorem HR{c:CO}{d:Option Nat}{u:AV}{ts:List AV}(h:∀e,d=some e->e∉c.looks)(h2:∀e,d=some e->c.dst≠some e)(hp:List AO)(K:KT)(Qp:QP):
 sK P G c (put d u ts) hp K Qp=sK P G c ts hp (λts' h'=>K (put d u ts') h') Qp:=by
 unfold sK;rw[So h,Rv h];have:∀v,put c.dst v (put d u ts)=put d u (put c.dst v ts):=λv=>OV u v ts h2;simp only[this]
def _root_.Go.Aw.AI.free:AI->Bool
 | .pcall .. =>true
 |ai=>ai.silent
theorem IF{c:CO}(hs:c.ai.silent=true){ts:List AV}{h:List AO}{K:KT}{Qp:QP}(H:sK P G c ts h K Qp):
 ∃v,K (put c.dst v ts) h/\∀(ts':List AV) (h':List AO) (K':KT),(∀x∈c.ai.ops,x.ev ts'=x.ev ts)->(∀j w,c.guard=some (j,w)->ts'.getD j .any=ts.getD j .any)->K' (put c.dst v ts') h'->sK P G c ts' h' K' Qp:=by
 have ho:∀(ts:List AV) (h:List AO) (K:AV->List AO->Prop),oK P G c.ai ts h K Qp=okE (ev G ts h c.ai) K:=λts h K=>by
  unfold oK;cases hai:c.ai<;>rw[hai] at hs<;>first|rfl|(simp[AI.silent] at hs)
 unfold sK at H;rw[ho] at H;unfold gK at H;cases hg:c.guard with
 |none=>
  simp only[hg] at H;obtain⟨v,h1,e1,k1⟩:=H;rw[ro hs,Wf] at e1;obtain⟨q,e1,e2⟩:=e1;cases e2;refine⟨q.1,k1,λts' h' K' c1 _ k=>?_⟩;unfold sK gK;simp only[hg];rw[ho];exact⟨q.1,h',by rw[ro hs,dz c1,e1];rfl,k⟩
 |some q=>
  obtain⟨j,w⟩:=q;simp only[hg] at H;split at H
  ·rename_i b hb
   by_cases hbw:(if w then b else !b)=true
   ·obtain⟨v,h1,e1,k1⟩:=H.1 hbw;rw[ro hs,Wf] at e1;obtain⟨q,e1,e2⟩:=e1;cases e2;refine⟨q.1,k1,λts' h' K' c1 c2 k=>?_⟩;unfold sK gK;simp only[hg,c2 j w rfl,hb];refine⟨λ_=>?_,(λhf=>by rw[hbw] at hf;cases hf)⟩;rw[ho];exact⟨q.1,h',by rw[ro hs,dz c1,e1];rfl,k⟩
   ·have hbw':(if w then b else !b)=false:=(by simpa using hbw);refine⟨.tup [],H.2 hbw',λts' h' K' c1 c2 k=>?_⟩;unfold sK gK;simp only[hg,c2 j w rfl,hb];exact⟨(λhf=>by rw[hbw'] at hf;cases hf),λ_=>k⟩
  ·rename_i hb;refine⟨.tup [],H,λts' h' K' c1 c2 k=>?_⟩;unfold sK gK;simp only[hg,c2 j w rfl,hb];exact k
  ·exact H.elim
theorem Cs{c:CO}(hs:c.ai.free=true){ts:List AV}{h:List AO}{K:KT}{Qp:QP}(H:sK P G c ts h K Qp):
 ∃v,K (put c.dst v ts) h/\∀(ts':List AV) (h':List AO) (K':KT),(∀x∈c.ai.ops,x.ev ts'=x.ev ts)->(∀j w,c.guard=some (j,w)->ts'.getD j .any=ts.getD j .any)->K' (put c.dst v ts') h'->sK P G c ts' h' K' Qp:=by
 by_cases hsil:c.ai.silent=true
 ·exact IF hsil H
 ·cases hai:c.ai<;>rw[hai] at hs hsil<;>first|(exact absurd hs hsil)|skip
  rename_i f args
  have e:∀ts':List AV,(∀x∈c.ai.ops,x.ev ts'=x.ev ts)->args.map (·.ev ts')=args.map (·.ev ts):=λts' c1=>by
   rw[hai] at c1;exact WY λx hx=>c1 x hx
  rw[hai] at e;unfold sK gK at H;rw[hai] at H;cases hg:c.guard with
  |none=>
   simp only[hg] at H;obtain⟨v,h1,k1⟩:=H;refine⟨v,k1,λts' h' K' c1 _ k=>?_⟩;unfold sK gK;rw[hai];simp only[hg];exact⟨v,by rw[e ts' c1];exact h1,k⟩
  |some q=>
   obtain⟨j,w⟩:=q;simp only[hg] at H;split at H
   ·rename_i b hb
    by_cases hbw:(if w then b else !b)=true
    ·obtain⟨v,h1,k1⟩:=H.1 hbw;refine⟨v,k1,λts' h' K' c1 c2 k=>?_⟩;unfold sK gK;rw[hai];simp only[hg,c2 j w rfl,hb];exact⟨λ_=>⟨v,by rw[e ts' c1];exact h1,k⟩,(λhf=>by rw[hbw] at hf;cases hf)⟩
    ·have hbw':(if w then b else !b)=false:=(by simpa using hbw);refine⟨.tup [],H.2 hbw',λts' h' K' c1 c2 k=>?_⟩;unfold sK gK;rw[hai];simp only[hg,c2 j w rfl,hb];exact⟨(λhf=>by rw[hbw'] at hf;cases hf),λ_=>k⟩
   ·rename_i hb;refine⟨.tup [],H,λts' h' K' c1 c2 k=>?_⟩;unfold sK gK;rw[hai];simp only[hg,c2 j w rfl,hb];exact k
   ·exact H.elim
theorem vJ{c:CO}(hs:c.ai.quiet=true){ts:List AV}{h:List AO}{K:KT}{Qp:QP}(H:sK P G c ts h K Qp):
 ∃v,K (put c.dst v ts) h/\∀(ts':List AV) (K':KT),(∀x∈c.ai.ops,x.ev ts'=x.ev ts)->(∀j w,c.guard=some (j,w)->ts'.getD j .any=ts.getD j .any)->K' (put c.dst v ts') h->sK P G c ts' h K' Qp:=by
 by_cases hsil:c.ai.free=true
 ·obtain⟨v,k1,k2⟩:=Cs hsil H;exact⟨v,k1,λts' K'=>k2 ts' h K'⟩
 ·
  have ho:∀{K:AV->List AO->Prop},oK P G c.ai ts h K Qp->∃v,K v h/\∀(ts':List AV) (K':AV->List AO->Prop),(∀x∈c.ai.ops,x.ev ts'=x.ev ts)->K' v h->oK P G c.ai ts' h K' Qp:=λ{K} hO=>by
   unfold oK at hO;cases hai:c.ai<;>rw[hai] at hs hsil hO<;>first|(simp[AI.quiet,AI.silent] at hs;done)|(simp[AI.free,AI.silent] at hsil;done)|skip
   ·rename_i sz x;obtain⟨v,h1,e1,k1⟩:=hO
    have:h1=h:=by
     simp only[ev] at e1;split at e1<;>first|(cases e1;done)|skip
     rw[Wf] at e1;obtain⟨_,_,e⟩:=e1;cases e;rfl
    subst this;exact⟨v,k1,λts' K' c1 k=>⟨v,h1,by rw[dz c1];exact e1,k⟩⟩
   ·rename_i n esz x lo hi;obtain⟨v,h1,e1,k1⟩:=hO
    have:h1=h:=by
     simp only[ev] at e1;split at e1<;>first|(cases e1;done)|skip
     all_goals (try (split at e1<;>first|(cases e1;done)|skip))
     all_goals (try (split at e1<;>first|(cases e1;done)|skip))
     all_goals (try (split at e1<;>first|(cases e1;done)|skip))
     all_goals (cases e1;rfl)
    subst this;exact⟨v,k1,λts' K' c1 k=>⟨v,h1,by rw[dz c1];exact e1,k⟩⟩
   ·rename_i f args;obtain⟨v,h1,k1⟩:=hO;refine⟨v,k1,λts' K' c1 k=>⟨v,?_,k⟩⟩;have e:args.map (·.ev ts')=args.map (·.ev ts):=WY λx hx=>c1 x hx
    rw[e];exact h1
   ·rename_i g args;simp only at hO;split at hO
    ·rename_i f caps hg;obtain⟨v,h1,k1⟩:=hO;refine⟨v,k1,λts' K' c1 k=>?_⟩;unfold oK;simp only[c1 g (Yj ..),hg];have e:args.map (·.ev ts')=args.map (·.ev ts):=WY λx hx=>c1 x (Xb _ hx)
     exact⟨v,by rw[e];exact h1,k⟩
    ·exact hO.elim
   ·obtain⟨v,h1,e1,k1⟩:=hO
    have:h1=h:=by
     simp only[ev] at e1;split at e1<;>first|(cases e1;done)|skip
     rw[Wf] at e1;obtain⟨_,_,e⟩:=e1;cases e;rfl
    subst this;exact⟨v,k1,λts' K' c1 k=>⟨v,h1,by rw[dz c1];exact e1,k⟩⟩
   ·obtain⟨v,h1,e1,k1⟩:=hO
    have:h1=h:=by
     simp only[ev] at e1;split at e1<;>first|(cases e1;done)|skip
     split at e1<;>first|(cases e1;done)|skip
     split at e1<;>first|(cases e1;done)|skip
     ·split at e1<;>first|(cases e1;done)|skip
      rw[Wf] at e1;obtain⟨_,_,e⟩:=e1;cases e;rfl
     ·cases e1;rfl
     ·split at e1<;>first|(cases e1;done)|skip
      rw[Wf] at e1;obtain⟨_,_,e⟩:=e1;cases e;rfl
    subst this;exact⟨v,k1,λts' K' c1 k=>⟨v,h1,by rw[dz c1];exact e1,k⟩⟩
   ·obtain⟨v,h1,e1,k1⟩:=hO
    have:h1=h:=by
     simp only[ev] at e1;split at e1<;>first|(cases e1;done)|skip
     split at e1<;>first|(cases e1;done)|skip
     split at e1<;>first|(cases e1;done)|skip
     rw[Wf] at e1;obtain⟨_,_,e⟩:=e1;cases e;rfl
    subst this;exact⟨v,k1,λts' K' c1 k=>⟨v,h1,by rw[dz c1];exact e1,k⟩⟩
  unfold sK gK at H;cases hg:c.guard with
  |none=>
   simp only[hg] at H;obtain⟨v,k1,k2⟩:=ho H;refine⟨v,k1,λts' K' c1 _ k=>?_⟩;unfold sK gK;simp only[hg];exact k2 ts' (λv h'=>K' (put c.dst v ts') h') c1 k
  |some q=>
   obtain⟨j,w⟩:=q;simp only[hg] at H;split at H
   ·rename_i b hb
    by_cases hbw:(if w then b else !b)=true
    ·obtain⟨v,k1,k2⟩:=ho (H.1 hbw);refine⟨v,k1,λts' K' c1 c2 k=>?_⟩;unfold sK gK;simp only[hg,c2 j w rfl,hb];exact⟨λ_=>k2 ts' (λv h'=>K' (put c.dst v ts') h') c1 k,(λhf=>by rw[hbw] at hf;cases hf)⟩
    ·have hbw':(if w then b else !b)=false:=(by simpa using hbw);refine⟨.tup [],H.2 hbw',λts' K' c1 c2 k=>?_⟩;unfold sK gK;simp only[hg,c2 j w rfl,hb];exact⟨(λhf=>by rw[hbw'] at hf;cases hf),λ_=>k⟩
   ·rename_i hb;refine⟨.tup [],H,λts' K' c1 c2 k=>?_⟩;unfold sK gK;simp only[hg,c2 j w rfl,hb];exact k
   ·exact H.elim
def zT(c:CO):Option (Option Nat × Nat × Nat):=
 match c.ai,c.guard,c.dst with
 | .ld sz (.t n),none,some d=>if n=d then none else some (sz,n,d)
 |_,_,_=>none
theorem Ds{c:CO}{q:Option Nat × Nat × Nat}(h:zT c=some q):c=⟨some q.2.2,none,.ld q.1 (.t q.2.1)⟩/\q.2.1≠q.2.2:=by
 unfold zT at h;split at h<;>first|(cases h;done)|skip
 rename_i h1 h2 h3;split at h<;>first|(cases h;done)|skip
 rename_i hne;cases h;cases c;simp only at h1 h2 h3;subst h1;subst h2;subst h3;exact⟨rfl,hne⟩
def HD(G:aw)(ts:List AV)(h:List AO)(q:Option Nat × Nat × Nat):Prop:=ev G ts h (.ld q.1 (.t q.2.1))=some (ts.getD q.2.2 .any,h)
theorem Tm{ts:List AV}{h h':List AO}{sz:Option Nat}{x:AOp}{v:AV}(e:ev G ts h (.ld sz x)=some (v,h')):h'=h:=by
 simp only[ev] at e;split at e<;>first|(cases e;done)|skip
 rw[Wf] at e;obtain⟨_,_,e⟩:=e;cases e;rfl
theorem PW{ci cj:CO}(ha:sM ci cj=true){ts:List AV}{h:List AO}{K:KT}{Qp:QP}
 (hk:ci.ai.free=true\/(ci.ai.quiet=true/\cj.ai.quiet=true)\/(∃q,zT ci=some q/\∀ts' h',K ts' h'->HD G ts' h' q))
 (H:sK P G ci ts h (λts1 h1=>sK P G cj ts1 h1 K Qp) Qp):sK P G cj ts h (λts1 h1=>(∃u,K (put ci.dst u ts1) h1)/\sK P G ci ts1 h1 K Qp) Qp:=by
 obtain⟨a1,a2,a3⟩:=GO ha;have gj:∀{u:AV} {ts:List AV} (j:Nat) (w:Bool),ci.guard=some (j,w)->(put cj.dst u ts).getD j .any=ts.getD j .any:=λj w hg=>ij λe he hn=>a3 e he (by subst hn;exact YM _ (by rw[hg];simp));rcases hk with hs|⟨q1,q2⟩|⟨q,hq,hld⟩
 ·obtain⟨v,k1,k2⟩:=Cs hs H;rw[HR a1 a2] at k1;refine eM (λts' h' ⟨u,hu⟩ k=>?_) k1;subst hu;exact⟨⟨v,k⟩,k2 _ _ _ (IS a3) gj k⟩
 ·obtain⟨v,k1,k2⟩:=vJ q1 H;rw[HR a1 a2] at k1;obtain⟨u,m1,m2⟩:=vJ q2 k1;exact m2 ts _ (λ_ _=>rfl) (λ_ _ _=>rfl) ⟨⟨v,m1⟩,k2 _ _ (IS a3) gj m1⟩
 ·obtain⟨e,hne⟩:=Ds hq;obtain⟨sz,n,d⟩:=q;simp only at e hne;subst e;have H':okE (ev G ts h (.ld sz (.t n))) (λv h'=>sK P G cj (put (some d) v ts) h' K Qp):=H;obtain⟨v,h1,e1,k1⟩:=H';have:=Tm e1;subst this;rw[HR a1 a2] at k1;refine eM (λts' h' _ k=>⟨⟨v,k⟩,?_⟩) k1;have hl:=hld _ _ k;unfold HD at hl;simp only at hl
  have e2:ev G (put (some d) v ts') h' (.ld sz (.t n))=ev G ts' h' (.ld sz (.t n)):=dz (λx hx=>by
   simp[AI.ops] at hx;subst hx;exact ij λe he hn=>by cases he;exact hne hn)
  rw[e2] at hl;show okE (ev G ts' h' (.ld sz (.t n))) (λv h'=>K (put (some d) v ts') h');refine⟨_,_,hl,?_⟩
  have e3:put (some d) ((put (some d) v ts').getD d .any) ts'=put (some d) v ts':=by
   simp only[put];rcases Xh d ts'.length with hd|hd
   ·simp[Wv,Wh hd]
   ·rw[YH hd,YH hd]
  show K (put (some d) ((put (some d) v ts').getD d .any) ts') h';rw[e3];exact k
def RF(G:aw)(ts:List AV)(h:List AO):List (Option Nat × Nat × Nat)->Prop
 |[]=>True
 |q::r=>HD G ts h q/\RF G ts h r
theorem Ac:∀{l:List (Option Nat × Nat × Nat)} {r:List CO} {ts:List AV} {h:List AO} {K:KT} {Qp:QP},rK P G (l.map (λq=>⟨none,none,.chk q.1 q.2.1 q.2.2⟩)++r) ts h K Qp->RF G ts h l/\rK P G r ts h K Qp
 |[],_,_,_,_,_,H=>⟨trivial,H⟩
 |q::l,r,ts,h,K,Qp,H=>by
  have H':ev G ts h (.ld q.1 (.t q.2.1))=some (ts.getD q.2.2 .any,h)/\rK P G (l.map (λq=>⟨none,none,.chk q.1 q.2.1 q.2.2⟩)++r) ts h K Qp:=H;obtain⟨k1,k2⟩:=Ac H'.2;exact⟨⟨H'.1,k1⟩,k2⟩
theorem Bb{l:List (Option Nat × Nat × Nat)}{ts:List AV}{h:List AO}(H:RF G ts h l):∀q∈l,HD G ts h q:=by
 induction l with
 |nil=>intro q hq;cases hq
 |cons x r ih=>
  intro q hq;rcases WE.1 hq with rfl|hq
  ·exact H.1
  ·exact ih H.2 q hq
end
end Go.Aw
namespace Go.Aw
def zE(o:Oper):List Nat:=(o.after.toList.filter (Region.binds .any ·)).map (·.on)
def uB:List Oper->List (List Nat)->List (List Nat)
 |[],acc=>acc
 |o::r,acc=>uB r (acc++[((zE o)++(zE o).flatMap (acc.getD · [])).eraseDups])
def Clo(ops:Array Oper)(listed:Array Bool):Prop:=∀(j:Nat) (o:Oper),ops[j]?=some o->listed.getD j false=true->∀d∈zE o,listed.getD d false=true
def BOk(ops:Array Oper)(B:List (List Nat)):Prop:=
 ∀(j i:Nat),i∈B.getD j []->∀listed,Clo ops listed->(∀o,ops[j]?=some o->∀d∈zE o,listed.getD d false=true)->listed.getD i false=true
theorem ES(ops:Array Oper):∀(l:List Oper) (acc:List (List Nat)),(∀(j:Nat),l[j]?=ops[acc.length+j]?)->BOk ops acc->BOk ops (uB l acc)
 |[],acc,_,h=>h
 |o::r,acc,hl,h=>by
  refine ES ops r _ (λj=>by have:=hl (j+1);simp at this⊢;rw[this];congr 1;omega) ?_;intro j i hi listed hc hd;rw[Wv,XI] at hi;split at hi
  ·rename_i hj;exact h j i (by rw[Wv];exact hi) listed hc hd
  ·rename_i hj;rcases Xh acc.length j with hj'|hj'
   ·rw[WS (by simp;omega)] at hi;simp at hi
   ·have:j=acc.length:=(by omega);subst this;simp only[Xd,XP,Yb,List.mem_eraseDups,Ws,ZI] at hi;have ho:ops[acc.length]?=some o:=(by simpa using(hl 0).symm);rcases hi with hi|⟨d,hd1,hd2⟩
    ·exact hd o ho i hi
    ·have hdl:=hd o ho d hd1;exact h d i hd2 listed hc λo' ho' d' hd'=>hc d o' ho' hdl d' hd'
def slB(cs:List CO)(l:Nat):Bool:=match cs[l]? with
 |some c=>c.ai.silent
 |none=>false
def tc(cs:List CO)(n:Nat)(B:List (List Nat))(i0:Nat)(listed:Array Bool):Bool:=(List.range n).all λl=>l==i0||listed.getD l true||(B.getD l []).contains i0||slB cs l
def dX(df:Option Nat)(ops:Array Oper)(cs:List CO)(B:List (List Nat))(listed:Array Bool):List Nat:=(Region.ready .any ops listed).filter λi=>df !=some i||tc cs ops.size B i listed
def vU(df:Option Nat)(ops:Array Oper)(cs:List CO)(B:List (List Nat))(pd:Nat->List (Nat × Option Nat × Nat × Nat)):List Nat->Array Bool->Bool
 |[],listed=>(Region.ready .any ops listed).isEmpty
 |i::π,listed=>(dX df ops cs B listed).contains i&&(match cs[i]? with
   |none=>false
   |some ci=>(List.range ops.size).all λj=>j==i||listed.getD j true||(B.getD j []).contains i||(df==some j&& !slB cs i)||(match cs[j]? with
     |some cj=>sM ci cj&&(ci.ai.free||(ci.ai.quiet&&cj.ai.quiet)||(match zT ci with
       |some q=>(pd j).contains (i,q)
       |none=>false))&&(pd i).isEmpty&&(pd j).all λq=>q.1==i||(B.getD q.1 []).contains i||(ci.dst !=some q.2.2.1&&ci.dst !=some q.2.2.2)
     |none=>false))&&vU df ops cs B pd π (listed.setIfInBounds i true)
def ug(cs:List CO)(pd:Nat->List (Nat × Option Nat × Nat × Nat)):List Nat->List CO
 |[]=>[]
 |i::π=>match cs[i]? with
  |some c=>c::(((pd i).map (·.2)).map (λq=>⟨none,none,.chk q.1 q.2.1 q.2.2⟩)++ug cs pd π)
  |none=>ug cs pd π
section
variable {P:Program} {G:aw} {ops:Array Oper} {cs:List CO} {pd:Nat->List (Nat × Option Nat × Nat × Nat)} {df:Option Nat}
def PK(G:aw)(pd:Nat->List (Nat × Option Nat × Nat × Nat))(listed:Array Bool)(j:Nat)(ts:List AV)(h:List AO):Prop:=∀q∈pd j,listed.getD q.1 false=true->HD G ts h q.2
def oU(df:Option Nat)(B:List (List Nat))(P:Program)(G:aw)(ops:Array Oper)(cs:List CO)(pd:Nat->List (Nat × Option Nat × Nat × Nat))(Q:KT)(Qp:QP):Nat->Array Bool->List AV->List AO->Prop
 |0,listed,ts,h=>Region.ready .any ops listed=[]/\Q ts h
 |fuel+1,listed,ts,h=>(Region.ready .any ops listed=[]->Q ts h)/\
  ∀i∈dX df ops cs B listed,∃c,cs[i]?=some c/\sK P G c ts h (λts' h'=>PK G pd listed i ts' h'/\oU df B P G ops cs pd Q Qp fuel (listed.setIfInBounds i true) ts' h') Qp
theorem GR{o:Oper}{e:Edge}(he:e∈o.after)(hb:Region.binds .any e=true):e.on∈zE o:=by
 unfold zE;exact Ww.2 ⟨e,WM.2 ⟨by simpa using he,hb⟩,rfl⟩
theorem jN{j:Nat}{listed:Array Bool}(h:j∈Region.ready .any ops listed):∀o,ops[j]?=some o->∀d∈zE o,listed.getD d false=true:=λo ho d hd=>by
 obtain⟨_,o',ho',hall⟩:=mem_ready.1 h;rw[ho] at ho';cases ho';obtain⟨e,he,rfl⟩:=Ww.1 hd;obtain⟨he1,he2⟩:=WM.1 he;exact hall e (by simpa using he1) he2
theorem Clo.step{j:Nat}{listed:Array Bool}(h:Clo ops listed)(hj:j∈Region.ready .any ops listed):Clo ops (listed.setIfInBounds j true):=λi o ho hi d hd=>by
 have keep:listed.getD d false=true->(listed.setIfInBounds j true).getD d false=true:=λh1=>by
  by_cases hdj:j=d
  ·subst hdj;rcases Xh j listed.size with h'|h'
   ·simp[h']
   ·simp[Yr h'] at h1
  ·rw[getD_set_ne false hdj];exact h1
 by_cases hij:j=i
 ·subst hij;exact keep (jN hj o ho d hd)
 ·rw[getD_set_ne false hij] at hi;exact keep (h i o ho hi d hd)
theorem RE{listed:Array Bool}{i j:Nat}{d:Option Nat}{u:AV}{ts:List AV}{h:List AO}(hi:listed.getD i false=false)(hd:∀q∈pd j,listed.getD q.1 false=true->q.1=i\/(d≠some q.2.2.1/\d≠some q.2.2.2))(hij:∀l,listed.getD l false=true->(listed.setIfInBounds i true).getD l false=true)
 (H:PK G pd (listed.setIfInBounds i true) j (put d u ts) h):PK G pd listed j ts h:=λq hq hl=>by
 have hne:q.1≠i:=λe=>by rw[e,hi] at hl;cases hl
 have h1:=H q hq (hij _ hl);obtain⟨k1,k2⟩:=(hd q hq hl).resolve_left hne;unfold HD at h1⊢;have e1:(put d u ts).getD q.2.2.1 .any=ts.getD q.2.2.1 .any:=ij λe he hn=>k1 (by rw[he,hn]);have e2:(put d u ts).getD q.2.2.2 .any=ts.getD q.2.2.2 .any:=ij λe he hn=>k2 (by rw[he,hn]);rw[e2] at h1;rw[←h1];exact(dz (λx hx=>by simp[AI.ops] at hx;subst hx;exact e1)).symm
theorem MV{listed:Array Bool}{i l:Nat}(h:listed.getD l false=true):(listed.setIfInBounds i true).getD l false=true:=by
 by_cases hdj:i=l
 ·subst hdj;rcases Xh i listed.size with h'|h'
  ·simp[h']
  ·simp[Yr h'] at h
 ·rw[getD_set_ne false hdj];exact h
theorem vS{B:List (List Nat)}{i j:Nat}{listed:Array Bool}(hj:j∈dX df ops cs B listed)(hne:j≠i):j∈dX df ops cs B (listed.setIfInBounds i true):=by
 obtain⟨h1,h2⟩:=WM.1 hj;refine WM.2 ⟨ready_mono h1 hne,?_⟩;simp only[XA] at h2⊢;refine h2.imp id λh=>?_;simp only[tc,Wu,Xn,XA,beq_iff_eq] at h⊢;intro l hl;rcases h l hl with((h|h)|h)|h
 ·exact .inl (.inl (.inl h))
 ·refine .inl (.inl (.inr ?_))
  by_cases hil:i=l
  ·subst hil;rcases Xh i listed.size with h'|h'
   ·simp[h']
   ·simp[]
  ·rw[getD_set_ne true hil];exact h
 ·exact .inl (.inr h)
 ·exact .inr h
theorem JM{B:List (List Nat)}(hB:BOk ops B){listed:Array Bool}(hc:Clo ops listed){i j:Nat}(hr:i∈Region.ready .any ops listed)(hj:j∈dX df ops cs B listed)(hji:j≠i):df≠some j\/slB cs i=true:=by
 refine Classical.or_iff_not_imp_right.2 λhsl hd=>?_;obtain⟨h1,h2⟩:=WM.1 hj;simp only[hd,bne_self_eq_false,ZT] at h2;simp only[tc,Wu,Xn,XA,beq_iff_eq] at h2;obtain⟨hiun,oi,hoi,_⟩:=mem_ready.1 hr;rcases h2 i (WU.1 hoi).1 with((h|h)|h)|h
 ·exact hji h.symm
 ·rw[hiun] at h;cases h
 rotate_left
 ·exact hsl h
 ·have h3:=hB i j (by simpa using h) listed hc (jN hr);have h4:=(mem_ready.1 h1).1;rcases Xh j listed.size with h'|h'
  ·simp[h'] at h3 h4;rw[h4] at h3;cases h3
  ·simp[Yr h'] at h3
theorem AZ{B:List (List Nat)}(hB:BOk ops B){Q:KT}{Qp:QP}{i:Nat}{ci:CO}(hi:cs[i]?=some ci):∀(fuel:Nat) (listed:Array Bool) (ts:List AV) (h:List AO),Clo ops listed->
 (∀(j:Nat),j<ops.size->j≠i->listed.getD j true=false->i∉B.getD j []->(df≠some j\/slB cs i=true)->∃cj,cs[j]?=some cj/\sM ci cj=true/\
   (ci.ai.free=true\/(ci.ai.quiet=true/\cj.ai.quiet=true)\/∃q,zT ci=some q/\(i,q)∈pd j)/\pd i=[]/\∀q∈pd j,q.1=i\/i∈B.getD q.1 []\/(ci.dst≠some q.2.2.1/\ci.dst≠some q.2.2.2))->
 i∈dX df ops cs B listed->sK P G ci ts h (λts' h'=>PK G pd listed i ts' h'/\oU df B P G ops cs pd Q Qp fuel (listed.setIfInBounds i true) ts' h') Qp->oU df B P G ops cs pd Q Qp (fuel+1) listed ts h:=by
 intro fuel
 induction fuel with
 |zero=>
  intro listed ts h hc hfree hr H;have hrD:=hr;have hr:=(WM.1 hrD).1;refine⟨λh0=>(by rw[h0] at hr;cases hr),λj hjD=>?_⟩;have hj:=(WM.1 hjD).1
  by_cases hji:j=i
  ·subst hji;exact⟨ci,hi,H⟩
  ·
   obtain⟨hjun,oj,hoj,_⟩:=mem_ready.1 hj;have hjl:j<ops.size:=(WU.1 hoj).1
   have hnb:i∉B.getD j []:=λhm=>by
    have:=hB j i hm listed hc (jN hj);have h0:=(mem_ready.1 hr).1;rcases Xh i listed.size with h'|h'
    ·simp[h'] at h0 this;rw[h0] at this;cases this
    ·simp[Yr h'] at this
   obtain⟨cj,hcj,ha,hk,_⟩:=hfree j hjl hji hjun hnb (JM hB hc hr hjD hji)
   have hbad:∀ts1 h1,¬oU df B P G ops cs pd Q Qp 0 (listed.setIfInBounds i true) ts1 h1:=λts1 h1 hh=>by
    have:=ready_mono hj hji;rw[hh.1] at this;cases this
   exfalso
   have hq:ci.ai.free=true\/ci.ai.quiet=true:=by
    rcases hk with hs|⟨hq,_⟩|⟨q,hq,_⟩
    ·exact .inl hs
    ·exact .inr hq
    ·obtain⟨e,_⟩:=Ds hq;exact .inr (by rw[e];rfl)
   rcases hq with hs|hq
   ·obtain⟨v,k1,_⟩:=Cs hs H;exact(hbad _ _ k1.2).elim
   ·obtain⟨v,k1,_⟩:=vJ hq H;exact(hbad _ _ k1.2).elim
 |succ fuel ih=>
  intro listed ts h hc hfree hr H;have hrD:=hr;have hr:=(WM.1 hrD).1;refine⟨λh0=>(by rw[h0] at hr;cases hr),λj hjD=>?_⟩;have hj:=(WM.1 hjD).1
  by_cases hji:j=i
  ·subst hji;exact⟨ci,hi,H⟩
  ·obtain⟨hjun,oj,hoj,_⟩:=mem_ready.1 hj;have hjl:j<ops.size:=(WU.1 hoj).1;have h0:=(mem_ready.1 hr).1
   have hil:i<listed.size:=by
    rcases Xh i listed.size with h'|h'
    ·exact h'
    ·simp[Yr h'] at h0
   have hif:listed.getD i false=false:=by simp[hil] at h0⊢;exact h0
   have hnb:i∉B.getD j []:=λhm=>by
    have:=hB j i hm listed hc (jN hj);rw[hif] at this;cases this
   obtain⟨cj,hcj,ha,hk,hpi,hpd⟩:=hfree j hjl hji hjun hnb (JM hB hc hr hjD hji);refine⟨cj,hcj,?_⟩
   have H':sK P G ci ts h (λts1 h1=>sK P G cj ts1 h1 (λts2 h2=>PK G pd (listed.setIfInBounds i true) j ts2 h2/\oU df B P G ops cs pd Q Qp fuel ((listed.setIfInBounds i true).setIfInBounds j true) ts2 h2) Qp) Qp:=eM (λts1 h1 _ k=>by
    obtain⟨c',e1,e2⟩:=k.2.2 j (vS hjD hji);rw[hcj] at e1;cases e1;exact e2) H
   have hk':ci.ai.free=true\/(ci.ai.quiet=true/\cj.ai.quiet=true)\/(∃q,zT ci=some q/\∀ts' h',(PK G pd (listed.setIfInBounds i true) j ts' h'/\oU df B P G ops cs pd Q Qp fuel ((listed.setIfInBounds i true).setIfInBounds j true) ts' h')->HD G ts' h' q):=by
    rcases hk with hs|hq|⟨q,hq,hm⟩
    ·exact .inl hs
    ·exact .inr (.inl hq)
    ·exact .inr (.inr ⟨q,hq,λts' h' k=>k.1 (i,q) hm (by simp[hil])⟩)
   refine eM (λts1 h1 _ k=>⟨?_,?_⟩) (PW ha hk' H')
   ·obtain⟨⟨u,k1,_⟩,_⟩:=k;refine RE hif (λq hq hl=>?_) (λl=>MV) k1;rcases hpd q hq with e|e|e
    ·exact .inl e
    ·have:=hB q.1 i e listed hc (λo ho d hd=>hc q.1 o ho hl d hd);rw[hif] at this;cases this
    ·exact .inr e
   ·refine ih (listed.setIfInBounds j true) ts1 h1 (hc.step hj) (λl hl hli hun hno hnd=>?_) (vS hrD (Ne.symm hji)) ?_
    ·refine hfree l hl hli ?_ hno hnd
     by_cases hjk:j=l
     ·subst hjk;exact hjun
     ·rw[getD_set_ne true hjk] at hun;exact hun
    ·refine eM (λts2 h2 _ k2=>⟨(λq hq=>by rw[hpi] at hq;cases hq),?_⟩) k.2;rw[YU _ _ hji];exact k2.2
theorem Bl{B:List (List Nat)}(hB:BOk ops B){Q:KT}{Qp:QP}:∀(π:List Nat) (listed:Array Bool) (ts:List AV) (h:List AO),Clo ops listed->vU df ops cs B pd π listed=true->
 rK P G (ug cs pd π) ts h Q Qp->oU df B P G ops cs pd Q Qp π.length listed ts h
 |[],listed,ts,h,_,ho,hr=>⟨by simpa[vU] using ho,hr⟩
 |i::π,listed,ts,h,hc,ho,hr=>by
  simp only[vU,Wr] at ho;obtain⟨⟨o1,o2⟩,o3⟩:=ho;have hri:i∈dX df ops cs B listed:=by simpa using o1
  have hri':=(WM.1 hri).1;cases hci:cs[i]? with
  |none=>rw[hci] at o2;cases o2
  |some ci=>
   rw[hci] at o2;simp only[ug,hci,rK] at hr;simp only[Wu,Xn] at o2;refine AZ hB hci π.length listed ts h hc (λj hj hji hun hno hnd=>?_) hri (eM (λts1 h1 _ k=>?_) hr)
   ·have:=o2 j hj;have hno':(B.getD j []).contains i=false:=(by simpa using hno);have hnd':(df==some j&& !slB cs i)=false:=(by rcases hnd with h|h<;>simp[h]);simp only[beq_iff_eq,hji,hun,hno',hnd',XA,Ye,false_or] at this;cases hcj:cs[j]? with
    |none=>rw[hcj] at this;cases this
    |some cj=>
     rw[hcj] at this;simp only[Wr,XA] at this;obtain⟨⟨⟨t1,t2⟩,t3⟩,t4⟩:=this;refine⟨cj,rfl,t1,?_,by simpa using t3,λq hq=>?_⟩
     ·rcases t2 with(t2|t2)|t2
      ·exact .inl t2
      ·exact .inr (.inl t2)
      ·split at t2
       ·rename_i q hq;exact .inr (.inr ⟨q,hq,by simpa using t2⟩)
       ·cases t2
     ·have:=Wu.1 t4 q hq;simpa[or_assoc] using this
   ·obtain⟨k1,k2⟩:=Ac k;exact⟨λq hq _=>Bb k1 _ (Ww.2 ⟨q,hq,rfl⟩),Bl hB π _ ts1 h1 (hc.step hri') o3 k2⟩
inductive OTi where
 |done
 |one (i:Nat) (r:OTi)
 |alt (i:Nat) (r rest:OTi)
 |tru
inductive OT where
 |done
 |one (cs:List CO) (r:OT)
 |alt (a b:OT)
 |tru
def otK(P:Program)(G:aw):OT->List AV->List AO->KT->QP->Prop
 | .done,ts,h,K,_=>K ts h
 | .one cs r,ts,h,K,Qp=>rK P G cs ts h (λts' h'=>otK P G r ts' h' K Qp) Qp
 | .alt a b,ts,h,K,Qp=>otK P G a ts h K Qp/\otK P G b ts h K Qp
 | .tru,_,_,_,_=>True
def En(df:Option Nat)(ops:Array Oper)(cs:List CO)(B:List (List Nat))(pd:Nat->List (Nat × Option Nat × Nat × Nat))(i:Nat)(listed:Array Bool):Bool:=
 match cs[i]? with
 |none=>false
 |some ci=>(List.range ops.size).all λj=>j==i||listed.getD j true||(B.getD j []).contains i||(df==some j&& !slB cs i)||(match cs[j]? with
  |some cj=>sM ci cj&&(ci.ai.free||(ci.ai.quiet&&cj.ai.quiet)||(match zT ci with
    |some q=>(pd j).contains (i,q)
    |none=>false))&&(pd i).isEmpty&&(pd j).all λq=>q.1==i||(B.getD q.1 []).contains i||(ci.dst !=some q.2.2.1&&ci.dst !=some q.2.2.2)
  |none=>false)
def nR(df:Option Nat)(ops:Array Oper)(cs:List CO)(B:List (List Nat))(pd:Nat->List (Nat × Option Nat × Nat × Nat)):Nat->OTi->List Nat->Array Bool->Bool
 |_,.done,acc,l=>acc.isEmpty&&(Region.ready .any ops l).isEmpty
 |f,.one i r,acc,l=>acc.isEmpty&&f !=0&&(dX df ops cs B l).contains i&&En df ops cs B pd i l&&nR df ops cs B pd (f-1) r [] (l.setIfInBounds i true)
 |f,.alt i r rest,acc,l=>f !=0&&(dX df ops cs B l).contains i&&(cs[i]?).isSome&&nR df ops cs B pd (f-1) r [] (l.setIfInBounds i true)&&nR df ops cs B pd f rest (i::acc) l
 |_,.tru,acc,l=> !acc.isEmpty&&(dX df ops cs B l).all λj=>acc.contains j
def TO(l:List (Nat × Option Nat × Nat × Nat)):List CO:=(l.map (·.2)).map λq=>⟨none,none,.chk q.1 q.2.1 q.2.2⟩
def OTi.comp(cs:List CO)(pd:Nat->List (Nat × Option Nat × Nat × Nat)):OTi->Array Bool->OT
 | .done,_=> .done
 | .one i r,l=>match cs[i]? with
   |some c=> .one (c::(TO (pd i)++[])) (r.comp cs pd (l.setIfInBounds i true))
   |none=> .tru
 | .alt i r rest,l=>match cs[i]? with
   |some c=> .alt (.one (c::(TO ((pd i).filter λq=>l.getD q.1 false)++[])) (r.comp cs pd (l.setIfInBounds i true))) (rest.comp cs pd l)
   |none=> .tru
 | .tru,_=> .tru
theorem GA{B:List (List Nat)}{i:Nat}{listed:Array Bool}(h:En df ops cs B pd i listed=true):∃ci,cs[i]?=some ci/\
 ∀(j:Nat),j<ops.size->j≠i->listed.getD j true=false->i∉B.getD j []->(df≠some j\/slB cs i=true)->∃cj,cs[j]?=some cj/\sM ci cj=true/\
  (ci.ai.free=true\/(ci.ai.quiet=true/\cj.ai.quiet=true)\/∃q,zT ci=some q/\(i,q)∈pd j)/\pd i=[]/\∀q∈pd j,q.1=i\/i∈B.getD q.1 []\/(ci.dst≠some q.2.2.1/\ci.dst≠some q.2.2.2):=by
 unfold En at h;cases hci:cs[i]? with
 |none=>rw[hci] at h;cases h
 |some ci=>
  rw[hci] at h;simp only[Wu,Xn] at h;refine⟨ci,rfl,λj hj hji hun hno hnd=>?_⟩;have:=h j hj;have hno':(B.getD j []).contains i=false:=by simpa using hno
  have hnd':(df==some j&& !slB cs i)=false:=by rcases hnd with h|h<;>simp[h]
  simp only[beq_iff_eq,hji,hun,hno',hnd',XA,Ye,false_or] at this;cases hcj:cs[j]? with
  |none=>rw[hcj] at this;cases this
  |some cj=>
   rw[hcj] at this;simp only[Wr,XA] at this;obtain⟨⟨⟨t1,t2⟩,t3⟩,t4⟩:=this;refine⟨cj,rfl,t1,?_,by simpa using t3,λq hq=>?_⟩
   ·rcases t2 with(t2|t2)|t2
    ·exact .inl t2
    ·exact .inr (.inl t2)
    ·split at t2
     ·rename_i q hq;exact .inr (.inr ⟨q,hq,by simpa using t2⟩)
     ·cases t2
   ·have:=Wu.1 t4 q hq;simpa[or_assoc] using this
theorem kg{B:List (List Nat)}{listed:Array Bool}{j:Nat}(h:j∈dX df ops cs B listed):j∈Region.ready .any ops listed:=(WM.1 h).1
theorem ur{B:List (List Nat)}(hB:BOk ops B){Q:KT}{Qp:QP}:∀(t:OTi) (f:Nat) (acc:List Nat) (l:Array Bool) (ts:List AV) (h:List AO),Clo ops l->nR df ops cs B pd f t acc l=true->otK P G (t.comp cs pd l) ts h Q Qp->
 (acc=[]->oU df B P G ops cs pd Q Qp f l ts h)/\∀j∈dX df ops cs B l,j∉acc->0<f/\∃c,cs[j]?=some c/\sK P G c ts h (λts' h'=>PK G pd l j ts' h'/\oU df B P G ops cs pd Q Qp (f-1) (l.setIfInBounds j true) ts' h') Qp
 | .done,f,acc,l,ts,h,_,ho,hk=>by
   simp only[nR,Wr,List.isEmpty_iff] at ho;refine⟨λ_=>?_,λj hj=>(by have:=kg hj;rw[ho.2] at this;cases this)⟩;cases f with
   |zero=>exact⟨ho.2,hk⟩
   |succ f=>exact⟨λ_=>hk,λi hi=>(by have:=kg hi;rw[ho.2] at this;cases this)⟩
 | .tru,f,acc,l,ts,h,_,ho,_=>by
   simp only[nR,Wr,Wu,Yx,Yi] at ho;refine⟨λe=>(by subst e;cases ho.1),λj hj hn=>absurd (ho.2 j hj) hn⟩
 | .one i r,f,acc,l,ts,h,hc,ho,hk=>by
   simp only[nR,Wr,Yi] at ho;obtain⟨⟨⟨⟨o0,of⟩,o1⟩,o2⟩,o3⟩:=ho
   obtain⟨g,rfl⟩:∃g,f=g+1:=⟨f-1,by have:f≠0:=by simpa using of
                                   omega⟩
   obtain⟨ci,hci,hfree⟩:=GA o2;simp only[OTi.comp,hci,otK,rK] at hk
   have hA:oU df B P G ops cs pd Q Qp (g+1) l ts h:=by
    refine AZ hB hci g l ts h hc hfree o1 (eM (λts1 h1 _ k=>?_) hk);obtain⟨k1,k2⟩:=Ac k;exact⟨λq hq _=>Bb k1 _ (Ww.2 ⟨q,hq,rfl⟩),(ur hB r g [] _ ts1 h1 (hc.step (kg o1)) o3 k2).1 rfl⟩
   exact⟨λ_=>hA,λj hj _=>⟨by omega,hA.2 j hj⟩⟩
 | .alt i r rest,f,acc,l,ts,h,hc,ho,hk=>by
   simp only[nR,Wr,Yi] at ho;obtain⟨⟨⟨⟨of,o1⟩,o2⟩,o3⟩,o4⟩:=ho
   obtain⟨g,rfl⟩:∃g,f=g+1:=⟨f-1,by have:f≠0:=by simpa using of
                                   omega⟩
   obtain⟨ci,hci⟩:=YT.1 o2;simp only[OTi.comp,hci,otK,rK] at hk;obtain⟨hk1,hk2⟩:=hk
   have hI:sK P G ci ts h (λts' h'=>PK G pd l i ts' h'/\oU df B P G ops cs pd Q Qp g (l.setIfInBounds i true) ts' h') Qp:=by
    refine eM (λts1 h1 _ k=>?_) hk1;obtain⟨k1,k2⟩:=Ac k;exact⟨λq hq hl=>Bb k1 _ (Ww.2 ⟨q,WM.2 ⟨hq,hl⟩,rfl⟩),(ur hB r g [] _ ts1 h1 (hc.step (kg o1)) o3 k2).1 rfl⟩
   have hR:=(ur hB rest (g+1) (i::acc) l ts h hc o4 hk2).2
   have hall:∀j∈dX df ops cs B l,j∉acc->∃c,cs[j]?=some c/\sK P G c ts h (λts' h'=>PK G pd l j ts' h'/\oU df B P G ops cs pd Q Qp g (l.setIfInBounds j true) ts' h') Qp:=λj hj hn=>by
    by_cases e:j=i
    ·subst e;exact⟨ci,hci,hI⟩
    ·exact(hR j hj (by simp[e,hn])).2
   exact⟨λe=>⟨λh0=>(by have:=kg o1;rw[h0] at this;cases this),λj hj=>hall j hj (by rw[e];simp)⟩,λj hj hn=>⟨by omega,hall j hj hn⟩⟩
variable {W0:World} {S0:Nat->Prop} {φ0:Place} {h0:List AO}
def cnt(listed:Array Bool):Nat->Nat
 |0=>0
 |n+1=>cnt listed n+if listed.getD n true=false then 1 else 0
theorem Jo(listed:Array Bool):∀n,cnt listed n<=n
 |0=>Wo _
 |n+1=>by simp only[cnt];have:=Jo listed n;split<;>omega
theorem FU{listed:Array Bool}:∀{n:Nat},cnt listed n=0->∀l,l<n->listed.getD l true=true
 |n+1,h,l,hl=>by
  simp only[cnt] at h
  by_cases hn:listed.getD n true=false
  ·rw[Wz hn] at h;omega
  ·by_cases e:l=n
   ·subst e;simpa using hn
   ·exact FU (n:=n) (by omega) l (by omega)
theorem la{listed:Array Bool}{i l:Nat}(h:(listed.setIfInBounds i true).getD l true=false):listed.getD l true=false/\l≠i:=by
 by_cases e:i=l
 ·subst e;rcases Xh i listed.size with h'|h'
  ·simp[h'] at h
  ·simp[] at h
 ·rw[getD_set_ne true e] at h;exact⟨h,Ne.symm e⟩
theorem Gv(listed:Array Bool)(i:Nat):∀n,cnt (listed.setIfInBounds i true) n<=cnt listed n
 |0=>Wo _
 |n+1=>by
  simp only[cnt];have:=Gv listed i n;split
  ·rename_i h;rw[Wz (la h).1];omega
  ·omega
theorem IJ{listed:Array Bool}{i:Nat}(h:listed.getD i true=false):∀{n:Nat},i<n->cnt (listed.setIfInBounds i true) n+1<=cnt listed n
 |n+1,hi=>by
  simp only[cnt]
  by_cases e:i=n
  ·subst e;have:=Gv listed i i;rw[Wz h,WB (λhh=>(la hh).2 rfl)];omega
  ·have:=IJ h (n:=n) (by omega);split
   ·rename_i hh;rw[Wz (la hh).1];omega
   ·omega
def Ld(ops:Array Oper)(cs:List CO)(B:List (List Nat))(i0 d:Nat):Bool:=
 (List.range ops.size).all λj=>match ops[j]?,cs[j]? with
   |some o,some c=>(zE o).all (λx=>decide (x<j))&&(!(zE o).contains i0||(B.getD j []).contains i0)&&(j==i0||c.dst !=some d)&&
     (!(B.getD j []).contains i0||(List.range ops.size).all λl=>l==i0||(B.getD l []).contains i0||(B.getD j []).contains l||slB cs l)
   |_,_=>false
theorem vK{B:List (List Nat)}{i0 d:Nat}(h:Ld ops cs B i0 d=true){j:Nat}{o:Oper}(ho:ops[j]?=some o):
 ∃c,cs[j]?=some c/\(∀x∈zE o,x<j)/\(i0∈zE o->i0∈B.getD j [])/\(j≠i0->c.dst≠some d)/\(i0∈B.getD j []->∀l,l<ops.size->l=i0\/i0∈B.getD l []\/l∈B.getD j []\/slB cs l=true):=by
 have hj:j<ops.size:=(WU.1 ho).1;have:=Wu.1 h j (by simpa using hj);rw[ho] at this;cases hc:cs[j]? with
 |none=>rw[hc] at this;cases this
 |some c=>
  rw[hc] at this;simp only[Wr,XA,Wu,Xn,Wx,beq_iff_eq,bne_iff_ne,Yx,Yi,ne_eq] at this;obtain⟨⟨⟨t1,t2⟩,t3⟩,t4⟩:=this;refine⟨c,rfl,t1,λhm=>?_,λhn=>?_,λhm l hl=>?_⟩
  ·rcases t2 with t2|t2
   ·rw[Yi.2 hm] at t2;cases t2
   ·exact t2
  ·exact t3.resolve_left hn
  ·rcases t4 with t4|t4
   ·rw[Yi.2 hm] at t4;cases t4
   ·rcases t4 l hl with((h|h)|h)|h
    ·exact .inl h
    ·exact .inr (.inl h)
    ·exact .inr (.inr (.inl h))
    ·exact .inr (.inr (.inr h))
theorem Ot{B:List (List Nat)}{i0 d:Nat}(h:Ld ops cs B i0 d=true){listed:Array Bool}(hsz:listed.size=ops.size)(he:Region.ready .any ops listed=[]):∀j,j<ops.size->listed.getD j true=true:=by
 intro j
 induction j using Nat.strongRecOn with
 |ind j ih=>
  intro hj
  by_cases hun:listed.getD j true=true
  ·exact hun
  ·exfalso;obtain⟨o,ho⟩:∃o,ops[j]?=some o:=⟨_,WW hj⟩;obtain⟨c,_,t1,_⟩:=vK h ho
   have:j∈Region.ready .any ops listed:=mem_ready.2 ⟨by simpa using hun,o,ho,λe he hb=>by
    have hlt:=t1 _ (GR he hb);have h1:=ih e.on hlt (by omega);have h2:e.on<listed.size:=(by omega);simp[h2] at h1⊢;exact h1⟩
   rw[he] at this;cases this
structure PendR (n0:Nat) (z:List AV) (d b:Nat) (W:World) (S:Nat->Prop) (φ:Place) (a:Act) (ts:List AV) (h:List AO):Prop where
 lt:b<W.heap.size
 ge:n0<=b
 obj:∃c t,W.heap[b]?=some (.cells c t (0,0))/\Ptw W S φ h.length z c.toList
 notS:¬S b
 own:∀id,Live h id->(φ id).1≠b
 tmp:d<ts.length->a.tmps.getD d undef= .pointer (some ⟨b,0,none⟩)
 any:ts.getD d .any= .any
theorem PendR.step{n0:Nat}{z:List AV}{d b:Nat}{W W':World}{S S':Nat->Prop}{φ φ':Place}{a:Act}{ts ts':List AV}{h h':List AO}(p:PendR n0 z d b W S φ a ts h)(K:Keep W S φ h W' S' φ' h')
 {o:Option Nat}{x:Value}{u:AV}(ho:o≠some d)(ht:ts'=put o u ts):PendR n0 z d b W' S' φ' (a.put o x) ts' h' where
 lt:=WN p.lt K.size
 ge:=p.ge
 obj:=by
  obtain⟨c,t,h1,h2⟩:=p.obj;exact⟨c,t,by rw[K.out b p.lt p.own];exact h1,h2.1,λj c v h3 h4=>(h2.2 j c v h3 h4).kept K.toKept⟩
 notS:=λhb=>by
  rcases K.newS b hb with h1|h1|⟨id,h1,h2⟩
  ·exact p.notS h1
  ·have:=p.lt;omega
  ·exact p.own _ h1 h2
 own:=λid e he=>by
  rcases K.img id e with h1|⟨id2,h1,h2⟩
  ·have:=p.lt;omega
  ·exact p.own _ h1 (h2.trans he)
 tmp:=λhd=>by
  have hd':d<ts.length:=by subst ht;cases o<;>simpa[put] using hd
  rw[←p.tmp hd'];cases o with
  |none=>rfl
  |some e=>
   have hne:e≠d:=λhh=>ho (by rw[hh]);simp[Act.put,XB hne]
 any:=by subst ht;exact(ij (d:=o) λe he hn=>ho (by rw[he,hn])).trans p.any
theorem PendR.told{z:List AV}{d b:Nat}{W:World}{S:Nat->Prop}{φ:Place}{a:Act}{ts:List AV}{h:List AO}(p:PendR W0.heap.size z d b W S φ a ts h)(hz:z.all AV.isCell=true)(s:St G W0 S0 φ0 h0 W S φ a ts h):
 ∃φ',St G W0 S0 φ0 h0 W S φ' a (put (some d) (.ptr h.length z.length 0 0) ts) (h++[.row z.length [z]]):=by
 obtain⟨c,t,hb,hp⟩:=p.obj;have H:=s.hrel;have hφ:∀{i},i<h.length->upd φ h.length (b,0) i=φ i:=λhi=>by simp only[upd];rw[WB (by omega)]
 have hφn:upd φ h.length (b,0) h.length=(b,0):=by simp[upd]
 have hl0:(h++[AO.row z.length [z]]).length=h.length+1:=by simp
 have K1:Kept W S φ h.length W S (upd φ h.length (b,0)) (h++[AO.row z.length [z]]).length:=
  {pure:=λb hb=>⟨hb,rfl⟩
   len:=by omega
   same:=λid hid=>hφ hid
   blk:=λi hi c' t' fr' e=>⟨c',t',fr',e,rfl⟩}
 have hget:∀{i o},(h++[AO.row z.length [z]])[i]?=some o->(i=h.length/\o= .row z.length [z])\/(i<h.length/\h[i]?=some o):=λ{i o} e=>by
  rcases YD i h.length with hi|hi|hi
  ·rw[Wb hi] at e;exact .inr ⟨hi,e⟩
  ·subst hi;simp at e;exact .inl ⟨rfl,e.symm⟩
  ·rw[WS (by simp;omega)] at e;cases e
 refine⟨upd φ h.length (b,0),⟨?_,?_,s.defers,?_⟩⟩
 ·refine⟨λi s1 es1 e=>?_,λi o1 e lo=>?_,λi i' ⟨o1,e1,l1⟩ ⟨o2,e2,l2⟩ he=>?_,λb' hb'=>⟨(H.sep b' hb').1,λi ⟨o1,e,l1⟩ he=>?_⟩,λi hi=>?_,H.glob⟩
  ·rcases hget e with⟨rfl,eo⟩|⟨hi,e'⟩
   ·cases eo;refine⟨c,t,(0,0),by rw[hφn];exact hb,λj _ hh=>by omega,by simp,?_,λj u hj=>?_⟩
    ·have hq:=hp.1;simp only[YA] at hq;rw[hφn];simp only[Xf,Zb,WV];omega
    ·simp only[WX,List.flatten_nil,WI] at hj;have hjl:j<c.toList.length:=(by have:=(Wa.1 hj).1;rw[hp.1];exact this);refine⟨Wu.1 hz u (Wq hj),c.toList[j],?_,(hp.2 j u _ hj (Wc hjl)).kept K1⟩;rw[hφn];simp at hjl⊢;try simp[hjl]
   ·obtain⟨c1,t1,fr1,a1,a2,a3,a4,a5⟩:=H.obj i s1 es1 e';refine⟨c1,t1,fr1,by rw[hφ hi];exact a1,a2,a3,by rw[hφ hi];exact a4,λj u hj=>?_⟩;obtain⟨b1,v,b2,b3⟩:=a5 j u hj;exact⟨b1,v,by rw[hφ hi];exact b2,b3.kept K1⟩
  ·rcases hget e with⟨rfl,eo⟩|⟨hi,e'⟩
   ·cases eo;trivial
   ·rw[hφ hi];exact(H.oobj i o1 e' lo).mono λa v r=>r.kept K1
  ·rcases hget e1 with⟨rfl,_⟩|⟨hi,e1'⟩<;>rcases hget e2 with⟨rfl,_⟩|⟨hi',e2'⟩
   ·rfl
   ·rw[hφn,hφ hi'] at he;exact(p.own _ ⟨_,e2',l2⟩ he.symm).elim
   ·rw[hφn,hφ hi] at he;exact(p.own _ ⟨_,e1',l1⟩ he).elim
   ·rw[hφ hi,hφ hi'] at he;exact H.inj _ _ ⟨_,e1',l1⟩ ⟨_,e2',l2⟩ he
  ·rcases hget e with⟨rfl,_⟩|⟨hi,e'⟩
   ·rw[hφn] at he;subst he;exact p.notS hb'
   ·rw[hφ hi] at he;exact(H.sep b' hb').2 _ ⟨_,e',l1⟩ he
  ·rcases Xh i h.length with hi'|hi'
   ·rw[hφ hi'];exact H.bnd _ hi'
   ·have:i=h.length:=(by omega);subst this;rw[hφn];exact p.lt
 ·have T:=s.trel.kept K1;refine⟨by rw[T.size];simp[put],λi v hi=>?_⟩
  by_cases e:d=i
  ·subst e;simp only[put] at hi;have hd:d<ts.length:=by have:=(Wa.1 hi).1;simpa using this
   rw[Wh hd] at hi;cases hi;rw[p.tmp hd];have:=VRel.ptr (W:=W) (S:=S) (φ:=upd φ h.length (b,0)) (n:=(h++[AO.row z.length [z]]).length) h.length z.length 0 0 (by simp);simpa[upd] using this
  ·simp only[put] at hi;rw[Wd e] at hi;exact T.get i v hi
 ·have k:=s.keep;refine{(Kept.mk (λb hb=>k.pure b hb) (by have:=k.len;omega) (λid hid=>?_) (λid hid c' t' fr' e=>k.blk id hid c' t' fr' e):Kept W0 S0 φ0 h0.length W S (upd φ h.length (b,0)) (h++[AO.row z.length [z]]).length) with os:=k.os,tape:=k.tape,output:=k.output,size:=k.size,out:=k.out,img:=λid ⟨o,e,l⟩=>?_,newS:=k.newS}
  ·rw[hφ (WN hid k.len)];exact k.same id hid
  ·rcases hget e with⟨rfl,_⟩|⟨hi,e'⟩
   ·rw[hφn];exact .inl p.ge
   ·rw[hφ hi];exact k.img id ⟨_,e',l⟩
section run
variable {B:List (List Nat)} {Q':Exit->Act->World->Prop} {K:KT} {Qp:QP} (hok:eB P ops ops.toList cs) (hK:∀a' W' S' φ' ts' h',St G W0 S0 φ0 h0 W' S' φ' a' ts' h'->K ts' h'->Q' .normal a' W') (hQ:∀a W' S' φ' ts h' t v x,PRel W' S' v x->St G W0 S0 φ0 h0 W' S' φ' a ts h'->Qp t v h'->Q' (.panic [{v:= .iface t x,recovered:=false}]) a W')
include hok hK hQ
theorem DW{i:Nat}{c:CO}{o:Oper}(ho:ops[i]?=some o)(hc:cs[i]?=some c){W:World}{S:Nat->Prop}{φ:Place}{a:Act}{ts:List AV}{h:List AO}(s:St G W0 S0 φ0 h0 W S φ a ts h){K1:KT}{X:Act->World->Prop}
 (hs:sK P G c ts h K1 Qp)(hX:∀a' W' S' φ' ts' h',(∃x,a'=a.put o.dst x)->St G W0 S0 φ0 h0 W' S' φ' a' ts' h'->Keep W S φ h W' S' φ' h'->K1 ts' h'->X a' W'):wpOp P ops Q' i X a W:=by
 have _hK:=hK;have s1:St G W S φ h W S φ a ts h:=⟨s.hrel,s.trel,s.defers,Keep.refl s.hrel⟩
 have:=Bn (hok.2 i o c (by simpa using ho) hc) s1 hs (K':=X) (Q':=Q')
  (λa' W' S' φ' ts' h' hx s' k'=>hX a' W' S' φ' ts' h' hx ⟨s'.hrel,s'.trel,s'.defers,s.keep.trans s'.keep⟩ s'.keep k')
  (λW' S' φ' h' t v x k1 k2 k3=>hQ _ _ _ _ _ _ _ _ _ k1 ⟨k2.hrel,k2.trel,k2.defers,s.keep.trans k2.keep⟩ k3)
 unfold wpOp;simp only[ho];rcases this with⟨hw,h1⟩|⟨hw,h1⟩
 ·rw[Wz hw];exact .inl h1
 ·rw[WB (by simp[hw])];exact h1
theorem de:∀(fuel:Nat) (listed:Array Bool) (W:World) (S:Nat->Prop) (φ:Place) (a:Act) (ts:List AV) (h:List AO),(∀i0,df=some i0->listed.getD i0 true=true)->
 St G W0 S0 φ0 h0 W S φ a ts h->oU df B P G ops cs pd K Qp fuel listed ts h->wpAny P .any ops Q' fuel listed a W
 |0,listed,W,S,φ,a,ts,h,_,s,hr=>⟨hr.1,hK _ _ _ _ _ _ s hr.2⟩
 |fuel+1,listed,W,S,φ,a,ts,h,hd,s,hr=>by
  refine⟨λh0=>hK _ _ _ _ _ _ s (hr.1 h0),λi hi=>?_⟩;obtain⟨hun,o,ho,_⟩:=mem_ready.1 hi
  obtain⟨c,hc,hs⟩:=hr.2 i (WM.2 ⟨hi,by
   have:df≠some i:=λe=>(by have:=hd i e;rw[hun] at this;cases this);simp[this]⟩)
  refine DW hok hK hQ ho hc s hs λa' W' S' φ' ts' h' _ s' _ k'=>de fuel _ W' S' φ' a' ts' h' (λi0 e=>?_) s' k'.2
  by_cases e2:i=i0
  ·subst e2;rw[hd i e] at hun;cases hun
  ·rw[getD_set_ne true e2];exact hd i0 e
theorem HQ{i0 d:Nat}{z:List AV}{b:Nat}(hdf:df=some i0)(hc0:cs[i0]?=some ⟨some d,none,.alloc z⟩)(hz:z.all AV.isCell=true)(hB:BOk ops B)(hdo:Ld ops cs B i0 d=true):
 ∀(fuel:Nat) (listed:Array Bool) (W:World) (S:Nat->Prop) (φ:Place) (a:Act) (ts:List AV) (h:List AO),listed.size=ops.size->cnt (listed.setIfInBounds i0 true) ops.size<=fuel->Clo ops listed->i0∈Region.ready .any ops listed->
 St G W0 S0 φ0 h0 W S φ a ts h->PendR W0.heap.size z d b W S φ a ts h->oU df B P G ops cs pd K Qp (fuel+1) listed ts h->wpAny P .any ops Q' fuel (listed.setIfInBounds i0 true) a W:=by
 intro fuel
 induction fuel with
 |zero=>
  intro listed W S φ a ts h hsz hcnt hclo hr0 s p hr
  have hl:tc cs ops.size B i0 listed=true:=by
   simp only[tc,Wu,Xn,XA,beq_iff_eq];intro l hl
   by_cases e:l=i0
   ·exact .inl (.inl (.inl e))
   ·have:=FU (Nat.le_zero.1 hcnt) l hl;rw[getD_set_ne true (Ne.symm e)] at this;exact .inl (.inl (.inr this))
  obtain⟨c,hc,hs⟩:=hr.2 i0 (WM.2 ⟨hr0,by simp[hl]⟩);rw[hc0] at hc;cases hc;obtain⟨v,h',e1,_,e2⟩:=(hs:okE (ev G ts h (.alloc z)) _);cases e1;obtain⟨φ',s'⟩:=p.told hz s;refine de hok hK hQ 0 _ W S φ' a _ _ (λi1 e=>?_) s' e2;rw[hdf] at e;cases e;have:i0<listed.size:=by obtain⟨_,o,ho,_⟩:=mem_ready.1 hr0;rw[hsz];exact(WU.1 ho).1
  simp[this]
 |succ fuel ih=>
  intro listed W S φ a ts h hsz hcnt hclo hr0 s p hr;have hi0:i0<listed.size:=by obtain⟨_,o,ho,_⟩:=mem_ready.1 hr0;rw[hsz];exact(WU.1 ho).1
  by_cases hl:tc cs ops.size B i0 listed=true
  ·obtain⟨c,hc,hs⟩:=hr.2 i0 (WM.2 ⟨hr0,by simp[hl]⟩);rw[hc0] at hc;cases hc;obtain⟨v,h',e1,_,e2⟩:=(hs:okE (ev G ts h (.alloc z)) _);cases e1;obtain⟨φ',s'⟩:=p.told hz s;refine de hok hK hQ (fuel+1) _ W S φ' a _ _ (λi1 e=>?_) s' e2;rw[hdf] at e;cases e;simp[hi0]
  ·have hlate:∀{x:Array Bool},x=listed.setIfInBounds i0 true->(∀l,l<ops.size->l=i0\/i0∈B.getD l []\/x.getD l false=true\/slB cs l=true)->False:=λhx hh=>hl (by
    simp only[tc,Wu,Xn,XA,beq_iff_eq];intro l hll;rcases hh l hll with h1|h1|h1|h1
    ·exact .inl (.inl (.inl h1))
    ·exact .inl (.inr (by simpa using h1))
    ·by_cases e:l=i0
     ·exact .inl (.inl (.inl e))
     ·subst hx;rw[getD_set_ne false (Ne.symm e)] at h1;have:l<listed.size:=(by omega);refine .inl (.inl (.inr ?_));simp[this] at h1⊢;exact h1
    ·exact .inr h1)
   refine⟨λhe=>?_,λi hi=>?_⟩
   ·exfalso;have:=Ot hdo (by simpa using hsz) he;refine hlate rfl λl hll=> .inr (.inr (.inl ?_));have h1:=this l hll;have h2:l<(listed.setIfInBounds i0 true).size:=(by simp;omega);simp only[Xg,WW h2,Yb] at h1⊢;exact h1
   ·obtain⟨hun,o,ho,hall⟩:=mem_ready.1 hi;obtain⟨hunl,hne⟩:=la hun;have hil:i<ops.size:=(WU.1 ho).1;obtain⟨c1,hc1,t1,t2,t3,t4⟩:=vK hdo ho;have hclo':=hclo.step hr0
    have hno:i0∉zE o:=λhm=>by
     refine hlate rfl λl hll=>?_;rcases t4 (t2 hm) l hll with h1|h1|h1|h1
     ·exact .inl h1
     ·exact .inr (.inl h1)
     ·exact .inr (.inr (.inl (hB i l h1 _ hclo' (jN hi))))
     ·exact .inr (.inr (.inr h1))
    have hri:i∈Region.ready .any ops listed:=mem_ready.2 ⟨hunl,o,ho,λe he hb=>by
     have h1:=hall e he hb;have h2:e.on≠i0:=λh3=>hno (by rw[←h3];exact GR he hb);rw[getD_set_ne false (Ne.symm h2)] at h1;exact h1⟩
    obtain⟨c,hc,hs⟩:=hr.2 i (WM.2 ⟨hri,by rw[hdf];simp[Ne.symm hne]⟩);rw[hc1] at hc;cases hc;have hdst:=(hok.2 i o c1 (by simpa using ho) hc1).1;have hs':sK P G c1 ts h (λts' h'=>(∃u,ts'=put c1.dst u ts)/\oU df B P G ops cs pd K Qp (fuel+1) (listed.setIfInBounds i true) ts' h') Qp:=eM (λts' h' hu k=>⟨hu,k.2⟩) hs;refine DW hok hK hQ ho hc1 s hs' λa' W' S' φ' ts' h' ⟨x,hx⟩ s' kp ⟨⟨u,hu⟩,k'⟩=>?_;rw[YU _ _ (Ne.symm hne)];refine ih (listed.setIfInBounds i true) W' S' φ' a' ts' h' (by simpa using hsz) ?_ (hclo.step hri) (ready_mono hr0 (Ne.symm hne)) s' ?_ k'
    ·rw[YU _ _ hne];have:=IJ hun hil;omega
    ·subst hx;exact p.step kp (by rw[←hdst];exact t3 hne) (by rw[←hdst];exact hu)
theorem sJ{i0 d:Nat}{z:List AV}(hdf:df=some i0)(hc0:cs[i0]?=some ⟨some d,none,.alloc z⟩)(hB:BOk ops B)(hdo:Ld ops cs B i0 d=true):
 ∀(fuel:Nat) (listed:Array Bool) (W:World) (S:Nat->Prop) (φ:Place) (a:Act) (ts:List AV) (h:List AO),listed.size=ops.size->cnt listed ops.size<=fuel->Clo ops listed->listed.getD i0 true=false->ts.getD d .any= .any->
 St G W0 S0 φ0 h0 W S φ a ts h->oU df B P G ops cs pd K Qp fuel listed ts h->wpAny P .any ops Q' fuel listed a W
 |0,listed,W,S,φ,a,ts,h,_,_,_,_,_,s,hr=>⟨hr.1,hK _ _ _ _ _ _ s hr.2⟩
 |fuel+1,listed,W,S,φ,a,ts,h,hsz,hcnt,hclo,hun0,hany,s,hr=>by
  refine⟨λh0=>hK _ _ _ _ _ _ s (hr.1 h0),λi hi=>?_⟩;obtain⟨hun,o,ho,_⟩:=mem_ready.1 hi;have hil:i<ops.size:=(WU.1 ho).1;have hil':i<listed.size:=by omega
  have hcnt':cnt (listed.setIfInBounds i true) ops.size<=fuel:=by have:=IJ hun hil;omega
  obtain⟨c1,hc1,t1,t2,t3,t4⟩:=vK hdo ho;have hdst:=(hok.2 i o c1 (by simpa using ho) hc1).1
  by_cases hD:i∈dX df ops cs B listed
  ·obtain⟨c,hc,hs⟩:=hr.2 i hD;rw[hc1] at hc;cases hc;have hs':sK P G c1 ts h (λts' h'=>(∃u,ts'=put c1.dst u ts)/\oU df B P G ops cs pd K Qp fuel (listed.setIfInBounds i true) ts' h') Qp:=eM (λts' h' hu k=>⟨hu,k.2⟩) hs;refine DW hok hK hQ ho hc1 s hs' λa' W' S' φ' ts' h' _ s' _ ⟨⟨u,hu⟩,k'⟩=>?_
   by_cases e:i=i0
   ·subst e;exact de hok hK hQ fuel _ W' S' φ' a' ts' h' (λi1 e1=>by rw[hdf] at e1;cases e1;simp[hil']) s' k'
   ·refine sJ hdf hc0 hB hdo fuel _ W' S' φ' a' ts' h' (by simpa using hsz) hcnt' (hclo.step hi) (by rw[getD_set_ne true e];exact hun0) ?_ s' k';subst hu;exact(ij (d:=c1.dst) λe' he hn=>t3 e (by rw[he,hn])).trans hany
  ·
   have e:i=i0:=by
    apply Classical.byContradiction;intro e;exact hD (WM.2 ⟨hi,by rw[hdf];simp[Ne.symm e]⟩)
   subst e;rw[hc0] at hc1;cases hc1;obtain⟨_,hg,hcomp⟩:=hok.2 i o _ (by simpa using ho) hc0
   have hcomp':bM P o=some (.alloc z):=by
    rcases hcomp with⟨h1,_⟩|⟨f,l,_,e⟩|⟨f,l,_,e⟩|⟨f,l,_,e⟩|⟨_,_,_,_,_,e⟩|e
    ·exact h1
    ·cases e
    ·cases e
    ·cases e
    ·cases e
    ·have:=mt P o;rw[e] at this;cases this
   have hng:o.guard=none:=by
    cases hgo:o.guard with
    |none=>rfl
    |some q=>rw[hgo] at hg;exact hg.elim
   obtain⟨hz,zc,t,r1,r2⟩:=Mt hcomp' W S φ h.length a;unfold wpOp;simp only[ho];have hw:Region.wanted o (yielded ops a.tmps)=true:=(by unfold Region.wanted;rw[hng]);rw[Wz hw];refine .inl ?_;refine oL r1 (.value _) ?_;obtain⟨A,Bk⟩:=IU s.hrel (.cells zc t);have hd':o.dst=some d:=hdst.symm;rw[hd'];have hdl:d<ts.length\/ts.length<=d:=Xh _ _;have T:=s.trel.kept Bk.toKept
   have T':TRel (W.alloc (.cells zc t)) S φ h.length ts (a.put (some d) (.pointer (some ⟨W.heap.size,0,none⟩))).tmps:=by
    refine⟨by simpa[Act.put] using T.size,λj v hj=>?_⟩
    by_cases e:d=j
    ·subst e;rw[Wv,hj] at hany;simp at hany;subst hany;exact .any _
    ·simp only[Act.put,Xg,XB e];have:=T.get j v hj;rw[Xg] at this;exact this
   have s':St G W0 S0 φ0 h0 (W.alloc (.cells zc t)) S φ (a.put (some d) (.pointer (some ⟨W.heap.size,0,none⟩))) ts h:=⟨A,T',s.defers,s.keep.trans Bk⟩;refine HQ hok hK hQ hdf hc0 hz hB hdo fuel listed _ S φ _ ts h hsz hcnt' hclo hi s' (b:=W.heap.size) ⟨?_,s.keep.size,⟨zc,t,?_,r2.1,λj c v h1 h2=>(r2.2 j c v h1 h2).kept Bk.toKept⟩,λhb=>?_,λid e he=>?_,?_,hany⟩ hr
   ·show _<(W.heap.push _).size;simp
   ·show(W.heap.push _)[W.heap.size]?=_;simp
   ·have:=(s.hrel.sep _ hb).1;omega
   ·have:=s.hrel.bnd id e.lt;omega
   ·intro hdt;have:d<a.tmps.size:=(by rw[s.trel.size];exact hdt);simp[Act.put,this]
end run
theorem St.drew{W:World}{S:Nat->Prop}{φ:Place}{a:Act}{ts:List AV}{h:List AO}(s:St G W0 S0 φ0 h0 W S φ a ts h):St G W0 S0 φ0 h0 {W with drawn:=W.drawn+1} S φ a ts h:=by
 have K:Keep W S φ h {W with drawn:=W.drawn+1} S φ h:=by
  have k:=Keep.refl s.hrel;exact{pure:=k.pure,len:=k.len,same:=k.same,blk:=k.blk,os:=rfl,tape:=rfl,output:=rfl,size:=Wo _,out:=k.out,img:=k.img,newS:=k.newS}
 exact⟨⟨λid sz es e=>by
  obtain⟨c,t,fr,a1,a2,a3,a4,a5⟩:=s.hrel.obj id sz es e;exact⟨c,t,fr,a1,a2,a3,a4,λj u hj=>by obtain⟨b1,v,b2,b3⟩:=a5 j u hj;exact⟨b1,v,b2,b3.kept K.toKept⟩⟩,λid o e lo=>(s.hrel.oobj id o e lo).mono λa v r=>r.kept K.toKept,s.hrel.inj,s.hrel.sep,s.hrel.bnd,λg cs hg=>by
  obtain⟨g1,g2⟩:=s.hrel.glob g cs hg;exact⟨g1,λj c hj=>by obtain⟨v,v1,v2⟩:=g2 j c hj;exact⟨v,v1,v2.mono K.pure⟩⟩⟩,s.trel.kept K.toKept,s.defers,s.keep.trans K⟩
def ln(ops:Array Oper)(cs:List CO):Option (Nat × Nat)->Bool
 |none=>true
 |some (i0,d)=>(match cs[i0]? with
   |some ⟨some d',none,.alloc _⟩=>d'==d
   |_=>false)&&Ld ops cs (uB ops.toList []) i0 d
def forget(df:Option (Nat × Nat)):List CO:=
 match df with
 |none=>[]
 |some (_,d)=>[⟨some d,none,.mov (.c .any)⟩]
theorem Jh(hm:P.follows .mixedOrders=true){id:Nat}(hok:eB P ops ops.toList cs){df:Option (Nat × Nat)}(hdf:ln ops cs df=true){π:List Nat}(hπ:π.length=ops.size)
 (ho:vU (df.map (·.1)) ops cs (uB ops.toList []) pd π (Array.replicate ops.size false)=true)
 {W:World}{S:Nat->Prop}{φ:Place}{a:Act}{ts:List AV}{h:List AO}(s:St G W0 S0 φ0 h0 W S φ a ts h){Q:AX->List AV->List AO->Prop}
 (hr:rK P G (forget df++ug cs pd π) ts h (Q .normal) (λt v h'=>∀ts',Q (.pan t v) ts' h')):(Code.region id ops true).wp P (Di G W0 S0 φ0 h0 Q) a W:=by
 have hB:BOk ops (uB ops.toList []):=ES ops ops.toList [] (λj=>by simp) (λj i hi=>by simp at hi)
 have hC:Clo ops (Array.replicate ops.size false):=λj o _ hj=>by
  simp[Xg,Array.getElem?_replicate] at hj;split at hj<;>simp at hj
 have hK:∀a' W' S' φ' ts' h',St G W0 S0 φ0 h0 W' S' φ' a' ts' h'->Q .normal ts' h'->Di G W0 S0 φ0 h0 Q .normal a' W':=λa' W' S' φ' ts' h' s' k=>⟨.normal,ts',h',S',φ',k,.normal,s'⟩
 have hQ:∀a W' S' φ' ts h' t v x,PRel W' S' v x->St G W0 S0 φ0 h0 W' S' φ' a ts h'->(∀ts',Q (.pan t v) ts' h')->Di G W0 S0 φ0 h0 Q (.panic [{v:= .iface t x,recovered:=false}]) a W':=
  λa' W' S' φ' ts' h' t v x k1 k2 k3=>⟨.pan t v,ts',h',S',φ',k3 ts',.pan t v x k1,k2⟩
 cases df with
 |none=>
  refine wp_region_any hm (de (df:=none) (B:=uB ops.toList []) (pd:=pd) hok hK hQ _ _ _ S φ a ts h (λi0 e=>by cases e) s.drew ?_);rw[←hπ];exact Bl hB π _ ts h (by rw[hπ];exact hC) (by rw[hπ];exact ho) hr
 |some q=>
  obtain⟨i0,d⟩:=q;simp only[ln,Wr] at hdf;obtain⟨g1,g2⟩:=hdf;split at g1<;>first|(cases g1;done)|skip
  rename_i d' z hc0;have:d'=d:=by simpa using g1
  subst this
  have hi0:i0<ops.size:=by
   have h1:=(Wa.1 hc0).1;have h2:=hok.1;simp at h2;omega
  have hr':rK P G (ug cs pd π) (put (some d') .any ts) h (Q .normal) (λt v h'=>∀ts',Q (.pan t v) ts' h'):=by
   obtain⟨v,h',e1,k⟩:=(hr:okE (ev G ts h (.mov (.c .any))) _);cases e1;exact k
  have sd:=s.drew
  have s':St G W0 S0 φ0 h0 {W with drawn:=W.drawn+1} S φ a (put (some d') .any ts) h:=by
   refine⟨sd.hrel,⟨by rw[sd.trel.size];simp[put],λi v hi=>?_⟩,sd.defers,sd.keep⟩
   by_cases e:d'=i
   ·subst e;simp only[put] at hi;have hd:d'<ts.length:=(by have:=(Wa.1 hi).1;simpa using this);rw[Wh hd] at hi;cases hi;exact .any _
   ·simp only[put] at hi;rw[Wd e] at hi;exact sd.trel.get i v hi
  refine wp_region_any hm (sJ (df:=some i0) (B:=uB ops.toList []) (pd:=pd) hok hK hQ rfl hc0 hB g2 ops.size _ _ S φ a (put (some d') .any ts) h (by simp) (Jo _ _) hC (by simp[hi0]) ?_ s' ?_)
  ·simp only[put];rcases Xh d' ts.length with hd|hd
   ·simp[Wv,Wh hd]
   ·rw[YH hd];simp[WS hd]
  ·rw[←hπ];exact Bl hB π _ _ h (by rw[hπ];exact hC) (by rw[hπ];exact ho) hr'
theorem Lw(hm:P.follows .mixedOrders=true){id:Nat}(hok:eB P ops ops.toList cs){df:Option (Nat × Nat)}(hdf:ln ops cs df=true)(t:OTi)
 (ho:nR (df.map (·.1)) ops cs (uB ops.toList []) pd ops.size t [] (Array.replicate ops.size false)=true)
 {W:World}{S:Nat->Prop}{φ:Place}{a:Act}{ts:List AV}{h:List AO}(s:St G W0 S0 φ0 h0 W S φ a ts h){Q:AX->List AV->List AO->Prop}
 (hr:otK P G (.one (forget df) (t.comp cs pd (Array.replicate ops.size false))) ts h (Q .normal) (λt v h'=>∀ts',Q (.pan t v) ts' h')):(Code.region id ops true).wp P (Di G W0 S0 φ0 h0 Q) a W:=by
 have hB:BOk ops (uB ops.toList []):=ES ops ops.toList [] (λj=>by simp) (λj i hi=>by simp at hi)
 have hC:Clo ops (Array.replicate ops.size false):=λj o _ hj=>by
  simp[Xg,Array.getElem?_replicate] at hj;split at hj<;>simp at hj
 have hK:∀a' W' S' φ' ts' h',St G W0 S0 φ0 h0 W' S' φ' a' ts' h'->Q .normal ts' h'->Di G W0 S0 φ0 h0 Q .normal a' W':=λa' W' S' φ' ts' h' s' k=>⟨.normal,ts',h',S',φ',k,.normal,s'⟩
 have hQ:∀a W' S' φ' ts h' t v x,PRel W' S' v x->St G W0 S0 φ0 h0 W' S' φ' a ts h'->(∀ts',Q (.pan t v) ts' h')->Di G W0 S0 φ0 h0 Q (.panic [{v:= .iface t x,recovered:=false}]) a W':=
  λa' W' S' φ' ts' h' t v x k1 k2 k3=>⟨.pan t v,ts',h',S',φ',k3 ts',.pan t v x k1,k2⟩
 cases df with
 |none=>
  refine wp_region_any hm (de (df:=none) (B:=uB ops.toList []) (pd:=pd) hok hK hQ _ _ _ S φ a ts h (λi0 e=>by cases e) s.drew ?_);exact(ur hB t ops.size [] _ ts h hC ho hr).1 rfl
 |some q=>
  obtain⟨i0,d⟩:=q;simp only[ln,Wr] at hdf;obtain⟨g1,g2⟩:=hdf;split at g1<;>first|(cases g1;done)|skip
  rename_i d' z hc0;have:d'=d:=by simpa using g1
  subst this
  have hi0:i0<ops.size:=by
   have h1:=(Wa.1 hc0).1;have h2:=hok.1;simp at h2;omega
  have hr':otK P G (t.comp cs pd (Array.replicate ops.size false)) (put (some d') .any ts) h (Q .normal) (λt v h'=>∀ts',Q (.pan t v) ts' h'):=by
   obtain⟨v,h',e1,k⟩:=(hr:okE (ev G ts h (.mov (.c .any))) _);cases e1;exact k
  have sd:=s.drew
  have s':St G W0 S0 φ0 h0 {W with drawn:=W.drawn+1} S φ a (put (some d') .any ts) h:=by
   refine⟨sd.hrel,⟨by rw[sd.trel.size];simp[put],λi v hi=>?_⟩,sd.defers,sd.keep⟩
   by_cases e:d'=i
   ·subst e;simp only[put] at hi;have hd:d'<ts.length:=(by have:=(Wa.1 hi).1;simpa using this);rw[Wh hd] at hi;cases hi;exact .any _
   ·simp only[put] at hi;rw[Wd e] at hi;exact sd.trel.get i v hi
  refine wp_region_any hm (sJ (df:=some i0) (B:=uB ops.toList []) (pd:=pd) hok hK hQ rfl hc0 hB g2 ops.size _ _ S φ a (put (some d') .any ts) h (by simp) (Jo _ _) hC (by simp[hi0]) ?_ s' ?_)
  ·simp only[put];rcases Xh d' ts.length with hd|hd
   ·simp[Wv,Wh hd]
   ·rw[YH hd];simp[WS hd]
  ·exact(ur hB t ops.size [] _ _ h hC ho hr').1 rfl
end
end Go.Aw
