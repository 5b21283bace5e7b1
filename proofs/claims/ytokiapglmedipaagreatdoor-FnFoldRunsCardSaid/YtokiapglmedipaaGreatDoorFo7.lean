/-
  Contracts and lemmas that the card needs, part 7.
-/
import Derived.Test.YtokiapglmedipaaGreatDoorFo6
namespace Go.Proofs.YtokiapglmedipaaGreatDoor
open Go Go.Aw
set_option maxRecDepth 100000
set_option maxHeartbeats 4000000
section
def ar5(o a b:Int):Option Int:=if o=10 then some (tr5 (decide (a≠0/\b≠0))) else gx o a b
def bW(n:Int):Ex:= .mk 1 n [] []
def isN(e:Ex)(n:Int):Bool:=decide (e.op=1)&&decide (e.n=n)
mutual
def dm:Ex->Bool
 | .mk o _ _ ks=> !decide (o=12)&& !decide (o=13)&&(!(decide (o=6)||decide (o=7))||(match ks with|[_,b]=>decide (b.op=1)&& !decide (b.n=0)|_=>false))&&pB ks
def pB:List Ex->Bool
 |[]=>true
 |e::r=>dm e&&pB r
end
def jX(o n:Int)(s:List UInt8)(a:Ex):Ex:=
 if a.op=1 then bW (tr5 (decide (a.n=0))) else match a.kids with|[c]=>if a.op=11/\c.op=11 then c else .mk o n s [a]|_=> .mk o n s [a]
def mw(o n:Int)(s:List UInt8)(a b:Ex):Ex:=
 match(if a.op=1/\b.op=1 then ar5 o a.n b.n else none) with
 |some q=>bW q
 |none=>
  if o=10/\isN a 0=true then bW 0 else if(o=3\/o=4)/\isN b 0=true\/(o=5\/o=6)/\isN b 1=true then a else if o=3/\isN a 0=true\/o=5/\isN a 1=true then b
  else if o=5/\(isN b 0=true/\dm a=true\/isN a 0=true/\dm b=true) then bW 0 else .mk o n s [a,b]
def fe(o n:Int)(s:List UInt8)(ks:List Ex):Ex:=
 if o=12\/o=13 then .mk o n s ks else match ks with|[a]=>jX o n s a|[a,b]=>mw o n s a b|ks=> .mk o n s ks
mutual
def de:Ex->Ex
 | .mk o n s ks=>fe o n s (aJ ks)
def aJ:List Ex->List Ex
 |[]=>[]
 |e::r=>de e::aJ r
end
theorem isN_iff{e:Ex}{n:Int}:isN e n=true↔e.op=1/\e.n=n:=by simp[isN]
section
variable {l:List Fd}
theorem cD{k:Nat}{v:List Sc5}{s s':S5}{e:Ex}{r:O5 Int}(ho:e.op=1)(h:Ev l (.ex k v s e s' r)):s'=s/\r= .ok e.n/\V5 e.n:=by
 cases h with
 |num _ h=>exact⟨rfl,rfl,h⟩
 |var h _=>omega
 |call h _ _ _ _=>omega
 |callS h _=>omega
 |firstS h _ _ _=>omega
 |and0 h _ _=>omega
 |and1 h _ _ _ _=>omega
 |andS h _ _ _ _=>omega
 |not h _ _=>omega
 |at_ h _ _ _ _=>omega
 |atS h _ _ _=>omega
 |bin h _ _ _ _ _=>omega
 |binS h _ _ _ _=>omega
 |binD h _ _ _ _ _=>omega
theorem te{k:Nat}{v:List Sc5}{s:S5}{n:Int}(h:V5 n):Ev l (.ex k v s (bW n) s (.ok n)):= .num rfl h
def Sf:J5->Prop
 | .ex _ _ s e s' r=>dm e=true->s'=s/\∃n,r= .ok n
 | .exs _ _ s es s' r=>pB es=true->s'=s/\∃ns,r= .ok ns
 |_=>True
theorem dW{e:Ex}(h:dm e=true):e.op≠12/\e.op≠13/\pB e.kids=true/\(e.op=6\/e.op=7->∀a b,e.kids=[a,b]->b.op=1/\b.n≠0):=by
 obtain⟨o,n,s,ks⟩:=e
 simp only[dm,ZE,Bool.not_eq_true',decide_eq_false_iff_not] at h
 obtain⟨⟨⟨h1,h2⟩,h3⟩,h4⟩:=h
 refine⟨h1,h2,h4,λho a b hk=>?_⟩
 have hk':ks=[a,b]:=hk
 subst hk'
 have ho':(decide (o=6)||decide (o=7))=true:=by
  rcases ho with h|h
  ·have:o=6:=h
   simp[this]
  ·have:o=7:=h
   simp[this]
 rw[ho'] at h3
 simpa using h3
theorem di{a:Ex}{r:List Ex}(h:pB (a::r)=true):dm a=true/\pB r=true:=by
 rw[pB,ZE] at h;exact h
theorem My{o a b:Int}(h:(o=6\/o=7)->b≠0)(hb:3<=o)(hb2:o<=9):gx o a b≠none:=by
 unfold gx
 split; ·simp
 split; ·simp
 split; ·simp
 split; ·simp
 split; ·simp
 split
 ·rename_i h0
  exact(h (by omega) h0).elim
 split<;>simp
theorem BO{j:J5}(h:Ev l j):Sf j:=by
 induction h with
 |num _ _=>exact λ_=>⟨rfl,_,rfl⟩
 |var _ _=>exact λ_=>⟨rfl,_,rfl⟩
 |call h1 _ _ _ _ _ _=>exact λh=>((dW h).2.1 h1).elim
 |callS h1 _ _=>exact λh=>((dW h).2.1 h1).elim
 |firstS h1 h2 h3 _ i1=>
  intro h
  obtain⟨_,_,k3,_⟩:=dW h
  rw[h3] at k3
  obtain⟨_,n,e⟩:=i1 (di k3).1
  cases e
 |and0 _ h2 _ i1=>
  intro h
  obtain⟨_,_,k3,_⟩:=dW h
  rw[h2] at k3
  exact⟨(i1 (di k3).1).1,_,rfl⟩
 |and1 _ h2 _ _ _ i1 i2=>
  intro h
  obtain⟨_,_,k3,_⟩:=dW h
  rw[h2] at k3
  exact⟨(i2 (di (di k3).2).1).1.trans (i1 (di k3).1).1,_,rfl⟩
 |andS _ h2 _ _ _ _ i2=>
  intro h
  obtain⟨_,_,k3,_⟩:=dW h
  rw[h2] at k3
  obtain⟨_,n,e⟩:=i2 (di (di k3).2).1
  cases e
 |not _ h2 _ i1=>
  intro h
  obtain⟨_,_,k3,_⟩:=dW h
  rw[h2] at k3
  exact⟨(i1 (di k3).1).1,_,rfl⟩
 |at_ h1 _ _ _ _ _=>exact λh=>((dW h).1 h1).elim
 |atS h1 _ _ _ _=>exact λh=>((dW h).1 h1).elim
 |bin _ _ h3 _ _ _ i1 i2=>
  intro h
  obtain⟨_,_,k3,_⟩:=dW h
  rw[h3] at k3
  exact⟨(i2 (di (di k3).2).1).1.trans (i1 (di k3).1).1,_,rfl⟩
 |binS _ _ h3 _ _ _ i2=>
  intro h
  obtain⟨_,_,k3,_⟩:=dW h
  rw[h3] at k3
  obtain⟨_,n,e⟩:=i2 (di (di k3).2).1
  cases e
 |binD h1 h2 h3 _ d2 h6 i1 i2=>
  intro h
  obtain⟨_,_,_,k4⟩:=dW h
  refine(My (λho=>?_) h1 h2 h6).elim
  obtain⟨q1,q2⟩:=k4 ho _ _ h3
  obtain⟨_,e,_⟩:=cD q1 d2
  cases e
  exact q2
 |nil=>exact λ_=>⟨rfl,_,rfl⟩
 |cons _ _ i1 i2=>
  intro h
  obtain⟨k1,k2⟩:=di h
  exact⟨(i2 k2).1.trans (i1 k1).1,_,rfl⟩
 |consS _ i1=>
  intro h
  obtain⟨_,n,e⟩:=i1 (di h).1
  cases e
 |consT _ _ _ i2=>
  intro h
  obtain⟨_,n,e⟩:=i2 (di h).2
  cases e
 |_=>trivial
end
end
section
section
variable {l:List Fd} {k:Nat} {v:List Sc5} {s s':S5} {e:Ex} {r:O5 Int}
theorem zy{a:Ex}(ho:e.op=11)(hk:e.kids=[a])(h:Ev l (.ex k v s e s' r)):(∃c,Ev l (.ex k v s a s' (.st c))/\r= .st c)\/∃n,Ev l (.ex k v s a s' (.ok n))/\r= .ok (tr5 (decide (n=0))):=by
 cases h with
 |num h _=>omega
 |var h _=>omega
 |call h _ _ _ _=>omega
 |callS h _=>omega
 |firstS _ _ h3 h4=>rw[hk] at h3;cases h3;exact .inl ⟨_,h4,rfl⟩
 |and0 h _ _=>omega
 |and1 h _ _ _ _=>omega
 |andS h _ _ _ _=>omega
 |not _ h2 h3=>rw[hk] at h2;cases h2;exact .inr ⟨_,h3,rfl⟩
 |at_ h _ _ _ _=>omega
 |atS h _ _ _=>omega
 |bin _ h _ _ _ _=>omega
 |binS _ h _ _ _=>omega
 |binD _ h _ _ _ _=>omega
theorem Mb{a b:Ex}(ho:e.op=10)(hk:e.kids=[a,b])(h:Ev l (.ex k v s e s' r)):(∃c,Ev l (.ex k v s a s' (.st c))/\r= .st c)\/(Ev l (.ex k v s a s' (.ok 0))/\r= .ok 0)\/
 ∃n s1,Ev l (.ex k v s a s1 (.ok n))/\n≠0/\((∃c,Ev l (.ex k v s1 b s' (.st c))/\r= .st c)\/∃m,Ev l (.ex k v s1 b s' (.ok m))/\r= .ok (tr5 (decide (m≠0)))):=by
 cases h with
 |num h _=>omega
 |var h _=>omega
 |call h _ _ _ _=>omega
 |callS h _=>omega
 |firstS _ _ h3 h4=>rw[hk] at h3;cases h3;exact .inl ⟨_,h4,rfl⟩
 |and0 _ h2 h3=>rw[hk] at h2;cases h2;exact .inr (.inl ⟨h3,rfl⟩)
 |and1 _ h2 h3 h4 h5=>rw[hk] at h2;cases h2;exact .inr (.inr ⟨_,_,h3,h4,.inr ⟨_,h5,rfl⟩⟩)
 |andS _ h2 h3 h4 h5=>rw[hk] at h2;cases h2;exact .inr (.inr ⟨_,_,h3,h4,.inl ⟨_,h5,rfl⟩⟩)
 |not h _ _=>omega
 |at_ h _ _ _ _=>omega
 |atS h _ _ _=>omega
 |bin _ h _ _ _ _=>omega
 |binS _ h _ _ _=>omega
 |binD _ h _ _ _ _=>omega
theorem BI{a b:Ex}(h1:3<=e.op)(h9:e.op<=9)(hk:e.kids=[a,b])(h:Ev l (.ex k v s e s' r)):(∃c,Ev l (.ex k v s a s' (.st c))/\r= .st c)\/
 ∃n s1,Ev l (.ex k v s a s1 (.ok n))/\((∃c,Ev l (.ex k v s1 b s' (.st c))/\r= .st c)\/∃m,Ev l (.ex k v s1 b s' (.ok m))/\((∃q,gx e.op n m=some q/\r= .ok q)\/(gx e.op n m=none/\r= .st 1))):=by
 cases h with
 |num h _=>omega
 |var h _=>omega
 |call h _ _ _ _=>omega
 |callS h _=>omega
 |firstS _ _ h3 h4=>rw[hk] at h3;cases h3;exact .inl ⟨_,h4,rfl⟩
 |and0 h _ _=>omega
 |and1 h _ _ _ _=>omega
 |andS h _ _ _ _=>omega
 |not h _ _=>omega
 |at_ h _ _ _ _=>omega
 |atS h _ _ _=>omega
 |bin _ _ h2 h3 h4 h5=>rw[hk] at h2;cases h2;exact .inr ⟨_,_,h3,.inr ⟨_,h4,.inl ⟨_,h5,rfl⟩⟩⟩
 |binS _ _ h2 h3 h4=>rw[hk] at h2;cases h2;exact .inr ⟨_,_,h3,.inl ⟨_,h4,rfl⟩⟩
 |binD _ _ h2 h3 h4 h5=>rw[hk] at h2;cases h2;exact .inr ⟨_,_,h3,.inr ⟨_,h4,.inr ⟨h5,rfl⟩⟩⟩
theorem RM(b:Bool):tr5 (decide (tr5 (decide (tr5 b=0))=0))=tr5 b:=by cases b<;>simp[tr5]
theorem PY{n:Int}{nm:List UInt8}{a:Ex}(h:Ev l (.ex k v s (.mk 11 n nm [a]) s' r))(hc:∀c,a.kids=[c]->c.op=11->∃d,c.kids=[d]):Ev l (.ex k v s (jX 11 n nm a) s' r):=by
 unfold jX
 split
 ·rename_i h1
  rcases zy rfl rfl h with⟨c,d,rfl⟩|⟨q,d,rfl⟩
  ·obtain⟨_,e,_⟩:=cD h1 d;cases e
  ·obtain⟨rfl,e,_⟩:=cD h1 d
   cases e
   exact te (kT _)
 ·split
  ·rename_i c hk
   split
   ·rename_i h2
    obtain⟨d,hd⟩:=hc c hk h2.2
    rcases zy rfl rfl h with⟨q,e1,rfl⟩|⟨q,e1,rfl⟩
    ·rcases zy h2.1 hk e1 with⟨q2,e2,e3⟩|⟨q2,e2,e3⟩
     ·cases e3;exact e2
     ·cases e3
    ·rcases zy h2.1 hk e1 with⟨q2,e2,e3⟩|⟨q2,e2,e3⟩
     ·cases e3
     ·cases e3
      rcases zy h2.2 hd e2 with⟨q4,e4,e5⟩|⟨q4,e4,e5⟩
      ·cases e5
      ·cases e5
       rw[RM]
       exact e2
   ·exact h
  ·exact h
theorem ta{n:Int}(h:V5 n):gx 3 n 0=some n/\gx 4 n 0=some n/\gx 3 0 n=some n/\gx 5 n 1=some n/\gx 5 1 n=some n/\gx 6 n 1=some n/\gx 5 n 0=some 0/\gx 5 0 n=some 0:=by
 obtain⟨h0,h1⟩:=h
 unfold gx
 simp
 omega
theorem OL{o n:Int}{nm:List UInt8}{a b:Ex}(ho:3<=o)(ho2:o<=10)(g:G5 s)(hv:GE5 v)(h:Ev l (.ex k v s (.mk o n nm [a,b]) s' r)):Ev l (.ex k v s (mw o n nm a b) s' r):=by
 have hgood:=aV h ⟨g,hv⟩
 unfold mw
 split
 ·
  rename_i q hq
  split at hq
  case isFalse=>cases hq
  rename_i hab
  by_cases h10:o=10
  ·subst h10
   rw[ar5,if_pos rfl] at hq
   cases hq
   rcases Mb rfl rfl h with⟨c,d,rfl⟩|⟨d,rfl⟩|⟨m,s1,d,hm,⟨c,d2,rfl⟩|⟨m2,d2,rfl⟩⟩
   ·obtain⟨_,e,_⟩:=cD hab.1 d;cases e
   ·obtain⟨rfl,e,_⟩:=cD hab.1 d
    have e:=O5.ok.inj e
    have e2:(decide (a.n≠0/\b.n≠0))=false:=by simp[←e]
    rw[e2]
    exact te ⟨by simp[tr5],by simp[tr5]⟩
   ·obtain⟨rfl,e,_⟩:=cD hab.1 d
    obtain⟨_,e2,_⟩:=cD hab.2 d2;cases e2
   ·obtain⟨rfl,e,_⟩:=cD hab.1 d
    obtain⟨rfl,e2,_⟩:=cD hab.2 d2
    cases e;cases e2
    have:(decide (a.n≠0/\b.n≠0))=decide (b.n≠0):=by simp[hm]
    rw[this]
    exact te (kT _)
  ·rw[ar5,if_neg h10] at hq
   rcases BI (e:= .mk o n nm [a,b]) ho (show(Ex.mk o n nm [a,b]).op<=9 by show o<=9;omega) rfl h with⟨c,d,rfl⟩|⟨m,s1,d,⟨c,d2,rfl⟩|⟨m2,d2,⟨q2,ht,rfl⟩|⟨ht,rfl⟩⟩⟩
   ·obtain⟨_,e,_⟩:=cD hab.1 d;cases e
   ·obtain⟨rfl,e,_⟩:=cD hab.1 d
    obtain⟨_,e2,_⟩:=cD hab.2 d2;cases e2
   ·obtain⟨rfl,e,_⟩:=cD hab.1 d
    obtain⟨rfl,e2,_⟩:=cD hab.2 d2
    cases e;cases e2
    have ht':gx o a.n b.n=some q2:=ht
    rw[ht'] at hq;cases hq
    exact te (hgood.2.2 _ rfl)
   ·obtain⟨rfl,e,_⟩:=cD hab.1 d
    obtain⟨rfl,e2,_⟩:=cD hab.2 d2
    cases e;cases e2
    have ht':gx o a.n b.n=none:=ht
    rw[ht'] at hq;cases hq
 ·split
  ·
   rename_i h1
   obtain⟨rfl,ha⟩:=h1
   obtain⟨a1,a2⟩:=isN_iff.1 ha
   rcases Mb rfl rfl h with⟨c,d,rfl⟩|⟨d,rfl⟩|⟨m,s1,d,hm,_⟩
   ·obtain⟨_,e,_⟩:=cD a1 d;cases e
   ·obtain⟨rfl,e,_⟩:=cD a1 d
    exact te ⟨by omega,by omega⟩
   ·obtain⟨rfl,e,_⟩:=cD a1 d
    cases e;exact(hm a2).elim
  ·rename_i hn10
   split
   ·
    rename_i h1
    have ho9:o<=9:=by omega
    have hb:∃q,isN b q=true/\((o=3\/o=4)/\q=0\/(o=5\/o=6)/\q=1):=by
     rcases h1 with⟨h1,h2⟩|⟨h1,h2⟩
     ·exact⟨0,h2,.inl ⟨h1,rfl⟩⟩
     ·exact⟨1,h2,.inr ⟨h1,rfl⟩⟩
    obtain⟨q,hq,hoq⟩:=hb
    obtain⟨b1,b2⟩:=isN_iff.1 hq
    rcases BI (e:= .mk o n nm [a,b]) ho ho9 rfl h with⟨c,d,rfl⟩|⟨m,s1,d,⟨c,d2,rfl⟩|⟨m2,d2,h3⟩⟩
    ·exact d
    ·obtain⟨_,e,_⟩:=cD b1 d2;cases e
    ·obtain⟨rfl,e,_⟩:=cD b1 d2
     cases e
     rw[b2] at h3
     have hm:=(aV d ⟨g,hv⟩).2.2 _ rfl
     obtain⟨z1,z2,z3,z4,z5,z6,_,_⟩:=ta hm
     have ht:gx o m q=some m:=by
      rcases hoq with⟨rfl|rfl,rfl⟩|⟨rfl|rfl,rfl⟩
      ·exact z1
      ·exact z2
      ·exact z4
      ·exact z6
     have h3':(∃q_1,gx o m q=some q_1/\r= .ok q_1)\/gx o m q=none/\r= .st 1:=h3
     rw[ht] at h3'
     rcases h3' with⟨q2,e,rfl⟩|⟨e,_⟩
     ·cases e;exact d
     ·cases e
   ·split
    ·
     rename_i h1
     have ho9:o<=9:=by omega
     have hb:∃q,isN a q=true/\(o=3/\q=0\/o=5/\q=1):=by
      rcases h1 with⟨h1,h2⟩|⟨h1,h2⟩
      ·exact⟨0,h2,.inl ⟨h1,rfl⟩⟩
      ·exact⟨1,h2,.inr ⟨h1,rfl⟩⟩
     obtain⟨q,hq,hoq⟩:=hb
     obtain⟨a1,a2⟩:=isN_iff.1 hq
     rcases BI (e:= .mk o n nm [a,b]) ho ho9 rfl h with⟨c,d,rfl⟩|⟨m,s1,d,h3⟩
     ·obtain⟨_,e,_⟩:=cD a1 d;cases e
     ·obtain⟨rfl,e,_⟩:=cD a1 d
      cases e
      rcases h3 with⟨c,d2,rfl⟩|⟨m2,d2,h3⟩
      ·exact d2
      ·rw[a2] at h3
       have hm:=(aV d2 ⟨g,hv⟩).2.2 _ rfl
       obtain⟨z1,z2,z3,z4,z5,z6,_,_⟩:=ta hm
       have ht:gx o q m2=some m2:=by
        rcases hoq with⟨rfl,rfl⟩|⟨rfl,rfl⟩
        ·exact z3
        ·exact z5
       have h3':(∃q_1,gx o q m2=some q_1/\r= .ok q_1)\/gx o q m2=none/\r= .st 1:=h3
       rw[ht] at h3'
       rcases h3' with⟨q2,e,rfl⟩|⟨e,_⟩
       ·cases e;exact d2
       ·cases e
    ·split
     ·
      rename_i h1
      obtain⟨rfl,h1⟩:=h1
      rcases BI (e:= .mk 5 n nm [a,b]) (by show(3:Int)<=5;omega) (show(5:Int)<=9 by omega) rfl h with⟨c,d,rfl⟩|⟨m,s1,d,h3⟩
      ·rcases h1 with⟨_,h2⟩|⟨h2,_⟩
       ·obtain⟨_,n2,e⟩:=BO d h2;cases e
       ·obtain⟨_,e,_⟩:=cD (isN_iff.1 h2).1 d;cases e
      ·rcases h3 with⟨c,d2,rfl⟩|⟨m2,d2,h3⟩
       ·rcases h1 with⟨h2,_⟩|⟨_,h2⟩
        ·obtain⟨_,e,_⟩:=cD (isN_iff.1 h2).1 d2;cases e
        ·obtain⟨_,n2,e⟩:=BO d2 h2;cases e
       ·have p1:=aV d ⟨g,hv⟩
        have p2:=aV d2 ⟨p1.1,hv⟩
        have ht:gx 5 m m2=some 0/\s'=s:=by
         rcases h1 with⟨h2,h4⟩|⟨h2,h4⟩
         ·obtain⟨b1,b2⟩:=isN_iff.1 h2
          obtain⟨rfl,e,_⟩:=cD b1 d2
          cases e
          obtain⟨rfl,_⟩:=BO d h4
          rw[b2]
          exact⟨(ta (p1.2.2 _ rfl)).2.2.2.2.2.2.1,rfl⟩
         ·obtain⟨a1,a2⟩:=isN_iff.1 h2
          obtain⟨rfl,e,_⟩:=cD a1 d
          cases e
          obtain⟨rfl,_⟩:=BO d2 h4
          rw[a2]
          exact⟨(ta (p2.2.2 _ rfl)).2.2.2.2.2.2.2,rfl⟩
        obtain⟨ht,rfl⟩:=ht
        have h3':(∃q_1,gx 5 m m2=some q_1/\r= .ok q_1)\/gx 5 m m2=none/\r= .st 1:=h3
        rw[ht] at h3'
        rcases h3' with⟨q2,e,rfl⟩|⟨e,_⟩
        ·cases e;exact te ⟨by omega,by omega⟩
        ·cases e
     ·exact h
end
end
section
theorem cW:∀l:List Ex,aJ l=l.map de
 |[]=>rfl
 |e::r=>by rw[aJ,cW r];rfl
mutual
def kb:Sm->Sm
 | .mk o s a bd el=> .mk o s (aJ a) (aC bd) (aC el)
def aC:List Sm->List Sm
 |[]=>[]
 |s::r=>kb s::aC r
end
theorem iW:∀l:List Sm,aC l=l.map kb
 |[]=>rfl
 |e::r=>by rw[aC,iW r];rfl
def sG(f:Fd):Fd:=⟨f.name,f.params,aC f.body⟩
def cU(l:List Fd):List Fd:=l.map sG
theorem FA(l:List Fd):Like l (cU l):=Qb l sG (λ_=>rfl) (λ_=>rfl)
def P5(o n:Int)(s:List UInt8)(ks:List Ex)(x:Ex):Prop:=
 x= .mk o n s ks\/(∃q,x=bW q/\((∀a∈ks,a.op=1->V5 a.n)->V5 q))\/(∃a∈ks,x=a)\/∃a∈ks,∃c∈a.kids,x=c
theorem Rc{o a b q:Int}(ha:V5 a)(hb:V5 b)(h:ar5 o a b=some q):V5 q:=by
 unfold ar5 at h
 split at h
 ·cases h;exact kT _
 ·exact Fl ha hb h
theorem SM(o n:Int)(s:List UInt8)(a:Ex):P5 o n s [a] (jX o n s a):=by
 unfold jX
 split
 ·exact .inr (.inl ⟨_,rfl,λ_=>kT _⟩)
 ·split
  ·rename_i c hc
   split
   ·exact .inr (.inr (.inr ⟨a,by simp,c,by rw[hc];simp,rfl⟩))
   ·exact .inl rfl
  ·exact .inl rfl
theorem SX(o n:Int)(s:List UInt8)(a b:Ex):P5 o n s [a,b] (mw o n s a b):=by
 unfold mw
 split
 ·rename_i q hq
  split at hq
  ·rename_i h
   exact .inr (.inl ⟨q,rfl,λhv=>Rc (hv a (by simp) h.1) (hv b (by simp) h.2) hq⟩)
  ·cases hq
 ·split
  ·exact .inr (.inl ⟨0,rfl,λ_=>⟨by omega,by omega⟩⟩)
  ·split
   ·exact .inr (.inr (.inl ⟨a,by simp,rfl⟩))
   ·split
    ·exact .inr (.inr (.inl ⟨b,by simp,rfl⟩))
    ·split
     ·exact .inr (.inl ⟨0,rfl,λ_=>⟨by omega,by omega⟩⟩)
     ·exact .inl rfl
theorem BT(o n:Int)(s:List UInt8)(ks:List Ex):P5 o n s ks (fe o n s ks):=by
 unfold fe
 split
 ·exact .inl rfl
 ·split
  ·exact SM o n s _
  ·exact SX o n s _ _
  ·exact .inl rfl
theorem vV{e:Ex}(h:jR e=true):V5 e.n:=by
 simp only[jR,ZE,inR,decide_eq_true_eq] at h
 exact⟨h.1.2.1,h.1.2.2⟩
theorem be{d:Nat}{e a:Ex}(h:aQ (d+1) e=true)(ha:a∈e.kids):aQ d a=true:=by
 rw[aQ,ZE] at h
 exact ZA.1 h.2 a ha
theorem kx{d:Nat}{e:Ex}(h:aQ d e=true):jR e=true:=by
 cases d with
 |zero=>cases h
 |succ d=>rw[aQ,ZE] at h;exact h.1
theorem rA:∀{d:Nat} {e:Ex},aQ d e=true->aQ (d+1) e=true
 |0,e,h=>by cases h
 |d+1,e,h=>by
  have h0:=h
  rw[aQ,ZE] at h
  rw[aQ,ZE]
  exact⟨h.1,ZA.2 λa ha=>rA (be h0 ha)⟩
theorem ME{d:Nat}{q:Int}(h:V5 q):aQ (d+1) (bW q)=true:=by
 obtain⟨h0,h1⟩:=h
 have:aK []=false:=by decide
 simp[aQ,bW,jR,inR,Ex.op,Ex.kids,Ex.name,Ex.n,loK,hiK,HN,this,h0,h1]
theorem Sc{d:Nat}{o n:Int}{s:List UInt8}{ks:List Ex}{x:Ex}(h:aQ (d+1) (.mk o n s ks)=true)(hx:P5 o n s ks x):aQ (d+1) x=true:=by
 have hk:∀a∈ks,aQ d a=true:=λa ha=>be h ha
 rcases hx with rfl|⟨q,rfl,hq⟩|⟨a,ha,rfl⟩|⟨a,ha,c,hc,rfl⟩
 ·exact h
 ·exact ME (hq λa ha _=>vV (kx (hk a ha)))
 ·exact rA (hk _ ha)
 ·have h1:=hk a ha
  cases d with
  |zero=>cases h1
  |succ d=>exact rA (rA (be h1 hc))
theorem uU:∀(d:Nat) (e:Ex),aQ d e=true->aQ d (de e)=true
 |0,e,h=>by cases h
 |d+1,.mk o n s ks,h=>by
  rw[de]
  refine Sc ?_ (BT o n s (aJ ks))
  rw[aQ,ZE] at h⊢
  refine⟨?_,?_⟩
  ·have h1:=h.1
   simp only[jR,Ex.op,Ex.n,Ex.name,Ex.kids,cW,ZU] at h1⊢
   exact h1
  ·have h2:=h.2
   simp only[Ex.kids,cW,ZA] at h2⊢
   intro x hx
   obtain⟨e,he,rfl⟩:=ZN.1 hx
   exact uU d e (h2 e he)
theorem Tz{o n:Int}{s:List UInt8}{ks:List Ex}{x:Ex}(hx:P5 o n s ks x):x.parts<=1+fL ks:=by
 rcases hx with rfl|⟨q,rfl,hq⟩|⟨a,ha,rfl⟩|⟨a,ha,c,hc,rfl⟩
 ·exact ZH _
 ·simp only[bW,Ex.parts,fL];omega
 ·have:=mB ha;omega
 ·have h1:=mB ha
  have h2:=mB hc
  have h3:=a.parts_eq
  omega
mutual
theorem DE:∀e:Ex,(de e).parts<=e.parts
 | .mk o n s ks=>by
   rw[de,Ex.parts]
   have h1:=Tz (BT o n s (aJ ks))
   have h2:=Ah ks
   omega
theorem Ah:∀l:List Ex,fL (aJ l)<=fL l
 |[]=>ZH _
 |e::r=>by
  have h1:=DE e
  have h2:=Ah r
  rw[aJ,fL,fL]
  omega
end
theorem Nt{e:Ex}(h:io e=true):io (de e)=true:=by
 rw[io,ZE,decide_eq_true_eq] at h⊢
 exact⟨uU 6 e h.1,ZQ (DE e) h.2⟩
theorem chkEs_all{fns:List Fd}{k:Nat}{vs:List LV}:∀{l:List Ex},bp fns k vs l 0=0↔∀e∈l,jJ fns k vs e 0=0
 |[]=>by simp[bp]
 |e::r=>by
  rw[bp]
  constructor
  ·intro h
   have h0:=cZ h
   rw[h0] at h
   intro x hx
   rcases ZI.1 hx with rfl|hx
   ·exact h0
   ·exact chkEs_all.1 h x hx
  ·intro h
   rw[h e (by simp)]
   exact chkEs_all.2 λx hx=>h x (by simp[hx])
theorem chkE_iff{fns:List Fd}{k:Nat}{vs:List LV}{o n:Int}{s:List UInt8}{ks:List Ex}:jJ fns k vs (.mk o n s ks) 0=0↔im fns k vs o s ks.length 0=0/\∀a∈ks,jJ fns k vs a 0=0:=by
 rw[jJ]
 constructor
 ·intro h
  have h0:=cZ h
  rw[h0] at h
  exact⟨h0,chkEs_all.1 h⟩
 ·rintro⟨h1,h2⟩
  rw[h1]
  exact chkEs_all.2 h2
theorem CK{fns:List Fd}{k:Nat}{vs:List LV}{e a:Ex}(h:jJ fns k vs e 0=0)(ha:a∈e.kids):jJ fns k vs a 0=0:=by
 obtain⟨o,n,s,ks⟩:=e
 exact(chkE_iff.1 h).2 a ha
theorem UW{fns:List Fd}{k:Nat}{vs:List LV}{o n:Int}{s:List UInt8}{ks:List Ex}{x:Ex}(h:jJ fns k vs (.mk o n s ks) 0=0)(hx:P5 o n s ks x):jJ fns k vs x 0=0:=by
 rcases hx with rfl|⟨q,rfl,hq⟩|⟨a,ha,rfl⟩|⟨a,ha,c,hc,rfl⟩
 ·exact h
 ·simp[bW,jJ,bp,im]
 ·exact CK h ha
 ·exact CK (CK h ha) hc
section
variable {fns fns':List Fd} (hL:Like fns fns')
include hL
theorem JL(k:Nat)(vs:List LV)(o:Int)(s:List UInt8)(n:Nat)(c:Int):im fns' k vs o s n c=im fns k vs o s n c:=by
 simp only[im,mY,hL.at_,hL.par]
mutual
theorem Nl{k:Nat}{vs:List LV}:∀e:Ex,jJ fns k vs e 0=0->jJ fns' k vs (de e) 0=0
 | .mk o n s ks,h=>by
   rw[de]
   refine UW ?_ (BT o n s (aJ ks))
   rw[jJ] at h⊢
   have h0:=cZ h
   rw[h0] at h
   rw[JL hL,cW,ZU,h0,←cW]
   exact uS ks h
theorem uS{k:Nat}{vs:List LV}:∀l:List Ex,bp fns k vs l 0=0->bp fns' k vs (aJ l) 0=0
 |[],_=>rfl
 |e::r,h=>by
  have _:=hL
  rw[bp] at h
  have h0:=cZ h
  rw[h0] at h
  rw[aJ,bp,Nl e h0]
  exact uS r h
end
mutual
theorem OR{k:Nat}:∀(s:Sm) (b:Nat) (w:WS),(stW fns k b s w).code=0->stW fns' k b (kb s) w=stW fns k b s w
 | .mk o s a bd el,b,w,hz=>by
   rw[stW,du] at hz
   have z1:=cu hz
   rw[du] at z1
   have z2:=cu z1
   have z3:bp fns k w.vs a w.code=0:=zd z2
   have hc0:=cZ z3
   have z3':=z3
   rw[hc0] at z3'
   have e1:bp fns' k w.vs (aJ a) w.code=bp fns k w.vs a w.code:=by rw[z3,hc0];exact uS hL a z3'
   rw[kb,stW,stW]
   simp only[e1]
   rw[sP bd _ _ z1,sP el _ _ hz]
theorem sP{k:Nat}:∀(l:List Sm) (b:Nat) (w:WS),(bJ fns k b l w).code=0->bJ fns' k b (aC l) w=bJ fns k b l w
 |[],b,w,_=>rfl
 |s::r,b,w,hz=>by
  have _:=hL
  rw[bJ] at hz
  rw[aC,bJ,bJ,OR s b w (cu hz)]
  exact sP r b _ hz
end
theorem Pp{k:Nat}{f:Fd}(hz:(fnW fns k f).code=0):(fnW fns' k (sG f)).code=0:=by
 have hat:=Uz hz
 have hat':cg fns' (sG f).name=some k:=by rw[hL.at_];exact hat
 rw[fnW,if_pos hat] at hz
 rw[fnW,if_pos hat']
 show(bJ fns' k 0 (aC f.body) (bO f.params ⟨[],0,0⟩)).code=0
 rw[sP hL f.body 0 _ hz]
 exact hz
end
mutual
theorem PD:∀s:Sm,(kb s).cnt=s.cnt
 | .mk o s a bd el=>by rw[kb,Sm.cnt,Sm.cnt,sI bd,sI el]
theorem sI:∀l:List Sm,eB (aC l)=eB l
 |[]=>rfl
 |s::r=>by rw[aC,eB,eB,PD s,sI r]
end
theorem KC(n:Int)(s:List UInt8)(ks:List Ex):fe 13 n s ks= .mk 13 n s ks:=by simp[fe]
theorem Ju{o:Int}{s:List UInt8}{a:List Ex}{bd el:List Sm}(h:fX (.mk o s a bd el)=true):fX (.mk o s (aJ a) (aC bd) (aC el))=true:=by
 simp only[fX,Sm.op,Sm.args,Sm.name,Sm.body,Sm.els,ZE,Bool.or_eq_true,decide_eq_true_eq,List.isEmpty_iff,Bool.not_eq_true',decide_eq_false_iff_not] at h⊢
 obtain⟨⟨⟨⟨h1,h2⟩,h3⟩,h4⟩,h5⟩:=h
 refine⟨⟨⟨⟨?_,?_⟩,?_⟩,?_⟩,?_⟩
 ·have hl:(aJ a).length=a.length:=by rw[cW,ZU]
  obtain⟨⟨⟨g1,g2⟩,g3⟩,g4⟩:=h1
  have g2:a.length=gF o:=of_decide_eq_true g2
  exact⟨⟨⟨g1,decide_eq_true (hl.trans g2)⟩,g3⟩,g4⟩
 ·rw[cW,ZA]
  intro x hx
  obtain⟨e,he,rfl⟩:=ZN.1 hx
  exact Nt (ZA.1 h2 e he)
 ·rcases h3 with h3|h3
  ·exact .inl h3
  ·right
   match a,h3 with
   |e::r,h3=>
    obtain⟨eo,en,es,ek⟩:=e
    have h3:eo=13:=of_decide_eq_true h3
    subst h3
    refine decide_eq_true (show(de (.mk 13 en es ek)).op=13 from ?_)
    rw[de,KC];rfl
 ·rcases h4 with h4|h4
  ·exact .inl (by rw[h4];rfl)
  ·exact .inr h4
 ·rcases h5 with(h5|h5)|h5
  ·exact .inl (.inl (by rw[h5];rfl))
  ·exact .inl (.inr h5)
  ·exact .inr h5
theorem uE:∀(d:Nat) (x:Sm),aq d x=true->aq d (kb x)=true
 |0,x,h=>by cases h
 |d+1,.mk o s a bd el,h=>by
  rw[aq,ZE,ZE] at h
  rw[kb,aq,ZE,ZE]
  refine⟨⟨Ju h.1.1,?_⟩,?_⟩
  ·have h2:=h.1.2
   simp only[Sm.body,iW,ZA] at h2⊢
   intro x hx
   obtain⟨e,he,rfl⟩:=ZN.1 hx
   exact uE d e (h2 e he)
  ·have h2:=h.2
   simp only[Sm.els,iW,ZA] at h2⊢
   intro x hx
   obtain⟨e,he,rfl⟩:=ZN.1 hx
   exact uE d e (h2 e he)
theorem MN{f:Fd}(h:iZ f=true):iZ (sG f)=true:=by
 simp only[iZ,sG,ZE] at h⊢
 refine⟨h.1,?_⟩
 have h2:=h.2
 simp only[iW,ZA] at h2⊢
 intro x hx
 obtain⟨e,he,rfl⟩:=ZN.1 hx
 exact uE 4 e (h2 e he)
theorem Ff(l:List Fd):lZ (cU l)=lZ l:=by
 simp only[lZ,cU,List.map_map]
 congr 1
 exact ZR λf _=>sI f.body
theorem Hn{l:List Fd}(h:bc l=true):bc (cU l)=true:=by
 obtain⟨h1,h2,h3⟩:=(dC l).1 h
 refine(dC _).2 ⟨by rw[cU,ZU];exact h1,λf hf=>?_,by rw[Ff];exact h3⟩
 obtain⟨g,hg,rfl⟩:=ZN.1 hf
 exact MN (h2 g hg)
theorem GI{l:List Fd}(h:aD l=0):aD (cU l)=0:=by
 rw[aD] at h⊢
 by_cases hp:bc l=true
 ·rw[if_pos hp] at h
  rw[if_pos (Hn hp)]
  rw[nr] at h⊢
  intro i f hf
  rw[cU,ZK,Zw] at hf
  obtain⟨g,hg,rfl⟩:=hf
  exact Pp (FA l) (h i g hg)
 ·rw[if_neg hp] at h;cases h
end
section
theorem dh(e:Ex):de e=fe e.op e.n e.name (aJ e.kids):=by cases e;rw[de];rfl
theorem cb(x:Sm):kb x= .mk x.op x.name (aJ x.args) (aC x.body) (aC x.els):=by cases x;rw[kb];rfl
theorem Rk(x:Sm):(kb x).op=x.op:=by rw[cb];rfl
theorem bB{d:Nat}{e:Ex}(h:aQ d e=true):∃c,d=c+1:=by
 cases d with
 |zero=>cases h
 |succ d=>exact⟨d,rfl⟩
theorem iE{d:Nat}{e:Sm}(h:aq d e=true):∃c,d=c+1:=by
 cases d with
 |zero=>cases h
 |succ d=>exact⟨d,rfl⟩
theorem bE{d:Nat}{x:Sm}(h:aq d x=true):∀a∈x.args,aQ 6 a=true:=by
 obtain⟨d,rfl⟩:=iE h
 rw[aq,ZE,ZE] at h
 have h1:=h.1.1
 simp only[fX,ZE,ZA] at h1
 intro a ha
 exact pr (h1.1.1.1.2 a ha)
theorem iJ{d:Nat}{x:Sm}(h:aq (d+1) x=true):∀y∈x.body,aq d y=true:=by
 rw[aq,ZE,ZE] at h
 exact ZA.1 h.1.2
theorem sN{d:Nat}{x:Sm}(h:aq (d+1) x=true):∀y∈x.els,aq d y=true:=by
 rw[aq,ZE,ZE] at h
 exact ZA.1 h.2
theorem bD{d:Nat}{e:Ex}(h:aQ d e=true):aQ d (.mk e.op e.n e.name (aJ e.kids))=true:=by
 obtain⟨d,rfl⟩:=bB h
 rw[aQ,ZE] at h⊢
 refine⟨?_,?_⟩
 ·have h1:=h.1
  obtain⟨o,n,s,ks⟩:=e
  simp only[jR,Ex.op,Ex.n,Ex.name,Ex.kids,cW,ZU] at h1⊢
  exact h1
 ·have h2:=h.2
  show(aJ e.kids).all (aQ d)=true
  simp only[cW,ZA] at h2⊢
  intro x hx
  obtain⟨e,he,rfl⟩:=ZN.1 hx
  exact uU d e (h2 e he)
theorem kdE{e:Ex}{ks:List Ex}{o n:Int}{s:List UInt8}(h:e.kids=ks):(Ex.mk o n s (aJ e.kids)).kids=aJ ks:=congrArg aJ h
theorem kdS{x:Sm}{ks:List Ex}{o:Int}{s:List UInt8}{b c:List Sm}(h:x.args=ks):(Sm.mk o s (aJ x.args) b c).args=aJ ks:=congrArg aJ h
theorem dy{d:Nat}{e:Ex}(h:aQ d e=true):loK e.op<=e.kids.length/\e.kids.length<=hiK e.op/\1<=e.op/\e.op<=13:=by
 have h:=kx h
 simp only[jR,ZE,inR,decide_eq_true_eq] at h
 obtain⟨⟨⟨⟨⟨h1,h2⟩,_⟩,_⟩,_⟩,_⟩:=h
 exact⟨by omega,by omega,h1.1,h1.2⟩
theorem LL{d:Nat}{e a:Ex}(h:aQ d e=true)(hk:e.kids=[a])(h2:¬(e.op=12\/e.op=13)):e.op=11:=by
 obtain⟨h1,h3,h4,h5⟩:=dy h
 rw[hk] at h1 h3
 simp only[loK,hiK,ZO,aay] at h1 h3
 split at h1
 ·rename_i hh;rw[if_pos hh] at h3;omega
 ·split at h1
  ·omega
  ·rw[if_neg (by omega)] at h1
   omega
theorem DR{d:Nat}{e a b:Ex}(h:aQ d e=true)(hk:e.kids=[a,b])(h2:¬(e.op=12\/e.op=13)):3<=e.op/\e.op<=10:=by
 obtain⟨h1,h3,h4,h5⟩:=dy h
 rw[hk] at h1 h3
 simp only[loK,hiK,ZO,aay] at h1 h3
 split at h3
 ·omega
 ·split at h3<;>omega
section
variable {l:List Fd} {k:Nat} {v:List Sc5} {s s':S5} {r:O5 Int}
theorem dY{d:Nat}{o n:Int}{nm:List UInt8}{ks:List Ex}(hf:aQ d (.mk o n nm ks)=true)(g:G5 s)(hv:GE5 v)(h:Ev l (.ex k v s (.mk o n nm ks) s' r)):Ev l (.ex k v s (fe o n nm ks) s' r):=by
 unfold fe
 split
 ·exact h
 ·rename_i hn
  split
  ·rename_i a
   have ho:o=11:=LL hf rfl hn
   subst ho
   refine PY h (λc hc h11=>?_)
   obtain⟨d,rfl⟩:=bB hf
   have ha:=be (a:=a) hf (by simp[Ex.kids])
   obtain⟨d,rfl⟩:=bB ha
   have hc':=be (a:=c) ha (by rw[hc];simp)
   obtain⟨l1,l2,_⟩:=dy hc'
   rw[h11] at l1 l2
   have e1:loK 11=1:=rfl
   have e2:hiK 11=1:=rfl
   rw[e1] at l1
   rw[e2] at l2
   match hx:c.kids,l1,l2 with
   |[x],_,_=>exact⟨x,rfl⟩
  ·obtain⟨h3,h10⟩:=DR hf rfl hn
   exact OL h3 h10 g hv h
  ·exact h
end
def Fo(l:List Fd):J5->Prop
 | .ex k v s e s' r=>G5 s->GE5 v->∀d,aQ d e=true->Ev l (.ex k v s (de e) s' r)
 | .exs k v s es s' r=>G5 s->GE5 v->∀d,(∀e∈es,aQ d e=true)->Ev l (.exs k v s (aJ es) s' r)
 | .cal k us s s' r=>(G5 s/\∀n∈us,V5 n)->Ev l (.cal k us s s' r)
 | .stm k v s x v' s' r=>G5 s->GE5 v->∀d,aq d x=true->Ev l (.stm k v s (kb x) v' s' r)
 | .blk k v s xs v' s' r=>G5 s->GE5 v->∀d,(∀x∈xs,aq d x=true)->Ev l (.blk k v s (aC xs) v' s' r)
 | .lp k v s x v' s' r=>G5 s->GE5 v->∀d,aq d x=true->Ev l (.lp k v s (kb x) v' s' r)
theorem TB{l:List Fd}(hp:bc l=true){j:J5}(h:Ev l j):Fo (cU l) j:=by
 induction h with
 |num h1 h2=>
  intro g hv d hf
  rw[dh]
  exact dY (bD hf) g hv (.num h1 h2)
 |var h1 h2=>
  intro g hv d hf
  rw[dh]
  exact dY (bD hf) g hv (.var h1 h2)
 |firstS h1 h2 h3 D1 i1=>
  intro g hv d hf
  obtain⟨d,rfl⟩:=bB hf
  have hk:=λa ha=>be (a:=a) hf ha
  rw[dh]
  exact dY (bD hf) g hv (.firstS h1 h2 (kdE h3) (i1 g hv d (hk _ (by rw[h3];simp))))
 |and0 h1 h2 D1 i1=>
  intro g hv d hf
  obtain⟨d,rfl⟩:=bB hf
  have hk:=λa ha=>be (a:=a) hf ha
  rw[dh]
  exact dY (bD hf) g hv (.and0 h1 (kdE h2) (i1 g hv d (hk _ (by rw[h2];simp))))
 |and1 h1 h2 D1 h4 D2 i1 i2=>
  intro g hv d hf
  obtain⟨d,rfl⟩:=bB hf
  have hk:=λa ha=>be (a:=a) hf ha
  rw[dh]
  have g1:=(aV D1 ⟨g,hv⟩).1
  exact dY (bD hf) g hv (.and1 h1 (kdE h2) (i1 g hv d (hk _ (by rw[h2];simp))) h4 (i2 g1 hv d (hk _ (by rw[h2];simp))))
 |andS h1 h2 D1 h4 D2 i1 i2=>
  intro g hv d hf
  obtain⟨d,rfl⟩:=bB hf
  have hk:=λa ha=>be (a:=a) hf ha
  rw[dh]
  have g1:=(aV D1 ⟨g,hv⟩).1
  exact dY (bD hf) g hv (.andS h1 (kdE h2) (i1 g hv d (hk _ (by rw[h2];simp))) h4 (i2 g1 hv d (hk _ (by rw[h2];simp))))
 |not h1 h2 D1 i1=>
  intro g hv d hf
  obtain⟨d,rfl⟩:=bB hf
  have hk:=λa ha=>be (a:=a) hf ha
  rw[dh]
  exact dY (bD hf) g hv (.not h1 (kdE h2) (i1 g hv d (hk _ (by rw[h2];simp))))
 |at_ h1 h2 D1 h4 h5 i1=>
  intro g hv d hf
  obtain⟨d,rfl⟩:=bB hf
  have hk:=λa ha=>be (a:=a) hf ha
  rw[dh]
  exact dY (bD hf) g hv (.at_ h1 (kdE h2) (i1 g hv d (hk _ (by rw[h2];simp))) h4 h5)
 |atS h1 h2 D1 h4 i1=>
  intro g hv d hf
  obtain⟨d,rfl⟩:=bB hf
  have hk:=λa ha=>be (a:=a) hf ha
  rw[dh]
  exact dY (bD hf) g hv (.atS h1 (kdE h2) (i1 g hv d (hk _ (by rw[h2];simp))) h4)
 |bin h1 h2 h3 D1 D2 h6 i1 i2=>
  intro g hv d hf
  obtain⟨d,rfl⟩:=bB hf
  have hk:=λa ha=>be (a:=a) hf ha
  rw[dh]
  have g1:=(aV D1 ⟨g,hv⟩).1
  exact dY (bD hf) g hv (.bin h1 h2 (kdE h3) (i1 g hv d (hk _ (by rw[h3];simp))) (i2 g1 hv d (hk _ (by rw[h3];simp))) h6)
 |binS h1 h2 h3 D1 D2 i1 i2=>
  intro g hv d hf
  obtain⟨d,rfl⟩:=bB hf
  have hk:=λa ha=>be (a:=a) hf ha
  rw[dh]
  have g1:=(aV D1 ⟨g,hv⟩).1
  exact dY (bD hf) g hv (.binS h1 h2 (kdE h3) (i1 g hv d (hk _ (by rw[h3];simp))) (i2 g1 hv d (hk _ (by rw[h3];simp))))
 |binD h1 h2 h3 D1 D2 h6 i1 i2=>
  intro g hv d hf
  obtain⟨d,rfl⟩:=bB hf
  have hk:=λa ha=>be (a:=a) hf ha
  rw[dh]
  have g1:=(aV D1 ⟨g,hv⟩).1
  exact dY (bD hf) g hv (.binD h1 h2 (kdE h3) (i1 g hv d (hk _ (by rw[h3];simp))) (i2 g1 hv d (hk _ (by rw[h3];simp))) h6)
 |argS h1 h2 D1 i1=>
  intro g hv d hf
  have hk:=bE hf
  rw[cb]
  exact .argS h1 (kdS h2) (i1 g hv 6 (hk _ (by rw[h2];simp)))
 |slet h1 h2 D1 h4 h5 i1=>
  intro g hv d hf
  have hk:=bE hf
  rw[cb]
  exact .slet h1 (kdS h2) (i1 g hv 6 (hk _ (by rw[h2];simp))) h4 h5
 |sset h1 h2 D1 h4 i1=>
  intro g hv d hf
  have hk:=bE hf
  rw[cb]
  exact .sset h1 (kdS h2) (i1 g hv 6 (hk _ (by rw[h2];simp))) h4
 |ssay h1 h2 D1 i1=>
  intro g hv d hf
  have hk:=bE hf
  rw[cb]
  exact .ssay h1 (kdS h2) (i1 g hv 6 (hk _ (by rw[h2];simp)))
 |sput h1 h2 D1 D2 h5 i1 i2=>
  intro g hv d hf
  have hk:=bE hf
  rw[cb]
  have g1:=(aV D1 ⟨g,hv⟩).1
  exact .sput h1 (kdS h2) (i1 g hv 6 (hk _ (by rw[h2];simp))) (i2 g1 hv 6 (hk _ (by rw[h2];simp))) h5
 |sputC h1 h2 D1 D2 h5 i1 i2=>
  intro g hv d hf
  have hk:=bE hf
  rw[cb]
  have g1:=(aV D1 ⟨g,hv⟩).1
  exact .sputC h1 (kdS h2) (i1 g hv 6 (hk _ (by rw[h2];simp))) (i2 g1 hv 6 (hk _ (by rw[h2];simp))) h5
 |sputS h1 h2 D1 D2 i1 i2=>
  intro g hv d hf
  have hk:=bE hf
  rw[cb]
  have g1:=(aV D1 ⟨g,hv⟩).1
  exact .sputS h1 (kdS h2) (i1 g hv 6 (hk _ (by rw[h2];simp))) (i2 g1 hv 6 (hk _ (by rw[h2];simp)))
 |sback h1 h2 D1 i1=>
  intro g hv d hf
  have hk:=bE hf
  rw[cb]
  exact .sback h1 (kdS h2) (i1 g hv 6 (hk _ (by rw[h2];simp)))
 |sdo h1 h2 D1 i1=>
  intro g hv d hf
  have hk:=bE hf
  rw[cb]
  exact .sdo h1 (kdS h2) (i1 g hv 6 (hk _ (by rw[h2];simp)))
 |lpS h1 D1 i1=>
  intro g hv d hf
  have hk:=bE hf
  rw[cb]
  exact .lpS (kdS h1) (i1 g hv 6 (hk _ (by rw[h1];simp)))
 |lp0 h1 D1 i1=>
  intro g hv d hf
  have hk:=bE hf
  rw[cb]
  exact .lp0 (kdS h1) (i1 g hv 6 (hk _ (by rw[h1];simp)))
 |call h1 D1 h3 h4 D2 i1 i2=>
  intro g hv d hf
  obtain⟨d,rfl⟩:=bB hf
  have hk:=λa ha=>be (a:=a) hf ha
  rw[dh]
  have p1:=aV D1 ⟨g,hv⟩
  exact dY (bD hf) g hv (.call h1 (i1 g hv d hk) (((FA l).at_ _).trans h3) h4 (i2 ⟨p1.1,(p1.2.2 _ rfl).2⟩))
 |callS h1 D1 i1=>
  intro g hv d hf
  obtain⟨d,rfl⟩:=bB hf
  have hk:=λa ha=>be (a:=a) hf ha
  rw[dh]
  exact dY (bD hf) g hv (.callS h1 (i1 g hv d hk))
 |nil=>
  intro g hv d hf
  exact .nil
 |cons D1 D2 i1 i2=>
  intro g hv d hf
  have g1:=(aV D1 ⟨g,hv⟩).1
  exact .cons (i1 g hv d (hf _ (by simp))) (i2 g1 hv d (λx hx=>hf x (by simp[hx])))
 |consS D1 i1=>
  intro g hv d hf
  exact .consS (i1 g hv d (hf _ (by simp)))
 |consT D1 D2 i1 i2=>
  intro g hv d hf
  have g1:=(aV D1 ⟨g,hv⟩).1
  exact .consT (i1 g hv d (hf _ (by simp))) (i2 g1 hv d (λx hx=>hf x (by simp[hx])))
 | @cal k f us s v' s' r h1 h2 D1 i1=>
   intro p
   have hfd:=((dC l).1 hp).2.1 f (Zy h1)
   simp only[iZ,ZE,ZA] at hfd
   refine .cal (f:=sG f) (by rw[cU,ZK,h1];rfl) h2 (i1 p.1 (λm hm x hx=>?_) 4 hfd.2)
   rw[ZC.1 hm] at hx
   exact p.2 _ (List.of_mem_zip hx).2
 |bnil=>
  intro g hv d hf
  exact .bnil
 |bfuel h0=>
  intro g hv d hf
  exact .bfuel h0
 | @bgo k v s x r F v1 s1 v2 s2 q hF D1 D2 i1 i2=>
   intro g hv d hf
   have p1:=aV D1 ⟨g.at_ F,hv⟩
   exact .bgo hF (i1 (g.at_ F) hv d (hf _ (by simp))) (i2 p1.1 p1.2.2.1 d (λx hx=>hf x (by simp[hx])))
 | @bend k v s x r F v1 s1 q hF D1 h3 i1=>
   intro g hv d hf
   exact .bend hF (i1 (g.at_ F) hv d (hf _ (by simp))) h3
 | @sif k v s x a s1 n m v' s2 q h1 h2 D1 D2 i1 i2=>
   intro g hv d hf
   obtain⟨d,rfl⟩:=iE hf
   have hk:=bE hf
   have g1:=(aV D1 ⟨g,hv⟩).1
   have hb:=i2 g1 hv.opn d (λy hy=>by
    split at hy
    ·exact iJ hf y hy
    ·exact sN hf y hy)
   rw[cb]
   refine .sif h1 (kdS h2) (i1 g hv 6 (hk _ (by rw[h2];simp))) (m:=m) ?_
   have e:aC (if n≠0 then x.body else x.els)=if n≠0 then aC x.body else aC x.els:=by split<;>rfl
   rw[e] at hb
   exact hb
 |sloop h1 D1 i1=>
  intro g hv d hf
  have hb:=i1 g hv d hf
  exact .sloop ((Rk _).trans h1) hb
 |lpEnd h1 D1 h3 D2 h5 i1 i2=>
  intro g hv d hf
  obtain⟨d,rfl⟩:=iE hf
  have hk:=bE hf
  have g1:=(aV D1 ⟨g,hv⟩).1
  rw[cb]
  exact .lpEnd (kdS h1) (i1 g hv 6 (hk _ (by rw[h1];simp))) h3 (i2 g1 hv.opn d (iJ hf)) h5
 |lpFuel h1 D1 h3 D2 h5 i1 i2=>
  intro g hv d hf
  obtain⟨d,rfl⟩:=iE hf
  have hk:=bE hf
  have g1:=(aV D1 ⟨g,hv⟩).1
  rw[cb]
  exact .lpFuel (kdS h1) (i1 g hv 6 (hk _ (by rw[h1];simp))) h3 (i2 g1 hv.opn d (iJ hf)) h5
 | @lpGo k v s x a s1 n m v' s2 F v'' s3 q h1 D1 h3 D2 h5 D3 i1 i2 i3=>
   intro g hv d hf
   have hf0:=hf
   obtain⟨d,rfl⟩:=iE hf
   have hk:=bE hf
   have g1:=(aV D1 ⟨g,hv⟩).1
   have p2:=aV D2 ⟨g1,hv.opn⟩
   have hb:=i3 (p2.1.at_ F) p2.2.2.1.tail (d+1) hf0
   rw[cb] at hb⊢
   exact .lpGo (kdS h1) (i1 g hv 6 (hk _ (by rw[h1];simp))) h3 (i2 g1 hv.opn d (iJ hf)) h5 hb
theorem OJ{l:List Fd}(hp:bc l=true){K:Nat}{us:List Int}{s s':S5}{r:O5 Int}(h:Ev l (.cal K us s s' r))(g:G5 s)(hu:∀n∈us,V5 n):Ev (cU l) (.cal K us s s' r):=TB hp h ⟨g,hu⟩
end
section
def KE(x:Sm)(n:Int):Bool:=match x.args with|a::_=>isN a n|[]=>false
def Rz(x:Sm):Bool:=match x.args with|a::_=>decide (a.op=1)|[]=>false
def CC(x:Sm):Bool:=decide (x.op=6)&&KE x 0
mutual
def gY:Sm->Sm
 | .mk o s a bd el=> .mk o s a
   (if o=5/\KE (.mk o s a bd el) 0=true then[] else br bd)
   (if o=5/\KE (.mk o s a bd el) 0=false/\Rz (.mk o s a bd el)=true then[] else br el)
def br:List Sm->List Sm
 |[]=>[]
 |s::r=>if CC s=true then br r else gY s::(if s.op=7 then[] else br r)
end
theorem pC(s:Sm)(r:List Sm):br (s::r)=if CC s=true then br r else gY s::(if s.op=7 then[] else br r):=by rw[br]
def WZ(f:Fd):Fd:=⟨f.name,f.params,br f.body⟩
def Xc(l:List Fd):List Fd:=l.map WZ
theorem Tq(x:Sm):(gY x).op=x.op:=by cases x;rw[gY];rfl
theorem Nw(x:Sm):(gY x).name=x.name:=by cases x;rw[gY];rfl
theorem Nc(x:Sm):(gY x).args=x.args:=by cases x;rw[gY];rfl
theorem Tn(x:Sm):(gY x).body=if x.op=5/\KE x 0=true then[] else br x.body:=by cases x;rw[gY];rfl
theorem OA(x:Sm):(gY x).els=if x.op=5/\KE x 0=false/\Rz x=true then[] else br x.els:=by cases x;rw[gY];rfl
section
variable {l:List Fd} {k:Nat} {v v':List Sc5} {s s':S5} {x:Sm} {r:O5 (Option Int)}
end
end
section
theorem Yl{o n:Int}{s:List UInt8}{ks:List Ex}{x:Ex}(hx:P5 o n s ks x):x.sz<=1+s.length+bj ks:=by
 rcases hx with rfl|⟨q,rfl,hq⟩|⟨a,ha,rfl⟩|⟨a,ha,c,hc,rfl⟩
 ·exact ZH _
 ·simp only[bW,Ex.sz,bj,aay];omega
 ·have:=aN ha;omega
 ·have h1:=aN ha
  have h2:=aN hc
  have h3:=a.sz_eq
  omega
mutual
theorem Tj:∀e:Ex,(de e).sz<=e.sz
 | .mk o n s ks=>by
   rw[de,Ex.sz]
   have h1:=Yl (BT o n s (aJ ks))
   have h2:=pf ks
   omega
theorem pf:∀l:List Ex,bj (aJ l)<=bj l
 |[]=>ZH _
 |e::r=>by
  have h1:=Tj e
  have h2:=pf r
  rw[aJ,bj,bj]
  omega
end
mutual
theorem NZ:∀x:Sm,(kb x).sz<=x.sz
 | .mk o s a bd el=>by
   rw[kb,Sm.sz,Sm.sz]
   have h1:=pf a
   have h2:=me bd
   have h3:=me el
   omega
theorem me:∀l:List Sm,an (aC l)<=an l
 |[]=>ZH _
 |x::r=>by
  have h1:=NZ x
  have h2:=me r
  rw[aC,an,an]
  omega
end
theorem Id(g:Fd->Fd)(hg:∀f,(g f).sz<=f.sz):∀l:List Fd,aH (l.map g)<=aH l
 |[]=>ZH _
 |f::r=>by
  have h1:=hg f
  have h2:=Id g hg r
  have e1:aH (f::r)=f.sz+aH r:=by simp[aH]
  have e2:aH ((f::r).map g)=(g f).sz+aH (r.map g):=by simp[aH]
  omega
theorem Pt(f:Fd):(sG f).sz<=f.sz:=by
 have:=me f.body
 simp only[sG,Fd.sz];omega
theorem Kk(l:List Fd):aH (cU l)<=aH l:=Id sG Pt l
end
section
theorem El:AK.whole ip=FK.ak ic:=rfl
variable (G:am)
theorem gr(n:Int):VF Tryz.prog G cd [.p (.int .i64 n)] (.agg ((bW n).cs.map .p)):=by
 have key:AC Tryz.prog G cd [.p (.int .i64 n)] [] λx h=>x= .ret (.agg [.p (.int .i64 1),.p (.int .i64 n),.p (.str []),.nils]):=by
  refine AC.go GC ?_
  simp-implicitDefEqProofs[yJ]
 refine key.freezeR (λt v h e=>by cases e) λv h e=>?_
 cases e
 exact .agg (.one (.p _) (.one (.p _) (.one (.p _) (.one (.nils 4) .nil)))) .nil
theorem DV(e:Ex)(n:Int):VF Tryz.prog G dp [.agg (e.cs.map .p),.p (.int .i64 n)] (.p (.bool (isN e n))):=by
 refine AC.go Ht ?_
 by_cases h1:e.op=1
 ·simp-implicitDefEqProofs[rD,Ex.cs_eq,isN,h1]
 ·simp-implicitDefEqProofs[rD,Ex.cs_eq,isN,h1]
theorem tg(b:Bool):VF Tryz.prog G dI [.p (.bool b)] (.p (.int .i64 (tr5 b))):=by
 refine AC.go Ce ?_
 cases b<;>simp-implicitDefEqProofs[rZ,tr5]
def tv:Option Int->AV
 |some q=> .tup [.p (.int .i64 q),.p (.int .i64 0)]
 |none=> .tup [.p (.int .i64 0),.p (.int .i64 1)]
theorem SK(o a b:Int)(ho:3<=o)(h9:o<=9)(ha:V5 a)(hb:V5 b):VF Tryz.prog G pE [.p (.int .i64 o),.p (.int .i64 a),.p (.int .i64 b)] (tv (gx o a b)):=by
 obtain⟨a0,a1⟩:=ha
 obtain⟨b0,b1⟩:=hb
 refine AC.go GJ ?_
 have hm:a*b<=65025:=by
  have h1:=Int.mul_le_mul_of_nonneg_right a1 b0
  omega
 have hm0:0<=a*b:=Int.mul_nonneg a0 b0
 have ho':o=3\/o=4\/o=5\/o=6\/o=7\/o=8\/o=9:=by omega
 rcases ho' with rfl|rfl|rfl|rfl|rfl|rfl|rfl
 all_goals simp-implicitDefEqProofs[zK,gx]
 ·rw[ae (by omega) (by omega),Int.tmod_eq_emod_of_nonneg (by omega)];rfl
 ·have hw:IntKind.i64.wrap (a-b)=a-b:=ae (by omega) (by omega)
  rw[hw,ae (by omega) (by omega),Int.tmod_eq_emod_of_nonneg (by omega)]
  have:(a-b+256)%256=(a-b)%256:=by omega
  rw[this];rfl
 ·rw[ae (by omega) (by omega),Int.tmod_eq_emod_of_nonneg (by omega)];rfl
 ·refine aT (λh=>?_) (λh=>?_)
  ·simp at h
   simp-implicitDefEqProofs[h,tv]
  ·simp at h
   simp-implicitDefEqProofs[h,tv]
   rw[Int.tdiv_eq_ediv_of_nonneg (by omega)]
   have h1:a/b<=a:=Int.ediv_le_self b a0
   have h2:0<=a/b:=Int.ediv_nonneg a0 b0
   exact ae (by omega) (by omega)
 ·refine aT (λh=>?_) (λh=>?_)
  ·simp at h
   simp-implicitDefEqProofs[h,tv]
  ·simp at h
   simp-implicitDefEqProofs[h,tv]
   rw[Int.tmod_eq_emod_of_nonneg (by omega)]
 ·refine(tg G _).use ?_
  simp-implicitDefEqProofs[tv]
 ·refine(tg G _).use ?_
  simp-implicitDefEqProofs[tv]
theorem mt:∀l:List Ex,pB l=l.all dm
 |[]=>rfl
 |e::r=>by rw[pB,mt r];rfl
def dvE(e:Ex):Bool:=(decide (e.op=6)||decide (e.op=7))&& !(match e.kids with|[_,b]=>decide (b.op=1)&& !decide (b.n=0)|_=>false)
theorem Ja(e:Ex):dm e=(!decide (e.op=12)&& !decide (e.op=13)&& !dvE e&&e.kids.all dm):=by
 have h:∀(a c:Bool),(!(a&& !c))=(!a||c):=by decide
 rw[dvE,h]
 match e with
 | .mk o n s []=>rw[dm,mt]<;>first|rfl|(intro _ _ e;cases e)
 | .mk o n s [a]=>rw[dm,mt]<;>first|rfl|(intro _ _ e;cases e)
 | .mk o n s [a,b]=>rw[dm,mt];rfl
 | .mk o n s (a::b::c::r)=>rw[dm,mt]<;>first|rfl|(intro _ _ e;cases e)
theorem IU:∀(d:Nat) (e:Ex),aQ d e=true->e.sz<=1099511627776->VF Tryz.prog G iq [.agg (e.cs.map .p)] (.p (.bool (dm e))):=by
 intro d
 induction d with
 |zero=>intro e h;cases h
 |succ d ih=>
  intro e hf hz
  have hzz:=e.sz_eq
  have hlen:=aZ e.kids
  refine AC.goK EA El ?_
  rw[Ja]
  by_cases o12:e.op=12
  ·simp-implicitDefEqProofs[ip,ic,Ex.cs_eq,o12]
  by_cases o13:e.op=13
  ·simp-implicitDefEqProofs[ip,ic,Ex.cs_eq,o13]
  have hxl:∀l,exL l= .lst 4 (l.map Ex.cs):=λ_=>rfl
  simp-implicitDefEqProofs[ip,ic,Ex.cs_eq,o12,o13,hxl]
  refine rh (λ_:Unit=>ah 50 [(1,.ptr 0 4 0 0)]) (λ_=>[.row 4 [[.p (.int .i64 e.op),.p (.int .i64 e.n),.p (.str e.name),.p (.lst 4 (e.kids.map Ex.cs))]]]) (λ_=>dvE e=false) ?_ ?_
  ·by_cases o67:e.op=6\/e.op=7
   ·have hk:∃a b,e.kids=[a,b]:=by
     obtain⟨l1,l2,_⟩:=dy hf
     have e1:loK e.op=2/\hiK e.op=2:=by rcases o67 with h|h<;>rw[h]<;>exact⟨rfl,rfl⟩
     rw[e1.1] at l1
     rw[e1.2] at l2
     match hx:e.kids,l1,l2 with
     |[a,b],_,_=>exact⟨a,b,rfl⟩
    obtain⟨a,b,hk⟩:=hk
    have hd:dvE e= !(decide (b.op=1)&& !decide (b.n=0)):=by
     rw[dvE,hk]
     rcases o67 with h|h<;>simp[h]
    rw[hd]
    have hbc:=b.cs_eq
    rcases o67 with o6|o7
    ·by_cases b1:b.op=1
     ·by_cases b0:b.n=0
      ·simp-implicitDefEqProofs[o6,hk,hbc,b1,b0]
      ·simp-implicitDefEqProofs[o6,hk,hbc,b1,b0]
       exact ab (by simp) (by simp[okO]) (by simp[below])
     ·simp-implicitDefEqProofs[o6,hk,hbc,b1]
    ·by_cases b1:b.op=1
     ·by_cases b0:b.n=0
      ·simp-implicitDefEqProofs[o7,hk,hbc,b1,b0]
      ·simp-implicitDefEqProofs[o7,hk,hbc,b1,b0]
       exact ab (by simp) (by simp[okO]) (by simp[below])
     ·simp-implicitDefEqProofs[o7,hk,hbc,b1]
   ·have o6:¬e.op=6:=λh=>o67 (.inl h)
    have o7:¬e.op=7:=λh=>o67 (.inr h)
    simp-implicitDefEqProofs[o6,o7]
    exact⟨by simp[dvE,o6,o7],ab (by simp) (by simp[okO]) (by simp[below])⟩
  ·intro _ hd
   simp-implicitDefEqProofs[]
   refine aI (λi:Nat=>ah 50 [(1,.ptr 0 4 0 0),(3,.p (.int .i64 i))]) (λ_=>[.row 4 [[.p (.int .i64 e.op),.p (.int .i64 e.n),.p (.str e.name),.p (.lst 4 (e.kids.map Ex.cs))]]])
    (λi=>i<=e.kids.length/\(e.kids.take i).all dm=true) (λi=>e.kids.length-i) 0 (by simp) (ab (by simp) (by simp[okO]) (by simp[below])) ?_
   intro i ⟨hi,hall⟩
   simp-implicitDefEqProofs[]
   refine aT (λh=>?_) (λh=>?_)
   ·simp at h
    have hg:=Zu h
    have hks:=aN (ZD h)
    simp-implicitDefEqProofs[hg]
    refine(ih e.kids[i] (be hf (ZD h)) (by omega)).use ?_
    by_cases hk:dm e.kids[i]=true
    ·simp-implicitDefEqProofs[hk]
     refine⟨i+1,⟨h,by rw[←ZA,ep h,hall,hk];rfl⟩,by omega,ab (by simp) (by simp[okO]) ?_⟩
     simp[below,w1 (i:=i) (by omega)]
    ·have hk':dm e.kids[i]=false:=by simpa using hk
     simp-implicitDefEqProofs[hk',nF h hk']
   ·simp at h
    have:=ik h hall
    simp-implicitDefEqProofs[hd,this]
end
section
def Byt(l:List Int):Prop:=∀n∈l,0<=n/\n<=255
def rdO(b:List Int)(p:Nat):AO:= .row 2 [[.p (yS b),.p (.int .i64 p)]]
theorem Ns{a b:Int}(ha:0<=a)(ha2:a<4611686018427387904)(hb:0<=b)(hb2:b<4611686018427387904):∃n:Nat,IntKind.i64.wrap ((BitVec.ofInt IntKind.i64.bits a^^^BitVec.ofInt IntKind.i64.bits b).toNat:Int)=n:=by
 refine⟨(BitVec.ofInt IntKind.i64.bits a^^^BitVec.ofInt IntKind.i64.bits b).toNat,?_⟩
 obtain⟨x,rfl⟩:∃x:Nat,a=x:=⟨a.toNat,by omega⟩
 obtain⟨y,rfl⟩:∃y:Nat,b=y:=⟨b.toNat,by omega⟩
 have h1:(BitVec.ofInt 64 (x:Int)).toNat=x:=by simp;omega
 have h2:(BitVec.ofInt 64 (y:Int)).toNat=y:=by simp;omega
 have h3:(BitVec.ofInt 64 (x:Int)^^^BitVec.ofInt 64 (y:Int)).toNat<2^63:=by
  rw[BitVec.toNat_xor,h1,h2]
  exact Nat.xor_lt_two_pow (by omega) (by omega)
 have h4:(BitVec.ofInt IntKind.i64.bits (x:Int)^^^BitVec.ofInt IntKind.i64.bits (y:Int)).toNat<2^63:=h3
 exact ae (by omega) (by omega)
theorem Md{a:Nat}{n:Int}(hn:1<=n):∃k:Nat,((a:Int).tmod n)=k/\(k:Int)<n:=by
 obtain⟨m,rfl⟩:∃m:Nat,n=m:=⟨n.toNat,by omega⟩
 refine⟨a%m,?_,?_⟩
 ·rfl
 ·have:a%m<m:=Nat.mod_lt _ (by omega)
  omega
variable (G:am)
theorem Pk(l:List Int):AC Tryz.prog G je [.p (yS l)] [] λx h=>x= .ret (.ptr 0 2 0 0)/\h=[rdO (l.take 2000) 0]:=by
 refine AC.go Dy ?_
 have hbl:yS l= .lst 1 (l.map λn=>[.int .u8 n]):=rfl
 simp-implicitDefEqProofs[rx,hbl]
 refine aT (λh=>?_) (λh=>?_)
 ·simp at h
  have:2000<=l.length:=by omega
  simp-implicitDefEqProofs[this,rdO,yS,List.map_take]
 ·simp at h
  have:l.take 2000=l:=Zz (by omega)
  simp-implicitDefEqProofs[rdO,this,yS]
theorem Uw(b:List Int)(hb:Byt b)(hl:b.length<=2000)(p:Nat)(hp:p<=1099511627776)(n:Int):AC Tryz.prog G bi [.ptr 0 2 0 0,.p (.int .i64 n)] [rdO b p] λx h=>∃k:Nat,x= .ret (.p (.int .i64 k))/\h=[rdO b (p+1)]/\((k:Int)<n\/k=0):=by
 refine AC.go vC ?_
 have hbl:yS b= .lst 1 (b.map λn=>[.int .u8 n]):=rfl
 have hw:IntKind.i64.wrap ((p:Int)+1)=((p+1:Nat):Int):=w1 (by omega)
 by_cases hn:n<1
 ·simp-implicitDefEqProofs[fU,rdO,hbl,hw,hn]
  exact⟨0,rfl,.inr rfl⟩
 by_cases hbn:b=[]
 ·subst hbn
  have hb0:yS []= .lst 1 []:=rfl
  simp-implicitDefEqProofs[fU,rdO,hb0,hw,hn]
  exact⟨0,rfl,.inr rfl⟩
 have hpos:0<b.length:=List.length_pos_iff.2 hbn
 have hlb:¬b.length=0:=by omega
 have hn0:¬n=0:=by omega
 have hw2:IntKind.i64.wrap (p:Int)=(p:Int):=ae (by omega) (by omega)
 have at_:∀q:Nat,∃c:Int,b[q%b.length]?=some c/\0<=c/\c<=255:=λq=>by
  have h:=Nat.mod_lt q hpos
  exact⟨_,Zu h,hb _ (ZD h)⟩
 simp-implicitDefEqProofs[fU,rdO,hbl,hw,hn,hbn,hw2]
 refine aT (λh1=>?_) (λh1=>?_)
 ·simp at h1
  obtain⟨c,e1,e2,e3⟩:=at_ p
  rw[Nat.mod_eq_of_lt h1] at e1
  obtain⟨d,rfl⟩:∃d:Nat,c=d:=⟨c.toNat,by omega⟩
  obtain⟨k,q1,q2⟩:=Md (a:=d) (n:=n) (by omega)
  have hw3:IntKind.i64.wrap (d:Int)=d:=ae (by omega) (by omega)
  simp-implicitDefEqProofs[e1,hw3,hn0,q1]
  exact⟨k,rfl,.inl q2⟩
 ·simp at h1
  obtain⟨c1,e1,e2,e3⟩:=at_ p
  obtain⟨c2,f1,f2,f3⟩:=at_ (p*7+3)
  have hq:p/b.length<=p:=Nat.div_le_self _ _
  have ht1:(p:Int).tmod (b.length:Int)=((p%b.length:Nat):Int):=rfl
  have ht2:((p:Int)*7+3).tmod (b.length:Int)=(((p*7+3)%b.length:Nat):Int):=rfl
  have ht3:(p:Int).tdiv (b.length:Int)=((p/b.length:Nat):Int):=rfl
  generalize p/b.length=q at hq ht3
  generalize p%b.length=r1 at e1 ht1
  generalize (p*7+3)%b.length=r2 at f1 ht2
  obtain⟨x1,rfl⟩:∃d:Nat,c1=d:=⟨c1.toNat,by omega⟩
  obtain⟨x2,rfl⟩:∃d:Nat,c2=d:=⟨c2.toNat,by omega⟩
  obtain⟨m,hx⟩:=Ns (a:=x1*131+x2*1117+p*29+q*53) (b:=(x1*131+x2*1117+p*29+q*53)/64) (by omega) (by omega) (by omega) (by omega)
  obtain⟨k,q1,q2⟩:=Md (a:=m) (n:=n) (by omega)
  have ht4:((x1:Int)*131+x2*1117+p*29+q*53).tdiv 64=((x1:Int)*131+x2*1117+p*29+q*53)/64:=Int.tdiv_eq_ediv_of_nonneg (by omega)
  have w1:IntKind.i64.wrap ((p:Int)*7)=(p:Int)*7:=ae (by omega) (by omega)
  have w2:IntKind.i64.wrap ((p:Int)*7+3)=(p:Int)*7+3:=ae (by omega) (by omega)
  have w3:IntKind.i64.wrap ((p:Int)*29)=(p:Int)*29:=ae (by omega) (by omega)
  have w4:IntKind.i64.wrap (x1:Int)=x1:=ae (by omega) (by omega)
  have w5:IntKind.i64.wrap (x2:Int)=x2:=ae (by omega) (by omega)
  have w6:IntKind.i64.wrap ((x1:Int)*131)=(x1:Int)*131:=ae (by omega) (by omega)
  have w7:IntKind.i64.wrap ((x2:Int)*1117)=(x2:Int)*1117:=ae (by omega) (by omega)
  have w8:IntKind.i64.wrap ((x1:Int)*131+x2*1117)=(x1:Int)*131+x2*1117:=ae (by omega) (by omega)
  have w9:IntKind.i64.wrap ((x1:Int)*131+x2*1117+p*29)=(x1:Int)*131+x2*1117+p*29:=ae (by omega) (by omega)
  have w10:IntKind.i64.wrap (q:Int)=q:=ae (by omega) (by omega)
  have w11:IntKind.i64.wrap ((q:Int)*53)=(q:Int)*53:=ae (by omega) (by omega)
  have w12:IntKind.i64.wrap ((x1:Int)*131+x2*1117+p*29+q*53)=(x1:Int)*131+x2*1117+p*29+q*53:=ae (by omega) (by omega)
  have w13:IntKind.i64.wrap (((x1:Int)*131+x2*1117+p*29+q*53)/64)=((x1:Int)*131+x2*1117+p*29+q*53)/64:=ae (by omega) (by omega)
  simp-implicitDefEqProofs[hlb,ht1,ht2,ht3,e1,f1,w1,w2,w3,w4,w5,w6,w7,w8,w9,w10,w11,w12,w13,ht4,hx,hn0,q1]
  simp-implicitDefEqProofs[] at hx
  rw[hx]
  exact⟨k,q1,.inl q2⟩
theorem bA(b:List Int)(p n:Nat):okO n (rdO b p):=by simp[okO,rdO]
theorem aR(b:List Int)(hb:Byt b)(hl:b.length<=2000)(p:Nat)(hp:p<=1099511627776)(n:Int)(rest:List AO):AC Tryz.prog G bi [.ptr 0 2 0 0,.p (.int .i64 n)] (rdO b p::rest) λx h=>∃k:Nat,x= .ret (.p (.int .i64 k))/\h=rdO b (p+1)::rest/\((k:Int)<n\/k=0):=by
 refine((Uw G b hb hl p hp n).pre rest (by simp[below]) (λo ho=>by rw[ZC.1 ho];exact bA _ _ _) ?_).mono ?_
 ·rintro x h ⟨k,_,rfl,_⟩;rfl
 ·rintro x h ⟨h1,⟨k,e1,rfl,e3⟩,rfl⟩
  exact⟨k,e1,rfl,e3⟩
theorem TJ{f:FuncId}{args:List AV}{b:List Int}{p:Nat}{o:AO}{R:AV->Nat->Prop}(H:AC Tryz.prog G f (.ptr 0 2 0 0::args) [rdO b p,o] λx h=>∃v q,x= .ret (.p v)/\h=[rdO b q,o]/\R (.p v) q)(ho:okO 0 o)
 {h:List AO}{k:Nat}{args':List AV}(hk:k≠0)(h0:h[0]?=some (rdO b p))(h1:h[k]?=some o)(hT:TW [0,k] args' args):AC Tryz.prog G f (.ptr 0 2 0 0::args') h λx h'=>∃v q,x= .ret (.p v)/\h'=h.set 0 (rdO b q)/\R (.p v) q:=by
 have nd:[0,k].Nodup:=by simp;omega
 refine(H.frame (args:= .ptr 0 2 0 0::args') [0,k] nd (by rw[BX];exact⟨.inr ⟨by simp[below],rfl⟩,hT⟩) (bV h0 (bA _ _ _) (bV h1 ho aU))).mono ?_
 rintro x h' ⟨x0,h2,⟨v,q,rfl,rfl,r⟩,_,rfl,rfl⟩
 refine⟨v,q,by simp[Dl,ren],?_,r⟩
 have e1:∀σ,iL σ (rdO b q)=rdO b q:=λσ=>zJ (n:=0) (λi hi=>by omega) _ (bA _ _ _)
 have e2:∀σ,iL σ o=o:=λσ=>zJ (n:=0) (λi hi=>by omega) _ ho
 simp only[List.take,ZO,aay,ZT,aaz,e1,e2,mrg,List.drop,aar]
 refine List.ext_getElem? λi=>?_
 rw[List.getElem?_set]
 split
 ·rename_i e;subst e
  rw[Zx (Ne.symm hk)]
  split
  ·exact h1.symm
  ·rename_i hl
   have:=(Zt.1 h1).1
   simp at hl;omega
 ·rfl
theorem UU(b:List Int)(hb:Byt b)(hl:b.length<=2000)(p:Nat)(hp:p<=1099511627776)(l:List Int)(hne:l≠[])(hll:l.length<=1099511627776):AC Tryz.prog G cG [.ptr 0 2 0 0,.sl 1 1 0 l.length] [rdO b p,jb l] λx h=>∃v q,x= .ret (.p v)/\h=[rdO b q,jb l]/\(∃n,v= .int .i64 n/\n∈l)/\q=p+1:=by
 refine AC.go pq ?_
 have hpos:0<l.length:=List.length_pos_iff.2 hne
 simp-implicitDefEqProofs[kr]
 refine(aR G b hb hl p hp l.length [jb l]).mono ?_
 rintro r h ⟨k,rfl,rfl,hk⟩
 have hkl:k<l.length:=by omega
 have hg:=Zu hkl
 have hn:jb l= .row 1 (l.map λn=>[.p (.int .i64 n)]):=rfl
 simp-implicitDefEqProofs[aa,hkl,hn,hg]
theorem lO{b:List Int}(hb:Byt b)(hl:b.length<=2000){p:Nat}(hp:p<=1099511627776)(l:List Int){h:List AO}{k:Nat}(hne:l≠[])(hll:l.length<=1099511627776)(hk:k≠0)(h0:h[0]?=some (rdO b p))(h1:h[k]?=some (jb l)):
 AC Tryz.prog G cG [.ptr 0 2 0 0,.sl k 1 0 l.length] h λx h'=>∃n,n∈l/\x= .ret (.p (.int .i64 n))/\h'=h.set 0 (rdO b (p+1)):=by
 refine(TJ G (args:=[.sl 1 1 0 l.length]) (R:=λv q=>(∃n,v= .p (.int .i64 n)/\n∈l)/\q=p+1) ((UU G b hb hl p hp l hne hll).mono ?_) (by simp[okO,jb]) (args':=[.sl k 1 0 l.length]) hk h0 h1 (by simp[below,ren])).mono ?_
 ·rintro x h ⟨v,q,e1,e2,⟨n,rfl,e3⟩,e4⟩
  exact⟨_,q,e1,e2,⟨n,rfl,e3⟩,e4⟩
 ·rintro x h' ⟨v,q,e1,e2,⟨n,e3,e4⟩,e5⟩
  cases e3;subst e5
  exact⟨n,e4,e1,e2⟩
theorem Ws(b:List Int)(hb:Byt b)(hl:b.length<=2000)(p:Nat)(hp:p<=1099511627776)(l:List (List UInt8))(hne:l≠[])(hll:l.length<=1099511627776):AC Tryz.prog G dT [.ptr 0 2 0 0,.sl 1 1 0 l.length] [rdO b p,fV l] λx h=>∃v q,x= .ret (.p v)/\h=[rdO b q,fV l]/\(∃s,v= .str s/\s∈l)/\q=p+1:=by
 refine AC.go pZ ?_
 have hpos:0<l.length:=List.length_pos_iff.2 hne
 simp-implicitDefEqProofs[lv]
 refine(aR G b hb hl p hp l.length [fV l]).mono ?_
 rintro r h ⟨k,rfl,rfl,hk⟩
 have hkl:k<l.length:=by omega
 have hg:=Zu hkl
 have hn:fV l= .row 1 (l.map λn=>[.p (.str n)]):=rfl
 simp-implicitDefEqProofs[aa,hkl,hn,hg]
theorem Jq{b:List Int}(hb:Byt b)(hl:b.length<=2000){p:Nat}(hp:p<=1099511627776)(l:List (List UInt8)){h:List AO}{k:Nat}(hne:l≠[])(hll:l.length<=1099511627776)(hk:k≠0)(h0:h[0]?=some (rdO b p))(h1:h[k]?=some (fV l)):
 AC Tryz.prog G dT [.ptr 0 2 0 0,.sl k 1 0 l.length] h λx h'=>∃s,s∈l/\x= .ret (.p (.str s))/\h'=h.set 0 (rdO b (p+1)):=by
 refine(TJ G (args:=[.sl 1 1 0 l.length]) (R:=λv q=>(∃n,v= .p (.str n)/\n∈l)/\q=p+1) ((Ws G b hb hl p hp l hne hll).mono ?_) (by simp[okO,fV]) (args':=[.sl k 1 0 l.length]) hk h0 h1 (by simp[below,ren])).mono ?_
 ·rintro x h ⟨v,q,e1,e2,⟨n,rfl,e3⟩,e4⟩
  exact⟨_,q,e1,e2,⟨n,rfl,e3⟩,e4⟩
 ·rintro x h' ⟨v,q,e1,e2,⟨n,e3,e4⟩,e5⟩
  cases e3;subst e5
  exact⟨n,e4,e1,e2⟩
theorem Lu{b:List Int}(hb:Byt b)(hl:b.length<=2000){p:Nat}(hp:p<=1099511627776)(l:List (List UInt8))(hne:l≠[])(hll:l.length<=1099511627776)(rest:List AO):AC Tryz.prog G dT [.ptr 0 2 0 0,.p (au l)] (rdO b p::rest) λx h=>∃s,s∈l/\x= .ret (.p (.str s))/\h=rdO b (p+1)::rest:=by
 have key:AC Tryz.prog G dT [.ptr 0 2 0 0,.p (au l)] [rdO b p] λx h=>∃s,s∈l/\x= .ret (.p (.str s))/\h=[rdO b (p+1)]:=by
  refine AC.go pZ ?_
  have hpos:0<l.length:=List.length_pos_iff.2 hne
  have hsl:au l= .lst 1 (l.map λw=>[.str w]):=rfl
  simp-implicitDefEqProofs[lv,hsl]
  refine(aR G b hb hl p hp l.length []).mono ?_
  rintro r h ⟨k,rfl,rfl,hk⟩
  have hkl:k<l.length:=by omega
  have hg:=Zu hkl
  simp-implicitDefEqProofs[aa,hg]
 refine(key.pre rest (by simp[below]) (λo ho=>by rw[ZC.1 ho];exact bA _ _ _) ?_).mono ?_
 ·rintro x h ⟨k,_,_,rfl⟩;rfl
 ·rintro x h ⟨h1,⟨s,e1,e2,rfl⟩,rfl⟩
  exact⟨s,e1,e2,rfl⟩
def DP(b:List Int)(Q:AV->Nat->Prop)(x:ARes)(h:List AO):Prop:=∃v rest q v1,x= .ret v/\h=rdO b q::rest/\Fzs (.dead::rest) 1 [v] [v1]/\Q v1 q
theorem nM{f:FuncId}{args:List AV}{b:List Int}{p:Nat}{Q:AV->Nat->Prop}(H:AC Tryz.prog G f args [rdO b p] (DP b Q)):AC Tryz.prog G f args [rdO b p] λx h=>∃v q,x= .ret v/\h=[rdO b q]/\Q v q:=by
 refine H.frz 1 (ZH _) (λt v h ⟨_,_,_,_,e,_⟩=>by cases e) ?_
 rintro v h ⟨v0,rest,q,v1,e,rfl,hf,r⟩
 cases e
 exact⟨v1,[rdO b q],by simp,rfl,hf,.same (bA _ _ _) (.nil _),v1,q,rfl,rfl,r⟩
theorem jE{f:FuncId}{args:List AV}{b:List Int}{p:Nat}{Q:AV->Nat->Prop}(H:AC Tryz.prog G f args [rdO b p] λx h=>∃v q,x= .ret v/\h=[rdO b q]/\Q v q)(rest:List AO)(ha:aj 1 args):AC Tryz.prog G f args (rdO b p::rest) λx h=>∃v q,x= .ret v/\h=rdO b q::rest/\Q v q:=by
 refine(H.pre rest ha (λo ho=>by rw[ZC.1 ho];exact bA _ _ _) ?_).mono ?_
 ·rintro x h ⟨k,_,_,rfl,_⟩;rfl
 ·rintro x h ⟨h1,⟨s,q,e1,rfl,e2⟩,rfl⟩
  exact⟨s,q,e1,rfl,e2⟩
end
section
def AF(l:List (List UInt8)):Prop:=l.length<=1000000/\∀s∈l,s.length<=8
theorem ft{h:List AO}{id:Nat}{l:List Ex}(e:h[id]?=some (.row 4 (l.map λx=>x.cs.map .p))):View h (.sl id 4 0 l.length) (exL l):=by
 have:=gm (h:=h) (id:=id) (sz:=4) (n:=l.length) (ls:=l.map Ex.cs) (by rw[e];simp) (by simp) (λx hx=>by obtain⟨b,_,rfl⟩:=ZN.1 hx;exact b.cs_len)
 exact this
variable (G:am)
def ExQ(p n m:Nat)(v:AV)(q:Nat):Prop:=(∃e:Ex,v= .agg (e.cs.map .p)/\e.sz<=n)/\p<=q/\q<=p+m
theorem CA{b:List Int}(hb:Byt b)(hl:b.length<=2000){p:Nat}(hp:p<=1000000000000)(names:List (List UInt8))(hn:AF names):AC Tryz.prog G eq [.ptr 0 2 0 0,.p (au names)] [rdO b p] λx h=>∃v q,x= .ret v/\h=[rdO b q]/\ExQ p 9 2 v q:=by
 refine nM G (AC.go tQ ?_)
 have hsl:au names= .lst 1 (names.map λw=>[.str w]):=rfl
 have fin1:∀(o n:Int) (s:List UInt8) (q:Nat) (rest:List AO),p<=q->q<=p+2->s.length<=8->DP b (ExQ p 9 2) (.ret (.agg [.p (.int .i64 o),.p (.int .i64 n),.p (.str s),.nils])) (rdO b q::rest):=λo n s q rest h1 h2 hs=>
  ⟨_,rest,q,.agg ((Ex.mk o n s []).cs.map .p),rfl,rfl,.agg (.keep (by simp) (.keep (by simp) (.keep (by simp) (.one (View.nils 4) .nil)))) .nil,⟨_,rfl,by simp[Ex.sz,bj];omega⟩,h1,h2⟩
 have num:∀(q:Nat) (h:List AO),q<=1000000000001->h[0]?=some (rdO b q)->h[2]?=some (jb [0,1,2,3,5,7,15,16,100,255])->_:=λq h hq h0 h1=>lO G hb hl (p:=q) (by omega) [0,1,2,3,5,7,15,16,100,255] (h:=h) (k:=2) (by simp) (by simp) (by omega) h0 h1
 by_cases hne:names=[]
 ·subst hne
  have hs0:au []= .lst 1 []:=rfl
  simp-implicitDefEqProofs[ib,hs0]
  refine(num p _ (by omega) rfl rfl).mono ?_
  rintro r h ⟨n,_,rfl,rfl⟩
  simp-implicitDefEqProofs[aa]
  exact fin1 _ _ _ _ _ (by omega) (by omega) (by simp)
 ·have hlen:¬names.length=0:=λh=>hne (aat h)
  simp-implicitDefEqProofs[ib,hsl,hne]
  refine(aR G b hb hl p (by omega) 3 _).mono ?_
  rintro r h ⟨k,rfl,rfl,_⟩
  simp-implicitDefEqProofs[aa]
  refine aT (λhc=>?_) (λhc=>?_)
  ·simp-implicitDefEqProofs[]
   refine(num (p+1) _ (by omega) rfl rfl).mono ?_
   rintro r h ⟨n,_,rfl,rfl⟩
   simp-implicitDefEqProofs[aa]
   exact fin1 _ _ _ _ _ (by omega) (by omega) (by simp)
  ·simp-implicitDefEqProofs[]
   rw[←hsl]
   refine(Lu G hb hl (by omega) names hne (by have:=hn.1;omega) _).mono ?_
   rintro r h ⟨s,hs,rfl,rfl⟩
   have:=hn.2 s hs
   simp-implicitDefEqProofs[aa]
   exact fin1 _ _ _ _ _ (by omega) (by omega) this
theorem Ca{b:List Int}(hb:Byt b)(hl:b.length<=2000)(names:List (List UInt8))(hn:AF names):∀(d:Nat),d<=20->∀{p:Nat},p+6*3^d<=1000000000000->AC Tryz.prog G bg [.ptr 0 2 0 0,.p (au names),.p (.int .i64 d)] [rdO b p] λx h=>∃v q,x= .ret v/\h=[rdO b q]/\ExQ p (10*3^d) (6*3^d) v q:=by
 intro d
 induction d with
 |zero=>
  intro _ p hp
  refine nM G (AC.go oH ?_)
  simp-implicitDefEqProofs[fG]
  refine(jE G (CA G hb hl (by omega) names hn) _ (by simp[below])).mono ?_
  rintro r h ⟨v,q,rfl,rfl,⟨e,rfl,he⟩,h1,h2⟩
  have hec:=e.cs_eq
  simp-implicitDefEqProofs[aa,hec]
  exact⟨_,_,q,.agg (e.cs.map .p),rfl,rfl,.agg (by rw[hec];exact ig (by simp)) .nil,⟨e,rfl,by omega⟩,h1,by omega⟩
 |succ d ih=>
  intro hd p hp
  have hpow:3^(d+1)=3*3^d:=by rw[Nat.pow_succ];omega
  have h1p:1<=3^d:=Nat.one_le_pow _ _ (by omega)
  have ih:=λ{p:Nat} (hp:p+6*3^d<=1000000000000)=>ih (by omega) (p:=p) hp
  rw[hpow] at hp⊢
  generalize 3^d=t at*
  have hw:IntKind.i64.wrap (d:Int)=(d:Int):=ae (by omega) (by omega)
  have leaf:∀(q:Nat) (rest:List AO),p<=q->q<=p+3->AC Tryz.prog G eq [.ptr 0 2 0 0,.p (au names)] (rdO b q::rest) λx h=>∃v q',x= .ret v/\h=rdO b q'::rest/\ExQ q 9 2 v q':=λq rest _ _=>jE G (CA G hb hl (by omega) names hn) rest (by simp[below])
  have sub:∀(q:Nat) (rest:List AO),p<=q->q<=p+6+6*t->AC Tryz.prog G bg [.ptr 0 2 0 0,.p (au names),.p (.int .i64 d)] (rdO b q::rest) λx h=>∃v q',x= .ret v/\h=rdO b q'::rest/\ExQ q (10*t) (6*t) v q':=λq rest _ _=>jE G (ih (by omega)) rest (by simp[below])
  refine nM G (AC.go oH ?_)
  have leafCase:∀(e:Ex) (q:Nat) (rest:List AO),e.sz<=9->p<=q->q<=p+5->DP b (ExQ p (10*(3*t)) (6*(3*t))) (.ret (.agg (e.cs.map .p))) (rdO b q::rest):=λe q rest h1 h2 h3=>
   ⟨_,_,q,.agg (e.cs.map .p),rfl,rfl,.agg (by rw[e.cs_eq];exact ig (by simp)) .nil,⟨e,rfl,by omega⟩,h2,by omega⟩
  have bin:∀(o:Int) (e1 e2:Ex) (q:Nat) (rest:List AO) (k:Nat),(rdO b q::rest)[k+1]?=some (.row 4 [e1.cs.map .p,e2.cs.map .p])->e1.sz<=10*t->e2.sz<=10*t->p<=q->q<=p+6*(3*t)->DP b (ExQ p (10*(3*t)) (6*(3*t))) (.ret (.agg [.p (.int .i64 o),.p (.int .i64 0),.p (.str []),.sl (k+1) 4 0 2])) (rdO b q::rest):=λo e1 e2 q rest k hk h1 h2 h3 h4=>
   ⟨_,rest,q,.agg ((Ex.mk o 0 [] [e1,e2]).cs.map .p),rfl,rfl,.agg (.keep (by simp) (.keep (by simp) (.keep (by simp) (.one (ft (l:=[e1,e2]) (by simpa using hk)) .nil)))) .nil,⟨_,rfl,by simp[Ex.sz,bj];omega⟩,h3,h4⟩
  have una:∀(o:Int) (e1:Ex) (q:Nat) (rest:List AO) (k:Nat),(rdO b q::rest)[k+1]?=some (.row 4 [e1.cs.map .p])->e1.sz<=10*t->p<=q->q<=p+6*(3*t)->DP b (ExQ p (10*(3*t)) (6*(3*t))) (.ret (.agg [.p (.int .i64 o),.p (.int .i64 0),.p (.str []),.sl (k+1) 4 0 1])) (rdO b q::rest):=λo e1 q rest k hk h1 h3 h4=>
   ⟨_,rest,q,.agg ((Ex.mk o 0 [] [e1]).cs.map .p),rfl,rfl,.agg (.keep (by simp) (.keep (by simp) (.keep (by simp) (.one (ft (l:=[e1]) (by simpa using hk)) .nil)))) .nil,⟨_,rfl,by simp[Ex.sz,bj];omega⟩,h3,h4⟩
  by_cases hd0:d=0
  ·subst hd0
   simp-implicitDefEqProofs[fG]
   refine(leaf p _ (by omega) (by omega)).mono ?_
   rintro r h ⟨v,q,rfl,rfl,⟨e,rfl,he⟩,h1,h2⟩
   have hec:=e.cs_eq
   simp-implicitDefEqProofs[aa,hec]
   have:=leafCase e q [.row 4 [e.cs.map .p]] he h1 (by omega)
   rw[hec] at this
   exact this
  have hd2:¬(d:Int)+1<2:=by omega
  simp-implicitDefEqProofs[fG,hd2]
  refine(aR G b hb hl p (by omega) 4 _).mono ?_
  rintro r h ⟨k1,rfl,rfl,_⟩
  simp-implicitDefEqProofs[aa]
  refine aT (λhc=>?_) (λhc=>?_)
  ·simp-implicitDefEqProofs[]
   refine(leaf (p+1) _ (by omega) (by omega)).mono ?_
   rintro r h ⟨v,q,rfl,rfl,⟨e,rfl,he⟩,h1,h2⟩
   have hec:=e.cs_eq
   simp-implicitDefEqProofs[aa,hec]
   have:=leafCase e q [.row 4 [e.cs.map .p]] he (by omega) (by omega)
   rw[hec] at this
   exact this
  simp-implicitDefEqProofs[]
  refine(aR G b hb hl (p+1) (by omega) 7 _).mono ?_
  rintro r h ⟨k2,rfl,rfl,_⟩
  simp-implicitDefEqProofs[aa]
  refine aT (λhc=>?_) (λhc=>?_)
  ·simp-implicitDefEqProofs[]
   refine(lO G hb hl (p:=p+2) (by omega) [11,12,11] (k:=2) (by simp) (by simp) (by omega) rfl rfl).mono ?_
   rintro r h ⟨n,_,rfl,rfl⟩
   simp-implicitDefEqProofs[aa,hw]
   refine(sub (p+3) _ (by omega) (by omega)).mono ?_
   rintro r h ⟨v,q,rfl,rfl,⟨e,rfl,he⟩,h1,h2⟩
   have hec:=e.cs_eq
   simp-implicitDefEqProofs[aa,hec]
   exact una n e q _ 2 (by rw[hec];rfl) he (by omega) (by omega)
  ·simp-implicitDefEqProofs[]
   refine(lO G hb hl (p:=p+2) (by omega) [3,3,4,5,6,7,8,9,10] (k:=2) (by simp) (by simp) (by omega) rfl rfl).mono ?_
   rintro r h ⟨n,_,rfl,rfl⟩
   simp-implicitDefEqProofs[aa,hw]
   refine(sub (p+3) _ (by omega) (by omega)).mono ?_
   rintro r h ⟨v,q,rfl,rfl,⟨e,rfl,he⟩,h1,h2⟩
   have hec:=e.cs_eq
   simp-implicitDefEqProofs[aa,hec,hw]
   refine(sub q _ (by omega) (by omega)).mono ?_
   rintro r h ⟨v,q2,rfl,rfl,⟨e2,rfl,he2⟩,h3,h4⟩
   have hec2:=e2.cs_eq
   simp-implicitDefEqProofs[aa,hec2]
   exact bin n e e2 q2 _ 2 (by rw[hec,hec2];rfl) he he2 (by omega) (by omega)
end
section
def dd(fns:List Fd)(vs:List (List UInt8))(next left:Int):List AV:=[.ptr 0 2 0 0,slE 2 3 (aG fns),.p (au vs),.p (.int .i64 next),.p (.int .i64 left)]
def HG(b:List Int)(p:Nat)(fns:List Fd)(vs:List (List UInt8))(next left:Int):List AO:=[rdO b p,.row 5 [dd fns vs next left],bs 3 (aG fns)]
def DG(b:List Int)(fns:List Fd)(Q:AV->Nat->List (List UInt8)->Int->Int->Prop)(x:ARes)(h:List AO):Prop:=
 ∃v rest q vc v1 vs next left,x= .ret v/\h=rdO b q:: .row 5 [[.ptr 0 2 0 0,slE 2 3 (aG fns),vc,.p (.int .i64 next),.p (.int .i64 left)]]::bs 3 (aG fns)::rest/\
  Fzs (.dead:: .dead:: .dead::rest) 3 [vc] [.p (au vs)]/\Fzs (.dead:: .dead:: .dead::rest) 3 [v] [v1]/\Q v1 q vs next left
def PG(b:List Int)(fns:List Fd)(Q:AV->Nat->List (List UInt8)->Int->Int->Prop)(rest:List AO)(x:ARes)(h:List AO):Prop:=
 ∃v q vs next left,x= .ret v/\h=rdO b q:: .row 5 [dd fns vs next left]::bs 3 (aG fns)::rest/\Q v q vs next left
variable (G:am)
theorem ny{f:FuncId}{args:List AV}{b:List Int}{p:Nat}{fns:List Fd}{vs:List (List UInt8)}{next left:Int}{Q:AV->Nat->List (List UInt8)->Int->Int->Prop}(H:AC Tryz.prog G f args (HG b p fns vs next left) (DG b fns Q)):
 AC Tryz.prog G f args (HG b p fns vs next left) (PG b fns Q []):=by
 refine H.frz 3 (by simp[HG]) (λt v h ⟨_,_,_,_,_,_,_,_,e,_⟩=>by cases e) ?_
 rintro v h ⟨v0,rest,q,vc,v1,vs',n',l',e,rfl,hc,hf,r⟩
 cases e
 refine⟨v1,HG b q fns vs' n' l',by simp,rfl,hf,.same (bA _ _ _) (.one ?_ (.same (nT _ _) (.nil _))),v1,q,vs',n',l',rfl,rfl,r⟩
 exact .keep (by simp[below]) (.keep (sM (by omega)) (hc.append (.keep (by simp) (.keep (by simp) .nil))))
theorem Qk(b:List Int)(p:Nat)(fns:List Fd)(vs:List (List UInt8))(next left:Int):∀o∈HG b p fns vs next left,okO 3 o:=by
 intro o ho
 simp only[HG,ZI,aaa,or_false] at ho
 rcases ho with rfl|rfl|rfl
 ·exact bA _ _ _
 ·intro e he
  rw[ZC.1 he]
  exact⟨by simp[below],sM (by omega),by simp,by simp,by simp,trivial⟩
 ·exact nT _ _
theorem dS{f:FuncId}{args:List AV}{b:List Int}{p:Nat}{fns:List Fd}{vs:List (List UInt8)}{next left:Int}{Q:AV->Nat->List (List UInt8)->Int->Int->Prop}(H:AC Tryz.prog G f args (HG b p fns vs next left) (PG b fns Q []))(rest:List AO)(ha:aj 3 args):
 AC Tryz.prog G f args (rdO b p:: .row 5 [dd fns vs next left]::bs 3 (aG fns)::rest) (PG b fns Q rest):=by
 refine(AC.pre H rest ha (Qk _ _ _ _ _ _) ?_).mono ?_
 ·rintro x h ⟨v,q,vs',n',l',_,rfl,_⟩;rfl
 ·rintro x h ⟨h1,⟨v,q,vs',n',l',e1,rfl,e2⟩,rfl⟩
  exact⟨v,q,vs',n',l',e1,rfl,e2⟩
def WG(p:Nat)(vs:List (List UInt8))(next left:Int)(v:AV)(q:Nat)(vs':List (List UInt8))(next' left':Int):Prop:=(∃s:List UInt8,v= .p (.str s)/\s.length<=8)/\p<=q/\q<=p+2/\vs'=vs/\next'=next+1/\left'=left
theorem Li{b:List Int}(hb:Byt b)(hl:b.length<=2000){p:Nat}(hp:p+2<=1000000000000)(fns:List Fd)(vs:List (List UInt8))(hv:AF vs){next:Int}(hn: -1<=next)(hn2:next<=1000000000000)(left:Int):
 AC Tryz.prog G iP [.ptr 1 5 0 0] (HG b p fns vs next left) (PG b fns (WG p vs next left) []):=by
 refine ny G (AC.go vl ?_)
 have hw:IntKind.i64.wrap (next+1)=next+1:=ae (by omega) (by omega)
 have hsl:au vs= .lst 1 (vs.map λw=>[.str w]):=rfl
 simp-implicitDefEqProofs[mT,HG,dd,hw]
 refine(aR G b hb hl p (by omega) 9 _).mono ?_
 rintro r h ⟨k,rfl,rfl,_⟩
 have fin:∀(s:List UInt8) (q:Nat),s.length<=8->p<=q->q<=p+2->DG b fns (WG p vs next left) (.ret (.p (.str s))) [rdO b q,.row 5 [[.ptr 0 2 0 0,slE 2 3 (aG fns),.p (au vs),.p (.int .i64 (next+1)),.p (.int .i64 left)]],bs 3 (aG fns)]:=λs q h1 h2 h3=>
  ⟨_,[],q,_,_,vs,next+1,left,rfl,rfl,.keep (by simp) .nil,.keep (by simp) .nil,⟨s,rfl,h1⟩,h2,h3,rfl,rfl,rfl⟩
 obtain⟨N,hN⟩:∃N:Nat,next+1=N:=⟨(next+1).toNat,by omega⟩
 have hm:N%24<24:=Nat.mod_lt _ (by omega)
 have ht:(N:Int).tmod 24=((N%24:Nat):Int):=rfl
 have hw2:IntKind.i64.wrap (((N%24:Nat):Int)+1)=((N%24+1:Nat):Int):=w1 (by omega)
 rw[hN] at fin⊢
 generalize N%24=m at hm ht hw2
 have hm1:m+1<=24:=by omega
 have h0m:(0:Int)<=(m:Int)+1:=by omega
 by_cases hc:k=0/\vs≠[]
 ·obtain⟨rfl,hne⟩:=hc
  have hpos:0<vs.length:=List.length_pos_iff.2 hne
  simp-implicitDefEqProofs[aa,hsl,hpos]
  rw[←hsl]
  refine(Lu G hb hl (by omega) vs hne (by have:=hv.1;omega) _).mono ?_
  rintro r h ⟨s,hs,rfl,rfl⟩
  simp-implicitDefEqProofs[aa]
  exact fin s _ (hv.2 s hs) (by omega) (by omega)
 ·have hcc:(k=0/\0<vs.length)=False:=by
   simp only[eq_iff_iff,iff_false]
   exact λ⟨a,c⟩=>hc ⟨a,List.length_pos_iff.1 c⟩
  by_cases hk:k=0
  ·have hv0:vs=[]:=by
    by_cases e:vs=[]
    ·exact e
    ·exact absurd ⟨hk,e⟩ hc
   subst hv0
   have hs0:au []= .lst 1 []:=rfl
   simp-implicitDefEqProofs[aa,hs0,hk,ht,hw2,hm1,h0m]
   rw[←hs0]
   refine fin _ (p+1) ?_ (by omega) (by omega)
   simp
   omega
  ·simp-implicitDefEqProofs[aa,hk,ht,hw2,hm1,h0m]
   refine fin _ (p+1) ?_ (by omega) (by omega)
   simp
   omega
def Cm(fns:List Fd):Prop:=fns.length<=1000/\∀f∈fns,f.name.length<=8/\f.params.length<=3
def WC(p:Nat)(vs:List (List UInt8))(next left:Int)(v:AV)(q:Nat)(vs':List (List UInt8))(next' left':Int):Prop:=(∃e:Ex,v= .agg (e.cs.map .p)/\e.sz<=400)/\p<=q/\q<=p+400/\vs'=vs/\next'=next/\left'=left
theorem FR{b:List Int}(hb:Byt b)(hl:b.length<=2000){p:Nat}(hp:p<=1000000000000)(l:List Int)(hne:l≠[])(hll:l.length<=1000000000000)(rest:List AO):
 AC Tryz.prog G cG [.ptr 0 2 0 0,.p (bz l)] (rdO b p::rest) λx h=>∃n,n∈l/\x= .ret (.p (.int .i64 n))/\h=rdO b (p+1)::rest:=by
 have key:AC Tryz.prog G cG [.ptr 0 2 0 0,.p (bz l)] [rdO b p] λx h=>∃n,n∈l/\x= .ret (.p (.int .i64 n))/\h=[rdO b (p+1)]:=by
  refine AC.go pq ?_
  have hpos:0<l.length:=List.length_pos_iff.2 hne
  have hnl:bz l= .lst 1 (l.map λn=>[.int .i64 n]):=rfl
  simp-implicitDefEqProofs[kr,hnl]
  refine(aR G b hb hl p (by omega) l.length []).mono ?_
  rintro r h ⟨m,rfl,rfl,hm⟩
  have hml:m<l.length:=by omega
  have hg:=Zu hml
  simp-implicitDefEqProofs[aa,hg]
 refine(key.pre rest (by simp[below]) (λo ho=>by rw[ZC.1 ho];exact bA _ _ _) ?_).mono ?_
 ·rintro x h ⟨n,_,_,rfl⟩;rfl
 ·rintro x h ⟨h1,⟨n,e1,e2,rfl⟩,rfl⟩
  exact⟨n,e1,e2,rfl⟩
structure ExS where (es:List Ex) (q:Nat)
theorem nY{b:List Int}(hb:Byt b)(hl:b.length<=2000){p:Nat}(hp:p+1000<=1000000000000)(fns:List Fd)(hf:Cm fns)(vs:List (List UInt8))(hv:AF vs)(next left:Int){d:Nat}(hd:d<=3):
 AC Tryz.prog G jj [.ptr 1 5 0 0,.p (.int .i64 d)] (HG b p fns vs next left) (PG b fns (WC p vs next left) []):=by
 refine ny G (AC.go zq ?_)
 have hpow:3^d<=27:=by
  have:3^d<=3^3:=Nat.pow_le_pow_right (by omega) hd
  omega
 have sub:∀(k:Nat),k<=3->∀(q:Nat) (rest:List AO),p<=q->q<=p+700->AC Tryz.prog G bg [.ptr 0 2 0 0,.p (au vs),.p (.int .i64 k)] (rdO b q::rest) λx h=>∃v q',x= .ret v/\h=rdO b q'::rest/\ExQ q (10*3^k) (6*3^k) v q':=λk hk q rest _ _=>by
  have:3^k<=3^3:=Nat.pow_le_pow_right (by omega) hk
  exact jE G (Ca G hb hl vs hv k (by omega) (by omega)) rest (by simp[below])
 simp-implicitDefEqProofs[nv,HG,dd]
 refine(sub d hd p _ (by omega) (by omega)).mono ?_
 rintro r h ⟨v,q0,rfl,rfl,⟨e0,rfl,he0⟩,hq1,hq2⟩
 have hec:=e0.cs_eq
 simp-implicitDefEqProofs[aa,hec]
 have finE:∀(e:Ex) (q:Nat) (rest:List AO) (v:AV),Fzs (.dead:: .dead:: .dead::rest) 3 [v] [.agg (e.cs.map .p)]->e.sz<=400->p<=q->q<=p+400->DG b fns (WC p vs next left) (.ret v) (rdO b q:: .row 5 [[.ptr 0 2 0 0,slE 2 3 (aG fns),.p (au vs),.p (.int .i64 next),.p (.int .i64 left)]]::bs 3 (aG fns)::rest):=λe q rest v hz h1 h2 h3=>
  ⟨_,rest,q,_,_,vs,next,left,rfl,rfl,.keep (by simp) .nil,hz,⟨e,rfl,h1⟩,h2,h3,rfl,rfl,rfl⟩
 have fz0:∀rest,Fzs (.dead:: .dead:: .dead::rest) 3 [.agg [.p (.int .i64 e0.op),.p (.int .i64 e0.n),.p (.str e0.name),.p (exL e0.kids)]] [.agg (e0.cs.map .p)]:=λrest=> .agg (by rw[hec];exact ig (by simp)) .nil
 by_cases hfe:fns=[]
 ·have h0:aG fns=[]:=by rw[hfe];rfl
  simp-implicitDefEqProofs[h0]
  rw[←h0]
  have:=finE e0 q0 [.row 4 [[.p (.int .i64 e0.op),.p (.int .i64 e0.n),.p (.str e0.name),.p (exL e0.kids)]],.row 4 [[.p (.int .i64 e0.op),.p (.int .i64 e0.n),.p (.str e0.name),.p (exL e0.kids)]]] _ (fz0 _) (by omega) (by omega) (by omega)
  rw[h0] at this⊢
  exact this
 have hfr:¬aG fns=[]:=λh=>hfe (List.map_eq_nil_iff.1 h)
 have hfl:(aG fns).length=fns.length:=by simp[aG]
 have hfp:0<fns.length:=List.length_pos_iff.2 hfe
 simp only[eL hfr,dA hfr,hfl] at finE
 rw[show bs 3 (aG fns)= .row 3 (aG fns) from eL hfr,show slE 2 3 (aG fns)= .sl 2 3 0 (aG fns).length from dA hfr,hfl]
 generalize hR:aG fns=R at*
 simp-implicitDefEqProofs[hfr]
 refine(aR G b hb hl q0 (by omega) 4 _).mono ?_
 rintro r h ⟨k1,rfl,rfl,_⟩
 simp-implicitDefEqProofs[aa]
 refine aT (λhc=>?_) (λhc=>?_)
 ·simp-implicitDefEqProofs[]
  exact finE e0 _ _ _ (fz0 _) (by omega) (by omega) (by omega)
 simp-implicitDefEqProofs[hfl]
 refine(aR G b hb hl (q0+1) (by omega) fns.length _).mono ?_
 rintro r h ⟨k2,rfl,rfl,hk2⟩
 have hk:k2<fns.length:=by omega
 have hg:=Zu hk
 have hgr:R[k2]?=some (fns[k2].cs.map .p):=by rw[←hR,aG,ZK,hg];rfl
 have hfo:=hf.2 _ (ZD hk)
 generalize fns[k2]=fd at hg hgr hfo
 have hfc:fd.cs=[.str fd.name,au fd.params,smL fd.body]:=rfl
 have hsp:au fd.params= .lst 1 (fd.params.map λw=>[.str w]):=rfl
 clear hfl hg
 simp-implicitDefEqProofs[aa,hgr,hk,hfc]
 have hexn:∀(es:List Ex) (e:Ex),exR (es++[e])=exR es++[e.cs.map .p]:=λes e=>by simp[exR]
 have hRp:∀x∈R,aj 0 x:=by rw[←hR];exact fI fns
 refine aI (λs:ExS=>ah 99 [(8,.p (.int .i64 s.es.length)),(7,.ptr 6 4 0 0),(6,.ptr 5 3 0 0),(4,.ptr 3 4 0 0),(0,.ptr 1 5 0 0)])
  (λs=>[rdO b s.q,.row 5 [[.ptr 0 2 0 0,.sl 2 3 0 fns.length,.p (au vs),.p (.int .i64 next),.p (.int .i64 left)]],.row 3 R,.row 4 [[.p (.int .i64 0),.p (.int .i64 0),.p (.str []),.nils]],
    .row 4 [[.p (.int .i64 e0.op),.p (.int .i64 e0.n),.p (.str e0.name),.p (exL e0.kids)]],.row 3 [[.p (.str fd.name),.p (au fd.params),.p (smL fd.body)]],.row 4 [[.p (.int .i64 13),.p (.int .i64 0),.p (.str fd.name),slE 7 4 (exR s.es)]],bs 4 (exR s.es)])
  (λs=>s.es.length<=fd.params.length/\bj s.es<=90*s.es.length/\q0<=s.q/\s.q<=q0+2+54*s.es.length) (λs=>fd.params.length-s.es.length) ⟨[],q0+1+1⟩ ⟨by simp,by simp[bj],by simp only;omega,by simp⟩
  (kZ (by simp) (by simp) (by
    intro o h
    simp only[ZI,aaa,or_false] at h
    rcases h with rfl|rfl|rfl|rfl|rfl|rfl|rfl
    ·exact bA _ _ _
    ·simp[okO,below]
    ·exact ce (λe he=>hRp e he)
    ·simp[okO,below]
    ·simp[okO,below]
    ·simp[okO,below]
    ·simp[okO,below]) (by simp[below])) ?_
 rintro⟨es,q⟩ ⟨h1,h2,h3,h4⟩
 simp only at h1 h2 h3 h4
 simp-implicitDefEqProofs[hsp]
 refine aT (λhc=>?_) (λhc=>?_)
 ·simp at hc
  have hp3:=hfo.2
  simp-implicitDefEqProofs[]
  refine(sub 2 (by omega) q _ (by omega) (by omega)).mono ?_
  rintro r h ⟨v,q2,rfl,rfl,⟨e,rfl,he⟩,hq3,hq4⟩
  have hec:=e.cs_eq
  simp-implicitDefEqProofs[aa,hec]
  have hxl:(exR es).length=es.length:=by simp[exR]
  refine⟨by rw[hxl];omega,⟨es++[e],q2⟩,⟨by simp;omega,by rw[fW];simp[bj];omega,by simp only;omega,by simp;omega⟩,by simp;omega,?_⟩
  rw[hexn,tf _ (by simp),pw _ (by simp),hec]
  refine ck [0,1,2,3,4,5,6,8] (by simp) (by decide) (by decide) (bV rfl (bA _ _ _) (bN (by simp[below]) (by simp[ren,bm]) (az rfl hRp (az rfl (by simp[below]) (az rfl (by simp[below]) (az rfl (by simp[below]) (bN (by simp[below]) (by simp[ren,bm]) (az rfl (λx hx=>by
   rcases ZB.1 hx with h|h
   ·exact dK _ x h
   ·rw[ZC.1 h];simp) aU)))))))) ?_
  simp[below,ren,w1 (i:=es.length) (by omega)]
 ·simp at hc
  have hp3:=hfo.2
  have hlen:es.length=fd.params.length:=by omega
  have hxl:(exR es).length=es.length:=by simp[exR]
  have hkids:∀(h:List AO),h[7]?=some (bs 4 (exR es))->View h (slE 7 4 (exR es)) (exL es):=λh hh=>ji hh
  simp-implicitDefEqProofs[]
  refine(aR G b hb hl q (by omega) 2 _).mono ?_
  rintro r h ⟨k3,rfl,rfl,_⟩
  simp-implicitDefEqProofs[aa]
  refine aT (λhc2=>?_) (λhc2=>?_)
  ·simp-implicitDefEqProofs[]
   have hcc:(Ex.mk 13 0 fd.name es).cs=[.int .i64 13,.int .i64 0,.str fd.name,exL es]:=Ex.cs_eq _
   exact finE ⟨13,0,fd.name,es⟩ (q+1) _ _ (.agg (by rw[hcc];exact .keep (by simp) (.keep (by simp) (.keep (by simp) (.one (hkids _ rfl) .nil)))) .nil) (by simp[Ex.sz];omega) (by omega) (by omega)
  ·simp-implicitDefEqProofs[]
   refine(FR G hb hl (p:=q+1) (by omega) [3,4,8,10] (by simp) (by simp) _).mono ?_
   rintro r h ⟨n,_,rfl,rfl⟩
   simp-implicitDefEqProofs[aa]
   refine(sub 2 (by omega) (q+1+1) _ (by omega) (by omega)).mono ?_
   rintro r h ⟨v,q2,rfl,rfl,⟨e,rfl,he⟩,hq3,hq4⟩
   have hec:=e.cs_eq
   simp-implicitDefEqProofs[aa,hec]
   have hcc:(Ex.mk 13 0 fd.name es).cs=[.int .i64 13,.int .i64 0,.str fd.name,exL es]:=Ex.cs_eq _
   exact finE ⟨n,0,[],[⟨13,0,fd.name,es⟩,e]⟩ q2 _ _ (.agg (.keep (by simp) (.keep (by simp) (.keep (by simp) (.one (zt (p0:=(Ex.mk 13 0 fd.name es).cs) (p1:=e.cs) rfl (Ex.cs_len _) (Ex.cs_len _) (λj q a e1 e2=>by
    rw[hcc] at e1
    match j,e1,e2 with
    |0,e1,e2=>cases e1;cases e2;exact .p _
    |1,e1,e2=>cases e1;cases e2;exact .p _
    |2,e1,e2=>cases e1;cases e2;exact .p _
    |3,e1,e2=>cases e1;cases e2;exact hkids _ rfl
    |j+4,e1,e2=>simp at e1) (λj q a e1 e2=>by
    rw[hec] at e1
    match j,e1,e2 with
    |0,e1,e2=>cases e1;cases e2;exact .p _
    |1,e1,e2=>cases e1;cases e2;exact .p _
    |2,e1,e2=>cases e1;cases e2;exact .p _
    |3,e1,e2=>cases e1;cases e2;exact .p _
    |j+4,e1,e2=>simp at e1)) .nil)))) .nil) (by simp[Ex.sz,bj];omega) (by omega) (by omega)
end
section
variable (G:am)
def Yi(p:Nat)(vs:List (List UInt8))(next left:Int)(v:AV)(q:Nat)(vs':List (List UInt8))(next' left':Int):Prop:=(∃e:Ex,v= .agg (e.cs.map .p)/\e.sz<=410)/\p<=q/\q<=p+401/\vs'=vs/\next'=next/\left'=left
theorem QF{b:List Int}(hb:Byt b)(hl:b.length<=2000){p:Nat}(hp:p+2000<=1000000000000)(fns:List Fd)(hf:Cm fns)(vs:List (List UInt8))(hv:AF vs)(next left:Int):
 AC Tryz.prog G fT [.ptr 1 5 0 0] (HG b p fns vs next left) (PG b fns (Yi p vs next left) []):=by
 refine ny G (AC.go yI ?_)
 simp-implicitDefEqProofs[nu,HG,dd]
 refine(dS G (nY G hb hl (p:=p) (by omega) fns hf vs hv next left (d:=2) (by omega)) _ (by simp[below])).mono ?_
 rintro r h ⟨v,q,vs',n',l',rfl,rfl,⟨e,rfl,he⟩,h1,h2,rfl,rfl,rfl⟩
 have hec:=e.cs_eq
 simp-implicitDefEqProofs[aa,dd,hec]
 refine(FR G hb hl (p:=q) (by omega) [16,16,16,8,17,0] (by simp) (by simp) _).mono ?_
 rintro r h ⟨n,_,rfl,rfl⟩
 simp-implicitDefEqProofs[aa]
 have hn:(Ex.mk 1 n [] []).cs=[.int .i64 1,.int .i64 n,.str [],.lst 4 []]:=Ex.cs_eq _
 refine⟨_,[_,_],q+1,_,.agg ((Ex.mk 7 0 [] [e,⟨1,n,[],[]⟩]).cs.map .p),vs',n',l',rfl,rfl,.keep (by simp) .nil,.agg (.keep (by simp) (.keep (by simp) (.keep (by simp) (.one (zt (p0:=e.cs) (p1:=(Ex.mk 1 n [] []).cs) rfl (Ex.cs_len _) (Ex.cs_len _) (λj q a e1 e2=>?_) (λj q a e1 e2=>?_)) .nil)))) .nil,⟨_,rfl,by simp[Ex.sz,bj];omega⟩,by omega,by omega,rfl,rfl,rfl⟩
 ·rw[hec] at e1
  match j,e1,e2 with
  |0,e1,e2=>cases e1;cases e2;exact .p _
  |1,e1,e2=>cases e1;cases e2;exact .p _
  |2,e1,e2=>cases e1;cases e2;exact .p _
  |3,e1,e2=>cases e1;cases e2;exact .p _
  |j+4,e1,e2=>simp at e1
 ·rw[hn] at e1
  match j,e1,e2 with
  |0,e1,e2=>cases e1;cases e2;exact .p _
  |1,e1,e2=>cases e1;cases e2;exact .p _
  |2,e1,e2=>cases e1;cases e2;exact .p _
  |3,e1,e2=>cases e1;cases e2;exact View.nils 4
  |j+4,e1,e2=>simp at e1
def WD(p:Nat)(e:Ex)(vs:List (List UInt8))(next left:Int)(v:AV)(q:Nat)(vs':List (List UInt8))(next' left':Int):Prop:=
 ∃s:List UInt8,s.length<=8/\v= .agg ((Sm.mk 1 s [e] [] []).cs.map .p)/\p<=q/\q<=p+2/\vs'=vs++[s]/\next'=next+1/\left'=left
theorem TM{b:List Int}(hb:Byt b)(hl:b.length<=2000){p:Nat}(hp:p+2<=1000000000000)(fns:List Fd)(vs:List (List UInt8))(hv:AF vs){next:Int}(hn: -1<=next)(hn2:next<=1000000000000)(left:Int)(e:Ex):
 AC Tryz.prog G eZ [.ptr 1 5 0 0,.agg (e.cs.map .p)] (HG b p fns vs next left) (PG b fns (WD p e vs next left) []):=by
 refine ny G (AC.go px ?_)
 have hec:=e.cs_eq
 simp-implicitDefEqProofs[ki,HG,dd,hec]
 refine(dS G (Li G hb hl hp fns vs hv hn hn2 left) _ (by simp[below])).mono ?_
 rintro r h ⟨v,q,vs',n',l',rfl,rfl,⟨s,rfl,hs⟩,h1,h2,rfl,rfl,rfl⟩
 have hsl:au vs'= .lst 1 (vs'.map λw=>[.str w]):=rfl
 simp-implicitDefEqProofs[aa,dd,hsl]
 have hv1:=hv.1
 have hrow:List.take vs'.length (List.map ((λx=>List.map AV.p x)∘λw=>[PV.str w]) vs')++[[AV.p (PV.str s)]]=(vs'++[s]).map λw=>[AV.p (.str w)]:=by
  rw[Zz (by simp)];simp[Function.comp_def]
 have hlen:vs'.length+1=(vs'++[s]).length:=by simp
 refine⟨by omega,by omega,?_⟩
 rw[hrow,hlen]
 have hsm:(Sm.mk 1 s [e] [] []).cs=[.int .i64 1,.str s,exL [e],smL [],smL []]:=Sm.cs_eq _
 refine⟨_,_,q,_,.agg ((Sm.mk 1 s [e] [] []).cs.map .p),vs'++[s],next+1,l',rfl,rfl,.one (fJ rfl) .nil,.agg ?_ .nil,⟨s,hs,rfl,h1,h2,rfl,rfl,rfl⟩⟩
 rw[hsm]
 refine .keep (by simp) (.keep (by simp) (.one ?_ (.one (View.nils 5) (.one (View.nils 5) .nil))))
 exact ft (l:=[e]) (by rw[aap,hec];rfl)
theorem Ve{b:List Int}(hb:Byt b)(hl:b.length<=2000){p:Nat}(hp:p+2<=1000000000000)(fns:List Fd)(vs:List (List UInt8))(hv:AF vs){next:Int}(hn: -1<=next)(hn2:next<=1000000000000)(left:Int)(N:Int):
 AC Tryz.prog G eZ [.ptr 1 5 0 0,.agg [.p (.int .i64 1),.p (.int .i64 N),.p (.str []),.nils]] (HG b p fns vs next left) (PG b fns (WD p ⟨1,N,[],[]⟩ vs next left) []):=by
 refine ny G (AC.go px ?_)
 simp-implicitDefEqProofs[ki,HG,dd]
 refine(dS G (Li G hb hl hp fns vs hv hn hn2 left) _ (by simp[below])).mono ?_
 rintro r h ⟨v,q,vs',n',l',rfl,rfl,⟨s,rfl,hs⟩,h1,h2,rfl,rfl,rfl⟩
 have hsl:au vs'= .lst 1 (vs'.map λw=>[.str w]):=rfl
 simp-implicitDefEqProofs[aa,dd,hsl]
 have hv1:=hv.1
 have hrow:List.take vs'.length (List.map ((λx=>List.map AV.p x)∘λw=>[PV.str w]) vs')++[[AV.p (PV.str s)]]=(vs'++[s]).map λw=>[AV.p (.str w)]:=by
  rw[Zz (by simp)];simp[Function.comp_def]
 have hlen:vs'.length+1=(vs'++[s]).length:=by simp
 refine⟨by omega,by omega,?_⟩
 rw[hrow,hlen]
 have hsm:(Sm.mk 1 s [⟨1,N,[],[]⟩] [] []).cs=[.int .i64 1,.str s,exL [⟨1,N,[],[]⟩],smL [],smL []]:=Sm.cs_eq _
 refine⟨_,_,q,_,.agg ((Sm.mk 1 s [⟨1,N,[],[]⟩] [] []).cs.map .p),vs'++[s],next+1,l',rfl,rfl,.one (fJ rfl) .nil,.agg ?_ .nil,⟨s,hs,rfl,h1,h2,rfl,rfl,rfl⟩⟩
 rw[hsm]
 refine .keep (by simp) (.keep (by simp) (.one ?_ (.one (View.nils 5) (.one (View.nils 5) .nil))))
 refine View.sl _ _ _ _ [(Ex.mk 1 N [] []).cs] rfl (by simp) (by simp) λi j e q e' a a1 a2 a3 a4=>?_
 rw[aao] at a3
 match i,a1,a3 with
 |0,a1,a3=>
  cases a1;cases a3
  have hn:(Ex.mk 1 N [] []).cs=[.int .i64 1,.int .i64 N,.str [],.lst 4 []]:=Ex.cs_eq _
  rw[hn] at a2
  match j,a2,a4 with
  |0,e1,e2=>cases e1;cases e2;exact .p _
  |1,e1,e2=>cases e1;cases e2;exact .p _
  |2,e1,e2=>cases e1;cases e2;exact .p _
  |3,e1,e2=>cases e1;cases e2;exact View.nils 4
  |j+4,e1,e2=>simp at e1
 |i+1,a1,a3=>simp at a1
end
section
def Pd(d:Nat):Nat:=5000*20^d
structure Bd (n:Nat) (p:Nat) (vs:List (List UInt8)) (next left:Int):Prop where
 p:p+n<=100000000000
 v:vs.length+n/50<=900000
 w:∀s∈vs,s.length<=8
 n0: -1<=next
 n1:next+n<=100000000000
 l0: -100000000000<=left-n
 l1:left<=100000000000
theorem Bd.shrt{n p:Nat}{vs:List (List UInt8)}{next left:Int}(h:Bd n p vs next left):AF vs:=⟨by have:=h.v;omega,h.w⟩
def Mv(n p q:Nat)(next next' left left':Int):Prop:=p<=q/\q<=p+n/\next<=next'/\next'<=next+n/\left-n<=left'/\left'<=left
def Sa(b:List Int)(fns:List Fd)(vs:List (List UInt8))(p n:Nat)(next left:Int)(rest:List AO)(x:ARes)(h:List AO):Prop:=
 ∃(out:List Sm) (q:Nat) (next' left':Int),x= .ret (.sl (3+rest.length) 5 0 out.length)/\h=rdO b q:: .row 5 [dd fns vs next' left']::bs 3 (aG fns)::rest++[.row 5 (smR out)]/\an out<=n/\out.length<=100/\Mv n p q next next' left left'
def ML(G:am)(b:List Int)(fns:List Fd)(d:Nat):Prop:=∀{p:Nat} {vs:List (List UInt8)} {next left:Int},Bd (Pd d) p vs next left->AC Tryz.prog G bl [.ptr 1 5 0 0,.p (.int .i64 d)] (HG b p fns vs next left) (Sa b fns vs p (Pd d) next left [])
variable (G:am)
theorem vQ{b:List Int}{fns:List Fd}{d p:Nat}{vs:List (List UInt8)}{next left:Int}(H:AC Tryz.prog G bl [.ptr 1 5 0 0,.p (.int .i64 d)] (HG b p fns vs next left) (Sa b fns vs p (Pd d) next left []))(rest:List AO):
 AC Tryz.prog G bl [.ptr 1 5 0 0,.p (.int .i64 d)] (rdO b p:: .row 5 [dd fns vs next left]::bs 3 (aG fns)::rest) (Sa b fns vs p (Pd d) next left rest):=by
 have H2:AC Tryz.prog G bl [.ptr 1 5 0 0,.p (.int .i64 d)] (HG b p fns vs next left) λx h'=>∃h1 es,h'=h1++[.row 5 es]/\h1.length=(HG b p fns vs next left).length/\x= .ret (.sl (HG b p fns vs next left).length 5 0 es.length)/\(∀e∈es,aj 0 e)/\
  (∃(out:List Sm) (q:Nat) (next' left':Int),es=smR out/\h1=HG b q fns vs next' left'/\an out<=Pd d/\out.length<=100/\Mv (Pd d) p q next next' left left'):=by
  refine H.mono ?_
  rintro x h ⟨out,q,n',l',rfl,rfl,h1,h2,h3⟩
  exact⟨HG b q fns vs n' l',smR out,rfl,rfl,by simp[HG,ed],aY out,out,q,n',l',rfl,rfl,h1,h2,h3⟩
 refine(AC.pre1 (R:=λh1 es=>∃(out:List Sm) (q:Nat) (next' left':Int),es=smR out/\h1=HG b q fns vs next' left'/\an out<=Pd d/\out.length<=100/\Mv (Pd d) p q next next' left left') H2 rest (by simp[below,HG]) (Qk _ _ _ _ _ _) ?_).mono ?_
 ·rintro h1 es ⟨out,q,n',l',rfl,rfl,_⟩
  exact Qk _ _ _ _ _ _
 ·rintro x h ⟨h1,es,rfl,_,rfl,_,out,q,n',l',rfl,rfl,r⟩
  exact⟨out,q,n',l',by simp[HG,ed],rfl,r⟩
theorem yU:AK.whole jd=FK.ak jw:=rfl
def Yk(n p:Nat)(vs:List (List UInt8))(next left:Int)(v:AV)(q:Nat)(vs':List (List UInt8))(next' left':Int):Prop:=
 ∃(out:List Sm) (s:List UInt8),v= .p (smL out)/\an out<=n/\1<=out.length/\out.length<=2/\s.length<=8/\vs'=vs++[s]/\Mv n p q next next' left left'
theorem Ol{b:List Int}(hb:Byt b)(hl:b.length<=2000)(fns:List Fd){d:Nat}(hd:d<=10)(hblk:ML G b fns d){p:Nat}{vs:List (List UInt8)}{next left:Int}(hB:Bd (Pd d+60) p vs next left):
 AC Tryz.prog G jy [.ptr 1 5 0 0,.p (.int .i64 ((d:Int)+1))] (HG b p fns vs next left) (PG b fns (Yk (Pd d+60) p vs next left) []):=by
 have hp:=hB.p
 have hv:=hB.v
 have hn0:=hB.n0
 have hn1:=hB.n1
 have hl0:=hB.l0
 have hl1:=hB.l1
 refine ny G (AC.goK zp yU ?_)
 simp-implicitDefEqProofs[jd,jw,HG,dd]
 refine(lO G hb hl (p:=p) (by omega) [2,3,1,0,5] (k:=3) (by simp) (by simp) (by omega) rfl rfl).mono ?_
 rintro r h ⟨N,hN,rfl,rfl⟩
 have hN5:0<=N/\N<=5:=by simp at hN;omega
 simp-implicitDefEqProofs[aa]
 refine(dS G (Ve G hb hl (p:=p+1) (by omega) fns vs hB.shrt hn0 (by omega) left N) _ (by simp[below])).mono ?_
 rintro r h ⟨v,q,vs',n',l',rfl,rfl,s,hs,rfl,h1,h2,rfl,rfl,rfl⟩
 have hsm:(Sm.mk 1 s [⟨1,N,[],[]⟩] [] []).cs=[.int .i64 1,.str s,exL [⟨1,N,[],[]⟩],smL [],smL []]:=Sm.cs_eq _
 have hwd:IntKind.i64.wrap ((d:Int)+1-1)=d:=by rw[ae (by omega) (by omega)];omega
 have hw2:IntKind.i64.wrap (d:Int)=d:=ae (by omega) (by omega)
 simp-implicitDefEqProofs[aa,dd,hsm,hw2]
 have hB2:Bd (Pd d) q (vs++[s]) (next+1) l':=⟨by omega,by simp;omega,λw hw=>by
  rcases ZB.1 hw with h|h
  ·exact hB.w w h
  ·rw[ZC.1 h];exact hs,by omega,by omega,by omega,by omega⟩
 refine(vQ G (hblk hB2) _).mono ?_
 rintro r h ⟨out,q2,n2,l2,rfl,rfl,z1,z2,m1,m2,m3,m4,m5,m6⟩
 have hwl:IntKind.i64.wrap (l2-2)=l2-2:=ae (by omega) (by omega)
 simp-implicitDefEqProofs[aa,dd,hwl]
 have hHb:∀(l:Int),okO 7 (.row 5 [[.ptr 0 2 0 0,slE 2 3 (aG fns),.p (au (vs++[s])),.p (.int .i64 n2),.p (.int .i64 l)]]):=λl e he=>by
  rw[ZC.1 he];exact⟨by simp[below],sM (by omega),by simp,by simp,by simp,trivial⟩
 refine ja (ah 50 [(0,.ptr 1 5 0 0),(5,.ptr 3 5 0 0),(6,.ptr 4 4 0 0),(7,.sl 5 5 0 out.length),(8,.ptr 6 5 0 0)])
  [rdO b q2,.row 5 [[.ptr 0 2 0 0,slE 2 3 (aG fns),.p (au (vs++[s])),.p (.int .i64 n2),.p (.int .i64 (l2-2))]],bs 3 (aG fns),
   .row 5 [[.p (.int .i64 1),.p (.str s),.p (exL [Ex.mk 1 N [] []]),.p (smL []),.p (smL [])]],.row 4 [[.p (.int .i64 2),.p (.int .i64 0),.p (.str s),.p (exL [])]],.row 5 (smR out),
   .row 5 [[.p (.int .i64 2),.p (.str s),.p (exL [Ex.mk 4 0 [] [⟨2,0,s,[]⟩,⟨1,1,[],[]⟩]]),.p (smL []),.p (smL [])]]] ?_ ?_
 ·simp-implicitDefEqProofs[hwl]
  refine Wk.trans (ck (l1:=[(0,.ptr 1 5 0 0),(5,.ptr 3 5 0 0),(6,.ptr 4 4 0 0),(7,.sl 5 5 0 out.length),(8,.ptr 6 5 0 0)])
   (h1:=[rdO b q2,.row 5 [[.ptr 0 2 0 0,slE 2 3 (aG fns),.p (au (vs++[s])),.p (.int .i64 n2),.p (.int .i64 (l2-2))]],bs 3 (aG fns),
   .row 5 [[.p (.int .i64 1),.p (.str s),.p (exL [Ex.mk 1 N [] []]),.p (smL []),.p (smL [])]],.row 4 [[.p (.int .i64 2),.p (.int .i64 0),.p (.str s),.nils]],.row 5 (smR out),
   .row 5 [[.p (.int .i64 2),.p (.str s),.sl 8 4 0 1,.nils,.nils]],.row 4 [[.p (.int .i64 2),.p (.int .i64 0),.p (.str s),.nils],[.p (.int .i64 1),.p (.int .i64 1),.p (.str []),.nils]],.row 4 [[.p (.int .i64 4),.p (.int .i64 0),.p (.str []),.sl 7 4 0 2]]])
   [0,1,2,4,5,6,9,7,8] (by simp) (by decide) (by decide) (bV rfl (bA _ _ _) (bN (by simp[below]) (by simp[ren,bm]) (bV rfl (nT _ _) (az rfl (by simp[below]) (az rfl (by simp[below]) (az rfl (aY out) (bN (by simp[below]) (by simp[ren,bm]) (az rfl (by simp[below]) (bN (by simp[below]) (by simp[ren,bm]) aU))))))))) (by simp[below,ren]))
   (cV 7 (by omega) (by simp) rfl (.same (bA _ _ _) (.same (hHb _) (.same (nT _ _) (.same (by simp[okO,below]) (.one (.keep (by simp) (.keep (by simp) (.keep (by simp) (.one (View.nils 4) .nil)))) (.same (ce (aY out)) (.one (.keep (by simp) (.keep (by simp) (.one ?_ (.one (View.nils 5) (.one (View.nils 5) .nil))))) (.nil _)))))))) ?_)
  ·exact bI (p0:=(Ex.mk 4 0 [] [⟨2,0,s,[]⟩,⟨1,1,[],[]⟩]).cs) rfl (Ex.cs_len _) (jk (zt (p0:=(Ex.mk 2 0 s []).cs) (p1:=(Ex.mk 1 1 [] []).cs) rfl (Ex.cs_len _) (Ex.cs_len _) (jk (View.nils 4)) (jk (View.nils 4))))
  ·exact⟨.keep (by simp[below]) .nil,.keep (by simp[below]) .nil,.keep (by simp[below]) .nil,.keep (by simp[below]) .nil,.keep (by simp[below]) .nil,trivial⟩
 ·simp-implicitDefEqProofs[]
  have hless:(Sm.mk 2 s [Ex.mk 4 0 [] [⟨2,0,s,[]⟩,⟨1,1,[],[]⟩]] [] []).cs=[.int .i64 2,.str s,exL [Ex.mk 4 0 [] [⟨2,0,s,[]⟩,⟨1,1,[],[]⟩]],smL [],smL []]:=Sm.cs_eq _
  have hrow:List.take out.length (smR out)++[[AV.p (.int .i64 2),.p (.str s),.p (exL [Ex.mk 4 0 [] [⟨2,0,s,[]⟩,⟨1,1,[],[]⟩]]),.p (smL []),.p (smL [])]]=smR (out++[Sm.mk 2 s [Ex.mk 4 0 [] [⟨2,0,s,[]⟩,⟨1,1,[],[]⟩]] [] []]):=by
   rw[Zz (by rw[ed];exact ZH _),zA];exact congrArg (smR out++ ·) (by rw[smR,aap,hless];rfl)
  have hlen:out.length+1=(out++[Sm.mk 2 s [Ex.mk 4 0 [] [⟨2,0,s,[]⟩,⟨1,1,[],[]⟩]] [] []]).length:=by simp
  refine⟨⟨by rw[ed];exact ZH _,by omega,by omega⟩,?_⟩
  rw[hrow,hlen]
  refine⟨_,_,q2,_,.p (smL [Sm.mk 1 s [⟨1,N,[],[]⟩] [] [],Sm.mk 6 [] [⟨2,0,s,[]⟩] (out++[Sm.mk 2 s [Ex.mk 4 0 [] [⟨2,0,s,[]⟩,⟨1,1,[],[]⟩]] [] []]) []]),vs++[s],n2,l2-2,rfl,rfl,.keep (by simp) .nil,
   .one (zt (p0:=(Sm.mk 1 s [⟨1,N,[],[]⟩] [] []).cs) (p1:=(Sm.mk 6 [] [⟨2,0,s,[]⟩] (out++[Sm.mk 2 s [Ex.mk 4 0 [] [⟨2,0,s,[]⟩,⟨1,1,[],[]⟩]] [] []]) []).cs) rfl (Sm.cs_len _) (Sm.cs_len _)
    (cM (.p _) (.p _) (.p _)) (cM ?_ (fw rfl) (View.nils 5))) .nil,_,s,rfl,?_,by simp,by simp,hs,rfl,?_⟩
  ·have h2:(Ex.mk 2 0 s []).cs=[.int .i64 2,.int .i64 0,.str s,exL []]:=Ex.cs_eq _
   have he:exL [Ex.mk 2 0 s []]= .lst 4 [[.int .i64 2,.int .i64 0,.str s,exL []]]:=by rw[exL,aap,h2]
   rw[he]
   exact .p _
  ·simp[an,bu,Sm.sz,Ex.sz,bj]
   omega
  ·exact⟨by omega,by omega,by omega,by omega,by omega,by omega⟩
end
section
variable (G:am)
def Wn(n p:Nat)(vs:List (List UInt8))(next left:Int)(v:AV)(q:Nat)(vs':List (List UInt8))(next' left':Int):Prop:=
 ∃out:List Sm,v= .p (smL out)/\an out<=n/\1<=out.length/\out.length<=2/\(vs'=vs\/∃s:List UInt8,s.length<=8/\vs'=vs++[s])/\Mv n p q next next' left left'
theorem Vh{b:List Int}(hb:Byt b)(hl:b.length<=2000)(fns:List Fd)(hf:Cm fns){d:Nat}(hd:d<=10)(hblk:1<=d->ML G b fns d){p:Nat}{vs:List (List UInt8)}{next left:Int}(hB:Bd (2*Pd d+3000) p vs next left):
 AC Tryz.prog G jv [.ptr 1 5 0 0,.p (.int .i64 ((d:Int)+1))] (HG b p fns vs next left) (PG b fns (Wn (2*Pd d+3000) p vs next left) []):=by
 have hp:=hB.p
 have hv:=hB.v
 have hn0:=hB.n0
 have hn1:=hB.n1
 have hl0:=hB.l0
 have hl1:=hB.l1
 refine ny G (AC.go yZ ?_)
 have hwl:IntKind.i64.wrap (left-1)=left-1:=ae (by omega) (by omega)
 have hsl:au vs= .lst 1 (vs.map λw=>[.str w]):=rfl
 simp-implicitDefEqProofs[nS,HG,dd,hwl]
 refine(aR G b hb hl p (by omega) 13 _).mono ?_
 rintro r h ⟨k,rfl,rfl,hk⟩
 have eC:∀(m:Sm) (q:Nat) (rest:List AO) (v:AV) (vc:AV) (vs':List (List UInt8)) (next' left':Int),Fzs (.dead:: .dead:: .dead::rest) 3 [vc] [.p (au vs')]->Fzs (.dead:: .dead:: .dead::rest) 3 [v] [.p (smL [m])]->m.sz<=2*Pd d+3000->(vs'=vs\/∃s:List UInt8,s.length<=8/\vs'=vs++[s])->Mv (2*Pd d+3000) p q next next' left left'->
  DG b fns (Wn (2*Pd d+3000) p vs next left) (.ret v) (rdO b q:: .row 5 [[.ptr 0 2 0 0,slE 2 3 (aG fns),vc,.p (.int .i64 next'),.p (.int .i64 left')]]::bs 3 (aG fns)::rest):=λm q rest v vc vs' next' left' h1 h2 h3 h4 h5=>
  ⟨_,rest,q,_,_,vs',next',left',rfl,rfl,h1,h2,[m],rfl,by simp[an];omega,by simp,by simp,h4,h5⟩
 by_cases hc:k<3/\vs≠[]
 ·obtain⟨hc1,hne⟩:=hc
  have hpos:0<vs.length:=List.length_pos_iff.2 hne
  have hc1':(k:Int)<3:=by omega
  have hv1:=hB.v
  simp-implicitDefEqProofs[aa,hsl,hc1,hc1',hpos]
  rw[←hsl]
  refine(Lu G hb hl (p:=p+1) (by omega) vs hne (by omega) _).mono ?_
  rintro r h ⟨w,hw,rfl,rfl⟩
  have hw8:=hB.w w hw
  simp-implicitDefEqProofs[aa]
  refine(dS G (nY G hb hl (p:=p+1+1) (by omega) fns hf vs hB.shrt next (left-1) (d:=3) (by omega)) _ (by simp[below])).mono ?_
  rintro r h ⟨v,q,vs',n',l',rfl,rfl,⟨e,rfl,he⟩,h1,h2,rfl,rfl,rfl⟩
  have hec:=e.cs_eq
  simp-implicitDefEqProofs[aa,dd,hec]
  exact eC ⟨2,w,[e],[],[]⟩ q _ _ _ vs' n' (left-1) (.keep (by simp) .nil) (.one (bI (p0:=(Sm.mk 2 w [e] [] []).cs) rfl (Sm.cs_len _) (cM (ft (l:=[e]) (by rw[aap,hec];rfl)) (View.nils 5) (View.nils 5))) .nil) (by simp[Sm.sz,bj,an];omega) (.inl rfl) ⟨by omega,by omega,by omega,by omega,by omega,by omega⟩
 have hcc:(k<3/\0<vs.length)=False:=by
  simp only[eq_iff_iff,iff_false]
  exact λ⟨a,c⟩=>hc ⟨a,List.length_pos_iff.1 c⟩
 have hvz:(k:Int)<3->vs.length=0:=λh=>by
  by_cases e:vs=[]
  ·rw[e];rfl
  ·exact absurd ⟨by omega,e⟩ hc
 have hvx:=hB.shrt
 have hvv:=hB.v
 by_cases k5:(k:Int)<5
 ·by_cases k3:(k:Int)<3
  ·have hv0:=hvz k3
   simp-implicitDefEqProofs[aa,hsl,k3,hv0,k5]
   rw[←hsl]
   refine(dS G (nY G hb hl (p:=p+1) (by omega) fns hf vs hvx next (left-1) (d:=3) (by omega)) _ (by simp[below])).mono ?_
   rintro r h ⟨v,q,vs',n',l',rfl,rfl,⟨e,rfl,he⟩,h1,h2,rfl,rfl,rfl⟩
   have hec:=e.cs_eq
   have hL:=TM G hb hl (p:=q) (by omega) fns vs' hvx hn0 (by omega) (left-1) e
   rw[hec] at hL
   simp-implicitDefEqProofs[aa,dd,hec]
   refine(dS G hL _ (by simp[below])).mono ?_
   rintro r h ⟨v,q2,vs2,n2,l2,rfl,rfl,s,hs,rfl,h3,h4,rfl,rfl,rfl⟩
   have hsm:(Sm.mk 1 s [e] [] []).cs=[.int .i64 1,.str s,exL [e],smL [],smL []]:=Sm.cs_eq _
   simp-implicitDefEqProofs[aa,dd,hsm]
   exact eC ⟨1,s,[e],[],[]⟩ q2 _ _ _ (vs'++[s]) (n'+1) (left-1) (.keep (by simp) .nil) (.one (bI (p0:=(Sm.mk 1 s [e] [] []).cs) rfl (Sm.cs_len _) (cM (.p _) (.p _) (.p _))) .nil) (by simp[Sm.sz,bj,an];omega) (.inr ⟨s,hs,rfl⟩) ⟨by omega,by omega,by omega,by omega,by omega,by omega⟩
  ·simp-implicitDefEqProofs[aa,hsl,k3,k5]
   rw[←hsl]
   refine(dS G (nY G hb hl (p:=p+1) (by omega) fns hf vs hvx next (left-1) (d:=3) (by omega)) _ (by simp[below])).mono ?_
   rintro r h ⟨v,q,vs',n',l',rfl,rfl,⟨e,rfl,he⟩,h1,h2,rfl,rfl,rfl⟩
   have hec:=e.cs_eq
   have hL:=TM G hb hl (p:=q) (by omega) fns vs' hvx hn0 (by omega) (left-1) e
   rw[hec] at hL
   simp-implicitDefEqProofs[aa,dd,hec]
   refine(dS G hL _ (by simp[below])).mono ?_
   rintro r h ⟨v,q2,vs2,n2,l2,rfl,rfl,s,hs,rfl,h3,h4,rfl,rfl,rfl⟩
   have hsm:(Sm.mk 1 s [e] [] []).cs=[.int .i64 1,.str s,exL [e],smL [],smL []]:=Sm.cs_eq _
   simp-implicitDefEqProofs[aa,dd,hsm]
   exact eC ⟨1,s,[e],[],[]⟩ q2 _ _ _ (vs'++[s]) (n'+1) (left-1) (.keep (by simp) .nil) (.one (bI (p0:=(Sm.mk 1 s [e] [] []).cs) rfl (Sm.cs_len _) (cM (.p _) (.p _) (.p _))) .nil) (by simp[Sm.sz,bj,an];omega) (.inr ⟨s,hs,rfl⟩) ⟨by omega,by omega,by omega,by omega,by omega,by omega⟩
 have k3:¬(k:Int)<3:=by omega
 by_cases k7:(k:Int)<7\/d=0
 ·by_cases k7':(k:Int)<7
  ·simp-implicitDefEqProofs[aa,k3,k5,k7']
   refine(dS G (nY G hb hl (p:=p+1) (by omega) fns hf vs hvx next (left-1) (d:=3) (by omega)) _ (by simp[below])).mono ?_
   rintro r h ⟨v,q,vs',n',l',rfl,rfl,⟨e,rfl,he⟩,h1,h2,rfl,rfl,rfl⟩
   have hec:=e.cs_eq
   simp-implicitDefEqProofs[aa,dd,hec]
   exact eC ⟨3,[],[e],[],[]⟩ q _ _ _ vs' n' (left-1) (.keep (by simp) .nil) (.one (bI (p0:=(Sm.mk 3 [] [e] [] []).cs) rfl (Sm.cs_len _) (cM (ft (l:=[e]) (by rw[aap,hec];rfl)) (View.nils 5) (View.nils 5))) .nil) (by simp[Sm.sz,bj,an];omega) (.inl rfl) ⟨by omega,by omega,by omega,by omega,by omega,by omega⟩
  ·have hdl:(d:Int)+1<2:=by omega
   simp-implicitDefEqProofs[aa,k3,k5,k7',hdl]
   refine(dS G (nY G hb hl (p:=p+1) (by omega) fns hf vs hvx next (left-1) (d:=3) (by omega)) _ (by simp[below])).mono ?_
   rintro r h ⟨v,q,vs',n',l',rfl,rfl,⟨e,rfl,he⟩,h1,h2,rfl,rfl,rfl⟩
   have hec:=e.cs_eq
   simp-implicitDefEqProofs[aa,dd,hec]
   exact eC ⟨3,[],[e],[],[]⟩ q _ _ _ vs' n' (left-1) (.keep (by simp) .nil) (.one (bI (p0:=(Sm.mk 3 [] [e] [] []).cs) rfl (Sm.cs_len _) (cM (ft (l:=[e]) (by rw[aap,hec];rfl)) (View.nils 5) (View.nils 5))) .nil) (by simp[Sm.sz,bj,an];omega) (.inl rfl) ⟨by omega,by omega,by omega,by omega,by omega,by omega⟩
 have k7':¬(k:Int)<7:=λh=>k7 (.inl h)
 have hd1:1<=d:=by omega
 have hd2:¬((d:Int)+1)<2:=by omega
 have hblk2:ML G b fns d:= @hblk hd1
 by_cases e7:(k:Int)=7
 ·simp-implicitDefEqProofs[aa,k3,k5,k7',hd2,e7]
  refine(dS G (QF G hb hl (p:=p+1) (by omega) fns hf vs hvx next (left-1)) _ (by simp[below])).mono ?_
  rintro r h ⟨v,q,vs',n',l',rfl,rfl,⟨e,rfl,he⟩,h1,h2,rfl,rfl,rfl⟩
  have hec:=e.cs_eq
  simp-implicitDefEqProofs[aa,dd,hec]
  refine(dS G (nY G hb hl (p:=q) (by omega) fns hf vs' hvx n' (left-1) (d:=2) (by omega)) _ (by simp[below])).mono ?_
  rintro r h ⟨v,q2,vs2,n2,l2,rfl,rfl,⟨e2,rfl,he2⟩,h3,h4,rfl,rfl,rfl⟩
  have hec2:=e2.cs_eq
  simp-implicitDefEqProofs[aa,dd,hec2]
  exact eC ⟨4,[],[e,e2],[],[]⟩ q2 _ _ _ vs2 n2 (left-1) (.keep (by simp) .nil) (.one (bI (p0:=(Sm.mk 4 [] [e,e2] [] []).cs) rfl (Sm.cs_len _) (cM (ft (l:=[e,e2]) (by rw[ZT,aap,hec,hec2];rfl)) (View.nils 5) (View.nils 5))) .nil) (by simp[Sm.sz,bj,an];omega) (.inl rfl) ⟨by omega,by omega,by omega,by omega,by omega,by omega⟩
 by_cases e8:(k:Int)=8
 ·simp-implicitDefEqProofs[aa,k3,k5,k7',hd2,e7,e8]
  refine(dS G (QF G hb hl (p:=p+1) (by omega) fns hf vs hvx next (left-1)) _ (by simp[below])).mono ?_
  rintro r h ⟨v,q,vs',n',l',rfl,rfl,⟨e,rfl,he⟩,h1,h2,rfl,rfl,rfl⟩
  have hec:=e.cs_eq
  simp-implicitDefEqProofs[aa,dd,hec]
  exact eC ⟨3,[],[⟨12,0,[],[e]⟩],[],[]⟩ q _ _ _ vs' n' (left-1) (.keep (by simp) .nil) (.one (bI (p0:=(Sm.mk 3 [] [⟨12,0,[],[e]⟩] [] []).cs) rfl (Sm.cs_len _) (cM (bI (p0:=(Ex.mk 12 0 [] [e]).cs) rfl (Ex.cs_len _) (jk (ft (l:=[e]) (by rw[aap,hec];rfl)))) (View.nils 5) (View.nils 5))) .nil) (by simp[Sm.sz,Ex.sz,bj,an];omega) (.inl rfl) ⟨by omega,by omega,by omega,by omega,by omega,by omega⟩
 have hwd:IntKind.i64.wrap ((d:Int)+1-1)=d:=by rw[ae (by omega) (by omega)];omega
 have hwd2:IntKind.i64.wrap (d:Int)=d:=ae (by omega) (by omega)
 by_cases k11:(k:Int)<11
 ·simp-implicitDefEqProofs[aa,k3,k5,k7',hd2,e7,e8,k11]
  refine(dS G (nY G hb hl (p:=p+1) (by omega) fns hf vs hvx next (left-1) (d:=3) (by omega)) _ (by simp[below])).mono ?_
  rintro r h ⟨v,q,vs',n',l',rfl,rfl,⟨e,rfl,he⟩,h1,h2,rfl,rfl,rfl⟩
  have hec:=e.cs_eq
  simp-implicitDefEqProofs[aa,dd,hec,hwd2]
  have hB2:Bd (Pd d) q vs' n' (left-1):=⟨by omega,by omega,hB.w,by omega,by omega,by omega,by omega⟩
  refine(vQ G (hblk2 hB2) _).mono ?_
  rintro r h ⟨out,q2,n2,l2,rfl,rfl,z1,z2,m1,m2,m3,m4,m5,m6⟩
  simp-implicitDefEqProofs[aa,dd]
  refine(aR G b hb hl q2 (by omega) 2 _).mono ?_
  rintro r h ⟨k2,rfl,rfl,_⟩
  simp-implicitDefEqProofs[aa]
  refine aT (λhq=>?_) (λhq=>?_)
  ·simp-implicitDefEqProofs[hwd2]
   have hB3:Bd (Pd d) (q2+1) vs' n2 l2:=⟨by omega,by omega,hB.w,by omega,by omega,by omega,by omega⟩
   refine(vQ G (hblk2 hB3) _).mono ?_
   rintro r h ⟨out2,q3,n3,l3,rfl,rfl,y1,y2,w1,w2,w3,w4,w5,w6⟩
   simp-implicitDefEqProofs[aa,dd]
   exact eC ⟨5,[],[e],out,out2⟩ q3 _ _ _ vs' n3 l3 (.keep (by simp) .nil) (.one (bI (p0:=(Sm.mk 5 [] [e] out out2).cs) rfl (Sm.cs_len _) (cM (ft (l:=[e]) (by rw[aap,hec];rfl)) (fw rfl) (fw rfl))) .nil) (by simp[Sm.sz,bj];omega) (.inl rfl) ⟨by omega,by omega,by omega,by omega,by omega,by omega⟩
  ·simp-implicitDefEqProofs[]
   exact eC ⟨5,[],[e],out,[]⟩ (q2+1) _ _ _ vs' n2 l2 (.keep (by simp) .nil) (.one (bI (p0:=(Sm.mk 5 [] [e] out []).cs) rfl (Sm.cs_len _) (cM (ft (l:=[e]) (by rw[aap,hec];rfl)) (fw rfl) (View.nils 5))) .nil) (by simp[Sm.sz,bj,an];omega) (.inl rfl) ⟨by omega,by omega,by omega,by omega,by omega,by omega⟩
 by_cases e11:(k:Int)=11
 ·simp-implicitDefEqProofs[aa,k3,k5,k7',hd2,e7,e8,k11,e11]
  refine(aR G b hb hl (p+1) (by omega) 3 _).mono ?_
  rintro r h ⟨k2,rfl,rfl,_⟩
  simp-implicitDefEqProofs[aa]
  refine aT (λhq=>?_) (λhq=>?_)
  ·simp-implicitDefEqProofs[]
   refine(dS G (nY G hb hl (p:=p+1+1) (by omega) fns hf vs hvx next (left-1) (d:=2) (by omega)) _ (by simp[below])).mono ?_
   rintro r h ⟨v,q,vs',n',l',rfl,rfl,⟨e,rfl,he⟩,h1,h2,rfl,rfl,rfl⟩
   have hec:=e.cs_eq
   simp-implicitDefEqProofs[aa,dd,hec]
   exact eC ⟨7,[],[e],[],[]⟩ q _ _ _ vs' n' (left-1) (.keep (by simp) .nil) (.one (bI (p0:=(Sm.mk 7 [] [e] [] []).cs) rfl (Sm.cs_len _) (cM (ft (l:=[e]) (by rw[aap,hec];rfl)) (View.nils 5) (View.nils 5))) .nil) (by simp[Sm.sz,bj,an];omega) (.inl rfl) ⟨by omega,by omega,by omega,by omega,by omega,by omega⟩
  ·simp-implicitDefEqProofs[]
   have hBL:Bd (Pd d+60) (p+1+1) vs next (left-1):=⟨by omega,by omega,hB.w,hn0,by omega,by omega,by omega⟩
   refine(dS G (Ol G hb hl fns hd hblk2 hBL) _ (by simp[below])).mono ?_
   rintro r h ⟨v,q,vs2,n2,l2,rfl,rfl,out,s,rfl,z1,z2,z3,hs,rfl,m1,m2,m3,m4,m5,m6⟩
   simp-implicitDefEqProofs[aa,dd]
   exact⟨_,_,q,_,_,vs++[s],n2,l2,rfl,rfl,.keep (by simp) .nil,.keep (by simp) .nil,out,rfl,by omega,z2,z3,.inr ⟨s,hs,rfl⟩,by omega,by omega,by omega,by omega,by omega,by omega⟩
 ·simp-implicitDefEqProofs[aa,k3,k5,k7',hd2,e7,e8,k11,e11]
  have hBL:Bd (Pd d+60) (p+1) vs next (left-1):=⟨by omega,by omega,hB.w,hn0,by omega,by omega,by omega⟩
  refine(dS G (Ol G hb hl fns hd hblk2 hBL) _ (by simp[below])).mono ?_
  rintro r h ⟨v,q,vs2,n2,l2,rfl,rfl,out,s,rfl,z1,z2,z3,hs,rfl,m1,m2,m3,m4,m5,m6⟩
  simp-implicitDefEqProofs[aa,dd]
  exact⟨_,_,q,_,_,vs++[s],n2,l2,rfl,rfl,.keep (by simp) .nil,.keep (by simp) .nil,out,rfl,by omega,z2,z3,.inr ⟨s,hs,rfl⟩,by omega,by omega,by omega,by omega,by omega,by omega⟩
end
section
variable (G:am)
structure BkS where (j m:Nat) (out:List Sm) (q:Nat) (vs:List (List UInt8)) (next left:Int)
theorem Xf(d:Nat):5000<=Pd d:=by
 have:1<=20^d:=Nat.one_le_pow _ _ (by omega)
 simp only[Pd];omega
theorem RQ(d:Nat):Pd (d+1)=20*Pd d:=by simp only[Pd,Nat.pow_succ];omega
theorem FQ{b:List Int}(hb:Byt b)(hl:b.length<=2000)(fns:List Fd)(hf:Cm fns){d:Nat}(hd:d<=10)(hblk:1<=d->ML G b fns d):ML G b fns (d+1):=by
 intro p vs next left hB
 have hp:=hB.p
 have hv:=hB.v
 have hn0:=hB.n0
 have hn1:=hB.n1
 have hl0:=hB.l0
 have hl1:=hB.l1
 have hP:=Xf d
 have hPs:=RQ d
 generalize hN:Pd d=N at*
 rw[hPs] at hp hv hn1 hl0⊢
 have hGok:∀(vs:List (List UInt8)) (nx lf:Int),okO 4 (.row 5 [dd fns vs nx lf]):=λvs nx lf e he=>by
  rw[ZC.1 he];exact⟨by simp[below],sM (by omega),by simp,by simp,by simp,trivial⟩
 refine AC.go uZ ?_
 simp-implicitDefEqProofs[mr,HG,dd]
 refine(lO G hb hl (p:=p) (by omega) [2,3,1,4] (k:=4) (by simp) (by simp) (by omega) rfl rfl).mono ?_
 rintro r h ⟨I,hI,rfl,rfl⟩
 obtain⟨J,rfl,hJ⟩:∃J:Nat,I=J/\J<=4:=⟨I.toNat,by simp at hI;omega,by simp at hI;omega⟩
 simp-implicitDefEqProofs[aa]
 refine aI (λs:BkS=>ah 40 [(0,.ptr 1 5 0 0),(1,.p (.int .i64 ((d:Int)+1))),(5,.p (au vs)),(6,.sl 3 5 0 s.out.length),(7,.p (.int .i64 s.j))])
  (λs=>[rdO b s.q,.row 5 [dd fns s.vs s.next s.left],bs 3 (aG fns),.row 5 (smR s.out)])
  (λs=>s.j+s.m<=4/\an s.out<=s.m*(2*N+3000)/\s.out.length<=2*s.m/\p<=s.q/\s.q<=p+1+s.m*(2*N+3000)/\s.vs.length<=vs.length+s.m/\(∀w∈s.vs,w.length<=8)/\next<=s.next/\s.next<=next+((s.m*(2*N+3000):Nat):Int)/\left-((s.m*(2*N+3000):Nat):Int)<=s.left/\s.left<=left)
  (λs=>s.j) ⟨J,0,[],p+1,vs,next,left⟩ ⟨by simp only;omega,by simp[an],by simp,by simp,by simp,by simp,hB.w,by simp,by simp,by simp,by simp⟩ ?_ ?_
 ·refine jz (m:=4) (by omega) (fc (h1:=[rdO b (p+1),.row 5 [dd fns vs next left],bs 3 (aG fns),.row 5 (smR [])]) rfl rfl (ag (bA _ _ _) (ag (hGok _ _ _) (ag (nT _ _) (ag (ce (aY [])) dN))))) (by simp[below])
 rintro⟨j,m,out,q,vs',nx,lf⟩ ⟨i1,i2,i3,i4,i5,i6,i7,i8,i9,i10,i11⟩
 simp only at i1 i2 i3 i4 i5 i6 i7 i8 i9 i10 i11
 simp-implicitDefEqProofs[dd]
 have hm4:m*(2*N+3000)<=4*(2*N+3000):=Nat.mul_le_mul_right _ (by omega)
 by_cases hc:0<j/\0<lf
 ·obtain⟨c1,c2⟩:=hc
  have hm3:m*(2*N+3000)<=3*(2*N+3000):=Nat.mul_le_mul_right _ (by omega)
  have hms:(m+1)*(2*N+3000)=m*(2*N+3000)+(2*N+3000):=by rw[Nat.add_mul,Nat.one_mul]
  have hmsI:((m+1:Nat):Int)*(2*(N:Int)+3000)=((m*(2*N+3000)+(2*N+3000):Nat):Int):=by rw[←hms];simp
  generalize m*(2*N+3000)=M at*
  have hB2:Bd (2*Pd d+3000) q vs' nx lf:=by
   rw[hN];exact⟨by omega,by omega,i7,by omega,by omega,by omega,by omega⟩
  have hS:=Vh G hb hl fns hf hd hblk hB2
  rw[hN] at hS
  simp-implicitDefEqProofs[c1,c2]
  refine(dS G hS _ (by simp[below])).mono ?_
  rintro r h ⟨v,q2,vs2,n2,l2,rfl,rfl,out2,rfl,z1,z2,z3,hvs,m1,m2,m3,m4,m5,m6⟩
  have hsl:smL out2= .lst 5 (out2.map Sm.cs):=rfl
  simp-implicitDefEqProofs[aa,dd,hsl]
  have hol:(smR out).length=out.length:=ed out
  have hwj:IntKind.i64.wrap ((j:Int)-1)=((j-1:Nat):Int):=by rw[ae (by omega) (by omega)];omega
  have hrow:List.take out.length (smR out)++List.map ((λx=>List.map AV.p x)∘Sm.cs) out2=smR (out++out2):=by
   rw[Zz (by omega),zA];rfl
  refine⟨⟨by omega,by omega,by omega⟩,⟨j-1,m+1,out++out2,q2,vs2,n2,l2⟩,⟨by simp only;omega,by simp only;rw[bu,hms];omega,by simp only;rw[ZM];omega,by simp only;omega,by simp only;rw[hms];omega,?_,?_,by simp only;omega,by simp only;rw[hmsI];omega,by simp only;rw[hmsI];omega,by simp only;omega⟩,by simp only;omega,?_⟩
  ·simp only
   rcases hvs with rfl|⟨s,_,rfl⟩
   ·omega
   ·rw[ZM,List.length_singleton];omega
  ·simp only
   rcases hvs with rfl|⟨s,hs,rfl⟩
   ·exact i7
   ·intro w hw
    rcases ZB.1 hw with h|h
    ·exact i7 w h
    ·rw[ZC.1 h];exact hs
  ·rw[hrow]
   refine ck [0,1,2,4] (by simp) (by decide) (by decide) (bV rfl (bA _ _ _) (bN ?_ ?_ (bV rfl (nT _ _) (az rfl (aY _) aU)))) (by simp[below,ren,hwj])
   ·intro x hx
    rw[ZC.1 hx];exact⟨by simp[below],sM (by simp),by simp,by simp,by simp,trivial⟩
   ·simp[dd,ren,bm]
 ·have hce:(decide (0<j)&&decide (0<lf))=false:=by
   by_cases h1:0<j
   ·have h2:¬0<lf:=λh=>hc ⟨h1,h⟩
    simp[h2]
   ·simp[h1]
  have fin:Sa b fns vs p (20*N) next left [] (.ret (.sl 3 5 0 out.length)) [rdO b q,.row 5 [[.ptr 0 2 0 0,slE 2 3 (aG fns),.p (au vs),.p (.int .i64 nx),.p (.int .i64 lf)]],bs 3 (aG fns),.row 5 (smR out)]:=
   ⟨out,q,nx,lf,rfl,rfl,by omega,by omega,by omega,by omega,by omega,by omega,by omega,by omega⟩
  by_cases h1:0<j
  ·have h2:¬0<lf:=λh=>hc ⟨h1,h⟩
   simp-implicitDefEqProofs[h1,h2]
   exact fin
  ·simp-implicitDefEqProofs[h1]
   exact fin
end
section
theorem Bt:AK.whole lE=FK.ak lq:=rfl
theorem FH{h:List AO}{id:Nat}{out:List Sm}{m:Sm}{c:List AV}(e:h[id]?=some (.row 5 (smR out++[c])))(hc:∀(j:Nat) (q:PV) (a:AV),m.cs[j]?=some q->c[j]?=some a->View h a q):View h (.sl id 5 0 (out.length+1)) (smL (out++[m])):=by
 have hl:((out++[m]).map Sm.cs).length=out.length+1:=by simp
 have:=View.sl (h:=h) id 5 0 _ ((out++[m]).map Sm.cs) e (by rw[hl];simp[ed]) (λx hx=>by obtain⟨b,_,rfl⟩:=ZN.1 hx;exact b.cs_len) (λi j e q e' a a1 a2 a3 a4=>?_)
 ·rwa[hl] at this
 rw[aao] at a3
 rw[List.map_append] at a1
 rcases aaj i out.length with hi|hi
 ·rw[Zv (by simpa using hi),ZK,Zu hi] at a1
  rw[Zv (by simpa[ed] using hi),smR,ZK,Zu hi] at a3
  cases a1;cases a3
  rw[ZK,a2] at a4
  cases a4
  exact .p _
 ·rw[ZG (by simpa using hi)] at a1
  rw[ZG (by simpa[ed] using hi),ed] at a3
  rw[ZU] at a1
  cases hd:i-out.length with
  |zero=>
   rw[hd] at a1 a3
   cases a1;cases a3
   exact hc j q a a2 a4
  |succ n=>rw[hd] at a3;simp at a3
variable (G:am)
theorem Ro{b:List Int}(hb:Byt b)(hl:b.length<=2000)(fns:List Fd)(hf:Cm fns):ML G b fns 3:=
 FQ G hb hl fns hf (d:=2) (by omega) λ_=>FQ G hb hl fns hf (d:=1) (by omega) λ_=>FQ G hb hl fns hf (d:=0) (by omega) λh=>absurd h (by omega)
def abcW:List (List UInt8):=[[97],[98],[99]]
def fnQ(p:Nat)(name:List UInt8)(np:Nat)(left:Int)(v:AV)(q:Nat)(vs':List (List UInt8))(next' left':Int):Prop:=
 ∃f:Fd,v= .agg (f.cs.map .p)/\f.name=name/\f.params=abcW.take np/\an f.body<=40000500/\p<=q/\q<=p+40000500/\left-40000500<=left'/\left'<=left
theorem Xa{b:List Int}(hb:Byt b)(hl:b.length<=2000){p:Nat}(hp:p<=90000000000)(fns:List Fd)(hf:Cm fns)(vs:List (List UInt8))(next left:Int)(hl0: -1000000000<=left)(hl1:left<=1000000000)(name:List UInt8)(np:Nat)(hnp:np<=3):
 AC Tryz.prog G iA [.ptr 1 5 0 0,.p (.str name),.p (.int .i64 np)] (HG b p fns vs next left) (PG b fns (fnQ p name np left) []):=by
 refine ny G (AC.goK BF Bt ?_)
 have hwn:IntKind.i64.wrap ((np:Int)-1)=(np:Int)-1:=ae (by omega) (by omega)
 have h3:(np:Int)<=3:=by omega
 simp-implicitDefEqProofs[lE,lq,HG,dd,hwn,h3,hnp]
 refine ja (ah 61 [(0,.ptr 1 5 0 0),(6,.ptr 3 3 0 0),(7,.ptr 4 3 0 0)]) [rdO b p,.row 5 [dd fns (abcW.take np) ((np:Int)-1) left],bs 3 (aG fns),.row 3 [[.p (.str []),.nils,.nils]],.row 3 [[.p (.str name),.p (au (abcW.take np)),.nils]]] ?_ ?_
 ·have hlen:(abcW.take np).length=np:=by simp[abcW];omega
  simp-implicitDefEqProofs[hnp,hlen]
  refine⟨⟨by omega,by omega⟩,?_⟩
  have hcutR:fV (abcW.take np)= .row 1 (List.take np [[AV.p (PV.str [97])],[AV.p (PV.str [98])],[AV.p (PV.str [99])]]):=by
   simp only[fV,List.map_take];rfl
  rw[←hcutR]
  refine Wk.trans (LB (h1:=[rdO b p,.row 5 [[.ptr 0 2 0 0,slE 2 3 (aG fns),.sl 4 1 0 np,.p (.int .i64 ((np:Int)-1)),.p (.int .i64 left)]],bs 3 (aG fns),.row 3 [[.p (.str []),.nils,.nils]],fV (abcW.take np),.dead,fV (abcW.take np),.row 3 [[.p (.str name),.sl 6 1 0 np,.nils]]])
   ⟨.inl rfl,.inl rfl,.inl rfl,.inl rfl,.inr ⟨1,_,np,rfl,hcutR⟩,.inl rfl,.inl rfl,.inl rfl,trivial⟩) ?_
  refine Wk.trans (ck (l1:=[(0,.ptr 1 5 0 0),(6,.ptr 3 3 0 0),(7,.ptr 4 3 0 0)])
   (h1:=[rdO b p,.row 5 [[.ptr 0 2 0 0,slE 2 3 (aG fns),.sl 5 1 0 np,.p (.int .i64 ((np:Int)-1)),.p (.int .i64 left)]],bs 3 (aG fns),.row 3 [[.p (.str []),.nils,.nils]],.row 3 [[.p (.str name),.sl 6 1 0 np,.nils]],fV (abcW.take np),fV (abcW.take np)])
   [0,1,2,3,7,4,6] (by simp) (by decide) (by decide) (bV rfl (bA _ _ _) (bN (by simp[below]) (by simp[ren,bm]) (bV rfl (nT _ _) (az rfl (by simp[below]) (bN (by simp[below]) (by simp[ren,bm]) (bV rfl (sJ _) (bV rfl (sJ _) aU))))))) (by simp[below,ren]))
   (cV 5 (by omega) (by simp) rfl (.same (bA _ _ _) (.one (.keep (by simp[below]) (.keep (sM (by omega)) (.one ?_ (.keep (by simp) (.keep (by simp) .nil))))) (.same (nT _ _) (.same (by simp[okO,below]) (.one (.keep (by simp) (.one ?_ (.keep (by simp[below]) .nil))) (.nil _)))))) ?_)
  ·have:=fJ (l:=abcW.take np) (id:=5) (h:=tail 5 [rdO b p,.row 5 [[.ptr 0 2 0 0,slE 2 3 (aG fns),.sl 5 1 0 np,.p (.int .i64 ((np:Int)-1)),.p (.int .i64 left)]],bs 3 (aG fns),.row 3 [[.p (.str []),.nils,.nils]],.row 3 [[.p (.str name),.sl 6 1 0 np,.nils]],fV (abcW.take np),fV (abcW.take np)]) rfl
   rwa[hlen] at this
  ·have:=fJ (l:=abcW.take np) (id:=6) (h:=tail 5 [rdO b p,.row 5 [[.ptr 0 2 0 0,slE 2 3 (aG fns),.sl 5 1 0 np,.p (.int .i64 ((np:Int)-1)),.p (.int .i64 left)]],bs 3 (aG fns),.row 3 [[.p (.str []),.nils,.nils]],.row 3 [[.p (.str name),.sl 6 1 0 np,.nils]],fV (abcW.take np),fV (abcW.take np)]) rfl
   rwa[hlen] at this
  ·exact⟨.keep (by simp[below]) .nil,.keep (by simp[below]) .nil,.keep (by simp[below]) .nil,trivial⟩
 have hlen:(abcW.take np).length<=3:=by simp[abcW];omega
 have hw8:∀s∈abcW.take np,s.length<=8:=by
  intro s hs
  have:=aah hs
  simp only[abcW,ZI,aaa,or_false] at this
  rcases this with rfl|rfl|rfl<;>simp
 have hPd:Pd 3=40000000:=rfl
 have hB:Bd (Pd 3) p (abcW.take np) ((np:Int)-1) left:=by rw[hPd];exact⟨by omega,by omega,hw8,by omega,by omega,by omega,by omega⟩
 simp-implicitDefEqProofs[dd]
 refine(vQ G (Ro G hb hl fns hf hB) _).mono ?_
 rintro r h ⟨out,q,n2,l2,rfl,rfl,z1,z2,m1,m2,m3,m4,m5,m6⟩
 rw[hPd] at z1 m2 m4 m5
 simp-implicitDefEqProofs[aa,dd]
 have fin:∀(out:List Sm) (q:Nat) (l2:Int) (rest:List AO) (v:AV) (vc:AV) (vs':List (List UInt8)) (n2:Int),Fzs (.dead:: .dead:: .dead::rest) 3 [vc] [.p (au vs')]->Fzs (.dead:: .dead:: .dead::rest) 3 [v] [.agg ((Fd.mk name (abcW.take np) out).cs.map .p)]->an out<=40000500->p<=q->q<=p+40000500->left-40000500<=l2->l2<=left->
  DG b fns (fnQ p name np left) (.ret v) (rdO b q:: .row 5 [[.ptr 0 2 0 0,slE 2 3 (aG fns),vc,.p (.int .i64 n2),.p (.int .i64 l2)]]::bs 3 (aG fns)::rest):=λout q l2 rest v vc vs' n2 h1 h2 h3 h4 h5 h6 h7=>
  ⟨_,rest,q,_,_,vs',n2,l2,rfl,rfl,h1,h2,⟨name,abcW.take np,out⟩,rfl,rfl,rfl,h3,h4,h5,h6,h7⟩
 by_cases hl2:0<l2
 ·simp-implicitDefEqProofs[hl2]
  refine(aR G b hb hl q (by omega) 4 _).mono ?_
  rintro r h ⟨k,rfl,rfl,_⟩
  simp-implicitDefEqProofs[aa]
  refine aT (λhc=>?_) (λhc=>?_)
  ·have hwl:IntKind.i64.wrap (l2-1)=l2-1:=ae (by omega) (by omega)
   simp-implicitDefEqProofs[hwl]
   have hShrt:AF (abcW.take np):=⟨by omega,hw8⟩
   refine(dS G (nY G hb hl (p:=q+1) (by omega) fns hf (abcW.take np) hShrt n2 (l2-1) (d:=2) (by omega)) _ (by simp[below])).mono ?_
   rintro r h ⟨v,q2,vs2,n3,l3,rfl,rfl,⟨e,rfl,he⟩,h1,h2,hvs,rfl,rfl⟩
   subst hvs
   have hec:=e.cs_eq
   have hol:(smR out).length=out.length:=ed out
   simp-implicitDefEqProofs[aa,dd,hec,hol]
   refine⟨⟨by omega,by omega⟩,?_⟩
   have htk:List.take out.length (smR out)=smR out:=Zz (by omega)
   rw[htk]
   have hm:(Sm.mk 7 [] [e] [] []).cs=[.int .i64 7,.str [],.lst 4 [[.int .i64 e.op,.int .i64 e.n,.str e.name,exL e.kids]],.lst 5 [],.lst 5 []]:=by
    rw[Sm.cs_eq,←hec];rfl
   refine fin (out++[⟨7,[],[e],[],[]⟩]) q2 (l2-1) _ _ _ (abcW.take np) n3 (.keep (by simp) .nil) (.agg (.keep (by simp) (.keep (by simp) (.one (FH rfl ?_) .nil))) .nil) (by simp[bu,an,Sm.sz,bj];omega) (by omega) (by omega) (by omega) (by omega)
   intro j q a a1 a2
   rw[hm] at a1
   match j,a1,a2 with
   |0,a1,a2=>cases a1;cases a2;exact .p _
   |1,a1,a2=>cases a1;cases a2;exact .p _
   |2,a1,a2=>cases a1;cases a2;exact .p _
   |3,a1,a2=>cases a1;cases a2;exact View.e 0 5
   |4,a1,a2=>cases a1;cases a2;exact View.e 0 5
   |j+5,a1,a2=>simp at a1
  ·simp-implicitDefEqProofs[]
   exact fin out (q+1) l2 _ _ _ (abcW.take np) n2 (.keep (by simp) .nil) (.agg (.keep (by simp) (.keep (by simp) (.one (fw rfl) .nil))) .nil) (by omega) (by omega) (by omega) (by omega) (by omega)
 ·simp-implicitDefEqProofs[hl2]
  exact fin out q l2 _ _ _ (abcW.take np) n2 (.keep (by simp) .nil) (.agg (.keep (by simp) (.keep (by simp) (.one (fw rfl) .nil))) .nil) (by omega) (by omega) (by omega) (by omega) (by omega)
end
section
theorem Dt{h:List AO}{s:List UInt8}{ps:List (List UInt8)}{bd:List Sm}{P B:AV}(hP:View h P (au ps))(hB:View h B (smL bd)):∀(j:Nat) (q:PV) (x:AV),(Fd.mk s ps bd).cs[j]?=some q->[AV.p (.str s),P,B][j]?=some x->View h x q:=by
 intro j q x e1 e2
 match j,e1,e2 with
 |0,e1,e2=>cases e1;cases e2;exact .p _
 |1,e1,e2=>cases e1;cases e2;exact hP
 |2,e1,e2=>cases e1;cases e2;exact hB
 |j+3,e1,e2=>simp[Fd.cs] at e1
theorem sO{h:List AO}{id:Nat}{l:List Fd}(e:h[id]?=some (.row 3 (aG l))):View h (.sl id 3 0 l.length) (fdL l):=by
 have:=gm (h:=h) (id:=id) (sz:=3) (n:=l.length) (ls:=l.map Fd.cs) (by rw[e,aG];simp) (by simp) (λx hx=>by obtain⟨b,_,rfl⟩:=ZN.1 hx;exact b.cs_len)
 exact this
theorem Do(a b:List Fd):aG (a++b)=aG a++aG b:=by simp[aG]
theorem ng(a:List Fd):(aG a).length=a.length:=by simp[aG]
theorem kQ(a b:List Fd):aH (a++b)=aH a+aH b:=by simp[aH]
def Vt:List Fd:=[⟨[109],[],[⟨3,[],[⟨1,1,[],[]⟩],[],[]⟩]⟩]
theorem Lz:bc Vt=true:=by decide
theorem LW(k:Nat)(hk:k<=3):(abcW.take k).length+((abcW.take k).map List.length).sum<=6:=by
 have h:k=0\/k=1\/k=2\/k=3:=by omega
 rcases h with rfl|rfl|rfl|rfl<;>decide
variable (G:am)
structure PgS where (j:Nat) (fns:List Fd) (q:Nat) (vs:List (List UInt8)) (next left:Int)
def YX(b:List Int)(p n:Nat)(x:ARes)(h:List AO):Prop:=∃(l:List Fd) (q:Nat),x= .ret (.agg [.p (fdL l)])/\h=[rdO b q]/\bc l=true/\aH l<=200000000/\p<=q/\q<=p+n
def YJ(b:List Int)(p n:Nat)(x:ARes)(h:List AO):Prop:=∃(l:List Fd) (q:Nat) (v:AV) (rest:List AO),x= .ret (.agg [v])/\h=rdO b q::rest/\View (tail 1 h) v (fdL l)/\bc l=true/\aH l<=200000000/\p<=q/\q<=p+n
theorem Kl{b:List Int}(hb:Byt b)(hl:b.length<=2000){p:Nat}(hp:p<=10000000000):AC Tryz.prog G dr [.ptr 0 2 0 0] [rdO b p] (YX b p 200000000):=by
 refine AC.frz (R:=YJ b p 200000000) ?_ 1 (by simp) (λt v h ⟨_,_,_,_,e,_⟩=>by cases e) ?_
 ·refine AC.go Eu ?_
  simp-implicitDefEqProofs[uk]
  refine(lO G hb hl (p:=p) (by omega) [14,20,8,26] (k:=2) (by simp) (by simp) (by omega) rfl rfl).mono ?_
  rintro r h ⟨L0,hL0,rfl,rfl⟩
  have hL:0<=L0/\L0<=26:=by simp at hL0;omega
  simp-implicitDefEqProofs[aa]
  refine(lO G hb hl (p:=p+1) (by omega) [0,1,1,2] (k:=4) (by simp) (by simp) (by omega) rfl rfl).mono ?_
  rintro r h ⟨J0,hJ0,rfl,rfl⟩
  obtain⟨J,rfl,hJ⟩:∃J:Nat,J0=J/\J<=2:=⟨J0.toNat,by simp at hJ0;omega,by simp at hJ0;omega⟩
  simp-implicitDefEqProofs[aa]
  refine aI (λs:PgS=>ah 69 [(0,.ptr 0 2 0 0),(2,.ptr 3 1 0 0),(3,.ptr 1 5 0 0),(4,.p (.int .i64 s.j))])
   (λs=>[rdO b s.q,.row 5 [dd s.fns s.vs s.next s.left],bs 3 (aG s.fns),.row 1 [[.nils]]])
   (λs=>s.j+s.fns.length<=2/\Cm s.fns/\aH s.fns<=s.fns.length*40000600/\p<=s.q/\s.q<=p+2+s.fns.length*40000600/\L0-s.fns.length*40000600<=s.left/\s.left<=L0)
   (λs=>s.j) ⟨J,[],p+1+1,[],0,L0⟩ ⟨by simp only[aay];omega,⟨by simp,by simp⟩,by simp[aH],by simp only;omega,by simp,by simp,by simp⟩ ?_ ?_
  ·refine Wk.trans (ck (l1:=[(0,.ptr 0 2 0 0),(2,.ptr 3 1 0 0),(3,.ptr 1 5 0 0),(4,.p (.int .i64 J))])
    (h1:=[rdO b (p+1+1),.row 5 [[.ptr 0 2 0 0,.nils,.nils,.p (.int .i64 0),.p (.int .i64 L0)]],.dead,.row 1 [[.nils]]])
    [0,3,2,1] (by simp) (by decide) (by decide) (bV rfl (bA _ _ _) (bN (by simp[below]) (by simp[ren,bm]) (fQ (by simp) (az rfl (by simp[below]) aU)))) (by simp[below,ren]))
    (cV 4 (by omega) (by simp) rfl (.same (bA _ _ _) (.one (.keep (by simp[below]) (.keep (by simp[below,aG,slE]) (.one (View.nils 1) (.keep (by simp) (.keep (by simp) .nil))))) (.dead (.same (by simp[okO,below]) (.nil _))))) ?_)
   exact⟨.keep (by simp[below]) .nil,.keep (by simp[below]) .nil,.keep (by simp[below]) .nil,.keep (by simp[below]) .nil,trivial⟩
  rintro⟨j,fns,q,vs,nx,lf⟩ ⟨i1,i2,i3,i4,i5,i6,i7⟩
  simp only at i1 i2 i3 i4 i5 i6 i7
  simp-implicitDefEqProofs[dd]
  by_cases hj:0<j
  ·have hfl:fns.length<3:=by omega
   have hcl:(aG fns).length=fns.length:=ng fns
   obtain⟨nm,hget,hnm⟩:∃nm:List UInt8,([[PV.str [102]],[PV.str [103]],[PV.str [104]]]:List (List PV))[fns.length]?=some [.str nm]/\nm.length<=8:=by
    have h3:fns.length=0\/fns.length=1\/fns.length=2:=by omega
    rcases h3 with h|h|h<;>rw[h]
    ·exact⟨[102],rfl,by simp⟩
    ·exact⟨[103],rfl,by simp⟩
    ·exact⟨[104],rfl,by simp⟩
   simp-implicitDefEqProofs[hj,hcl,hget]
   refine(aR G b hb hl q (by omega) 3 _).mono ?_
   rintro r h ⟨k,rfl,rfl,hk⟩
   have hk3:k<=3:=by omega
   simp-implicitDefEqProofs[aa,hcl,hget]
   refine(dS G (Xa G hb hl (p:=q+1) (by omega) fns i2 vs nx lf (by omega) (by omega) nm k hk3) _ (by simp[below])).mono ?_
   rintro r h ⟨v,q2,vs2,n2,l2,rfl,rfl,f,rfl,hf1,hf2,z1,z2,z3,z4,z5⟩
   have hcs:=f.cs_len
   have hcf:f.cs=[.str f.name,au f.params,smL f.body]:=rfl
   simp-implicitDefEqProofs[aa,dd,hcf]
   have hfs:f.sz<=40000600:=by
    have h1:f.sz=1+f.name.length+(f.params.length+(f.params.map List.length).sum)+an f.body:=rfl
    have h2:=LW k hk3
    rw[←hf2] at h2
    rw[hf1] at h1
    omega
   have hwj:IntKind.i64.wrap ((j:Int)-1)=((j-1:Nat):Int):=by rw[ae (by omega) (by omega)];omega
   have hfp:f.params.length<=3:=by rw[hf2];simp[abcW];omega
   have hrow:aG fns++[[AV.p (.str f.name),.p (au f.params),.p (smL f.body)]]=aG (fns++[f]):=by rw[Do];rfl
   have hne:aG (fns++[f])≠[]:=by simp[aG]
   have hll:(aG fns).length+1=(aG (fns++[f])).length:=by simp[aG]
   rw[hrow,hll]
   refine⟨⟨by rw[←hll,hcl];omega,by omega⟩,⟨j-1,fns++[f],q2,vs2,n2,l2⟩,⟨by simp;omega,⟨by simp;omega,?_⟩,by simp only[kQ,ZM];simp[aH] at*;omega,by simp only;omega,by simp;omega,by simp;omega,by simp only;omega⟩,by simp only;omega,?_⟩
   ·intro x hx
    rcases ZB.1 hx with h|h
    ·exact i2.2 x h
    ·rw[ZC.1 h,hf1];exact⟨hnm,hfp⟩
   ·rw[dA hne,eL hne]
    refine ck [0,1,5,3] (by simp) (by decide) (by decide) (bV rfl (bA _ _ _) (bN (by simp[below]) (by simp[ren,bm]) (az rfl (fI _) (az rfl (by simp[below]) aU)))) (by simp[below,ren,hwj])
  ·simp-implicitDefEqProofs[hj]
   refine(lO G hb hl (p:=q) (by omega) [0,1,2,1] (k:=4) (by simp) (by simp) (by omega) rfl rfl).mono ?_
   rintro r h ⟨N0,hN0,rfl,rfl⟩
   obtain⟨np,rfl,hnp⟩:∃J:Nat,N0=J/\J<=2:=⟨N0.toNat,by simp at hN0;omega,by simp at hN0;omega⟩
   simp-implicitDefEqProofs[aa]
   refine(dS G (Xa G hb hl (p:=q+1) (by omega) fns i2 vs nx lf (by omega) (by omega) [109] np (by omega)) _ (by simp[below])).mono ?_
   rintro r h ⟨v,q2,vs2,n2,l2,rfl,rfl,f,rfl,hf1,hf2,z1,z2,z3,z4,z5⟩
   have hcf:f.cs=[.str f.name,au f.params,smL f.body]:=rfl
   have hcl:(aG fns).length=fns.length:=ng fns
   have hfs:f.sz<=40000600:=by
    have h1:f.sz=1+f.name.length+(f.params.length+(f.params.map List.length).sum)+an f.body:=rfl
    have h2:=LW np (by omega)
    rw[←hf2] at h2
    rw[hf1] at h1
    simp at h1
    omega
   by_cases hfe:fns=[]
   ·subst hfe
    have h0:aG []=[]:=rfl
    rw[h0]
    simp-implicitDefEqProofs[aa,dd,hcf,h0,pR,zE]
    have hrow:[[AV.p (.str f.name),.p (au f.params),.p (smL f.body)]]=aG [f]:=rfl
    rw[hrow]
    have vw:∀h:List AO,h[8]?=some (.row 3 (aG [f]))->View h (.sl 8 3 0 1) (fdL [f]):=λh e=>sO (l:=[f]) e
    refine((mA G [f] (by simp only[aH,ZT,aaz,List.sum_cons,List.sum_nil] at*;omega)).lend (.agg (.one (vw _ rfl) .nil) .nil) rfl).mono ?_
    rintro r h ⟨rfl,rfl⟩
    simp-implicitDefEqProofs[aa]
    by_cases hok:bc [f]=true
    ·simp-implicitDefEqProofs[hok]
     exact⟨[f],q2,_,_,rfl,rfl,vw _ rfl,hok,by simp only[aH,ZT,aaz,List.sum_cons,List.sum_nil] at*;omega,by omega,by omega⟩
    ·have hok':bc [f]=false:=by simpa using hok
     simp-implicitDefEqProofs[hok']
     exact⟨Vt,q2,_,_,rfl,rfl,bI (p0:=(Fd.mk [109] [] [⟨3,[],[⟨1,1,[],[]⟩],[],[]⟩]).cs) rfl rfl (Dt (View.nils 1) (bI (p0:=(Sm.mk 3 [] [⟨1,1,[],[]⟩] [] []).cs) rfl (Sm.cs_len _) (cM (bI (p0:=(Ex.mk 1 1 [] []).cs) rfl (Ex.cs_len _) (jk (View.nils 4))) (View.nils 5) (View.nils 5)))),Lz,by decide,by omega,by omega⟩
   ·have h0:aG fns≠[]:=λh=>hfe (List.map_eq_nil_iff.1 h)
    simp only[dd,eL h0,dA h0]
    simp-implicitDefEqProofs[aa,hcf,hcl]
    refine⟨⟨by omega,by omega⟩,⟨by omega,by omega⟩,?_⟩
    have hrow:List.take fns.length (List.take fns.length (aG fns))++[[AV.p (.str f.name),.p (au f.params),.p (smL f.body)]]=aG (fns++[f]):=by
     rw[Zz (by rw[ZS];omega),Zz (by omega),Do];rfl
    rw[hrow]
    have vw:∀h:List AO,h[8]?=some (.row 3 (aG (fns++[f])))->View h (.sl 8 3 0 (fns.length+1)) (fdL (fns++[f])):=λh e=>by
     have:=sO e
     rwa[ZM,List.length_singleton] at this
    refine((mA G (fns++[f]) (by rw[kQ];simp only[aH,ZT,aaz,List.sum_cons,List.sum_nil] at*;omega)).lend (.agg (.one (vw _ rfl) .nil) .nil) rfl).mono ?_
    rintro r h ⟨rfl,rfl⟩
    simp-implicitDefEqProofs[aa]
    by_cases hok:bc (fns++[f])=true
    ·simp-implicitDefEqProofs[hok]
     exact⟨fns++[f],q2,_,_,rfl,rfl,vw _ rfl,hok,by rw[kQ];simp only[aH,ZT,aaz,List.sum_cons,List.sum_nil] at*;omega,by omega,by omega⟩
    ·have hok':bc (fns++[f])=false:=by simpa using hok
     simp-implicitDefEqProofs[hok']
     exact⟨Vt,q2,_,_,rfl,rfl,bI (p0:=(Fd.mk [109] [] [⟨3,[],[⟨1,1,[],[]⟩],[],[]⟩]).cs) rfl rfl (Dt (View.nils 1) (bI (p0:=(Sm.mk 3 [] [⟨1,1,[],[]⟩] [] []).cs) rfl (Sm.cs_len _) (cM (bI (p0:=(Ex.mk 1 1 [] []).cs) rfl (Ex.cs_len _) (jk (View.nils 4))) (View.nils 5) (View.nils 5)))),Lz,by decide,by omega,by omega⟩
 ·rintro v h ⟨l,q,v0,rest,e,rfl,hv,h1,h2,h3,h4⟩
  cases e
  exact⟨_,[rdO b q],by simp,rfl,.agg (.one hv .nil) .nil,.same (bA _ _ _) (.nil _),l,q,rfl,rfl,h1,h2,h3,h4⟩
end
section
variable (G:am)
theorem Fs{hF:List AO}{n:Nat}{o k:Int}{w:List UInt8}{ks:List Ex}{K:AV}(hk:View hF K (exL ks)):Fzs hF n [.agg [.p (.int .i64 o),.p (.int .i64 k),.p (.str w),K]] [.agg ((Ex.mk o k w ks).cs.map .p)]:=by
 rw[Ex.cs_eq]
 exact .agg (.keep (by simp) (.keep (by simp) (.keep (by simp) (.one hk .nil)))) .nil
def SV(h:List AO)(kids:List Ex)(K:AV):Prop:=(K= .nils/\kids=[])\/∃id rows hX,K= .sl (id+1) 4 0 kids.length/\kids≠[]/\h[id+1]?=some (.row 4 rows)/\hX.length=h.length/\(∀(i:Nat) o,hX[i]?=some o->o.live->h[i]?=some o)/\¬Live hX 0/\¬Live hX (id+1)/\
 rows.length=kids.length/\∀(j:Nat) (e e1:List AV),rows[j]?=some e->(exR kids)[j]?=some e1->Fzs hX h.length e e1
def DT(b:List Int)(Q:Ex->Nat->Prop)(x:ARes)(h:List AO):Prop:=∃(e:Ex) (q:Nat) (rest:List AO) (K:AV),x= .ret (.agg [.p (.int .i64 e.op),.p (.int .i64 e.n),.p (.str e.name),K])/\h=rdO b q::rest/\SV h e.kids K/\Q e q
def EN(b:List Int)(Q:Ex->Nat->Prop)(x:ARes)(h:List AO):Prop:=∃(e:Ex) (q:Nat),x= .ret (.agg [.p (.int .i64 e.op),.p (.int .i64 e.n),.p (.str e.name),slE 1 4 (exR e.kids)])/\h=[rdO b q,bs 4 (exR e.kids)]/\Q e q
def EoQ(p n m:Nat)(e:Ex)(q:Nat):Prop:=e.sz<=n/\p<=q/\q<=p+m
theorem Hh{hF:List AO}{n:Nat}:∀h:List AO,FzO hF n h (List.replicate h.length .dead)
 |[]=> .nil _
 |o::r=>by rw[ZO,List.replicate_succ];exact .dead (Hh r)
theorem Iu{hF:List AO}{n sz:Nat}{es es1:List (List AV)}(hl:es.length=es1.length)(hv:∀(j:Nat) (e e1:List AV),es[j]?=some e->es1[j]?=some e1->Fzs hF n e e1):∀(h:List AO) (id:Nat),h[id]?=some (.row sz es)->FzO hF n h ((List.replicate h.length .dead).set id (.row sz es1))
 |[],id,e=>by simp at e
 |o::r,0,e=>by
  cases e
  rw[ZO,List.replicate_succ,List.set_cons_zero]
  exact .rows hl hv (Hh r)
 |o::r,id+1,e=>by
  rw[ZO,List.replicate_succ,List.set_cons_succ]
  exact .dead (Iu hl hv r id (by simpa using e))
theorem Hr{f:FuncId}{args:List AV}{b:List Int}{p:Nat}{Q:Ex->Nat->Prop}(H:AC Tryz.prog G f args [rdO b p] (DT b Q)):AC Tryz.prog G f args [rdO b p] (EN b Q):=by
 refine H.wk (λt v h ⟨_,_,_,_,e,_⟩=>by cases e) ?_
 rintro v h ⟨e,q,rest,K,ev,rfl,hk,hq⟩
 cases ev
 rcases hk with⟨rfl,hk⟩|⟨id,rows,hX,rfl,hne,he,x1,x2,x3,x4,x5,x6⟩
 ·refine⟨_,_,?_,e,q,rfl,rfl,hq⟩
  have h0:exR e.kids=[]:=by rw[hk];rfl
  rw[h0,pR,zE]
  exact Wk.ofL [0,0] (by simp) (by simp) (by simp[rdO,lg]) (by simp[below,aj,ren,bm]) (bV rfl (bA _ _ _) (fQ (by simp) aU))
 ·have hr:exR e.kids≠[]:=λh=>hne (List.map_eq_nil_iff.1 h)
  have hrl:(exR e.kids).length=e.kids.length:=by simp[exR]
  rw[ZF] at he
  have hid:id<rest.length:=(Zt.1 he).1
  refine⟨.agg [.p (.int .i64 e.op),.p (.int .i64 e.n),.p (.str e.name),slE 1 4 (exR e.kids)],[rdO b q,bs 4 (exR e.kids)],?_,e,q,rfl,rfl,hq⟩
  rw[dA hr,eL hr,hrl]
  refine Wk.trans (ts1:=[.agg [.p (.int .i64 e.op),.p (.int .i64 e.n),.p (.str e.name),.sl (id+1) 4 0 e.kids.length]]) (h1:=rdO b q::(List.replicate rest.length .dead).set id (.row 4 (exR e.kids))) (Mc (hX:=hX) (by simp) x1 x2 (λi ⟨o,e1,l1⟩ ⟨o2,e2,l2⟩=>?_) (by simp) rfl (λi u hi=>?_) (.same (bA _ _ _) (Iu (by rw[hrl];exact x5) x6 rest id he))) ?_
  ·cases i with
   |zero=>exact x3 ⟨o,e1,l1⟩
   |succ i=>
    by_cases hi:i=id
    ·subst hi;exact x4 ⟨o,e1,l1⟩
    ·rw[ZF,Zx (Ne.symm hi),List.getElem?_replicate] at e2
     split at e2
     ·cases e2;exact l2
     ·cases e2
  ·cases i with
   |zero=>cases hi;exact .inr ⟨_,rfl,ig (by simp[below,aj];exact hid)⟩
   |succ i=>simp at hi
  ·refine Wk.of [0,id+1] (by simp) (by simp) (by simp) (by simp[below,aj,ren,bm]) (bV rfl (bA _ _ _) (az ?_ (dK _) aU))
   rw[ZF,ZJ (by simpa using hid)]
theorem BZ{f:FuncId}{args:List AV}{b:List Int}{p:Nat}{Q:Ex->Nat->Prop}(H:AC Tryz.prog G f args [rdO b p] (EN b Q))(rest:List AO)(ha:aj 1 args):
 AC Tryz.prog G f args (rdO b p::rest) λx h=>∃(e:Ex) (q:Nat),x= .ret (.agg [.p (.int .i64 e.op),.p (.int .i64 e.n),.p (.str e.name),slE (rest.length+1) 4 (exR e.kids)])/\h=rdO b q::(rest++[bs 4 (exR e.kids)])/\Q e q:=by
 refine(H.frame (h:=rdO b p::rest) [0] (by simp) (HL (n:=1) ha) (bV rfl (bA _ _ _) aU)).mono ?_
 rintro x h ⟨x0,h0,⟨e,q,rfl,rfl,hq⟩,hl,rfl,rfl⟩
 have hp:∀σ,iL σ (bs 4 (exR e.kids))=bs 4 (exR e.kids):=λσ=>by
  unfold bs
  split
  ·rfl
  ·simp only[iL]
   rw[ZR (g:=id) λx hx=>dv _ x (dK _ x hx)];simp
 have hp2:∀σ,iL σ (rdO b q)=rdO b q:=λσ=>by simp[rdO,iL,bm,ren]
 refine⟨e,q,?_,?_,hq⟩
 ·simp[Dl,ren,bm]
 ·have hl2:([rdO b q,bs 4 (exR e.kids)]:List AO).length-[rdO b p].length=1:=rfl
  rw[hl2]
  simp only[ZO,aay,aao,List.take_succ_cons,List.take_zero,ZT,aaz,hp2,List.drop_succ_cons,List.drop_zero,mrg,List.set_cons_zero,aac,hp]
def LfQ(p:Nat)(v:AV)(q:Nat):Prop:=(∃(o n:Int) (s:List UInt8),v= .agg [.p (.int .i64 o),.p (.int .i64 n),.p (.str s),.nils]/\s.length<=8)/\p<=q/\q<=p+2
theorem Np{b:List Int}(hb:Byt b)(hl:b.length<=2000){p:Nat}(hp:p<=1000000000000)(names:List (List UInt8))(hn:AF names):AC Tryz.prog G eq [.ptr 0 2 0 0,.p (au names)] [rdO b p] λx h=>∃v q,x= .ret v/\h=[rdO b q]/\LfQ p v q:=by
 refine nM G (AC.go tQ ?_)
 have hsl:au names= .lst 1 (names.map λw=>[.str w]):=rfl
 have fin1:∀(o n:Int) (s:List UInt8) (q:Nat) (rest:List AO),p<=q->q<=p+2->s.length<=8->DP b (LfQ p) (.ret (.agg [.p (.int .i64 o),.p (.int .i64 n),.p (.str s),.nils])) (rdO b q::rest):=λo n s q rest h1 h2 hs=>
  ⟨_,rest,q,_,rfl,rfl,ig (by simp),⟨o,n,s,rfl,hs⟩,h1,h2⟩
 have num:∀(q:Nat) (h:List AO),q<=1000000000001->h[0]?=some (rdO b q)->h[2]?=some (jb [0,1,2,3,5,7,15,16,100,255])->_:=λq h hq h0 h1=>lO G hb hl (p:=q) (by omega) [0,1,2,3,5,7,15,16,100,255] (h:=h) (k:=2) (by simp) (by simp) (by omega) h0 h1
 by_cases hne:names=[]
 ·subst hne
  have hs0:au []= .lst 1 []:=rfl
  simp-implicitDefEqProofs[ib,hs0]
  refine(num p _ (by omega) rfl rfl).mono ?_
  rintro r h ⟨n,_,rfl,rfl⟩
  simp-implicitDefEqProofs[aa]
  exact fin1 _ _ _ _ _ (by omega) (by omega) (by simp)
 ·have hlen:¬names.length=0:=λh=>hne (aat h)
  simp-implicitDefEqProofs[ib,hsl,hne]
  refine(aR G b hb hl p (by omega) 3 _).mono ?_
  rintro r h ⟨k,rfl,rfl,_⟩
  simp-implicitDefEqProofs[aa]
  refine aT (λhc=>?_) (λhc=>?_)
  ·simp-implicitDefEqProofs[]
   refine(num (p+1) _ (by omega) rfl rfl).mono ?_
   rintro r h ⟨n,_,rfl,rfl⟩
   simp-implicitDefEqProofs[aa]
   exact fin1 _ _ _ _ _ (by omega) (by omega) (by simp)
  ·simp-implicitDefEqProofs[]
   rw[←hsl]
   refine(Lu G hb hl (by omega) names hne (by have:=hn.1;omega) _).mono ?_
   rintro r h ⟨s,hs,rfl,rfl⟩
   have:=hn.2 s hs
   simp-implicitDefEqProofs[aa]
   exact fin1 _ _ _ _ _ (by omega) (by omega) this
theorem Ng{b:List Int}(hb:Byt b)(hl:b.length<=2000)(names:List (List UInt8))(hn:AF names)(d:Nat)(hd:d+1<=20){p:Nat}(hp:p+6*3^(d+1)<=1000000000000):AC Tryz.prog G bg [.ptr 0 2 0 0,.p (au names),.p (.int .i64 ((d+1:Nat):Int))] [rdO b p] (EN b (EoQ p (10*3^(d+1)) (6*3^(d+1)))):=by
 have hpow:3^(d+1)=3*3^d:=by rw[Nat.pow_succ];omega
 have h1p:1<=3^d:=Nat.one_le_pow _ _ (by omega)
 have ih:=λ{p:Nat} (hp:p+6*3^d<=1000000000000)=>Ca G hb hl names hn d (by omega) (p:=p) hp
 rw[hpow] at hp⊢
 generalize 3^d=t at*
 have hw:IntKind.i64.wrap (d:Int)=(d:Int):=ae (by omega) (by omega)
 have leaf:∀(q:Nat) (rest:List AO),p<=q->q<=p+3->AC Tryz.prog G eq [.ptr 0 2 0 0,.p (au names)] (rdO b q::rest) λx h=>∃v q',x= .ret v/\h=rdO b q'::rest/\LfQ q v q':=λq rest _ _=>jE G (Np G hb hl (by omega) names hn) rest (by simp[below])
 have sub:∀(q:Nat) (rest:List AO),p<=q->q<=p+6+6*t->AC Tryz.prog G bg [.ptr 0 2 0 0,.p (au names),.p (.int .i64 d)] (rdO b q::rest) λx h=>∃v q',x= .ret v/\h=rdO b q'::rest/\ExQ q (10*t) (6*t) v q':=λq rest _ _=>jE G (ih (by omega)) rest (by simp[below])
 refine Hr G (AC.go oH ?_)
 have leafCase:∀(o n:Int) (s:List UInt8) (q:Nat) (rest:List AO),s.length<=8->p<=q->q<=p+5->DT b (EoQ p (10*(3*t)) (6*(3*t))) (.ret (.agg [.p (.int .i64 o),.p (.int .i64 n),.p (.str s),.nils])) (rdO b q::rest):=λo n s q rest h1 h2 h3=>
  ⟨⟨o,n,s,[]⟩,q,rest,_,rfl,rfl,.inl ⟨rfl,rfl⟩,by simp[Ex.sz,bj];omega,h2,by omega⟩
 have top:∀(kids:List Ex) (h:List AO) (k:Nat),h[k+1]?=some (.row 4 (exR kids))->kids≠[]->SV h kids (.sl (k+1) 4 0 kids.length):=λkids h k hk hne=>
  .inr ⟨k,exR kids,List.replicate h.length .dead,rfl,hne,hk,by simp,λi o e l=>(by rw[List.getElem?_replicate] at e;split at e<;>cases e;exact l.elim),λ⟨o,e,l⟩=>(by rw[List.getElem?_replicate] at e;split at e<;>cases e;exact l.elim),λ⟨o,e,l⟩=>(by rw[List.getElem?_replicate] at e;split at e<;>cases e;exact l.elim),by simp[exR],λj e e1 h1 h2=>(by rw[h1] at h2;cases h2;exact ig (aL (Nat.zero_le _) _ (dK _ e (Zy h1))))⟩
 have bin:∀(o:Int) (e1 e2:Ex) (q:Nat) (rest:List AO) (k:Nat),(rdO b q::rest)[k+1]?=some (.row 4 [e1.cs.map .p,e2.cs.map .p])->e1.sz<=10*t->e2.sz<=10*t->p<=q->q<=p+6*(3*t)->DT b (EoQ p (10*(3*t)) (6*(3*t))) (.ret (.agg [.p (.int .i64 o),.p (.int .i64 0),.p (.str []),.sl (k+1) 4 0 2])) (rdO b q::rest):=λo e1 e2 q rest k hk h1 h2 h3 h4=>
  ⟨⟨o,0,[],[e1,e2]⟩,q,rest,_,rfl,rfl,top [e1,e2] _ k hk (by simp),by simp[Ex.sz,bj];omega,h3,h4⟩
 have una:∀(o:Int) (e1:Ex) (q:Nat) (rest:List AO) (k:Nat),(rdO b q::rest)[k+1]?=some (.row 4 [e1.cs.map .p])->e1.sz<=10*t->p<=q->q<=p+6*(3*t)->DT b (EoQ p (10*(3*t)) (6*(3*t))) (.ret (.agg [.p (.int .i64 o),.p (.int .i64 0),.p (.str []),.sl (k+1) 4 0 1])) (rdO b q::rest):=λo e1 q rest k hk h1 h3 h4=>
  ⟨⟨o,0,[],[e1]⟩,q,rest,_,rfl,rfl,top [e1] _ k hk (by simp),by simp[Ex.sz,bj];omega,h3,h4⟩
 by_cases hd0:d=0
 ·subst hd0
  simp-implicitDefEqProofs[fG]
  refine(leaf p _ (by omega) (by omega)).mono ?_
  rintro r h ⟨v,q,rfl,rfl,⟨o,n,s,rfl,he⟩,h1,h2⟩
  simp-implicitDefEqProofs[aa]
  exact leafCase o n s q _ he (by omega) (by omega)
 have hd2:¬(d:Int)+1<2:=by omega
 simp-implicitDefEqProofs[fG,hd2]
 refine(aR G b hb hl p (by omega) 4 _).mono ?_
 rintro r h ⟨k1,rfl,rfl,_⟩
 simp-implicitDefEqProofs[aa]
 refine aT (λhc=>?_) (λhc=>?_)
 ·simp-implicitDefEqProofs[]
  refine(leaf (p+1) _ (by omega) (by omega)).mono ?_
  rintro r h ⟨v,q,rfl,rfl,⟨o,n,s,rfl,he⟩,h1,h2⟩
  simp-implicitDefEqProofs[aa]
  exact leafCase o n s q _ he (by omega) (by omega)
 simp-implicitDefEqProofs[]
 refine(aR G b hb hl (p+1) (by omega) 7 _).mono ?_
 rintro r h ⟨k2,rfl,rfl,_⟩
 simp-implicitDefEqProofs[aa]
 refine aT (λhc=>?_) (λhc=>?_)
 ·simp-implicitDefEqProofs[]
  refine(lO G hb hl (p:=p+2) (by omega) [11,12,11] (k:=2) (by simp) (by simp) (by omega) rfl rfl).mono ?_
  rintro r h ⟨n,_,rfl,rfl⟩
  simp-implicitDefEqProofs[aa,hw]
  refine(sub (p+3) _ (by omega) (by omega)).mono ?_
  rintro r h ⟨v,q,rfl,rfl,⟨e,rfl,he⟩,h1,h2⟩
  have hec:=e.cs_eq
  simp-implicitDefEqProofs[aa,hec]
  exact una n e q _ 2 (by rw[hec];rfl) he (by omega) (by omega)
 ·simp-implicitDefEqProofs[]
  refine(lO G hb hl (p:=p+2) (by omega) [3,3,4,5,6,7,8,9,10] (k:=2) (by simp) (by simp) (by omega) rfl rfl).mono ?_
  rintro r h ⟨n,_,rfl,rfl⟩
  simp-implicitDefEqProofs[aa,hw]
  refine(sub (p+3) _ (by omega) (by omega)).mono ?_
  rintro r h ⟨v,q,rfl,rfl,⟨e,rfl,he⟩,h1,h2⟩
  have hec:=e.cs_eq
  simp-implicitDefEqProofs[aa,hec,hw]
  refine(sub q _ (by omega) (by omega)).mono ?_
  rintro r h ⟨v,q2,rfl,rfl,⟨e2,rfl,he2⟩,h3,h4⟩
  have hec2:=e2.cs_eq
  simp-implicitDefEqProofs[aa,hec2]
  exact bin n e e2 q2 _ 2 (by rw[hec,hec2];rfl) he he2 (by omega) (by omega)
end
section
variable (G:am)
theorem Xd{h:List AO}{kids:List Ex}{id:Nat}(he:h[id+1]?=some (bs 4 (exR kids))):SV h kids (slE (id+1) 4 (exR kids)):=by
 by_cases hk:kids=[]
 ·subst hk;exact .inl ⟨rfl,rfl⟩
 ·have hr:exR kids≠[]:=λh=>hk (List.map_eq_nil_iff.1 h)
  rw[eL hr] at he
  rw[dA hr]
  have hrl:(exR kids).length=kids.length:=by simp[exR]
  rw[hrl]
  exact .inr ⟨id,exR kids,List.replicate h.length .dead,rfl,hk,he,by simp,λi o e l=>(by rw[List.getElem?_replicate] at e;split at e<;>cases e;exact l.elim),λ⟨o,e,l⟩=>(by rw[List.getElem?_replicate] at e;split at e<;>cases e;exact l.elim),λ⟨o,e,l⟩=>(by rw[List.getElem?_replicate] at e;split at e<;>cases e;exact l.elim),by simp[exR],λj e e1 h1 h2=>(by rw[h1] at h2;cases h2;exact ig (aL (Nat.zero_le _) _ (dK _ e (Zy h1))))⟩
theorem Um(l:List Ex)(n:Nat):okO n (bs 4 (exR l)):=ce (Rl (dK l))
theorem QG{hF:List AO}{n id:Nat}{e:Ex}(he:hF[id]?=some (bs 4 (exR e.kids))):Fzs hF n [.p (.int .i64 e.op),.p (.int .i64 e.n),.p (.str e.name),slE id 4 (exR e.kids)] (e.cs.map .p):=by
 rw[e.cs_eq]
 exact .keep (by simp) (.keep (by simp) (.keep (by simp) (.one (ji he) .nil)))
structure KdS where (k:Nat) (es:List Ex) (q:Nat)
theorem GL{b:List Int}(hb:Byt b)(hl:b.length<=2000){d:Nat}(hd:d+1<=7){p:Nat}(hp:p+20000<=1000000000000):AC Tryz.prog G jL [.ptr 0 2 0 0,.p (.int .i64 ((d+1:Nat):Int))] [rdO b p] (EN b (EoQ p 30000 20000)):=by
 refine Hr G (AC.go FI ?_)
 have h3:3^(d+1)<=2187:=by
  have:3^(d+1)<=3^7:=Nat.pow_le_pow_right (by omega) hd
  omega
 have fin:∀(e:Ex) (q:Nat) (rest:List AO) (K:AV),SV (rdO b q::rest) e.kids K->e.sz<=30000->p<=q->q<=p+20000->DT b (EoQ p 30000 20000) (.ret (.agg [.p (.int .i64 e.op),.p (.int .i64 e.n),.p (.str e.name),K])) (rdO b q::rest):=λe q rest K hk h1 h2 h3=>
  ⟨e,q,rest,K,rfl,rfl,hk,h1,h2,h3⟩
 have hn4:AF [[97],[98],[120],[103,111]]:=⟨by simp,by simp⟩
 have hn2:AF [[97],[98]]:=⟨by simp,by simp⟩
 simp-implicitDefEqProofs[zj]
 refine(AC.give (hX:=[.dead,.dead,fV [[97],[98],[120],[103,111]]]) (hR:=[rdO b p,.row 4 [[.p (.int .i64 0),.p (.int .i64 0),.p (.str []),.nils]],.dead]) (pargs:=[.ptr 0 2 0 0,.p (au [[97],[98],[120],[103,111]]),.p (.int .i64 ((d+1:Nat):Int))]) (.keep _ (.keep _ (.give _ .nil))) (.keep (by simp[below]) (.one (fJ (l:=[[97],[98],[120],[103,111]]) rfl) (.keep (by simp) .nil))) (BZ G (Ng G hb hl _ hn4 d (by omega) (by omega)) _ (by simp[below]))).mono ?_
 rintro r h ⟨e0,q,rfl,rfl,he0,h1,h2⟩
 simp-implicitDefEqProofs[aa]
 refine(aR G b hb hl q (by omega) 3 _).mono ?_
 rintro r h ⟨k1,rfl,rfl,_⟩
 simp-implicitDefEqProofs[aa]
 refine aT (λhc=>?_) (λhc=>?_)
 ·simp-implicitDefEqProofs[]
  exact fin e0 _ _ _ (Xd rfl) (by omega) (by omega) (by omega)
 simp-implicitDefEqProofs[]
 refine(Jq G hb hl (p:=q+1) (by omega) [[102],[103],[97]] (k:=5) (by simp) (by simp) (by omega) rfl rfl).mono ?_
 rintro r h ⟨s,hs,rfl,rfl⟩
 have hsl:s.length<=8:=by simp at hs;rcases hs with rfl|rfl|rfl<;>simp
 simp-implicitDefEqProofs[aa]
 refine(aR G b hb hl (q+1+1) (by omega) 4 _).mono ?_
 rintro r h ⟨k2,rfl,rfl,hk2⟩
 simp-implicitDefEqProofs[aa]
 have hexn:∀(es:List Ex) (e:Ex),exR (es++[e])=exR es++[e.cs.map .p]:=λes e=>by simp[exR]
 refine aI (λs:KdS=>ah 42 [(7,.p (.int .i64 s.k)),(6,.ptr 6 4 0 0),(5,.ptr 4 4 0 0),(4,.ptr 1 4 0 0),(0,.ptr 0 2 0 0)])
  (λa=>[rdO b a.q,.row 4 [[.p (.int .i64 0),.p (.int .i64 0),.p (.str []),.nils]],.dead,bs 4 (exR e0.kids),.row 4 [[.p (.int .i64 e0.op),.p (.int .i64 e0.n),.p (.str e0.name),slE 3 4 (exR e0.kids)]],.row 1 [[.p (.str [102])],[.p (.str [103])],[.p (.str [97])]],
    .row 4 [[.p (.int .i64 13),.p (.int .i64 0),.p (.str s),slE 7 4 (exR a.es)]],bs 4 (exR a.es)])
  (λa=>a.k+a.es.length<=3/\bj a.es<=90*a.es.length/\q<=a.q/\a.q<=q+3+54*a.es.length) (λa=>a.k) ⟨k2,[],q+1+1+1⟩ ⟨by simp only[aay];omega,by simp[bj],by simp only;omega,by simp⟩
  (kZ (by simp) (by simp) (by
    intro o h
    simp only[ZI,aaa,or_false] at h
    rcases h with rfl|rfl|rfl|rfl|rfl|rfl|rfl
    ·exact bA _ _ _
    ·simp[okO,below]
    ·simp[okO]
    ·exact Um _ _
    ·simp[okO,below]
    ·simp[okO,below]
    ·simp[okO,below]) (by simp[below])) ?_
 rintro⟨k,es,q1⟩ ⟨i1,i2,i3,i4⟩
 simp only at i1 i2 i3 i4
 have hxl:(exR es).length=es.length:=by simp[exR]
 simp-implicitDefEqProofs[]
 refine aT (λhc=>?_) (λhc=>?_)
 ·simp at hc
  simp-implicitDefEqProofs[]
  have hE:=jE G (Ca G hb hl _ hn2 2 (by omega) (p:=q1) (by omega)) ([.row 4 [[.p (.int .i64 0),.p (.int .i64 0),.p (.str []),.nils]],.dead,bs 4 (exR e0.kids),.row 4 [[.p (.int .i64 e0.op),.p (.int .i64 e0.n),.p (.str e0.name),slE 3 4 (exR e0.kids)]],.row 1 [[.p (.str [102])],[.p (.str [103])],[.p (.str [97])]],
   .row 4 [[.p (.int .i64 13),.p (.int .i64 0),.p (.str s),slE 7 4 (exR es)]],bs 4 (exR es)]) (by simp[below])
  refine hE.mono ?_
  rintro r h ⟨v,q2,rfl,rfl,⟨e,rfl,he⟩,hq1,hq2⟩
  have hec':=e.cs_eq
  simp-implicitDefEqProofs[aa,hec']
  refine⟨by rw[hxl];omega,⟨k-1,es++[e],q2⟩,⟨by simp;omega,by rw[fW];simp[bj];omega,by simp only;omega,by simp;omega⟩,by simp;omega,?_⟩
  have hwk:IntKind.i64.wrap ((k:Int)-1)=((k-1:Nat):Int):=by rw[ae (by omega) (by omega)];omega
  rw[hexn,tf _ (by simp),pw _ (by simp),hec']
  refine ck [0,1,2,3,4,5,6,8] (by simp) (by decide) (by decide) (bV rfl (bA _ _ _) (bN (by simp[below]) (by simp[ren,bm]) (fQ (by simp) (Sv rfl (dK _) (bN (by simp[below]) (by simp[ren,bm]) (az rfl (by simp[below]) (bN (by simp[below]) (by simp[ren,bm]) (az rfl (λx hx=>by
   rcases ZB.1 hx with h|h
   ·exact dK _ x h
   ·rw[ZC.1 h];simp) aU)))))))) ?_
  simp[below,ren,hwk]
 ·simp at hc
  simp-implicitDefEqProofs[]
  refine(aR G b hb hl q1 (by omega) 2 _).mono ?_
  rintro r h ⟨k3,rfl,rfl,_⟩
  simp-implicitDefEqProofs[aa]
  refine aT (λhc2=>?_) (λhc2=>?_)
  ·simp-implicitDefEqProofs[]
   exact fin ⟨13,0,s,es⟩ (q1+1) _ _ (Xd rfl) (by simp[Ex.sz];omega) (by omega) (by omega)
  ·simp-implicitDefEqProofs[]
   have hv:∀hF:List AO,hF[3]?=some (bs 4 (exR e0.kids))->hF[7]?=some (bs 4 (exR es))->∀(n j:Nat) (x x1:List AV),[[AV.p (.int .i64 e0.op),.p (.int .i64 e0.n),.p (.str e0.name),slE 3 4 (exR e0.kids)],[.p (.int .i64 13),.p (.int .i64 0),.p (.str s),slE 7 4 (exR es)]][j]?=some x->(exR [e0,⟨13,0,s,es⟩])[j]?=some x1->Fzs hF n x x1:=by
    intro hF h3 h7 n j x x1 a1 a2
    match j,a1,a2 with
    |0,a1,a2=>cases a1;cases a2;exact QG h3
    |1,a1,a2=>cases a1;cases a2;exact QG (e:=⟨13,0,s,es⟩) h7
    |j+2,a1,a2=>simp at a1
   refine fin ⟨3,0,[],[e0,⟨13,0,s,es⟩]⟩ (q1+1) _ _ (.inr ⟨7,_,[.dead,.dead,.dead,bs 4 (exR e0.kids),.dead,.dead,.dead,bs 4 (exR es),.dead],rfl,by simp[Ex.kids],rfl,rfl,λi o e l=>?_,λ⟨o,e,l⟩=>?_,λ⟨o,e,l⟩=>?_,rfl,hv _ rfl rfl _⟩) (by simp[Ex.sz,bj];omega) (by omega) (by omega)
   ·match i,e with
    |0,e=>cases e;exact l.elim
    |1,e=>cases e;exact l.elim
    |2,e=>cases e;exact l.elim
    |3,e=>exact e
    |4,e=>cases e;exact l.elim
    |5,e=>cases e;exact l.elim
    |6,e=>cases e;exact l.elim
    |7,e=>exact e
    |8,e=>cases e;exact l.elim
    |i+9,e=>simp at e
   ·cases e;exact l
   ·cases e;exact l
theorem PB{b:List Int}(hb:Byt b)(hl:b.length<=2000){p:Nat}(hp:p+50000<=1000000000000):AC Tryz.prog G nZ [.ptr 0 2 0 0] [rdO b p] λx h=>∃v q,x= .ret v/\h=[rdO b q]/\ExQ p 60000 50000 v q:=by
 refine nM G (AC.go EB ?_)
 have fin:∀(e:Ex) (q:Nat) (rest:List AO) (v:AV),Fzs (.dead::rest) 1 [v] [.agg (e.cs.map .p)]->e.sz<=60000->p<=q->q<=p+50000->DP b (ExQ p 60000 50000) (.ret v) (rdO b q::rest):=λe q rest v hz h1 h2 h3=>
  ⟨_,rest,q,.agg (e.cs.map .p),rfl,rfl,hz,⟨e,rfl,h1⟩,h2,h3⟩
 simp-implicitDefEqProofs[uu]
 refine(BZ G (GL G hb hl (d:=3) (by omega) (by omega)) _ (by simp[below])).mono ?_
 rintro r h ⟨e0,q,rfl,rfl,he0,h1,h2⟩
 have hsz:=e0.sz_eq
 have hkl:=aZ e0.kids
 have hrl:(exR e0.kids).length=e0.kids.length:=by simp[exR]
 simp-implicitDefEqProofs[aa]
 refine(aR G b hb hl q (by omega) 20 _).mono ?_
 rintro r h ⟨k1,rfl,rfl,_⟩
 by_cases k10:k1=0
 ·subst k10
  simp-implicitDefEqProofs[aa]
  refine(lO G hb hl (p:=q+1) (by omega) [-1,256,3] (k:=4) (by simp) (by simp) (by omega) rfl rfl).mono ?_
  rintro r h ⟨n,_,rfl,rfl⟩
  simp-implicitDefEqProofs[aa]
  exact fin ⟨e0.op,n,e0.name,e0.kids⟩ _ _ _ (Fs (ji rfl)) (by simp[Ex.sz];omega) (by omega) (by omega)
 by_cases k11:k1=1
 ·subst k11
  simp-implicitDefEqProofs[aa]
  refine(Jq G hb hl (p:=q+1) (by omega) [[],[100,111],[65],[97,98,99,100,101],[113]] (k:=4) (by simp) (by simp) (by omega) rfl rfl).mono ?_
  rintro r h ⟨s,hs,rfl,rfl⟩
  have hsl:s.length<=8:=by simp at hs;rcases hs with rfl|rfl|rfl|rfl|rfl<;>simp
  simp-implicitDefEqProofs[aa]
  exact fin ⟨e0.op,e0.n,s,e0.kids⟩ _ _ _ (Fs (ji rfl)) (by simp[Ex.sz];omega) (by omega) (by omega)
 by_cases k12:k1=2
 ·subst k12
  simp-implicitDefEqProofs[aa]
  refine(lO G hb hl (p:=q+1) (by omega) [0,14,-1,5,11] (k:=4) (by simp) (by simp) (by omega) rfl rfl).mono ?_
  rintro r h ⟨n,_,rfl,rfl⟩
  simp-implicitDefEqProofs[aa]
  exact fin ⟨n,e0.n,e0.name,e0.kids⟩ _ _ _ (Fs (ji rfl)) (by simp[Ex.sz];omega) (by omega) (by omega)
 by_cases k13:k1=3
 ·subst k13
  simp-implicitDefEqProofs[aa]
  refine(AC.give (pargs:=[.ptr 0 2 0 0,.p (au [])]) (Spl.rest _) (.keep (by simp[below]) (.one (View.nils 1) .nil)) (jE G (CA G hb hl (p:=q+1) (by omega) [] ⟨by simp,by simp⟩) _ (by simp[below]))).mono ?_
  rintro r h ⟨v,q2,rfl,rfl,⟨e1,rfl,he1⟩,h3,h4⟩
  have hec1:=e1.cs_eq
  have hx:exR (e0.kids++[e1])=exR e0.kids++[[.p (.int .i64 e1.op),.p (.int .i64 e1.n),.p (.str e1.name),.p (exL e1.kids)]]:=by simp[exR,hec1]
  have hne:exR (e0.kids++[e1])≠[]:=by simp[exR]
  simp-implicitDefEqProofs[aa,hec1]
  refine⟨by omega,?_⟩
  rw[←hx]
  have hl2:(exR e0.kids).length+1=(exR (e0.kids++[e1])).length:=by simp[exR]
  have hv:∀h:List AO,h[4]?=some (.row 4 (exR (e0.kids++[e1])))->View h (.sl 4 4 0 ((exR e0.kids).length+1)) (exL (e0.kids++[e1])):=λh e=>by
   have:=ji (h:=h) (id:=4) (l:=e0.kids++[e1]) (by rw[eL hne];exact e)
   rwa[dA hne,←hl2] at this
  exact fin ⟨e0.op,e0.n,e0.name,e0.kids++[e1]⟩ q2 _ _ (Fs (hv _ rfl)) (by simp[Ex.sz,fW,bj];omega) (by omega) (by omega)
 by_cases k14:k1=4
 ·subst k14
  simp-implicitDefEqProofs[aa]
  refine(BZ G (GL G hb hl (d:=6) (by omega) (by omega)) _ (by simp[below])).mono ?_
  rintro r h ⟨e1,q2,rfl,rfl,he1,h3,h4⟩
  simp-implicitDefEqProofs[aa]
  have hs1:=e1.sz_eq
  exact fin ⟨e1.op,e1.n,e1.name,e1.kids⟩ _ _ _ (Fs (ji rfl)) (by simp[Ex.sz];omega) (by omega) (by omega)
 have c1:¬(k1:Int)=1:=by omega
 have c2:¬(k1:Int)=2:=by omega
 have c3:¬(k1:Int)=3:=by omega
 have c4:¬(k1:Int)=4:=by omega
 simp-implicitDefEqProofs[aa,k10,c1,c2,c3,c4]
 exact fin ⟨e0.op,e0.n,e0.name,e0.kids⟩ _ _ _ (Fs (ji rfl)) (by simp[Ex.sz];omega) (by omega) (by omega)
end
section
variable (G:am)
def PgQ(p n m:Nat)(v:AV)(q:Nat):Prop:=(∃l:List Fd,v= .agg [.p (fdL l)]/\aH l<=n)/\p<=q/\q<=p+m
theorem ER{h:List AO}{id sz:Nat}{rows:List (List AV)}{es:List (List PV)}(he:h[id]?=some (.row sz rows))(hl:rows.length=es.length)(hs:∀e∈es,e.length=sz)(hv:∀(i j:Nat) (e:List PV) (q:PV) (e':List AV) (a:AV),es[i]?=some e->e[j]?=some q->rows[i]?=some e'->e'[j]?=some a->View h a q){n:Nat}(hn:n=es.length):View h (.sl id sz 0 n) (.lst sz es):=by
 subst hn
 exact .sl id sz 0 rows es he (by omega) hs λi j e q e' a a1 a2 a3 a4=>hv i j e q e' a a1 a2 (by rwa[aao] at a3) a4
theorem uG{h:List AO}{e:List PV}{j:Nat}{q:PV}{a:AV}(h1:e[j]?=some q)(h2:(e.map AV.p)[j]?=some a):View h a q:=by
 rw[ZK,h1] at h2;cases h2;exact .p _
theorem Mn{h:List AO}{id k:Nat}{l:List Fd}{f:Fd}{P B:AV}(he:h[id]?=some (.row 3 ((aG l).set k [.p (.str f.name),P,B])))(hk:k<l.length)(hP:View h P (au f.params))(hB:View h B (smL f.body)){n:Nat}(hn:n=l.length):View h (.sl id 3 0 n) (fdL (l.set k f)):=by
 refine ER (es:=(l.set k f).map Fd.cs) he (by simp[aG]) (λe he=>by obtain⟨x,_,rfl⟩:=ZN.1 he;simp) (λi j e q e' a a1 a2 a3 a4=>?_) (by simpa using hn)
 rw[ZK] at a1
 by_cases hik:k=i
 ·subst hik
  rw[ZJ hk] at a1
  rw[ZJ (by simpa[aG] using hk)] at a3
  cases a1;cases a3
  exact Dt (s:=f.name) (ps:=f.params) (bd:=f.body) hP hB j q a a2 a4
 ·rw[Zx hik] at a1 a3
  obtain⟨g,g1,g2⟩:=Zw.1 a1
  subst g2
  rw[aG,ZK,g1] at a3
  cases a3
  exact uG a2 a4
theorem Mo{h:List AO}{id:Nat}{l:List (List UInt8)}{s:List UInt8}(he:h[id]?=some (.row 1 (List.take l.length (l.map λw=>[AV.p (.str w)])++[[.p (.str s)]]))):View h (.sl id 1 0 (l.length+1)) (au (l++[s])):=by
 have e:h[id]?=some (fV (l++[s])):=by rw[he,Zz (by simp)];simp[fV]
 have:=fJ e
 rwa[ZM,List.length_singleton] at this
theorem zI{h:List AO}{id:Nat}{l:List Sm}{s:Sm}{r:List AV}(he:h[id]?=some (.row 5 (List.take l.length (smR l)++[r])))(hr:∀(j:Nat) (q:PV) (a:AV),s.cs[j]?=some q->r[j]?=some a->View h a q):View h (.sl id 5 0 (l.length+1)) (smL (l++[s])):=by
 have hl:=ed l
 refine ER (es:=(l++[s]).map Sm.cs) he (by simp[hl]) (λe he=>by obtain⟨x,_,rfl⟩:=ZN.1 he;simp) (λi j e q e' a a1 a2 a3 a4=>?_) (by simp)
 rw[Zz (by omega)] at a3
 rw[List.map_append] at a1
 rcases aaj i l.length with hi|hi
 ·rw[Zv (by simpa using hi)] at a1
  rw[Zv (by omega)] at a3
  rw[ZK] at a1
  obtain⟨g,g1,g2⟩:=Zw.1 a1
  subst g2
  rw[smR,ZK,g1] at a3
  cases a3
  exact uG a2 a4
 ·rw[ZG (by simpa using hi)] at a1
  rw[ZG (by omega),hl] at a3
  simp only[ZU] at a1
  generalize i-l.length=k at a1 a3
  cases k with
  |zero=>cases a1;cases a3;exact hr j q a a2 a4
  |succ k=>simp at a1
theorem OW{h:List AO}{id:Nat}{l:List Fd}{f:Fd}(he:h[id]?=some (.row 3 (List.take l.length (aG l)++[f.cs.map .p]))):View h (.sl id 3 0 (l.length+1)) (fdL (l++[f])):=by
 have hl:=ng l
 have:=sO (h:=h) (id:=id) (l:=l++[f]) (by rw[he,Zz (by omega)];simp[aG])
 rwa[ZM,List.length_singleton] at this
theorem Ii(l:List Fd)(k:Nat)(f:Fd):aH (l.set k f)<=aH l+f.sz:=by
 by_cases hk:k<l.length
 ·rw[fD f hk]
  have e:l=l.take k++l.drop k:=(aab _ _).symm
  have e2:l.drop k=l[k]::l.drop (k+1):=aas hk
  have h1:aH l=aH (l.take k)+aH (l.drop k):=by rw[←kQ,←e]
  rw[kQ]
  have h3:aH (f::l.drop (k+1))=f.sz+aH (l.drop (k+1)):=by simp[aH]
  have h4:aH (l.drop k)=l[k].sz+aH (l.drop (k+1)):=by rw[e2];unfold aH;rw[ZT,List.sum_cons]
  omega
 ·rw[List.set_eq_of_length_le (by omega)];omega
theorem Fb{l:List Fd}{f:Fd}(h:f∈l):f.sz<=aH l:=by
 induction l with
 |nil=>cases h
 |cons x r ih=>
  have e:aH (x::r)=x.sz+aH r:=by simp[aH]
  rcases ZI.1 h with rfl|h
  ·omega
  ·have:=ih h;omega
theorem Es:AK.whole oC=FK.ak ox:=rfl
structure NsS where (i:Nat) (o:Int) (w:List UInt8) (A B C:PV) (q:Nat)
structure BdS where (i:Nat) (bd:List Sm)
structure CfS where (f:Fd) (q:Nat)
theorem Qt{b:List Int}(hb:Byt b)(hl:b.length<=2000){p:Nat}(hp:p<=10000000000):AC Tryz.prog G oh [.ptr 0 2 0 0] [rdO b p] λx h=>∃v q,x= .ret v/\h=[rdO b q]/\PgQ p 500000000 200200000 v q:=by
 refine nM G (AC.goK Eh Es ?_)
 have hprog:AC Tryz.prog G dr [.ptr 0 2 0 0] [rdO b p] λx h=>∃v q,x= .ret v/\h=[rdO b q]/\((∃l:List Fd,v= .agg [.p (fdL l)]/\bc l=true/\aH l<=200000000)/\p<=q/\q<=p+200000000):=
  (Kl G hb hl hp).mono λx h ⟨l,q,e1,e2,e3,e4,e5,e6⟩=>⟨_,q,e1,e2,⟨l,rfl,e3,e4⟩,e5,e6⟩
 simp-implicitDefEqProofs[oC,ox]
 refine(jE G hprog _ (by simp[below])).mono ?_
 rintro r h ⟨v,q,rfl,rfl,⟨l,rfl,hok,hz⟩,h1,h2⟩
 have hlen:=((dC l).1 hok).1
 obtain⟨n,hn⟩:∃n,l.length=n+1:=⟨l.length-1,by omega⟩
 have hnl:n<l.length:=by omega
 have hfz:=Fb (ZD hnl)
 obtain⟨f,hfe⟩:∃f,l[n]=f:=⟨_,rfl⟩
 rw[hfe] at hfz
 have hg:l[n]?=some f:=by rw[Zu hnl,hfe]
 have fin:∀(r1:List (Nat × AV)) (f':Fd) (q':Nat) (rest:List AO) (P B:AV),Aw.look r1 0= .ptr 0 2 0 0->Aw.look r1 2= .ptr 1 1 0 0->Aw.look r1 3= .ptr 2 1 0 0->Aw.look r1 4= .ptr 3 3 0 0->View (.dead:: .dead:: .dead:: .dead::rest) P (au f'.params)->View (.dead:: .dead:: .dead:: .dead::rest) B (smL f'.body)->f'.sz<=300000000->q<=q'->q'<=q+100000->
  ∃s:CfS,(s.f.sz<=300000000/\q<=s.q/\s.q<=q+100000)/\Wk 1 (ah 145 r1) (rdO b q':: .row 1 [[.nils]]:: .row 1 [[.p (.lst 3 (l.map Fd.cs))]]:: .row 3 [[.p (.str f'.name),P,B]]::rest) (ah 145 [(4,.ptr 3 3 0 0),(3,.ptr 2 1 0 0),(2,.ptr 1 1 0 0),(0,.ptr 0 2 0 0)])
   [rdO b s.q,.row 1 [[.nils]],.row 1 [[.p (.lst 3 (l.map Fd.cs))]],.row 3 [[.p (.str s.f.name),.p (au s.f.params),.p (smL s.f.body)]]]:=λr1 f' q' rest P B e0 e2 e3 e4 hP hB hz' h3 h4=>
  ⟨⟨f',q'⟩,⟨hz',h3,h4⟩,cV 4 (by omega) (by simp) rfl (.same (bA _ _ _) (.same (by simp[okO,below]) (.same (by simp[okO,below]) (.one (.keep (by simp[below]) (.one hP (.one hB .nil))) (.nil _))))) (by
    simp only[FzA,e0,e2,e3,e4]
    exact⟨.keep (by simp[below]) .nil,.keep (by simp[below]) .nil,.keep (by simp[below]) .nil,.keep (by simp[below]) .nil,trivial⟩)⟩
 have hfsz:f.sz=1+f.name.length+(f.params.length+(f.params.map List.length).sum)+an f.body:=rfl
 have hln:l.length<=4:=hlen.2
 have hbl:=bC f.body
 have hcs:f.cs=[.str f.name,au f.params,smL f.body]:=rfl
 have hfl:fdL l= .lst 3 (l.map Fd.cs):=rfl
 have hw:IntKind.i64.wrap ((l.length:Int)-1)=(n:Int):=by rw[ae (by omega) (by omega)];omega
 have hsl:au f.params= .lst 1 (f.params.map λw=>[.str w]):=rfl
 have hml:smL f.body= .lst 5 (f.body.map Sm.cs):=rfl
 simp-implicitDefEqProofs[aa,hfl,hw,hg,hcs]
 refine rh (λ_:CfS=>ah 145 [(4,.ptr 3 3 0 0),(3,.ptr 2 1 0 0),(2,.ptr 1 1 0 0),(0,.ptr 0 2 0 0)]) (λs=>[rdO b s.q,.row 1 [[.nils]],.row 1 [[.p (.lst 3 (l.map Fd.cs))]],.row 3 [[.p (.str s.f.name),.p (au s.f.params),.p (smL s.f.body)]]])
  (λs=>s.f.sz<=300000000/\q<=s.q/\s.q<=q+100000) ?_ ?_
 rotate_left
 ·rintro⟨f',q'⟩ ⟨h3,h4,h5⟩
  simp only at h3 h4 h5
  simp-implicitDefEqProofs[hw,hnl,hfe,hcs]
  exact⟨⟨by omega,by omega⟩,_,_,q',.agg [.p (fdL (l.set n f'))],rfl,rfl,.agg (.one (Mn (f:=f') rfl hnl (.p _) (.p _) rfl) .nil) .nil,⟨_,rfl,by have:=Ii l n f';omega⟩,by omega,by omega⟩
 simp-implicitDefEqProofs[]
 refine(aR G b hb hl q (by omega) 32 _).mono ?_
 rintro r h ⟨k,rfl,rfl,_⟩
 by_cases k0:k=0
 ·subst k0
  simp-implicitDefEqProofs[aa]
  refine(Jq G hb hl (p:=q+1) (by omega) [[102],[100,111],[],[103]] (k:=4) (by simp) (by simp) (by omega) rfl rfl).mono ?_
  rintro r h ⟨s,hs,rfl,rfl⟩
  have hs8:s.length<=8:=by simp at hs;rcases hs with rfl|rfl|rfl|rfl<;>simp
  simp-implicitDefEqProofs[aa]
  exact fin _ ⟨s,f.params,f.body⟩ _ _ _ _ (by simp) (by simp) (by simp) (by simp) (.p _) (.p _) (by simp only[Fd.sz];omega) (by omega) (by omega)
 by_cases k1:k=1
 ·subst k1
  simp-implicitDefEqProofs[aa,hsl]
  refine⟨⟨by omega,by omega⟩,?_⟩
  refine(Jq G hb hl (p:=q+1) (by omega) [[97],[120],[105,102]] (k:=6) (by simp) (by simp) (by omega) rfl rfl).mono ?_
  rintro r h ⟨s,hs,rfl,rfl⟩
  have hs8:s.length<=8:=by simp at hs;rcases hs with rfl|rfl|rfl<;>simp
  simp-implicitDefEqProofs[aa]
  refine⟨⟨by omega,by omega⟩,?_⟩
  exact fin _ ⟨f.name,f.params++[s],f.body⟩ _ _ _ _ (by simp) (by simp) (by simp) (by simp) (Mo rfl) (.p _) (by simp[Fd.sz];omega) (by omega) (by omega)
 by_cases k2:k=2
 ·subst k2
  simp-implicitDefEqProofs[aa,hml]
  refine⟨⟨by omega,by omega⟩,?_⟩
  refine(jE G (PB G hb hl (p:=q+1) (by omega)) _ (by simp[below])).mono ?_
  rintro r h ⟨v,q2,rfl,rfl,⟨e,rfl,he⟩,h3,h4⟩
  have hec:=e.cs_eq
  simp-implicitDefEqProofs[aa,hec]
  refine⟨⟨by omega,by omega⟩,?_⟩
  exact fin _ ⟨f.name,f.params,f.body++[⟨3,[],[e],[],[]⟩]⟩ _ _ _ _ (by simp) (by simp) (by simp) (by simp) (.p _) (zI rfl (cM (ft (l:=[e]) (by rw[aap,hec];rfl)) (View.nils 5) (View.nils 5))) (by simp[Fd.sz,bu,an,Sm.sz,bj];omega) (by omega) (by omega)
 by_cases k3:k=3
 ·subst k3
  simp-implicitDefEqProofs[aa,hml]
  refine⟨⟨by omega,by omega⟩,?_⟩
  refine(aR G b hb hl (q+1) (by omega) 10 _).mono ?_
  rintro r h ⟨o,rfl,rfl,_⟩
  simp-implicitDefEqProofs[aa]
  refine(Jq G hb hl (p:=q+1+1) (by omega) [[],[97],[122,122]] (k:=6) (by simp) (by simp) (by omega) rfl rfl).mono ?_
  rintro r h ⟨s,hs,rfl,rfl⟩
  have hs8:s.length<=8:=by simp at hs;rcases hs with rfl|rfl|rfl<;>simp
  simp-implicitDefEqProofs[aa]
  refine(BZ G (GL G hb hl (d:=1) (by omega) (p:=q+1+1+1) (by omega)) _ (by simp[below])).mono ?_
  rintro r h ⟨e,q2,rfl,rfl,he,h3,h4⟩
  simp-implicitDefEqProofs[aa]
  refine⟨⟨by omega,by omega⟩,?_⟩
  obtain⟨eo,en,es,ek⟩:=e
  exact fin _ ⟨f.name,f.params,f.body++[⟨o,s,[⟨eo,en,es,ek⟩],[],[]⟩]⟩ _ _ _ _ (by simp) (by simp) (by simp) (by simp) (.p _) (zI rfl (cM (bI (p0:=(Ex.mk eo en es ek).cs) rfl (Ex.cs_len _) (jk (ji rfl))) (View.nils 5) (View.nils 5))) (by simp[Fd.sz,bu,an,Sm.sz,bj];omega) (by omega) (by omega)
 by_cases k5:k=5
 ·subst k5
  simp-implicitDefEqProofs[aa]
  exact⟨_,_,q+1,.agg [.p (fdL [])],rfl,rfl,.agg (.one (View.nils 3) .nil) .nil,⟨[],rfl,by simp[aH]⟩,by omega,by omega⟩
 by_cases k7:k=7
 ·subst k7
  simp-implicitDefEqProofs[aa,hfl]
  have hl0:0<l.length:=by omega
  have hf0:=Fb (ZD hl0)
  obtain⟨f0,hg0,hf0⟩:∃f0,l[0]?=some f0/\f0.sz<=aH l:=⟨_,Zu hl0,hf0⟩
  have hc0:f0.cs=[.str f0.name,au f0.params,smL f0.body]:=rfl
  have hfa:aH (l++[f0])=aH l+f0.sz:=by rw[kQ];simp[aH]
  simp-implicitDefEqProofs[hg0,hc0]
  exact⟨⟨by omega,by omega⟩,⟨by omega,by omega⟩,_,_,q+1,.agg [.p (fdL (l++[f0]))],rfl,rfl,.agg (.one (OW rfl) .nil) .nil,⟨_,rfl,by omega⟩,by omega,by omega⟩
 by_cases k4:k=4
 ·subst k4
  simp-implicitDefEqProofs[aa]
  refine rh (λ_:NsS=>ah 145 [(5,.ptr 5 5 0 0),(4,.ptr 3 3 0 0),(3,.ptr 2 1 0 0),(2,.ptr 1 1 0 0),(0,.ptr 0 2 0 0)])
   (λa=>[rdO b a.q,.row 1 [[.nils]],.row 1 [[.p (.lst 3 (l.map Fd.cs))]],.row 3 [[.p (.str f.name),.p (au f.params),.p (smL f.body)]],.dead,.row 5 [[.p (.int .i64 a.o),.p (.str a.w),.p a.A,.p a.B,.p a.C]]])
   (λa=>(∃s:Sm,s.cs=[.int .i64 a.o,.str a.w,a.A,a.B,a.C]/\bj s.args<=1/\s.sz+2*a.i<=20)/\q+2<=a.q/\a.q+a.i<=q+10) ?_ ?_
  rotate_left
  ·rintro⟨i,o,w,A,B,C,q1⟩ ⟨⟨s,hse,j1,j2⟩,j3,j4⟩
   simp only at hse j1 j2 j3 j4
   have hss:∀(h:List AO) (id:Nat),h[id]?=some (.row 5 (List.take f.body.length (smR f.body)++[[.p (.int .i64 o),.p (.str w),.p A,.p B,.p C]]))->View h (.sl id 5 0 (f.body.length+1)) (smL (f.body++[s])):=λh id e=>zI e (λj q a a1 a2=>uG (e:=[.int .i64 o,.str w,A,B,C]) (hse▸a1) a2)
   simp-implicitDefEqProofs[hml]
   refine⟨⟨by omega,by omega⟩,⟨by omega,by omega⟩,?_⟩
   exact fin _ ⟨f.name,f.params,f.body++[s]⟩ _ _ _ _ (by simp) (by simp) (by simp) (by simp) (.p _) (hss _ _ rfl) (by simp[Fd.sz,bu,an];omega) (by omega) (by omega)
  simp-implicitDefEqProofs[]
  refine(aR G b hb hl (q+1) (by omega) 5 _).mono ?_
  rintro r h ⟨i0,rfl,rfl,hi0⟩
  simp-implicitDefEqProofs[aa]
  have hs0:(Sm.mk 6 [] [⟨1,0,[],[]⟩] [] []).cs=[.int .i64 6,.str [],exL [⟨1,0,[],[]⟩],smL [],smL []]:=Sm.cs_eq _
  refine aI (λa:NsS=>ah 145 [(6,.p (.int .i64 a.i)),(5,.ptr 5 5 0 0),(4,.ptr 3 3 0 0),(3,.ptr 2 1 0 0),(2,.ptr 1 1 0 0),(0,.ptr 0 2 0 0)])
   (λa=>[rdO b a.q,.row 1 [[.nils]],.row 1 [[.p (.lst 3 (l.map Fd.cs))]],.row 3 [[.p (.str f.name),.p (au f.params),.p (smL f.body)]],.dead,.row 5 [[.p (.int .i64 a.o),.p (.str a.w),.p a.A,.p a.B,.p a.C]]])
   (λa=>(∃s:Sm,s.cs=[.int .i64 a.o,.str a.w,a.A,a.B,a.C]/\bj s.args<=1/\s.sz+2*a.i<=20)/\q+2<=a.q/\a.q+a.i<=q+10) (λa=>a.i) ⟨i0,6,[],exL [⟨1,0,[],[]⟩],smL [],smL [],q+1+1⟩ ⟨⟨_,hs0,by simp[Sm.args,bj,Ex.sz],by simp[Sm.sz,bj,Ex.sz,an];omega⟩,by simp only;omega,by simp only;omega⟩ ?_ ?_
  ·refine rH (hX:=[.dead,.dead,.dead,.dead,.row 4 [[.p (.int .i64 1),.p (.int .i64 0),.p (.str []),.nils]],.dead]) (by simp)
    (.same (bA _ _ _) (.same (by simp[okO,below]) (.same (by simp[okO,below]) (.same (by simp[okO,below]) (.give (.one ?_ .nil)))))) ?_
   ·exact .keep (by simp[below]) (.keep (by simp[below]) (.one (bI (p0:=(Ex.mk 1 0 [] []).cs) rfl (Ex.cs_len _) (jk (View.nils 4))) (.one (View.nils 5) (.one (View.nils 5) .nil))))
   ·exact⟨.keep (by simp[below]) .nil,.keep (by simp[below]) .nil,.keep (by simp[below]) .nil,.keep (by simp[below]) .nil,.keep (by simp[below]) .nil,.keep (by simp[below]) .nil,trivial⟩
  rintro⟨i,o,w,A,B,C,q1⟩ ⟨⟨s,hse,j1,j2⟩,j3,j4⟩
  simp only at hse j1 j2 j3 j4
  have hcs1:∀n:Int,(Sm.mk n [] s.args [s] []).cs=[.int .i64 n,.str [],A,.lst 5 [[.int .i64 o,.str w,A,B,C]],.lst 5 []]:=λn=>by
   have hsa:=s.cs_eq
   rw[hse] at hsa
   simp only[List.cons.injEq] at hsa
   rw[Sm.cs_eq];simp only[Sm.op,Sm.name,Sm.args,Sm.body,Sm.els];rw[←hse,hsa.2.2.1];rfl
  have hsz:∀n:Int,(Sm.mk n [] s.args [s] []).sz=1+bj s.args+s.sz:=λn=>by simp[Sm.sz,an]
  simp-implicitDefEqProofs[]
  refine aT (λhc=>?_) (λhc=>?_)
  ·simp at hc
   simp-implicitDefEqProofs[]
   refine(FR G hb hl (p:=q1) (by omega) [5,6] (by simp) (by simp) _).mono ?_
   rintro r h ⟨n1,_,rfl,rfl⟩
   have hwk:IntKind.i64.wrap ((i:Int)-1)=((i-1:Nat):Int):=by rw[ae (by omega) (by omega)];omega
   simp-implicitDefEqProofs[aa]
   refine⟨⟨i-1,n1,[],A,.lst 5 [[.int .i64 o,.str w,A,B,C]],.lst 5 [],q1+1⟩,⟨⟨_,hcs1 n1,j1,by simp only[hsz];omega⟩,by simp only;omega,by simp only;omega⟩,by simp only;omega,?_⟩
   refine rH (hX:=[.dead,.dead,.dead,.dead,.dead,.dead]) (by simp) (.same (bA _ _ _) (.same (by simp[okO,below]) (.same (by simp[okO,below]) (.same (by simp[okO,below]) (.drop (.one (.keep (by simp[below]) (.keep (by simp[below]) (.keep (by simp[below]) (.keep (by simp[below]) (.one (View.nils 5) .nil))))) .nil)))))) ?_
   simp only[hwk]
   exact⟨.keep (by simp[below]) .nil,.keep (by simp[below]) .nil,.keep (by simp[below]) .nil,.keep (by simp[below]) .nil,.keep (by simp[below]) .nil,.keep (by simp[below]) .nil,trivial⟩
  ·simp at hc
   exact⟨⟨i,o,w,A,B,C,q1⟩,⟨⟨s,hse,j1,j2⟩,j3,j4⟩,jz (m:=6) (by simp) (fc rfl rfl (ag (bA _ _ _) (ag (by simp[okO,below]) (ag (by simp[okO,below]) (ag (by simp[okO,below]) (ag (by simp[okO]) (ag (by simp[okO,below]) dN))))))) (by simp[below])⟩
 by_cases k6:k=6
 ·subst k6
  simp-implicitDefEqProofs[aa]
  refine(lO G hb hl (p:=q+1) (by omega) [20,40,41] (k:=4) (by simp) (by simp) (by omega) rfl rfl).mono ?_
  rintro r h ⟨i0,hi0,rfl,rfl⟩
  obtain⟨i,rfl,hi⟩:∃J:Nat,i0=J/\J<=41:=⟨i0.toNat,by simp at hi0;omega,by simp at hi0;omega⟩
  simp-implicitDefEqProofs[aa]
  refine aI (λa:BdS=>ah 145 [(7,.p (.int .i64 a.i)),(4,.ptr 3 3 0 0),(3,.ptr 2 1 0 0),(2,.ptr 1 1 0 0),(0,.ptr 0 2 0 0)])
   (λa=>[rdO b (q+1+1),.row 1 [[.nils]],.row 1 [[.p (.lst 3 (l.map Fd.cs))]],.row 3 [[.p (.str f.name),.p (au f.params),.p (smL a.bd)]]])
   (λa=>a.i<=41/\an a.bd+10*a.i<=an f.body+500) (λa=>a.i) ⟨i,f.body⟩ ⟨hi,by simp only;omega⟩ ?_ ?_
  ·exact jz (m:=4) (by simp) (fc rfl rfl (ag (bA _ _ _) (ag (by simp[okO,below]) (ag (by simp[okO,below]) (ag (by simp[okO,below]) dN))))) (by simp[below])
  rintro⟨i1,bd⟩ ⟨j1,j2⟩
  simp only at j1 j2
  have hbl2:=bC bd
  have hml2:smL bd= .lst 5 (bd.map Sm.cs):=rfl
  simp-implicitDefEqProofs[hml2]
  refine aT (λhc=>?_) (λhc=>?_)
  ·simp at hc
   have hwk:IntKind.i64.wrap ((i1:Int)-1)=((i1-1:Nat):Int):=by rw[ae (by omega) (by omega)];omega
   simp-implicitDefEqProofs[hml2]
   refine⟨⟨by omega,by omega⟩,⟨by omega,by omega⟩,⟨i1-1,bd++[⟨3,[],[⟨1,i1,[],[]⟩],[],[]⟩]⟩,⟨by simp only;omega,by simp[bu,an,Sm.sz,bj,Ex.sz];omega⟩,by simp only;omega,?_⟩
   refine cV 4 (by omega) (by simp) rfl (.same (bA _ _ _) (.same (by simp[okO,below]) (.same (by simp[okO,below]) (.one (.keep (by simp[below]) (.keep (by simp[below]) (.one (zI rfl (cM (bI (p0:=(Ex.mk 1 i1 [] []).cs) rfl (Ex.cs_len _) (jk (View.nils 4))) (View.nils 5) (View.nils 5))) .nil))) (.nil _))))) ?_
   simp only[hwk]
   exact⟨.keep (by simp[below]) .nil,.keep (by simp[below]) .nil,.keep (by simp[below]) .nil,.keep (by simp[below]) .nil,.keep (by simp[below]) .nil,trivial⟩
  ·simp at hc
   exact fin _ ⟨f.name,f.params,bd⟩ _ _ _ _ (by simp) (by simp) (by simp) (by simp) (.p _) (.p _) (by simp[Fd.sz];omega) (by omega) (by omega)
 have c1:¬(k:Int)=1:=by omega
 have c2:¬(k:Int)=2:=by omega
 have c3:¬(k:Int)=3:=by omega
 have c4:¬(k:Int)=4:=by omega
 have c5:¬(k:Int)=5:=by omega
 have c6:¬(k:Int)=6:=by omega
 have c7:¬(k:Int)=7:=by omega
 simp-implicitDefEqProofs[aa,k0,c1,c2,c3,c4,c5,c6,c7]
 exact fin _ ⟨f.name,f.params,f.body⟩ _ _ _ _ (by simp) (by simp) (by simp) (by simp) (.p _) (.p _) (by simp only[Fd.sz];omega) (by omega) (by omega)
end
end Go.Proofs.YtokiapglmedipaaGreatDoor
