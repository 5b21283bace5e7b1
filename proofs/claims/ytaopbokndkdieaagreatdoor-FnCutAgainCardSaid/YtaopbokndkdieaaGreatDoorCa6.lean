/-
  Contracts and lemmas that the card needs, part 6.
-/
import Derived.Test.YtaopbokndkdieaaGreatDoorCa5
namespace Go.Proofs.YtaopbokndkdieaaGreatDoor
open Go Go.Aw
set_option maxRecDepth 100000
set_option maxHeartbeats 4000000
section
theorem lZ(fns:List Fd):∀(l:List Fd) (k:Nat),js fns k l=0↔∀(i:Nat) (f:Fd),l[i]?=some f→(fnW fns (k+i) f).code=0
 |[],k=>by simp[js]
 |f::r,k=>by
  rw[js]
  have ih:=lZ fns r (k+1)
  constructor
  ·intro h i g hg
   by_cases h0:(fnW fns k f).code=0
   ·rw[if_pos h0] at h
    cases i with
    |zero=>cases hg;exact h0
    |succ i=>have:=ih.1 h i g (by simpa using hg);rwa[show k+(i+1)=k+1+i by omega]
   ·rw[if_neg h0] at h;exact absurd h h0
  ·intro h
   rw[if_pos (by have:=h 0 f rfl;rwa[Nat.add_zero] at this)]
   exact ih.2 fun i g hg=>by have:=h (i+1) g (by simpa using hg);rwa[show k+(i+1)=k+1+i by omega] at this
theorem LY(l:List Fd):aI l=0↔bq l=true∧∀(k:Nat) (f:Fd),l[k]?=some f→(fnW l k f).code=0:=by
 unfold aI
 by_cases h:bq l=true
 ·rw[if_pos h,lZ];simp[h]
 ·rw[if_neg h];simp[h]
theorem dH(l:List Fd):bq l=true↔(1≤l.length∧l.length≤4)∧(∀f∈l,ia f=true)∧jX l≤40:=by
 simp only[bq,inR,RL,decide_eq_true_eq,RF]
 constructor
 ·rintro⟨⟨⟨h1,h2⟩,h3⟩,h4⟩;exact⟨⟨by omega,by omega⟩,h3,h4⟩
 ·rintro⟨⟨h1,h2⟩,h3,h4⟩;exact⟨⟨⟨by omega,by omega⟩,h3⟩,h4⟩
def Fd.cut(f:Fd)(n:Nat):Fd:=⟨f.name,f.params,f.body.take n⟩
end
section
variable (G:aM)
def PgQ(p n m:Nat)(v:AV)(q:Nat):Prop:=(∃l:List Fd,v= .agg [.p (fdL l)]∧aJ l≤n)∧p≤q∧q≤p+m
theorem zg{h:List AO}{id sz:Nat}{rows:List (List AV)}{es:List (List PV)}(he:h[id]?=some (.row sz rows))(hl:rows.length=es.length)(hs:∀e∈es,e.length=sz)(hv:∀(i j:Nat) (e:List PV) (q:PV) (e':List AV) (a:AV),es[i]?=some e→e[j]?=some q→rows[i]?=some e'→e'[j]?=some a→View h a q){n:Nat}(hn:n=es.length):View h (.sl id sz 0 n) (.lst sz es):=by
 subst hn
 exact .sl id sz 0 rows es he (by omega) hs fun i j e q e' a a1 a2 a3 a4=>hv i j e q e' a a1 a2 (by rwa[Su] at a3) a4
theorem rS{h:List AO}{e:List PV}{j:Nat}{q:PV}{a:AV}(h1:e[j]?=some q)(h2:(e.map AV.p)[j]?=some a):View h a q:=by
 rw[RQ,h1] at h2;cases h2;exact .p _
theorem FS{h:List AO}{id k:Nat}{l:List Fd}{f:Fd}{P B:AV}(he:h[id]?=some (.row 3 ((aN l).set k [.p (.str f.name),P,B])))(hk:k<l.length)(hP:View h P (aC f.params))(hB:View h B (smL f.body)){n:Nat}(hn:n=l.length):View h (.sl id 3 0 n) (fdL (l.set k f)):=by
 refine zg (es:=(l.set k f).map Fd.cs) he (by simp[aN]) (fun e he=>by obtain⟨x,_,rfl⟩:=RU.1 he;simp) (fun i j e q e' a a1 a2 a3 a4=>?_) (by simpa using hn)
 rw[RQ] at a1
 by_cases hik:k=i
 ·subst hik
  rw[RS hk] at a1
  rw[RS (by simpa[aN] using hk)] at a3
  cases a1;cases a3
  exact xV (s:=f.name) (ps:=f.params) (bd:=f.body) hP hB j q a a2 a4
 ·rw[RE hik] at a1 a3
  obtain⟨g,g1,g2⟩:=RC.1 a1
  subst g2
  rw[aN,RQ,g1] at a3
  cases a3
  exact rS a2 a4
theorem Fu{h:List AO}{id:Nat}{l:List (List UInt8)}{s:List UInt8}(he:h[id]?=some (.row 1 (List.take l.length (l.map fun w=>[AV.p (.str w)])++[[.p (.str s)]]))):View h (.sl id 1 0 (l.length+1)) (aC (l++[s])):=by
 have e:h[id]?=some (gw (l++[s])):=by rw[he,RG (by simp)];simp[gw]
 have:=fu e
 rwa[RR,List.length_singleton] at this
theorem sb{h:List AO}{id:Nat}{l:List Sm}{s:Sm}{r:List AV}(he:h[id]?=some (.row 5 (List.take l.length (smR l)++[r])))(hr:∀(j:Nat) (q:PV) (a:AV),s.cs[j]?=some q→r[j]?=some a→View h a q):View h (.sl id 5 0 (l.length+1)) (smL (l++[s])):=by
 have hl:=dd l
 refine zg (es:=(l++[s]).map Sm.cs) he (by simp[hl]) (fun e he=>by obtain⟨x,_,rfl⟩:=RU.1 he;simp) (fun i j e q e' a a1 a2 a3 a4=>?_) (by simp)
 rw[RG (by omega)] at a3
 rw[List.map_append] at a1
 rcases Sl i l.length with hi|hi
 ·rw[RD (by simpa using hi)] at a1
  rw[RD (by omega)] at a3
  rw[RQ] at a1
  obtain⟨g,g1,g2⟩:=RC.1 a1
  subst g2
  rw[smR,RQ,g1] at a3
  cases a3
  exact rS a2 a4
 ·rw[RP (by simpa using hi)] at a1
  rw[RP (by omega),hl] at a3
  simp only[RX] at a1
  generalize i-l.length=k at a1 a3
  cases k with
  |zero=>cases a1;cases a3;exact hr j q a a2 a4
  |succ k=>simp at a1
theorem Jf{h:List AO}{id:Nat}{l:List Fd}{f:Fd}(he:h[id]?=some (.row 3 (List.take l.length (aN l)++[f.cs.map .p]))):View h (.sl id 3 0 (l.length+1)) (fdL (l++[f])):=by
 have hl:=lv l
 have:=qq (h:=h) (id:=id) (l:=l++[f]) (by rw[he,RG (by omega)];simp[aN])
 rwa[RR,List.length_singleton] at this
theorem BC(l:List Fd)(k:Nat)(f:Fd):aJ (l.set k f)≤aJ l+f.sz:=by
 by_cases hk:k<l.length
 ·rw[fw f hk]
  have e:l=l.take k++l.drop k:=(Sk _ _).symm
  have e2:l.drop k=l[k]::l.drop (k+1):=Sz hk
  have h1:aJ l=aJ (l.take k)+aJ (l.drop k):=by rw[←jW,←e]
  rw[jW]
  have h3:aJ (f::l.drop (k+1))=f.sz+aJ (l.drop (k+1)):=by simp[aJ]
  have h4:aJ (l.drop k)=l[k].sz+aJ (l.drop (k+1)):=by rw[e2];unfold aJ;rw[Sb,List.sum_cons]
  omega
 ·rw[List.set_eq_of_length_le (by omega)];omega
theorem zD{l:List Fd}{f:Fd}(h:f∈l):f.sz≤aJ l:=by
 induction l with
 |nil=>cases h
 |cons x r ih=>
  have e:aJ (x::r)=x.sz+aJ r:=by simp[aJ]
  rcases RY.1 h with rfl|h
  ·omega
  ·have:=ih h;omega
def K_spec_l3Bent:AK:= .seq (.reg [oJ 2 (.alloc [.nils])]) (.seq (.reg [oM 9 0,oJ 10 (.call cw [(.t 9)]),oJ 3 (.alloc [.nils]),oS 3 10]) (.seq (.reg [oF 11 0 3,oL 12 11,oF 13 0 3,oL 14 13,oJ 15 (.len false (.t 14)),oJ 16 (.bin .sub (.t 15) (.c (.p (.int .i64 1)))),oJ 17 (.idxS 3 (.t 12) (.t 16)),oJ 18 (.ld (some 3) (.t 17)),oJ 4 (.alloc [(.p (.str [])),.nils,.nils]),⟨none,none,.st 3 (.t 4) (.t 18)⟩]) (.cut (.seq (.reg [oM 19 0,oJ 20 (.call ab [(.t 19),(.c (.p (.int .i64 32)))])]) (.blk 0 (.seq (.reg [oJ 22 (.bin .eql (.t 20) (.c (.p (.int .i64 0)))),oM 21 22]) (.cond (.t 21) (.reg [oM 23 0,oJ 24 (.bsl 1 [(.p (.str []))] 4 [(0,1,(.c (.p (.str [102])))),(1,1,(.c (.p (.str [100,111])))),(2,1,(.c (.p (.str [])))),(3,1,(.c (.p (.str [103]))))]),oJ 25 (.call aL [(.t 23),(.t 24)]),oF 26 0 4,oS 26 25]) (.seq (.reg [oJ 28 (.bin .eql (.t 20) (.c (.p (.int .i64 1)))),oM 27 28]) (.cond (.t 27) (.reg [oJ 29 (.bsl 1 [(.p (.str []))] 0 []),oF 30 1 4,oL 31 30,oJ 32 (.app 1 16 (.t 29) (.t 31)),oM 33 0,oJ 34 (.bsl 1 [(.p (.str []))] 3 [(0,1,(.c (.p (.str [97])))),(1,1,(.c (.p (.str [120])))),(2,1,(.c (.p (.str [105,102]))))]),oJ 35 (.call aL [(.t 33),(.t 34)]),oJ 36 (.bsl 1 [(.p (.str []))] 1 [(0,1,(.t 35))]),oJ 37 (.app 1 16 (.t 32) (.t 36)),oF 38 1 4,oS 38 37]) (.seq (.reg [oJ 40 (.bin .eql (.t 20) (.c (.p (.int .i64 2)))),oM 39 40]) (.cond (.t 39) (.reg [oJ 41 (.bsl 5 [(.p (.int .i64 0)),(.p (.str [])),.nils,.nils,.nils] 0 []),oF 42 2 4,oL 43 42,oJ 44 (.app 5 96 (.t 41) (.t 43)),oM 45 0,oJ 46 (.call jC [(.t 45)]),oJ 47 (.bsl 4 [(.p (.int .i64 0)),(.p (.int .i64 0)),(.p (.str [])),.nils] 1 [(0,4,(.t 46))]),oJ 48 (.bld [(.p (.int .i64 0)),(.p (.str [])),.nils,.nils,.nils] [(0,1,(.c (.p (.int .i64 3)))),(2,1,(.t 47))]),oJ 49 (.bsl 5 [(.p (.int .i64 0)),(.p (.str [])),.nils,.nils,.nils] 1 [(0,5,(.t 48))]),oJ 50 (.app 5 96 (.t 44) (.t 49)),oF 51 2 4,oS 51 50]) (.seq (.reg [oJ 53 (.bin .eql (.t 20) (.c (.p (.int .i64 3)))),oM 52 53]) (.cond (.t 52) (.reg [oJ 54 (.bsl 5 [(.p (.int .i64 0)),(.p (.str [])),.nils,.nils,.nils] 0 []),oF 55 2 4,oL 56 55,oJ 57 (.app 5 96 (.t 54) (.t 56)),oM 58 0,oJ 59 (.call ab [(.t 58),(.c (.p (.int .i64 10)))]),oM 60 0,oJ 61 (.bsl 1 [(.p (.str []))] 3 [(0,1,(.c (.p (.str [])))),(1,1,(.c (.p (.str [97])))),(2,1,(.c (.p (.str [122,122]))))]),oJ 62 (.call aL [(.t 60),(.t 61)]),oM 63 0,oJ 64 (.call gf [(.t 63),(.c (.p (.int .i64 2)))]),oJ 65 (.bsl 4 [(.p (.int .i64 0)),(.p (.int .i64 0)),(.p (.str [])),.nils] 1 [(0,4,(.t 64))]),oJ 66 (.bld [(.p (.int .i64 0)),(.p (.str [])),.nils,.nils,.nils] [(0,1,(.t 59)),(1,1,(.t 62)),(2,1,(.t 65))]),oJ 67 (.bsl 5 [(.p (.int .i64 0)),(.p (.str [])),.nils,.nils,.nils] 1 [(0,5,(.t 66))]),oJ 68 (.app 5 96 (.t 57) (.t 67)),oF 69 2 4,oS 69 68]) (.seq (.reg [oJ 71 (.bin .eql (.t 20) (.c (.p (.int .i64 4)))),oM 70 71]) (.cond (.t 70) (.seq (.reg [oJ 72 (.bld [(.p (.int .i64 0)),(.p (.int .i64 0)),(.p (.str [])),.nils] [(0,1,(.c (.p (.int .i64 1))))]),oJ 73 (.bsl 4 [(.p (.int .i64 0)),(.p (.int .i64 0)),(.p (.str [])),.nils] 1 [(0,4,(.t 72))]),oJ 74 (.bld [(.p (.int .i64 0)),(.p (.str [])),.nils,.nils,.nils] [(0,1,(.c (.p (.int .i64 6)))),(2,1,(.t 73))]),oJ 5 (.alloc [(.p (.int .i64 0)),(.p (.str [])),.nils,.nils,.nils]),⟨none,none,.st 5 (.t 5) (.t 74)⟩]) (.cut (.seq (.reg [oM 75 0,oJ 76 (.call ab [(.t 75),(.c (.p (.int .i64 5)))]),oM 6 76]) (.blk 1 (.loop (.seq (.seq (.reg [oM 77 6,oJ 78 (.bin .gtr (.t 77) (.c (.p (.int .i64 0))))]) (.cond (.t 78) (.skip) (.exit 1))) (.seq (.blk 2 (.reg [oM 81 0,oJ 82 (.bslP 1 [(.p (.int .i64 0))] 2 [(0,1,(.c (.p (.int .i64 5)))),(1,1,(.c (.p (.int .i64 6))))]),oF 84 2 5,oL 85 84,oJ 86 (.ld (some 5) (.t 5)),oJ 87 (.bslP 5 [(.p (.int .i64 0)),(.p (.str [])),.nils,.nils,.nils] 1 [(0,5,(.t 86))]),oJ 83 (.call al [(.t 81),(.t 82)]),⟨none,none,.chk none 84 85⟩,⟨none,none,.chk (some 5) 5 86⟩,oJ 88 (.bld [(.p (.int .i64 0)),(.p (.str [])),.nils,.nils,.nils] [(0,1,(.t 83)),(2,1,(.t 85)),(3,1,(.t 87))]),⟨none,none,.st 5 (.t 5) (.t 88)⟩])) (.reg [oM 79 6,oJ 80 (.bin .sub (.t 79) (.c (.p (.int .i64 1)))),oM 6 80])))))) (.reg [oF 90 2 4,oL 91 90,oJ 93 (.ld (some 5) (.t 5)),oJ 94 (.bslP 5 [(.p (.int .i64 0)),(.p (.str [])),.nils,.nils,.nils] 1 [(0,5,(.t 93))]),oJ 89 (.bsl 5 [(.p (.int .i64 0)),(.p (.str [])),.nils,.nils,.nils] 0 []),⟨none,none,.chk none 90 91⟩,⟨none,none,.chk (some 5) 5 93⟩,oJ 92 (.app 5 96 (.t 89) (.t 91)),⟨none,none,.chk (some 5) 5 93⟩,oJ 95 (.app 5 96 (.t 92) (.t 94)),oF 96 2 4,oS 96 95]))) (.seq (.reg [oJ 98 (.bin .eql (.t 20) (.c (.p (.int .i64 5)))),oM 97 98]) (.cond (.t 97) (.seq (.reg [oJ 99 (.bld [.nils] []),oS 2 99]) (.ret)) (.seq (.reg [oJ 101 (.bin .eql (.t 20) (.c (.p (.int .i64 6)))),oM 100 101]) (.cond (.t 100) (.seq (.reg [oM 102 0,oJ 103 (.bsl 1 [(.p (.int .i64 0))] 3 [(0,1,(.c (.p (.int .i64 20)))),(1,1,(.c (.p (.int .i64 40)))),(2,1,(.c (.p (.int .i64 41))))]),oJ 104 (.call al [(.t 102),(.t 103)]),oM 7 104]) (.blk 3 (.loop (.seq (.seq (.reg [oM 105 7,oJ 106 (.bin .gtr (.t 105) (.c (.p (.int .i64 0))))]) (.cond (.t 106) (.skip) (.exit 3))) (.seq (.blk 4 (.reg [oJ 109 (.bsl 5 [(.p (.int .i64 0)),(.p (.str [])),.nils,.nils,.nils] 0 []),oF 110 2 4,oL 111 110,oJ 112 (.app 5 96 (.t 109) (.t 111)),oM 113 7,oJ 114 (.bld [(.p (.int .i64 0)),(.p (.int .i64 0)),(.p (.str [])),.nils] [(0,1,(.c (.p (.int .i64 1)))),(1,1,(.t 113))]),oJ 115 (.bsl 4 [(.p (.int .i64 0)),(.p (.int .i64 0)),(.p (.str [])),.nils] 1 [(0,4,(.t 114))]),oJ 116 (.bld [(.p (.int .i64 0)),(.p (.str [])),.nils,.nils,.nils] [(0,1,(.c (.p (.int .i64 3)))),(2,1,(.t 115))]),oJ 117 (.bsl 5 [(.p (.int .i64 0)),(.p (.str [])),.nils,.nils,.nils] 1 [(0,5,(.t 116))]),oJ 118 (.app 5 96 (.t 112) (.t 117)),oF 119 2 4,oS 119 118])) (.reg [oM 107 7,oJ 108 (.bin .sub (.t 107) (.c (.p (.int .i64 1)))),oM 7 108])))))) (.seq (.reg [oJ 121 (.bin .eql (.t 20) (.c (.p (.int .i64 7)))),oM 120 121]) (.cond (.t 120) (.seq (.reg [oF 123 0 3,oF 126 0 3,oL 124 123,oL 127 126,oJ 128 (.idxS 3 (.t 127) (.c (.p (.int .i64 0)))),oJ 129 (.ld (some 3) (.t 128)),oJ 130 (.bslP 3 [(.p (.str [])),.nils,.nils] 1 [(0,3,(.t 129))]),oJ 122 (.bsl 3 [(.p (.str [])),.nils,.nils] 0 []),⟨none,none,.chk none 123 124⟩,⟨none,none,.chk none 126 127⟩,⟨none,none,.chk (some 3) 128 129⟩,oJ 125 (.app 3 64 (.t 122) (.t 124)),⟨none,none,.chk none 126 127⟩,⟨none,none,.chk (some 3) 128 129⟩,oJ 131 (.app 3 64 (.t 125) (.t 130)),oJ 132 (.bld [.nils] [(0,1,(.t 131))]),oS 2 132]) (.ret)) (.skip))))))))))))))))))) (.seq (.reg [oJ 133 (.bsl 3 [(.p (.str [])),.nils,.nils] 0 []),oF 134 0 3,oL 135 134,oJ 136 (.app 3 64 (.t 133) (.t 135)),oM 8 136]) (.seq (.reg [oM 137 8,oM 138 8,oJ 139 (.len false (.t 138)),oJ 140 (.bin .sub (.t 139) (.c (.p (.int .i64 1)))),oJ 141 (.ld (some 3) (.t 4)),oJ 142 (.idxS 3 (.t 137) (.t 140)),⟨none,none,.st 3 (.t 142) (.t 141)⟩]) (.seq (.reg [oM 143 8,oJ 144 (.bld [.nils] [(0,1,(.t 143))]),oS 2 144]) (.ret)))))))
theorem yT:K_spec_l3Bent.whole=F_spec_l3Bent.ak:=rfl
structure NsS where (i:Nat) (o:Int) (w:List UInt8) (A B C:PV) (q:Nat)
structure BdS where (i:Nat) (bd:List Sm)
structure CfS where (f:Fd) (q:Nat)
theorem HL{b:List Int}(hb:Byt b)(hl:b.length≤2000){p:Nat}(hp:p≤10000000000):AC Tryz.prog G mJ [.ptr 0 2 0 0] [rdO b p] fun x h=>∃v q,x= .ret v∧h=[rdO b q]∧PgQ p 500000000 200200000 v q:=by
 refine lU G (AC.goK yG yT ?_)
 have hprog:AC Tryz.prog G cw [.ptr 0 2 0 0] [rdO b p] fun x h=>∃v q,x= .ret v∧h=[rdO b q]∧((∃l:List Fd,v= .agg [.p (fdL l)]∧bq l=true∧aJ l≤200000000)∧p≤q∧q≤p+200000000):=
  (Db G hb hl hp).mono fun x h ⟨l,q,e1,e2,e3,e4,e5,e6⟩=>⟨_,q,e1,e2,⟨l,rfl,e3,e4⟩,e5,e6⟩
 simp-implicitDefEqProofs[K_spec_l3Bent,F_spec_l3Bent]
 refine(iF G hprog _ (by simp[below])).mono ?_
 rintro r h ⟨v,q,rfl,rfl,⟨l,rfl,hok,hz⟩,h1,h2⟩
 have hlen:=((dH l).1 hok).1
 obtain⟨n,hn⟩:∃n,l.length=n+1:=⟨l.length-1,by omega⟩
 have hnl:n<l.length:=by omega
 have hfz:=zD (RH hnl)
 obtain⟨f,hfe⟩:∃f,l[n]=f:=⟨_,rfl⟩
 rw[hfe] at hfz
 have hg:l[n]?=some f:=by rw[RA hnl,hfe]
 have fin:∀(r1:List (Nat × AV)) (f':Fd) (q':Nat) (rest:List AO) (P B:AV),Aw.look r1 0= .ptr 0 2 0 0→Aw.look r1 2= .ptr 1 1 0 0→Aw.look r1 3= .ptr 2 1 0 0→Aw.look r1 4= .ptr 3 3 0 0→View (.dead:: .dead:: .dead:: .dead::rest) P (aC f'.params)→View (.dead:: .dead:: .dead:: .dead::rest) B (smL f'.body)→f'.sz≤300000000→q≤q'→q'≤q+100000→
  ∃s:CfS,(s.f.sz≤300000000∧q≤s.q∧s.q≤q+100000)∧Wk 1 (am 145 r1) (rdO b q':: .row 1 [[.nils]]:: .row 1 [[.p (.lst 3 (l.map Fd.cs))]]:: .row 3 [[.p (.str f'.name),P,B]]::rest) (am 145 [(4,.ptr 3 3 0 0),(3,.ptr 2 1 0 0),(2,.ptr 1 1 0 0),(0,.ptr 0 2 0 0)])
   [rdO b s.q,.row 1 [[.nils]],.row 1 [[.p (.lst 3 (l.map Fd.cs))]],.row 3 [[.p (.str s.f.name),.p (aC s.f.params),.p (smL s.f.body)]]]:=fun r1 f' q' rest P B e0 e2 e3 e4 hP hB hz' h3 h4=>
  ⟨⟨f',q'⟩,⟨hz',h3,h4⟩,fM 4 (by omega) (by simp) rfl (.same (bU _ _ _) (.same (by simp[okO,below]) (.same (by simp[okO,below]) (.one (.keep (by simp[below]) (.one hP (.one hB .nil))) (.nil _))))) (by
    simp only[FzA,e0,e2,e3,e4]
    exact⟨.keep (by simp[below]) .nil,.keep (by simp[below]) .nil,.keep (by simp[below]) .nil,.keep (by simp[below]) .nil,trivial⟩)⟩
 have hfsz:f.sz=1+f.name.length+(f.params.length+(f.params.map List.length).sum)+aq f.body:=rfl
 have hln:l.length≤4:=hlen.2
 have hbl:=bk f.body
 have hcs:f.cs=[.str f.name,aC f.params,smL f.body]:=rfl
 have hfl:fdL l= .lst 3 (l.map Fd.cs):=rfl
 have hw:IntKind.i64.wrap ((l.length:Int)-1)=(n:Int):=by rw[af (by omega) (by omega)];omega
 have hsl:aC f.params= .lst 1 (f.params.map fun w=>[.str w]):=rfl
 have hml:smL f.body= .lst 5 (f.body.map Sm.cs):=rfl
 simp-implicitDefEqProofs[aa,hfl,hw,hg,hcs]
 refine ox (fun _:CfS=>am 145 [(4,.ptr 3 3 0 0),(3,.ptr 2 1 0 0),(2,.ptr 1 1 0 0),(0,.ptr 0 2 0 0)]) (fun s=>[rdO b s.q,.row 1 [[.nils]],.row 1 [[.p (.lst 3 (l.map Fd.cs))]],.row 3 [[.p (.str s.f.name),.p (aC s.f.params),.p (smL s.f.body)]]])
  (fun s=>s.f.sz≤300000000∧q≤s.q∧s.q≤q+100000) ?_ ?_
 rotate_left
 ·rintro⟨f',q'⟩ ⟨h3,h4,h5⟩
  simp only at h3 h4 h5
  simp-implicitDefEqProofs[hw,hnl,hfe,hcs]
  exact⟨⟨by omega,by omega⟩,_,_,q',.agg [.p (fdL (l.set n f'))],rfl,rfl,.agg (.one (FS (f:=f') rfl hnl (.p _) (.p _) rfl) .nil) .nil,⟨_,rfl,by have:=BC l n f';omega⟩,by omega,by omega⟩
 simp-implicitDefEqProofs[]
 refine(aZ G b hb hl q (by omega) 32 _).mono ?_
 rintro r h ⟨k,rfl,rfl,_⟩
 by_cases k0:k=0
 ·subst k0
  simp-implicitDefEqProofs[aa]
  refine(BE G hb hl (p:=q+1) (by omega) [[102],[100,111],[],[103]] (k:=4) (by simp) (by simp) (by omega) rfl rfl).mono ?_
  rintro r h ⟨s,hs,rfl,rfl⟩
  have hs8:s.length≤8:=by simp at hs;rcases hs with rfl|rfl|rfl|rfl<;>simp
  simp-implicitDefEqProofs[aa]
  exact fin _ ⟨s,f.params,f.body⟩ _ _ _ _ (by simp) (by simp) (by simp) (by simp) (.p _) (.p _) (by simp only[Fd.sz];omega) (by omega) (by omega)
 by_cases k1:k=1
 ·subst k1
  simp-implicitDefEqProofs[aa,hsl]
  refine⟨⟨by omega,by omega⟩,?_⟩
  refine(BE G hb hl (p:=q+1) (by omega) [[97],[120],[105,102]] (k:=6) (by simp) (by simp) (by omega) rfl rfl).mono ?_
  rintro r h ⟨s,hs,rfl,rfl⟩
  have hs8:s.length≤8:=by simp at hs;rcases hs with rfl|rfl|rfl<;>simp
  simp-implicitDefEqProofs[aa]
  refine⟨⟨by omega,by omega⟩,?_⟩
  exact fin _ ⟨f.name,f.params++[s],f.body⟩ _ _ _ _ (by simp) (by simp) (by simp) (by simp) (Fu rfl) (.p _) (by simp[Fd.sz];omega) (by omega) (by omega)
 by_cases k2:k=2
 ·subst k2
  simp-implicitDefEqProofs[aa,hml]
  refine⟨⟨by omega,by omega⟩,?_⟩
  refine(iF G (HK G hb hl (p:=q+1) (by omega)) _ (by simp[below])).mono ?_
  rintro r h ⟨v,q2,rfl,rfl,⟨e,rfl,he⟩,h3,h4⟩
  have hec:=e.cs_eq
  simp-implicitDefEqProofs[aa,hec]
  refine⟨⟨by omega,by omega⟩,?_⟩
  exact fin _ ⟨f.name,f.params,f.body++[⟨3,[],[e],[],[]⟩]⟩ _ _ _ _ (by simp) (by simp) (by simp) (by simp) (.p _) (sb rfl (cZ (fj (l:=[e]) (by rw[Sq,hec];rfl)) (View.nils 5) (View.nils 5))) (by simp[Fd.sz,bO,aq,Sm.sz,bC];omega) (by omega) (by omega)
 by_cases k3:k=3
 ·subst k3
  simp-implicitDefEqProofs[aa,hml]
  refine⟨⟨by omega,by omega⟩,?_⟩
  refine(aZ G b hb hl (q+1) (by omega) 10 _).mono ?_
  rintro r h ⟨o,rfl,rfl,_⟩
  simp-implicitDefEqProofs[aa]
  refine(BE G hb hl (p:=q+1+1) (by omega) [[],[97],[122,122]] (k:=6) (by simp) (by simp) (by omega) rfl rfl).mono ?_
  rintro r h ⟨s,hs,rfl,rfl⟩
  have hs8:s.length≤8:=by simp at hs;rcases hs with rfl|rfl|rfl<;>simp
  simp-implicitDefEqProofs[aa]
  refine(vZ G (Al G hb hl (d:=1) (by omega) (p:=q+1+1+1) (by omega)) _ (by simp[below])).mono ?_
  rintro r h ⟨e,q2,rfl,rfl,he,h3,h4⟩
  simp-implicitDefEqProofs[aa]
  refine⟨⟨by omega,by omega⟩,?_⟩
  obtain⟨eo,en,es,ek⟩:=e
  exact fin _ ⟨f.name,f.params,f.body++[⟨o,s,[⟨eo,en,es,ek⟩],[],[]⟩]⟩ _ _ _ _ (by simp) (by simp) (by simp) (by simp) (.p _) (sb rfl (cZ (ca (p0:=(Ex.mk eo en es ek).cs) rfl (Ex.cs_len _) (iK (iC rfl))) (View.nils 5) (View.nils 5))) (by simp[Fd.sz,bO,aq,Sm.sz,bC];omega) (by omega) (by omega)
 by_cases k5:k=5
 ·subst k5
  simp-implicitDefEqProofs[aa]
  exact⟨_,_,q+1,.agg [.p (fdL [])],rfl,rfl,.agg (.one (View.nils 3) .nil) .nil,⟨[],rfl,by simp[aJ]⟩,by omega,by omega⟩
 by_cases k7:k=7
 ·subst k7
  simp-implicitDefEqProofs[aa,hfl]
  have hl0:0<l.length:=by omega
  have hf0:=zD (RH hl0)
  obtain⟨f0,hg0,hf0⟩:∃f0,l[0]?=some f0∧f0.sz≤aJ l:=⟨_,RA hl0,hf0⟩
  have hc0:f0.cs=[.str f0.name,aC f0.params,smL f0.body]:=rfl
  have hfa:aJ (l++[f0])=aJ l+f0.sz:=by rw[jW];simp[aJ]
  simp-implicitDefEqProofs[hg0,hc0]
  exact⟨⟨by omega,by omega⟩,⟨by omega,by omega⟩,_,_,q+1,.agg [.p (fdL (l++[f0]))],rfl,rfl,.agg (.one (Jf rfl) .nil) .nil,⟨_,rfl,by omega⟩,by omega,by omega⟩
 by_cases k4:k=4
 ·subst k4
  simp-implicitDefEqProofs[aa]
  refine ox (fun _:NsS=>am 145 [(5,.ptr 5 5 0 0),(4,.ptr 3 3 0 0),(3,.ptr 2 1 0 0),(2,.ptr 1 1 0 0),(0,.ptr 0 2 0 0)])
   (fun a=>[rdO b a.q,.row 1 [[.nils]],.row 1 [[.p (.lst 3 (l.map Fd.cs))]],.row 3 [[.p (.str f.name),.p (aC f.params),.p (smL f.body)]],.dead,.row 5 [[.p (.int .i64 a.o),.p (.str a.w),.p a.A,.p a.B,.p a.C]]])
   (fun a=>(∃s:Sm,s.cs=[.int .i64 a.o,.str a.w,a.A,a.B,a.C]∧bC s.args≤1∧s.sz+2*a.i≤20)∧q+2≤a.q∧a.q+a.i≤q+10) ?_ ?_
  rotate_left
  ·rintro⟨i,o,w,A,B,C,q1⟩ ⟨⟨s,hse,j1,j2⟩,j3,j4⟩
   simp only at hse j1 j2 j3 j4
   have hss:∀(h:List AO) (id:Nat),h[id]?=some (.row 5 (List.take f.body.length (smR f.body)++[[.p (.int .i64 o),.p (.str w),.p A,.p B,.p C]]))→View h (.sl id 5 0 (f.body.length+1)) (smL (f.body++[s])):=fun h id e=>sb e (fun j q a a1 a2=>rS (e:=[.int .i64 o,.str w,A,B,C]) (hse▸a1) a2)
   simp-implicitDefEqProofs[hml]
   refine⟨⟨by omega,by omega⟩,⟨by omega,by omega⟩,?_⟩
   exact fin _ ⟨f.name,f.params,f.body++[s]⟩ _ _ _ _ (by simp) (by simp) (by simp) (by simp) (.p _) (hss _ _ rfl) (by simp[Fd.sz,bO,aq];omega) (by omega) (by omega)
  simp-implicitDefEqProofs[]
  refine(aZ G b hb hl (q+1) (by omega) 5 _).mono ?_
  rintro r h ⟨i0,rfl,rfl,hi0⟩
  simp-implicitDefEqProofs[aa]
  have hs0:(Sm.mk 6 [] [⟨1,0,[],[]⟩] [] []).cs=[.int .i64 6,.str [],exL [⟨1,0,[],[]⟩],smL [],smL []]:=Sm.cs_eq _
  refine aV (fun a:NsS=>am 145 [(6,.p (.int .i64 a.i)),(5,.ptr 5 5 0 0),(4,.ptr 3 3 0 0),(3,.ptr 2 1 0 0),(2,.ptr 1 1 0 0),(0,.ptr 0 2 0 0)])
   (fun a=>[rdO b a.q,.row 1 [[.nils]],.row 1 [[.p (.lst 3 (l.map Fd.cs))]],.row 3 [[.p (.str f.name),.p (aC f.params),.p (smL f.body)]],.dead,.row 5 [[.p (.int .i64 a.o),.p (.str a.w),.p a.A,.p a.B,.p a.C]]])
   (fun a=>(∃s:Sm,s.cs=[.int .i64 a.o,.str a.w,a.A,a.B,a.C]∧bC s.args≤1∧s.sz+2*a.i≤20)∧q+2≤a.q∧a.q+a.i≤q+10) (fun a=>a.i) ⟨i0,6,[],exL [⟨1,0,[],[]⟩],smL [],smL [],q+1+1⟩ ⟨⟨_,hs0,by simp[Sm.args,bC,Ex.sz],by simp[Sm.sz,bC,Ex.sz,aq];omega⟩,by simp only;omega,by simp only;omega⟩ ?_ ?_
  ·refine xg (hX:=[.dead,.dead,.dead,.dead,.row 4 [[.p (.int .i64 1),.p (.int .i64 0),.p (.str []),.nils]],.dead]) (by simp)
    (.same (bU _ _ _) (.same (by simp[okO,below]) (.same (by simp[okO,below]) (.same (by simp[okO,below]) (.give (.one ?_ .nil)))))) ?_
   ·exact .keep (by simp[below]) (.keep (by simp[below]) (.one (ca (p0:=(Ex.mk 1 0 [] []).cs) rfl (Ex.cs_len _) (iK (View.nils 4))) (.one (View.nils 5) (.one (View.nils 5) .nil))))
   ·exact⟨.keep (by simp[below]) .nil,.keep (by simp[below]) .nil,.keep (by simp[below]) .nil,.keep (by simp[below]) .nil,.keep (by simp[below]) .nil,.keep (by simp[below]) .nil,trivial⟩
  rintro⟨i,o,w,A,B,C,q1⟩ ⟨⟨s,hse,j1,j2⟩,j3,j4⟩
  simp only at hse j1 j2 j3 j4
  have hcs1:∀n:Int,(Sm.mk n [] s.args [s] []).cs=[.int .i64 n,.str [],A,.lst 5 [[.int .i64 o,.str w,A,B,C]],.lst 5 []]:=fun n=>by
   have hsa:=s.cs_eq
   rw[hse] at hsa
   simp only[List.cons.injEq] at hsa
   rw[Sm.cs_eq];simp only[Sm.op,Sm.name,Sm.args,Sm.body,Sm.els];rw[←hse,hsa.2.2.1];rfl
  have hsz:∀n:Int,(Sm.mk n [] s.args [s] []).sz=1+bC s.args+s.sz:=fun n=>by simp[Sm.sz,aq]
  simp-implicitDefEqProofs[]
  refine bf (fun hc=>?_) (fun hc=>?_)
  ·simp at hc
   simp-implicitDefEqProofs[]
   refine(Aq G hb hl (p:=q1) (by omega) [5,6] (by simp) (by simp) _).mono ?_
   rintro r h ⟨n1,_,rfl,rfl⟩
   have hwk:IntKind.i64.wrap ((i:Int)-1)=((i-1:Nat):Int):=by rw[af (by omega) (by omega)];omega
   simp-implicitDefEqProofs[aa]
   refine⟨⟨i-1,n1,[],A,.lst 5 [[.int .i64 o,.str w,A,B,C]],.lst 5 [],q1+1⟩,⟨⟨_,hcs1 n1,j1,by simp only[hsz];omega⟩,by simp only;omega,by simp only;omega⟩,by simp only;omega,?_⟩
   refine xg (hX:=[.dead,.dead,.dead,.dead,.dead,.dead]) (by simp) (.same (bU _ _ _) (.same (by simp[okO,below]) (.same (by simp[okO,below]) (.same (by simp[okO,below]) (.drop (.one (.keep (by simp[below]) (.keep (by simp[below]) (.keep (by simp[below]) (.keep (by simp[below]) (.one (View.nils 5) .nil))))) .nil)))))) ?_
   simp only[hwk]
   exact⟨.keep (by simp[below]) .nil,.keep (by simp[below]) .nil,.keep (by simp[below]) .nil,.keep (by simp[below]) .nil,.keep (by simp[below]) .nil,.keep (by simp[below]) .nil,trivial⟩
  ·simp at hc
   exact⟨⟨i,o,w,A,B,C,q1⟩,⟨⟨s,hse,j1,j2⟩,j3,j4⟩,iz (m:=6) (by simp) (eL rfl rfl (ag (bU _ _ _) (ag (by simp[okO,below]) (ag (by simp[okO,below]) (ag (by simp[okO,below]) (ag (by simp[okO]) (ag (by simp[okO,below]) dQ))))))) (by simp[below])⟩
 by_cases k6:k=6
 ·subst k6
  simp-implicitDefEqProofs[aa]
  refine(kq G hb hl (p:=q+1) (by omega) [20,40,41] (k:=4) (by simp) (by simp) (by omega) rfl rfl).mono ?_
  rintro r h ⟨i0,hi0,rfl,rfl⟩
  obtain⟨i,rfl,hi⟩:∃J:Nat,i0=J∧J≤41:=⟨i0.toNat,by simp at hi0;omega,by simp at hi0;omega⟩
  simp-implicitDefEqProofs[aa]
  refine aV (fun a:BdS=>am 145 [(7,.p (.int .i64 a.i)),(4,.ptr 3 3 0 0),(3,.ptr 2 1 0 0),(2,.ptr 1 1 0 0),(0,.ptr 0 2 0 0)])
   (fun a=>[rdO b (q+1+1),.row 1 [[.nils]],.row 1 [[.p (.lst 3 (l.map Fd.cs))]],.row 3 [[.p (.str f.name),.p (aC f.params),.p (smL a.bd)]]])
   (fun a=>a.i≤41∧aq a.bd+10*a.i≤aq f.body+500) (fun a=>a.i) ⟨i,f.body⟩ ⟨hi,by simp only;omega⟩ ?_ ?_
  ·exact iz (m:=4) (by simp) (eL rfl rfl (ag (bU _ _ _) (ag (by simp[okO,below]) (ag (by simp[okO,below]) (ag (by simp[okO,below]) dQ))))) (by simp[below])
  rintro⟨i1,bd⟩ ⟨j1,j2⟩
  simp only at j1 j2
  have hbl2:=bk bd
  have hml2:smL bd= .lst 5 (bd.map Sm.cs):=rfl
  simp-implicitDefEqProofs[hml2]
  refine bf (fun hc=>?_) (fun hc=>?_)
  ·simp at hc
   have hwk:IntKind.i64.wrap ((i1:Int)-1)=((i1-1:Nat):Int):=by rw[af (by omega) (by omega)];omega
   simp-implicitDefEqProofs[hml2]
   refine⟨⟨by omega,by omega⟩,⟨by omega,by omega⟩,⟨i1-1,bd++[⟨3,[],[⟨1,i1,[],[]⟩],[],[]⟩]⟩,⟨by simp only;omega,by simp[bO,aq,Sm.sz,bC,Ex.sz];omega⟩,by simp only;omega,?_⟩
   refine fM 4 (by omega) (by simp) rfl (.same (bU _ _ _) (.same (by simp[okO,below]) (.same (by simp[okO,below]) (.one (.keep (by simp[below]) (.keep (by simp[below]) (.one (sb rfl (cZ (ca (p0:=(Ex.mk 1 i1 [] []).cs) rfl (Ex.cs_len _) (iK (View.nils 4))) (View.nils 5) (View.nils 5))) .nil))) (.nil _))))) ?_
   simp only[hwk]
   exact⟨.keep (by simp[below]) .nil,.keep (by simp[below]) .nil,.keep (by simp[below]) .nil,.keep (by simp[below]) .nil,.keep (by simp[below]) .nil,trivial⟩
  ·simp at hc
   exact fin _ ⟨f.name,f.params,bd⟩ _ _ _ _ (by simp) (by simp) (by simp) (by simp) (.p _) (.p _) (by simp[Fd.sz];omega) (by omega) (by omega)
 have c1:¬(k:Int)=1:=by omega
 have c2:¬(k:Int)=2:=by omega
 have c3:¬(k:Int)=3:=by omega
 have c4:¬(k:Int)=4:=by omega
 have c5:¬(k:Int)=5:=by omega
 have c6:¬(k:Int)=6:=by omega
 have c7:¬(k:Int)=7:=by omega
 simp-implicitDefEqProofs[aa,k0,c1,c2,c3,c4,c5,c6,c7]
 exact fin _ ⟨f.name,f.params,f.body⟩ _ _ _ _ (by simp) (by simp) (by simp) (by simp) (.p _) (.p _) (by simp only[Fd.sz];omega) (by omega) (by omega)
end
section
variable (G:aM)
def PshF(s:Bool)(sz:Nat)(D:List (List PV))(h0:List AO)(a:PshS):Prop:=a.i≤D.length∧h0.length≤a.id∧h0.length≤a.h.length∧(∀j,j<h0.length→a.h[j]?=h0[j]?)∧∃rows J,RowOwn s a.h a.id sz rows (D.take a.i) J∧∀j∈J,h0.length≤j
theorem xi{h h2:List AO}(hl:h.length≤h2.length)(hf:∀j,j<h.length→h2[j]?=h[j]?):h2=h++h2.drop h.length:=by
 have e:h2.take h.length=h:=by
  apply List.ext_getElem?
  intro j
  by_cases hj:j<h.length
  ·rw[List.getElem?_take_of_lt hj];exact hf j hj
  ·rw[Sn (by rw[RZ];omega),Sn (by omega)]
 have e2:=Sk h.length h2
 rw[e] at e2
 exact e2.symm
theorem PshF.init{s:Bool}{sz:Nat}{D:List (List PV)}(h0 os:List AO):PshF s sz D h0 ⟨0,h0.length,h0++ .row sz []::os⟩:=
 ⟨Nat.zero_le _,RN _,by simp,fun j hj=>RD hj,[],[],⟨by simp,rfl,fun _ h=>(by cases h),fun _ h=>(by cases h),.nil,by simp⟩,fun j hj=>by cases hj⟩
theorem PshF.step{s:Bool}{sz i id:Nat}{D:List (List PV)}{h0 h:List AO}(H:PshF s sz D h0 ⟨i,id,h⟩){e:List PV}(hi:D[i]?=some e){h2:List AO}(hl:h.length≤h2.length)(hf:∀j,j<h.length→h2[j]?=h[j]?){r':List AV}{I2:List Nat}(ho:OwnL s h2 r' e I2)(nd2:I2.Nodup)(hn:∀j∈I2,h.length≤j)(he:e.length=sz):
 ∃rows,(∀os,(h2++os)[id]?=some (.row sz rows))∧rows.length=i∧i<D.length∧id<h2.length∧∀os1 os2,PshF s sz D h0 ⟨i+1,(h2++os1).length,(h2++os1).set id .dead++ .row sz (rows++[r'])::os2⟩:=by
 obtain⟨h1,h3,h4,h5,rows,J,hr,hJ⟩:=H
 have hil:i<D.length:=(RB.1 hi).1
 have hlen:=hr.len
 simp only at h1 h3 h4 h5 hlen hr
 rw[RZ,Nat.min_eq_left h1] at hlen
 have e2:=xi hl hf
 have hid:=hr.lt
 have h2e:h2[id]?=some (.row sz rows):=by rw[hf id hid];exact hr.here
 refine⟨rows,fun os=>by rw[RD (by omega)];exact h2e,hlen,hil,by omega,fun os1 os2=>⟨hil,by simp only[RR];omega,by simp;omega,fun j hj=>?_,rows++[r'],J++I2,?_,fun j hj=>?_⟩⟩
 ·simp only
  rw[RD (by simp only[SH,RR,RW];omega),RE (by omega),RD (by omega),hf j (by omega)]
  exact h5 j hj
 ·have hp:=(hr.push (h2:=h2++os1) (os:=h2.drop h.length++os1) (by rw[←Sg,←e2]) (ho.more os1) nd2 hn he).more os2
  have hd:D.take i++[e]=D.take (i+1):=by rw[List.take_add_one,hi];rfl
  rw[hd,Sg] at hp
  exact hp
 ·rcases RJ.1 hj with hj|hj
  ·exact hJ j hj
  ·have:=hn j hj;omega
theorem PshF.done{s:Bool}{sz i id:Nat}{D:List (List PV)}{h0 h:List AO}(H:PshF s sz D h0 ⟨i,id,h⟩)(hi:D.length≤i):h0.length≤h.length∧(∀j,j<h0.length→h[j]?=h0[j]?)∧∃I,OwnL s h [.sl id sz 0 i] [.lst sz D] I∧I.Nodup∧∀j∈I,h0.length≤j:=by
 obtain⟨h1,h3,h4,h5,rows,J,hr,hJ⟩:=H
 simp only at h1 h3 h4 h5 hr
 rw[RG hi] at hr
 exact⟨h4,h5,id::J,hr.tree (by omega),hr.nd,fun j hj=>by
  rcases RY.1 hj with rfl|hj
  ·exact h3
  ·exact hJ j hj⟩
theorem BM{s:Bool}{n:Nat}{h1 os:List AO}{a b:List AV}{c d:List PV}{I1 I2:List Nat}(H1:OwnL s h1 a c I1)(n1:I1.Nodup)(f1:∀i∈I1,n≤i)(H2:OwnL s (h1++os) b d I2)(n2:I2.Nodup)(f2:∀i∈I2,h1.length≤i)(hn:n≤h1.length):
 OwnL s (h1++os) (a++b) (c++d) (I1++I2)∧(I1++I2).Nodup∧∀i∈I1++I2,n≤i:=by
 refine⟨(H1.more os).app H2,?_,fun i hi=>?_⟩
 ·rw[Sr]
  refine⟨n1,n2,fun a ha b hb e=>?_⟩
  have:=H1.lt ha;have:=f2 b hb;omega
 ·rcases RJ.1 hi with hi|hi
  ·exact f1 i hi
  ·have:=f2 i hi;omega
theorem xM{α:Type}(l:List α)(a b:α):(l++[a]).set l.length b=l++[b]:=by
 rw[List.set_append_right _ _ (RN _),Nat.sub_self];rfl
theorem KK{h:List AO}{s:Sm}{A B E:AV}{I:List Nat}(H:OwnL true h ([A]++[B]++[E]) ([exL s.args]++[smL s.body]++[smL s.els]) I):OwnL true h [.p (.int .i64 s.op),.p (.str s.name),A,B,E] s.cs I:=by
 rw[s.cs_eq]
 exact .p _ (fun _=>rfl) (.p _ (fun _=>rfl) H)
theorem JT{s:Bool}{h:List AO}{v:AV}{q:PV}{I:List Nat}(H:OwnL s h [v] [q] I):v.cells=[v]∧v.isCell=true:=by
 cases H with
 |p=>exact⟨rfl,rfl⟩
 |nils=>exact⟨rfl,rfl⟩
 |sl=>exact⟨rfl,rfl⟩
theorem kL{s:Bool}{h:List AO}{v:AV}{q:PV}{I:List Nat}(H:OwnL s h [v] [q] I):(∃q',v= .p q')∨v= .nils∨∃a b n,v= .sl a b 0 n:=by
 cases H with
 |p q=>exact .inl ⟨_,rfl⟩
 |nils=>exact .inr (.inl rfl)
 |sl id sz n=>exact .inr (.inr ⟨_,_,_,rfl⟩)
theorem Lf{s:Bool}{h:List AO}{e:Ex}{K:AV}{I:List Nat}(H:OwnL s h [K] [exL e.kids] I):OwnL s h [.p (.int .i64 e.op),.p (.int .i64 e.n),.p (.str e.name),K] e.cs I:=by
 rw[e.cs_eq]
 exact .p _ (fun _=>rfl) (.p _ (fun _=>rfl) (.p _ (fun _=>rfl) H))
theorem HS:∀(N:Nat) (e:Ex),e.sz≤N→e.sz≤1073741824→AC Tryz.prog G jJ [.agg (e.cs.map .p)] [] (MkW .agg true e.cs):=by
 intro N
 induction N with
 |zero=>intro e he;have:=e.sz_eq;omega
 |succ N ih=>
  intro e he hb
  have hsz:=e.sz_eq
  have hkl:=bh e.kids
  refine AC.go yN ?_
  have hec:=e.cs_eq
  have hsl:exL e.kids= .lst 4 (e.kids.map Ex.cs):=rfl
  simp-implicitDefEqProofs[rd,hec,hsl]
  obtain⟨hb0,ehb⟩:∃hb0:List AO,hb0=[.row 4 [[.p (.int .i64 e.op),.p (.int .i64 e.n),.p (.str e.name),.p (.lst 4 (e.kids.map Ex.cs))]],.row 4 [[.p (.int .i64 0),.p (.int .i64 0),.p (.str []),.nils]]]:=⟨_,rfl⟩
  have hini:PshF true 4 (e.kids.map Ex.cs) hb0 ⟨0,2,[.row 4 [[.p (.int .i64 e.op),.p (.int .i64 e.n),.p (.str e.name),.p (.lst 4 (e.kids.map Ex.cs))]],.row 4 [[.p (.int .i64 0),.p (.int .i64 0),.p (.str []),.nils]],.row 4 []]⟩:=by
   rw[ehb];exact PshF.init _ []
  refine aV (fun a:PshS=>am 25 [(4,.p (.int .i64 a.i)),(3,.sl a.id 4 0 a.i),(2,.ptr 1 4 0 0),(1,.ptr 0 4 0 0)]) (fun a=>a.h) (PshF true 4 (e.kids.map Ex.cs) hb0) (fun a=>e.kids.length-a.i) _ hini ?_ ?_
  ·exact eX (by simp) (by simp[below])
  rintro⟨i,id,h'⟩ hJ
  have hl0:hb0.length=2:=by rw[ehb];rfl
  have g0:h'[0]?=some (.row 4 [[.p (.int .i64 e.op),.p (.int .i64 e.n),.p (.str e.name),.p (.lst 4 (e.kids.map Ex.cs))]]):=by rw[hJ.2.2.2.1 0 (by omega),ehb];rfl
  have g1:h'[1]?=some (.row 4 [[.p (.int .i64 0),.p (.int .i64 0),.p (.str []),.nils]]):=by rw[hJ.2.2.2.1 1 (by omega),ehb];rfl
  have hl2:2≤h'.length:=by have:=hJ.2.2.1;simp only at this;omega
  simp-implicitDefEqProofs[g0]
  refine bf (fun h1=>?_) (fun h1=>?_)
  ·simp at h1
   have hg:=RA h1
   have hm:=aT (RH h1)
   have hH:=ih e.kids[i] (by omega) (by omega)
   have hcs:=e.kids[i].cs_eq
   have hDa:(e.kids.map Ex.cs)[i]?=some e.kids[i].cs:=by rw[RQ,hg];rfl
   generalize e.kids[i]=k at hg hH hcs hDa
   have hA:=AC.mkLift vO hH (h:=h') (by rw[hcs];simp)
   rw[hcs] at hA
   simp-implicitDefEqProofs[g0,hg,hcs]
   refine hA.mono ?_
   rintro r h2 ⟨vs,I2,os,rfl,e2,ho,nd,hf⟩
   rw[←hcs] at ho
   obtain⟨rows,k1,k2,k3,k4,k5⟩:=hJ.step hDa (h2:=h2) (by rw[e2];simp) (fun x hx=>by rw[e2,RD hx]) ho nd hf k.cs_len
   obtain⟨K,rfl,hK⟩:=Ec ho
   have hwi:=w1 (i:=i) (by omega)
   rcases kL hK with⟨q1,rfl⟩|rfl|⟨x1,x2,x3,rfl⟩
   ·have k6:=k5 [.row 4 [[.p (.int .i64 k.op),.p (.int .i64 k.n),.p (.str k.name),.p q1]]] []
    simp-implicitDefEqProofs[aa,k1,k2]
    rw[RG (l:=rows) (i:=i) (by omega)]
    refine⟨⟨by omega,by omega⟩,_,k6,by simp only;omega,eX (by simp) ?_⟩
    simp[below,hwi]
   ·have k6:=k5 [.row 4 [[.p (.int .i64 k.op),.p (.int .i64 k.n),.p (.str k.name),.nils]]] []
    simp-implicitDefEqProofs[aa,k1,k2]
    rw[RG (l:=rows) (i:=i) (by omega)]
    refine⟨⟨by omega,by omega⟩,_,k6,by simp only;omega,eX (by simp) ?_⟩
    simp[below,hwi]
   ·have k6:=k5 [.row 4 [[.p (.int .i64 k.op),.p (.int .i64 k.n),.p (.str k.name),.sl x1 x2 0 x3]]] []
    simp-implicitDefEqProofs[aa,k1,k2]
    rw[RG (l:=rows) (i:=i) (by omega)]
    refine⟨⟨by omega,by omega⟩,_,k6,by simp only;omega,eX (by simp) ?_⟩
    simp[below,hwi]
  ·simp at h1
   have hie:i=e.kids.length:=by have:=hJ.1;simp at this;omega
   obtain⟨d1,d2,I,ho,nd,hI⟩:=hJ.done (by simpa using h1)
   subst hie
   have hn0:0∉I:=fun hm=>by have:=hI 0 hm;omega
   have hn1:1∉I:=fun hm=>by have:=hI 1 hm;omega
   have s0:∀x,(h'.set 0 x)[0]?=some x:=fun x=>RS (by omega)
   have s1:∀x,(h'.set 0 x)[1]?=some (.row 4 [[.p (.int .i64 0),.p (.int .i64 0),.p (.str []),.nils]]):=fun x=>by rw[RE (by omega)];exact g1
   have s2:∀x y,((h'.set 0 x).set 1 y)[1]?=some y:=fun x y=>RS (by rw[SH];omega)
   simp-implicitDefEqProofs[g0,g1,s0,s1,s2]
   rw[←hsl,←hec]
   exact⟨_,I,rfl,Lf ((ho.set_out hn0 _).set_out hn1 _),nd⟩
theorem uh:∀(N:Nat) (l:List Sm),aq l<N→aq l≤1073741824→AC Tryz.prog G dK [.p (smL l)] [] (MkW eZ true [smL l]):=by
 intro N
 induction N with
 |zero=>intro l he;omega
 |succ N ih=>
  intro l hN hz
  have hsl:∀l,smL l= .lst 5 (l.map Sm.cs):=fun _=>rfl
  have hll:=bk l
  refine AC.go wq ?_
  simp-implicitDefEqProofs[pF,hsl]
  refine aV (fun a:PshS=>am 52 [(4,.p (.int .i64 a.i)),(3,.sl a.id 5 0 a.i),(0,.p (smL l))]) (fun a=>a.h) (PshF true 5 (l.map Sm.cs) []) (fun a=>l.length-a.i) ⟨0,0,[.row 5 []]⟩ (PshF.init [] []) ?_ ?_
  ·exact eX (by simp) (by simp[below,hsl])
  rintro⟨i,id,hh⟩ hI
  simp-implicitDefEqProofs[hsl]
  refine bf (fun h1=>?_) (fun h1=>?_)
  ·simp at h1
   have hg:=RA h1
   have hm:=bD (RH h1)
   have hcs:=l[i].cs_eq
   have hse:=l[i].sz_eq
   have hD:(l.map Sm.cs)[i]?=some l[i].cs:=by rw[RQ,hg];rfl
   generalize l[i]=s at hg hm hcs hse hD
   simp-implicitDefEqProofs[hg,hcs,xM]
   have hid:id<hh.length:=by obtain⟨_,_,_,_,_,_,hr,_⟩:=hI;exact hr.lt
   have hal:=bh s.args
   have hxl:exL s.args= .lst 4 (s.args.map Ex.cs):=rfl
   obtain⟨hb,ehb⟩:∃hb,hb=hh++[AO.row 5 [[.p (.int .i64 s.op),.p (.str s.name),.p (exL s.args),.p (smL s.body),.p (smL s.els)]]]:=⟨_,rfl⟩
   have hbl:hb.length=hh.length+1:=by rw[ehb];simp
   have hbx:hb[hh.length]?=some (.row 5 [[.p (.int .i64 s.op),.p (.str s.name),.p (exL s.args),.p (smL s.body),.p (smL s.els)]]):=by rw[ehb];simp
   have hini:PshF true 4 (s.args.map Ex.cs) hb ⟨0,hh.length+1,hh++[AO.row 5 [[.p (.int .i64 s.op),.p (.str s.name),.p (exL s.args),.p (smL s.body),.p (smL s.els)]],.row 4 []]⟩:=by
    have:=PshF.init (s:=true) (sz:=4) (D:=s.args.map Ex.cs) hb []
    rw[hbl,ehb,Sg] at this
    rw[ehb];exact this
   refine aV (fun a:PshS=>am 52 [(7,.p (.int .i64 a.i)),(6,.sl a.id 4 0 a.i),(5,.ptr hh.length 5 0 0),(4,.p (.int .i64 i)),(3,.sl id 5 0 i),(0,.p (smL l))]) (fun a=>a.h) (PshF true 4 (s.args.map Ex.cs) hb) (fun a=>s.args.length-a.i) _ hini ?_ ?_
   ·refine eX (by simp) ?_
    simp[below,hsl]
    omega
   rintro⟨j,id2,h'⟩ hJ
   have hjb:h'[hh.length]?=some (.row 5 [[.p (.int .i64 s.op),.p (.str s.name),.p (exL s.args),.p (smL s.body),.p (smL s.els)]]):=by
    rw[hJ.2.2.2.1 _ (by omega)];exact hbx
   have hlb:hh.length+1≤h'.length:=by have:=hJ.2.2.1;simp only at this;omega
   simp-implicitDefEqProofs[hjb,hxl]
   refine bf (fun h2=>?_) (fun h2=>?_)
   ·simp at h2
    have hga:=RA h2
    have hma:=aT (RH h2)
    have hC:=HS G _ s.args[j] (RN _) (by omega)
    have hka:=s.args[j].cs_eq
    have hDa:(s.args.map Ex.cs)[j]?=some s.args[j].cs:=by rw[RQ,hga];rfl
    generalize s.args[j]=e at hga hma hC hka hDa
    have hA:=AC.mkLift vO hC (h:=h') (by rw[hka];simp)
    rw[hka] at hA
    simp-implicitDefEqProofs[hjb,hga,hka,hxl]
    refine hA.mono ?_
    rintro r h2 ⟨vs,I2,os,rfl,e2,ho,nd,hf⟩
    rw[←hka] at ho
    obtain⟨rows,k1,k2,k3,k4,k5⟩:=hJ.step hDa (h2:=h2) (by rw[e2];simp) (fun x hx=>by rw[e2,RD hx]) ho nd hf e.cs_len
    obtain⟨K,rfl,hK⟩:=Ec ho
    have hwj:=w1 (i:=j) (by omega)
    have hl2:h'.length≤h2.length:=by rw[e2];simp
    rcases kL hK with⟨q1,rfl⟩|rfl|⟨x1,x2,x3,rfl⟩
    ·have k6:=k5 [.row 4 [[.p (.int .i64 e.op),.p (.int .i64 e.n),.p (.str e.name),.p q1]]] []
     simp-implicitDefEqProofs[aa,k1,k2]
     rw[RG (l:=rows) (i:=j) (by omega)]
     refine⟨⟨by omega,by omega⟩,_,k6,by simp only;omega,eX (by simp) ?_⟩
     simp[below,hsl,hwj]
     omega
    ·have k6:=k5 [.row 4 [[.p (.int .i64 e.op),.p (.int .i64 e.n),.p (.str e.name),.nils]]] []
     simp-implicitDefEqProofs[aa,k1,k2]
     rw[RG (l:=rows) (i:=j) (by omega)]
     refine⟨⟨by omega,by omega⟩,_,k6,by simp only;omega,eX (by simp) ?_⟩
     simp[below,hsl,hwj]
     omega
    ·have k6:=k5 [.row 4 [[.p (.int .i64 e.op),.p (.int .i64 e.n),.p (.str e.name),.sl x1 x2 0 x3]]] []
     simp-implicitDefEqProofs[aa,k1,k2]
     rw[RG (l:=rows) (i:=j) (by omega)]
     refine⟨⟨by omega,by omega⟩,_,k6,by simp only;omega,eX (by simp) ?_⟩
     simp[below,hsl,hwj]
     omega
   ·simp at h2
    have hjl:j=s.args.length:=by have:=hJ.1;simp at this;omega
    obtain⟨d1,d2,IA,oA,nA,fA⟩:=hJ.done (by simpa using h2)
    subst hjl
    have hB:=ih s.body (by omega) (by omega)
    have hE:=ih s.els (by omega) (by omega)
    simp-implicitDefEqProofs[hjb]
    refine(AC.mkLift qo hB (h:=h') (by simp)).mono ?_
    rintro r h3 ⟨vB,IB,o1,rfl,e3,oB,nB,fB⟩
    obtain⟨B,rfl⟩:=fY oB
    have hjb3:h3[hh.length]?=some (.row 5 [[.p (.int .i64 s.op),.p (.str s.name),.p (exL s.args),.p (smL s.body),.p (smL s.els)]]):=by
     rw[e3,RD (by omega)];exact hjb
    simp-implicitDefEqProofs[aa,eZ,hjb3]
    refine(AC.mkLift qo hE (h:=h3) (by simp)).mono ?_
    rintro r h4 ⟨vE,IE,o2,rfl,e4,oE,nE,fE⟩
    obtain⟨E,rfl⟩:=fY oE
    have hjb4:h4[hh.length]?=some (.row 5 [[.p (.int .i64 s.op),.p (.str s.name),.p (exL s.args),.p (smL s.body),.p (smL s.els)]]):=by
     have:hh.length<h3.length:=(RB.1 hjb3).1
     rw[e4,RD this];exact hjb3
    have cB:=kL oB
    have cE:=kL oE
    obtain⟨a1,a2,a3⟩:=BM oA nA fA (by rw[←e3];exact oB) nB fB d1
    rw[←e3] at a1
    obtain⟨b1,b2,b3⟩:=BM a1 a2 a3 (by rw[←e4];exact oE) nE fE (by rw[e3];simp;omega)
    rw[←e4] at b1
    have hS:=KK (s:=s) b1
    obtain⟨rows,k1,k2,k3,k4,k5⟩:=hI.step hD (h2:=h4) (by rw[e4,e3];simp;omega) (fun x hx=>by
     rw[e4,RD (by rw[e3];simp;omega),e3,RD (by omega),d2 x (by omega),ehb,RD hx]) hS b2 (fun x hx=>by have:=b3 x hx;omega) s.cs_len
    have k6:=k5 [.row 5 [[.p (.int .i64 s.op),.p (.str s.name),.sl id2 4 0 s.args.length,B,E]]] []
    have hwi:=w1 (i:=i) (by omega)
    rcases cB with⟨q1,rfl⟩|rfl|⟨x1,x2,x3,rfl⟩<;>rcases cE with⟨q2,rfl⟩|rfl|⟨y1,y2,y3,rfl⟩<;>
    ·simp-implicitDefEqProofs[aa,eZ,hjb4,k1,k2]
     rw[RG (l:=rows) (i:=i) (by omega)]
     refine⟨⟨by omega,by omega⟩,_,k6,by simp only;omega,eX (by simp) ?_⟩
     simp[below,hsl,hwi]
  ·simp at h1
   obtain⟨_,_,I,ho,nd,_⟩:=hI.done (by simpa using h1)
   have hie:i=l.length:=by have:=hI.1;simp at this;omega
   subst hie
   simp-implicitDefEqProofs[]
   exact⟨_,I,rfl,ho,nd⟩
def cpK(a:PshS):AV:=if a.i=0 then .nils else .sl a.id 3 0 a.i
def CpI(l:List Fd)(a:PshS):Prop:=a.i≤l.length∧a.h[0]?=some (.row 1 [[.p (fdL l)]])∧a.h[1]?=some (.row 1 [[.nils]])∧a.h[2]?=some (.row 1 [[cpK a]])∧
 (0<a.i→3≤a.id∧∃rows J,RowOwn true a.h a.id 3 rows ((l.map Fd.cs).take a.i) J∧∀j∈J,3≤j)
theorem zq:∀l:List Fd,l.length≤aJ l
 |[]=>RN _
 |f::r=>by
  have:=zq r
  have h1:aJ (f::r)=f.sz+aJ r:=by simp[aJ]
  have h2:f.sz=1+f.name.length+(f.params.length+(f.params.map List.length).sum)+aq f.body:=rfl
  simp only[RW];omega
theorem Bc{h:List AO}{id:Nat}{l:List (List UInt8)}(e:h[id]?=some (gw l)){n:Nat}(hn:n=l.length):OwnL true h [.sl id 1 0 n] [aC l] [id]:=by
 have hr:RowOwn true h id 1 (l.map fun w=>[AV.p (.str w)]) (l.map fun w=>[PV.str w]) []:=by
  refine⟨e,by simp,fun x hx=>by obtain⟨w,_,rfl⟩:=RU.1 hx;rfl,fun x hx=>by obtain⟨w,_,rfl⟩:=RU.1 hx;rfl,?_,by simp⟩
  clear e hn
  induction l with
  |nil=>exact .nil
  |cons w r ih=>exact .p _ (fun _=>rfl) ih
 exact hr.tree (by simpa using hn)
theorem Je{h3:List AO}(hl:3≤h3.length){r:List AV}{f:Fd}{I2:List Nat}(ho:OwnL true h3 r f.cs I2)(nd:I2.Nodup)(hf:∀j∈I2,3≤j)(o x:AO):∃J,RowOwn true ((h3++[o,.row 3 [r]]).set 2 x) (h3.length+1) 3 [r] [f.cs] J∧∀j∈J,3≤j:=by
 have hr:r.length=3:=by rw[ho.len,Fd.cs_len]
 refine⟨I2,⟨?_,rfl,fun e he=>by rw[RM.1 he];exact hr,fun e he=>by rw[RM.1 he];exact Fd.cs_len f,?_,?_⟩,hf⟩
 ·rw[RE (by omega),RP (by omega),SE];rfl
 ·have:=(ho.more [o,.row 3 [r]]).set_out (fun hm=>by have:=hf 2 hm;omega:2∉I2) x
  simpa using this
 ·rw[Sy]
  exact⟨fun hm=>by have:=ho.lt hm;omega,nd⟩
theorem KI{h h3:List AO}{id:Nat}{rows:List (List AV)}{D:List (List PV)}{J:List Nat}(H:RowOwn true h id 3 rows D J)(hJ:∀j∈J,3≤j)(hid:3≤id)(hh:3≤h.length)(e3:h3=h++h3.drop h.length){r:List AV}{f:Fd}{I2:List Nat}(ho:OwnL true h3 r f.cs I2)(nd:I2.Nodup)(hf:∀j∈I2,h.length≤j)(o x:AO):
 ∃J,RowOwn true (((h3++[o]).set id .dead++[AO.row 3 (rows++[r])]).set 2 x) (h3.length+1) 3 (rows++[r]) (D++[f.cs]) J∧∀j∈J,3≤j:=by
 have hp:=H.push (h2:=h3++[o]) (os:=h3.drop h.length++[o]) (by rw[←Sg,←e3]) (ho.more [o]) nd hf (Fd.cs_len f)
 have hl:(h3++[o]).length=h3.length+1:=by simp
 rw[hl] at hp
 have hl3:h.length≤h3.length:=by rw[e3];simp
 refine⟨J++I2,hp.frame fun k hk=>?_,fun j hj=>?_⟩
 ·have:3≤k:=by
   rcases RY.1 hk with rfl|hk
   ·omega
   ·rcases RJ.1 hk with hk|hk
    ·exact hJ k hk
    ·have:=hf k hk;omega
  rw[RE (by omega)]
 ·rcases RJ.1 hj with hj|hj
  ·exact hJ j hj
  ·have:=hf j hj;omega
theorem Cl(l:List Fd)(hz:aJ l≤1073741824):AC Tryz.prog G er [.agg [.p (fdL l)]] [] (MkW .agg true [fdL l]):=by
 have hfl:∀l,fdL l= .lst 3 (l.map Fd.cs):=fun _=>rfl
 have hll:l.length≤aJ l:=zq l
 refine AC.go qT ?_
 simp-implicitDefEqProofs[mC,hfl]
 refine aV (fun a:PshS=>am 35 [(4,.p (.int .i64 a.i)),(3,.ptr 2 1 0 0),(2,.ptr 1 1 0 0),(1,.ptr 0 1 0 0)]) (fun a=>a.h) (CpI l) (fun a=>l.length-a.i) ⟨0,0,[.row 1 [[.p (fdL l)]],.row 1 [[.nils]],.row 1 [[.nils]]]⟩ ⟨Nat.zero_le _,rfl,rfl,rfl,fun h=>by simp at h⟩ ?_ ?_
 ·exact eX (by simp) (by simp[below])
 rintro⟨i,id,h⟩ ⟨i1,i2,i3,i4,i5⟩
 simp only at i1 i2 i3 i4 i5
 have hl3:3≤h.length:=by have:=(RB.1 i4).1;omega
 have j2:∀os,(h++os)[0]?=some (.row 1 [[.p (fdL l)]]):=fun os=>by rw[RD (by omega)];exact i2
 have j4:∀os,(h++os)[2]?=some (.row 1 [[cpK ⟨i,id,h⟩]]):=fun os=>by rw[RD (by omega)];exact i4
 simp-implicitDefEqProofs[i2,hfl]
 refine bf (fun h1=>?_) (fun h1=>?_)
 ·simp at h1
  have hg:=RA h1
  have hm:=cJ (RH h1)
  have hD:(l.map Fd.cs)[i]?=some l[i].cs:=by rw[RQ,hg];rfl
  generalize l[i]=f at hg hm hD
  have hcs:f.cs=[.str f.name,aC f.params,smL f.body]:=rfl
  have hsp:aC f.params= .lst 1 (f.params.map fun w=>[.str w]):=rfl
  have hfz:f.sz=1+f.name.length+(f.params.length+(f.params.map List.length).sum)+aq f.body:=rfl
  have hB:=uh G _ f.body (Nat.lt_succ_self _) (by omega)
  by_cases hi0:i=0
  ·subst hi0
   have hk:cpK ⟨0,id,h⟩= .nils:=rfl
   rw[hk] at j4 i4
   have fin0:∀(h3:List AO) (r:List AV) (I2:List Nat) (l0:List (Nat × AV)),h.length+3≤h3.length→(∀j,j<h.length→h3[j]?=h[j]?)→OwnL true h3 r f.cs I2→I2.Nodup→(∀j∈I2,h.length≤j)→∀(o:AO) (hw:Aw.look l0 4= .p (.int .i64 (IntKind.i64.wrap 1))∧Aw.look l0 3= .ptr 2 1 0 0∧Aw.look l0 2= .ptr 1 1 0 0∧Aw.look l0 1= .ptr 0 1 0 0),
    ∃a',CpI l a'∧l.length-a'.i<l.length∧Wk 0 (am 35 l0) ((h3++[o,.row 3 [r]]).set 2 (.row 1 [[.sl (h3.length+1) 3 0 1]])) (am 35 [(4,.p (.int .i64 a'.i)),(3,.ptr 2 1 0 0),(2,.ptr 1 1 0 0),(1,.ptr 0 1 0 0)]) a'.h:=by
    intro h3 r I2 l0 hl4 hg3 oR nR fR o ⟨e4,e3,e2,e1⟩
    obtain⟨J,hJ,hJ3⟩:=Je (by omega) oR nR (fun j hj=>by have:=fR j hj;omega) o (.row 1 [[.sl (h3.length+1) 3 0 1]])
    have hd:(l.map Fd.cs).take 1=[f.cs]:=by rw[List.take_add_one,hD];rfl
    refine⟨⟨1,h3.length+1,_⟩,⟨by simp only;omega,?_,?_,?_,fun _=>⟨by simp only;omega,_,J,by simp only[hd];exact hJ,hJ3⟩⟩,by simp only;omega,eX (by simp) ?_⟩
    ·rw[RE (by omega),RD (by omega),hg3 0 (by omega)];exact i2
    ·rw[RE (by omega),RD (by omega),hg3 1 (by omega)];exact i3
    ·rw[RS (by simp;omega)];rfl
    ·simp[e1,e2,e3,e4,below]
     exact⟨by have:=w1 (i:=0) (by omega);simpa using this,by omega⟩
   simp-implicitDefEqProofs[i2,hfl,hg,hcs,hsp,xM, ↓j2, ↓j4]
   refine⟨⟨by omega,by omega⟩,?_⟩
   refine(AC.mkLift qo hB (by simp)).mono ?_
   rintro r h3 ⟨vB,IB,o1,rfl,e3,oB,nB,fB⟩
   obtain⟨B,rfl⟩:=fY oB
   simp at fB
   have hg3:∀j,j<h.length→h3[j]?=h[j]?:=fun j hj=>by rw[e3,Sg,RD hj]
   have p0:h3[h.length]?=some (.row 3 [[.p (.str f.name),.p (.lst 1 (f.params.map fun w=>[.str w])),.p (smL f.body)]]):=by
    rw[e3,Sg,RP (RN _),Nat.sub_self];rfl
   have p2:h3[h.length+2]?=some (gw f.params):=by
    rw[e3,Sg,RP (by omega),SE]
    simp[gw,Function.comp_def]
   have oP:=Bc p2 (n:=f.params.length) rfl
   have hl4:h.length+3≤h3.length:=by rw[e3];simp
   have q0:∀os,(h3++os)[2]?=some (.row 1 [[.nils]]):=fun os=>by rw[RD (by omega),hg3 2 (by omega)];exact i4
   have q1:h3[2]?=some (.row 1 [[.nils]]):=by rw[hg3 2 (by omega)];exact i4
   have q2:∀os,(h3++os)[h.length]?=some (.row 3 [[.p (.str f.name),.p (.lst 1 (f.params.map fun w=>[.str w])),.p (smL f.body)]]):=fun os=>by rw[RD (by omega)];exact p0
   clear p2
   have hfR:∀j∈[h.length+2]++IB,h.length≤j:=fun j hj=>by
    rcases RJ.1 hj with hj|hj
    ·rw[RM.1 hj];omega
    ·have:=fB j hj;omega
   have hnR:([h.length+2]++IB).Nodup:=Sy.2 ⟨fun hm=>by have:=fB _ hm;omega,nB⟩
   rcases kL oB with⟨b1,rfl⟩|rfl|⟨x1,x2,x3,rfl⟩
   ·have oR:=pk (s:=true) (w:=f.name) oP oB
    simp-implicitDefEqProofs[aa,eZ, ↓q1, ↓p0, ↓q0, ↓q2]
    exact fin0 h3 _ _ _ hl4 hg3 oR hnR hfR _ (by simp)
   ·have oR:=pk (s:=true) (w:=f.name) oP oB
    simp-implicitDefEqProofs[aa,eZ, ↓q1, ↓p0, ↓q0, ↓q2]
    exact fin0 h3 _ _ _ hl4 hg3 oR hnR hfR _ (by simp)
   ·have oR:=pk (s:=true) (w:=f.name) oP oB
    simp-implicitDefEqProofs[aa,eZ, ↓q1, ↓p0, ↓q0, ↓q2]
    exact fin0 h3 _ _ _ hl4 hg3 oR hnR hfR _ (by simp)
  ·have hk:cpK ⟨i,id,h⟩= .sl id 3 0 i:=if_neg hi0
   rw[hk] at j4 i4
   obtain⟨hid3,rows,J,hr,hJ3⟩:=i5 (by omega)
   have hrl:rows.length=i:=by have:=hr.len;rw[RZ,RX] at this;omega
   have hidl:=hr.lt
   have fin0:∀(h3:List AO) (r:List AV) (I2:List Nat) (l0:List (Nat × AV)),h.length+3≤h3.length→(∀j,j<h.length→h3[j]?=h[j]?)→OwnL true h3 r f.cs I2→I2.Nodup→(∀j∈I2,h.length≤j)→∀(o:AO) (hw:Aw.look l0 4= .p (.int .i64 (IntKind.i64.wrap ((i:Int)+1)))∧Aw.look l0 3= .ptr 2 1 0 0∧Aw.look l0 2= .ptr 1 1 0 0∧Aw.look l0 1= .ptr 0 1 0 0),
    ∃a',CpI l a'∧l.length-a'.i<l.length-i∧Wk 0 (am 35 l0) (((h3++[o]).set id .dead++[AO.row 3 (rows++[r])]).set 2 (.row 1 [[.sl (h3.length+1) 3 0 (i+1)]])) (am 35 [(4,.p (.int .i64 a'.i)),(3,.ptr 2 1 0 0),(2,.ptr 1 1 0 0),(1,.ptr 0 1 0 0)]) a'.h:=by
    intro h3 r I2 l0 hl4 hg3 oR nR fR o ⟨e4,e3,e2,e1⟩
    obtain⟨J2,hJ,hJ4⟩:=KI hr hJ3 hid3 hl3 (xi (by omega) hg3) oR nR fR o (.row 1 [[.sl (h3.length+1) 3 0 (i+1)]])
    have hd:(l.map Fd.cs).take i++[f.cs]=(l.map Fd.cs).take (i+1):=by rw[List.take_add_one,hD];rfl
    rw[hd] at hJ
    refine⟨⟨i+1,h3.length+1,_⟩,⟨by simp only;omega,?_,?_,?_,fun _=>⟨by simp only;omega,_,J2,hJ,hJ4⟩⟩,by simp only;omega,eX (by simp) ?_⟩
    ·rw[RE (by omega),RD (by simp only[SH,RR,RW];omega),RE (by omega),RD (by omega),hg3 0 (by omega)];exact i2
    ·rw[RE (by omega),RD (by simp only[SH,RR,RW];omega),RE (by omega),RD (by omega),hg3 1 (by omega)];exact i3
    ·rw[RS (by simp;omega),cpK,if_neg (show¬(i+1=0) by omega)]
    ·simp[e1,e2,e3,e4,below]
     exact⟨w1 (i:=i) (by omega),by omega⟩
   simp-implicitDefEqProofs[i2,hfl,hg,hcs,hsp,xM, ↓j2, ↓j4]
   refine⟨⟨by omega,by omega⟩,?_⟩
   refine(AC.mkLift qo hB (by simp)).mono ?_
   rintro r h3 ⟨vB,IB,o1,rfl,e3,oB,nB,fB⟩
   obtain⟨B,rfl⟩:=fY oB
   simp at fB
   have hg3:∀j,j<h.length→h3[j]?=h[j]?:=fun j hj=>by rw[e3,Sg,RD hj]
   have p0:h3[h.length]?=some (.row 3 [[.p (.str f.name),.p (.lst 1 (f.params.map fun w=>[.str w])),.p (smL f.body)]]):=by
    rw[e3,Sg,RP (RN _),Nat.sub_self];rfl
   have p2:h3[h.length+2]?=some (gw f.params):=by
    rw[e3,Sg,RP (by omega),SE]
    simp[gw,Function.comp_def]
   have oP:=Bc p2 (n:=f.params.length) rfl
   have hl4:h.length+3≤h3.length:=by rw[e3];simp
   have q0:∀os,(h3++os)[2]?=some (.row 1 [[.sl id 3 0 i]]):=fun os=>by rw[RD (by omega),hg3 2 (by omega)];exact i4
   have q1:h3[2]?=some (.row 1 [[.sl id 3 0 i]]):=by rw[hg3 2 (by omega)];exact i4
   have q2:∀os,(h3++os)[h.length]?=some (.row 3 [[.p (.str f.name),.p (.lst 1 (f.params.map fun w=>[.str w])),.p (smL f.body)]]):=fun os=>by rw[RD (by omega)];exact p0
   clear p2
   have q4:∀x o y,((h3++x).set id o++y)[2]?=some (.row 1 [[.sl id 3 0 i]]):=fun x o y=>by
    rw[RD (by simp only[SH,RR];omega),RE (by omega),RD (by omega),hg3 2 (by omega)];exact i4
   have q3:∀os,(h3++os)[id]?=some (.row 3 rows):=fun os=>by rw[RD (by omega),hg3 id hidl];exact hr.here
   have hfR:∀j∈[h.length+2]++IB,h.length≤j:=fun j hj=>by
    rcases RJ.1 hj with hj|hj
    ·rw[RM.1 hj];omega
    ·have:=fB j hj;omega
   have hnR:([h.length+2]++IB).Nodup:=Sy.2 ⟨fun hm=>by have:=fB _ hm;omega,nB⟩
   rcases kL oB with⟨b1,rfl⟩|rfl|⟨x1,x2,x3,rfl⟩
   ·have oR:=pk (s:=true) (w:=f.name) oP oB
    simp-implicitDefEqProofs[aa,eZ, ↓q1, ↓p0, ↓q0, ↓q2, ↓q3, ↓q4,hrl]
    rw[RG (l:=rows) (i:=i) (by omega)]
    refine⟨⟨by omega,by omega⟩,?_⟩
    exact fin0 h3 _ _ _ hl4 hg3 oR hnR hfR _ (by simp)
   ·have oR:=pk (s:=true) (w:=f.name) oP oB
    simp-implicitDefEqProofs[aa,eZ, ↓q1, ↓p0, ↓q0, ↓q2, ↓q3, ↓q4,hrl]
    rw[RG (l:=rows) (i:=i) (by omega)]
    refine⟨⟨by omega,by omega⟩,?_⟩
    exact fin0 h3 _ _ _ hl4 hg3 oR hnR hfR _ (by simp)
   ·have oR:=pk (s:=true) (w:=f.name) oP oB
    simp-implicitDefEqProofs[aa,eZ, ↓q1, ↓p0, ↓q0, ↓q2, ↓q3, ↓q4,hrl]
    rw[RG (l:=rows) (i:=i) (by omega)]
    refine⟨⟨by omega,by omega⟩,?_⟩
    exact fin0 h3 _ _ _ hl4 hg3 oR hnR hfR _ (by simp)
 ·simp at h1
  have hie:i=l.length:=by omega
  subst hie
  have s1:∀x,(h.set 1 x)[1]?=some x:=fun x=>RS (by omega)
  by_cases hi0:l.length=0
  ·have hk:cpK ⟨l.length,id,h⟩= .nils:=if_pos hi0
   rw[hk] at i4
   simp-implicitDefEqProofs[i4,i3,s1]
   obtain rfl:=Sw hi0
   exact⟨[.nils],[],rfl,.nils 3 .nil,by simp⟩
  ·have hk:cpK ⟨l.length,id,h⟩= .sl id 3 0 l.length:=if_neg hi0
   rw[hk] at i4
   obtain⟨hid3,rows,J,hr,hJ3⟩:=i5 (by omega)
   rw[RG (by simp)] at hr
   simp-implicitDefEqProofs[i4,i3,s1]
   have ho:=hr.tree (n:=l.length) (by simp)
   exact⟨[.sl id 3 0 l.length],id::J,rfl,ho.set_out (fun hm=>by
    rcases RY.1 hm with hm|hm
    ·omega
    ·have:=hJ3 _ hm;omega) _,hr.nd⟩
end
section
variable (G:aM)
theorem CL{s:Bool}{b:List Int}{q:Nat}{T:List AO}{vs:List AV}{qs:List PV}{I:List Nat}(H:OwnL s (rdO b q::T) vs qs I)(hI:∀i∈I,1≤i)(o:AO):OwnL s (o::T) vs qs I:=
 H.frame fun i hi=>by
  have:=hI i hi
  obtain⟨k,rfl⟩:∃k,i=k+1:=⟨i-1,by omega⟩
  rfl
theorem Hr{b:List Int}{p q:Nat}{T:List AO}{v:AV}{l:List Fd}{I:List Nat}(H:OwnL true (rdO b q::T) [v] [fdL l] I)(hI:∀i∈I,1≤i)(hz:aJ l≤900000000)(h1:p≤q)(h2:q≤p+400500000):DP b (PgQ p 900000000 400500000) (.ret (.agg [v])) (rdO b q::T):=
 ⟨_,T,q,.agg [.p (fdL l)],rfl,rfl,.agg (.one ((CL H hI .dead).view 0 v _ rfl rfl) .nil) .nil,⟨l,rfl,hz⟩,h1,h2⟩
theorem Cr{l:List Sm}{k:Nat}{s0:Sm}(s:Sm)(h:l[k]?=some s0):aq (l.set k s)+s0.sz=aq l+s.sz:=by
 obtain⟨hk,h⟩:=RB.1 h
 subst h
 ·rw[fw s hk,bO]
  have e:l=l.take k++l.drop k:=(Sk _ _).symm
  have h1:aq l=aq (l.take k)+aq (l.drop k):=by rw[←bO,←e]
  have h4:aq (l.drop k)=l[k].sz+aq (l.drop (k+1)):=by rw[Sz hk];rfl
  simp only[aq]
  omega
theorem AT(l:List Ex)(k:Nat)(s:Ex):bC (l.set k s)≤bC l+s.sz:=by
 by_cases hk:k<l.length
 ·rw[fw s hk,fZ]
  have e:l=l.take k++l.drop k:=(Sk _ _).symm
  have h1:bC l=bC (l.take k)+bC (l.drop k):=by rw[←fZ,←e]
  have h4:bC (l.drop k)=l[k].sz+bC (l.drop (k+1)):=by rw[Sz hk];rfl
  simp only[bC]
  omega
 ·rw[List.set_eq_of_length_le (by omega)];omega
theorem ni{α:Type}{l:List α}{k:Nat}{x:α}(h:l[k]?=some x):l.set k x=l:=by
 apply List.ext_getElem?
 intro i
 by_cases hi:k=i
 ·subst hi;rw[RS (RB.1 h).1,h]
 ·rw[RE hi]
theorem JE{h:List AO}{id sz n m:Nat}{es:List (List PV)}(H:View h (.sl id sz 0 n) (.lst sz es))(hm:m≤es.length):View h (.sl id sz 0 m) (.lst sz (es.take m)):=by
 cases H with
 |sl _ _ _ rows _ e1 e2 e3 e4=>
  have hl:(es.take m).length=m:=by rw[RZ];omega
  have:=View.sl id sz 0 rows (es.take m) e1 (by omega) (fun e he=>e3 e (Sv he)) (fun i j e q e' a a1 a2 a3 a4=>by
   have hi:i<m:=by have:=(RB.1 a1).1;omega
   rw[List.getElem?_take_of_lt hi] at a1
   exact e4 i j e q e' a a1 a2 a3 a4)
  rwa[hl] at this
theorem It{b:List Int}(hb:Byt b)(hl:b.length≤2000){p:Nat}(hp:p≤5000000000):AC Tryz.prog G jK [.ptr 0 2 0 0] [rdO b p] fun x h=>∃v q,x= .ret v∧h=[rdO b q]∧PgQ p 900000000 400500000 v q:=by
 refine lU G (AC.go yn ?_)
 have hprog:AC Tryz.prog G cw [.ptr 0 2 0 0] [rdO b p] fun x h=>∃v q,x= .ret v∧h=[rdO b q]∧((∃l:List Fd,v= .agg [.p (fdL l)]∧bq l=true∧aJ l≤200000000)∧p≤q∧q≤p+200000000):=
  (Db G hb hl (by omega)).mono fun x h ⟨l,q,e1,e2,e3,e4,e5,e6⟩=>⟨_,q,e1,e2,⟨l,rfl,e3,e4⟩,e5,e6⟩
 simp-implicitDefEqProofs[rg]
 refine(iF G hprog _ (by simp[below])).mono ?_
 rintro r h ⟨v,q,rfl,rfl,⟨l,rfl,hok,hz⟩,h1,h2⟩
 have hlen:=((dH l).1 hok).1
 have hfd:=((dH l).1 hok).2.1
 simp-implicitDefEqProofs[aa]
 refine(aZ G b hb hl q (by omega) 5 _).mono ?_
 rintro r h ⟨k1,rfl,rfl,_⟩
 simp-implicitDefEqProofs[aa]
 refine bf (fun hc=>?_) (fun hc=>?_)
 ·simp-implicitDefEqProofs[]
  exact⟨_,_,q+1,.agg [.p (fdL l)],rfl,rfl,.keep (by simp) .nil,⟨l,rfl,by omega⟩,by omega,by omega⟩
 simp-implicitDefEqProofs[]
 refine(aZ G b hb hl (q+1) (by omega) 6 _).mono ?_
 rintro r h ⟨k2,rfl,rfl,_⟩
 simp-implicitDefEqProofs[aa]
 refine bf (fun hc2=>?_) (fun hc2=>?_)
 ·simp-implicitDefEqProofs[]
  refine(iF G (HL G hb hl (p:=q+1+1) (by omega)) _ (by simp[below])).mono ?_
  rintro r h ⟨v,q2,rfl,rfl,⟨l2,rfl,hz2⟩,h3,h4⟩
  simp-implicitDefEqProofs[aa]
  exact⟨_,_,q2,.agg [.p (fdL l2)],rfl,rfl,.keep (by simp) .nil,⟨l2,rfl,by omega⟩,by omega,by omega⟩
 simp-implicitDefEqProofs[]
 refine(AC.mkLift vO (Cl G l (by omega)) (by simp)).mono ?_
 rintro r h ⟨vs,I,os,rfl,rfl,ho,nd,hI⟩
 obtain⟨v,rfl⟩:=fY ho
 have hne:l.map Fd.cs≠[]:=by intro h;rw[List.map_eq_nil_iff] at h;rw[h] at hlen;simp at hlen
 simp at hI
 rcases ho.inv nd with⟨h0,_⟩|⟨h0,_⟩|⟨id,rowsF,JF,rfl,rfl,hF⟩
 ·exact absurd h0 hne
 ·cases h0
 have hid3:3≤id:=hI id (by simp)
 obtain⟨fF,rfl⟩:∃fF,id=fF+1:=⟨id-1,by omega⟩
 rw[RX]
 simp-implicitDefEqProofs[aa]
 have hF2:∀q',RowOwn true (rdO b q':: .row 1 [[.nils]]:: .row 1 [[.sl (fF+1) 3 0 l.length]]::os) (fF+1) 3 rowsF (l.map Fd.cs) JF:=fun q'=>hF.frame fun i hi=>by
  have:=hI i (by simpa using hi)
  obtain⟨k,rfl⟩:∃k,i=k+3:=⟨i-3,by omega⟩
  rfl
 have hI3:∀j∈JF,3≤j:=fun j hj=>hI j (by simp[hj])
 have hnF:=hF.nd
 clear hF ho
 obtain⟨T,hT⟩:∃T,T= .row 1 [[.nils]]:: .row 1 [[AV.sl (fF+1) 3 0 l.length]]::os:=⟨_,rfl⟩
 rw[←hT] at hF2⊢
 have t0:T[0]?=some (.row 1 [[.nils]]):=by rw[hT];rfl
 have t1:T[1]?=some (.row 1 [[.sl (fF+1) 3 0 l.length]]):=by rw[hT];rfl
 have tF:T[fF]?=some (.row 3 rowsF):=(hF2 0).here
 clear hT
 refine(aZ G b hb hl (q+1+1) (by omega) l.length _).mono ?_
 rintro r h ⟨k,rfl,rfl,hk⟩
 have hkl:k<l.length:=by omega
 have hgk:=RA hkl
 have hfk:=hfd _ (RH hkl)
 have hzk:=cJ (RH hkl)
 have hDk:(l.map Fd.cs)[k]?=some l[k].cs:=by rw[RQ,hgk];rfl
 generalize l[k]=f at hgk hfk hzk hDk
 obtain⟨rF,J1,Jk,J2,r1,rfl,r2,r5⟩:=(hF2 (q+1+1+1)).own.put (hF2 0).len (hF2 0).rl (hF2 0).dl hDk
 obtain⟨A,B,IA,IB,rfl,rfl,oA,oB⟩:=Kd r2
 have hltJ:∀j∈J1++(IA++IB++J2),j<T.length+1:=fun j hj=>by have:=(hF2 0).own.lt hj;simpa using this
 have hnd:=hnF
 rw[Sy] at hnd
 have hn1:fF+1∉J1++(IA++IB++J2):=hnd.1
 have hn2:=hnd.2
 have hIB:∀j∈IB,3≤j:=fun j hj=>hI3 j (by simp[hj])
 have nIB:IB.Nodup:=(Sr.1 (Sr.1 (Sr.1 hn2).2.1).1).2.1
 have hDl:(l.map Fd.cs).length=l.length:=by simp
 have finG:∀(U:List AO) (q':Nat) (B':AV) (I':List Nat) (sl':List Sm),(∀i,2≤i→i<T.length→i≠fF→i+1∉IB→U[i]?=T[i]?)→U[fF]?=some (.row 3 (rowsF.set k [.p (.str f.name),A,B']))→OwnL true (rdO b q'::U) [B'] [smL sl'] I'→(∀i∈I',1≤i)→
  aq sl'≤450000000→p≤q'→q'≤p+400500000→DP b (PgQ p 900000000 400500000) (.ret (.agg [.sl (fF+1) 3 0 l.length])) (rdO b q'::U):=by
  intro U q' B' I' sl' hU hUF oB' hI' hz' h3 h4
  have hfr:∀j∈J1++J2++IA,(rdO b q'::U)[j]?=(rdO b (q+1+1+1)::T)[j]?:=fun j hj=>by
   have hjm:j∈J1++(IA++IB++J2):=by simp only[RJ] at hj⊢;rcases hj with(hj|hj)|hj<;>simp[hj]
   have hj3:=hI3 j hjm
   have hjl:=hltJ j hjm
   obtain⟨i,rfl⟩:∃i,j=i+1:=⟨j-1,by omega⟩
   rw[RK,RK]
   refine hU i (by omega) (by omega) (fun e=>hn1 (e▸hjm)) fun hm=>?_
   simp only[Sr,RJ] at hn2
   obtain⟨n1,⟨⟨n2,n3,n4⟩,n5,n6⟩,n7⟩:=hn2
   simp only[RJ] at hj
   rcases hj with(hj|hj)|hj
   ·exact n7 _ hj _ (.inl (.inr hm)) rfl
   ·exact n6 _ (.inr hm) _ hj rfl
   ·exact n4 _ hj _ hm rfl
  have oR:=pk (s:=true) (w:=f.name) (oA.frame fun i hi=>hfr i (by simp[hi])) oB'
  have oW:=r5 (rdO b q'::U) _ _ _ (fun j hj=>hfr j (by simp only[RJ] at hj⊢;exact .inl hj)) oR
  have hD':(l.map Fd.cs).set k (Fd.mk f.name f.params sl').cs=(l.set k ⟨f.name,f.params,sl'⟩).map Fd.cs:=by rw[List.map_set]
  have tree:=OwnL.sl (s:=true) (h:=rdO b q'::U) (fF+1) 3 l.length (rowsF.set k [.p (.str f.name),A,B']) ((l.map Fd.cs).set k (Fd.mk f.name f.params sl').cs) hUF (by simp) (by have:=(hF2 0).len;simpa using this) (fun e he=>by
   rcases Si he with h|rfl
   ·exact(hF2 0).rl e h
   ·rfl) (fun e he=>by
   rcases Si he with h|rfl
   ·exact(hF2 0).dl e h
   ·rfl) oW .nil
  rw[hD'] at tree
  have hsz:=BC l k ⟨f.name,f.params,sl'⟩
  have hfz:f.sz=1+f.name.length+(f.params.length+(f.params.map List.length).sum)+aq f.body:=rfl
  have hfz':(Fd.mk f.name f.params sl').sz=1+f.name.length+(f.params.length+(f.params.map List.length).sum)+aq sl':=rfl
  refine Hr (l:=l.set k ⟨f.name,f.params,sl'⟩) tree (fun i hi=>?_) (by omega) h3 h4
  simp only[RY,RJ,List.not_mem_nil,or_false] at hi
  rcases hi with rfl|hi|(hi|hi)|hi
  ·omega
  ·have:=hI3 i (by simp[hi]);omega
  ·have:=hI3 i (by simp[hi]);omega
  ·exact hI' i hi
  ·have:=hI3 i (by simp[hi]);omega
 have hset:rowsF.set k [.p (.str f.name),A,B]=rowsF:=by
  apply List.ext_getElem?
  intro i
  by_cases hi:k=i
  ·subst hi;rw[RS (RB.1 r1).1,r1]
  ·rw[RE hi]
 have hf2:2≤fF:=by omega
 have s0:∀x,(T.set 0 x)[0]?=some x:=fun x=>RS (by have:=(RB.1 t0).1;omega)
 have hbz:f.sz=1+f.name.length+(f.params.length+(f.params.map List.length).sum)+aq f.body:=rfl
 simp-implicitDefEqProofs[aa,t0,t1,tF,r1,hkl]
 have fin0:∀q' x,p≤q'→q'≤p+400500000→DP b (PgQ p 900000000 400500000) (.ret (.agg [.sl (fF+1) 3 0 l.length])) (rdO b q'::T.set 0 x):=fun q' x h3 h4=>
  finG (T.set 0 x) q' B IB f.body (fun i h1 _ _ _=>RE (by omega)) (by rw[RE (by omega),hset];exact tF) (oB.frame fun j hj=>by
   have:=hIB j hj
   obtain⟨i,rfl⟩:∃i,j=i+1:=⟨j-1,by omega⟩
   rw[RK,RK,RE (by omega)]) (fun i hi=>by have:=hIB i hi;omega) (by omega) h3 h4
 rcases oB.inv nIB with⟨h0,_,rfl|rfl⟩|⟨h0,_⟩|⟨idB,rowsB,JB,rfl,rfl,hB⟩
 ·simp-implicitDefEqProofs[t0,t1,s0]
  exact fin0 _ _ (by omega) (by omega)
 ·simp-implicitDefEqProofs[t0,t1,s0]
  exact fin0 _ _ (by omega) (by omega)
 ·cases h0
 rw[RX] at*
 by_cases hbe:f.body.length=0
 ·simp-implicitDefEqProofs[hbe,t0,t1,s0]
  have:=fin0 (q+1+1+1) (.row 1 [[.sl (fF+1) 3 0 l.length]]) (by omega) (by omega)
  exact this
 simp-implicitDefEqProofs[hbe,t0,t1,tF,r1]
 refine(aZ G b hb hl (q+1+1+1) (by omega) f.body.length _).mono ?_
 rintro r h ⟨j,rfl,rfl,hj⟩
 have hjl:j<f.body.length:=by omega
 obtain⟨fB,rfl⟩:∃fB,idB=fB+1:=⟨idB-1,by have:=hIB idB (by simp);omega⟩
 have hB3:=hIB (fB+1) (by simp)
 have tB:T[fB]?=some (.row 5 rowsB):=hB.here
 have hgj:=RA hjl
 have hzj:=bD (RH hjl)
 have hok5:au 4 f.body[j]=true:=by
  simp only[ia,RL] at hfk
  exact RF.1 hfk.2 _ (RH hjl)
 have hDj:(f.body.map Sm.cs)[j]?=some f.body[j].cs:=by rw[RQ,hgj];rfl
 generalize f.body[j]=sm at hgj hzj hok5 hDj
 obtain⟨rB,K1,Kj,K2,u1,rfl,u2,u5⟩:=hB.own.put hB.len hB.rl hB.dl hDj
 obtain⟨A1,B1,E1,I1,I2,I3,rfl,rfl,oA1,oB1,oE1⟩:=HQ u2
 simp-implicitDefEqProofs[aa,hjl,t0,t1,tF,r1,tB,u1]
 refine(BE G hb hl (p:=q+1+1+1+1) (by omega) [[122,122],[97],[98],[99],[100]] (k:=T.length+1) (by simp) (by simp) (by omega) rfl (by simp[gw])).mono ?_
 rintro r h ⟨s,hs,rfl,rfl⟩
 have hs8:s.length≤8:=by simp at hs;rcases hs with rfl|rfl|rfl|rfl|rfl<;>simp
 have nB:=nIB
 rw[Sy] at nB
 have finS:∀(U:List AO) (q':Nat) (o':Int) (nm':List UInt8) (A':AV) (I':List Nat) (ar':List Ex),(∀i,2≤i→i<T.length→i≠fB→i+1∉I1→U[i]?=T[i]?)→U[fB]?=some (.row 5 (rowsB.set j [.p (.int .i64 o'),.p (.str nm'),A',B1,E1]))→OwnL true (rdO b q'::U) [A'] [exL ar'] I'→(∀i∈I',1≤i)→
  bC ar'+nm'.length≤bC sm.args+sm.name.length+1000→p≤q'→q'≤p+400500000→DP b (PgQ p 900000000 400500000) (.ret (.agg [.sl (fF+1) 3 0 l.length])) (rdO b q'::U):=by
  intro U q' o' nm' A' I' ar' hU hUB oA' hI' hz' h3 h4
  have hmem:∀x∈K1++K2++I2++I3,x∈K1++(I1++(I2++I3)++K2):=fun x hx=>by
   simp only[RJ] at hx⊢
   rcases hx with((hx|hx)|hx)|hx<;>simp[hx]
  have hltB:∀x∈K1++(I1++(I2++I3)++K2),x<T.length+1:=fun x hx=>by have:=hB.own.lt hx;simpa using this
  have hfr:∀x∈K1++K2++I2++I3,(rdO b q'::U)[x]?=(rdO b (q+1+1+1)::T)[x]?:=fun x hx=>by
   have hm:=hmem x hx
   have hx3:=hIB x (Sx _ hm)
   have hxl:=hltB x hm
   obtain⟨i,rfl⟩:∃i,x=i+1:=⟨x-1,by omega⟩
   rw[RK,RK]
   refine hU i (by omega) (by omega) (fun e=>nB.1 (e▸hm)) fun hm1=>?_
   have hn:=nB.2
   simp only[Sr,RJ] at hn
   obtain⟨n1,⟨⟨n2,⟨n3,n3',n3''⟩,n4⟩,n5,n6⟩,n7⟩:=hn
   simp only[RJ] at hx
   rcases hx with((hx|hx)|hx)|hx
   ·exact n7 _ hx _ (.inl (.inl hm1)) rfl
   ·exact n6 _ (.inl hm1) _ hx rfl
   ·exact n4 _ hm1 _ (.inl hx) rfl
   ·exact n4 _ hm1 _ (.inr hx) rfl
  have oS:=CP (s:=true) (o:=o') (w:=nm') oA' (oB1.frame fun i hi=>hfr i (by simp[hi])) (oE1.frame fun i hi=>hfr i (by simp[hi]))
  have oW:=u5 (rdO b q'::U) _ _ _ (fun x hx=>hfr x (by simp only[RJ] at hx⊢;exact .inl (.inl hx))) oS
  have hD':(f.body.map Sm.cs).set j (Sm.mk o' nm' ar' sm.body sm.els).cs=(f.body.set j ⟨o',nm',ar',sm.body,sm.els⟩).map Sm.cs:=by rw[List.map_set]
  have tree:=OwnL.sl (s:=true) (h:=rdO b q'::U) (fB+1) 5 f.body.length (rowsB.set j [.p (.int .i64 o'),.p (.str nm'),A',B1,E1]) ((f.body.map Sm.cs).set j (Sm.mk o' nm' ar' sm.body sm.els).cs) hUB (by simp) (by have:=hB.len;simpa using this) (fun e he=>by
   rcases Si he with h|rfl
   ·exact hB.rl e h
   ·rfl) (fun e he=>by
   rcases Si he with h|rfl
   ·exact hB.dl e h
   ·exact Sm.cs_len _) oW .nil
  rw[hD'] at tree
  have hsz:=Cr (s:=⟨o',nm',ar',sm.body,sm.els⟩) hgj
  have hsm:=sm.sz_eq
  have hsm':(Sm.mk o' nm' ar' sm.body sm.els).sz=1+nm'.length+bC ar'+aq sm.body+aq sm.els:=rfl
  have hFB:fF≠fB:=fun e=>hn1 (by rw[e];simp)
  have hFI:fF+1∉I1:=fun hm=>hn1 (by simp[hm])
  have hFT:fF<T.length:=(RB.1 tF).1
  refine finG U q' (.sl (fB+1) 5 0 f.body.length) _ (f.body.set j ⟨o',nm',ar',sm.body,sm.els⟩) (fun i g1 g2 g3 g4=>hU i g1 g2 (fun e=>g4 (by rw[e];simp)) fun hm=>g4 (by simp[hm])) (by rw[hU fF hf2 hFT hFB hFI,hset];exact tF) tree (fun i hi=>?_) (by omega) h3 h4
  simp only[RY,RJ,List.not_mem_nil,or_false] at hi
  rcases hi with rfl|hi|(hi|hi|hi)|hi
  ·omega
  ·have:=hIB i (by simp[hi]);omega
  ·exact hI' i hi
  ·have:=hIB i (by simp[hi]);omega
  ·have:=hIB i (by simp[hi]);omega
  ·have:=hIB i (by simp[hi]);omega
 have hTl:2≤T.length:=by have:=(RB.1 t1).1;omega
 have hBT:fB<T.length:=(RB.1 tB).1
 have hI1:∀i∈I1,3≤i∧i<T.length+1:=fun i hi=>⟨hIB i (by simp[hi]),by have:=oA1.lt hi;simpa using this⟩
 have oA1u:∀(U:List AO) (q':Nat),(∀i,2≤i→i<T.length→i+1∈I1→U[i]?=T[i]?)→OwnL true (rdO b q'::U) [A1] [exL sm.args] I1:=fun U q' hU=>oA1.frame fun x hx=>by
  obtain⟨h3,h4⟩:=hI1 x hx
  obtain⟨i,rfl⟩:∃i,x=i+1:=⟨x-1,by omega⟩
  rw[RK,RK]
  exact hU i (by omega) (by omega) hx
 have hsmz:=sm.sz_eq
 have finU:∀(U:List AO) (q':Nat),(∀i,2≤i→i<T.length→U[i]?=T[i]?)→p≤q'→q'≤p+400500000→DP b (PgQ p 900000000 400500000) (.ret (.agg [.sl (fF+1) 3 0 l.length])) (rdO b q'::U):=fun U q' hU h3 h4=>
  finS U q' sm.op sm.name A1 I1 sm.args (fun i a1 a2 _ _=>hU i a1 a2) (by rw[hU fB (by omega) hBT,ni u1];exact tB) (oA1u U q' fun i a1 a2 _=>hU i a1 a2) (fun i hi=>by have:=(hI1 i hi).1;omega) (by omega) h3 h4
 have a0:∀os,(T++os)[0]?=some (.row 1 [[.nils]]):=fun os=>by rw[RD (RB.1 t0).1];exact t0
 have a1:∀os,(T++os)[1]?=some (.row 1 [[.sl (fF+1) 3 0 l.length]]):=fun os=>by rw[RD (RB.1 t1).1];exact t1
 have aF:∀os,(T++os)[fF]?=some (.row 3 rowsF):=fun os=>by rw[RD (RB.1 tF).1];exact tF
 have aB:∀os,(T++os)[fB]?=some (.row 5 (rowsB)):=fun os=>by rw[RD (RB.1 tB).1];exact tB
 simp-implicitDefEqProofs[aa]
 refine(aZ G b hb hl (q+1+1+1+1+1) (by omega) 4 _).mono ?_
 rintro r h ⟨k3,rfl,rfl,_⟩
 have nI1:I1.Nodup:=(Sr.1 (Sr.1 (Sr.1 nB.2).2.1).1).1
 have hargs:0<sm.args.length:=by
  simp only[au,eU,RL,decide_eq_true_eq] at hok5
  have:=hok5.1.1.1.1.1.1.1.1.2
  rw[this];unfold jc;split<;>omega
 have hA0:sm.args.map Ex.cs≠[]:=by intro h;rw[List.map_eq_nil_iff] at h;rw[h] at hargs;simp at hargs
 obtain⟨idA,rowsA,JA,rfl,rfl,hA⟩:∃id rows J,A1= .sl id 4 0 sm.args.length∧I1=id::J∧RowOwn true (rdO b (q+1+1+1)::T) id 4 rows (sm.args.map Ex.cs) J:=by
  rcases oA1.inv nI1 with⟨h0,_⟩|⟨h0,_⟩|⟨id,rows,J,e1,e2,e3⟩
  ·exact absurd h0 hA0
  ·cases h0
  ·rw[RX] at e1;exact⟨id,rows,J,e1,e2,e3⟩
 obtain⟨fA,rfl⟩:∃fA,idA=fA+1:=⟨idA-1,by have:=(hI1 idA (by simp)).1;omega⟩
 have hA3:=hI1 (fA+1) (by simp)
 have tA:T[fA]?=some (.row 4 rowsA):=hA.here
 have aA:∀os,(T++os)[fA]?=some (.row 4 rowsA):=fun os=>by rw[RD (by omega)];exact tA
 have hg0:=RA hargs
 have hz0:=aT (RH hargs)
 have hD0:(sm.args.map Ex.cs)[0]?=some sm.args[0].cs:=by rw[RQ,hg0];rfl
 generalize sm.args[0]=e0 at hg0 hz0 hD0
 obtain⟨r0,L1,L0,L2,g1,rfl,g3,g5⟩:=hA.own.put hA.len hA.rl hA.dl hD0
 obtain⟨K0,rfl,_⟩:=Ec g3
 have nA:=nI1
 rw[Sy] at nA
 have finA:∀(U:List AO) (q':Nat) (o n:Int) (w:List UInt8) (K:AV) (IK:List Nat) (ks:List Ex),(∀i,2≤i→i<T.length→i≠fA→U[i]?=T[i]?)→U[fA]?=some (.row 4 (rowsA.set 0 [.p (.int .i64 o),.p (.int .i64 n),.p (.str w),K]))→OwnL true (rdO b q'::U) [K] [exL ks] IK→(∀i∈IK,1≤i)→
  (Ex.mk o n w ks).sz≤500→p≤q'→q'≤p+400500000→DP b (PgQ p 900000000 400500000) (.ret (.agg [.sl (fF+1) 3 0 l.length])) (rdO b q'::U):=by
  intro U q' o n w K IK ks hU hUA oK hIK hz' h3 h4
  have hfr:∀x∈L1++L2,(rdO b q'::U)[x]?=(rdO b (q+1+1+1)::T)[x]?:=fun x hx=>by
   have hm:x∈L1++(L0++L2):=by
    simp only[RJ] at hx⊢
    rcases hx with hx|hx
    ·exact .inl hx
    ·exact .inr (.inr hx)
   obtain⟨hx3,hx4⟩:=hI1 x (Sx _ hm)
   obtain⟨i,rfl⟩:∃i,x=i+1:=⟨x-1,by omega⟩
   rw[RK,RK]
   exact hU i (by omega) (by omega) fun e=>nA.1 (e▸hm)
  have oW:=g5 (rdO b q'::U) _ _ _ hfr (Kw (o:=o) (n:=n) (w:=w) oK)
  have hD':(sm.args.map Ex.cs).set 0 (Ex.mk o n w ks).cs=(sm.args.set 0 ⟨o,n,w,ks⟩).map Ex.cs:=by rw[List.map_set]
  have tree:=OwnL.sl (s:=true) (h:=rdO b q'::U) (fA+1) 4 sm.args.length (rowsA.set 0 [.p (.int .i64 o),.p (.int .i64 n),.p (.str w),K]) ((sm.args.map Ex.cs).set 0 (Ex.mk o n w ks).cs) hUA (by simp) (by have:=hA.len;simpa using this) (fun e he=>by
   rcases Si he with h|rfl
   ·exact hA.rl e h
   ·rfl) (fun e he=>by
   rcases Si he with h|rfl
   ·exact hA.dl e h
   ·exact Ex.cs_len _) oW .nil
  rw[hD'] at tree
  have hsz:=AT sm.args 0 ⟨o,n,w,ks⟩
  have hBA:fB≠fA:=fun e=>nB.1 (by rw[e];simp)
  refine finS U q' sm.op sm.name (.sl (fA+1) 4 0 sm.args.length) _ (sm.args.set 0 ⟨o,n,w,ks⟩) (fun i g1 g2 _ g4=>hU i g1 g2 fun e=>g4 (by rw[e];simp)) (by rw[hU fB (by omega) hBT hBA,ni u1];exact tB) tree (fun i hi=>?_) (by omega) h3 h4
  simp only[RY,RJ,List.not_mem_nil,or_false] at hi
  rcases hi with rfl|hi|hi|hi
  ·omega
  ·have:=(hI1 i (by simp[hi])).1;omega
  ·exact hIK i hi
  ·have:=(hI1 i (by simp[hi])).1;omega
 have w0:∀os x,((T++os).set 0 x)[0]?=some x:=fun os x=>RS (by simp only[RR];omega)
 have v0:∀os x,((T++os).set fA x)[0]?=some (.row 1 [[.nils]]):=fun os x=>by rw[RE (by omega)];exact a0 os
 have v1:∀os x,((T++os).set fA x)[1]?=some (.row 1 [[.sl (fF+1) 3 0 l.length]]):=fun os x=>by rw[RE (by omega)];exact a1 os
 have v2:∀os x y,(((T++os).set fA x).set 0 y)[0]?=some y:=fun os x y=>RS (by simp only[SH,RR];omega)
 have hv:∀os x y (i:Nat),2≤i→i<T.length→i≠fA→(((T++os).set fA x).set 0 y)[i]?=T[i]?:=fun os x y i h1 h2 h3=>by
  rw[RE (by omega),RE (by omega),RD h2]
 have aE:∀x y os,(T++x::y::os)[T.length+1]?=some y:=fun x y os=>by rw[RP (by omega),SE];rfl
 have aE2:∀x y z os,(T++x::y::os).set (T.length+1) z=T++x::z::os:=fun x y z os=>by rw[List.set_append_right _ _ (by omega),SE];rfl
 by_cases c1:k3=1
 ·subst c1
  simp-implicitDefEqProofs[aa, ↓a0, ↓a1, ↓aF, ↓aB,u1,hjl]
  refine bf (fun hn=>?_) (fun hn=>?_)
  ·simp-implicitDefEqProofs[]
   refine(BE G hb hl (p:=q+1+1+1+1+1+1) (by omega) [[97],[98],[122,122],[99],[100]] (k:=T.length+2+1) (by simp) (by simp) (by omega) rfl (by simp[gw])).mono ?_
   rintro r h ⟨s2,hs2,rfl,rfl⟩
   have hs28:s2.length≤8:=by simp at hs2;rcases hs2 with rfl|rfl|rfl|rfl|rfl<;>simp
   have v0:∀os x,((T++os).set fB x)[0]?=some (.row 1 [[.nils]]):=fun os x=>by rw[RE (by omega)];exact a0 os
   have v1:∀os x,((T++os).set fB x)[1]?=some (.row 1 [[.sl (fF+1) 3 0 l.length]]):=fun os x=>by rw[RE (by omega)];exact a1 os
   have v2:∀os x y,(((T++os).set fB x).set 0 y)[0]?=some y:=fun os x y=>RS (by simp only[SH,RR];omega)
   simp-implicitDefEqProofs[aa, ↓a0, ↓a1, ↓aF, ↓aB,u1,hjl, ↓v0, ↓v1, ↓v2,-getElem?_pos,List.getElem?_cons_zero,RK]
   have hv:∀os x y (i:Nat),2≤i→i<T.length→i≠fB→(((T++os).set fB x).set 0 y)[i]?=T[i]?:=fun os x y i h1 h2 h3=>by
    rw[RE (by omega),RE (by omega),RD h2]
   refine finS _ _ sm.op s2 (.sl (fA+1) 4 0 sm.args.length) _ sm.args ?_ ?_ (oA1u _ _ ?_) (fun i hi=>by have:=(hI1 i hi).1;omega) (by omega) (by omega) (by omega)
   ·intro i h1 h2 h3 _;exact hv _ _ _ i h1 h2 h3
   ·rw[RE (by omega),RS (by simp only[RR];omega)]
   ·intro i h1 h2 h3
    exact hv _ _ _ i h1 h2 (fun e=>nB.1 (by rw[←e];simp only[RJ];exact .inr (.inl (.inl h3))))
  ·simp-implicitDefEqProofs[↓a0, ↓a1, ↓w0,-getElem?_pos,List.getElem?_cons_zero,RK]
   refine finU _ _ ?_ (by omega) (by omega)
   intro i h1 h2
   rw[RE (by omega),RD h2]
 by_cases c2:k3=2
 ·subst c2
  have hw:∀(q':Nat) (os:List AO),OwnL true (rdO b q'::(T++os)) [.sl (fB+1) 5 0 f.body.length] [smL f.body] ((fB+1)::(K1++(((fA+1)::(L1++(L0++L2)))++(I2++I3)++K2))):=fun q' os=>oB.frame fun x hx=>by
   have h3:=hIB x hx
   have h4:x<T.length+1:=by have:=oB.lt hx;simpa using this
   obtain⟨i,rfl⟩:∃i,x=i+1:=⟨x-1,by omega⟩
   rw[RK,RK,RD (by omega)]
  have hv1:∀(q':Nat) (os:List AO),View (rdO b q'::(T++os)) (.sl (fB+1) 5 0 1) (smL (f.body.take 1)):=fun q' os=>by
   have:=JE (m:=1) ((hw q' os).view 0 _ _ rfl rfl) (by simp;omega)
   rw[←List.map_take] at this
   exact this
  have hz1:aq (f.body.take 1)≤aq f.body:=by
   have e:f.body=f.body.take 1++f.body.drop 1:=(Sk _ _).symm
   have:aq f.body=aq (f.body.take 1)+aq (f.body.drop 1):=by rw[←bO,←e]
   omega
  have hS:=uh G _ (f.body.take 1) (Nat.lt_succ_self _) (by omega)
  simp-implicitDefEqProofs[aa, ↓a0, ↓a1, ↓aF, ↓aB,r1,hkl]
  refine⟨by omega,?_⟩
  refine(AC.mkLend qo hS (.one (hv1 _ _) .nil)).mono ?_
  rintro r h ⟨vs,IN,os2,rfl,rfl,oN,nN,hN⟩
  obtain⟨vN,rfl⟩:=fY oN
  have hl1:(f.body.take 1).length=1:=by rw[RZ];omega
  have hneN:(f.body.take 1).map Sm.cs≠[]:=by intro h;rw[List.map_eq_nil_iff] at h;rw[h] at hl1;simp at hl1
  obtain⟨idN,rowsN,JN,rfl,rfl,hRN⟩:∃id rows J,vN= .sl id 5 0 1∧IN=id::J∧RowOwn true _ id 5 rows ((f.body.take 1).map Sm.cs) J:=by
   rcases oN.inv nN with⟨h0,_⟩|⟨h0,_⟩|⟨id,rows,J,e1,e2,e3⟩
   ·exact absurd h0 hneN
   ·cases h0
   ·rw[RX,hl1] at e1;exact⟨id,rows,J,e1,e2,e3⟩
  have hidN:=hN idN (by simp)
  simp at hidN
  obtain⟨fN,rfl⟩:∃fN,idN=fN+1:=⟨idN-1,by omega⟩
  have hFT:fF<T.length:=(RB.1 tF).1
  have tN:=hRN.here
  simp only[Sj,Sg,RK,List.nil_append] at tN
  have hrN:rowsN.length=1:=by have:=hRN.len;rw[RX,hl1] at this;exact this
  have hrB:rowsB.length=f.body.length:=by have:=hB.len;simpa using this
  have z1:∀os o y,((T++os).set fB o++y)[fF]?=some (.row 3 rowsF):=fun os o y=>by
   rw[RD (by simp only[SH,RR];omega),RE (fun e=>hn1 (by rw[←e];simp))];exact aF os
  have z2:∀os o y x,(((T++os).set fB o++y).set fF x)[0]?=some (.row 1 [[.nils]]):=fun os o y x=>by
   rw[RE (by omega),RD (by simp only[SH,RR];omega),RE (by omega)];exact a0 os
  have z3:∀os o y x,(((T++os).set fB o++y).set fF x)[1]?=some (.row 1 [[.sl (fF+1) 3 0 l.length]]):=fun os o y x=>by
   rw[RE (by omega),RD (by simp only[SH,RR];omega),RE (by omega)];exact a1 os
  have z4:∀os o y x w,((((T++os).set fB o++y).set fF x).set 0 w)[0]?=some w:=fun os o y x w=>RS (by simp only[SH,RR];omega)
  simp-implicitDefEqProofs[aa,eZ, ↓a0, ↓a1, ↓aF, ↓aB, ↓tN, ↓z1, ↓z2, ↓z3, ↓z4,r1,hkl,hrN,hrB,-getElem?_pos,List.getElem?_cons_zero,RK]
  rw[RG (l:=rowsB) (by omega),RG (l:=rowsN) (by omega)]
  have hbl:=bk f.body
  refine⟨⟨by omega,by omega⟩,?_⟩
  have hJB:∀x∈K1++(((fA+1)::(L1++(L0++L2)))++(I2++I3)++K2),3≤x∧x<T.length+1∧x≠fF+1∧x≠fB+1:=fun x hx=>⟨hIB x (Sx _ hx),by have:=hB.own.lt hx;simpa using this,fun e=>hn1 (by rw[←e];simp only[RJ];exact .inr (.inl (.inr (Sx _ hx)))),fun e=>nB.1 (e▸hx)⟩
  have hJN:∀x∈JN,T.length+3≤x∧x<T.length+3+os2.length:=fun x hx=>⟨by have:=hN x (by simp[hx]);simp at this;omega,by have:=hRN.own.lt hx;simp at this;omega⟩
  have nle:∀(W:List AO) (fo bo:AO) (x y:AO),∀i,2≤i→i<T.length→i≠fF→i≠fB→(((((T++W).set fB bo)++[y]).set fF fo).set 0 x)[i]?=T[i]?:=fun W fo bo x y i h1 h2 h3 h4=>by
   rw[RE (by omega),RE (by omega),RD (by simp only[SH,RR];omega),RE (by omega),RD h2]
  have nri:∀(W:List AO) (fo bo:AO) (x y:AO),∀i,T.length≤i→i<(T++W).length→(((((T++W).set fB bo)++[y]).set fF fo).set 0 x)[i]?=(T++W)[i]?:=fun W fo bo x y i h1 h2=>by
   rw[RE (by omega),RE (by omega),RD (by simpa using h2),RE (by omega)]
  have hbl2:=bk f.body
  have hzN:aq (f.body++f.body.take 1)≤400000000:=by rw[bO];omega
  refine finG _ _ (.sl (T.length+(os2.length+1+1)+1) 5 0 (f.body.length+1)) ((T.length+(os2.length+1+1)+1)::((K1++(((fA+1)::(L1++(L0++L2)))++(I2++I3)++K2))++JN++[])) (f.body++f.body.take 1) (fun i g1 g2 g3 g4=>nle _ _ _ _ _ i g1 g2 g3 (fun e=>g4 (by rw[e];simp))) ?_ ?_ ?_ (by omega) (by omega) (by omega)
  ·rw[RE (by omega),RS (by simp only[SH,RR];omega)]
  ·refine OwnL.sl _ 5 (f.body.length+1) (rowsB++rowsN) ((f.body++f.body.take 1).map Sm.cs) ?_ (by rw[RX,RR,hl1]) (by rw[RR,RX,RR,hl1,hrB,hrN]) (fun e he=>?_) (fun e he=>by obtain⟨x,_,rfl⟩:=RU.1 he;simp) ?_ .nil
   ·rw[RK,RE (by omega),RE (by omega),RP (by simp)]
    simp
   ·rcases RJ.1 he with h|h
    ·exact hB.rl e h
    ·exact hRN.rl e h
   ·rw[List.map_append,SC,SC]
    refine(hB.own.frame fun x hx=>?_).app (hRN.own.frame fun x hx=>?_)
    ·obtain⟨x1,x2,x3,x4⟩:=hJB x hx
     obtain⟨i,rfl⟩:∃i,x=i+1:=⟨x-1,by omega⟩
     rw[RK,RK]
     exact nle _ _ _ _ _ i (by omega) (by omega) (by omega) (by omega)
    ·obtain⟨x1,x2⟩:=hJN x hx
     obtain⟨i,rfl⟩:∃i,x=i+1:=⟨x-1,by omega⟩
     simp only[Sj,Sg,RK,List.nil_append]
     exact nri _ _ _ _ _ i (by omega) (by simp;omega)
  ·intro i hi
   simp only[RY,RJ,List.not_mem_nil,or_false] at hi
   rcases hi with rfl|hi|hi
   ·omega
   ·have:=(hJB i (by simp only[RY,RJ];exact hi)).1;omega
   ·have:=(hJN i hi).1;omega
 by_cases c0:k3=0
 ·subst c0
  simp-implicitDefEqProofs[aa]
  refine(BE G hb hl (p:=q+1+1+1+1+1+1) (by omega) [[102],[103],[109],[113]] (k:=T.length+2+1) (by simp) (by simp) (by omega) rfl (by simp[gw])).mono ?_
  rintro r h ⟨s2,hs2,rfl,rfl⟩
  have hs28:s2.length≤8:=by simp at hs2;rcases hs2 with rfl|rfl|rfl|rfl<;>simp
  simp-implicitDefEqProofs[aa, ↓a0, ↓a1, ↓aB,u1,hjl, ↓aE, ↓aE2,-getElem?_pos,List.getElem?_cons_zero,RK]
  refine bf (fun hn=>?_) (fun hn=>?_)
  ·simp-implicitDefEqProofs[↓a0, ↓a1, ↓aB, ↓aA,u1,hjl,g1,hargs, ↓v0, ↓v1, ↓v2, ↓aE,-getElem?_pos,List.getElem?_cons_zero,RK]
   refine finA _ _ 13 0 s2 (.sl (T.length+3+1) 4 0 1) [T.length+3+1] [⟨1,1,[],[]⟩] (fun i h1 h2 h3=>hv _ _ _ i h1 h2 h3) ?_ ?_ (by simp) (by simp[Ex.sz,bC];omega) (by omega) (by omega)
   ·rw[RE (by omega),RS (by simp only[RR];omega)]
   ·refine RowOwn.tree (rows:=[[.p (.int .i64 1),.p (.int .i64 1),.p (.str []),.nils]]) (J:=[]) ⟨?_,rfl,by simp,by simp,?_,by simp⟩ rfl
    ·rw[RK,RE (by omega),RE (by omega),RP (by omega),SE];rfl
    ·simpa using Kw (s:=true) (o:=1) (n:=1) (w:=[]) (k:=[]) (.nils 4 .nil)
  ·simp-implicitDefEqProofs[↓a0, ↓a1, ↓w0,-getElem?_pos,List.getElem?_cons_zero,RK]
   refine finU _ _ ?_ (by omega) (by omega)
   intro i h1 h2
   rw[RE (by omega),RD h2]
 have d1:¬(k3:Int)=1:=by omega
 have d2:¬(k3:Int)=2:=by omega
 simp-implicitDefEqProofs[aa,c0,d1,d2, ↓a0, ↓a1, ↓aF, ↓aB,u1,hjl]
 refine bf (fun hn=>?_) (fun hn=>?_)
 ·simp-implicitDefEqProofs[↓a0, ↓a1, ↓aB, ↓aA,u1,hjl,g1,hargs, ↓v0, ↓v1, ↓v2, ↓aE,-getElem?_pos,List.getElem?_cons_zero,RK]
  refine finA _ _ 2 0 s .nils [] [] (fun i h1 h2 h3=>hv _ _ _ i h1 h2 h3) ?_ (.nils 4 .nil) (by simp) (by simp[Ex.sz,bC];omega) (by omega) (by omega)
  rw[RE (by omega),RS (by simp only[RR];omega)]
 ·simp-implicitDefEqProofs[↓a0, ↓a1, ↓w0,-getElem?_pos,List.getElem?_cons_zero,RK]
  refine finU _ _ ?_ (by omega) (by omega)
  intro i h1 h2
  rw[RE (by omega),RD h2]
end
section
abbrev Sc5:=List (List UInt8 × Int)
structure S5 where (left:Nat) (said:List Int) (cells:List Int)
inductive O5 (α:Type) where
 |ok (a:α)
 |st (c:Int)
def tr5(b:Bool):Int:=if b then 1 else 0
def DZ(op a b:Int):Option Int:=
 if op=3 then some ((a+b)%256) else if op=4 then some ((a-b+256)%256) else if op=5 then some (a*b%256) else if op=8 then some (tr5 (decide (a<b))) else if op=9 then some (tr5 (decide (a=b)))
 else if b=0 then none else if op=6 then some (a/b) else some (a%b)
def S5.put(s:S5)(i:Nat)(n:Int):S5:=⟨s.left,s.said,s.cells.set i n⟩
def S5.at_(s:S5)(F:Nat):S5:=⟨F,s.said,s.cells⟩
def V5(n:Int):Prop:=0≤n∧n≤255
end
section
structure G5 (s:S5):Prop where
 len:s.cells.length=16
 cells:∀c∈s.cells,V5 c
 said:∀c∈s.said,V5 c
def GE5(v:List Sc5):Prop:=∀m∈v,∀x∈m,V5 x.2
theorem tt(b:Bool):V5 (tr5 b):=by cases b<;>simp[tr5,V5]
theorem GG{op a b n:Int}(ha:V5 a)(hb:V5 b)(h:DZ op a b=some n):V5 n:=by
 obtain⟨a0,a1⟩:=ha
 obtain⟨b0,b1⟩:=hb
 unfold DZ at h
 split at h
 ·cases h;unfold V5;omega
 split at h
 ·cases h;unfold V5;omega
 split at h
 ·cases h
  have:0≤a*b:=Int.mul_nonneg a0 b0
  unfold V5
  generalize a*b=q at*
  omega
 split at h
 ·cases h;exact tt _
 split at h
 ·cases h;exact tt _
 split at h
 ·cases h
 split at h
 ·cases h
  have h1:0≤a/b:=Int.ediv_nonneg a0 b0
  have h2:a/b≤a:=Int.ediv_le_self b a0
  exact⟨h1,by omega⟩
 ·cases h
  rename_i hb0 _
  have h1:0≤a%b:=Int.emod_nonneg a hb0
  have h2:a%b<b:=Int.emod_lt_of_pos a (by omega)
  exact⟨h1,by omega⟩
theorem G5.put{s:S5}(g:G5 s)(i:Nat){n:Int}(hn:V5 n):G5 (s.put i n):=⟨by rw[←g.len];exact SH,fun c hc=>by
 rcases Si hc with h|h
 ·exact g.cells c h
 ·rw[h];exact hn,g.said⟩
theorem G5.at_{s:S5}(g:G5 s)(F:Nat):G5 (s.at_ F):=⟨g.len,g.cells,g.said⟩
theorem GE5.tail{m:Sc5}{v:List Sc5}(g:GE5 (m::v)):GE5 v:=fun q hq=>g q (by simp[hq])
end
section
theorem inR5{n lo hi:Int}:inR n lo hi=true↔lo≤n∧n≤hi:=by simp[inR]
section
variable {l:List Fd}
end
end
section
theorem Pu{d:Nat}{x:Sm}(h:au d x=true):(1≤x.op∧x.op≤8)∧x.args.length=jc x.op∧(∀a∈x.args,gH a=true)∧(∀y∈x.body,∃d,au d y=true)∧(∀y∈x.els,∃d,au d y=true):=by
 cases d with
 |zero=>cases h
 |succ d=>
  rw[au,RL,RL,RF,RF] at h
  obtain⟨⟨h1,h2⟩,h3⟩:=h
  simp only[eU,RL,RF] at h1
  obtain⟨⟨⟨⟨⟨⟨⟨p1,p2⟩,_⟩,_⟩,p5⟩,_⟩,_⟩,_⟩:=h1
  exact⟨inR5.1 p1,of_decide_eq_true p2,p5,fun y hy=>⟨d,h2 y hy⟩,fun y hy=>⟨d,h3 y hy⟩⟩
theorem yW{a:Ex}(h:gH a=true):bp 6 a=true:=by rw[gH,RL] at h;exact h.1
section
variable {l:List Fd}
end
def s0(fuel:Nat):S5:=⟨fuel,[],List.replicate 16 0⟩
end
section
def S5.dn(s:S5)(c:Nat):S5:=⟨s.left-c,s.said,s.cells⟩
end
section
def S5.pre(s:S5)(t:List Int):S5:=⟨s.left,t++s.said,s.cells⟩
end
section
def ar5(o a b:Int):Option Int:=if o=10 then some (tr5 (decide (a≠0∧b≠0))) else DZ o a b
def co(n:Int):Ex:= .mk 1 n [] []
def isN(e:Ex)(n:Int):Bool:=decide (e.op=1)&&decide (e.n=n)
mutual
def eE:Ex→Bool
 | .mk o _ _ ks=> !decide (o=12)&& !decide (o=13)&&(!(decide (o=6)||decide (o=7))||(match ks with|[_,b]=>decide (b.op=1)&& !decide (b.n=0)|_=>false))&&AL ks
def AL:List Ex→Bool
 |[]=>true
 |e::r=>eE e&&AL r
end
def kx(o n:Int)(s:List UInt8)(a:Ex):Ex:=
 if a.op=1 then co (tr5 (decide (a.n=0))) else match a.kids with|[c]=>if a.op=11∧c.op=11 then c else .mk o n s [a]|_=> .mk o n s [a]
def mQ(o n:Int)(s:List UInt8)(a b:Ex):Ex:=
 match(if a.op=1∧b.op=1 then ar5 o a.n b.n else none) with
 |some q=>co q
 |none=>
  if o=10∧isN a 0=true then co 0 else if(o=3∨o=4)∧isN b 0=true∨(o=5∨o=6)∧isN b 1=true then a else if o=3∧isN a 0=true∨o=5∧isN a 1=true then b
  else if o=5∧(isN b 0=true∧eE a=true∨isN a 0=true∧eE b=true) then co 0 else .mk o n s [a,b]
def eG(o n:Int)(s:List UInt8)(ks:List Ex):Ex:=
 if o=12∨o=13 then .mk o n s ks else match ks with|[a]=>kx o n s a|[a,b]=>mQ o n s a b|ks=> .mk o n s ks
mutual
def cC:Ex→Ex
 | .mk o n s ks=>eG o n s (aU ks)
def aU:List Ex→List Ex
 |[]=>[]
 |e::r=>cC e::aU r
end
theorem isN_iff{e:Ex}{n:Int}:isN e n=true↔e.op=1∧e.n=n:=by simp[isN]
section
variable {l:List Fd}
end
end
section
structure Like (fns fns':List Fd):Prop where
 at_:∀s,ep fns' s=ep fns s
 par:∀j,yl fns' j=yl fns j
theorem AZ(l:List Fd)(g:Fd→Fd)(hn:∀f,(g f).name=f.name)(hp:∀f,(g f).params.length=f.params.length):Like l (l.map g) where
 at_:=fun s=>by
  rw[ep,ep,List.findIdx?_map]
  congr 1
  funext f
  simp[hn]
 par:=fun j=>by
  rw[yl,yl,RQ]
  cases l[j]? with
  |none=>rfl
  |some f=>exact hp f
theorem Dl{w:WS}{s:List UInt8}{b:Nat}(h:(kO w s b).code=0):w.code=0:=by
 have h:oC w.vs s b w.code=0:=h
 unfold oC at h
 split at h
 ·exact h
 ·split at h
  ·unfold fl at h
   split at h
   ·assumption
   ·exact h
  ·exact h
theorem uG:∀{ps:List (List UInt8)} {w:WS},(dC ps w).code=0→w.code=0
 |[],w,h=>h
 |s::r,w,h=>Dl (uG (ps:=r) (w:=kO w s 0) h)
theorem HU{fns:List Fd}{k:Nat}{f:Fd}(hz:(fnW fns k f).code=0):ep fns f.name=some k:=by
 rw[fnW] at hz
 have h1:=uG (ip hz)
 by_cases h:ep fns f.name=some k
 ·exact h
 ·rw[if_neg h] at h1;cases h1
end
section
variable (G:aM)
theorem oU(n lo hi:Int):VF Tryz.prog G ew [.p (.int .i64 n),.p (.int .i64 lo),.p (.int .i64 hi)] (.p (.bool (inR n lo hi))):=by
 refine AC.go yv ?_
 by_cases h:lo≤n
 ·simp-implicitDefEqProofs[mM,h,inR]
 ·simp-implicitDefEqProofs[mM,h,inR]
theorem JW(n:Int):VF Tryz.prog G jA [.p (.int .i64 n)] (.p (.bool (inR n 0 255))):=by
 refine AC.go yL ?_
 simp-implicitDefEqProofs[rf]
 refine(oU G _ _ _).use ?_
 simp-implicitDefEqProofs[]
theorem El(n:Int):VF Tryz.prog G ec [.p (.int .i32 n)] (.p (.bool (decide (n<97)||decide (122<n)))):=by
 refine AC.go vJ ?_
 simp-implicitDefEqProofs[ov]
 by_cases h:n<97
 ·simp-implicitDefEqProofs[h]
 ·simp-implicitDefEqProofs[h]
theorem Lg{s:List UInt8}{i:Nat}(h:i<s.length)(hl:eV s[i]=true):Utf8.decode ⟨⟨s⟩⟩ i=(s[i].toNat,1):=by
 simp only[eV,RL,decide_eq_true_eq] at hl
 exact decode_ascii ⟨⟨s⟩⟩ i h (by show(s[i]).toNat<128;omega)
theorem Gf{s:List UInt8}{i:Nat}(h:i<s.length)(hl:¬eV s[i]=true):(((Utf8.decode ⟨⟨s⟩⟩ i).1:Int)<97∨122<((Utf8.decode ⟨⟨s⟩⟩ i).1:Int)):=by
 rcases Sl s[i].toNat 128 with h1|h1
 ·rw[show Utf8.decode ⟨⟨s⟩⟩ i=(s[i].toNat,1) from decode_ascii ⟨⟨s⟩⟩ i h h1]
  simp[eV] at hl
  simp only
  omega
 ·have:=(decode_high ⟨⟨s⟩⟩ i h h1).1
  omega
theorem AR(s:List UInt8)(hb:s.length≤140737488355328):VF Tryz.prog G gt [.p (.str s),.fn (.func ec) [],.p (.bool true)] (.p (.int .i64 (Ak s))):=by
 refine AC.go qx ?_
 simp-implicitDefEqProofs[ky]
 refine aV (fun i:Nat=>am 21 [(0,.p (.str s)),(1,.fn (.func ec) []),(2,.p (.bool true)),(10,.it 0)]) (fun i=>[.sit s i]) (fun i=>i≤s.length∧∀x∈s.take i,eV x=true) (fun i=>s.length-i) 0 (by simp) ?_ ?_
 ·exact ae (by simp) (by simp[okO]) (by simp[below,aj])
 ·intro i ⟨hi,hn⟩
  simp-implicitDefEqProofs[]
  by_cases h1:i<s.length
  ·have hg:=RA h1
   simp-implicitDefEqProofs[h1]
   refine(El G _).use ?_
   by_cases hl:eV s[i]=true
   ·have hd:=Lg h1 hl
    have hl':=hl
    simp only[eV,RL,decide_eq_true_eq] at hl'
    have e1:¬((s[i].toNat:Int)<97):=by omega
    have e2:¬(122<(s[i].toNat:Int)):=by omega
    rw[hd]
    simp-implicitDefEqProofs[e1,e2]
    refine⟨i+1,⟨h1,fun p hp=>?_⟩,by omega,ae (by simp) (by simp[okO]) (by simp[below,aj])⟩
    rw[an h1] at hp
    rcases RJ.1 hp with hp|hp
    ·exact hn p hp
    ·rw[RM.1 hp];exact hl
   ·have hd:=Gf h1 hl
    have hf:Ak s=i:=by
     have:s.findIdx? (fun x=> !eV x)=some i:=by
      rw[Sa]
      exact⟨h1,by simpa using hl,fun j hj=>by have:=hn s[j] (List.mem_take_iff_getElem.2 ⟨j,by omega,rfl⟩);simpa using this⟩
     rw[Ak,this]
    have hdb:(decide (((Utf8.decode ⟨⟨s⟩⟩ i).1:Int)<97)||decide (122<((Utf8.decode ⟨⟨s⟩⟩ i).1:Int)))=true:=by
     rcases hd with h|h<;>simp[h]
    rw[hdb]
    simp-implicitDefEqProofs[hf]
  ·have hn':=hn
   rw[RG (by omega)] at hn'
   have hf:Ak s= -1:=by
    have:s.findIdx? (fun x=> !eV x)=none:=by
     rw[So];intro x hx;simpa using hn' x hx
    rw[Ak,this]
   simp-implicitDefEqProofs[h1,hf]
theorem BH(s:List UInt8)(hb:s.length≤140737488355328):VF Tryz.prog G gn [.p (.str s),.fn (.func ec) []] (.p (.int .i64 (Ak s))):=by
 refine AC.go qt ?_
 simp-implicitDefEqProofs[kr]
 refine(AR G s hb).use ?_
 simp-implicitDefEqProofs[]
theorem LF(L:List (List UInt8))(s:List UInt8)(hb:L.length≤1048576):VF Tryz.prog G fC [.p (aC L),.p (.str s)] (.p (.int .i64 (idxS L s))):=by
 refine AC.go oO ?_
 have hsl:aC L= .lst 1 (L.map fun w=>[.str w]):=rfl
 simp-implicitDefEqProofs[je,hsl]
 refine aV (fun i:Nat=>am 19 [(0,.p (aC L)),(1,.p (.str s)),(6,.p (aC L)),(7,.p (.int .i64 L.length)),(8,.p (.int .i64 i))]) (fun _=>[]) (fun i=>i≤L.length∧∀w∈L.take i,w≠s) (fun i=>L.length-i) 0 (by simp) ?_ ?_
 ·exact bS rfl (by simp[below,aC])
 ·intro i ⟨hi,hn⟩
  simp-implicitDefEqProofs[hsl]
  refine bf (fun h1=>?_) (fun h1=>?_)
  ·simp at h1
   have hg:=RA h1
   by_cases he:L[i]=s
   ·have hf:idxS L s=i:=by
     have:L.findIdx? (fun w=>w==s)=some i:=by
      rw[Sa]
      exact⟨h1,by simpa using he,fun j hj=>by have:=hn L[j] (List.mem_take_iff_getElem.2 ⟨j,by omega,rfl⟩);simpa using this⟩
     rw[idxS,this]
    have he':s=L[i]:=he.symm
    simp-implicitDefEqProofs[hg,hf,←he']
   ·have he':¬s=L[i]:=fun e=>he e.symm
    simp-implicitDefEqProofs[hg,he']
    refine⟨i+1,⟨h1,fun p hp=>?_⟩,by omega,bS rfl ?_⟩
    ·rw[an h1] at hp
     rcases RJ.1 hp with hp|hp
     ·exact hn p hp
     ·rw[RM.1 hp];exact he
    ·simp[below,aC,w1 (i:=i) (by omega)]
  ·simp at h1
   rw[RG h1] at hn
   have hf:idxS L s= -1:=by
    have:L.findIdx? (fun w=>w==s)=none:=by
     rw[So];intro x hx;simpa using hn x hx
    rw[idxS,this]
   simp-implicitDefEqProofs[hf]
theorem Dd(L:List (List UInt8))(s:List UInt8)(hb:L.length≤1048576):VF Tryz.prog G eB [.p (aC L),.p (.str s)] (.p (.bool (L.contains s))):=by
 rw[←IX]
 refine AC.go mN ?_
 simp-implicitDefEqProofs[gQ]
 refine(LF G L s hb).use ?_
 simp-implicitDefEqProofs[]
abbrev dV:Nat:=0
def dO:List PV:=keyW.map .str
variable (hK:G dV=some dO)
include hK
theorem pu(s:List UInt8)(hb:s.length≤140737488355328):VF Tryz.prog G cy [.p (.str s)] (.p (.bool (aS s))):=by
 refine AC.go yP ?_
 unfold dV at hK
 simp-implicitDefEqProofs[rn]
 refine(oU G _ _ _).use ?_
 have hr:inR (s.length:Int) 1 4=(decide (0<s.length)&&decide (s.length≤4)):=by
  unfold inR
  by_cases h1:0<s.length<;>by_cases h2:s.length≤4<;>simp[h1,h2]<;>omega
 rw[hr]
 have hi:aS s=((decide (0<s.length)&&decide (s.length≤4))&&(s.all eV&& !keyW.contains s)):=by
  rw[aS];cases s.all eV<;>cases decide (0<s.length)<;>cases decide (s.length≤4)<;>rfl
 cases h1:(decide (0<s.length)&&decide (s.length≤4)) with
 |false=>
  rw[hi,h1]
  simp-implicitDefEqProofs[]
 |true=>
  rw[hi,h1]
  simp-implicitDefEqProofs[]
  refine(BH G s hb).use ?_
  rw[←Kf]
  by_cases hn:Ak s<0
  ·simp-implicitDefEqProofs[hn,hK,dO,keyW]
   refine(Dd G keyW s (by decide)).use ?_
   simp-implicitDefEqProofs[keyW]
  ·simp-implicitDefEqProofs[hn]
end
section
def K_impl_exprSize:AK:= .seq (.reg [oJ 2 (.box 4 (.t 0)),oK 4 0,oK 5 0,oJ 6 (.mov (.c (.p (.bool false))))]) (.seq (.reg [oK 7 0,oK 8 0]) (.cut (.blk 0 (.seq (.reg [oF 17 0 2,oL 18 17,oJ 19 (.bin .eql (.t 18) (.c (.p (.int .i64 1)))),oM 16 19]) (.cond (.t 16) (.seq (.reg [oF 20 1 2,oL 21 20,oJ 22 (.call jA [(.t 21)]),oJ 23 (.not (.t 22)),oM 24 23,⟨(some 25),some (24,false),.fldA 2 (.t 2)⟩,⟨(some 26),some (24,false),.ld none (.t 25)⟩,⟨(some 27),some (24,false),.bins .neq (.t 26) (.c (.p (.str [])))⟩,oJ 28 (.pick (.t 24) (.c (.p (.bool true))) (.t 27))]) (.cond (.t 28) (.seq (.reg [oK 4 0,oK 5 0,oJ 6 (.mov (.c (.p (.bool false))))]) (.ret)) (.skip))) (.seq (.reg [oF 30 0 2,oL 31 30,oJ 32 (.bin .eql (.t 31) (.c (.p (.int .i64 2)))),oM 29 32]) (.cond (.t 29) (.seq (.reg [oF 33 2 2,oL 34 33,oJ 35 (.call cy [(.t 34)]),oJ 36 (.not (.t 35)),oM 37 36,⟨(some 38),some (37,false),.fldA 1 (.t 2)⟩,⟨(some 39),some (37,false),.ld none (.t 38)⟩,⟨(some 40),some (37,false),.bin .neq (.t 39) (.c (.p (.int .i64 0)))⟩,oJ 41 (.pick (.t 37) (.c (.p (.bool true))) (.t 40))]) (.cond (.t 41) (.seq (.reg [oK 4 0,oK 5 0,oJ 6 (.mov (.c (.p (.bool false))))]) (.ret)) (.skip))) (.seq (.reg [oF 43 0 2,oL 44 43,oJ 45 (.bin .eql (.t 44) (.c (.p (.int .i64 13)))),oM 42 45]) (.cond (.t 42) (.seq (.reg [oK 8 3]) (.seq (.reg [oF 46 2 2,oL 47 46,oJ 48 (.call cy [(.t 47)]),oJ 49 (.not (.t 48)),oM 50 49,⟨(some 51),some (50,false),.fldA 1 (.t 2)⟩,⟨(some 52),some (50,false),.ld none (.t 51)⟩,⟨(some 53),some (50,false),.bin .neq (.t 52) (.c (.p (.int .i64 0)))⟩,oJ 54 (.pick (.t 50) (.c (.p (.bool true))) (.t 53))]) (.cond (.t 54) (.seq (.reg [oK 4 0,oK 5 0,oJ 6 (.mov (.c (.p (.bool false))))]) (.ret)) (.skip)))) (.seq (.reg [oJ 56 (.ld none (.c (.gp 1 0))),oF 57 0 2,oL 58 57,oJ 59 (.lk 0 (.agg [(.p (.str [])),(.p (.int .i64 0))]) false (.t 56) (.t 58)),oJ 60 (.fldv 1 none (.t 59)),oJ 61 (.bin .gtr (.t 60) (.c (.p (.int .i64 0)))),oM 55 61]) (.cond (.t 55) (.reg [oK 7 2,oK 8 2]) (.seq (.reg [oF 63 0 2,oL 64 63,oJ 65 (.bin .eql (.t 64) (.c (.p (.int .i64 11)))),oM 66 65,⟨(some 67),some (66,false),.fldA 0 (.t 2)⟩,⟨(some 68),some (66,false),.ld none (.t 67)⟩,⟨(some 69),some (66,false),.bin .eql (.t 68) (.c (.p (.int .i64 12)))⟩,oJ 70 (.pick (.t 66) (.c (.p (.bool true))) (.t 69)),oM 62 70]) (.cond (.t 62) (.reg [oK 7 1,oK 8 1]) (.seq (.reg [oK 4 0,oK 5 0,oJ 6 (.mov (.c (.p (.bool false))))]) (.ret))))))))))))) (.cut (.seq (.reg [oF 71 0 2,oL 72 71,oJ 73 (.call iP [(.t 72)]),oJ 74 (.bin .lss (.t 73) (.c (.p (.int .i64 6)))),oM 75 74,⟨(some 76),some (75,true),.fldA 1 (.t 2)⟩,⟨(some 77),some (75,true),.ld none (.t 76)⟩,⟨(some 78),some (75,true),.bin .neq (.t 77) (.c (.p (.int .i64 0)))⟩,⟨(some 79),some (75,true),.mov (.t 78)⟩,⟨(some 80),some (79,false),.fldA 2 (.t 2)⟩,⟨(some 81),some (79,false),.ld none (.t 80)⟩,⟨(some 82),some (79,false),.bins .neq (.t 81) (.c (.p (.str [])))⟩,⟨(some 83),some (75,true),.pick (.t 79) (.c (.p (.bool true))) (.t 82)⟩,oJ 84 (.pick (.t 75) (.t 83) (.c (.p (.bool false)))),oM 85 84,⟨(some 86),some (85,false),.fldA 3 (.t 2)⟩,⟨(some 87),some (85,false),.ld none (.t 86)⟩,⟨(some 88),some (85,false),.len false (.t 87)⟩,⟨(some 89),some (85,false),.mov (.t 7)⟩,⟨(some 90),some (85,false),.mov (.t 8)⟩,⟨(some 91),some (85,false),.call ew [(.t 88),(.t 89),(.t 90)]⟩,⟨(some 92),some (85,false),.not (.t 91)⟩,oJ 93 (.pick (.t 85) (.c (.p (.bool true))) (.t 92)),oM 94 93,⟨(some 95),some (94,false),.mov (.t 1)⟩,⟨(some 96),some (94,false),.bin .lss (.t 95) (.c (.p (.int .i64 1)))⟩,oJ 97 (.pick (.t 94) (.c (.p (.bool true))) (.t 96))]) (.cond (.t 97) (.seq (.reg [oK 4 0,oK 5 0,oJ 6 (.mov (.c (.p (.bool false))))]) (.ret)) (.skip))) (.seq (.reg [oK 9 1,oK 10 1]) (.seq (.seq (.reg [oF 98 3 2,oL 99 98,oJ 100 (.len false (.t 99)),oK 101 0]) (.blk 1 (.loop (.seq (.reg [oJ 102 (.bin .lss (.t 101) (.t 100))]) (.seq (.cond (.t 102) (.skip) (.exit 1)) (.seq (.blk 2 (.seq (.reg [oJ 103 (.idxS 4 (.t 99) (.t 101)),oJ 104 (.ld (some 4) (.t 103)),oJ 12 (.alloc [(.p (.int .i64 0)),(.p (.int .i64 0)),(.p (.str [])),.nils]),⟨none,none,.st 4 (.t 12) (.t 104)⟩]) (.seq (.reg [oJ 106 (.ld (some 4) (.t 12)),oM 107 1,oJ 108 (.bin .sub (.t 107) (.c (.p (.int .i64 1)))),oJ 109 (.call fk [(.t 106),(.t 108)]),oM 105 109,oJ 110 (.ext 0 (.t 105)),oJ 111 (.ext 1 (.t 105)),oJ 112 (.ext 2 (.t 105)),oM 13 110,oM 14 111,oM 15 112]) (.seq (.seq (.reg [oM 113 15,oJ 114 (.not (.t 113))]) (.cond (.t 114) (.seq (.reg [oK 4 0,oK 5 0,oJ 6 (.mov (.c (.p (.bool false))))]) (.ret)) (.skip))) (.seq (.reg [oM 115 9,oM 116 13,oJ 117 (.bin .add (.t 115) (.t 116)),oM 9 117]) (.reg [oM 118 10,oM 119 14,oJ 120 (.bin .add (.t 119) (.c (.p (.int .i64 1)))),oJ 121 (.mx (.t 118) (.t 120)),oM 10 121])))))) (.reg [oJ 122 (.bin .add (.t 101) (.c (.p (.int .i64 1)))),oM 101 122]))))))) (.seq (.reg [oM 123 9,oM 124 10,oM 125 9,oJ 126 (.bin .leq (.t 125) (.c (.p (.int .i64 30)))),oM 4 123,oM 5 124,oM 6 126]) (.ret)))))))
theorem vr:K_impl_exprSize.whole=F_impl_exprSize.ak:=rfl
abbrev cd:Nat:=1
def opK:List PV:=[.int .i64 3,.int .i64 4,.int .i64 5,.int .i64 6,.int .i64 7,.int .i64 8,.int .i64 9,.int .i64 10]
def opV:List (List PV):=[[.str [43],.int .i64 3],[.str [45],.int .i64 3],[.str [42],.int .i64 4],[.str [47],.int .i64 4],[.str [37],.int .i64 4],[.str [60],.int .i64 2],[.str [61],.int .i64 2],[.str [38],.int .i64 1]]
def lvl(op:Int):Int:=if op=10 then 1 else if op=8 then 2 else if op=9 then 2 else if op=3 then 3 else if op=4 then 3 else 4
def sgB(op:Int):UInt8:=if op=3 then 43 else if op=4 then 45 else if op=5 then 42 else if op=6 then 47 else if op=7 then 37 else if op=8 then 60 else if op=9 then 61 else 38
def sgn(op:Int):Option AV:=if 3≤op∧op≤10 then some (.agg [.p (.str [sgB op]),.p (.int .i64 (lvl op))]) else none
theorem Fp(op:Int):(opK.all fun k'=>(keq (.int .i64 op) k').isSome)=true:=by simp[opK,keq]
theorem Es(op:Int):iU (.int .i64 op) (FZ opK opV)=some (sgn op):=by
 by_cases h:3≤op∧op≤10
 ·have h8:op=3∨op=4∨op=5∨op=6∨op=7∨op=8∨op=9∨op=10:=by omega
  rcases h8 with rfl|rfl|rfl|rfl|rfl|rfl|rfl|rfl<;>rfl
 ·have e:sgn op=none:=if_neg h
  have h3:¬op=3:=by omega
  have h4:¬op=4:=by omega
  have h5:¬op=5:=by omega
  have h6:¬op=6:=by omega
  have h7:¬op=7:=by omega
  have h8:¬op=8:=by omega
  have h9:¬op=9:=by omega
  have h10:¬op=10:=by omega
  rw[e]
  simp[opK,opV,FZ,iU,keq,h3,h4,h5,h6,h7,h8,h9,h10]
theorem EV(op:Int):0<lvl op:=by
 unfold lvl
 repeat' split
 all_goals omega
theorem NF(op:Int):lvl op<6:=by
 unfold lvl
 repeat' split
 all_goals omega
def lvI(op:Int):Int:=if 3≤op∧op≤10 then lvl op else if op=11∨op=12 then 5 else 6
mutual
def Ex.deep:Ex→Nat
 | .mk _ _ _ k=>1+nF k
def nF:List Ex→Nat
 |[]=>0
 |e::r=>max e.deep (nF r)
end
theorem Ex.deep_eq(e:Ex):e.deep=1+nF e.kids:=by cases e;rfl
theorem Bp:∀a b:List Ex,nF (a++b)=max (nF a) (nF b)
 |[],b=>by simp[nF]
 |e::r,b=>by rw[Sj,nF,nF,Bp r b];omega
mutual
theorem Ex.deep_le:∀e:Ex,e.deep≤e.sz
 | .mk _ _ s k=>by have:=zF k;simp only[Ex.deep,Ex.sz];omega
theorem zF:∀l:List Ex,nF l≤bC l
 |[]=>RN _
 |e::r=>by have:=e.deep_le;have:=zF r;simp only[nF,bC];omega
end
theorem pS{α:Type}{p:α→Bool}{xs:List α}{i:Nat}{c:α}(h:xs[i]?=some c):(xs.take (i+1)).all p=((xs.take i).all p&&p c):=by
 rw[List.take_add_one,h,List.all_append];simp
def okE(m:Nat)(e:Ex):Bool:=bp m e&&decide (e.parts≤30)
def vC:Nat→Ex→Bool
 |0,_=>false
 |m+1,e=>jL e&&e.kids.all (okE m)
theorem gG:∀{l:List Ex} {e:Ex},e∈l→e.parts≤dU l
 |x::r,e,h=>by
  simp only[dU]
  rcases RY.1 h with rfl|h
  ·omega
  ·have:=gG h;omega
theorem EZ(m:Nat)(e:Ex):(vC m e&&decide (e.parts≤30))=okE m e:=by
 cases m with
 |zero=>simp[vC,okE,bp]
 |succ m=>
  by_cases hp:e.parts≤30
  ·have h2:e.kids.all (okE m)=e.kids.all (bp m):=by
    rw[Bool.eq_iff_iff,RF,RF]
    refine⟨fun h x hx=>?_,fun h x hx=>?_⟩
    ·have:=h x hx;simp only[okE,RL] at this;exact this.1
    ·have h1:=h x hx
     have:=gG hx
     have:=e.parts_eq
     simp only[okE,h1,Bool.true_and]
     simp;omega
   simp[vC,okE,bp,h2]
  ·simp[okE,hp]
theorem Lm(e:Ex):okE 6 e=gH e:=rfl
def szA(m:Nat)(e:Ex):AV:=if vC m e then .tup [.p (.int .i64 e.parts),.p (.int .i64 e.deep),.p (.bool (decide (e.parts≤30)))] else .tup [.p (.int .i64 0),.p (.int .i64 0),.p (.bool false)]
def dv(e:Ex):Bool:=inR e.op 1 13&&(if e.op=1 then inR e.n 0 255&&decide (e.name=[]) else if e.op=2∨e.op=13 then aS e.name&&decide (e.n=0) else true)
def ji(e:Ex):Bool:=(decide (e.op=1∨e.op=2∨e.op=13)||(decide (e.n=0)&&decide (e.name=[])))&&inR e.kids.length (loK e.op) (hiK e.op)
theorem rC:aS []=false:=rfl
theorem Be(e:Ex):jL e=(dv e&&ji e):=by
 unfold jL dv ji CG
 by_cases h1:e.op=1
 ·simp only[h1]
  cases inR (e.kids.length:Int) (loK 1:Nat) (hiK 1:Nat)<;>by_cases hn:e.name=[]<;>cases h2:inR e.n 0 255<;>simp[hn,rC,inR]
 by_cases h2:e.op=2
 ·simp only[h2]
  cases inR (e.kids.length:Int) (loK 2:Nat) (hiK 2:Nat)<;>cases hi:aS e.name<;>by_cases hn:e.n=0<;>simp[hn,inR]
 by_cases h3:e.op=13
 ·simp only[h3]
  cases inR (e.kids.length:Int) (loK 13:Nat) (hiK 13:Nat)<;>cases hi:aS e.name<;>by_cases hn:e.n=0<;>simp[hn,inR]
 ·cases inR e.op 1 13<;>cases inR (e.kids.length:Int) (loK e.op:Nat) (hiK e.op:Nat)<;>by_cases hn:e.n=0<;>by_cases hm:e.name=[]<;>simp[h1,h2,h3,hn,hm,rC,inR]
variable (G:aM) (hK:G dV=some dO) (hS:G cd=some [.tbl opK opV])
include hS
theorem GM(op:Int):VF Tryz.prog G iP [.p (.int .i64 op)] (.p (.int .i64 (lvI op))):=by
 refine AC.go xO ?_
 have hall:=Fp op
 have hget:=Es op
 have hS':=hS
 unfold cd at hS'
 have hlp:=EV op
 by_cases h:3≤op∧op≤10
 ·have e:sgn op=some (.agg [.p (.str [sgB op]),.p (.int .i64 (lvl op))]):=if_pos h
  have e2:lvI op=lvl op:=if_pos h
  rw[e2]
  generalize lvl op=L at*
  simp-implicitDefEqProofs[fU,hS',hall,hget,e,hlp]
 ·have e:sgn op=none:=if_neg h
  by_cases h11:op=11
  ·subst h11;simp-implicitDefEqProofs[fU,hS',hall,hget,e,lvI]
  by_cases h12:op=12
  ·subst h12;simp-implicitDefEqProofs[fU,hS',hall,hget,e,lvI]
  have e2:lvI op=6:=by rw[lvI,if_neg h,if_neg (by simp[h11,h12])]
  simp-implicitDefEqProofs[fU,hS',hall,hget,e,e2,h11,h12]
include hK
theorem Do:∀(m:Nat) (e:Ex),e.sz≤1073741824→m≤100→VF Tryz.prog G fk [.agg (e.cs.map .p),.p (.int .i64 m)] (szA m e):=by
 intro m
 induction m using Nat.strongRecOn with
 |_ m ih=>
 intro e he hm
 have hec:=e.cs_eq
 have hsz:=e.sz_eq
 have hkl:=bh e.kids
 have hS':=hS
 unfold cd at hS'
 have hall:=Fp e.op
 have hget:=Es e.op
 have hxl:exL e.kids= .lst 4 (e.kids.map Ex.cs):=rfl
 have hbad:(dv e&&ji e&&decide (1≤m))=false→szA m e= .tup [.p (.int .i64 0),.p (.int .i64 0),.p (.bool false)]:=by
  intro h
  have:vC m e=false:=by
   cases m with
   |zero=>rfl
   |succ m=>rw[vC,Be];simp at h;cases h1:dv e<;>cases h2:ji e<;>simp[h1,h2] at h⊢
  rw[szA,this];rfl
 have hb1:dv e=false→szA m e= .tup [.p (.int .i64 0),.p (.int .i64 0),.p (.bool false)]:=fun h=>hbad (by rw[h];rfl)
 refine AC.goK vf vr ?_
 simp-implicitDefEqProofs[K_impl_exprSize,F_impl_exprSize,hec]
 refine ox (fun _:Unit=>am 127 [(1,.p (.int .i64 m)),(2,.ptr 0 4 0 0),(7,.p (.int .i64 (loK e.op))),(8,.p (.int .i64 (hiK e.op)))]) (fun _=>[.row 4 [[.p (.int .i64 e.op),.p (.int .i64 e.n),.p (.str e.name),.p (exL e.kids)]]]) (fun _=>dv e=true) ?_ ?_
 ·have fin:∀(r1:List (Nat × AV)),Aw.look r1 1= .p (.int .i64 m)→Aw.look r1 2= .ptr 0 4 0 0→Aw.look r1 7= .p (.int .i64 (loK e.op))→Aw.look r1 8= .p (.int .i64 (hiK e.op))→
   Wk 0 (am 127 r1) [.row 4 [[.p (.int .i64 e.op),.p (.int .i64 e.n),.p (.str e.name),.p (exL e.kids)]]] (am 127 [(1,.p (.int .i64 m)),(2,.ptr 0 4 0 0),(7,.p (.int .i64 (loK e.op))),(8,.p (.int .i64 (hiK e.op)))]) [.row 4 [[.p (.int .i64 e.op),.p (.int .i64 e.n),.p (.str e.name),.p (exL e.kids)]]]:=fun r1 a b c d=>
   ae (by simp) (by simp[okO,below]) (by simp[below,a,b,c,d])
  have hop1:inR (1:Int) 1 13=true:=rfl
  have hop2:inR (2:Int) 1 13=true:=rfl
  have hop13:inR (13:Int) 1 13=true:=rfl
  by_cases o1:e.op=1
  ·rw[o1] at fin⊢
   simp-implicitDefEqProofs[o1]
   refine(JW G _).use ?_
   by_cases h1:inR e.n 0 255=true
   ·by_cases h2:e.name=[]
    ·have hp:dv e=true:=by simp[dv,o1,h1,h2,hop1]
     rw[h2] at fin
     simp-implicitDefEqProofs[h1,h2,hp]
     exact fin _ (by simp) (by simp) (by simp[loK]) (by simp[hiK])
    ·have hp:dv e=false:=by simp[dv,o1,h1,h2,hop1]
     rw[hb1 hp]
     simp-implicitDefEqProofs[h1,h2]
   ·have hp:dv e=false:=by simp[dv,o1,h1,hop1]
    rw[hb1 hp]
    simp-implicitDefEqProofs[h1]
  by_cases o2:e.op=2
  ·rw[o2] at fin⊢
   simp-implicitDefEqProofs[o2]
   refine(pu G hK _ (by omega)).use ?_
   by_cases h1:aS e.name=true
   ·by_cases h2:e.n=0
    ·have hp:dv e=true:=by simp[dv,o2,h1,h2,hop2]
     rw[h2] at fin
     simp-implicitDefEqProofs[h1,h2,hp]
     exact fin _ (by simp) (by simp) (by simp[loK]) (by simp[hiK])
    ·have hp:dv e=false:=by simp[dv,o2,h1,h2,hop2]
     rw[hb1 hp]
     simp-implicitDefEqProofs[h1,h2]
   ·have hp:dv e=false:=by simp[dv,o2,h1,hop2]
    rw[hb1 hp]
    simp-implicitDefEqProofs[h1]
  by_cases o13:e.op=13
  ·rw[o13] at fin⊢
   simp-implicitDefEqProofs[o13]
   refine(pu G hK _ (by omega)).use ?_
   by_cases h1:aS e.name=true
   ·by_cases h2:e.n=0
    ·have hp:dv e=true:=by simp[dv,o13,h1,h2,hop13]
     rw[h2] at fin
     simp-implicitDefEqProofs[h1,h2,hp]
     exact fin _ (by simp) (by simp) (by simp[loK]) (by simp[hiK])
    ·have hp:dv e=false:=by simp[dv,o13,h1,h2,hop13]
     rw[hb1 hp]
     simp-implicitDefEqProofs[h1,h2]
   ·have hp:dv e=false:=by simp[dv,o13,h1,hop13]
    rw[hb1 hp]
    simp-implicitDefEqProofs[h1]
  have hlp:=EV e.op
  by_cases h:3≤e.op∧e.op≤10
  ·have es:sgn e.op=some (.agg [.p (.str [sgB e.op]),.p (.int .i64 (lvl e.op))]):=if_pos h
   have hp:dv e=true:=by simp[dv,o1,o2,o13,inR];omega
   have o11:¬e.op=11:=by omega
   have o12:¬e.op=12:=by omega
   have elo:loK e.op=2:=by simp[loK,o1,o2,o11,o12,o13]
   have ehi:hiK e.op=2:=by simp[hiK,o1,o2,o11,o12,o13]
   generalize lvl e.op=L at*
   simp-implicitDefEqProofs[o1,o2,o13,hS',hall,hget,es,hlp,hp]
   exact fin _ (by simp) (by simp) (by simp[elo]) (by simp[ehi])
  have es:sgn e.op=none:=if_neg h
  by_cases o11:e.op=11
  ·have hp:dv e=true:=by simp[dv,o11,inR]
   have elo:loK e.op=1:=by simp[loK,o11]
   have ehi:hiK e.op=1:=by simp[hiK,o11]
   rw[o11] at hall hget es fin
   simp-implicitDefEqProofs[o11,hS',hall,hget,es,hp]
   exact fin _ (by simp) (by simp) (by simp[loK]) (by simp[hiK])
  by_cases o12:e.op=12
  ·have hp:dv e=true:=by simp[dv,o12,inR]
   rw[o12] at hall hget es fin
   simp-implicitDefEqProofs[o12,hS',hall,hget,es,hp]
   exact fin _ (by simp) (by simp) (by simp[loK]) (by simp[hiK])
  ·have hp:dv e=false:=by simp[dv,o1,o2,o13,inR];omega
   rw[hb1 hp]
   simp-implicitDefEqProofs[o1,o2,o13,hS',hall,hget,es,o11,o12]
 intro _ hp
 have hop:1≤e.op∧e.op≤13:=by
  simp only[dv,RL,inR,decide_eq_true_eq] at hp
  exact hp.1
 have hb2:ji e=false→szA m e= .tup [.p (.int .i64 0),.p (.int .i64 0),.p (.bool false)]:=fun h=>hbad (by rw[h];simp)
 have hb3:m<1→szA m e= .tup [.p (.int .i64 0),.p (.int .i64 0),.p (.bool false)]:=by
  intro h
  have hd:decide (1≤m)=false:=by simp;omega
  exact hbad (by rw[hd];simp)
 refine ox (fun _:Unit=>am 127 [(1,.p (.int .i64 m)),(2,.ptr 0 4 0 0)]) (fun _=>[.row 4 [[.p (.int .i64 e.op),.p (.int .i64 e.n),.p (.str e.name),.p (exL e.kids)]]]) (fun _=>ji e=true∧1≤m) ?_ ?_
 ·have fin:∀(r1:List (Nat × AV)),Aw.look r1 1= .p (.int .i64 m)→Aw.look r1 2= .ptr 0 4 0 0→
   Wk 0 (am 127 r1) [.row 4 [[.p (.int .i64 e.op),.p (.int .i64 e.n),.p (.str e.name),.p (exL e.kids)]]] (am 127 [(1,.p (.int .i64 m)),(2,.ptr 0 4 0 0)]) [.row 4 [[.p (.int .i64 e.op),.p (.int .i64 e.n),.p (.str e.name),.p (exL e.kids)]]]:=fun r1 a b=>
   ae (by simp) (by simp[okO,below]) (by simp[below,a,b])
  simp-implicitDefEqProofs[]
  refine(GM G hS e.op).use ?_
  by_cases ho:e.op=1∨e.op=2∨e.op=13
  ·have hlv:lvI e.op=6:=by
    rw[lvI,if_neg (by omega),if_neg (by omega)]
   have hd:decide (e.op=1∨e.op=2∨e.op=13)=true:=by simpa using ho
   simp-implicitDefEqProofs[hlv,hxl]
   refine(oU G _ _ _).use ?_
   by_cases hk:inR e.kids.length (loK e.op) (hiK e.op)=true
   ·have hr:ji e=true:=by rw[ji,hd,hk];rfl
    by_cases hm1:m<1
    ·have hm1':(m:Int)<1:=by omega
     rw[hb3 hm1]
     simp-implicitDefEqProofs[hk,hm1']
    ·have hm1':¬(m:Int)<1:=by omega
     have hm2:1≤m:=by omega
     simp-implicitDefEqProofs[hk,hm1',hr,hm2]
     exact fin _ (by simp) (by simp)
   ·have hk':inR e.kids.length (loK e.op) (hiK e.op)=false:=by simpa using hk
    have hr:ji e=false:=by rw[ji,hk',Bool.and_false]
    rw[hb2 hr]
    simp-implicitDefEqProofs[hk']
  ·have hlv:lvI e.op<6:=by
    have:=NF e.op
    unfold lvI
    split
    ·exact this
    ·rw[if_pos (by omega)];omega
   have hd:decide (e.op=1∨e.op=2∨e.op=13)=false:=by simpa using ho
   generalize lvI e.op=L at hlv⊢
   by_cases h1:e.n=0
   ·by_cases h2:e.name=[]
    ·have hz:decide (e.n=0)=true∧decide (e.name=[])=true:=by simp[h1,h2]
     simp-implicitDefEqProofs[hlv,h1,h2,hxl]
     refine(oU G _ _ _).use ?_
     rw[h1,h2] at fin
     by_cases hk:inR e.kids.length (loK e.op) (hiK e.op)=true
     ·have hr:ji e=true:=by rw[ji,hd,hk,hz.1,hz.2];rfl
      by_cases hm1:m<1
      ·have hm1':(m:Int)<1:=by omega
       rw[hb3 hm1]
       simp-implicitDefEqProofs[hk,hm1']
      ·have hm1':¬(m:Int)<1:=by omega
       have hm2:1≤m:=by omega
       simp-implicitDefEqProofs[hk,hm1',hr,hm2]
       exact fin _ (by simp) (by simp)
     ·have hk':inR e.kids.length (loK e.op) (hiK e.op)=false:=by simpa using hk
      have hr:ji e=false:=by rw[ji,hk',Bool.and_false]
      rw[hb2 hr]
      simp-implicitDefEqProofs[hk']
    ·have hr:ji e=false:=by rw[ji,hd];simp[h2]
     rw[hb2 hr]
     simp-implicitDefEqProofs[hlv,h1,h2]
   ·have hr:ji e=false:=by rw[ji,hd];simp[h1]
    rw[hb2 hr]
    simp-implicitDefEqProofs[hlv,h1]
 rintro _ ⟨hr,hm1⟩
 have hhd:jL e=true:=by rw[Be,hp,hr];rfl
 obtain⟨m',rfl⟩:∃m',m=m'+1:=⟨m-1,by omega⟩
 have hszO:vC (m'+1) e=e.kids.all (okE m'):=by rw[vC,hhd];rfl
 have hpe:=e.parts_eq
 have hde:=e.deep_eq
 have hpl:=e.parts_le
 have hwm:IntKind.i64.wrap (((m'+1:Nat):Int)-1)=(m':Int):=by rw[af (by omega) (by omega)];omega
 simp-implicitDefEqProofs[hxl]
 refine aV (fun i:Nat=>am 127 [(1,.p (.int .i64 ((m':Int)+1))),(2,.ptr 0 4 0 0),(9,.p (.int .i64 ((1+dU (e.kids.take i):Nat):Int))),(10,.p (.int .i64 ((1+nF (e.kids.take i):Nat):Int))),(99,.p (exL e.kids)),(100,.p (.int .i64 e.kids.length)),(101,.p (.int .i64 i))])
  (fun _=>[.row 4 [[.p (.int .i64 e.op),.p (.int .i64 e.n),.p (.str e.name),.p (exL e.kids)]]]) (fun i=>i≤e.kids.length∧(e.kids.take i).all (okE m')=true) (fun i=>e.kids.length-i) 0 (by simp) ?_ ?_
 ·exact ae (by simp) (by simp[okO,below]) (by simp[below,hxl,dU,nF])
 rintro i ⟨hi,ha⟩
 have hwm':IntKind.i64.wrap (m':Int)=(m':Int):=af (by omega) (by omega)
 simp-implicitDefEqProofs[hxl]
 refine bf (fun h=>?_) (fun h=>?_)
 ·simp at h
  have hg:=RA h
  have hks:=aT (RH h)
  have hkc:=e.kids[i].cs_eq
  have hpt:dU (e.kids.take (i+1))=dU (e.kids.take i)+e.kids[i].parts:=by rw[an h,jU];simp[dU]
  have hdt:nF (e.kids.take (i+1))=max (nF (e.kids.take i)) e.kids[i].deep:=by rw[an h,Bp];simp[nF]
  have hpl1:dU (e.kids.take (i+1))≤e.parts:=by
   have:=jU (e.kids.take (i+1)) (e.kids.drop (i+1))
   rw[Sk] at this
   omega
  have hok:=EZ m' e.kids[i]
  have hdl:e.kids[i].deep≤e.kids[i].sz:=Ex.deep_le _
  have hdl2:nF (e.kids.take i)≤e.sz:=by
   have h1:=zF (e.kids.take i)
   have h2:=fZ (e.kids.take i) (e.kids.drop i)
   rw[Sk] at h2
   omega
  generalize e.kids[i]=c at*
  simp-implicitDefEqProofs[hg,hkc,hwm']
  have hI:=ih m' (by omega) c (by omega) (by omega)
  rw[hkc] at hI
  by_cases ho:okE m' c=true
  ·have h1:vC m' c=true∧c.parts≤30:=by rw[ho] at hok;simpa using hok
   have hA:szA m' c= .tup [.p (.int .i64 c.parts),.p (.int .i64 c.deep),.p (.bool true)]:=by rw[szA,if_pos h1.1];simp[h1.2]
   rw[hA] at hI
   refine hI.use ?_
   have hw1:IntKind.i64.wrap (1+(dU (e.kids.take i):Int)+(c.parts:Int))=((1+dU (e.kids.take (i+1)):Nat):Int):=by rw[af (by omega) (by omega)];omega
   have hw2:IntKind.i64.wrap ((c.deep:Int)+1)=(c.deep:Int)+1:=af (by omega) (by omega)
   have hmx:(if 1+(nF (e.kids.take i):Int)<(c.deep:Int)+1 then(c.deep:Int)+1 else 1+(nF (e.kids.take i):Int))=1+(nF (e.kids.take (i+1)):Int):=by
    rw[hdt];split<;>omega
   simp-implicitDefEqProofs[hw1,hw2,hmx]
   refine⟨i+1,⟨h,by rw[←RF,pS hg,ha,ho];rfl⟩,by omega,?_⟩
   refine iz (m:=1) (by omega) (eL rfl rfl (by simp[okO,below])) (by simp[below,hxl,w1 (i:=i) (by omega)])
  ·have hf:e.kids.all (okE m')=false:=List.all_eq_false.2 ⟨c,RI hg,by simpa using ho⟩
   have hA2:szA (m'+1) e= .tup [.p (.int .i64 0),.p (.int .i64 0),.p (.bool false)]:=by rw[szA,hszO,hf];rfl
   rw[hA2]
   by_cases h1:vC m' c=true
   ·have h2:¬c.parts≤30:=fun h2=>ho (by rw[←hok,h1];simpa using h2)
    have hA:szA m' c= .tup [.p (.int .i64 c.parts),.p (.int .i64 c.deep),.p (.bool false)]:=by rw[szA,if_pos h1];simp[h2]
    rw[hA] at hI
    refine hI.use ?_
    simp-implicitDefEqProofs[]
   ·have hA:szA m' c= .tup [.p (.int .i64 0),.p (.int .i64 0),.p (.bool false)]:=by rw[szA,if_neg h1]
    rw[hA] at hI
    refine hI.use ?_
    simp-implicitDefEqProofs[]
 ·simp at h
  rw[RG h] at ha⊢
  have hA:szA (m'+1) e= .tup [.p (.int .i64 e.parts),.p (.int .i64 e.deep),.p (.bool (decide (e.parts≤30)))]:=by rw[szA,hszO,ha];rfl
  rw[hA,hpe,hde]
  simp-implicitDefEqProofs[]
  omega
theorem uC(e:Ex)(he:e.sz≤1073741824):VF Tryz.prog G eQ [.agg (e.cs.map .p)] (.p (.bool (gH e))):=by
 refine AC.go tI ?_
 have hec:=e.cs_eq
 have hx:=Do G hK hS 6 e he (by omega)
 rw[hec] at hx
 simp-implicitDefEqProofs[nc,hec]
 rw[←Lm,←EZ]
 unfold szA at hx
 by_cases h:vC 6 e=true
 ·rw[if_pos h] at hx
  rw[h]
  refine hx.use ?_
  simp-implicitDefEqProofs[]
 ·have h':vC 6 e=false:=by simpa using h
  rw[if_neg h] at hx
  rw[h']
  refine hx.use ?_
  simp-implicitDefEqProofs[]
end
section
theorem dc:∀l:List Ex,aU l=l.map cC
 |[]=>rfl
 |e::r=>by rw[aU,dc r];rfl
mutual
def cQ:Sm→Sm
 | .mk o s a bd el=> .mk o s (aU a) (aw bd) (aw el)
def aw:List Sm→List Sm
 |[]=>[]
 |s::r=>cQ s::aw r
end
theorem iv:∀l:List Sm,aw l=l.map cQ
 |[]=>rfl
 |e::r=>by rw[aw,iv r];rfl
def ln(f:Fd):Fd:=⟨f.name,f.params,aw f.body⟩
def bK(l:List Fd):List Fd:=l.map ln
theorem FE(l:List Fd):Like l (bK l):=AZ l ln (fun _=>rfl) (fun _=>rfl)
def P5(o n:Int)(s:List UInt8)(ks:List Ex)(x:Ex):Prop:=
 x= .mk o n s ks∨(∃q,x=co q∧((∀a∈ks,a.op=1→V5 a.n)→V5 q))∨(∃a∈ks,x=a)∨∃a∈ks,∃c∈a.kids,x=c
theorem He{o a b q:Int}(ha:V5 a)(hb:V5 b)(h:ar5 o a b=some q):V5 q:=by
 unfold ar5 at h
 split at h
 ·cases h;exact tt _
 ·exact GG ha hb h
theorem Lj(o n:Int)(s:List UInt8)(a:Ex):P5 o n s [a] (kx o n s a):=by
 unfold kx
 split
 ·exact .inr (.inl ⟨_,rfl,fun _=>tt _⟩)
 ·split
  ·rename_i c hc
   split
   ·exact .inr (.inr (.inr ⟨a,by simp,c,by rw[hc];simp,rfl⟩))
   ·exact .inl rfl
  ·exact .inl rfl
theorem LK(o n:Int)(s:List UInt8)(a b:Ex):P5 o n s [a,b] (mQ o n s a b):=by
 unfold mQ
 split
 ·rename_i q hq
  split at hq
  ·rename_i h
   exact .inr (.inl ⟨q,rfl,fun hv=>He (hv a (by simp) h.1) (hv b (by simp) h.2) hq⟩)
  ·cases hq
 ·split
  ·exact .inr (.inl ⟨0,rfl,fun _=>⟨by omega,by omega⟩⟩)
  ·split
   ·exact .inr (.inr (.inl ⟨a,by simp,rfl⟩))
   ·split
    ·exact .inr (.inr (.inl ⟨b,by simp,rfl⟩))
    ·split
     ·exact .inr (.inl ⟨0,rfl,fun _=>⟨by omega,by omega⟩⟩)
     ·exact .inl rfl
theorem qh(o n:Int)(s:List UInt8)(ks:List Ex):P5 o n s ks (eG o n s ks):=by
 unfold eG
 split
 ·exact .inl rfl
 ·split
  ·exact Lj o n s _
  ·exact LK o n s _ _
  ·exact .inl rfl
theorem tc{e:Ex}(h:jL e=true):V5 e.n:=by
 simp only[jL,RL,inR,decide_eq_true_eq] at h
 exact⟨h.1.2.1,h.1.2.2⟩
theorem ga{d:Nat}{e a:Ex}(h:bp (d+1) e=true)(ha:a∈e.kids):bp d a=true:=by
 rw[bp,RL] at h
 exact RF.1 h.2 a ha
theorem jp{d:Nat}{e:Ex}(h:bp d e=true):jL e=true:=by
 cases d with
 |zero=>cases h
 |succ d=>rw[bp,RL] at h;exact h.1
theorem pT:∀{d:Nat} {e:Ex},bp d e=true→bp (d+1) e=true
 |0,e,h=>by cases h
 |d+1,e,h=>by
  have h0:=h
  rw[bp,RL] at h
  rw[bp,RL]
  exact⟨h.1,RF.2 fun a ha=>pT (ga h0 ha)⟩
theorem Gd{d:Nat}{q:Int}(h:V5 q):bp (d+1) (co q)=true:=by
 obtain⟨h0,h1⟩:=h
 have:aS []=false:=by decide
 simp[bp,co,jL,inR,Ex.op,Ex.kids,Ex.name,Ex.n,loK,hiK,CG,this,h0,h1]
theorem KQ{d:Nat}{o n:Int}{s:List UInt8}{ks:List Ex}{x:Ex}(h:bp (d+1) (.mk o n s ks)=true)(hx:P5 o n s ks x):bp (d+1) x=true:=by
 have hk:∀a∈ks,bp d a=true:=fun a ha=>ga h ha
 rcases hx with rfl|⟨q,rfl,hq⟩|⟨a,ha,rfl⟩|⟨a,ha,c,hc,rfl⟩
 ·exact h
 ·exact Gd (hq fun a ha _=>tc (jp (hk a ha)))
 ·exact pT (hk _ ha)
 ·have h1:=hk a ha
  cases d with
  |zero=>cases h1
  |succ d=>exact pT (pT (ga h1 hc))
theorem rG:∀(d:Nat) (e:Ex),bp d e=true→bp d (cC e)=true
 |0,e,h=>by cases h
 |d+1,.mk o n s ks,h=>by
  rw[cC]
  refine KQ ?_ (qh o n s (aU ks))
  rw[bp,RL] at h⊢
  refine⟨?_,?_⟩
  ·have h1:=h.1
   simp only[jL,Ex.op,Ex.n,Ex.name,Ex.kids,dc,RX] at h1⊢
   exact h1
  ·have h2:=h.2
   simp only[Ex.kids,dc,RF] at h2⊢
   intro x hx
   obtain⟨e,he,rfl⟩:=RU.1 hx
   exact rG d e (h2 e he)
theorem Fk{o n:Int}{s:List UInt8}{ks:List Ex}{x:Ex}(hx:P5 o n s ks x):x.parts≤1+dU ks:=by
 rcases hx with rfl|⟨q,rfl,hq⟩|⟨a,ha,rfl⟩|⟨a,ha,c,hc,rfl⟩
 ·exact RN _
 ·simp only[co,Ex.parts,dU];omega
 ·have:=gG ha;omega
 ·have h1:=gG ha
  have h2:=gG hc
  have h3:=a.parts_eq
  omega
mutual
theorem ru:∀e:Ex,(cC e).parts≤e.parts
 | .mk o n s ks=>by
   rw[cC,Ex.parts]
   have h1:=Fk (qh o n s (aU ks))
   have h2:=nC ks
   omega
theorem nC:∀l:List Ex,dU (aU l)≤dU l
 |[]=>RN _
 |e::r=>by
  have h1:=ru e
  have h2:=nC r
  rw[aU,dU,dU]
  omega
end
theorem FG{e:Ex}(h:gH e=true):gH (cC e)=true:=by
 rw[gH,RL,decide_eq_true_eq] at h⊢
 exact⟨rG 6 e h.1,Sp (ru e) h.2⟩
theorem chkEs_all{fns:List Fd}{k:Nat}{vs:List LV}:∀{l:List Ex},bB fns k vs l 0=0↔∀e∈l,jR fns k vs e 0=0
 |[]=>by simp[bB]
 |e::r=>by
  rw[bB]
  constructor
  ·intro h
   have h0:=jo h
   rw[h0] at h
   intro x hx
   rcases RY.1 hx with rfl|hx
   ·exact h0
   ·exact chkEs_all.1 h x hx
  ·intro h
   rw[h e (by simp)]
   exact chkEs_all.2 fun x hx=>h x (by simp[hx])
theorem chkE_iff{fns:List Fd}{k:Nat}{vs:List LV}{o n:Int}{s:List UInt8}{ks:List Ex}:jR fns k vs (.mk o n s ks) 0=0↔io fns k vs o s ks.length 0=0∧∀a∈ks,jR fns k vs a 0=0:=by
 rw[jR]
 constructor
 ·intro h
  have h0:=jo h
  rw[h0] at h
  exact⟨h0,chkEs_all.1 h⟩
 ·rintro⟨h1,h2⟩
  rw[h1]
  exact chkEs_all.2 h2
theorem xl{fns:List Fd}{k:Nat}{vs:List LV}{e a:Ex}(h:jR fns k vs e 0=0)(ha:a∈e.kids):jR fns k vs a 0=0:=by
 obtain⟨o,n,s,ks⟩:=e
 exact(chkE_iff.1 h).2 a ha
theorem MR{fns:List Fd}{k:Nat}{vs:List LV}{o n:Int}{s:List UInt8}{ks:List Ex}{x:Ex}(h:jR fns k vs (.mk o n s ks) 0=0)(hx:P5 o n s ks x):jR fns k vs x 0=0:=by
 rcases hx with rfl|⟨q,rfl,hq⟩|⟨a,ha,rfl⟩|⟨a,ha,c,hc,rfl⟩
 ·exact h
 ·simp[co,jR,bB,io]
 ·exact xl h ha
 ·exact xl (xl h ha) hc
section
variable {fns fns':List Fd} (hL:Like fns fns')
include hL
theorem CW(k:Nat)(vs:List LV)(o:Int)(s:List UInt8)(n:Nat)(c:Int):io fns' k vs o s n c=io fns k vs o s n c:=by
 simp only[io,nw,hL.at_,hL.par]
mutual
theorem FP{k:Nat}{vs:List LV}:∀e:Ex,jR fns k vs e 0=0→jR fns' k vs (cC e) 0=0
 | .mk o n s ks,h=>by
   rw[cC]
   refine MR ?_ (qh o n s (aU ks))
   rw[jR] at h⊢
   have h0:=jo h
   rw[h0] at h
   rw[CW hL,dc,RX,h0,←dc]
   exact rE ks h
theorem rE{k:Nat}{vs:List LV}:∀l:List Ex,bB fns k vs l 0=0→bB fns' k vs (aU l) 0=0
 |[],_=>rfl
 |e::r,h=>by
  have _:=hL
  rw[bB] at h
  have h0:=jo h
  rw[h0] at h
  rw[aU,bB,FP e h0]
  exact rE r h
end
mutual
theorem Ip{k:Nat}:∀(s:Sm) (b:Nat) (w:WS),(stW fns k b s w).code=0→stW fns' k b (cQ s) w=stW fns k b s w
 | .mk o s a bd el,b,w,hz=>by
   rw[stW,gh] at hz
   have z1:=ip hz
   rw[gh] at z1
   have z2:=ip z1
   have z3:bB fns k w.vs a w.code=0:=CE z2
   have hc0:=jo z3
   have z3':=z3
   rw[hc0] at z3'
   have e1:bB fns' k w.vs (aU a) w.code=bB fns k w.vs a w.code:=by rw[z3,hc0];exact rE hL a z3'
   rw[cQ,stW,stW]
   simp only[e1]
   rw[pW bd _ _ z1,pW el _ _ hz]
theorem pW{k:Nat}:∀(l:List Sm) (b:Nat) (w:WS),(cg fns k b l w).code=0→cg fns' k b (aw l) w=cg fns k b l w
 |[],b,w,_=>rfl
 |s::r,b,w,hz=>by
  have _:=hL
  rw[cg] at hz
  rw[aw,cg,cg,Ip s b w (ip hz)]
  exact pW r b _ hz
end
theorem Il{k:Nat}{f:Fd}(hz:(fnW fns k f).code=0):(fnW fns' k (ln f)).code=0:=by
 have hat:=HU hz
 have hat':ep fns' (ln f).name=some k:=by rw[hL.at_];exact hat
 rw[fnW,if_pos hat] at hz
 rw[fnW,if_pos hat']
 show(cg fns' k 0 (aw f.body) (dC f.params ⟨[],0,0⟩)).code=0
 rw[pW hL f.body 0 _ hz]
 exact hz
end
mutual
theorem Ju:∀s:Sm,(cQ s).cnt=s.cnt
 | .mk o s a bd el=>by rw[cQ,Sm.cnt,Sm.cnt,qa bd,qa el]
theorem qa:∀l:List Sm,dj (aw l)=dj l
 |[]=>rfl
 |s::r=>by rw[aw,dj,dj,Ju s,qa r]
end
theorem Dc(n:Int)(s:List UInt8)(ks:List Ex):eG 13 n s ks= .mk 13 n s ks:=by simp[eG]
theorem Dh{o:Int}{s:List UInt8}{a:List Ex}{bd el:List Sm}(h:eU (.mk o s a bd el)=true):eU (.mk o s (aU a) (aw bd) (aw el))=true:=by
 simp only[eU,Sm.op,Sm.args,Sm.name,Sm.body,Sm.els,RL,Bool.or_eq_true,decide_eq_true_eq,List.isEmpty_iff,Bool.not_eq_true',decide_eq_false_iff_not] at h⊢
 obtain⟨⟨⟨⟨h1,h2⟩,h3⟩,h4⟩,h5⟩:=h
 refine⟨⟨⟨⟨?_,?_⟩,?_⟩,?_⟩,?_⟩
 ·have hl:(aU a).length=a.length:=by rw[dc,RX]
  obtain⟨⟨⟨g1,g2⟩,g3⟩,g4⟩:=h1
  have g2:a.length=jc o:=of_decide_eq_true g2
  exact⟨⟨⟨g1,decide_eq_true (hl.trans g2)⟩,g3⟩,g4⟩
 ·rw[dc,RF]
  intro x hx
  obtain⟨e,he,rfl⟩:=RU.1 hx
  exact FG (RF.1 h2 e he)
 ·rcases h3 with h3|h3
  ·exact .inl h3
  ·right
   match a,h3 with
   |e::r,h3=>
    obtain⟨eo,en,es,ek⟩:=e
    have h3:eo=13:=of_decide_eq_true h3
    subst h3
    refine decide_eq_true (show(cC (.mk 13 en es ek)).op=13 from ?_)
    rw[cC,Dc];rfl
 ·rcases h4 with h4|h4
  ·exact .inl (by rw[h4];rfl)
  ·exact .inr h4
 ·rcases h5 with(h5|h5)|h5
  ·exact .inl (.inl (by rw[h5];rfl))
  ·exact .inl (.inr h5)
  ·exact .inr h5
theorem rU:∀(d:Nat) (x:Sm),au d x=true→au d (cQ x)=true
 |0,x,h=>by cases h
 |d+1,.mk o s a bd el,h=>by
  rw[au,RL,RL] at h
  rw[cQ,au,RL,RL]
  refine⟨⟨Dh h.1.1,?_⟩,?_⟩
  ·have h2:=h.1.2
   simp only[Sm.body,iv,RF] at h2⊢
   intro x hx
   obtain⟨e,he,rfl⟩:=RU.1 hx
   exact rU d e (h2 e he)
  ·have h2:=h.2
   simp only[Sm.els,iv,RF] at h2⊢
   intro x hx
   obtain⟨e,he,rfl⟩:=RU.1 hx
   exact rU d e (h2 e he)
theorem FH{f:Fd}(h:ia f=true):ia (ln f)=true:=by
 simp only[ia,ln,RL] at h⊢
 refine⟨h.1,?_⟩
 have h2:=h.2
 simp only[iv,RF] at h2⊢
 intro x hx
 obtain⟨e,he,rfl⟩:=RU.1 hx
 exact rU 4 e (h2 e he)
theorem GB(l:List Fd):jX (bK l)=jX l:=by
 simp only[jX,bK,List.map_map]
 congr 1
 exact RT fun f _=>qa f.body
theorem Ch{l:List Fd}(h:bq l=true):bq (bK l)=true:=by
 obtain⟨h1,h2,h3⟩:=(dH l).1 h
 refine(dH _).2 ⟨by rw[bK,RX];exact h1,fun f hf=>?_,by rw[GB];exact h3⟩
 obtain⟨g,hg,rfl⟩:=RU.1 hf
 exact FH (h2 g hg)
theorem gb{l:List Fd}(h:aI l=0):aI (bK l)=0:=by
 rw[aI] at h⊢
 by_cases hp:bq l=true
 ·rw[if_pos hp] at h
  rw[if_pos (Ch hp)]
  rw[lZ] at h⊢
  intro i f hf
  rw[bK,RQ,RC] at hf
  obtain⟨g,hg,rfl⟩:=hf
  exact Il (FE l) (h i g hg)
 ·rw[if_neg hp] at h;cases h
end
section
theorem BO(e:Ex):cC e=eG e.op e.n e.name (aU e.kids):=by cases e;rw[cC];rfl
theorem iD(x:Sm):cQ x= .mk x.op x.name (aU x.args) (aw x.body) (aw x.els):=by cases x;rw[cQ];rfl
theorem fe(x:Sm):(cQ x).op=x.op:=by rw[iD];rfl
theorem qn{d:Nat}{e:Ex}(h:bp d e=true):∃c,d=c+1:=by
 cases d with
 |zero=>cases h
 |succ d=>exact⟨d,rfl⟩
theorem rR{d:Nat}{e:Sm}(h:au d e=true):∃c,d=c+1:=by
 cases d with
 |zero=>cases h
 |succ d=>exact⟨d,rfl⟩
theorem ye{d:Nat}{x:Sm}(h:au d x=true):∀a∈x.args,bp 6 a=true:=by
 obtain⟨d,rfl⟩:=rR h
 rw[au,RL,RL] at h
 have h1:=h.1.1
 simp only[eU,RL,RF] at h1
 intro a ha
 exact yW (h1.1.1.1.2 a ha)
theorem lK{d:Nat}{x:Sm}(h:au (d+1) x=true):∀y∈x.body,au d y=true:=by
 rw[au,RL,RL] at h
 exact RF.1 h.1.2
theorem nq{d:Nat}{x:Sm}(h:au (d+1) x=true):∀y∈x.els,au d y=true:=by
 rw[au,RL,RL] at h
 exact RF.1 h.2
theorem xK{d:Nat}{e:Ex}(h:bp d e=true):bp d (.mk e.op e.n e.name (aU e.kids))=true:=by
 obtain⟨d,rfl⟩:=qn h
 rw[bp,RL] at h⊢
 refine⟨?_,?_⟩
 ·have h1:=h.1
  obtain⟨o,n,s,ks⟩:=e
  simp only[jL,Ex.op,Ex.n,Ex.name,Ex.kids,dc,RX] at h1⊢
  exact h1
 ·have h2:=h.2
  show(aU e.kids).all (bp d)=true
  simp only[dc,RF] at h2⊢
  intro x hx
  obtain⟨e,he,rfl⟩:=RU.1 hx
  exact rG d e (h2 e he)
theorem ed{d:Nat}{e:Ex}(h:bp d e=true):loK e.op≤e.kids.length∧e.kids.length≤hiK e.op∧1≤e.op∧e.op≤13:=by
 have h:=jp h
 simp only[jL,RL,inR,decide_eq_true_eq] at h
 obtain⟨⟨⟨⟨⟨h1,h2⟩,_⟩,_⟩,_⟩,_⟩:=h
 exact⟨by omega,by omega,h1.1,h1.2⟩
theorem KD{d:Nat}{e a:Ex}(h:bp d e=true)(hk:e.kids=[a])(h2:¬(e.op=12∨e.op=13)):e.op=11:=by
 obtain⟨h1,h3,h4,h5⟩:=ed h
 rw[hk] at h1 h3
 simp only[loK,hiK,RW,List.length_nil] at h1 h3
 split at h1
 ·rename_i hh;rw[if_pos hh] at h3;omega
 ·split at h1
  ·omega
  ·rw[if_neg (by omega)] at h1
   omega
theorem Cc{d:Nat}{e a b:Ex}(h:bp d e=true)(hk:e.kids=[a,b])(h2:¬(e.op=12∨e.op=13)):3≤e.op∧e.op≤10:=by
 obtain⟨h1,h3,h4,h5⟩:=ed h
 rw[hk] at h1 h3
 simp only[loK,hiK,RW,List.length_nil] at h1 h3
 split at h3
 ·omega
 ·split at h3<;>omega
section
variable {l:List Fd} {k:Nat} {v:List Sc5} {s s':S5} {r:O5 Int}
end
end
section
def fW(x:Sm)(n:Int):Bool:=match x.args with|a::_=>isN a n|[]=>false
def jZ(x:Sm):Bool:=match x.args with|a::_=>decide (a.op=1)|[]=>false
def fb(x:Sm):Bool:=decide (x.op=6)&&fW x 0
mutual
def cr:Sm→Sm
 | .mk o s a bd el=> .mk o s a
   (if o=5∧fW (.mk o s a bd el) 0=true then[] else aH bd)
   (if o=5∧fW (.mk o s a bd el) 0=false∧jZ (.mk o s a bd el)=true then[] else aH el)
def aH:List Sm→List Sm
 |[]=>[]
 |s::r=>if fb s=true then aH r else cr s::(if s.op=7 then[] else aH r)
end
theorem bW(s:Sm)(r:List Sm):aH (s::r)=if fb s=true then aH r else cr s::(if s.op=7 then[] else aH r):=by rw[aH]
def mK(f:Fd):Fd:=⟨f.name,f.params,aH f.body⟩
def cA(l:List Fd):List Fd:=l.map mK
theorem Hp(l:List Fd):Like l (cA l):=AZ l mK (fun _=>rfl) (fun _=>rfl)
theorem gl(x:Sm):(cr x).op=x.op:=by cases x;rw[cr];rfl
theorem mR(x:Sm):(cr x).name=x.name:=by cases x;rw[cr];rfl
theorem jx(x:Sm):(cr x).args=x.args:=by cases x;rw[cr];rfl
theorem nY(x:Sm):(cr x).body=if x.op=5∧fW x 0=true then[] else aH x.body:=by cases x;rw[cr];rfl
theorem lC(x:Sm):(cr x).els=if x.op=5∧fW x 0=false∧jZ x=true then[] else aH x.els:=by cases x;rw[cr];rfl
section
variable {l:List Fd} {k:Nat} {v v':List Sc5} {s s':S5} {x:Sm} {r:O5 (Option Int)}
theorem zloop_iff:fb x=true↔x.op=6∧fW x 0=true:=by simp[fb]
end
end
section
def nb(x:LV):List UInt8 × Nat:=(x.name,x.block)
def VSq(a b:List LV):Prop:=b.map nb=a.map nb
theorem Jv(vs:List LV)(s:List UInt8):(lkV vs s).map nb=(vs.map nb).find? fun p=>decide (p.1=s):=by
 rw[lkV,List.find?_map];rfl
theorem My{a b:List LV}(h:VSq a b)(s:List UInt8):(lkV b s).map nb=(lkV a s).map nb:=by rw[Jv,Jv,h]
theorem IO{a b:List LV}(h:VSq a b)(s:List UInt8)(c:Int):nK b s c=nK a s c:=by
 have e:=My h s
 unfold nK
 cases ha:lkV a s<;>cases hb:lkV b s<;>rw[ha,hb] at e<;>first|rfl|cases e
theorem NJ{a b:List LV}(h:VSq a b)(s:List UInt8)(n:Nat)(c:Int):oC b s n c=oC a s n c:=by
 have e:=My h s
 unfold oC
 cases ha:lkV a s<;>cases hb:lkV b s<;>rw[ha,hb] at e<;>first|rfl|(cases e;done)|skip
 ·have e2:=congrArg Prod.snd (Option.some.inj e)
  simp only[nb] at e2
  simp only[e2]
section
variable {fns fns':List Fd} (hL:Like fns fns')
include hL
theorem Lr{a b:List LV}(h:VSq a b)(k:Nat)(o:Int)(s:List UInt8)(n:Nat)(c:Int):io fns' k b o s n c=io fns k a o s n c:=by
 simp only[io,nw,hL.at_,hL.par,IO h]
mutual
theorem Nx{a b:List LV}(h:VSq a b){k:Nat}:∀(e:Ex) (c:Int),jR fns' k b e c=jR fns k a e c
 | .mk o n s ks,c=>by rw[jR,jR,Lr hL h,AF h ks]
theorem AF{a b:List LV}(h:VSq a b){k:Nat}:∀(l:List Ex) (c:Int),bB fns' k b l c=bB fns k a l c
 |[],c=>rfl
 |e::r,c=>by have _:=hL;rw[bB,bB,Nx h e,AF h r]
end
omit hL in
theorem Po{w w':WS}(h:VSq w.vs w'.vs)(hc:w'.code=w.code)(o:Int)(s:List UInt8)(b:Nat):VSq (opW o s b w).vs (opW o s b w').vs∧(opW o s b w').code=(opW o s b w).code:=by
 unfold opW
 split
 ·refine⟨?_,?_⟩
  ·show(LV.mk s w'.count b::w'.vs).map nb=(LV.mk s w.count b::w.vs).map nb
   rw[Sb,Sb,h];rfl
  ·show oC w'.vs s b w'.code=oC w.vs s b w.code
   rw[NJ h,hc]
 ·split
  ·refine⟨h,?_⟩
   show nK w'.vs s w'.code=nK w.vs s w.code
   rw[IO h,hc]
  ·exact⟨h,hc⟩
omit hL in
theorem LE(fns:List Fd)(k b:Nat)(x:Sm)(w:WS):(stW fns k b x w).vs=(opW x.op x.name b ⟨w.vs,w.count,bB fns k w.vs x.args w.code⟩).vs:=by
 obtain⟨o,s,a,bd,el⟩:=x
 rw[stW];rfl
mutual
theorem LT{k:Nat}:∀(x:Sm) (b:Nat) (w w':WS),VSq w.vs w'.vs→w'.code=0→(stW fns k b x w).code=0→VSq (stW fns k b x w).vs (stW fns' k b (cr x) w').vs∧(stW fns' k b (cr x) w').code=0
 | .mk o s a bd el,b,w,w',hv,hc,hz=>by
   rw[stW,gh] at hz
   have z1:=ip hz
   rw[gh] at z1
   have z2:=ip z1
   have z3:bB fns k w.vs a w.code=0:=CE z2
   have hc0:=jo z3
   have e1:bB fns' k w'.vs a w'.code=bB fns k w.vs a w.code:=by rw[AF hL hv,hc,hc0]
   obtain⟨p1,p2⟩:=Po (w:=⟨w.vs,w.count,bB fns k w.vs a w.code⟩) (w':=⟨w'.vs,w'.count,bB fns' k w'.vs a w'.code⟩) hv e1 o s b
   rw[z2] at p2
   rw[cr,stW,stW]
   try simp only
   generalize opW o s b ⟨w.vs,w.count,bB fns k w.vs a w.code⟩=w2 at*
   generalize opW o s b ⟨w'.vs,w'.count,bB fns' k w'.vs a w'.code⟩=w2' at*
   have q1:(cg fns' k (b+1) (if o=5∧fW (.mk o s a bd el) 0=true then[] else aH bd) w2').code=0:=by
    split
    ·exact p2
    ·exact pL bd (b+1) w2 w2' p1 p2 z1
   generalize cg fns' k (b+1) (if o=5∧fW (.mk o s a bd el) 0=true then[] else aH bd) w2'=w3' at*
   have q2:(cg fns' k (b+1) (if o=5∧fW (.mk o s a bd el) 0=false∧jZ (.mk o s a bd el)=true then[] else aH el) (w3'.back w2'.vs)).code=0:=by
    split
    ·exact q1
    ·exact pL el (b+1) ((cg fns k (b+1) bd w2).back w2.vs) (w3'.back w2'.vs) p1 q1 hz
   exact⟨p1,q2⟩
theorem pL{k:Nat}:∀(l:List Sm) (b:Nat) (w w':WS),VSq w.vs w'.vs→w'.code=0→(cg fns k b l w).code=0→(cg fns' k b (aH l) w').code=0
 |[],b,w,w',_,hc,_=>hc
 |x::r,b,w,w',hv,hc,hz=>by
  have _:=hL
  rw[cg] at hz
  have z1:=ip hz
  rw[bW]
  split
  ·rename_i h
   refine pL r b _ w' ?_ hc hz
   rw[LE,opW,if_neg (by have:=(zloop_iff.1 h).1;omega),if_neg (by have:=(zloop_iff.1 h).1;omega)]
   exact hv
  ·obtain⟨p1,p2⟩:=LT x b w w' hv hc z1
   rw[cg]
   split
   ·exact p2
   ·exact pL r b _ _ p1 p2 hz
end
theorem LD{k:Nat}{f:Fd}(hz:(fnW fns k f).code=0):(fnW fns' k (mK f)).code=0:=by
 have hat:=HU hz
 have hat':ep fns' (mK f).name=some k:=by rw[hL.at_];exact hat
 rw[fnW,if_pos hat] at hz
 rw[fnW,if_pos hat']
 exact pL hL f.body 0 _ _ rfl (ip hz) hz
end
mutual
theorem Mg:∀s:Sm,(cr s).cnt≤s.cnt
 | .mk o s a bd el=>by
   rw[cr,Sm.cnt,Sm.cnt]
   have h1:=tu bd
   have h2:=tu el
   have e1:dj (if o=5∧fW (.mk o s a bd el) 0=true then[] else aH bd)≤dj bd:=by
    split
    ·exact Nat.zero_le _
    ·exact h1
   have e2:dj (if o=5∧fW (.mk o s a bd el) 0=false∧jZ (.mk o s a bd el)=true then[] else aH el)≤dj el:=by
    split
    ·exact Nat.zero_le _
    ·exact h2
   omega
theorem tu:∀l:List Sm,dj (aH l)≤dj l
 |[]=>RN _
 |s::r=>by
  rw[bW,dj]
  have h1:=Mg s
  have h2:=tu r
  split
  ·omega
  ·rw[dj]
   split
   ·simp only[dj];omega
   ·omega
end
theorem qm:∀{l:List Sm} {y:Sm},y∈aH l→∃x∈l,y=cr x
 |s::r,y,h=>by
  rw[bW] at h
  split at h
  ·obtain⟨x,hx,e⟩:=qm h
   exact⟨x,by simp[hx],e⟩
  ·rcases RY.1 h with rfl|h
   ·exact⟨s,by simp,rfl⟩
   ·split at h
    ·cases h
    ·obtain⟨x,hx,e⟩:=qm h
     exact⟨x,by simp[hx],e⟩
theorem Af{o:Int}{s:List UInt8}{a:List Ex}{bd el bd' el':List Sm}(h:eU (.mk o s a bd el)=true)(h1:bd=[]→bd'=[])(h2:el=[]→el'=[]):eU (.mk o s a bd' el')=true:=by
 simp only[eU,Sm.op,Sm.args,Sm.name,Sm.body,Sm.els,RL,Bool.or_eq_true,List.isEmpty_iff] at h⊢
 obtain⟨⟨h3,h4⟩,h5⟩:=h
 refine⟨⟨h3,h4.imp h2 id⟩,?_⟩
 rcases h5 with(h5|h5)|h5
 ·exact .inl (.inl (h1 h5))
 ·exact .inl (.inr h5)
 ·exact .inr h5
theorem zj:∀(d:Nat) (x:Sm),au d x=true→au d (cr x)=true
 |0,x,h=>by cases h
 |d+1,.mk o s a bd el,h=>by
  rw[au,RL,RL] at h
  rw[cr,au,RL,RL]
  have hb:∀l:List Sm,l.all (au d)=true→(aH l).all (au d)=true:=by
   intro l hl
   rw[RF] at hl⊢
   intro y hy
   obtain⟨x,hx,rfl⟩:=qm hy
   exact zj d x (hl x hx)
  refine⟨⟨Af h.1.1 ?_ ?_,?_⟩,?_⟩
  ·rintro rfl;split<;>rfl
  ·rintro rfl;split<;>rfl
  ·show(if _ then _ else _:List Sm).all (au d)=true
   split
   ·rfl
   ·exact hb _ h.1.2
  ·show(if _ then _ else _:List Sm).all (au d)=true
   split
   ·rfl
   ·exact hb _ h.2
theorem FU{f:Fd}(h:ia f=true):ia (mK f)=true:=by
 simp only[ia,mK,RL] at h⊢
 refine⟨h.1,?_⟩
 have h2:=h.2
 rw[RF] at h2⊢
 intro y hy
 obtain⟨x,hx,rfl⟩:=qm hy
 exact zj 4 x (h2 x hx)
theorem HO(l:List Fd):jX (cA l)≤jX l:=by
 induction l with
 |nil=>exact RN _
 |cons f r ih=>
  have h1:=tu f.body
  simp only[jX,cA,Sb,List.sum_cons,mK] at ih⊢
  omega
theorem DH{l:List Fd}(h:bq l=true):bq (cA l)=true:=by
 obtain⟨h1,h2,h3⟩:=(dH l).1 h
 refine(dH _).2 ⟨by rw[cA,RX];exact h1,fun f hf=>?_,Sp (HO l) h3⟩
 obtain⟨g,hg,rfl⟩:=RU.1 hf
 exact FU (h2 g hg)
theorem mf{l:List Fd}(h:aI l=0):aI (cA l)=0:=by
 rw[aI] at h⊢
 by_cases hp:bq l=true
 ·rw[if_pos hp] at h
  rw[if_pos (DH hp)]
  rw[lZ] at h⊢
  intro i f hf
  rw[cA,RQ,RC] at hf
  obtain⟨g,hg,rfl⟩:=hf
  exact LD (Hp l) (h i g hg)
 ·rw[if_neg hp] at h;cases h
end
section
theorem tR{x y:Sm}(h:y.args=x.args)(n:Int):fW y n=fW x n:=by rw[fW,fW,h]
theorem zz{x y:Sm}(h:y.args=x.args):jZ y=jZ x:=by rw[jZ,jZ,h]
theorem xa(x:Sm)(n:Int):fW (cr x) n=fW x n:=tR (jx x) n
theorem Ir(x:Sm):jZ (cr x)=jZ x:=zz (jx x)
theorem GN(x:Sm):fb (cr x)=fb x:=by rw[fb,fb,gl,xa]
theorem Sm.ext5{x y:Sm}(h1:x.op=y.op)(h2:x.name=y.name)(h3:x.args=y.args)(h4:x.body=y.body)(h5:x.els=y.els):x=y:=by
 cases x;cases y
 have h1:_=_:=h1
 simp only[Sm.op,Sm.name,Sm.args,Sm.body,Sm.els] at h1 h2 h3 h4 h5
 subst h1 h2 h3 h4 h5;rfl
mutual
theorem GI:∀x:Sm,cr (cr x)=cr x
 | .mk o s a bd el=>by
   have h1:=md bd
   have h2:=md el
   refine Sm.ext5 (gl _) (mR _) (jx _) ?_ ?_
   ·rw[nY,gl,xa]
    split
    ·rename_i h
     rw[nY,if_pos h]
    ·rename_i h
     rw[nY,if_neg h]
     exact h1
   ·rw[lC,gl,xa,Ir]
    split
    ·rename_i h
     rw[lC,if_pos h]
    ·rename_i h
     rw[lC,if_neg h]
     exact h2
theorem md:∀l:List Sm,aH (aH l)=aH l
 |[]=>by rw[aH,aH]
 |x::r=>by
  have h1:=GI x
  have h2:=md r
  rw[bW]
  split
  ·exact h2
  ·rename_i h
   rw[bW,GN,if_neg h,h1,gl]
   congr 1
   split
   ·rfl
   ·exact h2
end
theorem FA(l:List Fd):cA (cA l)=cA l:=by
 rw[cA,cA,List.map_map]
 refine RT fun f _=>?_
 show mK (mK f)=mK f
 simp only[mK,md]
theorem Ik{d:Nat}{a:Ex}(hf:bp d a=true)(h:a.op=1):cC a=a:=by
 obtain⟨o,n,s,ks⟩:=a
 have ho:o=1:=h
 subst ho
 have hl:=(ed hf).2.1
 have e1:hiK 1=0:=rfl
 rw[show(Ex.mk 1 n s ks).op=1 from rfl,e1] at hl
 have hk:ks=[]:=List.length_eq_zero_iff.1 (Nat.le_zero.1 hl)
 subst hk
 rw[cC,aU]
 unfold eG
 rw[if_neg (by omega)]
theorem zk{d:Nat}{x:Sm}(hf:au d x=true)(h:jZ x=true):jZ (cQ x)=true∧∀n,fW (cQ x) n=fW x n:=by
 have ha:=ye hf
 rw[jZ] at h
 rw[jZ,iD]
 simp only[fW]
 match hx:x.args,h with
 |a::r,h=>
  have h1:=of_decide_eq_true h
  have e:=Ik (ha a (by rw[hx];simp)) h1
  refine⟨?_,fun n=>?_⟩
  ·show decide ((cC a).op=1)=true
   rw[e];exact h
  ·show isN (cC a) n=isN a n
   rw[e]
theorem zt{d:Nat}{x:Sm}(hf:au d x=true){n:Int}(h:fW x n=true):fW (cQ x) n=true:=by
 have hc:jZ x=true:=by
  rw[fW] at h
  rw[jZ]
  split at h
  ·exact decide_eq_true (isN_iff.1 h).1
  ·cases h
 rw[(zk hf hc).2];exact h
theorem xk(x:Sm):(cQ x).args=aU x.args:=by rw[iD];rfl
theorem xT(x:Sm):(cQ x).name=x.name:=by rw[iD];rfl
theorem xm(x:Sm):(cQ x).body=aw x.body:=by rw[iD];rfl
theorem zm(x:Sm):(cQ x).els=aw x.els:=by rw[iD];rfl
theorem gY(x:Sm):(cQ (cr x)).args=(cQ x).args:=by rw[xk,xk,jx]
mutual
theorem OM:∀(x:Sm) (d:Nat),au d x=true→cr (cQ (cr x))=cr (cQ x)
 | .mk o s a bd el,0,h=>by cases h
 | .mk o s a bd el,d+1,h=>by
   have h1:=Ax bd d (lK h)
   have h2:=Ax el d (nq h)
   have eN:∀n,fW (cQ (cr (.mk o s a bd el))) n=fW (cQ (.mk o s a bd el)) n:=fun n=>tR (gY _) n
   have eC:jZ (cQ (cr (.mk o s a bd el)))=jZ (cQ (.mk o s a bd el)):=zz (gY _)
   refine Sm.ext5 ?_ ?_ ?_ ?_ ?_
   ·rw[gl,gl,fe,fe,gl]
   ·rw[mR,mR,xT,xT,mR]
   ·rw[jx,jx,gY]
   ·rw[nY,nY,eN,fe,fe,gl,xm,xm,nY]
    split
    ·rfl
    ·rename_i hn
     rw[if_neg]
     ·exact h1
     ·rintro⟨g1,g2⟩
      exact hn ⟨g1,zt h g2⟩
   ·rw[lC,lC,eN,eC,fe,fe,gl,zm,zm,lC]
    split
    ·rfl
    ·rename_i hn
     rw[if_neg]
     ·exact h2
     ·rintro⟨g1,g2,g3⟩
      obtain⟨q1,q2⟩:=zk h g3
      exact hn ⟨g1,by rw[q2];exact g2,q1⟩
theorem Ax:∀(l:List Sm) (d:Nat),(∀x∈l,au d x=true)→aH (aw (aH l))=aH (aw l)
 |[],_,_=>by rw[aH]
 |x::r,d,h=>by
  have h1:=OM x d (h x (by simp))
  have h2:=Ax r d (fun y hy=>h y (by simp[hy]))
  rw[bW]
  split
  ·rename_i hz
   obtain⟨z1,z2⟩:=zloop_iff.1 hz
   rw[h2,aw,bW,if_pos]
   exact zloop_iff.2 ⟨by rw[fe];exact z1,zt (h x (by simp)) z2⟩
  ·have ez:fb (cQ (cr x))=fb (cQ x):=by rw[fb,fb,fe,fe,gl,tR (gY x)]
   rw[aw,aw,bW,bW,ez,h1,fe,fe,gl]
   by_cases h7:x.op=7
   ·rw[if_pos h7,if_pos h7,if_pos h7]
    split
    ·rename_i hz
     have:=(zloop_iff.1 hz).1
     rw[fe] at this
     omega
    ·rfl
   ·rw[if_neg h7,if_neg h7,if_neg h7,h2]
end
theorem Au{l:List Fd}(h:bq l=true):cA (bK (cA l))=cA (bK l):=by
 have h2:=((dH l).1 h).2.1
 rw[cA,bK,cA,List.map_map,List.map_map,cA,bK,List.map_map]
 refine RT fun f hf=>?_
 have hb:=h2 f hf
 simp only[ia,RL,RF] at hb
 show mK (ln (mK f))=mK (ln f)
 simp only[mK,ln]
 rw[Ax f.body 4 hb.2]
end
section
mutual
def wS:Sm→Nat
 | .mk _ _ a bd el=>1+dU a+wSs bd+wSs el
def wSs:List Sm→Nat
 |[]=>0
 |x::r=>wS x+wSs r
end
def wP(l:List Fd):Nat:=(l.map fun f=>wSs f.body).sum
theorem Ki(x:Sm):0<wS x:=by cases x;rw[wS];omega
theorem Gc(e:Ex):0<e.parts:=by have:=e.parts_eq;omega
theorem Jb(o n:Int)(s:List UInt8)(ks:List Ex):eG o n s ks= .mk o n s ks∨(eG o n s ks).parts<1+dU ks:=by
 match ks with
 |[]=>
  left
  unfold eG
  split<;>rfl
 |a::r=>
  have ha:=Gc a
  have he:dU (a::r)=a.parts+dU r:=rfl
  rcases qh o n s (a::r) with h|⟨q,h,_⟩|⟨c,hc,h⟩|⟨c,hc,d,hd,h⟩
  ·exact .inl h
  ·right
   rw[h]
   show 1+dU []<_
   have e0:dU []=0:=rfl
   omega
  ·right
   rw[h]
   have:=gG hc
   omega
  ·right
   rw[h]
   have h1:=gG hc
   have h2:=gG hd
   have h3:=c.parts_eq
   omega
mutual
theorem Iu:∀e:Ex,cC e=e∨(cC e).parts<e.parts
 | .mk o n s ks=>by
   rw[cC,Ex.parts]
   rcases tV ks with h|h
   ·rw[h];exact Jb o n s ks
   ·right
    have h2:=Fk (qh o n s (aU ks))
    omega
theorem tV:∀l:List Ex,aU l=l∨dU (aU l)<dU l
 |[]=> .inl rfl
 |e::r=>by
  rw[aU,dU,dU]
  have h3:=ru e
  have h4:=nC r
  rcases Iu e with h|h
  ·rcases tV r with h2|h2
   ·exact .inl (by rw[h,h2])
   ·right;omega
  ·right;omega
end
mutual
theorem Hk:∀x:Sm,(cQ x=x∨wS (cQ x)<wS x)∧wS (cQ x)≤wS x
 | .mk o s a bd el=>by
   rw[cQ,wS,wS]
   have g1:=nC a
   obtain⟨k2,g2⟩:=qe bd
   obtain⟨k3,g3⟩:=qe el
   refine⟨?_,by omega⟩
   rcases tV a with h1|h1
   ·rcases k2 with k2|k2
    ·rcases k3 with k3|k3
     ·exact .inl (by rw[h1,k2,k3])
     ·right;omega
    ·right;omega
   ·right;omega
theorem qe:∀l:List Sm,(aw l=l∨wSs (aw l)<wSs l)∧wSs (aw l)≤wSs l
 |[]=>⟨.inl rfl,RN _⟩
 |x::r=>by
  rw[aw,wSs,wSs]
  obtain⟨k2,g2⟩:=Hk x
  obtain⟨k3,g3⟩:=qe r
  refine⟨?_,by omega⟩
  rcases k2 with k2|k2
  ·rcases k3 with k3|k3
   ·exact .inl (by rw[k2,k3])
   ·right;omega
  ·right;omega
end
theorem Ac(c:Prop)[Decidable c](l m:List Sm)(h:(m=l∨wSs m<wSs l)∧wSs m≤wSs l):((if c then[] else m)=l∨wSs (if c then[] else m)<wSs l)∧wSs (if c then[] else m)≤wSs l:=by
 split
 ·have e:wSs []=0:=rfl
  refine⟨?_,by omega⟩
  match l with
  |[]=>exact .inl rfl
  |x::r=>
   right
   have:=Ki x
   rw[e,wSs];omega
 ·exact h
mutual
theorem Ll:∀x:Sm,(cr x=x∨wS (cr x)<wS x)∧wS (cr x)≤wS x
 | .mk o s a bd el=>by
   rw[cr,wS,wS]
   obtain⟨k2,g2⟩:=Ac (o=5∧fW (.mk o s a bd el) 0=true) bd (aH bd) (sj bd)
   obtain⟨k3,g3⟩:=Ac (o=5∧fW (.mk o s a bd el) 0=false∧jZ (.mk o s a bd el)=true) el (aH el) (sj el)
   refine⟨?_,by omega⟩
   rcases k2 with k2|k2
   ·rcases k3 with k3|k3
    ·exact .inl (by rw[k2,k3])
    ·right;omega
   ·right;omega
theorem sj:∀l:List Sm,(aH l=l∨wSs (aH l)<wSs l)∧wSs (aH l)≤wSs l
 |[]=>⟨.inl (by rw[aH]),by rw[aH];exact RN _⟩
 |x::r=>by
  have hx:=Ki x
  have hr:=sj r
  obtain⟨k2,g2⟩:=Ll x
  rw[bW,wSs]
  split
  ·have:=hr.2
   exact⟨.inr (by omega),by omega⟩
  ·obtain⟨k3,g3⟩:=Ac (x.op=7) r (aH r) hr
   rw[wSs]
   refine⟨?_,by omega⟩
   rcases k2 with k2|k2
   ·rcases k3 with k3|k3
    ·exact .inl (by rw[k2,k3])
    ·right;omega
   ·right;omega
end
theorem Ko(g:Fd→Fd)(hg:∀f,(g f=f∨wSs (g f).body<wSs f.body)∧wSs (g f).body≤wSs f.body):∀l:List Fd,(l.map g=l∨wP (l.map g)<wP l)∧wP (l.map g)≤wP l
 |[]=>⟨.inl rfl,RN _⟩
 |f::r=>by
  obtain⟨k2,g2⟩:=hg f
  obtain⟨k3,g3⟩:=Ko g hg r
  have e1:wP (f::r)=wSs f.body+wP r:=by simp[wP]
  have e2:wP ((f::r).map g)=wSs (g f).body+wP (r.map g):=by simp[wP]
  rw[e1,e2]
  refine⟨?_,by omega⟩
  rcases k2 with k2|k2
  ·rcases k3 with k3|k3
   ·exact .inl (by rw[Sb,k2,k3])
   ·right;omega
  ·right;omega
theorem Bh(l:List Fd):(bK l=l∨wP (bK l)<wP l)∧wP (bK l)≤wP l:=Ko ln (fun f=>by
 obtain⟨k,g⟩:=qe f.body
 refine⟨?_,g⟩
 rcases k with k|k
 ·exact .inl (by rw[ln,k])
 ·exact .inr k) l
theorem Fo(l:List Fd):(cA l=l∨wP (cA l)<wP l)∧wP (cA l)≤wP l:=Ko mK (fun f=>by
 obtain⟨k,g⟩:=sj f.body
 refine⟨?_,g⟩
 rcases k with k|k
 ·exact .inl (by rw[mK,k])
 ·exact .inr k) l
def jS(l:List Fd):List Fd:=cA (bK l)
theorem pm(l:List Fd):jS l=l∨wP (jS l)<wP l:=by
 obtain⟨k1,g1⟩:=Bh l
 obtain⟨k2,g2⟩:=Fo (bK l)
 rcases k1 with k1|k1
 ·rw[jS,k1]
  rw[k1] at k2
  exact k2
 ·right
  rw[jS];omega
theorem FW(l:List Fd):jS l=l↔bK l=l∧cA l=l:=by
 constructor
 ·intro h
  obtain⟨k1,g1⟩:=Bh l
  obtain⟨k2,g2⟩:=Fo (bK l)
  have hw:wP (cA (bK l))=wP l:=congrArg wP h
  rcases k1 with k1|k1
  ·rw[jS,k1] at h
   exact⟨k1,h⟩
  ·omega
 ·rintro⟨h1,h2⟩
  rw[jS,h1,h2]
inductive Smp:List Fd→List Fd→Prop where
 |stop {l}:jS l=l→Smp l l
 |go {l x}:jS l≠l→Smp (jS l) x→Smp l x
theorem Av:∀(n:Nat) (l:List Fd),wP l≤n→∃x,Smp l x:=by
 intro n
 induction n with
 |zero=>
  intro l h
  rcases pm l with h1|h1
  ·exact⟨l,.stop h1⟩
  ·omega
 |succ n ih=>
  intro l h
  by_cases h0:jS l=l
  ·exact⟨l,.stop h0⟩
  ·rcases pm l with h1|h1
   ·exact(h0 h1).elim
   ·obtain⟨x,hx⟩:=ih (jS l) (by omega)
    exact⟨x,.go h0 hx⟩
theorem MJ{l x:List Fd}(h:Smp l x):wP x≤wP l∧jS x=x:=by
 induction h with
 |stop h=>exact⟨RN _,h⟩
 | @go l x h _ ih=>
   rcases pm l with h1|h1
   ·exact(h h1).elim
   ·exact⟨by omega,ih.2⟩
theorem vK{l x:List Fd}(h:Smp l x):x=l↔jS l=l:=by
 constructor
 ·rintro rfl;exact(MJ h).2
 ·intro e
  cases h with
  |stop _=>rfl
  |go h _=>exact(h e).elim
theorem sP{l:List Fd}(h:aI l=0):aI (jS l)=0:=mf (gb h)
end
section
theorem Fd.cs_eq'(f:Fd):f.cs=[.str f.name,aC f.params,smL f.body]:=rfl
variable (G:aM)
end
section
noncomputable def eqX {α:Type} (a b:α):Bool:= @decide (a=b) (Classical.propDecidable _)
theorem cu{α:Type}{a b:α}(h:a=b):eqX a b=true:=by unfold eqX;exact @decide_eq_true _ (Classical.propDecidable _) h
theorem bi{α:Type}{a b:α}(h:¬a=b):eqX a b=false:=by unfold eqX;exact @decide_eq_false _ (Classical.propDecidable _) h
theorem Ex.ext'{a b:Ex}(h1:a.op=b.op)(h2:a.n=b.n)(h3:a.name=b.name)(h4:a.kids=b.kids):a=b:=by
 cases a;cases b;simp only[Ex.op,Ex.n,Ex.name,Ex.kids] at*;subst h1 h2 h3 h4;rfl
theorem Sm.ext'{a b:Sm}(h1:a.op=b.op)(h2:a.name=b.name)(h3:a.args=b.args)(h4:a.body=b.body)(h5:a.els=b.els):a=b:=by
 cases a;cases b;simp only[Sm.op,Sm.name,Sm.args,Sm.body,Sm.els] at*;subst h1 h2 h3 h4 h5;rfl
theorem dx{α:Type}{a b:List α}{i:Nat}(h:a.take i=b.take i)(ha:i<a.length)(hb:i<b.length)(e:a[i]=b[i]):a.take (i+1)=b.take (i+1):=by
 rw[an ha,an hb,h,e]
theorem fa{α:Type}{a b:List α}(h:a.take a.length=b.take a.length)(hl:a.length=b.length):a=b:=by
 rw[Sf] at h
 rw[h,hl,Sf]
theorem si{α:Type}{a b:List α}{i:Nat}(ha:i<a.length)(hb:i<b.length)(e:¬a[i]=b[i]):¬a=b:=fun h=>by
 subst h;exact e rfl
variable (G:aM)
theorem FL(a b:List (List UInt8))(ha:a.length≤1099511627776)(hb:b.length≤1099511627776):VF Tryz.prog G lH [.p (aC a),.p (aC b)] (.p (.bool (eqX a b))):=by
 refine AC.go xw ?_
 have hsl:∀l,aC l= .lst 1 (l.map fun w=>[.str w]):=fun _=>rfl
 by_cases hl:a.length=b.length
 case neg=>
  have hl':¬(a.length:Int)=b.length:=by omega
  rw[bi fun e=>hl (by rw[e])]
  simp-implicitDefEqProofs[ll,hsl,hl']
 simp-implicitDefEqProofs[ll,hsl,hl]
 refine aV (fun i:Nat=>am 26 [(0,.p (aC a)),(1,.p (aC b)),(5,.p (.int .i64 i))]) (fun _=>[]) (fun i=>i≤a.length∧a.take i=b.take i) (fun i=>a.length-i) 0 (by simp) (bS rfl (by simp[below,hsl])) ?_
 rintro i ⟨hi,he⟩
 simp-implicitDefEqProofs[hsl,hl]
 refine bf (fun h=>?_) (fun h=>?_)
 ·simp at h
  have h2:i<a.length:=by omega
  have g1:=RA h2
  have g2:=RA h
  have nx:=dx he h2 h
  have nn:=si h2 h
  generalize a[i]=x at g1 nx nn
  generalize b[i]=y at g2 nx nn
  by_cases e:x=y
  ·simp-implicitDefEqProofs[g1,g2,e]
   exact⟨i+1,⟨by omega,nx e⟩,by omega,bS rfl (by simp[below,hsl,w1 (i:=i) (by omega)])⟩
  ·rw[bi (nn e)]
   simp-implicitDefEqProofs[g1,g2,e]
 ·simp at h
  have hie:i=a.length:=by omega
  subst hie
  rw[cu (fa he hl)]
  simp-implicitDefEqProofs[]
theorem Hz(a b:List (List UInt8))(ha:a.length≤1099511627776)(hb:b.length≤1099511627776):VF Tryz.prog G fz [.p (aC a),.p (aC b)] (.p (.bool (eqX a b))):=by
 refine AC.go oQ ?_
 have hsl:∀l,aC l= .lst 1 (l.map fun w=>[.str w]):=fun _=>rfl
 by_cases hl:a.length=b.length
 case neg=>
  have hl':¬(a.length:Int)=b.length:=by omega
  rw[bi fun e=>hl (by rw[e])]
  simp-implicitDefEqProofs[fD,hsl,hl']
 simp-implicitDefEqProofs[fD,hsl,hl]
 refine aV (fun i:Nat=>am 26 [(0,.p (aC a)),(1,.p (aC b)),(12,.p (.int .i64 b.length)),(13,.p (.int .i64 i))]) (fun _=>[]) (fun i=>i≤a.length∧a.take i=b.take i) (fun i=>a.length-i) 0 (by simp) (bS rfl (by simp[below,hsl])) ?_
 rintro i ⟨hi,he⟩
 simp-implicitDefEqProofs[hsl]
 refine bf (fun h=>?_) (fun h=>?_)
 ·simp at h
  have h2:i<a.length:=by omega
  have g1:=RA h2
  have g2:=RA h
  have nx:=dx he h2 h
  have nn:=si h2 h
  generalize a[i]=x at g1 nx nn
  generalize b[i]=y at g2 nx nn
  by_cases e:x=y
  ·simp-implicitDefEqProofs[g1,g2,e]
   exact⟨i+1,⟨by omega,nx e⟩,by omega,bS rfl (by simp[below,hsl,w1 (i:=i) (by omega)])⟩
  ·rw[bi (nn e)]
   simp-implicitDefEqProofs[g1,g2,e]
 ·simp at h
  have hie:i=a.length:=by omega
  subst hie
  rw[cu (fa he hl)]
  simp-implicitDefEqProofs[]
theorem qQ(F:FuncId)(a b:List Ex)(ha:a.length≤1099511627776)(hb:b.length≤1099511627776)(H:∀x∈a,∀y∈b,VF Tryz.prog G F [.agg (x.cs.map .p),.agg (y.cs.map .p)] (.p (.bool (eqX x y)))):VF Tryz.prog G bE [.p (exL a),.p (exL b),.fn (.func F) []] (.p (.bool (eqX a b))):=by
 refine AC.go ki ?_
 have hsl:∀l,exL l= .lst 4 (l.map Ex.cs):=fun _=>rfl
 by_cases hl:a.length=b.length
 case neg=>
  have hl':¬(a.length:Int)=b.length:=by omega
  rw[bi fun e=>hl (by rw[e])]
  simp-implicitDefEqProofs[dh,hsl,hl']
 simp-implicitDefEqProofs[dh,hsl,hl]
 refine aV (fun i:Nat=>am 32 [(0,.p (exL a)),(1,.p (exL b)),(2,.fn (.func F) []),(15,.p (exL a)),(16,.p (.int .i64 b.length)),(17,.p (.int .i64 i))]) (fun _=>[]) (fun i=>i≤a.length∧a.take i=b.take i) (fun i=>a.length-i) 0 (by simp) (bS rfl (by simp[below,aj,hsl])) ?_
 rintro i ⟨hi,he⟩
 simp-implicitDefEqProofs[hsl]
 refine bf (fun h=>?_) (fun h=>?_)
 ·simp at h
  have h2:i<a.length:=by omega
  have g1:=RA h2
  have g2:=RA h
  have nx:=dx he h2 h
  have nn:=si h2 h
  have hh:=H _ (RH h2) _ (RH h)
  generalize a[i]=x at g1 nx nn hh
  generalize b[i]=y at g2 nx nn hh
  have c1:=x.cs_eq
  have c2:=y.cs_eq
  rw[c1,c2] at hh
  simp-implicitDefEqProofs[g1,g2,c1,c2]
  refine hh.use ?_
  by_cases e:x=y
  ·rw[cu e]
   simp-implicitDefEqProofs[]
   exact⟨i+1,⟨by omega,nx e⟩,by omega,bS rfl (by simp[below,aj,hsl,w1 (i:=i) (by omega)])⟩
  ·rw[bi e,bi (nn e)]
   simp-implicitDefEqProofs[]
 ·simp at h
  have hie:i=a.length:=by omega
  subst hie
  rw[cu (fa he hl)]
  simp-implicitDefEqProofs[]
theorem qR(F:FuncId)(a b:List Sm)(ha:a.length≤1099511627776)(hb:b.length≤1099511627776)(H:∀x∈a,∀y∈b,VF Tryz.prog G F [.agg (x.cs.map .p),.agg (y.cs.map .p)] (.p (.bool (eqX x y)))):VF Tryz.prog G bl [.p (smL a),.p (smL b),.fn (.func F) []] (.p (.bool (eqX a b))):=by
 refine AC.go ka ?_
 have hsl:∀l,smL l= .lst 5 (l.map Sm.cs):=fun _=>rfl
 by_cases hl:a.length=b.length
 case neg=>
  have hl':¬(a.length:Int)=b.length:=by omega
  rw[bi fun e=>hl (by rw[e])]
  simp-implicitDefEqProofs[dk,hsl,hl']
 simp-implicitDefEqProofs[dk,hsl,hl]
 refine aV (fun i:Nat=>am 32 [(0,.p (smL a)),(1,.p (smL b)),(2,.fn (.func F) []),(15,.p (smL a)),(16,.p (.int .i64 b.length)),(17,.p (.int .i64 i))]) (fun _=>[]) (fun i=>i≤a.length∧a.take i=b.take i) (fun i=>a.length-i) 0 (by simp) (bS rfl (by simp[below,aj,hsl])) ?_
 rintro i ⟨hi,he⟩
 simp-implicitDefEqProofs[hsl]
 refine bf (fun h=>?_) (fun h=>?_)
 ·simp at h
  have h2:i<a.length:=by omega
  have g1:=RA h2
  have g2:=RA h
  have nx:=dx he h2 h
  have nn:=si h2 h
  have hh:=H _ (RH h2) _ (RH h)
  generalize a[i]=x at g1 nx nn hh
  generalize b[i]=y at g2 nx nn hh
  have c1:=x.cs_eq
  have c2:=y.cs_eq
  rw[c1,c2] at hh
  simp-implicitDefEqProofs[g1,g2,c1,c2]
  refine hh.use ?_
  by_cases e:x=y
  ·rw[cu e]
   simp-implicitDefEqProofs[]
   exact⟨i+1,⟨by omega,nx e⟩,by omega,bS rfl (by simp[below,aj,hsl,w1 (i:=i) (by omega)])⟩
  ·rw[bi e,bi (nn e)]
   simp-implicitDefEqProofs[]
 ·simp at h
  have hie:i=a.length:=by omega
  subst hie
  rw[cu (fa he hl)]
  simp-implicitDefEqProofs[]
theorem Cm(F:FuncId)(a b:List Fd)(ha:a.length≤1099511627776)(hb:b.length≤1099511627776)(H:∀x∈a,∀y∈b,VF Tryz.prog G F [.agg (x.cs.map .p),.agg (y.cs.map .p)] (.p (.bool (eqX x y)))):VF Tryz.prog G dI [.p (fdL a),.p (fdL b),.fn (.func F) []] (.p (.bool (eqX a b))):=by
 refine AC.go lg ?_
 have hsl:∀l,fdL l= .lst 3 (l.map Fd.cs):=fun _=>rfl
 by_cases hl:a.length=b.length
 case neg=>
  have hl':¬(a.length:Int)=b.length:=by omega
  rw[bi fun e=>hl (by rw[e])]
  simp-implicitDefEqProofs[dP,hsl,hl']
 simp-implicitDefEqProofs[dP,hsl,hl]
 refine aV (fun i:Nat=>am 32 [(0,.p (fdL a)),(1,.p (fdL b)),(2,.fn (.func F) []),(15,.p (fdL a)),(16,.p (.int .i64 b.length)),(17,.p (.int .i64 i))]) (fun _=>[]) (fun i=>i≤a.length∧a.take i=b.take i) (fun i=>a.length-i) 0 (by simp) (bS rfl (by simp[below,aj,hsl])) ?_
 rintro i ⟨hi,he⟩
 simp-implicitDefEqProofs[hsl]
 refine bf (fun h=>?_) (fun h=>?_)
 ·simp at h
  have h2:i<a.length:=by omega
  have g1:=RA h2
  have g2:=RA h
  have nx:=dx he h2 h
  have nn:=si h2 h
  have hh:=H _ (RH h2) _ (RH h)
  generalize a[i]=x at g1 nx nn hh
  generalize b[i]=y at g2 nx nn hh
  have c1:=x.cs_eq'
  have c2:=y.cs_eq'
  rw[c1,c2] at hh
  simp-implicitDefEqProofs[g1,g2,c1,c2]
  refine hh.use ?_
  by_cases e:x=y
  ·rw[cu e]
   simp-implicitDefEqProofs[]
   exact⟨i+1,⟨by omega,nx e⟩,by omega,bS rfl (by simp[below,aj,hsl,w1 (i:=i) (by omega)])⟩
  ·rw[bi e,bi (nn e)]
   simp-implicitDefEqProofs[]
 ·simp at h
  have hie:i=a.length:=by omega
  subst hie
  rw[cu (fa he hl)]
  simp-implicitDefEqProofs[]
theorem Dv:∀(N:Nat) (a:Ex),a.sz≤N→a.sz≤1073741824→∀b:Ex,b.sz≤1073741824→VF Tryz.prog G dq [.agg (a.cs.map .p),.agg (b.cs.map .p)] (.p (.bool (eqX a b))):=by
 intro N
 induction N with
 |zero=>intro e he;have:=e.sz_eq;omega
 |succ N ih=>
  intro a ha hz b hb
  have c1:=a.cs_eq
  have c2:=b.cs_eq
  have z1:=a.sz_eq
  have z2:=b.sz_eq
  have l1:=bh a.kids
  have l2:=bh b.kids
  refine AC.go uW ?_
  by_cases h1:a.op=b.op
  case neg=>
   rw[bi fun e=>h1 (by rw[e])]
   simp-implicitDefEqProofs[fg,c1,c2,h1]
  by_cases h2:a.n=b.n
  case neg=>
   rw[bi fun e=>h2 (by rw[e])]
   simp-implicitDefEqProofs[fg,c1,c2,h1,h2]
  by_cases h3:a.name=b.name
  case neg=>
   rw[bi fun e=>h3 (by rw[e])]
   simp-implicitDefEqProofs[fg,c1,c2,h1,h2,h3]
  have hE:eqX a b=eqX a.kids b.kids:=by
   by_cases h4:a.kids=b.kids
   ·rw[cu h4,cu (Ex.ext' h1 h2 h3 h4)]
   ·rw[bi h4,bi fun e=>h4 (by rw[e])]
  rw[hE]
  simp-implicitDefEqProofs[fg,c1,c2,h1,h2,h3]
  refine(qQ G dq a.kids b.kids (by omega) (by omega) fun x hx y hy=>?_).use ?_
  ·have:=aT hx
   have:=aT hy
   exact ih x (by omega) (by omega) y (by omega)
  simp-implicitDefEqProofs[]
theorem Ba(a b:List Ex)(ha:bC a≤1073741824)(hb:bC b≤1073741824):VF Tryz.prog G bE [.p (exL a),.p (exL b),.fn (.func dq) []] (.p (.bool (eqX a b))):=by
 have:=bh a
 have:=bh b
 exact qQ G dq a b (by omega) (by omega) fun x hx y hy=>Dv G x.sz x (RN _) (by have:=aT hx;omega) y (by have:=aT hy;omega)
theorem DA:∀(N:Nat) (a:Sm),a.sz≤N→a.sz≤1073741824→∀b:Sm,b.sz≤1073741824→VF Tryz.prog G cL [.agg (a.cs.map .p),.agg (b.cs.map .p)] (.p (.bool (eqX a b))):=by
 intro N
 induction N with
 |zero=>intro e he;have:=e.sz_eq;omega
 |succ N ih=>
  intro a ha hz b hb
  have c1:=a.cs_eq
  have c2:=b.cs_eq
  have z1:=a.sz_eq
  have z2:=b.sz_eq
  have sub:∀x y:List Sm,aq x≤N→aq x≤1073741824→aq y≤1073741824→VF Tryz.prog G bl [.p (smL x),.p (smL y),.fn (.func cL) []] (.p (.bool (eqX x y))):=fun x y h1 h2 h3=>
   qR G cL x y (by have:=bk x;omega) (by have:=bk y;omega) fun u hu v hv=>ih u (by have:=bD hu;omega) (by have:=bD hu;omega) v (by have:=bD hv;omega)
  refine AC.go vg ?_
  by_cases h1:a.op=b.op
  case neg=>
   rw[bi fun e=>h1 (by rw[e])]
   simp-implicitDefEqProofs[gZ,c1,c2,h1]
  by_cases h2:a.name=b.name
  case neg=>
   rw[bi fun e=>h2 (by rw[e])]
   simp-implicitDefEqProofs[gZ,c1,c2,h1,h2]
  simp-implicitDefEqProofs[gZ,c1,c2,h1,h2]
  refine(Ba G a.args b.args (by omega) (by omega)).use ?_
  by_cases h3:a.args=b.args
  case neg=>
   rw[bi h3,bi fun e=>h3 (by rw[e])]
   simp-implicitDefEqProofs[]
  rw[cu h3]
  simp-implicitDefEqProofs[]
  refine(sub a.body b.body (by omega) (by omega) (by omega)).use ?_
  by_cases h4:a.body=b.body
  case neg=>
   rw[bi h4,bi fun e=>h4 (by rw[e])]
   simp-implicitDefEqProofs[]
  rw[cu h4]
  simp-implicitDefEqProofs[]
  refine(sub a.els b.els (by omega) (by omega) (by omega)).use ?_
  by_cases h5:a.els=b.els
  case neg=>
   rw[bi h5,bi fun e=>h5 (by rw[e])]
   simp-implicitDefEqProofs[]
  rw[cu h5,cu (Sm.ext' h1 h2 h3 h4 h5)]
  simp-implicitDefEqProofs[]
theorem tO(a b:Fd)(ha:a.sz≤1073741824)(hb:b.sz≤1073741824):VF Tryz.prog G dR [.agg (a.cs.map .p),.agg (b.cs.map .p)] (.p (.bool (eqX a b))):=by
 have c1:=a.cs_eq'
 have c2:=b.cs_eq'
 have z1:a.sz=1+a.name.length+(a.params.length+(a.params.map List.length).sum)+aq a.body:=rfl
 have z2:b.sz=1+b.name.length+(b.params.length+(b.params.map List.length).sum)+aq b.body:=rfl
 refine AC.go oI ?_
 by_cases h1:a.name=b.name
 case neg=>
  rw[bi fun e=>h1 (by rw[e])]
  simp-implicitDefEqProofs[fG,c1,c2,h1]
 simp-implicitDefEqProofs[fG,c1,c2,h1]
 refine(Hz G a.params b.params (by omega) (by omega)).use ?_
 by_cases h2:a.params=b.params
 case neg=>
  rw[bi h2,bi fun e=>h2 (by rw[e])]
  simp-implicitDefEqProofs[]
 rw[cu h2]
 simp-implicitDefEqProofs[]
 refine(qR G cL a.body b.body (by have:=bk a.body;omega) (by have:=bk b.body;omega) fun u hu v hv=>DA G u.sz u (RN _) (by have:=bD hu;omega) v (by have:=bD hv;omega)).use ?_
 by_cases h3:a.body=b.body
 case neg=>
  rw[bi h3,bi fun e=>h3 (by rw[e])]
  simp-implicitDefEqProofs[]
 rw[cu h3,cu (by cases a;cases b;simp only at h1 h2 h3;subst h1 h2 h3;rfl)]
 simp-implicitDefEqProofs[]
theorem eS(a b:List Fd)(ha:aJ a≤1073741824)(hb:aJ b≤1073741824):VF Tryz.prog G bI [.agg [.p (fdL a)],.agg [.p (fdL b)]] (.p (.bool (eqX a b))):=by
 refine AC.go qC ?_
 simp-implicitDefEqProofs[kA]
 refine(Cm G dR a b (by have:=cW a;omega) (by have:=cW b;omega) fun u hu v hv=>tO G u v (by have:=cJ hu;omega) (by have:=cJ hv;omega)).use ?_
 simp-implicitDefEqProofs[]
theorem DF:∀(N:Nat) (a:Ex),a.sz≤N→a.sz≤1073741824→∀b:Ex,b.sz≤1073741824→VF Tryz.prog G gV [.agg (a.cs.map .p),.agg (b.cs.map .p)] (.p (.bool (eqX a b))):=by
 intro N
 induction N with
 |zero=>intro e he;have:=e.sz_eq;omega
 |succ N ih=>
  intro a ha hz b hb
  have c1:=a.cs_eq
  have c2:=b.cs_eq
  have z1:=a.sz_eq
  have z2:=b.sz_eq
  have l1:=bh a.kids
  have l2:=bh b.kids
  have hsl:∀l,exL l= .lst 4 (l.map Ex.cs):=fun _=>rfl
  refine AC.go uV ?_
  by_cases h1:a.op=b.op
  case neg=>
   rw[bi fun e=>h1 (by rw[e])]
   simp-implicitDefEqProofs[eb,c1,c2,h1]
  by_cases h2:a.n=b.n
  case neg=>
   rw[bi fun e=>h2 (by rw[e])]
   simp-implicitDefEqProofs[eb,c1,c2,h1,h2]
  by_cases h3:a.name=b.name
  case neg=>
   rw[bi fun e=>h3 (by rw[e])]
   simp-implicitDefEqProofs[eb,c1,c2,h1,h2,h3]
  by_cases hl:a.kids.length=b.kids.length
  case neg=>
   have hl':¬(a.kids.length:Int)=b.kids.length:=by omega
   rw[bi fun e=>hl (by rw[e])]
   simp-implicitDefEqProofs[eb,c1,c2,h1,h2,h3,hsl,hl']
  simp-implicitDefEqProofs[eb,c1,c2,h1,h2,h3,hsl,hl]
  refine aV (fun i:Nat=>am 53 [(2,.ptr 0 4 0 0),(3,.ptr 1 4 0 0),(5,.p (.int .i64 i))]) (fun _=>[.row 4 [[.p (.int .i64 b.op),.p (.int .i64 b.n),.p (.str b.name),.p (.lst 4 (a.kids.map Ex.cs))]],.row 4 [[.p (.int .i64 b.op),.p (.int .i64 b.n),.p (.str b.name),.p (.lst 4 (b.kids.map Ex.cs))]]]) (fun i=>i≤a.kids.length∧a.kids.take i=b.kids.take i) (fun i=>a.kids.length-i) 0 (by simp) (ae (by simp) (by simp[okO,below]) (by simp[below])) ?_
  rintro i ⟨hi,he⟩
  simp-implicitDefEqProofs[hl]
  refine bf (fun h=>?_) (fun h=>?_)
  ·simp at h
   have h2':i<a.kids.length:=by omega
   have g1:=RA h2'
   have g2:=RA h
   have nx:=dx he h2' h
   have nn:=si h2' h
   have s1:=aT (RH h2')
   have s2:=aT (RH h)
   generalize a.kids[i]=x at g1 nx nn s1
   generalize b.kids[i]=y at g2 nx nn s2
   simp-implicitDefEqProofs[g1,g2]
   refine(ih x (by omega) (by omega) y (by omega)).use ?_
   by_cases e:x=y
   ·rw[cu e]
    simp-implicitDefEqProofs[]
    exact⟨i+1,⟨by omega,nx e⟩,by omega,ae (by simp) (by simp[okO,below]) (by simp[below,w1 (i:=i) (by omega)])⟩
   ·rw[bi e,bi fun e=>nn ‹_› (by rw[e])]
    simp-implicitDefEqProofs[]
  ·simp at h
   have hie:i=a.kids.length:=by omega
   subst hie
   rw[cu (Ex.ext' h1 h2 h3 (fa he hl))]
   simp-implicitDefEqProofs[]
theorem AH:∀(N:Nat) (a:List Sm),aq a<N→aq a≤1073741824→∀b:List Sm,aq b≤1073741824→VF Tryz.prog G ef [.p (smL a),.p (smL b)] (.p (.bool (eqX a b))):=by
 intro N
 induction N with
 |zero=>intro a ha;omega
 |succ N ih=>
  intro a ha hza b hzb
  have l1:=bk a
  have l2:=bk b
  have hsl:∀l,smL l= .lst 5 (l.map Sm.cs):=fun _=>rfl
  have hxl:∀l,exL l= .lst 4 (l.map Ex.cs):=fun _=>rfl
  refine AC.go tm ?_
  by_cases hl:a.length=b.length
  case neg=>
   have hl':¬(a.length:Int)=b.length:=by omega
   rw[bi fun e=>hl (by rw[e])]
   simp-implicitDefEqProofs[iR,hsl,hl']
  simp-implicitDefEqProofs[iR,hsl,hl]
  refine aV (fun i:Nat=>am 111 [(0,.p (smL a)),(1,.p (smL b)),(5,.p (.int .i64 i))]) (fun _=>[]) (fun i=>i≤a.length∧a.take i=b.take i) (fun i=>a.length-i) 0 (by simp) (bS rfl (by simp[below,hsl])) ?_
  rintro i ⟨hi,he⟩
  simp-implicitDefEqProofs[hsl,hl]
  refine bf (fun h=>?_) (fun h=>?_)
  case _=>
   simp at h
   have h2:i<a.length:=by omega
   have g1:=RA h2
   have g2:=RA h
   have nx:=dx he h2 h
   have nn:=si h2 h
   have m1:=bD (RH h2)
   have m2:=bD (RH h)
   generalize a[i]=x at g1 nx nn m1
   generalize b[i]=y at g2 nx nn m2
   have c1:=x.cs_eq
   have c2:=y.cs_eq
   have z1:=x.sz_eq
   have z2:=y.sz_eq
   have q1:=bh x.args
   have q2:=bh y.args
   by_cases h1:x.op=y.op
   case neg=>
    rw[bi (nn fun e=>h1 (by rw[e]))]
    simp-implicitDefEqProofs[g1,g2,c1,c2,h1]
   by_cases h3:x.name=y.name
   case neg=>
    rw[bi (nn fun e=>h3 (by rw[e]))]
    simp-implicitDefEqProofs[g1,g2,c1,c2,h1,h3]
   by_cases h4:x.args.length=y.args.length
   case neg=>
    have h4':¬(x.args.length:Int)=y.args.length:=by omega
    rw[bi (nn fun e=>h4 (by rw[e]))]
    simp-implicitDefEqProofs[g1,g2,c1,c2,h1,h3,hxl,h4']
   simp-implicitDefEqProofs[g1,g2,c1,c2,h1,h3,hxl,h4]
   refine aV (fun j:Nat=>am 111 [(0,.p (smL a)),(1,.p (smL b)),(5,.p (.int .i64 i)),(6,.p (.int .i64 j))]) (fun _=>[]) (fun j=>j≤x.args.length∧x.args.take j=y.args.take j) (fun j=>x.args.length-j) 0 (by simp) (bS rfl (by simp[below,hsl])) ?_
   rintro j ⟨hj,hej⟩
   simp-implicitDefEqProofs[hsl,g1,g2,c1,c2,hxl,h4]
   refine bf (fun hc=>?_) (fun hc=>?_)
   ·simp at hc
    have hc2:j<x.args.length:=by omega
    have a1:=RA hc2
    have a2:=RA hc
    have nx2:=dx hej hc2 hc
    have nn2:=si hc2 hc
    have u1:=aT (RH hc2)
    have u2:=aT (RH hc)
    generalize x.args[j]=v at a1 nx2 nn2 u1
    generalize y.args[j]=w at a2 nx2 nn2 u2
    simp-implicitDefEqProofs[hsl,g1,g2,c1,c2,hxl,a1,a2]
    refine(DF G v.sz v (RN _) (by omega) w (by omega)).use ?_
    by_cases e:v=w
    ·rw[cu e]
     simp-implicitDefEqProofs[]
     exact⟨j+1,⟨by omega,nx2 e⟩,by omega,bS rfl (by simp[below,hsl,w1 (i:=j) (by omega)])⟩
    ·rw[bi e,bi (nn fun q=>nn2 e (by rw[q]))]
     simp-implicitDefEqProofs[]
   ·simp at hc
    have hje:j=x.args.length:=by omega
    subst hje
    have hA:=fa hej h4
    simp-implicitDefEqProofs[g1,g2,c1,c2]
    refine(ih x.body (by omega) (by omega) y.body (by omega)).use ?_
    by_cases h5:x.body=y.body
    case neg=>
     rw[bi h5,bi (nn fun e=>h5 (by rw[e]))]
     simp-implicitDefEqProofs[]
    rw[cu h5]
    simp-implicitDefEqProofs[g1,g2,c1,c2]
    refine(ih x.els (by omega) (by omega) y.els (by omega)).use ?_
    by_cases h6:x.els=y.els
    case neg=>
     rw[bi h6,bi (nn fun e=>h6 (by rw[e]))]
     simp-implicitDefEqProofs[]
    rw[cu h6]
    simp-implicitDefEqProofs[]
    exact⟨i+1,⟨by omega,nx (Sm.ext' h1 h3 hA h5 h6)⟩,by omega,bS rfl (by simp[below,hsl,w1 (i:=i) (by omega)])⟩
  case _=>
   simp at h
   have hie:i=a.length:=by omega
   subst hie
   rw[cu (fa he hl)]
   simp-implicitDefEqProofs[]
theorem fX(a b:List Fd)(ha:aJ a≤1073741824)(hb:aJ b≤1073741824):VF Tryz.prog G cK [.agg [.p (fdL a)],.agg [.p (fdL b)]] (.p (.bool (eqX a b))):=by
 have hll1:=cW a
 have hll2:=cW b
 have hfl:∀l,fdL l= .lst 3 (l.map Fd.cs):=fun _=>rfl
 refine AC.go qH ?_
 by_cases hl:a.length=b.length
 case neg=>
  have hl':¬(a.length:Int)=b.length:=by omega
  rw[bi fun e=>hl (by rw[e])]
  simp-implicitDefEqProofs[gy,hfl,hl']
 simp-implicitDefEqProofs[gy,hfl,hl]
 refine aV (fun i:Nat=>am 65 [(2,.ptr 0 1 0 0),(3,.ptr 1 1 0 0),(5,.p (.int .i64 i))]) (fun _=>[.row 1 [[.p (fdL a)]],.row 1 [[.p (fdL b)]]]) (fun i=>i≤a.length∧a.take i=b.take i) (fun i=>a.length-i) 0 (by simp) (ae (by simp) (by simp[okO,below]) (by simp[below])) ?_
 rintro i ⟨hi,he⟩
 simp-implicitDefEqProofs[hfl,hl]
 refine bf (fun h=>?_) (fun h=>?_)
 case _=>
  simp at h
  have h2:i<a.length:=by omega
  have g1:=RA h2
  have g2:=RA h
  have nx:=dx he h2 h
  have nn:=si h2 h
  have m1:=cJ (RH h2)
  have m2:=cJ (RH h)
  generalize a[i]=x at g1 nx nn m1
  generalize b[i]=y at g2 nx nn m2
  have c1:=x.cs_eq'
  have c2:=y.cs_eq'
  have z1:x.sz=1+x.name.length+(x.params.length+(x.params.map List.length).sum)+aq x.body:=rfl
  have z2:y.sz=1+y.name.length+(y.params.length+(y.params.map List.length).sum)+aq y.body:=rfl
  by_cases h1:x.name=y.name
  case neg=>
   rw[bi (nn fun e=>h1 (by rw[e]))]
   simp-implicitDefEqProofs[g1,g2,c1,c2,h1]
  simp-implicitDefEqProofs[g1,g2,c1,c2,h1]
  refine(FL G x.params y.params (by omega) (by omega)).use ?_
  by_cases h3:x.params=y.params
  case neg=>
   rw[bi h3,bi (nn fun e=>h3 (by rw[e]))]
   simp-implicitDefEqProofs[]
  rw[cu h3]
  simp-implicitDefEqProofs[g1,g2,c1,c2]
  refine(AH G (aq x.body+1) x.body (by omega) (by omega) y.body (by omega)).use ?_
  by_cases h4:x.body=y.body
  case neg=>
   rw[bi h4,bi (nn fun e=>h4 (by rw[e]))]
   simp-implicitDefEqProofs[]
  rw[cu h4]
  simp-implicitDefEqProofs[]
  exact⟨i+1,⟨by omega,nx (by cases x;cases y;simp only at h1 h3 h4;subst h1 h3 h4;rfl)⟩,by omega,ae (h:=[.row 1 [[.p (fdL a)]],.row 1 [[.p (fdL b)]]]) (by simp) (by simp[okO,below]) (by simp[below,w1 (i:=i) (by omega)])⟩
 case _=>
  simp at h
  have hie:i=a.length:=by omega
  subst hie
  rw[cu (fa he hl)]
  simp-implicitDefEqProofs[]
end
section
theorem QT{o n:Int}{s:List UInt8}{ks:List Ex}{x:Ex}(hx:P5 o n s ks x):x.sz≤1+s.length+bC ks:=by
 rcases hx with rfl|⟨q,rfl,hq⟩|⟨a,ha,rfl⟩|⟨a,ha,c,hc,rfl⟩
 ·exact RN _
 ·simp only[co,Ex.sz,bC,List.length_nil];omega
 ·have:=aT ha;omega
 ·have h1:=aT ha
  have h2:=aT hc
  have h3:=a.sz_eq
  omega
mutual
theorem Mh:∀e:Ex,(cC e).sz≤e.sz
 | .mk o n s ks=>by
   rw[cC,Ex.sz]
   have h1:=QT (qh o n s (aU ks))
   have h2:=mZ ks
   omega
theorem mZ:∀l:List Ex,bC (aU l)≤bC l
 |[]=>RN _
 |e::r=>by
  have h1:=Mh e
  have h2:=mZ r
  rw[aU,bC,bC]
  omega
end
mutual
theorem IW:∀x:Sm,(cQ x).sz≤x.sz
 | .mk o s a bd el=>by
   rw[cQ,Sm.sz,Sm.sz]
   have h1:=mZ a
   have h2:=kI bd
   have h3:=kI el
   omega
theorem kI:∀l:List Sm,aq (aw l)≤aq l
 |[]=>RN _
 |x::r=>by
  have h1:=IW x
  have h2:=kI r
  rw[aw,aq,aq]
  omega
end
theorem AE(c:Prop)[Decidable c](l:List Sm)(n:Nat)(h:aq l≤n):aq (if c then[] else l)≤n:=by
 split
 ·exact Nat.zero_le _
 ·exact h
mutual
theorem Mm:∀x:Sm,(cr x).sz≤x.sz
 | .mk o s a bd el=>by
   rw[cr,Sm.sz,Sm.sz]
   have h2:=AE (o=5∧fW (.mk o s a bd el) 0=true) _ _ (sy bd)
   have h3:=AE (o=5∧fW (.mk o s a bd el) 0=false∧jZ (.mk o s a bd el)=true) _ _ (sy el)
   omega
theorem sy:∀l:List Sm,aq (aH l)≤aq l
 |[]=>by rw[aH];exact RN _
 |x::r=>by
  have h1:=Mm x
  have h2:=sy r
  rw[bW,aq]
  split
  ·omega
  ·rw[aq]
   have h3:=AE (x.op=7) _ _ h2
   omega
end
theorem xC(g:Fd→Fd)(hg:∀f,(g f).sz≤f.sz):∀l:List Fd,aJ (l.map g)≤aJ l
 |[]=>RN _
 |f::r=>by
  have h1:=hg f
  have h2:=xC g hg r
  have e1:aJ (f::r)=f.sz+aJ r:=by simp[aJ]
  have e2:aJ ((f::r).map g)=(g f).sz+aJ (r.map g):=by simp[aJ]
  omega
theorem Jc(f:Fd):(ln f).sz≤f.sz:=by
 have:=kI f.body
 simp only[ln,Fd.sz];omega
theorem KR(f:Fd):(mK f).sz≤f.sz:=by
 have:=sy f.body
 simp only[mK,Fd.sz];omega
theorem ic(l:List Fd):aJ (bK l)≤aJ l:=xC ln Jc l
theorem nI(l:List Fd):aJ (cA l)≤aJ l:=xC mK KR l
noncomputable def jN (l:List Fd):Bool:=decide (aI l=0)&&eqX (jS l) l
end
section
def K_spec_l6Safe:AK:= .seq (.reg [oJ 1 (.box 4 (.t 0)),oJ 2 (.mov (.c (.p (.bool false))))]) (.seq (.seq (.reg [oF 4 0 1,oL 5 4,oJ 6 (.bin .eql (.t 5) (.c (.p (.int .i64 12)))),oM 7 6,⟨(some 8),some (7,false),.fldA 0 (.t 1)⟩,⟨(some 9),some (7,false),.ld none (.t 8)⟩,⟨(some 10),some (7,false),.bin .eql (.t 9) (.c (.p (.int .i64 13)))⟩,oJ 11 (.pick (.t 7) (.c (.p (.bool true))) (.t 10))]) (.cond (.t 11) (.seq (.reg [oJ 2 (.mov (.c (.p (.bool false))))]) (.ret)) (.skip))) (.cut (.seq (.reg [oF 12 0 1,oL 13 12,oJ 14 (.bin .eql (.t 13) (.c (.p (.int .i64 6)))),oM 15 14,⟨(some 16),some (15,false),.fldA 0 (.t 1)⟩,⟨(some 17),some (15,false),.ld none (.t 16)⟩,⟨(some 18),some (15,false),.bin .eql (.t 17) (.c (.p (.int .i64 7)))⟩,oJ 19 (.pick (.t 15) (.c (.p (.bool true))) (.t 18)),oM 20 19,⟨(some 21),some (20,true),.fldA 3 (.t 1)⟩,⟨(some 22),some (20,true),.ld none (.t 21)⟩,⟨(some 23),some (20,true),.idxS 4 (.t 22) (.c (.p (.int .i64 1)))⟩,⟨(some 24),some (20,true),.fldA 0 (.t 23)⟩,⟨(some 25),some (20,true),.ld none (.t 24)⟩,⟨(some 26),some (20,true),.bin .neq (.t 25) (.c (.p (.int .i64 1)))⟩,⟨(some 27),some (20,true),.mov (.t 26)⟩,⟨(some 28),some (27,false),.fldA 3 (.t 1)⟩,⟨(some 29),some (27,false),.ld none (.t 28)⟩,⟨(some 30),some (27,false),.idxS 4 (.t 29) (.c (.p (.int .i64 1)))⟩,⟨(some 31),some (27,false),.fldA 1 (.t 30)⟩,⟨(some 32),some (27,false),.ld none (.t 31)⟩,⟨(some 33),some (27,false),.bin .eql (.t 32) (.c (.p (.int .i64 0)))⟩,⟨(some 34),some (20,true),.pick (.t 27) (.c (.p (.bool true))) (.t 33)⟩,oJ 35 (.pick (.t 20) (.t 34) (.c (.p (.bool false))))]) (.cond (.t 35) (.seq (.reg [oJ 2 (.mov (.c (.p (.bool false))))]) (.ret)) (.skip))) (.seq (.seq (.reg [oK 3 0]) (.blk 0 (.loop (.seq (.seq (.reg [oM 36 3,oF 37 3 1,oL 38 37,oJ 39 (.len false (.t 38)),oJ 40 (.bin .lss (.t 36) (.t 39))]) (.cond (.t 40) (.skip) (.exit 0))) (.seq (.blk 1 (.seq (.reg [oF 43 3 1,oL 44 43,oM 45 3,oJ 46 (.idxS 4 (.t 44) (.t 45)),oJ 47 (.ld (some 4) (.t 46)),oJ 48 (.call dz [(.t 47)]),oJ 49 (.not (.t 48))]) (.cond (.t 49) (.seq (.reg [oJ 2 (.mov (.c (.p (.bool false))))]) (.ret)) (.skip)))) (.reg [oM 41 3,oJ 42 (.bin .add (.t 41) (.c (.p (.int .i64 1)))),oM 3 42])))))) (.seq (.reg [oJ 2 (.mov (.c (.p (.bool true))))]) (.ret)))))
theorem yp:K_spec_l6Safe.whole=F_spec_l6Safe.ak:=rfl
variable (G:aM)
theorem gk(n:Int):VF Tryz.prog G bc [.p (.int .i64 n)] (.agg ((co n).cs.map .p)):=by
 have key:AC Tryz.prog G bc [.p (.int .i64 n)] [] fun x h=>x= .ret (.agg [.p (.int .i64 1),.p (.int .i64 n),.p (.str []),.nils]):=by
  refine AC.go zH ?_
  simp-implicitDefEqProofs[sT]
 refine key.freezeR (fun t v h e=>by cases e) fun v h e=>?_
 cases e
 exact .agg (.one (.p _) (.one (.p _) (.one (.p _) (.one (.nils 4) .nil)))) .nil
theorem wW(e:Ex)(n:Int):VF Tryz.prog G bs [.agg (e.cs.map .p),.p (.int .i64 n)] (.p (.bool (isN e n))):=by
 refine AC.go Bz ?_
 by_cases h1:e.op=1
 ·simp-implicitDefEqProofs[pw,Ex.cs_eq,isN,h1]
 ·simp-implicitDefEqProofs[pw,Ex.cs_eq,isN,h1]
theorem qj(b:Bool):VF Tryz.prog G cX [.p (.bool b)] (.p (.int .i64 (tr5 b))):=by
 refine AC.go wI ?_
 cases b<;>simp-implicitDefEqProofs[ph,tr5]
def qu:Option Int→AV
 |some q=> .tup [.p (.int .i64 q),.p (.int .i64 0)]
 |none=> .tup [.p (.int .i64 0),.p (.int .i64 1)]
theorem Md(o a b:Int)(ho:3≤o)(h9:o≤9)(ha:V5 a)(hb:V5 b):VF Tryz.prog G oa [.p (.int .i64 o),.p (.int .i64 a),.p (.int .i64 b)] (qu (DZ o a b)):=by
 obtain⟨a0,a1⟩:=ha
 obtain⟨b0,b1⟩:=hb
 refine AC.go zQ ?_
 have hm:a*b≤65025:=by
  have h1:=Int.mul_le_mul_of_nonneg_right a1 b0
  omega
 have hm0:0≤a*b:=Int.mul_nonneg a0 b0
 have ho':o=3∨o=4∨o=5∨o=6∨o=7∨o=8∨o=9:=by omega
 rcases ho' with rfl|rfl|rfl|rfl|rfl|rfl|rfl
 all_goals simp-implicitDefEqProofs[sh,DZ]
 ·rw[af (by omega) (by omega),Int.tmod_eq_emod_of_nonneg (by omega)];rfl
 ·have hw:IntKind.i64.wrap (a-b)=a-b:=af (by omega) (by omega)
  rw[hw,af (by omega) (by omega),Int.tmod_eq_emod_of_nonneg (by omega)]
  have:(a-b+256)%256=(a-b)%256:=by omega
  rw[this];rfl
 ·rw[af (by omega) (by omega),Int.tmod_eq_emod_of_nonneg (by omega)];rfl
 ·refine bf (fun h=>?_) (fun h=>?_)
  ·simp at h
   simp-implicitDefEqProofs[h,qu]
  ·simp at h
   simp-implicitDefEqProofs[h,qu]
   rw[Int.tdiv_eq_ediv_of_nonneg (by omega)]
   have h1:a/b≤a:=Int.ediv_le_self b a0
   have h2:0≤a/b:=Int.ediv_nonneg a0 b0
   exact af (by omega) (by omega)
 ·refine bf (fun h=>?_) (fun h=>?_)
  ·simp at h
   simp-implicitDefEqProofs[h,qu]
  ·simp at h
   simp-implicitDefEqProofs[h,qu]
   rw[Int.tmod_eq_emod_of_nonneg (by omega)]
 ·refine(qj G _).use ?_
  simp-implicitDefEqProofs[qu]
 ·refine(qj G _).use ?_
  simp-implicitDefEqProofs[qu]
theorem kP:∀l:List Ex,AL l=l.all eE
 |[]=>rfl
 |e::r=>by rw[AL,kP r];rfl
def dvE(e:Ex):Bool:=(decide (e.op=6)||decide (e.op=7))&& !(match e.kids with|[_,b]=>decide (b.op=1)&& !decide (b.n=0)|_=>false)
theorem Bl(e:Ex):eE e=(!decide (e.op=12)&& !decide (e.op=13)&& !dvE e&&e.kids.all eE):=by
 have h:∀(a c:Bool),(!(a&& !c))=(!a||c):=by decide
 rw[dvE,h]
 match e with
 | .mk o n s []=>rw[eE,kP]<;>first|rfl|(intro _ _ e;cases e)
 | .mk o n s [a]=>rw[eE,kP]<;>first|rfl|(intro _ _ e;cases e)
 | .mk o n s [a,b]=>rw[eE,kP];rfl
 | .mk o n s (a::b::c::r)=>rw[eE,kP]<;>first|rfl|(intro _ _ e;cases e)
theorem BT:∀(d:Nat) (e:Ex),bp d e=true→e.sz≤1099511627776→VF Tryz.prog G dz [.agg (e.cs.map .p)] (.p (.bool (eE e))):=by
 intro d
 induction d with
 |zero=>intro e h;cases h
 |succ d ih=>
  intro e hf hz
  have hzz:=e.sz_eq
  have hlen:=bh e.kids
  refine AC.goK yw yp ?_
  rw[Bl]
  by_cases o12:e.op=12
  ·simp-implicitDefEqProofs[K_spec_l6Safe,F_spec_l6Safe,Ex.cs_eq,o12]
  by_cases o13:e.op=13
  ·simp-implicitDefEqProofs[K_spec_l6Safe,F_spec_l6Safe,Ex.cs_eq,o13]
  have hxl:∀l,exL l= .lst 4 (l.map Ex.cs):=fun _=>rfl
  simp-implicitDefEqProofs[K_spec_l6Safe,F_spec_l6Safe,Ex.cs_eq,o12,o13,hxl]
  refine ox (fun _:Unit=>am 50 [(1,.ptr 0 4 0 0)]) (fun _=>[.row 4 [[.p (.int .i64 e.op),.p (.int .i64 e.n),.p (.str e.name),.p (.lst 4 (e.kids.map Ex.cs))]]]) (fun _=>dvE e=false) ?_ ?_
  ·by_cases o67:e.op=6∨e.op=7
   ·have hk:∃a b,e.kids=[a,b]:=by
     obtain⟨l1,l2,_⟩:=ed hf
     have e1:loK e.op=2∧hiK e.op=2:=by rcases o67 with h|h<;>rw[h]<;>exact⟨rfl,rfl⟩
     rw[e1.1] at l1
     rw[e1.2] at l2
     match hx:e.kids,l1,l2 with
     |[a,b],_,_=>exact⟨a,b,rfl⟩
    obtain⟨a,b,hk⟩:=hk
    have hd:dvE e= !(decide (b.op=1)&& !decide (b.n=0)):=by
     rw[dvE,hk]
     rcases o67 with h|h<;>simp[h]
    rw[hd]
    have hbc:=b.cs_eq
    rcases o67 with o6|o7
    ·by_cases b1:b.op=1
     ·by_cases b0:b.n=0
      ·simp-implicitDefEqProofs[o6,hk,hbc,b1,b0]
      ·simp-implicitDefEqProofs[o6,hk,hbc,b1,b0]
       exact ae (by simp) (by simp[okO]) (by simp[below])
     ·simp-implicitDefEqProofs[o6,hk,hbc,b1]
    ·by_cases b1:b.op=1
     ·by_cases b0:b.n=0
      ·simp-implicitDefEqProofs[o7,hk,hbc,b1,b0]
      ·simp-implicitDefEqProofs[o7,hk,hbc,b1,b0]
       exact ae (by simp) (by simp[okO]) (by simp[below])
     ·simp-implicitDefEqProofs[o7,hk,hbc,b1]
   ·have o6:¬e.op=6:=fun h=>o67 (.inl h)
    have o7:¬e.op=7:=fun h=>o67 (.inr h)
    simp-implicitDefEqProofs[o6,o7]
    exact⟨by simp[dvE,o6,o7],ae (by simp) (by simp[okO]) (by simp[below])⟩
  ·intro _ hd
   simp-implicitDefEqProofs[]
   refine aV (fun i:Nat=>am 50 [(1,.ptr 0 4 0 0),(3,.p (.int .i64 i))]) (fun _=>[.row 4 [[.p (.int .i64 e.op),.p (.int .i64 e.n),.p (.str e.name),.p (.lst 4 (e.kids.map Ex.cs))]]])
    (fun i=>i≤e.kids.length∧(e.kids.take i).all eE=true) (fun i=>e.kids.length-i) 0 (by simp) (ae (by simp) (by simp[okO]) (by simp[below])) ?_
   intro i ⟨hi,hall⟩
   simp-implicitDefEqProofs[]
   refine bf (fun h=>?_) (fun h=>?_)
   ·simp at h
    have hg:=RA h
    have hks:=aT (RH h)
    simp-implicitDefEqProofs[hg]
    refine(ih e.kids[i] (ga hf (RH h)) (by omega)).use ?_
    by_cases hk:eE e.kids[i]=true
    ·simp-implicitDefEqProofs[hk]
     refine⟨i+1,⟨h,by rw[←RF,eA h,hall,hk];rfl⟩,by omega,ae (by simp) (by simp[okO]) ?_⟩
     simp[below,w1 (i:=i) (by omega)]
    ·have hk':eE e.kids[i]=false:=by simpa using hk
     simp-implicitDefEqProofs[hk',mv h hk']
   ·simp at h
    have:=gF h hall
    simp-implicitDefEqProofs[hd,this]
end
end Go.Proofs.YtaopbokndkdieaaGreatDoor
