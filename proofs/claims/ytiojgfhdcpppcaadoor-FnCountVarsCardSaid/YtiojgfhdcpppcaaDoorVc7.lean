/-
  Contracts and lemmas that the card needs, part 7.
-/
import Derived.Test.YtiojgfhdcpppcaaDoorVc6
namespace Go.Proofs.YtiojgfhdcpppcaaDoor
open Go Go.Aw
set_option maxRecDepth 100000
set_option maxHeartbeats 4000000
variable (G:aG)
def PgQ(p n m:Nat)(v:AV)(q:Nat):Prop:=(∃l:List Fd,v= .agg [.p (fdL l)]∧aN l≤n)∧p≤q∧q≤p+m
theorem su{h:List AO}{id sz:Nat}{rows:List (List AV)}{es:List (List PV)}(he:h[id]?=some (.row sz rows))(hl:rows.length=es.length)(hs:∀e∈es,e.length=sz)(hv:∀(i j:Nat) (e:List PV) (q:PV) (e':List AV) (a:AV),es[i]?=some e→e[j]?=some q→rows[i]?=some e'→e'[j]?=some a→View h a q){n:Nat}(hn:n=es.length):View h (.sl id sz 0 n) (.lst sz es):=by
 subst hn
 exact .sl id sz 0 rows es he (by omega) hs fun i j e q e' a a1 a2 a3 a4=>hv i j e q e' a a1 a2 (by rwa[Nat.zero_add] at a3) a4
theorem lZ{h:List AO}{e:List PV}{j:Nat}{q:PV}{a:AV}(h1:e[j]?=some q)(h2:(e.map AV.p)[j]?=some a):View h a q:=by
 rw[List.getElem?_map,h1] at h2;cases h2;exact .p _
theorem yk{h:List AO}{id k:Nat}{l:List Fd}{f:Fd}{P B:AV}(he:h[id]?=some (.row 3 ((aS l).set k [.p (.str f.name),P,B])))(hk:k<l.length)(hP:View h P (ay f.params))(hB:View h B (smL f.body)){n:Nat}(hn:n=l.length):View h (.sl id 3 0 n) (fdL (l.set k f)):=by
 refine su (es:=(l.set k f).map Fd.cs) he (by simp[aS]) (fun e he=>by obtain⟨x,_,rfl⟩:=List.mem_map.1 he;simp) (fun i j e q e' a a1 a2 a3 a4=>?_) (by simpa using hn)
 rw[List.getElem?_map] at a1
 by_cases hik:k=i
 ·subst hik
  rw[List.getElem?_set_self hk] at a1
  rw[List.getElem?_set_self (by simpa[aS] using hk)] at a3
  cases a1;cases a3
  exact qo (s:=f.name) (ps:=f.params) (bd:=f.body) hP hB j q a a2 a4
 ·rw[List.getElem?_set_ne hik] at a1 a3
  obtain⟨g,g1,g2⟩:=Option.map_eq_some_iff.1 a1
  subst g2
  rw[aS,List.getElem?_map,g1] at a3
  cases a3
  exact lZ a2 a4
theorem yC{h:List AO}{id:Nat}{l:List (List UInt8)}{s:List UInt8}(he:h[id]?=some (.row 1 (List.take l.length (l.map fun w=>[AV.p (.str w)])++[[.p (.str s)]]))):View h (.sl id 1 0 (l.length+1)) (ay (l++[s])):=by
 have e:h[id]?=some (bx (l++[s])):=by rw[he,List.take_of_length_le (by simp)];simp[bx]
 have:=dk e
 rwa[List.length_append,List.length_singleton] at this
theorem ky{h:List AO}{id:Nat}{l:List Sm}{s:Sm}{r:List AV}(he:h[id]?=some (.row 5 (List.take l.length (smR l)++[r])))(hr:∀(j:Nat) (q:PV) (a:AV),s.cs[j]?=some q→r[j]?=some a→View h a q):View h (.sl id 5 0 (l.length+1)) (smL (l++[s])):=by
 have hl:=ep l
 refine su (es:=(l++[s]).map Sm.cs) he (by simp[hl]) (fun e he=>by obtain⟨x,_,rfl⟩:=List.mem_map.1 he;simp) (fun i j e q e' a a1 a2 a3 a4=>?_) (by simp)
 rw[List.take_of_length_le (by omega)] at a3
 rw[List.map_append] at a1
 rcases Nat.lt_or_ge i l.length with hi|hi
 ·rw[List.getElem?_append_left (by simpa using hi)] at a1
  rw[List.getElem?_append_left (by omega)] at a3
  rw[List.getElem?_map] at a1
  obtain⟨g,g1,g2⟩:=Option.map_eq_some_iff.1 a1
  subst g2
  rw[smR,List.getElem?_map,g1] at a3
  cases a3
  exact lZ a2 a4
 ·rw[List.getElem?_append_right (by simpa using hi)] at a1
  rw[List.getElem?_append_right (by omega),hl] at a3
  simp only[List.length_map] at a1
  generalize i-l.length=k at a1 a3
  cases k with
  |zero=>cases a1;cases a3;exact hr j q a a2 a4
  |succ k=>simp at a1
theorem vb{h:List AO}{id:Nat}{l:List Fd}{f:Fd}(he:h[id]?=some (.row 3 (List.take l.length (aS l)++[f.cs.map .p]))):View h (.sl id 3 0 (l.length+1)) (fdL (l++[f])):=by
 have hl:=qB l
 have:=nV (h:=h) (id:=id) (l:=l++[f]) (by rw[he,List.take_of_length_le (by omega)];simp[aS])
 rwa[List.length_append,List.length_singleton] at this
theorem uG(l:List Fd)(k:Nat)(f:Fd):aN (l.set k f)≤aN l+f.sz:=by
 by_cases hk:k<l.length
 ·rw[dW f hk]
  have e:l=l.take k++l.drop k:=(List.take_append_drop _ _).symm
  have e2:l.drop k=l[k]::l.drop (k+1):=List.drop_eq_getElem_cons hk
  have h1:aN l=aN (l.take k)+aN (l.drop k):=by rw[←gg,←e]
  rw[gg]
  have h3:aN (f::l.drop (k+1))=f.sz+aN (l.drop (k+1)):=by simp[aN]
  have h4:aN (l.drop k)=l[k].sz+aN (l.drop (k+1)):=by rw[e2];unfold aN;rw[List.map_cons,List.sum_cons]
  omega
 ·rw[List.set_eq_of_length_le (by omega)];omega
theorem sy{l:List Fd}{f:Fd}(h:f∈l):f.sz≤aN l:=by
 induction l with
 |nil=>cases h
 |cons x r ih=>
  have e:aN (x::r)=x.sz+aN r:=by simp[aN]
  rcases List.mem_cons.1 h with rfl|h
  ·omega
  ·have:=ih h;omega
def K_spec_l3Bent:AK:= .seq (.reg [oJ 2 (.alloc [.nils])]) (.seq (.reg [oM 9 0,oJ 10 (.call bE [(.t 9)]),oJ 3 (.alloc [.nils]),oS 3 10]) (.seq (.reg [oF 11 0 3,oL 12 11,oF 13 0 3,oL 14 13,oJ 15 (.len false (.t 14)),oJ 16 (.bin .sub (.t 15) (.c (.p (.int .i64 1)))),oJ 17 (.idxS 3 (.t 12) (.t 16)),oJ 18 (.ld (some 3) (.t 17)),oJ 4 (.alloc [(.p (.str [])),.nils,.nils]),⟨none,none,.st 3 (.t 4) (.t 18)⟩]) (.cut (.seq (.reg [oM 19 0,oJ 20 (.call ae [(.t 19),(.c (.p (.int .i64 32)))])]) (.blk 0 (.seq (.reg [oJ 22 (.bin .eql (.t 20) (.c (.p (.int .i64 0)))),oM 21 22]) (.cond (.t 21) (.reg [oM 23 0,oJ 24 (.bsl 1 [(.p (.str []))] 4 [(0,1,(.c (.p (.str [102])))),(1,1,(.c (.p (.str [100,111])))),(2,1,(.c (.p (.str [])))),(3,1,(.c (.p (.str [103]))))]),oJ 25 (.call az [(.t 23),(.t 24)]),oF 26 0 4,oS 26 25]) (.seq (.reg [oJ 28 (.bin .eql (.t 20) (.c (.p (.int .i64 1)))),oM 27 28]) (.cond (.t 27) (.reg [oJ 29 (.bsl 1 [(.p (.str []))] 0 []),oF 30 1 4,oL 31 30,oJ 32 (.app 1 16 (.t 29) (.t 31)),oM 33 0,oJ 34 (.bsl 1 [(.p (.str []))] 3 [(0,1,(.c (.p (.str [97])))),(1,1,(.c (.p (.str [120])))),(2,1,(.c (.p (.str [105,102]))))]),oJ 35 (.call az [(.t 33),(.t 34)]),oJ 36 (.bsl 1 [(.p (.str []))] 1 [(0,1,(.t 35))]),oJ 37 (.app 1 16 (.t 32) (.t 36)),oF 38 1 4,oS 38 37]) (.seq (.reg [oJ 40 (.bin .eql (.t 20) (.c (.p (.int .i64 2)))),oM 39 40]) (.cond (.t 39) (.reg [oJ 41 (.bsl 5 [(.p (.int .i64 0)),(.p (.str [])),.nils,.nils,.nils] 0 []),oF 42 2 4,oL 43 42,oJ 44 (.app 5 96 (.t 41) (.t 43)),oM 45 0,oJ 46 (.call fU [(.t 45)]),oJ 47 (.bsl 4 [(.p (.int .i64 0)),(.p (.int .i64 0)),(.p (.str [])),.nils] 1 [(0,4,(.t 46))]),oJ 48 (.bld [(.p (.int .i64 0)),(.p (.str [])),.nils,.nils,.nils] [(0,1,(.c (.p (.int .i64 3)))),(2,1,(.t 47))]),oJ 49 (.bsl 5 [(.p (.int .i64 0)),(.p (.str [])),.nils,.nils,.nils] 1 [(0,5,(.t 48))]),oJ 50 (.app 5 96 (.t 44) (.t 49)),oF 51 2 4,oS 51 50]) (.seq (.reg [oJ 53 (.bin .eql (.t 20) (.c (.p (.int .i64 3)))),oM 52 53]) (.cond (.t 52) (.reg [oJ 54 (.bsl 5 [(.p (.int .i64 0)),(.p (.str [])),.nils,.nils,.nils] 0 []),oF 55 2 4,oL 56 55,oJ 57 (.app 5 96 (.t 54) (.t 56)),oM 58 0,oJ 59 (.call ae [(.t 58),(.c (.p (.int .i64 10)))]),oM 60 0,oJ 61 (.bsl 1 [(.p (.str []))] 3 [(0,1,(.c (.p (.str [])))),(1,1,(.c (.p (.str [97])))),(2,1,(.c (.p (.str [122,122]))))]),oJ 62 (.call az [(.t 60),(.t 61)]),oM 63 0,oJ 64 (.call dG [(.t 63),(.c (.p (.int .i64 2)))]),oJ 65 (.bsl 4 [(.p (.int .i64 0)),(.p (.int .i64 0)),(.p (.str [])),.nils] 1 [(0,4,(.t 64))]),oJ 66 (.bld [(.p (.int .i64 0)),(.p (.str [])),.nils,.nils,.nils] [(0,1,(.t 59)),(1,1,(.t 62)),(2,1,(.t 65))]),oJ 67 (.bsl 5 [(.p (.int .i64 0)),(.p (.str [])),.nils,.nils,.nils] 1 [(0,5,(.t 66))]),oJ 68 (.app 5 96 (.t 57) (.t 67)),oF 69 2 4,oS 69 68]) (.seq (.reg [oJ 71 (.bin .eql (.t 20) (.c (.p (.int .i64 4)))),oM 70 71]) (.cond (.t 70) (.seq (.reg [oJ 72 (.bld [(.p (.int .i64 0)),(.p (.int .i64 0)),(.p (.str [])),.nils] [(0,1,(.c (.p (.int .i64 1))))]),oJ 73 (.bsl 4 [(.p (.int .i64 0)),(.p (.int .i64 0)),(.p (.str [])),.nils] 1 [(0,4,(.t 72))]),oJ 74 (.bld [(.p (.int .i64 0)),(.p (.str [])),.nils,.nils,.nils] [(0,1,(.c (.p (.int .i64 6)))),(2,1,(.t 73))]),oJ 5 (.alloc [(.p (.int .i64 0)),(.p (.str [])),.nils,.nils,.nils]),⟨none,none,.st 5 (.t 5) (.t 74)⟩]) (.cut (.seq (.reg [oM 75 0,oJ 76 (.call ae [(.t 75),(.c (.p (.int .i64 5)))]),oM 6 76]) (.blk 1 (.loop (.seq (.seq (.reg [oM 77 6,oJ 78 (.bin .gtr (.t 77) (.c (.p (.int .i64 0))))]) (.cond (.t 78) (.skip) (.exit 1))) (.seq (.blk 2 (.reg [oM 81 0,oJ 82 (.bslP 1 [(.p (.int .i64 0))] 2 [(0,1,(.c (.p (.int .i64 5)))),(1,1,(.c (.p (.int .i64 6))))]),oF 84 2 5,oL 85 84,oJ 86 (.ld (some 5) (.t 5)),oJ 87 (.bslP 5 [(.p (.int .i64 0)),(.p (.str [])),.nils,.nils,.nils] 1 [(0,5,(.t 86))]),oJ 83 (.call aj [(.t 81),(.t 82)]),⟨none,none,.chk none 84 85⟩,⟨none,none,.chk (some 5) 5 86⟩,oJ 88 (.bld [(.p (.int .i64 0)),(.p (.str [])),.nils,.nils,.nils] [(0,1,(.t 83)),(2,1,(.t 85)),(3,1,(.t 87))]),⟨none,none,.st 5 (.t 5) (.t 88)⟩])) (.reg [oM 79 6,oJ 80 (.bin .sub (.t 79) (.c (.p (.int .i64 1)))),oM 6 80])))))) (.reg [oF 90 2 4,oL 91 90,oJ 93 (.ld (some 5) (.t 5)),oJ 94 (.bslP 5 [(.p (.int .i64 0)),(.p (.str [])),.nils,.nils,.nils] 1 [(0,5,(.t 93))]),oJ 89 (.bsl 5 [(.p (.int .i64 0)),(.p (.str [])),.nils,.nils,.nils] 0 []),⟨none,none,.chk none 90 91⟩,⟨none,none,.chk (some 5) 5 93⟩,oJ 92 (.app 5 96 (.t 89) (.t 91)),⟨none,none,.chk (some 5) 5 93⟩,oJ 95 (.app 5 96 (.t 92) (.t 94)),oF 96 2 4,oS 96 95]))) (.seq (.reg [oJ 98 (.bin .eql (.t 20) (.c (.p (.int .i64 5)))),oM 97 98]) (.cond (.t 97) (.seq (.reg [oJ 99 (.bld [.nils] []),oS 2 99]) (.ret)) (.seq (.reg [oJ 101 (.bin .eql (.t 20) (.c (.p (.int .i64 6)))),oM 100 101]) (.cond (.t 100) (.seq (.reg [oM 102 0,oJ 103 (.bsl 1 [(.p (.int .i64 0))] 3 [(0,1,(.c (.p (.int .i64 20)))),(1,1,(.c (.p (.int .i64 40)))),(2,1,(.c (.p (.int .i64 41))))]),oJ 104 (.call aj [(.t 102),(.t 103)]),oM 7 104]) (.blk 3 (.loop (.seq (.seq (.reg [oM 105 7,oJ 106 (.bin .gtr (.t 105) (.c (.p (.int .i64 0))))]) (.cond (.t 106) (.skip) (.exit 3))) (.seq (.blk 4 (.reg [oJ 109 (.bsl 5 [(.p (.int .i64 0)),(.p (.str [])),.nils,.nils,.nils] 0 []),oF 110 2 4,oL 111 110,oJ 112 (.app 5 96 (.t 109) (.t 111)),oM 113 7,oJ 114 (.bld [(.p (.int .i64 0)),(.p (.int .i64 0)),(.p (.str [])),.nils] [(0,1,(.c (.p (.int .i64 1)))),(1,1,(.t 113))]),oJ 115 (.bsl 4 [(.p (.int .i64 0)),(.p (.int .i64 0)),(.p (.str [])),.nils] 1 [(0,4,(.t 114))]),oJ 116 (.bld [(.p (.int .i64 0)),(.p (.str [])),.nils,.nils,.nils] [(0,1,(.c (.p (.int .i64 3)))),(2,1,(.t 115))]),oJ 117 (.bsl 5 [(.p (.int .i64 0)),(.p (.str [])),.nils,.nils,.nils] 1 [(0,5,(.t 116))]),oJ 118 (.app 5 96 (.t 112) (.t 117)),oF 119 2 4,oS 119 118])) (.reg [oM 107 7,oJ 108 (.bin .sub (.t 107) (.c (.p (.int .i64 1)))),oM 7 108])))))) (.seq (.reg [oJ 121 (.bin .eql (.t 20) (.c (.p (.int .i64 7)))),oM 120 121]) (.cond (.t 120) (.seq (.reg [oF 123 0 3,oF 126 0 3,oL 124 123,oL 127 126,oJ 128 (.idxS 3 (.t 127) (.c (.p (.int .i64 0)))),oJ 129 (.ld (some 3) (.t 128)),oJ 130 (.bslP 3 [(.p (.str [])),.nils,.nils] 1 [(0,3,(.t 129))]),oJ 122 (.bsl 3 [(.p (.str [])),.nils,.nils] 0 []),⟨none,none,.chk none 123 124⟩,⟨none,none,.chk none 126 127⟩,⟨none,none,.chk (some 3) 128 129⟩,oJ 125 (.app 3 64 (.t 122) (.t 124)),⟨none,none,.chk none 126 127⟩,⟨none,none,.chk (some 3) 128 129⟩,oJ 131 (.app 3 64 (.t 125) (.t 130)),oJ 132 (.bld [.nils] [(0,1,(.t 131))]),oS 2 132]) (.ret)) (.skip))))))))))))))))))) (.seq (.reg [oJ 133 (.bsl 3 [(.p (.str [])),.nils,.nils] 0 []),oF 134 0 3,oL 135 134,oJ 136 (.app 3 64 (.t 133) (.t 135)),oM 8 136]) (.seq (.reg [oM 137 8,oM 138 8,oJ 139 (.len false (.t 138)),oJ 140 (.bin .sub (.t 139) (.c (.p (.int .i64 1)))),oJ 141 (.ld (some 3) (.t 4)),oJ 142 (.idxS 3 (.t 137) (.t 140)),⟨none,none,.st 3 (.t 142) (.t 141)⟩]) (.seq (.reg [oM 143 8,oJ 144 (.bld [.nils] [(0,1,(.t 143))]),oS 2 144]) (.ret)))))))
theorem sb:K_spec_l3Bent.whole=F_spec_l3Bent.ak:=rfl
structure NsS where (i:Nat) (o:Int) (w:List UInt8) (A B C:PV) (q:Nat)
structure BdS where (i:Nat) (bd:List Sm)
structure CfS where (f:Fd) (q:Nat)
theorem AP{b:List Int}(hb:Byt b)(hl:b.length≤2000){p:Nat}(hp:p≤10000000000):AC Tryd.prog G iY [.ptr 0 2 0 0] [rdO b p] fun x h=>∃v q,x= .ret v∧h=[rdO b q]∧PgQ p 500000000 200200000 v q:=by
 refine jF G (AC.goK rA sb ?_)
 have hprog:AC Tryd.prog G bE [.ptr 0 2 0 0] [rdO b p] fun x h=>∃v q,x= .ret v∧h=[rdO b q]∧((∃l:List Fd,v= .agg [.p (fdL l)]∧br l=true∧aN l≤200000000)∧p≤q∧q≤p+200000000):=
  (vK G hb hl hp).mono fun x h ⟨l,q,e1,e2,e3,e4,e5,e6⟩=>⟨_,q,e1,e2,⟨l,rfl,e3,e4⟩,e5,e6⟩
 simp-implicitDefEqProofs[K_spec_l3Bent,F_spec_l3Bent]
 refine(gq G hprog _ (by simp[below])).mono ?_
 rintro r h ⟨v,q,rfl,rfl,⟨l,rfl,hok,hz⟩,h1,h2⟩
 have hlen:=((mC l).1 hok).1
 obtain⟨n,hn⟩:∃n,l.length=n+1:=⟨l.length-1,by omega⟩
 have hnl:n<l.length:=by omega
 have hfz:=sy (List.getElem_mem hnl)
 obtain⟨f,hfe⟩:∃f,l[n]=f:=⟨_,rfl⟩
 rw[hfe] at hfz
 have hg:l[n]?=some f:=by rw[List.getElem?_eq_getElem hnl,hfe]
 have fin:∀(r1:List (Nat × AV)) (f':Fd) (q':Nat) (rest:List AO) (P B:AV),Aw.look r1 0= .ptr 0 2 0 0→Aw.look r1 2= .ptr 1 1 0 0→Aw.look r1 3= .ptr 2 1 0 0→Aw.look r1 4= .ptr 3 3 0 0→View (.dead:: .dead:: .dead:: .dead::rest) P (ay f'.params)→View (.dead:: .dead:: .dead:: .dead::rest) B (smL f'.body)→f'.sz≤300000000→q≤q'→q'≤q+100000→
  ∃s:CfS,(s.f.sz≤300000000∧q≤s.q∧s.q≤q+100000)∧Wk 1 (am 145 r1) (rdO b q':: .row 1 [[.nils]]:: .row 1 [[.p (.lst 3 (l.map Fd.cs))]]:: .row 3 [[.p (.str f'.name),P,B]]::rest) (am 145 [(4,.ptr 3 3 0 0),(3,.ptr 2 1 0 0),(2,.ptr 1 1 0 0),(0,.ptr 0 2 0 0)])
   [rdO b s.q,.row 1 [[.nils]],.row 1 [[.p (.lst 3 (l.map Fd.cs))]],.row 3 [[.p (.str s.f.name),.p (ay s.f.params),.p (smL s.f.body)]]]:=fun r1 f' q' rest P B e0 e2 e3 e4 hP hB hz' h3 h4=>
  ⟨⟨f',q'⟩,⟨hz',h3,h4⟩,gE 4 (by omega) (by simp) rfl (.same (aZ _ _ _) (.same (by simp[okO,below]) (.same (by simp[okO,below]) (.one (.keep (by simp[below]) (.one hP (.one hB .nil))) (.nil _))))) (by
    simp only[FzA,e0,e2,e3,e4]
    exact⟨.keep (by simp[below]) .nil,.keep (by simp[below]) .nil,.keep (by simp[below]) .nil,.keep (by simp[below]) .nil,trivial⟩)⟩
 have hfsz:f.sz=1+f.name.length+(f.params.length+(f.params.map List.length).sum)+aC f.body:=rfl
 have hln:l.length≤4:=hlen.2
 have hbl:=bO f.body
 have hcs:f.cs=[.str f.name,ay f.params,smL f.body]:=rfl
 have hfl:fdL l= .lst 3 (l.map Fd.cs):=rfl
 have hw:IntKind.i64.wrap ((l.length:Int)-1)=(n:Int):=by rw[ag (by omega) (by omega)];omega
 have hsl:ay f.params= .lst 1 (f.params.map fun w=>[.str w]):=rfl
 have hml:smL f.body= .lst 5 (f.body.map Sm.cs):=rfl
 simp-implicitDefEqProofs[aa,hfl,hw,hg,hcs]
 refine pI (fun _:CfS=>am 145 [(4,.ptr 3 3 0 0),(3,.ptr 2 1 0 0),(2,.ptr 1 1 0 0),(0,.ptr 0 2 0 0)]) (fun s=>[rdO b s.q,.row 1 [[.nils]],.row 1 [[.p (.lst 3 (l.map Fd.cs))]],.row 3 [[.p (.str s.f.name),.p (ay s.f.params),.p (smL s.f.body)]]])
  (fun s=>s.f.sz≤300000000∧q≤s.q∧s.q≤q+100000) ?_ ?_
 rotate_left
 ·rintro⟨f',q'⟩ ⟨h3,h4,h5⟩
  simp only at h3 h4 h5
  simp-implicitDefEqProofs[hw,hnl,hfe,hcs]
  exact⟨⟨by omega,by omega⟩,_,_,q',.agg [.p (fdL (l.set n f'))],rfl,rfl,.agg (.one (yk (f:=f') rfl hnl (.p _) (.p _) rfl) .nil) .nil,⟨_,rfl,by have:=uG l n f';omega⟩,by omega,by omega⟩
 simp-implicitDefEqProofs[]
 refine(aT G b hb hl q (by omega) 32 _).mono ?_
 rintro r h ⟨k,rfl,rfl,_⟩
 by_cases k0:k=0
 ·subst k0
  simp-implicitDefEqProofs[aa]
  refine(ud G hb hl (p:=q+1) (by omega) [[102],[100,111],[],[103]] (k:=4) (by simp) (by simp) (by omega) rfl rfl).mono ?_
  rintro r h ⟨s,hs,rfl,rfl⟩
  have hs8:s.length≤8:=by simp at hs;rcases hs with rfl|rfl|rfl|rfl<;>simp
  simp-implicitDefEqProofs[aa]
  exact fin _ ⟨s,f.params,f.body⟩ _ _ _ _ (by simp) (by simp) (by simp) (by simp) (.p _) (.p _) (by simp only[Fd.sz];omega) (by omega) (by omega)
 by_cases k1:k=1
 ·subst k1
  simp-implicitDefEqProofs[aa,hsl]
  refine⟨⟨by omega,by omega⟩,?_⟩
  refine(ud G hb hl (p:=q+1) (by omega) [[97],[120],[105,102]] (k:=6) (by simp) (by simp) (by omega) rfl rfl).mono ?_
  rintro r h ⟨s,hs,rfl,rfl⟩
  have hs8:s.length≤8:=by simp at hs;rcases hs with rfl|rfl|rfl<;>simp
  simp-implicitDefEqProofs[aa]
  refine⟨⟨by omega,by omega⟩,?_⟩
  exact fin _ ⟨f.name,f.params++[s],f.body⟩ _ _ _ _ (by simp) (by simp) (by simp) (by simp) (yC rfl) (.p _) (by simp[Fd.sz];omega) (by omega) (by omega)
 by_cases k2:k=2
 ·subst k2
  simp-implicitDefEqProofs[aa,hml]
  refine⟨⟨by omega,by omega⟩,?_⟩
  refine(gq G (zW G hb hl (p:=q+1) (by omega)) _ (by simp[below])).mono ?_
  rintro r h ⟨v,q2,rfl,rfl,⟨e,rfl,he⟩,h3,h4⟩
  have hec:=e.cs_eq
  simp-implicitDefEqProofs[aa,hec]
  refine⟨⟨by omega,by omega⟩,?_⟩
  exact fin _ ⟨f.name,f.params,f.body++[⟨3,[],[e],[],[]⟩]⟩ _ _ _ _ (by simp) (by simp) (by simp) (by simp) (.p _) (ky rfl (bC (de (l:=[e]) (by rw[List.map_singleton,hec];rfl)) (View.nils 5) (View.nils 5))) (by simp[Fd.sz,bi,aC,Sm.sz,aP];omega) (by omega) (by omega)
 by_cases k3:k=3
 ·subst k3
  simp-implicitDefEqProofs[aa,hml]
  refine⟨⟨by omega,by omega⟩,?_⟩
  refine(aT G b hb hl (q+1) (by omega) 10 _).mono ?_
  rintro r h ⟨o,rfl,rfl,_⟩
  simp-implicitDefEqProofs[aa]
  refine(ud G hb hl (p:=q+1+1) (by omega) [[],[97],[122,122]] (k:=6) (by simp) (by simp) (by omega) rfl rfl).mono ?_
  rintro r h ⟨s,hs,rfl,rfl⟩
  have hs8:s.length≤8:=by simp at hs;rcases hs with rfl|rfl|rfl<;>simp
  simp-implicitDefEqProofs[aa]
  refine(pL G (tk G hb hl (d:=1) (by omega) (p:=q+1+1+1) (by omega)) _ (by simp[below])).mono ?_
  rintro r h ⟨e,q2,rfl,rfl,he,h3,h4⟩
  simp-implicitDefEqProofs[aa]
  refine⟨⟨by omega,by omega⟩,?_⟩
  obtain⟨eo,en,es,ek⟩:=e
  exact fin _ ⟨f.name,f.params,f.body++[⟨o,s,[⟨eo,en,es,ek⟩],[],[]⟩]⟩ _ _ _ _ (by simp) (by simp) (by simp) (by simp) (.p _) (ky rfl (bC (bg (p0:=(Ex.mk eo en es ek).cs) rfl (Ex.cs_len _) (dV (ff rfl))) (View.nils 5) (View.nils 5))) (by simp[Fd.sz,bi,aC,Sm.sz,aP];omega) (by omega) (by omega)
 by_cases k5:k=5
 ·subst k5
  simp-implicitDefEqProofs[aa]
  exact⟨_,_,q+1,.agg [.p (fdL [])],rfl,rfl,.agg (.one (View.nils 3) .nil) .nil,⟨[],rfl,by simp[aN]⟩,by omega,by omega⟩
 by_cases k7:k=7
 ·subst k7
  simp-implicitDefEqProofs[aa,hfl]
  have hl0:0<l.length:=by omega
  have hf0:=sy (List.getElem_mem hl0)
  obtain⟨f0,hg0,hf0⟩:∃f0,l[0]?=some f0∧f0.sz≤aN l:=⟨_,List.getElem?_eq_getElem hl0,hf0⟩
  have hc0:f0.cs=[.str f0.name,ay f0.params,smL f0.body]:=rfl
  have hfa:aN (l++[f0])=aN l+f0.sz:=by rw[gg];simp[aN]
  simp-implicitDefEqProofs[hg0,hc0]
  exact⟨⟨by omega,by omega⟩,⟨by omega,by omega⟩,_,_,q+1,.agg [.p (fdL (l++[f0]))],rfl,rfl,.agg (.one (vb rfl) .nil) .nil,⟨_,rfl,by omega⟩,by omega,by omega⟩
 by_cases k4:k=4
 ·subst k4
  simp-implicitDefEqProofs[aa]
  refine pI (fun _:NsS=>am 145 [(5,.ptr 5 5 0 0),(4,.ptr 3 3 0 0),(3,.ptr 2 1 0 0),(2,.ptr 1 1 0 0),(0,.ptr 0 2 0 0)])
   (fun a=>[rdO b a.q,.row 1 [[.nils]],.row 1 [[.p (.lst 3 (l.map Fd.cs))]],.row 3 [[.p (.str f.name),.p (ay f.params),.p (smL f.body)]],.dead,.row 5 [[.p (.int .i64 a.o),.p (.str a.w),.p a.A,.p a.B,.p a.C]]])
   (fun a=>(∃s:Sm,s.cs=[.int .i64 a.o,.str a.w,a.A,a.B,a.C]∧aP s.args≤1∧s.sz+2*a.i≤20)∧q+2≤a.q∧a.q+a.i≤q+10) ?_ ?_
  rotate_left
  ·rintro⟨i,o,w,A,B,C,q1⟩ ⟨⟨s,hse,j1,j2⟩,j3,j4⟩
   simp only at hse j1 j2 j3 j4
   have hss:∀(h:List AO) (id:Nat),h[id]?=some (.row 5 (List.take f.body.length (smR f.body)++[[.p (.int .i64 o),.p (.str w),.p A,.p B,.p C]]))→View h (.sl id 5 0 (f.body.length+1)) (smL (f.body++[s])):=fun h id e=>ky e (fun j q a a1 a2=>lZ (e:=[.int .i64 o,.str w,A,B,C]) (hse▸a1) a2)
   simp-implicitDefEqProofs[hml]
   refine⟨⟨by omega,by omega⟩,⟨by omega,by omega⟩,?_⟩
   exact fin _ ⟨f.name,f.params,f.body++[s]⟩ _ _ _ _ (by simp) (by simp) (by simp) (by simp) (.p _) (hss _ _ rfl) (by simp[Fd.sz,bi,aC];omega) (by omega) (by omega)
  simp-implicitDefEqProofs[]
  refine(aT G b hb hl (q+1) (by omega) 5 _).mono ?_
  rintro r h ⟨i0,rfl,rfl,hi0⟩
  simp-implicitDefEqProofs[aa]
  have hs0:(Sm.mk 6 [] [⟨1,0,[],[]⟩] [] []).cs=[.int .i64 6,.str [],exL [⟨1,0,[],[]⟩],smL [],smL []]:=Sm.cs_eq _
  refine aR (fun a:NsS=>am 145 [(6,.p (.int .i64 a.i)),(5,.ptr 5 5 0 0),(4,.ptr 3 3 0 0),(3,.ptr 2 1 0 0),(2,.ptr 1 1 0 0),(0,.ptr 0 2 0 0)])
   (fun a=>[rdO b a.q,.row 1 [[.nils]],.row 1 [[.p (.lst 3 (l.map Fd.cs))]],.row 3 [[.p (.str f.name),.p (ay f.params),.p (smL f.body)]],.dead,.row 5 [[.p (.int .i64 a.o),.p (.str a.w),.p a.A,.p a.B,.p a.C]]])
   (fun a=>(∃s:Sm,s.cs=[.int .i64 a.o,.str a.w,a.A,a.B,a.C]∧aP s.args≤1∧s.sz+2*a.i≤20)∧q+2≤a.q∧a.q+a.i≤q+10) (fun a=>a.i) ⟨i0,6,[],exL [⟨1,0,[],[]⟩],smL [],smL [],q+1+1⟩ ⟨⟨_,hs0,by simp[Sm.args,aP,Ex.sz],by simp[Sm.sz,aP,Ex.sz,aC];omega⟩,by simp only;omega,by simp only;omega⟩ ?_ ?_
  ·refine uk (hX:=[.dead,.dead,.dead,.dead,.row 4 [[.p (.int .i64 1),.p (.int .i64 0),.p (.str []),.nils]],.dead]) (by simp)
    (.same (aZ _ _ _) (.same (by simp[okO,below]) (.same (by simp[okO,below]) (.same (by simp[okO,below]) (.give (.one ?_ .nil)))))) ?_
   ·exact .keep (by simp[below]) (.keep (by simp[below]) (.one (bg (p0:=(Ex.mk 1 0 [] []).cs) rfl (Ex.cs_len _) (dV (View.nils 4))) (.one (View.nils 5) (.one (View.nils 5) .nil))))
   ·exact⟨.keep (by simp[below]) .nil,.keep (by simp[below]) .nil,.keep (by simp[below]) .nil,.keep (by simp[below]) .nil,.keep (by simp[below]) .nil,.keep (by simp[below]) .nil,trivial⟩
  rintro⟨i,o,w,A,B,C,q1⟩ ⟨⟨s,hse,j1,j2⟩,j3,j4⟩
  simp only at hse j1 j2 j3 j4
  have hcs1:∀n:Int,(Sm.mk n [] s.args [s] []).cs=[.int .i64 n,.str [],A,.lst 5 [[.int .i64 o,.str w,A,B,C]],.lst 5 []]:=fun n=>by
   have hsa:=s.cs_eq
   rw[hse] at hsa
   simp only[List.cons.injEq] at hsa
   rw[Sm.cs_eq];simp only[Sm.op,Sm.name,Sm.args,Sm.body,Sm.els];rw[←hse,hsa.2.2.1];rfl
  have hsz:∀n:Int,(Sm.mk n [] s.args [s] []).sz=1+aP s.args+s.sz:=fun n=>by simp[Sm.sz,aC]
  simp-implicitDefEqProofs[]
  refine bc (fun hc=>?_) (fun hc=>?_)
  ·simp at hc
   simp-implicitDefEqProofs[]
   refine(tG G hb hl (p:=q1) (by omega) [5,6] (by simp) (by simp) _).mono ?_
   rintro r h ⟨n1,_,rfl,rfl⟩
   have hwk:IntKind.i64.wrap ((i:Int)-1)=((i-1:Nat):Int):=by rw[ag (by omega) (by omega)];omega
   simp-implicitDefEqProofs[aa]
   refine⟨⟨i-1,n1,[],A,.lst 5 [[.int .i64 o,.str w,A,B,C]],.lst 5 [],q1+1⟩,⟨⟨_,hcs1 n1,j1,by simp only[hsz];omega⟩,by simp only;omega,by simp only;omega⟩,by simp only;omega,?_⟩
   refine uk (hX:=[.dead,.dead,.dead,.dead,.dead,.dead]) (by simp) (.same (aZ _ _ _) (.same (by simp[okO,below]) (.same (by simp[okO,below]) (.same (by simp[okO,below]) (.drop (.one (.keep (by simp[below]) (.keep (by simp[below]) (.keep (by simp[below]) (.keep (by simp[below]) (.one (View.nils 5) .nil))))) .nil)))))) ?_
   simp only[hwk]
   exact⟨.keep (by simp[below]) .nil,.keep (by simp[below]) .nil,.keep (by simp[below]) .nil,.keep (by simp[below]) .nil,.keep (by simp[below]) .nil,.keep (by simp[below]) .nil,trivial⟩
  ·simp at hc
   exact⟨⟨i,o,w,A,B,C,q1⟩,⟨⟨s,hse,j1,j2⟩,j3,j4⟩,eM (m:=6) (by simp) (cR rfl rfl (af (aZ _ _ _) (af (by simp[okO,below]) (af (by simp[okO,below]) (af (by simp[okO,below]) (af (by simp[okO]) (af (by simp[okO,below]) cy))))))) (by simp[below])⟩
 by_cases k6:k=6
 ·subst k6
  simp-implicitDefEqProofs[aa]
  refine(iJ G hb hl (p:=q+1) (by omega) [20,40,41] (k:=4) (by simp) (by simp) (by omega) rfl rfl).mono ?_
  rintro r h ⟨i0,hi0,rfl,rfl⟩
  obtain⟨i,rfl,hi⟩:∃J:Nat,i0=J∧J≤41:=⟨i0.toNat,by simp at hi0;omega,by simp at hi0;omega⟩
  simp-implicitDefEqProofs[aa]
  refine aR (fun a:BdS=>am 145 [(7,.p (.int .i64 a.i)),(4,.ptr 3 3 0 0),(3,.ptr 2 1 0 0),(2,.ptr 1 1 0 0),(0,.ptr 0 2 0 0)])
   (fun a=>[rdO b (q+1+1),.row 1 [[.nils]],.row 1 [[.p (.lst 3 (l.map Fd.cs))]],.row 3 [[.p (.str f.name),.p (ay f.params),.p (smL a.bd)]]])
   (fun a=>a.i≤41∧aC a.bd+10*a.i≤aC f.body+500) (fun a=>a.i) ⟨i,f.body⟩ ⟨hi,by simp only;omega⟩ ?_ ?_
  ·exact eM (m:=4) (by simp) (cR rfl rfl (af (aZ _ _ _) (af (by simp[okO,below]) (af (by simp[okO,below]) (af (by simp[okO,below]) cy))))) (by simp[below])
  rintro⟨i1,bd⟩ ⟨j1,j2⟩
  simp only at j1 j2
  have hbl2:=bO bd
  have hml2:smL bd= .lst 5 (bd.map Sm.cs):=rfl
  simp-implicitDefEqProofs[hml2]
  refine bc (fun hc=>?_) (fun hc=>?_)
  ·simp at hc
   have hwk:IntKind.i64.wrap ((i1:Int)-1)=((i1-1:Nat):Int):=by rw[ag (by omega) (by omega)];omega
   simp-implicitDefEqProofs[hml2]
   refine⟨⟨by omega,by omega⟩,⟨by omega,by omega⟩,⟨i1-1,bd++[⟨3,[],[⟨1,i1,[],[]⟩],[],[]⟩]⟩,⟨by simp only;omega,by simp[bi,aC,Sm.sz,aP,Ex.sz];omega⟩,by simp only;omega,?_⟩
   refine gE 4 (by omega) (by simp) rfl (.same (aZ _ _ _) (.same (by simp[okO,below]) (.same (by simp[okO,below]) (.one (.keep (by simp[below]) (.keep (by simp[below]) (.one (ky rfl (bC (bg (p0:=(Ex.mk 1 i1 [] []).cs) rfl (Ex.cs_len _) (dV (View.nils 4))) (View.nils 5) (View.nils 5))) .nil))) (.nil _))))) ?_
   simp only[hwk]
   exact⟨.keep (by simp[below]) .nil,.keep (by simp[below]) .nil,.keep (by simp[below]) .nil,.keep (by simp[below]) .nil,.keep (by simp[below]) .nil,trivial⟩
  ·simp at hc
   exact fin _ ⟨f.name,f.params,bd⟩ _ _ _ _ (by simp) (by simp) (by simp) (by simp) (.p _) (.p _) (by simp[Fd.sz];omega) (by omega) (by omega)
 have c1:¬(k:Int)=1:=by omega
 have c2:¬(k:Int)=2:=by omega
 have c3:¬(k:Int)=3:=by omega
 have c4:¬(k:Int)=4:=by omega
 have c5:¬(k:Int)=5:=by omega
 have c6:¬(k:Int)=6:=by omega
 have c7:¬(k:Int)=7:=by omega
 simp-implicitDefEqProofs[aa,k0,c1,c2,c3,c4,c5,c6,c7]
 exact fin _ ⟨f.name,f.params,f.body⟩ _ _ _ _ (by simp) (by simp) (by simp) (by simp) (.p _) (.p _) (by simp only[Fd.sz];omega) (by omega) (by omega)
end Go.Proofs.YtiojgfhdcpppcaaDoor
namespace Go.Proofs.YtiojgfhdcpppcaaDoor
open Go Go.Aw
set_option maxRecDepth 100000
set_option maxHeartbeats 4000000
variable (G:aG)
def PshF(s:Bool)(sz:Nat)(D:List (List PV))(h0:List AO)(a:PshS):Prop:=a.i≤D.length∧h0.length≤a.id∧h0.length≤a.h.length∧(∀j,j<h0.length→a.h[j]?=h0[j]?)∧∃rows J,RowOwn s a.h a.id sz rows (D.take a.i) J∧∀j∈J,h0.length≤j
theorem rx{h h2:List AO}(hl:h.length≤h2.length)(hf:∀j,j<h.length→h2[j]?=h[j]?):h2=h++h2.drop h.length:=by
 have e:h2.take h.length=h:=by
  apply List.ext_getElem?
  intro j
  by_cases hj:j<h.length
  ·rw[List.getElem?_take_of_lt hj];exact hf j hj
  ·rw[List.getElem?_eq_none (by rw[List.length_take];omega),List.getElem?_eq_none (by omega)]
 have e2:=List.take_append_drop h.length h2
 rw[e] at e2
 exact e2.symm
theorem PshF.init{s:Bool}{sz:Nat}{D:List (List PV)}(h0 os:List AO):PshF s sz D h0 ⟨0,h0.length,h0++ .row sz []::os⟩:=
 ⟨Nat.zero_le _,Nat.le_refl _,by simp,fun j hj=>List.getElem?_append_left hj,[],[],⟨by simp,rfl,fun _ h=>(by cases h),fun _ h=>(by cases h),.nil,by simp⟩,fun j hj=>by cases hj⟩
theorem PshF.step{s:Bool}{sz i id:Nat}{D:List (List PV)}{h0 h:List AO}(H:PshF s sz D h0 ⟨i,id,h⟩){e:List PV}(hi:D[i]?=some e){h2:List AO}(hl:h.length≤h2.length)(hf:∀j,j<h.length→h2[j]?=h[j]?){r':List AV}{I2:List Nat}(ho:OwnL s h2 r' e I2)(nd2:I2.Nodup)(hn:∀j∈I2,h.length≤j)(he:e.length=sz):
 ∃rows,(∀os,(h2++os)[id]?=some (.row sz rows))∧rows.length=i∧i<D.length∧id<h2.length∧∀os1 os2,PshF s sz D h0 ⟨i+1,(h2++os1).length,(h2++os1).set id .dead++ .row sz (rows++[r'])::os2⟩:=by
 obtain⟨h1,h3,h4,h5,rows,J,hr,hJ⟩:=H
 have hil:i<D.length:=(List.getElem?_eq_some_iff.1 hi).1
 have hlen:=hr.len
 simp only at h1 h3 h4 h5 hlen hr
 rw[List.length_take,Nat.min_eq_left h1] at hlen
 have e2:=rx hl hf
 have hid:=hr.lt
 have h2e:h2[id]?=some (.row sz rows):=by rw[hf id hid];exact hr.here
 refine⟨rows,fun os=>by rw[List.getElem?_append_left (by omega)];exact h2e,hlen,hil,by omega,fun os1 os2=>⟨hil,by simp only[List.length_append];omega,by simp;omega,fun j hj=>?_,rows++[r'],J++I2,?_,fun j hj=>?_⟩⟩
 ·simp only
  rw[List.getElem?_append_left (by simp only[List.length_set,List.length_append,List.length_cons];omega),List.getElem?_set_ne (by omega),List.getElem?_append_left (by omega),hf j (by omega)]
  exact h5 j hj
 ·have hp:=(hr.push (h2:=h2++os1) (os:=h2.drop h.length++os1) (by rw[←List.append_assoc,←e2]) (ho.more os1) nd2 hn he).more os2
  have hd:D.take i++[e]=D.take (i+1):=by rw[List.take_add_one,hi];rfl
  rw[hd,List.append_assoc] at hp
  exact hp
 ·rcases List.mem_append.1 hj with hj|hj
  ·exact hJ j hj
  ·have:=hn j hj;omega
theorem PshF.done{s:Bool}{sz i id:Nat}{D:List (List PV)}{h0 h:List AO}(H:PshF s sz D h0 ⟨i,id,h⟩)(hi:D.length≤i):h0.length≤h.length∧(∀j,j<h0.length→h[j]?=h0[j]?)∧∃I,OwnL s h [.sl id sz 0 i] [.lst sz D] I∧I.Nodup∧∀j∈I,h0.length≤j:=by
 obtain⟨h1,h3,h4,h5,rows,J,hr,hJ⟩:=H
 simp only at h1 h3 h4 h5 hr
 rw[List.take_of_length_le hi] at hr
 exact⟨h4,h5,id::J,hr.tree (by omega),hr.nd,fun j hj=>by
  rcases List.mem_cons.1 hj with rfl|hj
  ·exact h3
  ·exact hJ j hj⟩
theorem uY{s:Bool}{n:Nat}{h1 os:List AO}{a b:List AV}{c d:List PV}{I1 I2:List Nat}(H1:OwnL s h1 a c I1)(n1:I1.Nodup)(f1:∀i∈I1,n≤i)(H2:OwnL s (h1++os) b d I2)(n2:I2.Nodup)(f2:∀i∈I2,h1.length≤i)(hn:n≤h1.length):
 OwnL s (h1++os) (a++b) (c++d) (I1++I2)∧(I1++I2).Nodup∧∀i∈I1++I2,n≤i:=by
 refine⟨(H1.more os).app H2,?_,fun i hi=>?_⟩
 ·rw[List.nodup_append]
  refine⟨n1,n2,fun a ha b hb e=>?_⟩
  have:=H1.lt ha;have:=f2 b hb;omega
 ·rcases List.mem_append.1 hi with hi|hi
  ·exact f1 i hi
  ·have:=f2 i hi;omega
theorem ri{α:Type}(l:List α)(a b:α):(l++[a]).set l.length b=l++[b]:=by
 rw[List.set_append_right _ _ (Nat.le_refl _),Nat.sub_self];rfl
theorem Co{h:List AO}{s:Sm}{A B E:AV}{I:List Nat}(H:OwnL true h ([A]++[B]++[E]) ([exL s.args]++[smL s.body]++[smL s.els]) I):OwnL true h [.p (.int .i64 s.op),.p (.str s.name),A,B,E] s.cs I:=by
 rw[s.cs_eq]
 exact .p _ (fun _=>rfl) (.p _ (fun _=>rfl) H)
theorem gI{s:Bool}{h:List AO}{v:AV}{q:PV}{I:List Nat}(H:OwnL s h [v] [q] I):(∃q',v= .p q')∨v= .nils∨∃a b n,v= .sl a b 0 n:=by
 cases H with
 |p q=>exact .inl ⟨_,rfl⟩
 |nils=>exact .inr (.inl rfl)
 |sl id sz n=>exact .inr (.inr ⟨_,_,_,rfl⟩)
theorem CN{s:Bool}{h:List AO}{e:Ex}{K:AV}{I:List Nat}(H:OwnL s h [K] [exL e.kids] I):OwnL s h [.p (.int .i64 e.op),.p (.int .i64 e.n),.p (.str e.name),K] e.cs I:=by
 rw[e.cs_eq]
 exact .p _ (fun _=>rfl) (.p _ (fun _=>rfl) (.p _ (fun _=>rfl) H))
theorem Ag:∀(N:Nat) (e:Ex),e.sz≤N→e.sz≤1073741824→AC Tryd.prog G fT [.agg (e.cs.map .p)] [] (MkW .agg true e.cs):=by
 intro N
 induction N with
 |zero=>intro e he;have:=e.sz_eq;omega
 |succ N ih=>
  intro e he hb
  have hsz:=e.sz_eq
  have hkl:=bQ e.kids
  refine AC.go rW ?_
  have hec:=e.cs_eq
  have hsl:exL e.kids= .lst 4 (e.kids.map Ex.cs):=rfl
  simp-implicitDefEqProofs[lV,hec,hsl]
  obtain⟨hb0,ehb⟩:∃hb0:List AO,hb0=[.row 4 [[.p (.int .i64 e.op),.p (.int .i64 e.n),.p (.str e.name),.p (.lst 4 (e.kids.map Ex.cs))]],.row 4 [[.p (.int .i64 0),.p (.int .i64 0),.p (.str []),.nils]]]:=⟨_,rfl⟩
  have hini:PshF true 4 (e.kids.map Ex.cs) hb0 ⟨0,2,[.row 4 [[.p (.int .i64 e.op),.p (.int .i64 e.n),.p (.str e.name),.p (.lst 4 (e.kids.map Ex.cs))]],.row 4 [[.p (.int .i64 0),.p (.int .i64 0),.p (.str []),.nils]],.row 4 []]⟩:=by
   rw[ehb];exact PshF.init _ []
  refine aR (fun a:PshS=>am 25 [(4,.p (.int .i64 a.i)),(3,.sl a.id 4 0 a.i),(2,.ptr 1 4 0 0),(1,.ptr 0 4 0 0)]) (fun a=>a.h) (PshF true 4 (e.kids.map Ex.cs) hb0) (fun a=>e.kids.length-a.i) _ hini ?_ ?_
  ·exact dF (by simp) (by simp[below])
  rintro⟨i,id,h'⟩ hJ
  have hl0:hb0.length=2:=by rw[ehb];rfl
  have g0:h'[0]?=some (.row 4 [[.p (.int .i64 e.op),.p (.int .i64 e.n),.p (.str e.name),.p (.lst 4 (e.kids.map Ex.cs))]]):=by rw[hJ.2.2.2.1 0 (by omega),ehb];rfl
  have g1:h'[1]?=some (.row 4 [[.p (.int .i64 0),.p (.int .i64 0),.p (.str []),.nils]]):=by rw[hJ.2.2.2.1 1 (by omega),ehb];rfl
  have hl2:2≤h'.length:=by have:=hJ.2.2.1;simp only at this;omega
  simp-implicitDefEqProofs[g0]
  refine bc (fun h1=>?_) (fun h1=>?_)
  ·simp at h1
   have hg:=List.getElem?_eq_getElem h1
   have hm:=cf (List.getElem_mem h1)
   have hH:=ih e.kids[i] (by omega) (by omega)
   have hcs:=e.kids[i].cs_eq
   have hDa:(e.kids.map Ex.cs)[i]?=some e.kids[i].cs:=by rw[List.getElem?_map,hg];rfl
   generalize e.kids[i]=k at hg hH hcs hDa
   have hA:=AC.mkLift sQ hH (h:=h') (by rw[hcs];simp)
   rw[hcs] at hA
   simp-implicitDefEqProofs[g0,hg,hcs]
   refine hA.mono ?_
   rintro r h2 ⟨vs,I2,os,rfl,e2,ho,nd,hf⟩
   rw[←hcs] at ho
   obtain⟨rows,k1,k2,k3,k4,k5⟩:=hJ.step hDa (h2:=h2) (by rw[e2];simp) (fun x hx=>by rw[e2,List.getElem?_append_left hx]) ho nd hf k.cs_len
   obtain⟨K,rfl,hK⟩:=wL ho
   have hwi:=w1 (i:=i) (by omega)
   rcases gI hK with⟨q1,rfl⟩|rfl|⟨x1,x2,x3,rfl⟩
   ·have k6:=k5 [.row 4 [[.p (.int .i64 k.op),.p (.int .i64 k.n),.p (.str k.name),.p q1]]] []
    simp-implicitDefEqProofs[aa,k1,k2]
    rw[List.take_of_length_le (l:=rows) (i:=i) (by omega)]
    refine⟨⟨by omega,by omega⟩,_,k6,by simp only;omega,dF (by simp) ?_⟩
    simp[below,hwi]
   ·have k6:=k5 [.row 4 [[.p (.int .i64 k.op),.p (.int .i64 k.n),.p (.str k.name),.nils]]] []
    simp-implicitDefEqProofs[aa,k1,k2]
    rw[List.take_of_length_le (l:=rows) (i:=i) (by omega)]
    refine⟨⟨by omega,by omega⟩,_,k6,by simp only;omega,dF (by simp) ?_⟩
    simp[below,hwi]
   ·have k6:=k5 [.row 4 [[.p (.int .i64 k.op),.p (.int .i64 k.n),.p (.str k.name),.sl x1 x2 0 x3]]] []
    simp-implicitDefEqProofs[aa,k1,k2]
    rw[List.take_of_length_le (l:=rows) (i:=i) (by omega)]
    refine⟨⟨by omega,by omega⟩,_,k6,by simp only;omega,dF (by simp) ?_⟩
    simp[below,hwi]
  ·simp at h1
   have hie:i=e.kids.length:=by have:=hJ.1;simp at this;omega
   obtain⟨d1,d2,I,ho,nd,hI⟩:=hJ.done (by simpa using h1)
   subst hie
   have hn0:0∉I:=fun hm=>by have:=hI 0 hm;omega
   have hn1:1∉I:=fun hm=>by have:=hI 1 hm;omega
   have s0:∀x,(h'.set 0 x)[0]?=some x:=fun x=>List.getElem?_set_self (by omega)
   have s1:∀x,(h'.set 0 x)[1]?=some (.row 4 [[.p (.int .i64 0),.p (.int .i64 0),.p (.str []),.nils]]):=fun x=>by rw[List.getElem?_set_ne (by omega)];exact g1
   have s2:∀x y,((h'.set 0 x).set 1 y)[1]?=some y:=fun x y=>List.getElem?_set_self (by rw[List.length_set];omega)
   simp-implicitDefEqProofs[g0,g1,s0,s1,s2]
   rw[←hsl,←hec]
   exact⟨_,I,rfl,CN ((ho.set_out hn0 _).set_out hn1 _),nd⟩
theorem ss:∀(N:Nat) (l:List Sm),aC l<N→aC l≤1073741824→AC Tryd.prog G cT [.p (smL l)] [] (MkW one true [smL l]):=by
 intro N
 induction N with
 |zero=>intro l he;omega
 |succ N ih=>
  intro l hN hz
  have hsl:∀l,smL l= .lst 5 (l.map Sm.cs):=fun _=>rfl
  have hll:=bO l
  refine AC.go qH ?_
  simp-implicitDefEqProofs[kh,hsl]
  refine aR (fun a:PshS=>am 52 [(4,.p (.int .i64 a.i)),(3,.sl a.id 5 0 a.i),(0,.p (smL l))]) (fun a=>a.h) (PshF true 5 (l.map Sm.cs) []) (fun a=>l.length-a.i) ⟨0,0,[.row 5 []]⟩ (PshF.init [] []) ?_ ?_
  ·exact dF (by simp) (by simp[below,hsl])
  rintro⟨i,id,hh⟩ hI
  simp-implicitDefEqProofs[hsl]
  refine bc (fun h1=>?_) (fun h1=>?_)
  ·simp at h1
   have hg:=List.getElem?_eq_getElem h1
   have hm:=eZ (List.getElem_mem h1)
   have hcs:=l[i].cs_eq
   have hse:=l[i].sz_eq
   have hD:(l.map Sm.cs)[i]?=some l[i].cs:=by rw[List.getElem?_map,hg];rfl
   generalize l[i]=s at hg hm hcs hse hD
   simp-implicitDefEqProofs[hg,hcs,ri]
   have hid:id<hh.length:=by obtain⟨_,_,_,_,_,_,hr,_⟩:=hI;exact hr.lt
   have hal:=bQ s.args
   have hxl:exL s.args= .lst 4 (s.args.map Ex.cs):=rfl
   obtain⟨hb,ehb⟩:∃hb,hb=hh++[AO.row 5 [[.p (.int .i64 s.op),.p (.str s.name),.p (exL s.args),.p (smL s.body),.p (smL s.els)]]]:=⟨_,rfl⟩
   have hbl:hb.length=hh.length+1:=by rw[ehb];simp
   have hbx:hb[hh.length]?=some (.row 5 [[.p (.int .i64 s.op),.p (.str s.name),.p (exL s.args),.p (smL s.body),.p (smL s.els)]]):=by rw[ehb];simp
   have hini:PshF true 4 (s.args.map Ex.cs) hb ⟨0,hh.length+1,hh++[AO.row 5 [[.p (.int .i64 s.op),.p (.str s.name),.p (exL s.args),.p (smL s.body),.p (smL s.els)]],.row 4 []]⟩:=by
    have:=PshF.init (s:=true) (sz:=4) (D:=s.args.map Ex.cs) hb []
    rw[hbl,ehb,List.append_assoc] at this
    rw[ehb];exact this
   refine aR (fun a:PshS=>am 52 [(7,.p (.int .i64 a.i)),(6,.sl a.id 4 0 a.i),(5,.ptr hh.length 5 0 0),(4,.p (.int .i64 i)),(3,.sl id 5 0 i),(0,.p (smL l))]) (fun a=>a.h) (PshF true 4 (s.args.map Ex.cs) hb) (fun a=>s.args.length-a.i) _ hini ?_ ?_
   ·refine dF (by simp) ?_
    simp[below,hsl]
    omega
   rintro⟨j,id2,h'⟩ hJ
   have hjb:h'[hh.length]?=some (.row 5 [[.p (.int .i64 s.op),.p (.str s.name),.p (exL s.args),.p (smL s.body),.p (smL s.els)]]):=by
    rw[hJ.2.2.2.1 _ (by omega)];exact hbx
   have hlb:hh.length+1≤h'.length:=by have:=hJ.2.2.1;simp only at this;omega
   simp-implicitDefEqProofs[hjb,hxl]
   refine bc (fun h2=>?_) (fun h2=>?_)
   ·simp at h2
    have hga:=List.getElem?_eq_getElem h2
    have hma:=cf (List.getElem_mem h2)
    have hC:=Ag G _ s.args[j] (Nat.le_refl _) (by omega)
    have hka:=s.args[j].cs_eq
    have hDa:(s.args.map Ex.cs)[j]?=some s.args[j].cs:=by rw[List.getElem?_map,hga];rfl
    generalize s.args[j]=e at hga hma hC hka hDa
    have hA:=AC.mkLift sQ hC (h:=h') (by rw[hka];simp)
    rw[hka] at hA
    simp-implicitDefEqProofs[hjb,hga,hka,hxl]
    refine hA.mono ?_
    rintro r h2 ⟨vs,I2,os,rfl,e2,ho,nd,hf⟩
    rw[←hka] at ho
    obtain⟨rows,k1,k2,k3,k4,k5⟩:=hJ.step hDa (h2:=h2) (by rw[e2];simp) (fun x hx=>by rw[e2,List.getElem?_append_left hx]) ho nd hf e.cs_len
    obtain⟨K,rfl,hK⟩:=wL ho
    have hwj:=w1 (i:=j) (by omega)
    have hl2:h'.length≤h2.length:=by rw[e2];simp
    rcases gI hK with⟨q1,rfl⟩|rfl|⟨x1,x2,x3,rfl⟩
    ·have k6:=k5 [.row 4 [[.p (.int .i64 e.op),.p (.int .i64 e.n),.p (.str e.name),.p q1]]] []
     simp-implicitDefEqProofs[aa,k1,k2]
     rw[List.take_of_length_le (l:=rows) (i:=j) (by omega)]
     refine⟨⟨by omega,by omega⟩,_,k6,by simp only;omega,dF (by simp) ?_⟩
     simp[below,hsl,hwj]
     omega
    ·have k6:=k5 [.row 4 [[.p (.int .i64 e.op),.p (.int .i64 e.n),.p (.str e.name),.nils]]] []
     simp-implicitDefEqProofs[aa,k1,k2]
     rw[List.take_of_length_le (l:=rows) (i:=j) (by omega)]
     refine⟨⟨by omega,by omega⟩,_,k6,by simp only;omega,dF (by simp) ?_⟩
     simp[below,hsl,hwj]
     omega
    ·have k6:=k5 [.row 4 [[.p (.int .i64 e.op),.p (.int .i64 e.n),.p (.str e.name),.sl x1 x2 0 x3]]] []
     simp-implicitDefEqProofs[aa,k1,k2]
     rw[List.take_of_length_le (l:=rows) (i:=j) (by omega)]
     refine⟨⟨by omega,by omega⟩,_,k6,by simp only;omega,dF (by simp) ?_⟩
     simp[below,hsl,hwj]
     omega
   ·simp at h2
    have hjl:j=s.args.length:=by have:=hJ.1;simp at this;omega
    obtain⟨d1,d2,IA,oA,nA,fA⟩:=hJ.done (by simpa using h2)
    subst hjl
    have hB:=ih s.body (by omega) (by omega)
    have hE:=ih s.els (by omega) (by omega)
    simp-implicitDefEqProofs[hjb]
    refine(AC.mkLift nO hB (h:=h') (by simp)).mono ?_
    rintro r h3 ⟨vB,IB,o1,rfl,e3,oB,nB,fB⟩
    obtain⟨B,rfl⟩:=eD oB
    have hjb3:h3[hh.length]?=some (.row 5 [[.p (.int .i64 s.op),.p (.str s.name),.p (exL s.args),.p (smL s.body),.p (smL s.els)]]):=by
     rw[e3,List.getElem?_append_left (by omega)];exact hjb
    simp-implicitDefEqProofs[aa,one,hjb3]
    refine(AC.mkLift nO hE (h:=h3) (by simp)).mono ?_
    rintro r h4 ⟨vE,IE,o2,rfl,e4,oE,nE,fE⟩
    obtain⟨E,rfl⟩:=eD oE
    have hjb4:h4[hh.length]?=some (.row 5 [[.p (.int .i64 s.op),.p (.str s.name),.p (exL s.args),.p (smL s.body),.p (smL s.els)]]):=by
     have:hh.length<h3.length:=(List.getElem?_eq_some_iff.1 hjb3).1
     rw[e4,List.getElem?_append_left this];exact hjb3
    have cB:=gI oB
    have cE:=gI oE
    obtain⟨a1,a2,a3⟩:=uY oA nA fA (by rw[←e3];exact oB) nB fB d1
    rw[←e3] at a1
    obtain⟨b1,b2,b3⟩:=uY a1 a2 a3 (by rw[←e4];exact oE) nE fE (by rw[e3];simp;omega)
    rw[←e4] at b1
    have hS:=Co (s:=s) b1
    obtain⟨rows,k1,k2,k3,k4,k5⟩:=hI.step hD (h2:=h4) (by rw[e4,e3];simp;omega) (fun x hx=>by
     rw[e4,List.getElem?_append_left (by rw[e3];simp;omega),e3,List.getElem?_append_left (by omega),d2 x (by omega),ehb,List.getElem?_append_left hx]) hS b2 (fun x hx=>by have:=b3 x hx;omega) s.cs_len
    have k6:=k5 [.row 5 [[.p (.int .i64 s.op),.p (.str s.name),.sl id2 4 0 s.args.length,B,E]]] []
    have hwi:=w1 (i:=i) (by omega)
    rcases cB with⟨q1,rfl⟩|rfl|⟨x1,x2,x3,rfl⟩<;>rcases cE with⟨q2,rfl⟩|rfl|⟨y1,y2,y3,rfl⟩<;>
    ·simp-implicitDefEqProofs[aa,one,hjb4,k1,k2]
     rw[List.take_of_length_le (l:=rows) (i:=i) (by omega)]
     refine⟨⟨by omega,by omega⟩,_,k6,by simp only;omega,dF (by simp) ?_⟩
     simp[below,hsl,hwi]
  ·simp at h1
   obtain⟨_,_,I,ho,nd,_⟩:=hI.done (by simpa using h1)
   have hie:i=l.length:=by have:=hI.1;simp at this;omega
   subst hie
   simp-implicitDefEqProofs[]
   exact⟨_,I,rfl,ho,nd⟩
def cpK(a:PshS):AV:=if a.i=0 then .nils else .sl a.id 3 0 a.i
def CpI(l:List Fd)(a:PshS):Prop:=a.i≤l.length∧a.h[0]?=some (.row 1 [[.p (fdL l)]])∧a.h[1]?=some (.row 1 [[.nils]])∧a.h[2]?=some (.row 1 [[cpK a]])∧
 (0<a.i→3≤a.id∧∃rows J,RowOwn true a.h a.id 3 rows ((l.map Fd.cs).take a.i) J∧∀j∈J,3≤j)
theorem sr:∀l:List Fd,l.length≤aN l
 |[]=>Nat.le_refl _
 |f::r=>by
  have:=sr r
  have h1:aN (f::r)=f.sz+aN r:=by simp[aN]
  have h2:f.sz=1+f.name.length+(f.params.length+(f.params.map List.length).sum)+aC f.body:=rfl
  simp only[List.length_cons];omega
theorem uD{h:List AO}{id:Nat}{l:List (List UInt8)}(e:h[id]?=some (bx l)){n:Nat}(hn:n=l.length):OwnL true h [.sl id 1 0 n] [ay l] [id]:=by
 have hr:RowOwn true h id 1 (l.map fun w=>[AV.p (.str w)]) (l.map fun w=>[PV.str w]) []:=by
  refine⟨e,by simp,fun x hx=>by obtain⟨w,_,rfl⟩:=List.mem_map.1 hx;rfl,fun x hx=>by obtain⟨w,_,rfl⟩:=List.mem_map.1 hx;rfl,?_,by simp⟩
  clear e hn
  induction l with
  |nil=>exact .nil
  |cons w r ih=>exact .p _ (fun _=>rfl) ih
 exact hr.tree (by simpa using hn)
theorem AJ{h3:List AO}(hl:3≤h3.length){r:List AV}{f:Fd}{I2:List Nat}(ho:OwnL true h3 r f.cs I2)(nd:I2.Nodup)(hf:∀j∈I2,3≤j)(o x:AO):∃J,RowOwn true ((h3++[o,.row 3 [r]]).set 2 x) (h3.length+1) 3 [r] [f.cs] J∧∀j∈J,3≤j:=by
 have hr:r.length=3:=by rw[ho.len,Fd.cs_len]
 refine⟨I2,⟨?_,rfl,fun e he=>by rw[List.mem_singleton.1 he];exact hr,fun e he=>by rw[List.mem_singleton.1 he];exact Fd.cs_len f,?_,?_⟩,hf⟩
 ·rw[List.getElem?_set_ne (by omega),List.getElem?_append_right (by omega),Nat.add_sub_cancel_left];rfl
 ·have:=(ho.more [o,.row 3 [r]]).set_out (fun hm=>by have:=hf 2 hm;omega:2∉I2) x
  simpa using this
 ·rw[List.nodup_cons]
  exact⟨fun hm=>by have:=ho.lt hm;omega,nd⟩
theorem Cn{h h3:List AO}{id:Nat}{rows:List (List AV)}{D:List (List PV)}{J:List Nat}(H:RowOwn true h id 3 rows D J)(hJ:∀j∈J,3≤j)(hid:3≤id)(hh:3≤h.length)(e3:h3=h++h3.drop h.length){r:List AV}{f:Fd}{I2:List Nat}(ho:OwnL true h3 r f.cs I2)(nd:I2.Nodup)(hf:∀j∈I2,h.length≤j)(o x:AO):
 ∃J,RowOwn true (((h3++[o]).set id .dead++[AO.row 3 (rows++[r])]).set 2 x) (h3.length+1) 3 (rows++[r]) (D++[f.cs]) J∧∀j∈J,3≤j:=by
 have hp:=H.push (h2:=h3++[o]) (os:=h3.drop h.length++[o]) (by rw[←List.append_assoc,←e3]) (ho.more [o]) nd hf (Fd.cs_len f)
 have hl:(h3++[o]).length=h3.length+1:=by simp
 rw[hl] at hp
 have hl3:h.length≤h3.length:=by rw[e3];simp
 refine⟨J++I2,hp.frame fun k hk=>?_,fun j hj=>?_⟩
 ·have:3≤k:=by
   rcases List.mem_cons.1 hk with rfl|hk
   ·omega
   ·rcases List.mem_append.1 hk with hk|hk
    ·exact hJ k hk
    ·have:=hf k hk;omega
  rw[List.getElem?_set_ne (by omega)]
 ·rcases List.mem_append.1 hj with hj|hj
  ·exact hJ j hj
  ·have:=hf j hj;omega
theorem zM(l:List Fd)(hz:aN l≤1073741824):AC Tryd.prog G iT [.agg [.p (fdL l)]] [] (MkW .agg true [fdL l]):=by
 have hfl:∀l,fdL l= .lst 3 (l.map Fd.cs):=fun _=>rfl
 have hll:l.length≤aN l:=sr l
 refine AC.go sa ?_
 simp-implicitDefEqProofs[lU,hfl]
 refine aR (fun a:PshS=>am 35 [(4,.p (.int .i64 a.i)),(3,.ptr 2 1 0 0),(2,.ptr 1 1 0 0),(1,.ptr 0 1 0 0)]) (fun a=>a.h) (CpI l) (fun a=>l.length-a.i) ⟨0,0,[.row 1 [[.p (fdL l)]],.row 1 [[.nils]],.row 1 [[.nils]]]⟩ ⟨Nat.zero_le _,rfl,rfl,rfl,fun h=>by simp at h⟩ ?_ ?_
 ·exact dF (by simp) (by simp[below])
 rintro⟨i,id,h⟩ ⟨i1,i2,i3,i4,i5⟩
 simp only at i1 i2 i3 i4 i5
 have hl3:3≤h.length:=by have:=(List.getElem?_eq_some_iff.1 i4).1;omega
 have j2:∀os,(h++os)[0]?=some (.row 1 [[.p (fdL l)]]):=fun os=>by rw[List.getElem?_append_left (by omega)];exact i2
 have j4:∀os,(h++os)[2]?=some (.row 1 [[cpK ⟨i,id,h⟩]]):=fun os=>by rw[List.getElem?_append_left (by omega)];exact i4
 simp-implicitDefEqProofs[i2,hfl]
 refine bc (fun h1=>?_) (fun h1=>?_)
 ·simp at h1
  have hg:=List.getElem?_eq_getElem h1
  have hm:=dg (List.getElem_mem h1)
  have hD:(l.map Fd.cs)[i]?=some l[i].cs:=by rw[List.getElem?_map,hg];rfl
  generalize l[i]=f at hg hm hD
  have hcs:f.cs=[.str f.name,ay f.params,smL f.body]:=rfl
  have hsp:ay f.params= .lst 1 (f.params.map fun w=>[.str w]):=rfl
  have hfz:f.sz=1+f.name.length+(f.params.length+(f.params.map List.length).sum)+aC f.body:=rfl
  have hB:=ss G _ f.body (Nat.lt_succ_self _) (by omega)
  by_cases hi0:i=0
  ·subst hi0
   have hk:cpK ⟨0,id,h⟩= .nils:=rfl
   rw[hk] at j4 i4
   have fin0:∀(h3:List AO) (r:List AV) (I2:List Nat) (l0:List (Nat × AV)),h.length+3≤h3.length→(∀j,j<h.length→h3[j]?=h[j]?)→OwnL true h3 r f.cs I2→I2.Nodup→(∀j∈I2,h.length≤j)→∀(o:AO) (hw:Aw.look l0 4= .p (.int .i64 (IntKind.i64.wrap 1))∧Aw.look l0 3= .ptr 2 1 0 0∧Aw.look l0 2= .ptr 1 1 0 0∧Aw.look l0 1= .ptr 0 1 0 0),
    ∃a',CpI l a'∧l.length-a'.i<l.length∧Wk 0 (am 35 l0) ((h3++[o,.row 3 [r]]).set 2 (.row 1 [[.sl (h3.length+1) 3 0 1]])) (am 35 [(4,.p (.int .i64 a'.i)),(3,.ptr 2 1 0 0),(2,.ptr 1 1 0 0),(1,.ptr 0 1 0 0)]) a'.h:=by
    intro h3 r I2 l0 hl4 hg3 oR nR fR o ⟨e4,e3,e2,e1⟩
    obtain⟨J,hJ,hJ3⟩:=AJ (by omega) oR nR (fun j hj=>by have:=fR j hj;omega) o (.row 1 [[.sl (h3.length+1) 3 0 1]])
    have hd:(l.map Fd.cs).take 1=[f.cs]:=by rw[List.take_add_one,hD];rfl
    refine⟨⟨1,h3.length+1,_⟩,⟨by simp only;omega,?_,?_,?_,fun _=>⟨by simp only;omega,_,J,by simp only[hd];exact hJ,hJ3⟩⟩,by simp only;omega,dF (by simp) ?_⟩
    ·rw[List.getElem?_set_ne (by omega),List.getElem?_append_left (by omega),hg3 0 (by omega)];exact i2
    ·rw[List.getElem?_set_ne (by omega),List.getElem?_append_left (by omega),hg3 1 (by omega)];exact i3
    ·rw[List.getElem?_set_self (by simp;omega)];rfl
    ·simp[e1,e2,e3,e4,below]
     exact⟨by have:=w1 (i:=0) (by omega);simpa using this,by omega⟩
   simp-implicitDefEqProofs[i2,hfl,hg,hcs,hsp,ri, ↓j2, ↓j4]
   refine⟨⟨by omega,by omega⟩,?_⟩
   refine(AC.mkLift nO hB (by simp)).mono ?_
   rintro r h3 ⟨vB,IB,o1,rfl,e3,oB,nB,fB⟩
   obtain⟨B,rfl⟩:=eD oB
   simp at fB
   have hg3:∀j,j<h.length→h3[j]?=h[j]?:=fun j hj=>by rw[e3,List.append_assoc,List.getElem?_append_left hj]
   have p0:h3[h.length]?=some (.row 3 [[.p (.str f.name),.p (.lst 1 (f.params.map fun w=>[.str w])),.p (smL f.body)]]):=by
    rw[e3,List.append_assoc,List.getElem?_append_right (Nat.le_refl _),Nat.sub_self];rfl
   have p2:h3[h.length+2]?=some (bx f.params):=by
    rw[e3,List.append_assoc,List.getElem?_append_right (by omega),Nat.add_sub_cancel_left]
    simp[bx,Function.comp_def]
   have oP:=uD p2 (n:=f.params.length) rfl
   have hl4:h.length+3≤h3.length:=by rw[e3];simp
   have q0:∀os,(h3++os)[2]?=some (.row 1 [[.nils]]):=fun os=>by rw[List.getElem?_append_left (by omega),hg3 2 (by omega)];exact i4
   have q1:h3[2]?=some (.row 1 [[.nils]]):=by rw[hg3 2 (by omega)];exact i4
   have q2:∀os,(h3++os)[h.length]?=some (.row 3 [[.p (.str f.name),.p (.lst 1 (f.params.map fun w=>[.str w])),.p (smL f.body)]]):=fun os=>by rw[List.getElem?_append_left (by omega)];exact p0
   clear p2
   have hfR:∀j∈[h.length+2]++IB,h.length≤j:=fun j hj=>by
    rcases List.mem_append.1 hj with hj|hj
    ·rw[List.mem_singleton.1 hj];omega
    ·have:=fB j hj;omega
   have hnR:([h.length+2]++IB).Nodup:=List.nodup_cons.2 ⟨fun hm=>by have:=fB _ hm;omega,nB⟩
   rcases gI oB with⟨b1,rfl⟩|rfl|⟨x1,x2,x3,rfl⟩
   ·have oR:=mB (s:=true) (w:=f.name) oP oB
    simp-implicitDefEqProofs[aa,one, ↓q1, ↓p0, ↓q0, ↓q2]
    exact fin0 h3 _ _ _ hl4 hg3 oR hnR hfR _ (by simp)
   ·have oR:=mB (s:=true) (w:=f.name) oP oB
    simp-implicitDefEqProofs[aa,one, ↓q1, ↓p0, ↓q0, ↓q2]
    exact fin0 h3 _ _ _ hl4 hg3 oR hnR hfR _ (by simp)
   ·have oR:=mB (s:=true) (w:=f.name) oP oB
    simp-implicitDefEqProofs[aa,one, ↓q1, ↓p0, ↓q0, ↓q2]
    exact fin0 h3 _ _ _ hl4 hg3 oR hnR hfR _ (by simp)
  ·have hk:cpK ⟨i,id,h⟩= .sl id 3 0 i:=if_neg hi0
   rw[hk] at j4 i4
   obtain⟨hid3,rows,J,hr,hJ3⟩:=i5 (by omega)
   have hrl:rows.length=i:=by have:=hr.len;rw[List.length_take,List.length_map] at this;omega
   have hidl:=hr.lt
   have fin0:∀(h3:List AO) (r:List AV) (I2:List Nat) (l0:List (Nat × AV)),h.length+3≤h3.length→(∀j,j<h.length→h3[j]?=h[j]?)→OwnL true h3 r f.cs I2→I2.Nodup→(∀j∈I2,h.length≤j)→∀(o:AO) (hw:Aw.look l0 4= .p (.int .i64 (IntKind.i64.wrap ((i:Int)+1)))∧Aw.look l0 3= .ptr 2 1 0 0∧Aw.look l0 2= .ptr 1 1 0 0∧Aw.look l0 1= .ptr 0 1 0 0),
    ∃a',CpI l a'∧l.length-a'.i<l.length-i∧Wk 0 (am 35 l0) (((h3++[o]).set id .dead++[AO.row 3 (rows++[r])]).set 2 (.row 1 [[.sl (h3.length+1) 3 0 (i+1)]])) (am 35 [(4,.p (.int .i64 a'.i)),(3,.ptr 2 1 0 0),(2,.ptr 1 1 0 0),(1,.ptr 0 1 0 0)]) a'.h:=by
    intro h3 r I2 l0 hl4 hg3 oR nR fR o ⟨e4,e3,e2,e1⟩
    obtain⟨J2,hJ,hJ4⟩:=Cn hr hJ3 hid3 hl3 (rx (by omega) hg3) oR nR fR o (.row 1 [[.sl (h3.length+1) 3 0 (i+1)]])
    have hd:(l.map Fd.cs).take i++[f.cs]=(l.map Fd.cs).take (i+1):=by rw[List.take_add_one,hD];rfl
    rw[hd] at hJ
    refine⟨⟨i+1,h3.length+1,_⟩,⟨by simp only;omega,?_,?_,?_,fun _=>⟨by simp only;omega,_,J2,hJ,hJ4⟩⟩,by simp only;omega,dF (by simp) ?_⟩
    ·rw[List.getElem?_set_ne (by omega),List.getElem?_append_left (by simp only[List.length_set,List.length_append,List.length_cons];omega),List.getElem?_set_ne (by omega),List.getElem?_append_left (by omega),hg3 0 (by omega)];exact i2
    ·rw[List.getElem?_set_ne (by omega),List.getElem?_append_left (by simp only[List.length_set,List.length_append,List.length_cons];omega),List.getElem?_set_ne (by omega),List.getElem?_append_left (by omega),hg3 1 (by omega)];exact i3
    ·rw[List.getElem?_set_self (by simp;omega),cpK,if_neg (show¬(i+1=0) by omega)]
    ·simp[e1,e2,e3,e4,below]
     exact⟨w1 (i:=i) (by omega),by omega⟩
   simp-implicitDefEqProofs[i2,hfl,hg,hcs,hsp,ri, ↓j2, ↓j4]
   refine⟨⟨by omega,by omega⟩,?_⟩
   refine(AC.mkLift nO hB (by simp)).mono ?_
   rintro r h3 ⟨vB,IB,o1,rfl,e3,oB,nB,fB⟩
   obtain⟨B,rfl⟩:=eD oB
   simp at fB
   have hg3:∀j,j<h.length→h3[j]?=h[j]?:=fun j hj=>by rw[e3,List.append_assoc,List.getElem?_append_left hj]
   have p0:h3[h.length]?=some (.row 3 [[.p (.str f.name),.p (.lst 1 (f.params.map fun w=>[.str w])),.p (smL f.body)]]):=by
    rw[e3,List.append_assoc,List.getElem?_append_right (Nat.le_refl _),Nat.sub_self];rfl
   have p2:h3[h.length+2]?=some (bx f.params):=by
    rw[e3,List.append_assoc,List.getElem?_append_right (by omega),Nat.add_sub_cancel_left]
    simp[bx,Function.comp_def]
   have oP:=uD p2 (n:=f.params.length) rfl
   have hl4:h.length+3≤h3.length:=by rw[e3];simp
   have q0:∀os,(h3++os)[2]?=some (.row 1 [[.sl id 3 0 i]]):=fun os=>by rw[List.getElem?_append_left (by omega),hg3 2 (by omega)];exact i4
   have q1:h3[2]?=some (.row 1 [[.sl id 3 0 i]]):=by rw[hg3 2 (by omega)];exact i4
   have q2:∀os,(h3++os)[h.length]?=some (.row 3 [[.p (.str f.name),.p (.lst 1 (f.params.map fun w=>[.str w])),.p (smL f.body)]]):=fun os=>by rw[List.getElem?_append_left (by omega)];exact p0
   clear p2
   have q4:∀x o y,((h3++x).set id o++y)[2]?=some (.row 1 [[.sl id 3 0 i]]):=fun x o y=>by
    rw[List.getElem?_append_left (by simp only[List.length_set,List.length_append];omega),List.getElem?_set_ne (by omega),List.getElem?_append_left (by omega),hg3 2 (by omega)];exact i4
   have q3:∀os,(h3++os)[id]?=some (.row 3 rows):=fun os=>by rw[List.getElem?_append_left (by omega),hg3 id hidl];exact hr.here
   have hfR:∀j∈[h.length+2]++IB,h.length≤j:=fun j hj=>by
    rcases List.mem_append.1 hj with hj|hj
    ·rw[List.mem_singleton.1 hj];omega
    ·have:=fB j hj;omega
   have hnR:([h.length+2]++IB).Nodup:=List.nodup_cons.2 ⟨fun hm=>by have:=fB _ hm;omega,nB⟩
   rcases gI oB with⟨b1,rfl⟩|rfl|⟨x1,x2,x3,rfl⟩
   ·have oR:=mB (s:=true) (w:=f.name) oP oB
    simp-implicitDefEqProofs[aa,one, ↓q1, ↓p0, ↓q0, ↓q2, ↓q3, ↓q4,hrl]
    rw[List.take_of_length_le (l:=rows) (i:=i) (by omega)]
    refine⟨⟨by omega,by omega⟩,?_⟩
    exact fin0 h3 _ _ _ hl4 hg3 oR hnR hfR _ (by simp)
   ·have oR:=mB (s:=true) (w:=f.name) oP oB
    simp-implicitDefEqProofs[aa,one, ↓q1, ↓p0, ↓q0, ↓q2, ↓q3, ↓q4,hrl]
    rw[List.take_of_length_le (l:=rows) (i:=i) (by omega)]
    refine⟨⟨by omega,by omega⟩,?_⟩
    exact fin0 h3 _ _ _ hl4 hg3 oR hnR hfR _ (by simp)
   ·have oR:=mB (s:=true) (w:=f.name) oP oB
    simp-implicitDefEqProofs[aa,one, ↓q1, ↓p0, ↓q0, ↓q2, ↓q3, ↓q4,hrl]
    rw[List.take_of_length_le (l:=rows) (i:=i) (by omega)]
    refine⟨⟨by omega,by omega⟩,?_⟩
    exact fin0 h3 _ _ _ hl4 hg3 oR hnR hfR _ (by simp)
 ·simp at h1
  have hie:i=l.length:=by omega
  subst hie
  have s1:∀x,(h.set 1 x)[1]?=some x:=fun x=>List.getElem?_set_self (by omega)
  by_cases hi0:l.length=0
  ·have hk:cpK ⟨l.length,id,h⟩= .nils:=if_pos hi0
   rw[hk] at i4
   simp-implicitDefEqProofs[i4,i3,s1]
   obtain rfl:=List.eq_nil_of_length_eq_zero hi0
   exact⟨[.nils],[],rfl,.nils 3 .nil,by simp⟩
  ·have hk:cpK ⟨l.length,id,h⟩= .sl id 3 0 l.length:=if_neg hi0
   rw[hk] at i4
   obtain⟨hid3,rows,J,hr,hJ3⟩:=i5 (by omega)
   rw[List.take_of_length_le (by simp)] at hr
   simp-implicitDefEqProofs[i4,i3,s1]
   have ho:=hr.tree (n:=l.length) (by simp)
   exact⟨[.sl id 3 0 l.length],id::J,rfl,ho.set_out (fun hm=>by
    rcases List.mem_cons.1 hm with hm|hm
    ·omega
    ·have:=hJ3 _ hm;omega) _,hr.nd⟩
end Go.Proofs.YtiojgfhdcpppcaaDoor
namespace Go.Proofs.YtiojgfhdcpppcaaDoor
open Go Go.Aw
set_option maxRecDepth 100000
set_option maxHeartbeats 4000000
variable (G:aG)
theorem yZ{s:Bool}{b:List Int}{q:Nat}{T:List AO}{vs:List AV}{qs:List PV}{I:List Nat}(H:OwnL s (rdO b q::T) vs qs I)(hI:∀i∈I,1≤i)(o:AO):OwnL s (o::T) vs qs I:=
 H.frame fun i hi=>by
  have:=hI i hi
  obtain⟨k,rfl⟩:∃k,i=k+1:=⟨i-1,by omega⟩
  rfl
theorem Am{b:List Int}{p q:Nat}{T:List AO}{v:AV}{l:List Fd}{I:List Nat}(H:OwnL true (rdO b q::T) [v] [fdL l] I)(hI:∀i∈I,1≤i)(hz:aN l≤900000000)(h1:p≤q)(h2:q≤p+400500000):DP b (PgQ p 900000000 400500000) (.ret (.agg [v])) (rdO b q::T):=
 ⟨_,T,q,.agg [.p (fdL l)],rfl,rfl,.agg (.one ((yZ H hI .dead).view 0 v _ rfl rfl) .nil) .nil,⟨l,rfl,hz⟩,h1,h2⟩
theorem Bi{l:List Sm}{k:Nat}{s0:Sm}(s:Sm)(h:l[k]?=some s0):aC (l.set k s)+s0.sz=aC l+s.sz:=by
 obtain⟨hk,h⟩:=List.getElem?_eq_some_iff.1 h
 subst h
 ·rw[dW s hk,bi]
  have e:l=l.take k++l.drop k:=(List.take_append_drop _ _).symm
  have h1:aC l=aC (l.take k)+aC (l.drop k):=by rw[←bi,←e]
  have h4:aC (l.drop k)=l[k].sz+aC (l.drop (k+1)):=by rw[List.drop_eq_getElem_cons hk];rfl
  simp only[aC]
  omega
theorem zR(l:List Ex)(k:Nat)(s:Ex):aP (l.set k s)≤aP l+s.sz:=by
 by_cases hk:k<l.length
 ·rw[dW s hk,cA]
  have e:l=l.take k++l.drop k:=(List.take_append_drop _ _).symm
  have h1:aP l=aP (l.take k)+aP (l.drop k):=by rw[←cA,←e]
  have h4:aP (l.drop k)=l[k].sz+aP (l.drop (k+1)):=by rw[List.drop_eq_getElem_cons hk];rfl
  simp only[aP]
  omega
 ·rw[List.set_eq_of_length_le (by omega)];omega
theorem us{α:Type}{l:List α}{k:Nat}{x:α}(h:l[k]?=some x):l.set k x=l:=by
 apply List.ext_getElem?
 intro i
 by_cases hi:k=i
 ·subst hi;rw[List.getElem?_set_self (List.getElem?_eq_some_iff.1 h).1,h]
 ·rw[List.getElem?_set_ne hi]
theorem Bt{h:List AO}{id sz n m:Nat}{es:List (List PV)}(H:View h (.sl id sz 0 n) (.lst sz es))(hm:m≤es.length):View h (.sl id sz 0 m) (.lst sz (es.take m)):=by
 cases H with
 |sl _ _ _ rows _ e1 e2 e3 e4=>
  have hl:(es.take m).length=m:=by rw[List.length_take];omega
  have:=View.sl id sz 0 rows (es.take m) e1 (by omega) (fun e he=>e3 e (List.mem_of_mem_take he)) (fun i j e q e' a a1 a2 a3 a4=>by
   have hi:i<m:=by have:=(List.getElem?_eq_some_iff.1 a1).1;omega
   rw[List.getElem?_take_of_lt hi] at a1
   exact e4 i j e q e' a a1 a2 a3 a4)
  rwa[hl] at this
theorem zQ{b:List Int}(hb:Byt b)(hl:b.length≤2000){p:Nat}(hp:p≤5000000000):AC Tryd.prog G fO [.ptr 0 2 0 0] [rdO b p] fun x h=>∃v q,x= .ret v∧h=[rdO b q]∧PgQ p 900000000 400500000 v q:=by
 refine jF G (AC.go rZ ?_)
 have hprog:AC Tryd.prog G bE [.ptr 0 2 0 0] [rdO b p] fun x h=>∃v q,x= .ret v∧h=[rdO b q]∧((∃l:List Fd,v= .agg [.p (fdL l)]∧br l=true∧aN l≤200000000)∧p≤q∧q≤p+200000000):=
  (vK G hb hl (by omega)).mono fun x h ⟨l,q,e1,e2,e3,e4,e5,e6⟩=>⟨_,q,e1,e2,⟨l,rfl,e3,e4⟩,e5,e6⟩
 simp-implicitDefEqProofs[lK]
 refine(gq G hprog _ (by simp[below])).mono ?_
 rintro r h ⟨v,q,rfl,rfl,⟨l,rfl,hok,hz⟩,h1,h2⟩
 have hlen:=((mC l).1 hok).1
 have hfd:=((mC l).1 hok).2.1
 simp-implicitDefEqProofs[aa]
 refine(aT G b hb hl q (by omega) 5 _).mono ?_
 rintro r h ⟨k1,rfl,rfl,_⟩
 simp-implicitDefEqProofs[aa]
 refine bc (fun hc=>?_) (fun hc=>?_)
 ·simp-implicitDefEqProofs[]
  exact⟨_,_,q+1,.agg [.p (fdL l)],rfl,rfl,.keep (by simp) .nil,⟨l,rfl,by omega⟩,by omega,by omega⟩
 simp-implicitDefEqProofs[]
 refine(aT G b hb hl (q+1) (by omega) 6 _).mono ?_
 rintro r h ⟨k2,rfl,rfl,_⟩
 simp-implicitDefEqProofs[aa]
 refine bc (fun hc2=>?_) (fun hc2=>?_)
 ·simp-implicitDefEqProofs[]
  refine(gq G (AP G hb hl (p:=q+1+1) (by omega)) _ (by simp[below])).mono ?_
  rintro r h ⟨v,q2,rfl,rfl,⟨l2,rfl,hz2⟩,h3,h4⟩
  simp-implicitDefEqProofs[aa]
  exact⟨_,_,q2,.agg [.p (fdL l2)],rfl,rfl,.keep (by simp) .nil,⟨l2,rfl,by omega⟩,by omega,by omega⟩
 simp-implicitDefEqProofs[]
 refine(AC.mkLift sQ (zM G l (by omega)) (by simp)).mono ?_
 rintro r h ⟨vs,I,os,rfl,rfl,ho,nd,hI⟩
 obtain⟨v,rfl⟩:=eD ho
 have hne:l.map Fd.cs≠[]:=by intro h;rw[List.map_eq_nil_iff] at h;rw[h] at hlen;simp at hlen
 simp at hI
 rcases ho.inv nd with⟨h0,_⟩|⟨h0,_⟩|⟨id,rowsF,JF,rfl,rfl,hF⟩
 ·exact absurd h0 hne
 ·cases h0
 have hid3:3≤id:=hI id (by simp)
 obtain⟨fF,rfl⟩:∃fF,id=fF+1:=⟨id-1,by omega⟩
 rw[List.length_map]
 simp-implicitDefEqProofs[aa]
 have hF2:∀q',RowOwn true (rdO b q':: .row 1 [[.nils]]:: .row 1 [[.sl (fF+1) 3 0 l.length]]::os) (fF+1) 3 rowsF (l.map Fd.cs) JF:=fun q'=>hF.frame fun i hi=>by
  have:=hI i (by simpa using hi)
  obtain⟨k,rfl⟩:∃k,i=k+3:=⟨i-3,by omega⟩
  rfl
 have hI3:∀j∈JF,3≤j:=fun j hj=>hI j (by simp[hj])
 have hnF:=hF.nd
 clear hF ho
 obtain⟨T,hT⟩:∃T,T= .row 1 [[.nils]]:: .row 1 [[AV.sl (fF+1) 3 0 l.length]]::os:=⟨_,rfl⟩
 rw[←hT] at hF2⊢
 have t0:T[0]?=some (.row 1 [[.nils]]):=by rw[hT];rfl
 have t1:T[1]?=some (.row 1 [[.sl (fF+1) 3 0 l.length]]):=by rw[hT];rfl
 have tF:T[fF]?=some (.row 3 rowsF):=(hF2 0).here
 clear hT
 refine(aT G b hb hl (q+1+1) (by omega) l.length _).mono ?_
 rintro r h ⟨k,rfl,rfl,hk⟩
 have hkl:k<l.length:=by omega
 have hgk:=List.getElem?_eq_getElem hkl
 have hfk:=hfd _ (List.getElem_mem hkl)
 have hzk:=dg (List.getElem_mem hkl)
 have hDk:(l.map Fd.cs)[k]?=some l[k].cs:=by rw[List.getElem?_map,hgk];rfl
 generalize l[k]=f at hgk hfk hzk hDk
 obtain⟨rF,J1,Jk,J2,r1,rfl,r2,r5⟩:=(hF2 (q+1+1+1)).own.put (hF2 0).len (hF2 0).rl (hF2 0).dl hDk
 obtain⟨A,B,IA,IB,rfl,rfl,oA,oB⟩:=Eb r2
 have hltJ:∀j∈J1++(IA++IB++J2),j<T.length+1:=fun j hj=>by have:=(hF2 0).own.lt hj;simpa using this
 have hnd:=hnF
 rw[List.nodup_cons] at hnd
 have hn1:fF+1∉J1++(IA++IB++J2):=hnd.1
 have hn2:=hnd.2
 have hIB:∀j∈IB,3≤j:=fun j hj=>hI3 j (by simp[hj])
 have nIB:IB.Nodup:=(List.nodup_append.1 (List.nodup_append.1 (List.nodup_append.1 hn2).2.1).1).2.1
 have hDl:(l.map Fd.cs).length=l.length:=by simp
 have finG:∀(U:List AO) (q':Nat) (B':AV) (I':List Nat) (sl':List Sm),(∀i,2≤i→i<T.length→i≠fF→i+1∉IB→U[i]?=T[i]?)→U[fF]?=some (.row 3 (rowsF.set k [.p (.str f.name),A,B']))→OwnL true (rdO b q'::U) [B'] [smL sl'] I'→(∀i∈I',1≤i)→
  aC sl'≤450000000→p≤q'→q'≤p+400500000→DP b (PgQ p 900000000 400500000) (.ret (.agg [.sl (fF+1) 3 0 l.length])) (rdO b q'::U):=by
  intro U q' B' I' sl' hU hUF oB' hI' hz' h3 h4
  have hfr:∀j∈J1++J2++IA,(rdO b q'::U)[j]?=(rdO b (q+1+1+1)::T)[j]?:=fun j hj=>by
   have hjm:j∈J1++(IA++IB++J2):=by simp only[List.mem_append] at hj⊢;rcases hj with(hj|hj)|hj<;>simp[hj]
   have hj3:=hI3 j hjm
   have hjl:=hltJ j hjm
   obtain⟨i,rfl⟩:∃i,j=i+1:=⟨j-1,by omega⟩
   rw[List.getElem?_cons_succ,List.getElem?_cons_succ]
   refine hU i (by omega) (by omega) (fun e=>hn1 (e▸hjm)) fun hm=>?_
   simp only[List.nodup_append,List.mem_append] at hn2
   obtain⟨n1,⟨⟨n2,n3,n4⟩,n5,n6⟩,n7⟩:=hn2
   simp only[List.mem_append] at hj
   rcases hj with(hj|hj)|hj
   ·exact n7 _ hj _ (.inl (.inr hm)) rfl
   ·exact n6 _ (.inr hm) _ hj rfl
   ·exact n4 _ hj _ hm rfl
  have oR:=mB (s:=true) (w:=f.name) (oA.frame fun i hi=>hfr i (by simp[hi])) oB'
  have oW:=r5 (rdO b q'::U) _ _ _ (fun j hj=>hfr j (by simp only[List.mem_append] at hj⊢;exact .inl hj)) oR
  have hD':(l.map Fd.cs).set k (Fd.mk f.name f.params sl').cs=(l.set k ⟨f.name,f.params,sl'⟩).map Fd.cs:=by rw[List.map_set]
  have tree:=OwnL.sl (s:=true) (h:=rdO b q'::U) (fF+1) 3 l.length (rowsF.set k [.p (.str f.name),A,B']) ((l.map Fd.cs).set k (Fd.mk f.name f.params sl').cs) hUF (by simp) (by have:=(hF2 0).len;simpa using this) (fun e he=>by
   rcases List.mem_or_eq_of_mem_set he with h|rfl
   ·exact(hF2 0).rl e h
   ·rfl) (fun e he=>by
   rcases List.mem_or_eq_of_mem_set he with h|rfl
   ·exact(hF2 0).dl e h
   ·rfl) oW .nil
  rw[hD'] at tree
  have hsz:=uG l k ⟨f.name,f.params,sl'⟩
  have hfz:f.sz=1+f.name.length+(f.params.length+(f.params.map List.length).sum)+aC f.body:=rfl
  have hfz':(Fd.mk f.name f.params sl').sz=1+f.name.length+(f.params.length+(f.params.map List.length).sum)+aC sl':=rfl
  refine Am (l:=l.set k ⟨f.name,f.params,sl'⟩) tree (fun i hi=>?_) (by omega) h3 h4
  simp only[List.mem_cons,List.mem_append,List.not_mem_nil,or_false] at hi
  rcases hi with rfl|hi|(hi|hi)|hi
  ·omega
  ·have:=hI3 i (by simp[hi]);omega
  ·have:=hI3 i (by simp[hi]);omega
  ·exact hI' i hi
  ·have:=hI3 i (by simp[hi]);omega
 have hset:rowsF.set k [.p (.str f.name),A,B]=rowsF:=by
  apply List.ext_getElem?
  intro i
  by_cases hi:k=i
  ·subst hi;rw[List.getElem?_set_self (List.getElem?_eq_some_iff.1 r1).1,r1]
  ·rw[List.getElem?_set_ne hi]
 have hf2:2≤fF:=by omega
 have s0:∀x,(T.set 0 x)[0]?=some x:=fun x=>List.getElem?_set_self (by have:=(List.getElem?_eq_some_iff.1 t0).1;omega)
 have hbz:f.sz=1+f.name.length+(f.params.length+(f.params.map List.length).sum)+aC f.body:=rfl
 simp-implicitDefEqProofs[aa,t0,t1,tF,r1,hkl]
 have fin0:∀q' x,p≤q'→q'≤p+400500000→DP b (PgQ p 900000000 400500000) (.ret (.agg [.sl (fF+1) 3 0 l.length])) (rdO b q'::T.set 0 x):=fun q' x h3 h4=>
  finG (T.set 0 x) q' B IB f.body (fun i h1 _ _ _=>List.getElem?_set_ne (by omega)) (by rw[List.getElem?_set_ne (by omega),hset];exact tF) (oB.frame fun j hj=>by
   have:=hIB j hj
   obtain⟨i,rfl⟩:∃i,j=i+1:=⟨j-1,by omega⟩
   rw[List.getElem?_cons_succ,List.getElem?_cons_succ,List.getElem?_set_ne (by omega)]) (fun i hi=>by have:=hIB i hi;omega) (by omega) h3 h4
 rcases oB.inv nIB with⟨h0,_,rfl|rfl⟩|⟨h0,_⟩|⟨idB,rowsB,JB,rfl,rfl,hB⟩
 ·simp-implicitDefEqProofs[t0,t1,s0]
  exact fin0 _ _ (by omega) (by omega)
 ·simp-implicitDefEqProofs[t0,t1,s0]
  exact fin0 _ _ (by omega) (by omega)
 ·cases h0
 rw[List.length_map] at*
 by_cases hbe:f.body.length=0
 ·simp-implicitDefEqProofs[hbe,t0,t1,s0]
  have:=fin0 (q+1+1+1) (.row 1 [[.sl (fF+1) 3 0 l.length]]) (by omega) (by omega)
  exact this
 simp-implicitDefEqProofs[hbe,t0,t1,tF,r1]
 refine(aT G b hb hl (q+1+1+1) (by omega) f.body.length _).mono ?_
 rintro r h ⟨j,rfl,rfl,hj⟩
 have hjl:j<f.body.length:=by omega
 obtain⟨fB,rfl⟩:∃fB,idB=fB+1:=⟨idB-1,by have:=hIB idB (by simp);omega⟩
 have hB3:=hIB (fB+1) (by simp)
 have tB:T[fB]?=some (.row 5 rowsB):=hB.here
 have hgj:=List.getElem?_eq_getElem hjl
 have hzj:=eZ (List.getElem_mem hjl)
 have hok5:aI 4 f.body[j]=true:=by
  simp only[ir,Bool.and_eq_true] at hfk
  exact List.all_eq_true.1 hfk.2 _ (List.getElem_mem hjl)
 have hDj:(f.body.map Sm.cs)[j]?=some f.body[j].cs:=by rw[List.getElem?_map,hgj];rfl
 generalize f.body[j]=sm at hgj hzj hok5 hDj
 obtain⟨rB,K1,Kj,K2,u1,rfl,u2,u5⟩:=hB.own.put hB.len hB.rl hB.dl hDj
 obtain⟨A1,B1,E1,I1,I2,I3,rfl,rfl,oA1,oB1,oE1⟩:=Ei u2
 simp-implicitDefEqProofs[aa,hjl,t0,t1,tF,r1,tB,u1]
 refine(ud G hb hl (p:=q+1+1+1+1) (by omega) [[122,122],[97],[98],[99],[100]] (k:=T.length+1) (by simp) (by simp) (by omega) rfl (by simp[bx])).mono ?_
 rintro r h ⟨s,hs,rfl,rfl⟩
 have hs8:s.length≤8:=by simp at hs;rcases hs with rfl|rfl|rfl|rfl|rfl<;>simp
 have nB:=nIB
 rw[List.nodup_cons] at nB
 have finS:∀(U:List AO) (q':Nat) (o':Int) (nm':List UInt8) (A':AV) (I':List Nat) (ar':List Ex),(∀i,2≤i→i<T.length→i≠fB→i+1∉I1→U[i]?=T[i]?)→U[fB]?=some (.row 5 (rowsB.set j [.p (.int .i64 o'),.p (.str nm'),A',B1,E1]))→OwnL true (rdO b q'::U) [A'] [exL ar'] I'→(∀i∈I',1≤i)→
  aP ar'+nm'.length≤aP sm.args+sm.name.length+1000→p≤q'→q'≤p+400500000→DP b (PgQ p 900000000 400500000) (.ret (.agg [.sl (fF+1) 3 0 l.length])) (rdO b q'::U):=by
  intro U q' o' nm' A' I' ar' hU hUB oA' hI' hz' h3 h4
  have hmem:∀x∈K1++K2++I2++I3,x∈K1++(I1++(I2++I3)++K2):=fun x hx=>by
   simp only[List.mem_append] at hx⊢
   rcases hx with((hx|hx)|hx)|hx<;>simp[hx]
  have hltB:∀x∈K1++(I1++(I2++I3)++K2),x<T.length+1:=fun x hx=>by have:=hB.own.lt hx;simpa using this
  have hfr:∀x∈K1++K2++I2++I3,(rdO b q'::U)[x]?=(rdO b (q+1+1+1)::T)[x]?:=fun x hx=>by
   have hm:=hmem x hx
   have hx3:=hIB x (List.mem_cons_of_mem _ hm)
   have hxl:=hltB x hm
   obtain⟨i,rfl⟩:∃i,x=i+1:=⟨x-1,by omega⟩
   rw[List.getElem?_cons_succ,List.getElem?_cons_succ]
   refine hU i (by omega) (by omega) (fun e=>nB.1 (e▸hm)) fun hm1=>?_
   have hn:=nB.2
   simp only[List.nodup_append,List.mem_append] at hn
   obtain⟨n1,⟨⟨n2,⟨n3,n3',n3''⟩,n4⟩,n5,n6⟩,n7⟩:=hn
   simp only[List.mem_append] at hx
   rcases hx with((hx|hx)|hx)|hx
   ·exact n7 _ hx _ (.inl (.inl hm1)) rfl
   ·exact n6 _ (.inl hm1) _ hx rfl
   ·exact n4 _ hm1 _ (.inl hx) rfl
   ·exact n4 _ hm1 _ (.inr hx) rfl
  have oS:=Ee (s:=true) (o:=o') (w:=nm') oA' (oB1.frame fun i hi=>hfr i (by simp[hi])) (oE1.frame fun i hi=>hfr i (by simp[hi]))
  have oW:=u5 (rdO b q'::U) _ _ _ (fun x hx=>hfr x (by simp only[List.mem_append] at hx⊢;exact .inl (.inl hx))) oS
  have hD':(f.body.map Sm.cs).set j (Sm.mk o' nm' ar' sm.body sm.els).cs=(f.body.set j ⟨o',nm',ar',sm.body,sm.els⟩).map Sm.cs:=by rw[List.map_set]
  have tree:=OwnL.sl (s:=true) (h:=rdO b q'::U) (fB+1) 5 f.body.length (rowsB.set j [.p (.int .i64 o'),.p (.str nm'),A',B1,E1]) ((f.body.map Sm.cs).set j (Sm.mk o' nm' ar' sm.body sm.els).cs) hUB (by simp) (by have:=hB.len;simpa using this) (fun e he=>by
   rcases List.mem_or_eq_of_mem_set he with h|rfl
   ·exact hB.rl e h
   ·rfl) (fun e he=>by
   rcases List.mem_or_eq_of_mem_set he with h|rfl
   ·exact hB.dl e h
   ·exact Sm.cs_len _) oW .nil
  rw[hD'] at tree
  have hsz:=Bi (s:=⟨o',nm',ar',sm.body,sm.els⟩) hgj
  have hsm:=sm.sz_eq
  have hsm':(Sm.mk o' nm' ar' sm.body sm.els).sz=1+nm'.length+aP ar'+aC sm.body+aC sm.els:=rfl
  have hFB:fF≠fB:=fun e=>hn1 (by rw[e];simp)
  have hFI:fF+1∉I1:=fun hm=>hn1 (by simp[hm])
  have hFT:fF<T.length:=(List.getElem?_eq_some_iff.1 tF).1
  refine finG U q' (.sl (fB+1) 5 0 f.body.length) _ (f.body.set j ⟨o',nm',ar',sm.body,sm.els⟩) (fun i g1 g2 g3 g4=>hU i g1 g2 (fun e=>g4 (by rw[e];simp)) fun hm=>g4 (by simp[hm])) (by rw[hU fF hf2 hFT hFB hFI,hset];exact tF) tree (fun i hi=>?_) (by omega) h3 h4
  simp only[List.mem_cons,List.mem_append,List.not_mem_nil,or_false] at hi
  rcases hi with rfl|hi|(hi|hi|hi)|hi
  ·omega
  ·have:=hIB i (by simp[hi]);omega
  ·exact hI' i hi
  ·have:=hIB i (by simp[hi]);omega
  ·have:=hIB i (by simp[hi]);omega
  ·have:=hIB i (by simp[hi]);omega
 have hTl:2≤T.length:=by have:=(List.getElem?_eq_some_iff.1 t1).1;omega
 have hBT:fB<T.length:=(List.getElem?_eq_some_iff.1 tB).1
 have hI1:∀i∈I1,3≤i∧i<T.length+1:=fun i hi=>⟨hIB i (by simp[hi]),by have:=oA1.lt hi;simpa using this⟩
 have oA1u:∀(U:List AO) (q':Nat),(∀i,2≤i→i<T.length→i+1∈I1→U[i]?=T[i]?)→OwnL true (rdO b q'::U) [A1] [exL sm.args] I1:=fun U q' hU=>oA1.frame fun x hx=>by
  obtain⟨h3,h4⟩:=hI1 x hx
  obtain⟨i,rfl⟩:∃i,x=i+1:=⟨x-1,by omega⟩
  rw[List.getElem?_cons_succ,List.getElem?_cons_succ]
  exact hU i (by omega) (by omega) hx
 have hsmz:=sm.sz_eq
 have finU:∀(U:List AO) (q':Nat),(∀i,2≤i→i<T.length→U[i]?=T[i]?)→p≤q'→q'≤p+400500000→DP b (PgQ p 900000000 400500000) (.ret (.agg [.sl (fF+1) 3 0 l.length])) (rdO b q'::U):=fun U q' hU h3 h4=>
  finS U q' sm.op sm.name A1 I1 sm.args (fun i a1 a2 _ _=>hU i a1 a2) (by rw[hU fB (by omega) hBT,us u1];exact tB) (oA1u U q' fun i a1 a2 _=>hU i a1 a2) (fun i hi=>by have:=(hI1 i hi).1;omega) (by omega) h3 h4
 have a0:∀os,(T++os)[0]?=some (.row 1 [[.nils]]):=fun os=>by rw[List.getElem?_append_left (List.getElem?_eq_some_iff.1 t0).1];exact t0
 have a1:∀os,(T++os)[1]?=some (.row 1 [[.sl (fF+1) 3 0 l.length]]):=fun os=>by rw[List.getElem?_append_left (List.getElem?_eq_some_iff.1 t1).1];exact t1
 have aF:∀os,(T++os)[fF]?=some (.row 3 rowsF):=fun os=>by rw[List.getElem?_append_left (List.getElem?_eq_some_iff.1 tF).1];exact tF
 have aB:∀os,(T++os)[fB]?=some (.row 5 (rowsB)):=fun os=>by rw[List.getElem?_append_left (List.getElem?_eq_some_iff.1 tB).1];exact tB
 simp-implicitDefEqProofs[aa]
 refine(aT G b hb hl (q+1+1+1+1+1) (by omega) 4 _).mono ?_
 rintro r h ⟨k3,rfl,rfl,_⟩
 have nI1:I1.Nodup:=(List.nodup_append.1 (List.nodup_append.1 (List.nodup_append.1 nB.2).2.1).1).1
 have hargs:0<sm.args.length:=by
  simp only[aI,gB,Bool.and_eq_true,decide_eq_true_eq] at hok5
  have:=hok5.1.1.1.1.1.1.1.1.2
  rw[this];unfold iG;split<;>omega
 have hA0:sm.args.map Ex.cs≠[]:=by intro h;rw[List.map_eq_nil_iff] at h;rw[h] at hargs;simp at hargs
 obtain⟨idA,rowsA,JA,rfl,rfl,hA⟩:∃id rows J,A1= .sl id 4 0 sm.args.length∧I1=id::J∧RowOwn true (rdO b (q+1+1+1)::T) id 4 rows (sm.args.map Ex.cs) J:=by
  rcases oA1.inv nI1 with⟨h0,_⟩|⟨h0,_⟩|⟨id,rows,J,e1,e2,e3⟩
  ·exact absurd h0 hA0
  ·cases h0
  ·rw[List.length_map] at e1;exact⟨id,rows,J,e1,e2,e3⟩
 obtain⟨fA,rfl⟩:∃fA,idA=fA+1:=⟨idA-1,by have:=(hI1 idA (by simp)).1;omega⟩
 have hA3:=hI1 (fA+1) (by simp)
 have tA:T[fA]?=some (.row 4 rowsA):=hA.here
 have aA:∀os,(T++os)[fA]?=some (.row 4 rowsA):=fun os=>by rw[List.getElem?_append_left (by omega)];exact tA
 have hg0:=List.getElem?_eq_getElem hargs
 have hz0:=cf (List.getElem_mem hargs)
 have hD0:(sm.args.map Ex.cs)[0]?=some sm.args[0].cs:=by rw[List.getElem?_map,hg0];rfl
 generalize sm.args[0]=e0 at hg0 hz0 hD0
 obtain⟨r0,L1,L0,L2,g1,rfl,g3,g5⟩:=hA.own.put hA.len hA.rl hA.dl hD0
 obtain⟨K0,rfl,_⟩:=wL g3
 have nA:=nI1
 rw[List.nodup_cons] at nA
 have finA:∀(U:List AO) (q':Nat) (o n:Int) (w:List UInt8) (K:AV) (IK:List Nat) (ks:List Ex),(∀i,2≤i→i<T.length→i≠fA→U[i]?=T[i]?)→U[fA]?=some (.row 4 (rowsA.set 0 [.p (.int .i64 o),.p (.int .i64 n),.p (.str w),K]))→OwnL true (rdO b q'::U) [K] [exL ks] IK→(∀i∈IK,1≤i)→
  (Ex.mk o n w ks).sz≤500→p≤q'→q'≤p+400500000→DP b (PgQ p 900000000 400500000) (.ret (.agg [.sl (fF+1) 3 0 l.length])) (rdO b q'::U):=by
  intro U q' o n w K IK ks hU hUA oK hIK hz' h3 h4
  have hfr:∀x∈L1++L2,(rdO b q'::U)[x]?=(rdO b (q+1+1+1)::T)[x]?:=fun x hx=>by
   have hm:x∈L1++(L0++L2):=by
    simp only[List.mem_append] at hx⊢
    rcases hx with hx|hx
    ·exact .inl hx
    ·exact .inr (.inr hx)
   obtain⟨hx3,hx4⟩:=hI1 x (List.mem_cons_of_mem _ hm)
   obtain⟨i,rfl⟩:∃i,x=i+1:=⟨x-1,by omega⟩
   rw[List.getElem?_cons_succ,List.getElem?_cons_succ]
   exact hU i (by omega) (by omega) fun e=>nA.1 (e▸hm)
  have oW:=g5 (rdO b q'::U) _ _ _ hfr (AG (o:=o) (n:=n) (w:=w) oK)
  have hD':(sm.args.map Ex.cs).set 0 (Ex.mk o n w ks).cs=(sm.args.set 0 ⟨o,n,w,ks⟩).map Ex.cs:=by rw[List.map_set]
  have tree:=OwnL.sl (s:=true) (h:=rdO b q'::U) (fA+1) 4 sm.args.length (rowsA.set 0 [.p (.int .i64 o),.p (.int .i64 n),.p (.str w),K]) ((sm.args.map Ex.cs).set 0 (Ex.mk o n w ks).cs) hUA (by simp) (by have:=hA.len;simpa using this) (fun e he=>by
   rcases List.mem_or_eq_of_mem_set he with h|rfl
   ·exact hA.rl e h
   ·rfl) (fun e he=>by
   rcases List.mem_or_eq_of_mem_set he with h|rfl
   ·exact hA.dl e h
   ·exact Ex.cs_len _) oW .nil
  rw[hD'] at tree
  have hsz:=zR sm.args 0 ⟨o,n,w,ks⟩
  have hBA:fB≠fA:=fun e=>nB.1 (by rw[e];simp)
  refine finS U q' sm.op sm.name (.sl (fA+1) 4 0 sm.args.length) _ (sm.args.set 0 ⟨o,n,w,ks⟩) (fun i g1 g2 _ g4=>hU i g1 g2 fun e=>g4 (by rw[e];simp)) (by rw[hU fB (by omega) hBT hBA,us u1];exact tB) tree (fun i hi=>?_) (by omega) h3 h4
  simp only[List.mem_cons,List.mem_append,List.not_mem_nil,or_false] at hi
  rcases hi with rfl|hi|hi|hi
  ·omega
  ·have:=(hI1 i (by simp[hi])).1;omega
  ·exact hIK i hi
  ·have:=(hI1 i (by simp[hi])).1;omega
 have w0:∀os x,((T++os).set 0 x)[0]?=some x:=fun os x=>List.getElem?_set_self (by simp only[List.length_append];omega)
 have v0:∀os x,((T++os).set fA x)[0]?=some (.row 1 [[.nils]]):=fun os x=>by rw[List.getElem?_set_ne (by omega)];exact a0 os
 have v1:∀os x,((T++os).set fA x)[1]?=some (.row 1 [[.sl (fF+1) 3 0 l.length]]):=fun os x=>by rw[List.getElem?_set_ne (by omega)];exact a1 os
 have v2:∀os x y,(((T++os).set fA x).set 0 y)[0]?=some y:=fun os x y=>List.getElem?_set_self (by simp only[List.length_set,List.length_append];omega)
 have hv:∀os x y (i:Nat),2≤i→i<T.length→i≠fA→(((T++os).set fA x).set 0 y)[i]?=T[i]?:=fun os x y i h1 h2 h3=>by
  rw[List.getElem?_set_ne (by omega),List.getElem?_set_ne (by omega),List.getElem?_append_left h2]
 have aE:∀x y os,(T++x::y::os)[T.length+1]?=some y:=fun x y os=>by rw[List.getElem?_append_right (by omega),Nat.add_sub_cancel_left];rfl
 have aE2:∀x y z os,(T++x::y::os).set (T.length+1) z=T++x::z::os:=fun x y z os=>by rw[List.set_append_right _ _ (by omega),Nat.add_sub_cancel_left];rfl
 by_cases c1:k3=1
 ·subst c1
  simp-implicitDefEqProofs[aa, ↓a0, ↓a1, ↓aF, ↓aB,u1,hjl]
  refine bc (fun hn=>?_) (fun hn=>?_)
  ·simp-implicitDefEqProofs[]
   refine(ud G hb hl (p:=q+1+1+1+1+1+1) (by omega) [[97],[98],[122,122],[99],[100]] (k:=T.length+2+1) (by simp) (by simp) (by omega) rfl (by simp[bx])).mono ?_
   rintro r h ⟨s2,hs2,rfl,rfl⟩
   have hs28:s2.length≤8:=by simp at hs2;rcases hs2 with rfl|rfl|rfl|rfl|rfl<;>simp
   have v0:∀os x,((T++os).set fB x)[0]?=some (.row 1 [[.nils]]):=fun os x=>by rw[List.getElem?_set_ne (by omega)];exact a0 os
   have v1:∀os x,((T++os).set fB x)[1]?=some (.row 1 [[.sl (fF+1) 3 0 l.length]]):=fun os x=>by rw[List.getElem?_set_ne (by omega)];exact a1 os
   have v2:∀os x y,(((T++os).set fB x).set 0 y)[0]?=some y:=fun os x y=>List.getElem?_set_self (by simp only[List.length_set,List.length_append];omega)
   simp-implicitDefEqProofs[aa, ↓a0, ↓a1, ↓aF, ↓aB,u1,hjl, ↓v0, ↓v1, ↓v2,-getElem?_pos,List.getElem?_cons_zero,List.getElem?_cons_succ]
   have hv:∀os x y (i:Nat),2≤i→i<T.length→i≠fB→(((T++os).set fB x).set 0 y)[i]?=T[i]?:=fun os x y i h1 h2 h3=>by
    rw[List.getElem?_set_ne (by omega),List.getElem?_set_ne (by omega),List.getElem?_append_left h2]
   refine finS _ _ sm.op s2 (.sl (fA+1) 4 0 sm.args.length) _ sm.args ?_ ?_ (oA1u _ _ ?_) (fun i hi=>by have:=(hI1 i hi).1;omega) (by omega) (by omega) (by omega)
   ·intro i h1 h2 h3 _;exact hv _ _ _ i h1 h2 h3
   ·rw[List.getElem?_set_ne (by omega),List.getElem?_set_self (by simp only[List.length_append];omega)]
   ·intro i h1 h2 h3
    exact hv _ _ _ i h1 h2 (fun e=>nB.1 (by rw[←e];simp only[List.mem_append];exact .inr (.inl (.inl h3))))
  ·simp-implicitDefEqProofs[↓a0, ↓a1, ↓w0,-getElem?_pos,List.getElem?_cons_zero,List.getElem?_cons_succ]
   refine finU _ _ ?_ (by omega) (by omega)
   intro i h1 h2
   rw[List.getElem?_set_ne (by omega),List.getElem?_append_left h2]
 by_cases c2:k3=2
 ·subst c2
  have hw:∀(q':Nat) (os:List AO),OwnL true (rdO b q'::(T++os)) [.sl (fB+1) 5 0 f.body.length] [smL f.body] ((fB+1)::(K1++(((fA+1)::(L1++(L0++L2)))++(I2++I3)++K2))):=fun q' os=>oB.frame fun x hx=>by
   have h3:=hIB x hx
   have h4:x<T.length+1:=by have:=oB.lt hx;simpa using this
   obtain⟨i,rfl⟩:∃i,x=i+1:=⟨x-1,by omega⟩
   rw[List.getElem?_cons_succ,List.getElem?_cons_succ,List.getElem?_append_left (by omega)]
  have hv1:∀(q':Nat) (os:List AO),View (rdO b q'::(T++os)) (.sl (fB+1) 5 0 1) (smL (f.body.take 1)):=fun q' os=>by
   have:=Bt (m:=1) ((hw q' os).view 0 _ _ rfl rfl) (by simp;omega)
   rw[←List.map_take] at this
   exact this
  have hz1:aC (f.body.take 1)≤aC f.body:=by
   have e:f.body=f.body.take 1++f.body.drop 1:=(List.take_append_drop _ _).symm
   have:aC f.body=aC (f.body.take 1)+aC (f.body.drop 1):=by rw[←bi,←e]
   omega
  have hS:=ss G _ (f.body.take 1) (Nat.lt_succ_self _) (by omega)
  simp-implicitDefEqProofs[aa, ↓a0, ↓a1, ↓aF, ↓aB,r1,hkl]
  refine⟨by omega,?_⟩
  refine(AC.mkLend nO hS (.one (hv1 _ _) .nil)).mono ?_
  rintro r h ⟨vs,IN,os2,rfl,rfl,oN,nN,hN⟩
  obtain⟨vN,rfl⟩:=eD oN
  have hl1:(f.body.take 1).length=1:=by rw[List.length_take];omega
  have hneN:(f.body.take 1).map Sm.cs≠[]:=by intro h;rw[List.map_eq_nil_iff] at h;rw[h] at hl1;simp at hl1
  obtain⟨idN,rowsN,JN,rfl,rfl,hRN⟩:∃id rows J,vN= .sl id 5 0 1∧IN=id::J∧RowOwn true _ id 5 rows ((f.body.take 1).map Sm.cs) J:=by
   rcases oN.inv nN with⟨h0,_⟩|⟨h0,_⟩|⟨id,rows,J,e1,e2,e3⟩
   ·exact absurd h0 hneN
   ·cases h0
   ·rw[List.length_map,hl1] at e1;exact⟨id,rows,J,e1,e2,e3⟩
  have hidN:=hN idN (by simp)
  simp at hidN
  obtain⟨fN,rfl⟩:∃fN,idN=fN+1:=⟨idN-1,by omega⟩
  have hFT:fF<T.length:=(List.getElem?_eq_some_iff.1 tF).1
  have tN:=hRN.here
  simp only[List.cons_append,List.append_assoc,List.getElem?_cons_succ,List.nil_append] at tN
  have hrN:rowsN.length=1:=by have:=hRN.len;rw[List.length_map,hl1] at this;exact this
  have hrB:rowsB.length=f.body.length:=by have:=hB.len;simpa using this
  have z1:∀os o y,((T++os).set fB o++y)[fF]?=some (.row 3 rowsF):=fun os o y=>by
   rw[List.getElem?_append_left (by simp only[List.length_set,List.length_append];omega),List.getElem?_set_ne (fun e=>hn1 (by rw[←e];simp))];exact aF os
  have z2:∀os o y x,(((T++os).set fB o++y).set fF x)[0]?=some (.row 1 [[.nils]]):=fun os o y x=>by
   rw[List.getElem?_set_ne (by omega),List.getElem?_append_left (by simp only[List.length_set,List.length_append];omega),List.getElem?_set_ne (by omega)];exact a0 os
  have z3:∀os o y x,(((T++os).set fB o++y).set fF x)[1]?=some (.row 1 [[.sl (fF+1) 3 0 l.length]]):=fun os o y x=>by
   rw[List.getElem?_set_ne (by omega),List.getElem?_append_left (by simp only[List.length_set,List.length_append];omega),List.getElem?_set_ne (by omega)];exact a1 os
  have z4:∀os o y x w,((((T++os).set fB o++y).set fF x).set 0 w)[0]?=some w:=fun os o y x w=>List.getElem?_set_self (by simp only[List.length_set,List.length_append];omega)
  simp-implicitDefEqProofs[aa,one, ↓a0, ↓a1, ↓aF, ↓aB, ↓tN, ↓z1, ↓z2, ↓z3, ↓z4,r1,hkl,hrN,hrB,-getElem?_pos,List.getElem?_cons_zero,List.getElem?_cons_succ]
  rw[List.take_of_length_le (l:=rowsB) (by omega),List.take_of_length_le (l:=rowsN) (by omega)]
  have hbl:=bO f.body
  refine⟨⟨by omega,by omega⟩,?_⟩
  have hJB:∀x∈K1++(((fA+1)::(L1++(L0++L2)))++(I2++I3)++K2),3≤x∧x<T.length+1∧x≠fF+1∧x≠fB+1:=fun x hx=>⟨hIB x (List.mem_cons_of_mem _ hx),by have:=hB.own.lt hx;simpa using this,fun e=>hn1 (by rw[←e];simp only[List.mem_append];exact .inr (.inl (.inr (List.mem_cons_of_mem _ hx)))),fun e=>nB.1 (e▸hx)⟩
  have hJN:∀x∈JN,T.length+3≤x∧x<T.length+3+os2.length:=fun x hx=>⟨by have:=hN x (by simp[hx]);simp at this;omega,by have:=hRN.own.lt hx;simp at this;omega⟩
  have nle:∀(W:List AO) (fo bo:AO) (x y:AO),∀i,2≤i→i<T.length→i≠fF→i≠fB→(((((T++W).set fB bo)++[y]).set fF fo).set 0 x)[i]?=T[i]?:=fun W fo bo x y i h1 h2 h3 h4=>by
   rw[List.getElem?_set_ne (by omega),List.getElem?_set_ne (by omega),List.getElem?_append_left (by simp only[List.length_set,List.length_append];omega),List.getElem?_set_ne (by omega),List.getElem?_append_left h2]
  have nri:∀(W:List AO) (fo bo:AO) (x y:AO),∀i,T.length≤i→i<(T++W).length→(((((T++W).set fB bo)++[y]).set fF fo).set 0 x)[i]?=(T++W)[i]?:=fun W fo bo x y i h1 h2=>by
   rw[List.getElem?_set_ne (by omega),List.getElem?_set_ne (by omega),List.getElem?_append_left (by simpa using h2),List.getElem?_set_ne (by omega)]
  have hbl2:=bO f.body
  have hzN:aC (f.body++f.body.take 1)≤400000000:=by rw[bi];omega
  refine finG _ _ (.sl (T.length+(os2.length+1+1)+1) 5 0 (f.body.length+1)) ((T.length+(os2.length+1+1)+1)::((K1++(((fA+1)::(L1++(L0++L2)))++(I2++I3)++K2))++JN++[])) (f.body++f.body.take 1) (fun i g1 g2 g3 g4=>nle _ _ _ _ _ i g1 g2 g3 (fun e=>g4 (by rw[e];simp))) ?_ ?_ ?_ (by omega) (by omega) (by omega)
  ·rw[List.getElem?_set_ne (by omega),List.getElem?_set_self (by simp only[List.length_set,List.length_append];omega)]
  ·refine OwnL.sl _ 5 (f.body.length+1) (rowsB++rowsN) ((f.body++f.body.take 1).map Sm.cs) ?_ (by rw[List.length_map,List.length_append,hl1]) (by rw[List.length_append,List.length_map,List.length_append,hl1,hrB,hrN]) (fun e he=>?_) (fun e he=>by obtain⟨x,_,rfl⟩:=List.mem_map.1 he;simp) ?_ .nil
   ·rw[List.getElem?_cons_succ,List.getElem?_set_ne (by omega),List.getElem?_set_ne (by omega),List.getElem?_append_right (by simp)]
    simp
   ·rcases List.mem_append.1 he with h|h
    ·exact hB.rl e h
    ·exact hRN.rl e h
   ·rw[List.map_append,List.flatten_append,List.flatten_append]
    refine(hB.own.frame fun x hx=>?_).app (hRN.own.frame fun x hx=>?_)
    ·obtain⟨x1,x2,x3,x4⟩:=hJB x hx
     obtain⟨i,rfl⟩:∃i,x=i+1:=⟨x-1,by omega⟩
     rw[List.getElem?_cons_succ,List.getElem?_cons_succ]
     exact nle _ _ _ _ _ i (by omega) (by omega) (by omega) (by omega)
    ·obtain⟨x1,x2⟩:=hJN x hx
     obtain⟨i,rfl⟩:∃i,x=i+1:=⟨x-1,by omega⟩
     simp only[List.cons_append,List.append_assoc,List.getElem?_cons_succ,List.nil_append]
     exact nri _ _ _ _ _ i (by omega) (by simp;omega)
  ·intro i hi
   simp only[List.mem_cons,List.mem_append,List.not_mem_nil,or_false] at hi
   rcases hi with rfl|hi|hi
   ·omega
   ·have:=(hJB i (by simp only[List.mem_cons,List.mem_append];exact hi)).1;omega
   ·have:=(hJN i hi).1;omega
 by_cases c0:k3=0
 ·subst c0
  simp-implicitDefEqProofs[aa]
  refine(ud G hb hl (p:=q+1+1+1+1+1+1) (by omega) [[102],[103],[109],[113]] (k:=T.length+2+1) (by simp) (by simp) (by omega) rfl (by simp[bx])).mono ?_
  rintro r h ⟨s2,hs2,rfl,rfl⟩
  have hs28:s2.length≤8:=by simp at hs2;rcases hs2 with rfl|rfl|rfl|rfl<;>simp
  simp-implicitDefEqProofs[aa, ↓a0, ↓a1, ↓aB,u1,hjl, ↓aE, ↓aE2,-getElem?_pos,List.getElem?_cons_zero,List.getElem?_cons_succ]
  refine bc (fun hn=>?_) (fun hn=>?_)
  ·simp-implicitDefEqProofs[↓a0, ↓a1, ↓aB, ↓aA,u1,hjl,g1,hargs, ↓v0, ↓v1, ↓v2, ↓aE,-getElem?_pos,List.getElem?_cons_zero,List.getElem?_cons_succ]
   refine finA _ _ 13 0 s2 (.sl (T.length+3+1) 4 0 1) [T.length+3+1] [⟨1,1,[],[]⟩] (fun i h1 h2 h3=>hv _ _ _ i h1 h2 h3) ?_ ?_ (by simp) (by simp[Ex.sz,aP];omega) (by omega) (by omega)
   ·rw[List.getElem?_set_ne (by omega),List.getElem?_set_self (by simp only[List.length_append];omega)]
   ·refine RowOwn.tree (rows:=[[.p (.int .i64 1),.p (.int .i64 1),.p (.str []),.nils]]) (J:=[]) ⟨?_,rfl,by simp,by simp,?_,by simp⟩ rfl
    ·rw[List.getElem?_cons_succ,List.getElem?_set_ne (by omega),List.getElem?_set_ne (by omega),List.getElem?_append_right (by omega),Nat.add_sub_cancel_left];rfl
    ·simpa using AG (s:=true) (o:=1) (n:=1) (w:=[]) (k:=[]) (.nils 4 .nil)
  ·simp-implicitDefEqProofs[↓a0, ↓a1, ↓w0,-getElem?_pos,List.getElem?_cons_zero,List.getElem?_cons_succ]
   refine finU _ _ ?_ (by omega) (by omega)
   intro i h1 h2
   rw[List.getElem?_set_ne (by omega),List.getElem?_append_left h2]
 have d1:¬(k3:Int)=1:=by omega
 have d2:¬(k3:Int)=2:=by omega
 simp-implicitDefEqProofs[aa,c0,d1,d2, ↓a0, ↓a1, ↓aF, ↓aB,u1,hjl]
 refine bc (fun hn=>?_) (fun hn=>?_)
 ·simp-implicitDefEqProofs[↓a0, ↓a1, ↓aB, ↓aA,u1,hjl,g1,hargs, ↓v0, ↓v1, ↓v2, ↓aE,-getElem?_pos,List.getElem?_cons_zero,List.getElem?_cons_succ]
  refine finA _ _ 2 0 s .nils [] [] (fun i h1 h2 h3=>hv _ _ _ i h1 h2 h3) ?_ (.nils 4 .nil) (by simp) (by simp[Ex.sz,aP];omega) (by omega) (by omega)
  rw[List.getElem?_set_ne (by omega),List.getElem?_set_self (by simp only[List.length_append];omega)]
 ·simp-implicitDefEqProofs[↓a0, ↓a1, ↓w0,-getElem?_pos,List.getElem?_cons_zero,List.getElem?_cons_succ]
  refine finU _ _ ?_ (by omega) (by omega)
  intro i h1 h2
  rw[List.getElem?_set_ne (by omega),List.getElem?_append_left h2]
end Go.Proofs.YtiojgfhdcpppcaaDoor
namespace Go.Proofs.YtiojgfhdcpppcaaDoor
open Go Go.Aw
set_option maxRecDepth 100000
set_option maxHeartbeats 4000000
variable (G:aG)
theorem AT{ρ:List Nat}:∀{args:List AV},ah 0 args→TW ρ args args
 |[],_=>trivial
 |v::r,h=>⟨.inr ⟨(aW (Nat.zero_le _) [v] ⟨h.1,trivial⟩).1,by have:=cN ρ [v] ⟨h.1,trivial⟩;simpa[aX] using this⟩,AT h.2⟩
theorem Ce{f:FuncId}{args:List AV}{b:List Int}{p:Nat}{Q:AV→Nat→Prop}(H:AC Tryd.prog G f (.ptr 0 2 0 0::args) [rdO b p] fun x h=>∃v q,x= .ret v∧h=[rdO b q]∧Q v q)(hq:∀v q,Q v q→below 0 v){h:List AO}{k:Nat}(hk:h[k]?=some (rdO b p))(ha:ah 0 args):
 AC Tryd.prog G f (.ptr k 2 0 0::args) h fun x h'=>∃v q,x= .ret v∧h'=h.set k (rdO b q)∧Q v q:=by
 refine(H.frame (h:=h) (args:= .ptr k 2 0 0::args) [k] (by simp) ⟨.inr ⟨by simp[below],by simp[ren]⟩,AT ha⟩ (bn hk (aZ _ _ _) bm)).mono ?_
 rintro x h' ⟨x0,h0,⟨v,q,rfl,rfl,r⟩,hl,rfl,rfl⟩
 refine⟨v,q,?_,?_,r⟩
 ·simp only[rc]
  have:=cN ([k]++List.range' h.length ([rdO b q].length-[rdO b p].length)) [v] ⟨hq v q r,trivial⟩
  simpa[aX] using this
 ·have hp2:∀σ,eC σ (rdO b q)=rdO b q:=fun σ=>by simp[rdO,eC,aX,ren]
  simp[mrg,hp2]
theorem Aa{l:List Int}(h:Byt l)(n:Nat):Byt (l.take n):=fun x hx=>h x (List.mem_of_mem_take hx)
theorem uQ{f:FuncId}{args:List AV}{R:ARes→Prop}(H:AC Tryd.prog G f args [] fun x _=>R x)(hR:∀x,R x→∃v,x= .ret v∧below 0 v)(ha:ah 0 args)(h:List AO):AC Tryd.prog G f args h fun x h'=>R x∧h'=h:=by
 have H2:AC Tryd.prog G f args [] fun x h'=>R x∧h'=[]:=by
  refine H.wk (fun t v h' r=>by obtain⟨_,e,_⟩:=hR _ r;cases e) fun v h' r=>?_
  obtain⟨v',e,hv⟩:=hR _ r
  cases e
  exact⟨v,[],zT rfl ⟨.inr ⟨hv,rfl⟩,trivial⟩,r,rfl⟩
 refine(H2.pre h ha (fun o ho=>by cases ho) (fun x h' r=>by rw[r.2])).mono ?_
 rintro x h' ⟨h1,⟨r,rfl⟩,rfl⟩
 exact⟨r,rfl⟩
variable (hK:G iW=some gm) (hS:G gR=some [.tbl opK opV])
include hK hS
end Go.Proofs.YtiojgfhdcpppcaaDoor
namespace Go.Proofs.YtiojgfhdcpppcaaDoor
open Go Go.Aw
set_option maxRecDepth 100000
abbrev fP:FuncId:=34
abbrev cb:FuncId:=14
abbrev kH:FuncId:=36
abbrev dr:FuncId:=67
abbrev gn:FuncId:=37
abbrev bY:FuncId:=15
def lC:FK:=⟨6,[.t 2],
 .seq (.reg [oJ 1 (.box 1 (.t 0)),
  oJ 2 (.mov (.c (.p (.bool false))))])
 (.seq (.reg [oJ 3 (.ld (some 1) (.t 1)),
   oJ 4 (.call dS [(.t 3)]),
   oJ 5 (.bin .eql (.t 4) (.c (.p (.int .i64 0)))),
   oM 2 5])
 (.ret))⟩
theorem rY:al Tryd.prog fP=some lC:=by kernel_rfl
def jr:FK:=⟨28,[.t 4],
 .seq (.reg [oJ 2 (.box 1 (.t 0)),
  oK 4 0])
 (.seq (.seq (.reg [oJ 8 (.ld (some 1) (.t 2)),
   oJ 9 (.call fP [(.t 8)]),
   oJ 10 (.not (.t 9)),
   oM 11 10,
   ⟨(some 12),some (11,false),.mov (.t 1)⟩,
   ⟨(some 13),some (11,false),.fldA 0 (.t 2)⟩,
   ⟨(some 14),some (11,false),.ld none (.t 13)⟩,
   ⟨(some 15),some (11,false),.len false (.t 14)⟩,
   ⟨(some 16),some (11,false),.bin .sub (.t 15) (.c (.p (.int .i64 1)))⟩,
   ⟨(some 17),some (11,false),.call bp [(.t 12),(.c (.p (.int .i64 0))),(.t 16)]⟩,
   ⟨(some 18),some (11,false),.not (.t 17)⟩,
   oJ 19 (.pick (.t 11) (.c (.p (.bool true))) (.t 18))])
 (.cond (.t 19)
  (.seq (.reg [oJ 4 (.mov (.c (.p (.int .i64 (-1)))))])
  (.ret))
  (.skip)))
 (.seq (.reg [oJ 21 (.ld (some 1) (.t 2)),
   oM 22 1,
   oJ 23 (.call gb [(.t 21),(.t 22)]),
   oM 20 23,
   oJ 24 (.ext 0 (.t 20)),
   oJ 25 (.ext 1 (.t 20)),
   oJ 26 (.ext 2 (.t 20)),
   oJ 5 (.alloc [(.p (.str [])),.nils,.nils]),
   ⟨none,none,.st 3 (.t 5) (.t 24)⟩,
   oM 6 25,
   oM 7 26])
 (.seq (.reg [oM 27 7,
   oM 4 27])
 (.ret))))⟩
theorem oD:al Tryd.prog cb=some jr:=by kernel_rfl
def oQ:FK:=⟨6,[.t 2],
 .seq (.reg [oJ 1 (.box 1 (.t 0)),
  oJ 2 (.mov (.c (.p (.bool false))))])
 (.seq (.reg [oJ 3 (.ld (some 1) (.t 1)),
   oJ 4 (.call bS [(.t 3)]),
   oJ 5 (.bin .eql (.t 4) (.c (.p (.int .i64 0)))),
   oM 2 5])
 (.ret))⟩
theorem tP:al Tryd.prog kH=some oQ:=by kernel_rfl
def eJ:FK:=⟨10,[],
 .seq (.reg [oJ 3 (.box 5 (.t 0))])
 (.seq (.reg [oF 5 0 3,
   oL 6 5,
   oJ 7 (.bin .eql (.t 6) (.c (.p (.int .i64 1))))])
 (.cond (.t 7)
  (.reg [oL 8 2,
    oJ 9 (.bin .add (.t 8) (.c (.p (.int .i64 1)))),
    oS 2 9])
  (.skip)))⟩
theorem mV:al Tryd.prog dr=some eJ:=by kernel_rfl
def jN:FK:=⟨12,[.t 2],
 .seq (.reg [oJ 1 (.box 3 (.t 0)),
  oK 2 0])
 (.seq (.reg [oF 4 1 1,
   oL 5 4,
   oJ 6 (.len false (.t 5)),
   oJ 3 (.alloc [(.p (.int .i64 0))]),
   oS 3 6])
 (.seq (.reg [oF 7 2 1,
   oL 8 7,
   oJ 9 (.mkf (.func dr) [(.t 3)]),
   oJ 10 (.call dJ [(.t 8),(.c (.p (.int .i64 1))),(.t 9)])])
 (.seq (.reg [oL 11 3,
   oM 2 11])
 (.ret))))⟩
theorem pt:al Tryd.prog gn=some jN:=by kernel_rfl
def je:FK:=⟨23,[.t 4],
 .seq (.reg [oJ 2 (.box 1 (.t 0)),
  oK 4 0])
 (.seq (.seq (.reg [oJ 5 (.ld (some 1) (.t 2)),
   oJ 6 (.call kH [(.t 5)]),
   oJ 7 (.not (.t 6)),
   oM 8 7,
   ⟨(some 9),some (8,false),.mov (.t 1)⟩,
   ⟨(some 10),some (8,false),.fldA 0 (.t 2)⟩,
   ⟨(some 11),some (8,false),.ld none (.t 10)⟩,
   ⟨(some 12),some (8,false),.len false (.t 11)⟩,
   ⟨(some 13),some (8,false),.bin .sub (.t 12) (.c (.p (.int .i64 1)))⟩,
   ⟨(some 14),some (8,false),.call bX [(.t 9),(.c (.p (.int .i64 0))),(.t 13)]⟩,
   ⟨(some 15),some (8,false),.not (.t 14)⟩,
   oJ 16 (.pick (.t 8) (.c (.p (.bool true))) (.t 15))])
 (.cond (.t 16)
  (.seq (.reg [oJ 4 (.mov (.c (.p (.int .i64 (-1)))))])
  (.ret))
  (.skip)))
 (.seq (.reg [oF 17 0 2,
   oL 18 17,
   oM 19 1,
   oJ 20 (.idxS 3 (.t 18) (.t 19)),
   oJ 21 (.ld (some 3) (.t 20)),
   oJ 22 (.call gn [(.t 21)]),
   oM 4 22])
 (.ret)))⟩
theorem nQ:al Tryd.prog bY=some je:=by kernel_rfl
end Go.Proofs.YtiojgfhdcpppcaaDoor
namespace Go.Proofs.YtiojgfhdcpppcaaDoor
open Go Go.Aw
set_option maxRecDepth 100000
abbrev fe:FuncId:=107
abbrev cQ:FuncId:=118
abbrev dx:FuncId:=106
abbrev ef:FuncId:=94
abbrev cZ:FuncId:=68
abbrev dP:FuncId:=38
abbrev cz:FuncId:=16
abbrev io:FuncId:=6
def mR:FK:=⟨18,[.t 4],
 .seq (.reg [oJ 4 (.mov (.c (.p (.bool false))))])
 (.seq (.seq (.reg [oK 5 0])
 (.blk 0 (.loop (.seq (.seq (.reg [oM 6 5,
   oM 7 0,
   oJ 8 (.len false (.t 7)),
   oJ 9 (.bin .lss (.t 6) (.t 8))])
 (.cond (.t 9)
  (.skip)
  (.exit 0)))
 (.seq (.blk 1 (.seq (.reg [oM 12 0,
   oM 13 5,
   oJ 14 (.idxS 1 (.t 12) (.t 13)),
   oL 15 14,
   oM 16 1,
   oJ 17 (.bins .eql (.t 15) (.t 16))])
 (.cond (.t 17)
  (.seq (.reg [oJ 4 (.mov (.c (.p (.bool true))))])
  (.ret))
  (.skip))))
 (.reg [oM 10 5,
   oJ 11 (.bin .add (.t 10) (.c (.p (.int .i64 1)))),
   oM 5 11]))))))
 (.seq (.reg [oJ 4 (.mov (.c (.p (.bool false))))])
 (.ret)))⟩
theorem tn:al Tryd.prog fe=some mR:=by kernel_rfl
def F_spec_l2Names:FK:=⟨40,[.t 6],
 .seq (.reg [oJ 3 (.box 4 (.t 0)),
  oJ 6 (.mov (.c .nils))])
 (.seq (.seq (.reg [oF 8 0 3,
   oL 9 8,
   oM 10 1,
   oJ 11 (.bin .eql (.t 9) (.t 10)),
   oM 12 11,
   ⟨(some 13),some (12,true),.mov (.t 2)⟩,
   ⟨(some 14),some (12,true),.fldA 2 (.t 3)⟩,
   ⟨(some 15),some (12,true),.ld none (.t 14)⟩,
   ⟨(some 16),some (12,true),.call fe [(.t 13),(.t 15)]⟩,
   ⟨(some 17),some (12,true),.not (.t 16)⟩,
   oJ 18 (.pick (.t 12) (.t 17) (.c (.p (.bool false))))])
 (.cond (.t 18)
  (.reg [oM 19 2,
    oF 20 2 3,
    oL 21 20,
    oJ 22 (.bsl 1 [(.p (.str []))] 1 [(0,1,(.t 21))]),
    oJ 23 (.app 1 16 (.t 19) (.t 22)),
    oM 2 23])
  (.skip)))
 (.seq (.seq (.reg [oK 7 0])
 (.blk 0 (.loop (.seq (.seq (.reg [oM 24 7,
   oF 25 3 3,
   oL 26 25,
   oJ 27 (.len false (.t 26)),
   oJ 28 (.bin .lss (.t 24) (.t 27))])
 (.cond (.t 28)
  (.skip)
  (.exit 0)))
 (.seq (.blk 1 (.reg [oF 31 3 3,
   oL 32 31,
   oM 33 7,
   oJ 34 (.idxS 4 (.t 32) (.t 33)),
   oJ 35 (.ld (some 4) (.t 34)),
   oM 36 1,
   oM 37 2,
   oJ 38 (.call cQ [(.t 35),(.t 36),(.t 37)]),
   oM 2 38]))
 (.reg [oM 29 7,
   oJ 30 (.bin .add (.t 29) (.c (.p (.int .i64 1)))),
   oM 7 30]))))))
 (.seq (.reg [oM 39 2,
   oM 6 39])
 (.ret))))⟩
theorem rd:al Tryd.prog cQ=some F_spec_l2Names:=by kernel_rfl
def kx:FK:=⟨47,[.t 4],
 .seq (.reg [oJ 4 (.mov (.c .nils))])
 (.seq (.seq (.reg [oK 5 0])
 (.blk 0 (.loop (.seq (.seq (.reg [oM 7 5,
   oM 8 0,
   oJ 9 (.len false (.t 8)),
   oJ 10 (.bin .lss (.t 7) (.t 9))])
 (.cond (.t 10)
  (.skip)
  (.exit 0)))
 (.seq (.blk 1 (.seq (.seq (.reg [oK 6 0])
 (.blk 2 (.loop (.seq (.seq (.reg [oM 13 6,
   oM 14 0,
   oM 15 5,
   oJ 16 (.idxS 5 (.t 14) (.t 15)),
   oF 17 2 16,
   oL 18 17,
   oJ 19 (.len false (.t 18)),
   oJ 20 (.bin .lss (.t 13) (.t 19))])
 (.cond (.t 20)
  (.skip)
  (.exit 2)))
 (.seq (.blk 3 (.reg [oM 23 0,
   oM 24 5,
   oJ 25 (.idxS 5 (.t 23) (.t 24)),
   oF 26 2 25,
   oL 27 26,
   oM 28 6,
   oJ 29 (.idxS 4 (.t 27) (.t 28)),
   oJ 30 (.ld (some 4) (.t 29)),
   oM 31 1,
   oJ 32 (.call cQ [(.t 30),(.c (.p (.int .i64 13))),(.t 31)]),
   oM 1 32]))
 (.reg [oM 21 6,
   oJ 22 (.bin .add (.t 21) (.c (.p (.int .i64 1)))),
   oM 6 22]))))))
 (.reg [oM 33 0,
   oM 34 5,
   oJ 35 (.idxS 5 (.t 33) (.t 34)),
   oF 36 4 35,
   oM 38 0,
   oM 39 5,
   oJ 40 (.idxS 5 (.t 38) (.t 39)),
   oF 41 3 40,
   oM 43 1,
   oL 37 36,
   oL 42 41,
   oJ 44 (.call dx [(.t 42),(.t 43)]),
   ⟨none,none,.chk none 36 37⟩,
   oJ 45 (.call dx [(.t 37),(.t 44)]),
   oM 1 45])))
 (.reg [oM 11 5,
   oJ 12 (.bin .add (.t 11) (.c (.p (.int .i64 1)))),
   oM 5 12]))))))
 (.seq (.reg [oM 46 1,
   oM 4 46])
 (.ret)))⟩
theorem rj:al Tryd.prog dx=some kx:=by kernel_rfl
def jO:FK:=⟨35,[.t 4],
 .seq (.reg [oJ 2 (.box 1 (.t 0)),
  oJ 4 (.mov (.c .nils))])
 (.seq (.reg [oF 8 0 2,
   oL 9 8,
   oM 10 1,
   oJ 11 (.idxS 3 (.t 9) (.t 10)),
   oF 12 2 11,
   oL 13 12,
   oJ 14 (.bsl 1 [(.p (.str []))] 0 []),
   oJ 15 (.call dx [(.t 13),(.t 14)]),
   oM 5 15])
 (.seq (.reg [oJ 16 (.bsl 1 [(.p (.int .i64 0))] 0 []),
   oM 6 16])
 (.seq (.seq (.reg [oK 7 0])
 (.blk 0 (.loop (.seq (.seq (.reg [oM 17 7,
   oM 18 1,
   oJ 19 (.bin .lss (.t 17) (.t 18))])
 (.cond (.t 19)
  (.skip)
  (.exit 0)))
 (.seq (.blk 1 (.seq (.reg [oM 22 5,
   oF 23 0 2,
   oL 24 23,
   oM 25 7,
   oJ 26 (.idxS 3 (.t 24) (.t 25)),
   oF 27 0 26,
   oL 28 27,
   oJ 29 (.call fe [(.t 22),(.t 28)])])
 (.cond (.t 29)
  (.reg [oM 30 6,
    oM 31 7,
    oJ 32 (.bsl 1 [(.p (.int .i64 0))] 1 [(0,1,(.t 31))]),
    oJ 33 (.app 1 8 (.t 30) (.t 32)),
    oM 6 33])
  (.skip))))
 (.reg [oM 20 7,
   oJ 21 (.bin .add (.t 20) (.c (.p (.int .i64 1)))),
   oM 7 21]))))))
 (.seq (.reg [oM 34 6,
   oM 4 34])
 (.ret)))))⟩
theorem pB:al Tryd.prog ef=some jO:=by kernel_rfl
def gu:FK:=⟨21,[.t 4],
 .seq (.reg [oJ 2 (.box 1 (.t 0)),
  oJ 4 (.mov (.c .nils))])
 (.seq (.seq (.reg [oJ 5 (.ld (some 1) (.t 2)),
   oJ 6 (.call fP [(.t 5)]),
   oJ 7 (.not (.t 6)),
   oM 8 7,
   ⟨(some 9),some (8,false),.mov (.t 1)⟩,
   ⟨(some 10),some (8,false),.fldA 0 (.t 2)⟩,
   ⟨(some 11),some (8,false),.ld none (.t 10)⟩,
   ⟨(some 12),some (8,false),.len false (.t 11)⟩,
   ⟨(some 13),some (8,false),.bin .sub (.t 12) (.c (.p (.int .i64 1)))⟩,
   ⟨(some 14),some (8,false),.call bp [(.t 9),(.c (.p (.int .i64 0))),(.t 13)]⟩,
   ⟨(some 15),some (8,false),.not (.t 14)⟩,
   oJ 16 (.pick (.t 8) (.c (.p (.bool true))) (.t 15))])
 (.cond (.t 16)
  (.seq (.reg [oJ 17 (.bsl 1 [(.p (.int .i64 0))] 0 []),
    oM 4 17])
  (.ret))
  (.skip)))
 (.seq (.reg [oJ 18 (.ld (some 1) (.t 2)),
   oM 19 1,
   oJ 20 (.call ef [(.t 18),(.t 19)]),
   oM 4 20])
 (.ret)))⟩
theorem jJ:al Tryd.prog cZ=some gu:=by kernel_rfl
def F_spec_DrawCalledBy:FK:=⟨49,[.c 2 (some 1),.t 3],
 .seq (.reg [oJ 2 (.alloc [.nils]),
  oK 3 0])
 (.seq (.reg [oM 8 0,
   oJ 9 (.call eN [(.t 8)]),
   oM 4 9])
 (.seq (.reg [oM 10 4,
   oJ 11 (.call fO [(.t 10)]),
   oJ 5 (.alloc [.nils]),
   oS 5 11])
 (.seq (.seq (.reg [oK 6 0])
 (.blk 0 (.loop (.seq (.seq (.reg [oM 12 6,
   oJ 13 (.bin .lss (.t 12) (.c (.p (.int .i64 6)))),
   oM 14 13,
   ⟨(some 15),some (14,true),.mov (.t 4)⟩,
   ⟨(some 16),some (14,true),.call ae [(.t 15),(.c (.p (.int .i64 8)))]⟩,
   ⟨(some 17),some (14,true),.bin .gtr (.t 16) (.c (.p (.int .i64 0)))⟩,
   oJ 18 (.pick (.t 14) (.t 17) (.c (.p (.bool false))))])
 (.cond (.t 18)
  (.skip)
  (.exit 0)))
 (.seq (.blk 1 (.seq (.seq (.reg [oF 21 0 5,
   oL 22 21,
   oJ 23 (.len false (.t 22)),
   oJ 24 (.bin .sub (.t 23) (.c (.p (.int .i64 1)))),
   oM 7 24])
 (.blk 2 (.loop (.seq (.seq (.reg [oM 25 7,
   oJ 26 (.bin .gtr (.t 25) (.c (.p (.int .i64 0))))])
 (.cond (.t 26)
  (.skip)
  (.exit 2)))
 (.seq (.blk 3 (.seq (.reg [oJ 29 (.ld (some 1) (.t 5)),
   oM 30 7,
   oJ 31 (.call cZ [(.t 29),(.t 30)]),
   oJ 32 (.len false (.t 31)),
   oJ 33 (.bin .gtr (.t 32) (.c (.p (.int .i64 0))))])
 (.cond (.t 33)
  (.seq (.reg [oJ 34 (.ld (some 1) (.t 5)),
    oM 35 7,
    oS 2 34,
    oM 3 35])
  (.ret))
  (.skip))))
 (.reg [oM 27 7,
   oJ 28 (.bin .sub (.t 27) (.c (.p (.int .i64 1)))),
   oM 7 28]))))))
 (.reg [oM 36 4,
   oJ 37 (.call bE [(.t 36)]),
   oS 5 37])))
 (.reg [oM 19 6,
   oJ 20 (.bin .add (.t 19) (.c (.p (.int .i64 1)))),
   oM 6 20]))))))
 (.seq (.reg [oM 39 4,
   oF 40 0 5,
   oF 44 0 5,
   oJ 38 (.ld (some 1) (.t 5)),
   oL 41 40,
   oJ 42 (.len false (.t 41)),
   oJ 43 (.bin .sub (.t 42) (.c (.p (.int .i64 1)))),
   oL 45 44,
   oJ 46 (.len false (.t 45)),
   oJ 47 (.bslP 1 [(.p (.int .i64 0))] 5 [(0,1,(.t 43)),(1,1,(.c (.p (.int .i64 0)))),(2,1,(.c (.p (.int .i64 1)))),(3,1,(.c (.p (.int .i64 (-1))))),(4,1,(.t 46))]),
   oJ 48 (.call aj [(.t 39),(.t 47)]),
   ⟨none,none,.chk (some 1) 5 38⟩,
   oS 2 38,
   oM 3 48])
 (.ret)))))⟩
theorem le:al Tryd.prog dP=some F_spec_DrawCalledBy:=by kernel_rfl
def gh:FK:=⟨8,[.c 2 (some 1),.t 3],
 .seq (.reg [oJ 2 (.alloc [.nils]),
  oK 3 0])
 (.seq (.reg [oM 4 0,
   oJ 5 (.call dP [(.t 4)]),
   oJ 6 (.ext 0 (.t 5)),
   oJ 7 (.ext 1 (.t 5)),
   oS 2 6,
   oM 3 7])
 (.ret))⟩
theorem kK:al Tryd.prog cz=some gh:=by kernel_rfl
def F_laws_FnCountVars:FK:=⟨86,[.t 2],
 .seq (.reg [oJ 2 (.mov (.c (.p (.bool false))))])
 (.seq (.seq (.reg [oM 9 0,
   oJ 10 (.len false (.t 9)),
   oJ 11 (.bin .gtr (.t 10) (.c (.p (.int .i64 1048576))))])
 (.cond (.t 11)
  (.seq (.reg [oJ 2 (.mov (.c (.p (.bool true))))])
  (.ret))
  (.skip)))
 (.seq (.reg [oM 13 0,
   oJ 14 (.call cz [(.t 13)]),
   oM 12 14,
   oJ 15 (.ext 0 (.t 12)),
   oJ 16 (.ext 1 (.t 12)),
   oJ 3 (.alloc [.nils]),
   oS 3 15,
   oM 4 16])
 (.seq (.reg [oJ 17 (.ld (some 1) (.t 3)),
   oM 18 4,
   oJ 19 (.call bY [(.t 17),(.t 18)]),
   oM 5 19])
 (.seq (.seq (.reg [oM 20 5,
   oJ 21 (.ld (some 1) (.t 3)),
   oM 22 4,
   oJ 23 (.call cb [(.t 21),(.t 22)]),
   oJ 24 (.bin .neq (.t 20) (.t 23)),
   oM 25 24,
   ⟨(some 26),some (25,false),.mov (.t 5)⟩,
   ⟨(some 27),some (25,false),.bin .lss (.t 26) (.c (.p (.int .i64 0)))⟩,
   oJ 28 (.pick (.t 25) (.c (.p (.bool true))) (.t 27))])
 (.cond (.t 28)
  (.seq (.reg [oM 29 5,
    oJ 30 (.ld (some 1) (.t 3)),
    oM 31 4,
    oJ 32 (.call cb [(.t 30),(.t 31)]),
    oJ 33 (.bin .eql (.t 29) (.t 32)),
    oM 34 33,
    ⟨(some 35),some (34,true),.mov (.t 5)⟩,
    ⟨(some 36),some (34,true),.bin .eql (.t 35) (.c (.p (.int .i64 (-1))))⟩,
    oJ 37 (.pick (.t 34) (.t 36) (.c (.p (.bool false)))),
    oM 2 37])
  (.ret))
  (.skip)))
 (.seq (.reg [oF 38 0 3,
   oL 39 38,
   oM 40 4,
   oJ 41 (.idxS 3 (.t 39) (.t 40)),
   oJ 42 (.ld (some 3) (.t 41)),
   oJ 6 (.alloc [(.p (.str [])),.nils,.nils]),
   ⟨none,none,.st 3 (.t 6) (.t 42)⟩])
 (.seq (.reg [oJ 43 (.bsl 5 [(.p (.int .i64 0)),(.p (.str [])),.nils,.nils,.nils] 0 []),
   oF 44 2 6,
   oL 45 44,
   oJ 46 (.app 5 96 (.t 43) (.t 45)),
   oJ 47 (.bld [(.p (.int .i64 0)),(.p (.int .i64 0)),(.p (.str [])),.nils] [(0,1,(.c (.p (.int .i64 1))))]),
   oJ 48 (.bsl 4 [(.p (.int .i64 0)),(.p (.int .i64 0)),(.p (.str [])),.nils] 1 [(0,4,(.t 47))]),
   oJ 49 (.bld [(.p (.int .i64 0)),(.p (.str [])),.nils,.nils,.nils] [(0,1,(.c (.p (.int .i64 1)))),(1,1,(.c (.p (.str [122,113])))),(2,1,(.t 48))]),
   oJ 50 (.bsl 5 [(.p (.int .i64 0)),(.p (.str [])),.nils,.nils,.nils] 1 [(0,5,(.t 49))]),
   oJ 51 (.app 5 96 (.t 46) (.t 50)),
   oF 52 2 6,
   oS 52 51])
 (.seq (.reg [oF 54 0 3,
   oM 56 4,
   oL 55 54,
   oJ 57 (.slS 3 (.t 55) none (some (.t 56))),
   oJ 59 (.ld (some 3) (.t 6)),
   oJ 60 (.bslP 3 [(.p (.str [])),.nils,.nils] 1 [(0,3,(.t 59))]),
   oJ 53 (.bsl 3 [(.p (.str [])),.nils,.nils] 0 []),
   ⟨none,none,.chk none 54 55⟩,
   ⟨none,none,.chk (some 3) 6 59⟩,
   oJ 58 (.app 3 64 (.t 53) (.t 57)),
   ⟨none,none,.chk (some 3) 6 59⟩,
   oJ 61 (.app 3 64 (.t 58) (.t 60)),
   oM 7 61])
 (.seq (.reg [oM 62 7,
   oJ 63 (.bld [.nils] [(0,1,(.t 62))]),
   oJ 8 (.alloc [.nils]),
   oS 8 63])
 (.seq (.reg [oM 64 5,
   oF 65 0 3,
   oL 66 65,
   oM 67 4,
   oJ 68 (.idxS 3 (.t 66) (.t 67)),
   oF 69 1 68,
   oL 70 69,
   oJ 71 (.len false (.t 70)),
   oJ 72 (.bin .geq (.t 64) (.t 71)),
   oM 73 72,
   ⟨(some 74),some (73,true),.ld (some 1) (.t 8)⟩,
   ⟨(some 75),some (73,true),.call bS [(.t 74)]⟩,
   ⟨(some 76),some (73,true),.bin .neq (.t 75) (.c (.p (.int .i64 0)))⟩,
   ⟨(some 77),some (73,true),.mov (.t 76)⟩,
   ⟨(some 78),some (77,false),.ld (some 1) (.t 8)⟩,
   ⟨(some 79),some (77,false),.mov (.t 4)⟩,
   ⟨(some 80),some (77,false),.call bY [(.t 78),(.t 79)]⟩,
   ⟨(some 81),some (77,false),.mov (.t 5)⟩,
   ⟨(some 82),some (77,false),.bin .add (.t 81) (.c (.p (.int .i64 1)))⟩,
   ⟨(some 83),some (77,false),.bin .eql (.t 80) (.t 82)⟩,
   ⟨(some 84),some (73,true),.pick (.t 77) (.c (.p (.bool true))) (.t 83)⟩,
   oJ 85 (.pick (.t 73) (.t 84) (.c (.p (.bool false)))),
   oM 2 85])
 (.ret))))))))))⟩
theorem mu:al Tryd.prog io=some F_laws_FnCountVars:=by kernel_rfl
end Go.Proofs.YtiojgfhdcpppcaaDoor
namespace Go.Proofs.YtiojgfhdcpppcaaDoor
open Go Go.Aw
set_option maxRecDepth 100000
set_option maxHeartbeats 4000000
def iO(f:Fd):Nat:=f.params.length+dv f.body
def mb(l:List Fd)(k:Int):Int:=if cD l=0∧inR k 0 ((l.length:Int)-1)=true then(match l[k.toNat]? with|some f=>(iO f:Int)|none=> -1) else-1
def pg(st:Int)(x:Sm × Nat):Int:=if x.1.op=1 then IntKind.i64.wrap (st+1) else st
mutual
theorem Cp:∀(s:Sm) (d:Nat) (st:Int),0≤st→st+qO s≤1099511627776→(s.pre d).foldl pg st=st+qO s
 | .mk o n a bd el,d,st,h0,h=>by
   rw[qO] at h
   have h1:=pJ bd (d+1)
   have h2:=pJ el (d+1)
   rw[Sm.pre,List.foldl_cons,List.foldl_append,qO]
   by_cases ho:o=1
   ·have e:pg st (⟨o,n,a,bd,el⟩,d)=st+1:=by show(if o=1 then _ else _)=_;rw[if_pos ho,ag (by omega) (by rw[if_pos ho] at h;omega)]
    rw[if_pos ho] at h⊢
    rw[e,h1 _ (by omega) (by omega),h2 _ (by omega) (by omega)]
    omega
   ·have e:pg st (⟨o,n,a,bd,el⟩,d)=st:=by show(if o=1 then _ else _)=_;rw[if_neg ho]
    rw[if_neg ho] at h⊢
    rw[e,h1 _ (by omega) (by omega),h2 _ (by omega) (by omega)]
    omega
theorem pJ:∀(l:List Sm) (d:Nat) (st:Int),0≤st→st+dv l≤1099511627776→(bv d l).foldl pg st=st+dv l
 |[],d,st,_,_=>by simp[bv,dv]
 |s::r,d,st,h0,h=>by
  rw[dv] at h
  rw[bv,List.foldl_append,Cp s d st h0 (by omega),pJ r d _ (by omega) (by omega),dv]
  omega
end
def vG(f:Fd):Vis Int where
 I:=fun st=>[.row 3 [[.p (.str f.name),.p (ay f.params),.p (smL f.body)]],.row 1 [[.p (.int .i64 st)]]]
 n:=2
 F:=dr
 caps:=[.ptr 1 1 0 0]
 len:=fun _=>rfl
 ok:=fun st=>by simp[okO,below]
 capsOk:=by simp[below]
variable (G:aG)
theorem sT(f:Fd)(st:Int)(s:Sm)(d:Nat):AC Tryd.prog G dr [.agg (s.cs.map .p),.p (.int .i64 d),.ptr 1 1 0 0] ((vG f).I st) fun x h=>x= .ret (.tup [])∧h=(vG f).I (pg st (s,d)):=by
 refine(vG f).trim G (AC.go mV ?_) (by simp[below])
 have hse:=s.cs_eq
 by_cases ho:s.op=1
 ·simp-implicitDefEqProofs[eJ,hse,vG,pg,ho]
 ·simp-implicitDefEqProofs[eJ,hse,vG,pg,ho]
theorem wx(f:Fd)(hb:f.sz≤1073741824):VF Tryd.prog G gn [.agg (f.cs.map .p)] (.p (.int .i64 (iO f))):=by
 have hcs:=f.cs_eq'
 have hfz:f.sz=1+f.name.length+(f.params.length+(f.params.map List.length).sum)+aC f.body:=rfl
 have hl:=jY f.body
 have hl2:=jz f.body
 have hst:ay f.params= .lst 1 (f.params.map fun w=>[.str w]):=rfl
 have hI:=(xd G (vG f) pg (fun _=>True) 1073741824 (by omega) (fun st s d _ _=>⟨trivial,sT G f st s d⟩) (aC f.body+1) f.body (by omega) (by omega) 1 (by omega) (f.params.length:Int) trivial).2
 rw[pJ f.body 1 f.params.length (by omega) (by omega)] at hI
 refine AC.go pt ?_
 simp-implicitDefEqProofs[jN,hcs,hst]
 refine hI.mono ?_
 rintro r h ⟨rfl,rfl⟩
 simp-implicitDefEqProofs[aa,vG,iO]
theorem qY(l:List Fd)(hz:aN l≤1073741824):VF Tryd.prog G fP [.agg [.p (fdL l)]] (.p (.bool (decide (cD l=0)))):=by
 refine AC.go rY ?_
 simp-implicitDefEqProofs[lC]
 refine(rp G l hz).use ?_
 simp-implicitDefEqProofs[]
theorem uv(l:List Fd)(hz:aN l≤1073741824)(k:Int):VF Tryd.prog G cb [.agg [.p (fdL l)],.p (.int .i64 k)] (.p (.int .i64 (mb l k))):=by
 refine AC.go oD ?_
 have hll:=ck l
 have hfl:fdL l= .lst 3 (l.map Fd.cs):=rfl
 have hw:IntKind.i64.wrap ((l.length:Int)-1)=(l.length:Int)-1:=ag (by omega) (by omega)
 simp-implicitDefEqProofs[jr]
 refine(qY G l hz).use ?_
 by_cases h0:cD l=0
 case neg=>
  have:mb l k= -1:=if_neg (fun h=>h0 h.1)
  simp-implicitDefEqProofs[h0,this]
 simp-implicitDefEqProofs[h0,hfl,hw]
 rw[←hfl]
 refine(ke G _ _ _).use ?_
 by_cases h1:inR k 0 ((l.length:Int)-1)=true
 case neg=>
  have h1':inR k 0 ((l.length:Int)-1)=false:=by simpa using h1
  have:mb l k= -1:=if_neg (fun h=>h1 h.2)
  rw[h1',this]
  simp-implicitDefEqProofs[]
 have hk:0≤k∧k≤(l.length:Int)-1:=by simpa[inR] using h1
 obtain⟨n,rfl⟩:∃n:Nat,k=n:=⟨k.toNat,by omega⟩
 have hn:n<l.length:=by omega
 have hg:=List.getElem?_eq_getElem hn
 have hc:mb l n=(iO l[n]:Int):=by rw[mb,if_pos ⟨h0,h1⟩];simp only[Int.toNat_natCast,hg]
 have hcw:=yn l n l[n]
 have hrc:=vI l n l[n]
 rw[h1,hc]
 simp-implicitDefEqProofs[]
 refine(Br G hg hz).use ?_
 simp-implicitDefEqProofs[hrc,hcw,iO]
variable (hK:G iW=some gm) (hS:G gR=some [.tbl opK opV])
include hK hS
theorem DQ(l:List Fd)(hz:aN l≤1073741824):VF Tryd.prog G kH [.agg [.p (fdL l)]] (.p (.bool (decide (cD l=0)))):=by
 refine AC.go tP ?_
 simp-implicitDefEqProofs[oQ]
 refine(kL G hK hS l hz).use ?_
 simp-implicitDefEqProofs[]
theorem oZ(l:List Fd)(hz:aN l≤1073741824)(k:Int):VF Tryd.prog G bY [.agg [.p (fdL l)],.p (.int .i64 k)] (.p (.int .i64 (mb l k))):=by
 refine AC.go nQ ?_
 have hll:=ck l
 have hfl:fdL l= .lst 3 (l.map Fd.cs):=rfl
 have hw:IntKind.i64.wrap ((l.length:Int)-1)=(l.length:Int)-1:=ag (by omega) (by omega)
 simp-implicitDefEqProofs[je]
 refine(DQ G hK hS l hz).use ?_
 by_cases h0:cD l=0
 case neg=>
  have:mb l k= -1:=if_neg (fun h=>h0 h.1)
  simp-implicitDefEqProofs[h0,this]
 simp-implicitDefEqProofs[h0,hfl,hw]
 refine(jl G _ _ _).use ?_
 by_cases h1:inR k 0 ((l.length:Int)-1)=true
 case neg=>
  have h1':inR k 0 ((l.length:Int)-1)=false:=by simpa using h1
  have:mb l k= -1:=if_neg (fun h=>h1 h.2)
  rw[h1',this]
  simp-implicitDefEqProofs[]
 have hk:0≤k∧k≤(l.length:Int)-1:=by simpa[inR] using h1
 obtain⟨n,rfl⟩:∃n:Nat,k=n:=⟨k.toNat,by omega⟩
 have hn:n<l.length:=by omega
 have hg:=List.getElem?_eq_getElem hn
 have hc:mb l n=(iO l[n]:Int):=by rw[mb,if_pos ⟨h0,h1⟩];simp only[Int.toNat_natCast,hg]
 have hm:=dg (List.getElem_mem hn)
 have hV:=wx G l[n] (by omega)
 have hcs:=l[n].cs_eq'
 rw[h1,hc]
 generalize l[n]=f at*
 rw[hcs] at hV
 simp-implicitDefEqProofs[hg,hcs]
 refine hV.use ?_
 simp-implicitDefEqProofs[]
end Go.Proofs.YtiojgfhdcpppcaaDoor
namespace Go.Proofs.YtiojgfhdcpppcaaDoor
open Go Go.Aw
set_option maxRecDepth 100000
set_option maxHeartbeats 4000000
abbrev Wds:=List (List UInt8)
mutual
def nmE(op:Int):Ex→Wds→Wds
 | .mk o _ s ks,out=>eI op ks (if o=op∧s∉out then out++[s] else out)
def eI(op:Int):List Ex→Wds→Wds
 |[],out=>out
 |e::r,out=>eI op r (nmE op e out)
end
mutual
def clS:Sm→Wds→Wds
 | .mk _ _ a b e,out=>eQ e (eQ b (eI 13 a out))
def eQ:List Sm→Wds→Wds
 |[],out=>out
 |s::r,out=>eQ r (clS s out)
end
def pQ(l:List Fd)(bd:List Sm)(k:Nat):List Nat:=(List.range k).filter fun i=>match l[i]? with|some g=>decide (g.name∈eQ bd [])|none=>false
def nj(l:List Fd)(k:Int):List Nat:=if cD l=0∧inR k 0 ((l.length:Int)-1)=true then(match l[k.toNat]? with|some f=>pQ l f.body k.toNat|none=>[]) else[]
theorem Dp(op:Int)(e:Ex)(out:Wds):nmE op e out=eI op e.kids (if e.op=op∧e.name∉out then out++[e.name] else out):=by cases e;rfl
theorem DI(s:Sm)(out:Wds):clS s out=eQ s.els (eQ s.body (eI 13 s.args out)):=by cases s;rfl
theorem vr(op:Int):∀(a b:List Ex) (out:Wds),eI op (a++b) out=eI op b (eI op a out)
 |[],b,out=>rfl
 |e::r,b,out=>by rw[List.cons_append,eI,eI,vr op r]
theorem sL{op:Int}{l:List Ex}{out:Wds}{i:Nat}(h:i<l.length):eI op (l.take (i+1)) out=nmE op l[i] (eI op (l.take i) out):=by
 rw[au h,vr];rfl
theorem uA:∀(a b:List Sm) (out:Wds),eQ (a++b) out=eQ b (eQ a out)
 |[],b,out=>rfl
 |e::r,b,out=>by rw[List.cons_append,eQ,eQ,uA r]
theorem yx{l:List Sm}{out:Wds}{i:Nat}(h:i<l.length):eQ (l.take (i+1)) out=clS l[i] (eQ (l.take i) out):=by
 rw[au h,uA];rfl
theorem yD(l:List Ex)(i:Nat):aP (l.take i)≤aP l:=by
 have e:aP l=aP (l.take i)+aP (l.drop i):=by rw[←cA,List.take_append_drop]
 omega
theorem xt{l:List Ex}{i:Nat}(h:i<l.length):aP (l.take i)+l[i].sz≤aP l:=by
 have e:aP l=aP (l.take i)+aP (l.drop i):=by rw[←cA,List.take_append_drop]
 rw[List.drop_eq_getElem_cons h] at e
 simp only[aP] at e
 omega
mutual
theorem Cz(op:Int):∀(e:Ex) (out:Wds),(nmE op e out).length≤out.length+e.sz
 | .mk o _ s ks,out=>by
   have h:=kq op ks (if o=op∧s∉out then out++[s] else out)
   have h2:(if o=op∧s∉out then out++[s] else out).length≤out.length+1:=by split<;>simp
   rw[nmE,Ex.sz];omega
theorem kq(op:Int):∀(l:List Ex) (out:Wds),(eI op l out).length≤out.length+aP l
 |[],out=>by simp[eI,aP]
 |e::r,out=>by
  have h1:=Cz op e out
  have h2:=kq op r (nmE op e out)
  rw[eI,aP];omega
end
mutual
theorem BS:∀(s:Sm) (out:Wds),(clS s out).length≤out.length+s.sz
 | .mk _ _ a b e,out=>by
   have h1:=kq 13 a out
   have h2:=jk b (eI 13 a out)
   have h3:=jk e (eQ b (eI 13 a out))
   rw[clS,Sm.sz];omega
theorem jk:∀(l:List Sm) (out:Wds),(eQ l out).length≤out.length+aC l
 |[],out=>by simp[eQ,aC]
 |s::r,out=>by
  have h1:=BS s out
  have h2:=jk r (clS s out)
  rw[eQ,aC];omega
end
def K_spec_l2Names:AK:= .seq (.reg [oJ 3 (.box 4 (.t 0)),oJ 6 (.mov (.c .nils))]) (.cut (.seq (.reg [oF 8 0 3,oL 9 8,oM 10 1,oJ 11 (.bin .eql (.t 9) (.t 10)),oM 12 11,⟨(some 13),some (12,true),.mov (.t 2)⟩,⟨(some 14),some (12,true),.fldA 2 (.t 3)⟩,⟨(some 15),some (12,true),.ld none (.t 14)⟩,⟨(some 16),some (12,true),.call fe [(.t 13),(.t 15)]⟩,⟨(some 17),some (12,true),.not (.t 16)⟩,oJ 18 (.pick (.t 12) (.t 17) (.c (.p (.bool false))))]) (.cond (.t 18) (.reg [oM 19 2,oF 20 2 3,oL 21 20,oJ 22 (.bsl 1 [(.p (.str []))] 1 [(0,1,(.t 21))]),oJ 23 (.app 1 16 (.t 19) (.t 22)),oM 2 23]) (.skip))) (.seq (.seq (.reg [oK 7 0]) (.blk 0 (.loop (.seq (.seq (.reg [oM 24 7,oF 25 3 3,oL 26 25,oJ 27 (.len false (.t 26)),oJ 28 (.bin .lss (.t 24) (.t 27))]) (.cond (.t 28) (.skip) (.exit 0))) (.seq (.blk 1 (.reg [oF 31 3 3,oL 32 31,oM 33 7,oJ 34 (.idxS 4 (.t 32) (.t 33)),oJ 35 (.ld (some 4) (.t 34)),oM 36 1,oM 37 2,oJ 38 (.call cQ [(.t 35),(.t 36),(.t 37)]),oM 2 38])) (.reg [oM 29 7,oJ 30 (.bin .add (.t 29) (.c (.p (.int .i64 1)))),oM 7 30])))))) (.seq (.reg [oM 39 2,oM 6 39]) (.ret))))
theorem qe:K_spec_l2Names.whole=F_spec_l2Names.ak:=rfl
variable (G:aG)
theorem tM(l:Wds)(s:List UInt8)(hl:l.length≤1099511627776):VF Tryd.prog G fe [.p (ay l),.p (.str s)] (.p (.bool (decide (s∈l)))):=by
 refine AC.go tn ?_
 have hsl:∀l,ay l= .lst 1 (l.map fun w=>[.str w]):=fun _=>rfl
 simp-implicitDefEqProofs[mR,hsl]
 refine aR (fun i:Nat=>am 18 [(0,.p (ay l)),(1,.p (.str s)),(5,.p (.int .i64 i))]) (fun _=>[]) (fun i=>i≤l.length∧s∉l.take i) (fun i=>l.length-i) 0 (by simp) (cW rfl (by simp[below,hsl])) ?_
 rintro i ⟨hi,hn⟩
 simp-implicitDefEqProofs[hsl]
 refine bc (fun h=>?_) (fun h=>?_)
 ·simp at h
  have hg:=List.getElem?_eq_getElem h
  have hmem:=List.getElem_mem h
  have htk:=au h
  generalize l[i]=w at hg hmem htk
  by_cases he:w=s
  ·have hm:s∈l:=he▸hmem
   simp-implicitDefEqProofs[hg,he,hm]
  ·simp-implicitDefEqProofs[hg,he]
   refine⟨i+1,⟨h,fun hp=>?_⟩,by omega,cW rfl (by simp[below,hsl,w1 (i:=i) (by omega)])⟩
   rw[htk] at hp
   rcases List.mem_append.1 hp with hp|hp
   ·exact hn hp
   ·rw[List.mem_singleton] at hp;exact he hp.symm
 ·simp at h
  rw[List.take_of_length_le h] at hn
  simp-implicitDefEqProofs[hn]
theorem qx{f:FuncId}{args:List AV}{l l':Wds}(H:AC Tryd.prog G f (args++[.sl 0 1 0 l.length]) [bx l] fun x h=>x= .ret (.sl 1 1 0 l'.length)∧h=[.dead,bx l'])(ha:ah 0 args){h:List AO}{id:Nat}(e:h[id]?=some (bx l)):
 AC Tryd.prog G f (args++[.sl id 1 0 l.length]) h fun x h'=>x= .ret (.sl h.length 1 0 l'.length)∧h'=h.set id .dead++[bx l']:=by
 have hTW:TW [id] (args++[.sl id 1 0 l.length]) (args++[.sl 0 1 0 l.length]):=by
  clear H
  induction args with
  |nil=>simp[below,ren]
  |cons v r ih=>
   rw[List.cons_append,List.cons_append,nk]
   refine⟨.inr ⟨(aW (Nat.zero_le _) [v] ⟨ha.1,trivial⟩).1,?_⟩,ih ha.2⟩
   have:=cN [id] [v] ⟨ha.1,trivial⟩
   simpa[aX] using this
 refine(H.frame [id] (by simp) hTW (bn e (fun x hx=>bk l x hx) bm)).mono ?_
 rintro x h' ⟨x0,h0,⟨rfl,rfl⟩,_,rfl,rfl⟩
 refine⟨?_,?_⟩
 ·simp[rc,ren]
 ·have hp:∀σ,eC σ (bx l')=bx l':=fun σ=>by simp[bx,eC,aX,ren]
  simp only[List.length_cons,List.length_nil,List.take_succ_cons,List.take_zero,List.map_cons,List.map_nil,List.drop_succ_cons,List.drop_zero,hp,mrg]
  rfl
theorem xZ:∀(N:Nat) (e:Ex),e.sz≤N→∀(op:Int) (out:Wds),out.length+e.sz≤1099511627776→
 AC Tryd.prog G cQ [.agg (e.cs.map .p),.p (.int .i64 op),.sl 0 1 0 out.length] [bx out] fun x h=>x= .ret (.sl 1 1 0 (nmE op e out).length)∧h=[.dead,bx (nmE op e out)]:=by
 intro N
 induction N with
 |zero=>intro e he;have:=e.sz_eq;omega
 |succ N ih=>
  intro e he op out hb
  have hec:=e.cs_eq
  have hsz:=e.sz_eq
  have hkl:=bQ e.kids
  rw[Dp]
  have key:AC Tryd.prog G cQ [.agg (e.cs.map .p),.p (.int .i64 op),.sl 0 1 0 out.length] [bx out] fun x h=>∃r,∃out',out'=eI op e.kids (if e.op=op∧e.name∉out then out++[e.name] else out)∧x= .ret (.sl 2 1 0 out'.length)∧h= .dead::r::[bx out']:=by
   refine AC.goK rd qe ?_
   have hso:∀l,bx l= .row 1 (l.map fun n=>[.p (.str n)]):=fun _=>rfl
   have hbox:∀o:AO,o= .row 4 [[.p (.int .i64 e.op),.p (.int .i64 e.n),.p (.str e.name),.p (exL e.kids)]]→okO 0 o:=fun o h=>by rw[h];simp[okO,below]
   simp-implicitDefEqProofs[K_spec_l2Names,F_spec_l2Names,hec]
   obtain⟨out1,ho1⟩:∃out1,out1=(if e.op=op∧e.name∉out then out++[e.name] else out):=⟨_,rfl⟩
   rw[←ho1]
   have hol1:out1.length≤out.length+1:=by rw[ho1];split<;>simp
   refine iu (am 40 [(1,.p (.int .i64 op)),(2,.sl 2 1 0 out1.length),(3,.ptr 1 4 0 0)]) [.dead,.row 4 [[.p (.int .i64 e.op),.p (.int .i64 e.n),.p (.str e.name),.p (exL e.kids)]],bx out1] ?_ ?_
   ·by_cases ho:e.op=op
    ·by_cases hm:e.name∈out
     ·have h1:out1=out:=by rw[ho1,if_neg (fun h=>h.2 hm)]
      simp-implicitDefEqProofs[ho]
      refine((tM G out e.name (by omega)).lend (.one (dk rfl) (.keep (by simp) .nil)) rfl).mono ?_
      rintro r h ⟨rfl,rfl⟩
      simp-implicitDefEqProofs[aa,hm]
      rw[h1]
      exact nM [0,1,0] (by simp) (by decide) (by simp[eF,bx]) (bA (by simp) (bn rfl (by simp[okO]) (bn rfl (fun x hx=>bk out x hx) bm))) (by simp[below,ren])
     ·have h1:out1=out++[e.name]:=by rw[ho1,if_pos ⟨ho,hm⟩]
      simp-implicitDefEqProofs[ho]
      refine((tM G out e.name (by omega)).lend (.one (dk rfl) (.keep (by simp) .nil)) rfl).mono ?_
      rintro r h ⟨rfl,rfl⟩
      simp-implicitDefEqProofs[aa,hm,hso]
      refine⟨by omega,?_⟩
      have htk:List.take out.length (out.map fun n=>[AV.p (.str n)])=out.map fun n=>[AV.p (.str n)]:=List.take_of_length_le (by simp)
      have hl1:out1.length=out.length+1:=by rw[h1];simp
      rw[hl1,htk]
      refine cJ [0,1,3] (by simp) (by decide) (by decide) (bA (by simp) (bn rfl (by simp[okO]) (bn ?_ (fun x hx=>bk out1 x hx) bm))) (by simp[below,ren])
      rw[h1];simp
    ·have h1:out1=out:=by rw[ho1,if_neg (fun h=>ho h.1)]
     simp-implicitDefEqProofs[ho]
     rw[h1]
     exact nM [0,1,0] (by simp) (by decide) (by simp[eF,bx]) (bA (by simp) (bn rfl (by simp[okO]) (bn rfl (fun x hx=>bk out x hx) bm))) (by simp[below,ren])
   have hxl:exL e.kids= .lst 4 (e.kids.map Ex.cs):=rfl
   simp-implicitDefEqProofs[]
   refine aR (fun i:Nat=>am 40 [(1,.p (.int .i64 op)),(2,.sl 2 1 0 (eI op (e.kids.take i) out1).length),(3,.ptr 1 4 0 0),(7,.p (.int .i64 i))])
    (fun i=>[.dead,.row 4 [[.p (.int .i64 e.op),.p (.int .i64 e.n),.p (.str e.name),.p (exL e.kids)]],bx (eI op (e.kids.take i) out1)])
    (fun i=>i≤e.kids.length) (fun i=>e.kids.length-i) 0 (by simp) ?_ ?_
   ·exact ab (by simp) (af trivial (af (bU (hbox _ rfl)) (af (bU (bk _)) cy))) (by simp[below,eI])
   ·intro i hi
    have hl2:=kq op (e.kids.take i) out1
    have hzt:=yD e.kids i
    simp-implicitDefEqProofs[hxl]
    refine bc (fun h=>?_) (fun h=>?_)
    ·simp at h
     have hg:=List.getElem?_eq_getElem h
     have hks:=cf (List.getElem_mem h)
     have hT:=sL (op:=op) (out:=out1) h
     have hzt2:=xt h
     generalize hcur:eI op (e.kids.take i) out1=cur at hl2 hT
     generalize e.kids[i]=c at hg hks hT hzt2
     simp-implicitDefEqProofs[hg]
     refine(qx G (args:=[.agg (c.cs.map .p),.p (.int .i64 op)]) (ih c (by omega) op cur (by omega)) (by simp[below]) (id:=2) rfl).mono ?_
     rintro r h ⟨rfl,rfl⟩
     simp-implicitDefEqProofs[aa]
     refine⟨i+1,h,by omega,?_⟩
     rw[hT]
     exact cJ [0,1,3] (by simp) (by decide) (by decide) (bA (by simp) (bn rfl (by simp[okO]) (bn rfl (fun x hx=>bk _ x hx) bm))) (by simp[below,ren,w1 (i:=i) (by omega)])
    ·simp at h
     have hie:i=e.kids.length:=by omega
     subst hie
     rw[List.take_length]
     simp-implicitDefEqProofs[]
  refine key.wk (fun t v h ⟨_,_,_,e,_⟩=>by cases e) ?_
  rintro v h ⟨r,out',rfl,e,rfl⟩
  cases e
  exact⟨_,_,Wk.of [0,2] (by simp) (fun i hi=>by simp at hi;subst hi;rfl) (by decide) (by simp[below,ren]) (bA (by simp) (bn rfl (fun x hx=>bk _ x hx) bm)),rfl,rfl⟩
theorem yd:∀(N:Nat) (l:List Sm),aC l<N→∀out:Wds,out.length+aC l≤1099511627776→
 AC Tryd.prog G dx [.p (smL l),.sl 0 1 0 out.length] [bx out] fun x h=>x= .ret (.sl 1 1 0 (eQ l out).length)∧h=[.dead,bx (eQ l out)]:=by
 intro N
 induction N with
 |zero=>intro l hl;omega
 |succ N ih=>
  intro l hl out hb
  have hll:=bO l
  have hsl:∀l,smL l= .lst 5 (l.map Sm.cs):=fun _=>rfl
  have hxl:∀l,exL l= .lst 4 (l.map Ex.cs):=fun _=>rfl
  refine AC.go rj ?_
  simp-implicitDefEqProofs[kx]
  refine aR (fun i:Nat=>am 47 [(0,.p (smL l)),(1,.sl 1 1 0 (eQ (l.take i) out).length),(5,.p (.int .i64 i))]) (fun i=>[.dead,bx (eQ (l.take i) out)]) (fun i=>i≤l.length) (fun i=>l.length-i) 0 (by simp) ?_ ?_
  ·exact nM [0,0] (by simp) (by simp) (by simp[eF,bx]) (bA (by simp) (bn rfl (fun x hx=>bk out x hx) bm)) (by simp[below,ren,eQ,hsl])
  ·intro i hi
   have hl2:=jk (l.take i) out
   simp-implicitDefEqProofs[hsl]
   refine bc (fun h=>?_) (fun h=>?_)
   ·simp at h
    have hg:=List.getElem?_eq_getElem h
    have hat:=xv h
    have hT:=yx (out:=out) h
    have hse:=l[i].cs_eq
    have hsz:=l[i].sz_eq
    have hcl:=DI l[i]
    generalize eQ (l.take i) out=cur at hl2 hT⊢
    generalize l[i]=s at hg hat hT hse hsz hcl
    obtain⟨o,nme,a,bd,el⟩:=s
    simp only[Sm.op,Sm.name,Sm.args,Sm.body,Sm.els] at hse hsz hcl
    simp-implicitDefEqProofs[]
    refine aR (fun j:Nat=>am 47 [(0,.p (smL l)),(1,.sl 1 1 0 (eI 13 (a.take j) cur).length),(5,.p (.int .i64 i)),(6,.p (.int .i64 j))]) (fun j=>[.dead,bx (eI 13 (a.take j) cur)]) (fun j=>j≤a.length) (fun j=>a.length-j) 0 (by simp) ?_ ?_
    ·exact ab (by simp) (af trivial (af (bU (bk _)) cy)) (by simp[below,eI,hsl])
    ·intro j hj
     have hl3:=kq 13 (a.take j) cur
     have hal:=bQ a
     simp-implicitDefEqProofs[hsl,hg,hse,hxl]
     refine bc (fun hc=>?_) (fun hc=>?_)
     ·simp at hc
      have hga:=List.getElem?_eq_getElem hc
      have hzt:=xt hc
      have hT2:=sL (op:=13) (out:=cur) hc
      generalize eI 13 (a.take j) cur=cj at hl3 hT2⊢
      generalize a[j]=c at hga hzt hT2
      simp-implicitDefEqProofs[hg,hse,hsl,hxl,hga]
      refine(qx G (args:=[.agg (c.cs.map .p),.p (.int .i64 13)]) (xZ G c.sz c (Nat.le_refl _) 13 cj (by omega)) (by simp[below]) (id:=1) rfl).mono ?_
      rintro r h ⟨rfl,rfl⟩
      simp-implicitDefEqProofs[aa]
      refine⟨j+1,hc,by omega,?_⟩
      rw[hT2]
      exact cJ [0,2] (by simp) (by decide) (by decide) (bA (by simp) (bn rfl (fun x hx=>bk _ x hx) bm)) (by simp[below,ren,hsl,w1 (i:=j) (by omega)])
     ·simp at hc
      have hje:j=a.length:=by omega
      subst hje
      rw[List.take_length] at hl3⊢
      have hl4:=jk bd (eI 13 a cur)
      simp-implicitDefEqProofs[hg,hse]
      refine(qx G (args:=[.p (smL bd)]) (ih bd (by omega) (eI 13 a cur) (by omega)) (by simp[below]) (id:=1) rfl).mono ?_
      rintro r h ⟨rfl,rfl⟩
      simp-implicitDefEqProofs[aa,hg,hse,hsl]
      refine(qx G (args:=[.p (smL el)]) (ih el (by omega) (eQ bd (eI 13 a cur)) (by omega)) (by simp[below]) (id:=2) rfl).mono ?_
      rintro r h ⟨rfl,rfl⟩
      simp-implicitDefEqProofs[aa]
      refine⟨i+1,h,by omega,?_⟩
      rw[hT,hcl]
      exact cJ [0,3] (by simp) (by decide) (by decide) (bA (by simp) (bn rfl (fun x hx=>bk _ x hx) bm)) (by simp[below,ren,hsl,w1 (i:=i) (by omega)])
   ·simp at h
    have hie:i=l.length:=by omega
    subst hie
    rw[List.take_length]
    simp-implicitDefEqProofs[]
def dq(l:List Fd)(bd:List Sm)(i:Nat):List Nat:=(List.range i).filter fun i=>match l[i]? with|some g=>decide (g.name∈eQ bd [])|none=>false
theorem tt(l:List Fd)(bd:List Sm)(i:Nat)(g:Fd)(hg:l[i]?=some g):dq l bd (i+1)=if g.name∈eQ bd [] then dq l bd i++[i] else dq l bd i:=by
 rw[dq,List.range_succ,List.filter_append]
 simp only[List.filter_cons,List.filter_nil,hg]
 by_cases h:g.name∈eQ bd []
 ·simp[h,dq]
 ·simp[h,dq]
theorem tO(l:List Fd)(bd:List Sm)(i:Nat):(dq l bd i).length≤i:=by
 have:=List.length_filter_le (fun i=>match l[i]? with|some g=>decide (g.name∈eQ bd [])|none=>false) (List.range i)
 rw[List.length_range] at this
 exact this
theorem wh{fns:List Fd}{k:Nat}{f:Fd}(hk:fns[k]?=some f)(hz:aN fns≤1073741824):VF Tryd.prog G ef [.agg [.p (fdL fns)],.p (.int .i64 k)] (.p (CD (pQ fns f.body k))):=by
 have hfl:=ck fns
 have hfm:=dg (List.mem_of_getElem? hk)
 have hfz:f.sz=1+f.name.length+(f.params.length+(f.params.map List.length).sum)+aC f.body:=rfl
 have hkl:=(List.getElem?_eq_some_iff.1 hk).1
 have hcn:pQ fns f.body k=dq fns f.body k:=rfl
 have hlc:=jk f.body []
 have key:AC Tryd.prog G ef [.agg [.p (fdL fns)],.p (.int .i64 k)] [] fun x h=>x= .ret (.sl 3 1 0 (dq fns f.body k).length)∧h[3]?=some (tc (dq fns f.body k)):=by
  refine AC.go pB ?_
  have hfd:∀l,fdL l= .lst 3 (l.map Fd.cs):=fun _=>rfl
  have hcs:f.cs=[.str f.name,ay f.params,smL f.body]:=rfl
  have hno:∀l,tc l= .row 1 (l.map fun(n:Nat)=>[.p (.int .i64 (n:Int))]):=fun _=>rfl
  simp-implicitDefEqProofs[jO,hfd,hk,hcs]
  have hst0:AO.row 1 []=bx []:=rfl
  refine(qx G (args:=[.p (smL f.body)]) (l:=[]) (yd G (aC f.body+1) f.body (by omega) [] (by simp;omega)) (by simp[below]) (id:=1) rfl).mono ?_
  rintro r h ⟨rfl,rfl⟩
  simp-implicitDefEqProofs[aa]
  generalize hnm:eQ f.body []=nm at hlc
  refine aR (fun i:Nat=>am 35 [(1,.p (.int .i64 k)),(2,.ptr 0 1 0 0),(5,.sl 2 1 0 nm.length),(6,.sl 3 1 0 (dq fns f.body i).length),(7,.p (.int .i64 i))]) (fun i=>[.row 1 [[.p (.lst 3 (fns.map Fd.cs))]],.dead,bx nm,tc (dq fns f.body i)]) (fun i=>i≤k) (fun i=>k-i) 0 (by simp) ?_ ?_
  ·exact ab (h:=[.row 1 [[.p (.lst 3 (fns.map Fd.cs))]],.dead,bx nm,.row 1 []]) (by simp) (af (by simp[okO,below]) (af trivial (af (bU (bk _)) (af (by simp[okO]) cy)))) (by simp[below,dq])
  ·intro i hi
   have hcl:=tO fns f.body i
   simp-implicitDefEqProofs[]
   refine bc (fun h=>?_) (fun h=>?_)
   ·simp at h
    have hil:i<fns.length:=by omega
    have hg:=List.getElem?_eq_getElem hil
    generalize fns[i]=g at hg
    have hS:=tt fns f.body i g hg
    rw[hnm] at hS
    have hgs:g.cs=[.str g.name,ay g.params,smL g.body]:=rfl
    simp-implicitDefEqProofs[hg,hgs]
    refine((tM G nm g.name (by simp at hlc;omega)).lend (.one (dk rfl) (.keep (by simp) .nil)) rfl).mono ?_
    rintro r h ⟨rfl,rfl⟩
    generalize dq fns f.body i=c at hcl hS⊢
    by_cases hm:g.name∈nm
    ·rw[if_pos hm] at hS
     simp-implicitDefEqProofs[aa,hm,hno]
     refine⟨by omega,i+1,h,by omega,?_⟩
     have htk:List.take c.length (c.map fun(n:Nat)=>[AV.p (.int .i64 (n:Int))])=c.map fun(n:Nat)=>[AV.p (.int .i64 (n:Int))]:=List.take_of_length_le (by simp)
     rw[hS,htk,List.map_append]
     refine uN [0,1,2,5] rfl (by decide) (be rfl (by simp) (bA (by simp) (bn rfl (fun x hx=>bk _ x hx) (be rfl (fun x hx=>?_) bm)))) (by simp[below,ren,w1 (i:=i) (by omega)])
     rcases List.mem_append.1 hx with h|h
     ·exact oI _ x h
     ·exact oI _ x h
    ·rw[if_neg hm] at hS
     simp-implicitDefEqProofs[aa,hm]
     refine⟨i+1,h,by omega,?_⟩
     rw[hS]
     exact ab (h:=[.row 1 [[.p (.lst 3 (fns.map Fd.cs))]],.dead,bx nm,tc c]) (by simp) (af (by simp[okO,below]) (af trivial (af (bU (bk _)) (af (bU (oI _)) cy)))) (by simp[below,w1 (i:=i) (by omega)])
   ·simp at h
    have hie:i=k:=by omega
    subst hie
    simp-implicitDefEqProofs[]
 rw[hcn]
 refine key.freezeR (fun t v h ⟨e,_⟩=>by cases e) fun v h ⟨e1,e2⟩=>?_
 cases e1
 exact .one (sD e2) .nil
theorem vF(l:List Fd)(hz:aN l≤1073741824)(k:Int):VF Tryd.prog G cZ [.agg [.p (fdL l)],.p (.int .i64 k)] (.p (CD (nj l k))):=by
 have hll:=ck l
 have hfl:fdL l= .lst 3 (l.map Fd.cs):=rfl
 have hw:IntKind.i64.wrap ((l.length:Int)-1)=(l.length:Int)-1:=ag (by omega) (by omega)
 by_cases hc:cD l=0∧inR k 0 ((l.length:Int)-1)=true
 case neg=>
  have hcb:nj l k=[]:=if_neg hc
  rw[hcb]
  have key:AC Tryd.prog G cZ [.agg [.p (fdL l)],.p (.int .i64 k)] [] fun x h=>x= .ret (.sl 1 1 0 0)∧h[1]?=some (tc []):=by
   refine AC.go jJ ?_
   simp-implicitDefEqProofs[gu]
   refine(qY G l hz).use ?_
   by_cases h0:cD l=0
   case neg=>
    simp-implicitDefEqProofs[h0,tc]
   simp-implicitDefEqProofs[h0,hfl,hw]
   rw[←hfl]
   refine(ke G _ _ _).use ?_
   have h1':inR k 0 ((l.length:Int)-1)=false:=by
    cases e:inR k 0 ((l.length:Int)-1) with
    |false=>rfl
    |true=>exact absurd ⟨h0,e⟩ hc
   rw[h1']
   simp-implicitDefEqProofs[tc]
  refine key.freezeR (fun t v h ⟨e,_⟩=>by cases e) fun v h ⟨e1,e2⟩=>?_
  cases e1
  exact .one (sD e2) .nil
 obtain⟨h0,h1⟩:=hc
 have hk:0≤k∧k≤(l.length:Int)-1:=by simpa[inR] using h1
 obtain⟨n,rfl⟩:∃n:Nat,k=n:=⟨k.toNat,by omega⟩
 have hn:n<l.length:=by omega
 have hg:=List.getElem?_eq_getElem hn
 have hcb:nj l n=pQ l l[n].body n:=by rw[nj,if_pos ⟨h0,h1⟩];simp only[Int.toNat_natCast,hg]
 rw[hcb]
 refine AC.go jJ ?_
 simp-implicitDefEqProofs[gu]
 refine(qY G l hz).use ?_
 simp-implicitDefEqProofs[h0,hfl,hw]
 rw[←hfl]
 refine(ke G _ _ _).use ?_
 rw[h1]
 simp-implicitDefEqProofs[]
 refine(wh G hg hz).use ?_
 simp-implicitDefEqProofs[]
end Go.Proofs.YtiojgfhdcpppcaaDoor
namespace Go.Proofs.YtiojgfhdcpppcaaDoor
open Go Go.Aw
set_option maxRecDepth 100000
set_option maxHeartbeats 4000000
def K_spec_DrawCalledBy:AK:= .seq (.reg [oJ 2 (.alloc [.nils]),oK 3 0]) (.seq (.reg [oM 8 0,oJ 9 (.call eN [(.t 8)]),oM 4 9]) (.seq (.reg [oM 10 4,oJ 11 (.call fO [(.t 10)]),oJ 5 (.alloc [.nils]),oS 5 11]) (.cut (.seq (.reg [oK 6 0]) (.blk 0 (.loop (.seq (.seq (.reg [oM 12 6,oJ 13 (.bin .lss (.t 12) (.c (.p (.int .i64 6)))),oM 14 13,⟨(some 15),some (14,true),.mov (.t 4)⟩,⟨(some 16),some (14,true),.call ae [(.t 15),(.c (.p (.int .i64 8)))]⟩,⟨(some 17),some (14,true),.bin .gtr (.t 16) (.c (.p (.int .i64 0)))⟩,oJ 18 (.pick (.t 14) (.t 17) (.c (.p (.bool false))))]) (.cond (.t 18) (.skip) (.exit 0))) (.seq (.blk 1 (.cut (.seq (.reg [oF 21 0 5,oL 22 21,oJ 23 (.len false (.t 22)),oJ 24 (.bin .sub (.t 23) (.c (.p (.int .i64 1)))),oM 7 24]) (.blk 2 (.loop (.seq (.seq (.reg [oM 25 7,oJ 26 (.bin .gtr (.t 25) (.c (.p (.int .i64 0))))]) (.cond (.t 26) (.skip) (.exit 2))) (.seq (.blk 3 (.seq (.reg [oJ 29 (.ld (some 1) (.t 5)),oM 30 7,oJ 31 (.call cZ [(.t 29),(.t 30)]),oJ 32 (.len false (.t 31)),oJ 33 (.bin .gtr (.t 32) (.c (.p (.int .i64 0))))]) (.cond (.t 33) (.seq (.reg [oJ 34 (.ld (some 1) (.t 5)),oM 35 7,oS 2 34,oM 3 35]) (.ret)) (.skip)))) (.reg [oM 27 7,oJ 28 (.bin .sub (.t 27) (.c (.p (.int .i64 1)))),oM 7 28])))))) (.reg [oM 36 4,oJ 37 (.call bE [(.t 36)]),oS 5 37]))) (.reg [oM 19 6,oJ 20 (.bin .add (.t 19) (.c (.p (.int .i64 1)))),oM 6 20])))))) (.seq (.reg [oM 39 4,oF 40 0 5,oF 44 0 5,oJ 38 (.ld (some 1) (.t 5)),oL 41 40,oJ 42 (.len false (.t 41)),oJ 43 (.bin .sub (.t 42) (.c (.p (.int .i64 1)))),oL 45 44,oJ 46 (.len false (.t 45)),oJ 47 (.bslP 1 [(.p (.int .i64 0))] 5 [(0,1,(.t 43)),(1,1,(.c (.p (.int .i64 0)))),(2,1,(.c (.p (.int .i64 1)))),(3,1,(.c (.p (.int .i64 (-1))))),(4,1,(.t 46))]),oJ 48 (.call aj [(.t 39),(.t 47)]),⟨none,none,.chk (some 1) 5 38⟩,oS 2 38,oM 3 48]) (.ret)))))
theorem ll:K_spec_DrawCalledBy.whole=F_spec_DrawCalledBy.ak:=rfl
variable (G:aG)
def DrK(n:Nat)(x:ARes):Prop:=∃(l:List Fd) (k:Int),x= .ret (.tup [.agg [.p (fdL l)],.p (.int .i64 k)])∧aN l≤n
theorem vf{n:Nat}:∀x,DrK n x→∃v,x= .ret v∧below 0 v:=fun x ⟨l,k,e,_⟩=>⟨_,e,by simp[below]⟩
structure DkS where (l:List Fd) (q i:Nat)
theorem qN(code:List Int)(hb:Byt code):AC Tryd.prog G dP [.p (mT code)] [] fun x _=>DrK 900000000 x:=by
 refine AC.goK le ll ?_
 simp-implicitDefEqProofs[K_spec_DrawCalledBy,F_spec_DrawCalledBy]
 refine(AC.lift (DF G code) (by simp) rfl rfl).mono ?_
 rintro r h ⟨rfl,rfl⟩
 have hr:∀n,cr n (rdO (code.take 2000) 0)=rdO (code.take 2000) 0:=fun n=>by simp[rdO,cr,cM,bN]
 have hbt:=Aa hb 2000
 have hbl:(code.take 2000).length≤2000:=by rw[List.length_take];omega
 generalize code.take 2000=b at hr hbt hbl
 simp-implicitDefEqProofs[aa,bN,hr]
 refine(Ce G (zQ G hbt hbl (p:=0) (by omega)) (fun v q ⟨⟨l,e,_⟩,_⟩=>by rw[e];simp[below]) (h:=[.row 1 [[.nils]],rdO b 0]) (k:=1) rfl trivial).mono ?_
 rintro r h ⟨v,q,rfl,rfl,⟨l,rfl,hz⟩,hq1,hq2⟩
 simp-implicitDefEqProofs[aa]
 have hok:∀(q:Nat) (l:List Fd),∀o∈[AO.row 1 [[.nils]],rdO b q,.row 1 [[.p (fdL l)]]],okO 3 o:=fun q l=>af (by simp[okO,below]) (af (aZ _ _ _) (af (by simp[okO,below]) cy))
 refine pI (fun _:DkS=>am 49 [(2,.ptr 0 1 0 0),(4,.ptr 1 2 0 0),(5,.ptr 2 1 0 0)]) (fun s=>[.row 1 [[.nils]],rdO b s.q,.row 1 [[.p (fdL s.l)]]]) (fun s=>aN s.l≤900000000∧s.q≤5000000000) ?_ ?_
 ·simp-implicitDefEqProofs[]
  refine aR (fun s:DkS=>am 49 [(2,.ptr 0 1 0 0),(4,.ptr 1 2 0 0),(5,.ptr 2 1 0 0),(6,.p (.int .i64 s.i))]) (fun s=>[.row 1 [[.nils]],rdO b s.q,.row 1 [[.p (fdL s.l)]]]) (fun s=>s.i≤6∧aN s.l≤900000000∧s.q≤400500000+s.i*200000010) (fun s=>6-s.i) ⟨l,q,0⟩ ⟨by simp,hz,by simp only[Nat.zero_mul];omega⟩ ?_ ?_
  ·exact ab (h:=[AO.row 1 [[.nils]],rdO b q,.row 1 [[.p (fdL l)]]]) (by simp) (hok q l) (by simp[below])
  rintro⟨l,q,i⟩ ⟨hi,hz,hq⟩
  simp only at hi hz hq
  have hll:=ck l
  have hfl:fdL l= .lst 3 (l.map Fd.cs):=rfl
  have hwl:IntKind.i64.wrap ((l.length:Int)-1)=(l.length:Int)-1:=ag (by omega) (by omega)
  by_cases h6:i<6
  case neg=>
   have h6':¬(i:Int)<6:=by omega
   simp-implicitDefEqProofs[h6']
   exact⟨⟨l,q,0⟩,⟨hz,by simp only;omega⟩,ab (h:=[AO.row 1 [[.nils]],rdO b q,.row 1 [[.p (fdL l)]]]) (by simp) (hok q l) (by simp[below])⟩
  have h6':(i:Int)<6:=by omega
  simp-implicitDefEqProofs[h6']
  refine(Ce G (Q:=fun v q2=>∃k:Nat,v= .p (.int .i64 k)∧q2=q+1) ((za G b hbt hbl q (by omega) 8).mono fun x h ⟨k,e1,e2,_⟩=>⟨_,_,e1,e2,k,rfl,rfl⟩) (fun v q ⟨k,e,_⟩=>by rw[e];simp[below]) (h:=[.row 1 [[.nils]],rdO b q,.row 1 [[.p (fdL l)]]]) (k:=1) rfl (by simp[below])).mono ?_
  rintro r h ⟨v,q2,rfl,rfl,k,rfl,rfl⟩
  simp-implicitDefEqProofs[aa]
  refine bc (fun hk=>?_) (fun hk=>?_)
  rotate_left
  ·exact⟨⟨l,q+1,0⟩,⟨hz,by simp only;omega⟩,ab (h:=[AO.row 1 [[.nils]],rdO b (q+1),.row 1 [[.p (fdL l)]]]) (by simp) (hok (q+1) l) (by simp[below])⟩
  refine iu (am 49 [(2,.ptr 0 1 0 0),(4,.ptr 1 2 0 0),(5,.ptr 2 1 0 0),(6,.p (.int .i64 i))]) [.row 1 [[.nils]],rdO b (q+1),.row 1 [[.p (fdL l)]]] ?_ ?_
  rotate_left
  ·simp-implicitDefEqProofs[]
   refine(Ce G (Q:=fun v q2=>(∃l:List Fd,v= .agg [.p (fdL l)]∧aN l≤200000000)∧q2≤q+1+200000000) ((vK G hbt hbl (p:=q+1) (by omega)).mono fun x h ⟨l,q,e1,e2,_,e4,_,e6⟩=>⟨_,q,e1,e2,⟨l,rfl,e4⟩,e6⟩) (fun v q ⟨⟨l,e,_⟩,_⟩=>by rw[e];simp[below]) (h:=[.row 1 [[.nils]],rdO b (q+1),.row 1 [[.p (fdL l)]]]) (k:=1) rfl (by simp)).mono ?_
   rintro r h ⟨v,q2,rfl,rfl,⟨l2,rfl,hz2⟩,hq2⟩
   simp-implicitDefEqProofs[aa]
   have hwi:=w1 (i:=i) (by omega)
   exact⟨⟨l2,q2,i+1⟩,⟨h6,by simp only;omega,by simp only;omega⟩,by simp only;omega,ab (h:=[AO.row 1 [[.nils]],rdO b q2,.row 1 [[.p (fdL l2)]]]) (by simp) (hok q2 l2) (by simp[below,hwi])⟩
  simp-implicitDefEqProofs[hfl,hwl]
  rw[←hfl]
  refine aR (fun m:Nat=>am 49 [(2,.ptr 0 1 0 0),(4,.ptr 1 2 0 0),(5,.ptr 2 1 0 0),(6,.p (.int .i64 i)),(7,.p (.int .i64 ((m:Int)-1)))]) (fun _=>[.row 1 [[.nils]],rdO b (q+1),.row 1 [[.p (fdL l)]]]) (fun m=>m≤l.length) (fun m=>m) l.length (Nat.le_refl _) ?_ ?_
  ·exact ab (h:=[AO.row 1 [[.nils]],rdO b (q+1),.row 1 [[.p (fdL l)]]]) (by simp) (hok (q+1) l) (by simp[below])
  intro m hm
  simp-implicitDefEqProofs[]
  refine bc (fun hm1=>?_) (fun hm1=>?_)
  ·simp at hm1
   have hwm:IntKind.i64.wrap ((m:Int)-1-1)=(m:Int)-1-1:=ag (by omega) (by omega)
   have hcb:=vF G l (by omega) ((m:Int)-1)
   have hnl:∀l,CD l= .lst 1 (l.map fun(n:Nat)=>[.int .i64 (n:Int)]):=fun _=>rfl
   simp-implicitDefEqProofs[]
   refine hcb.use ?_
   simp-implicitDefEqProofs[hnl]
   refine bc (fun hc=>?_) (fun hc=>?_)
   ·simp-implicitDefEqProofs[]
    exact⟨l,_,rfl,hz⟩
   ·simp-implicitDefEqProofs[]
    exact⟨m-1,by omega,by omega,ab (h:=[AO.row 1 [[.nils]],rdO b (q+1),.row 1 [[.p (fdL l)]]]) (by simp) (hok (q+1) l) (by simp[below];omega)⟩
  ·exact ab (h:=[AO.row 1 [[.nils]],rdO b (q+1),.row 1 [[.p (fdL l)]]]) (by simp) (hok (q+1) l) (by simp[below])
 ·rintro⟨l,q,i⟩ ⟨hz,hq⟩
  simp only at hz hq
  have hll:=ck l
  have hfl:fdL l= .lst 3 (l.map Fd.cs):=rfl
  have hw:IntKind.i64.wrap ((l.length:Int)-1)=(l.length:Int)-1:=ag (by omega) (by omega)
  simp-implicitDefEqProofs[hfl,hw]
  refine(Ce G (args:=[.p (BG [(l.length:Int)-1,0,1,-1,l.length])]) (Q:=fun v q2=>∃n:Int,v= .p (.int .i64 n)∧q2=q+1) ((tG G hbt hbl (p:=q) (by omega) _ (by simp) (by simp) []).mono fun x h ⟨n,_,e1,e2⟩=>⟨_,_,e1,e2,n,rfl,rfl⟩) (fun v q ⟨k,e,_⟩=>by rw[e];simp[below]) (k:=1) rfl (by simp[below])).mono ?_
  rintro r h ⟨v,q2,rfl,rfl,n,rfl,rfl⟩
  simp-implicitDefEqProofs[aa]
  exact⟨l,n,rfl,hz⟩
theorem pD(code:List Int)(hb:Byt code):AC Tryd.prog G cz [.p (mT code)] [] fun x _=>DrK 900000000 x:=by
 refine AC.go kK ?_
 simp-implicitDefEqProofs[gh]
 refine(uQ G (qN G code hb) vf (by simp) _).mono ?_
 rintro r h ⟨⟨l,k,rfl,hz⟩,rfl⟩
 simp-implicitDefEqProofs[aa]
 exact⟨l,k,rfl,hz⟩
def Fd.more(f:Fd):Fd:=⟨f.name,f.params,f.body++[⟨1,[122,113],[⟨1,0,[],[]⟩],[],[]⟩]⟩
theorem ya(f:Fd):iO f.more=iO f+1:=by
 have h:∀a b:List Sm,dv (a++b)=dv a+dv b:=by
  intro a b
  induction a with
  |nil=>rw[List.nil_append,dv,Nat.zero_add]
  |cons s r ih=>rw[List.cons_append,dv,dv,ih];omega
 simp only[iO,Fd.more,h,dv,qO]
 simp only[if_pos]
 omega
theorem ym{l:List Fd}{k:Nat}{f:Fd}(hk:l[k]?=some f)(h0:cD (l.take k++[f.more])=0):mb (l.take k++[f.more]) k=iO f+1:=by
 have hkl:=(List.getElem?_eq_some_iff.1 hk).1
 have hl:(l.take k).length=k:=by rw[List.length_take];omega
 have hi:inR k 0 (((l.take k++[f.more]).length:Int)-1)=true:=by
  rw[List.length_append,hl,List.length_singleton];simp[inR]
 have hg:(l.take k++[f.more])[k]?=some f.more:=by
  rw[List.getElem?_append_right (by omega),hl,Nat.sub_self];rfl
 rw[mb,if_pos ⟨h0,hi⟩]
 simp only[Int.toNat_natCast,hg,ya]
 omega
def K_laws_FnCountVars:AK:= .seq (.reg [oJ 2 (.mov (.c (.p (.bool false))))]) (.seq (.seq (.reg [oM 9 0,oJ 10 (.len false (.t 9)),oJ 11 (.bin .gtr (.t 10) (.c (.p (.int .i64 1048576))))]) (.cond (.t 11) (.seq (.reg [oJ 2 (.mov (.c (.p (.bool true))))]) (.ret)) (.skip))) (.seq (.reg [oM 13 0,oJ 14 (.call cz [(.t 13)]),oM 12 14,oJ 15 (.ext 0 (.t 12)),oJ 16 (.ext 1 (.t 12)),oJ 3 (.alloc [.nils]),oS 3 15,oM 4 16]) (.seq (.reg [oJ 17 (.ld (some 1) (.t 3)),oM 18 4,oJ 19 (.call bY [(.t 17),(.t 18)]),oM 5 19]) (.seq (.seq (.reg [oM 20 5,oJ 21 (.ld (some 1) (.t 3)),oM 22 4,oJ 23 (.call cb [(.t 21),(.t 22)]),oJ 24 (.bin .neq (.t 20) (.t 23)),oM 25 24,⟨(some 26),some (25,false),.mov (.t 5)⟩,⟨(some 27),some (25,false),.bin .lss (.t 26) (.c (.p (.int .i64 0)))⟩,oJ 28 (.pick (.t 25) (.c (.p (.bool true))) (.t 27))]) (.cond (.t 28) (.seq (.reg [oM 29 5,oJ 30 (.ld (some 1) (.t 3)),oM 31 4,oJ 32 (.call cb [(.t 30),(.t 31)]),oJ 33 (.bin .eql (.t 29) (.t 32)),oM 34 33,⟨(some 35),some (34,true),.mov (.t 5)⟩,⟨(some 36),some (34,true),.bin .eql (.t 35) (.c (.p (.int .i64 (-1))))⟩,oJ 37 (.pick (.t 34) (.t 36) (.c (.p (.bool false)))),oM 2 37]) (.ret)) (.skip))) (.seq (.reg [oF 38 0 3,oL 39 38,oM 40 4,oJ 41 (.idxS 3 (.t 39) (.t 40)),oJ 42 (.ld (some 3) (.t 41)),oJ 6 (.alloc [(.p (.str [])),.nils,.nils]),⟨none,none,.st 3 (.t 6) (.t 42)⟩]) (.cut (.reg [oJ 43 (.bsl 5 [(.p (.int .i64 0)),(.p (.str [])),.nils,.nils,.nils] 0 []),oF 44 2 6,oL 45 44,oJ 46 (.app 5 96 (.t 43) (.t 45)),oJ 47 (.bld [(.p (.int .i64 0)),(.p (.int .i64 0)),(.p (.str [])),.nils] [(0,1,(.c (.p (.int .i64 1))))]),oJ 48 (.bsl 4 [(.p (.int .i64 0)),(.p (.int .i64 0)),(.p (.str [])),.nils] 1 [(0,4,(.t 47))]),oJ 49 (.bld [(.p (.int .i64 0)),(.p (.str [])),.nils,.nils,.nils] [(0,1,(.c (.p (.int .i64 1)))),(1,1,(.c (.p (.str [122,113])))),(2,1,(.t 48))]),oJ 50 (.bsl 5 [(.p (.int .i64 0)),(.p (.str [])),.nils,.nils,.nils] 1 [(0,5,(.t 49))]),oJ 51 (.app 5 96 (.t 46) (.t 50)),oF 52 2 6,oS 52 51]) (.cut (.reg [oF 54 0 3,oM 56 4,oL 55 54,oJ 57 (.slS 3 (.t 55) none (some (.t 56))),oJ 59 (.ld (some 3) (.t 6)),oJ 60 (.bslP 3 [(.p (.str [])),.nils,.nils] 1 [(0,3,(.t 59))]),oJ 53 (.bsl 3 [(.p (.str [])),.nils,.nils] 0 []),⟨none,none,.chk none 54 55⟩,⟨none,none,.chk (some 3) 6 59⟩,oJ 58 (.app 3 64 (.t 53) (.t 57)),⟨none,none,.chk (some 3) 6 59⟩,oJ 61 (.app 3 64 (.t 58) (.t 60)),oM 7 61]) (.seq (.reg [oM 62 7,oJ 63 (.bld [.nils] [(0,1,(.t 62))]),oJ 8 (.alloc [.nils]),oS 8 63]) (.seq (.reg [oM 64 5,oF 65 0 3,oL 66 65,oM 67 4,oJ 68 (.idxS 3 (.t 66) (.t 67)),oF 69 1 68,oL 70 69,oJ 71 (.len false (.t 70)),oJ 72 (.bin .geq (.t 64) (.t 71)),oM 73 72,⟨(some 74),some (73,true),.ld (some 1) (.t 8)⟩,⟨(some 75),some (73,true),.call bS [(.t 74)]⟩,⟨(some 76),some (73,true),.bin .neq (.t 75) (.c (.p (.int .i64 0)))⟩,⟨(some 77),some (73,true),.mov (.t 76)⟩,⟨(some 78),some (77,false),.ld (some 1) (.t 8)⟩,⟨(some 79),some (77,false),.mov (.t 4)⟩,⟨(some 80),some (77,false),.call bY [(.t 78),(.t 79)]⟩,⟨(some 81),some (77,false),.mov (.t 5)⟩,⟨(some 82),some (77,false),.bin .add (.t 81) (.c (.p (.int .i64 1)))⟩,⟨(some 83),some (77,false),.bin .eql (.t 80) (.t 82)⟩,⟨(some 84),some (73,true),.pick (.t 77) (.c (.p (.bool true))) (.t 83)⟩,oJ 85 (.pick (.t 73) (.t 84) (.c (.p (.bool false)))),oM 2 85]) (.ret))))))))))
theorem mo:K_laws_FnCountVars.whole=F_laws_FnCountVars.ak:=rfl
variable (hK:G iW=some gm) (hS:G gR=some [.tbl opK opV])
include hK hS
theorem px(code:List Int)(hb:Byt code)(hl:code.length≤9223372036854775807):VF Tryd.prog G io [.p (mT code)] (.p (.bool true)):=by
 refine AC.goK mu mo ?_
 have hbl:mT code= .lst 1 (code.map fun n=>[.int .u8 n]):=rfl
 simp-implicitDefEqProofs[K_laws_FnCountVars,F_laws_FnCountVars,hbl]
 rw[←hbl]
 by_cases hc:(1048576:Int)<code.length
 ·simp-implicitDefEqProofs[hc]
 simp-implicitDefEqProofs[hc]
 refine(uQ G (pD G code hb) vf (by simp) _).mono ?_
 rintro r h ⟨⟨l,k,rfl,hz⟩,rfl⟩
 have hi:=oZ G hK hS l (by omega) k
 have hs:=uv G l (by omega) k
 simp-implicitDefEqProofs[aa]
 refine hi.use ?_
 simp-implicitDefEqProofs[]
 refine hs.use ?_
 by_cases hcn:cD l=0∧inR k 0 ((l.length:Int)-1)=true
 case neg=>
  have e:mb l k= -1:=if_neg hcn
  rw[e] at hs⊢
  simp-implicitDefEqProofs[]
  refine hs.use ?_
  simp-implicitDefEqProofs[]
 have hk:0≤k∧k≤(l.length:Int)-1:=by simpa[inR] using hcn.2
 obtain⟨n,rfl⟩:∃n:Nat,k=n:=⟨k.toNat,by omega⟩
 have hn:n<l.length:=by omega
 have hg:=List.getElem?_eq_getElem hn
 have hcv:mb l n=(iO l[n]:Int):=by rw[mb,if_pos hcn];simp only[Int.toNat_natCast,hg]
 have hll:=ck l
 have hm:=dg (List.getElem_mem hn)
 rw[hcv] at hs⊢
 generalize l[n]=f at hg hcv hm hs⊢
 have hcs:f.cs=[.str f.name,ay f.params,smL f.body]:=rfl
 have hfl:fdL l= .lst 3 (l.map Fd.cs):=rfl
 have hml:smL f.body= .lst 5 (f.body.map Sm.cs):=rfl
 have hfz:f.sz=1+f.name.length+(f.params.length+(f.params.map List.length).sum)+aC f.body:=rfl
 have hbl2:=bO f.body
 have hv1:f.params.length≤iO f:=by simp[iO]
 have hv2:iO f≤1073741824:=by
  have:=oO f.body
  simp only[iO];omega
 have hnn:¬(iO f:Int)<0:=by omega
 simp-implicitDefEqProofs[hnn,hfl,hg,hcs,hml]
 have hmc:f.more.cs=[.str f.name,ay f.params,smL f.more.body]:=rfl
 have hmb:f.more.body=f.body++[⟨1,[122,113],[⟨1,0,[],[]⟩],[],[]⟩]:=rfl
 have hmz:f.more.sz≤f.sz+10:=by
  have h1:f.more.sz=1+f.name.length+(f.params.length+(f.params.map List.length).sum)+aC f.more.body:=rfl
  rw[hmb,bi] at h1
  simp[aC,Sm.sz,aP,Ex.sz] at h1
  omega
 refine iu (am 86 [(3,.ptr 0 1 0 0),(4,.p (.int .i64 n)),(5,.p (.int .i64 (iO f))),(6,.ptr 1 3 0 0)]) [.row 1 [[.p (.lst 3 (l.map Fd.cs))]],.row 3 [[.p (.str f.name),.p (ay f.params),.p (smL f.more.body)]]] ?_ ?_
 ·simp-implicitDefEqProofs[]
  refine⟨⟨by omega,by omega⟩,⟨by omega,by omega⟩,?_⟩
  refine gE 2 (by omega) (by simp) rfl (.same (by simp[okO,below]) (.one (.keep (by simp[below]) (.keep (by simp[below]) (.one ?_ .nil))) (.nil _))) ?_
  ·refine ky (l:=f.body) (s:=⟨1,[122,113],[⟨1,0,[],[]⟩],[],[]⟩) (r:=[.p (.int .i64 1),.p (.str [122,113]),.sl 4 4 0 1,.nils,.nils]) ?_ (bC (bg (h:=_) rfl (Ex.cs_len _) (dV (.nils 4))) (.nils 5) (.nils 5))
   have e:List.map ((fun x=>List.map AV.p x)∘Sm.cs) f.body=smR f.body:=rfl
   rw[e];rfl
  ·exact⟨.keep (by simp[below]) .nil,.keep (by simp[below]) .nil,.keep (by simp[below]) .nil,.keep (by simp[below]) .nil,trivial⟩
 have hmin:min n l.length=n:=Nat.min_eq_left (by omega)
 refine iu (am 86 [(3,.ptr 0 1 0 0),(4,.p (.int .i64 n)),(5,.p (.int .i64 (iO f))),(7,.p (fdL (l.take n++[f.more])))]) [.row 1 [[.p (.lst 3 (l.map Fd.cs))]]] ?_ ?_
 ·simp-implicitDefEqProofs[hmin]
  refine⟨by omega,⟨by omega,by omega⟩,⟨by omega,by omega⟩,?_⟩
  refine gE 1 (by omega) (by simp) rfl (.same (by simp[okO,below]) (.nil _)) ?_
  refine⟨.keep (by simp[below]) .nil,.keep (by simp[below]) .nil,.keep (by simp[below]) .nil,.one ?_ .nil,trivial⟩
  have hl2:(l.take n).length=n:=by rw[List.length_take];omega
  have:=vb (h:=kf 1 [AO.row 1 [[AV.p (PV.lst 3 (List.map Fd.cs l))]],AO.row 3 [[AV.p (PV.str f.name),AV.p (ay f.params),AV.p (smL f.more.body)]],AO.dead,AO.dead,AO.row 3 (List.take n (List.take n (List.map ((fun x=>List.map AV.p x)∘Fd.cs) l))++[[AV.p (PV.str f.name),AV.p (ay f.params),AV.p (smL f.more.body)]])]) (id:=4) (l:=l.take n) (f:=f.more) (by
   rw[hl2]
   have e1:aS (l.take n)=List.take n (l.map ((fun x=>List.map AV.p x)∘Fd.cs)):=by rw[aS,List.map_take];rfl
   rw[e1];rfl)
  rwa[hl2] at this
 have hx:aN (l.take n++[f.more])≤1073741824:=by
  have h1:aN l=aN (l.take n)+(f.sz+aN (l.drop (n+1))):=by
   have e:=jE hg
   have:aN l=aN (l.take n++f::l.drop (n+1)):=by rw[←e]
   rw[this,gg];simp[aN]
  have h3:aN (l.take n++[f.more])=aN (l.take n)+f.more.sz:=by rw[gg];simp[aN]
  omega
 have hcm:=ym hg
 have hci:=kL G hK hS _ hx
 have hvi:=oZ G hK hS _ hx n
 generalize l.take n++[f.more]=x at hcm hci hvi
 have hpl:ay f.params= .lst 1 (f.params.map fun w=>[.str w]):=rfl
 have hge:(f.params.length:Int)≤(iO f:Int):=by omega
 have hwv:IntKind.i64.wrap ((iO f:Int)+1)=(iO f:Int)+1:=ag (by omega) (by omega)
 simp-implicitDefEqProofs[hg,hcs,hpl,hge]
 refine hci.use ?_
 by_cases h0:cD x=0
 ·have hcm:=hcm h0
  rw[hcm] at hvi
  simp-implicitDefEqProofs[h0]
  refine hvi.use ?_
  simp-implicitDefEqProofs[hwv]
 ·simp-implicitDefEqProofs[h0]
end Go.Proofs.YtiojgfhdcpppcaaDoor
