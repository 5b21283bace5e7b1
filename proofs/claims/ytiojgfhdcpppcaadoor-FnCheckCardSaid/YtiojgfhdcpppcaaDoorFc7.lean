/-
  Contracts and lemmas that the card needs, part 7.
-/
import Derived.Test.YtiojgfhdcpppcaaDoorFc6
namespace Go.Proofs.YtiojgfhdcpppcaaDoor
open Go Go.Aw
set_option maxRecDepth 100000
set_option maxHeartbeats 4000000
variable (G : Glob)
/-- A program that was drawn, whatever it is. -/
def PgQ (p n m : Nat) (v : AV) (q : Nat) : Prop := (∃ l : List Fd, v = .agg [.p (fdL l)] ∧ fdsZ l ≤ n) ∧ p ≤ q ∧ q ≤ p + m
theorem rows_view {h : List AO} {id sz : Nat} {rows : List (List AV)} {es : List (List PV)} (he : h[id]? = some (.row sz rows)) (hl : rows.length = es.length) (hs : ∀ e ∈ es, e.length = sz) (hv : ∀ (i j : Nat) (e : List PV) (q : PV) (e' : List AV) (a : AV), es[i]? = some e → e[j]? = some q → rows[i]? = some e' → e'[j]? = some a → View h a q) {n : Nat} (hn : n = es.length) : View h (.sl id sz 0 n) (.lst sz es) := by
  subst hn
  exact .sl id sz 0 rows es he (by omega) hs fun i j e q e' a a1 a2 a3 a4 => hv i j e q e' a a1 a2 (by rwa [Nat.zero_add] at a3) a4
theorem pure_cells {h : List AO} {e : List PV} {j : Nat} {q : PV} {a : AV} (h1 : e[j]? = some q) (h2 : (e.map AV.p)[j]? = some a) : View h a q := by
  rw [List.getElem?_map, h1] at h2; cases h2; exact .p _
/-- Functions, one of them in parts. -/
theorem fset_view {h : List AO} {id k : Nat} {l : List Fd} {f : Fd} {P B : AV} (he : h[id]? = some (.row 3 ((fnsR l).set k [.p (.str f.name), P, B]))) (hk : k < l.length) (hP : View h P (strL f.params)) (hB : View h B (smL f.body)) {n : Nat} (hn : n = l.length) : View h (.sl id 3 0 n) (fdL (l.set k f)) := by
  refine rows_view (es := (l.set k f).map Fd.cs) he (by simp [fnsR]) (fun e he => by obtain ⟨x, _, rfl⟩ := List.mem_map.1 he; simp) (fun i j e q e' a a1 a2 a3 a4 => ?_) (by simpa using hn)
  rw [List.getElem?_map] at a1
  by_cases hik : k = i
  · subst hik
    rw [List.getElem?_set_self hk] at a1
    rw [List.getElem?_set_self (by simpa [fnsR] using hk)] at a3
    cases a1; cases a3
    exact fd_cells (s := f.name) (ps := f.params) (bd := f.body) hP hB j q a a2 a4
  · rw [List.getElem?_set_ne hik] at a1 a3
    obtain ⟨g, g1, g2⟩ := Option.map_eq_some_iff.1 a1
    subst g2
    rw [fnsR, List.getElem?_map, g1] at a3
    cases a3
    exact pure_cells a2 a4
theorem str1_view {h : List AO} {id : Nat} {l : List (List UInt8)} {s : List UInt8} (he : h[id]? = some (.row 1 (List.take l.length (l.map fun w => [AV.p (.str w)]) ++ [[.p (.str s)]]))) : View h (.sl id 1 0 (l.length + 1)) (strL (l ++ [s])) := by
  have e : h[id]? = some (strO (l ++ [s])) := by rw [he, List.take_of_length_le (by simp)]; simp [strO]
  have := strO_view e
  rwa [List.length_append, List.length_singleton] at this
theorem sm1_view {h : List AO} {id : Nat} {l : List Sm} {s : Sm} {r : List AV} (he : h[id]? = some (.row 5 (List.take l.length (smR l) ++ [r]))) (hr : ∀ (j : Nat) (q : PV) (a : AV), s.cs[j]? = some q → r[j]? = some a → View h a q) : View h (.sl id 5 0 (l.length + 1)) (smL (l ++ [s])) := by
  have hl := smR_len l
  refine rows_view (es := (l ++ [s]).map Sm.cs) he (by simp [hl]) (fun e he => by obtain ⟨x, _, rfl⟩ := List.mem_map.1 he; simp) (fun i j e q e' a a1 a2 a3 a4 => ?_) (by simp)
  rw [List.take_of_length_le (by omega)] at a3
  rw [List.map_append] at a1
  rcases Nat.lt_or_ge i l.length with hi | hi
  · rw [List.getElem?_append_left (by simpa using hi)] at a1
    rw [List.getElem?_append_left (by omega)] at a3
    rw [List.getElem?_map] at a1
    obtain ⟨g, g1, g2⟩ := Option.map_eq_some_iff.1 a1
    subst g2
    rw [smR, List.getElem?_map, g1] at a3
    cases a3
    exact pure_cells a2 a4
  · rw [List.getElem?_append_right (by simpa using hi)] at a1
    rw [List.getElem?_append_right (by omega), hl] at a3
    simp only [List.length_map] at a1
    generalize i - l.length = k at a1 a3
    cases k with
    | zero => cases a1; cases a3; exact hr j q a a2 a4
    | succ k => simp at a1
theorem fd1_view {h : List AO} {id : Nat} {l : List Fd} {f : Fd} (he : h[id]? = some (.row 3 (List.take l.length (fnsR l) ++ [f.cs.map .p]))) : View h (.sl id 3 0 (l.length + 1)) (fdL (l ++ [f])) := by
  have hl := fnsR_len l
  have := fnsR_view (h := h) (id := id) (l := l ++ [f]) (by rw [he, List.take_of_length_le (by omega)]; simp [fnsR])
  rwa [List.length_append, List.length_singleton] at this
theorem fdsZ_set (l : List Fd) (k : Nat) (f : Fd) : fdsZ (l.set k f) ≤ fdsZ l + f.sz := by
  by_cases hk : k < l.length
  · rw [set_take_drop f hk]
    have e : l = l.take k ++ l.drop k := (List.take_append_drop _ _).symm
    have e2 : l.drop k = l[k] :: l.drop (k + 1) := List.drop_eq_getElem_cons hk
    have h1 : fdsZ l = fdsZ (l.take k) + fdsZ (l.drop k) := by rw [← fdsZ_app, ← e]
    rw [fdsZ_app]
    have h3 : fdsZ (f :: l.drop (k + 1)) = f.sz + fdsZ (l.drop (k + 1)) := by simp [fdsZ]
    have h4 : fdsZ (l.drop k) = l[k].sz + fdsZ (l.drop (k + 1)) := by rw [e2]; unfold fdsZ; rw [List.map_cons, List.sum_cons]
    omega
  · rw [List.set_eq_of_length_le (by omega)]; omega
theorem fdsZ_mem' {l : List Fd} {f : Fd} (h : f ∈ l) : f.sz ≤ fdsZ l := by
  induction l with
  | nil => cases h
  | cons x r ih =>
    have e : fdsZ (x :: r) = x.sz + fdsZ r := by simp [fdsZ]
    rcases List.mem_cons.1 h with rfl | h
    · omega
    · have := ih h; omega
def K_spec_l3Bent : AK := .seq (.reg [⟨(some 2), none, .alloc [.nils]⟩]) (.seq (.reg [⟨(some 9), none, .mov (.t 0)⟩, ⟨(some 10), none, .call n_spec_l3Prog [(.t 9)]⟩, ⟨(some 3), none, .alloc [.nils]⟩, ⟨none, none, .st 1 (.t 3) (.t 10)⟩]) (.seq (.reg [⟨(some 11), none, .fldA 0 (.t 3)⟩, ⟨(some 12), none, .ld none (.t 11)⟩, ⟨(some 13), none, .fldA 0 (.t 3)⟩, ⟨(some 14), none, .ld none (.t 13)⟩, ⟨(some 15), none, .len false (.t 14)⟩, ⟨(some 16), none, .bin .sub (.t 15) (.c (.p (.int .i64 1)))⟩, ⟨(some 17), none, .idxS 3 (.t 12) (.t 16)⟩, ⟨(some 18), none, .ld (some 3) (.t 17)⟩, ⟨(some 4), none, .alloc [(.p (.str [])), .nils, .nils]⟩, ⟨none, none, .st 3 (.t 4) (.t 18)⟩]) (.cut (.seq (.reg [⟨(some 19), none, .mov (.t 0)⟩, ⟨(some 20), none, .call n_spec_l30Rd_pick [(.t 19), (.c (.p (.int .i64 32)))]⟩]) (.blk 0 (.seq (.reg [⟨(some 22), none, .bin .eql (.t 20) (.c (.p (.int .i64 0)))⟩, ⟨(some 21), none, .mov (.t 22)⟩]) (.cond (.t 21) (.reg [⟨(some 23), none, .mov (.t 0)⟩, ⟨(some 24), none, .bsl 1 [(.p (.str []))] 4 [(0, 1, (.c (.p (.str [102])))), (1, 1, (.c (.p (.str [100, 111])))), (2, 1, (.c (.p (.str [])))), (3, 1, (.c (.p (.str [103]))))]⟩, ⟨(some 25), none, .call n_spec_l30Rd_of [(.t 23), (.t 24)]⟩, ⟨(some 26), none, .fldA 0 (.t 4)⟩, ⟨none, none, .st 1 (.t 26) (.t 25)⟩]) (.seq (.reg [⟨(some 28), none, .bin .eql (.t 20) (.c (.p (.int .i64 1)))⟩, ⟨(some 27), none, .mov (.t 28)⟩]) (.cond (.t 27) (.reg [⟨(some 29), none, .bsl 1 [(.p (.str []))] 0 []⟩, ⟨(some 30), none, .fldA 1 (.t 4)⟩, ⟨(some 31), none, .ld none (.t 30)⟩, ⟨(some 32), none, .app 1 16 (.t 29) (.t 31)⟩, ⟨(some 33), none, .mov (.t 0)⟩, ⟨(some 34), none, .bsl 1 [(.p (.str []))] 3 [(0, 1, (.c (.p (.str [97])))), (1, 1, (.c (.p (.str [120])))), (2, 1, (.c (.p (.str [105, 102]))))]⟩, ⟨(some 35), none, .call n_spec_l30Rd_of [(.t 33), (.t 34)]⟩, ⟨(some 36), none, .bsl 1 [(.p (.str []))] 1 [(0, 1, (.t 35))]⟩, ⟨(some 37), none, .app 1 16 (.t 32) (.t 36)⟩, ⟨(some 38), none, .fldA 1 (.t 4)⟩, ⟨none, none, .st 1 (.t 38) (.t 37)⟩]) (.seq (.reg [⟨(some 40), none, .bin .eql (.t 20) (.c (.p (.int .i64 2)))⟩, ⟨(some 39), none, .mov (.t 40)⟩]) (.cond (.t 39) (.reg [⟨(some 41), none, .bsl 5 [(.p (.int .i64 0)), (.p (.str [])), .nils, .nils, .nils] 0 []⟩, ⟨(some 42), none, .fldA 2 (.t 4)⟩, ⟨(some 43), none, .ld none (.t 42)⟩, ⟨(some 44), none, .app 5 96 (.t 41) (.t 43)⟩, ⟨(some 45), none, .mov (.t 0)⟩, ⟨(some 46), none, .call n_spec_l2Bent [(.t 45)]⟩, ⟨(some 47), none, .bsl 4 [(.p (.int .i64 0)), (.p (.int .i64 0)), (.p (.str [])), .nils] 1 [(0, 4, (.t 46))]⟩, ⟨(some 48), none, .bld [(.p (.int .i64 0)), (.p (.str [])), .nils, .nils, .nils] [(0, 1, (.c (.p (.int .i64 3)))), (2, 1, (.t 47))]⟩, ⟨(some 49), none, .bsl 5 [(.p (.int .i64 0)), (.p (.str [])), .nils, .nils, .nils] 1 [(0, 5, (.t 48))]⟩, ⟨(some 50), none, .app 5 96 (.t 44) (.t 49)⟩, ⟨(some 51), none, .fldA 2 (.t 4)⟩, ⟨none, none, .st 1 (.t 51) (.t 50)⟩]) (.seq (.reg [⟨(some 53), none, .bin .eql (.t 20) (.c (.p (.int .i64 3)))⟩, ⟨(some 52), none, .mov (.t 53)⟩]) (.cond (.t 52) (.reg [⟨(some 54), none, .bsl 5 [(.p (.int .i64 0)), (.p (.str [])), .nils, .nils, .nils] 0 []⟩, ⟨(some 55), none, .fldA 2 (.t 4)⟩, ⟨(some 56), none, .ld none (.t 55)⟩, ⟨(some 57), none, .app 5 96 (.t 54) (.t 56)⟩, ⟨(some 58), none, .mov (.t 0)⟩, ⟨(some 59), none, .call n_spec_l30Rd_pick [(.t 58), (.c (.p (.int .i64 10)))]⟩, ⟨(some 60), none, .mov (.t 0)⟩, ⟨(some 61), none, .bsl 1 [(.p (.str []))] 3 [(0, 1, (.c (.p (.str [])))), (1, 1, (.c (.p (.str [97])))), (2, 1, (.c (.p (.str [122, 122]))))]⟩, ⟨(some 62), none, .call n_spec_l30Rd_of [(.t 60), (.t 61)]⟩, ⟨(some 63), none, .mov (.t 0)⟩, ⟨(some 64), none, .call n_spec_l2Any [(.t 63), (.c (.p (.int .i64 2)))]⟩, ⟨(some 65), none, .bsl 4 [(.p (.int .i64 0)), (.p (.int .i64 0)), (.p (.str [])), .nils] 1 [(0, 4, (.t 64))]⟩, ⟨(some 66), none, .bld [(.p (.int .i64 0)), (.p (.str [])), .nils, .nils, .nils] [(0, 1, (.t 59)), (1, 1, (.t 62)), (2, 1, (.t 65))]⟩, ⟨(some 67), none, .bsl 5 [(.p (.int .i64 0)), (.p (.str [])), .nils, .nils, .nils] 1 [(0, 5, (.t 66))]⟩, ⟨(some 68), none, .app 5 96 (.t 57) (.t 67)⟩, ⟨(some 69), none, .fldA 2 (.t 4)⟩, ⟨none, none, .st 1 (.t 69) (.t 68)⟩]) (.seq (.reg [⟨(some 71), none, .bin .eql (.t 20) (.c (.p (.int .i64 4)))⟩, ⟨(some 70), none, .mov (.t 71)⟩]) (.cond (.t 70) (.seq (.reg [⟨(some 72), none, .bld [(.p (.int .i64 0)), (.p (.int .i64 0)), (.p (.str [])), .nils] [(0, 1, (.c (.p (.int .i64 1))))]⟩, ⟨(some 73), none, .bsl 4 [(.p (.int .i64 0)), (.p (.int .i64 0)), (.p (.str [])), .nils] 1 [(0, 4, (.t 72))]⟩, ⟨(some 74), none, .bld [(.p (.int .i64 0)), (.p (.str [])), .nils, .nils, .nils] [(0, 1, (.c (.p (.int .i64 6)))), (2, 1, (.t 73))]⟩, ⟨(some 5), none, .alloc [(.p (.int .i64 0)), (.p (.str [])), .nils, .nils, .nils]⟩, ⟨none, none, .st 5 (.t 5) (.t 74)⟩]) (.cut (.seq (.reg [⟨(some 75), none, .mov (.t 0)⟩, ⟨(some 76), none, .call n_spec_l30Rd_pick [(.t 75), (.c (.p (.int .i64 5)))]⟩, ⟨(some 6), none, .mov (.t 76)⟩]) (.blk 1 (.loop (.seq (.seq (.reg [⟨(some 77), none, .mov (.t 6)⟩, ⟨(some 78), none, .bin .gtr (.t 77) (.c (.p (.int .i64 0)))⟩]) (.cond (.t 78) (.skip) (.exit 1))) (.seq (.blk 2 (.reg [⟨(some 81), none, .mov (.t 0)⟩, ⟨(some 82), none, .bslP 1 [(.p (.int .i64 0))] 2 [(0, 1, (.c (.p (.int .i64 5)))), (1, 1, (.c (.p (.int .i64 6))))]⟩, ⟨(some 84), none, .fldA 2 (.t 5)⟩, ⟨(some 85), none, .ld none (.t 84)⟩, ⟨(some 86), none, .ld (some 5) (.t 5)⟩, ⟨(some 87), none, .bslP 5 [(.p (.int .i64 0)), (.p (.str [])), .nils, .nils, .nils] 1 [(0, 5, (.t 86))]⟩, ⟨(some 83), none, .call n_spec_l30Rd_num [(.t 81), (.t 82)]⟩, ⟨none, none, .chk none 84 85⟩, ⟨none, none, .chk (some 5) 5 86⟩, ⟨(some 88), none, .bld [(.p (.int .i64 0)), (.p (.str [])), .nils, .nils, .nils] [(0, 1, (.t 83)), (2, 1, (.t 85)), (3, 1, (.t 87))]⟩, ⟨none, none, .st 5 (.t 5) (.t 88)⟩])) (.reg [⟨(some 79), none, .mov (.t 6)⟩, ⟨(some 80), none, .bin .sub (.t 79) (.c (.p (.int .i64 1)))⟩, ⟨(some 6), none, .mov (.t 80)⟩])))))) (.reg [⟨(some 90), none, .fldA 2 (.t 4)⟩, ⟨(some 91), none, .ld none (.t 90)⟩, ⟨(some 93), none, .ld (some 5) (.t 5)⟩, ⟨(some 94), none, .bslP 5 [(.p (.int .i64 0)), (.p (.str [])), .nils, .nils, .nils] 1 [(0, 5, (.t 93))]⟩, ⟨(some 89), none, .bsl 5 [(.p (.int .i64 0)), (.p (.str [])), .nils, .nils, .nils] 0 []⟩, ⟨none, none, .chk none 90 91⟩, ⟨none, none, .chk (some 5) 5 93⟩, ⟨(some 92), none, .app 5 96 (.t 89) (.t 91)⟩, ⟨none, none, .chk (some 5) 5 93⟩, ⟨(some 95), none, .app 5 96 (.t 92) (.t 94)⟩, ⟨(some 96), none, .fldA 2 (.t 4)⟩, ⟨none, none, .st 1 (.t 96) (.t 95)⟩]))) (.seq (.reg [⟨(some 98), none, .bin .eql (.t 20) (.c (.p (.int .i64 5)))⟩, ⟨(some 97), none, .mov (.t 98)⟩]) (.cond (.t 97) (.seq (.reg [⟨(some 99), none, .bld [.nils] []⟩, ⟨none, none, .st 1 (.t 2) (.t 99)⟩]) (.ret)) (.seq (.reg [⟨(some 101), none, .bin .eql (.t 20) (.c (.p (.int .i64 6)))⟩, ⟨(some 100), none, .mov (.t 101)⟩]) (.cond (.t 100) (.seq (.reg [⟨(some 102), none, .mov (.t 0)⟩, ⟨(some 103), none, .bsl 1 [(.p (.int .i64 0))] 3 [(0, 1, (.c (.p (.int .i64 20)))), (1, 1, (.c (.p (.int .i64 40)))), (2, 1, (.c (.p (.int .i64 41))))]⟩, ⟨(some 104), none, .call n_spec_l30Rd_num [(.t 102), (.t 103)]⟩, ⟨(some 7), none, .mov (.t 104)⟩]) (.blk 3 (.loop (.seq (.seq (.reg [⟨(some 105), none, .mov (.t 7)⟩, ⟨(some 106), none, .bin .gtr (.t 105) (.c (.p (.int .i64 0)))⟩]) (.cond (.t 106) (.skip) (.exit 3))) (.seq (.blk 4 (.reg [⟨(some 109), none, .bsl 5 [(.p (.int .i64 0)), (.p (.str [])), .nils, .nils, .nils] 0 []⟩, ⟨(some 110), none, .fldA 2 (.t 4)⟩, ⟨(some 111), none, .ld none (.t 110)⟩, ⟨(some 112), none, .app 5 96 (.t 109) (.t 111)⟩, ⟨(some 113), none, .mov (.t 7)⟩, ⟨(some 114), none, .bld [(.p (.int .i64 0)), (.p (.int .i64 0)), (.p (.str [])), .nils] [(0, 1, (.c (.p (.int .i64 1)))), (1, 1, (.t 113))]⟩, ⟨(some 115), none, .bsl 4 [(.p (.int .i64 0)), (.p (.int .i64 0)), (.p (.str [])), .nils] 1 [(0, 4, (.t 114))]⟩, ⟨(some 116), none, .bld [(.p (.int .i64 0)), (.p (.str [])), .nils, .nils, .nils] [(0, 1, (.c (.p (.int .i64 3)))), (2, 1, (.t 115))]⟩, ⟨(some 117), none, .bsl 5 [(.p (.int .i64 0)), (.p (.str [])), .nils, .nils, .nils] 1 [(0, 5, (.t 116))]⟩, ⟨(some 118), none, .app 5 96 (.t 112) (.t 117)⟩, ⟨(some 119), none, .fldA 2 (.t 4)⟩, ⟨none, none, .st 1 (.t 119) (.t 118)⟩])) (.reg [⟨(some 107), none, .mov (.t 7)⟩, ⟨(some 108), none, .bin .sub (.t 107) (.c (.p (.int .i64 1)))⟩, ⟨(some 7), none, .mov (.t 108)⟩])))))) (.seq (.reg [⟨(some 121), none, .bin .eql (.t 20) (.c (.p (.int .i64 7)))⟩, ⟨(some 120), none, .mov (.t 121)⟩]) (.cond (.t 120) (.seq (.reg [⟨(some 123), none, .fldA 0 (.t 3)⟩, ⟨(some 126), none, .fldA 0 (.t 3)⟩, ⟨(some 124), none, .ld none (.t 123)⟩, ⟨(some 127), none, .ld none (.t 126)⟩, ⟨(some 128), none, .idxS 3 (.t 127) (.c (.p (.int .i64 0)))⟩, ⟨(some 129), none, .ld (some 3) (.t 128)⟩, ⟨(some 130), none, .bslP 3 [(.p (.str [])), .nils, .nils] 1 [(0, 3, (.t 129))]⟩, ⟨(some 122), none, .bsl 3 [(.p (.str [])), .nils, .nils] 0 []⟩, ⟨none, none, .chk none 123 124⟩, ⟨none, none, .chk none 126 127⟩, ⟨none, none, .chk (some 3) 128 129⟩, ⟨(some 125), none, .app 3 64 (.t 122) (.t 124)⟩, ⟨none, none, .chk none 126 127⟩, ⟨none, none, .chk (some 3) 128 129⟩, ⟨(some 131), none, .app 3 64 (.t 125) (.t 130)⟩, ⟨(some 132), none, .bld [.nils] [(0, 1, (.t 131))]⟩, ⟨none, none, .st 1 (.t 2) (.t 132)⟩]) (.ret)) (.skip))))))))))))))))))) (.seq (.reg [⟨(some 133), none, .bsl 3 [(.p (.str [])), .nils, .nils] 0 []⟩, ⟨(some 134), none, .fldA 0 (.t 3)⟩, ⟨(some 135), none, .ld none (.t 134)⟩, ⟨(some 136), none, .app 3 64 (.t 133) (.t 135)⟩, ⟨(some 8), none, .mov (.t 136)⟩]) (.seq (.reg [⟨(some 137), none, .mov (.t 8)⟩, ⟨(some 138), none, .mov (.t 8)⟩, ⟨(some 139), none, .len false (.t 138)⟩, ⟨(some 140), none, .bin .sub (.t 139) (.c (.p (.int .i64 1)))⟩, ⟨(some 141), none, .ld (some 3) (.t 4)⟩, ⟨(some 142), none, .idxS 3 (.t 137) (.t 140)⟩, ⟨none, none, .st 3 (.t 142) (.t 141)⟩]) (.seq (.reg [⟨(some 143), none, .mov (.t 8)⟩, ⟨(some 144), none, .bld [.nils] [(0, 1, (.t 143))]⟩, ⟨none, none, .st 1 (.t 2) (.t 144)⟩]) (.ret)))))))
theorem w_spec_l3Bent : K_spec_l3Bent.whole = F_spec_l3Bent.ak := rfl
structure NsS where (i : Nat) (o : Int) (w : List UInt8) (A B C : PV) (q : Nat)
structure BdS where (i : Nat) (bd : List Sm)
structure CfS where (f : Fd) (q : Nat)
theorem d_l3Bent {b : List Int} (hb : Byt b) (hl : b.length ≤ 2000) {p : Nat} (hp : p ≤ 10000000000) : AC Tryd.prog G n_spec_l3Bent [.ptr 0 2 0 0] [rdO b p] fun x h => ∃ v q, x = .ret v ∧ h = [rdO b q] ∧ PgQ p 500000000 200200000 v q := by
  refine d_close G (AC.goK k_spec_l3Bent w_spec_l3Bent ?_)
  have hprog : AC Tryd.prog G n_spec_l3Prog [.ptr 0 2 0 0] [rdO b p] fun x h => ∃ v q, x = .ret v ∧ h = [rdO b q] ∧ ((∃ l : List Fd, v = .agg [.p (fdL l)] ∧ progOk l = true ∧ fdsZ l ≤ 200000000) ∧ p ≤ q ∧ q ≤ p + 200000000) :=
    (g_prog G hb hl hp).mono fun x h ⟨l, q, e1, e2, e3, e4, e5, e6⟩ => ⟨_, q, e1, e2, ⟨l, rfl, e3, e4⟩, e5, e6⟩
  simp -implicitDefEqProofs [K_spec_l3Bent, F_spec_l3Bent]
  refine (d_rest G hprog _ (by simp [below])).mono ?_
  rintro r h ⟨v, q, rfl, rfl, ⟨l, rfl, hok, hz⟩, h1, h2⟩
  have hlen := ((progOk_iff l).1 hok).1
  obtain ⟨n, hn⟩ : ∃ n, l.length = n + 1 := ⟨l.length - 1, by omega⟩
  have hnl : n < l.length := by omega
  have hfz := fdsZ_mem' (List.getElem_mem hnl)
  obtain ⟨f, hfe⟩ : ∃ f, l[n] = f := ⟨_, rfl⟩
  rw [hfe] at hfz
  have hg : l[n]? = some f := by rw [List.getElem?_eq_getElem hnl, hfe]
  have fin : ∀ (r1 : List (Nat × AV)) (f' : Fd) (q' : Nat) (rest : List AO) (P B : AV), Aw.look r1 0 = .ptr 0 2 0 0 → Aw.look r1 2 = .ptr 1 1 0 0 → Aw.look r1 3 = .ptr 2 1 0 0 → Aw.look r1 4 = .ptr 3 3 0 0 → View (.dead :: .dead :: .dead :: .dead :: rest) P (strL f'.params) → View (.dead :: .dead :: .dead :: .dead :: rest) B (smL f'.body) → f'.sz ≤ 300000000 → q ≤ q' → q' ≤ q + 100000 →
      ∃ s : CfS, (s.f.sz ≤ 300000000 ∧ q ≤ s.q ∧ s.q ≤ q + 100000) ∧ Wk 1 (tsOf 145 r1) (rdO b q' :: .row 1 [[.nils]] :: .row 1 [[.p (.lst 3 (l.map Fd.cs))]] :: .row 3 [[.p (.str f'.name), P, B]] :: rest) (tsOf 145 [(4, .ptr 3 3 0 0), (3, .ptr 2 1 0 0), (2, .ptr 1 1 0 0), (0, .ptr 0 2 0 0)])
        [rdO b s.q, .row 1 [[.nils]], .row 1 [[.p (.lst 3 (l.map Fd.cs))]], .row 3 [[.p (.str s.f.name), .p (strL s.f.params), .p (smL s.f.body)]]] := fun r1 f' q' rest P B e0 e2 e3 e4 hP hB hz' h3 h4 =>
    ⟨⟨f', q'⟩, ⟨hz', h3, h4⟩, wkt_frz 4 (by omega) (by simp) rfl (.same (rdO_ok _ _ _) (.same (by simp [okO, below]) (.same (by simp [okO, below]) (.one (.keep (by simp [below]) (.one hP (.one hB .nil))) (.nil _))))) (by
      simp only [FzA, e0, e2, e3, e4]
      exact ⟨.keep (by simp [below]) .nil, .keep (by simp [below]) .nil, .keep (by simp [below]) .nil, .keep (by simp [below]) .nil, trivial⟩)⟩
  have hfsz : f.sz = 1 + f.name.length + (f.params.length + (f.params.map List.length).sum) + smsZ f.body := rfl
  have hln : l.length ≤ 4 := hlen.2
  have hbl := smsZ_len f.body
  have hcs : f.cs = [.str f.name, strL f.params, smL f.body] := rfl
  have hfl : fdL l = .lst 3 (l.map Fd.cs) := rfl
  have hw : IntKind.i64.wrap ((l.length : Int) - 1) = (n : Int) := by rw [i64_small (by omega) (by omega)]; omega
  have hsl : strL f.params = .lst 1 (f.params.map fun w => [.str w]) := rfl
  have hml : smL f.body = .lst 5 (f.body.map Sm.cs) := rfl
  simp -implicitDefEqProofs [callR_nxt, hfl, hw, hg, hcs]
  refine cutA (fun _ : CfS => tsOf 145 [(4, .ptr 3 3 0 0), (3, .ptr 2 1 0 0), (2, .ptr 1 1 0 0), (0, .ptr 0 2 0 0)]) (fun s => [rdO b s.q, .row 1 [[.nils]], .row 1 [[.p (.lst 3 (l.map Fd.cs))]], .row 3 [[.p (.str s.f.name), .p (strL s.f.params), .p (smL s.f.body)]]])
    (fun s => s.f.sz ≤ 300000000 ∧ q ≤ s.q ∧ s.q ≤ q + 100000) ?_ ?_
  rotate_left
  · rintro ⟨f', q'⟩ ⟨h3, h4, h5⟩
    simp only at h3 h4 h5
    simp -implicitDefEqProofs [hw, hnl, hfe, hcs]
    exact ⟨⟨by omega, by omega⟩, _, _, q', .agg [.p (fdL (l.set n f'))], rfl, rfl, .agg (.one (fset_view (f := f') rfl hnl (.p _) (.p _) rfl) .nil) .nil, ⟨_, rfl, by have := fdsZ_set l n f'; omega⟩, by omega, by omega⟩
  simp -implicitDefEqProofs []
  refine (d_pickP G b hb hl q (by omega) 32 _).mono ?_
  rintro r h ⟨k, rfl, rfl, _⟩
  by_cases k0 : k = 0
  · subst k0
    simp -implicitDefEqProofs [callR_nxt]
    refine (d_of G hb hl (p := q + 1) (by omega) [[102], [100, 111], [], [103]] (k := 4) (by simp) (by simp) (by omega) rfl rfl).mono ?_
    rintro r h ⟨s, hs, rfl, rfl⟩
    have hs8 : s.length ≤ 8 := by simp at hs; rcases hs with rfl | rfl | rfl | rfl <;> simp
    simp -implicitDefEqProofs [callR_nxt]
    exact fin _ ⟨s, f.params, f.body⟩ _ _ _ _ (by simp) (by simp) (by simp) (by simp) (.p _) (.p _) (by simp only [Fd.sz]; omega) (by omega) (by omega)
  by_cases k1 : k = 1
  · subst k1
    simp -implicitDefEqProofs [callR_nxt, hsl]
    refine ⟨⟨by omega, by omega⟩, ?_⟩
    refine (d_of G hb hl (p := q + 1) (by omega) [[97], [120], [105, 102]] (k := 6) (by simp) (by simp) (by omega) rfl rfl).mono ?_
    rintro r h ⟨s, hs, rfl, rfl⟩
    have hs8 : s.length ≤ 8 := by simp at hs; rcases hs with rfl | rfl | rfl <;> simp
    simp -implicitDefEqProofs [callR_nxt]
    refine ⟨⟨by omega, by omega⟩, ?_⟩
    exact fin _ ⟨f.name, f.params ++ [s], f.body⟩ _ _ _ _ (by simp) (by simp) (by simp) (by simp) (str1_view rfl) (.p _) (by simp [Fd.sz]; omega) (by omega) (by omega)
  by_cases k2 : k = 2
  · subst k2
    simp -implicitDefEqProofs [callR_nxt, hml]
    refine ⟨⟨by omega, by omega⟩, ?_⟩
    refine (d_rest G (d_l2Bent G hb hl (p := q + 1) (by omega)) _ (by simp [below])).mono ?_
    rintro r h ⟨v, q2, rfl, rfl, ⟨e, rfl, he⟩, h3, h4⟩
    have hec := e.cs_eq
    simp -implicitDefEqProofs [callR_nxt, hec]
    refine ⟨⟨by omega, by omega⟩, ?_⟩
    exact fin _ ⟨f.name, f.params, f.body ++ [⟨3, [], [e], [], []⟩]⟩ _ _ _ _ (by simp) (by simp) (by simp) (by simp) (.p _) (sm1_view rfl (sm_cells (exL_view (l := [e]) (by rw [List.map_singleton, hec]; rfl)) (View.nils 5) (View.nils 5))) (by simp [Fd.sz, smsZ_append, smsZ, Sm.sz, exsZ]; omega) (by omega) (by omega)
  by_cases k3 : k = 3
  · subst k3
    simp -implicitDefEqProofs [callR_nxt, hml]
    refine ⟨⟨by omega, by omega⟩, ?_⟩
    refine (d_pickP G b hb hl (q + 1) (by omega) 10 _).mono ?_
    rintro r h ⟨o, rfl, rfl, _⟩
    simp -implicitDefEqProofs [callR_nxt]
    refine (d_of G hb hl (p := q + 1 + 1) (by omega) [[], [97], [122, 122]] (k := 6) (by simp) (by simp) (by omega) rfl rfl).mono ?_
    rintro r h ⟨s, hs, rfl, rfl⟩
    have hs8 : s.length ≤ 8 := by simp at hs; rcases hs with rfl | rfl | rfl <;> simp
    simp -implicitDefEqProofs [callR_nxt]
    refine (d_restN G (d_l2Any G hb hl (d := 1) (by omega) (p := q + 1 + 1 + 1) (by omega)) _ (by simp [below])).mono ?_
    rintro r h ⟨e, q2, rfl, rfl, he, h3, h4⟩
    simp -implicitDefEqProofs [callR_nxt]
    refine ⟨⟨by omega, by omega⟩, ?_⟩
    obtain ⟨eo, en, es, ek⟩ := e
    exact fin _ ⟨f.name, f.params, f.body ++ [⟨o, s, [⟨eo, en, es, ek⟩], [], []⟩]⟩ _ _ _ _ (by simp) (by simp) (by simp) (by simp) (.p _) (sm1_view rfl (sm_cells (one_view (p0 := (Ex.mk eo en es ek).cs) rfl (Ex.cs_len _) (ex_cells (exE_view rfl))) (View.nils 5) (View.nils 5))) (by simp [Fd.sz, smsZ_append, smsZ, Sm.sz, exsZ]; omega) (by omega) (by omega)
  by_cases k5 : k = 5
  · subst k5
    simp -implicitDefEqProofs [callR_nxt]
    exact ⟨_, _, q + 1, .agg [.p (fdL [])], rfl, rfl, .agg (.one (View.nils 3) .nil) .nil, ⟨[], rfl, by simp [fdsZ]⟩, by omega, by omega⟩
  by_cases k7 : k = 7
  · subst k7
    simp -implicitDefEqProofs [callR_nxt, hfl]
    have hl0 : 0 < l.length := by omega
    have hf0 := fdsZ_mem' (List.getElem_mem hl0)
    obtain ⟨f0, hg0, hf0⟩ : ∃ f0, l[0]? = some f0 ∧ f0.sz ≤ fdsZ l := ⟨_, List.getElem?_eq_getElem hl0, hf0⟩
    have hc0 : f0.cs = [.str f0.name, strL f0.params, smL f0.body] := rfl
    have hfa : fdsZ (l ++ [f0]) = fdsZ l + f0.sz := by rw [fdsZ_app]; simp [fdsZ]
    simp -implicitDefEqProofs [hg0, hc0]
    exact ⟨⟨by omega, by omega⟩, ⟨by omega, by omega⟩, _, _, q + 1, .agg [.p (fdL (l ++ [f0]))], rfl, rfl, .agg (.one (fd1_view rfl) .nil) .nil, ⟨_, rfl, by omega⟩, by omega, by omega⟩
  by_cases k4 : k = 4
  · subst k4
    simp -implicitDefEqProofs [callR_nxt]
    refine cutA (fun _ : NsS => tsOf 145 [(5, .ptr 5 5 0 0), (4, .ptr 3 3 0 0), (3, .ptr 2 1 0 0), (2, .ptr 1 1 0 0), (0, .ptr 0 2 0 0)])
      (fun a => [rdO b a.q, .row 1 [[.nils]], .row 1 [[.p (.lst 3 (l.map Fd.cs))]], .row 3 [[.p (.str f.name), .p (strL f.params), .p (smL f.body)]], .dead, .row 5 [[.p (.int .i64 a.o), .p (.str a.w), .p a.A, .p a.B, .p a.C]]])
      (fun a => (∃ s : Sm, s.cs = [.int .i64 a.o, .str a.w, a.A, a.B, a.C] ∧ exsZ s.args ≤ 1 ∧ s.sz + 2 * a.i ≤ 20) ∧ q + 2 ≤ a.q ∧ a.q + a.i ≤ q + 10) ?_ ?_
    rotate_left
    · rintro ⟨i, o, w, A, B, C, q1⟩ ⟨⟨s, hse, j1, j2⟩, j3, j4⟩
      simp only at hse j1 j2 j3 j4
      have hss : ∀ (h : List AO) (id : Nat), h[id]? = some (.row 5 (List.take f.body.length (smR f.body) ++ [[.p (.int .i64 o), .p (.str w), .p A, .p B, .p C]])) → View h (.sl id 5 0 (f.body.length + 1)) (smL (f.body ++ [s])) := fun h id e => sm1_view e (fun j q a a1 a2 => pure_cells (e := [.int .i64 o, .str w, A, B, C]) (hse ▸ a1) a2)
      simp -implicitDefEqProofs [hml]
      refine ⟨⟨by omega, by omega⟩, ⟨by omega, by omega⟩, ?_⟩
      exact fin _ ⟨f.name, f.params, f.body ++ [s]⟩ _ _ _ _ (by simp) (by simp) (by simp) (by simp) (.p _) (hss _ _ rfl) (by simp [Fd.sz, smsZ_append, smsZ]; omega) (by omega) (by omega)
    simp -implicitDefEqProofs []
    refine (d_pickP G b hb hl (q + 1) (by omega) 5 _).mono ?_
    rintro r h ⟨i0, rfl, rfl, hi0⟩
    simp -implicitDefEqProofs [callR_nxt]
    have hs0 : (Sm.mk 6 [] [⟨1, 0, [], []⟩] [] []).cs = [.int .i64 6, .str [], exL [⟨1, 0, [], []⟩], smL [], smL []] := Sm.cs_eq _
    refine loopA (fun a : NsS => tsOf 145 [(6, .p (.int .i64 a.i)), (5, .ptr 5 5 0 0), (4, .ptr 3 3 0 0), (3, .ptr 2 1 0 0), (2, .ptr 1 1 0 0), (0, .ptr 0 2 0 0)])
      (fun a => [rdO b a.q, .row 1 [[.nils]], .row 1 [[.p (.lst 3 (l.map Fd.cs))]], .row 3 [[.p (.str f.name), .p (strL f.params), .p (smL f.body)]], .dead, .row 5 [[.p (.int .i64 a.o), .p (.str a.w), .p a.A, .p a.B, .p a.C]]])
      (fun a => (∃ s : Sm, s.cs = [.int .i64 a.o, .str a.w, a.A, a.B, a.C] ∧ exsZ s.args ≤ 1 ∧ s.sz + 2 * a.i ≤ 20) ∧ q + 2 ≤ a.q ∧ a.q + a.i ≤ q + 10) (fun a => a.i) ⟨i0, 6, [], exL [⟨1, 0, [], []⟩], smL [], smL [], q + 1 + 1⟩ ⟨⟨_, hs0, by simp [Sm.args, exsZ, Ex.sz], by simp [Sm.sz, exsZ, Ex.sz, smsZ]; omega⟩, by simp only; omega, by simp only; omega⟩ ?_ ?_
    · refine wkt_thin (hX := [.dead, .dead, .dead, .dead, .row 4 [[.p (.int .i64 1), .p (.int .i64 0), .p (.str []), .nils]], .dead]) (by simp)
        (.same (rdO_ok _ _ _) (.same (by simp [okO, below]) (.same (by simp [okO, below]) (.same (by simp [okO, below]) (.give (.one ?_ .nil)))))) ?_
      · exact .keep (by simp [below]) (.keep (by simp [below]) (.one (one_view (p0 := (Ex.mk 1 0 [] []).cs) rfl (Ex.cs_len _) (ex_cells (View.nils 4))) (.one (View.nils 5) (.one (View.nils 5) .nil))))
      · exact ⟨.keep (by simp [below]) .nil, .keep (by simp [below]) .nil, .keep (by simp [below]) .nil, .keep (by simp [below]) .nil, .keep (by simp [below]) .nil, .keep (by simp [below]) .nil, trivial⟩
    rintro ⟨i, o, w, A, B, C, q1⟩ ⟨⟨s, hse, j1, j2⟩, j3, j4⟩
    simp only at hse j1 j2 j3 j4
    have hcs1 : ∀ n : Int, (Sm.mk n [] s.args [s] []).cs = [.int .i64 n, .str [], A, .lst 5 [[.int .i64 o, .str w, A, B, C]], .lst 5 []] := fun n => by
      have hsa := s.cs_eq
      rw [hse] at hsa
      simp only [List.cons.injEq] at hsa
      rw [Sm.cs_eq]; simp only [Sm.op, Sm.name, Sm.args, Sm.body, Sm.els]; rw [← hse, hsa.2.2.1]; rfl
    have hsz : ∀ n : Int, (Sm.mk n [] s.args [s] []).sz = 1 + exsZ s.args + s.sz := fun n => by simp [Sm.sz, smsZ]
    simp -implicitDefEqProofs []
    refine cndb (fun hc => ?_) (fun hc => ?_)
    · simp at hc
      simp -implicitDefEqProofs []
      refine (d_numP G hb hl (p := q1) (by omega) [5, 6] (by simp) (by simp) _).mono ?_
      rintro r h ⟨n1, _, rfl, rfl⟩
      have hwk : IntKind.i64.wrap ((i : Int) - 1) = ((i - 1 : Nat) : Int) := by rw [i64_small (by omega) (by omega)]; omega
      simp -implicitDefEqProofs [callR_nxt]
      refine ⟨⟨i - 1, n1, [], A, .lst 5 [[.int .i64 o, .str w, A, B, C]], .lst 5 [], q1 + 1⟩, ⟨⟨_, hcs1 n1, j1, by simp only [hsz]; omega⟩, by simp only; omega, by simp only; omega⟩, by simp only; omega, ?_⟩
      refine wkt_thin (hX := [.dead, .dead, .dead, .dead, .dead, .dead]) (by simp) (.same (rdO_ok _ _ _) (.same (by simp [okO, below]) (.same (by simp [okO, below]) (.same (by simp [okO, below]) (.drop (.one (.keep (by simp [below]) (.keep (by simp [below]) (.keep (by simp [below]) (.keep (by simp [below]) (.one (View.nils 5) .nil))))) .nil)))))) ?_
      simp only [hwk]
      exact ⟨.keep (by simp [below]) .nil, .keep (by simp [below]) .nil, .keep (by simp [below]) .nil, .keep (by simp [below]) .nil, .keep (by simp [below]) .nil, .keep (by simp [below]) .nil, trivial⟩
    · simp at hc
      exact ⟨⟨i, o, w, A, B, C, q1⟩, ⟨⟨s, hse, j1, j2⟩, j3, j4⟩, wkt_fst (m := 6) (by simp) (fst_take rfl rfl (oks_cons (rdO_ok _ _ _) (oks_cons (by simp [okO, below]) (oks_cons (by simp [okO, below]) (oks_cons (by simp [okO, below]) (oks_cons (by simp [okO]) (oks_cons (by simp [okO, below]) oks_nil))))))) (by simp [below])⟩
  by_cases k6 : k = 6
  · subst k6
    simp -implicitDefEqProofs [callR_nxt]
    refine (d_num G hb hl (p := q + 1) (by omega) [20, 40, 41] (k := 4) (by simp) (by simp) (by omega) rfl rfl).mono ?_
    rintro r h ⟨i0, hi0, rfl, rfl⟩
    obtain ⟨i, rfl, hi⟩ : ∃ J : Nat, i0 = J ∧ J ≤ 41 := ⟨i0.toNat, by simp at hi0; omega, by simp at hi0; omega⟩
    simp -implicitDefEqProofs [callR_nxt]
    refine loopA (fun a : BdS => tsOf 145 [(7, .p (.int .i64 a.i)), (4, .ptr 3 3 0 0), (3, .ptr 2 1 0 0), (2, .ptr 1 1 0 0), (0, .ptr 0 2 0 0)])
      (fun a => [rdO b (q + 1 + 1), .row 1 [[.nils]], .row 1 [[.p (.lst 3 (l.map Fd.cs))]], .row 3 [[.p (.str f.name), .p (strL f.params), .p (smL a.bd)]]])
      (fun a => a.i ≤ 41 ∧ smsZ a.bd + 10 * a.i ≤ smsZ f.body + 500) (fun a => a.i) ⟨i, f.body⟩ ⟨hi, by simp only; omega⟩ ?_ ?_
    · exact wkt_fst (m := 4) (by simp) (fst_take rfl rfl (oks_cons (rdO_ok _ _ _) (oks_cons (by simp [okO, below]) (oks_cons (by simp [okO, below]) (oks_cons (by simp [okO, below]) oks_nil))))) (by simp [below])
    rintro ⟨i1, bd⟩ ⟨j1, j2⟩
    simp only at j1 j2
    have hbl2 := smsZ_len bd
    have hml2 : smL bd = .lst 5 (bd.map Sm.cs) := rfl
    simp -implicitDefEqProofs [hml2]
    refine cndb (fun hc => ?_) (fun hc => ?_)
    · simp at hc
      have hwk : IntKind.i64.wrap ((i1 : Int) - 1) = ((i1 - 1 : Nat) : Int) := by rw [i64_small (by omega) (by omega)]; omega
      simp -implicitDefEqProofs [hml2]
      refine ⟨⟨by omega, by omega⟩, ⟨by omega, by omega⟩, ⟨i1 - 1, bd ++ [⟨3, [], [⟨1, i1, [], []⟩], [], []⟩]⟩, ⟨by simp only; omega, by simp [smsZ_append, smsZ, Sm.sz, exsZ, Ex.sz]; omega⟩, by simp only; omega, ?_⟩
      refine wkt_frz 4 (by omega) (by simp) rfl (.same (rdO_ok _ _ _) (.same (by simp [okO, below]) (.same (by simp [okO, below]) (.one (.keep (by simp [below]) (.keep (by simp [below]) (.one (sm1_view rfl (sm_cells (one_view (p0 := (Ex.mk 1 i1 [] []).cs) rfl (Ex.cs_len _) (ex_cells (View.nils 4))) (View.nils 5) (View.nils 5))) .nil))) (.nil _))))) ?_
      simp only [hwk]
      exact ⟨.keep (by simp [below]) .nil, .keep (by simp [below]) .nil, .keep (by simp [below]) .nil, .keep (by simp [below]) .nil, .keep (by simp [below]) .nil, trivial⟩
    · simp at hc
      exact fin _ ⟨f.name, f.params, bd⟩ _ _ _ _ (by simp) (by simp) (by simp) (by simp) (.p _) (.p _) (by simp [Fd.sz]; omega) (by omega) (by omega)
  have c1 : ¬ (k : Int) = 1 := by omega
  have c2 : ¬ (k : Int) = 2 := by omega
  have c3 : ¬ (k : Int) = 3 := by omega
  have c4 : ¬ (k : Int) = 4 := by omega
  have c5 : ¬ (k : Int) = 5 := by omega
  have c6 : ¬ (k : Int) = 6 := by omega
  have c7 : ¬ (k : Int) = 7 := by omega
  simp -implicitDefEqProofs [callR_nxt, k0, c1, c2, c3, c4, c5, c6, c7]
  exact fin _ ⟨f.name, f.params, f.body⟩ _ _ _ _ (by simp) (by simp) (by simp) (by simp) (.p _) (.p _) (by simp only [Fd.sz]; omega) (by omega) (by omega)
end Go.Proofs.YtiojgfhdcpppcaaDoor
namespace Go.Proofs.YtiojgfhdcpppcaaDoor
open Go Go.Aw
set_option maxRecDepth 100000
set_option maxHeartbeats 4000000
variable (G : Glob)
def PshF (s : Bool) (sz : Nat) (D : List (List PV)) (h0 : List AO) (a : PshS) : Prop := a.i ≤ D.length ∧ h0.length ≤ a.id ∧ h0.length ≤ a.h.length ∧ (∀ j, j < h0.length → a.h[j]? = h0[j]?) ∧ ∃ rows J, RowOwn s a.h a.id sz rows (D.take a.i) J ∧ ∀ j ∈ J, h0.length ≤ j
theorem prefix_app {h h2 : List AO} (hl : h.length ≤ h2.length) (hf : ∀ j, j < h.length → h2[j]? = h[j]?) : h2 = h ++ h2.drop h.length := by
  have e : h2.take h.length = h := by
    apply List.ext_getElem?
    intro j
    by_cases hj : j < h.length
    · rw [List.getElem?_take_of_lt hj]; exact hf j hj
    · rw [List.getElem?_eq_none (by rw [List.length_take]; omega), List.getElem?_eq_none (by omega)]
  have e2 := List.take_append_drop h.length h2
  rw [e] at e2
  exact e2.symm
theorem PshF.init {s : Bool} {sz : Nat} {D : List (List PV)} (h0 os : List AO) : PshF s sz D h0 ⟨0, h0.length, h0 ++ .row sz [] :: os⟩ :=
  ⟨Nat.zero_le _, Nat.le_refl _, by simp, fun j hj => List.getElem?_append_left hj, [], [], ⟨by simp, rfl, fun _ h => (by cases h), fun _ h => (by cases h), .nil, by simp⟩, fun j hj => by cases hj⟩
theorem PshF.step {s : Bool} {sz i id : Nat} {D : List (List PV)} {h0 h : List AO} (H : PshF s sz D h0 ⟨i, id, h⟩) {e : List PV} (hi : D[i]? = some e) {h2 : List AO} (hl : h.length ≤ h2.length) (hf : ∀ j, j < h.length → h2[j]? = h[j]?) {r' : List AV} {I2 : List Nat} (ho : OwnL s h2 r' e I2) (nd2 : I2.Nodup) (hn : ∀ j ∈ I2, h.length ≤ j) (he : e.length = sz) :
    ∃ rows, (∀ os, (h2 ++ os)[id]? = some (.row sz rows)) ∧ rows.length = i ∧ i < D.length ∧ id < h2.length ∧ ∀ os1 os2, PshF s sz D h0 ⟨i + 1, (h2 ++ os1).length, (h2 ++ os1).set id .dead ++ .row sz (rows ++ [r']) :: os2⟩ := by
  obtain ⟨h1, h3, h4, h5, rows, J, hr, hJ⟩ := H
  have hil : i < D.length := (List.getElem?_eq_some_iff.1 hi).1
  have hlen := hr.len
  simp only at h1 h3 h4 h5 hlen hr
  rw [List.length_take, Nat.min_eq_left h1] at hlen
  have e2 := prefix_app hl hf
  have hid := hr.lt
  have h2e : h2[id]? = some (.row sz rows) := by rw [hf id hid]; exact hr.here
  refine ⟨rows, fun os => by rw [List.getElem?_append_left (by omega)]; exact h2e, hlen, hil, by omega, fun os1 os2 => ⟨hil, by simp only [List.length_append]; omega, by simp; omega, fun j hj => ?_, rows ++ [r'], J ++ I2, ?_, fun j hj => ?_⟩⟩
  · simp only
    rw [List.getElem?_append_left (by simp only [List.length_set, List.length_append, List.length_cons]; omega), List.getElem?_set_ne (by omega), List.getElem?_append_left (by omega), hf j (by omega)]
    exact h5 j hj
  · have hp := (hr.push (h2 := h2 ++ os1) (os := h2.drop h.length ++ os1) (by rw [← List.append_assoc, ← e2]) (ho.more os1) nd2 hn he).more os2
    have hd : D.take i ++ [e] = D.take (i + 1) := by rw [List.take_add_one, hi]; rfl
    rw [hd, List.append_assoc] at hp
    exact hp
  · rcases List.mem_append.1 hj with hj | hj
    · exact hJ j hj
    · have := hn j hj; omega
theorem PshF.done {s : Bool} {sz i id : Nat} {D : List (List PV)} {h0 h : List AO} (H : PshF s sz D h0 ⟨i, id, h⟩) (hi : D.length ≤ i) : h0.length ≤ h.length ∧ (∀ j, j < h0.length → h[j]? = h0[j]?) ∧ ∃ I, OwnL s h [.sl id sz 0 i] [.lst sz D] I ∧ I.Nodup ∧ ∀ j ∈ I, h0.length ≤ j := by
  obtain ⟨h1, h3, h4, h5, rows, J, hr, hJ⟩ := H
  simp only at h1 h3 h4 h5 hr
  rw [List.take_of_length_le hi] at hr
  exact ⟨h4, h5, id :: J, hr.tree (by omega), hr.nd, fun j hj => by
    rcases List.mem_cons.1 hj with rfl | hj
    · exact h3
    · exact hJ j hj⟩
theorem own_both {s : Bool} {n : Nat} {h1 os : List AO} {a b : List AV} {c d : List PV} {I1 I2 : List Nat} (H1 : OwnL s h1 a c I1) (n1 : I1.Nodup) (f1 : ∀ i ∈ I1, n ≤ i) (H2 : OwnL s (h1 ++ os) b d I2) (n2 : I2.Nodup) (f2 : ∀ i ∈ I2, h1.length ≤ i) (hn : n ≤ h1.length) :
    OwnL s (h1 ++ os) (a ++ b) (c ++ d) (I1 ++ I2) ∧ (I1 ++ I2).Nodup ∧ ∀ i ∈ I1 ++ I2, n ≤ i := by
  refine ⟨(H1.more os).app H2, ?_, fun i hi => ?_⟩
  · rw [List.nodup_append]
    refine ⟨n1, n2, fun a ha b hb e => ?_⟩
    have := H1.lt ha; have := f2 b hb; omega
  · rcases List.mem_append.1 hi with hi | hi
    · exact f1 i hi
    · have := f2 i hi; omega
theorem set_last {α : Type} (l : List α) (a b : α) : (l ++ [a]).set l.length b = l ++ [b] := by
  rw [List.set_append_right _ _ (Nat.le_refl _), Nat.sub_self]; rfl
theorem sm_own1 {h : List AO} {s : Sm} {A B E : AV} {I : List Nat} (H : OwnL true h ([A] ++ [B] ++ [E]) ([exL s.args] ++ [smL s.body] ++ [smL s.els]) I) : OwnL true h [.p (.int .i64 s.op), .p (.str s.name), A, B, E] s.cs I := by
  rw [s.cs_eq]
  exact .p _ (fun _ => rfl) (.p _ (fun _ => rfl) H)
theorem own_cases {s : Bool} {h : List AO} {v : AV} {q : PV} {I : List Nat} (H : OwnL s h [v] [q] I) : (∃ q', v = .p q') ∨ v = .nils ∨ ∃ a b n, v = .sl a b 0 n := by
  cases H with
  | p q => exact .inl ⟨_, rfl⟩
  | nils => exact .inr (.inl rfl)
  | sl id sz n => exact .inr (.inr ⟨_, _, _, rfl⟩)
theorem ex_own1 {s : Bool} {h : List AO} {e : Ex} {K : AV} {I : List Nat} (H : OwnL s h [K] [exL e.kids] I) : OwnL s h [.p (.int .i64 e.op), .p (.int .i64 e.n), .p (.str e.name), K] e.cs I := by
  rw [e.cs_eq]
  exact .p _ (fun _ => rfl) (.p _ (fun _ => rfl) (.p _ (fun _ => rfl) H))
theorem s_l2Copy : ∀ (N : Nat) (e : Ex), e.sz ≤ N → e.sz ≤ 1073741824 → AC Tryd.prog G n_spec_l2Copy [.agg (e.cs.map .p)] [] (MkW .agg true e.cs) := by
  intro N
  induction N with
  | zero => intro e he; have := e.sz_eq; omega
  | succ N ih =>
    intro e he hb
    have hsz := e.sz_eq
    have hkl := exsZ_len e.kids
    refine AC.go k_spec_l2Copy ?_
    have hec := e.cs_eq
    have hsl : exL e.kids = .lst 4 (e.kids.map Ex.cs) := rfl
    simp -implicitDefEqProofs [F_spec_l2Copy, hec, hsl]
    obtain ⟨hb0, ehb⟩ : ∃ hb0 : List AO, hb0 = [.row 4 [[.p (.int .i64 e.op), .p (.int .i64 e.n), .p (.str e.name), .p (.lst 4 (e.kids.map Ex.cs))]], .row 4 [[.p (.int .i64 0), .p (.int .i64 0), .p (.str []), .nils]]] := ⟨_, rfl⟩
    have hini : PshF true 4 (e.kids.map Ex.cs) hb0 ⟨0, 2, [.row 4 [[.p (.int .i64 e.op), .p (.int .i64 e.n), .p (.str e.name), .p (.lst 4 (e.kids.map Ex.cs))]], .row 4 [[.p (.int .i64 0), .p (.int .i64 0), .p (.str []), .nils]], .row 4 []]⟩ := by
      rw [ehb]; exact PshF.init _ []
    refine loopA (fun a : PshS => tsOf 25 [(4, .p (.int .i64 a.i)), (3, .sl a.id 4 0 a.i), (2, .ptr 1 4 0 0), (1, .ptr 0 4 0 0)]) (fun a => a.h) (PshF true 4 (e.kids.map Ex.cs) hb0) (fun a => e.kids.length - a.i) _ hini ?_ ?_
    · exact wkt_cur (by simp) (by simp [below])
    rintro ⟨i, id, h'⟩ hJ
    have hl0 : hb0.length = 2 := by rw [ehb]; rfl
    have g0 : h'[0]? = some (.row 4 [[.p (.int .i64 e.op), .p (.int .i64 e.n), .p (.str e.name), .p (.lst 4 (e.kids.map Ex.cs))]]) := by rw [hJ.2.2.2.1 0 (by omega), ehb]; rfl
    have g1 : h'[1]? = some (.row 4 [[.p (.int .i64 0), .p (.int .i64 0), .p (.str []), .nils]]) := by rw [hJ.2.2.2.1 1 (by omega), ehb]; rfl
    have hl2 : 2 ≤ h'.length := by have := hJ.2.2.1; simp only at this; omega
    simp -implicitDefEqProofs [g0]
    refine cndb (fun h1 => ?_) (fun h1 => ?_)
    · simp at h1
      have hg := List.getElem?_eq_getElem h1
      have hm := exsZ_mem (List.getElem_mem h1)
      have hH := ih e.kids[i] (by omega) (by omega)
      have hcs := e.kids[i].cs_eq
      have hDa : (e.kids.map Ex.cs)[i]? = some e.kids[i].cs := by rw [List.getElem?_map, hg]; rfl
      generalize e.kids[i] = k at hg hH hcs hDa
      have hA := AC.mkLift shp_agg hH (h := h') (by rw [hcs]; simp)
      rw [hcs] at hA
      simp -implicitDefEqProofs [g0, hg, hcs]
      refine hA.mono ?_
      rintro r h2 ⟨vs, I2, os, rfl, e2, ho, nd, hf⟩
      rw [← hcs] at ho
      obtain ⟨rows, k1, k2, k3, k4, k5⟩ := hJ.step hDa (h2 := h2) (by rw [e2]; simp) (fun x hx => by rw [e2, List.getElem?_append_left hx]) ho nd hf k.cs_len
      obtain ⟨K, rfl, hK⟩ := own_ex ho
      have hwi := w1 (i := i) (by omega)
      rcases own_cases hK with ⟨q1, rfl⟩ | rfl | ⟨x1, x2, x3, rfl⟩
      · have k6 := k5 [.row 4 [[.p (.int .i64 k.op), .p (.int .i64 k.n), .p (.str k.name), .p q1]]] []
        simp -implicitDefEqProofs [callR_nxt, k1, k2]
        rw [List.take_of_length_le (l := rows) (i := i) (by omega)]
        refine ⟨⟨by omega, by omega⟩, _, k6, by simp only; omega, wkt_cur (by simp) ?_⟩
        simp [below, hwi]
      · have k6 := k5 [.row 4 [[.p (.int .i64 k.op), .p (.int .i64 k.n), .p (.str k.name), .nils]]] []
        simp -implicitDefEqProofs [callR_nxt, k1, k2]
        rw [List.take_of_length_le (l := rows) (i := i) (by omega)]
        refine ⟨⟨by omega, by omega⟩, _, k6, by simp only; omega, wkt_cur (by simp) ?_⟩
        simp [below, hwi]
      · have k6 := k5 [.row 4 [[.p (.int .i64 k.op), .p (.int .i64 k.n), .p (.str k.name), .sl x1 x2 0 x3]]] []
        simp -implicitDefEqProofs [callR_nxt, k1, k2]
        rw [List.take_of_length_le (l := rows) (i := i) (by omega)]
        refine ⟨⟨by omega, by omega⟩, _, k6, by simp only; omega, wkt_cur (by simp) ?_⟩
        simp [below, hwi]
        
    · simp at h1
      have hie : i = e.kids.length := by have := hJ.1; simp at this; omega
      obtain ⟨d1, d2, I, ho, nd, hI⟩ := hJ.done (by simpa using h1)
      subst hie
      have hn0 : 0 ∉ I := fun hm => by have := hI 0 hm; omega
      have hn1 : 1 ∉ I := fun hm => by have := hI 1 hm; omega
      have s0 : ∀ x, (h'.set 0 x)[0]? = some x := fun x => List.getElem?_set_self (by omega)
      have s1 : ∀ x, (h'.set 0 x)[1]? = some (.row 4 [[.p (.int .i64 0), .p (.int .i64 0), .p (.str []), .nils]]) := fun x => by rw [List.getElem?_set_ne (by omega)]; exact g1
      have s2 : ∀ x y, ((h'.set 0 x).set 1 y)[1]? = some y := fun x y => List.getElem?_set_self (by rw [List.length_set]; omega)
      simp -implicitDefEqProofs [g0, g1, s0, s1, s2]
      rw [← hsl, ← hec]
      exact ⟨_, I, rfl, ex_own1 ((ho.set_out hn0 _).set_out hn1 _), nd⟩
theorem s_l4Stmts : ∀ (N : Nat) (l : List Sm), smsZ l < N → smsZ l ≤ 1073741824 → AC Tryd.prog G n_spec_l4Stmts [.p (smL l)] [] (MkW one true [smL l]) := by
  intro N
  induction N with
  | zero => intro l he; omega
  | succ N ih =>
    intro l hN hz
    have hsl : ∀ l, smL l = .lst 5 (l.map Sm.cs) := fun _ => rfl
    have hll := smsZ_len l
    refine AC.go k_spec_l4Stmts ?_
    simp -implicitDefEqProofs [F_spec_l4Stmts, hsl]
    refine loopA (fun a : PshS => tsOf 52 [(4, .p (.int .i64 a.i)), (3, .sl a.id 5 0 a.i), (0, .p (smL l))]) (fun a => a.h) (PshF true 5 (l.map Sm.cs) []) (fun a => l.length - a.i) ⟨0, 0, [.row 5 []]⟩ (PshF.init [] []) ?_ ?_
    · exact wkt_cur (by simp) (by simp [below, hsl])
    rintro ⟨i, id, hh⟩ hI
    simp -implicitDefEqProofs [hsl]
    refine cndb (fun h1 => ?_) (fun h1 => ?_)
    · simp at h1
      have hg := List.getElem?_eq_getElem h1
      have hm := smsZ_mem (List.getElem_mem h1)
      have hcs := l[i].cs_eq
      have hse := l[i].sz_eq
      have hD : (l.map Sm.cs)[i]? = some l[i].cs := by rw [List.getElem?_map, hg]; rfl
      generalize l[i] = s at hg hm hcs hse hD
      simp -implicitDefEqProofs [hg, hcs, set_last]
      have hid : id < hh.length := by obtain ⟨_, _, _, _, _, _, hr, _⟩ := hI; exact hr.lt
      have hal := exsZ_len s.args
      have hxl : exL s.args = .lst 4 (s.args.map Ex.cs) := rfl
      obtain ⟨hb, ehb⟩ : ∃ hb, hb = hh ++ [AO.row 5 [[.p (.int .i64 s.op), .p (.str s.name), .p (exL s.args), .p (smL s.body), .p (smL s.els)]]] := ⟨_, rfl⟩
      have hbl : hb.length = hh.length + 1 := by rw [ehb]; simp
      have hbx : hb[hh.length]? = some (.row 5 [[.p (.int .i64 s.op), .p (.str s.name), .p (exL s.args), .p (smL s.body), .p (smL s.els)]]) := by rw [ehb]; simp
      have hini : PshF true 4 (s.args.map Ex.cs) hb ⟨0, hh.length + 1, hh ++ [AO.row 5 [[.p (.int .i64 s.op), .p (.str s.name), .p (exL s.args), .p (smL s.body), .p (smL s.els)]], .row 4 []]⟩ := by
        have := PshF.init (s := true) (sz := 4) (D := s.args.map Ex.cs) hb []
        rw [hbl, ehb, List.append_assoc] at this
        rw [ehb]; exact this
      refine loopA (fun a : PshS => tsOf 52 [(7, .p (.int .i64 a.i)), (6, .sl a.id 4 0 a.i), (5, .ptr hh.length 5 0 0), (4, .p (.int .i64 i)), (3, .sl id 5 0 i), (0, .p (smL l))]) (fun a => a.h) (PshF true 4 (s.args.map Ex.cs) hb) (fun a => s.args.length - a.i) _ hini ?_ ?_
      · refine wkt_cur (by simp) ?_
        simp [below, hsl]
        omega
      rintro ⟨j, id2, h'⟩ hJ
      have hjb : h'[hh.length]? = some (.row 5 [[.p (.int .i64 s.op), .p (.str s.name), .p (exL s.args), .p (smL s.body), .p (smL s.els)]]) := by
        rw [hJ.2.2.2.1 _ (by omega)]; exact hbx
      have hlb : hh.length + 1 ≤ h'.length := by have := hJ.2.2.1; simp only at this; omega
      simp -implicitDefEqProofs [hjb, hxl]
      refine cndb (fun h2 => ?_) (fun h2 => ?_)
      · simp at h2
        have hga := List.getElem?_eq_getElem h2
        have hma := exsZ_mem (List.getElem_mem h2)
        have hC := s_l2Copy G _ s.args[j] (Nat.le_refl _) (by omega)
        have hka := s.args[j].cs_eq
        have hDa : (s.args.map Ex.cs)[j]? = some s.args[j].cs := by rw [List.getElem?_map, hga]; rfl
        generalize s.args[j] = e at hga hma hC hka hDa
        have hA := AC.mkLift shp_agg hC (h := h') (by rw [hka]; simp)
        rw [hka] at hA
        simp -implicitDefEqProofs [hjb, hga, hka, hxl]
        refine hA.mono ?_
        rintro r h2 ⟨vs, I2, os, rfl, e2, ho, nd, hf⟩
        rw [← hka] at ho
        obtain ⟨rows, k1, k2, k3, k4, k5⟩ := hJ.step hDa (h2 := h2) (by rw [e2]; simp) (fun x hx => by rw [e2, List.getElem?_append_left hx]) ho nd hf e.cs_len
        obtain ⟨K, rfl, hK⟩ := own_ex ho
        have hwj := w1 (i := j) (by omega)
        have hl2 : h'.length ≤ h2.length := by rw [e2]; simp
        rcases own_cases hK with ⟨q1, rfl⟩ | rfl | ⟨x1, x2, x3, rfl⟩
        · have k6 := k5 [.row 4 [[.p (.int .i64 e.op), .p (.int .i64 e.n), .p (.str e.name), .p q1]]] []
          simp -implicitDefEqProofs [callR_nxt, k1, k2]
          rw [List.take_of_length_le (l := rows) (i := j) (by omega)]
          refine ⟨⟨by omega, by omega⟩, _, k6, by simp only; omega, wkt_cur (by simp) ?_⟩
          simp [below, hsl, hwj]
          omega
        · have k6 := k5 [.row 4 [[.p (.int .i64 e.op), .p (.int .i64 e.n), .p (.str e.name), .nils]]] []
          simp -implicitDefEqProofs [callR_nxt, k1, k2]
          rw [List.take_of_length_le (l := rows) (i := j) (by omega)]
          refine ⟨⟨by omega, by omega⟩, _, k6, by simp only; omega, wkt_cur (by simp) ?_⟩
          simp [below, hsl, hwj]
          omega
        · have k6 := k5 [.row 4 [[.p (.int .i64 e.op), .p (.int .i64 e.n), .p (.str e.name), .sl x1 x2 0 x3]]] []
          simp -implicitDefEqProofs [callR_nxt, k1, k2]
          rw [List.take_of_length_le (l := rows) (i := j) (by omega)]
          refine ⟨⟨by omega, by omega⟩, _, k6, by simp only; omega, wkt_cur (by simp) ?_⟩
          simp [below, hsl, hwj]
          omega
      · simp at h2
        have hjl : j = s.args.length := by have := hJ.1; simp at this; omega
        obtain ⟨d1, d2, IA, oA, nA, fA⟩ := hJ.done (by simpa using h2)
        subst hjl
        have hB := ih s.body (by omega) (by omega)
        have hE := ih s.els (by omega) (by omega)
        simp -implicitDefEqProofs [hjb]
        refine (AC.mkLift shp_one hB (h := h') (by simp)).mono ?_
        rintro r h3 ⟨vB, IB, o1, rfl, e3, oB, nB, fB⟩
        obtain ⟨B, rfl⟩ := own_single oB
        have hjb3 : h3[hh.length]? = some (.row 5 [[.p (.int .i64 s.op), .p (.str s.name), .p (exL s.args), .p (smL s.body), .p (smL s.els)]]) := by
          rw [e3, List.getElem?_append_left (by omega)]; exact hjb
        simp -implicitDefEqProofs [callR_nxt, one, hjb3]
        refine (AC.mkLift shp_one hE (h := h3) (by simp)).mono ?_
        rintro r h4 ⟨vE, IE, o2, rfl, e4, oE, nE, fE⟩
        obtain ⟨E, rfl⟩ := own_single oE
        have hjb4 : h4[hh.length]? = some (.row 5 [[.p (.int .i64 s.op), .p (.str s.name), .p (exL s.args), .p (smL s.body), .p (smL s.els)]]) := by
          have : hh.length < h3.length := (List.getElem?_eq_some_iff.1 hjb3).1
          rw [e4, List.getElem?_append_left this]; exact hjb3
        have cB := own_cases oB
        have cE := own_cases oE
        obtain ⟨a1, a2, a3⟩ := own_both oA nA fA (by rw [← e3]; exact oB) nB fB d1
        rw [← e3] at a1
        obtain ⟨b1, b2, b3⟩ := own_both a1 a2 a3 (by rw [← e4]; exact oE) nE fE (by rw [e3]; simp; omega)
        rw [← e4] at b1
        have hS := sm_own1 (s := s) b1
        obtain ⟨rows, k1, k2, k3, k4, k5⟩ := hI.step hD (h2 := h4) (by rw [e4, e3]; simp; omega) (fun x hx => by
          rw [e4, List.getElem?_append_left (by rw [e3]; simp; omega), e3, List.getElem?_append_left (by omega), d2 x (by omega), ehb, List.getElem?_append_left hx]) hS b2 (fun x hx => by have := b3 x hx; omega) s.cs_len
        have k6 := k5 [.row 5 [[.p (.int .i64 s.op), .p (.str s.name), .sl id2 4 0 s.args.length, B, E]]] []
        have hwi := w1 (i := i) (by omega)
        rcases cB with ⟨q1, rfl⟩ | rfl | ⟨x1, x2, x3, rfl⟩ <;> rcases cE with ⟨q2, rfl⟩ | rfl | ⟨y1, y2, y3, rfl⟩ <;>
        · simp -implicitDefEqProofs [callR_nxt, one, hjb4, k1, k2]
          rw [List.take_of_length_le (l := rows) (i := i) (by omega)]
          refine ⟨⟨by omega, by omega⟩, _, k6, by simp only; omega, wkt_cur (by simp) ?_⟩
          simp [below, hsl, hwi]
    · simp at h1
      obtain ⟨_, _, I, ho, nd, _⟩ := hI.done (by simpa using h1)
      have hie : i = l.length := by have := hI.1; simp at this; omega
      subst hie
      simp -implicitDefEqProofs []
      exact ⟨_, I, rfl, ho, nd⟩
def cpK (a : PshS) : AV := if a.i = 0 then .nils else .sl a.id 3 0 a.i
def CpI (l : List Fd) (a : PshS) : Prop := a.i ≤ l.length ∧ a.h[0]? = some (.row 1 [[.p (fdL l)]]) ∧ a.h[1]? = some (.row 1 [[.nils]]) ∧ a.h[2]? = some (.row 1 [[cpK a]]) ∧
  (0 < a.i → 3 ≤ a.id ∧ ∃ rows J, RowOwn true a.h a.id 3 rows ((l.map Fd.cs).take a.i) J ∧ ∀ j ∈ J, 3 ≤ j)
theorem fdsZ_len' : ∀ l : List Fd, l.length ≤ fdsZ l
  | [] => Nat.le_refl _
  | f :: r => by
    have := fdsZ_len' r
    have h1 : fdsZ (f :: r) = f.sz + fdsZ r := by simp [fdsZ]
    have h2 : f.sz = 1 + f.name.length + (f.params.length + (f.params.map List.length).sum) + smsZ f.body := rfl
    simp only [List.length_cons]; omega
theorem strO_own {h : List AO} {id : Nat} {l : List (List UInt8)} (e : h[id]? = some (strO l)) {n : Nat} (hn : n = l.length) : OwnL true h [.sl id 1 0 n] [strL l] [id] := by
  have hr : RowOwn true h id 1 (l.map fun w => [AV.p (.str w)]) (l.map fun w => [PV.str w]) [] := by
    refine ⟨e, by simp, fun x hx => by obtain ⟨w, _, rfl⟩ := List.mem_map.1 hx; rfl, fun x hx => by obtain ⟨w, _, rfl⟩ := List.mem_map.1 hx; rfl, ?_, by simp⟩
    clear e hn
    induction l with
    | nil => exact .nil
    | cons w r ih => exact .p _ (fun _ => rfl) ih
  exact hr.tree (by simpa using hn)
theorem cp_first {h3 : List AO} (hl : 3 ≤ h3.length) {r : List AV} {f : Fd} {I2 : List Nat} (ho : OwnL true h3 r f.cs I2) (nd : I2.Nodup) (hf : ∀ j ∈ I2, 3 ≤ j) (o x : AO) : ∃ J, RowOwn true ((h3 ++ [o, .row 3 [r]]).set 2 x) (h3.length + 1) 3 [r] [f.cs] J ∧ ∀ j ∈ J, 3 ≤ j := by
  have hr : r.length = 3 := by rw [ho.len, Fd.cs_len]
  refine ⟨I2, ⟨?_, rfl, fun e he => by rw [List.mem_singleton.1 he]; exact hr, fun e he => by rw [List.mem_singleton.1 he]; exact Fd.cs_len f, ?_, ?_⟩, hf⟩
  · rw [List.getElem?_set_ne (by omega), List.getElem?_append_right (by omega), Nat.add_sub_cancel_left]; rfl
  · have := (ho.more [o, .row 3 [r]]).set_out (fun hm => by have := hf 2 hm; omega : 2 ∉ I2) x
    simpa using this
  · rw [List.nodup_cons]
    exact ⟨fun hm => by have := ho.lt hm; omega, nd⟩
theorem cp_next {h h3 : List AO} {id : Nat} {rows : List (List AV)} {D : List (List PV)} {J : List Nat} (H : RowOwn true h id 3 rows D J) (hJ : ∀ j ∈ J, 3 ≤ j) (hid : 3 ≤ id) (hh : 3 ≤ h.length) (e3 : h3 = h ++ h3.drop h.length) {r : List AV} {f : Fd} {I2 : List Nat} (ho : OwnL true h3 r f.cs I2) (nd : I2.Nodup) (hf : ∀ j ∈ I2, h.length ≤ j) (o x : AO) :
    ∃ J, RowOwn true (((h3 ++ [o]).set id .dead ++ [AO.row 3 (rows ++ [r])]).set 2 x) (h3.length + 1) 3 (rows ++ [r]) (D ++ [f.cs]) J ∧ ∀ j ∈ J, 3 ≤ j := by
  have hp := H.push (h2 := h3 ++ [o]) (os := h3.drop h.length ++ [o]) (by rw [← List.append_assoc, ← e3]) (ho.more [o]) nd hf (Fd.cs_len f)
  have hl : (h3 ++ [o]).length = h3.length + 1 := by simp
  rw [hl] at hp
  have hl3 : h.length ≤ h3.length := by rw [e3]; simp
  refine ⟨J ++ I2, hp.frame fun k hk => ?_, fun j hj => ?_⟩
  · have : 3 ≤ k := by
      rcases List.mem_cons.1 hk with rfl | hk
      · omega
      · rcases List.mem_append.1 hk with hk | hk
        · exact hJ k hk
        · have := hf k hk; omega
    rw [List.getElem?_set_ne (by omega)]
  · rcases List.mem_append.1 hj with hj | hj
    · exact hJ j hj
    · have := hf j hj; omega
theorem s_l4Copy (l : List Fd) (hz : fdsZ l ≤ 1073741824) : AC Tryd.prog G n_spec_l4Copy [.agg [.p (fdL l)]] [] (MkW .agg true [fdL l]) := by
  have hfl : ∀ l, fdL l = .lst 3 (l.map Fd.cs) := fun _ => rfl
  have hll : l.length ≤ fdsZ l := fdsZ_len' l
  refine AC.go k_spec_l4Copy ?_
  simp -implicitDefEqProofs [F_spec_l4Copy, hfl]
  refine loopA (fun a : PshS => tsOf 35 [(4, .p (.int .i64 a.i)), (3, .ptr 2 1 0 0), (2, .ptr 1 1 0 0), (1, .ptr 0 1 0 0)]) (fun a => a.h) (CpI l) (fun a => l.length - a.i) ⟨0, 0, [.row 1 [[.p (fdL l)]], .row 1 [[.nils]], .row 1 [[.nils]]]⟩ ⟨Nat.zero_le _, rfl, rfl, rfl, fun h => by simp at h⟩ ?_ ?_
  · exact wkt_cur (by simp) (by simp [below])
  rintro ⟨i, id, h⟩ ⟨i1, i2, i3, i4, i5⟩
  simp only at i1 i2 i3 i4 i5
  have hl3 : 3 ≤ h.length := by have := (List.getElem?_eq_some_iff.1 i4).1; omega
  have j2 : ∀ os, (h ++ os)[0]? = some (.row 1 [[.p (fdL l)]]) := fun os => by rw [List.getElem?_append_left (by omega)]; exact i2
  have j4 : ∀ os, (h ++ os)[2]? = some (.row 1 [[cpK ⟨i, id, h⟩]]) := fun os => by rw [List.getElem?_append_left (by omega)]; exact i4
  simp -implicitDefEqProofs [i2, hfl]
  refine cndb (fun h1 => ?_) (fun h1 => ?_)
  · simp at h1
    have hg := List.getElem?_eq_getElem h1
    have hm := fdsZ_mem (List.getElem_mem h1)
    have hD : (l.map Fd.cs)[i]? = some l[i].cs := by rw [List.getElem?_map, hg]; rfl
    generalize l[i] = f at hg hm hD
    have hcs : f.cs = [.str f.name, strL f.params, smL f.body] := rfl
    have hsp : strL f.params = .lst 1 (f.params.map fun w => [.str w]) := rfl
    have hfz : f.sz = 1 + f.name.length + (f.params.length + (f.params.map List.length).sum) + smsZ f.body := rfl
    have hB := s_l4Stmts G _ f.body (Nat.lt_succ_self _) (by omega)
    by_cases hi0 : i = 0
    · subst hi0
      have hk : cpK ⟨0, id, h⟩ = .nils := rfl
      rw [hk] at j4 i4
      have fin0 : ∀ (h3 : List AO) (r : List AV) (I2 : List Nat) (l0 : List (Nat × AV)), h.length + 3 ≤ h3.length → (∀ j, j < h.length → h3[j]? = h[j]?) → OwnL true h3 r f.cs I2 → I2.Nodup → (∀ j ∈ I2, h.length ≤ j) → ∀ (o : AO) (hw : Aw.look l0 4 = .p (.int .i64 (IntKind.i64.wrap 1)) ∧ Aw.look l0 3 = .ptr 2 1 0 0 ∧ Aw.look l0 2 = .ptr 1 1 0 0 ∧ Aw.look l0 1 = .ptr 0 1 0 0),
          ∃ a', CpI l a' ∧ l.length - a'.i < l.length ∧ Wk 0 (tsOf 35 l0) ((h3 ++ [o, .row 3 [r]]).set 2 (.row 1 [[.sl (h3.length + 1) 3 0 1]])) (tsOf 35 [(4, .p (.int .i64 a'.i)), (3, .ptr 2 1 0 0), (2, .ptr 1 1 0 0), (1, .ptr 0 1 0 0)]) a'.h := by
        intro h3 r I2 l0 hl4 hg3 oR nR fR o ⟨e4, e3, e2, e1⟩
        obtain ⟨J, hJ, hJ3⟩ := cp_first (by omega) oR nR (fun j hj => by have := fR j hj; omega) o (.row 1 [[.sl (h3.length + 1) 3 0 1]])
        have hd : (l.map Fd.cs).take 1 = [f.cs] := by rw [List.take_add_one, hD]; rfl
        refine ⟨⟨1, h3.length + 1, _⟩, ⟨by simp only; omega, ?_, ?_, ?_, fun _ => ⟨by simp only; omega, _, J, by simp only [hd]; exact hJ, hJ3⟩⟩, by simp only; omega, wkt_cur (by simp) ?_⟩
        · rw [List.getElem?_set_ne (by omega), List.getElem?_append_left (by omega), hg3 0 (by omega)]; exact i2
        · rw [List.getElem?_set_ne (by omega), List.getElem?_append_left (by omega), hg3 1 (by omega)]; exact i3
        · rw [List.getElem?_set_self (by simp; omega)]; rfl
        · simp [e1, e2, e3, e4, below]
          exact ⟨by have := w1 (i := 0) (by omega); simpa using this, by omega⟩
      simp -implicitDefEqProofs [i2, hfl, hg, hcs, hsp, set_last, ↓j2, ↓j4]
      refine ⟨⟨by omega, by omega⟩, ?_⟩
      refine (AC.mkLift shp_one hB (by simp)).mono ?_
      rintro r h3 ⟨vB, IB, o1, rfl, e3, oB, nB, fB⟩
      obtain ⟨B, rfl⟩ := own_single oB
      simp at fB
      have hg3 : ∀ j, j < h.length → h3[j]? = h[j]? := fun j hj => by rw [e3, List.append_assoc, List.getElem?_append_left hj]
      have p0 : h3[h.length]? = some (.row 3 [[.p (.str f.name), .p (.lst 1 (f.params.map fun w => [.str w])), .p (smL f.body)]]) := by
        rw [e3, List.append_assoc, List.getElem?_append_right (Nat.le_refl _), Nat.sub_self]; rfl
      have p2 : h3[h.length + 2]? = some (strO f.params) := by
        rw [e3, List.append_assoc, List.getElem?_append_right (by omega), Nat.add_sub_cancel_left]
        simp [strO, Function.comp_def]
      have oP := strO_own p2 (n := f.params.length) rfl
      have hl4 : h.length + 3 ≤ h3.length := by rw [e3]; simp
      have q0 : ∀ os, (h3 ++ os)[2]? = some (.row 1 [[.nils]]) := fun os => by rw [List.getElem?_append_left (by omega), hg3 2 (by omega)]; exact i4
      have q1 : h3[2]? = some (.row 1 [[.nils]]) := by rw [hg3 2 (by omega)]; exact i4
      have q2 : ∀ os, (h3 ++ os)[h.length]? = some (.row 3 [[.p (.str f.name), .p (.lst 1 (f.params.map fun w => [.str w])), .p (smL f.body)]]) := fun os => by rw [List.getElem?_append_left (by omega)]; exact p0
      clear p2
      have hfR : ∀ j ∈ [h.length + 2] ++ IB, h.length ≤ j := fun j hj => by
        rcases List.mem_append.1 hj with hj | hj
        · rw [List.mem_singleton.1 hj]; omega
        · have := fB j hj; omega
      have hnR : ([h.length + 2] ++ IB).Nodup := List.nodup_cons.2 ⟨fun hm => by have := fB _ hm; omega, nB⟩
      rcases own_cases oB with ⟨b1, rfl⟩ | rfl | ⟨x1, x2, x3, rfl⟩
      · have oR := fd_own (s := true) (w := f.name) oP oB
        simp -implicitDefEqProofs [callR_nxt, one, ↓q1, ↓p0, ↓q0, ↓q2]
        exact fin0 h3 _ _ _ hl4 hg3 oR hnR hfR _ (by simp)
      · have oR := fd_own (s := true) (w := f.name) oP oB
        simp -implicitDefEqProofs [callR_nxt, one, ↓q1, ↓p0, ↓q0, ↓q2]
        exact fin0 h3 _ _ _ hl4 hg3 oR hnR hfR _ (by simp)
      · have oR := fd_own (s := true) (w := f.name) oP oB
        simp -implicitDefEqProofs [callR_nxt, one, ↓q1, ↓p0, ↓q0, ↓q2]
        exact fin0 h3 _ _ _ hl4 hg3 oR hnR hfR _ (by simp)
    · have hk : cpK ⟨i, id, h⟩ = .sl id 3 0 i := if_neg hi0
      rw [hk] at j4 i4
      obtain ⟨hid3, rows, J, hr, hJ3⟩ := i5 (by omega)
      have hrl : rows.length = i := by have := hr.len; rw [List.length_take, List.length_map] at this; omega
      have hidl := hr.lt
      have fin0 : ∀ (h3 : List AO) (r : List AV) (I2 : List Nat) (l0 : List (Nat × AV)), h.length + 3 ≤ h3.length → (∀ j, j < h.length → h3[j]? = h[j]?) → OwnL true h3 r f.cs I2 → I2.Nodup → (∀ j ∈ I2, h.length ≤ j) → ∀ (o : AO) (hw : Aw.look l0 4 = .p (.int .i64 (IntKind.i64.wrap ((i : Int) + 1))) ∧ Aw.look l0 3 = .ptr 2 1 0 0 ∧ Aw.look l0 2 = .ptr 1 1 0 0 ∧ Aw.look l0 1 = .ptr 0 1 0 0),
          ∃ a', CpI l a' ∧ l.length - a'.i < l.length - i ∧ Wk 0 (tsOf 35 l0) (((h3 ++ [o]).set id .dead ++ [AO.row 3 (rows ++ [r])]).set 2 (.row 1 [[.sl (h3.length + 1) 3 0 (i + 1)]])) (tsOf 35 [(4, .p (.int .i64 a'.i)), (3, .ptr 2 1 0 0), (2, .ptr 1 1 0 0), (1, .ptr 0 1 0 0)]) a'.h := by
        intro h3 r I2 l0 hl4 hg3 oR nR fR o ⟨e4, e3, e2, e1⟩
        obtain ⟨J2, hJ, hJ4⟩ := cp_next hr hJ3 hid3 hl3 (prefix_app (by omega) hg3) oR nR fR o (.row 1 [[.sl (h3.length + 1) 3 0 (i + 1)]])
        have hd : (l.map Fd.cs).take i ++ [f.cs] = (l.map Fd.cs).take (i + 1) := by rw [List.take_add_one, hD]; rfl
        rw [hd] at hJ
        refine ⟨⟨i + 1, h3.length + 1, _⟩, ⟨by simp only; omega, ?_, ?_, ?_, fun _ => ⟨by simp only; omega, _, J2, hJ, hJ4⟩⟩, by simp only; omega, wkt_cur (by simp) ?_⟩
        · rw [List.getElem?_set_ne (by omega), List.getElem?_append_left (by simp only [List.length_set, List.length_append, List.length_cons]; omega), List.getElem?_set_ne (by omega), List.getElem?_append_left (by omega), hg3 0 (by omega)]; exact i2
        · rw [List.getElem?_set_ne (by omega), List.getElem?_append_left (by simp only [List.length_set, List.length_append, List.length_cons]; omega), List.getElem?_set_ne (by omega), List.getElem?_append_left (by omega), hg3 1 (by omega)]; exact i3
        · rw [List.getElem?_set_self (by simp; omega), cpK, if_neg (show ¬ (i + 1 = 0) by omega)]
        · simp [e1, e2, e3, e4, below]
          exact ⟨w1 (i := i) (by omega), by omega⟩
      simp -implicitDefEqProofs [i2, hfl, hg, hcs, hsp, set_last, ↓j2, ↓j4]
      refine ⟨⟨by omega, by omega⟩, ?_⟩
      refine (AC.mkLift shp_one hB (by simp)).mono ?_
      rintro r h3 ⟨vB, IB, o1, rfl, e3, oB, nB, fB⟩
      obtain ⟨B, rfl⟩ := own_single oB
      simp at fB
      have hg3 : ∀ j, j < h.length → h3[j]? = h[j]? := fun j hj => by rw [e3, List.append_assoc, List.getElem?_append_left hj]
      have p0 : h3[h.length]? = some (.row 3 [[.p (.str f.name), .p (.lst 1 (f.params.map fun w => [.str w])), .p (smL f.body)]]) := by
        rw [e3, List.append_assoc, List.getElem?_append_right (Nat.le_refl _), Nat.sub_self]; rfl
      have p2 : h3[h.length + 2]? = some (strO f.params) := by
        rw [e3, List.append_assoc, List.getElem?_append_right (by omega), Nat.add_sub_cancel_left]
        simp [strO, Function.comp_def]
      have oP := strO_own p2 (n := f.params.length) rfl
      have hl4 : h.length + 3 ≤ h3.length := by rw [e3]; simp
      have q0 : ∀ os, (h3 ++ os)[2]? = some (.row 1 [[.sl id 3 0 i]]) := fun os => by rw [List.getElem?_append_left (by omega), hg3 2 (by omega)]; exact i4
      have q1 : h3[2]? = some (.row 1 [[.sl id 3 0 i]]) := by rw [hg3 2 (by omega)]; exact i4
      have q2 : ∀ os, (h3 ++ os)[h.length]? = some (.row 3 [[.p (.str f.name), .p (.lst 1 (f.params.map fun w => [.str w])), .p (smL f.body)]]) := fun os => by rw [List.getElem?_append_left (by omega)]; exact p0
      clear p2
      have q4 : ∀ x o y, ((h3 ++ x).set id o ++ y)[2]? = some (.row 1 [[.sl id 3 0 i]]) := fun x o y => by
        rw [List.getElem?_append_left (by simp only [List.length_set, List.length_append]; omega), List.getElem?_set_ne (by omega), List.getElem?_append_left (by omega), hg3 2 (by omega)]; exact i4
      have q3 : ∀ os, (h3 ++ os)[id]? = some (.row 3 rows) := fun os => by rw [List.getElem?_append_left (by omega), hg3 id hidl]; exact hr.here
      have hfR : ∀ j ∈ [h.length + 2] ++ IB, h.length ≤ j := fun j hj => by
        rcases List.mem_append.1 hj with hj | hj
        · rw [List.mem_singleton.1 hj]; omega
        · have := fB j hj; omega
      have hnR : ([h.length + 2] ++ IB).Nodup := List.nodup_cons.2 ⟨fun hm => by have := fB _ hm; omega, nB⟩
      rcases own_cases oB with ⟨b1, rfl⟩ | rfl | ⟨x1, x2, x3, rfl⟩
      · have oR := fd_own (s := true) (w := f.name) oP oB
        simp -implicitDefEqProofs [callR_nxt, one, ↓q1, ↓p0, ↓q0, ↓q2, ↓q3, ↓q4, hrl]
        rw [List.take_of_length_le (l := rows) (i := i) (by omega)]
        refine ⟨⟨by omega, by omega⟩, ?_⟩
        exact fin0 h3 _ _ _ hl4 hg3 oR hnR hfR _ (by simp)
      · have oR := fd_own (s := true) (w := f.name) oP oB
        simp -implicitDefEqProofs [callR_nxt, one, ↓q1, ↓p0, ↓q0, ↓q2, ↓q3, ↓q4, hrl]
        rw [List.take_of_length_le (l := rows) (i := i) (by omega)]
        refine ⟨⟨by omega, by omega⟩, ?_⟩
        exact fin0 h3 _ _ _ hl4 hg3 oR hnR hfR _ (by simp)
      · have oR := fd_own (s := true) (w := f.name) oP oB
        simp -implicitDefEqProofs [callR_nxt, one, ↓q1, ↓p0, ↓q0, ↓q2, ↓q3, ↓q4, hrl]
        rw [List.take_of_length_le (l := rows) (i := i) (by omega)]
        refine ⟨⟨by omega, by omega⟩, ?_⟩
        exact fin0 h3 _ _ _ hl4 hg3 oR hnR hfR _ (by simp)
  · simp at h1
    have hie : i = l.length := by omega
    subst hie
    have s1 : ∀ x, (h.set 1 x)[1]? = some x := fun x => List.getElem?_set_self (by omega)
    by_cases hi0 : l.length = 0
    · have hk : cpK ⟨l.length, id, h⟩ = .nils := if_pos hi0
      rw [hk] at i4
      simp -implicitDefEqProofs [i4, i3, s1]
      obtain rfl := List.eq_nil_of_length_eq_zero hi0
      exact ⟨[.nils], [], rfl, .nils 3 .nil, by simp⟩
    · have hk : cpK ⟨l.length, id, h⟩ = .sl id 3 0 l.length := if_neg hi0
      rw [hk] at i4
      obtain ⟨hid3, rows, J, hr, hJ3⟩ := i5 (by omega)
      rw [List.take_of_length_le (by simp)] at hr
      simp -implicitDefEqProofs [i4, i3, s1]
      have ho := hr.tree (n := l.length) (by simp)
      exact ⟨[.sl id 3 0 l.length], id :: J, rfl, ho.set_out (fun hm => by
        rcases List.mem_cons.1 hm with hm | hm
        · omega
        · have := hJ3 _ hm; omega) _, hr.nd⟩
end Go.Proofs.YtiojgfhdcpppcaaDoor
namespace Go.Proofs.YtiojgfhdcpppcaaDoor
open Go Go.Aw
set_option maxRecDepth 100000
set_option maxHeartbeats 4000000
variable (G : Glob)
theorem rd_frame {s : Bool} {b : List Int} {q : Nat} {T : List AO} {vs : List AV} {qs : List PV} {I : List Nat} (H : OwnL s (rdO b q :: T) vs qs I) (hI : ∀ i ∈ I, 1 ≤ i) (o : AO) : OwnL s (o :: T) vs qs I :=
  H.frame fun i hi => by
    have := hI i hi
    obtain ⟨k, rfl⟩ : ∃ k, i = k + 1 := ⟨i - 1, by omega⟩
    rfl
theorem prog_fin {b : List Int} {p q : Nat} {T : List AO} {v : AV} {l : List Fd} {I : List Nat} (H : OwnL true (rdO b q :: T) [v] [fdL l] I) (hI : ∀ i ∈ I, 1 ≤ i) (hz : fdsZ l ≤ 900000000) (h1 : p ≤ q) (h2 : q ≤ p + 400500000) : DP b (PgQ p 900000000 400500000) (.ret (.agg [v])) (rdO b q :: T) :=
  ⟨_, T, q, .agg [.p (fdL l)], rfl, rfl, .agg (.one ((rd_frame H hI .dead).view 0 v _ rfl rfl) .nil) .nil, ⟨l, rfl, hz⟩, h1, h2⟩
theorem smsZ_set {l : List Sm} {k : Nat} {s0 : Sm} (s : Sm) (h : l[k]? = some s0) : smsZ (l.set k s) + s0.sz = smsZ l + s.sz := by
  obtain ⟨hk, h⟩ := List.getElem?_eq_some_iff.1 h
  subst h
  · rw [set_take_drop s hk, smsZ_append]
    have e : l = l.take k ++ l.drop k := (List.take_append_drop _ _).symm
    have h1 : smsZ l = smsZ (l.take k) + smsZ (l.drop k) := by rw [← smsZ_append, ← e]
    have h4 : smsZ (l.drop k) = l[k].sz + smsZ (l.drop (k + 1)) := by rw [List.drop_eq_getElem_cons hk]; rfl
    simp only [smsZ]
    omega
theorem exsZ_set (l : List Ex) (k : Nat) (s : Ex) : exsZ (l.set k s) ≤ exsZ l + s.sz := by
  by_cases hk : k < l.length
  · rw [set_take_drop s hk, exsZ_append]
    have e : l = l.take k ++ l.drop k := (List.take_append_drop _ _).symm
    have h1 : exsZ l = exsZ (l.take k) + exsZ (l.drop k) := by rw [← exsZ_append, ← e]
    have h4 : exsZ (l.drop k) = l[k].sz + exsZ (l.drop (k + 1)) := by rw [List.drop_eq_getElem_cons hk]; rfl
    simp only [exsZ]
    omega
  · rw [List.set_eq_of_length_le (by omega)]; omega
theorem set_same {α : Type} {l : List α} {k : Nat} {x : α} (h : l[k]? = some x) : l.set k x = l := by
  apply List.ext_getElem?
  intro i
  by_cases hi : k = i
  · subst hi; rw [List.getElem?_set_self (List.getElem?_eq_some_iff.1 h).1, h]
  · rw [List.getElem?_set_ne hi]
theorem view_pre {h : List AO} {id sz n m : Nat} {es : List (List PV)} (H : View h (.sl id sz 0 n) (.lst sz es)) (hm : m ≤ es.length) : View h (.sl id sz 0 m) (.lst sz (es.take m)) := by
  cases H with
  | sl _ _ _ rows _ e1 e2 e3 e4 =>
    have hl : (es.take m).length = m := by rw [List.length_take]; omega
    have := View.sl id sz 0 rows (es.take m) e1 (by omega) (fun e he => e3 e (List.mem_of_mem_take he)) (fun i j e q e' a a1 a2 a3 a4 => by
      have hi : i < m := by have := (List.getElem?_eq_some_iff.1 a1).1; omega
      rw [List.getElem?_take_of_lt hi] at a1
      exact e4 i j e q e' a a1 a2 a3 a4)
    rwa [hl] at this
theorem d_l4Prog {b : List Int} (hb : Byt b) (hl : b.length ≤ 2000) {p : Nat} (hp : p ≤ 5000000000) : AC Tryd.prog G n_spec_l4Prog [.ptr 0 2 0 0] [rdO b p] fun x h => ∃ v q, x = .ret v ∧ h = [rdO b q] ∧ PgQ p 900000000 400500000 v q := by
  refine d_close G (AC.go k_spec_l4Prog ?_)
  have hprog : AC Tryd.prog G n_spec_l3Prog [.ptr 0 2 0 0] [rdO b p] fun x h => ∃ v q, x = .ret v ∧ h = [rdO b q] ∧ ((∃ l : List Fd, v = .agg [.p (fdL l)] ∧ progOk l = true ∧ fdsZ l ≤ 200000000) ∧ p ≤ q ∧ q ≤ p + 200000000) :=
    (g_prog G hb hl (by omega)).mono fun x h ⟨l, q, e1, e2, e3, e4, e5, e6⟩ => ⟨_, q, e1, e2, ⟨l, rfl, e3, e4⟩, e5, e6⟩
  simp -implicitDefEqProofs [F_spec_l4Prog]
  refine (d_rest G hprog _ (by simp [below])).mono ?_
  rintro r h ⟨v, q, rfl, rfl, ⟨l, rfl, hok, hz⟩, h1, h2⟩
  have hlen := ((progOk_iff l).1 hok).1
  have hfd := ((progOk_iff l).1 hok).2.1
  simp -implicitDefEqProofs [callR_nxt]
  refine (d_pickP G b hb hl q (by omega) 5 _).mono ?_
  rintro r h ⟨k1, rfl, rfl, _⟩
  simp -implicitDefEqProofs [callR_nxt]
  refine cndb (fun hc => ?_) (fun hc => ?_)
  · simp -implicitDefEqProofs []
    exact ⟨_, _, q + 1, .agg [.p (fdL l)], rfl, rfl, .keep (by simp) .nil, ⟨l, rfl, by omega⟩, by omega, by omega⟩
  simp -implicitDefEqProofs []
  refine (d_pickP G b hb hl (q + 1) (by omega) 6 _).mono ?_
  rintro r h ⟨k2, rfl, rfl, _⟩
  simp -implicitDefEqProofs [callR_nxt]
  refine cndb (fun hc2 => ?_) (fun hc2 => ?_)
  · simp -implicitDefEqProofs []
    refine (d_rest G (d_l3Bent G hb hl (p := q + 1 + 1) (by omega)) _ (by simp [below])).mono ?_
    rintro r h ⟨v, q2, rfl, rfl, ⟨l2, rfl, hz2⟩, h3, h4⟩
    simp -implicitDefEqProofs [callR_nxt]
    exact ⟨_, _, q2, .agg [.p (fdL l2)], rfl, rfl, .keep (by simp) .nil, ⟨l2, rfl, by omega⟩, by omega, by omega⟩
  simp -implicitDefEqProofs []
  refine (AC.mkLift shp_agg (s_l4Copy G l (by omega)) (by simp)).mono ?_
  rintro r h ⟨vs, I, os, rfl, rfl, ho, nd, hI⟩
  obtain ⟨v, rfl⟩ := own_single ho
  have hne : l.map Fd.cs ≠ [] := by intro h; rw [List.map_eq_nil_iff] at h; rw [h] at hlen; simp at hlen
  simp at hI
  rcases ho.inv nd with ⟨h0, _⟩ | ⟨h0, _⟩ | ⟨id, rowsF, JF, rfl, rfl, hF⟩
  · exact absurd h0 hne
  · cases h0
  have hid3 : 3 ≤ id := hI id (by simp)
  obtain ⟨fF, rfl⟩ : ∃ fF, id = fF + 1 := ⟨id - 1, by omega⟩
  rw [List.length_map]
  simp -implicitDefEqProofs [callR_nxt]
  have hF2 : ∀ q', RowOwn true (rdO b q' :: .row 1 [[.nils]] :: .row 1 [[.sl (fF + 1) 3 0 l.length]] :: os) (fF + 1) 3 rowsF (l.map Fd.cs) JF := fun q' => hF.frame fun i hi => by
    have := hI i (by simpa using hi)
    obtain ⟨k, rfl⟩ : ∃ k, i = k + 3 := ⟨i - 3, by omega⟩
    rfl
  have hI3 : ∀ j ∈ JF, 3 ≤ j := fun j hj => hI j (by simp [hj])
  have hnF := hF.nd
  clear hF ho
  obtain ⟨T, hT⟩ : ∃ T, T = .row 1 [[.nils]] :: .row 1 [[AV.sl (fF + 1) 3 0 l.length]] :: os := ⟨_, rfl⟩
  rw [← hT] at hF2 ⊢
  have t0 : T[0]? = some (.row 1 [[.nils]]) := by rw [hT]; rfl
  have t1 : T[1]? = some (.row 1 [[.sl (fF + 1) 3 0 l.length]]) := by rw [hT]; rfl
  have tF : T[fF]? = some (.row 3 rowsF) := (hF2 0).here
  clear hT
  refine (d_pickP G b hb hl (q + 1 + 1) (by omega) l.length _).mono ?_
  rintro r h ⟨k, rfl, rfl, hk⟩
  have hkl : k < l.length := by omega
  have hgk := List.getElem?_eq_getElem hkl
  have hfk := hfd _ (List.getElem_mem hkl)
  have hzk := fdsZ_mem (List.getElem_mem hkl)
  have hDk : (l.map Fd.cs)[k]? = some l[k].cs := by rw [List.getElem?_map, hgk]; rfl
  generalize l[k] = f at hgk hfk hzk hDk
  obtain ⟨rF, J1, Jk, J2, r1, rfl, r2, r5⟩ := (hF2 (q + 1 + 1 + 1)).own.put (hF2 0).len (hF2 0).rl (hF2 0).dl hDk
  obtain ⟨A, B, IA, IB, rfl, rfl, oA, oB⟩ := own_fd r2
  have hltJ : ∀ j ∈ J1 ++ (IA ++ IB ++ J2), j < T.length + 1 := fun j hj => by have := (hF2 0).own.lt hj; simpa using this
  have hnd := hnF
  rw [List.nodup_cons] at hnd
  have hn1 : fF + 1 ∉ J1 ++ (IA ++ IB ++ J2) := hnd.1
  have hn2 := hnd.2
  have hIB : ∀ j ∈ IB, 3 ≤ j := fun j hj => hI3 j (by simp [hj])
  have nIB : IB.Nodup := (List.nodup_append.1 (List.nodup_append.1 (List.nodup_append.1 hn2).2.1).1).2.1
  have hDl : (l.map Fd.cs).length = l.length := by simp
  have finG : ∀ (U : List AO) (q' : Nat) (B' : AV) (I' : List Nat) (sl' : List Sm), (∀ i, 2 ≤ i → i < T.length → i ≠ fF → i + 1 ∉ IB → U[i]? = T[i]?) → U[fF]? = some (.row 3 (rowsF.set k [.p (.str f.name), A, B'])) → OwnL true (rdO b q' :: U) [B'] [smL sl'] I' → (∀ i ∈ I', 1 ≤ i) →
      smsZ sl' ≤ 450000000 → p ≤ q' → q' ≤ p + 400500000 → DP b (PgQ p 900000000 400500000) (.ret (.agg [.sl (fF + 1) 3 0 l.length])) (rdO b q' :: U) := by
    intro U q' B' I' sl' hU hUF oB' hI' hz' h3 h4
    have hfr : ∀ j ∈ J1 ++ J2 ++ IA, (rdO b q' :: U)[j]? = (rdO b (q + 1 + 1 + 1) :: T)[j]? := fun j hj => by
      have hjm : j ∈ J1 ++ (IA ++ IB ++ J2) := by simp only [List.mem_append] at hj ⊢; rcases hj with (hj | hj) | hj <;> simp [hj]
      have hj3 := hI3 j hjm
      have hjl := hltJ j hjm
      obtain ⟨i, rfl⟩ : ∃ i, j = i + 1 := ⟨j - 1, by omega⟩
      rw [List.getElem?_cons_succ, List.getElem?_cons_succ]
      refine hU i (by omega) (by omega) (fun e => hn1 (e ▸ hjm)) fun hm => ?_
      simp only [List.nodup_append, List.mem_append] at hn2
      obtain ⟨n1, ⟨⟨n2, n3, n4⟩, n5, n6⟩, n7⟩ := hn2
      simp only [List.mem_append] at hj
      rcases hj with (hj | hj) | hj
      · exact n7 _ hj _ (.inl (.inr hm)) rfl
      · exact n6 _ (.inr hm) _ hj rfl
      · exact n4 _ hj _ hm rfl
    have oR := fd_own (s := true) (w := f.name) (oA.frame fun i hi => hfr i (by simp [hi])) oB'
    have oW := r5 (rdO b q' :: U) _ _ _ (fun j hj => hfr j (by simp only [List.mem_append] at hj ⊢; exact .inl hj)) oR
    have hD' : (l.map Fd.cs).set k (Fd.mk f.name f.params sl').cs = (l.set k ⟨f.name, f.params, sl'⟩).map Fd.cs := by rw [List.map_set]
    have tree := OwnL.sl (s := true) (h := rdO b q' :: U) (fF + 1) 3 l.length (rowsF.set k [.p (.str f.name), A, B']) ((l.map Fd.cs).set k (Fd.mk f.name f.params sl').cs) hUF (by simp) (by have := (hF2 0).len; simpa using this) (fun e he => by
      rcases List.mem_or_eq_of_mem_set he with h | rfl
      · exact (hF2 0).rl e h
      · rfl) (fun e he => by
      rcases List.mem_or_eq_of_mem_set he with h | rfl
      · exact (hF2 0).dl e h
      · rfl) oW .nil
    rw [hD'] at tree
    have hsz := fdsZ_set l k ⟨f.name, f.params, sl'⟩
    have hfz : f.sz = 1 + f.name.length + (f.params.length + (f.params.map List.length).sum) + smsZ f.body := rfl
    have hfz' : (Fd.mk f.name f.params sl').sz = 1 + f.name.length + (f.params.length + (f.params.map List.length).sum) + smsZ sl' := rfl
    refine prog_fin (l := l.set k ⟨f.name, f.params, sl'⟩) tree (fun i hi => ?_) (by omega) h3 h4
    simp only [List.mem_cons, List.mem_append, List.not_mem_nil, or_false] at hi
    rcases hi with rfl | hi | (hi | hi) | hi
    · omega
    · have := hI3 i (by simp [hi]); omega
    · have := hI3 i (by simp [hi]); omega
    · exact hI' i hi
    · have := hI3 i (by simp [hi]); omega
  have hset : rowsF.set k [.p (.str f.name), A, B] = rowsF := by
    apply List.ext_getElem?
    intro i
    by_cases hi : k = i
    · subst hi; rw [List.getElem?_set_self (List.getElem?_eq_some_iff.1 r1).1, r1]
    · rw [List.getElem?_set_ne hi]
  have hf2 : 2 ≤ fF := by omega
  have s0 : ∀ x, (T.set 0 x)[0]? = some x := fun x => List.getElem?_set_self (by have := (List.getElem?_eq_some_iff.1 t0).1; omega)
  have hbz : f.sz = 1 + f.name.length + (f.params.length + (f.params.map List.length).sum) + smsZ f.body := rfl
  simp -implicitDefEqProofs [callR_nxt, t0, t1, tF, r1, hkl]
  have fin0 : ∀ q' x, p ≤ q' → q' ≤ p + 400500000 → DP b (PgQ p 900000000 400500000) (.ret (.agg [.sl (fF + 1) 3 0 l.length])) (rdO b q' :: T.set 0 x) := fun q' x h3 h4 =>
    finG (T.set 0 x) q' B IB f.body (fun i h1 _ _ _ => List.getElem?_set_ne (by omega)) (by rw [List.getElem?_set_ne (by omega), hset]; exact tF) (oB.frame fun j hj => by
      have := hIB j hj
      obtain ⟨i, rfl⟩ : ∃ i, j = i + 1 := ⟨j - 1, by omega⟩
      rw [List.getElem?_cons_succ, List.getElem?_cons_succ, List.getElem?_set_ne (by omega)]) (fun i hi => by have := hIB i hi; omega) (by omega) h3 h4
  rcases oB.inv nIB with ⟨h0, _, rfl | rfl⟩ | ⟨h0, _⟩ | ⟨idB, rowsB, JB, rfl, rfl, hB⟩
  · simp -implicitDefEqProofs [t0, t1, s0]
    exact fin0 _ _ (by omega) (by omega)
  · simp -implicitDefEqProofs [t0, t1, s0]
    exact fin0 _ _ (by omega) (by omega)
  · cases h0
  rw [List.length_map] at *
  by_cases hbe : f.body.length = 0
  · simp -implicitDefEqProofs [hbe, t0, t1, s0]
    have := fin0 (q + 1 + 1 + 1) (.row 1 [[.sl (fF + 1) 3 0 l.length]]) (by omega) (by omega)
    exact this
  simp -implicitDefEqProofs [hbe, t0, t1, tF, r1]
  refine (d_pickP G b hb hl (q + 1 + 1 + 1) (by omega) f.body.length _).mono ?_
  rintro r h ⟨j, rfl, rfl, hj⟩
  have hjl : j < f.body.length := by omega
  obtain ⟨fB, rfl⟩ : ∃ fB, idB = fB + 1 := ⟨idB - 1, by have := hIB idB (by simp); omega⟩
  have hB3 := hIB (fB + 1) (by simp)
  have tB : T[fB]? = some (.row 5 rowsB) := hB.here
  have hgj := List.getElem?_eq_getElem hjl
  have hzj := smsZ_mem (List.getElem_mem hjl)
  have hok5 : formS 4 f.body[j] = true := by
    simp only [fdOk, Bool.and_eq_true] at hfk
    exact List.all_eq_true.1 hfk.2 _ (List.getElem_mem hjl)
  have hDj : (f.body.map Sm.cs)[j]? = some f.body[j].cs := by rw [List.getElem?_map, hgj]; rfl
  generalize f.body[j] = sm at hgj hzj hok5 hDj
  obtain ⟨rB, K1, Kj, K2, u1, rfl, u2, u5⟩ := hB.own.put hB.len hB.rl hB.dl hDj
  obtain ⟨A1, B1, E1, I1, I2, I3, rfl, rfl, oA1, oB1, oE1⟩ := own_sm u2
  simp -implicitDefEqProofs [callR_nxt, hjl, t0, t1, tF, r1, tB, u1]
  refine (d_of G hb hl (p := q + 1 + 1 + 1 + 1) (by omega) [[122, 122], [97], [98], [99], [100]] (k := T.length + 1) (by simp) (by simp) (by omega) rfl (by simp [strO])).mono ?_
  rintro r h ⟨s, hs, rfl, rfl⟩
  have hs8 : s.length ≤ 8 := by simp at hs; rcases hs with rfl | rfl | rfl | rfl | rfl <;> simp
  have nB := nIB
  rw [List.nodup_cons] at nB
  have finS : ∀ (U : List AO) (q' : Nat) (o' : Int) (nm' : List UInt8) (A' : AV) (I' : List Nat) (ar' : List Ex), (∀ i, 2 ≤ i → i < T.length → i ≠ fB → i + 1 ∉ I1 → U[i]? = T[i]?) → U[fB]? = some (.row 5 (rowsB.set j [.p (.int .i64 o'), .p (.str nm'), A', B1, E1])) → OwnL true (rdO b q' :: U) [A'] [exL ar'] I' → (∀ i ∈ I', 1 ≤ i) →
      exsZ ar' + nm'.length ≤ exsZ sm.args + sm.name.length + 1000 → p ≤ q' → q' ≤ p + 400500000 → DP b (PgQ p 900000000 400500000) (.ret (.agg [.sl (fF + 1) 3 0 l.length])) (rdO b q' :: U) := by
    intro U q' o' nm' A' I' ar' hU hUB oA' hI' hz' h3 h4
    have hmem : ∀ x ∈ K1 ++ K2 ++ I2 ++ I3, x ∈ K1 ++ (I1 ++ (I2 ++ I3) ++ K2) := fun x hx => by
      simp only [List.mem_append] at hx ⊢
      rcases hx with ((hx | hx) | hx) | hx <;> simp [hx]
    have hltB : ∀ x ∈ K1 ++ (I1 ++ (I2 ++ I3) ++ K2), x < T.length + 1 := fun x hx => by have := hB.own.lt hx; simpa using this
    have hfr : ∀ x ∈ K1 ++ K2 ++ I2 ++ I3, (rdO b q' :: U)[x]? = (rdO b (q + 1 + 1 + 1) :: T)[x]? := fun x hx => by
      have hm := hmem x hx
      have hx3 := hIB x (List.mem_cons_of_mem _ hm)
      have hxl := hltB x hm
      obtain ⟨i, rfl⟩ : ∃ i, x = i + 1 := ⟨x - 1, by omega⟩
      rw [List.getElem?_cons_succ, List.getElem?_cons_succ]
      refine hU i (by omega) (by omega) (fun e => nB.1 (e ▸ hm)) fun hm1 => ?_
      have hn := nB.2
      simp only [List.nodup_append, List.mem_append] at hn
      obtain ⟨n1, ⟨⟨n2, ⟨n3, n3', n3''⟩, n4⟩, n5, n6⟩, n7⟩ := hn
      simp only [List.mem_append] at hx
      rcases hx with ((hx | hx) | hx) | hx
      · exact n7 _ hx _ (.inl (.inl hm1)) rfl
      · exact n6 _ (.inl hm1) _ hx rfl
      · exact n4 _ hm1 _ (.inl hx) rfl
      · exact n4 _ hm1 _ (.inr hx) rfl
    have oS := sm_own (s := true) (o := o') (w := nm') oA' (oB1.frame fun i hi => hfr i (by simp [hi])) (oE1.frame fun i hi => hfr i (by simp [hi]))
    have oW := u5 (rdO b q' :: U) _ _ _ (fun x hx => hfr x (by simp only [List.mem_append] at hx ⊢; exact .inl (.inl hx))) oS
    have hD' : (f.body.map Sm.cs).set j (Sm.mk o' nm' ar' sm.body sm.els).cs = (f.body.set j ⟨o', nm', ar', sm.body, sm.els⟩).map Sm.cs := by rw [List.map_set]
    have tree := OwnL.sl (s := true) (h := rdO b q' :: U) (fB + 1) 5 f.body.length (rowsB.set j [.p (.int .i64 o'), .p (.str nm'), A', B1, E1]) ((f.body.map Sm.cs).set j (Sm.mk o' nm' ar' sm.body sm.els).cs) hUB (by simp) (by have := hB.len; simpa using this) (fun e he => by
      rcases List.mem_or_eq_of_mem_set he with h | rfl
      · exact hB.rl e h
      · rfl) (fun e he => by
      rcases List.mem_or_eq_of_mem_set he with h | rfl
      · exact hB.dl e h
      · exact Sm.cs_len _) oW .nil
    rw [hD'] at tree
    have hsz := smsZ_set (s := ⟨o', nm', ar', sm.body, sm.els⟩) hgj
    have hsm := sm.sz_eq
    have hsm' : (Sm.mk o' nm' ar' sm.body sm.els).sz = 1 + nm'.length + exsZ ar' + smsZ sm.body + smsZ sm.els := rfl
    have hFB : fF ≠ fB := fun e => hn1 (by rw [e]; simp)
    have hFI : fF + 1 ∉ I1 := fun hm => hn1 (by simp [hm])
    have hFT : fF < T.length := (List.getElem?_eq_some_iff.1 tF).1
    refine finG U q' (.sl (fB + 1) 5 0 f.body.length) _ (f.body.set j ⟨o', nm', ar', sm.body, sm.els⟩) (fun i g1 g2 g3 g4 => hU i g1 g2 (fun e => g4 (by rw [e]; simp)) fun hm => g4 (by simp [hm])) (by rw [hU fF hf2 hFT hFB hFI, hset]; exact tF) tree (fun i hi => ?_) (by omega) h3 h4
    simp only [List.mem_cons, List.mem_append, List.not_mem_nil, or_false] at hi
    rcases hi with rfl | hi | (hi | hi | hi) | hi
    · omega
    · have := hIB i (by simp [hi]); omega
    · exact hI' i hi
    · have := hIB i (by simp [hi]); omega
    · have := hIB i (by simp [hi]); omega
    · have := hIB i (by simp [hi]); omega
  have hTl : 2 ≤ T.length := by have := (List.getElem?_eq_some_iff.1 t1).1; omega
  have hBT : fB < T.length := (List.getElem?_eq_some_iff.1 tB).1
  have hI1 : ∀ i ∈ I1, 3 ≤ i ∧ i < T.length + 1 := fun i hi => ⟨hIB i (by simp [hi]), by have := oA1.lt hi; simpa using this⟩
  have oA1u : ∀ (U : List AO) (q' : Nat), (∀ i, 2 ≤ i → i < T.length → i + 1 ∈ I1 → U[i]? = T[i]?) → OwnL true (rdO b q' :: U) [A1] [exL sm.args] I1 := fun U q' hU => oA1.frame fun x hx => by
    obtain ⟨h3, h4⟩ := hI1 x hx
    obtain ⟨i, rfl⟩ : ∃ i, x = i + 1 := ⟨x - 1, by omega⟩
    rw [List.getElem?_cons_succ, List.getElem?_cons_succ]
    exact hU i (by omega) (by omega) hx
  have hsmz := sm.sz_eq
  have finU : ∀ (U : List AO) (q' : Nat), (∀ i, 2 ≤ i → i < T.length → U[i]? = T[i]?) → p ≤ q' → q' ≤ p + 400500000 → DP b (PgQ p 900000000 400500000) (.ret (.agg [.sl (fF + 1) 3 0 l.length])) (rdO b q' :: U) := fun U q' hU h3 h4 =>
    finS U q' sm.op sm.name A1 I1 sm.args (fun i a1 a2 _ _ => hU i a1 a2) (by rw [hU fB (by omega) hBT, set_same u1]; exact tB) (oA1u U q' fun i a1 a2 _ => hU i a1 a2) (fun i hi => by have := (hI1 i hi).1; omega) (by omega) h3 h4
  have a0 : ∀ os, (T ++ os)[0]? = some (.row 1 [[.nils]]) := fun os => by rw [List.getElem?_append_left (List.getElem?_eq_some_iff.1 t0).1]; exact t0
  have a1 : ∀ os, (T ++ os)[1]? = some (.row 1 [[.sl (fF + 1) 3 0 l.length]]) := fun os => by rw [List.getElem?_append_left (List.getElem?_eq_some_iff.1 t1).1]; exact t1
  have aF : ∀ os, (T ++ os)[fF]? = some (.row 3 rowsF) := fun os => by rw [List.getElem?_append_left (List.getElem?_eq_some_iff.1 tF).1]; exact tF
  have aB : ∀ os, (T ++ os)[fB]? = some (.row 5 (rowsB)) := fun os => by rw [List.getElem?_append_left (List.getElem?_eq_some_iff.1 tB).1]; exact tB
  simp -implicitDefEqProofs [callR_nxt]
  refine (d_pickP G b hb hl (q + 1 + 1 + 1 + 1 + 1) (by omega) 4 _).mono ?_
  rintro r h ⟨k3, rfl, rfl, _⟩
  have nI1 : I1.Nodup := (List.nodup_append.1 (List.nodup_append.1 (List.nodup_append.1 nB.2).2.1).1).1
  have hargs : 0 < sm.args.length := by
    simp only [formS, headS, Bool.and_eq_true, decide_eq_true_eq] at hok5
    have := hok5.1.1.1.1.1.1.1.1.2
    rw [this]; unfold argsN; split <;> omega
  have hA0 : sm.args.map Ex.cs ≠ [] := by intro h; rw [List.map_eq_nil_iff] at h; rw [h] at hargs; simp at hargs
  obtain ⟨idA, rowsA, JA, rfl, rfl, hA⟩ : ∃ id rows J, A1 = .sl id 4 0 sm.args.length ∧ I1 = id :: J ∧ RowOwn true (rdO b (q + 1 + 1 + 1) :: T) id 4 rows (sm.args.map Ex.cs) J := by
    rcases oA1.inv nI1 with ⟨h0, _⟩ | ⟨h0, _⟩ | ⟨id, rows, J, e1, e2, e3⟩
    · exact absurd h0 hA0
    · cases h0
    · rw [List.length_map] at e1; exact ⟨id, rows, J, e1, e2, e3⟩
  obtain ⟨fA, rfl⟩ : ∃ fA, idA = fA + 1 := ⟨idA - 1, by have := (hI1 idA (by simp)).1; omega⟩
  have hA3 := hI1 (fA + 1) (by simp)
  have tA : T[fA]? = some (.row 4 rowsA) := hA.here
  have aA : ∀ os, (T ++ os)[fA]? = some (.row 4 rowsA) := fun os => by rw [List.getElem?_append_left (by omega)]; exact tA
  have hg0 := List.getElem?_eq_getElem hargs
  have hz0 := exsZ_mem (List.getElem_mem hargs)
  have hD0 : (sm.args.map Ex.cs)[0]? = some sm.args[0].cs := by rw [List.getElem?_map, hg0]; rfl
  generalize sm.args[0] = e0 at hg0 hz0 hD0
  obtain ⟨r0, L1, L0, L2, g1, rfl, g3, g5⟩ := hA.own.put hA.len hA.rl hA.dl hD0
  obtain ⟨K0, rfl, _⟩ := own_ex g3
  have nA := nI1
  rw [List.nodup_cons] at nA
  have finA : ∀ (U : List AO) (q' : Nat) (o n : Int) (w : List UInt8) (K : AV) (IK : List Nat) (ks : List Ex), (∀ i, 2 ≤ i → i < T.length → i ≠ fA → U[i]? = T[i]?) → U[fA]? = some (.row 4 (rowsA.set 0 [.p (.int .i64 o), .p (.int .i64 n), .p (.str w), K])) → OwnL true (rdO b q' :: U) [K] [exL ks] IK → (∀ i ∈ IK, 1 ≤ i) →
      (Ex.mk o n w ks).sz ≤ 500 → p ≤ q' → q' ≤ p + 400500000 → DP b (PgQ p 900000000 400500000) (.ret (.agg [.sl (fF + 1) 3 0 l.length])) (rdO b q' :: U) := by
    intro U q' o n w K IK ks hU hUA oK hIK hz' h3 h4
    have hfr : ∀ x ∈ L1 ++ L2, (rdO b q' :: U)[x]? = (rdO b (q + 1 + 1 + 1) :: T)[x]? := fun x hx => by
      have hm : x ∈ L1 ++ (L0 ++ L2) := by
        simp only [List.mem_append] at hx ⊢
        rcases hx with hx | hx
        · exact .inl hx
        · exact .inr (.inr hx)
      obtain ⟨hx3, hx4⟩ := hI1 x (List.mem_cons_of_mem _ hm)
      obtain ⟨i, rfl⟩ : ∃ i, x = i + 1 := ⟨x - 1, by omega⟩
      rw [List.getElem?_cons_succ, List.getElem?_cons_succ]
      exact hU i (by omega) (by omega) fun e => nA.1 (e ▸ hm)
    have oW := g5 (rdO b q' :: U) _ _ _ hfr (ex_own (o := o) (n := n) (w := w) oK)
    have hD' : (sm.args.map Ex.cs).set 0 (Ex.mk o n w ks).cs = (sm.args.set 0 ⟨o, n, w, ks⟩).map Ex.cs := by rw [List.map_set]
    have tree := OwnL.sl (s := true) (h := rdO b q' :: U) (fA + 1) 4 sm.args.length (rowsA.set 0 [.p (.int .i64 o), .p (.int .i64 n), .p (.str w), K]) ((sm.args.map Ex.cs).set 0 (Ex.mk o n w ks).cs) hUA (by simp) (by have := hA.len; simpa using this) (fun e he => by
      rcases List.mem_or_eq_of_mem_set he with h | rfl
      · exact hA.rl e h
      · rfl) (fun e he => by
      rcases List.mem_or_eq_of_mem_set he with h | rfl
      · exact hA.dl e h
      · exact Ex.cs_len _) oW .nil
    rw [hD'] at tree
    have hsz := exsZ_set sm.args 0 ⟨o, n, w, ks⟩
    have hBA : fB ≠ fA := fun e => nB.1 (by rw [e]; simp)
    refine finS U q' sm.op sm.name (.sl (fA + 1) 4 0 sm.args.length) _ (sm.args.set 0 ⟨o, n, w, ks⟩) (fun i g1 g2 _ g4 => hU i g1 g2 fun e => g4 (by rw [e]; simp)) (by rw [hU fB (by omega) hBT hBA, set_same u1]; exact tB) tree (fun i hi => ?_) (by omega) h3 h4
    simp only [List.mem_cons, List.mem_append, List.not_mem_nil, or_false] at hi
    rcases hi with rfl | hi | hi | hi
    · omega
    · have := (hI1 i (by simp [hi])).1; omega
    · exact hIK i hi
    · have := (hI1 i (by simp [hi])).1; omega
  have w0 : ∀ os x, ((T ++ os).set 0 x)[0]? = some x := fun os x => List.getElem?_set_self (by simp only [List.length_append]; omega)
  have v0 : ∀ os x, ((T ++ os).set fA x)[0]? = some (.row 1 [[.nils]]) := fun os x => by rw [List.getElem?_set_ne (by omega)]; exact a0 os
  have v1 : ∀ os x, ((T ++ os).set fA x)[1]? = some (.row 1 [[.sl (fF + 1) 3 0 l.length]]) := fun os x => by rw [List.getElem?_set_ne (by omega)]; exact a1 os
  have v2 : ∀ os x y, (((T ++ os).set fA x).set 0 y)[0]? = some y := fun os x y => List.getElem?_set_self (by simp only [List.length_set, List.length_append]; omega)
  have hv : ∀ os x y (i : Nat), 2 ≤ i → i < T.length → i ≠ fA → (((T ++ os).set fA x).set 0 y)[i]? = T[i]? := fun os x y i h1 h2 h3 => by
    rw [List.getElem?_set_ne (by omega), List.getElem?_set_ne (by omega), List.getElem?_append_left h2]
  have aE : ∀ x y os, (T ++ x :: y :: os)[T.length + 1]? = some y := fun x y os => by rw [List.getElem?_append_right (by omega), Nat.add_sub_cancel_left]; rfl
  have aE2 : ∀ x y z os, (T ++ x :: y :: os).set (T.length + 1) z = T ++ x :: z :: os := fun x y z os => by rw [List.set_append_right _ _ (by omega), Nat.add_sub_cancel_left]; rfl
  by_cases c1 : k3 = 1
  · subst c1
    simp -implicitDefEqProofs [callR_nxt, ↓a0, ↓a1, ↓aF, ↓aB, u1, hjl]
    refine cndb (fun hn => ?_) (fun hn => ?_)
    · simp -implicitDefEqProofs []
      refine (d_of G hb hl (p := q + 1 + 1 + 1 + 1 + 1 + 1) (by omega) [[97], [98], [122, 122], [99], [100]] (k := T.length + 2 + 1) (by simp) (by simp) (by omega) rfl (by simp [strO])).mono ?_
      rintro r h ⟨s2, hs2, rfl, rfl⟩
      have hs28 : s2.length ≤ 8 := by simp at hs2; rcases hs2 with rfl | rfl | rfl | rfl | rfl <;> simp
      have v0 : ∀ os x, ((T ++ os).set fB x)[0]? = some (.row 1 [[.nils]]) := fun os x => by rw [List.getElem?_set_ne (by omega)]; exact a0 os
      have v1 : ∀ os x, ((T ++ os).set fB x)[1]? = some (.row 1 [[.sl (fF + 1) 3 0 l.length]]) := fun os x => by rw [List.getElem?_set_ne (by omega)]; exact a1 os
      have v2 : ∀ os x y, (((T ++ os).set fB x).set 0 y)[0]? = some y := fun os x y => List.getElem?_set_self (by simp only [List.length_set, List.length_append]; omega)
      simp -implicitDefEqProofs [callR_nxt, ↓a0, ↓a1, ↓aF, ↓aB, u1, hjl, ↓v0, ↓v1, ↓v2, -getElem?_pos, List.getElem?_cons_zero, List.getElem?_cons_succ]
      have hv : ∀ os x y (i : Nat), 2 ≤ i → i < T.length → i ≠ fB → (((T ++ os).set fB x).set 0 y)[i]? = T[i]? := fun os x y i h1 h2 h3 => by
        rw [List.getElem?_set_ne (by omega), List.getElem?_set_ne (by omega), List.getElem?_append_left h2]
      refine finS _ _ sm.op s2 (.sl (fA + 1) 4 0 sm.args.length) _ sm.args ?_ ?_ (oA1u _ _ ?_) (fun i hi => by have := (hI1 i hi).1; omega) (by omega) (by omega) (by omega)
      · intro i h1 h2 h3 _; exact hv _ _ _ i h1 h2 h3
      · rw [List.getElem?_set_ne (by omega), List.getElem?_set_self (by simp only [List.length_append]; omega)]
      · intro i h1 h2 h3
        exact hv _ _ _ i h1 h2 (fun e => nB.1 (by rw [← e]; simp only [List.mem_append]; exact .inr (.inl (.inl h3))))
    · simp -implicitDefEqProofs [↓a0, ↓a1, ↓w0, -getElem?_pos, List.getElem?_cons_zero, List.getElem?_cons_succ]
      refine finU _ _ ?_ (by omega) (by omega)
      intro i h1 h2
      rw [List.getElem?_set_ne (by omega), List.getElem?_append_left h2]
  by_cases c2 : k3 = 2
  · subst c2
    have hw : ∀ (q' : Nat) (os : List AO), OwnL true (rdO b q' :: (T ++ os)) [.sl (fB + 1) 5 0 f.body.length] [smL f.body] ((fB + 1) :: (K1 ++ (((fA + 1) :: (L1 ++ (L0 ++ L2))) ++ (I2 ++ I3) ++ K2))) := fun q' os => oB.frame fun x hx => by
      have h3 := hIB x hx
      have h4 : x < T.length + 1 := by have := oB.lt hx; simpa using this
      obtain ⟨i, rfl⟩ : ∃ i, x = i + 1 := ⟨x - 1, by omega⟩
      rw [List.getElem?_cons_succ, List.getElem?_cons_succ, List.getElem?_append_left (by omega)]
    have hv1 : ∀ (q' : Nat) (os : List AO), View (rdO b q' :: (T ++ os)) (.sl (fB + 1) 5 0 1) (smL (f.body.take 1)) := fun q' os => by
      have := view_pre (m := 1) ((hw q' os).view 0 _ _ rfl rfl) (by simp; omega)
      rw [← List.map_take] at this
      exact this
    have hz1 : smsZ (f.body.take 1) ≤ smsZ f.body := by
      have e : f.body = f.body.take 1 ++ f.body.drop 1 := (List.take_append_drop _ _).symm
      have : smsZ f.body = smsZ (f.body.take 1) + smsZ (f.body.drop 1) := by rw [← smsZ_append, ← e]
      omega
    have hS := s_l4Stmts G _ (f.body.take 1) (Nat.lt_succ_self _) (by omega)
    simp -implicitDefEqProofs [callR_nxt, ↓a0, ↓a1, ↓aF, ↓aB, r1, hkl]
    refine ⟨by omega, ?_⟩
    refine (AC.mkLend shp_one hS (.one (hv1 _ _) .nil)).mono ?_
    rintro r h ⟨vs, IN, os2, rfl, rfl, oN, nN, hN⟩
    obtain ⟨vN, rfl⟩ := own_single oN
    have hl1 : (f.body.take 1).length = 1 := by rw [List.length_take]; omega
    have hneN : (f.body.take 1).map Sm.cs ≠ [] := by intro h; rw [List.map_eq_nil_iff] at h; rw [h] at hl1; simp at hl1
    obtain ⟨idN, rowsN, JN, rfl, rfl, hRN⟩ : ∃ id rows J, vN = .sl id 5 0 1 ∧ IN = id :: J ∧ RowOwn true _ id 5 rows ((f.body.take 1).map Sm.cs) J := by
      rcases oN.inv nN with ⟨h0, _⟩ | ⟨h0, _⟩ | ⟨id, rows, J, e1, e2, e3⟩
      · exact absurd h0 hneN
      · cases h0
      · rw [List.length_map, hl1] at e1; exact ⟨id, rows, J, e1, e2, e3⟩
    have hidN := hN idN (by simp)
    simp at hidN
    obtain ⟨fN, rfl⟩ : ∃ fN, idN = fN + 1 := ⟨idN - 1, by omega⟩
    have hFT : fF < T.length := (List.getElem?_eq_some_iff.1 tF).1
    have tN := hRN.here
    simp only [List.cons_append, List.append_assoc, List.getElem?_cons_succ, List.nil_append] at tN
    have hrN : rowsN.length = 1 := by have := hRN.len; rw [List.length_map, hl1] at this; exact this
    have hrB : rowsB.length = f.body.length := by have := hB.len; simpa using this
    have z1 : ∀ os o y, ((T ++ os).set fB o ++ y)[fF]? = some (.row 3 rowsF) := fun os o y => by
      rw [List.getElem?_append_left (by simp only [List.length_set, List.length_append]; omega), List.getElem?_set_ne (fun e => hn1 (by rw [← e]; simp))]; exact aF os
    have z2 : ∀ os o y x, (((T ++ os).set fB o ++ y).set fF x)[0]? = some (.row 1 [[.nils]]) := fun os o y x => by
      rw [List.getElem?_set_ne (by omega), List.getElem?_append_left (by simp only [List.length_set, List.length_append]; omega), List.getElem?_set_ne (by omega)]; exact a0 os
    have z3 : ∀ os o y x, (((T ++ os).set fB o ++ y).set fF x)[1]? = some (.row 1 [[.sl (fF + 1) 3 0 l.length]]) := fun os o y x => by
      rw [List.getElem?_set_ne (by omega), List.getElem?_append_left (by simp only [List.length_set, List.length_append]; omega), List.getElem?_set_ne (by omega)]; exact a1 os
    have z4 : ∀ os o y x w, ((((T ++ os).set fB o ++ y).set fF x).set 0 w)[0]? = some w := fun os o y x w => List.getElem?_set_self (by simp only [List.length_set, List.length_append]; omega)
    simp -implicitDefEqProofs [callR_nxt, one, ↓a0, ↓a1, ↓aF, ↓aB, ↓tN, ↓z1, ↓z2, ↓z3, ↓z4, r1, hkl, hrN, hrB, -getElem?_pos, List.getElem?_cons_zero, List.getElem?_cons_succ]
    rw [List.take_of_length_le (l := rowsB) (by omega), List.take_of_length_le (l := rowsN) (by omega)]
    have hbl := smsZ_len f.body
    refine ⟨⟨by omega, by omega⟩, ?_⟩
    have hJB : ∀ x ∈ K1 ++ (((fA + 1) :: (L1 ++ (L0 ++ L2))) ++ (I2 ++ I3) ++ K2), 3 ≤ x ∧ x < T.length + 1 ∧ x ≠ fF + 1 ∧ x ≠ fB + 1 := fun x hx => ⟨hIB x (List.mem_cons_of_mem _ hx), by have := hB.own.lt hx; simpa using this, fun e => hn1 (by rw [← e]; simp only [List.mem_append]; exact .inr (.inl (.inr (List.mem_cons_of_mem _ hx)))), fun e => nB.1 (e ▸ hx)⟩
    have hJN : ∀ x ∈ JN, T.length + 3 ≤ x ∧ x < T.length + 3 + os2.length := fun x hx => ⟨by have := hN x (by simp [hx]); simp at this; omega, by have := hRN.own.lt hx; simp at this; omega⟩
    have nle : ∀ (W : List AO) (fo bo : AO) (x y : AO), ∀ i, 2 ≤ i → i < T.length → i ≠ fF → i ≠ fB → (((((T ++ W).set fB bo) ++ [y]).set fF fo).set 0 x)[i]? = T[i]? := fun W fo bo x y i h1 h2 h3 h4 => by
      rw [List.getElem?_set_ne (by omega), List.getElem?_set_ne (by omega), List.getElem?_append_left (by simp only [List.length_set, List.length_append]; omega), List.getElem?_set_ne (by omega), List.getElem?_append_left h2]
    have nri : ∀ (W : List AO) (fo bo : AO) (x y : AO), ∀ i, T.length ≤ i → i < (T ++ W).length → (((((T ++ W).set fB bo) ++ [y]).set fF fo).set 0 x)[i]? = (T ++ W)[i]? := fun W fo bo x y i h1 h2 => by
      rw [List.getElem?_set_ne (by omega), List.getElem?_set_ne (by omega), List.getElem?_append_left (by simpa using h2), List.getElem?_set_ne (by omega)]
    have hbl2 := smsZ_len f.body
    have hzN : smsZ (f.body ++ f.body.take 1) ≤ 400000000 := by rw [smsZ_append]; omega
    refine finG _ _ (.sl (T.length + (os2.length + 1 + 1) + 1) 5 0 (f.body.length + 1)) ((T.length + (os2.length + 1 + 1) + 1) :: ((K1 ++ (((fA + 1) :: (L1 ++ (L0 ++ L2))) ++ (I2 ++ I3) ++ K2)) ++ JN ++ [])) (f.body ++ f.body.take 1) (fun i g1 g2 g3 g4 => nle _ _ _ _ _ i g1 g2 g3 (fun e => g4 (by rw [e]; simp))) ?_ ?_ ?_ (by omega) (by omega) (by omega)
    · rw [List.getElem?_set_ne (by omega), List.getElem?_set_self (by simp only [List.length_set, List.length_append]; omega)]
    · refine OwnL.sl _ 5 (f.body.length + 1) (rowsB ++ rowsN) ((f.body ++ f.body.take 1).map Sm.cs) ?_ (by rw [List.length_map, List.length_append, hl1]) (by rw [List.length_append, List.length_map, List.length_append, hl1, hrB, hrN]) (fun e he => ?_) (fun e he => by obtain ⟨x, _, rfl⟩ := List.mem_map.1 he; simp) ?_ .nil
      · rw [List.getElem?_cons_succ, List.getElem?_set_ne (by omega), List.getElem?_set_ne (by omega), List.getElem?_append_right (by simp)]
        simp
      · rcases List.mem_append.1 he with h | h
        · exact hB.rl e h
        · exact hRN.rl e h
      · rw [List.map_append, List.flatten_append, List.flatten_append]
        refine (hB.own.frame fun x hx => ?_).app (hRN.own.frame fun x hx => ?_)
        · obtain ⟨x1, x2, x3, x4⟩ := hJB x hx
          obtain ⟨i, rfl⟩ : ∃ i, x = i + 1 := ⟨x - 1, by omega⟩
          rw [List.getElem?_cons_succ, List.getElem?_cons_succ]
          exact nle _ _ _ _ _ i (by omega) (by omega) (by omega) (by omega)
        · obtain ⟨x1, x2⟩ := hJN x hx
          obtain ⟨i, rfl⟩ : ∃ i, x = i + 1 := ⟨x - 1, by omega⟩
          simp only [List.cons_append, List.append_assoc, List.getElem?_cons_succ, List.nil_append]
          exact nri _ _ _ _ _ i (by omega) (by simp; omega)
    · intro i hi
      simp only [List.mem_cons, List.mem_append, List.not_mem_nil, or_false] at hi
      rcases hi with rfl | hi | hi
      · omega
      · have := (hJB i (by simp only [List.mem_cons, List.mem_append]; exact hi)).1; omega
      · have := (hJN i hi).1; omega
  by_cases c0 : k3 = 0
  · subst c0
    simp -implicitDefEqProofs [callR_nxt]
    refine (d_of G hb hl (p := q + 1 + 1 + 1 + 1 + 1 + 1) (by omega) [[102], [103], [109], [113]] (k := T.length + 2 + 1) (by simp) (by simp) (by omega) rfl (by simp [strO])).mono ?_
    rintro r h ⟨s2, hs2, rfl, rfl⟩
    have hs28 : s2.length ≤ 8 := by simp at hs2; rcases hs2 with rfl | rfl | rfl | rfl <;> simp
    simp -implicitDefEqProofs [callR_nxt, ↓a0, ↓a1, ↓aB, u1, hjl, ↓aE, ↓aE2, -getElem?_pos, List.getElem?_cons_zero, List.getElem?_cons_succ]
    refine cndb (fun hn => ?_) (fun hn => ?_)
    · simp -implicitDefEqProofs [↓a0, ↓a1, ↓aB, ↓aA, u1, hjl, g1, hargs, ↓v0, ↓v1, ↓v2, ↓aE, -getElem?_pos, List.getElem?_cons_zero, List.getElem?_cons_succ]
      refine finA _ _ 13 0 s2 (.sl (T.length + 3 + 1) 4 0 1) [T.length + 3 + 1] [⟨1, 1, [], []⟩] (fun i h1 h2 h3 => hv _ _ _ i h1 h2 h3) ?_ ?_ (by simp) (by simp [Ex.sz, exsZ]; omega) (by omega) (by omega)
      · rw [List.getElem?_set_ne (by omega), List.getElem?_set_self (by simp only [List.length_append]; omega)]
      · refine RowOwn.tree (rows := [[.p (.int .i64 1), .p (.int .i64 1), .p (.str []), .nils]]) (J := []) ⟨?_, rfl, by simp, by simp, ?_, by simp⟩ rfl
        · rw [List.getElem?_cons_succ, List.getElem?_set_ne (by omega), List.getElem?_set_ne (by omega), List.getElem?_append_right (by omega), Nat.add_sub_cancel_left]; rfl
        · simpa using ex_own (s := true) (o := 1) (n := 1) (w := []) (k := []) (.nils 4 .nil)
    · simp -implicitDefEqProofs [↓a0, ↓a1, ↓w0, -getElem?_pos, List.getElem?_cons_zero, List.getElem?_cons_succ]
      refine finU _ _ ?_ (by omega) (by omega)
      intro i h1 h2
      rw [List.getElem?_set_ne (by omega), List.getElem?_append_left h2]
  have d1 : ¬ (k3 : Int) = 1 := by omega
  have d2 : ¬ (k3 : Int) = 2 := by omega
  simp -implicitDefEqProofs [callR_nxt, c0, d1, d2, ↓a0, ↓a1, ↓aF, ↓aB, u1, hjl]
  refine cndb (fun hn => ?_) (fun hn => ?_)
  · simp -implicitDefEqProofs [↓a0, ↓a1, ↓aB, ↓aA, u1, hjl, g1, hargs, ↓v0, ↓v1, ↓v2, ↓aE, -getElem?_pos, List.getElem?_cons_zero, List.getElem?_cons_succ]
    refine finA _ _ 2 0 s .nils [] [] (fun i h1 h2 h3 => hv _ _ _ i h1 h2 h3) ?_ (.nils 4 .nil) (by simp) (by simp [Ex.sz, exsZ]; omega) (by omega) (by omega)
    rw [List.getElem?_set_ne (by omega), List.getElem?_set_self (by simp only [List.length_append]; omega)]
  · simp -implicitDefEqProofs [↓a0, ↓a1, ↓w0, -getElem?_pos, List.getElem?_cons_zero, List.getElem?_cons_succ]
    refine finU _ _ ?_ (by omega) (by omega)
    intro i h1 h2
    rw [List.getElem?_set_ne (by omega), List.getElem?_append_left h2]
end Go.Proofs.YtiojgfhdcpppcaaDoor
namespace Go.Proofs.YtiojgfhdcpppcaaDoor
open Go Go.Aw
set_option maxRecDepth 100000
set_option maxHeartbeats 4000000
variable (G : Glob)
theorem twp_of {ρ : List Nat} : ∀ {args : List AV}, belowL 0 args → TW ρ args args
  | [], _ => trivial
  | v :: r, h => ⟨.inr ⟨(belowL_mono (Nat.zero_le _) [v] ⟨h.1, trivial⟩).1, by have := renL_pure ρ [v] ⟨h.1, trivial⟩; simpa [renL] using this⟩, twp_of h.2⟩
/-- A draw, the reader wherever it is. -/
theorem d_at {f : FuncId} {args : List AV} {b : List Int} {p : Nat} {Q : AV → Nat → Prop} (H : AC Tryd.prog G f (.ptr 0 2 0 0 :: args) [rdO b p] fun x h => ∃ v q, x = .ret v ∧ h = [rdO b q] ∧ Q v q) (hq : ∀ v q, Q v q → below 0 v) {h : List AO} {k : Nat} (hk : h[k]? = some (rdO b p)) (ha : belowL 0 args) :
    AC Tryd.prog G f (.ptr k 2 0 0 :: args) h fun x h' => ∃ v q, x = .ret v ∧ h' = h.set k (rdO b q) ∧ Q v q := by
  refine (H.frame (h := h) (args := .ptr k 2 0 0 :: args) [k] (by simp) ⟨.inr ⟨by simp [below], by simp [ren]⟩, twp_of ha⟩ (hw_ok hk (rdO_ok _ _ _) hw_nil)).mono ?_
  rintro x h' ⟨x0, h0, ⟨v, q, rfl, rfl, r⟩, hl, rfl, rfl⟩
  refine ⟨v, q, ?_, ?_, r⟩
  · simp only [renR]
    have := renL_pure ([k] ++ List.range' h.length ([rdO b q].length - [rdO b p].length)) [v] ⟨hq v q r, trivial⟩
    simpa [renL] using this
  · have hp2 : ∀ σ, renO σ (rdO b q) = rdO b q := fun σ => by simp [rdO, renO, renL, ren]
    simp [mrg, hp2]
theorem byt_take {l : List Int} (h : Byt l) (n : Nat) : Byt (l.take n) := fun x hx => h x (List.mem_of_mem_take hx)
/-- What a drawer of programs hands back. -/
def DrP (n : Nat) (x : ARes) : Prop := ∃ l : List Fd, x = .ret (.agg [.p (fdL l)]) ∧ fdsZ l ≤ n
/-- What is pure data is handed back alone. -/
theorem AC_alone {f : FuncId} {args : List AV} {R : ARes → Prop} (H : AC Tryd.prog G f args [] fun x _ => R x) (hR : ∀ x, R x → ∃ v, x = .ret v ∧ below 0 v) (ha : belowL 0 args) (h : List AO) : AC Tryd.prog G f args h fun x h' => R x ∧ h' = h := by
  have H2 : AC Tryd.prog G f args [] fun x h' => R x ∧ h' = [] := by
    refine H.wk (fun t v h' r => by obtain ⟨_, e, _⟩ := hR _ r; cases e) fun v h' r => ?_
    obtain ⟨v', e, hv⟩ := hR _ r
    cases e
    exact ⟨v, [], wk_nil rfl ⟨.inr ⟨hv, rfl⟩, trivial⟩, r, rfl⟩
  refine (H2.pre h ha (fun o ho => by cases ho) (fun x h' r => by rw [r.2])).mono ?_
  rintro x h' ⟨h1, ⟨r, rfl⟩, rfl⟩
  exact ⟨r, rfl⟩
theorem d_DrawCheckProgram (code : List Int) (hb : Byt code) : AC Tryd.prog G n_spec_DrawCheckProgram [.p (bysL code)] [] fun x _ => DrP 900000000 x := by
  refine AC.go k_spec_DrawCheckProgram ?_
  simp -implicitDefEqProofs [F_spec_DrawCheckProgram]
  refine (AC.lift (d_open G code) (by simp) rfl rfl).mono ?_
  rintro r h ⟨rfl, rfl⟩
  have hr : ∀ n, shiftO n (rdO (code.take 2000) 0) = rdO (code.take 2000) 0 := fun n => by simp [rdO, shiftO, shiftL, shiftV]
  simp -implicitDefEqProofs [callR_nxt, shiftV, hr]
  refine (d_at G (d_l4Prog G (byt_take hb 2000) (by rw [List.length_take]; omega) (p := 0) (by omega)) (fun v q ⟨⟨l, e, _⟩, _⟩ => by rw [e]; simp [below]) (h := [.row 1 [[.nils]], rdO (code.take 2000) 0]) (k := 1) rfl trivial).mono ?_
  rintro r h ⟨v, q, rfl, rfl, ⟨l, rfl, hz⟩, _⟩
  simp -implicitDefEqProofs [callR_nxt]
  exact ⟨l, rfl, hz⟩
theorem DrP_pure {n : Nat} : ∀ x, DrP n x → ∃ v, x = .ret v ∧ below 0 v := fun x ⟨l, e, _⟩ => ⟨_, e, by simp [below]⟩
variable (hK : G g_keys = some pvKeys) (hS : G g_opSign = some [.tbl opK opV])
include hK hS
omit hK hS in
theorem fdsZ_take_le (l : List Fd) (n : Nat) : fdsZ (l.take n) ≤ fdsZ l := by
  have e : fdsZ l = fdsZ (l.take n) + fdsZ (l.drop n) := by rw [← fdsZ_app, List.take_append_drop]
  omega
omit hK hS in
theorem smsZ_take_le (l : List Sm) (n : Nat) : smsZ (l.take n) ≤ smsZ l := by
  have e : smsZ l = smsZ (l.take n) + smsZ (l.drop n) := by rw [← smsZ_append, List.take_append_drop]
  omega
theorem law_Check (code : List Int) (hb : Byt code) (hl : code.length ≤ 9223372036854775807) : VF Tryd.prog G n_laws_FnCheck [.p (bysL code)] (.p (.bool true)) := by
  refine AC.go k_laws_FnCheck ?_
  have hbl : bysL code = .lst 1 (code.map fun n => [.int .u8 n]) := rfl
  simp -implicitDefEqProofs [F_laws_FnCheck, hbl]
  rw [← hbl]
  by_cases hc : (1048576 : Int) < code.length
  · simp -implicitDefEqProofs [hc]
  simp -implicitDefEqProofs [hc]
  refine (AC_alone G (d_DrawCheckProgram G code hb) DrP_pure (by simp) _).mono ?_
  rintro r h ⟨⟨l, rfl, hz⟩, rfl⟩
  simp -implicitDefEqProofs [callR_nxt]
  have hi := i_CheckProgram G hK hS l (by omega)
  refine hi.use ?_
  simp -implicitDefEqProofs []
  refine (s_CheckProgram G l (by omega)).use ?_
  by_cases h0 : chkProg l = 0
  case neg =>
    have hf := chk_form l
    simp -implicitDefEqProofs [h0]
    refine (s_CheckProgram G l (by omega)).use ?_
    simp -implicitDefEqProofs []
    refine (i_ProgramValid G hK hS l (by omega)).use ?_
    simp -implicitDefEqProofs [hf]
  have hok := ((chk_iff l).1 h0).1
  have hlen := ((progOk_iff l).1 hok).1
  obtain ⟨n, hn⟩ : ∃ n, l.length = n + 1 := ⟨l.length - 1, by omega⟩
  have hnl : n < l.length := by omega
  have hgn := List.getElem?_eq_getElem hnl
  have hw : IntKind.i64.wrap ((l.length : Int) - 1) = (n : Int) := by rw [i64_small (by omega) (by omega)]; omega
  generalize l[n] = f at hgn
  have hcs : f.cs = [.str f.name, strL f.params, smL f.body] := rfl
  have hfl : fdL l = .lst 3 (l.map Fd.cs) := rfl
  have hml : smL f.body = .lst 5 (f.body.map Sm.cs) := rfl
  simp -implicitDefEqProofs [h0, hfl, hw, hgn, hcs, hml]
  have hbl2 := smsZ_len f.body
  have hfz := fdsZ_mem (List.mem_of_getElem? hgn)
  have hfz2 : f.sz = 1 + f.name.length + (f.params.length + (f.params.map List.length).sum) + smsZ f.body := rfl
  have hHok : ∀ o ∈ [AO.row 1 [[.p (.lst 3 (l.map Fd.cs))]], .row 3 [[.p (.str f.name), .p (strL f.params), .p (.lst 5 (f.body.map Sm.cs))]]], okO 2 o := oks_cons (by simp [okO, below]) (oks_cons (by simp [okO, below]) oks_nil)
  refine loopA (fun i : Nat => tsOf 86 [(49, .p (.int .i64 i)), (48, .p (.int .i64 f.body.length)), (6, .ptr 1 3 0 0), (5, .p (.int .i64 n)), (3, .ptr 0 1 0 0), (2, .p (.bool false))]) (fun _ => [AO.row 1 [[.p (.lst 3 (l.map Fd.cs))]], .row 3 [[.p (.str f.name), .p (strL f.params), .p (.lst 5 (f.body.map Sm.cs))]]]) (fun i => i ≤ f.body.length) (fun i => f.body.length - i) 0 (Nat.zero_le _) ?_ ?_
  · exact wkt_fst (m := 2) (by simp) (fst_take rfl rfl hHok) (by simp [below])
  intro i hi
  simp -implicitDefEqProofs []
  refine cndb (fun h1 => ?_) (fun h1 => ?_)
  · simp at h1
    have hwi := w1 (i := i) (by omega)
    have hi0 : (0 : Int) ≤ (i : Int) := by omega
    simp -implicitDefEqProofs [hn]
    refine ⟨by omega, ⟨by omega, by omega⟩, ⟨by omega, by omega⟩, ?_⟩
    have hcut := i_CheckProgram G hK hS (l.take n ++ [f.cut i]) (by
      have h1 : fdsZ l = fdsZ (l.take n) + (f.sz + fdsZ (l.drop (n + 1))) := by
        have e := take_drop_at hgn
        have : fdsZ l = fdsZ (l.take n ++ f :: l.drop (n + 1)) := by rw [← e]
        rw [this, fdsZ_app]; simp [fdsZ]
      have h2 := smsZ_take_le f.body i
      have h3 : fdsZ (l.take n ++ [f.cut i]) = fdsZ (l.take n) + (f.cut i).sz := by rw [fdsZ_app]; simp [fdsZ]
      have h4 : (f.cut i).sz = 1 + f.name.length + (f.params.length + (f.params.map List.length).sum) + smsZ (f.body.take i) := rfl
      omega)
    rw [chk_cut h0 hgn i] at hcut
    have hv : ∀ h : List AO, h[4]? = some (.row 3 (List.take n (List.take n (l.map ((fun x => List.map AV.p x) ∘ Fd.cs))) ++ [[.p (.str f.name), .p (strL f.params), .p (.lst 5 (List.take i (f.body.map Sm.cs)))]])) → View h (.sl 4 3 0 (n + 1)) (fdL (l.take n ++ [f.cut i])) := fun h e => by
      have hl2 : (l.take n).length = n := by rw [List.length_take]; omega
      have := fd1_view (h := h) (id := 4) (l := l.take n) (f := f.cut i) (by
        rw [e, hl2]
        have e1 : fnsR (l.take n) = List.take n (l.map ((fun x => List.map AV.p x) ∘ Fd.cs)) := by rw [fnsR, List.map_take]; rfl
        have e2 : (f.cut i).cs.map AV.p = [.p (.str f.name), .p (strL f.params), .p (.lst 5 (List.take i (f.body.map Sm.cs)))] := by rw [← List.map_take]; rfl
        rw [e1, e2])
      rwa [hl2] at this
    refine (hcut.lend (.agg (.one (hv _ rfl) .nil) .nil) rfl).mono ?_
    rintro r h ⟨rfl, rfl⟩
    simp -implicitDefEqProofs [callR_nxt]
    refine ⟨i + 1, h1, by omega, wkt_fst (m := 2) (by simp) (fst_take rfl rfl hHok) ?_⟩
    simp [below, hwi]
  · simp at h1
    simp -implicitDefEqProofs []
    refine loopA (fun i : Nat => tsOf 86 [(9, .p (.int .i64 i)), (5, .p (.int .i64 n)), (3, .ptr 0 1 0 0)]) (fun _ => [AO.row 1 [[.p (.lst 3 (l.map Fd.cs))]]]) (fun i => 1 ≤ i ∧ i ≤ n + 1) (fun i => n + 1 - i) 1 (by omega) ?_ ?_
    · exact wkt_fst (m := 1) (by simp) (fst_take rfl rfl (oks_cons (by simp [okO, below]) oks_nil)) (by simp [below])
    intro j ⟨hj1, hj2⟩
    simp -implicitDefEqProofs []
    refine cndb (fun h2 => ?_) (fun h2 => ?_)
    · simp at h2
      have hwj := w1 (i := j) (by omega)
      have hT := i_CheckProgram G hK hS (l.take j) (by have := fdsZ_take_le l j; omega)
      rw [chk_take h0 hj1, show fdL (l.take j) = .lst 3 (List.take j (l.map Fd.cs)) by rw [← List.map_take]; rfl] at hT
      simp -implicitDefEqProofs [hn]
      refine ⟨by omega, ?_⟩
      refine hT.use ?_
      simp -implicitDefEqProofs []
      exact ⟨j + 1, ⟨by omega, by omega⟩, by omega, wkt_fst (m := 1) (by simp) (fst_take rfl rfl (oks_cons (by simp [okO, below]) oks_nil)) (by simp [below, hwj])⟩
    · simp at h2
      simp -implicitDefEqProofs []
end Go.Proofs.YtiojgfhdcpppcaaDoor
