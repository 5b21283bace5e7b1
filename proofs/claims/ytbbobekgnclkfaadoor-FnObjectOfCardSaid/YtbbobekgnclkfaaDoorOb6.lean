/-
  Contracts and lemmas that the card needs, part 6.
-/
import Derived.Test.YtbbobekgnclkfaaDoorOb5
namespace Go.Proofs.YtbbobekgnclkfaaDoor
open Go Go.Aw
set_option maxRecDepth 100000
set_option maxHeartbeats 4000000
theorem fldOf_len (op : Int) : (fldOf op).length ≤ 3 := by
  by_cases h : inR op 1 22 = true
  · rcases op22 h with rfl | rfl | rfl | rfl | rfl | rfl | rfl | rfl | rfl | rfl | rfl | rfl | rfl | rfl | rfl | rfl | rfl | rfl | rfl | rfl | rfl | rfl <;> decide
  · simp [fldOf, h]
theorem okO_up {n : Nat} {o : AO} (h : okO 0 o) : okO n o := by
  cases o with
  | dead => trivial
  | sit => trivial
  | row sz es => exact fun e he => belowL_mono (Nat.zero_le _) _ (h e he)
  | mp es => exact fun e he => (belowL_mono (Nat.zero_le n) [e.2] ⟨h e he, trivial⟩).1
variable (G : Glob)
/-- What a draw beside an object that is only read has come to. -/
def DP2 (b : List Int) (o : AO) (Q : AV → Nat → Prop) (x : ARes) (h : List AO) : Prop := ∃ v rest q, x = .ret v ∧ h = rdO b q :: o :: rest ∧ below 0 v ∧ Q v q
theorem d_close2 {f : FuncId} {args : List AV} {b : List Int} {p : Nat} {o : AO} {Q : AV → Nat → Prop} (ho : okO 0 o) (H : AC Tryd.prog G f args [rdO b p, o] (DP2 b o Q)) : AC Tryd.prog G f args [rdO b p, o] fun x h => ∃ v q, x = .ret v ∧ h = [rdO b q, o] ∧ below 0 v ∧ Q v q := by
  refine H.frz 2 (Nat.le_refl _) (fun t v h ⟨_, _, _, e, _⟩ => by cases e) ?_
  rintro v h ⟨v0, rest, q, e, rfl, hf, r⟩
  cases e
  exact ⟨v, [rdO b q, o], by simp, rfl, .keep (belowL_mono (Nat.zero_le 2) [v] ⟨hf, trivial⟩).1 .nil, .same (rdO_ok _ _ _) (.same (okO_up ho) (.nil _)), v, q, rfl, rfl, hf, r⟩
theorem d_twoA {f : FuncId} {args : List AV} {b : List Int} {p : Nat} {o : AO} {R : AV → Nat → Prop} (H : AC Tryd.prog G f (.ptr 0 2 0 0 :: args) [rdO b p, o] fun x h => ∃ v q, x = .ret v ∧ h = [rdO b q, o] ∧ below 0 v ∧ R v q) (ho : okO 0 o)
    {h : List AO} {k : Nat} {args' : List AV} (hk : k ≠ 0) (h0 : h[0]? = some (rdO b p)) (h1 : h[k]? = some o) (hT : TW [0, k] args' args) : AC Tryd.prog G f (.ptr 0 2 0 0 :: args') h fun x h' => ∃ v q, x = .ret v ∧ h' = h.set 0 (rdO b q) ∧ R v q := by
  have nd : [0, k].Nodup := by simp; omega
  refine (H.frame (args := .ptr 0 2 0 0 :: args') [0, k] nd (by rw [TW_cons]; exact ⟨.inr ⟨by simp [below], rfl⟩, hT⟩) (hw_ok h0 (rdO_ok _ _ _) (hw_ok h1 ho hw_nil))).mono ?_
  rintro x h' ⟨x0, h2, ⟨v, q, rfl, rfl, hv, r⟩, _, rfl, rfl⟩
  have e0 : ∀ σ, ren σ v = v := fun σ => ren_fix (n := 0) (fun i hi => by omega) _ hv
  refine ⟨v, q, by simp only [renR, e0], ?_, r⟩
  have e1 : ∀ σ, renO σ (rdO b q) = rdO b q := fun σ => renO_fix (n := 0) (fun i hi => by omega) _ (rdO_ok _ _ _)
  have e2 : ∀ σ, renO σ o = o := fun σ => renO_fix (n := 0) (fun i hi => by omega) _ ho
  simp only [List.take, List.length_cons, List.length_nil, List.map_cons, List.map_nil, e1, e2, mrg, List.drop, List.append_nil]
  refine List.ext_getElem? fun i => ?_
  rw [List.getElem?_set]
  split
  · rename_i e; subst e
    rw [List.getElem?_set_ne (Ne.symm hk)]
    split
    · exact h1.symm
    · rename_i hl
      have := (List.getElem?_eq_some_iff.1 h1).1
      simp at hl; omega
  · rfl
theorem fst_take {n : Nat} {h h1 : List AO} (e : h.take n = h1) (hn : h1.length = n) (ho : ∀ o ∈ h1, okO n o) : Fst n h h1 := by
  have hl : n ≤ h.length := by
    have := congrArg List.length e
    rw [List.length_take] at this; omega
  have hg : ∀ (i : Nat) (o : AO), h1[i]? = some o → h[i]? = some o := fun i o hi => by
    have h2 := (List.getElem?_eq_some_iff.1 hi).1
    rw [← e, List.getElem?_take_of_lt (by omega)] at hi
    exact hi
  exact ⟨hn, hl, fun i sz es hi => ⟨hg _ _ hi, ho _ (List.mem_of_getElem? hi)⟩, fun i es hi => ⟨hg _ _ hi, ho _ (List.mem_of_getElem? hi)⟩, fun i s p hi => hg _ _ hi⟩
structure SomS where (i q : Nat) (a b c : Int)
structure SomT where (q : Nat) (a b c n most : Int)
abbrev opsL : List Int := [1, 1, 2, 3, 4, 5, 8, 9, 10, 13, 21, 6, 7, 11, 12, 14, 15, 16, 17, 18, 19, 20, 22]
def somQ (p : Nat) (v : AV) (q : Nat) : Prop := (∃ m : Mins, v = .agg (m.cs.map .p)) ∧ q ≤ p + 12
def somH (b : List Int) (o : AO) (C R : List AV) (q : Nat) (x : List AV) : List AO := [rdO b q, o, .row 3 [C], .row 5 [R], numO opsL, .row 5 [x]]
def K_spec_l22Some : AK := .seq (.reg [⟨(some 6), none, .box 3 (.t 2)⟩, ⟨(some 8), none, .alloc [(.p (.int .i64 0)), (.p (.int .i64 0)), (.p (.int .i64 0)), (.p (.int .i64 0)), (.p (.int .i64 0))]⟩]) (.seq (.reg [⟨(some 15), none, .mov (.t 0)⟩, ⟨(some 16), none, .bsl 1 [(.p (.int .i64 0))] 23 [(0, 1, (.c (.p (.int .i64 1)))), (1, 1, (.c (.p (.int .i64 1)))), (2, 1, (.c (.p (.int .i64 2)))), (3, 1, (.c (.p (.int .i64 3)))), (4, 1, (.c (.p (.int .i64 4)))), (5, 1, (.c (.p (.int .i64 5)))), (6, 1, (.c (.p (.int .i64 8)))), (7, 1, (.c (.p (.int .i64 9)))), (8, 1, (.c (.p (.int .i64 10)))), (9, 1, (.c (.p (.int .i64 13)))), (10, 1, (.c (.p (.int .i64 21)))), (11, 1, (.c (.p (.int .i64 6)))), (12, 1, (.c (.p (.int .i64 7)))), (13, 1, (.c (.p (.int .i64 11)))), (14, 1, (.c (.p (.int .i64 12)))), (15, 1, (.c (.p (.int .i64 14)))), (16, 1, (.c (.p (.int .i64 15)))), (17, 1, (.c (.p (.int .i64 16)))), (18, 1, (.c (.p (.int .i64 17)))), (19, 1, (.c (.p (.int .i64 18)))), (20, 1, (.c (.p (.int .i64 19)))), (21, 1, (.c (.p (.int .i64 20)))), (22, 1, (.c (.p (.int .i64 22))))]⟩, ⟨(some 17), none, .call n_spec_l30Rd_num [(.t 15), (.t 16)]⟩, ⟨(some 18), none, .bld [(.p (.int .i64 0)), (.p (.int .i64 0)), (.p (.int .i64 0)), (.p (.int .i64 0)), (.p (.int .i64 0))] [(0, 1, (.t 17))]⟩, ⟨(some 9), none, .alloc [(.p (.int .i64 0)), (.p (.int .i64 0)), (.p (.int .i64 0)), (.p (.int .i64 0)), (.p (.int .i64 0))]⟩, ⟨none, none, .st 5 (.t 9) (.t 18)⟩]) (.seq (.reg [⟨(some 20), none, .fldA 0 (.t 9)⟩, ⟨(some 21), none, .ld none (.t 20)⟩, ⟨(some 22), none, .call n_spec_l22Word [(.t 21)]⟩, ⟨(some 19), none, .mov (.t 22)⟩, ⟨(some 23), none, .ext 0 (.t 19)⟩, ⟨(some 24), none, .ext 1 (.t 19)⟩, ⟨(some 10), none, .mov (.t 23)⟩, ⟨(some 11), none, .mov (.t 24)⟩]) (.seq (.seq (.reg [⟨(some 12), none, .mov (.c (.p (.int .i64 0)))⟩]) (.blk 0 (.loop (.seq (.seq (.reg [⟨(some 25), none, .mov (.t 12)⟩, ⟨(some 26), none, .mov (.t 11)⟩, ⟨(some 27), none, .len true (.t 26)⟩, ⟨(some 28), none, .bin .lss (.t 25) (.t 27)⟩]) (.cond (.t 28) (.skip) (.exit 0))) (.seq (.blk 1 (.seq (.reg [⟨(some 31), none, .mov (.t 0)⟩, ⟨(some 32), none, .mov (.t 0)⟩, ⟨(some 33), none, .bsl 1 [(.p (.int .i64 0))] 3 [(0, 1, (.c (.p (.int .i64 4)))), (1, 1, (.c (.p (.int .i64 8)))), (2, 1, (.c (.p (.int .i64 2))))]⟩, ⟨(some 34), none, .call n_spec_l30Rd_num [(.t 32), (.t 33)]⟩, ⟨(some 35), none, .call n_spec_l30Rd_pick [(.t 31), (.t 34)]⟩, ⟨(some 13), none, .mov (.t 35)⟩]) (.seq (.reg [⟨(some 36), none, .mov (.t 11)⟩, ⟨(some 37), none, .mov (.t 12)⟩, ⟨(some 38), none, .idxStr (.t 36) (.t 37)⟩]) (.blk 2 (.seq (.reg [⟨(some 40), none, .bin .eql (.t 38) (.c (.p (.int .u8 65)))⟩, ⟨(some 39), none, .mov (.t 40)⟩]) (.cond (.t 39) (.reg [⟨(some 41), none, .mov (.t 13)⟩, ⟨(some 42), none, .fldA 1 (.t 9)⟩, ⟨none, none, .st 1 (.t 42) (.t 41)⟩]) (.seq (.reg [⟨(some 44), none, .bin .eql (.t 38) (.c (.p (.int .u8 66)))⟩, ⟨(some 43), none, .mov (.t 44)⟩]) (.cond (.t 43) (.reg [⟨(some 45), none, .mov (.t 13)⟩, ⟨(some 46), none, .fldA 2 (.t 9)⟩, ⟨none, none, .st 1 (.t 46) (.t 45)⟩]) (.seq (.reg [⟨(some 48), none, .bin .eql (.t 38) (.c (.p (.int .u8 67)))⟩, ⟨(some 47), none, .mov (.t 48)⟩]) (.cond (.t 47) (.reg [⟨(some 49), none, .mov (.t 13)⟩, ⟨(some 50), none, .fldA 3 (.t 9)⟩, ⟨none, none, .st 1 (.t 50) (.t 49)⟩]) (.skip))))))))))) (.reg [⟨(some 29), none, .mov (.t 12)⟩, ⟨(some 30), none, .bin .add (.t 29) (.c (.p (.int .i64 1)))⟩, ⟨(some 12), none, .mov (.t 30)⟩])))))) (.seq (.reg [⟨(some 14), none, .mov (.c (.p (.int .i64 0)))⟩]) (.cut (.seq (.reg [⟨(some 51), none, .fldA 0 (.t 9)⟩, ⟨(some 52), none, .ld none (.t 51)⟩]) (.blk 3 (.seq (.reg [⟨(some 54), none, .bin .eql (.t 52) (.c (.p (.int .i64 1)))⟩, ⟨(some 53), none, .mov (.t 54)⟩]) (.cond (.t 53) (.reg [⟨(some 55), none, .mov (.t 0)⟩, ⟨(some 56), none, .bsl 1 [(.p (.int .i64 0))] 7 [(0, 1, (.c (.p (.int .i64 0)))), (1, 1, (.c (.p (.int .i64 1)))), (2, 1, (.c (.p (.int .i64 2)))), (3, 1, (.c (.p (.int .i64 3)))), (4, 1, (.c (.p (.int .i64 15)))), (5, 1, (.c (.p (.int .i64 16)))), (6, 1, (.c (.p (.int .i64 255))))]⟩, ⟨(some 57), none, .call n_spec_l30Rd_num [(.t 55), (.t 56)]⟩, ⟨(some 58), none, .fldA 4 (.t 9)⟩, ⟨none, none, .st 1 (.t 58) (.t 57)⟩]) (.seq (.reg [⟨(some 60), none, .bin .eql (.t 52) (.c (.p (.int .i64 14)))⟩, ⟨(some 59), none, .mov (.t 60)⟩]) (.cond (.t 59) (.reg [⟨(some 61), none, .mov (.t 1)⟩, ⟨(some 14), none, .mov (.t 61)⟩]) (.seq (.seq (.reg [⟨(some 63), none, .bin .eql (.t 52) (.c (.p (.int .i64 15)))⟩, ⟨(some 62), none, .mov (.t 63)⟩]) (.cond (.t 62) (.skip) (.reg [⟨(some 64), none, .bin .eql (.t 52) (.c (.p (.int .i64 16)))⟩, ⟨(some 62), none, .mov (.t 64)⟩]))) (.cond (.t 62) (.reg [⟨(some 65), none, .fldA 1 (.t 6)⟩, ⟨(some 66), none, .ld none (.t 65)⟩, ⟨(some 14), none, .mov (.t 66)⟩]) (.seq (.reg [⟨(some 68), none, .bin .eql (.t 52) (.c (.p (.int .i64 17)))⟩, ⟨(some 67), none, .mov (.t 68)⟩]) (.cond (.t 67) (.reg [⟨(some 14), none, .mov (.c (.p (.int .i64 3)))⟩]) (.seq (.reg [⟨(some 70), none, .bin .eql (.t 52) (.c (.p (.int .i64 18)))⟩, ⟨(some 69), none, .mov (.t 70)⟩]) (.cond (.t 69) (.reg [⟨(some 71), none, .fldA 0 (.t 6)⟩, ⟨(some 72), none, .ld none (.t 71)⟩, ⟨(some 14), none, .mov (.t 72)⟩]) (.seq (.seq (.reg [⟨(some 74), none, .bin .eql (.t 52) (.c (.p (.int .i64 20)))⟩, ⟨(some 73), none, .mov (.t 74)⟩]) (.cond (.t 73) (.skip) (.reg [⟨(some 75), none, .bin .eql (.t 52) (.c (.p (.int .i64 21)))⟩, ⟨(some 73), none, .mov (.t 75)⟩]))) (.cond (.t 73) (.reg [⟨(some 76), none, .mov (.t 3)⟩, ⟨(some 14), none, .mov (.t 76)⟩]) (.skip))))))))))))))) (.seq (.seq (.reg [⟨(some 77), none, .mov (.t 14)⟩, ⟨(some 78), none, .bin .gtr (.t 77) (.c (.p (.int .i64 0)))⟩]) (.cond (.t 78) (.reg [⟨(some 79), none, .mov (.t 0)⟩, ⟨(some 80), none, .mov (.t 14)⟩, ⟨(some 81), none, .call n_spec_l30Rd_pick [(.t 79), (.t 80)]⟩, ⟨(some 82), none, .fldA 4 (.t 9)⟩, ⟨none, none, .st 1 (.t 82) (.t 81)⟩]) (.skip))) (.seq (.seq (.reg [⟨(some 83), none, .mov (.t 14)⟩, ⟨(some 84), none, .bin .eql (.t 83) (.c (.p (.int .i64 0)))⟩, ⟨(some 85), none, .mov (.t 84)⟩, ⟨(some 86), (some (85, true)), .fldA 0 (.t 9)⟩, ⟨(some 87), (some (85, true)), .ld none (.t 86)⟩, ⟨(some 88), (some (85, true)), .bin .eql (.t 87) (.c (.p (.int .i64 14)))⟩, ⟨(some 89), (some (85, true)), .mov (.t 88)⟩, ⟨(some 90), (some (89, false)), .fldA 0 (.t 9)⟩, ⟨(some 91), (some (89, false)), .ld none (.t 90)⟩, ⟨(some 92), (some (89, false)), .bin .eql (.t 91) (.c (.p (.int .i64 15)))⟩, ⟨(some 93), (some (85, true)), .pick (.t 89) (.c (.p (.bool true))) (.t 92)⟩, ⟨(some 94), (some (85, true)), .mov (.t 93)⟩, ⟨(some 95), (some (94, false)), .fldA 0 (.t 9)⟩, ⟨(some 96), (some (94, false)), .ld none (.t 95)⟩, ⟨(some 97), (some (94, false)), .bin .eql (.t 96) (.c (.p (.int .i64 16)))⟩, ⟨(some 98), (some (85, true)), .pick (.t 94) (.c (.p (.bool true))) (.t 97)⟩, ⟨(some 99), (some (85, true)), .mov (.t 98)⟩, ⟨(some 100), (some (99, false)), .fldA 0 (.t 9)⟩, ⟨(some 101), (some (99, false)), .ld none (.t 100)⟩, ⟨(some 102), (some (99, false)), .bin .eql (.t 101) (.c (.p (.int .i64 18)))⟩, ⟨(some 103), (some (85, true)), .pick (.t 99) (.c (.p (.bool true))) (.t 102)⟩, ⟨(some 104), none, .pick (.t 85) (.t 103) (.c (.p (.bool false)))⟩]) (.cond (.t 104) (.seq (.reg [⟨(some 105), none, .fldA 1 (.t 9)⟩, ⟨(some 106), none, .ld none (.t 105)⟩, ⟨(some 107), none, .bld [(.p (.int .i64 0)), (.p (.int .i64 0)), (.p (.int .i64 0)), (.p (.int .i64 0)), (.p (.int .i64 0))] [(0, 1, (.c (.p (.int .i64 13)))), (1, 1, (.t 106))]⟩, ⟨none, none, .st 5 (.t 8) (.t 107)⟩]) (.ret)) (.skip))) (.seq (.reg [⟨(some 108), none, .ld (some 5) (.t 9)⟩, ⟨none, none, .st 5 (.t 8) (.t 108)⟩]) (.ret)))))))))
theorem w_spec_l22Some : K_spec_l22Some.whole = F_spec_l22Some.ak := rfl
theorem d_some0 {b : List Int} (hb : Byt b) (hl : b.length ≤ 2000) {p : Nat} (hp : p ≤ 1000000000000) (k ps sl n : Int) (rows : List (List AV)) (hr : ∀ x ∈ rows, belowL 0 x) :
    AC Tryd.prog G n_spec_l22Some [.ptr 0 2 0 0, .p (.int .i64 k), .agg [.p (.int .i64 ps), .p (.int .i64 sl), slE 1 5 rows], .p (.int .i64 n)] [rdO b p, rowE 5 rows] fun x h => ∃ v q, x = .ret v ∧ h = [rdO b q, rowE 5 rows] ∧ below 0 v ∧ somQ p v q := by
  have ho : okO 0 (rowE 5 rows) := okO_E hr
  have hS : below 2 (slE 1 5 rows) := below_E (by omega)
  refine d_close2 G ho (AC.goK k_spec_l22Some w_spec_l22Some ?_)
  generalize hO : rowE 5 rows = O at *
  simp -implicitDefEqProofs [K_spec_l22Some, F_spec_l22Some]
  refine (d_num G hb hl (p := p) (by omega) opsL (k := 4) (by simp [opsL]) (by simp [opsL]) (by omega) rfl rfl).mono ?_
  rintro r h ⟨op, _, rfl, rfl⟩
  simp -implicitDefEqProofs [callR_nxt]
  refine (s_l22Word G op).use ?_
  have hfl := fldOf_len op
  simp -implicitDefEqProofs []
  have hfn : ∀ (q : Nat) (a c d n : Int), ∀ o ∈ somH b O [.p (.int .i64 ps), .p (.int .i64 sl), slE 1 5 rows] [.p (.int .i64 0), .p (.int .i64 0), .p (.int .i64 0), .p (.int .i64 0), .p (.int .i64 0)] q [.p (.int .i64 op), .p (.int .i64 a), .p (.int .i64 c), .p (.int .i64 d), .p (.int .i64 n)], okO 6 o := by
    intro q a c d n o h
    simp only [somH, List.mem_cons, List.not_mem_nil, or_false] at h
    rcases h with rfl | rfl | rfl | rfl | rfl | rfl
    · exact rdO_ok _ _ _
    · exact okO_up ho
    · intro e he; rw [List.mem_singleton.1 he]; exact ⟨by simp, by simp, below_E (by omega), trivial⟩
    · simp [okO]
    · simp [okO, numO]
    · simp [okO]
  have hfo : ∀ s : SomS, _ := fun s => hfn s.q s.a s.b s.c 0
  refine loopA (fun s : SomS => tsOf 109 [(12, .p (.int .i64 s.i)), (11, .p (.str (fldOf op))), (9, .ptr 5 5 0 0), (8, .ptr 3 5 0 0), (6, .ptr 2 3 0 0), (0, .ptr 0 2 0 0), (1, .p (.int .i64 k)), (3, .p (.int .i64 n))])
    (fun s => somH b O [.p (.int .i64 ps), .p (.int .i64 sl), slE 1 5 rows] [.p (.int .i64 0), .p (.int .i64 0), .p (.int .i64 0), .p (.int .i64 0), .p (.int .i64 0)] s.q [.p (.int .i64 op), .p (.int .i64 s.a), .p (.int .i64 s.b), .p (.int .i64 s.c), .p (.int .i64 0)])
    (fun s => s.i ≤ (fldOf op).length ∧ s.q ≤ p + 1 + 2 * s.i) (fun s => (fldOf op).length - s.i) ⟨0, p + 1, 0, 0, 0⟩ ⟨by simp, by simp⟩ (wkt_same (by simp) (hfo ⟨0, p + 1, 0, 0, 0⟩) (by simp [below])) ?_
  rintro ⟨i, q, xa, xb, xc⟩ ⟨hi, hq⟩
  have hfo := fun (i q : Nat) (a c d : Int) => hfo ⟨i, q, a, c, d⟩
  simp only at hi hq hfo ⊢
  simp -implicitDefEqProofs [somH]
  refine cndb (fun h => ?_) (fun h => ?_)
  · simp at h
    have hg := List.getElem?_eq_getElem h
    simp -implicitDefEqProofs []
    refine (d_num G hb hl (p := q) (by omega) [4, 8, 2] (k := 6) (by simp) (by simp) (by omega) rfl rfl).mono ?_
    rintro r h ⟨m, _, rfl, rfl⟩
    simp -implicitDefEqProofs [callR_nxt]
    refine (d_pickP G b hb hl (q + 1) (by omega) m _).mono ?_
    rintro r h ⟨v, rfl, rfl, _⟩
    simp -implicitDefEqProofs [callR_nxt, hg]
    generalize (fldOf op)[i] = ch at *
    have leaf : ∀ (a c d : Int) (o : AO) (l : List (Nat × AV)), FgA 6 l [(12, .p (.int .i64 ((i + 1 : Nat) : Int))), (11, .p (.str (fldOf op))), (9, .ptr 5 5 0 0), (8, .ptr 3 5 0 0), (6, .ptr 2 3 0 0), (0, .ptr 0 2 0 0), (1, .p (.int .i64 k)), (3, .p (.int .i64 n))] → _ := fun a c d o l hl => wkt_fst (n := 109) (k := 2) (m := 6) (by omega) (fst_take (h := somH b O [.p (.int .i64 ps), .p (.int .i64 sl), slE 1 5 rows] [.p (.int .i64 0), .p (.int .i64 0), .p (.int .i64 0), .p (.int .i64 0), .p (.int .i64 0)] (q + 1 + 1) [.p (.int .i64 op), .p (.int .i64 a), .p (.int .i64 c), .p (.int .i64 d), .p (.int .i64 0)] ++ [o]) rfl rfl (hfo (i + 1) (q + 1 + 1) a c d)) hl
    refine cndb (fun hc => ?_) (fun hc => ?_)
    · simp -implicitDefEqProofs []
      exact ⟨⟨i + 1, q + 1 + 1, v, xb, xc⟩, ⟨h, by simp only; omega⟩, by simp only; omega, leaf _ _ _ _ _ (by simp [below, w1 (i := i) (by omega)])⟩
    simp -implicitDefEqProofs []
    refine cndb (fun hc => ?_) (fun hc => ?_)
    · simp -implicitDefEqProofs []
      exact ⟨⟨i + 1, q + 1 + 1, xa, v, xc⟩, ⟨h, by simp only; omega⟩, by simp only; omega, leaf _ _ _ _ _ (by simp [below, w1 (i := i) (by omega)])⟩
    simp -implicitDefEqProofs []
    refine cndb (fun hc => ?_) (fun hc => ?_)
    · simp -implicitDefEqProofs []
      exact ⟨⟨i + 1, q + 1 + 1, xa, xb, v⟩, ⟨h, by simp only; omega⟩, by simp only; omega, leaf _ _ _ _ _ (by simp [below, w1 (i := i) (by omega)])⟩
    · simp -implicitDefEqProofs []
      exact ⟨⟨i + 1, q + 1 + 1, xa, xb, xc⟩, ⟨h, by simp only; omega⟩, by simp only; omega, leaf _ _ _ _ _ (by simp [below, w1 (i := i) (by omega)])⟩
  · simp at h
    have hie : i = (fldOf op).length := by omega
    simp -implicitDefEqProofs []
    refine cutA (α := SomT) (fun s => tsOf 109 [(14, .p (.int .i64 s.most)), (9, .ptr 5 5 0 0), (8, .ptr 3 5 0 0), (0, .ptr 0 2 0 0)])
      (fun s => somH b O [.p (.int .i64 ps), .p (.int .i64 sl), slE 1 5 rows] [.p (.int .i64 0), .p (.int .i64 0), .p (.int .i64 0), .p (.int .i64 0), .p (.int .i64 0)] s.q [.p (.int .i64 op), .p (.int .i64 s.a), .p (.int .i64 s.b), .p (.int .i64 s.c), .p (.int .i64 s.n)])
      (fun s => s.q ≤ p + 8) ?_ ?_
    · simp -implicitDefEqProofs []
      have leaf : ∀ (q' : Nat) (n' most : Int) (r : List AO) (l : List (Nat × AV)), FgA 6 l [(14, .p (.int .i64 most)), (9, .ptr 5 5 0 0), (8, .ptr 3 5 0 0), (0, .ptr 0 2 0 0)] → _ := fun q' n' most r l hl => wkt_fst (n := 109) (k := 2) (m := 6) (by omega) (fst_take (h := somH b O [.p (.int .i64 ps), .p (.int .i64 sl), slE 1 5 rows] [.p (.int .i64 0), .p (.int .i64 0), .p (.int .i64 0), .p (.int .i64 0), .p (.int .i64 0)] q' [.p (.int .i64 op), .p (.int .i64 xa), .p (.int .i64 xb), .p (.int .i64 xc), .p (.int .i64 n')] ++ r) rfl rfl (hfn q' xa xb xc n')) hl
      refine cndb (fun hc => ?_) (fun hc => ?_)
      · simp -implicitDefEqProofs []
        refine (d_num G hb hl (p := q) (by omega) [0, 1, 2, 3, 15, 16, 255] (k := 6) (by simp) (by simp) (by omega) rfl rfl).mono ?_
        rintro r h ⟨m, _, rfl, rfl⟩
        simp -implicitDefEqProofs [callR_nxt]
        exact ⟨⟨q + 1, xa, xb, xc, m, 0⟩, by simp only; omega, leaf _ _ _ [_] _ (by simp [below])⟩
      simp -implicitDefEqProofs []
      repeat' first
        | (refine ⟨⟨q, xa, xb, xc, 0, k⟩, ?_, leaf _ _ _ [] _ ?_⟩; · (simp only; omega)
           · (simp [below]; done))
        | (refine ⟨⟨q, xa, xb, xc, 0, sl⟩, ?_, leaf _ _ _ [] _ ?_⟩; · (simp only; omega)
           · (simp [below]; done))
        | (refine ⟨⟨q, xa, xb, xc, 0, ps⟩, ?_, leaf _ _ _ [] _ ?_⟩; · (simp only; omega)
           · (simp [below]; done))
        | (refine ⟨⟨q, xa, xb, xc, 0, n⟩, ?_, leaf _ _ _ [] _ ?_⟩; · (simp only; omega)
           · (simp [below]; done))
        | (refine ⟨⟨q, xa, xb, xc, 0, 3⟩, ?_, leaf _ _ _ [] _ ?_⟩; · (simp only; omega)
           · (simp [below]; done))
        | (refine ⟨⟨q, xa, xb, xc, 0, 0⟩, ?_, leaf _ _ _ [] _ ?_⟩; · (simp only; omega)
           · (simp [below]; done))
        | refine cndb (fun hc => ?_) (fun hc => ?_)
        | simp -implicitDefEqProofs []
    · rintro ⟨q2, a2, b2, c2, n2, most⟩ hq2
      simp only at hq2 ⊢
      simp -implicitDefEqProofs [somH]
      have fin : ∀ (q3 : Nat) (o a c d n : Int) (x r : List AV), q3 ≤ p + 12 → DP2 b O (somQ p) (.ret (.agg [.p (.int .i64 o), .p (.int .i64 a), .p (.int .i64 c), .p (.int .i64 d), .p (.int .i64 n)])) (somH b O [.p (.int .i64 ps), .p (.int .i64 sl), slE 1 5 rows] r q3 x) := fun q3 o a c d n x r h3 =>
        ⟨_, _, q3, rfl, rfl, by simp [below], ⟨⟨o, a, c, d, n⟩, rfl⟩, h3⟩
      refine cndb (fun hc => ?_) (fun hc => ?_)
      · simp at hc
        have hm : ¬ most = 0 := by omega
        simp -implicitDefEqProofs []
        refine (d_pickP G b hb hl q2 (by omega) most _).mono ?_
        rintro r h ⟨v, rfl, rfl, _⟩
        simp -implicitDefEqProofs [callR_nxt, hm]
        exact fin _ _ _ _ _ _ _ _ (by omega)
      · by_cases hm : most = 0
        · subst hm
          by_cases h14 : op = 14
          · simp -implicitDefEqProofs [h14]
            exact fin _ _ _ _ _ _ _ _ (by omega)
          by_cases h15 : op = 15
          · simp -implicitDefEqProofs [h14, h15]
            exact fin _ _ _ _ _ _ _ _ (by omega)
          by_cases h16 : op = 16
          · simp -implicitDefEqProofs [h14, h15, h16]
            exact fin _ _ _ _ _ _ _ _ (by omega)
          by_cases h18 : op = 18
          · simp -implicitDefEqProofs [h14, h15, h16, h18]
            exact fin _ _ _ _ _ _ _ _ (by omega)
          · simp -implicitDefEqProofs [h14, h15, h16, h18]
            exact fin _ _ _ _ _ _ _ _ (by omega)
        · simp -implicitDefEqProofs [hm]
          exact fin _ _ _ _ _ _ _ _ (by omega)
end Go.Proofs.YtbbobekgnclkfaaDoor
namespace Go.Proofs.YtbbobekgnclkfaaDoor
open Go Go.Aw
set_option maxRecDepth 100000
set_option maxHeartbeats 4000000
theorem live_dead : ∀ (r : List AO) (s : Nat), ((lives (List.range' s r.length ++ [0]) (r ++ [.dead])).Nodup ∧ ∀ i ∈ lives (List.range' s r.length ++ [0]) (r ++ [.dead]), s ≤ i)
  | [], s => by simp [lives]
  | o :: r, s => by
    obtain ⟨h1, h2⟩ := live_dead r (s + 1)
    rw [List.length_cons, List.range'_succ]
    cases o with
    | dead => exact ⟨h1, fun i hi => Nat.le_of_succ_le (h2 i hi)⟩
    | _ => exact ⟨List.nodup_cons.2 ⟨fun hm => absurd (h2 _ hm) (by omega), h1⟩, fun i hi => by
      rcases List.mem_cons.1 hi with rfl | hi
      · exact Nat.le_refl _
      · exact Nat.le_of_succ_le (h2 i hi)⟩
theorem hw_deadT {h : List AO} (hp : 0 < h.length) (ho : ∀ o ∈ h, okO h.length o) : ∀ (r : List AO) (s : Nat), (∀ i : Nat, r[i]? = h[s + i]?) → s + r.length = h.length → HW (List.range' 0 h.length ++ [0]) h (List.range' s r.length ++ [0]) (r ++ [.dead])
  | [], s, _, _ => hw_dead hp hw_nil
  | o :: r, s, hr, hs => by
    have hσ : ∀ i, i < h.length → (List.range' 0 h.length ++ [0]).getD i 0 = i := fun i hi => by
      rw [List.getD_eq_getElem?_getD, List.getElem?_append_left (by simp; exact hi)]; simp [hi]
    rw [List.length_cons, List.range'_succ]
    have h0 := hr 0
    have ih := hw_deadT hp ho r (s + 1) (fun i => by have := hr (i + 1); rw [List.getElem?_cons_succ] at this; rw [this]; congr 1; omega) (by simp at hs; omega)
    have hm : h[s]? = some o := by simpa using h0.symm
    have hok := ho o (List.mem_of_getElem? hm)
    cases o with
    | dead => exact hw_dead (List.getElem?_eq_some_iff.1 hm).1 ih
    | row sz es =>
      refine hw_rowr (fun x hx => belowL_mono (by simp) _ (hok x hx)) ?_ ih
      rw [hm, List.map_congr_left (g := id) fun x hx => renL_fix hσ x (hok x hx)]; simp
    | mp es => exact ⟨(List.getElem?_eq_some_iff.1 hm).1, ⟨fun x hx => by exact (belowL_mono (by simp) [x.2] ⟨hok x hx, trivial⟩).1, by rw [hm, List.map_congr_left (g := id) fun x hx => by rw [ren_fix hσ x.2 (hok x hx)]; rfl]; simp⟩, ih⟩
    | sit s p => exact ⟨(List.getElem?_eq_some_iff.1 hm).1, hm, ih⟩
theorem twa_dead {m : Nat} {l : List (Nat × AV)} : ∀ r : List (Nat × AV), FgA m l r → TWA (List.range' 0 m ++ [0]) l r
  | [], _ => trivial
  | x :: r, ⟨⟨a, c⟩, d⟩ => by
    have hσ : ∀ i, i < m → (List.range' 0 m ++ [0]).getD i 0 = i := fun i hi => by
      rw [List.getD_eq_getElem?_getD, List.getElem?_append_left (by simp; exact hi)]; simp [hi]
    exact ⟨⟨(belowL_mono (by simp) [x.2] ⟨a, trivial⟩).1, by rw [ren_fix hσ _ a, c]⟩, twa_dead r d⟩
/-- At a loop's head: one more object, dead. -/
theorem wkt_dead {k n : Nat} {l l1 : List (Nat × AV)} {h : List AO} (hk : k ≤ h.length) (hp : 0 < h.length) (ho : ∀ o ∈ h, okO h.length o) (H : FgA h.length l l1) : Wk k (tsOf n l) h (tsOf n l1) (h ++ [.dead]) := by
  have hσ : ∀ i, i < h.length → (List.range' 0 h.length ++ [0]).getD i 0 = i := fun i hi => by
    rw [List.getD_eq_getElem?_getD, List.getElem?_append_left (by simp; exact hi)]; simp [hi]
  refine wkt_dup (List.range' 0 h.length ++ [0]) (by simp; omega) (fun i hi => hσ i (by omega)) ?_ ?_ (twa_dead _ H)
  · exact (live_dead h 0).1
  · exact hw_deadT hp ho h 0 (fun i => by simp) (by simp)
variable (G : Glob)
theorem d_some {b : List Int} (hb : Byt b) (hl : b.length ≤ 2000) {p : Nat} (hp : p ≤ 1000000000000) (k ps sl n : Int) (rows : List (List AV)) (hr : ∀ x ∈ rows, belowL 0 x) {h : List AO} {j : Nat} (hj : j ≠ 0) (h0 : h[0]? = some (rdO b p)) (h1 : h[j]? = some (rowE 5 rows)) :
    AC Tryd.prog G n_spec_l22Some [.ptr 0 2 0 0, .p (.int .i64 k), .agg [.p (.int .i64 ps), .p (.int .i64 sl), slE j 5 rows], .p (.int .i64 n)] h fun x h' => ∃ (m : Mins) (q : Nat), x = .ret (.agg (m.cs.map .p)) ∧ h' = h.set 0 (rdO b q) ∧ q ≤ p + 12 := by
  refine (d_twoA G (d_some0 G hb hl hp k ps sl n rows hr) (okO_E hr) hj h0 h1 ?_).mono ?_
  · simp [below, ren, renL, belowL]
  · rintro x h' ⟨v, q, rfl, rfl, ⟨m, rfl⟩, hq⟩
    exact ⟨m, q, rfl, rfl, hq⟩
/-- What was drawn of a function. -/
structure MacS where (ins : List Mins) (q : Nat)
structure MacT where (fs : List Mfn) (q : Nat)
def insR (l : List Mins) : List (List AV) := l.map Mins.av
theorem insR_pure (l : List Mins) : ∀ x ∈ insR l, belowL 0 x := by
  intro x hx; obtain ⟨m, _, rfl⟩ := List.mem_map.1 hx; simp [Mins.av, Mins.cs, belowL, below]
theorem insR_len (l : List Mins) : (insR l).length = l.length := by simp [insR]
theorem insR_app (a b : List Mins) : insR (a ++ b) = insR a ++ insR b := by simp [insR]
theorem slR (id : Nat) (ins : List Mins) (x : Mins) : slE id 5 (insR (ins ++ [x])) = .sl id 5 0 ((insR ins).length + 1) := by
  rw [insR_app, slE_app _ (by simp [insR])]; rfl
theorem rowR (ins : List Mins) (x : Mins) : rowE 5 (insR (ins ++ [x])) = .row 5 (insR ins ++ [[.p (.int .i64 x.op), .p (.int .i64 x.a), .p (.int .i64 x.b), .p (.int .i64 x.c), .p (.int .i64 x.n)]]) := by
  rw [insR_app, rowE_app _ (by simp [insR])]; rfl
theorem insA_pure (ins : List Mins) (y : Mins) : ∀ e ∈ insR ins ++ [[.p (.int .i64 y.op), .p (.int .i64 y.a), .p (.int .i64 y.b), .p (.int .i64 y.c), .p (.int .i64 y.n)]], belowL 0 e := by
  intro e he
  rcases List.mem_append.1 he with h | h
  · exact insR_pure _ e h
  · rw [List.mem_singleton.1 h]; simp
theorem insR_snoc (ins : List Mins) (x : Mins) : insR (ins ++ [x]) = insR ins ++ [[.p (.int .i64 x.op), .p (.int .i64 x.a), .p (.int .i64 x.b), .p (.int .i64 x.c), .p (.int .i64 x.n)]] := insR_app _ _
theorem len_snoc (ins : List Mins) (x : Mins) : (ins ++ [x]).length = (insR ins).length + 1 := by simp [insR]
def MacH (b : List Int) (q : Nat) (fs : List Mfn) : List AO := rdO b q :: .row 1 [[.nils]] :: .row 1 [[slE 3 3 (fnsR 4 fs)]] :: rowE 3 (fnsR 4 fs) :: fs.map fun f => .row 5 (insR f.ins)
def FnsOk (fs : List Mfn) : Prop := ∀ f ∈ fs, 0 < f.ins.length ∧ f.ins.length ≤ 20
def MacE (b : List Int) (q : Nat) (fs : List Mfn) : List AO := rdO b q :: .row 1 [[slE 3 3 (fnsR 4 fs)]] :: .row 1 [[slE 3 3 (fnsR 4 fs)]] :: rowE 3 (fnsR 4 fs) :: fs.map fun f => .row 5 (insR f.ins)
def MacP (b : List Int) (x : ARes) (h : List AO) : Prop := ∃ (fs : List Mfn) (q : Nat), x = .ret (.agg [slE 3 3 (fnsR 4 fs)]) ∧ h = MacE b q fs ∧ FnsOk fs ∧ 1 ≤ fs.length ∧ fs.length ≤ 3 ∧ q ≤ 2000
def K_spec_l22Mach : AK := .seq (.reg [⟨(some 2), none, .alloc [.nils]⟩]) (.seq (.reg [⟨(some 9), none, .bld [.nils] []⟩, ⟨(some 3), none, .alloc [.nils]⟩, ⟨none, none, .st 1 (.t 3) (.t 9)⟩]) (.seq (.reg [⟨(some 10), none, .mov (.t 0)⟩, ⟨(some 11), none, .bsl 1 [(.p (.int .i64 0))] 4 [(0, 1, (.c (.p (.int .i64 1)))), (1, 1, (.c (.p (.int .i64 2)))), (2, 1, (.c (.p (.int .i64 1)))), (3, 1, (.c (.p (.int .i64 3))))]⟩, ⟨(some 12), none, .call n_spec_l30Rd_num [(.t 10), (.t 11)]⟩, ⟨(some 4), none, .mov (.t 12)⟩]) (.seq (.seq (.reg [⟨(some 5), none, .mov (.c (.p (.int .i64 0)))⟩]) (.blk 0 (.loop (.seq (.seq (.reg [⟨(some 13), none, .mov (.t 5)⟩, ⟨(some 14), none, .mov (.t 4)⟩, ⟨(some 15), none, .bin .lss (.t 13) (.t 14)⟩]) (.cond (.t 15) (.skip) (.exit 0))) (.seq (.blk 1 (.seq (.reg [⟨(some 18), none, .mov (.t 0)⟩, ⟨(some 19), none, .bsl 1 [(.p (.int .i64 0))] 4 [(0, 1, (.c (.p (.int .i64 1)))), (1, 1, (.c (.p (.int .i64 0)))), (2, 1, (.c (.p (.int .i64 2)))), (3, 1, (.c (.p (.int .i64 3))))]⟩, ⟨(some 20), none, .call n_spec_l30Rd_num [(.t 18), (.t 19)]⟩, ⟨(some 21), none, .mov (.t 0)⟩, ⟨(some 22), none, .bsl 1 [(.p (.int .i64 0))] 4 [(0, 1, (.c (.p (.int .i64 2)))), (1, 1, (.c (.p (.int .i64 0)))), (2, 1, (.c (.p (.int .i64 5)))), (3, 1, (.c (.p (.int .i64 1))))]⟩, ⟨(some 23), none, .call n_spec_l30Rd_num [(.t 21), (.t 22)]⟩, ⟨(some 24), none, .bld [(.p (.int .i64 0)), (.p (.int .i64 0)), .nils] [(0, 1, (.t 20)), (1, 1, (.t 23))]⟩, ⟨(some 6), none, .alloc [(.p (.int .i64 0)), (.p (.int .i64 0)), .nils]⟩, ⟨none, none, .st 3 (.t 6) (.t 24)⟩]) (.seq (.reg [⟨(some 25), none, .mov (.t 0)⟩, ⟨(some 26), none, .bsl 1 [(.p (.int .i64 0))] 6 [(0, 1, (.c (.p (.int .i64 6)))), (1, 1, (.c (.p (.int .i64 9)))), (2, 1, (.c (.p (.int .i64 14)))), (3, 1, (.c (.p (.int .i64 3)))), (4, 1, (.c (.p (.int .i64 1)))), (5, 1, (.c (.p (.int .i64 20))))]⟩, ⟨(some 27), none, .call n_spec_l30Rd_num [(.t 25), (.t 26)]⟩, ⟨(some 7), none, .mov (.t 27)⟩]) (.seq (.seq (.reg [⟨(some 8), none, .mov (.c (.p (.int .i64 0)))⟩]) (.blk 2 (.loop (.seq (.seq (.reg [⟨(some 28), none, .mov (.t 8)⟩, ⟨(some 29), none, .mov (.t 7)⟩, ⟨(some 30), none, .bin .sub (.t 29) (.c (.p (.int .i64 1)))⟩, ⟨(some 31), none, .bin .lss (.t 28) (.t 30)⟩]) (.cond (.t 31) (.skip) (.exit 2))) (.seq (.blk 3 (.reg [⟨(some 34), none, .fldA 2 (.t 6)⟩, ⟨(some 36), none, .mov (.t 0)⟩, ⟨(some 37), none, .mov (.t 5)⟩, ⟨(some 39), none, .mov (.t 7)⟩, ⟨(some 35), none, .ld none (.t 34)⟩, ⟨(some 38), none, .ld (some 3) (.t 6)⟩, ⟨(some 40), none, .call n_spec_l22Some [(.t 36), (.t 37), (.t 38), (.t 39)]⟩, ⟨none, none, .chk none 34 35⟩, ⟨(some 41), none, .bslP 5 [(.p (.int .i64 0)), (.p (.int .i64 0)), (.p (.int .i64 0)), (.p (.int .i64 0)), (.p (.int .i64 0))] 1 [(0, 5, (.t 40))]⟩, ⟨(some 42), none, .app 5 40 (.t 35) (.t 41)⟩, ⟨(some 43), none, .fldA 2 (.t 6)⟩, ⟨none, none, .st 1 (.t 43) (.t 42)⟩])) (.reg [⟨(some 32), none, .mov (.t 8)⟩, ⟨(some 33), none, .bin .add (.t 32) (.c (.p (.int .i64 1)))⟩, ⟨(some 8), none, .mov (.t 33)⟩])))))) (.cut (.seq (.reg [⟨(some 44), none, .mov (.t 7)⟩, ⟨(some 45), none, .bin .gtr (.t 44) (.c (.p (.int .i64 1)))⟩, ⟨(some 46), none, .mov (.t 45)⟩, ⟨(some 47), (some (46, true)), .mov (.t 0)⟩, ⟨(some 48), (some (46, true)), .call n_spec_l30Rd_pick [(.t 47), (.c (.p (.int .i64 6)))]⟩, ⟨(some 49), (some (46, true)), .bin .eql (.t 48) (.c (.p (.int .i64 0)))⟩, ⟨(some 50), none, .pick (.t 46) (.t 49) (.c (.p (.bool false)))⟩]) (.cond (.t 50) (.reg [⟨(some 51), none, .fldA 2 (.t 6)⟩, ⟨(some 53), none, .mov (.t 0)⟩, ⟨(some 54), none, .mov (.t 7)⟩, ⟨(some 52), none, .ld none (.t 51)⟩, ⟨(some 55), none, .call n_spec_l30Rd_pick [(.t 53), (.t 54)]⟩, ⟨none, none, .chk none 51 52⟩, ⟨(some 56), none, .bld [(.p (.int .i64 0)), (.p (.int .i64 0)), (.p (.int .i64 0)), (.p (.int .i64 0)), (.p (.int .i64 0))] [(0, 1, (.c (.p (.int .i64 20)))), (4, 1, (.t 55))]⟩, ⟨(some 57), none, .bslP 5 [(.p (.int .i64 0)), (.p (.int .i64 0)), (.p (.int .i64 0)), (.p (.int .i64 0)), (.p (.int .i64 0))] 1 [(0, 5, (.t 56))]⟩, ⟨(some 58), none, .app 5 40 (.t 52) (.t 57)⟩, ⟨(some 59), none, .fldA 2 (.t 6)⟩, ⟨none, none, .st 1 (.t 59) (.t 58)⟩]) (.reg [⟨(some 60), none, .fldA 2 (.t 6)⟩, ⟨(some 62), none, .mov (.t 0)⟩, ⟨(some 61), none, .ld none (.t 60)⟩, ⟨(some 63), none, .call n_spec_l30Rd_pick [(.t 62), (.c (.p (.int .i64 8)))]⟩, ⟨none, none, .chk none 60 61⟩, ⟨(some 64), none, .bld [(.p (.int .i64 0)), (.p (.int .i64 0)), (.p (.int .i64 0)), (.p (.int .i64 0)), (.p (.int .i64 0))] [(0, 1, (.c (.p (.int .i64 22)))), (1, 1, (.t 63))]⟩, ⟨(some 65), none, .bslP 5 [(.p (.int .i64 0)), (.p (.int .i64 0)), (.p (.int .i64 0)), (.p (.int .i64 0)), (.p (.int .i64 0))] 1 [(0, 5, (.t 64))]⟩, ⟨(some 66), none, .app 5 40 (.t 61) (.t 65)⟩, ⟨(some 67), none, .fldA 2 (.t 6)⟩, ⟨none, none, .st 1 (.t 67) (.t 66)⟩]))) (.reg [⟨(some 68), none, .fldA 0 (.t 3)⟩, ⟨(some 69), none, .ld none (.t 68)⟩, ⟨(some 70), none, .ld (some 3) (.t 6)⟩, ⟨(some 71), none, .bsl 3 [(.p (.int .i64 0)), (.p (.int .i64 0)), .nils] 1 [(0, 3, (.t 70))]⟩, ⟨(some 72), none, .app 3 40 (.t 69) (.t 71)⟩, ⟨(some 73), none, .fldA 0 (.t 3)⟩, ⟨none, none, .st 1 (.t 73) (.t 72)⟩])))))) (.reg [⟨(some 16), none, .mov (.t 5)⟩, ⟨(some 17), none, .bin .add (.t 16) (.c (.p (.int .i64 1)))⟩, ⟨(some 5), none, .mov (.t 17)⟩])))))) (.seq (.reg [⟨(some 74), none, .ld (some 1) (.t 3)⟩, ⟨none, none, .st 1 (.t 2) (.t 74)⟩]) (.ret)))))
theorem w_spec_l22Mach : K_spec_l22Mach.whole = F_spec_l22Mach.ak := rfl
theorem d_mach0 {b : List Int} (hb : Byt b) (hl : b.length ≤ 2000) : AC Tryd.prog G n_spec_l22Mach [.ptr 0 2 0 0] [rdO b 0] (MacP b) := by
  refine AC.goK k_spec_l22Mach w_spec_l22Mach ?_
  simp -implicitDefEqProofs [K_spec_l22Mach, F_spec_l22Mach]
  refine (d_num G hb hl (p := 0) (by omega) [1, 2, 1, 3] (k := 3) (by simp) (by simp) (by omega) rfl rfl).mono ?_
  rintro r h ⟨F, hF, rfl, rfl⟩
  have hF1 : 1 ≤ F ∧ F ≤ 3 := by simp at hF; omega
  simp -implicitDefEqProofs [callR_nxt]
  refine loopA (fun s : MacT => tsOf 75 [(5, .p (.int .i64 s.fs.length)), (4, .p (.int .i64 F)), (3, .ptr 2 1 0 0), (2, .ptr 1 1 0 0), (0, .ptr 0 2 0 0)]) (fun s => MacH b s.q s.fs) (fun s => s.fs.length ≤ F ∧ FnsOk s.fs ∧ s.q ≤ 1 + 300 * s.fs.length) (fun s => 3 - s.fs.length) ⟨[], 1⟩ ⟨by simp; omega, (fun f hf => by cases hf), by simp⟩ ?_ ?_
  · refine wkt_dup [0, 1, 2, 0] (by simp) (by decide) (by simp [MacH, lives, rdO, rowE, fnsR]) (hw_ok rfl (rdO_ok _ _ _) (hw_row rfl (by simp [below]) (hw_row rfl (by simp [below, slE, fnsR]) (hw_dead (by simp) hw_nil)))) ?_
    simp [below, ren]
  rintro ⟨fs, q⟩ ⟨h1, h2, h3⟩
  simp only at h1 h2 h3
  have hlen : fs.length ≤ 3 := by omega
  match fs, h1, h2, h3, hlen with
  | [], h1, h2, h3, _ =>
    simp -implicitDefEqProofs [MacH, fnsR]
    refine cndb (fun h => ?_) (fun h => ?_)
    · simp at h
      simp -implicitDefEqProofs []
      refine (d_num G hb hl (p := q) (by omega) [1, 0, 2, 3] (k := 4) (by simp) (by simp) (by omega) rfl rfl).mono ?_
      rintro r h ⟨ps, _, rfl, rfl⟩
      simp -implicitDefEqProofs [callR_nxt]
      refine (d_num G hb hl (p := q + 1) (by omega) [2, 0, 5, 1] (k := 5) (by simp) (by simp) (by omega) rfl rfl).mono ?_
      rintro r h ⟨sl, _, rfl, rfl⟩
      simp -implicitDefEqProofs [callR_nxt]
      refine (d_num G hb hl (p := q + 1 + 1) (by omega) [6, 9, 14, 3, 1, 20] (k := 7) (by simp) (by simp) (by omega) rfl rfl).mono ?_
      rintro r h ⟨N, hN, rfl, rfl⟩
      have hN1 : 1 ≤ N ∧ N ≤ 20 := by simp at hN; omega
      simp -implicitDefEqProofs [callR_nxt]
      have hpre : ∀ (q : Nat) (S : AV), below 8 S → ∀ o ∈ [rdO b q, .row 1 [[.nils]], .row 1 [[.nils]], .dead, numO [1, 0, 2, 3], numO [2, 0, 5, 1], .row 3 [[.p (.int .i64 ps), .p (.int .i64 sl), S]], numO [6, 9, 14, 3, 1, 20]], okO 8 o := by
        intro q S hS o h
        simp only [List.mem_cons, List.not_mem_nil, or_false] at h
        rcases h with rfl | rfl | rfl | rfl | rfl | rfl | rfl | rfl
        · exact rdO_ok _ _ _
        · simp [okO, below]
        · simp [okO, below]
        · simp [okO]
        · simp [okO, numO]
        · simp [okO, numO]
        · simp [okO, hS]
        · simp [okO, numO]
      refine loopA (fun s : MacS => tsOf 75 [(8, .p (.int .i64 s.ins.length)), (7, .p (.int .i64 N)), (6, .ptr 6 3 0 0), (5, .p (.int .i64 0)), (4, .p (.int .i64 F)), (3, .ptr 2 1 0 0), (2, .ptr 1 1 0 0), (0, .ptr 0 2 0 0)])
        (fun s => [rdO b s.q, .row 1 [[.nils]], .row 1 [[.nils]], .dead, numO [1, 0, 2, 3], numO [2, 0, 5, 1], .row 3 [[.p (.int .i64 ps), .p (.int .i64 sl), slE 8 5 (insR s.ins)]], numO [6, 9, 14, 3, 1, 20], rowE 5 (insR s.ins)])
        (fun s => (s.ins.length : Int) ≤ N - 1 ∧ s.q ≤ q + 3 + 12 * s.ins.length) (fun s => 20 - s.ins.length) ⟨[], q + 1 + 1 + 1⟩ ⟨by simp <;> omega, by simp <;> omega⟩ (wkt_dead (by simp) (by simp) (hpre _ _ (by trivial)) (by simp [below])) ?_
      have hwN : IntKind.i64.wrap (N - 1) = N - 1 := i64_small (by omega) (by omega)
      rintro ⟨ins, q1⟩ ⟨hi1, hi2⟩
      simp only at hi1 hi2
      simp -implicitDefEqProofs [hwN]
      refine cndb (fun hc => ?_) (fun hc => ?_)
      · simp at hc
        simp -implicitDefEqProofs []
        refine (d_some G hb hl (p := q1) (by omega) _ ps sl N (insR ins) (insR_pure ins) (j := 8) (by omega) rfl rfl).mono ?_
        rintro r h ⟨x, q2, rfl, rfl, hq2⟩
        simp -implicitDefEqProofs [callR_nxt, Mins.cs]
        refine ⟨by rw [insR_len]; omega, ⟨ins ++ [x], q2⟩, ⟨by simp; omega, by simp; omega⟩, by simp; omega, ?_⟩
        rw [slR 8 ins x, rowR ins x]
        refine wkt_ren [0, 1, 2, 3, 4, 5, 6, 7, 9] (by simp) (by decide) (by decide) (hw_ok rfl (rdO_ok _ _ _) (hw_row rfl (by simp [below]) (hw_rowr (by simp [below]) (by simp [ren, renL]) (hw_dead (by simp) (hw_ok rfl (by simp [okO, numO]) (hw_ok rfl (by simp [okO, numO]) (hw_rowr (by simp [below]) (by simp [ren, renL]) (hw_ok rfl (by simp [okO, numO]) (hw_row rfl (insA_pure _ _) hw_nil))))))))) ?_
        simp [below, ren, w1 (i := ins.length) (by omega)]
      · simp at hc
        refine cutA (α := MacS) (fun s => tsOf 75 [(6, .ptr 6 3 0 0), (5, .p (.int .i64 0)), (4, .p (.int .i64 F)), (3, .ptr 2 1 0 0), (2, .ptr 1 1 0 0), (0, .ptr 0 2 0 0)])
          (fun s => [rdO b s.q, .row 1 [[.nils]], .row 1 [[.nils]], .dead, numO [1, 0, 2, 3], numO [2, 0, 5, 1], .row 3 [[.p (.int .i64 ps), .p (.int .i64 sl), .sl 8 5 0 s.ins.length]], numO [6, 9, 14, 3, 1, 20], .row 5 (insR s.ins)])
          (fun s => 0 < s.ins.length ∧ s.ins.length ≤ 20 ∧ s.q ≤ q + 290) ?_ ?_
        · have last : ∀ (y : Mins) (q' : Nat) (l : List (Nat × AV)), TWA [0, 1, 2, 3, 4, 5, 6, 7, 9] l [(6, .ptr 6 3 0 0), (5, .p (.int .i64 0)), (4, .p (.int .i64 F)), (3, .ptr 2 1 0 0), (2, .ptr 1 1 0 0), (0, .ptr 0 2 0 0)] → Wk 1 (tsOf 75 l) [rdO b q', .row 1 [[.nils]], .row 1 [[.nils]], .dead, numO [1, 0, 2, 3], numO [2, 0, 5, 1], .row 3 [[.p (.int .i64 ps), .p (.int .i64 sl), .sl 9 5 0 ((insR ins).length + 1)]], numO [6, 9, 14, 3, 1, 20], .dead, .row 5 (insR ins ++ [[.p (.int .i64 y.op), .p (.int .i64 y.a), .p (.int .i64 y.b), .p (.int .i64 y.c), .p (.int .i64 y.n)]])]
              (tsOf 75 [(6, .ptr 6 3 0 0), (5, .p (.int .i64 0)), (4, .p (.int .i64 F)), (3, .ptr 2 1 0 0), (2, .ptr 1 1 0 0), (0, .ptr 0 2 0 0)]) [rdO b q', .row 1 [[.nils]], .row 1 [[.nils]], .dead, numO [1, 0, 2, 3], numO [2, 0, 5, 1], .row 3 [[.p (.int .i64 ps), .p (.int .i64 sl), .sl 8 5 0 (ins ++ [y]).length]], numO [6, 9, 14, 3, 1, 20], .row 5 (insR (ins ++ [y]))] := fun y q' l hl => by
            rw [insR_snoc, len_snoc]
            exact wkt_ren [0, 1, 2, 3, 4, 5, 6, 7, 9] (by simp) (by decide) (by decide) (hw_ok rfl (rdO_ok _ _ _) (hw_row rfl (by simp [below]) (hw_rowr (by simp [below]) (by simp [ren, renL]) (hw_dead (by simp) (hw_ok rfl (by simp [okO, numO]) (hw_ok rfl (by simp [okO, numO]) (hw_rowr (by simp [below]) (by simp [ren, renL]) (hw_ok rfl (by simp [okO, numO]) (hw_row rfl (insA_pure _ _) hw_nil))))))))) hl
          have fin : ∀ (y : Mins) (q' : Nat) (l : List (Nat × AV)), q' ≤ q + 290 → TWA [0, 1, 2, 3, 4, 5, 6, 7, 9] l [(6, .ptr 6 3 0 0), (5, .p (.int .i64 0)), (4, .p (.int .i64 F)), (3, .ptr 2 1 0 0), (2, .ptr 1 1 0 0), (0, .ptr 0 2 0 0)] →
              (((insR ins).length + 1) * 40 ≤ 140737488355328 ∧ (insR ins).length ≤ 140737488355327) ∧ ∃ s : MacS, (0 < s.ins.length ∧ s.ins.length ≤ 20 ∧ s.q ≤ q + 290) ∧ Wk 1 (tsOf 75 l) [rdO b q', .row 1 [[.nils]], .row 1 [[.nils]], .dead, numO [1, 0, 2, 3], numO [2, 0, 5, 1], .row 3 [[.p (.int .i64 ps), .p (.int .i64 sl), .sl 9 5 0 ((insR ins).length + 1)]], numO [6, 9, 14, 3, 1, 20], .dead, .row 5 (insR ins ++ [[.p (.int .i64 y.op), .p (.int .i64 y.a), .p (.int .i64 y.b), .p (.int .i64 y.c), .p (.int .i64 y.n)]])]
                (tsOf 75 [(6, .ptr 6 3 0 0), (5, .p (.int .i64 0)), (4, .p (.int .i64 F)), (3, .ptr 2 1 0 0), (2, .ptr 1 1 0 0), (0, .ptr 0 2 0 0)]) [rdO b s.q, .row 1 [[.nils]], .row 1 [[.nils]], .dead, numO [1, 0, 2, 3], numO [2, 0, 5, 1], .row 3 [[.p (.int .i64 ps), .p (.int .i64 sl), .sl 8 5 0 s.ins.length]], numO [6, 9, 14, 3, 1, 20], .row 5 (insR s.ins)] := fun y q' l hq' hl =>
            ⟨by rw [insR_len]; omega, ⟨ins ++ [y], q'⟩, ⟨by simp, by simp; omega, hq'⟩, last y q' l hl⟩
          by_cases h1N : 1 < N
          · simp -implicitDefEqProofs [h1N]
            refine (d_pickP G b hb hl q1 (by omega) 6 _).mono ?_
            rintro r h ⟨v, rfl, rfl, _⟩
            simp -implicitDefEqProofs [callR_nxt]
            refine cndb (fun hv => ?_) (fun hv => ?_)
            · simp -implicitDefEqProofs []
              refine (d_pickP G b hb hl (q1 + 1) (by omega) N _).mono ?_
              rintro r h ⟨v2, rfl, rfl, _⟩
              simp -implicitDefEqProofs [callR_nxt]
              exact fin ⟨20, 0, 0, 0, v2⟩ _ _ (by omega) (by simp [below, ren])
            · simp -implicitDefEqProofs []
              refine (d_pickP G b hb hl (q1 + 1) (by omega) 8 _).mono ?_
              rintro r h ⟨v2, rfl, rfl, _⟩
              simp -implicitDefEqProofs [callR_nxt]
              exact fin ⟨22, v2, 0, 0, 0⟩ _ _ (by omega) (by simp [below, ren])
          · simp -implicitDefEqProofs [h1N]
            refine (d_pickP G b hb hl q1 (by omega) 8 _).mono ?_
            rintro r h ⟨v2, rfl, rfl, _⟩
            simp -implicitDefEqProofs [callR_nxt]
            exact fin ⟨22, v2, 0, 0, 0⟩ _ _ (by omega) (by simp [below, ren])
        · rintro ⟨ins, q1⟩ ⟨hi1, hi2, hi3⟩
          simp only at hi1 hi2 hi3
          simp -implicitDefEqProofs []
          refine ⟨⟨[⟨ps, sl, ins⟩], q1⟩, ⟨by simp; omega, ?_, by simp at h3 ⊢; omega⟩, by simp, ?_⟩
          · intro f hf
            simp only [List.mem_cons, List.not_mem_nil, or_false] at hf
            rcases hf with rfl
            · exact ⟨hi1, hi2⟩
          · simp only [fnsR, List.map]
            refine wkt_dup [0, 1, 2, 10, 8] (by simp) (by decide) ?_ (hw_ok rfl (rdO_ok _ _ _) (hw_row rfl (by simp [below]) (hw_rowr (by simp [below, slE]) (by simp [ren, renL, slE]) (hw_rowr (by simp [below, Mfn.ov]) (by simp [ren, renL, Mfn.ov]) (hw_row rfl (insR_pure _) hw_nil))))) ?_
            · simp [lives, rdO, rowE]
            · simp [below, ren, i64_small]
    · simp at h; omega
  | [f1], h1, h2, h3, _ =>
    simp -implicitDefEqProofs [MacH, fnsR]
    refine cndb (fun h => ?_) (fun h => ?_)
    · simp at h
      simp -implicitDefEqProofs []
      refine (d_num G hb hl (p := q) (by omega) [1, 0, 2, 3] (k := 5) (by simp) (by simp) (by omega) rfl rfl).mono ?_
      rintro r h ⟨ps, _, rfl, rfl⟩
      simp -implicitDefEqProofs [callR_nxt]
      refine (d_num G hb hl (p := q + 1) (by omega) [2, 0, 5, 1] (k := 6) (by simp) (by simp) (by omega) rfl rfl).mono ?_
      rintro r h ⟨sl, _, rfl, rfl⟩
      simp -implicitDefEqProofs [callR_nxt]
      refine (d_num G hb hl (p := q + 1 + 1) (by omega) [6, 9, 14, 3, 1, 20] (k := 8) (by simp) (by simp) (by omega) rfl rfl).mono ?_
      rintro r h ⟨N, hN, rfl, rfl⟩
      have hN1 : 1 ≤ N ∧ N ≤ 20 := by simp at hN; omega
      simp -implicitDefEqProofs [callR_nxt]
      have hpre : ∀ (q : Nat) (S : AV), below 9 S → ∀ o ∈ [rdO b q, .row 1 [[.nils]], .row 1 [[.sl 3 3 0 1]], .row 3 [f1.ov 4], .row 5 (insR f1.ins), numO [1, 0, 2, 3], numO [2, 0, 5, 1], .row 3 [[.p (.int .i64 ps), .p (.int .i64 sl), S]], numO [6, 9, 14, 3, 1, 20]], okO 9 o := by
        intro q S hS o h
        simp only [List.mem_cons, List.not_mem_nil, or_false] at h
        rcases h with rfl | rfl | rfl | rfl | rfl | rfl | rfl | rfl | rfl
        · exact rdO_ok _ _ _
        · simp [okO, below]
        · simp [okO, below]
        · simp [okO, Mfn.ov, below]
        · exact fun e he => belowL_mono (Nat.zero_le _) _ (insR_pure _ e he)
        · simp [okO, numO]
        · simp [okO, numO]
        · simp [okO, hS]
        · simp [okO, numO]
      refine loopA (fun s : MacS => tsOf 75 [(8, .p (.int .i64 s.ins.length)), (7, .p (.int .i64 N)), (6, .ptr 7 3 0 0), (5, .p (.int .i64 1)), (4, .p (.int .i64 F)), (3, .ptr 2 1 0 0), (2, .ptr 1 1 0 0), (0, .ptr 0 2 0 0)])
        (fun s => [rdO b s.q, .row 1 [[.nils]], .row 1 [[.sl 3 3 0 1]], .row 3 [f1.ov 4], .row 5 (insR f1.ins), numO [1, 0, 2, 3], numO [2, 0, 5, 1], .row 3 [[.p (.int .i64 ps), .p (.int .i64 sl), slE 9 5 (insR s.ins)]], numO [6, 9, 14, 3, 1, 20], rowE 5 (insR s.ins)])
        (fun s => (s.ins.length : Int) ≤ N - 1 ∧ s.q ≤ q + 3 + 12 * s.ins.length) (fun s => 20 - s.ins.length) ⟨[], q + 1 + 1 + 1⟩ ⟨by simp <;> omega, by simp <;> omega⟩ (wkt_dead (by simp) (by simp) (hpre _ _ (by trivial)) (by simp [below])) ?_
      have hwN : IntKind.i64.wrap (N - 1) = N - 1 := i64_small (by omega) (by omega)
      rintro ⟨ins, q1⟩ ⟨hi1, hi2⟩
      simp only at hi1 hi2
      simp -implicitDefEqProofs [hwN]
      refine cndb (fun hc => ?_) (fun hc => ?_)
      · simp at hc
        simp -implicitDefEqProofs []
        refine (d_some G hb hl (p := q1) (by omega) _ ps sl N (insR ins) (insR_pure ins) (j := 9) (by omega) rfl rfl).mono ?_
        rintro r h ⟨x, q2, rfl, rfl, hq2⟩
        simp -implicitDefEqProofs [callR_nxt, Mins.cs]
        refine ⟨by rw [insR_len]; omega, ⟨ins ++ [x], q2⟩, ⟨by simp; omega, by simp; omega⟩, by simp; omega, ?_⟩
        rw [slR 9 ins x, rowR ins x]
        refine wkt_ren [0, 1, 2, 3, 4, 5, 6, 7, 8, 10] (by simp) (by decide) (by decide) (hw_ok rfl (rdO_ok _ _ _) (hw_row rfl (by simp [below]) (hw_rowr (by simp [below]) (by simp [ren, renL]) (hw_rowr (by simp [below, Mfn.ov]) (by simp [ren, renL, Mfn.ov]) (hw_row rfl (insR_pure _) (hw_ok rfl (by simp [okO, numO]) (hw_ok rfl (by simp [okO, numO]) (hw_rowr (by simp [below]) (by simp [ren, renL]) (hw_ok rfl (by simp [okO, numO]) (hw_row rfl (insA_pure _ _) hw_nil)))))))))) ?_
        simp [below, ren, w1 (i := ins.length) (by omega)]
      · simp at hc
        refine cutA (α := MacS) (fun s => tsOf 75 [(6, .ptr 7 3 0 0), (5, .p (.int .i64 1)), (4, .p (.int .i64 F)), (3, .ptr 2 1 0 0), (2, .ptr 1 1 0 0), (0, .ptr 0 2 0 0)])
          (fun s => [rdO b s.q, .row 1 [[.nils]], .row 1 [[.sl 3 3 0 1]], .row 3 [f1.ov 4], .row 5 (insR f1.ins), numO [1, 0, 2, 3], numO [2, 0, 5, 1], .row 3 [[.p (.int .i64 ps), .p (.int .i64 sl), .sl 9 5 0 s.ins.length]], numO [6, 9, 14, 3, 1, 20], .row 5 (insR s.ins)])
          (fun s => 0 < s.ins.length ∧ s.ins.length ≤ 20 ∧ s.q ≤ q + 290) ?_ ?_
        · have last : ∀ (y : Mins) (q' : Nat) (l : List (Nat × AV)), TWA [0, 1, 2, 3, 4, 5, 6, 7, 8, 10] l [(6, .ptr 7 3 0 0), (5, .p (.int .i64 1)), (4, .p (.int .i64 F)), (3, .ptr 2 1 0 0), (2, .ptr 1 1 0 0), (0, .ptr 0 2 0 0)] → Wk 1 (tsOf 75 l) [rdO b q', .row 1 [[.nils]], .row 1 [[.sl 3 3 0 1]], .row 3 [f1.ov 4], .row 5 (insR f1.ins), numO [1, 0, 2, 3], numO [2, 0, 5, 1], .row 3 [[.p (.int .i64 ps), .p (.int .i64 sl), .sl 10 5 0 ((insR ins).length + 1)]], numO [6, 9, 14, 3, 1, 20], .dead, .row 5 (insR ins ++ [[.p (.int .i64 y.op), .p (.int .i64 y.a), .p (.int .i64 y.b), .p (.int .i64 y.c), .p (.int .i64 y.n)]])]
              (tsOf 75 [(6, .ptr 7 3 0 0), (5, .p (.int .i64 1)), (4, .p (.int .i64 F)), (3, .ptr 2 1 0 0), (2, .ptr 1 1 0 0), (0, .ptr 0 2 0 0)]) [rdO b q', .row 1 [[.nils]], .row 1 [[.sl 3 3 0 1]], .row 3 [f1.ov 4], .row 5 (insR f1.ins), numO [1, 0, 2, 3], numO [2, 0, 5, 1], .row 3 [[.p (.int .i64 ps), .p (.int .i64 sl), .sl 9 5 0 (ins ++ [y]).length]], numO [6, 9, 14, 3, 1, 20], .row 5 (insR (ins ++ [y]))] := fun y q' l hl => by
            rw [insR_snoc, len_snoc]
            exact wkt_ren [0, 1, 2, 3, 4, 5, 6, 7, 8, 10] (by simp) (by decide) (by decide) (hw_ok rfl (rdO_ok _ _ _) (hw_row rfl (by simp [below]) (hw_rowr (by simp [below]) (by simp [ren, renL]) (hw_rowr (by simp [below, Mfn.ov]) (by simp [ren, renL, Mfn.ov]) (hw_row rfl (insR_pure _) (hw_ok rfl (by simp [okO, numO]) (hw_ok rfl (by simp [okO, numO]) (hw_rowr (by simp [below]) (by simp [ren, renL]) (hw_ok rfl (by simp [okO, numO]) (hw_row rfl (insA_pure _ _) hw_nil)))))))))) hl
          have fin : ∀ (y : Mins) (q' : Nat) (l : List (Nat × AV)), q' ≤ q + 290 → TWA [0, 1, 2, 3, 4, 5, 6, 7, 8, 10] l [(6, .ptr 7 3 0 0), (5, .p (.int .i64 1)), (4, .p (.int .i64 F)), (3, .ptr 2 1 0 0), (2, .ptr 1 1 0 0), (0, .ptr 0 2 0 0)] →
              (((insR ins).length + 1) * 40 ≤ 140737488355328 ∧ (insR ins).length ≤ 140737488355327) ∧ ∃ s : MacS, (0 < s.ins.length ∧ s.ins.length ≤ 20 ∧ s.q ≤ q + 290) ∧ Wk 1 (tsOf 75 l) [rdO b q', .row 1 [[.nils]], .row 1 [[.sl 3 3 0 1]], .row 3 [f1.ov 4], .row 5 (insR f1.ins), numO [1, 0, 2, 3], numO [2, 0, 5, 1], .row 3 [[.p (.int .i64 ps), .p (.int .i64 sl), .sl 10 5 0 ((insR ins).length + 1)]], numO [6, 9, 14, 3, 1, 20], .dead, .row 5 (insR ins ++ [[.p (.int .i64 y.op), .p (.int .i64 y.a), .p (.int .i64 y.b), .p (.int .i64 y.c), .p (.int .i64 y.n)]])]
                (tsOf 75 [(6, .ptr 7 3 0 0), (5, .p (.int .i64 1)), (4, .p (.int .i64 F)), (3, .ptr 2 1 0 0), (2, .ptr 1 1 0 0), (0, .ptr 0 2 0 0)]) [rdO b s.q, .row 1 [[.nils]], .row 1 [[.sl 3 3 0 1]], .row 3 [f1.ov 4], .row 5 (insR f1.ins), numO [1, 0, 2, 3], numO [2, 0, 5, 1], .row 3 [[.p (.int .i64 ps), .p (.int .i64 sl), .sl 9 5 0 s.ins.length]], numO [6, 9, 14, 3, 1, 20], .row 5 (insR s.ins)] := fun y q' l hq' hl =>
            ⟨by rw [insR_len]; omega, ⟨ins ++ [y], q'⟩, ⟨by simp, by simp; omega, hq'⟩, last y q' l hl⟩
          by_cases h1N : 1 < N
          · simp -implicitDefEqProofs [h1N]
            refine (d_pickP G b hb hl q1 (by omega) 6 _).mono ?_
            rintro r h ⟨v, rfl, rfl, _⟩
            simp -implicitDefEqProofs [callR_nxt]
            refine cndb (fun hv => ?_) (fun hv => ?_)
            · simp -implicitDefEqProofs []
              refine (d_pickP G b hb hl (q1 + 1) (by omega) N _).mono ?_
              rintro r h ⟨v2, rfl, rfl, _⟩
              simp -implicitDefEqProofs [callR_nxt]
              exact fin ⟨20, 0, 0, 0, v2⟩ _ _ (by omega) (by simp [below, ren])
            · simp -implicitDefEqProofs []
              refine (d_pickP G b hb hl (q1 + 1) (by omega) 8 _).mono ?_
              rintro r h ⟨v2, rfl, rfl, _⟩
              simp -implicitDefEqProofs [callR_nxt]
              exact fin ⟨22, v2, 0, 0, 0⟩ _ _ (by omega) (by simp [below, ren])
          · simp -implicitDefEqProofs [h1N]
            refine (d_pickP G b hb hl q1 (by omega) 8 _).mono ?_
            rintro r h ⟨v2, rfl, rfl, _⟩
            simp -implicitDefEqProofs [callR_nxt]
            exact fin ⟨22, v2, 0, 0, 0⟩ _ _ (by omega) (by simp [below, ren])
        · rintro ⟨ins, q1⟩ ⟨hi1, hi2, hi3⟩
          simp only at hi1 hi2 hi3
          simp -implicitDefEqProofs []
          refine ⟨⟨[f1, ⟨ps, sl, ins⟩], q1⟩, ⟨by simp; omega, ?_, by simp at h3 ⊢; omega⟩, by simp, ?_⟩
          · intro f hf
            simp only [List.mem_cons, List.not_mem_nil, or_false] at hf
            rcases hf with rfl | rfl
            · exact h2 _ (by simp)
            · exact ⟨hi1, hi2⟩
          · simp only [fnsR, List.map]
            refine wkt_dup [0, 1, 2, 11, 4, 9] (by simp) (by decide) ?_ (hw_ok rfl (rdO_ok _ _ _) (hw_row rfl (by simp [below]) (hw_rowr (by simp [below, slE]) (by simp [ren, renL, slE]) (hw_rowr (by simp [below, Mfn.ov]) (by simp [ren, renL, Mfn.ov]) (hw_row rfl (insR_pure _) (hw_row rfl (insR_pure _) hw_nil)))))) ?_
            · simp [lives, rdO, rowE]
            · simp [below, ren, i64_small]
    · simp -implicitDefEqProofs []
      exact ⟨[f1], q, rfl, rfl, h2, by simp, by simp, by simp at h3; omega⟩
  | [f1, f2], h1, h2, h3, _ =>
    simp -implicitDefEqProofs [MacH, fnsR]
    refine cndb (fun h => ?_) (fun h => ?_)
    · simp at h
      simp -implicitDefEqProofs []
      refine (d_num G hb hl (p := q) (by omega) [1, 0, 2, 3] (k := 6) (by simp) (by simp) (by omega) rfl rfl).mono ?_
      rintro r h ⟨ps, _, rfl, rfl⟩
      simp -implicitDefEqProofs [callR_nxt]
      refine (d_num G hb hl (p := q + 1) (by omega) [2, 0, 5, 1] (k := 7) (by simp) (by simp) (by omega) rfl rfl).mono ?_
      rintro r h ⟨sl, _, rfl, rfl⟩
      simp -implicitDefEqProofs [callR_nxt]
      refine (d_num G hb hl (p := q + 1 + 1) (by omega) [6, 9, 14, 3, 1, 20] (k := 9) (by simp) (by simp) (by omega) rfl rfl).mono ?_
      rintro r h ⟨N, hN, rfl, rfl⟩
      have hN1 : 1 ≤ N ∧ N ≤ 20 := by simp at hN; omega
      simp -implicitDefEqProofs [callR_nxt]
      have hpre : ∀ (q : Nat) (S : AV), below 10 S → ∀ o ∈ [rdO b q, .row 1 [[.nils]], .row 1 [[.sl 3 3 0 2]], .row 3 [f1.ov 4, f2.ov 5], .row 5 (insR f1.ins), .row 5 (insR f2.ins), numO [1, 0, 2, 3], numO [2, 0, 5, 1], .row 3 [[.p (.int .i64 ps), .p (.int .i64 sl), S]], numO [6, 9, 14, 3, 1, 20]], okO 10 o := by
        intro q S hS o h
        simp only [List.mem_cons, List.not_mem_nil, or_false] at h
        rcases h with rfl | rfl | rfl | rfl | rfl | rfl | rfl | rfl | rfl | rfl
        · exact rdO_ok _ _ _
        · simp [okO, below]
        · simp [okO, below]
        · simp [okO, Mfn.ov, below]
        · exact fun e he => belowL_mono (Nat.zero_le _) _ (insR_pure _ e he)
        · exact fun e he => belowL_mono (Nat.zero_le _) _ (insR_pure _ e he)
        · simp [okO, numO]
        · simp [okO, numO]
        · simp [okO, hS]
        · simp [okO, numO]
      refine loopA (fun s : MacS => tsOf 75 [(8, .p (.int .i64 s.ins.length)), (7, .p (.int .i64 N)), (6, .ptr 8 3 0 0), (5, .p (.int .i64 2)), (4, .p (.int .i64 F)), (3, .ptr 2 1 0 0), (2, .ptr 1 1 0 0), (0, .ptr 0 2 0 0)])
        (fun s => [rdO b s.q, .row 1 [[.nils]], .row 1 [[.sl 3 3 0 2]], .row 3 [f1.ov 4, f2.ov 5], .row 5 (insR f1.ins), .row 5 (insR f2.ins), numO [1, 0, 2, 3], numO [2, 0, 5, 1], .row 3 [[.p (.int .i64 ps), .p (.int .i64 sl), slE 10 5 (insR s.ins)]], numO [6, 9, 14, 3, 1, 20], rowE 5 (insR s.ins)])
        (fun s => (s.ins.length : Int) ≤ N - 1 ∧ s.q ≤ q + 3 + 12 * s.ins.length) (fun s => 20 - s.ins.length) ⟨[], q + 1 + 1 + 1⟩ ⟨by simp <;> omega, by simp <;> omega⟩ (wkt_dead (by simp) (by simp) (hpre _ _ (by trivial)) (by simp [below])) ?_
      have hwN : IntKind.i64.wrap (N - 1) = N - 1 := i64_small (by omega) (by omega)
      rintro ⟨ins, q1⟩ ⟨hi1, hi2⟩
      simp only at hi1 hi2
      simp -implicitDefEqProofs [hwN]
      refine cndb (fun hc => ?_) (fun hc => ?_)
      · simp at hc
        simp -implicitDefEqProofs []
        refine (d_some G hb hl (p := q1) (by omega) _ ps sl N (insR ins) (insR_pure ins) (j := 10) (by omega) rfl rfl).mono ?_
        rintro r h ⟨x, q2, rfl, rfl, hq2⟩
        simp -implicitDefEqProofs [callR_nxt, Mins.cs]
        refine ⟨by rw [insR_len]; omega, ⟨ins ++ [x], q2⟩, ⟨by simp; omega, by simp; omega⟩, by simp; omega, ?_⟩
        rw [slR 10 ins x, rowR ins x]
        refine wkt_ren [0, 1, 2, 3, 4, 5, 6, 7, 8, 9, 11] (by simp) (by decide) (by decide) (hw_ok rfl (rdO_ok _ _ _) (hw_row rfl (by simp [below]) (hw_rowr (by simp [below]) (by simp [ren, renL]) (hw_rowr (by simp [below, Mfn.ov]) (by simp [ren, renL, Mfn.ov]) (hw_row rfl (insR_pure _) (hw_row rfl (insR_pure _) (hw_ok rfl (by simp [okO, numO]) (hw_ok rfl (by simp [okO, numO]) (hw_rowr (by simp [below]) (by simp [ren, renL]) (hw_ok rfl (by simp [okO, numO]) (hw_row rfl (insA_pure _ _) hw_nil))))))))))) ?_
        simp [below, ren, w1 (i := ins.length) (by omega)]
      · simp at hc
        refine cutA (α := MacS) (fun s => tsOf 75 [(6, .ptr 8 3 0 0), (5, .p (.int .i64 2)), (4, .p (.int .i64 F)), (3, .ptr 2 1 0 0), (2, .ptr 1 1 0 0), (0, .ptr 0 2 0 0)])
          (fun s => [rdO b s.q, .row 1 [[.nils]], .row 1 [[.sl 3 3 0 2]], .row 3 [f1.ov 4, f2.ov 5], .row 5 (insR f1.ins), .row 5 (insR f2.ins), numO [1, 0, 2, 3], numO [2, 0, 5, 1], .row 3 [[.p (.int .i64 ps), .p (.int .i64 sl), .sl 10 5 0 s.ins.length]], numO [6, 9, 14, 3, 1, 20], .row 5 (insR s.ins)])
          (fun s => 0 < s.ins.length ∧ s.ins.length ≤ 20 ∧ s.q ≤ q + 290) ?_ ?_
        · have last : ∀ (y : Mins) (q' : Nat) (l : List (Nat × AV)), TWA [0, 1, 2, 3, 4, 5, 6, 7, 8, 9, 11] l [(6, .ptr 8 3 0 0), (5, .p (.int .i64 2)), (4, .p (.int .i64 F)), (3, .ptr 2 1 0 0), (2, .ptr 1 1 0 0), (0, .ptr 0 2 0 0)] → Wk 1 (tsOf 75 l) [rdO b q', .row 1 [[.nils]], .row 1 [[.sl 3 3 0 2]], .row 3 [f1.ov 4, f2.ov 5], .row 5 (insR f1.ins), .row 5 (insR f2.ins), numO [1, 0, 2, 3], numO [2, 0, 5, 1], .row 3 [[.p (.int .i64 ps), .p (.int .i64 sl), .sl 11 5 0 ((insR ins).length + 1)]], numO [6, 9, 14, 3, 1, 20], .dead, .row 5 (insR ins ++ [[.p (.int .i64 y.op), .p (.int .i64 y.a), .p (.int .i64 y.b), .p (.int .i64 y.c), .p (.int .i64 y.n)]])]
              (tsOf 75 [(6, .ptr 8 3 0 0), (5, .p (.int .i64 2)), (4, .p (.int .i64 F)), (3, .ptr 2 1 0 0), (2, .ptr 1 1 0 0), (0, .ptr 0 2 0 0)]) [rdO b q', .row 1 [[.nils]], .row 1 [[.sl 3 3 0 2]], .row 3 [f1.ov 4, f2.ov 5], .row 5 (insR f1.ins), .row 5 (insR f2.ins), numO [1, 0, 2, 3], numO [2, 0, 5, 1], .row 3 [[.p (.int .i64 ps), .p (.int .i64 sl), .sl 10 5 0 (ins ++ [y]).length]], numO [6, 9, 14, 3, 1, 20], .row 5 (insR (ins ++ [y]))] := fun y q' l hl => by
            rw [insR_snoc, len_snoc]
            exact wkt_ren [0, 1, 2, 3, 4, 5, 6, 7, 8, 9, 11] (by simp) (by decide) (by decide) (hw_ok rfl (rdO_ok _ _ _) (hw_row rfl (by simp [below]) (hw_rowr (by simp [below]) (by simp [ren, renL]) (hw_rowr (by simp [below, Mfn.ov]) (by simp [ren, renL, Mfn.ov]) (hw_row rfl (insR_pure _) (hw_row rfl (insR_pure _) (hw_ok rfl (by simp [okO, numO]) (hw_ok rfl (by simp [okO, numO]) (hw_rowr (by simp [below]) (by simp [ren, renL]) (hw_ok rfl (by simp [okO, numO]) (hw_row rfl (insA_pure _ _) hw_nil))))))))))) hl
          have fin : ∀ (y : Mins) (q' : Nat) (l : List (Nat × AV)), q' ≤ q + 290 → TWA [0, 1, 2, 3, 4, 5, 6, 7, 8, 9, 11] l [(6, .ptr 8 3 0 0), (5, .p (.int .i64 2)), (4, .p (.int .i64 F)), (3, .ptr 2 1 0 0), (2, .ptr 1 1 0 0), (0, .ptr 0 2 0 0)] →
              (((insR ins).length + 1) * 40 ≤ 140737488355328 ∧ (insR ins).length ≤ 140737488355327) ∧ ∃ s : MacS, (0 < s.ins.length ∧ s.ins.length ≤ 20 ∧ s.q ≤ q + 290) ∧ Wk 1 (tsOf 75 l) [rdO b q', .row 1 [[.nils]], .row 1 [[.sl 3 3 0 2]], .row 3 [f1.ov 4, f2.ov 5], .row 5 (insR f1.ins), .row 5 (insR f2.ins), numO [1, 0, 2, 3], numO [2, 0, 5, 1], .row 3 [[.p (.int .i64 ps), .p (.int .i64 sl), .sl 11 5 0 ((insR ins).length + 1)]], numO [6, 9, 14, 3, 1, 20], .dead, .row 5 (insR ins ++ [[.p (.int .i64 y.op), .p (.int .i64 y.a), .p (.int .i64 y.b), .p (.int .i64 y.c), .p (.int .i64 y.n)]])]
                (tsOf 75 [(6, .ptr 8 3 0 0), (5, .p (.int .i64 2)), (4, .p (.int .i64 F)), (3, .ptr 2 1 0 0), (2, .ptr 1 1 0 0), (0, .ptr 0 2 0 0)]) [rdO b s.q, .row 1 [[.nils]], .row 1 [[.sl 3 3 0 2]], .row 3 [f1.ov 4, f2.ov 5], .row 5 (insR f1.ins), .row 5 (insR f2.ins), numO [1, 0, 2, 3], numO [2, 0, 5, 1], .row 3 [[.p (.int .i64 ps), .p (.int .i64 sl), .sl 10 5 0 s.ins.length]], numO [6, 9, 14, 3, 1, 20], .row 5 (insR s.ins)] := fun y q' l hq' hl =>
            ⟨by rw [insR_len]; omega, ⟨ins ++ [y], q'⟩, ⟨by simp, by simp; omega, hq'⟩, last y q' l hl⟩
          by_cases h1N : 1 < N
          · simp -implicitDefEqProofs [h1N]
            refine (d_pickP G b hb hl q1 (by omega) 6 _).mono ?_
            rintro r h ⟨v, rfl, rfl, _⟩
            simp -implicitDefEqProofs [callR_nxt]
            refine cndb (fun hv => ?_) (fun hv => ?_)
            · simp -implicitDefEqProofs []
              refine (d_pickP G b hb hl (q1 + 1) (by omega) N _).mono ?_
              rintro r h ⟨v2, rfl, rfl, _⟩
              simp -implicitDefEqProofs [callR_nxt]
              exact fin ⟨20, 0, 0, 0, v2⟩ _ _ (by omega) (by simp [below, ren])
            · simp -implicitDefEqProofs []
              refine (d_pickP G b hb hl (q1 + 1) (by omega) 8 _).mono ?_
              rintro r h ⟨v2, rfl, rfl, _⟩
              simp -implicitDefEqProofs [callR_nxt]
              exact fin ⟨22, v2, 0, 0, 0⟩ _ _ (by omega) (by simp [below, ren])
          · simp -implicitDefEqProofs [h1N]
            refine (d_pickP G b hb hl q1 (by omega) 8 _).mono ?_
            rintro r h ⟨v2, rfl, rfl, _⟩
            simp -implicitDefEqProofs [callR_nxt]
            exact fin ⟨22, v2, 0, 0, 0⟩ _ _ (by omega) (by simp [below, ren])
        · rintro ⟨ins, q1⟩ ⟨hi1, hi2, hi3⟩
          simp only at hi1 hi2 hi3
          simp -implicitDefEqProofs []
          refine ⟨⟨[f1, f2, ⟨ps, sl, ins⟩], q1⟩, ⟨by simp; omega, ?_, by simp at h3 ⊢; omega⟩, by simp, ?_⟩
          · intro f hf
            simp only [List.mem_cons, List.not_mem_nil, or_false] at hf
            rcases hf with rfl | rfl | rfl
            · exact h2 _ (by simp)
            · exact h2 _ (by simp)
            · exact ⟨hi1, hi2⟩
          · simp only [fnsR, List.map]
            refine wkt_dup [0, 1, 2, 12, 4, 5, 10] (by simp) (by decide) ?_ (hw_ok rfl (rdO_ok _ _ _) (hw_row rfl (by simp [below]) (hw_rowr (by simp [below, slE]) (by simp [ren, renL, slE]) (hw_rowr (by simp [below, Mfn.ov]) (by simp [ren, renL, Mfn.ov]) (hw_row rfl (insR_pure _) (hw_row rfl (insR_pure _) (hw_row rfl (insR_pure _) hw_nil))))))) ?_
            · simp [lives, rdO, rowE]
            · simp [below, ren, i64_small]
    · simp -implicitDefEqProofs []
      exact ⟨[f1, f2], q, rfl, rfl, h2, by simp, by simp, by simp at h3; omega⟩
  | f1 :: f2 :: [f3], h1, h2, h3, _ =>
    have hF3 : F = 3 := by simp at h1; omega
    subst hF3
    simp -implicitDefEqProofs [MacH, fnsR]
    exact ⟨[f1, f2, f3], q, rfl, rfl, h2, by simp, by simp, by simp at h3; omega⟩
  | f1 :: f2 :: f3 :: f4 :: r, h1, h2, h3, hh => simp at hh
end Go.Proofs.YtbbobekgnclkfaaDoor
namespace Go.Proofs.YtbbobekgnclkfaaDoor
open Go Go.Aw
set_option maxRecDepth 100000
set_option maxHeartbeats 4000000
theorem renO_ins (σ : List Nat) (l : List Mins) : renO σ (.row 5 (insR l)) = .row 5 (insR l) := renO_fix (n := 0) (fun i hi => by omega) _ (insR_pure l)
theorem renO_rd (σ : List Nat) (b : List Int) (q : Nat) : renO σ (rdO b q) = rdO b q := renO_fix (n := 0) (fun i hi => by omega) _ (rdO_ok _ _ _)
theorem insR_ren (σ : List Nat) (l : List Mins) : (insR l).map (renL σ) = insR l := by
  rw [List.map_congr_left (g := id) fun e he => renL_fix (n := 0) (σ := σ) (fun i hi => by omega) e (insR_pure l e he)]; simp
/-- The heap beside a machine that was drawn. -/
def MacF (b : List Int) (q : Nat) (fs : List Mfn) : List AO := rdO b q :: .row 1 [[.nils]] :: .row 1 [[.sl 4 3 0 fs.length]] :: .row 1 [[.sl 4 3 0 fs.length]] :: .row 3 (fnsR 5 fs) :: fs.map fun f => .row 5 (insR f.ins)
variable (G : Glob)
theorem d_machF {b : List Int} (hb : Byt b) (hl : b.length ≤ 2000) : AC Tryd.prog G n_spec_l22Mach [.ptr 0 2 0 0] [rdO b 0, .row 1 [[.nils]]] fun x h => ∃ (fs : List Mfn) (q : Nat), x = .ret (.agg [.sl 4 3 0 fs.length]) ∧ h = MacF b q fs ∧ FnsOk fs ∧ 1 ≤ fs.length ∧ fs.length ≤ 3 ∧ q ≤ 2000 := by
  refine ((d_mach0 G hb hl).frame (args := [.ptr 0 2 0 0]) [0] (by simp) (by simp [below, ren]) (hw_ok rfl (rdO_ok _ _ _) hw_nil)).mono ?_
  rintro x h' ⟨x0, h2, ⟨fs, q, rfl, rfl, hf, hl1, hl3, hq⟩, _, rfl, rfl⟩
  refine ⟨fs, q, ?_, ?_, hf, hl1, hl3, hq⟩
  · match fs, hl1, hl3 with
    | [f1], _, _ => rfl
    | [f1, f2], _, _ => rfl
    | [f1, f2, f3], _, _ => rfl
  · match fs, hl1, hl3 with
    | [f1], _, _ => simp [MacE, MacF, fnsR, mrg, renO_ins, renO_rd, slE, rowE, renO, renL, ren, Mfn.ov, insR_ren]; exact renO_rd _ _ _
    | [f1, f2], _, _ => simp [MacE, MacF, fnsR, mrg, renO_ins, renO_rd, slE, rowE, renO, renL, ren, Mfn.ov, insR_ren]; exact renO_rd _ _ _
    | [f1, f2, f3], _, _ => simp [MacE, MacF, fnsR, mrg, renO_ins, renO_rd, slE, rowE, renO, renL, ren, Mfn.ov, insR_ren]; exact renO_rd _ _ _
end Go.Proofs.YtbbobekgnclkfaaDoor
namespace Go.Proofs.YtbbobekgnclkfaaDoor
open Go Go.Aw
set_option maxRecDepth 100000
set_option maxHeartbeats 4000000
/-- The functions of a machine, as they lie. -/
inductive FV (h : List AO) : List (List AV) → List Mfn → Prop where
  | nil : FV h [] []
  | cons (f : Mfn) {S : AV} {r : List (List AV)} {fs : List Mfn} : View h S (insL f.ins) → FV h r fs → FV h ([.p (.int .i64 f.params), .p (.int .i64 f.slots), S] :: r) (f :: fs)
theorem FV.len {h : List AO} : ∀ {r : List (List AV)} {fs : List Mfn}, FV h r fs → r.length = fs.length
  | _, _, .nil => rfl
  | _, _, .cons _ _ t => by simp [t.len]
theorem FV.get {h : List AO} : ∀ {r : List (List AV)} {fs : List Mfn}, FV h r fs → ∀ (i : Nat) (f : Mfn) (e : List AV), fs[i]? = some f → r[i]? = some e → ∃ S, e = [.p (.int .i64 f.params), .p (.int .i64 f.slots), S] ∧ View h S (insL f.ins)
  | _, _, .nil, i, f, e, h1, _ => by simp at h1
  | _, _, .cons g hv t, 0, f, e, h1, h2 => by
    simp at h1 h2; subst h1; subst h2; exact ⟨_, rfl, hv⟩
  | _, _, .cons g hv t, i + 1, f, e, h1, h2 => t.get i f e (by simpa using h1) (by simpa using h2)
theorem fns_view {h : List AO} {id : Nat} {es : List (List AV)} {fs : List Mfn} (he : h[id]? = some (.row 3 es)) (hv : FV h es fs) : View h (.sl id 3 0 fs.length) (fnsL fs) := by
  have hw := View.sl (h := h) id 3 0 es (fs.map Mfn.cs) he (by rw [List.length_map, hv.len]; omega) (by intro e he; obtain ⟨m, _, rfl⟩ := List.mem_map.1 he; rfl) (fun i j e q e' a h1 h2 h3 h4 => by
    rw [Nat.zero_add] at h3
    rw [List.getElem?_map, Option.map_eq_some_iff] at h1
    obtain ⟨m, hm, rfl⟩ := h1
    obtain ⟨S, rfl, hS⟩ := hv.get i m e' hm h3
    match j, h2, h4 with
    | 0, h2, h4 => cases h2; cases h4; exact .p _
    | 1, h2, h4 => cases h2; cases h4; exact .p _
    | 2, h2, h4 => cases h2; cases h4; exact hS
    | j + 3, h2, h4 => simp [Mfn.cs] at h2)
  rw [List.length_map] at hw
  exact hw
theorem ins_viewT {h : List AO} {id n : Nat} {ins : List Mins} (e : h[id]? = some (.row 5 (insR ins))) (hn : n ≤ ins.length) : View h (.sl id 5 0 n) (insL (ins.take n)) := by
  have hw := View.sl (h := h) id 5 0 (insR ins) ((ins.take n).map Mins.cs) e (by simp [insR_len]; omega) (by intro e he; obtain ⟨m, _, rfl⟩ := List.mem_map.1 he; rfl) (fun i j e q e' a h1 h2 h3 h4 => by
    rw [Nat.zero_add] at h3
    rw [List.getElem?_map, Option.map_eq_some_iff] at h1
    obtain ⟨m, hm, rfl⟩ := h1
    have hm2 : ins[i]? = some m := by
      have hi := (List.getElem?_eq_some_iff.1 hm).1
      rw [List.length_take] at hi
      rwa [List.getElem?_take_of_lt (by omega)] at hm
    rw [insR, List.getElem?_map, hm2, Option.map_some, Option.some.injEq] at h3
    subst h3
    rw [Mins.av, List.getElem?_map, h2, Option.map_some, Option.some.injEq] at h4
    subst h4; exact .p _)
  rw [List.length_map, List.length_take, Nat.min_eq_left hn] at hw
  exact hw
theorem ins_view {h : List AO} {id : Nat} {ins : List Mins} (e : h[id]? = some (.row 5 (insR ins))) : View h (.sl id 5 0 ins.length) (insL ins) := by
  have := ins_viewT e (Nat.le_refl _)
  rwa [List.take_length] at this
theorem insR_set (ins : List Mins) (i : Nat) (y : Mins) : (insR ins).set i [.p (.int .i64 y.op), .p (.int .i64 y.a), .p (.int .i64 y.b), .p (.int .i64 y.c), .p (.int .i64 y.n)] = insR (ins.set i y) := by
  rw [insR, insR, List.map_set]; rfl
theorem ins_viewS {h : List AO} {id i : Nat} {ins : List Mins} (y : Mins) (e : h[id]? = some (.row 5 ((insR ins).set i [.p (.int .i64 y.op), .p (.int .i64 y.a), .p (.int .i64 y.b), .p (.int .i64 y.c), .p (.int .i64 y.n)]))) : View h (.sl id 5 0 ins.length) (insL (ins.set i y)) := by
  rw [insR_set] at e
  have := ins_view e
  rwa [List.length_set] at this
variable (G : Glob)
def BentQ (v : AV) (q : Nat) : Prop := ∃ fs : List Mfn, v = .agg [.p (fnsL fs)] ∧ 1 ≤ fs.length ∧ fs.length ≤ 3 ∧ (∀ f ∈ fs, f.ins.length ≤ 20) ∧ q ≤ 2100
theorem bent_fin {b : List Int} {q n : Nat} {rest : List AO} {es : List (List AV)} (fs : List Mfn) (he : rest[3]? = some (.row 3 es)) (hv : FV (.dead :: rest) es fs) (hn : n = fs.length) (h1 : 1 ≤ fs.length) (h3 : fs.length ≤ 3) (hf : ∀ f ∈ fs, f.ins.length ≤ 20) (hq : q ≤ 2100) : DP b BentQ (.ret (.agg [.sl 4 3 0 n])) (rdO b q :: rest) := by
  subst hn
  exact ⟨_, rest, q, .agg [.p (fnsL fs)], rfl, rfl, .agg (.one (fns_view (by simpa using he) hv) .nil) .nil, fs, rfl, h1, h3, hf, hq⟩
theorem d_bent {b : List Int} (hb : Byt b) (hl : b.length ≤ 2000) : AC Tryd.prog G n_spec_l22Bent [.ptr 0 2 0 0] [rdO b 0] fun x h => ∃ v q, x = .ret v ∧ h = [rdO b q] ∧ BentQ v q := by
  refine d_close G (AC.go k_spec_l22Bent ?_)
  simp -implicitDefEqProofs [F_spec_l22Bent]
  refine (d_machF G hb hl).mono ?_
  rintro r h ⟨fs, q, rfl, rfl, hf, hl1, hl3, hq⟩
  match fs, hf, hl1, hl3 with
  | [f1], hf, hl1, hl3 =>
    simp -implicitDefEqProofs [callR_nxt, MacF, fnsR, Mfn.ov]
    refine (d_pickP G b hb hl q (by omega) 1 _).mono ?_
    rintro r h ⟨k, rfl, rfl, hk⟩
    have hk2 : k = 0 := by omega
    rcases hk2 with rfl
    · have hgf := hf f1 (by simp)
      simp -implicitDefEqProofs [callR_nxt]
      refine (d_pickP G b hb hl (q + 1) (by omega) f1.ins.length _).mono ?_
      rintro r h ⟨i, rfl, rfl, hi⟩
      have hi2 : i < f1.ins.length := by omega
      obtain ⟨y, hy⟩ : ∃ y, f1.ins[i]? = some y := ⟨_, List.getElem?_eq_getElem hi2⟩
      have hg : (insR f1.ins)[i]? = some [.p (.int .i64 y.op), .p (.int .i64 y.a), .p (.int .i64 y.b), .p (.int .i64 y.c), .p (.int .i64 y.n)] := by rw [insR, List.getElem?_map, hy]; rfl
      simp -implicitDefEqProofs [callR_nxt, hi2]
      refine (d_num G hb hl (p := q + 1 + 1) (by omega) [-1, 8, 64, 300, (f1.ins.length : Int), 1] (k := 7) (by simp) (by simp) (by omega) rfl rfl).mono ?_
      rintro r h ⟨bad, _, rfl, rfl⟩
      simp -implicitDefEqProofs [callR_nxt]
      refine (d_pickP G b hb hl (q + 1 + 1 + 1) (by omega) 28 _).mono ?_
      rintro r h ⟨w, rfl, rfl, _⟩
      have hwl : IntKind.i64.wrap ((f1.ins.length : Int) - 1) = ((f1.ins.length - 1 : Nat) : Int) := by rw [i64_small (by omega) (by omega)]; omega
      have hwn : 0 ≤ (f1.ins.length : Int) - 1 ∧ (f1.ins.length : Int) - 1 ≤ f1.ins.length := by omega
      simp -implicitDefEqProofs [callR_nxt]
      refine cndb (fun hc => ?_) (fun hc => ?_)
      · simp -implicitDefEqProofs []
        refine (d_pickP G b hb hl (q + 1 + 1 + 1 + 1) (by omega) 25 _).mono ?_
        rintro r h ⟨w2, rfl, rfl, _⟩
        simp -implicitDefEqProofs [callR_nxt, hg]
        exact bent_fin [⟨f1.params, f1.slots, f1.ins.set i ⟨IntKind.i64.wrap ((w2 : Int) - 1), y.a, y.b, y.c, y.n⟩⟩] rfl (.cons ⟨f1.params, f1.slots, f1.ins.set i ⟨IntKind.i64.wrap ((w2 : Int) - 1), y.a, y.b, y.c, y.n⟩⟩ (ins_viewS ⟨IntKind.i64.wrap ((w2 : Int) - 1), y.a, y.b, y.c, y.n⟩ rfl) .nil) rfl (by simp) (by simp) (fun f hm => by simp only [List.mem_cons, List.not_mem_nil, or_false] at hm; rcases hm with rfl <;> first | (simp; omega) | exact (hf _ (by simp)).2) (by omega)
      simp -implicitDefEqProofs []
      refine cndb (fun hc => ?_) (fun hc => ?_)
      · simp -implicitDefEqProofs [hg]
        exact bent_fin [⟨f1.params, f1.slots, f1.ins.set i ⟨y.op, bad, y.b, y.c, y.n⟩⟩] rfl (.cons ⟨f1.params, f1.slots, f1.ins.set i ⟨y.op, bad, y.b, y.c, y.n⟩⟩ (ins_viewS ⟨y.op, bad, y.b, y.c, y.n⟩ rfl) .nil) rfl (by simp) (by simp) (fun f hm => by simp only [List.mem_cons, List.not_mem_nil, or_false] at hm; rcases hm with rfl <;> first | (simp; omega) | exact (hf _ (by simp)).2) (by omega)
      simp -implicitDefEqProofs []
      refine cndb (fun hc => ?_) (fun hc => ?_)
      · simp -implicitDefEqProofs [hg]
        exact bent_fin [⟨f1.params, f1.slots, f1.ins.set i ⟨y.op, y.a, y.b, y.c, bad⟩⟩] rfl (.cons ⟨f1.params, f1.slots, f1.ins.set i ⟨y.op, y.a, y.b, y.c, bad⟩⟩ (ins_viewS ⟨y.op, y.a, y.b, y.c, bad⟩ rfl) .nil) rfl (by simp) (by simp) (fun f hm => by simp only [List.mem_cons, List.not_mem_nil, or_false] at hm; rcases hm with rfl <;> first | (simp; omega) | exact (hf _ (by simp)).2) (by omega)
      simp -implicitDefEqProofs []
      refine cndb (fun hc => ?_) (fun hc => ?_)
      · simp -implicitDefEqProofs [hg]
        exact bent_fin [⟨f1.params, f1.slots, f1.ins.set i ⟨y.op, y.a, y.b, bad, y.n⟩⟩] rfl (.cons ⟨f1.params, f1.slots, f1.ins.set i ⟨y.op, y.a, y.b, bad, y.n⟩⟩ (ins_viewS ⟨y.op, y.a, y.b, bad, y.n⟩ rfl) .nil) rfl (by simp) (by simp) (fun f hm => by simp only [List.mem_cons, List.not_mem_nil, or_false] at hm; rcases hm with rfl <;> first | (simp; omega) | exact (hf _ (by simp)).2) (by omega)
      simp -implicitDefEqProofs []
      refine cndb (fun hc => ?_) (fun hc => ?_)
      · simp -implicitDefEqProofs []
        refine (d_num G hb hl (p := q + 1 + 1 + 1 + 1) (by omega) [65, -1, 0, 64] (k := 8) (by simp) (by simp) (by omega) rfl rfl).mono ?_
        rintro r h ⟨w2, _, rfl, rfl⟩
        simp -implicitDefEqProofs [callR_nxt]
        exact bent_fin [⟨f1.params, w2, f1.ins⟩] rfl (.cons ⟨f1.params, w2, f1.ins⟩ (ins_view rfl) .nil) rfl (by simp) (by simp) (fun f hm => by simp only [List.mem_cons, List.not_mem_nil, or_false] at hm; rcases hm with rfl <;> first | (simp; omega) | exact (hf _ (by simp)).2) (by omega)
      simp -implicitDefEqProofs []
      refine cndb (fun hc => ?_) (fun hc => ?_)
      · simp -implicitDefEqProofs [hwl]
        exact bent_fin [⟨f1.params, f1.slots, f1.ins.take (f1.ins.length - 1)⟩] rfl (.cons ⟨f1.params, f1.slots, f1.ins.take (f1.ins.length - 1)⟩ (ins_viewT rfl (by omega)) .nil) rfl (by simp) (by simp) (fun f hm => by simp only [List.mem_cons, List.not_mem_nil, or_false] at hm; rcases hm with rfl <;> first | (simp; omega) | exact (hf _ (by simp)).2) (by omega)
      simp -implicitDefEqProofs []
      refine cndb (fun hc => ?_) (fun hc => ?_)
      · simp -implicitDefEqProofs []
        refine (d_num G hb hl (p := q + 1 + 1 + 1 + 1) (by omega) [4, -1, 0] (k := 8) (by simp) (by simp) (by omega) rfl rfl).mono ?_
        rintro r h ⟨w2, _, rfl, rfl⟩
        simp -implicitDefEqProofs [callR_nxt]
        exact bent_fin [⟨w2, f1.slots, f1.ins⟩] rfl (.cons ⟨w2, f1.slots, f1.ins⟩ (ins_view rfl) .nil) rfl (by simp) (by simp) (fun f hm => by simp only [List.mem_cons, List.not_mem_nil, or_false] at hm; rcases hm with rfl <;> first | (simp; omega) | exact (hf _ (by simp)).2) (by omega)
      simp -implicitDefEqProofs []
      exact bent_fin [f1] rfl (.cons f1 (ins_view rfl) .nil) rfl (by simp) (by simp) (fun f hm => by simp only [List.mem_cons, List.not_mem_nil, or_false] at hm; rcases hm with rfl <;> first | (simp; omega) | exact (hf _ (by simp)).2) (by omega)
  | [f1, f2], hf, hl1, hl3 =>
    simp -implicitDefEqProofs [callR_nxt, MacF, fnsR, Mfn.ov]
    refine (d_pickP G b hb hl q (by omega) 2 _).mono ?_
    rintro r h ⟨k, rfl, rfl, hk⟩
    have hk2 : k = 0 ∨ k = 1 := by omega
    rcases hk2 with rfl | rfl
    · have hgf := hf f1 (by simp)
      simp -implicitDefEqProofs [callR_nxt]
      refine (d_pickP G b hb hl (q + 1) (by omega) f1.ins.length _).mono ?_
      rintro r h ⟨i, rfl, rfl, hi⟩
      have hi2 : i < f1.ins.length := by omega
      obtain ⟨y, hy⟩ : ∃ y, f1.ins[i]? = some y := ⟨_, List.getElem?_eq_getElem hi2⟩
      have hg : (insR f1.ins)[i]? = some [.p (.int .i64 y.op), .p (.int .i64 y.a), .p (.int .i64 y.b), .p (.int .i64 y.c), .p (.int .i64 y.n)] := by rw [insR, List.getElem?_map, hy]; rfl
      simp -implicitDefEqProofs [callR_nxt, hi2]
      refine (d_num G hb hl (p := q + 1 + 1) (by omega) [-1, 8, 64, 300, (f1.ins.length : Int), 1] (k := 8) (by simp) (by simp) (by omega) rfl rfl).mono ?_
      rintro r h ⟨bad, _, rfl, rfl⟩
      simp -implicitDefEqProofs [callR_nxt]
      refine (d_pickP G b hb hl (q + 1 + 1 + 1) (by omega) 28 _).mono ?_
      rintro r h ⟨w, rfl, rfl, _⟩
      have hwl : IntKind.i64.wrap ((f1.ins.length : Int) - 1) = ((f1.ins.length - 1 : Nat) : Int) := by rw [i64_small (by omega) (by omega)]; omega
      have hwn : 0 ≤ (f1.ins.length : Int) - 1 ∧ (f1.ins.length : Int) - 1 ≤ f1.ins.length := by omega
      simp -implicitDefEqProofs [callR_nxt]
      refine cndb (fun hc => ?_) (fun hc => ?_)
      · simp -implicitDefEqProofs []
        refine (d_pickP G b hb hl (q + 1 + 1 + 1 + 1) (by omega) 25 _).mono ?_
        rintro r h ⟨w2, rfl, rfl, _⟩
        simp -implicitDefEqProofs [callR_nxt, hg]
        exact bent_fin [⟨f1.params, f1.slots, f1.ins.set i ⟨IntKind.i64.wrap ((w2 : Int) - 1), y.a, y.b, y.c, y.n⟩⟩, f2] rfl (.cons ⟨f1.params, f1.slots, f1.ins.set i ⟨IntKind.i64.wrap ((w2 : Int) - 1), y.a, y.b, y.c, y.n⟩⟩ (ins_viewS ⟨IntKind.i64.wrap ((w2 : Int) - 1), y.a, y.b, y.c, y.n⟩ rfl) (.cons f2 (ins_view rfl) .nil)) rfl (by simp) (by simp) (fun f hm => by simp only [List.mem_cons, List.not_mem_nil, or_false] at hm; rcases hm with rfl | rfl <;> first | (simp; omega) | exact (hf _ (by simp)).2) (by omega)
      simp -implicitDefEqProofs []
      refine cndb (fun hc => ?_) (fun hc => ?_)
      · simp -implicitDefEqProofs [hg]
        exact bent_fin [⟨f1.params, f1.slots, f1.ins.set i ⟨y.op, bad, y.b, y.c, y.n⟩⟩, f2] rfl (.cons ⟨f1.params, f1.slots, f1.ins.set i ⟨y.op, bad, y.b, y.c, y.n⟩⟩ (ins_viewS ⟨y.op, bad, y.b, y.c, y.n⟩ rfl) (.cons f2 (ins_view rfl) .nil)) rfl (by simp) (by simp) (fun f hm => by simp only [List.mem_cons, List.not_mem_nil, or_false] at hm; rcases hm with rfl | rfl <;> first | (simp; omega) | exact (hf _ (by simp)).2) (by omega)
      simp -implicitDefEqProofs []
      refine cndb (fun hc => ?_) (fun hc => ?_)
      · simp -implicitDefEqProofs [hg]
        exact bent_fin [⟨f1.params, f1.slots, f1.ins.set i ⟨y.op, y.a, y.b, y.c, bad⟩⟩, f2] rfl (.cons ⟨f1.params, f1.slots, f1.ins.set i ⟨y.op, y.a, y.b, y.c, bad⟩⟩ (ins_viewS ⟨y.op, y.a, y.b, y.c, bad⟩ rfl) (.cons f2 (ins_view rfl) .nil)) rfl (by simp) (by simp) (fun f hm => by simp only [List.mem_cons, List.not_mem_nil, or_false] at hm; rcases hm with rfl | rfl <;> first | (simp; omega) | exact (hf _ (by simp)).2) (by omega)
      simp -implicitDefEqProofs []
      refine cndb (fun hc => ?_) (fun hc => ?_)
      · simp -implicitDefEqProofs [hg]
        exact bent_fin [⟨f1.params, f1.slots, f1.ins.set i ⟨y.op, y.a, y.b, bad, y.n⟩⟩, f2] rfl (.cons ⟨f1.params, f1.slots, f1.ins.set i ⟨y.op, y.a, y.b, bad, y.n⟩⟩ (ins_viewS ⟨y.op, y.a, y.b, bad, y.n⟩ rfl) (.cons f2 (ins_view rfl) .nil)) rfl (by simp) (by simp) (fun f hm => by simp only [List.mem_cons, List.not_mem_nil, or_false] at hm; rcases hm with rfl | rfl <;> first | (simp; omega) | exact (hf _ (by simp)).2) (by omega)
      simp -implicitDefEqProofs []
      refine cndb (fun hc => ?_) (fun hc => ?_)
      · simp -implicitDefEqProofs []
        refine (d_num G hb hl (p := q + 1 + 1 + 1 + 1) (by omega) [65, -1, 0, 64] (k := 9) (by simp) (by simp) (by omega) rfl rfl).mono ?_
        rintro r h ⟨w2, _, rfl, rfl⟩
        simp -implicitDefEqProofs [callR_nxt]
        exact bent_fin [⟨f1.params, w2, f1.ins⟩, f2] rfl (.cons ⟨f1.params, w2, f1.ins⟩ (ins_view rfl) (.cons f2 (ins_view rfl) .nil)) rfl (by simp) (by simp) (fun f hm => by simp only [List.mem_cons, List.not_mem_nil, or_false] at hm; rcases hm with rfl | rfl <;> first | (simp; omega) | exact (hf _ (by simp)).2) (by omega)
      simp -implicitDefEqProofs []
      refine cndb (fun hc => ?_) (fun hc => ?_)
      · simp -implicitDefEqProofs [hwl]
        exact bent_fin [⟨f1.params, f1.slots, f1.ins.take (f1.ins.length - 1)⟩, f2] rfl (.cons ⟨f1.params, f1.slots, f1.ins.take (f1.ins.length - 1)⟩ (ins_viewT rfl (by omega)) (.cons f2 (ins_view rfl) .nil)) rfl (by simp) (by simp) (fun f hm => by simp only [List.mem_cons, List.not_mem_nil, or_false] at hm; rcases hm with rfl | rfl <;> first | (simp; omega) | exact (hf _ (by simp)).2) (by omega)
      simp -implicitDefEqProofs []
      refine cndb (fun hc => ?_) (fun hc => ?_)
      · simp -implicitDefEqProofs []
        refine (d_num G hb hl (p := q + 1 + 1 + 1 + 1) (by omega) [4, -1, 0] (k := 9) (by simp) (by simp) (by omega) rfl rfl).mono ?_
        rintro r h ⟨w2, _, rfl, rfl⟩
        simp -implicitDefEqProofs [callR_nxt]
        exact bent_fin [⟨w2, f1.slots, f1.ins⟩, f2] rfl (.cons ⟨w2, f1.slots, f1.ins⟩ (ins_view rfl) (.cons f2 (ins_view rfl) .nil)) rfl (by simp) (by simp) (fun f hm => by simp only [List.mem_cons, List.not_mem_nil, or_false] at hm; rcases hm with rfl | rfl <;> first | (simp; omega) | exact (hf _ (by simp)).2) (by omega)
      simp -implicitDefEqProofs []
      exact bent_fin [f1, f2] rfl (.cons f1 (ins_view rfl) (.cons f2 (ins_view rfl) .nil)) rfl (by simp) (by simp) (fun f hm => by simp only [List.mem_cons, List.not_mem_nil, or_false] at hm; rcases hm with rfl | rfl <;> first | (simp; omega) | exact (hf _ (by simp)).2) (by omega)
    · have hgf := hf f2 (by simp)
      simp -implicitDefEqProofs [callR_nxt]
      refine (d_pickP G b hb hl (q + 1) (by omega) f2.ins.length _).mono ?_
      rintro r h ⟨i, rfl, rfl, hi⟩
      have hi2 : i < f2.ins.length := by omega
      obtain ⟨y, hy⟩ : ∃ y, f2.ins[i]? = some y := ⟨_, List.getElem?_eq_getElem hi2⟩
      have hg : (insR f2.ins)[i]? = some [.p (.int .i64 y.op), .p (.int .i64 y.a), .p (.int .i64 y.b), .p (.int .i64 y.c), .p (.int .i64 y.n)] := by rw [insR, List.getElem?_map, hy]; rfl
      simp -implicitDefEqProofs [callR_nxt, hi2]
      refine (d_num G hb hl (p := q + 1 + 1) (by omega) [-1, 8, 64, 300, (f2.ins.length : Int), 1] (k := 8) (by simp) (by simp) (by omega) rfl rfl).mono ?_
      rintro r h ⟨bad, _, rfl, rfl⟩
      simp -implicitDefEqProofs [callR_nxt]
      refine (d_pickP G b hb hl (q + 1 + 1 + 1) (by omega) 28 _).mono ?_
      rintro r h ⟨w, rfl, rfl, _⟩
      have hwl : IntKind.i64.wrap ((f2.ins.length : Int) - 1) = ((f2.ins.length - 1 : Nat) : Int) := by rw [i64_small (by omega) (by omega)]; omega
      have hwn : 0 ≤ (f2.ins.length : Int) - 1 ∧ (f2.ins.length : Int) - 1 ≤ f2.ins.length := by omega
      simp -implicitDefEqProofs [callR_nxt]
      refine cndb (fun hc => ?_) (fun hc => ?_)
      · simp -implicitDefEqProofs []
        refine (d_pickP G b hb hl (q + 1 + 1 + 1 + 1) (by omega) 25 _).mono ?_
        rintro r h ⟨w2, rfl, rfl, _⟩
        simp -implicitDefEqProofs [callR_nxt, hg]
        exact bent_fin [f1, ⟨f2.params, f2.slots, f2.ins.set i ⟨IntKind.i64.wrap ((w2 : Int) - 1), y.a, y.b, y.c, y.n⟩⟩] rfl (.cons f1 (ins_view rfl) (.cons ⟨f2.params, f2.slots, f2.ins.set i ⟨IntKind.i64.wrap ((w2 : Int) - 1), y.a, y.b, y.c, y.n⟩⟩ (ins_viewS ⟨IntKind.i64.wrap ((w2 : Int) - 1), y.a, y.b, y.c, y.n⟩ rfl) .nil)) rfl (by simp) (by simp) (fun f hm => by simp only [List.mem_cons, List.not_mem_nil, or_false] at hm; rcases hm with rfl | rfl <;> first | (simp; omega) | exact (hf _ (by simp)).2) (by omega)
      simp -implicitDefEqProofs []
      refine cndb (fun hc => ?_) (fun hc => ?_)
      · simp -implicitDefEqProofs [hg]
        exact bent_fin [f1, ⟨f2.params, f2.slots, f2.ins.set i ⟨y.op, bad, y.b, y.c, y.n⟩⟩] rfl (.cons f1 (ins_view rfl) (.cons ⟨f2.params, f2.slots, f2.ins.set i ⟨y.op, bad, y.b, y.c, y.n⟩⟩ (ins_viewS ⟨y.op, bad, y.b, y.c, y.n⟩ rfl) .nil)) rfl (by simp) (by simp) (fun f hm => by simp only [List.mem_cons, List.not_mem_nil, or_false] at hm; rcases hm with rfl | rfl <;> first | (simp; omega) | exact (hf _ (by simp)).2) (by omega)
      simp -implicitDefEqProofs []
      refine cndb (fun hc => ?_) (fun hc => ?_)
      · simp -implicitDefEqProofs [hg]
        exact bent_fin [f1, ⟨f2.params, f2.slots, f2.ins.set i ⟨y.op, y.a, y.b, y.c, bad⟩⟩] rfl (.cons f1 (ins_view rfl) (.cons ⟨f2.params, f2.slots, f2.ins.set i ⟨y.op, y.a, y.b, y.c, bad⟩⟩ (ins_viewS ⟨y.op, y.a, y.b, y.c, bad⟩ rfl) .nil)) rfl (by simp) (by simp) (fun f hm => by simp only [List.mem_cons, List.not_mem_nil, or_false] at hm; rcases hm with rfl | rfl <;> first | (simp; omega) | exact (hf _ (by simp)).2) (by omega)
      simp -implicitDefEqProofs []
      refine cndb (fun hc => ?_) (fun hc => ?_)
      · simp -implicitDefEqProofs [hg]
        exact bent_fin [f1, ⟨f2.params, f2.slots, f2.ins.set i ⟨y.op, y.a, y.b, bad, y.n⟩⟩] rfl (.cons f1 (ins_view rfl) (.cons ⟨f2.params, f2.slots, f2.ins.set i ⟨y.op, y.a, y.b, bad, y.n⟩⟩ (ins_viewS ⟨y.op, y.a, y.b, bad, y.n⟩ rfl) .nil)) rfl (by simp) (by simp) (fun f hm => by simp only [List.mem_cons, List.not_mem_nil, or_false] at hm; rcases hm with rfl | rfl <;> first | (simp; omega) | exact (hf _ (by simp)).2) (by omega)
      simp -implicitDefEqProofs []
      refine cndb (fun hc => ?_) (fun hc => ?_)
      · simp -implicitDefEqProofs []
        refine (d_num G hb hl (p := q + 1 + 1 + 1 + 1) (by omega) [65, -1, 0, 64] (k := 9) (by simp) (by simp) (by omega) rfl rfl).mono ?_
        rintro r h ⟨w2, _, rfl, rfl⟩
        simp -implicitDefEqProofs [callR_nxt]
        exact bent_fin [f1, ⟨f2.params, w2, f2.ins⟩] rfl (.cons f1 (ins_view rfl) (.cons ⟨f2.params, w2, f2.ins⟩ (ins_view rfl) .nil)) rfl (by simp) (by simp) (fun f hm => by simp only [List.mem_cons, List.not_mem_nil, or_false] at hm; rcases hm with rfl | rfl <;> first | (simp; omega) | exact (hf _ (by simp)).2) (by omega)
      simp -implicitDefEqProofs []
      refine cndb (fun hc => ?_) (fun hc => ?_)
      · simp -implicitDefEqProofs [hwl]
        exact bent_fin [f1, ⟨f2.params, f2.slots, f2.ins.take (f2.ins.length - 1)⟩] rfl (.cons f1 (ins_view rfl) (.cons ⟨f2.params, f2.slots, f2.ins.take (f2.ins.length - 1)⟩ (ins_viewT rfl (by omega)) .nil)) rfl (by simp) (by simp) (fun f hm => by simp only [List.mem_cons, List.not_mem_nil, or_false] at hm; rcases hm with rfl | rfl <;> first | (simp; omega) | exact (hf _ (by simp)).2) (by omega)
      simp -implicitDefEqProofs []
      refine cndb (fun hc => ?_) (fun hc => ?_)
      · simp -implicitDefEqProofs []
        refine (d_num G hb hl (p := q + 1 + 1 + 1 + 1) (by omega) [4, -1, 0] (k := 9) (by simp) (by simp) (by omega) rfl rfl).mono ?_
        rintro r h ⟨w2, _, rfl, rfl⟩
        simp -implicitDefEqProofs [callR_nxt]
        exact bent_fin [f1, ⟨w2, f2.slots, f2.ins⟩] rfl (.cons f1 (ins_view rfl) (.cons ⟨w2, f2.slots, f2.ins⟩ (ins_view rfl) .nil)) rfl (by simp) (by simp) (fun f hm => by simp only [List.mem_cons, List.not_mem_nil, or_false] at hm; rcases hm with rfl | rfl <;> first | (simp; omega) | exact (hf _ (by simp)).2) (by omega)
      simp -implicitDefEqProofs []
      exact bent_fin [f1, f2] rfl (.cons f1 (ins_view rfl) (.cons f2 (ins_view rfl) .nil)) rfl (by simp) (by simp) (fun f hm => by simp only [List.mem_cons, List.not_mem_nil, or_false] at hm; rcases hm with rfl | rfl <;> first | (simp; omega) | exact (hf _ (by simp)).2) (by omega)
  | [f1, f2, f3], hf, hl1, hl3 =>
    simp -implicitDefEqProofs [callR_nxt, MacF, fnsR, Mfn.ov]
    refine (d_pickP G b hb hl q (by omega) 3 _).mono ?_
    rintro r h ⟨k, rfl, rfl, hk⟩
    have hk2 : k = 0 ∨ k = 1 ∨ k = 2 := by omega
    rcases hk2 with rfl | rfl | rfl
    · have hgf := hf f1 (by simp)
      simp -implicitDefEqProofs [callR_nxt]
      refine (d_pickP G b hb hl (q + 1) (by omega) f1.ins.length _).mono ?_
      rintro r h ⟨i, rfl, rfl, hi⟩
      have hi2 : i < f1.ins.length := by omega
      obtain ⟨y, hy⟩ : ∃ y, f1.ins[i]? = some y := ⟨_, List.getElem?_eq_getElem hi2⟩
      have hg : (insR f1.ins)[i]? = some [.p (.int .i64 y.op), .p (.int .i64 y.a), .p (.int .i64 y.b), .p (.int .i64 y.c), .p (.int .i64 y.n)] := by rw [insR, List.getElem?_map, hy]; rfl
      simp -implicitDefEqProofs [callR_nxt, hi2]
      refine (d_num G hb hl (p := q + 1 + 1) (by omega) [-1, 8, 64, 300, (f1.ins.length : Int), 1] (k := 9) (by simp) (by simp) (by omega) rfl rfl).mono ?_
      rintro r h ⟨bad, _, rfl, rfl⟩
      simp -implicitDefEqProofs [callR_nxt]
      refine (d_pickP G b hb hl (q + 1 + 1 + 1) (by omega) 28 _).mono ?_
      rintro r h ⟨w, rfl, rfl, _⟩
      have hwl : IntKind.i64.wrap ((f1.ins.length : Int) - 1) = ((f1.ins.length - 1 : Nat) : Int) := by rw [i64_small (by omega) (by omega)]; omega
      have hwn : 0 ≤ (f1.ins.length : Int) - 1 ∧ (f1.ins.length : Int) - 1 ≤ f1.ins.length := by omega
      simp -implicitDefEqProofs [callR_nxt]
      refine cndb (fun hc => ?_) (fun hc => ?_)
      · simp -implicitDefEqProofs []
        refine (d_pickP G b hb hl (q + 1 + 1 + 1 + 1) (by omega) 25 _).mono ?_
        rintro r h ⟨w2, rfl, rfl, _⟩
        simp -implicitDefEqProofs [callR_nxt, hg]
        exact bent_fin [⟨f1.params, f1.slots, f1.ins.set i ⟨IntKind.i64.wrap ((w2 : Int) - 1), y.a, y.b, y.c, y.n⟩⟩, f2, f3] rfl (.cons ⟨f1.params, f1.slots, f1.ins.set i ⟨IntKind.i64.wrap ((w2 : Int) - 1), y.a, y.b, y.c, y.n⟩⟩ (ins_viewS ⟨IntKind.i64.wrap ((w2 : Int) - 1), y.a, y.b, y.c, y.n⟩ rfl) (.cons f2 (ins_view rfl) (.cons f3 (ins_view rfl) .nil))) rfl (by simp) (by simp) (fun f hm => by simp only [List.mem_cons, List.not_mem_nil, or_false] at hm; rcases hm with rfl | rfl | rfl <;> first | (simp; omega) | exact (hf _ (by simp)).2) (by omega)
      simp -implicitDefEqProofs []
      refine cndb (fun hc => ?_) (fun hc => ?_)
      · simp -implicitDefEqProofs [hg]
        exact bent_fin [⟨f1.params, f1.slots, f1.ins.set i ⟨y.op, bad, y.b, y.c, y.n⟩⟩, f2, f3] rfl (.cons ⟨f1.params, f1.slots, f1.ins.set i ⟨y.op, bad, y.b, y.c, y.n⟩⟩ (ins_viewS ⟨y.op, bad, y.b, y.c, y.n⟩ rfl) (.cons f2 (ins_view rfl) (.cons f3 (ins_view rfl) .nil))) rfl (by simp) (by simp) (fun f hm => by simp only [List.mem_cons, List.not_mem_nil, or_false] at hm; rcases hm with rfl | rfl | rfl <;> first | (simp; omega) | exact (hf _ (by simp)).2) (by omega)
      simp -implicitDefEqProofs []
      refine cndb (fun hc => ?_) (fun hc => ?_)
      · simp -implicitDefEqProofs [hg]
        exact bent_fin [⟨f1.params, f1.slots, f1.ins.set i ⟨y.op, y.a, y.b, y.c, bad⟩⟩, f2, f3] rfl (.cons ⟨f1.params, f1.slots, f1.ins.set i ⟨y.op, y.a, y.b, y.c, bad⟩⟩ (ins_viewS ⟨y.op, y.a, y.b, y.c, bad⟩ rfl) (.cons f2 (ins_view rfl) (.cons f3 (ins_view rfl) .nil))) rfl (by simp) (by simp) (fun f hm => by simp only [List.mem_cons, List.not_mem_nil, or_false] at hm; rcases hm with rfl | rfl | rfl <;> first | (simp; omega) | exact (hf _ (by simp)).2) (by omega)
      simp -implicitDefEqProofs []
      refine cndb (fun hc => ?_) (fun hc => ?_)
      · simp -implicitDefEqProofs [hg]
        exact bent_fin [⟨f1.params, f1.slots, f1.ins.set i ⟨y.op, y.a, y.b, bad, y.n⟩⟩, f2, f3] rfl (.cons ⟨f1.params, f1.slots, f1.ins.set i ⟨y.op, y.a, y.b, bad, y.n⟩⟩ (ins_viewS ⟨y.op, y.a, y.b, bad, y.n⟩ rfl) (.cons f2 (ins_view rfl) (.cons f3 (ins_view rfl) .nil))) rfl (by simp) (by simp) (fun f hm => by simp only [List.mem_cons, List.not_mem_nil, or_false] at hm; rcases hm with rfl | rfl | rfl <;> first | (simp; omega) | exact (hf _ (by simp)).2) (by omega)
      simp -implicitDefEqProofs []
      refine cndb (fun hc => ?_) (fun hc => ?_)
      · simp -implicitDefEqProofs []
        refine (d_num G hb hl (p := q + 1 + 1 + 1 + 1) (by omega) [65, -1, 0, 64] (k := 10) (by simp) (by simp) (by omega) rfl rfl).mono ?_
        rintro r h ⟨w2, _, rfl, rfl⟩
        simp -implicitDefEqProofs [callR_nxt]
        exact bent_fin [⟨f1.params, w2, f1.ins⟩, f2, f3] rfl (.cons ⟨f1.params, w2, f1.ins⟩ (ins_view rfl) (.cons f2 (ins_view rfl) (.cons f3 (ins_view rfl) .nil))) rfl (by simp) (by simp) (fun f hm => by simp only [List.mem_cons, List.not_mem_nil, or_false] at hm; rcases hm with rfl | rfl | rfl <;> first | (simp; omega) | exact (hf _ (by simp)).2) (by omega)
      simp -implicitDefEqProofs []
      refine cndb (fun hc => ?_) (fun hc => ?_)
      · simp -implicitDefEqProofs [hwl]
        exact bent_fin [⟨f1.params, f1.slots, f1.ins.take (f1.ins.length - 1)⟩, f2, f3] rfl (.cons ⟨f1.params, f1.slots, f1.ins.take (f1.ins.length - 1)⟩ (ins_viewT rfl (by omega)) (.cons f2 (ins_view rfl) (.cons f3 (ins_view rfl) .nil))) rfl (by simp) (by simp) (fun f hm => by simp only [List.mem_cons, List.not_mem_nil, or_false] at hm; rcases hm with rfl | rfl | rfl <;> first | (simp; omega) | exact (hf _ (by simp)).2) (by omega)
      simp -implicitDefEqProofs []
      refine cndb (fun hc => ?_) (fun hc => ?_)
      · simp -implicitDefEqProofs []
        refine (d_num G hb hl (p := q + 1 + 1 + 1 + 1) (by omega) [4, -1, 0] (k := 10) (by simp) (by simp) (by omega) rfl rfl).mono ?_
        rintro r h ⟨w2, _, rfl, rfl⟩
        simp -implicitDefEqProofs [callR_nxt]
        exact bent_fin [⟨w2, f1.slots, f1.ins⟩, f2, f3] rfl (.cons ⟨w2, f1.slots, f1.ins⟩ (ins_view rfl) (.cons f2 (ins_view rfl) (.cons f3 (ins_view rfl) .nil))) rfl (by simp) (by simp) (fun f hm => by simp only [List.mem_cons, List.not_mem_nil, or_false] at hm; rcases hm with rfl | rfl | rfl <;> first | (simp; omega) | exact (hf _ (by simp)).2) (by omega)
      simp -implicitDefEqProofs []
      exact bent_fin [f1, f2, f3] rfl (.cons f1 (ins_view rfl) (.cons f2 (ins_view rfl) (.cons f3 (ins_view rfl) .nil))) rfl (by simp) (by simp) (fun f hm => by simp only [List.mem_cons, List.not_mem_nil, or_false] at hm; rcases hm with rfl | rfl | rfl <;> first | (simp; omega) | exact (hf _ (by simp)).2) (by omega)
    · have hgf := hf f2 (by simp)
      simp -implicitDefEqProofs [callR_nxt]
      refine (d_pickP G b hb hl (q + 1) (by omega) f2.ins.length _).mono ?_
      rintro r h ⟨i, rfl, rfl, hi⟩
      have hi2 : i < f2.ins.length := by omega
      obtain ⟨y, hy⟩ : ∃ y, f2.ins[i]? = some y := ⟨_, List.getElem?_eq_getElem hi2⟩
      have hg : (insR f2.ins)[i]? = some [.p (.int .i64 y.op), .p (.int .i64 y.a), .p (.int .i64 y.b), .p (.int .i64 y.c), .p (.int .i64 y.n)] := by rw [insR, List.getElem?_map, hy]; rfl
      simp -implicitDefEqProofs [callR_nxt, hi2]
      refine (d_num G hb hl (p := q + 1 + 1) (by omega) [-1, 8, 64, 300, (f2.ins.length : Int), 1] (k := 9) (by simp) (by simp) (by omega) rfl rfl).mono ?_
      rintro r h ⟨bad, _, rfl, rfl⟩
      simp -implicitDefEqProofs [callR_nxt]
      refine (d_pickP G b hb hl (q + 1 + 1 + 1) (by omega) 28 _).mono ?_
      rintro r h ⟨w, rfl, rfl, _⟩
      have hwl : IntKind.i64.wrap ((f2.ins.length : Int) - 1) = ((f2.ins.length - 1 : Nat) : Int) := by rw [i64_small (by omega) (by omega)]; omega
      have hwn : 0 ≤ (f2.ins.length : Int) - 1 ∧ (f2.ins.length : Int) - 1 ≤ f2.ins.length := by omega
      simp -implicitDefEqProofs [callR_nxt]
      refine cndb (fun hc => ?_) (fun hc => ?_)
      · simp -implicitDefEqProofs []
        refine (d_pickP G b hb hl (q + 1 + 1 + 1 + 1) (by omega) 25 _).mono ?_
        rintro r h ⟨w2, rfl, rfl, _⟩
        simp -implicitDefEqProofs [callR_nxt, hg]
        exact bent_fin [f1, ⟨f2.params, f2.slots, f2.ins.set i ⟨IntKind.i64.wrap ((w2 : Int) - 1), y.a, y.b, y.c, y.n⟩⟩, f3] rfl (.cons f1 (ins_view rfl) (.cons ⟨f2.params, f2.slots, f2.ins.set i ⟨IntKind.i64.wrap ((w2 : Int) - 1), y.a, y.b, y.c, y.n⟩⟩ (ins_viewS ⟨IntKind.i64.wrap ((w2 : Int) - 1), y.a, y.b, y.c, y.n⟩ rfl) (.cons f3 (ins_view rfl) .nil))) rfl (by simp) (by simp) (fun f hm => by simp only [List.mem_cons, List.not_mem_nil, or_false] at hm; rcases hm with rfl | rfl | rfl <;> first | (simp; omega) | exact (hf _ (by simp)).2) (by omega)
      simp -implicitDefEqProofs []
      refine cndb (fun hc => ?_) (fun hc => ?_)
      · simp -implicitDefEqProofs [hg]
        exact bent_fin [f1, ⟨f2.params, f2.slots, f2.ins.set i ⟨y.op, bad, y.b, y.c, y.n⟩⟩, f3] rfl (.cons f1 (ins_view rfl) (.cons ⟨f2.params, f2.slots, f2.ins.set i ⟨y.op, bad, y.b, y.c, y.n⟩⟩ (ins_viewS ⟨y.op, bad, y.b, y.c, y.n⟩ rfl) (.cons f3 (ins_view rfl) .nil))) rfl (by simp) (by simp) (fun f hm => by simp only [List.mem_cons, List.not_mem_nil, or_false] at hm; rcases hm with rfl | rfl | rfl <;> first | (simp; omega) | exact (hf _ (by simp)).2) (by omega)
      simp -implicitDefEqProofs []
      refine cndb (fun hc => ?_) (fun hc => ?_)
      · simp -implicitDefEqProofs [hg]
        exact bent_fin [f1, ⟨f2.params, f2.slots, f2.ins.set i ⟨y.op, y.a, y.b, y.c, bad⟩⟩, f3] rfl (.cons f1 (ins_view rfl) (.cons ⟨f2.params, f2.slots, f2.ins.set i ⟨y.op, y.a, y.b, y.c, bad⟩⟩ (ins_viewS ⟨y.op, y.a, y.b, y.c, bad⟩ rfl) (.cons f3 (ins_view rfl) .nil))) rfl (by simp) (by simp) (fun f hm => by simp only [List.mem_cons, List.not_mem_nil, or_false] at hm; rcases hm with rfl | rfl | rfl <;> first | (simp; omega) | exact (hf _ (by simp)).2) (by omega)
      simp -implicitDefEqProofs []
      refine cndb (fun hc => ?_) (fun hc => ?_)
      · simp -implicitDefEqProofs [hg]
        exact bent_fin [f1, ⟨f2.params, f2.slots, f2.ins.set i ⟨y.op, y.a, y.b, bad, y.n⟩⟩, f3] rfl (.cons f1 (ins_view rfl) (.cons ⟨f2.params, f2.slots, f2.ins.set i ⟨y.op, y.a, y.b, bad, y.n⟩⟩ (ins_viewS ⟨y.op, y.a, y.b, bad, y.n⟩ rfl) (.cons f3 (ins_view rfl) .nil))) rfl (by simp) (by simp) (fun f hm => by simp only [List.mem_cons, List.not_mem_nil, or_false] at hm; rcases hm with rfl | rfl | rfl <;> first | (simp; omega) | exact (hf _ (by simp)).2) (by omega)
      simp -implicitDefEqProofs []
      refine cndb (fun hc => ?_) (fun hc => ?_)
      · simp -implicitDefEqProofs []
        refine (d_num G hb hl (p := q + 1 + 1 + 1 + 1) (by omega) [65, -1, 0, 64] (k := 10) (by simp) (by simp) (by omega) rfl rfl).mono ?_
        rintro r h ⟨w2, _, rfl, rfl⟩
        simp -implicitDefEqProofs [callR_nxt]
        exact bent_fin [f1, ⟨f2.params, w2, f2.ins⟩, f3] rfl (.cons f1 (ins_view rfl) (.cons ⟨f2.params, w2, f2.ins⟩ (ins_view rfl) (.cons f3 (ins_view rfl) .nil))) rfl (by simp) (by simp) (fun f hm => by simp only [List.mem_cons, List.not_mem_nil, or_false] at hm; rcases hm with rfl | rfl | rfl <;> first | (simp; omega) | exact (hf _ (by simp)).2) (by omega)
      simp -implicitDefEqProofs []
      refine cndb (fun hc => ?_) (fun hc => ?_)
      · simp -implicitDefEqProofs [hwl]
        exact bent_fin [f1, ⟨f2.params, f2.slots, f2.ins.take (f2.ins.length - 1)⟩, f3] rfl (.cons f1 (ins_view rfl) (.cons ⟨f2.params, f2.slots, f2.ins.take (f2.ins.length - 1)⟩ (ins_viewT rfl (by omega)) (.cons f3 (ins_view rfl) .nil))) rfl (by simp) (by simp) (fun f hm => by simp only [List.mem_cons, List.not_mem_nil, or_false] at hm; rcases hm with rfl | rfl | rfl <;> first | (simp; omega) | exact (hf _ (by simp)).2) (by omega)
      simp -implicitDefEqProofs []
      refine cndb (fun hc => ?_) (fun hc => ?_)
      · simp -implicitDefEqProofs []
        refine (d_num G hb hl (p := q + 1 + 1 + 1 + 1) (by omega) [4, -1, 0] (k := 10) (by simp) (by simp) (by omega) rfl rfl).mono ?_
        rintro r h ⟨w2, _, rfl, rfl⟩
        simp -implicitDefEqProofs [callR_nxt]
        exact bent_fin [f1, ⟨w2, f2.slots, f2.ins⟩, f3] rfl (.cons f1 (ins_view rfl) (.cons ⟨w2, f2.slots, f2.ins⟩ (ins_view rfl) (.cons f3 (ins_view rfl) .nil))) rfl (by simp) (by simp) (fun f hm => by simp only [List.mem_cons, List.not_mem_nil, or_false] at hm; rcases hm with rfl | rfl | rfl <;> first | (simp; omega) | exact (hf _ (by simp)).2) (by omega)
      simp -implicitDefEqProofs []
      exact bent_fin [f1, f2, f3] rfl (.cons f1 (ins_view rfl) (.cons f2 (ins_view rfl) (.cons f3 (ins_view rfl) .nil))) rfl (by simp) (by simp) (fun f hm => by simp only [List.mem_cons, List.not_mem_nil, or_false] at hm; rcases hm with rfl | rfl | rfl <;> first | (simp; omega) | exact (hf _ (by simp)).2) (by omega)
    · have hgf := hf f3 (by simp)
      simp -implicitDefEqProofs [callR_nxt]
      refine (d_pickP G b hb hl (q + 1) (by omega) f3.ins.length _).mono ?_
      rintro r h ⟨i, rfl, rfl, hi⟩
      have hi2 : i < f3.ins.length := by omega
      obtain ⟨y, hy⟩ : ∃ y, f3.ins[i]? = some y := ⟨_, List.getElem?_eq_getElem hi2⟩
      have hg : (insR f3.ins)[i]? = some [.p (.int .i64 y.op), .p (.int .i64 y.a), .p (.int .i64 y.b), .p (.int .i64 y.c), .p (.int .i64 y.n)] := by rw [insR, List.getElem?_map, hy]; rfl
      simp -implicitDefEqProofs [callR_nxt, hi2]
      refine (d_num G hb hl (p := q + 1 + 1) (by omega) [-1, 8, 64, 300, (f3.ins.length : Int), 1] (k := 9) (by simp) (by simp) (by omega) rfl rfl).mono ?_
      rintro r h ⟨bad, _, rfl, rfl⟩
      simp -implicitDefEqProofs [callR_nxt]
      refine (d_pickP G b hb hl (q + 1 + 1 + 1) (by omega) 28 _).mono ?_
      rintro r h ⟨w, rfl, rfl, _⟩
      have hwl : IntKind.i64.wrap ((f3.ins.length : Int) - 1) = ((f3.ins.length - 1 : Nat) : Int) := by rw [i64_small (by omega) (by omega)]; omega
      have hwn : 0 ≤ (f3.ins.length : Int) - 1 ∧ (f3.ins.length : Int) - 1 ≤ f3.ins.length := by omega
      simp -implicitDefEqProofs [callR_nxt]
      refine cndb (fun hc => ?_) (fun hc => ?_)
      · simp -implicitDefEqProofs []
        refine (d_pickP G b hb hl (q + 1 + 1 + 1 + 1) (by omega) 25 _).mono ?_
        rintro r h ⟨w2, rfl, rfl, _⟩
        simp -implicitDefEqProofs [callR_nxt, hg]
        exact bent_fin [f1, f2, ⟨f3.params, f3.slots, f3.ins.set i ⟨IntKind.i64.wrap ((w2 : Int) - 1), y.a, y.b, y.c, y.n⟩⟩] rfl (.cons f1 (ins_view rfl) (.cons f2 (ins_view rfl) (.cons ⟨f3.params, f3.slots, f3.ins.set i ⟨IntKind.i64.wrap ((w2 : Int) - 1), y.a, y.b, y.c, y.n⟩⟩ (ins_viewS ⟨IntKind.i64.wrap ((w2 : Int) - 1), y.a, y.b, y.c, y.n⟩ rfl) .nil))) rfl (by simp) (by simp) (fun f hm => by simp only [List.mem_cons, List.not_mem_nil, or_false] at hm; rcases hm with rfl | rfl | rfl <;> first | (simp; omega) | exact (hf _ (by simp)).2) (by omega)
      simp -implicitDefEqProofs []
      refine cndb (fun hc => ?_) (fun hc => ?_)
      · simp -implicitDefEqProofs [hg]
        exact bent_fin [f1, f2, ⟨f3.params, f3.slots, f3.ins.set i ⟨y.op, bad, y.b, y.c, y.n⟩⟩] rfl (.cons f1 (ins_view rfl) (.cons f2 (ins_view rfl) (.cons ⟨f3.params, f3.slots, f3.ins.set i ⟨y.op, bad, y.b, y.c, y.n⟩⟩ (ins_viewS ⟨y.op, bad, y.b, y.c, y.n⟩ rfl) .nil))) rfl (by simp) (by simp) (fun f hm => by simp only [List.mem_cons, List.not_mem_nil, or_false] at hm; rcases hm with rfl | rfl | rfl <;> first | (simp; omega) | exact (hf _ (by simp)).2) (by omega)
      simp -implicitDefEqProofs []
      refine cndb (fun hc => ?_) (fun hc => ?_)
      · simp -implicitDefEqProofs [hg]
        exact bent_fin [f1, f2, ⟨f3.params, f3.slots, f3.ins.set i ⟨y.op, y.a, y.b, y.c, bad⟩⟩] rfl (.cons f1 (ins_view rfl) (.cons f2 (ins_view rfl) (.cons ⟨f3.params, f3.slots, f3.ins.set i ⟨y.op, y.a, y.b, y.c, bad⟩⟩ (ins_viewS ⟨y.op, y.a, y.b, y.c, bad⟩ rfl) .nil))) rfl (by simp) (by simp) (fun f hm => by simp only [List.mem_cons, List.not_mem_nil, or_false] at hm; rcases hm with rfl | rfl | rfl <;> first | (simp; omega) | exact (hf _ (by simp)).2) (by omega)
      simp -implicitDefEqProofs []
      refine cndb (fun hc => ?_) (fun hc => ?_)
      · simp -implicitDefEqProofs [hg]
        exact bent_fin [f1, f2, ⟨f3.params, f3.slots, f3.ins.set i ⟨y.op, y.a, y.b, bad, y.n⟩⟩] rfl (.cons f1 (ins_view rfl) (.cons f2 (ins_view rfl) (.cons ⟨f3.params, f3.slots, f3.ins.set i ⟨y.op, y.a, y.b, bad, y.n⟩⟩ (ins_viewS ⟨y.op, y.a, y.b, bad, y.n⟩ rfl) .nil))) rfl (by simp) (by simp) (fun f hm => by simp only [List.mem_cons, List.not_mem_nil, or_false] at hm; rcases hm with rfl | rfl | rfl <;> first | (simp; omega) | exact (hf _ (by simp)).2) (by omega)
      simp -implicitDefEqProofs []
      refine cndb (fun hc => ?_) (fun hc => ?_)
      · simp -implicitDefEqProofs []
        refine (d_num G hb hl (p := q + 1 + 1 + 1 + 1) (by omega) [65, -1, 0, 64] (k := 10) (by simp) (by simp) (by omega) rfl rfl).mono ?_
        rintro r h ⟨w2, _, rfl, rfl⟩
        simp -implicitDefEqProofs [callR_nxt]
        exact bent_fin [f1, f2, ⟨f3.params, w2, f3.ins⟩] rfl (.cons f1 (ins_view rfl) (.cons f2 (ins_view rfl) (.cons ⟨f3.params, w2, f3.ins⟩ (ins_view rfl) .nil))) rfl (by simp) (by simp) (fun f hm => by simp only [List.mem_cons, List.not_mem_nil, or_false] at hm; rcases hm with rfl | rfl | rfl <;> first | (simp; omega) | exact (hf _ (by simp)).2) (by omega)
      simp -implicitDefEqProofs []
      refine cndb (fun hc => ?_) (fun hc => ?_)
      · simp -implicitDefEqProofs [hwl]
        exact bent_fin [f1, f2, ⟨f3.params, f3.slots, f3.ins.take (f3.ins.length - 1)⟩] rfl (.cons f1 (ins_view rfl) (.cons f2 (ins_view rfl) (.cons ⟨f3.params, f3.slots, f3.ins.take (f3.ins.length - 1)⟩ (ins_viewT rfl (by omega)) .nil))) rfl (by simp) (by simp) (fun f hm => by simp only [List.mem_cons, List.not_mem_nil, or_false] at hm; rcases hm with rfl | rfl | rfl <;> first | (simp; omega) | exact (hf _ (by simp)).2) (by omega)
      simp -implicitDefEqProofs []
      refine cndb (fun hc => ?_) (fun hc => ?_)
      · simp -implicitDefEqProofs []
        refine (d_num G hb hl (p := q + 1 + 1 + 1 + 1) (by omega) [4, -1, 0] (k := 10) (by simp) (by simp) (by omega) rfl rfl).mono ?_
        rintro r h ⟨w2, _, rfl, rfl⟩
        simp -implicitDefEqProofs [callR_nxt]
        exact bent_fin [f1, f2, ⟨w2, f3.slots, f3.ins⟩] rfl (.cons f1 (ins_view rfl) (.cons f2 (ins_view rfl) (.cons ⟨w2, f3.slots, f3.ins⟩ (ins_view rfl) .nil))) rfl (by simp) (by simp) (fun f hm => by simp only [List.mem_cons, List.not_mem_nil, or_false] at hm; rcases hm with rfl | rfl | rfl <;> first | (simp; omega) | exact (hf _ (by simp)).2) (by omega)
      simp -implicitDefEqProofs []
      exact bent_fin [f1, f2, f3] rfl (.cons f1 (ins_view rfl) (.cons f2 (ins_view rfl) (.cons f3 (ins_view rfl) .nil))) rfl (by simp) (by simp) (fun f hm => by simp only [List.mem_cons, List.not_mem_nil, or_false] at hm; rcases hm with rfl | rfl | rfl <;> first | (simp; omega) | exact (hf _ (by simp)).2) (by omega)
end Go.Proofs.YtbbobekgnclkfaaDoor
namespace Go.Proofs.YtbbobekgnclkfaaDoor
open Go Go.Aw
set_option maxRecDepth 100000
set_option maxHeartbeats 4000000
theorem tw_pure {σ : List Nat} : ∀ l : List AV, belowL 0 l → TW σ l l
  | [], _ => trivial
  | v :: r, hb => ⟨.inr ⟨(belowL_mono (Nat.zero_le _) [v] ⟨hb.1, trivial⟩).1, ren_fix (n := 0) (fun i hi => by omega) v hb.1⟩, tw_pure r hb.2⟩
variable (G : Glob)
/-- A draw by a reader that lies elsewhere. -/
theorem d_one {f : FuncId} {args : List AV} {b : List Int} {p : Nat} {R : AV → Nat → Prop} (H : AC Tryd.prog G f (.ptr 0 2 0 0 :: args) [rdO b p] fun x h => ∃ v q, x = .ret v ∧ h = [rdO b q] ∧ below 0 v ∧ R v q) (ha : belowL 0 args)
    {h : List AO} {k : Nat} (h0 : h[k]? = some (rdO b p)) : AC Tryd.prog G f (.ptr k 2 0 0 :: args) h fun x h' => ∃ v q, x = .ret v ∧ h' = h.set k (rdO b q) ∧ R v q := by
  have ht : TW [k] args args := tw_pure args ha
  refine (H.frame (args := .ptr k 2 0 0 :: args) [k] (by simp) (by rw [TW_cons]; exact ⟨.inr ⟨by simp [below], rfl⟩, ht⟩) (hw_ok h0 (rdO_ok _ _ _) hw_nil)).mono ?_
  rintro x h' ⟨x0, h2, ⟨v, q, rfl, rfl, hv, r⟩, _, rfl, rfl⟩
  refine ⟨v, q, by rw [renR, ren_fix (n := 0) (fun i hi => by omega) v hv], ?_, r⟩
  simp only [List.take, List.length_cons, List.length_nil, List.map_cons, List.map_nil, renO_rd, mrg, List.drop, List.append_nil]
theorem d_pick1 {b : List Int} (hb : Byt b) (hl : b.length ≤ 2000) {p : Nat} (hp : p ≤ 1000000000000) (n : Int) {h : List AO} {k : Nat} (h0 : h[k]? = some (rdO b p)) :
    AC Tryd.prog G n_spec_l30Rd_pick [.ptr k 2 0 0, .p (.int .i64 n)] h fun x h' => ∃ m : Nat, x = .ret (.p (.int .i64 m)) ∧ h' = h.set k (rdO b (p + 1)) ∧ ((m : Int) < n ∨ m = 0) := by
  refine (d_one G (R := fun v q => (∃ m : Nat, v = .p (.int .i64 m) ∧ ((m : Int) < n ∨ m = 0)) ∧ q = p + 1) ((d_pick G b hb hl p (by omega) n).mono ?_) (by simp [below]) h0).mono ?_
  · rintro x h ⟨m, rfl, rfl, hm⟩
    exact ⟨_, _, rfl, rfl, by simp [below], ⟨m, rfl, hm⟩, rfl⟩
  · rintro x h ⟨v, q, rfl, rfl, ⟨m, rfl, hm⟩, rfl⟩
    exact ⟨m, rfl, rfl, hm⟩
theorem d_numP1 {b : List Int} (hb : Byt b) (hl : b.length ≤ 2000) {p : Nat} (hp : p ≤ 1000000000000) (l : List Int) (hne : l ≠ []) (hll : l.length ≤ 1000000000000) {h : List AO} {k : Nat} (h0 : h[k]? = some (rdO b p)) :
    AC Tryd.prog G n_spec_l30Rd_num [.ptr k 2 0 0, .p (numL l)] h fun x h' => ∃ n, n ∈ l ∧ x = .ret (.p (.int .i64 n)) ∧ h' = h.set k (rdO b (p + 1)) := by
  have key : AC Tryd.prog G n_spec_l30Rd_num [.ptr 0 2 0 0, .p (numL l)] [rdO b p] fun x h => ∃ v q, x = .ret v ∧ h = [rdO b q] ∧ below 0 v ∧ (∃ n, v = .p (.int .i64 n) ∧ n ∈ l) ∧ q = p + 1 := by
    refine AC.go k_spec_l30Rd_num ?_
    have hpos : 0 < l.length := List.length_pos_iff.2 hne
    have hnl : numL l = .lst 1 (l.map fun n => [.int .i64 n]) := rfl
    simp -implicitDefEqProofs [F_spec_l30Rd_num, hnl]
    refine (d_pickP G b hb hl p (by omega) l.length []).mono ?_
    rintro r h ⟨m, rfl, rfl, hm⟩
    have hml : m < l.length := by omega
    have hg := List.getElem?_eq_getElem hml
    simp -implicitDefEqProofs [callR_nxt, hg]
  refine (d_one G key (by simp [below]) h0).mono ?_
  rintro x h ⟨v, q, rfl, rfl, ⟨n, rfl, hn⟩, rfl⟩
  exact ⟨n, hn, rfl, rfl⟩
theorem str_viewT {h : List AO} {id n : Nat} {ws : List (List UInt8)} (e : h[id]? = some (.row 1 (ws.map fun w => [.p (.str w)]))) (hn : n ≤ ws.length) : View h (.sl id 1 0 n) (strL (ws.take n)) := by
  have hw := View.sl (h := h) id 1 0 (ws.map fun w => [AV.p (.str w)]) ((ws.take n).map fun w => [PV.str w]) e (by simp; omega) (by intro e he; obtain ⟨m, _, rfl⟩ := List.mem_map.1 he; rfl) (fun i j e q e' a h1 h2 h3 h4 => by
    rw [Nat.zero_add] at h3
    rw [List.getElem?_map, Option.map_eq_some_iff] at h1
    obtain ⟨m, hm, rfl⟩ := h1
    have hm2 : ws[i]? = some m := by
      have hi := (List.getElem?_eq_some_iff.1 hm).1
      rw [List.length_take] at hi
      rwa [List.getElem?_take_of_lt (by omega)] at hm
    rw [List.getElem?_map, hm2, Option.map_some, Option.some.injEq] at h3
    subst h3
    match j, h2, h4 with
    | 0, h2, h4 => cases h2; cases h4; exact .p _
    | j + 1, h2, h4 => simp at h2)
  rw [List.length_map, List.length_take, Nat.min_eq_left hn] at hw
  exact hw
/-- What is drawn for ObjectOf. -/
def DrO (x : ARes) (h : List AO) : Prop := ∃ (fs : List Mfn) (n : Int) (ws : List (List UInt8)), x = .ret (.tup [.agg [.p (fnsL fs)], .p (.int .i64 n), .p (strL ws)]) ∧ h = [] ∧ fs.length ≤ 3 ∧ (∀ f ∈ fs, f.ins.length ≤ 20) ∧ ws.length ≤ 4 ∧ ∀ w ∈ ws, w.length ≤ 2
def DrO0 (x : ARes) (h : List AO) : Prop := ∃ (fs : List Mfn) (n : Int) (S : AV) (ws : List (List UInt8)), x = .ret (.tup [.agg [.p (fnsL fs)], .p (.int .i64 n), S]) ∧ View h S (strL ws) ∧ fs.length ≤ 3 ∧ (∀ f ∈ fs, f.ins.length ≤ 20) ∧ ws.length ≤ 4 ∧ ∀ w ∈ ws, w.length ≤ 2
theorem d_objectOf (l : List Int) (hb : BytesOk l) : AC Tryd.prog G n_spec_DrawObjectOf [.p (bysL l)] [] DrO := by
  have hbt : Byt (l.take 2000) := fun n hn => hb n (List.mem_of_mem_take hn)
  have hlt : (l.take 2000).length ≤ 2000 := by simp; omega
  have key : AC Tryd.prog G n_spec_DrawObjectOf [.p (bysL l)] [] DrO0 := by
    refine AC.go k_spec_DrawObjectOf ?_
    simp -implicitDefEqProofs [F_spec_DrawObjectOf]
    refine (AC.lift (d_open G l) (by simp [below]) (by simp [nofn]) (by simp [nofnO, rdO, nofnL, nofn])).mono ?_
    rintro r h ⟨rfl, rfl⟩
    have hsh : ∀ k, shiftO k (rdO (l.take 2000) 0) = rdO (l.take 2000) 0 := fun k => by simp [shiftO, rdO, shiftL, shiftV]
    simp -implicitDefEqProofs [callR_nxt, shiftV, hsh]
    generalize l.take 2000 = b at *
    refine (d_one G (R := BentQ) ((d_bent G hbt hlt).mono ?_) (by trivial) (k := 1) rfl).mono ?_
    · rintro x h ⟨v, q, rfl, rfl, r⟩
      obtain ⟨fs, rfl, h1⟩ := r
      exact ⟨_, q, rfl, rfl, by simp, fs, rfl, h1⟩
    rintro r h ⟨v, q, rfl, rfl, fs, rfl, h1, h3, hf, hq⟩
    have hfl : fnsL fs = .lst 3 (fs.map Mfn.cs) := rfl
    simp -implicitDefEqProofs [callR_nxt, hfl]
    refine ⟨by omega, (d_pick1 G hbt hlt (p := q) (by omega) 12 (k := 1) rfl).mono ?_⟩
    rintro r h ⟨k1, rfl, rfl, _⟩
    have hw1 : IntKind.i64.wrap ((fs.length : Int) - 1) = (fs.length : Int) - 1 := i64_small (by omega) (by omega)
    have num : ∀ (q' : Nat) (h : List AO), q' ≤ 3000 → h[1]? = some (rdO b q') → _ := fun q' h hq' h0 => d_numP1 G hbt hlt (p := q') (by omega) [(fs.length : Int) - 1, 0, -1, fs.length, 0] (h := h) (k := 1) (by simp) (by simp) h0
    simp -implicitDefEqProofs [callR_nxt]
    refine cndb (fun hc => ?_) (fun hc => ?_)
    · simp -implicitDefEqProofs []
      refine (d_pick1 G hbt hlt (p := q + 1) (by omega) 4 (k := 1) rfl).mono ?_
      rintro r h ⟨k2, rfl, rfl, hk2⟩
      have hk3 : k2 ≤ 3 := by omega
      simp -implicitDefEqProofs [callR_nxt, hw1]
      refine ⟨hk3, (num (q + 1 + 1) _ (by omega) rfl).mono ?_⟩
      rintro r h ⟨n, _, rfl, rfl⟩
      simp -implicitDefEqProofs [callR_nxt]
      exact ⟨fs, n, _, ([[102], [102], [105, 102]] : List (List UInt8)).take k2, rfl, str_viewT (ws := [[102], [102], [105, 102]]) rfl hk3, h3, hf, by simp; omega, fun w hw => by
        have := List.mem_of_mem_take hw
        simp only [List.mem_cons, List.not_mem_nil, or_false] at this
        rcases this with rfl | rfl | rfl <;> simp⟩
    · simp -implicitDefEqProofs [hw1]
      refine (num (q + 1) _ (by omega) rfl).mono ?_
      rintro r h ⟨n, _, rfl, rfl⟩
      simp -implicitDefEqProofs [callR_nxt]
      exact ⟨fs, n, _, ([[102], [103], [104], [109]] : List (List UInt8)).take fs.length, rfl, str_viewT (ws := [[102], [103], [104], [109]]) rfl (by simp; omega), h3, hf, by simp; omega, fun w hw => by
        have := List.mem_of_mem_take hw
        simp only [List.mem_cons, List.not_mem_nil, or_false] at this
        rcases this with rfl | rfl | rfl | rfl <;> simp⟩
  refine key.frz 0 (Nat.le_refl _) (fun t v h ⟨_, _, _, _, e, _⟩ => by cases e) ?_
  rintro v h ⟨fs, n, S, ws, e, hS, r⟩
  cases e
  exact ⟨_, [], Nat.zero_le _, rfl, .tup (.keep (by simp [below, belowL]) (.keep (by simp [below]) (.one hS .nil))) .nil, .nil _, fs, n, ws, rfl, rfl, r⟩
end Go.Proofs.YtbbobekgnclkfaaDoor
namespace Go.Proofs.YtbbobekgnclkfaaDoor
open Go Go.Aw
set_option maxRecDepth 100000
set_option maxHeartbeats 4000000
theorem fixL_fix (ins : List Mins) : ∀ (n : Nat) (L : List Bool), countF L ≤ n → roundL ins (fixL ins L) = fixL ins L
  | n, L, hn => by
    by_cases h : roundL ins L = L
    · rw [fixL_same h, h]
    · have hc := countF_round ins L h
      rw [fixL_next h]
      cases n with
      | zero => omega
      | succ n => exact fixL_fix ins n _ (by omega)
theorem roundL_jmp {ins : List Mins} {L : List Bool} (h : ∀ i : Nat, L[i]? = some true → ∃ x, ins[i]? = some x ∧ jmp x = true) : ∀ i : Nat, (roundL ins L)[i]? = some true → ∃ x, ins[i]? = some x ∧ jmp x = true := by
  intro i hi
  rw [roundL, List.getElem?_mapIdx] at hi
  cases hL : L[i]? with
  | none => rw [hL] at hi; cases hi
  | some b =>
    rw [hL, Option.map_some, Option.some.injEq] at hi
    cases b with
    | true => exact h i hL
    | false =>
      rw [Bool.false_or] at hi
      cases hx : ins[i]? with
      | none => rw [need, hx] at hi; cases hi
      | some x =>
        refine ⟨x, rfl, ?_⟩
        rw [need, hx] at hi
        simp only [Bool.and_eq_true] at hi
        exact hi.1
theorem fixL_jmp (ins : List Mins) : ∀ (n : Nat) (L : List Bool), countF L ≤ n → (∀ i : Nat, L[i]? = some true → ∃ x, ins[i]? = some x ∧ jmp x = true) → ∀ i : Nat, (fixL ins L)[i]? = some true → ∃ x, ins[i]? = some x ∧ jmp x = true
  | n, L, hn, hj => by
    by_cases h : roundL ins L = L
    · rw [fixL_same h]; exact hj
    · have hc := countF_round ins L h
      rw [fixL_next h]
      cases n with
      | zero => omega
      | succ n => exact fixL_jmp ins n _ (by omega) (roundL_jmp hj)
theorem longs_fix (ins : List Mins) : roundL ins (longs ins) = longs ins := fixL_fix ins _ _ (Nat.le_refl _)
theorem longs_jmp {ins : List Mins} {i : Nat} (h : i < ins.length) (hL : (longs ins)[i]? = some true) : jmp ins[i] = true := by
  obtain ⟨x, h1, h2⟩ := fixL_jmp ins _ (List.replicate ins.length false) (Nat.le_refl _) (fun i hi => by
    have := List.mem_of_getElem? hi
    rw [List.mem_replicate] at this
    cases this.2) i hL
  rw [List.getElem?_eq_getElem h] at h1
  cases h1; exact h2
theorem longs_near {ins : List Mins} {i : Nat} (h : i < ins.length) (hL : (longs ins)[i]? = some false) : need ins (longs ins) i = false := by
  have h1 := longs_fix ins
  have h2 : (roundL ins (longs ins))[i]? = some false := by rw [h1, hL]
  rw [roundL, List.getElem?_mapIdx, hL, Option.map_some, Option.some.injEq, Bool.false_or] at h2
  exact h2
theorem enc_byte {f : Mfn} {i j : Nat} (h : i < f.ins.length) (hj : j < (encI f.ins (longs f.ins) i).length) : byAt (encB f) (plc f.ins (longs f.ins) i + j) = (encI f.ins (longs f.ins) i).getD j 0 := by
  have hL := longs_len f.ins
  obtain ⟨r, e⟩ := encT_le (ins := f.ins) (L := longs f.ins) (i := i + 1) (k := f.ins.length) h
  have hs := encT_size hL i (Nat.le_of_lt h)
  rw [byAt, encB, e, encT_succ, List.append_assoc, List.getD_eq_getElem?_getD, List.getElem?_append_right (by omega), hs, Nat.add_sub_cancel_left, List.getElem?_append_left hj, List.getD_eq_getElem?_getD]
theorem plc_lt {ins : List Mins} {L : List Bool} (hl : L.length = ins.length) {i j : Nat} (h : i < j) (hj : j ≤ ins.length) : plc ins L i < plc ins L j := by
  induction j with
  | zero => omega
  | succ j ih =>
    have h1 : plc ins L j < plc ins L (j + 1) := by
      rw [plc_succ (by omega) (by omega)]
      have : 2 ≤ sizeB ins[j] L[j] := by
        unfold sizeB
        split
        · split <;> split <;> omega
        · rcases plainB_len ins[j] with h | h <;> omega
      omega
    rcases Nat.lt_or_ge i j with h2 | h2
    · have := ih h2 (by omega); omega
    · rw [show i = j by omega]; exact h1
/-- What is read of an instruction, before the places are turned. -/
def rawOf (ins : List Mins) (x : Mins) : Mins := if jmp x then { x with n := (plc ins (longs ins) x.n.toNat : Nat) } else x
theorem s8_u8 {d : Int} (h : -128 ≤ d ∧ d ≤ 127) : s8 (u8 d) = d := by
  rw [s8, u8_eq_mod]
  split <;> omega
theorem dec_plain {code : List Int} {A : Nat} {x : Mins} {pp ss ll kk : Int} (hok : insOk pp ss ll kk x = true) (hcn : x.op = 14 → 0 ≤ x.n ∧ x.n < 4) (hpr : inR pp 0 3 = true) (hsl : inR ss 0 64 = true) (hj : jmp x = false)
    (hb : ∀ j, j < (plainB x).length → byAt code (A + j) = (plainB x).getD j 0) (hle : A + (plainB x).length ≤ code.length) : decGood code A = true ∧ decSz code A = (plainB x).length ∧ decI code A = x := by
  obtain ⟨op, a, b, c, n⟩ := x
  have hop : inR op 1 22 = true := by
    simp only [insOk, Bool.and_eq_true] at hok
    exact hok.1.1.1.1.1.1.1.1
  rcases op22 hop with rfl | rfl | rfl | rfl | rfl | rfl | rfl | rfl | rfl | rfl | rfl | rfl | rfl | rfl | rfl | rfl | rfl | rfl | rfl | rfl | rfl | rfl
  all_goals first
    | (exfalso; simp [jmp] at hj; done)
    | skip
  all_goals simp [inR] at hpr hsl
  all_goals simp [insOk, fA, fB, fC, fN, inR, mostN] at hok
  all_goals have b0 := hb 0 (by simp [plainB, inR])
  all_goals have b1 := hb 1 (by simp [plainB, inR])
  all_goals simp [plainB, inR, u8_eq_mod] at b0 b1 hle hcn
  all_goals have b2 := hb 2
  all_goals simp [plainB, inR, u8_eq_mod] at b2
  all_goals first
    | (simp [decGood, decOk1, decSz, decI, opAt, longAt, b0, b1, b2, decX, jmpO, sizeB, jmp, bare, plainB, inR]
       omega)
    | (simp [decGood, decOk1, decSz, decI, opAt, longAt, b0, b1, decX, jmpO, sizeB, jmp, bare, plainB, inR]
       omega)
theorem dec_at {f : Mfn} (hc : codeOk f = true) {i : Nat} (h : i < f.ins.length) :
    decGood (encB f) (plc f.ins (longs f.ins) i) = true ∧ plc f.ins (longs f.ins) i + decSz (encB f) (plc f.ins (longs f.ins) i) = plc f.ins (longs f.ins) (i + 1) ∧ decI (encB f) (plc f.ins (longs f.ins) i) = rawOf f.ins f.ins[i] := by
  have hL := longs_len f.ins
  have hLi : i < (longs f.ins).length := by omega
  have hfn := fnOk_of_code hc
  have hcn : f.ins[i].op = 14 → 0 ≤ f.ins[i].n ∧ f.ins[i].n < 4 := fun ho => call_n hc (List.getElem_mem h) ho
  have hsz : plc f.ins (longs f.ins) f.ins.length ≤ 8000 := by
    simp only [codeOk, Bool.and_eq_true, decide_eq_true_eq] at hc; exact hc.2
  have hlen : (encB f).length = plc f.ins (longs f.ins) f.ins.length := by rw [encB, encT_size hL _ (Nat.le_refl _)]
  have hps := plc_succ (ins := f.ins) (L := longs f.ins) h hLi
  have hle : plc f.ins (longs f.ins) (i + 1) ≤ plc f.ins (longs f.ins) f.ins.length := by
    rcases Nat.lt_or_ge (i + 1) f.ins.length with h1 | h1
    · exact Nat.le_of_lt (plc_lt hL h1 (Nat.le_refl _))
    · rw [show i + 1 = f.ins.length by omega]; exact Nat.le_refl _
  have hjm : (longs f.ins)[i] = true → jmp f.ins[i] = true := fun e => longs_jmp h (by rw [List.getElem?_eq_getElem hLi, e])
  have hnr : (longs f.ins)[i] = false → need f.ins (longs f.ins) i = false := fun e => longs_near h (by rw [List.getElem?_eq_getElem hLi, e])
  have hb : ∀ j, j < (encI f.ins (longs f.ins) i).length → byAt (encB f) (plc f.ins (longs f.ins) i + j) = (encI f.ins (longs f.ins) i).getD j 0 := fun j hj => enc_byte h hj
  have hpl : plc f.ins (longs f.ins) f.ins[i].n.toNat ≤ 8000 := by
    rcases Nat.lt_or_ge f.ins[i].n.toNat f.ins.length with h1 | h1
    · have := plc_lt hL h1 (Nat.le_refl _); omega
    · have hz : (List.zipWith sizeB f.ins (longs f.ins)).length = f.ins.length := by simp; omega
      have e : plc f.ins (longs f.ins) f.ins[i].n.toNat = plc f.ins (longs f.ins) f.ins.length := by
        simp only [plc]
        rw [List.take_of_length_le (by omega), List.take_of_length_le (by omega)]
      omega
  simp only [fnOk, Bool.and_eq_true, List.all_eq_true] at hfn
  have hok := hfn.2 _ (List.getElem_mem h)
  have hpr := hfn.1.1.1
  have hsl := hfn.1.1.2
  have hnd : need f.ins (longs f.ins) i = (jmp f.ins[i] && !inR ((plc f.ins (longs f.ins) f.ins[i].n.toNat : Int) - plc f.ins (longs f.ins) i - sizeB f.ins[i] false) (-128) 127) := by
    rw [need, List.getElem?_eq_getElem h]
  have hen : encI f.ins (longs f.ins) i = if !jmp f.ins[i] then plainB f.ins[i] else
      [u8 (f.ins[i].op + (if (longs f.ins)[i] then 128 else 0))] ++ (if f.ins[i].op = 21 then [u8 f.ins[i].a] else []) ++
        (if (longs f.ins)[i] then [u8 (plc f.ins (longs f.ins) f.ins[i].n.toNat % 256 : Nat), u8 (plc f.ins (longs f.ins) f.ins[i].n.toNat / 256 : Nat)] else [u8 ((plc f.ins (longs f.ins) f.ins[i].n.toNat : Int) - plc f.ins (longs f.ins) i - sizeB f.ins[i] false)]) := by
    rw [encI, List.getElem?_eq_getElem h, List.getElem?_eq_getElem hLi]
  rw [hen] at hb
  rw [hnd] at hnr
  clear hen hnd hfn hc
  have e2 : rawOf f.ins f.ins[i] = if jmp f.ins[i] then { f.ins[i] with n := (plc f.ins (longs f.ins) f.ins[i].n.toNat : Nat) } else f.ins[i] := rfl
  rw [e2, hps]
  rw [hps, ← hlen] at hle
  clear e2 hps
  generalize plc f.ins (longs f.ins) f.ins[i].n.toNat = T at *
  generalize plc f.ins (longs f.ins) i = A at *
  generalize (longs f.ins)[i] = lg at *
  generalize encB f = code at *
  generalize f.ins[i] = x at *
  generalize (mostS f.ins : Int) = kk at *
  generalize (f.ins.length : Int) = ll at *
  generalize f.params = pp at *
  generalize f.slots = ss at *
  by_cases hj : jmp x = true
  rotate_left
  · have hj' : jmp x = false := by simpa using hj
    have hsz' : sizeB x lg = (plainB x).length := by simp [sizeB, hj']
    simp only [hj', Bool.not_false, if_true] at hb
    rw [hsz'] at hle
    obtain ⟨g1, g2, g3⟩ := dec_plain hok hcn hpr hsl hj' hb hle
    refine ⟨g1, by rw [g2, hsz'], by rw [g3]; simp [hj']⟩
  have hT8 : T ≤ 8000 := hpl
  clear hjm hcn hsz
  obtain ⟨op, a, b, c, n⟩ := x
  have hjo : op = 20 ∨ op = 21 := by simpa [jmp] using hj
  simp [inR] at hpr hsl
  rcases hjo with rfl | rfl
  · simp [insOk, fA, fB, fC, fN, inR, mostN] at hok
    cases lg with
    | true =>
      simp [jmp, sizeB] at hb hle
      have b0 := hb 0 (by omega)
      have b1 := hb 1 (by omega)
      have b2 := hb 2 (by omega)
      simp [u8_eq_mod] at b0 b1 b2
      simp [decGood, decOk1, decSz, decI, opAt, longAt, b0, b1, b2, decX, jmpO, sizeB, jmp, bare, inR]
      omega
    | false =>
      simp [jmp, sizeB, inR] at hb hle hnr
      have b0 := hb 0 (by omega)
      have b1 := hb 1 (by omega)
      have hd : -128 ≤ (T : Int) - A - 2 ∧ (T : Int) - A - 2 ≤ 127 := by omega
      have hs := s8_u8 hd
      rw [u8_eq_mod] at hs
      simp [u8_eq_mod] at b0 b1
      simp [decGood, decOk1, decSz, decI, opAt, longAt, b0, b1, decX, jmpO, sizeB, jmp, bare, inR, hs]
      omega
  · simp [insOk, fA, fB, fC, fN, inR, mostN] at hok
    cases lg with
    | true =>
      simp [jmp, sizeB] at hb hle
      have b0 := hb 0 (by omega)
      have b1 := hb 1 (by omega)
      have b2 := hb 2 (by omega)
      have b3 := hb 3 (by omega)
      simp [u8_eq_mod] at b0 b1 b2 b3
      simp [decGood, decOk1, decSz, decI, opAt, longAt, b0, b1, b2, b3, decX, jmpO, sizeB, jmp, bare, inR]
      omega
    | false =>
      simp [jmp, sizeB, inR] at hb hle hnr
      have b0 := hb 0 (by omega)
      have b1 := hb 1 (by omega)
      have b2 := hb 2 (by omega)
      have hd : -128 ≤ (T : Int) - A - 3 ∧ (T : Int) - A - 3 ≤ 127 := by omega
      have hs := s8_u8 hd
      rw [u8_eq_mod] at hs
      simp [u8_eq_mod] at b0 b1 b2
      simp [decGood, decOk1, decSz, decI, opAt, longAt, b0, b1, b2, decX, jmpO, sizeB, jmp, bare, inR, hs]
      omega
/-- What was written is read again. -/
theorem decFrom_at {f : Mfn} (hc : codeOk f = true) : ∀ (k i : Nat), i + k = f.ins.length → decFrom (encB f) (plc f.ins (longs f.ins) i) = some ((List.range' i k).map (plc f.ins (longs f.ins)))
  | 0, i, h => by
    have hL := longs_len f.ins
    have hlen : (encB f).length = plc f.ins (longs f.ins) f.ins.length := by rw [encB, encT_size hL _ (Nat.le_refl _)]
    rw [show i = f.ins.length by omega, decFrom_end (by omega)]; rfl
  | k + 1, i, h => by
    have hL := longs_len f.ins
    have hlen : (encB f).length = plc f.ins (longs f.ins) f.ins.length := by rw [encB, encT_size hL _ (Nat.le_refl _)]
    obtain ⟨h1, h2, _⟩ := dec_at hc (i := i) (by omega)
    have h3 := plc_lt hL (i := i) (j := f.ins.length) (by omega) (Nat.le_refl _)
    rw [decFrom_step (by omega) h1, h2, decFrom_at hc k (i + 1) (by omega)]
    rfl
theorem atOf_plc {ins : List Mins} {L : List Bool} (hl : L.length = ins.length) {i : Nat} (h : i < ins.length) : atOf ((List.range' 0 ins.length).map (plc ins L)) ((plc ins L i : Nat) : Int) = i := by
  refine atOf_hit (i := i) (by simp; exact h) (fun p hp => ?_) (by simp)
  rw [List.mem_take_iff_getElem] at hp
  obtain ⟨j, hj, rfl⟩ := hp
  simp at hj ⊢
  have := plc_lt hl (i := j) (j := i) (by omega) (by omega)
  omega
theorem dec_enc {f : Mfn} (hc : codeOk f = true) : decF f.params f.slots (encB f) = some f := by
  have hL := longs_len f.ins
  have h0 := decFrom_at hc f.ins.length 0 (by omega)
  rw [plc_zero] at h0
  have hfn := fnOk_of_code hc
  simp only [fnOk, Bool.and_eq_true, List.all_eq_true] at hfn
  have hl : linked (encB f) ((List.range' 0 f.ins.length).map (plc f.ins (longs f.ins))) = f.ins := by
    refine List.ext_getElem (by simp [linked_len]) fun i h1 h2 => ?_
    have hd := (dec_at hc (i := i) h2).2.2
    simp only [linked, rawX, List.getElem_map, List.getElem_range', Nat.one_mul, Nat.zero_add, hd]
    rw [linkX, rawOf]
    by_cases hj : jmp f.ins[i] = true
    · have hj2 : jmp { f.ins[i] with n := (plc f.ins (longs f.ins) f.ins[i].n.toNat : Nat) } = true := hj
      have hok := hfn.2 _ (List.getElem_mem h2)
      have hn : 0 ≤ f.ins[i].n ∧ f.ins[i].n < f.ins.length := by
        simp only [insOk, Bool.and_eq_true] at hok
        have h5 := hok.2
        have hjo : f.ins[i].op = 20 ∨ f.ins[i].op = 21 := by simpa [jmp] using hj
        rcases hjo with ho | ho <;> simp [fN, mostN, ho, inR] at h5 <;> omega
      simp only [hj, if_true, hj2]
      rw [atOf_plc hL (by omega), Int.toNat_of_nonneg hn.1]
    · simp only [hj, if_false, Bool.false_eq_true]
  have hf : decFn f.params f.slots (encB f) ((List.range' 0 f.ins.length).map (plc f.ins (longs f.ins))) = f := by rw [decFn, hl]
  rw [decF, h0, Option.bind_some, hf, if_pos]
  rw [decOkF, hc]
  simp
end Go.Proofs.YtbbobekgnclkfaaDoor
namespace Go.Proofs.YtbbobekgnclkfaaDoor
open Go Go.Aw
set_option maxRecDepth 100000
set_option maxHeartbeats 4000000
theorem nms_name {L : List (List UInt8)} (h : nmsOk L = true) : ∀ w ∈ L, isName w = true := by
  intro w hw
  obtain ⟨i, hi, rfl⟩ := List.getElem_of_mem hw
  rw [nmsOk, nmsT, List.all_eq_true] at h
  have := h i (List.mem_range.2 hi)
  simp only [nmAt, List.getD_eq_getElem?_getD, List.getElem?_eq_getElem hi, Option.getD_some, Bool.and_eq_true] at this
  exact this.1
theorem objOf_parts {fs : List Mfn} {n : Int} {names : List (List UInt8)} {o : Obj} (ho : objOf fs n names = some o) : ∃ (N : Nat) (f : Mfn) (nm : List UInt8), n = N ∧ fs[N]? = some f ∧ names[N]? = some nm ∧ names.length = fs.length ∧ fnOk N f = true ∧ N + f.ins.length ≤ 2000 ∧ N ≤ 3 ∧ codeOk f = true ∧ codeOk (blankF f) = true ∧ (∀ w ∈ names, isName w = true) ∧ o = ⟨nm, f.params, f.slots, encB (blankF f), callsF f, nmF f names⟩ := by
  unfold objOf at ho
  split at ho
  case isFalse => cases ho
  rename_i hh
  split at ho
  case h_2 => cases ho
  rename_i f hf
  split at ho
  case isFalse => cases ho
  rename_i hc
  cases ho
  obtain ⟨h1, h2, h3, h4⟩ := hh
  obtain ⟨j, rfl⟩ : ∃ j : Nat, n = j := ⟨n.toNat, by simp [inR] at h2; omega⟩
  rw [Int.toNat_natCast] at hf ⊢
  have hj := (List.getElem?_eq_some_iff.1 hf).1
  obtain ⟨q1, q2, q3⟩ := mach_fn h1 hf
  have hn : names[j]? = some names[j] := List.getElem?_eq_getElem (by omega)
  exact ⟨j, f, names[j], rfl, hf, hn, h3, q1, q3, q2, hc, by rw [codeOk_blank q1 q2 q3]; exact hc, nms_name h4, by rw [List.getD_eq_getElem?_getD, hn]; rfl⟩
theorem blank_blank (f : Mfn) : blankF (blankF f) = blankF f := by
  have : ∀ x, blankI (blankI x) = blankI x := fun x => by
    unfold blankI
    by_cases h : x.op = 14 <;> simp [h]
  simp [blankF, Function.comp_def, this]
theorem objOk_of {fs : List Mfn} {n : Int} {names : List (List UInt8)} {o : Obj} (ho : objOf fs n names = some o) : objOk o = true := by
  obtain ⟨N, f, nm, rfl, hf, hn, hl, q1, q2, q3, hc, hcb, hnm, rfl⟩ := objOf_parts ho
  have hd := dec_enc hcb
  have hd' : decF f.params f.slots (encB (blankF f)) = some (blankF f) := hd
  have hcl : callsF (blankF f) = callsF f := callsF_blank (by rw [hc, hcb])
  have hN := (List.getElem?_eq_some_iff.1 hf).1
  simp only [objOk, hd', hnm _ (List.mem_of_getElem? hn), hcl, blank_blank, Bool.true_and, decide_true, Bool.and_true]
  have hlen : (nmF f names).length = (callsF f).length := (calls_names f names hc).symm
  simp only [hlen, decide_true, Bool.true_and, List.all_eq_true]
  intro w hw
  rw [nmF, List.mem_flatMap] at hw
  obtain ⟨x, hx, hw⟩ := hw
  unfold nmC at hw
  split at hw
  · rename_i hop
    rw [List.mem_singleton] at hw
    simp only [fnOk, Bool.and_eq_true, List.all_eq_true] at q1
    have hxn := insOk_n (q1.2 x hx) hop
    have hlt : x.n.toNat < names.length := by omega
    rw [hw, List.getD_eq_getElem?_getD, List.getElem?_eq_getElem hlt]
    exact hnm _ (List.getElem_mem hlt)
  · cases hw
theorem cls_nms (f : Mfn) (names : List (List UInt8)) (hc : codeOk f = true) : ∀ i, i ≤ f.ins.length → (clsT f i).length = (nmT f names i).length
  | 0, _ => by simp [clsT_zero, nmT_zero]
  | i + 1, h => by
    have hp : i < (plaF f).length := by rw [plaF_len, if_pos hc]; exact h
    rw [clsT_succ h hp, nmT_succ h, List.length_append, List.length_append, cls_nms f names hc i (by omega)]
    congr 1
    unfold clsI nmC
    split <;> rfl
theorem nmT_pre (f : Mfn) (names : List (List UInt8)) (i : Nat) : ∃ r, nmF f names = nmT f names i ++ r := by
  refine ⟨(f.ins.drop i).flatMap (nmC names), ?_⟩
  rw [nmT, ← List.flatMap_append, List.take_append_drop]; rfl
theorem clsT_pre (f : Mfn) (i : Nat) : ∃ r, callsF f = clsT f i ++ r := by
  refine ⟨((List.zip f.ins (plaF f)).drop i).flatMap fun x => clsI x.1 x.2, ?_⟩
  rw [clsT, ← List.flatMap_append, List.take_append_drop]; rfl
/-- The call at an instruction. -/
theorem call_fact {f : Mfn} {names : List (List UInt8)} {N : Nat} (q1 : fnOk N f = true) (hN : N < names.length) (hc : codeOk f = true) (hcb : codeOk (blankF f) = true) {i : Nat} (h : i < f.ins.length) (ho : f.ins[i].op = 14) :
    ∃ (w : List UInt8) (t : Nat), names[f.ins[i].n.toNat]? = some w ∧ 0 ≤ f.ins[i].n ∧ (nmF f names)[(nmT f names i).length]? = some w ∧ (callsF f)[(nmT f names i).length]? = some (t : Int) ∧ (encB (blankF f))[t]? = some 0 ∧ (nmT f names (i + 1)).length = (nmT f names i).length + 1 := by
  simp only [fnOk, Bool.and_eq_true, List.all_eq_true] at q1
  have hxn := insOk_n (q1.2 _ (List.getElem_mem h)) ho
  have hlt : f.ins[i].n.toNat < names.length := by omega
  have hg := List.getElem?_eq_getElem hlt
  obtain ⟨r1, e1⟩ := nmT_pre f names (i + 1)
  obtain ⟨r2, e2⟩ := clsT_pre f (i + 1)
  have hp : i < (plaF f).length := by rw [plaF_len, if_pos hc]; exact h
  have hpl : (plaF f)[i] = plc f.ins (longs f.ins) i := by
    have hpe : plaF f = plcs f.ins (longs f.ins) f.ins.length := by rw [plaF, if_pos hc]
    have h2 : (plaF f)[i]? = some (plc f.ins (longs f.ins) i) := by rw [hpe]; exact plcs_get h
    rw [List.getElem?_eq_getElem hp] at h2
    exact Option.some.inj h2
  have hb : i < (blankF f).ins.length := by simp [blankF]; exact h
  have hbo : (blankF f).ins[i] = { f.ins[i] with n := 0 } := by simp [blankF, blankI, ho]
  have hca := call_at (f := blankF f) (i := i) hb (by rw [hbo]; exact ho)
  rw [hbo] at hca
  have hlb : longs (blankF f).ins = longs f.ins := longs_blank f.ins
  have hplb : plc (blankF f).ins (longs (blankF f).ins) i = plc f.ins (longs f.ins) i := by rw [hlb]; exact plc_blank _ _ _
  rw [hplb] at hca
  refine ⟨names[f.ins[i].n.toNat], plc f.ins (longs f.ins) i + 1, hg, hxn.1, ?_, ?_, hca, ?_⟩
  · rw [e1, nmT_succ h, nmC, if_pos ho, List.append_assoc, List.getElem?_append_right (Nat.le_refl _), Nat.sub_self, List.getD_eq_getElem?_getD, hg]; rfl
  · rw [e2, clsT_succ h hp, clsI, if_pos ho, List.append_assoc, ← cls_nms f names hc i (by omega), List.getElem?_append_right (Nat.le_refl _), Nat.sub_self, hpl]; simp
  · rw [nmT_succ h, nmC, if_pos ho, List.length_append]; rfl
theorem objOf_size {fs : List Mfn} {i : Int} {names : List (List UInt8)} {o : Obj} (ho : objOf fs i names = some o) : o.code.length ≤ 8000 ∧ o.calls.length ≤ 2000 ∧ o.names.length ≤ 2000 := by
  unfold objOf at ho
  split at ho
  case isFalse => cases ho
  rename_i hh
  split at ho
  case h_2 => cases ho
  rename_i f hf
  split at ho
  case isFalse => cases ho
  rename_i hc
  cases ho
  obtain ⟨q1, q2, q3⟩ := mach_fn hh.1 hf
  have h1 := encB_len (blankF f)
  have h2 : (blankF f).ins.length = f.ins.length := by simp [blankF]
  have h3 := nmT_len f names f.ins.length
  rw [nmT_all] at h3
  have h4 := calls_names f names hc
  refine ⟨?_, ?_, ?_⟩
  · show (encB (blankF f)).length ≤ 8000
    omega
  · show (callsF f).length ≤ 2000
    omega
  · show (nmF f names).length ≤ 2000
    omega
end Go.Proofs.YtbbobekgnclkfaaDoor
namespace Go.Proofs.YtbbobekgnclkfaaDoor
open Go Go.Aw
set_option maxRecDepth 100000
set_option maxHeartbeats 4000000
variable (G : Glob)
theorem t_wwInts (l : List Int) (hl : l.length ≤ 1048576) : VF Tryd.prog G n_laws_wwInts [.p (numL l), .p (numL l)] (.p (.bool true)) := by
  refine AC.go k_laws_wwInts ?_
  have hnl : numL l = .lst 1 (l.map fun n => [.int .i64 n]) := rfl
  simp -implicitDefEqProofs [F_laws_wwInts, hnl]
  refine loopA (fun i : Nat => tsOf 29 [(0, .p (numL l)), (1, .p (numL l)), (10, .p (.int .i64 l.length)), (11, .p (.int .i64 i))]) (fun _ => []) (fun i => i ≤ l.length) (fun i => l.length - i) 0 (by simp) (wkt_nil rfl (by simp [below, hnl])) ?_
  intro i hi
  simp -implicitDefEqProofs [hnl]
  refine cndb (fun h => ?_) (fun h => ?_)
  · simp at h
    have hg := List.getElem?_eq_getElem h
    simp -implicitDefEqProofs [hg]
    exact ⟨i + 1, h, by omega, wkt_nil rfl (by simp [below, hnl, w1 (i := i) (by omega)])⟩
  · simp -implicitDefEqProofs []
theorem szF_small : ∀ (fs : List Mfn), (∀ f ∈ fs, f.ins.length ≤ 20) → szF fs ≤ 21 * fs.length
  | [], _ => by simp [szF]
  | f :: r, h => by
    have := szF_small r fun g hg => h g (List.mem_cons_of_mem _ hg)
    have := h f (List.mem_cons_self ..)
    simp [szF] at *
    omega
theorem szW_small : ∀ (ws : List (List UInt8)), (∀ w ∈ ws, w.length ≤ 2) → szW ws ≤ 3 * ws.length
  | [], _ => by simp [szW]
  | w :: r, h => by
    have := szW_small r fun g hg => h g (List.mem_cons_of_mem _ hg)
    have := h w (List.mem_cons_self ..)
    simp [szW] at *
    omega
theorem nm_small {f : Mfn} {ws : List (List UInt8)} {w : List UInt8} (h : w ∈ nmF f ws) (hs : ∀ w ∈ ws, w.length ≤ 2) : w.length ≤ 2 := by
  rw [nmF, List.mem_flatMap] at h
  obtain ⟨x, _, hw⟩ := h
  unfold nmC at hw
  split at hw
  · rw [List.mem_singleton] at hw
    rw [hw, List.getD_eq_getElem?_getD]
    cases e : ws[x.n.toNat]? with
    | none => simp
    | some v => exact hs v (List.mem_of_getElem? e)
  · cases hw
variable (hG : G g_forms = some pvForms) (hK : G g_keys = some pvKeys)
include hG hK
theorem law_FnObjectOf (l : List Int) (hb : BytesOk l) : VF Tryd.prog G n_laws_FnObjectOf [.p (bysL l)] (.p (.bool true)) := by
  refine AC.go k_laws_FnObjectOf ?_
  have hbl : bysL l = .lst 1 (l.map fun n => [.int .u8 n]) := rfl
  by_cases hlen : 1048576 < l.length
  · have hlen' : (1048576 : Int) < l.length := by omega
    simp -implicitDefEqProofs [F_laws_FnObjectOf, hbl, hlen, hlen']
  have hlen' : ¬ (1048576 : Int) < l.length := by omega
  simp -implicitDefEqProofs [F_laws_FnObjectOf, hbl, hlen, hlen']
  rw [← hbl]
  refine (d_objectOf G l hb).mono ?_
  rintro r h ⟨fs, n, ws, rfl, rfl, h3, hf, hw, hwl⟩
  have hz1 := szF_small fs hf
  have hz2 := szW_small ws hwl
  have hz : szF fs + szW ws ≤ 1048576 := by omega
  simp -implicitDefEqProofs [callR_nxt]
  cases ho : objOf fs n ws with
  | none =>
    have hsp := s_ObjectOf G fs n ws hz
    rw [ho] at hsp
    have h0 := i_ObjectOf0 G hG hK hz ho
    simp only [zObjV] at h0
    refine h0.use ?_
    simp -implicitDefEqProofs []
    refine hsp.use ?_
    simp -implicitDefEqProofs [Obj.cs, zObj]
  | some o =>
    have hsp := s_ObjectOf G fs n ws hz
    rw [ho] at hsp
    have hval := objOk_of ho
    have hbnd := objOf_size ho
    obtain ⟨N, f, nm, rfl, hfN, hnN, hwf, q1, q2, q3, hc, hcb, hnm, ho'⟩ := objOf_parts ho
    have en : o.name = nm := by rw [ho']
    have ep : o.params = f.params := by rw [ho']
    have es : o.slots = f.slots := by rw [ho']
    have ec : o.code = encB (blankF f) := by rw [ho']
    have ea : o.calls = callsF f := by rw [ho']
    have em : o.names = nmF f ws := by rw [ho']
    have hNl := (List.getElem?_eq_some_iff.1 hfN).1
    have hNw : N < ws.length := by omega
    have hbl2 : ∀ L, bysL L = .lst 1 (L.map fun n => [.int .u8 n]) := fun _ => rfl
    have hsl : ∀ L, strL L = .lst 1 (L.map fun w => [.str w]) := fun _ => rfl
    have hnl : ∀ L, numL L = .lst 1 (L.map fun n => [.int .i64 n]) := fun _ => rfl
    have hfl : fnsL fs = .lst 3 (fs.map Mfn.cs) := rfl
    have hil : ∀ L, insL L = .lst 5 (L.map Mins.cs) := fun _ => rfl
    refine (t_iObjectOf G hG hK hz ho).use ?_
    simp -implicitDefEqProofs [Obj.cs]
    refine hsp.use ?_
    have hcm : ∀ l : List Int, List.map ((fun x => List.map AV.p x) ∘ fun n => [PV.int .u8 n]) l = l.map fun n => [AV.p (.int .u8 n)] := fun l => rfl
    simp -implicitDefEqProofs [Obj.cs]
    simp -implicitDefEqProofs [hbl2, hcm, bytesA_bys]
    refine (t_wwInts G o.calls (by omega)).use ?_
    simp -implicitDefEqProofs [hsl, hnN, en, hfl, hfN, Mfn.cs]
    have h20 : f.ins.length ≤ 20 := hf f (List.mem_of_getElem? hfN)
    have hni : ∀ k, (nmT f ws k).length ≤ k := nmT_len f ws
    rw [← hsl, ← hsl, ← hfl, ← hbl2]
    refine loopA (fun i : Nat => tsOf 155 [(3, .ptr 0 1 0 0), (4, .p (.int .i64 N)), (5, .p (strL ws)), (6, .ptr 1 6 0 0), (10, .p (.int .i64 (nmT f ws i).length)), (89, .p (insL f.ins)), (90, .p (.int .i64 f.ins.length)), (91, .p (.int .i64 i))])
      (fun _ => [.row 1 [[.p (fnsL fs)]], .row 6 [[.p (.str nm), .p (.int .i64 o.params), .p (.int .i64 o.slots), .p (bysL o.code), .p (numL o.calls), .p (strL o.names)]]]) (fun i => i ≤ f.ins.length) (fun i => f.ins.length - i) 0 (by simp) (wkt_fst (m := 2) (by simp) (fst_take rfl rfl (by simp [okO])) (by simp [below, nmT_zero, hil])) ?_
    intro i hi
    simp -implicitDefEqProofs [hil]
    refine cndb (fun h => ?_) (fun h => ?_)
    · simp at h
      have hg : f.ins[i]? = some f.ins[i] := List.getElem?_eq_getElem h
      have hcall := call_fact q1 hNw hc hcb h
      have hnop : f.ins[i].op ≠ 14 → nmT f ws (i + 1) = nmT f ws i := fun hne => by rw [nmT_succ h, nmC, if_neg hne, List.append_nil]
      generalize f.ins[i] = x at hg hcall hnop
      have hwi : IntKind.i64.wrap ((i : Int) + 1) = ((i + 1 : Nat) : Int) := w1 (by omega)
      by_cases hop : x.op = 14
      · obtain ⟨w, t, c1, c2, c3, c4, c5, c6⟩ := hcall hop
        obtain ⟨K, hxn⟩ : ∃ K : Nat, x.n = K := ⟨x.n.toNat, by omega⟩
        rw [hxn, Int.toNat_natCast] at c1
        have hnn := hni i
        have hwc : IntKind.i64.wrap (((nmT f ws i).length : Int) + 1) = (((nmT f ws (i + 1)).length : Nat) : Int) := by rw [c6]; exact w1 (by omega)
        simp -implicitDefEqProofs [hg, Mins.cs, hop, hxn, hsl, hnl, hbl2, em, ea, ec, c1, c3, c4, c5, hwi, hwc]
        refine ⟨i + 1, h, by omega, ?_⟩
        rw [← em, ← ea, ← ec, ← hsl, ← hsl, ← hnl, ← hbl2]
        exact wkt_fst (m := 2) (by simp) (fst_take rfl rfl (by simp [okO])) (by simp [below, hil, hsl])
      · simp -implicitDefEqProofs [hg, Mins.cs, hop, hwi]
        rw [← hnop hop]
        exact ⟨i + 1, h, by omega, wkt_fst (m := 2) (by simp) (fst_take rfl rfl (by simp [okO])) (by simp [below, hil])⟩
    · simp at h
      have hie : i = f.ins.length := by omega
      have hsm : ObjSm o := ⟨by have := hwl nm (List.mem_of_getElem? hnN); rw [en]; omega, by omega, by omega, by omega, fun w hw => by
        rw [em] at hw
        have := nm_small hw hwl; omega, by rw [ec]; exact encB_ok _⟩
      have hzo : szO o ≤ 1048576 := by
        have h1 := szW_small o.names (fun w hw => by rw [em] at hw; exact nm_small hw hwl)
        have h2 := hwl nm (List.mem_of_getElem? hnN)
        have h3 : szO o = o.name.length + o.code.length + o.calls.length + szW o.names := rfl
        rw [en] at h3
        omega
      have hv := i_ObjectValid G hG hK o hsm hzo
      rw [hval] at hv
      simp only [Obj.cs, en, List.map] at hv
      have hcnt : (nmT f ws i).length = o.names.length := by rw [hie, nmT_all, em]
      simp -implicitDefEqProofs [hsl, hcnt]
      refine hv.use ?_
      simp -implicitDefEqProofs [hfl, hfN, Mfn.cs, ep, es]
end Go.Proofs.YtbbobekgnclkfaaDoor
