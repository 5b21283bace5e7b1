/-
  How a machine's function is read from bytes: the reference's walk.
-/
import Derived.Test.YtbbobekgnclkfaaDoorM26
import Derived.Test.YtbbobekgnclkfaaDoorM19
namespace Go.Proofs.YtbbobekgnclkfaaDoor
open Go Go.Aw
set_option maxRecDepth 100000
set_option maxHeartbeats 4000000
variable (G : Glob)

structure DS where
  ps : List Nat
  a : Nat
def sdH (p s : Int) (ins : List Mins) (ps : List Nat) : List AO := [.row 3 [zMfn], .row 3 [[.p (.int .i64 p), .p (.int .i64 s), slE 3 5 (ins.map Mins.av)]], intsO ps, rowE 5 (ins.map Mins.av)]
theorem av_pure (ins : List Mins) : ∀ x ∈ ins.map Mins.av, belowL 0 x := by
  intro x hx; obtain ⟨m, _, rfl⟩ := List.mem_map.1 hx; simp [Mins.av_eq, belowL, below]
theorem ints_pure (ps : List Nat) : ∀ x ∈ ps.map (fun (n : Nat) => [AV.p (.int .i64 (n : Int))]), belowL 0 x := by
  intro x hx; obtain ⟨m, _, rfl⟩ := List.mem_map.1 hx; simp [belowL, below]
theorem raw_app (code : List Int) (ps : List Nat) (a : Nat) : rawX code (ps ++ [a]) = rawX code ps ++ [decI code a] := by simp [rawX]
def K_spec_DecodeFn : AK := .seq (.reg [⟨(some 6), none, .alloc [(.p (.int .i64 0)), (.p (.int .i64 0)), .nils]⟩, ⟨(some 7), none, .mov (.c (.p (.bool false)))⟩]) (.seq (.reg [⟨(some 17), none, .mov (.t 0)⟩, ⟨(some 18), none, .mov (.t 1)⟩, ⟨(some 19), none, .bld [(.p (.int .i64 0)), (.p (.int .i64 0)), .nils] [(0, 1, (.t 17)), (1, 1, (.t 18))]⟩, ⟨(some 8), none, .alloc [(.p (.int .i64 0)), (.p (.int .i64 0)), .nils]⟩, ⟨none, none, .st 3 (.t 8) (.t 19)⟩]) (.seq (.reg [⟨(some 20), none, .bsl 1 [(.p (.int .i64 0))] 0 []⟩, ⟨(some 9), none, .mov (.t 20)⟩]) (.cut (.seq (.reg [⟨(some 10), none, .mov (.c (.p (.int .i64 0)))⟩]) (.blk 0 (.loop (.seq (.seq (.reg [⟨(some 21), none, .mov (.t 10)⟩, ⟨(some 22), none, .mov (.t 2)⟩, ⟨(some 23), none, .len false (.t 22)⟩, ⟨(some 24), none, .bin .lss (.t 21) (.t 23)⟩, ⟨(some 25), none, .mov (.t 24)⟩, ⟨(some 26), (some (25, true)), .mov (.t 2)⟩, ⟨(some 27), (some (25, true)), .len false (.t 26)⟩, ⟨(some 28), (some (25, true)), .bin .leq (.t 27) (.c (.p (.int .i64 8000)))⟩, ⟨(some 29), none, .pick (.t 25) (.t 28) (.c (.p (.bool false)))⟩]) (.cond (.t 29) (.skip) (.exit 0))) (.blk 1 (.seq (.reg [⟨(some 31), none, .mov (.t 2)⟩, ⟨(some 32), none, .mov (.t 10)⟩, ⟨(some 33), none, .call n_spec_l25One [(.t 31), (.t 32)]⟩, ⟨(some 30), none, .mov (.t 33)⟩, ⟨(some 34), none, .ext 0 (.t 30)⟩, ⟨(some 35), none, .ext 1 (.t 30)⟩, ⟨(some 36), none, .ext 2 (.t 30)⟩, ⟨(some 11), none, .alloc [(.p (.int .i64 0)), (.p (.int .i64 0)), (.p (.int .i64 0)), (.p (.int .i64 0)), (.p (.int .i64 0))]⟩, ⟨none, none, .st 5 (.t 11) (.t 34)⟩, ⟨(some 12), none, .mov (.t 35)⟩, ⟨(some 13), none, .mov (.t 36)⟩]) (.seq (.seq (.reg [⟨(some 37), none, .mov (.t 13)⟩, ⟨(some 38), none, .not (.t 37)⟩]) (.cond (.t 38) (.seq (.reg [⟨(some 39), none, .bld [(.p (.int .i64 0)), (.p (.int .i64 0)), .nils] []⟩, ⟨none, none, .st 3 (.t 6) (.t 39)⟩, ⟨(some 7), none, .mov (.c (.p (.bool false)))⟩]) (.ret)) (.skip))) (.seq (.reg [⟨(some 40), none, .fldA 2 (.t 8)⟩, ⟨(some 41), none, .ld none (.t 40)⟩, ⟨(some 42), none, .ld (some 5) (.t 11)⟩, ⟨(some 43), none, .bsl 5 [(.p (.int .i64 0)), (.p (.int .i64 0)), (.p (.int .i64 0)), (.p (.int .i64 0)), (.p (.int .i64 0))] 1 [(0, 5, (.t 42))]⟩, ⟨(some 44), none, .app 5 40 (.t 41) (.t 43)⟩, ⟨(some 45), none, .fldA 2 (.t 8)⟩, ⟨none, none, .st 1 (.t 45) (.t 44)⟩]) (.seq (.reg [⟨(some 46), none, .mov (.t 9)⟩, ⟨(some 47), none, .mov (.t 10)⟩, ⟨(some 48), none, .bsl 1 [(.p (.int .i64 0))] 1 [(0, 1, (.t 47))]⟩, ⟨(some 49), none, .app 1 8 (.t 46) (.t 48)⟩, ⟨(some 9), none, .mov (.t 49)⟩]) (.reg [⟨(some 50), none, .mov (.t 10)⟩, ⟨(some 51), none, .mov (.t 12)⟩, ⟨(some 52), none, .bin .add (.t 50) (.t 51)⟩, ⟨(some 10), none, .mov (.t 52)⟩])))))))))) (.seq (.seq (.reg [⟨(some 14), none, .mov (.c (.p (.int .i64 0)))⟩]) (.blk 2 (.loop (.seq (.seq (.reg [⟨(some 53), none, .mov (.t 14)⟩, ⟨(some 54), none, .fldA 2 (.t 8)⟩, ⟨(some 55), none, .ld none (.t 54)⟩, ⟨(some 56), none, .len false (.t 55)⟩, ⟨(some 57), none, .bin .lss (.t 53) (.t 56)⟩]) (.cond (.t 57) (.skip) (.exit 2))) (.seq (.blk 3 (.seq (.reg [⟨(some 60), none, .fldA 2 (.t 8)⟩, ⟨(some 61), none, .ld none (.t 60)⟩, ⟨(some 62), none, .mov (.t 14)⟩, ⟨(some 63), none, .idxS 5 (.t 61) (.t 62)⟩, ⟨(some 64), none, .ld (some 5) (.t 63)⟩, ⟨(some 65), none, .call n_spec_l24Jumps [(.t 64)]⟩]) (.cond (.t 65) (.reg [⟨(some 66), none, .fldA 2 (.t 8)⟩, ⟨(some 68), none, .mov (.t 14)⟩, ⟨(some 69), none, .mov (.t 9)⟩, ⟨(some 70), none, .fldA 2 (.t 8)⟩, ⟨(some 72), none, .mov (.t 14)⟩, ⟨(some 67), none, .ld none (.t 66)⟩, ⟨(some 71), none, .ld none (.t 70)⟩, ⟨(some 73), none, .idxS 5 (.t 71) (.t 72)⟩, ⟨(some 74), none, .fldA 4 (.t 73)⟩, ⟨(some 75), none, .ld none (.t 74)⟩, ⟨(some 76), none, .call n_spec_l10At [(.t 69), (.t 75)]⟩, ⟨none, none, .chk none 66 67⟩, ⟨(some 77), none, .idxS 5 (.t 67) (.t 68)⟩, ⟨(some 78), none, .fldA 4 (.t 77)⟩, ⟨none, none, .st 1 (.t 78) (.t 76)⟩]) (.skip)))) (.reg [⟨(some 58), none, .mov (.t 14)⟩, ⟨(some 59), none, .bin .add (.t 58) (.c (.p (.int .i64 1)))⟩, ⟨(some 14), none, .mov (.t 59)⟩])))))) (.seq (.reg [⟨(some 80), none, .ld (some 3) (.t 8)⟩, ⟨(some 81), none, .call n_spec_EncodeFn [(.t 80)]⟩, ⟨(some 79), none, .mov (.t 81)⟩, ⟨(some 82), none, .ext 0 (.t 79)⟩, ⟨(some 83), none, .ext 1 (.t 79)⟩, ⟨(some 15), none, .mov (.t 82)⟩, ⟨(some 16), none, .mov (.t 83)⟩]) (.seq (.seq (.reg [⟨(some 84), none, .mov (.t 16)⟩, ⟨(some 85), none, .not (.t 84)⟩, ⟨(some 86), none, .mov (.t 85)⟩, ⟨(some 87), (some (86, false)), .mov (.t 15)⟩, ⟨(some 88), (some (86, false)), .btos (.t 87)⟩, ⟨(some 89), (some (86, false)), .mov (.t 2)⟩, ⟨(some 90), (some (86, false)), .btos (.t 89)⟩, ⟨(some 91), (some (86, false)), .bins .neq (.t 88) (.t 90)⟩, ⟨(some 92), none, .pick (.t 86) (.c (.p (.bool true))) (.t 91)⟩]) (.cond (.t 92) (.seq (.reg [⟨(some 93), none, .bld [(.p (.int .i64 0)), (.p (.int .i64 0)), .nils] []⟩, ⟨none, none, .st 3 (.t 6) (.t 93)⟩, ⟨(some 7), none, .mov (.c (.p (.bool false)))⟩]) (.ret)) (.skip))) (.seq (.reg [⟨(some 94), none, .ld (some 3) (.t 8)⟩, ⟨none, none, .st 3 (.t 6) (.t 94)⟩, ⟨(some 7), none, .mov (.c (.p (.bool true)))⟩]) (.ret))))))))
theorem w_spec_DecodeFn : K_spec_DecodeFn.whole = F_spec_DecodeFn.ak := rfl

theorem o_sDecodeFn (p s : Int) (code : List Int) (hb : BytesOk code) (hl : code.length ≤ 1048576) :
    AC Tryd.prog G n_spec_DecodeFn [.p (.int .i64 p), .p (.int .i64 s), .p (bysL code)] [] fun x h => match decF p s code with
      | none => x = .ret (.tup [.agg zMfn, .p (.bool false)])
      | some f => ∃ id, x = .ret (.tup [.agg (f.ov id), .p (.bool true)]) ∧ h[id]? = some (insO f.ins) := by
  refine AC.goK k_spec_DecodeFn w_spec_DecodeFn ?_
  have hbl : bysL code = .lst 1 (code.map fun n => [.int .u8 n]) := rfl
  have hin : ∀ ps, intsO ps = .row 1 (ps.map fun (n : Nat) => [.p (.int .i64 (n : Int))]) := fun _ => rfl
  simp -implicitDefEqProofs [K_spec_DecodeFn, F_spec_DecodeFn]
  refine cutA (fun ps : List Nat => tsOf 95 [(0, .p (.int .i64 p)), (1, .p (.int .i64 s)), (2, .p (bysL code)), (6, .ptr 0 3 0 0), (7, .p (.bool false)), (8, .ptr 1 3 0 0), (9, .sl 2 1 0 ps.length)])
    (fun ps => sdH p s (rawX code ps) ps) (fun ps => (code.length ≤ 8000 → decFrom code 0 = some ps) ∧ (¬ code.length ≤ 8000 → ps = []) ∧ 2 * ps.length ≤ code.length) ?_ fun ps hps => ?_
  · simp -implicitDefEqProofs
    refine loopA (fun d : DS => tsOf 95 [(0, .p (.int .i64 p)), (1, .p (.int .i64 s)), (2, .p (bysL code)), (6, .ptr 0 3 0 0), (7, .p (.bool false)), (8, .ptr 1 3 0 0), (9, .sl 2 1 0 d.ps.length), (10, .p (.int .i64 d.a))])
      (fun d => sdH p s (rawX code d.ps) d.ps) (fun d => (code.length ≤ 8000 → decFrom code 0 = (decFrom code d.a).map (d.ps ++ ·)) ∧ (¬ code.length ≤ 8000 → d.ps = [] ∧ d.a = 0) ∧ 2 * d.ps.length ≤ d.a ∧ d.a ≤ code.length)
      (fun d => code.length - d.a) ⟨[], 0⟩ (by simp) ?_ ?_
    · simp only [sdH, rawX, List.map_nil, slE_nil, rowE_nil]
      exact wkt_dup [0, 1, 2, 0] (by simp) (by simp) (by simp [lives, intsO]) (hw_row rfl (by simp [zMfn, belowL, below]) (hw_row rfl (by simp [belowL, below]) (hw_row rfl (by simp) (hw_dead (by simp) hw_nil)))) (by simp [below, ren, bysL])
    · rintro ⟨ps, a⟩ ⟨i1, i2, i3, i4⟩
      simp only at i1 i2 i3 i4
      simp -implicitDefEqProofs [sdH, hbl]
      by_cases h1 : a < code.length
      · by_cases h8 : code.length ≤ 8000
        · have h8i : (code.length : Int) ≤ 8000 := by omega
          simp -implicitDefEqProofs [h1, h8i]
          have hone := s_l25One G code hb a h1 hl
          by_cases hg : decGood code a = true
          · rw [if_pos hg] at hone
            refine hone.use ?_
            have hlen : (rawX code ps).length = ps.length := raw_len _ _
            have hz2 := decSz_two code a
            have hgl := decGood_le hg
            have hw : IntKind.i64.wrap ((a : Int) + decSz code a) = ((a + decSz code a : Nat) : Int) := i64_nat (by omega) (by omega)
            simp -implicitDefEqProofs [hin, hlen, hw, Mins.cs]
            refine ⟨⟨by omega, by omega⟩, ⟨by omega, by omega⟩, ⟨ps ++ [a], a + decSz code a⟩, ⟨?_, ?_⟩, by simp only; omega, ?_⟩
            · intro _
              rw [i1 h8, decFrom_step h1 hg, Option.map_map]
              simp [Function.comp_def]
            · constructor
              · intro h; omega
              · simp; omega
            · simp only [sdH, raw_app, List.map_append, List.map_cons, List.map_nil]
              have hne : ([(decI code a).av] : List (List AV)) ≠ [] := by simp
              rw [slE_app _ hne, rowE_app _ hne]
              refine wkt_pick [0, 1, 8, 6] rfl (by decide) (hw_row rfl (by simp [zMfn, belowL, below]) (hw_rowr (by simp [below]) (by simp [ren, renL, hlen]) (hw_row (by simp [List.take_of_length_le]) (by simpa using ints_pure (ps ++ [a])) (hw_row rfl (by simpa [rawX] using av_pure (rawX code (ps ++ [a]))) hw_nil)))) ?_
              simp [below, ren, bysL]
          · rw [if_neg hg] at hone
            refine hone.use ?_
            have hd : decF p s code = none := by rw [decF, i1 h8, decFrom_bad h1 hg]; rfl
            simp -implicitDefEqProofs [hd, zMfn]
        · obtain ⟨rfl, rfl⟩ := i2 h8
          have h8i : ¬ (code.length : Int) ≤ 8000 := by omega
          simp -implicitDefEqProofs [h1, h8i]
          refine ⟨[], ⟨fun h => by omega, by simp⟩, ?_⟩
          refine wkt_dup [0, 1, 2, 3] (by simp) (by simp) (by simp [lives, intsO, rowE, rawX]) (hw_row rfl (by simp [zMfn, belowL, below]) (hw_rowr (by simp [below]) (by simp [ren, renL]) (hw_row rfl (by simp) (hw_rowE rfl (av_pure _) hw_nil)))) ?_
          simp [below, ren, bysL]
      · simp -implicitDefEqProofs [h1]
        refine ⟨ps, ⟨fun h8 => ?_, fun h8 => (i2 (by omega)).1, by omega⟩, ?_⟩
        · rw [i1 h8, decFrom_end (by omega)]; simp
        refine wkt_ren [0, 1, 2, 3] (by simp) (by simp) (by decide) (hw_row rfl (by simp [zMfn, belowL, below]) (hw_rowr (by simp [below]) (by simp [ren, renL]) (hw_row rfl (by simp) (hw_rowE rfl (av_pure _) hw_nil)))) ?_
        simp [below, ren, bysL]
  obtain ⟨p1, p2, p3⟩ := hps
  have hres : decF p s code = if decOkF code (decFn p s code ps) then some (decFn p s code ps) else none := by
    by_cases h8 : code.length ≤ 8000
    · rw [decF, p1 h8]; rfl
    · rw [decF_big h8, p2 h8, if_neg]
      intro hk
      simp only [decOkF, Bool.and_eq_true] at hk
      have := codeOk_pos hk.1
      simp [decFn, linked, rawX] at this
  have hrl := raw_len code ps
  simp -implicitDefEqProofs [sdH]
  refine loopA (fun i : Nat => tsOf 95 [(0, .p (.int .i64 p)), (1, .p (.int .i64 s)), (2, .p (bysL code)), (6, .ptr 0 3 0 0), (7, .p (.bool false)), (8, .ptr 1 3 0 0), (9, .sl 2 1 0 ps.length), (14, .p (.int .i64 i))])
    (fun i => sdH p s (linkAt code ps i) ps) (fun i => i ≤ ps.length) (fun i => ps.length - i) 0 (by simp) ?_ ?_
  · simp only [sdH, linkAt_zero]
    refine wkt_ren [0, 1, 2, 3] (by simp) (by simp) (by decide) (hw_row rfl (by simp [zMfn, belowL, below]) (hw_rowr (by simp [below]) (by simp [ren, renL]) (hw_row rfl (by simp) (hw_rowE rfl (av_pure _) hw_nil)))) ?_
    simp [below, ren, bysL]
  · intro i hi
    have hll := linkAt_len (code := code) hi
    simp -implicitDefEqProofs [sdH, hll]
    refine cndb (fun h1 => ?_) (fun h1 => ?_)
    · simp at h1
      have hne : (linkAt code ps i).map Mins.av ≠ [] := by intro e; rw [List.map_eq_nil_iff] at e; rw [e] at hll; simp at hll; omega
      have hll1 := linkAt_len (code := code) (ps := ps) (i := i + 1) h1
      have hne1 : (linkAt code ps (i + 1)).map Mins.av ≠ [] := by intro e; rw [List.map_eq_nil_iff] at e; rw [e] at hll1; simp at hll1; omega
      have hg := linkAt_get (code := code) h1
      have hwk : ∀ l : List (Nat × AV), TWA [0, 1, 2, 3] l [(0, .p (.int .i64 p)), (1, .p (.int .i64 s)), (2, .p (bysL code)), (6, .ptr 0 3 0 0), (7, .p (.bool false)), (8, .ptr 1 3 0 0), (9, .sl 2 1 0 ps.length), (14, .p (.int .i64 ((i + 1 : Nat) : Int)))] →
          Wk 0 (tsOf 95 l) [.row 3 [zMfn], .row 3 [[.p (.int .i64 p), .p (.int .i64 s), .sl 3 5 0 ps.length]], intsO ps, .row 5 ((linkAt code ps (i + 1)).map Mins.av)] (tsOf 95 [(0, .p (.int .i64 p)), (1, .p (.int .i64 s)), (2, .p (bysL code)), (6, .ptr 0 3 0 0), (7, .p (.bool false)), (8, .ptr 1 3 0 0), (9, .sl 2 1 0 ps.length), (14, .p (.int .i64 ((i + 1 : Nat) : Int)))]) (sdH p s (linkAt code ps (i + 1)) ps) := fun l hl => by
        rw [sdH, slE_ne hne1, rowE_ne hne1, List.length_map, hll1]
        exact wkt_pick [0, 1, 2, 3] rfl (by decide) (hw_row rfl (by simp [zMfn, belowL, below]) (hw_rowr (by simp [below]) (by simp [ren, renL]) (hw_row rfl (by simp) (hw_row rfl (av_pure _) hw_nil)))) hl
      have hsl : slE 3 5 ((linkAt code ps i).map Mins.av) = .sl 3 5 0 ps.length := by rw [slE_ne hne, List.length_map, hll]
      have hrw := rowE_ne (sz := 5) hne
      clear hll
      simp -implicitDefEqProofs [hsl, hrw, hg, h1, Mins.av_eq]
      refine (s_l24Jumps G (decI code ps[i])).use ?_
      cases hj : jmp (decI code ps[i]) with
      | true =>
        have hset := linkAt_set (code := code) h1
        rw [linkX, hj] at hset
        simp -implicitDefEqProofs [hg, h1, Mins.av_eq]
        refine (VF.lend (s_l10At G ps (decI code ps[i]).n (by omega)) (.one (intsO_view rfl) (.keep (by simp [below]) .nil)) rfl).mono ?_
        rintro r h ⟨rfl, rfl⟩
        have hs2 : ((linkAt code ps i).map Mins.av).set i [.p (.int .i64 (decI code ps[i]).op), .p (.int .i64 (decI code ps[i]).a), .p (.int .i64 (decI code ps[i]).b), .p (.int .i64 (decI code ps[i]).c), .p (.int .i64 (atOf ps (decI code ps[i]).n))] = (linkAt code ps (i + 1)).map Mins.av := by
          rw [← hset, List.map_set]; rfl
        simp -implicitDefEqProofs [callR_nxt, hg, h1, Mins.av_eq, splice, hs2, w1 (i := i) (by omega)]
        refine ⟨i + 1, h1, by omega, hwk _ (by simp [below, ren, bysL])⟩
      | false =>
        have hnx := linkAt_next h1 hj
        simp -implicitDefEqProofs [w1 (i := i) (by omega)]
        refine ⟨i + 1, h1, by omega, ?_⟩
        rw [hnx]
        exact hwk _ (by simp [below, ren, bysL])
    · simp at h1
      have hie : i = ps.length := by omega
      subst hie
      simp only [linkAt_all]
      have hv : ∀ h : List AO, h[3]? = some (rowE 5 ((linked code ps).map Mins.av)) → View h (slE 3 5 ((linked code ps).map Mins.av)) (insL (linked code ps)) := fun h e => insV e
      have hen := o_sEncodeFn G (decFn p s code ps) (by rw [decFn]; simp only; rw [linked_len]; omega)
      simp -implicitDefEqProofs []
      refine (AC.lend hen (.agg (.keep (by simp [below]) (.keep (by simp [below]) (.one (hv _ rfl) .nil))) .nil) rfl (by simp [cleanO, bysO, cleanL, clean])).mono ?_
      rintro r h ⟨rfl, rfl⟩
      by_cases hc : codeOk (decFn p s code ps) = true
      rotate_left
      · have hd : decF p s code = none := by rw [hres, if_neg]; simp [decOkF, hc]
        simp -implicitDefEqProofs [callR_nxt, shiftV, shiftL, hc, hd, zMfn]
      have hbo : ∀ l, bysO l = .row 1 (l.map fun n => [.p (.int .u8 n)]) := fun _ => rfl
      have htk : ∀ l : List Int, List.take l.length (l.map fun n => [AV.p (.int .u8 n)]) = l.map fun n => [AV.p (.int .u8 n)] := fun l => List.take_of_length_le (by simp)
      have hcm : ∀ l : List Int, List.map ((fun x => List.map AV.p x) ∘ fun n => [PV.int .u8 n]) l = l.map fun n => [AV.p (.int .u8 n)] := fun l => rfl
      have hpos := codeOk_pos hc
      have hne : (linked code ps).map Mins.av ≠ [] := by intro e; rw [List.map_eq_nil_iff] at e; simp [decFn, e] at hpos
      have hsi := str8_inj (encB_ok (decFn p s code ps)) hb
      simp -implicitDefEqProofs [callR_nxt, shiftV, shiftL, shiftO_bys, hc]
      simp -implicitDefEqProofs [hbo, hbl, htk, hcm, bytesA_bys, hsi]
      by_cases he : encB (decFn p s code ps) = code
      · have hd : decF p s code = some (decFn p s code ps) := by rw [hres, if_pos]; simp [decOkF, hc, he]
        simp -implicitDefEqProofs [he, hd, slE_ne hne, rowE_ne hne]
        exact ⟨by simp [zMfn], 3, rfl, rfl⟩
      · have hd : decF p s code = none := by rw [hres, if_neg]; simp [decOkF, he]
        simp -implicitDefEqProofs [he, hd, zMfn]

def zF : Mfn := ⟨0, 0, []⟩
theorem insO_view {h : List AO} {id : Nat} {ins : List Mins} (e : h[id]? = some (insO ins)) : View h (.sl id 5 0 ins.length) (insL ins) := by
  have := view_row (h := h) (id := id) (sz := 5) (n := ins.length) (ls := ins.map Mins.cs) (by rw [e, insO]; simp [Mins.av]) (by simp) (fun x hx => by obtain ⟨b, _, rfl⟩ := List.mem_map.1 hx; rfl)
  exact this
theorem s_DecodeFn (p s : Int) (code : List Int) (hb : BytesOk code) (hl : code.length ≤ 1048576) :
    VF Tryd.prog G n_spec_DecodeFn [.p (.int .i64 p), .p (.int .i64 s), .p (bysL code)] (.tup [.agg (((decF p s code).getD zF).cs.map .p), .p (.bool (decF p s code).isSome)]) := by
  refine (o_sDecodeFn G p s code hb hl).freezeR (fun t v h e => ?_) fun v h e => ?_
  · cases hd : decF p s code <;> rw [hd] at e
    · cases e
    · obtain ⟨_, e, _⟩ := e; cases e
  · cases hd : decF p s code with
    | none =>
      rw [hd] at e
      cases e
      exact .tup (.agg (.keep (by simp) (.keep (by simp) (.one (View.nils 5) .nil))) (.keep (by simp) .nil)) .nil
    | some f =>
      rw [hd] at e
      obtain ⟨id, e1, e2⟩ := e
      cases e1
      exact .tup (.agg (.keep (by simp) (.keep (by simp) (.one (insO_view e2) .nil))) (.keep (by simp) .nil)) .nil
end Go.Proofs.YtbbobekgnclkfaaDoor
