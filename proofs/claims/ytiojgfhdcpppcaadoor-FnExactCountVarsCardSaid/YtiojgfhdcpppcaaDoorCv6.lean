/-
  Contracts and lemmas that the card needs, part 6.
-/
import Derived.Test.YtiojgfhdcpppcaaDoorCv5
namespace Go.Proofs.YtiojgfhdcpppcaaDoor
open Go Go.Aw
set_option maxRecDepth 100000
set_option maxHeartbeats 4000000
def K_impl_checker_block : AK := .seq (.reg [⟨(some 14), none, .mov (.t 1)⟩, ⟨(some 15), none, .len false (.t 14)⟩, ⟨(some 16), none, .mov (.c (.p (.int .i64 0)))⟩]) (.blk 0 (.loop (.seq (.reg [⟨(some 17), none, .bin .lss (.t 16) (.t 15)⟩]) (.seq (.cond (.t 17) (.skip) (.exit 0)) (.seq (.blk 1 (.seq (.reg [⟨(some 18), none, .idxS 5 (.t 14) (.t 16)⟩, ⟨(some 19), none, .ld (some 5) (.t 18)⟩, ⟨(some 7), none, .alloc [(.p (.int .i64 0)), (.p (.str [])), .nils, .nils, .nils]⟩, ⟨none, none, .st 5 (.t 7) (.t 19)⟩]) (.seq (.seq (.reg [⟨(some 20), none, .fldA 2 (.t 7)⟩, ⟨(some 21), none, .ld none (.t 20)⟩, ⟨(some 22), none, .len false (.t 21)⟩, ⟨(some 23), none, .mov (.c (.p (.int .i64 0)))⟩]) (.blk 2 (.loop (.seq (.reg [⟨(some 24), none, .bin .lss (.t 23) (.t 22)⟩]) (.seq (.cond (.t 24) (.skip) (.exit 2)) (.seq (.blk 3 (.seq (.reg [⟨(some 25), none, .idxS 4 (.t 21) (.t 23)⟩, ⟨(some 26), none, .ld (some 4) (.t 25)⟩, ⟨(some 9), none, .alloc [(.p (.int .i64 0)), (.p (.int .i64 0)), (.p (.str [])), .nils]⟩, ⟨none, none, .st 4 (.t 9) (.t 26)⟩]) (.reg [⟨(some 27), none, .mov (.t 0)⟩, ⟨(some 28), none, .ld (some 4) (.t 9)⟩, ⟨(some 29), none, .mov (.t 2)⟩, ⟨(some 30), none, .call n_impl_checker_expr [(.t 27), (.t 28), (.t 29)]⟩]))) (.reg [⟨(some 31), none, .bin .add (.t 23) (.c (.p (.int .i64 1)))⟩, ⟨(some 23), none, .mov (.t 31)⟩]))))))) (.cut (.seq (.reg [⟨(some 32), none, .fldA 0 (.t 7)⟩, ⟨(some 33), none, .ld none (.t 32)⟩]) (.blk 4 (.seq (.reg [⟨(some 35), none, .bin .eql (.t 33) (.c (.p (.int .i64 1)))⟩, ⟨(some 34), none, .mov (.t 35)⟩]) (.cond (.t 34) (.seq (.seq (.reg [⟨(some 37), none, .mov (.t 2)⟩, ⟨(some 38), none, .nilck (.t 37)⟩, ⟨(some 39), none, .fldA 0 (.t 38)⟩, ⟨(some 41), none, .fldA 1 (.t 7)⟩, ⟨(some 40), none, .ld none (.t 39)⟩, ⟨(some 42), none, .ld none (.t 41)⟩, ⟨(some 43), none, .lk 1 (.p (.int .i64 0)) true (.t 40) (.t 42)⟩, ⟨(some 36), none, .mov (.t 43)⟩, ⟨(some 44), none, .ext 0 (.t 36)⟩, ⟨(some 45), none, .ext 1 (.t 36)⟩, ⟨(some 10), none, .mov (.t 44)⟩, ⟨(some 11), none, .mov (.t 45)⟩]) (.seq (.reg [⟨(some 46), none, .mov (.t 11)⟩]) (.cond (.t 46) (.reg [⟨(some 47), none, .mov (.t 0)⟩, ⟨(some 48), none, .call n_impl_checker_fail [(.t 47), (.c (.p (.int .i64 2)))]⟩]) (.skip)))) (.reg [⟨(some 49), none, .mov (.t 2)⟩, ⟨(some 50), none, .nilck (.t 49)⟩, ⟨(some 51), none, .fldA 0 (.t 50)⟩, ⟨(some 53), none, .fldA 1 (.t 7)⟩, ⟨(some 52), none, .ld none (.t 51)⟩, ⟨(some 54), none, .ld none (.t 53)⟩, ⟨none, none, .mup 1 (.t 52) (.t 54) (.c (.p (.int .i64 0)))⟩])) (.seq (.reg [⟨(some 56), none, .bin .eql (.t 33) (.c (.p (.int .i64 2)))⟩, ⟨(some 55), none, .mov (.t 56)⟩]) (.cond (.t 55) (.seq (.reg [⟨(some 58), none, .mov (.t 2)⟩, ⟨(some 59), none, .fldA 1 (.t 7)⟩, ⟨(some 60), none, .ld none (.t 59)⟩, ⟨(some 61), none, .call n_impl_scope_find [(.t 58), (.t 60)]⟩, ⟨(some 57), none, .mov (.t 61)⟩, ⟨(some 62), none, .ext 0 (.t 57)⟩, ⟨(some 63), none, .ext 1 (.t 57)⟩, ⟨(some 12), none, .mov (.t 62)⟩, ⟨(some 13), none, .mov (.t 63)⟩]) (.seq (.reg [⟨(some 64), none, .mov (.t 13)⟩, ⟨(some 65), none, .not (.t 64)⟩]) (.cond (.t 65) (.reg [⟨(some 66), none, .mov (.t 0)⟩, ⟨(some 67), none, .call n_impl_checker_fail [(.t 66), (.c (.p (.int .i64 3)))]⟩]) (.skip)))) (.skip))))))) (.seq (.reg [⟨(some 68), none, .fldA 0 (.t 7)⟩, ⟨(some 69), none, .ld none (.t 68)⟩, ⟨(some 70), none, .bin .eql (.t 69) (.c (.p (.int .i64 5)))⟩, ⟨(some 71), none, .mov (.t 70)⟩, ⟨(some 72), (some (71, false)), .fldA 0 (.t 7)⟩, ⟨(some 73), (some (71, false)), .ld none (.t 72)⟩, ⟨(some 74), (some (71, false)), .bin .eql (.t 73) (.c (.p (.int .i64 6)))⟩, ⟨(some 75), none, .pick (.t 71) (.c (.p (.bool true))) (.t 74)⟩]) (.cond (.t 75) (.seq (.reg [⟨(some 76), none, .mov (.t 0)⟩, ⟨(some 77), none, .fldA 3 (.t 7)⟩, ⟨(some 79), none, .mov (.t 2)⟩, ⟨(some 78), none, .ld none (.t 77)⟩, ⟨(some 80), none, .call n_impl_scope_open [(.t 79)]⟩, ⟨none, none, .chk none 77 78⟩, ⟨(some 81), none, .call n_impl_checker_block [(.t 76), (.t 78), (.t 80)]⟩]) (.reg [⟨(some 82), none, .mov (.t 0)⟩, ⟨(some 83), none, .fldA 4 (.t 7)⟩, ⟨(some 85), none, .mov (.t 2)⟩, ⟨(some 84), none, .ld none (.t 83)⟩, ⟨(some 86), none, .call n_impl_scope_open [(.t 85)]⟩, ⟨none, none, .chk none 83 84⟩, ⟨(some 87), none, .call n_impl_checker_block [(.t 82), (.t 84), (.t 86)]⟩])) (.skip))))))) (.reg [⟨(some 88), none, .bin .add (.t 16) (.c (.p (.int .i64 1)))⟩, ⟨(some 16), none, .mov (.t 88)⟩]))))))
theorem w_impl_checker_block : K_impl_checker_block.whole = F_impl_checker_block.ak := rfl
theorem icSs_app (fns : List Fd) (k : Nat) : ∀ (a b : List Sm) (m : Scp) (up : List Scp) (c : Int), icSs fns k (a ++ b) m up c = icSs fns k b (icSs fns k a m up c).1 up (icSs fns k a m up c).2
  | [], b, m, up, c => rfl
  | s :: r, b, m, up, c => by rw [List.cons_append, icSs, icSs, icSs_app fns k r]
theorem icSs_take {fns : List Fd} {k : Nat} {l : List Sm} {m : Scp} {up : List Scp} {c : Int} {i : Nat} (h : i < l.length) : icSs fns k (l.take (i + 1)) m up c = icS fns k l[i] (icSs fns k (l.take i) m up c).1 up (icSs fns k (l.take i) m up c).2 := by
  rw [take_succ' h, icSs_app]; rfl
/-- The heap ahead of a scope's own objects. -/
def AX (b0 : AO) (fns : List Fd) (k : Nat) (up : List GS) (gap : List AO) (c : Int) : List AO := b0 :: cO fns k c :: (scH up ++ gap)
theorem AX_len (b0 : AO) (fns : List Fd) (k : Nat) (up : List GS) (gap : List AO) (c : Int) : (AX b0 fns k up gap c).length = 2 + scL up + gap.length := by
  simp only [AX, List.length_cons, List.length_append, scH_len]; omega
theorem CH_AX (b0 : AO) (fns : List Fd) (k : Nat) (up : List GS) (gap : List AO) (m : Scp) (c : Int) (rest : List AO) : CH b0 fns k c (⟨gap, m⟩ :: up) ++ rest = AX b0 fns k up gap c ++ (.mp (mpE m) :: .row 2 [[.mp (2 + scL up + gap.length), upV up]] :: rest) := by
  simp [CH, AX, scH]
theorem CH_AX0 (b0 : AO) (fns : List Fd) (k : Nat) (up : List GS) (gap : List AO) (m : Scp) (c : Int) : CH b0 fns k c (⟨gap, m⟩ :: up) = AX b0 fns k up gap c ++ [.mp (mpE m), .row 2 [[.mp (2 + scL up + gap.length), upV up]]] := by
  have := CH_AX b0 fns k up gap m c []
  rwa [List.append_nil] at this
theorem AX_ok {b0 : AO} {fns : List Fd} {k : Nat} {up : List GS} {gap : List AO} (hb : okO 0 b0) (hs : ScOk up) (hg : ∀ o ∈ gap, okO (2 + scL up + gap.length) o) (c : Int) : ∀ o ∈ AX b0 fns k up gap c, okO (2 + scL up + gap.length) o := by
  refine oks_cons (okO_up hb) (oks_cons (by intro e he; rw [List.mem_singleton.1 he]; simp [below]) ?_)
  intro o ho
  rcases List.mem_append.1 ho with h | h
  · exact scH_ok up hs (by omega) o h
  · exact hg o h
/-- At heads: some objects, and more behind. -/
theorem wkt_app {kk L n : Nat} {A r s : List AO} {l l1 : List (Nat × AV)} (hl : A.length = L) (hk : kk ≤ L + r.length) (ha : ∀ o ∈ A, okO L o) (hr : ∀ o ∈ r, okO (L + r.length) o) (H : FgA (L + r.length) l l1) : Wk kk (tsOf n l) (A ++ (r ++ s)) (tsOf n l1) (A ++ r) := by
  have hll : (A ++ r).length = L + r.length := by rw [List.length_append, hl]
  refine wkt_fst (m := L + r.length) hk (fst_take ?_ hll ?_) H
  · rw [← List.append_assoc, ← hll, List.take_left']; rfl
  · intro o ho
    rcases List.mem_append.1 ho with h | h
    · exact okO_mono (by omega) (ha o h)
    · exact hr o h
theorem mp_ok (m : Scp) (n : Nat) : okO n (.mp (mpE m)) := by
  intro e he
  obtain ⟨x, _, rfl⟩ := List.mem_map.1 he
  simp [below]
variable (G : Glob)
theorem i_block (b0 : AO) {fns : List Fd} {k : Nat} (hf : fns.length ≤ 1073741824) (hk : k ≤ fns.length) (hb : okO 0 b0) : ∀ (N : Nat) (l : List Sm), smsZ l < N → smsZ l ≤ 1073741824 → ∀ (gap : List AO) (m : Scp) (up : List GS) (c : Int), ScOk (⟨gap, m⟩ :: up) →
    AC Tryd.prog G n_impl_checker_block [.ptr 1 3 0 0, .p (smL l), upV (⟨gap, m⟩ :: up)] (CH b0 fns k c (⟨gap, m⟩ :: up)) fun x h => x = .ret (.tup []) ∧ h = CH b0 fns k (icSs fns k l m (sco up) c).2 (⟨gap, (icSs fns k l m (sco up) c).1⟩ :: up) := by
  intro N
  induction N with
  | zero => intro l h; omega
  | succ N ih =>
    intro l hl hz gap m up c hs
    have hll := smsZ_len l
    have hsl : ∀ l, smL l = .lst 5 (l.map Sm.cs) := fun _ => rfl
    have hs' : ∀ m, ScOk (⟨gap, m⟩ :: up) := fun _ => hs
    have hscl : ∀ m, scL (⟨gap, m⟩ :: up) = scL up + gap.length + 2 := fun _ => rfl
    refine cutTo G (AC.goK k_impl_checker_block w_impl_checker_block ?_) (by rw [CH_len, CH_len]; rfl) (by rw [CH_len]; exact CH_ok hb (hs' _) (by rw [hscl]; exact Nat.le_of_eq (by rfl))) (by simp [below])
    have hup : upV (⟨gap, m⟩ :: up) = .ptr (2 + scL up + gap.length + 1) 2 0 0 := rfl
    have hlenC : ∀ c m, (CH b0 fns k c (⟨gap, m⟩ :: up)).length = 2 + scL up + gap.length + 2 := fun c m => by rw [CH_len, hscl]; omega
    have hokC : ∀ c m, ∀ o ∈ CH b0 fns k c (⟨gap, m⟩ :: up), okO (2 + scL up + gap.length + 2) o := fun c m => CH_ok hb (hs' m) (by rw [hscl]; omega)
    have hlenA : ∀ c, (AX b0 fns k up gap c).length = 2 + scL up + gap.length := AX_len b0 fns k up gap
    simp -implicitDefEqProofs [K_impl_checker_block, F_impl_checker_block, hsl, hup]
    refine loopA (fun i : Nat => tsOf 89 [(0, .ptr 1 3 0 0), (2, .ptr (2 + scL up + gap.length + 1) 2 0 0), (14, .p (smL l)), (15, .p (.int .i64 l.length)), (16, .p (.int .i64 i))])
      (fun i => CH b0 fns k (icSs fns k (l.take i) m (sco up) c).2 (⟨gap, (icSs fns k (l.take i) m (sco up) c).1⟩ :: up)) (fun i => i ≤ l.length) (fun i => l.length - i) 0 (by simp) ?_ ?_
    · refine wkt_same (h := CH b0 fns k c (⟨gap, m⟩ :: up)) (Nat.le_refl _) (by rw [hlenC]; exact hokC _ _) ?_
      rw [hlenC]
      simp [below, hsl]
    intro i hi
    have eT := fun h => icSs_take (fns := fns) (k := k) (l := l) (m := m) (up := sco up) (c := c) (i := i) h
    rw [hlenC]
    generalize hst : icSs fns k (l.take i) m (sco up) c = st at eT ⊢
    obtain ⟨mi, ci⟩ := st
    simp only at eT ⊢
    simp -implicitDefEqProofs [hsl]
    refine cndb (fun h => ?_) (fun h => ?_)
    · simp at h
      have hg := List.getElem?_eq_getElem h
      have hse := l[i].cs_eq
      have hsz := l[i].sz_eq
      have hks := smsZ_mem (List.getElem_mem h)
      have eT := eT h
      generalize l[i] = s at hg hse hsz hks eT
      obtain ⟨o, nme, a, bd, el⟩ := s
      simp only [Sm.op, Sm.name, Sm.args, Sm.body, Sm.els] at hse hsz
      have hxl : exL a = .lst 4 (a.map Ex.cs) := rfl
      have hal := exsZ_len a
      simp -implicitDefEqProofs [hg, hse, hlenC, hxl]
      have hexpr : ∀ (c : Int) (e : Ex) (rest : List AO), e.sz ≤ 1073741824 → AC Tryd.prog G n_impl_checker_expr [.ptr 1 3 0 0, .agg (e.cs.map .p), .ptr (2 + scL up + gap.length + 1) 2 0 0] (AX b0 fns k up gap c ++ (.mp (mpE mi) :: .row 2 [[.mp (2 + scL up + gap.length), upV up]] :: rest)) fun x h => x = .ret (.tup []) ∧ h = AX b0 fns k up gap (e.pre.foldl (visC fns k (mi :: sco up)) c) ++ (.mp (mpE mi) :: .row 2 [[.mp (2 + scL up + gap.length), upV up]] :: rest) := by
        intro c e rest he
        have := ch_pre G (i_expr G b0 hf hk (⟨gap, mi⟩ :: up) hb (hs' mi) c e he) hb (hs' mi) rfl rest (by refine ⟨by simp only [below]; omega, by simp, upV_below _ (Nat.le_refl _), trivial⟩)
        simp only [CH_AX] at this
        exact this
      have hfail : ∀ (c e : Int) (t : List AO), AC Tryd.prog G n_impl_checker_fail [.ptr 1 3 0 0, .p (.int .i64 e)] (AX b0 fns k up gap c ++ t) fun x h => x = .ret (.tup []) ∧ h = AX b0 fns k up gap (fl c e) ++ t := fun c e t => i_fail G b0 fns k c e _
      have hfind : ∀ (c : Int) (m : Scp) (s : List UInt8) (rest : List AO), AC Tryd.prog G n_impl_scope_find [.ptr (2 + scL up + gap.length + 1) 2 0 0, .p (.str s)] (AX b0 fns k up gap c ++ (.mp (mpE m) :: .row 2 [[.mp (2 + scL up + gap.length), upV up]] :: rest)) fun x h => x = .ret (.tup [.p (.int .i64 (((fndS (m :: sco up) s).getD 0 : Nat) : Int)), .p (.bool (fndS (m :: sco up) s).isSome)]) ∧ h = AX b0 fns k up gap c ++ (.mp (mpE m) :: .row 2 [[.mp (2 + scL up + gap.length), upV up]] :: rest) := by
        intro c m s rest
        have := i_find G b0 (cO fns k c) (⟨gap, m⟩ :: up) rest s
        have e : b0 :: cO fns k c :: (scH (⟨gap, m⟩ :: up) ++ rest) = CH b0 fns k c (⟨gap, m⟩ :: up) ++ rest := rfl
        rw [e, CH_AX] at this
        exact this
      have hblk : ∀ (c : Int) (m2 : Scp) (l' : List Sm) (gap2 : List AO), smsZ l' < N → smsZ l' ≤ 1073741824 → (∀ o ∈ gap2, okO (2 + scL up + gap.length + 2 + gap2.length) o) →
          AC Tryd.prog G n_impl_checker_block [.ptr 1 3 0 0, .p (smL l'), .ptr (2 + scL up + gap.length + 2 + gap2.length + 1) 2 0 0] (AX b0 fns k up gap c ++ (.mp (mpE m2) :: .row 2 [[.mp (2 + scL up + gap.length), upV up]] :: (gap2 ++ [.mp [], .row 2 [[.mp (2 + scL up + gap.length + 2 + gap2.length), .ptr (2 + scL up + gap.length + 1) 2 0 0]]])))
            fun x h => x = .ret (.tup []) ∧ ∃ m', h = AX b0 fns k up gap (icSs fns k l' [] (m2 :: sco up) c).2 ++ (.mp (mpE m2) :: .row 2 [[.mp (2 + scL up + gap.length), upV up]] :: (gap2 ++ [.mp (mpE m'), .row 2 [[.mp (2 + scL up + gap.length + 2 + gap2.length), .ptr (2 + scL up + gap.length + 1) 2 0 0]]])) := by
        intro c m2 l' gap2 h1 h2 h3
        have e1 : 2 + scL (⟨gap, m2⟩ :: up) + gap2.length = 2 + scL up + gap.length + 2 + gap2.length := by rw [hscl]; omega
        have e2 : ∀ c m', CH b0 fns k c (⟨gap2, m'⟩ :: ⟨gap, m2⟩ :: up) = AX b0 fns k up gap c ++ (.mp (mpE m2) :: .row 2 [[.mp (2 + scL up + gap.length), upV up]] :: (gap2 ++ [.mp (mpE m'), .row 2 [[.mp (2 + scL up + gap.length + 2 + gap2.length), .ptr (2 + scL up + gap.length + 1) 2 0 0]]])) := by
          intro c m'
          rw [← e1]
          simp [CH, AX, scH, upV]
        have := ih l' h1 h2 gap2 [] (⟨gap, m2⟩ :: up) c ⟨by rw [e1]; exact h3, hs' m2⟩
        rw [show upV (⟨gap2, []⟩ :: ⟨gap, m2⟩ :: up) = .ptr (2 + scL up + gap.length + 2 + gap2.length + 1) 2 0 0 by rw [← e1]; rfl] at this
        rw [e2] at this
        refine this.mono ?_
        rintro x h ⟨hx, hh⟩
        exact ⟨hx, (icSs fns k l' [] (sco (⟨gap, m2⟩ :: up)) c).1, by rw [hh, e2]; rfl⟩
      rw [CH_AX0 b0 fns k up gap mi ci, List.append_assoc]
      simp only [List.cons_append, List.nil_append]
      have hokA := AX_ok (fns := fns) (k := k) hb hs.2 hs.1
      generalize hL : 2 + scL up + gap.length = L at hexpr hfind hblk hlenA hlenC hokC hokA ⊢
      have hR : okO (L + 2) (.row 2 [[.mp L, upV up]]) := by
        intro e he; rw [List.mem_singleton.1 he]
        exact ⟨by simp only [below]; omega, upV_below up (by omega), trivial⟩
      have hX : okO 0 (.row 5 [[AV.p (.int .i64 o), .p (.str nme), .p (.lst 4 (a.map Ex.cs)), .p (smL bd), .p (smL el)]]) := by simp [okO]
      have ok3 : ∀ (m : Scp), ∀ x ∈ [AO.mp (mpE m), .row 2 [[.mp L, upV up]], .row 5 [[AV.p (.int .i64 o), .p (.str nme), .p (.lst 4 (a.map Ex.cs)), .p (smL bd), .p (smL el)]]], okO (L + 3) x := fun m =>
        oks_cons (mp_ok _ _) (oks_cons (okO_mono (by omega) hR) (oks_cons (okO_up hX) oks_nil))
      refine loopA (fun j : Nat => tsOf 89 [(0, .ptr 1 3 0 0), (2, .ptr (L + 1) 2 0 0), (7, .ptr (L + 2) 5 0 0), (14, .p (smL l)), (15, .p (.int .i64 l.length)), (16, .p (.int .i64 i)), (21, .p (exL a)), (22, .p (.int .i64 a.length)), (23, .p (.int .i64 j))])
        (fun j => AX b0 fns k up gap ((pres (a.take j)).foldl (visC fns k (mi :: sco up)) ci) ++ [.mp (mpE mi), .row 2 [[.mp L, upV up]], .row 5 [[AV.p (.int .i64 o), .p (.str nme), .p (.lst 4 (a.map Ex.cs)), .p (smL bd), .p (smL el)]]])
        (fun j => j ≤ a.length) (fun j => a.length - j) 0 (by simp) ?_ ?_
      · refine wkt_app (s := []) (hlenA _) (by simp) (hokA _) (ok3 _) ?_
        simp [below, hsl, hxl]
      intro j hj
      simp -implicitDefEqProofs [hxl]
      refine cndb (fun hc => ?_) (fun hc => ?_)
      · simp at hc
        have hga := List.getElem?_eq_getElem hc
        have hka := exsZ_mem (List.getElem_mem hc)
        have hkc := a[j].cs_eq
        have hE := hexpr ((pres (a.take j)).foldl (visC fns k (mi :: sco up)) ci) a[j] [.row 5 [[AV.p (.int .i64 o), .p (.str nme), .p (.lst 4 (a.map Ex.cs)), .p (smL bd), .p (smL el)]], .row 4 [[.p (.int .i64 a[j].op), .p (.int .i64 a[j].n), .p (.str a[j].name), .p (exL a[j].kids)]]] (by omega)
        rw [hkc] at hE
        simp -implicitDefEqProofs [hga, hkc, hlenA]
        refine hE.mono ?_
        rintro r h ⟨rfl, rfl⟩
        simp -implicitDefEqProofs [callR_nxt]
        refine ⟨j + 1, hc, by omega, ?_⟩
        have hf2 : (pres (a.take (j + 1))).foldl (visC fns k (mi :: sco up)) ci = a[j].pre.foldl (visC fns k (mi :: sco up)) ((pres (a.take j)).foldl (visC fns k (mi :: sco up)) ci) := by
          rw [take_succ' hc, pres_app, List.foldl_append, pres, pres, List.append_nil]
        rw [hf2]
        refine wkt_app (r := [_, _, _]) (s := [_]) (hlenA _) (by simp) (hokA _) (ok3 _) ?_
        simp [below, hsl, hxl, w1 (i := j) (by omega)]
      simp at hc
      have hje : j = a.length := by omega
      subst hje
      rw [List.take_length]
      have hic : icS fns k ⟨o, nme, a, bd, el⟩ mi (sco up) ci = (opS o nme mi 0, if o = 5 ∨ o = 6 then (icSs fns k el [] (opS o nme mi 0 :: sco up) (icSs fns k bd [] (opS o nme mi 0 :: sco up) (opC o nme mi (sco up) (icEs fns k (mi :: sco up) a ci))).2).2 else opC o nme mi (sco up) (icEs fns k (mi :: sco up) a ci)) := rfl
      rw [hic] at eT
      clear hic
      rw [show (pres a).foldl (visC fns k (mi :: sco up)) ci = icEs fns k (mi :: sco up) a ci from rfl]
      generalize icEs fns k (mi :: sco up) a ci = c1 at eT ⊢
      simp -implicitDefEqProofs []
      refine cut1 (tsOf 89 [(0, .ptr 1 3 0 0), (2, .ptr (L + 1) 2 0 0), (7, .ptr (L + 2) 5 0 0), (14, .p (smL l)), (15, .p (.int .i64 l.length)), (16, .p (.int .i64 i))])
        (AX b0 fns k up gap (opC o nme mi (sco up) c1) ++ [.mp (mpE (opS o nme mi 0)), .row 2 [[.mp L, upV up]], .row 5 [[AV.p (.int .i64 o), .p (.str nme), .p (.lst 4 (a.map Ex.cs)), .p (smL bd), .p (smL el)]]]) ?_ ?_
      · have fin : ∀ (r1 : List (Nat × AV)) (c2 : Int) (m2 : Scp), Aw.look r1 0 = .ptr 1 3 0 0 → Aw.look r1 2 = .ptr (L + 1) 2 0 0 → Aw.look r1 7 = .ptr (L + 2) 5 0 0 → Aw.look r1 14 = .p (smL l) → Aw.look r1 15 = .p (.int .i64 l.length) → Aw.look r1 16 = .p (.int .i64 i) →
            Wk (L + 2) (tsOf 89 r1) (AX b0 fns k up gap c2 ++ [.mp (mpE m2), .row 2 [[.mp L, upV up]], .row 5 [[AV.p (.int .i64 o), .p (.str nme), .p (.lst 4 (a.map Ex.cs)), .p (smL bd), .p (smL el)]]])
              (tsOf 89 [(0, .ptr 1 3 0 0), (2, .ptr (L + 1) 2 0 0), (7, .ptr (L + 2) 5 0 0), (14, .p (smL l)), (15, .p (.int .i64 l.length)), (16, .p (.int .i64 i))])
              (AX b0 fns k up gap c2 ++ [.mp (mpE m2), .row 2 [[.mp L, upV up]], .row 5 [[AV.p (.int .i64 o), .p (.str nme), .p (.lst 4 (a.map Ex.cs)), .p (smL bd), .p (smL el)]]]) := by
          intro r1 c2 m2 e0 e2 e7 e14 e15 e16
          refine wkt_app (s := []) (hlenA _) (by simp) (hokA _) (ok3 _) ?_
          simp [below, e0, e2, e7, e14, e15, e16]
        by_cases o1 : o = 1
        · have hmg := mget_mpE nme mi
          have hms : msetk (.str nme) (.p (.int .i64 0)) (mpE mi) = some (mpE (setS mi nme 0)) := by simpa using mset_mpE nme 0 mi
          have e2 : opS o nme mi 0 = setS mi nme 0 := if_pos o1
          rw [e2]
          cases hh : hasS mi nme with
          | none =>
            have e1 : opC o nme mi (sco up) c1 = c1 := by rw [opC, if_pos o1, hh]; rfl
            rw [hh] at hmg
            rw [e1]
            subst o1
            simp -implicitDefEqProofs [hlenA, hmg, hms]
            exact fin _ _ _ (by simp) (by simp) (by simp) (by simp [hsl]) (by simp) (by simp)
          | some n =>
            have e1 : opC o nme mi (sco up) c1 = fl c1 2 := by rw [opC, if_pos o1, hh]; rfl
            rw [hh] at hmg
            rw [e1]
            subst o1
            simp -implicitDefEqProofs [hlenA, hmg, hms]
            refine (hfail c1 2 _).mono ?_
            rintro r h ⟨rfl, rfl⟩
            simp -implicitDefEqProofs [callR_nxt, hlenA, hms]
            exact fin _ _ _ (by simp) (by simp) (by simp) (by simp [hsl]) (by simp) (by simp)
        have e2 : opS o nme mi 0 = mi := if_neg o1
        rw [e2]
        by_cases o2 : o = 2
        · cases hh : fndS (mi :: sco up) nme with
          | none =>
            have e1 : opC o nme mi (sco up) c1 = fl c1 3 := by rw [opC, if_neg o1, if_pos o2, hh]; rfl
            rw [e1]
            subst o2
            have hF := hfind c1 mi nme [.row 5 [[AV.p (.int .i64 2), .p (.str nme), .p (.lst 4 (a.map Ex.cs)), .p (smL bd), .p (smL el)]]]
            rw [hh] at hF
            simp -implicitDefEqProofs [hlenA]
            refine hF.mono ?_
            rintro r h ⟨rfl, rfl⟩
            simp -implicitDefEqProofs [callR_nxt]
            refine (hfail c1 3 _).mono ?_
            rintro r h ⟨rfl, rfl⟩
            simp -implicitDefEqProofs [callR_nxt]
            exact fin _ _ _ (by simp) (by simp) (by simp) (by simp [hsl]) (by simp) (by simp)
          | some n =>
            have e1 : opC o nme mi (sco up) c1 = c1 := by rw [opC, if_neg o1, if_pos o2, hh]; rfl
            rw [e1]
            subst o2
            have hF := hfind c1 mi nme [.row 5 [[AV.p (.int .i64 2), .p (.str nme), .p (.lst 4 (a.map Ex.cs)), .p (smL bd), .p (smL el)]]]
            rw [hh] at hF
            simp -implicitDefEqProofs [hlenA]
            refine hF.mono ?_
            rintro r h ⟨rfl, rfl⟩
            simp -implicitDefEqProofs [callR_nxt]
            exact fin _ _ _ (by simp) (by simp) (by simp) (by simp [hsl]) (by simp) (by simp)
        · have e1 : opC o nme mi (sco up) c1 = c1 := by rw [opC, if_neg o1, if_neg o2]
          rw [e1]
          simp -implicitDefEqProofs [hlenA, o1, o2]
          exact fin _ _ _ (by simp) (by simp) (by simp) (by simp [hsl]) (by simp) (by simp)
      generalize opC o nme mi (sco up) c1 = c2 at eT ⊢
      generalize opS o nme mi 0 = m2 at eT ⊢
      have hdrop : ∀ (r1 : List (Nat × AV)) (c3 : Int) (s : List AO), Aw.look r1 0 = .ptr 1 3 0 0 → Aw.look r1 2 = .ptr (L + 1) 2 0 0 → Aw.look r1 14 = .p (smL l) → Aw.look r1 15 = .p (.int .i64 l.length) → Aw.look r1 16 = .p (.int .i64 ((i : Int) + 1)) →
          Wk (L + 2) (tsOf 89 r1) (AX b0 fns k up gap c3 ++ ([.mp (mpE m2), .row 2 [[.mp L, upV up]]] ++ s)) (tsOf 89 [(0, .ptr 1 3 0 0), (2, .ptr (L + 1) 2 0 0), (14, .p (smL l)), (15, .p (.int .i64 l.length)), (16, .p (.int .i64 ((i : Int) + 1)))]) (CH b0 fns k c3 (⟨gap, m2⟩ :: up)) := by
        intro r1 c3 s e0 e2 e14 e15 e16
        rw [CH_AX0, hL]
        refine wkt_app (hlenA _) (by simp) (hokA _) (oks_cons (mp_ok _ _) (oks_cons hR oks_nil)) ?_
        simp [below, e0, e2, e14, e15, e16]
      by_cases ho : o = 5 ∨ o = 6
      · rw [if_pos ho] at eT
        rcases ho with o5 | o6
        · subst o5
          simp -implicitDefEqProofs [hlenA]
          refine (i_open G (.ptr (L + 1) 2 0 0) (.inr ⟨_, rfl⟩) _).mono ?_
          rintro r h ⟨rfl, rfl⟩
          simp -implicitDefEqProofs [callR_nxt, hlenA]
          refine (hblk c2 m2 bd [_] (by omega) (by omega) (fun x hx => by rw [List.mem_singleton.1 hx]; exact okO_up (by simp [okO]))).mono ?_
          rintro r h ⟨rfl, m3, rfl⟩
          simp -implicitDefEqProofs [callR_nxt, hlenA]
          refine (i_open G (.ptr (L + 1) 2 0 0) (.inr ⟨_, rfl⟩) _).mono ?_
          rintro r h ⟨rfl, rfl⟩
          simp -implicitDefEqProofs [callR_nxt, hlenA]
          refine (hblk _ m2 el [_, _, _] (by omega) (by omega) (oks_cons (okO_up (by simp [okO])) (oks_cons (mp_ok _ _) (oks_cons (by
            intro e he; rw [List.mem_singleton.1 he]
            exact ⟨by simp only [below]; simp, by simp only [below]; simp, trivial⟩) oks_nil)))).mono ?_
          rintro r h ⟨rfl, m4, rfl⟩
          simp -implicitDefEqProofs [callR_nxt, hlenA]
          refine ⟨i + 1, by omega, by omega, ?_⟩
          rw [eT]
          refine hdrop _ _ _ (by simp) (by simp) (by simp [hsl]) (by simp) (by simp [w1 (i := i) (by omega)])
        · subst o6
          simp -implicitDefEqProofs [hlenA]
          refine (i_open G (.ptr (L + 1) 2 0 0) (.inr ⟨_, rfl⟩) _).mono ?_
          rintro r h ⟨rfl, rfl⟩
          simp -implicitDefEqProofs [callR_nxt, hlenA]
          refine (hblk c2 m2 bd [_] (by omega) (by omega) (fun x hx => by rw [List.mem_singleton.1 hx]; exact okO_up (by simp [okO]))).mono ?_
          rintro r h ⟨rfl, m3, rfl⟩
          simp -implicitDefEqProofs [callR_nxt, hlenA]
          refine (i_open G (.ptr (L + 1) 2 0 0) (.inr ⟨_, rfl⟩) _).mono ?_
          rintro r h ⟨rfl, rfl⟩
          simp -implicitDefEqProofs [callR_nxt, hlenA]
          refine (hblk _ m2 el [_, _, _] (by omega) (by omega) (oks_cons (okO_up (by simp [okO])) (oks_cons (mp_ok _ _) (oks_cons (by
            intro e he; rw [List.mem_singleton.1 he]
            exact ⟨by simp only [below]; simp, by simp only [below]; simp, trivial⟩) oks_nil)))).mono ?_
          rintro r h ⟨rfl, m4, rfl⟩
          simp -implicitDefEqProofs [callR_nxt, hlenA]
          refine ⟨i + 1, by omega, by omega, ?_⟩
          rw [eT]
          refine hdrop _ _ _ (by simp) (by simp) (by simp [hsl]) (by simp) (by simp [w1 (i := i) (by omega)])
      · rw [if_neg ho] at eT
        have o5 : ¬ o = 5 := fun h => ho (.inl h)
        have o6 : ¬ o = 6 := fun h => ho (.inr h)
        simp -implicitDefEqProofs [hlenA, o5, o6]
        refine ⟨i + 1, by omega, by omega, ?_⟩
        rw [eT]
        refine hdrop _ _ [_] (by simp) (by simp) (by simp [hsl]) (by simp) (by simp [w1 (i := i) (by omega)])
    · simp at h
      have hie : i = l.length := by omega
      subst hie
      rw [List.take_length] at hst
      rw [hst]
      simp -implicitDefEqProofs []
end Go.Proofs.YtiojgfhdcpppcaaDoor
namespace Go.Proofs.YtiojgfhdcpppcaaDoor
open Go Go.Aw
set_option maxRecDepth 100000
set_option maxHeartbeats 4000000
def K_impl_CheckProgram : AK := .seq (.reg [⟨(some 1), none, .box 1 (.t 0)⟩, ⟨(some 2), none, .mov (.c (.p (.int .i64 0)))⟩]) (.seq (.seq (.reg [⟨(some 11), none, .ld (some 1) (.t 1)⟩, ⟨(some 12), none, .call n_impl_ProgramValid [(.t 11)]⟩, ⟨(some 13), none, .not (.t 12)⟩]) (.cond (.t 13) (.seq (.reg [⟨(some 2), none, .mov (.c (.p (.int .i64 1)))⟩]) (.ret)) (.skip))) (.seq (.reg [⟨(some 14), none, .ld (some 1) (.t 1)⟩, ⟨(some 15), none, .bld [.nils, (.p (.int .i64 0)), (.p (.int .i64 0))] [(0, 1, (.t 14))]⟩, ⟨(some 16), none, .box 3 (.t 15)⟩, ⟨(some 3), none, .mov (.t 16)⟩]) (.seq (.seq (.reg [⟨(some 17), none, .fldA 0 (.t 1)⟩, ⟨(some 18), none, .ld none (.t 17)⟩, ⟨(some 19), none, .len false (.t 18)⟩, ⟨(some 20), none, .mov (.c (.p (.int .i64 0)))⟩]) (.blk 0 (.loop (.seq (.reg [⟨(some 21), none, .bin .lss (.t 20) (.t 19)⟩]) (.seq (.cond (.t 21) (.skip) (.exit 0)) (.seq (.blk 1 (.seq (.reg [⟨(some 22), none, .mov (.t 20)⟩, ⟨(some 23), none, .idxS 3 (.t 18) (.t 20)⟩, ⟨(some 24), none, .ld (some 3) (.t 23)⟩, ⟨(some 5), none, .alloc [(.p (.str [])), .nils, .nils]⟩, ⟨(some 4), none, .mov (.t 22)⟩, ⟨none, none, .st 3 (.t 5) (.t 24)⟩]) (.seq (.reg [⟨(some 25), none, .mov (.t 3)⟩, ⟨(some 26), none, .mov (.t 4)⟩, ⟨(some 27), none, .nilck (.t 25)⟩, ⟨(some 28), none, .fldA 1 (.t 27)⟩, ⟨none, none, .st 1 (.t 28) (.t 26)⟩]) (.cut (.seq (.reg [⟨(some 29), none, .ld (some 1) (.t 1)⟩, ⟨(some 30), none, .fldA 0 (.t 5)⟩, ⟨(some 31), none, .ld none (.t 30)⟩, ⟨(some 32), none, .call n_impl_FnAt [(.t 29), (.t 31)]⟩, ⟨(some 33), none, .mov (.t 4)⟩, ⟨(some 34), none, .bin .lss (.t 32) (.t 33)⟩]) (.cond (.t 34) (.reg [⟨(some 35), none, .mov (.t 3)⟩, ⟨(some 36), none, .call n_impl_checker_fail [(.t 35), (.c (.p (.int .i64 2)))]⟩]) (.skip))) (.seq (.reg [⟨(some 37), none, .call n_impl_scope_open [(.c .nilp)]⟩, ⟨(some 6), none, .mov (.t 37)⟩]) (.seq (.seq (.reg [⟨(some 38), none, .fldA 1 (.t 5)⟩, ⟨(some 39), none, .ld none (.t 38)⟩, ⟨(some 40), none, .len false (.t 39)⟩, ⟨(some 41), none, .mov (.c (.p (.int .i64 0)))⟩]) (.blk 2 (.loop (.seq (.reg [⟨(some 42), none, .bin .lss (.t 41) (.t 40)⟩]) (.seq (.cond (.t 42) (.skip) (.exit 2)) (.seq (.blk 3 (.seq (.reg [⟨(some 43), none, .idxS 1 (.t 39) (.t 41)⟩, ⟨(some 44), none, .ld none (.t 43)⟩, ⟨(some 8), none, .mov (.t 44)⟩]) (.seq (.seq (.reg [⟨(some 46), none, .mov (.t 6)⟩, ⟨(some 47), none, .nilck (.t 46)⟩, ⟨(some 48), none, .fldA 0 (.t 47)⟩, ⟨(some 49), none, .ld none (.t 48)⟩, ⟨(some 50), none, .mov (.t 8)⟩, ⟨(some 51), none, .lk 1 (.p (.int .i64 0)) true (.t 49) (.t 50)⟩, ⟨(some 45), none, .mov (.t 51)⟩, ⟨(some 52), none, .ext 0 (.t 45)⟩, ⟨(some 53), none, .ext 1 (.t 45)⟩, ⟨(some 9), none, .mov (.t 52)⟩, ⟨(some 10), none, .mov (.t 53)⟩]) (.seq (.reg [⟨(some 54), none, .mov (.t 10)⟩]) (.cond (.t 54) (.reg [⟨(some 55), none, .mov (.t 3)⟩, ⟨(some 56), none, .call n_impl_checker_fail [(.t 55), (.c (.p (.int .i64 2)))]⟩]) (.skip)))) (.reg [⟨(some 57), none, .mov (.t 6)⟩, ⟨(some 58), none, .nilck (.t 57)⟩, ⟨(some 59), none, .fldA 0 (.t 58)⟩, ⟨(some 60), none, .ld none (.t 59)⟩, ⟨(some 61), none, .mov (.t 8)⟩, ⟨none, none, .mup 1 (.t 60) (.t 61) (.c (.p (.int .i64 0)))⟩])))) (.reg [⟨(some 62), none, .bin .add (.t 41) (.c (.p (.int .i64 1)))⟩, ⟨(some 41), none, .mov (.t 62)⟩]))))))) (.reg [⟨(some 63), none, .mov (.t 3)⟩, ⟨(some 64), none, .fldA 2 (.t 5)⟩, ⟨(some 65), none, .ld none (.t 64)⟩, ⟨(some 66), none, .mov (.t 6)⟩, ⟨(some 67), none, .call n_impl_checker_block [(.t 63), (.t 65), (.t 66)]⟩]))))))) (.reg [⟨(some 68), none, .bin .add (.t 20) (.c (.p (.int .i64 1)))⟩, ⟨(some 20), none, .mov (.t 68)⟩]))))))) (.seq (.reg [⟨(some 69), none, .mov (.t 3)⟩, ⟨(some 70), none, .nilck (.t 69)⟩, ⟨(some 71), none, .fldA 2 (.t 70)⟩, ⟨(some 72), none, .ld none (.t 71)⟩, ⟨(some 2), none, .mov (.t 72)⟩]) (.ret)))))
theorem w_impl_CheckProgram : K_impl_CheckProgram.whole = F_impl_CheckProgram.ak := rfl
theorem icAll_app (fns : List Fd) : ∀ (a b : List Fd) (k : Nat) (c : Int), icAll fns k (a ++ b) c = icAll fns (k + a.length) b (icAll fns k a c)
  | [], b, k, c => rfl
  | f :: r, b, k, c => by rw [List.cons_append, icAll, icAll, icAll_app fns r]; congr 1; simp only [List.length_cons]; omega
theorem icAll_take {fns l : List Fd} {i : Nat} {c : Int} (h : i < l.length) : icAll fns 0 (l.take (i + 1)) c = icF fns i l[i] (icAll fns 0 (l.take i) c) := by
  rw [take_succ' h, icAll_app, List.length_take, Nat.min_eq_left (Nat.le_of_lt h), Nat.zero_add]; rfl
theorem icPs_app (a b : List (List UInt8)) (m : Scp) (c : Int) : icPs (a ++ b) m c = icPs b (icPs a m c).1 (icPs a m c).2 := by simp [icPs]
theorem icPs_take {l : List (List UInt8)} {i : Nat} {m : Scp} {c : Int} (h : i < l.length) : icPs (l.take (i + 1)) m c = (setS (icPs (l.take i) m c).1 l[i] 0, if (hasS (icPs (l.take i) m c).1 l[i]).isSome then fl (icPs (l.take i) m c).2 2 else (icPs (l.take i) m c).2) := by
  rw [take_succ' h, icPs_app]; rfl
variable (G : Glob) (hK : G g_keys = some pvKeys) (hS : G g_opSign = some [.tbl opK opV])
include hK hS
theorem i_CheckProgram (l : List Fd) (hl : fdsZ l ≤ 1073741824) : VF Tryd.prog G n_impl_CheckProgram [.agg [.p (fdL l)]] (.p (.int .i64 (chkProg l))) := by
  have hll := fdsZ_len l
  have hfl : ∀ l, fdL l = .lst 3 (l.map Fd.cs) := fun _ => rfl
  rw [chkProg_eq]
  refine AC.goK k_impl_CheckProgram w_impl_CheckProgram ?_
  simp -implicitDefEqProofs [K_impl_CheckProgram, F_impl_CheckProgram]
  refine (i_ProgramValid G hK hS l hl).use ?_
  by_cases hv : progOk l = true
  case neg =>
    have hv' : progOk l = false := by simpa using hv
    simp -implicitDefEqProofs [hv']
  rw [if_pos hv]
  simp -implicitDefEqProofs [hv, hfl]
  refine loopA (fun i : Nat => tsOf 73 [(1, .ptr 0 1 0 0), (3, .ptr 1 3 0 0), (18, .p (fdL l)), (19, .p (.int .i64 l.length)), (20, .p (.int .i64 i))])
    (fun i => [.row 1 [[.p (fdL l)]], cO l (i - 1) (icAll l 0 (l.take i) 0)]) (fun i => i ≤ l.length) (fun i => l.length - i) 0 (by simp) ?_ ?_
  · refine wkt_same (h := [.row 1 [[.p (fdL l)]], cO l 0 0]) (by simp) (by simp [okO, below, cO]) (by simp [below, hfl])
  intro i hi
  have hbo : okO 0 (.row 1 [[.p (fdL l)]]) := by simp [okO]
  simp -implicitDefEqProofs [hfl]
  refine cndb (fun h => ?_) (fun h => ?_)
  · simp at h
    have hg := List.getElem?_eq_getElem h
    have hks := fdsZ_mem (List.getElem_mem h)
    have eT := icAll_take (fns := l) (c := 0) h
    obtain ⟨j, ej, ejl⟩ := fnAt_self hg
    generalize l[i] = f at *
    have hcs : f.cs = [.str f.name, strL f.params, smL f.body] := rfl
    have hfz : f.sz = 1 + f.name.length + (f.params.length + (f.params.map List.length).sum) + smsZ f.body := rfl
    have hst : strL f.params = .lst 1 (f.params.map fun w => [.str w]) := rfl
    generalize icAll l 0 (l.take i) 0 = c0 at eT ⊢
    simp -implicitDefEqProofs [hg, hcs, cO]
    have hic : icF l i f c0 = (icSs l i f.body (icPs f.params [] (if j < i then fl c0 2 else c0)).1 [] (icPs f.params [] (if j < i then fl c0 2 else c0)).2).2 := by
      rw [icF, ej]; simp
    rw [hic] at eT
    clear hic
    refine cut1 (tsOf 73 [(1, .ptr 0 1 0 0), (3, .ptr 1 3 0 0), (4, .p (.int .i64 i)), (5, .ptr 2 3 0 0), (18, .p (fdL l)), (19, .p (.int .i64 l.length)), (20, .p (.int .i64 i))])
      [.row 1 [[.p (fdL l)]], cO l i (if j < i then fl c0 2 else c0), .row 3 [[.p (.str f.name), .p (strL f.params), .p (smL f.body)]]] ?_ ?_
    · simp -implicitDefEqProofs []
      refine (i_FnAt G l f.name (by omega)).use ?_
      rw [ej]
      by_cases hj : j < i
      · have hj' : (j : Int) < (i : Int) := by omega
        rw [if_pos hj]
        simp -implicitDefEqProofs [ixI, hj']
        refine (i_fail G (.row 1 [[.p (fdL l)]]) l i c0 2 [.row 3 [[.p (.str f.name), .p (strL f.params), .p (smL f.body)]]]).mono ?_
        rintro r h ⟨rfl, rfl⟩
        simp -implicitDefEqProofs [callR_nxt]
        exact wkt_same (by simp) (by simp [okO, below, cO]) (by simp [below, hfl])
      · have hj' : ¬ (j : Int) < (i : Int) := by omega
        rw [if_neg hj]
        simp -implicitDefEqProofs [ixI, hj']
        exact wkt_same (h := [.row 1 [[.p (fdL l)]], cO l i c0, .row 3 [[.p (.str f.name), .p (strL f.params), .p (smL f.body)]]]) (by simp) (by simp [okO, below, cO]) (by simp [below, hfl])
    generalize (if j < i then fl c0 2 else c0) = c1 at eT ⊢
    have hCH : ∀ (c : Int) (m : Scp), CH (.row 1 [[.p (fdL l)]]) l i c [⟨[.row 3 [[.p (.str f.name), .p (strL f.params), .p (smL f.body)]]], m⟩] = [.row 1 [[.p (fdL l)]], cO l i c, .row 3 [[.p (.str f.name), .p (strL f.params), .p (smL f.body)]], .mp (mpE m), .row 2 [[.mp 3, .nilp]]] := fun _ _ => rfl
    simp -implicitDefEqProofs []
    refine (i_open G .nilp (.inl rfl) _).mono ?_
    rintro r h ⟨rfl, rfl⟩
    simp -implicitDefEqProofs [callR_nxt, hst]
    refine loopA (fun q : Nat => tsOf 73 [(1, .ptr 0 1 0 0), (3, .ptr 1 3 0 0), (4, .p (.int .i64 i)), (5, .ptr 2 3 0 0), (6, .ptr 4 2 0 0), (18, .p (fdL l)), (19, .p (.int .i64 l.length)), (20, .p (.int .i64 i)), (39, .p (strL f.params)), (40, .p (.int .i64 f.params.length)), (41, .p (.int .i64 q))])
      (fun q => [.row 1 [[.p (fdL l)]], cO l i (icPs (f.params.take q) [] c1).2, .row 3 [[.p (.str f.name), .p (strL f.params), .p (smL f.body)]], .mp (mpE (icPs (f.params.take q) [] c1).1), .row 2 [[.mp 3, .nilp]]])
      (fun q => q ≤ f.params.length) (fun q => f.params.length - q) 0 (by simp) ?_ ?_
    · exact wkt_same (h := [.row 1 [[.p (fdL l)]], cO l i c1, .row 3 [[.p (.str f.name), .p (strL f.params), .p (smL f.body)]], .mp [], .row 2 [[.mp 3, .nilp]]]) (by simp) (by simp [okO, below, cO]) (by simp [below, hfl, hst])
    intro q hq
    have eP := fun h => icPs_take (l := f.params) (i := q) (m := []) (c := c1) h
    generalize hP : icPs (f.params.take q) [] c1 = st at eP ⊢
    obtain ⟨mq, cq⟩ := st
    simp only at eP ⊢
    simp -implicitDefEqProofs [hst]
    refine cndb (fun hc => ?_) (fun hc => ?_)
    · simp at hc
      have hga := List.getElem?_eq_getElem hc
      have eP := eP hc
      generalize f.params[q] = nme at hga eP
      have hmg := mget_mpE nme mq
      have hms : msetk (.str nme) (.p (.int .i64 0)) (mpE mq) = some (mpE (setS mq nme 0)) := by simpa using mset_mpE nme 0 mq
      have fin : ∀ (r1 : List (Nat × AV)) (c2 : Int), Aw.look r1 1 = .ptr 0 1 0 0 → Aw.look r1 3 = .ptr 1 3 0 0 → Aw.look r1 4 = .p (.int .i64 i) → Aw.look r1 5 = .ptr 2 3 0 0 → Aw.look r1 6 = .ptr 4 2 0 0 → Aw.look r1 18 = .p (fdL l) → Aw.look r1 19 = .p (.int .i64 l.length) → Aw.look r1 20 = .p (.int .i64 i) → Aw.look r1 39 = .p (strL f.params) → Aw.look r1 40 = .p (.int .i64 f.params.length) → Aw.look r1 41 = .p (.int .i64 ((q : Int) + 1)) →
          Wk 0 (tsOf 73 r1) [.row 1 [[.p (fdL l)]], cO l i c2, .row 3 [[.p (.str f.name), .p (strL f.params), .p (smL f.body)]], .mp (mpE (setS mq nme 0)), .row 2 [[.mp 3, .nilp]]]
            (tsOf 73 [(1, .ptr 0 1 0 0), (3, .ptr 1 3 0 0), (4, .p (.int .i64 i)), (5, .ptr 2 3 0 0), (6, .ptr 4 2 0 0), (18, .p (fdL l)), (19, .p (.int .i64 l.length)), (20, .p (.int .i64 i)), (39, .p (strL f.params)), (40, .p (.int .i64 f.params.length)), (41, .p (.int .i64 ((q : Int) + 1)))])
            [.row 1 [[.p (fdL l)]], cO l i c2, .row 3 [[.p (.str f.name), .p (strL f.params), .p (smL f.body)]], .mp (mpE (setS mq nme 0)), .row 2 [[.mp 3, .nilp]]] := by
        intro r1 c2 e1 e3 e4 e5 e6 e18 e19 e20 e39 e40 e41
        refine wkt_same (by simp) (oks_cons (by simp [okO]) (oks_cons (by simp [okO, cO]) (oks_cons (by simp [okO]) (oks_cons (mp_ok _ _) (oks_cons (by simp [okO, below]) oks_nil))))) ?_
        simp [below, e1, e3, e4, e5, e6, e18, e19, e20, e39, e40, e41]
      cases hh : hasS mq nme with
      | none =>
        rw [hh] at hmg eP
        simp -implicitDefEqProofs [hga, hmg, hms]
        refine ⟨q + 1, by omega, by omega, ?_⟩
        rw [eP]
        exact fin _ _ (by simp) (by simp) (by simp) (by simp) (by simp) (by simp [hfl]) (by simp) (by simp) (by simp [hst]) (by simp) (by simp [w1 (i := q) (by omega)])
      | some n =>
        rw [hh] at hmg eP
        simp -implicitDefEqProofs [hga, hmg, hms]
        refine (i_fail G (.row 1 [[.p (fdL l)]]) l i cq 2 _).mono ?_
        rintro r h ⟨rfl, rfl⟩
        simp -implicitDefEqProofs [callR_nxt, hms]
        refine ⟨q + 1, by omega, by omega, ?_⟩
        rw [eP]
        exact fin _ _ (by simp) (by simp) (by simp) (by simp) (by simp) (by simp [hfl]) (by simp) (by simp) (by simp [hst]) (by simp) (by simp [w1 (i := q) (by omega)])
    · simp at hc
      have hqe : q = f.params.length := by omega
      subst hqe
      rw [List.take_length] at hP
      rw [hP] at eT
      simp only at eT
      have hB := i_block G (.row 1 [[.p (fdL l)]]) (fns := l) (k := i) (by omega) (by omega) hbo (smsZ f.body + 1) f.body (by omega) (by omega) [.row 3 [[.p (.str f.name), .p (strL f.params), .p (smL f.body)]]] mq [] cq ⟨by simp [okO], trivial⟩
      rw [hCH] at hB
      simp -implicitDefEqProofs []
      refine hB.mono ?_
      rintro r h ⟨rfl, rfl⟩
      simp -implicitDefEqProofs [callR_nxt]
      refine ⟨i + 1, by omega, by omega, ?_⟩
      rw [eT]
      refine wkt_fst (m := 2) (by omega) (fst_take rfl rfl (by simp [okO, below, cO])) (by simp [below, hfl, w1 (i := i) (by omega)])
  · simp at h
    have hie : i = l.length := by omega
    subst hie
    rw [List.take_length]
    simp -implicitDefEqProofs [cO]
end Go.Proofs.YtiojgfhdcpppcaaDoor
namespace Go.Proofs.YtiojgfhdcpppcaaDoor
open Go Go.Aw
set_option maxRecDepth 100000
set_option maxHeartbeats 4000000
abbrev BL : Nat := 9223372036854775807
mutual
def Ex.fit : Ex → Prop
  | .mk _ _ s k => s.length ≤ BL ∧ k.length ≤ BL ∧ exsFit k
def exsFit : List Ex → Prop
  | [] => True
  | e :: r => e.fit ∧ exsFit r
end
mutual
def Sm.fit : Sm → Prop
  | .mk _ s a b e => s.length ≤ BL ∧ (a.length ≤ BL ∧ exsFit a) ∧ (b.length ≤ BL ∧ smsFit b) ∧ (e.length ≤ BL ∧ smsFit e)
def smsFit : List Sm → Prop
  | [] => True
  | s :: r => s.fit ∧ smsFit r
end
def Fd.fit (f : Fd) : Prop := f.name.length ≤ BL ∧ (f.params.length ≤ BL ∧ ∀ x ∈ f.params, x.length ≤ BL) ∧ (f.body.length ≤ BL ∧ smsFit f.body)
theorem exsFit_mem : ∀ {l : List Ex} {e : Ex}, exsFit l → e ∈ l → e.fit
  | x :: r, e, h, hm => by
    rcases List.mem_cons.1 hm with rfl | hm
    · exact h.1
    · exact exsFit_mem h.2 hm
theorem smsFit_mem : ∀ {l : List Sm} {e : Sm}, smsFit l → e ∈ l → e.fit
  | x :: r, e, h, hm => by
    rcases List.mem_cons.1 hm with rfl | hm
    · exact h.1
    · exact smsFit_mem h.2 hm
theorem Ex.fit_eq (e : Ex) : e.fit = (e.name.length ≤ BL ∧ e.kids.length ≤ BL ∧ exsFit e.kids) := by cases e; rfl
theorem Sm.fit_eq (s : Sm) : s.fit = (s.name.length ≤ BL ∧ (s.args.length ≤ BL ∧ exsFit s.args) ∧ (s.body.length ≤ BL ∧ smsFit s.body) ∧ (s.els.length ≤ BL ∧ smsFit s.els)) := by cases s; rfl
theorem Fd.cs_eq' (f : Fd) : f.cs = [.str f.name, strL f.params, smL f.body] := rfl
def accA (ss : List Nat) (i : Nat) : Nat := ss.length + ((ss.take i).map (· - 1)).sum
theorem accA_zero (ss : List Nat) : accA ss 0 = ss.length := by simp [accA]
theorem accA_succ {ss : List Nat} {i v : Nat} (h : ss[i]? = some v) : accA ss (i + 1) = accA ss i + (v - 1) := by
  rw [accA, accA, List.take_add_one, h, List.map_append, List.sum_append]; simp; omega
theorem sum_sub : ∀ {ss : List Nat}, (∀ v ∈ ss, 1 ≤ v) → ss.length + (ss.map (· - 1)).sum = ss.sum
  | [], _ => rfl
  | v :: r, h => by
    have := sum_sub (ss := r) fun x hx => h x (by simp [hx])
    have h1 := h v (by simp)
    simp only [List.length_cons, List.map_cons, List.sum_cons]; omega
theorem accA_all {ss : List Nat} (h : ∀ v ∈ ss, 1 ≤ v) {i : Nat} (hi : ss.length ≤ i) : accA ss i = ss.sum := by
  rw [accA, List.take_of_length_le hi, sum_sub h]
theorem accA_le {ss : List Nat} (h : ∀ v ∈ ss, 1 ≤ v) (i : Nat) : accA ss i ≤ ss.sum := by
  rw [← sum_sub h, accA]
  have : (ss.map (· - 1)).sum = ((ss.take i).map (· - 1)).sum + ((ss.drop i).map (· - 1)).sum := by
    conv => lhs; rw [← List.take_append_drop i ss, List.map_append, List.sum_append]
  omega
theorem exsZ_sum : ∀ l : List Ex, exsZ l = (l.map Ex.sz).sum
  | [] => rfl
  | e :: r => by simp only [exsZ, List.map_cons, List.sum_cons, exsZ_sum r]
theorem smsZ_sum : ∀ l : List Sm, smsZ l = (l.map Sm.sz).sum
  | [] => rfl
  | e :: r => by simp only [smsZ, List.map_cons, List.sum_cons, smsZ_sum r]
theorem fdsZ_sum (l : List Fd) : fdsZ l = (l.map Fd.sz).sum := rfl
theorem Ex.sz_pos (e : Ex) : 1 ≤ e.sz := by rw [e.sz_eq]; omega
theorem Sm.sz_pos (e : Sm) : 1 ≤ e.sz := by rw [e.sz_eq]; omega
theorem Fd.sz_pos (f : Fd) : 1 ≤ f.sz := by unfold Fd.sz; omega
/-- What is left of a number, or -1. -/
def leftI (left z : Nat) : Int := if z ≤ left then ((left - z : Nat) : Int) else -1
variable (G : Glob)
theorem t_szExprS (l : List Ex) (left : Nat) (hl : left ≤ 1048576) (hb : l.length ≤ BL) (H : ∀ e ∈ l, ∀ left : Nat, left ≤ 1048576 → VF Tryd.prog G n_laws_szExpr [.agg (e.cs.map .p), .p (.int .i64 left)] (.p (.int .i64 (leftI left (e.sz - 1))))) :
    VF Tryd.prog G n_laws_szExprS [.p (exL l), .p (.int .i64 left)] (.p (.int .i64 (leftI left (exsZ l)))) := by
  refine AC.go k_laws_szExprS ?_
  have hpos : ∀ v ∈ l.map Ex.sz, 1 ≤ v := fun v hv => by obtain ⟨e, _, rfl⟩ := List.mem_map.1 hv; exact e.sz_pos
  have hz := exsZ_sum l
  have hal := fun i (hi : l.length ≤ i) => accA_all hpos (i := i) (by rw [List.length_map]; exact hi)
  have hle := accA_le hpos
  have h00 : accA (l.map Ex.sz) 0 = l.length := by rw [accA_zero, List.length_map]
  rw [← hz] at hal hle
  have hsl : ∀ l, exL l = .lst 4 (l.map Ex.cs) := fun _ => rfl
  have hw : IntKind.i64.wrap ((left : Int) - l.length) = (left : Int) - l.length := i64_small (by simp only [BL] at hb; omega) (by omega)
  by_cases h : l.length ≤ left
  case neg =>
    have h1 : (left : Int) - l.length < 0 := by omega
    have := hle 0
    have h2 : leftI left (exsZ l) = -1 := if_neg (by omega)
    simp -implicitDefEqProofs [F_laws_szExprS, hsl, hw, h1, h2]
  have h1 : ¬ (left : Int) - l.length < 0 := by omega
  simp -implicitDefEqProofs [F_laws_szExprS, hsl, hw, h1]
  refine loopA (fun i : Nat => tsOf 27 [(0, .p (exL l)), (1, .p (.int .i64 ((left - accA (l.map Ex.sz) i : Nat) : Int))), (5, .p (.int .i64 i))]) (fun _ => []) (fun i => i ≤ l.length ∧ accA (l.map Ex.sz) i ≤ left) (fun i => l.length - i) 0 ⟨by omega, by rw [h00]; exact h⟩ ?_ ?_
  · refine wkt_nil rfl ?_
    simp only [h00]
    simp [below, hsl]
    omega
  · intro i ⟨hi, hx⟩
    simp -implicitDefEqProofs [hsl]
    refine cndb (fun h1 => ?_) (fun h1 => ?_)
    · simp at h1
      have hg := List.getElem?_eq_getElem h1
      have hsu := accA_succ (ss := l.map Ex.sz) (i := i) (v := l[i].sz) (by rw [List.getElem?_map, hg]; rfl)
      have hH := H l[i] (List.getElem_mem h1) (left - accA (l.map Ex.sz) i) (by omega)
      have hcs : l[i].cs.length = 4 := by simp
      have hle1 := hle (i + 1)
      generalize l[i] = e at hg hsu hH hcs
      simp -implicitDefEqProofs [hg, hcs]
      refine hH.use ?_
      by_cases h2 : e.sz - 1 ≤ left - accA (l.map Ex.sz) i
      · have e2 : leftI (left - accA (l.map Ex.sz) i) (e.sz - 1) = ((left - accA (l.map Ex.sz) (i + 1) : Nat) : Int) := by rw [leftI, if_pos h2]; omega
        have h3 : ¬ ((left - accA (l.map Ex.sz) (i + 1) : Nat) : Int) < 0 := by omega
        rw [e2]
        simp -implicitDefEqProofs [h3]
        refine ⟨i + 1, ⟨h1, by omega⟩, by omega, wkt_nil rfl (by simp [below, hsl, w1 (i := i) (by simp only [BL] at hb; omega)])⟩
      · have e2 : leftI (left - accA (l.map Ex.sz) i) (e.sz - 1) = -1 := if_neg h2
        have e3 : leftI left (exsZ l) = -1 := if_neg (by omega)
        rw [e2, e3]
        simp -implicitDefEqProofs []
    · simp at h1
      have hta := hal i h1
      have h5 : leftI left (exsZ l) = ((left - accA (l.map Ex.sz) i : Nat) : Int) := by rw [hta, leftI, if_pos (by omega)]
      simp -implicitDefEqProofs [h5]
theorem t_toExprS (l : List Ex) (hb : l.length ≤ 1048576) (H : ∀ e ∈ l, VF Tryd.prog G n_laws_toExpr [.agg (e.cs.map .p)] (.agg (e.cs.map .p))) : VF Tryd.prog G n_laws_toExprS [.p (exL l)] (.p (exL l)) := by
  have hsl : ∀ l, exL l = .lst 4 (l.map Ex.cs) := fun _ => rfl
  have key : AC Tryd.prog G n_laws_toExprS [.p (exL l)] [] fun x h => x = .ret (.sl 0 4 0 l.length) ∧ h = [.row 4 (l.map fun e => e.cs.map .p)] := by
    refine AC.go k_laws_toExprS ?_
    have hn : (l.map fun e => e.cs.map AV.p).length = l.length := by simp
    simp -implicitDefEqProofs [F_laws_toExprS, hsl]
    refine ⟨by omega, ?_⟩
    refine loopA (fun i : Nat => tsOf 23 [(0, .p (exL l)), (3, .sl 0 4 0 l.length), (4, .p (.int .i64 i))]) (fun i => [.row 4 ((l.map fun e => e.cs.map AV.p).take i ++ List.replicate (l.length - i) [.p (.int .i64 0), .p (.int .i64 0), .p (.str []), .nils])]) (fun i => i ≤ l.length) (fun i => l.length - i) 0 (by simp) ?_ ?_
    · refine wkt_pick [0] rfl (by simp) (hw_row (by simp) (by simp [below]) hw_nil) ?_
      simp [below, ren, hsl]
    · intro i hi
      simp -implicitDefEqProofs [hsl]
      refine cndb (fun h1 => ?_) (fun h1 => ?_)
      · simp at h1
        have hg := List.getElem?_eq_getElem h1
        have hg2 := fill_get (z := ([.p (.int .i64 0), .p (.int .i64 0), .p (.str []), .nils] : List AV)) hn h1
        have hset := fill_set (z := ([.p (.int .i64 0), .p (.int .i64 0), .p (.str []), .nils] : List AV)) (v := l[i].cs.map AV.p) hn h1 (by rw [List.getElem?_map, hg]; rfl)
        have hH := H l[i] (List.getElem_mem h1)
        have hcs := l[i].cs_eq
        have htl : (List.take i (l.map fun (e : Ex) => e.cs.map AV.p) ++ List.replicate (l.length - i) ([.p (.int .i64 0), .p (.int .i64 0), .p (.str []), .nils] : List AV)).length = l.length := by simp; omega
        generalize l[i] = e at hg hset hH hcs
        generalize hRow : (List.take i (l.map fun (e : Ex) => e.cs.map AV.p) ++ List.replicate (l.length - i) ([.p (.int .i64 0), .p (.int .i64 0), .p (.str []), .nils] : List AV)) = Rw at hg2 hset htl ⊢
        rw [hcs] at hH hset
        simp -implicitDefEqProofs [hg, hcs]
        refine hH.use ?_
        simp -implicitDefEqProofs [hg2, h1, splice]
        simp only [List.map_cons, List.map_nil] at hset
        rw [hset]
        refine ⟨i + 1, h1, by omega, wkt_pick [0] rfl (by simp) (hw_row rfl ?_ hw_nil) ?_⟩
        · intro x hx
          rcases List.mem_append.1 hx with hx | hx
          · obtain ⟨y, _, rfl⟩ := List.mem_map.1 (List.mem_of_mem_take hx); simp
          · rw [(List.mem_replicate.1 hx).2]; simp [below]
        · simp [below, ren, hsl, w1 (i := i) (by omega)]
      · simp at h1
        have hie : i = l.length := by omega
        subst hie
        rw [Nat.sub_self, List.replicate_zero, List.append_nil, List.take_of_length_le (by rw [hn]; exact Nat.le_refl _)]
        simp -implicitDefEqProofs []
  refine AC.freeze key (.one ?_ .nil)
  have := view_row (h := [.row 4 (l.map fun e => e.cs.map .p)]) (id := 0) (sz := 4) (n := l.length) (ls := l.map Ex.cs) (by simp) (by simp) (fun x hx => by obtain ⟨b, _, rfl⟩ := List.mem_map.1 hx; simp)
  exact this
theorem t_eqExprS (l : List Ex) (hb : l.length ≤ 1048576) (H : ∀ e ∈ l, VF Tryd.prog G n_laws_eqExpr [.agg (e.cs.map .p), .agg (e.cs.map .p)] (.p (.bool true))) : VF Tryd.prog G n_laws_eqExprS [.p (exL l), .p (exL l)] (.p (.bool true)) := by
  refine AC.go k_laws_eqExprS ?_
  have hsl : ∀ l, exL l = .lst 4 (l.map Ex.cs) := fun _ => rfl
  simp -implicitDefEqProofs [F_laws_eqExprS, hsl]
  refine loopA (fun i : Nat => tsOf 27 [(0, .p (exL l)), (1, .p (exL l)), (5, .p (.int .i64 i))]) (fun _ => []) (fun i => i ≤ l.length) (fun i => l.length - i) 0 (by simp) ?_ ?_
  · exact wkt_nil rfl (by simp [below, hsl])
  intro i hi
  simp -implicitDefEqProofs [hsl]
  refine cndb (fun h1 => ?_) (fun h1 => ?_)
  · simp at h1
    have hg := List.getElem?_eq_getElem h1
    have hH := H l[i] (List.getElem_mem h1)
    have hcs : l[i].cs.length = 4 := by simp
    generalize l[i] = e at hg hH hcs
    simp -implicitDefEqProofs [hg, hcs]
    refine hH.use ?_
    simp -implicitDefEqProofs []
    exact ⟨i + 1, h1, by omega, wkt_nil rfl (by simp [below, hsl, w1 (i := i) (by omega)])⟩
  · simp at h1
    simp -implicitDefEqProofs []
theorem t_szStmtS (l : List Sm) (left : Nat) (hl : left ≤ 1048576) (hb : l.length ≤ BL) (H : ∀ e ∈ l, ∀ left : Nat, left ≤ 1048576 → VF Tryd.prog G n_laws_szStmt [.agg (e.cs.map .p), .p (.int .i64 left)] (.p (.int .i64 (leftI left (e.sz - 1))))) :
    VF Tryd.prog G n_laws_szStmtS [.p (smL l), .p (.int .i64 left)] (.p (.int .i64 (leftI left (smsZ l)))) := by
  refine AC.go k_laws_szStmtS ?_
  have hpos : ∀ v ∈ l.map Sm.sz, 1 ≤ v := fun v hv => by obtain ⟨e, _, rfl⟩ := List.mem_map.1 hv; exact e.sz_pos
  have hz := smsZ_sum l
  have hal := fun i (hi : l.length ≤ i) => accA_all hpos (i := i) (by rw [List.length_map]; exact hi)
  have hle := accA_le hpos
  have h00 : accA (l.map Sm.sz) 0 = l.length := by rw [accA_zero, List.length_map]
  rw [← hz] at hal hle
  have hsl : ∀ l, smL l = .lst 5 (l.map Sm.cs) := fun _ => rfl
  have hw : IntKind.i64.wrap ((left : Int) - l.length) = (left : Int) - l.length := i64_small (by simp only [BL] at hb; omega) (by omega)
  by_cases h : l.length ≤ left
  case neg =>
    have h1 : (left : Int) - l.length < 0 := by omega
    have := hle 0
    have h2 : leftI left (smsZ l) = -1 := if_neg (by omega)
    simp -implicitDefEqProofs [F_laws_szStmtS, hsl, hw, h1, h2]
  have h1 : ¬ (left : Int) - l.length < 0 := by omega
  simp -implicitDefEqProofs [F_laws_szStmtS, hsl, hw, h1]
  refine loopA (fun i : Nat => tsOf 27 [(0, .p (smL l)), (1, .p (.int .i64 ((left - accA (l.map Sm.sz) i : Nat) : Int))), (5, .p (.int .i64 i))]) (fun _ => []) (fun i => i ≤ l.length ∧ accA (l.map Sm.sz) i ≤ left) (fun i => l.length - i) 0 ⟨by omega, by rw [h00]; exact h⟩ ?_ ?_
  · refine wkt_nil rfl ?_
    simp only [h00]
    simp [below, hsl]
    omega
  · intro i ⟨hi, hx⟩
    simp -implicitDefEqProofs [hsl]
    refine cndb (fun h1 => ?_) (fun h1 => ?_)
    · simp at h1
      have hg := List.getElem?_eq_getElem h1
      have hsu := accA_succ (ss := l.map Sm.sz) (i := i) (v := l[i].sz) (by rw [List.getElem?_map, hg]; rfl)
      have hH := H l[i] (List.getElem_mem h1) (left - accA (l.map Sm.sz) i) (by omega)
      have hcs : l[i].cs.length = 5 := by simp
      have hle1 := hle (i + 1)
      generalize l[i] = e at hg hsu hH hcs
      simp -implicitDefEqProofs [hg, hcs]
      refine hH.use ?_
      by_cases h2 : e.sz - 1 ≤ left - accA (l.map Sm.sz) i
      · have e2 : leftI (left - accA (l.map Sm.sz) i) (e.sz - 1) = ((left - accA (l.map Sm.sz) (i + 1) : Nat) : Int) := by rw [leftI, if_pos h2]; omega
        have h3 : ¬ ((left - accA (l.map Sm.sz) (i + 1) : Nat) : Int) < 0 := by omega
        rw [e2]
        simp -implicitDefEqProofs [h3]
        refine ⟨i + 1, ⟨h1, by omega⟩, by omega, wkt_nil rfl (by simp [below, hsl, w1 (i := i) (by simp only [BL] at hb; omega)])⟩
      · have e2 : leftI (left - accA (l.map Sm.sz) i) (e.sz - 1) = -1 := if_neg h2
        have e3 : leftI left (smsZ l) = -1 := if_neg (by omega)
        rw [e2, e3]
        simp -implicitDefEqProofs []
    · simp at h1
      have hta := hal i h1
      have h5 : leftI left (smsZ l) = ((left - accA (l.map Sm.sz) i : Nat) : Int) := by rw [hta, leftI, if_pos (by omega)]
      simp -implicitDefEqProofs [h5]
theorem t_toStmtS (l : List Sm) (hb : l.length ≤ 1048576) (H : ∀ e ∈ l, VF Tryd.prog G n_laws_toStmt [.agg (e.cs.map .p)] (.agg (e.cs.map .p))) : VF Tryd.prog G n_laws_toStmtS [.p (smL l)] (.p (smL l)) := by
  have hsl : ∀ l, smL l = .lst 5 (l.map Sm.cs) := fun _ => rfl
  have key : AC Tryd.prog G n_laws_toStmtS [.p (smL l)] [] fun x h => x = .ret (.sl 0 5 0 l.length) ∧ h = [.row 5 (l.map fun e => e.cs.map .p)] := by
    refine AC.go k_laws_toStmtS ?_
    have hn : (l.map fun e => e.cs.map AV.p).length = l.length := by simp
    simp -implicitDefEqProofs [F_laws_toStmtS, hsl]
    refine ⟨by omega, ?_⟩
    refine loopA (fun i : Nat => tsOf 23 [(0, .p (smL l)), (3, .sl 0 5 0 l.length), (4, .p (.int .i64 i))]) (fun i => [.row 5 ((l.map fun e => e.cs.map AV.p).take i ++ List.replicate (l.length - i) [.p (.int .i64 0), .p (.str []), .nils, .nils, .nils])]) (fun i => i ≤ l.length) (fun i => l.length - i) 0 (by simp) ?_ ?_
    · refine wkt_pick [0] rfl (by simp) (hw_row (by simp) (by simp [below]) hw_nil) ?_
      simp [below, ren, hsl]
    · intro i hi
      simp -implicitDefEqProofs [hsl]
      refine cndb (fun h1 => ?_) (fun h1 => ?_)
      · simp at h1
        have hg := List.getElem?_eq_getElem h1
        have hg2 := fill_get (z := ([.p (.int .i64 0), .p (.str []), .nils, .nils, .nils] : List AV)) hn h1
        have hset := fill_set (z := ([.p (.int .i64 0), .p (.str []), .nils, .nils, .nils] : List AV)) (v := l[i].cs.map AV.p) hn h1 (by rw [List.getElem?_map, hg]; rfl)
        have hH := H l[i] (List.getElem_mem h1)
        have hcs := l[i].cs_eq
        have htl : (List.take i (l.map fun (e : Sm) => e.cs.map AV.p) ++ List.replicate (l.length - i) ([.p (.int .i64 0), .p (.str []), .nils, .nils, .nils] : List AV)).length = l.length := by simp; omega
        generalize l[i] = e at hg hset hH hcs
        generalize hRow : (List.take i (l.map fun (e : Sm) => e.cs.map AV.p) ++ List.replicate (l.length - i) ([.p (.int .i64 0), .p (.str []), .nils, .nils, .nils] : List AV)) = Rw at hg2 hset htl ⊢
        rw [hcs] at hH hset
        simp -implicitDefEqProofs [hg, hcs]
        refine hH.use ?_
        simp -implicitDefEqProofs [hg2, h1, splice]
        simp only [List.map_cons, List.map_nil] at hset
        rw [hset]
        refine ⟨i + 1, h1, by omega, wkt_pick [0] rfl (by simp) (hw_row rfl ?_ hw_nil) ?_⟩
        · intro x hx
          rcases List.mem_append.1 hx with hx | hx
          · obtain ⟨y, _, rfl⟩ := List.mem_map.1 (List.mem_of_mem_take hx); simp
          · rw [(List.mem_replicate.1 hx).2]; simp [below]
        · simp [below, ren, hsl, w1 (i := i) (by omega)]
      · simp at h1
        have hie : i = l.length := by omega
        subst hie
        rw [Nat.sub_self, List.replicate_zero, List.append_nil, List.take_of_length_le (by rw [hn]; exact Nat.le_refl _)]
        simp -implicitDefEqProofs []
  refine AC.freeze key (.one ?_ .nil)
  have := view_row (h := [.row 5 (l.map fun e => e.cs.map .p)]) (id := 0) (sz := 5) (n := l.length) (ls := l.map Sm.cs) (by simp) (by simp) (fun x hx => by obtain ⟨b, _, rfl⟩ := List.mem_map.1 hx; simp)
  exact this
theorem t_eqStmtS (l : List Sm) (hb : l.length ≤ 1048576) (H : ∀ e ∈ l, VF Tryd.prog G n_laws_eqStmt [.agg (e.cs.map .p), .agg (e.cs.map .p)] (.p (.bool true))) : VF Tryd.prog G n_laws_eqStmtS [.p (smL l), .p (smL l)] (.p (.bool true)) := by
  refine AC.go k_laws_eqStmtS ?_
  have hsl : ∀ l, smL l = .lst 5 (l.map Sm.cs) := fun _ => rfl
  simp -implicitDefEqProofs [F_laws_eqStmtS, hsl]
  refine loopA (fun i : Nat => tsOf 27 [(0, .p (smL l)), (1, .p (smL l)), (5, .p (.int .i64 i))]) (fun _ => []) (fun i => i ≤ l.length) (fun i => l.length - i) 0 (by simp) ?_ ?_
  · exact wkt_nil rfl (by simp [below, hsl])
  intro i hi
  simp -implicitDefEqProofs [hsl]
  refine cndb (fun h1 => ?_) (fun h1 => ?_)
  · simp at h1
    have hg := List.getElem?_eq_getElem h1
    have hH := H l[i] (List.getElem_mem h1)
    have hcs : l[i].cs.length = 5 := by simp
    generalize l[i] = e at hg hH hcs
    simp -implicitDefEqProofs [hg, hcs]
    refine hH.use ?_
    simp -implicitDefEqProofs []
    exact ⟨i + 1, h1, by omega, wkt_nil rfl (by simp [below, hsl, w1 (i := i) (by omega)])⟩
  · simp at h1
    simp -implicitDefEqProofs []
theorem t_szFnS (l : List Fd) (left : Nat) (hl : left ≤ 1048576) (hb : l.length ≤ BL) (H : ∀ e ∈ l, ∀ left : Nat, left ≤ 1048576 → VF Tryd.prog G n_laws_szFn [.agg (e.cs.map .p), .p (.int .i64 left)] (.p (.int .i64 (leftI left (e.sz - 1))))) :
    VF Tryd.prog G n_laws_szFnS [.p (fdL l), .p (.int .i64 left)] (.p (.int .i64 (leftI left (fdsZ l)))) := by
  refine AC.go k_laws_szFnS ?_
  have hpos : ∀ v ∈ l.map Fd.sz, 1 ≤ v := fun v hv => by obtain ⟨e, _, rfl⟩ := List.mem_map.1 hv; exact e.sz_pos
  have hz := fdsZ_sum l
  have hal := fun i (hi : l.length ≤ i) => accA_all hpos (i := i) (by rw [List.length_map]; exact hi)
  have hle := accA_le hpos
  have h00 : accA (l.map Fd.sz) 0 = l.length := by rw [accA_zero, List.length_map]
  rw [← hz] at hal hle
  have hsl : ∀ l, fdL l = .lst 3 (l.map Fd.cs) := fun _ => rfl
  have hw : IntKind.i64.wrap ((left : Int) - l.length) = (left : Int) - l.length := i64_small (by simp only [BL] at hb; omega) (by omega)
  by_cases h : l.length ≤ left
  case neg =>
    have h1 : (left : Int) - l.length < 0 := by omega
    have := hle 0
    have h2 : leftI left (fdsZ l) = -1 := if_neg (by omega)
    simp -implicitDefEqProofs [F_laws_szFnS, hsl, hw, h1, h2]
  have h1 : ¬ (left : Int) - l.length < 0 := by omega
  simp -implicitDefEqProofs [F_laws_szFnS, hsl, hw, h1]
  refine loopA (fun i : Nat => tsOf 27 [(0, .p (fdL l)), (1, .p (.int .i64 ((left - accA (l.map Fd.sz) i : Nat) : Int))), (5, .p (.int .i64 i))]) (fun _ => []) (fun i => i ≤ l.length ∧ accA (l.map Fd.sz) i ≤ left) (fun i => l.length - i) 0 ⟨by omega, by rw [h00]; exact h⟩ ?_ ?_
  · refine wkt_nil rfl ?_
    simp only [h00]
    simp [below, hsl]
    omega
  · intro i ⟨hi, hx⟩
    simp -implicitDefEqProofs [hsl]
    refine cndb (fun h1 => ?_) (fun h1 => ?_)
    · simp at h1
      have hg := List.getElem?_eq_getElem h1
      have hsu := accA_succ (ss := l.map Fd.sz) (i := i) (v := l[i].sz) (by rw [List.getElem?_map, hg]; rfl)
      have hH := H l[i] (List.getElem_mem h1) (left - accA (l.map Fd.sz) i) (by omega)
      have hcs : l[i].cs.length = 3 := by simp
      have hle1 := hle (i + 1)
      generalize l[i] = e at hg hsu hH hcs
      simp -implicitDefEqProofs [hg, hcs]
      refine hH.use ?_
      by_cases h2 : e.sz - 1 ≤ left - accA (l.map Fd.sz) i
      · have e2 : leftI (left - accA (l.map Fd.sz) i) (e.sz - 1) = ((left - accA (l.map Fd.sz) (i + 1) : Nat) : Int) := by rw [leftI, if_pos h2]; omega
        have h3 : ¬ ((left - accA (l.map Fd.sz) (i + 1) : Nat) : Int) < 0 := by omega
        rw [e2]
        simp -implicitDefEqProofs [h3]
        refine ⟨i + 1, ⟨h1, by omega⟩, by omega, wkt_nil rfl (by simp [below, hsl, w1 (i := i) (by simp only [BL] at hb; omega)])⟩
      · have e2 : leftI (left - accA (l.map Fd.sz) i) (e.sz - 1) = -1 := if_neg h2
        have e3 : leftI left (fdsZ l) = -1 := if_neg (by omega)
        rw [e2, e3]
        simp -implicitDefEqProofs []
    · simp at h1
      have hta := hal i h1
      have h5 : leftI left (fdsZ l) = ((left - accA (l.map Fd.sz) i : Nat) : Int) := by rw [hta, leftI, if_pos (by omega)]
      simp -implicitDefEqProofs [h5]
theorem t_toFnS (l : List Fd) (hb : l.length ≤ 1048576) (H : ∀ e ∈ l, VF Tryd.prog G n_laws_toFn [.agg (e.cs.map .p)] (.agg (e.cs.map .p))) : VF Tryd.prog G n_laws_toFnS [.p (fdL l)] (.p (fdL l)) := by
  have hsl : ∀ l, fdL l = .lst 3 (l.map Fd.cs) := fun _ => rfl
  have key : AC Tryd.prog G n_laws_toFnS [.p (fdL l)] [] fun x h => x = .ret (.sl 0 3 0 l.length) ∧ h = [.row 3 (l.map fun e => e.cs.map .p)] := by
    refine AC.go k_laws_toFnS ?_
    have hn : (l.map fun e => e.cs.map AV.p).length = l.length := by simp
    simp -implicitDefEqProofs [F_laws_toFnS, hsl]
    refine ⟨by omega, ?_⟩
    refine loopA (fun i : Nat => tsOf 23 [(0, .p (fdL l)), (3, .sl 0 3 0 l.length), (4, .p (.int .i64 i))]) (fun i => [.row 3 ((l.map fun e => e.cs.map AV.p).take i ++ List.replicate (l.length - i) [.p (.str []), .nils, .nils])]) (fun i => i ≤ l.length) (fun i => l.length - i) 0 (by simp) ?_ ?_
    · refine wkt_pick [0] rfl (by simp) (hw_row (by simp) (by simp [below]) hw_nil) ?_
      simp [below, ren, hsl]
    · intro i hi
      simp -implicitDefEqProofs [hsl]
      refine cndb (fun h1 => ?_) (fun h1 => ?_)
      · simp at h1
        have hg := List.getElem?_eq_getElem h1
        have hg2 := fill_get (z := ([.p (.str []), .nils, .nils] : List AV)) hn h1
        have hset := fill_set (z := ([.p (.str []), .nils, .nils] : List AV)) (v := l[i].cs.map AV.p) hn h1 (by rw [List.getElem?_map, hg]; rfl)
        have hH := H l[i] (List.getElem_mem h1)
        have hcs := l[i].cs_eq'
        have htl : (List.take i (l.map fun (e : Fd) => e.cs.map AV.p) ++ List.replicate (l.length - i) ([.p (.str []), .nils, .nils] : List AV)).length = l.length := by simp; omega
        generalize l[i] = e at hg hset hH hcs
        generalize hRow : (List.take i (l.map fun (e : Fd) => e.cs.map AV.p) ++ List.replicate (l.length - i) ([.p (.str []), .nils, .nils] : List AV)) = Rw at hg2 hset htl ⊢
        rw [hcs] at hH hset
        simp -implicitDefEqProofs [hg, hcs]
        refine hH.use ?_
        simp -implicitDefEqProofs [hg2, h1, splice]
        simp only [List.map_cons, List.map_nil] at hset
        rw [hset]
        refine ⟨i + 1, h1, by omega, wkt_pick [0] rfl (by simp) (hw_row rfl ?_ hw_nil) ?_⟩
        · intro x hx
          rcases List.mem_append.1 hx with hx | hx
          · obtain ⟨y, _, rfl⟩ := List.mem_map.1 (List.mem_of_mem_take hx); simp
          · rw [(List.mem_replicate.1 hx).2]; simp [below]
        · simp [below, ren, hsl, w1 (i := i) (by omega)]
      · simp at h1
        have hie : i = l.length := by omega
        subst hie
        rw [Nat.sub_self, List.replicate_zero, List.append_nil, List.take_of_length_le (by rw [hn]; exact Nat.le_refl _)]
        simp -implicitDefEqProofs []
  refine AC.freeze key (.one ?_ .nil)
  have := view_row (h := [.row 3 (l.map fun e => e.cs.map .p)]) (id := 0) (sz := 3) (n := l.length) (ls := l.map Fd.cs) (by simp) (by simp) (fun x hx => by obtain ⟨b, _, rfl⟩ := List.mem_map.1 hx; simp)
  exact this
theorem t_eqFnS (l : List Fd) (hb : l.length ≤ 1048576) (H : ∀ e ∈ l, VF Tryd.prog G n_laws_eqFn [.agg (e.cs.map .p), .agg (e.cs.map .p)] (.p (.bool true))) : VF Tryd.prog G n_laws_eqFnS [.p (fdL l), .p (fdL l)] (.p (.bool true)) := by
  refine AC.go k_laws_eqFnS ?_
  have hsl : ∀ l, fdL l = .lst 3 (l.map Fd.cs) := fun _ => rfl
  simp -implicitDefEqProofs [F_laws_eqFnS, hsl]
  refine loopA (fun i : Nat => tsOf 27 [(0, .p (fdL l)), (1, .p (fdL l)), (5, .p (.int .i64 i))]) (fun _ => []) (fun i => i ≤ l.length) (fun i => l.length - i) 0 (by simp) ?_ ?_
  · exact wkt_nil rfl (by simp [below, hsl])
  intro i hi
  simp -implicitDefEqProofs [hsl]
  refine cndb (fun h1 => ?_) (fun h1 => ?_)
  · simp at h1
    have hg := List.getElem?_eq_getElem h1
    have hH := H l[i] (List.getElem_mem h1)
    have hcs : l[i].cs.length = 3 := by simp
    generalize l[i] = e at hg hH hcs
    simp -implicitDefEqProofs [hg, hcs]
    refine hH.use ?_
    simp -implicitDefEqProofs []
    exact ⟨i + 1, h1, by omega, wkt_nil rfl (by simp [below, hsl, w1 (i := i) (by omega)])⟩
  · simp at h1
    simp -implicitDefEqProofs []
end Go.Proofs.YtiojgfhdcpppcaaDoor
namespace Go.Proofs.YtiojgfhdcpppcaaDoor
open Go Go.Aw
set_option maxRecDepth 100000
set_option maxHeartbeats 4000000
variable (G : Glob)
theorem leftI_neg {left z : Nat} (h : ¬ z ≤ left) : leftI left z = -1 := if_neg h
theorem leftI_pos {left z : Nat} (h : z ≤ left) : leftI left z = ((left - z : Nat) : Int) := if_pos h
theorem t_szExpr : ∀ (N : Nat) (e : Ex), e.sz ≤ N → e.fit → ∀ left : Nat, left ≤ 1048576 → VF Tryd.prog G n_laws_szExpr [.agg (e.cs.map .p), .p (.int .i64 left)] (.p (.int .i64 (leftI left (e.sz - 1)))) := by
  intro N
  induction N with
  | zero => intro e he; have := e.sz_pos; omega
  | succ N ih =>
    intro e he hf left hl
    have hec := e.cs_eq
    have hsz := e.sz_eq
    rw [e.fit_eq] at hf
    obtain ⟨f1, f2, f3⟩ := hf
    refine AC.go k_laws_szExpr ?_
    have hw : IntKind.i64.wrap ((left : Int) - e.name.length) = (left : Int) - e.name.length := i64_small (by simp only [BL] at f1; omega) (by omega)
    by_cases h1 : e.name.length ≤ left
    case neg =>
      have h2 : (left : Int) - e.name.length < 0 := by omega
      rw [leftI_neg (by omega)]
      simp -implicitDefEqProofs [F_laws_szExpr, hec, hw, h2]
    have h2 : ¬ (left : Int) - e.name.length < 0 := by omega
    have e2 : (left : Int) - e.name.length = ((left - e.name.length : Nat) : Int) := by omega
    have hS := t_szExprS G e.kids (left - e.name.length) (by omega) f2 (fun x hx l hl => ih x (by have := exsZ_mem hx; omega) (exsFit_mem f3 hx) l hl)
    rw [e2] at h2
    replace hw := hw.trans e2
    simp -implicitDefEqProofs [F_laws_szExpr, hec, hw, h2]
    refine hS.use ?_
    by_cases h3 : exsZ e.kids ≤ left - e.name.length
    · have n3 : ¬ ((left - e.name.length - exsZ e.kids : Nat) : Int) < 0 := by omega
      rw [leftI_pos h3, leftI_pos (by omega)]
      simp -implicitDefEqProofs [n3]
      omega
    · rw [leftI_neg h3, leftI_neg (by omega)]
      simp -implicitDefEqProofs []
theorem t_szExprs (l : List Ex) (hf : exsFit l) (hb : l.length ≤ BL) (left : Nat) (hl : left ≤ 1048576) : VF Tryd.prog G n_laws_szExprS [.p (exL l), .p (.int .i64 left)] (.p (.int .i64 (leftI left (exsZ l)))) :=
  t_szExprS G l left hl hb (fun e he l hl => t_szExpr G e.sz e (Nat.le_refl _) (exsFit_mem hf he) l hl)
theorem t_szStmt : ∀ (N : Nat) (s : Sm), s.sz ≤ N → s.fit → ∀ left : Nat, left ≤ 1048576 → VF Tryd.prog G n_laws_szStmt [.agg (s.cs.map .p), .p (.int .i64 left)] (.p (.int .i64 (leftI left (s.sz - 1)))) := by
  intro N
  induction N with
  | zero => intro e he; have := e.sz_pos; omega
  | succ N ih =>
    intro e he hf left hl
    have hec := e.cs_eq
    have hsz := e.sz_eq
    rw [e.fit_eq] at hf
    obtain ⟨f1, ⟨f2, f3⟩, ⟨f4, f5⟩, f6, f7⟩ := hf
    have sub : ∀ l : List Sm, smsZ l ≤ N → smsFit l → l.length ≤ BL → ∀ left : Nat, left ≤ 1048576 → VF Tryd.prog G n_laws_szStmtS [.p (smL l), .p (.int .i64 left)] (.p (.int .i64 (leftI left (smsZ l)))) := fun l hz hf hb left hl =>
      t_szStmtS G l left hl hb (fun x hx l hl => ih x (by have := smsZ_mem hx; omega) (smsFit_mem hf hx) l hl)
    refine AC.go k_laws_szStmt ?_
    have hw : IntKind.i64.wrap ((left : Int) - e.name.length) = (left : Int) - e.name.length := i64_small (by simp only [BL] at f1; omega) (by omega)
    by_cases h1 : e.name.length ≤ left
    case neg =>
      have h2 : (left : Int) - e.name.length < 0 := by omega
      rw [leftI_neg (by omega)]
      simp -implicitDefEqProofs [F_laws_szStmt, hec, hw, h2]
    have h2 : ¬ (left : Int) - e.name.length < 0 := by omega
    have e2 : (left : Int) - e.name.length = ((left - e.name.length : Nat) : Int) := by omega
    rw [e2] at h2
    replace hw := hw.trans e2
    simp -implicitDefEqProofs [F_laws_szStmt, hec, hw, h2]
    refine (t_szExprs G e.args f3 f2 (left - e.name.length) (by omega)).use ?_
    by_cases h3 : exsZ e.args ≤ left - e.name.length
    case neg =>
      rw [leftI_neg h3, leftI_neg (by omega)]
      simp -implicitDefEqProofs []
    have n3 : ¬ ((left - e.name.length - exsZ e.args : Nat) : Int) < 0 := by omega
    rw [leftI_pos h3]
    simp -implicitDefEqProofs [n3]
    refine (sub e.body (by omega) f5 f4 (left - e.name.length - exsZ e.args) (by omega)).use ?_
    by_cases h4 : smsZ e.body ≤ left - e.name.length - exsZ e.args
    case neg =>
      rw [leftI_neg h4, leftI_neg (by omega)]
      simp -implicitDefEqProofs []
    have n4 : ¬ ((left - e.name.length - exsZ e.args - smsZ e.body : Nat) : Int) < 0 := by omega
    rw [leftI_pos h4]
    simp -implicitDefEqProofs [n4]
    refine (sub e.els (by omega) f7 f6 (left - e.name.length - exsZ e.args - smsZ e.body) (by omega)).use ?_
    by_cases h5 : smsZ e.els ≤ left - e.name.length - exsZ e.args - smsZ e.body
    case neg =>
      rw [leftI_neg h5, leftI_neg (by omega)]
      simp -implicitDefEqProofs []
    have n5 : ¬ ((left - e.name.length - exsZ e.args - smsZ e.body - smsZ e.els : Nat) : Int) < 0 := by omega
    rw [leftI_pos h5, leftI_pos (by omega)]
    simp -implicitDefEqProofs [n5]
    omega
theorem t_szStmts (l : List Sm) (hf : smsFit l) (hb : l.length ≤ BL) (left : Nat) (hl : left ≤ 1048576) : VF Tryd.prog G n_laws_szStmtS [.p (smL l), .p (.int .i64 left)] (.p (.int .i64 (leftI left (smsZ l)))) :=
  t_szStmtS G l left hl hb (fun e he l hl => t_szStmt G e.sz e (Nat.le_refl _) (smsFit_mem hf he) l hl)
def wrdT (xs : List (List UInt8)) (i : Nat) : Nat := ((xs.take i).map List.length).sum
theorem wrdT_succ {xs : List (List UInt8)} {i : Nat} (h : i < xs.length) : wrdT xs (i + 1) = wrdT xs i + xs[i].length := by
  show ((xs.take (i + 1)).map List.length).sum = ((xs.take i).map List.length).sum + xs[i].length
  rw [take_succ' h, List.map_append, List.sum_append]
  rfl
theorem wrdT_all {xs : List (List UInt8)} {i : Nat} (h : xs.length ≤ i) : wrdT xs i = (xs.map List.length).sum := by rw [wrdT, List.take_of_length_le h]
theorem wrdT_le {xs : List (List UInt8)} {i : Nat} : wrdT xs i ≤ (xs.map List.length).sum := by
  conv => rhs; rw [← List.take_append_drop i xs, List.map_append, List.sum_append]
  simp [wrdT]
def szW (xs : List (List UInt8)) : Nat := xs.length + (xs.map List.length).sum
theorem t_szStringS (xs : List (List UInt8)) (left : Nat) (hl : left ≤ 1048576) (hb : xs.length ≤ 9223372036854775807) (hs : ∀ x ∈ xs, x.length ≤ 9223372036854775807) : VF Tryd.prog G n_laws_szStringS [.p (strL xs), .p (.int .i64 left)] (.p (.int .i64 (if szW xs ≤ left then ((left - szW xs : Nat) : Int) else -1))) := by
  refine AC.go k_laws_szStringS ?_
  have hw : IntKind.i64.wrap ((left : Int) - xs.length) = (left : Int) - xs.length := i64_small (by omega) (by omega)
  have hsz : szW xs = xs.length + (xs.map List.length).sum := rfl
  by_cases h : xs.length ≤ left
  case neg =>
    have h1 : (left : Int) - xs.length < 0 := by omega
    have h2 : ¬ szW xs ≤ left := by omega
    simp -implicitDefEqProofs [F_laws_szStringS, strL, hw, h1, h2]
  have h1 : ¬ (left : Int) - xs.length < 0 := by omega
  simp -implicitDefEqProofs [F_laws_szStringS, strL, hw, h1]
  refine loopA (fun i : Nat => tsOf 28 [(0, .p (strL xs)), (1, .p (.int .i64 ((left - xs.length - wrdT xs i : Nat) : Int))), (5, .p (.int .i64 i))]) (fun _ => []) (fun i => i ≤ xs.length ∧ xs.length + wrdT xs i ≤ left) (fun i => xs.length - i) 0 (by simp [wrdT]; omega) ?_ ?_
  · refine wkt_nil rfl ?_
    simp [below, strL, wrdT]
    omega
  · intro i ⟨hi, hx⟩
    simp -implicitDefEqProofs [strL]
    refine cndb (fun h1 => ?_) (fun h1 => ?_)
    · simp at h1
      have hg := List.getElem?_eq_getElem h1
      have hle := hs _ (List.getElem_mem h1)
      have hsu := wrdT_succ h1
      have hsl := wrdT_le (xs := xs) (i := i + 1)
      have hw2 : IntKind.i64.wrap (((left - xs.length - wrdT xs i : Nat) : Int) - (xs[i].length : Int)) = ((left - xs.length - wrdT xs i : Nat) : Int) - (xs[i].length : Int) := i64_small (by omega) (by omega)
      by_cases h2 : xs.length + wrdT xs (i + 1) ≤ left
      · have h3 : ¬ ((left - xs.length - wrdT xs i : Nat) : Int) - (xs[i].length : Int) < 0 := by omega
        have h4 : ((left - xs.length - wrdT xs i : Nat) : Int) - (xs[i].length : Int) = ((left - xs.length - wrdT xs (i + 1) : Nat) : Int) := by omega
        rw [h4] at h3
        replace hw2 := hw2.trans h4
        clear hle hsu hsl
        simp -implicitDefEqProofs [hg, hw2, h3]
        refine ⟨i + 1, ⟨h1, h2⟩, by omega, wkt_nil rfl (by simp [below, strL, w1 (i := i) (by omega)])⟩
      · have h3 : ((left - xs.length - wrdT xs i : Nat) : Int) - (xs[i].length : Int) < 0 := by omega
        have h5 : ¬ szW xs ≤ left := by omega
        clear hle hsu hsl
        simp -implicitDefEqProofs [hg, hw2, h3, h5]
    · simp at h1
      have hta := wrdT_all (xs := xs) h1
      have h5 : szW xs ≤ left := by omega
      have h6 : ((left - xs.length - wrdT xs i : Nat) : Int) = ((left - szW xs : Nat) : Int) := by omega
      simp -implicitDefEqProofs [h5, h6]
theorem t_szFn (f : Fd) (hf : f.fit) (left : Nat) (hl : left ≤ 1048576) : VF Tryd.prog G n_laws_szFn [.agg (f.cs.map .p), .p (.int .i64 left)] (.p (.int .i64 (leftI left (f.sz - 1)))) := by
  obtain ⟨f1, ⟨f2, f3⟩, f4, f5⟩ := hf
  have hec := f.cs_eq'
  have hsz : f.sz = 1 + f.name.length + szW f.params + smsZ f.body := rfl
  refine AC.go k_laws_szFn ?_
  have hw : IntKind.i64.wrap ((left : Int) - f.name.length) = (left : Int) - f.name.length := i64_small (by simp only [BL] at f1; omega) (by omega)
  by_cases h1 : f.name.length ≤ left
  case neg =>
    have h2 : (left : Int) - f.name.length < 0 := by omega
    rw [leftI_neg (by omega)]
    simp -implicitDefEqProofs [F_laws_szFn, hec, hw, h2]
  have h2 : ¬ (left : Int) - f.name.length < 0 := by omega
  have e2 : (left : Int) - f.name.length = ((left - f.name.length : Nat) : Int) := by omega
  rw [e2] at h2
  replace hw := hw.trans e2
  simp -implicitDefEqProofs [F_laws_szFn, hec, hw, h2]
  refine (t_szStringS G f.params (left - f.name.length) (by omega) f2 f3).use ?_
  by_cases h3 : szW f.params ≤ left - f.name.length
  case neg =>
    rw [if_neg h3, leftI_neg (by omega)]
    simp -implicitDefEqProofs []
  have n3 : ¬ ((left - f.name.length - szW f.params : Nat) : Int) < 0 := by omega
  rw [if_pos h3]
  simp -implicitDefEqProofs [n3]
  refine (t_szStmts G f.body f5 f4 (left - f.name.length - szW f.params) (by omega)).use ?_
  by_cases h4 : smsZ f.body ≤ left - f.name.length - szW f.params
  case neg =>
    rw [leftI_neg h4, leftI_neg (by omega)]
    simp -implicitDefEqProofs []
  have n4 : ¬ ((left - f.name.length - szW f.params - smsZ f.body : Nat) : Int) < 0 := by omega
  rw [leftI_pos h4, leftI_pos (by omega)]
  simp -implicitDefEqProofs [n4]
  omega
/-- A program's data is not too long. -/
def PFit (l : List Fd) : Prop := l.length ≤ BL ∧ ∀ f ∈ l, f.fit
theorem t_szProgram (l : List Fd) (hf : PFit l) (left : Nat) (hl : left ≤ 1048576) : VF Tryd.prog G n_laws_szProgram [.agg [.p (fdL l)], .p (.int .i64 left)] (.p (.int .i64 (leftI left (fdsZ l)))) := by
  have hS := t_szFnS G l left hl hf.1 (fun f hm left hl => t_szFn G f (hf.2 f hm) left hl)
  refine AC.go k_laws_szProgram ?_
  simp -implicitDefEqProofs [F_laws_szProgram]
  refine hS.use ?_
  by_cases h : fdsZ l ≤ left
  · have n : ¬ ((left - fdsZ l : Nat) : Int) < 0 := by omega
    rw [leftI_pos h]
    simp -implicitDefEqProofs [n]
  · rw [leftI_neg h]
    simp -implicitDefEqProofs []
theorem t_toExpr : ∀ (N : Nat) (e : Ex), e.sz ≤ N → e.sz ≤ 1048576 → VF Tryd.prog G n_laws_toExpr [.agg (e.cs.map .p)] (.agg (e.cs.map .p)) := by
  intro N
  induction N with
  | zero => intro e he; have := e.sz_pos; omega
  | succ N ih =>
    intro e he hb
    have hec := e.cs_eq
    have hsz := e.sz_eq
    have hkl := exsZ_len e.kids
    have hS := t_toExprS G e.kids (by omega) (fun x hx => ih x (by have := exsZ_mem hx; omega) (by have := exsZ_mem hx; omega))
    refine AC.go k_laws_toExpr ?_
    simp -implicitDefEqProofs [F_laws_toExpr, hec]
    refine hS.use ?_
    simp -implicitDefEqProofs []
theorem t_toExprs (l : List Ex) (hb : exsZ l ≤ 1048576) : VF Tryd.prog G n_laws_toExprS [.p (exL l)] (.p (exL l)) :=
  t_toExprS G l (by have := exsZ_len l; omega) (fun e he => t_toExpr G e.sz e (Nat.le_refl _) (by have := exsZ_mem he; omega))
theorem t_toStmt : ∀ (N : Nat) (e : Sm), e.sz ≤ N → e.sz ≤ 1048576 → VF Tryd.prog G n_laws_toStmt [.agg (e.cs.map .p)] (.agg (e.cs.map .p)) := by
  intro N
  induction N with
  | zero => intro e he; have := e.sz_pos; omega
  | succ N ih =>
    intro e he hb
    have hec := e.cs_eq
    have hsz := e.sz_eq
    have h1 := smsZ_len e.body
    have h2 := smsZ_len e.els
    have hB := t_toStmtS G e.body (by omega) (fun x hx => ih x (by have := smsZ_mem hx; omega) (by have := smsZ_mem hx; omega))
    have hE := t_toStmtS G e.els (by omega) (fun x hx => ih x (by have := smsZ_mem hx; omega) (by have := smsZ_mem hx; omega))
    refine AC.go k_laws_toStmt ?_
    simp -implicitDefEqProofs [F_laws_toStmt, hec]
    refine (t_toExprs G e.args (by omega)).use ?_
    simp -implicitDefEqProofs []
    refine hB.use ?_
    simp -implicitDefEqProofs []
    refine hE.use ?_
    simp -implicitDefEqProofs []
theorem t_toStmts (l : List Sm) (hb : smsZ l ≤ 1048576) : VF Tryd.prog G n_laws_toStmtS [.p (smL l)] (.p (smL l)) :=
  t_toStmtS G l (by have := smsZ_len l; omega) (fun e he => t_toStmt G e.sz e (Nat.le_refl _) (by have := smsZ_mem he; omega))
def strAt (l : List (List UInt8)) (i : Nat) : List (List UInt8) := l.take i ++ List.replicate (l.length - i) []
theorem strAt_set {l : List (List UInt8)} {i : Nat} (h : i < l.length) : (strAt l i).set i l[i] = strAt l (i + 1) := by
  have hl : (l.take i).length = i := by simp; omega
  have e : l.length - i = (l.length - (i + 1)) + 1 := by omega
  show (l.take i ++ List.replicate (l.length - i) []).set i l[i] = l.take (i + 1) ++ List.replicate (l.length - (i + 1)) []
  rw [List.set_append_right _ _ (by omega), hl, Nat.sub_self, e, List.replicate_succ, List.set_cons_zero, take_succ' h, List.append_assoc]
  rfl
theorem strAt_get {l : List (List UInt8)} {i : Nat} (h : i < l.length) : (strAt l i)[i]? = some [] := by
  have hl : (l.take i).length = i := by simp; omega
  rw [strAt, List.getElem?_append_right (by omega), hl, Nat.sub_self, List.getElem?_replicate, if_pos (by omega)]
theorem strAt_len {l : List (List UInt8)} {i : Nat} (h : i ≤ l.length) : (strAt l i).length = l.length := by simp [strAt]; omega
theorem o_toStringS (l : List (List UInt8)) (hb : l.length ≤ 1048576) : AC Tryd.prog G n_laws_toStringS [.p (strL l)] [] fun x h => x = .ret (.sl 0 1 0 l.length) ∧ h = [strO l] := by
  refine AC.go k_laws_toStringS ?_
  have hbl : strL l = .lst 1 (l.map fun n => [.str n]) := rfl
  simp -implicitDefEqProofs [F_laws_toStringS, hbl]
  refine ⟨by omega, ?_⟩
  refine loopA (fun i : Nat => tsOf 22 [(0, .p (strL l)), (3, .sl 0 1 0 l.length), (4, .p (.int .i64 i))]) (fun i => [strO (strAt l i)]) (fun i => i ≤ l.length) (fun i => l.length - i) 0 (by simp) ?_ ?_
  · refine wkt_pick [0] rfl (by simp) (hw_row (by simp [strAt]) (by simp) hw_nil) ?_
    simp [below, ren, strL]
  · intro i hi
    have hlen := strAt_len hi
    simp -implicitDefEqProofs [hbl]
    refine cndb (fun h1 => ?_) (fun h1 => ?_)
    · simp at h1
      have hg := List.getElem?_eq_getElem h1
      have hg2 := strAt_get h1
      have hset : ((strAt l i).map fun n => [AV.p (.str n)]).set i [.p (.str l[i])] = (strAt l (i + 1)).map fun n => [AV.p (.str n)] := by rw [← strAt_set h1, List.map_set]
      have hbo : strO (strAt l i) = .row 1 ((strAt l i).map fun n => [.p (.str n)]) := rfl
      clear hlen
      simp -implicitDefEqProofs [hg, hbo, hg2, h1, hset]
      refine ⟨i + 1, h1, by omega, wkt_pick [0] rfl (by simp) (hw_row rfl (by simp) hw_nil) ?_⟩
      simp [below, ren, strL, w1 (i := i) (by omega)]
    · simp at h1
      have : i = l.length := by omega
      subst this
      simp -implicitDefEqProofs [strAt]
theorem t_toStringS (l : List (List UInt8)) (hb : l.length ≤ 1048576) : VF Tryd.prog G n_laws_toStringS [.p (strL l)] (.p (strL l)) := AC.freeze (o_toStringS G l hb) (.one (strO_view rfl) .nil)
theorem t_toFn (f : Fd) (hb : f.sz ≤ 1048576) : VF Tryd.prog G n_laws_toFn [.agg (f.cs.map .p)] (.agg (f.cs.map .p)) := by
  have hec := f.cs_eq'
  have hsz : f.sz = 1 + f.name.length + szW f.params + smsZ f.body := rfl
  have hw : szW f.params = f.params.length + (f.params.map List.length).sum := rfl
  refine AC.go k_laws_toFn ?_
  simp -implicitDefEqProofs [F_laws_toFn, hec]
  refine (t_toStringS G f.params (by omega)).use ?_
  simp -implicitDefEqProofs []
  refine (t_toStmts G f.body (by omega)).use ?_
  simp -implicitDefEqProofs []
theorem t_toProgram (l : List Fd) (hb : fdsZ l ≤ 1048576) : VF Tryd.prog G n_laws_toProgram [.agg [.p (fdL l)]] (.agg [.p (fdL l)]) := by
  have hS := t_toFnS G l (by have := fdsZ_len l; omega) (fun f hm => t_toFn G f (by have := fdsZ_mem hm; omega))
  refine AC.go k_laws_toProgram ?_
  simp -implicitDefEqProofs [F_laws_toProgram]
  refine hS.use ?_
  simp -implicitDefEqProofs []
theorem t_eqExpr : ∀ (N : Nat) (e : Ex), e.sz ≤ N → e.sz ≤ 1048576 → VF Tryd.prog G n_laws_eqExpr [.agg (e.cs.map .p), .agg (e.cs.map .p)] (.p (.bool true)) := by
  intro N
  induction N with
  | zero => intro e he; have := e.sz_pos; omega
  | succ N ih =>
    intro e he hb
    have hec := e.cs_eq
    have hsz := e.sz_eq
    have hkl := exsZ_len e.kids
    have hS := t_eqExprS G e.kids (by omega) (fun x hx => ih x (by have := exsZ_mem hx; omega) (by have := exsZ_mem hx; omega))
    refine AC.go k_laws_eqExpr ?_
    simp -implicitDefEqProofs [F_laws_eqExpr, hec]
    refine hS.use ?_
    simp -implicitDefEqProofs []
theorem t_eqExprs (l : List Ex) (hb : exsZ l ≤ 1048576) : VF Tryd.prog G n_laws_eqExprS [.p (exL l), .p (exL l)] (.p (.bool true)) :=
  t_eqExprS G l (by have := exsZ_len l; omega) (fun e he => t_eqExpr G e.sz e (Nat.le_refl _) (by have := exsZ_mem he; omega))
theorem t_eqStmt : ∀ (N : Nat) (e : Sm), e.sz ≤ N → e.sz ≤ 1048576 → VF Tryd.prog G n_laws_eqStmt [.agg (e.cs.map .p), .agg (e.cs.map .p)] (.p (.bool true)) := by
  intro N
  induction N with
  | zero => intro e he; have := e.sz_pos; omega
  | succ N ih =>
    intro e he hb
    have hec := e.cs_eq
    have hsz := e.sz_eq
    have h1 := smsZ_len e.body
    have h2 := smsZ_len e.els
    have hB := t_eqStmtS G e.body (by omega) (fun x hx => ih x (by have := smsZ_mem hx; omega) (by have := smsZ_mem hx; omega))
    have hE := t_eqStmtS G e.els (by omega) (fun x hx => ih x (by have := smsZ_mem hx; omega) (by have := smsZ_mem hx; omega))
    refine AC.go k_laws_eqStmt ?_
    simp -implicitDefEqProofs [F_laws_eqStmt, hec]
    refine (t_eqExprs G e.args (by omega)).use ?_
    simp -implicitDefEqProofs []
    refine hB.use ?_
    simp -implicitDefEqProofs []
    refine hE.use ?_
    simp -implicitDefEqProofs []
theorem t_eqStmts (l : List Sm) (hb : smsZ l ≤ 1048576) : VF Tryd.prog G n_laws_eqStmtS [.p (smL l), .p (smL l)] (.p (.bool true)) :=
  t_eqStmtS G l (by have := smsZ_len l; omega) (fun e he => t_eqStmt G e.sz e (Nat.le_refl _) (by have := smsZ_mem he; omega))
theorem t_eqStringS (xs : List (List UInt8)) (hb : xs.length ≤ 1048576) : VF Tryd.prog G n_laws_eqStringS [.p (strL xs), .p (strL xs)] (.p (.bool true)) := by
  refine AC.go k_laws_eqStringS ?_
  have hsl : strL xs = .lst 1 (xs.map fun w => [.str w]) := rfl
  simp -implicitDefEqProofs [F_laws_eqStringS, hsl]
  refine loopA (fun i : Nat => tsOf 26 [(0, .p (strL xs)), (1, .p (strL xs)), (5, .p (.int .i64 i))]) (fun _ => []) (fun i => i ≤ xs.length) (fun i => xs.length - i) 0 (by simp) (wkt_nil rfl (by simp [below, hsl])) ?_
  intro i hi
  simp -implicitDefEqProofs [hsl]
  refine cndb (fun h1 => ?_) (fun h1 => ?_)
  · simp at h1
    have hx := List.getElem?_eq_getElem h1
    generalize xs[i] = v at hx
    simp -implicitDefEqProofs [hx]
    exact ⟨i + 1, h1, by omega, wkt_nil rfl (by simp [below, hsl, w1 (i := i) (by omega)])⟩
  · simp at h1
    simp -implicitDefEqProofs []
theorem t_eqFn (f : Fd) (hb : f.sz ≤ 1048576) : VF Tryd.prog G n_laws_eqFn [.agg (f.cs.map .p), .agg (f.cs.map .p)] (.p (.bool true)) := by
  have hec := f.cs_eq'
  have hsz : f.sz = 1 + f.name.length + szW f.params + smsZ f.body := rfl
  have hw : szW f.params = f.params.length + (f.params.map List.length).sum := rfl
  refine AC.go k_laws_eqFn ?_
  simp -implicitDefEqProofs [F_laws_eqFn, hec]
  refine (t_eqStringS G f.params (by omega)).use ?_
  simp -implicitDefEqProofs []
  refine (t_eqStmts G f.body (by omega)).use ?_
  simp -implicitDefEqProofs []
theorem t_eqProgram (l : List Fd) (hb : fdsZ l ≤ 1048576) : VF Tryd.prog G n_laws_eqProgram [.agg [.p (fdL l)], .agg [.p (fdL l)]] (.p (.bool true)) := by
  have hS := t_eqFnS G l (by have := fdsZ_len l; omega) (fun f hm => t_eqFn G f (by have := fdsZ_mem hm; omega))
  refine AC.go k_laws_eqProgram ?_
  simp -implicitDefEqProofs [F_laws_eqProgram]
  refine hS.use ?_
  simp -implicitDefEqProofs []
end Go.Proofs.YtiojgfhdcpppcaaDoor
namespace Go.Proofs.YtiojgfhdcpppcaaDoor
open Go Go.Aw Go.ChangeShapes Go.WideShapes Go.ChangeAt Go.RowKit
set_option maxRecDepth 100000
theorem kids0 : Kids Tryd.prog (· < Tryd.prog.types.size) := kids_rows (by kernel_rfl) (by kernel_rfl)
theorem full0 : ∀ t e, t < Tryd.prog.types.size → Tryd.prog.underlying t = some (.slice e) → 0 < Tryd.prog.cellsOf e := slices_full_of Tryd.prog (by kernel_rfl)
def plains : List TypeId := [24, 22, 80, 36, 9, 78, 144, 142, 166, 3, 4, 104, 161]
theorem plain0 : Plain Tryd.prog plains = true := by kernel_rfl
theorem own0 : ownKnob Tryd.prog.godebug = none := by kernel_rfl
theorem bulk_sum {H : Type} : ∀ l : List (DataW H), Rows.uptoBulkAll l = (l.map Rows.uptoBulk).sum
  | [] => by simp [Rows.uptoBulkAll]
  | d :: r => by simp [Rows.uptoBulkAll, bulk_sum r]
theorem bulk_ok {H : Type} : BulkOk (Rows.uptoBulk (H := H)) where
  lit := fun l => by cases l <;> simp [Rows.uptoBulk]
  str := fun s => by simp [Rows.uptoBulk]
  nil := by simp [Rows.uptoBulk]
  slice := fun es sp => by simp only [Rows.uptoBulk, bulk_sum]; omega
  agg := fun ps => by simp only [Rows.uptoBulk, bulk_sum]; omega
theorem conf_slN {t e : TypeId} {vs : List PV} (h : Conf Tryd.prog t vs) (hu : Tryd.prog.underlying t = some (.slice e)) : ∃ es, vs = [.lst (Tryd.prog.cellsOf e) es] ∧ es.length ≤ 9223372036854775807 ∧ ∀ x ∈ es, Conf Tryd.prog e x := by
  cases h with
  | sl es e' hl hs => rw [hu] at e'; cases e'; exact ⟨es, rfl, hl, hs⟩
  | bool b e => rw [e] at hu; cases hu
  | int n e => rw [e] at hu; cases hu
  | str s e => rw [e] at hu; cases hu
  | st vs e => rw [e] at hu; cases hu
  | arr vs e => rw [e] at hu; cases hu
theorem conf_strs {vs : List PV} (h : Conf Tryd.prog 36 vs) : ∃ l : List (List UInt8), vs = [strL l] ∧ l.length ≤ 9223372036854775807 ∧ ∀ x ∈ l, x.length ≤ 9223372036854775807 := by
  obtain ⟨es, rfl, hl, h4⟩ := conf_slN h (e := 9) (by kernel_rfl)
  have hk : ∀ x ∈ es, ∃ s : List UInt8, x = [PV.str s] ∧ s.length ≤ maxLen := fun x hx => conf_str (h4 x hx) (by kernel_rfl)
  obtain ⟨l, rfl⟩ := list_of (fun s : List UInt8 => [PV.str s]) (fun x hx => by obtain ⟨n, e, _⟩ := hk x hx; exact ⟨n, e⟩)
  rw [show Tryd.prog.cellsOf 9 = 1 by kernel_rfl]
  refine ⟨l, rfl, by rwa [List.length_map] at hl, fun s hs => ?_⟩
  obtain ⟨m, e, hw⟩ := hk [PV.str s] (List.mem_map.2 ⟨s, hs, rfl⟩)
  cases e
  exact hw
theorem list_of' {α β : Type} (g : β → α) (p : β → Prop) : ∀ {es : List α}, (∀ x ∈ es, ∃ m, x = g m ∧ p m) → ∃ ms : List β, es = ms.map g ∧ ∀ m ∈ ms, p m
  | [], _ => ⟨[], rfl, fun m hm => by cases hm⟩
  | e :: r, h => by
    obtain ⟨m, hm, hp⟩ := h e (by simp)
    obtain ⟨ms, hms, hps⟩ := list_of' g p (es := r) fun x hx => h x (by simp [hx])
    exact ⟨m :: ms, by simp [hm, hms], fun x hx => by
      rcases List.mem_cons.1 hx with rfl | hx
      · exact hp
      · exact hps x hx⟩
theorem exsFit_of : ∀ {l : List Ex}, (∀ e ∈ l, e.fit) → exsFit l
  | [], _ => trivial
  | e :: r, h => ⟨h e (by simp), exsFit_of fun x hx => h x (by simp [hx])⟩
theorem smsFit_of : ∀ {l : List Sm}, (∀ e ∈ l, e.fit) → smsFit l
  | [], _ => trivial
  | e :: r, h => ⟨h e (by simp), smsFit_of fun x hx => h x (by simp [hx])⟩
theorem size_mem {x : List PV} {es : List (List PV)} (h : x ∈ es) (sz : Nat) : SizeOf.sizeOf x < SizeOf.sizeOf [PV.lst sz es] := by
  have := List.sizeOf_lt_of_mem h
  simp
  omega
theorem conf_ex : ∀ (n : Nat) (vs : List PV), SizeOf.sizeOf vs < n → Conf Tryd.prog 166 vs → ∃ e : Ex, vs = e.cs ∧ e.fit := by
  intro n
  induction n with
  | zero => intro vs h; omega
  | succ n ih =>
    intro vs hn h
    have h := conf_st (ts := [3, 3, 9, 142]) h (by kernel_rfl)
    obtain ⟨a, r, rfl, h1, h⟩ := confS_cons h
    obtain ⟨b, r, rfl, h2, h⟩ := confS_cons h
    obtain ⟨c, r, rfl, h3, h⟩ := confS_cons h
    obtain ⟨d, r, rfl, h4, h⟩ := confS_cons h
    cases confS_nil h
    obtain ⟨n1, rfl, _⟩ := conf_int h1 (k := .i64) (by kernel_rfl)
    obtain ⟨n2, rfl, _⟩ := conf_int h2 (k := .i64) (by kernel_rfl)
    obtain ⟨s, rfl, l3⟩ := conf_str h3 (by kernel_rfl)
    obtain ⟨es, rfl, l4, h5⟩ := conf_slN h4 (e := 166) (by kernel_rfl)
    have hs1 : SizeOf.sizeOf [PV.lst (Tryd.prog.cellsOf 166) es] < n + 1 := by simp at hn ⊢; omega
    obtain ⟨l, rfl, hl⟩ := list_of' Ex.cs Ex.fit (fun x hx => ih x (by have := size_mem hx (Tryd.prog.cellsOf 166); omega) (h5 x hx))
    refine ⟨⟨n1, n2, s, l⟩, ?_, ?_⟩
    · rw [show Tryd.prog.cellsOf 166 = 4 by kernel_rfl, Ex.cs_eq]; rfl
    · exact ⟨l3, by rwa [List.length_map] at l4, exsFit_of hl⟩
theorem conf_exs {vs : List PV} (h : Conf Tryd.prog 142 vs) : ∃ l : List Ex, vs = [exL l] ∧ l.length ≤ BL ∧ exsFit l := by
  obtain ⟨es, rfl, l4, h5⟩ := conf_slN h (e := 166) (by kernel_rfl)
  obtain ⟨l, rfl, hl⟩ := list_of' Ex.cs Ex.fit (fun x hx => conf_ex _ x (Nat.lt_succ_self _) (h5 x hx))
  rw [show Tryd.prog.cellsOf 166 = 4 by kernel_rfl]
  exact ⟨l, rfl, by rwa [List.length_map] at l4, exsFit_of hl⟩
theorem conf_sm : ∀ (n : Nat) (vs : List PV), SizeOf.sizeOf vs < n → Conf Tryd.prog 144 vs → ∃ e : Sm, vs = e.cs ∧ e.fit := by
  intro n
  induction n with
  | zero => intro vs h; omega
  | succ n ih =>
    intro vs hn h
    have h := conf_st (ts := [3, 9, 142, 78, 78]) h (by kernel_rfl)
    obtain ⟨a, r, rfl, h1, h⟩ := confS_cons h
    obtain ⟨b, r, rfl, h2, h⟩ := confS_cons h
    obtain ⟨c, r, rfl, h3, h⟩ := confS_cons h
    obtain ⟨d, r, rfl, h4, h⟩ := confS_cons h
    obtain ⟨d', r, rfl, h4', h⟩ := confS_cons h
    cases confS_nil h
    obtain ⟨n1, rfl, _⟩ := conf_int h1 (k := .i64) (by kernel_rfl)
    obtain ⟨s, rfl, l3⟩ := conf_str h2 (by kernel_rfl)
    obtain ⟨ar, rfl, la, fa⟩ := conf_exs h3
    obtain ⟨es, rfl, l4, h5⟩ := conf_slN h4 (e := 144) (by kernel_rfl)
    obtain ⟨es', rfl, l4', h5'⟩ := conf_slN h4' (e := 144) (by kernel_rfl)
    have hs1 : SizeOf.sizeOf [PV.lst (Tryd.prog.cellsOf 144) es] < n + 1 := by simp at hn ⊢; omega
    have hs2 : SizeOf.sizeOf [PV.lst (Tryd.prog.cellsOf 144) es'] < n + 1 := by simp at hn ⊢; omega
    obtain ⟨l, rfl, hl⟩ := list_of' Sm.cs Sm.fit (fun x hx => ih x (by have := size_mem hx (Tryd.prog.cellsOf 144); omega) (h5 x hx))
    obtain ⟨l', rfl, hl'⟩ := list_of' Sm.cs Sm.fit (fun x hx => ih x (by have := size_mem hx (Tryd.prog.cellsOf 144); omega) (h5' x hx))
    refine ⟨⟨n1, s, ar, l, l'⟩, ?_, ?_⟩
    · rw [show Tryd.prog.cellsOf 144 = 5 by kernel_rfl, Sm.cs_eq]; rfl
    · exact ⟨l3, ⟨la, fa⟩, ⟨by rwa [List.length_map] at l4, smsFit_of hl⟩, ⟨by rwa [List.length_map] at l4', smsFit_of hl'⟩⟩
theorem conf_sms {vs : List PV} (h : Conf Tryd.prog 78 vs) : ∃ l : List Sm, vs = [smL l] ∧ l.length ≤ BL ∧ smsFit l := by
  obtain ⟨es, rfl, l4, h5⟩ := conf_slN h (e := 144) (by kernel_rfl)
  obtain ⟨l, rfl, hl⟩ := list_of' Sm.cs Sm.fit (fun x hx => conf_sm _ x (Nat.lt_succ_self _) (h5 x hx))
  rw [show Tryd.prog.cellsOf 144 = 5 by kernel_rfl]
  exact ⟨l, rfl, by rwa [List.length_map] at l4, smsFit_of hl⟩
theorem conf_fd {vs : List PV} (h : Conf Tryd.prog 80 vs) : ∃ f : Fd, vs = f.cs ∧ f.fit := by
  have h := conf_st (ts := [9, 36, 78]) h (by kernel_rfl)
  obtain ⟨a, r, rfl, h1, h⟩ := confS_cons h
  obtain ⟨b, r, rfl, h2, h⟩ := confS_cons h
  obtain ⟨c, r, rfl, h3, h⟩ := confS_cons h
  cases confS_nil h
  obtain ⟨s, rfl, l1⟩ := conf_str h1 (by kernel_rfl)
  obtain ⟨ws, rfl, l2, w2⟩ := conf_strs h2
  obtain ⟨bd, rfl, l3, f3⟩ := conf_sms h3
  exact ⟨⟨s, ws, bd⟩, rfl, l1, ⟨l2, w2⟩, l3, f3⟩
theorem conf_prog {vs : List PV} (h : Conf Tryd.prog 24 vs) : ∃ l : List Fd, vs = [fdL l] ∧ PFit l := by
  have h := conf_st (ts := [22]) h (by kernel_rfl)
  obtain ⟨a, r, rfl, h1, h⟩ := confS_cons h
  cases confS_nil h
  obtain ⟨es, rfl, l4, h5⟩ := conf_slN h1 (e := 80) (by kernel_rfl)
  obtain ⟨l, rfl, hl⟩ := list_of' Fd.cs Fd.fit (fun x hx => conf_fd (h5 x hx))
  rw [show Tryd.prog.cellsOf 80 = 3 by kernel_rfl]
  exact ⟨l, rfl, by rwa [List.length_map] at l4, hl⟩
def G0 : Glob := fun g => if g = 0 then some pvKeys else if g = 1 then some [.tbl opK opV] else none
theorem toKeys : ∀ k, toPV Tryd.prog (k + 10) 104 (Rows.laid_loop_example_wholeway_impl_keys (H := Unit)) = pvKeys := fun k => by kernel_rfl
theorem hG0L {W : World} {laid : List (String × DataW Unit)} (hL : laidMet Tryd.prog laid W) (h1 : ("loop.example/wholeway/impl.keys", Rows.laid_loop_example_wholeway_impl_keys) ∈ laid) (h2 : ("loop.example/wholeway/impl.opSign", Rows.laid_loop_example_wholeway_impl_opSign) ∈ laid) :
    ∀ g cs, G0 g = some cs → g < W.heap.size ∧ ∀ (j : Nat) (c : PV), cs[j]? = some c → ∃ v, W.cell? ⟨g, j, none⟩ = some v ∧ PRel W (· < W.heap.size) c v := by
  intro g cs h
  unfold G0 at h
  split at h
  · rename_i e; subst e; cases h
    exact laid_glob plain0 hL (n := "loop.example/wholeway/impl.keys") (d := Rows.laid_loop_example_wholeway_impl_keys) (t := 104) h1 (by kernel_rfl) (by kernel_rfl) (by decide) toKeys
  · split at h
    · rename_i e; subst e; cases h
      exact laid_tbl plain0 hL (n := "loop.example/wholeway/impl.opSign") h2 (t := 162) (k := 3) (e := 161) (by kernel_rfl) (by kernel_rfl) (by kernel_rfl) (.inl ⟨.i64, by kernel_rfl⟩) (by decide) (by kernel_rfl) (by kernel_rfl) (fun m => by kernel_rfl)
    · cases h
end Go.Proofs.YtiojgfhdcpppcaaDoor
namespace Go.Proofs.YtiojgfhdcpppcaaDoor
open Go Go.Aw
set_option maxRecDepth 100000
abbrev n_spec_l4Fine : FuncId := 34
abbrev n_spec_CountVars : FuncId := 14
abbrev n_impl_fine : FuncId := 36
abbrev n_impl_varCount_1 : FuncId := 67
abbrev n_impl_varCount : FuncId := 37
abbrev n_impl_CountVars : FuncId := 15
abbrev n_laws_FnExactCountVars : FuncId := 5
def F_spec_l4Fine : FK := ⟨6, [.t 2],
 .seq (.reg [⟨(some 1), none, .box 1 (.t 0)⟩,
   ⟨(some 2), none, .mov (.c (.p (.bool false)))⟩])
 (.seq (.reg [⟨(some 3), none, .ld (some 1) (.t 1)⟩,
   ⟨(some 4), none, .call n_spec_CheckProgram [(.t 3)]⟩,
   ⟨(some 5), none, .bin .eql (.t 4) (.c (.p (.int .i64 0)))⟩,
   ⟨(some 2), none, .mov (.t 5)⟩])
 (.ret))⟩
theorem k_spec_l4Fine : compF Tryd.prog n_spec_l4Fine = some F_spec_l4Fine := by kernel_rfl
def F_spec_CountVars : FK := ⟨28, [.t 4],
 .seq (.reg [⟨(some 2), none, .box 1 (.t 0)⟩,
   ⟨(some 4), none, .mov (.c (.p (.int .i64 0)))⟩])
 (.seq (.seq (.reg [⟨(some 8), none, .ld (some 1) (.t 2)⟩,
   ⟨(some 9), none, .call n_spec_l4Fine [(.t 8)]⟩,
   ⟨(some 10), none, .not (.t 9)⟩,
   ⟨(some 11), none, .mov (.t 10)⟩,
   ⟨(some 12), (some (11, false)), .mov (.t 1)⟩,
   ⟨(some 13), (some (11, false)), .fldA 0 (.t 2)⟩,
   ⟨(some 14), (some (11, false)), .ld none (.t 13)⟩,
   ⟨(some 15), (some (11, false)), .len false (.t 14)⟩,
   ⟨(some 16), (some (11, false)), .bin .sub (.t 15) (.c (.p (.int .i64 1)))⟩,
   ⟨(some 17), (some (11, false)), .call n_spec_l1In [(.t 12), (.c (.p (.int .i64 0))), (.t 16)]⟩,
   ⟨(some 18), (some (11, false)), .not (.t 17)⟩,
   ⟨(some 19), none, .pick (.t 11) (.c (.p (.bool true))) (.t 18)⟩])
 (.cond (.t 19)
  (.seq (.reg [⟨(some 4), none, .mov (.c (.p (.int .i64 (-1))))⟩])
  (.ret))
  (.skip)))
 (.seq (.reg [⟨(some 21), none, .ld (some 1) (.t 2)⟩,
   ⟨(some 22), none, .mov (.t 1)⟩,
   ⟨(some 23), none, .call n_spec_l4Fn [(.t 21), (.t 22)]⟩,
   ⟨(some 20), none, .mov (.t 23)⟩,
   ⟨(some 24), none, .ext 0 (.t 20)⟩,
   ⟨(some 25), none, .ext 1 (.t 20)⟩,
   ⟨(some 26), none, .ext 2 (.t 20)⟩,
   ⟨(some 5), none, .alloc [(.p (.str [])), .nils, .nils]⟩,
   ⟨none, none, .st 3 (.t 5) (.t 24)⟩,
   ⟨(some 6), none, .mov (.t 25)⟩,
   ⟨(some 7), none, .mov (.t 26)⟩])
 (.seq (.reg [⟨(some 27), none, .mov (.t 7)⟩,
   ⟨(some 4), none, .mov (.t 27)⟩])
 (.ret))))⟩
theorem k_spec_CountVars : compF Tryd.prog n_spec_CountVars = some F_spec_CountVars := by kernel_rfl
def F_impl_fine : FK := ⟨6, [.t 2],
 .seq (.reg [⟨(some 1), none, .box 1 (.t 0)⟩,
   ⟨(some 2), none, .mov (.c (.p (.bool false)))⟩])
 (.seq (.reg [⟨(some 3), none, .ld (some 1) (.t 1)⟩,
   ⟨(some 4), none, .call n_impl_CheckProgram [(.t 3)]⟩,
   ⟨(some 5), none, .bin .eql (.t 4) (.c (.p (.int .i64 0)))⟩,
   ⟨(some 2), none, .mov (.t 5)⟩])
 (.ret))⟩
theorem k_impl_fine : compF Tryd.prog n_impl_fine = some F_impl_fine := by kernel_rfl
def F_impl_varCount_1 : FK := ⟨10, [],
 .seq (.reg [⟨(some 3), none, .box 5 (.t 0)⟩])
 (.seq (.reg [⟨(some 5), none, .fldA 0 (.t 3)⟩,
   ⟨(some 6), none, .ld none (.t 5)⟩,
   ⟨(some 7), none, .bin .eql (.t 6) (.c (.p (.int .i64 1)))⟩])
 (.cond (.t 7)
  (.reg [⟨(some 8), none, .ld none (.t 2)⟩,
    ⟨(some 9), none, .bin .add (.t 8) (.c (.p (.int .i64 1)))⟩,
    ⟨none, none, .st 1 (.t 2) (.t 9)⟩])
  (.skip)))⟩
theorem k_impl_varCount_1 : compF Tryd.prog n_impl_varCount_1 = some F_impl_varCount_1 := by kernel_rfl
def F_impl_varCount : FK := ⟨12, [.t 2],
 .seq (.reg [⟨(some 1), none, .box 3 (.t 0)⟩,
   ⟨(some 2), none, .mov (.c (.p (.int .i64 0)))⟩])
 (.seq (.reg [⟨(some 4), none, .fldA 1 (.t 1)⟩,
   ⟨(some 5), none, .ld none (.t 4)⟩,
   ⟨(some 6), none, .len false (.t 5)⟩,
   ⟨(some 3), none, .alloc [(.p (.int .i64 0))]⟩,
   ⟨none, none, .st 1 (.t 3) (.t 6)⟩])
 (.seq (.reg [⟨(some 7), none, .fldA 2 (.t 1)⟩,
   ⟨(some 8), none, .ld none (.t 7)⟩,
   ⟨(some 9), none, .mkf (.func n_impl_varCount_1) [(.t 3)]⟩,
   ⟨(some 10), none, .call n_impl_stmts [(.t 8), (.c (.p (.int .i64 1))), (.t 9)]⟩])
 (.seq (.reg [⟨(some 11), none, .ld none (.t 3)⟩,
   ⟨(some 2), none, .mov (.t 11)⟩])
 (.ret))))⟩
theorem k_impl_varCount : compF Tryd.prog n_impl_varCount = some F_impl_varCount := by kernel_rfl
def F_impl_CountVars : FK := ⟨23, [.t 4],
 .seq (.reg [⟨(some 2), none, .box 1 (.t 0)⟩,
   ⟨(some 4), none, .mov (.c (.p (.int .i64 0)))⟩])
 (.seq (.seq (.reg [⟨(some 5), none, .ld (some 1) (.t 2)⟩,
   ⟨(some 6), none, .call n_impl_fine [(.t 5)]⟩,
   ⟨(some 7), none, .not (.t 6)⟩,
   ⟨(some 8), none, .mov (.t 7)⟩,
   ⟨(some 9), (some (8, false)), .mov (.t 1)⟩,
   ⟨(some 10), (some (8, false)), .fldA 0 (.t 2)⟩,
   ⟨(some 11), (some (8, false)), .ld none (.t 10)⟩,
   ⟨(some 12), (some (8, false)), .len false (.t 11)⟩,
   ⟨(some 13), (some (8, false)), .bin .sub (.t 12) (.c (.p (.int .i64 1)))⟩,
   ⟨(some 14), (some (8, false)), .call n_impl_within [(.t 9), (.c (.p (.int .i64 0))), (.t 13)]⟩,
   ⟨(some 15), (some (8, false)), .not (.t 14)⟩,
   ⟨(some 16), none, .pick (.t 8) (.c (.p (.bool true))) (.t 15)⟩])
 (.cond (.t 16)
  (.seq (.reg [⟨(some 4), none, .mov (.c (.p (.int .i64 (-1))))⟩])
  (.ret))
  (.skip)))
 (.seq (.reg [⟨(some 17), none, .fldA 0 (.t 2)⟩,
   ⟨(some 18), none, .ld none (.t 17)⟩,
   ⟨(some 19), none, .mov (.t 1)⟩,
   ⟨(some 20), none, .idxS 3 (.t 18) (.t 19)⟩,
   ⟨(some 21), none, .ld (some 3) (.t 20)⟩,
   ⟨(some 22), none, .call n_impl_varCount [(.t 21)]⟩,
   ⟨(some 4), none, .mov (.t 22)⟩])
 (.ret)))⟩
theorem k_impl_CountVars : compF Tryd.prog n_impl_CountVars = some F_impl_CountVars := by kernel_rfl
def F_laws_FnExactCountVars : FK := ⟨31, [.t 4],
 .seq (.reg [⟨(some 2), none, .box 1 (.t 0)⟩,
   ⟨(some 4), none, .mov (.c (.p (.bool false)))⟩])
 (.seq (.reg [⟨(some 5), none, .mov (.c (.p (.int .i64 1048576)))⟩])
 (.seq (.reg [⟨(some 9), none, .ld (some 1) (.t 2)⟩,
   ⟨(some 10), none, .mov (.t 5)⟩,
   ⟨(some 11), none, .call n_laws_szProgram [(.t 9), (.t 10)]⟩,
   ⟨(some 5), none, .mov (.t 11)⟩])
 (.seq (.seq (.reg [⟨(some 12), none, .mov (.t 5)⟩,
   ⟨(some 13), none, .bin .lss (.t 12) (.c (.p (.int .i64 0)))⟩])
 (.cond (.t 13)
  (.seq (.reg [⟨(some 4), none, .mov (.c (.p (.bool true)))⟩])
  (.ret))
  (.skip)))
 (.seq (.reg [⟨(some 14), none, .ld (some 1) (.t 2)⟩,
   ⟨(some 15), none, .call n_laws_toProgram [(.t 14)]⟩,
   ⟨(some 16), none, .mov (.t 1)⟩,
   ⟨(some 17), none, .call n_spec_CountVars [(.t 15), (.t 16)]⟩,
   ⟨(some 6), none, .mov (.t 17)⟩])
 (.seq (.reg [⟨(some 18), none, .ld (some 1) (.t 2)⟩,
   ⟨(some 19), none, .call n_laws_toProgram [(.t 18)]⟩,
   ⟨(some 7), none, .alloc [.nils]⟩,
   ⟨none, none, .st 1 (.t 7) (.t 19)⟩])
 (.seq (.reg [⟨(some 20), none, .ld (some 1) (.t 7)⟩,
   ⟨(some 21), none, .mov (.t 1)⟩,
   ⟨(some 22), none, .call n_impl_CountVars [(.t 20), (.t 21)]⟩,
   ⟨(some 8), none, .mov (.t 22)⟩])
 (.seq (.seq (.reg [⟨(some 23), none, .mov (.t 8)⟩,
   ⟨(some 24), none, .mov (.t 6)⟩,
   ⟨(some 25), none, .bin .neq (.t 23) (.t 24)⟩])
 (.cond (.t 25)
  (.seq (.reg [⟨(some 4), none, .mov (.c (.p (.bool false)))⟩])
  (.ret))
  (.skip)))
 (.seq (.seq (.reg [⟨(some 26), none, .ld (some 1) (.t 7)⟩,
   ⟨(some 27), none, .ld (some 1) (.t 2)⟩,
   ⟨(some 28), none, .call n_laws_toProgram [(.t 27)]⟩,
   ⟨none, none, .chk (some 1) 7 26⟩,
   ⟨(some 29), none, .call n_laws_eqProgram [(.t 26), (.t 28)]⟩,
   ⟨(some 30), none, .not (.t 29)⟩])
 (.cond (.t 30)
  (.seq (.reg [⟨(some 4), none, .mov (.c (.p (.bool false)))⟩])
  (.ret))
  (.skip)))
 (.seq (.reg [⟨(some 4), none, .mov (.c (.p (.bool true)))⟩])
 (.ret))))))))))⟩
theorem k_laws_FnExactCountVars : compF Tryd.prog n_laws_FnExactCountVars = some F_laws_FnExactCountVars := by kernel_rfl
end Go.Proofs.YtiojgfhdcpppcaaDoor
namespace Go.Proofs.YtiojgfhdcpppcaaDoor
open Go Go.Aw
set_option maxRecDepth 100000
set_option maxHeartbeats 4000000
def varN (f : Fd) : Nat := f.params.length + letSs f.body
def cntV (l : List Fd) (k : Int) : Int := if chkProg l = 0 ∧ inR k 0 ((l.length : Int) - 1) = true then (match l[k.toNat]? with | some f => (varN f : Int) | none => -1) else -1
def lStep (st : Int) (x : Sm × Nat) : Int := if x.1.op = 1 then IntKind.i64.wrap (st + 1) else st
mutual
theorem lStep_s : ∀ (s : Sm) (d : Nat) (st : Int), 0 ≤ st → st + letS s ≤ 1099511627776 → (s.pre d).foldl lStep st = st + letS s
  | .mk o n a bd el, d, st, h0, h => by
    rw [letS] at h
    have h1 := lStep_l bd (d + 1)
    have h2 := lStep_l el (d + 1)
    rw [Sm.pre, List.foldl_cons, List.foldl_append, letS]
    by_cases ho : o = 1
    · have e : lStep st (⟨o, n, a, bd, el⟩, d) = st + 1 := by show (if o = 1 then _ else _) = _; rw [if_pos ho, i64_small (by omega) (by rw [if_pos ho] at h; omega)]
      rw [if_pos ho] at h ⊢
      rw [e, h1 _ (by omega) (by omega), h2 _ (by omega) (by omega)]
      omega
    · have e : lStep st (⟨o, n, a, bd, el⟩, d) = st := by show (if o = 1 then _ else _) = _; rw [if_neg ho]
      rw [if_neg ho] at h ⊢
      rw [e, h1 _ (by omega) (by omega), h2 _ (by omega) (by omega)]
      omega
theorem lStep_l : ∀ (l : List Sm) (d : Nat) (st : Int), 0 ≤ st → st + letSs l ≤ 1099511627776 → (smsPre d l).foldl lStep st = st + letSs l
  | [], d, st, _, _ => by simp [smsPre, letSs]
  | s :: r, d, st, h0, h => by
    rw [letSs] at h
    rw [smsPre, List.foldl_append, lStep_s s d st h0 (by omega), lStep_l r d _ (by omega) (by omega), letSs]
    omega
end
def lVis (f : Fd) : Vis Int where
  I := fun st => [.row 3 [[.p (.str f.name), .p (strL f.params), .p (smL f.body)]], .row 1 [[.p (.int .i64 st)]]]
  n := 2
  F := n_impl_varCount_1
  caps := [.ptr 1 1 0 0]
  len := fun _ => rfl
  ok := fun st => by simp [okO, below]
  capsOk := by simp [below]
variable (G : Glob)
theorem i_varCount_1 (f : Fd) (st : Int) (s : Sm) (d : Nat) : AC Tryd.prog G n_impl_varCount_1 [.agg (s.cs.map .p), .p (.int .i64 d), .ptr 1 1 0 0] ((lVis f).I st) fun x h => x = .ret (.tup []) ∧ h = (lVis f).I (lStep st (s, d)) := by
  refine (lVis f).trim G (AC.go k_impl_varCount_1 ?_) (by simp [below])
  have hse := s.cs_eq
  by_cases ho : s.op = 1
  · simp -implicitDefEqProofs [F_impl_varCount_1, hse, lVis, lStep, ho]
  · simp -implicitDefEqProofs [F_impl_varCount_1, hse, lVis, lStep, ho]
theorem i_varCount (f : Fd) (hb : f.sz ≤ 1073741824) : VF Tryd.prog G n_impl_varCount [.agg (f.cs.map .p)] (.p (.int .i64 (varN f))) := by
  have hcs := f.cs_eq'
  have hfz : f.sz = 1 + f.name.length + (f.params.length + (f.params.map List.length).sum) + smsZ f.body := rfl
  have hl := letSs_le f.body
  have hl2 := smsN_le f.body
  have hst : strL f.params = .lst 1 (f.params.map fun w => [.str w]) := rfl
  have hI := (i_stmts G (lVis f) lStep (fun _ => True) 1073741824 (by omega) (fun st s d _ _ => ⟨trivial, i_varCount_1 G f st s d⟩) (smsZ f.body + 1) f.body (by omega) (by omega) 1 (by omega) (f.params.length : Int) trivial).2
  rw [lStep_l f.body 1 f.params.length (by omega) (by omega)] at hI
  refine AC.go k_impl_varCount ?_
  simp -implicitDefEqProofs [F_impl_varCount, hcs, hst]
  refine hI.mono ?_
  rintro r h ⟨rfl, rfl⟩
  simp -implicitDefEqProofs [callR_nxt, lVis, varN]
theorem s_l4Fine (l : List Fd) (hz : fdsZ l ≤ 1073741824) : VF Tryd.prog G n_spec_l4Fine [.agg [.p (fdL l)]] (.p (.bool (decide (chkProg l = 0)))) := by
  refine AC.go k_spec_l4Fine ?_
  simp -implicitDefEqProofs [F_spec_l4Fine]
  refine (s_CheckProgram G l hz).use ?_
  simp -implicitDefEqProofs []
theorem s_CountVars (l : List Fd) (hz : fdsZ l ≤ 1073741824) (k : Int) : VF Tryd.prog G n_spec_CountVars [.agg [.p (fdL l)], .p (.int .i64 k)] (.p (.int .i64 (cntV l k))) := by
  refine AC.go k_spec_CountVars ?_
  have hll := fdsZ_len l
  have hfl : fdL l = .lst 3 (l.map Fd.cs) := rfl
  have hw : IntKind.i64.wrap ((l.length : Int) - 1) = (l.length : Int) - 1 := i64_small (by omega) (by omega)
  simp -implicitDefEqProofs [F_spec_CountVars]
  refine (s_l4Fine G l hz).use ?_
  by_cases h0 : chkProg l = 0
  case neg =>
    have : cntV l k = -1 := if_neg (fun h => h0 h.1)
    simp -implicitDefEqProofs [h0, this]
  simp -implicitDefEqProofs [h0, hfl, hw]
  rw [← hfl]
  refine (s_l1In G _ _ _).use ?_
  by_cases h1 : inR k 0 ((l.length : Int) - 1) = true
  case neg =>
    have h1' : inR k 0 ((l.length : Int) - 1) = false := by simpa using h1
    have : cntV l k = -1 := if_neg (fun h => h1 h.2)
    rw [h1', this]
    simp -implicitDefEqProofs []
  have hk : 0 ≤ k ∧ k ≤ (l.length : Int) - 1 := by simpa [inR] using h1
  obtain ⟨n, rfl⟩ : ∃ n : Nat, k = n := ⟨k.toNat, by omega⟩
  have hn : n < l.length := by omega
  have hg := List.getElem?_eq_getElem hn
  have hc : cntV l n = (varN l[n] : Int) := by rw [cntV, if_pos ⟨h0, h1⟩]; simp only [Int.toNat_natCast, hg]
  have hcw := fnW_count l n l[n]
  have hrc := rnF_cs l n l[n]
  rw [h1, hc]
  simp -implicitDefEqProofs []
  refine (s_l4Fn G hg hz).use ?_
  simp -implicitDefEqProofs [hrc, hcw, varN]
variable (hK : G g_keys = some pvKeys) (hS : G g_opSign = some [.tbl opK opV])
include hK hS
theorem i_fine (l : List Fd) (hz : fdsZ l ≤ 1073741824) : VF Tryd.prog G n_impl_fine [.agg [.p (fdL l)]] (.p (.bool (decide (chkProg l = 0)))) := by
  refine AC.go k_impl_fine ?_
  simp -implicitDefEqProofs [F_impl_fine]
  refine (i_CheckProgram G hK hS l hz).use ?_
  simp -implicitDefEqProofs []
theorem i_CountVars (l : List Fd) (hz : fdsZ l ≤ 1073741824) (k : Int) : VF Tryd.prog G n_impl_CountVars [.agg [.p (fdL l)], .p (.int .i64 k)] (.p (.int .i64 (cntV l k))) := by
  refine AC.go k_impl_CountVars ?_
  have hll := fdsZ_len l
  have hfl : fdL l = .lst 3 (l.map Fd.cs) := rfl
  have hw : IntKind.i64.wrap ((l.length : Int) - 1) = (l.length : Int) - 1 := i64_small (by omega) (by omega)
  simp -implicitDefEqProofs [F_impl_CountVars]
  refine (i_fine G hK hS l hz).use ?_
  by_cases h0 : chkProg l = 0
  case neg =>
    have : cntV l k = -1 := if_neg (fun h => h0 h.1)
    simp -implicitDefEqProofs [h0, this]
  simp -implicitDefEqProofs [h0, hfl, hw]
  refine (i_within G _ _ _).use ?_
  by_cases h1 : inR k 0 ((l.length : Int) - 1) = true
  case neg =>
    have h1' : inR k 0 ((l.length : Int) - 1) = false := by simpa using h1
    have : cntV l k = -1 := if_neg (fun h => h1 h.2)
    rw [h1', this]
    simp -implicitDefEqProofs []
  have hk : 0 ≤ k ∧ k ≤ (l.length : Int) - 1 := by simpa [inR] using h1
  obtain ⟨n, rfl⟩ : ∃ n : Nat, k = n := ⟨k.toNat, by omega⟩
  have hn : n < l.length := by omega
  have hg := List.getElem?_eq_getElem hn
  have hc : cntV l n = (varN l[n] : Int) := by rw [cntV, if_pos ⟨h0, h1⟩]; simp only [Int.toNat_natCast, hg]
  have hm := fdsZ_mem (List.getElem_mem hn)
  have hV := i_varCount G l[n] (by omega)
  have hcs := l[n].cs_eq'
  rw [h1, hc]
  generalize l[n] = f at *
  rw [hcs] at hV
  simp -implicitDefEqProofs [hg, hcs]
  refine hV.use ?_
  simp -implicitDefEqProofs []
theorem law_CountVars (l : List Fd) (hf : PFit l) (k : Int) : VF Tryd.prog G n_laws_FnExactCountVars [.agg [.p (fdL l)], .p (.int .i64 k)] (.p (.bool true)) := by
  refine AC.go k_laws_FnExactCountVars ?_
  have hsz' : VF Tryd.prog G n_laws_szProgram [.agg [.p (fdL l)], .p (.int .i64 1048576)] (.p (.int .i64 (leftI 1048576 (fdsZ l)))) := t_szProgram G l hf 1048576 (Nat.le_refl _)
  simp -implicitDefEqProofs [F_laws_FnExactCountVars]
  refine hsz'.use ?_
  by_cases hz : fdsZ l ≤ 1048576
  case neg =>
    rw [leftI_neg hz]
    simp -implicitDefEqProofs []
  have hto := t_toProgram G l hz
  have hnn : ¬ ((1048576 - fdsZ l : Nat) : Int) < 0 := by omega
  rw [leftI_pos hz]
  simp -implicitDefEqProofs [hnn]
  refine hto.use ?_
  simp -implicitDefEqProofs []
  refine (s_CountVars G l (by omega) k).use ?_
  simp -implicitDefEqProofs []
  refine hto.use ?_
  simp -implicitDefEqProofs []
  refine (i_CountVars G hK hS l (by omega) k).use ?_
  simp -implicitDefEqProofs []
  refine hto.use ?_
  simp -implicitDefEqProofs []
  refine (t_eqProgram G l hz).use ?_
  simp -implicitDefEqProofs []
end Go.Proofs.YtiojgfhdcpppcaaDoor
