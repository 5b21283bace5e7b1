/-
  A machine's program read from bytes: the plain model, and the reference's answer.
-/
import Derived.Test.YtbbobekgnclkfaaDoorM27
namespace Go.Proofs.YtbbobekgnclkfaaDoor
open Go Go.Aw
set_option maxRecDepth 100000
set_option maxHeartbeats 4000000

/-! ### The plain model -/
def hdOk (b : List Int) : Bool := decide (3 ≤ b.length) && decide (byAt b 0 = 87) && decide (byAt b 1 = 119)
def cntN (b : List Int) : Nat := (byAt b 2).toNat
def szAt (b : List Int) (a : Nat) : Nat := (byAt b (a + 2) + 256 * byAt b (a + 3)).toNat
/-- Where the first sections begin, and where they end. -/
def secTo (b : List Int) : Nat → Option (List Nat × Nat)
  | 0 => some ([], 3)
  | k + 1 => (secTo b k).bind fun x => if x.2 + 4 ≤ b.length ∧ x.2 + 4 + szAt b x.2 ≤ b.length then some (x.1 ++ [x.2], x.2 + 4 + szAt b x.2) else none
def subAt (b : List Int) (a : Nat) : List Int := (b.drop (a + 4)).take (szAt b a)
def fnAt (b : List Int) (a : Nat) : Option Mfn := decF (byAt b a) (byAt b (a + 1)) (subAt b a)
def fnsOf (b : List Int) : List Nat → Option (List Mfn)
  | [] => some []
  | a :: r => (fnAt b a).bind fun f => (fnsOf b r).map (f :: ·)
/-- The program of bytes. -/
def rdIm (b : List Int) : Option (List Mfn) := if hdOk b then (secTo b (cntN b)).bind fun x => if x.2 = b.length then (fnsOf b x.1).bind fun fs => if machOk fs then some fs else none else none else none

theorem secTo_step {b : List Int} {k a : Nat} {sts : List Nat} (h : secTo b k = some (sts, a)) (h1 : a + 4 ≤ b.length) (h2 : a + 4 + szAt b a ≤ b.length) : secTo b (k + 1) = some (sts ++ [a], a + 4 + szAt b a) := by
  rw [secTo, h]; simp [h1, h2]
theorem secTo_bad {b : List Int} {k a : Nat} {sts : List Nat} (h : secTo b k = some (sts, a)) (h1 : ¬ (a + 4 ≤ b.length ∧ a + 4 + szAt b a ≤ b.length)) : secTo b (k + 1) = none := by
  rw [secTo, h]; simp only [Option.bind_some]; rw [if_neg h1]
theorem secTo_none {b : List Int} {k : Nat} (h : secTo b k = none) : ∀ j, secTo b (k + j) = none
  | 0 => h
  | j + 1 => by rw [← Nat.add_assoc, secTo, secTo_none h j]; rfl
theorem secTo_pre {b : List Int} {k a : Nat} {sts : List Nat} (h : secTo b k = some (sts, a)) : ∀ j x, secTo b (k + j) = some x → ∃ r, x.1 = sts ++ r
  | 0, x, e => by rw [Nat.add_zero, h] at e; cases e; exact ⟨[], by simp⟩
  | j + 1, x, e => by
    rw [← Nat.add_assoc, secTo, Option.bind_eq_some_iff] at e
    obtain ⟨y, e1, e2⟩ := e
    obtain ⟨r, hr⟩ := secTo_pre h j y e1
    split at e2
    · cases e2; exact ⟨r ++ [y.2], by simp [hr]⟩
    · cases e2
theorem secTo_le {b : List Int} (hl : 3 ≤ b.length) : ∀ {k : Nat} {x : List Nat × Nat}, secTo b k = some x → x.2 ≤ b.length ∧ x.1.length = k ∧ 3 ≤ x.2
  | 0, x, e => by cases e; exact ⟨hl, rfl, by simp⟩
  | k + 1, x, e => by
    rw [secTo, Option.bind_eq_some_iff] at e
    obtain ⟨y, e1, e2⟩ := e
    have := secTo_le hl e1
    split at e2
    · rename_i hc; cases e2; refine ⟨hc.2, by simp [this.2.1], by simp only; omega⟩
    · cases e2
theorem fnsOf_app (b : List Int) : ∀ (l : List Nat) (a : Nat), fnsOf b (l ++ [a]) = (fnsOf b l).bind fun fs => (fnAt b a).map fun f => fs ++ [f]
  | [], a => by simp only [List.nil_append, fnsOf]; cases fnAt b a <;> rfl
  | c :: r, a => by
    simp only [List.cons_append, fnsOf, fnsOf_app b r a]
    cases fnAt b c <;> cases fnsOf b r <;> cases fnAt b a <;> rfl
theorem fnsOf_bad {b : List Int} {a : Nat} (h : fnAt b a = none) : ∀ {l : List Nat}, a ∈ l → fnsOf b l = none
  | c :: r, hm => by
    rcases List.mem_cons.1 hm with rfl | hm
    · rw [fnsOf, h]; rfl
    · rw [fnsOf, fnsOf_bad h hm]; cases fnAt b c <;> rfl
theorem rdIm_none1 {b : List Int} {k : Nat} (h : secTo b k = none) (hk : k ≤ cntN b) : rdIm b = none := by
  have := secTo_none h (cntN b - k)
  rw [show k + (cntN b - k) = cntN b by omega] at this
  rw [rdIm, this]; simp
theorem rdIm_none2 {b : List Int} {k a : Nat} {sts : List Nat} (h : secTo b k = some (sts, a)) (hk : k < cntN b) (h1 : a + 4 ≤ b.length) (h2 : a + 4 + szAt b a ≤ b.length) (hf : fnAt b a = none) : rdIm b = none := by
  have hs := secTo_step h h1 h2
  rw [rdIm]
  cases hc : secTo b (cntN b) with
  | none => simp
  | some x =>
    rw [show cntN b = k + 1 + (cntN b - (k + 1)) by omega] at hc
    obtain ⟨r, hr⟩ := secTo_pre hs _ x hc
    have : fnsOf b x.1 = none := fnsOf_bad hf (by rw [hr]; simp)
    simp [this]
theorem decF_ins {p s : Int} {code : List Int} {f : Mfn} (h : decF p s code = some f) : codeOk f = true ∧ encB f = code ∧ f.params = p ∧ f.slots = s ∧ f.ins.length ≤ 2000 := by
  unfold decF at h
  rw [Option.bind_eq_some_iff] at h
  obtain ⟨ps, _, h⟩ := h
  split at h
  · rename_i hk
    cases h
    simp only [decOkF, Bool.and_eq_true, decide_eq_true_eq] at hk
    have hc := hk.1
    simp only [codeOk, Bool.and_eq_true] at hc
    exact ⟨hk.1, hk.2, rfl, rfl, (fine_of_alone hc.1).1⟩
  · cases h
theorem szF_bound : ∀ (fs : List Mfn), (∀ f ∈ fs, f.ins.length ≤ 2000) → szF fs ≤ fs.length * 2001
  | [], _ => by simp [szF]
  | f :: r, h => by
    have := szF_bound r fun g hg => h g (by simp [hg])
    have := h f (by simp)
    simp only [szF, List.map_cons, List.sum_cons, List.length_cons] at *
    omega

variable (G : Glob)
structure RS where
  k : Nat
  a : Nat
  sts : List Nat
  fs : List Mfn
def rowsF (fs : List Mfn) : List (List AV) := (fs.map Mfn.cs).map (·.map .p)
theorem rowsF_pure (fs : List Mfn) : ∀ x ∈ rowsF fs, belowL 0 x := by
  intro x hx
  simp only [rowsF, List.mem_map] at hx
  obtain ⟨y, ⟨f, _, rfl⟩, rfl⟩ := hx
  simp
theorem rowsF_len (fs : List Mfn) : (rowsF fs).length = fs.length := by simp [rowsF]
theorem rowsF_app (fs : List Mfn) (f : Mfn) : rowsF (fs ++ [f]) = rowsF fs ++ [f.cs.map .p] := by simp [rowsF]
def RSok (b : List Int) (d : RS) : Prop := d.k ≤ cntN b ∧ secTo b d.k = some (d.sts, d.a) ∧ fnsOf b d.sts = some d.fs ∧ d.fs.length = d.k ∧ ∀ f ∈ d.fs, f.ins.length ≤ 2000
def rsH (fs : List Mfn) : List AO := [.row 1 [[.nils]], .row 1 [[slE 2 3 (rowsF fs)]], rowE 3 (rowsF fs)]

theorem o_sReadImage (b : List Int) (hb : BytesOk b) (hl : b.length ≤ 1048576) :
    AC Tryd.prog G n_spec_ReadImage [.p (bysL b)] [] fun x h => match rdIm b with
      | none => x = .ret (.tup [.agg [.nils], .p (.bool false)])
      | some fs => ∃ id, x = .ret (.tup [.agg [.sl id 3 0 fs.length], .p (.bool true)]) ∧ h[id]? = some (.row 3 (rowsF fs)) := by
  refine AC.go k_spec_ReadImage ?_
  have hbl : bysL b = .lst 1 (b.map fun n => [.int .u8 n]) := rfl
  simp -implicitDefEqProofs [F_spec_ReadImage, hbl]
  by_cases h3 : b.length < 3
  · have hd : rdIm b = none := by rw [rdIm, if_neg]; simp [hdOk]; intros; omega
    have h3i : (b.length : Int) < 3 := by omega
    simp -implicitDefEqProofs [h3i, hd]
  have h3i : ¬ (b.length : Int) < 3 := by omega
  have hg0 := byAt_get (code := b) (i := 0) (by omega)
  have hg1 := byAt_get (code := b) (i := 1) (by omega)
  have hg2 := byAt_get (code := b) (i := 2) (by omega)
  by_cases h87 : byAt b 0 = 87
  rotate_left
  · have hd : rdIm b = none := by rw [rdIm, if_neg]; simp [hdOk, h87]
    simp -implicitDefEqProofs [h3i, hg0, h87, hd]
  by_cases h119 : byAt b 1 = 119
  rotate_left
  · have hd : rdIm b = none := by rw [rdIm, if_neg]; simp [hdOk, h119]
    simp -implicitDefEqProofs [h3i, hg0, hg1, h87, h119, hd]
  have hhd : hdOk b = true := by simp [hdOk, h87, h119]; omega
  have b2 := byAt_ok hb 2
  have hcn : ((cntN b : Nat) : Int) = byAt b 2 := by rw [cntN]; omega
  have hcnt : IntKind.i64.wrap (byAt b 2) = ((cntN b : Nat) : Int) := by rw [hcn]; exact i64_small (by omega) (by omega)
  simp -implicitDefEqProofs [h3i, hg0, hg1, h87, h119]
  refine loopA (fun d : RS => tsOf 110 [(0, .p (bysL b)), (2, .ptr 0 1 0 0), (3, .p (.bool false)), (4, .ptr 1 1 0 0), (5, .p (.int .i64 d.a)), (6, .p (.int .i64 d.k))]) (fun d => rsH d.fs) (fun d => RSok b d) (fun d => cntN b - d.k) ⟨0, 3, [], []⟩ (by simp [RSok, secTo, fnsOf]) ?_ ?_
  · simp only [rsH, rowsF, List.map_nil, slE_nil, rowE_nil]
    exact wkt_dup [0, 1, 0] (by simp) (by simp) (by simp [lives]) (hw_row rfl (by simp [belowL, below]) (hw_row rfl (by simp [belowL, below]) (hw_dead (by simp) hw_nil))) (by simp [below, ren, bysL])
  · rintro ⟨k, a, sts, fs⟩ ⟨i1, i2, i3, i4, i5⟩
    simp only at i1 i2 i3 i4 i5
    obtain ⟨l1, l2, l3⟩ := secTo_le (by omega) i2
    simp only at l1 l2 l3
    simp -implicitDefEqProofs [rsH, hbl, hg2, hcnt]
    refine cndb (fun h1 => ?_) (fun h1 => ?_)
    · simp at h1
      have hw4 : IntKind.i64.wrap ((a : Int) + 4) = ((a + 4 : Nat) : Int) := i64_nat (by omega) (by omega)
      simp -implicitDefEqProofs [hw4]
      by_cases hf1 : a + 4 ≤ b.length
      rotate_left
      · have hd : rdIm b = none := rdIm_none1 (secTo_bad i2 (by omega)) h1
        have hfi : (b.length : Int) < (a : Int) + 4 := by omega
        simp -implicitDefEqProofs [hfi, hd]
      have hfi : ¬ (b.length : Int) < (a : Int) + 4 := by omega
      have hq2 := byAt_get (code := b) (i := a + 2) (by omega)
      have hq3 := byAt_get (code := b) (i := a + 3) (by omega)
      have ht2 : ((a : Int) + 2).toNat = a + 2 := by omega
      have ht3 : ((a : Int) + 3).toNat = a + 3 := by omega
      have hw2 : IntKind.i64.wrap ((a : Int) + 2) = ((a + 2 : Nat) : Int) := i64_nat (by omega) (by omega)
      have hw3 : IntKind.i64.wrap ((a : Int) + 3) = ((a + 3 : Nat) : Int) := i64_nat (by omega) (by omega)
      have c0 := byAt_ok hb a
      have c1 := byAt_ok hb (a + 1)
      have c2 := byAt_ok hb (a + 2)
      have c3 := byAt_ok hb (a + 3)
      have hv2 : IntKind.i64.wrap (byAt b (a + 2)) = byAt b (a + 2) := i64_small (by omega) (by omega)
      have hv3 : IntKind.i64.wrap (byAt b (a + 3)) = byAt b (a + 3) := i64_small (by omega) (by omega)
      have hs3 : IntKind.i64.wrap (256 * byAt b (a + 3)) = 256 * byAt b (a + 3) := i64_small (by omega) (by omega)
      have hsz : IntKind.i64.wrap (byAt b (a + 2) + 256 * byAt b (a + 3)) = ((szAt b a : Nat) : Int) := i64_nat (by rw [szAt]; omega) (by rw [szAt]; omega)
      have hwn : IntKind.i64.wrap ((a : Int) + 4 + szAt b a) = ((a + 4 + szAt b a : Nat) : Int) := i64_nat (by omega) (by rw [szAt]; omega)
      simp -implicitDefEqProofs [hfi, hw2, hw3, ht2, ht3, hq2, hq3, hv2, hv3, hs3, hsz, hw4, hwn]
      refine ⟨by omega, by omega, ?_⟩
      by_cases hf2 : a + 4 + szAt b a ≤ b.length
      rotate_left
      · have hd : rdIm b = none := rdIm_none1 (secTo_bad i2 (by omega)) h1
        have hfi2 : (b.length : Int) < (a : Int) + 4 + szAt b a := by omega
        simp -implicitDefEqProofs [hfi2, hd]
      have hfi2 : ¬ (b.length : Int) < (a : Int) + 4 + szAt b a := by omega
      have hq0 := byAt_get (code := b) (i := a) (by omega)
      have hq1 := byAt_get (code := b) (i := a + 1) (by omega)
      have hw1 : IntKind.i64.wrap ((a : Int) + 1) = ((a + 1 : Nat) : Int) := i64_nat (by omega) (by omega)
      have hv0 : IntKind.i64.wrap (byAt b a) = byAt b a := i64_small (by omega) (by omega)
      have hv1 : IntKind.i64.wrap (byAt b (a + 1)) = byAt b (a + 1) := i64_small (by omega) (by omega)
      have ht4 : ((a : Int) + 4).toNat = a + 4 := by omega
      have ht5 : ((a : Int) + 4 + szAt b a).toNat = a + 4 + szAt b a := by omega
      have hsub : List.drop (a + 4) (List.take (a + 4 + szAt b a) (b.map fun n => [PV.int .u8 n])) = (subAt b a).map fun n => [PV.int .u8 n] := by
        rw [List.drop_take, subAt, show a + 4 + szAt b a - (a + 4) = szAt b a by omega, List.map_take, List.map_drop]
      have hp0 : (0 : Int) ≤ (a : Int) + 4 := by omega
      have hp1 : (0 : Int) ≤ (a : Int) + 4 + szAt b a := by omega
      have hp2 : (0 : Int) ≤ (a : Int) + 1 := by omega
      simp -implicitDefEqProofs [hfi2, hq0, hq1, hw1, hv0, hv1, hw4, hwn, ht4, ht5, hp0, hp1, hp2, hf2, hsub]
      have hsb : BytesOk (subAt b a) := fun x hx => hb x (List.mem_of_mem_drop (List.mem_of_mem_take hx))
      have hdec := s_DecodeFn G (byAt b a) (byAt b (a + 1)) (subAt b a) hsb (by simp [subAt]; omega)
      cases hfn : fnAt b a with
      | none =>
        have hd : rdIm b = none := rdIm_none2 i2 h1 hf1 hf2 hfn
        rw [show decF (byAt b a) (byAt b (a + 1)) (subAt b a) = none from hfn] at hdec
        refine hdec.use ?_
        simp -implicitDefEqProofs [hd, zF, Mfn.cs]
      | some f =>
        have hdf : decF (byAt b a) (byAt b (a + 1)) (subAt b a) = some f := hfn
        rw [hdf] at hdec
        refine hdec.use ?_
        have hrl := rowsF_len fs
        simp -implicitDefEqProofs [hrl, Mfn.cs]
        have hcl : cntN b ≤ 255 := by have := b2; omega
        have hok1 : RSok b ⟨k + 1, a + 4 + szAt b a, sts ++ [a], fs ++ [f]⟩ := by
          refine ⟨h1, secTo_step i2 hf1 hf2, ?_, by simp [i4], fun g hg => ?_⟩
          · simp only; rw [fnsOf_app, i3, hfn]; rfl
          · simp only [List.mem_append, List.mem_singleton] at hg
            rcases hg with hg | rfl
            · exact i5 g hg
            · exact (decF_ins hdf).2.2.2.2
        refine ⟨⟨by omega, by omega⟩, ⟨k + 1, a + 4 + szAt b a, sts ++ [a], fs ++ [f]⟩, hok1, by simp only; omega, ?_⟩
        have hne : ([f.cs.map .p] : List (List AV)) ≠ [] := by simp
        simp only [rowsF_app]
        rw [slE_app _ hne, rowE_app _ hne]
        refine wkt_pick [0, 1, 5] rfl (by decide) (hw_row rfl (by simp [belowL, below]) (hw_rowr (by simp [below]) (by simp [ren, renL, hrl]) (hw_row rfl (by have := rowsF_pure (fs ++ [f]); rw [rowsF_app] at this; exact this) hw_nil))) ?_
        simp [below, ren, bysL, w1 (i := k) (by omega), hw4, hwn]
    · simp at h1
      have hke : k = cntN b := by omega
      subst hke
      have hres : rdIm b = if a = b.length then (if machOk fs then some fs else none) else none := by
        rw [rdIm, if_pos hhd, i2]; simp only [Option.bind_some, i3]
      by_cases ha : a = b.length
      rotate_left
      · have hai : ¬ (a : Int) = b.length := by omega
        rw [if_neg ha] at hres
        simp -implicitDefEqProofs [hai, hres]
      have hai : (a : Int) = b.length := by omega
      rw [if_pos ha] at hres
      have hcl : cntN b ≤ 255 := by omega
      have hsz := szF_bound fs i5
      simp -implicitDefEqProofs [hai]
      have hv : ∀ h : List AO, h[2]? = some (rowE 3 (rowsF fs)) → View h (slE 2 3 (rowsF fs)) (fnsL fs) := fun h e => view_E e (by intro l hl; obtain ⟨f, _, rfl⟩ := List.mem_map.1 hl; rfl)
      refine (VF.lend (s_MachValid G fs (by omega)) (.agg (.one (hv _ rfl) .nil) .nil) rfl).mono ?_
      rintro r h ⟨rfl, rfl⟩
      cases hm : machOk fs with
      | false =>
        rw [hm] at hres
        simp -implicitDefEqProofs [callR_nxt, hres]
      | true =>
        rw [hm] at hres
        have hpos : 0 < fs.length := by
          have := hm
          simp [machOk, inR] at this
          omega
        have hne : rowsF fs ≠ [] := by intro e; have := rowsF_len fs; rw [e] at this; simp at this; omega
        simp -implicitDefEqProofs [callR_nxt, hres, slE_ne hne, rowE_ne hne, rowsF_len]

theorem s_ReadImage (b : List Int) (hb : BytesOk b) (hl : b.length ≤ 1048576) :
    VF Tryd.prog G n_spec_ReadImage [.p (bysL b)] (.tup [.agg [.p (fnsL ((rdIm b).getD []))], .p (.bool (rdIm b).isSome)]) := by
  refine (o_sReadImage G b hb hl).freezeR (fun t v h e => ?_) fun v h e => ?_
  · cases hd : rdIm b <;> rw [hd] at e
    · cases e
    · obtain ⟨_, e, _⟩ := e; cases e
  · cases hd : rdIm b with
    | none =>
      rw [hd] at e
      cases e
      exact .tup (.agg (.one (View.nils 3) .nil) (.keep (by simp) .nil)) .nil
    | some fs =>
      rw [hd] at e
      obtain ⟨id, e1, e2⟩ := e
      cases e1
      have := view_row (h := h) (id := id) (sz := 3) (n := fs.length) (ls := fs.map Mfn.cs) (by rw [e2, rowsF]) (by simp) (fun x hx => by obtain ⟨b, _, rfl⟩ := List.mem_map.1 hx; rfl)
      exact .tup (.agg (.one this .nil) (.keep (by simp) .nil)) .nil
end Go.Proofs.YtbbobekgnclkfaaDoor
