/-
  The helpers of the laws over machines' programs: sizes, copies, comparisons, marks.
-/
import Derived.Test.YtbbobekgnclkfaaDoorCode1
namespace Go.Proofs.YtbbobekgnclkfaaDoor
open Go Go.Aw
set_option maxRecDepth 100000
set_option maxHeartbeats 4000000

structure Mins where (op a b c n : Int)
deriving DecidableEq
def Mins.cs (m : Mins) : List PV := [.int .i64 m.op, .int .i64 m.a, .int .i64 m.b, .int .i64 m.c, .int .i64 m.n]
structure Mfn where (params slots : Int) (ins : List Mins)
deriving DecidableEq
def Mfn.cs (m : Mfn) : List PV := [.int .i64 m.params, .int .i64 m.slots, .lst 5 (m.ins.map Mins.cs)]
@[simp] theorem Mins.cs_len (m : Mins) : m.cs.length = 5 := rfl
@[simp] theorem Mins.cs_take (m : Mins) : List.take 5 (m.cs.map AV.p) = m.cs.map AV.p := rfl
@[simp] theorem Mfn.cs_len (m : Mfn) : m.cs.length = 3 := rfl
@[simp] theorem Mfn.cs_take (m : Mfn) : List.take 3 (m.cs.map AV.p) = m.cs.map AV.p := rfl
def insL (l : List Mins) : PV := .lst 5 (l.map Mins.cs)
def fnsL (l : List Mfn) : PV := .lst 3 (l.map Mfn.cs)
/-- bytes -/
def bysL (l : List Int) : PV := .lst 1 (l.map fun n => [.int .u8 n])

variable (G : Glob)
/-! ### Sizes -/
def szF (fs : List Mfn) : Nat := fs.length + (fs.map (·.ins.length)).sum

def szT (fs : List Mfn) (i : Nat) : Nat := ((fs.take i).map (·.ins.length)).sum
theorem szT_succ {fs : List Mfn} {i : Nat} (h : i < fs.length) : szT fs (i + 1) = szT fs i + fs[i].ins.length := by
  simp only [szT]
  rw [List.take_add_one, List.getElem?_eq_getElem h]
  simp only [Option.toList_some, List.map_append, List.sum_append, List.map_cons, List.map_nil, List.sum_cons, List.sum_nil, Nat.add_zero]
theorem szT_all {fs : List Mfn} {i : Nat} (h : fs.length ≤ i) : szT fs i = (fs.map (·.ins.length)).sum := by rw [szT, List.take_of_length_le h]
theorem szT_le {fs : List Mfn} : ∀ {i : Nat}, szT fs i ≤ (fs.map (·.ins.length)).sum := fun {i} => by
  rw [← List.take_append_drop i fs, List.map_append, List.sum_append]
  simp [szT]
@[simp] theorem szT_zero (fs : List Mfn) : szT fs 0 = 0 := by simp [szT]
theorem t_szMinsS (xs : List Mins) (left : Nat) (h : xs.length ≤ left) (hl : left ≤ 1048576) : VF Tryd.prog G n_laws_szMinsS [.p (insL xs), .p (.int .i64 left)] (.p (.int .i64 ((left - xs.length : Nat) : Int))) := by
  refine AC.enter k_laws_szMinsS ?_
  have hw : IntKind.i64.wrap ((left : Int) - xs.length) = ((left - xs.length : Nat) : Int) := by rw [i64_small (by omega) (by omega)]; omega
  simp -implicitDefEqProofs [F_laws_szMinsS, List.replicate, insL, hw]

theorem t_szMfn (m : Mfn) (left : Nat) (h : m.ins.length ≤ left) (hl : left ≤ 1048576) : VF Tryd.prog G n_laws_szMfn [.agg (m.cs.map .p), .p (.int .i64 left)] (.p (.int .i64 ((left - m.ins.length : Nat) : Int))) := by
  refine AC.enter k_laws_szMfn ?_
  simp -implicitDefEqProofs [F_laws_szMfn, Mfn.cs, List.replicate]
  refine (t_szMinsS G _ left h hl).use ?_
  simp

theorem t_szMfnS (fs : List Mfn) (left : Nat) (h : szF fs ≤ left) (hl : left ≤ 1048576) : VF Tryd.prog G n_laws_szMfnS [.p (fnsL fs), .p (.int .i64 left)] (.p (.int .i64 ((left - szF fs : Nat) : Int))) := by
  refine AC.enter k_laws_szMfnS ?_
  have hsz : szF fs = fs.length + (fs.map (·.ins.length)).sum := rfl
  have hw : IntKind.i64.wrap ((left : Int) - fs.length) = ((left - fs.length : Nat) : Int) := by rw [i64_small (by omega) (by omega)]; omega
  simp -implicitDefEqProofs [F_laws_szMfnS, List.replicate, fnsL, hw]
  refine loopA (fun i : Nat => slots 27 [(0, .p (fnsL fs)), (1, .p (.int .i64 ((left - fs.length - szT fs i : Nat) : Int))), (5, .p (.int .i64 i))]) (fun _ => []) (fun i => i ≤ fs.length) (fun i => fs.length - i) 0 (by simp) (wk_nil rfl (by simp [slots, List.replicate, fnsL])) ?_
  intro i hi
  simp -implicitDefEqProofs [slots, List.replicate, fnsL]
  refine cnd (fun h1 => ?_) (fun h1 => ?_)
  · simp at h1
    have hs := szT_succ h1
    have hle := szT_le (fs := fs) (i := i + 1)
    simp -implicitDefEqProofs [List.getElem?_eq_getElem h1]
    refine (t_szMfn G fs[i] (left - fs.length - szT fs i) (by omega) (by omega)).use ?_
    simp
    refine ⟨i + 1, h1, by omega, wk_nil rfl ?_⟩
    simp [w1 (i := i) (by omega), hs]
    omega
  · simp at h1
    simp [hsz, szT_all h1]; omega

theorem t_szMach (fs : List Mfn) (left : Nat) (h : szF fs ≤ left) (hl : left ≤ 1048576) : VF Tryd.prog G n_laws_szMach [.agg [.p (fnsL fs)], .p (.int .i64 left)] (.p (.int .i64 ((left - szF fs : Nat) : Int))) := by
  refine AC.enter k_laws_szMach ?_
  simp -implicitDefEqProofs [F_laws_szMach, List.replicate]
  refine (t_szMfnS G fs left h hl).use ?_
  simp

/-! ### Comparisons -/
theorem t_eqMins (x y : Mins) : VF Tryd.prog G n_laws_eqMins [.agg (x.cs.map .p), .agg (y.cs.map .p)] (.p (.bool (decide (x = y)))) := by
  refine AC.enter k_laws_eqMins ?_
  simp -implicitDefEqProofs [F_laws_eqMins, Mins.cs, List.replicate]
  refine cnd (fun h e => ?_) fun h => cnd (fun h e => ?_) fun h => cnd (fun h e => ?_) fun h => cnd (fun h e => ?_) fun h => cnd (fun h e => ?_) fun h => ?_
  all_goals simp_all
  cases x; cases y; simp_all

theorem t_eqMinsS (xs ys : List Mins) (hb : xs.length ≤ 1048576) : VF Tryd.prog G n_laws_eqMinsS [.p (insL xs), .p (insL ys)] (.p (.bool (decide (xs = ys)))) := by
  refine AC.enter k_laws_eqMinsS ?_
  simp -implicitDefEqProofs [F_laws_eqMinsS, List.replicate, insL]
  refine cnd (fun h e => ?_) fun h => ?_
  · simp_all
  refine loopA (fun i : Nat => slots 27 [(0, .p (insL xs)), (1, .p (insL ys)), (5, .p (.int .i64 i))]) (fun _ => []) (fun i => i ≤ xs.length ∧ xs.take i = ys.take i) (fun i => xs.length - i) 0 (by simp) (wk_nil rfl (by simp [slots, List.replicate, insL])) ?_
  intro i ⟨hi, he⟩
  simp -implicitDefEqProofs [slots, List.replicate, insL]
  simp at h
  refine cnd (fun h1 => ?_) (fun h1 => ?_)
  · simp at h1
    have h2 : i < ys.length := by omega
    simp -implicitDefEqProofs [List.getElem?_eq_getElem h1, List.getElem?_eq_getElem h2]
    refine (t_eqMins G xs[i] ys[i]).use ?_
    simp -implicitDefEqProofs
    refine cnd (fun h3 => ?_) (fun h3 => ?_)
    · simp at h3
      exact get_ne h3
    · simp at h3
      exact ⟨i + 1, ⟨h1, take_succ_eq h1 h2 h3 he⟩, by omega, wk_nil rfl (by simp [w1 (i := i) (by omega)])⟩
  · simp at h1
    exact take_done (by omega) h1 he

theorem t_eqMfn (x y : Mfn) (hb : x.ins.length ≤ 1048576) : VF Tryd.prog G n_laws_eqMfn [.agg (x.cs.map .p), .agg (y.cs.map .p)] (.p (.bool (decide (x = y)))) := by
  refine AC.enter k_laws_eqMfn ?_
  simp -implicitDefEqProofs [F_laws_eqMfn, Mfn.cs, List.replicate]
  refine cnd (fun h e => ?_) fun h => cnd (fun h e => ?_) fun h => (t_eqMinsS G _ _ hb).use ?_
  · simp_all
  · simp_all
  · simp -implicitDefEqProofs
    refine cnd (fun h e => ?_) fun h => ?_
    · simp_all
    · cases x; cases y; simp_all

theorem t_eqMfnS (xs ys : List Mfn) (hb : szF xs ≤ 1048576) : VF Tryd.prog G n_laws_eqMfnS [.p (fnsL xs), .p (fnsL ys)] (.p (.bool (decide (xs = ys)))) := by
  refine AC.enter k_laws_eqMfnS ?_
  have hsz : szF xs = xs.length + (xs.map (·.ins.length)).sum := rfl
  simp -implicitDefEqProofs [F_laws_eqMfnS, List.replicate, fnsL]
  refine cnd (fun h e => ?_) fun h => ?_
  · simp_all
  refine loopA (fun i : Nat => slots 27 [(0, .p (fnsL xs)), (1, .p (fnsL ys)), (5, .p (.int .i64 i))]) (fun _ => []) (fun i => i ≤ xs.length ∧ xs.take i = ys.take i) (fun i => xs.length - i) 0 (by simp) (wk_nil rfl (by simp [slots, List.replicate, fnsL])) ?_
  intro i ⟨hi, he⟩
  simp -implicitDefEqProofs [slots, List.replicate, fnsL]
  simp at h
  refine cnd (fun h1 => ?_) (fun h1 => ?_)
  · simp at h1
    have h2 : i < ys.length := by omega
    have hx := szT_succ h1
    have hx2 := szT_le (fs := xs) (i := i + 1)
    simp -implicitDefEqProofs [List.getElem?_eq_getElem h1, List.getElem?_eq_getElem h2]
    refine (t_eqMfn G xs[i] ys[i] (by omega)).use ?_
    simp -implicitDefEqProofs
    refine cnd (fun h3 => ?_) (fun h3 => ?_)
    · simp at h3
      exact get_ne h3
    · simp at h3
      exact ⟨i + 1, ⟨h1, take_succ_eq h1 h2 h3 he⟩, by omega, wk_nil rfl (by simp [w1 (i := i) (by omega)])⟩
  · simp at h1
    exact take_done (by omega) h1 he

theorem t_eqMach (xs ys : List Mfn) (hb : szF xs ≤ 1048576) : VF Tryd.prog G n_laws_eqMach [.agg [.p (fnsL xs)], .agg [.p (fnsL ys)]] (.p (.bool (decide (xs = ys)))) := by
  refine AC.enter k_laws_eqMach ?_
  simp -implicitDefEqProofs [F_laws_eqMach, List.replicate]
  refine (t_eqMfnS G xs ys hb).use ?_
  simp -implicitDefEqProofs
  exact cnd (fun h => by simp_all) fun h => by simp_all

theorem t_eqByteS (xs ys : List Int) (hb : xs.length ≤ 1048576) : VF Tryd.prog G n_laws_eqByteS [.p (bysL xs), .p (bysL ys)] (.p (.bool (decide (xs = ys)))) := by
  refine AC.enter k_laws_eqByteS ?_
  simp -implicitDefEqProofs [F_laws_eqByteS, List.replicate, bysL]
  refine cnd (fun h e => ?_) fun h => ?_
  · simp_all
  refine loopA (fun i : Nat => slots 26 [(0, .p (bysL xs)), (1, .p (bysL ys)), (5, .p (.int .i64 i))]) (fun _ => []) (fun i => i ≤ xs.length ∧ xs.take i = ys.take i) (fun i => xs.length - i) 0 (by simp) (wk_nil rfl (by simp [slots, List.replicate, bysL])) ?_
  intro i ⟨hi, he⟩
  simp -implicitDefEqProofs [slots, List.replicate, bysL]
  simp at h
  refine cnd (fun h1 => ?_) (fun h1 => ?_)
  · simp at h1
    have h2 : i < ys.length := by omega
    simp -implicitDefEqProofs [List.getElem?_eq_getElem h1, List.getElem?_eq_getElem h2]
    refine cnd (fun h3 => ?_) (fun h3 => ?_)
    · simp at h3
      exact get_ne h3
    · simp at h3
      exact ⟨i + 1, ⟨h1, take_succ_eq h1 h2 h3 he⟩, by omega, wk_nil rfl (by simp [w1 (i := i) (by omega)])⟩
  · simp at h1
    exact take_done (by omega) h1 he

/-! ### Copies, as pure data -/
def zMins : List AV := [.p (.int .i64 0), .p (.int .i64 0), .p (.int .i64 0), .p (.int .i64 0), .p (.int .i64 0)]
theorem t_toMins (m : Mins) : VF Tryd.prog G n_laws_toMins [.agg (m.cs.map .p)] (.agg (m.cs.map .p)) := by
  refine AC.enter k_laws_toMins ?_
  simp -implicitDefEqProofs [F_laws_toMins, Mins.cs, List.replicate]

theorem o_toMinsS (xs : List Mins) (hb : xs.length ≤ 1048576) : AC Tryd.prog G n_laws_toMinsS [.p (insL xs)] [] fun x h => x = .ret (.sl 0 5 0 xs.length) ∧ h = [.row 5 (xs.map fun m => m.cs.map .p)] := by
  refine AC.enter k_laws_toMinsS ?_
  simp -implicitDefEqProofs [F_laws_toMinsS, List.replicate, insL]
  refine ⟨by omega, ?_⟩
  refine loopA (fun i : Nat => slots 23 [(0, .p (insL xs)), (3, .sl 0 5 0 xs.length), (4, .p (.int .i64 i))]) (fun i => [.row 5 ((xs.take i).map (fun m => m.cs.map .p) ++ List.replicate (xs.length - i) zMins)]) (fun i => i ≤ xs.length) (fun i => xs.length - i) 0 (by simp) ?_ ?_
  · exact wk_fst (n := 1) (by omega) (fst_row rfl (by simp [zMins]) (by simp [zMins])) (by simp -implicitDefEqProofs [slots, List.replicate, below, insL])
  · intro i hi
    simp -implicitDefEqProofs [slots, List.replicate, insL]
    refine cnd (fun h1 => ?_) (fun h1 => ?_)
    · simp at h1
      simp -implicitDefEqProofs [List.getElem?_eq_getElem h1]
      refine (t_toMins G xs[i]).use ?_
      simp -implicitDefEqProofs
      refine ⟨h1, ?_⟩
      rw [fill_get (by simp) h1]
      simp -implicitDefEqProofs [zMins]
      refine ⟨i + 1, h1, by omega, wk_fst (n := 1) (by omega) (fst_row rfl (fill_set (by simp) h1 (by simp [h1])).symm ?_) (by simp [w1 (i := i) (by omega), below])⟩
      intro x hx
      rcases List.mem_append.1 hx with hx | hx
      · obtain ⟨m, _, rfl⟩ := List.mem_map.1 (List.mem_of_mem_take hx)
        simp
      · rw [(List.mem_replicate.1 hx).2]; simp
    · simp at h1
      have : i = xs.length := by omega
      subst this
      simp
      exact List.take_of_length_le (by simp)

theorem t_toMinsS (xs : List Mins) (hb : xs.length ≤ 1048576) : VF Tryd.prog G n_laws_toMinsS [.p (insL xs)] (.p (insL xs)) :=
  AC.freeze (o_toMinsS G xs hb) (.one (view_row (by simp) (by simp) (by simp)) .nil)

theorem t_toMfn (m : Mfn) (hb : m.ins.length ≤ 1048576) : VF Tryd.prog G n_laws_toMfn [.agg (m.cs.map .p)] (.agg (m.cs.map .p)) := by
  refine AC.enter k_laws_toMfn ?_
  simp -implicitDefEqProofs [F_laws_toMfn, Mfn.cs, List.replicate]
  refine (t_toMinsS G _ hb).use ?_
  simp -implicitDefEqProofs [insL]

def zMfn : List AV := [.p (.int .i64 0), .p (.int .i64 0), .nils]
/-- The copy of a list of functions, its texts pure. -/
theorem p_toMfnS (xs : List Mfn) (hb : szF xs ≤ 1048576) : AC Tryd.prog G n_laws_toMfnS [.p (fnsL xs)] [] fun x h => x = .ret (.sl 0 3 0 xs.length) ∧ h = [.row 3 (xs.map fun m => m.cs.map .p)] := by
  have hsz : szF xs = xs.length + (xs.map (·.ins.length)).sum := rfl
  refine AC.enter k_laws_toMfnS ?_
  simp -implicitDefEqProofs [F_laws_toMfnS, List.replicate, fnsL]
  refine ⟨by omega, ?_⟩
  refine loopA (fun i : Nat => slots 23 [(0, .p (fnsL xs)), (3, .sl 0 3 0 xs.length), (4, .p (.int .i64 i))]) (fun i => [.row 3 ((xs.take i).map (fun m => m.cs.map .p) ++ List.replicate (xs.length - i) zMfn)]) (fun i => i ≤ xs.length) (fun i => xs.length - i) 0 (by simp) ?_ ?_
  · exact wk_fst (n := 1) (by omega) (fst_row rfl (by simp [zMfn]) (by simp [zMfn])) (by simp -implicitDefEqProofs [slots, List.replicate, below, fnsL])
  · intro i hi
    simp -implicitDefEqProofs [slots, List.replicate, fnsL]
    refine cnd (fun h1 => ?_) (fun h1 => ?_)
    · simp at h1
      have hx := szT_succ h1
      have hx2 := szT_le (fs := xs) (i := i + 1)
      simp -implicitDefEqProofs [List.getElem?_eq_getElem h1]
      refine (t_toMfn G xs[i] (by omega)).use ?_
      simp -implicitDefEqProofs
      refine ⟨h1, ?_⟩
      rw [fill_get (by simp) h1]
      simp -implicitDefEqProofs [zMfn]
      refine ⟨i + 1, h1, by omega, wk_fst (n := 1) (by omega) (fst_row rfl (fill_set (by simp) h1 (by simp [h1])).symm ?_) (by simp [w1 (i := i) (by omega), below])⟩
      intro x hx
      rcases List.mem_append.1 hx with hx | hx
      · obtain ⟨m, _, rfl⟩ := List.mem_map.1 (List.mem_of_mem_take hx)
        simp
      · rw [(List.mem_replicate.1 hx).2]; simp
    · simp at h1
      have : i = xs.length := by omega
      subst this
      simp
      exact List.take_of_length_le (by simp)

theorem t_toMfnS (xs : List Mfn) (hb : szF xs ≤ 1048576) : VF Tryd.prog G n_laws_toMfnS [.p (fnsL xs)] (.p (fnsL xs)) :=
  AC.freeze (p_toMfnS G xs hb) (.one (view_row (by simp) (by simp) (by simp)) .nil)

theorem t_toMach (xs : List Mfn) (hb : szF xs ≤ 1048576) : VF Tryd.prog G n_laws_toMach [.agg [.p (fnsL xs)]] (.agg [.p (fnsL xs)]) := by
  refine AC.enter k_laws_toMach ?_
  simp -implicitDefEqProofs [F_laws_toMach, List.replicate]
  refine (t_toMfnS G _ hb).use ?_
  simp -implicitDefEqProofs
end Go.Proofs.YtbbobekgnclkfaaDoor
