/-
  Whether a machine's program is valid: the reference's answer.
-/
import Derived.Test.YtbbobekgnclkfaaDoorM4
namespace Go.Proofs.YtbbobekgnclkfaaDoor
open Go Go.Aw
set_option maxRecDepth 100000
set_option maxHeartbeats 4000000
variable (G : Glob)

theorem fnsOk_get : ∀ {fs : List Mfn} {k : Int} {i : Nat} {f : Mfn}, fnsOk k fs = true → fs[i]? = some f → fnOk (k + i) f = true
  | g :: r, k, 0, f, h, e => by
    simp only [fnsOk, Bool.and_eq_true] at h
    cases e; simpa using h.1
  | g :: r, k, i + 1, f, h, e => by
    simp only [fnsOk, Bool.and_eq_true] at h
    have := fnsOk_get h.2 (i := i) (f := f) (by simpa using e)
    rw [show k + ((i + 1 : Nat) : Int) = k + 1 + (i : Int) by omega]; exact this
theorem fnsOk_all : ∀ {fs : List Mfn} {k : Int}, (∀ (i : Nat) f, fs[i]? = some f → fnOk (k + i) f = true) → fnsOk k fs = true
  | [], _, _ => rfl
  | g :: r, k, h => by
    simp only [fnsOk, Bool.and_eq_true]
    refine ⟨by simpa using h 0 g rfl, fnsOk_all fun i f e => ?_⟩
    have := h (i + 1) f (by simpa using e)
    rw [show k + ((i + 1 : Nat) : Int) = k + 1 + (i : Int) by omega] at this; exact this
theorem machBad {fs : List Mfn} {i : Nat} {f : Mfn} (e : fs[i]? = some f) (h : fnOk i f = false) : machOk fs = false := by
  cases hm : machOk fs with
  | false => rfl
  | true =>
    simp only [machOk, Bool.and_eq_true] at hm
    have := fnsOk_get hm.2 e
    rw [Int.zero_add, h] at this; cases this

theorem lastOk_get {l : List Mins} (h : 0 < l.length) : lastOk l = (l[l.length - 1].op == 20 || l[l.length - 1].op == 22) := by
  rw [lastOk, List.getLast?_eq_getElem?, List.getElem?_eq_getElem (by omega)]

theorem s_MachValid (fs : List Mfn) (hb : szF fs ≤ 1048576) : VF Tryd.prog G n_spec_MachValid [.agg [.p (fnsL fs)]] (.p (.bool (machOk fs))) := by
  have hsz : szF fs = fs.length + (fs.map (·.ins.length)).sum := rfl
  refine AC.enter k_spec_MachValid ?_
  simp -implicitDefEqProofs [F_spec_MachValid, List.replicate, fnsL]
  refine (s_l1In G _ _ _).use ?_
  simp -implicitDefEqProofs
  refine cnd (fun h => ?_) (fun h => ?_)
  · simp at h; simp [machOk, h]
  simp at h
  refine loopA (fun i : Nat => slots 81 [(1, .ptr 0 1 0 0), (3, .p (.int .i64 (szT fs i))), (4, .p (.int .i64 i))]) (fun _ => [.row 1 [[.p (fnsL fs)]]])
    (fun i => i ≤ fs.length ∧ szT fs i ≤ 2000 ∧ ∀ j f, j < i → fs[j]? = some f → fnOk j f = true) (fun i => fs.length - i) 0 (by simp) (wk_same (by simp) (by simp [okO, fnsL]) (by simp [slots, List.replicate, below])) ?_
  intro i ⟨hi, hn, hok⟩
  simp -implicitDefEqProofs [slots, List.replicate, fnsL]
  refine cnd (fun h1 => ?_) (fun h1 => ?_)
  · simp at h1
    have hx := szT_succ h1
    have hx2 := szT_le (fs := fs) (i := i + 1)
    have hgi := List.getElem?_eq_getElem h1
    have hkm : (fs.map Mfn.cs)[i]? = some fs[i].cs := by rw [List.getElem?_map, hgi]; rfl
    have hw : IntKind.i64.wrap ((szT fs i : Int) + (fs[i].ins.length : Int)) = ((szT fs (i + 1) : Nat) : Int) := by rw [i64_small (by omega) (by omega), hx]; omega
    simp -implicitDefEqProofs [hgi]
    simp -implicitDefEqProofs [Mfn.cs, hw]
    refine (s_l1In G _ _ _).use ?_
    by_cases hp : inR fs[i].params 0 3 = true
    rotate_left
    · simp -implicitDefEqProofs [hp]
      exact (machBad hgi (by simp [fnOk, hp])).symm ▸ rfl
    simp -implicitDefEqProofs [hp]
    refine (s_l1In G _ _ _).use ?_
    by_cases hs : inR fs[i].slots 0 64 = true
    rotate_left
    · simp -implicitDefEqProofs [hs]
      exact (machBad hgi (by simp [fnOk, hs])).symm ▸ rfl
    by_cases h0 : fs[i].ins = []
    · simp -implicitDefEqProofs [hs, h0]
      exact (machBad hgi (by simp [fnOk, h0, lastOk])).symm ▸ rfl
    have hpos : 0 < fs[i].ins.length := List.length_pos_iff.2 h0
    simp -implicitDefEqProofs [hs, h0]
    refine cnd (fun h2 => ?_) (fun h2 => ?_)
    · simp at h2
      have : ¬ (insSum fs ≤ 2000) := by have := szT_le (fs := fs) (i := i + 1); simp only [insSum]; omega
      simp [machOk, this]
    simp at h2
    refine loopA (fun q : Nat => slots 81 [(1, .ptr 0 1 0 0), (3, .p (.int .i64 (szT fs (i + 1)))), (4, .p (.int .i64 i)), (5, .ptr 1 3 0 0), (6, .p (.int .i64 q))]) (fun _ => [.row 1 [[.p (fnsL fs)]], .row 3 [fs[i].cs.map .p]])
      (fun q => q ≤ fs[i].ins.length ∧ ∀ x ∈ fs[i].ins.take q, insOk fs[i].params fs[i].slots fs[i].ins.length i x = true) (fun q => fs[i].ins.length - q) 0 (by simp) (wk_same (by simp) (by simp [okO, fnsL, Mfn.cs]) (by simp [slots, List.replicate, below])) ?_
    intro q ⟨hq, hqs⟩
    simp -implicitDefEqProofs [slots, List.replicate, fnsL, Mfn.cs]
    refine cnd (fun h3 => ?_) (fun h3 => ?_)
    · simp at h3
      simp -implicitDefEqProofs [List.getElem?_eq_getElem h3]
      refine (s_l22Ins G fs i fs[i] fs[i].ins[q] hgi (by omega) (by omega) hp hs).use ?_
      simp -implicitDefEqProofs
      refine cnd (fun h4 => ?_) (fun h4 => ?_)
      · simp at h4
        have : (fs[i].ins.all (insOk fs[i].params fs[i].slots fs[i].ins.length i)) = false := by
          rw [List.all_eq_false]; exact ⟨_, List.getElem_mem h3, by simp [h4]⟩
        exact (machBad hgi (by simp [fnOk, this])).symm ▸ rfl
      · simp at h4
        refine ⟨q + 1, ⟨by omega, by
          intro x hx
          rw [take_succ' h3] at hx
          rcases List.mem_append.1 hx with hx | hx
          · exact hqs x hx
          · rw [List.mem_singleton.1 hx]; exact h4⟩, by omega, wk_same (by simp) (by simp [okO, fnsL]) ?_⟩
        simp [below, w1 (i := q) (by omega)]
    · simp at h3
      rw [List.take_of_length_le h3] at hqs
      have hwl : IntKind.i64.wrap ((fs[i].ins.length : Int) - 1) = ((fs[i].ins.length - 1 : Nat) : Int) := by rw [i64_small (by omega) (by omega)]; omega
      have hgl := List.getElem?_eq_getElem (l := fs[i].ins) (i := fs[i].ins.length - 1) (by omega)
      have hlo := lastOk_get hpos
      simp -implicitDefEqProofs [hwl, hgl, hpos, Mins.cs]
      have hfin : lastOk fs[i].ins = true → ∃ a, (a ≤ fs.length ∧ szT fs a ≤ 2000 ∧ ∀ (j : Nat) (f : Mfn), j < a → fs[j]? = some f → fnOk j f = true) ∧ a = i + 1 := fun hl => by
        refine ⟨i + 1, ⟨h1, by omega, fun j f hj e => ?_⟩, rfl⟩
        rcases Nat.lt_or_ge j i with hji | hji
        · exact hok j f hji e
        · obtain rfl : j = i := by omega
          rw [hgi] at e; cases e
          simp only [fnOk, hp, hs, hl, Bool.true_and, List.all_eq_true]
          exact hqs
      by_cases e20 : fs[i].ins[fs[i].ins.length - 1].op = 20
      · obtain ⟨a, h5, rfl⟩ := hfin (by rw [hlo]; simp [e20])
        simp -implicitDefEqProofs [e20]
        refine ⟨i + 1, h5, by omega, wk_fst (n := 1) (by simp) (fst_row rfl rfl (by simp [fnsL])) ?_⟩
        simp [below, w1 (i := i) (by omega)]
      · simp -implicitDefEqProofs [e20]
        refine cnd (fun h5 => ?_) (fun h5 => ?_)
        · simp at h5
          exact (machBad hgi (by simp [fnOk, hlo, e20, h5])).symm ▸ rfl
        · simp at h5
          obtain ⟨a, h6, rfl⟩ := hfin (by rw [hlo]; simp [h5])
          refine ⟨i + 1, h6, by omega, wk_fst (n := 1) (by simp) (fst_row rfl rfl (by simp [fnsL])) ?_⟩
          simp [below, w1 (i := i) (by omega)]
  · simp at h1
    have hall : fnsOk 0 fs = true := fnsOk_all fun j f e => by
      rw [Int.zero_add]; exact hok j f (by have := (List.getElem?_eq_some_iff.1 e).1; omega) e
    have : insSum fs ≤ 2000 := by rw [insSum, ← szT_all h1]; exact hn
    simp [machOk, hall, this, h]
end Go.Proofs.YtbbobekgnclkfaaDoor
