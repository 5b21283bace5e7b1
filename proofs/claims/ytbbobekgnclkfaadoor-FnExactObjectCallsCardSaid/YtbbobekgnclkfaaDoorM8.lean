/-
  Whether a machine's program is valid: the program's answer.
-/
import Derived.Test.YtbbobekgnclkfaaDoorM7
namespace Go.Proofs.YtbbobekgnclkfaaDoor
open Go Go.Aw
set_option maxRecDepth 100000
set_option maxHeartbeats 4000000

variable (G : Glob)

/-- The first index at which something holds, or -1. -/
def idxOf (p : Mins → Bool) (xs : List Mins) : Int := match xs.findIdx? p with | some i => i | none => -1

theorem g_IndexFunc {h : List AO} {f : FuncId} {caps : List AV} (xs : List Mins) (p : Mins → Bool) (hl : xs.length ≤ 1048576) (hcap : belowL h.length caps)
    (hcall : ∀ x ∈ xs, AC Tryd.prog G f (.agg (x.cs.map .p) :: caps) h fun r h' => r = .ret (.p (.bool (p x))) ∧ h' = h) :
    AC Tryd.prog G n_slices_IndexFunc_impl_Mins [.p (insL xs), .fn (.func f) caps] h fun r h' => r = .ret (.p (.int .i64 (idxOf p xs))) ∧ h' = h := by
  refine AC.enterB k_slices_IndexFunc_impl_Mins fun hb => AC.enter k_slices_IndexFunc_impl_Mins ?_
  simp -implicitDefEqProofs [F_slices_IndexFunc_impl_Mins, List.replicate, insL]
  refine loopA (fun i : Nat => slots 19 [(0, .p (insL xs)), (1, .fn (.func f) caps), (7, .p (.int .i64 xs.length)), (8, .p (.int .i64 i))]) (fun _ => h) (fun i => i ≤ xs.length ∧ ∀ x ∈ xs.take i, p x = false) (fun i => xs.length - i) 0 (by simp) (wk_refl (by simp) hb (by simp [slots, List.replicate, below, insL, hcap])) ?_
  intro i ⟨hi, hp⟩
  simp -implicitDefEqProofs [slots, List.replicate, insL]
  refine cnd (fun h1 => ?_) (fun h1 => ?_)
  · simp at h1
    simp -implicitDefEqProofs [List.getElem?_eq_getElem h1]
    refine (hcall _ (List.getElem_mem h1)).mono ?_
    rintro r h' ⟨rfl, rfl⟩
    simp -implicitDefEqProofs
    refine cnd (fun h2 => ?_) (fun h2 => ?_)
    · have : xs.findIdx? p = some i := by
        rw [List.findIdx?_eq_some_iff_getElem]
        refine ⟨h1, h2, fun j hj => ?_⟩
        have := hp (xs[j]) (by rw [List.mem_take_iff_getElem]; exact ⟨j, by omega, rfl⟩)
        simp [this]
      simp [idxOf, this]
    · refine ⟨i + 1, ⟨by omega, fun x hx => ?_⟩, by omega, wk_refl (by simp) hb ?_⟩
      · rw [take_succ' h1] at hx
        rcases List.mem_append.1 hx with hx | hx
        · exact hp x hx
        · rw [List.mem_singleton.1 hx]; exact h2
      · simp [below, hcap, w1 (i := i) (by omega)]
  · simp at h1
    rw [List.take_of_length_le h1] at hp
    have : xs.findIdx? p = none := by rw [List.findIdx?_eq_none_iff]; exact hp
    simp [idxOf, this]

theorem g_ContainsFunc {h : List AO} {f : FuncId} {caps : List AV} (xs : List Mins) (p : Mins → Bool) (hl : xs.length ≤ 1048576) (hcap : belowL h.length caps)
    (hcall : ∀ x ∈ xs, AC Tryd.prog G f (.agg (x.cs.map .p) :: caps) h fun r h' => r = .ret (.p (.bool (p x))) ∧ h' = h) :
    AC Tryd.prog G n_slices_ContainsFunc_impl_Mins [.p (insL xs), .fn (.func f) caps] h fun r h' => r = .ret (.p (.bool (xs.any p))) ∧ h' = h := by
  refine AC.enter k_slices_ContainsFunc_impl_Mins ?_
  simp -implicitDefEqProofs [F_slices_ContainsFunc_impl_Mins, List.replicate]
  refine (g_IndexFunc G xs p hl hcap hcall).mono ?_
  rintro r h' ⟨rfl, rfl⟩
  simp -implicitDefEqProofs
  rw [Bool.eq_iff_iff]
  cases h1 : xs.findIdx? p with
  | none =>
    have h2 := h1
    rw [List.findIdx?_eq_none_iff] at h2
    simp [idxOf, h1]
    intro x hx; simpa using h2 x hx
  | some i =>
    rw [List.findIdx?_eq_some_iff_getElem] at h1
    obtain ⟨h2, h3, _⟩ := h1
    have h1 : xs.findIdx? p = some i := by rw [List.findIdx?_eq_some_iff_getElem]; exact ⟨h2, h3, by assumption⟩
    simp [idxOf, h1]
    exact ⟨_, List.getElem_mem h2, h3⟩

theorem i_jumpOp (op : Int) : VF Tryd.prog G n_impl_jumpOp [.p (.int .i64 op)] (.p (.bool (op == 20 || op == 21))) := by
  refine AC.enter k_impl_jumpOp ?_
  simp -implicitDefEqProofs [F_impl_jumpOp, List.replicate]
  by_cases h : op = 20
  · simp -implicitDefEqProofs [h]
  · simp -implicitDefEqProofs [h]
    rw [Bool.eq_iff_iff]; simp
    exact fun e => (h e).elim

variable (hG : G g_forms = some pvForms)
include hG

theorem i_MachValid_1 (fs : List Mfn) (k : Nat) (f : Mfn) (x : Mins) (hk : fs[k]? = some f) (hk2 : k ≤ 1048576) (hl : f.ins.length ≤ 1048576) (hp : inR f.params 0 3 = true) (hs : inR f.slots 0 64 = true)
    {h : List AO} (h0 : h[0]? = some (.row 1 [[.p (fnsL fs)]])) (h1 : h[1]? = some (.row 1 [[.p (.int .i64 k)]])) :
    AC Tryd.prog G n_impl_MachValid_1 [.agg (x.cs.map .p), .ptr 0 1 0 0, .ptr 1 1 0 0] h fun r h' => r = .ret (.p (.bool (!insOk f.params f.slots f.ins.length k x))) ∧ h' = h := by
  refine AC.trim (AC.enter k_impl_MachValid_1 ?_) (by simp)
  have a0 : (h ++ [AO.row 5 [List.map AV.p x.cs]])[0]? = some (.row 1 [[.p (fnsL fs)]]) := by
    rw [List.getElem?_append_left (List.getElem?_eq_some_iff.1 h0).1]; exact h0
  have a1 : (h ++ [AO.row 5 [List.map AV.p x.cs]])[1]? = some (.row 1 [[.p (.int .i64 k)]]) := by
    rw [List.getElem?_append_left (List.getElem?_eq_some_iff.1 h1).1]; exact h1
  have b0 : (h ++ [AO.row 5 [List.map AV.p x.cs]])[0]'(by simp) = (.row 1 [[.p (fnsL fs)]]) := by
    rw [List.getElem?_eq_getElem (by simp)] at a0; exact Option.some.inj a0
  simp -implicitDefEqProofs [F_impl_MachValid_1, List.replicate, a0, a1, b0]
  refine (i_minsOk G hG fs k f x hk hk2 hl hp hs).use ?_
  simp -implicitDefEqProofs

theorem i_MachValid (fs : List Mfn) (hb : szF fs ≤ 1048576) : VF Tryd.prog G n_impl_MachValid [.agg [.p (fnsL fs)]] (.p (.bool (machOk fs))) := by
  have hsz : szF fs = fs.length + (fs.map (·.ins.length)).sum := rfl
  refine AC.enter k_impl_MachValid ?_
  simp -implicitDefEqProofs [F_impl_MachValid, List.replicate]
  simp -implicitDefEqProofs [fnsL]
  refine (i_within G _ _ _).use ?_
  simp -implicitDefEqProofs
  refine cnd (fun h => ?_) (fun h => ?_)
  · simp at h; simp [machOk, h]
  simp at h
  refine loopA (fun i : Nat => slots 63 [(1, .ptr 0 1 0 0), (3, .p (.int .i64 (szT fs i))), (13, .p (fnsL fs)), (14, .p (.int .i64 fs.length)), (15, .p (.int .i64 i))]) (fun _ => [.row 1 [[.p (fnsL fs)]]])
    (fun i => i ≤ fs.length ∧ ∀ j f, j < i → fs[j]? = some f → fnOk j f = true) (fun i => fs.length - i) 0 (by simp) (wk_same (by simp) (by simp [okO, fnsL]) (by simp [slots, List.replicate, below, fnsL])) ?_
  intro i ⟨hi, hok⟩
  simp -implicitDefEqProofs [slots, List.replicate]
  refine cnd (fun h1 => ?_) (fun h1 => ?_)
  · simp at h1
    have hx := szT_succ h1
    have hx2 := szT_le (fs := fs) (i := i + 1)
    have hgi := List.getElem?_eq_getElem h1
    have hw : IntKind.i64.wrap ((szT fs i : Int) + (fs[i].ins.length : Int)) = ((szT fs (i + 1) : Nat) : Int) := by rw [i64_small (by omega) (by omega), hx]; omega
    have hfl : (fnsL fs) = .lst 3 (fs.map Mfn.cs) := rfl
    simp -implicitDefEqProofs [hgi, hfl]
    simp -implicitDefEqProofs [Mfn.cs, hw]
    refine (i_within G _ _ _).use ?_
    by_cases hp : inR fs[i].params 0 3 = true
    rotate_left
    · simp -implicitDefEqProofs [hp]
      exact (machBad hgi (by simp [fnOk, hp])).symm ▸ rfl
    simp -implicitDefEqProofs [hp]
    refine (i_within G _ _ _).use ?_
    by_cases hs : inR fs[i].slots 0 64 = true
    rotate_left
    · simp -implicitDefEqProofs [hs]
      exact (machBad hgi (by simp [fnOk, hs])).symm ▸ rfl
    by_cases h0 : fs[i].ins = []
    · simp -implicitDefEqProofs [hs, h0]
      exact (machBad hgi (by simp [fnOk, h0, lastOk])).symm ▸ rfl
    have hpos : 0 < fs[i].ins.length := List.length_pos_iff.2 h0
    have hwl : IntKind.i64.wrap ((fs[i].ins.length : Int) - 1) = ((fs[i].ins.length - 1 : Nat) : Int) := by rw [i64_small (by omega) (by omega)]; omega
    have hgl := List.getElem?_eq_getElem (l := fs[i].ins) (i := fs[i].ins.length - 1) (by omega)
    have hlo := lastOk_get hpos
    simp -implicitDefEqProofs [hs, h0, hwl, hgl, hpos, Mins.cs]
    have hend : lastOk fs[i].ins = true → AC Tryd.prog G n_slices_ContainsFunc_impl_Mins [.p (insL fs[i].ins), .fn (.func n_impl_MachValid_1) [.ptr 0 1 0 0, .ptr 1 1 0 0]] [.row 1 [[.p (fnsL fs)]], .row 1 [[.p (.int .i64 i)]], .row 3 [[.p (.int .i64 fs[i].params), .p (.int .i64 fs[i].slots), .p (insL fs[i].ins)]]]
        fun r h' => r = .ret (.p (.bool (fs[i].ins.any fun x => !insOk fs[i].params fs[i].slots fs[i].ins.length i x))) ∧ h' = [.row 1 [[.p (fnsL fs)]], .row 1 [[.p (.int .i64 i)]], .row 3 [[.p (.int .i64 fs[i].params), .p (.int .i64 fs[i].slots), .p (insL fs[i].ins)]]] := fun _ =>
      g_ContainsFunc G fs[i].ins _ (by omega) (by simp [below]) fun x hx => i_MachValid_1 G hG fs i fs[i] x hgi (by omega) (by omega) hp hs rfl rfl
    have hrest : lastOk fs[i].ins = true → (fs[i].ins.any fun x => !insOk fs[i].params fs[i].slots fs[i].ins.length i x) = false → ∀ j f, j < i + 1 → fs[j]? = some f → fnOk j f = true := fun hl ha j f hj e => by
      rcases Nat.lt_or_ge j i with hji | hji
      · exact hok j f hji e
      · obtain rfl : j = i := by omega
        rw [hgi] at e; cases e
        simp only [fnOk, hp, hs, hl, Bool.true_and, List.all_eq_true]
        simp at ha
        exact ha
    have hbadm : (fs[i].ins.any fun x => !insOk fs[i].params fs[i].slots fs[i].ins.length i x) = true → machOk fs = false := fun ha => by
      refine machBad hgi ?_
      simp at ha
      obtain ⟨x, h1, h2⟩ := ha
      have : fs[i].ins.all (insOk fs[i].params fs[i].slots fs[i].ins.length i) = false := by rw [List.all_eq_false]; exact ⟨x, h1, by simp [h2]⟩
      simp [fnOk, this]
    by_cases e20 : fs[i].ins[fs[i].ins.length - 1].op = 20
    · have hl : lastOk fs[i].ins = true := by rw [hlo]; simp [e20]
      simp -implicitDefEqProofs [e20]
      refine (hend hl).mono ?_
      rintro r h' ⟨rfl, rfl⟩
      simp -implicitDefEqProofs
      refine cnd (fun h5 => ?_) (fun h5 => ?_)
      · exact (hbadm h5).symm ▸ rfl
      · refine ⟨i + 1, ⟨h1, hrest hl h5⟩, by omega, wk_fst (n := 1) (by simp) (fst_row rfl rfl (by simp [fnsL])) ?_⟩
        simp [below, w1 (i := i) (by omega), fnsL]
    · simp -implicitDefEqProofs [e20]
      refine cnd (fun h5 => ?_) (fun h5 => ?_)
      · simp at h5
        exact (machBad hgi (by simp [fnOk, hlo, e20, h5])).symm ▸ rfl
      · simp at h5
        have hl : lastOk fs[i].ins = true := by rw [hlo]; simp [h5]
        refine (hend hl).mono ?_
        rintro r h' ⟨rfl, rfl⟩
        simp -implicitDefEqProofs
        refine cnd (fun h6 => ?_) (fun h6 => ?_)
        · exact (hbadm h6).symm ▸ rfl
        · refine ⟨i + 1, ⟨h1, hrest hl h6⟩, by omega, wk_fst (n := 1) (by simp) (fst_row rfl rfl (by simp [fnsL])) ?_⟩
          simp [below, w1 (i := i) (by omega), fnsL]
  · simp at h1
    have hall : fnsOk 0 fs = true := fnsOk_all fun j f e => by
      rw [Int.zero_add]; exact hok j f (by have := (List.getElem?_eq_some_iff.1 e).1; omega) e
    have e : insSum fs = szT fs i := by rw [insSum, szT_all h1]
    simp [machOk, hall, h, e]
    omega
end Go.Proofs.YtbbobekgnclkfaaDoor
