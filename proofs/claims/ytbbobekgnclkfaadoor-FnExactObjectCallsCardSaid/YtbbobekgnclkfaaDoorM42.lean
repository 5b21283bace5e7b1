/-
  The places of a function's instructions, and where the calls' numbers stand: both sides.
-/
import Derived.Test.YtbbobekgnclkfaaDoorM41
import Derived.Test.YtbbobekgnclkfaaDoorM39
import Derived.Test.YtbbobekgnclkfaaDoorM29
import Derived.Test.YtbbobekgnclkfaaDoorL7
namespace Go.Proofs.YtbbobekgnclkfaaDoor
open Go Go.Aw
set_option maxRecDepth 100000
set_option maxHeartbeats 4000000

/-! ### The plain model -/
def plaF (f : Mfn) : List Nat := if codeOk f then plcs f.ins (longs f.ins) f.ins.length else []
theorem plaF_len (f : Mfn) : (plaF f).length = if codeOk f then f.ins.length else 0 := by
  unfold plaF; split
  · exact plcs_len ..
  · rfl
def clsI (x : Mins) (p : Nat) : List Int := if x.op = 14 then [(p : Int) + 1] else []
def clsT (f : Mfn) (i : Nat) : List Int := ((List.zip f.ins (plaF f)).take i).flatMap fun x => clsI x.1 x.2
def callsF (f : Mfn) : List Int := (List.zip f.ins (plaF f)).flatMap fun x => clsI x.1 x.2
theorem clsT_zero (f : Mfn) : clsT f 0 = [] := rfl
theorem zip_len {f : Mfn} (hc : codeOk f = true) : (List.zip f.ins (plaF f)).length = f.ins.length := by
  rw [List.length_zip, plaF_len, if_pos hc]; omega
theorem clsT_succ {f : Mfn} {i : Nat} (h1 : i < f.ins.length) (h2 : i < (plaF f).length) : clsT f (i + 1) = clsT f i ++ clsI f.ins[i] (plaF f)[i] := by
  have hz : i < (List.zip f.ins (plaF f)).length := by rw [List.length_zip]; omega
  rw [clsT, take_succ' hz, List.flatMap_append, List.getElem_zip]
  simp [clsT]
theorem clsT_all {f : Mfn} {i : Nat} (h : (plaF f).length ≤ i) : clsT f i = callsF f := by
  rw [clsT, List.take_of_length_le (by rw [List.length_zip]; omega)]; rfl
theorem clsT_len (f : Mfn) (i : Nat) : (clsT f i).length ≤ i := by
  have key : ∀ l : List (Mins × Nat), (l.flatMap fun x => clsI x.1 x.2).length ≤ l.length := by
    intro l
    induction l with
    | nil => simp
    | cons a r ih =>
      rw [List.flatMap_cons, List.length_append, List.length_cons]
      have : (clsI a.1 a.2).length ≤ 1 := by unfold clsI; split <;> simp
      omega
  have := key ((List.zip f.ins (plaF f)).take i)
  rw [List.length_take] at this
  exact Nat.le_trans this (Nat.min_le_left ..)

theorem plc_mono (ins : List Mins) (L : List Bool) {i k : Nat} (h : i ≤ k) : plc ins L i ≤ plc ins L k := by
  unfold plc
  generalize List.zipWith sizeB ins L = l
  have e : l.take i = (l.take k).take i := by rw [List.take_take, Nat.min_eq_left h]
  rw [e]
  conv => rhs; rw [← List.take_append_drop i (l.take k), List.sum_append]
  omega
theorem plcs_le {f : Mfn} : ∀ p ∈ plaF f, p ≤ 8000 := by
  intro p hp
  by_cases hc : codeOk f = true
  · rw [plaF, if_pos hc] at hp
    have h8 : plc f.ins (longs f.ins) f.ins.length ≤ 8000 := by simp only [codeOk, Bool.and_eq_true, decide_eq_true_eq] at hc; exact hc.2
    obtain ⟨i, hi, rfl⟩ := List.mem_map.1 hp
    rw [List.mem_range] at hi
    exact Nat.le_trans (plc_mono _ _ (Nat.le_of_lt hi)) h8
  · rw [plaF, if_neg hc] at hp; cases hp

variable (G : Glob)

theorem s_MinsPlaces (f : Mfn) (hn : f.ins.length ≤ 1000000) : VF Tryd.prog G n_spec_MinsPlaces [.agg (f.cs.map .p)] (.p (intsL (plaF f))) := by
  have key : AC Tryd.prog G n_spec_MinsPlaces [.agg (f.cs.map .p)] [] fun x h => x = .ret (.p (intsL (plaF f))) ∨ (∃ id, x = .ret (.sl id 1 0 0) ∧ h[id]? = some (intsO []) ∧ plaF f = []) := by
    refine AC.go k_spec_MinsPlaces ?_
    simp -implicitDefEqProofs [F_spec_MinsPlaces]
    refine (s_l25Can G f hn).use ?_
    by_cases hc : codeOk f = true
    rotate_left
    · have hp : plaF f = [] := by rw [plaF, if_neg hc]
      simp -implicitDefEqProofs [hc, intsO, hp]
    have hal : machOk (aloneF (mostS f.ins) f) = true := by simp [codeOk] at hc; exact hc.1
    have hf := fine_of_alone hal
    have hp : plaF f = plcs f.ins (longs f.ins) f.ins.length := by rw [plaF, if_pos hc]
    simp -implicitDefEqProofs [hc]
    refine (s_l25Long G f hf).use ?_
    simp -implicitDefEqProofs
    refine (s_l25Places G f _ (longs_len _) hf).use ?_
    simp -implicitDefEqProofs [hp]
  refine key.freezeR (fun t v h e => ?_) fun v h e => ?_
  · rcases e with e | ⟨_, e, _⟩ <;> cases e
  · rcases e with e | ⟨id, e, e2, e3⟩
    · cases e; exact .keep (by simp [below]) .nil
    · cases e
      rw [e3]
      exact .one (by have := intsO_view e2; exact this) .nil

theorem pla_ins (f : Mfn) : (plaF f).length ≤ f.ins.length := by rw [plaF_len]; split <;> omega

theorem s_l26Calls (f : Mfn) (hn : f.ins.length ≤ 1000000) : VF Tryd.prog G n_spec_l26Calls [.agg (f.cs.map .p)] (.p (numL (callsF f))) := by
  have key : AC Tryd.prog G n_spec_l26Calls [.agg (f.cs.map .p)] [] fun x h => ∃ id, x = .ret (.sl id 1 0 (callsF f).length) ∧ h[id]? = some (numO (callsF f)) := by
    refine AC.go k_spec_l26Calls ?_
    have hpi := pla_ins f
    have hps : ∀ l, intsL l = .lst 1 (l.map fun (n : Nat) => [.int .i64 (n : Int)]) := fun _ => rfl
    have hin : insL f.ins = .lst 5 (f.ins.map Mins.cs) := rfl
    simp -implicitDefEqProofs [F_spec_l26Calls]
    refine (s_MinsPlaces G f hn).use ?_
    simp -implicitDefEqProofs []
    refine loopA (fun i : Nat => tsOf 31 [(1, .ptr 0 3 0 0), (3, .sl 1 1 0 (clsT f i).length), (4, .p (intsL (plaF f))), (5, .p (.int .i64 i))]) (fun i => [.row 3 [f.cs.map .p], numO (clsT f i)])
      (fun i => i ≤ (plaF f).length) (fun i => (plaF f).length - i) 0 (by simp) ?_ ?_
    · refine wkt_same ?_ ?_ ?_
      · simp
      · simp [okO, clsT_zero, numO]
      simp [below, clsT_zero]
    · intro i hi
      simp -implicitDefEqProofs [hps]
      refine cndb (fun h1 => ?_) (fun h1 => ?_)
      · simp at h1
        have h2 : i < f.ins.length := by omega
        have hg1 := List.getElem?_eq_getElem h2
        have hg2 := List.getElem?_eq_getElem h1
        have hle : (plaF f)[i] ≤ 8000 := plcs_le _ (List.getElem_mem h1)
        have hsu := clsT_succ h2 h1
        have hcl := clsT_len f i
        have hnb : ∀ l, numO l = .row 1 (l.map fun n => [.p (.int .i64 n)]) := fun _ => rfl
        simp -implicitDefEqProofs [Mfn.cs, hg1, Mins.cs]
        by_cases ho : f.ins[i].op = 14
        · have hw : IntKind.i64.wrap (((plaF f)[i] : Int) + 1) = ((plaF f)[i] : Int) + 1 := i64_small (by omega) (by omega)
          rw [clsI, if_pos ho] at hsu
          clear hle
          simp -implicitDefEqProofs [Mfn.cs, hg1, hg2, Mins.cs, ho, hw, hnb]
          refine ⟨by omega, i + 1, h1, by omega, wkt_pick [0, 3] rfl (by simp) (hw_row rfl (by simp) (hw_row (by simp [hnb, hsu, List.take_of_length_le]) (by simp) hw_nil)) ?_⟩
          simp [below, ren, hps, hsu, w1 (i := i) (by omega)]
        · rw [clsI, if_neg ho, List.append_nil] at hsu
          clear hle
          simp -implicitDefEqProofs [Mfn.cs, hg1, hg2, Mins.cs, ho]
          refine ⟨i + 1, h1, by omega, wkt_pick [0, 1] rfl (by simp) (hw_row rfl (by simp) (hw_row (by simp [numO, hsu]; done) (by simp) hw_nil)) ?_⟩
          simp [below, ren, hps, hsu, w1 (i := i) (by omega)]
      · simp at h1
        have := clsT_all (f := f) (i := i) h1
        simp -implicitDefEqProofs [this]
  refine key.freezeR (fun t v h ⟨id, e, _⟩ => by cases e) fun v h ⟨id, e1, e2⟩ => ?_
  cases e1
  exact .one (numO_view e2) .nil

end Go.Proofs.YtbbobekgnclkfaaDoor
