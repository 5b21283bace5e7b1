/-
  What the program asks of an object's code: call bytes, a copy, the code with its calls struck out.
-/
import Derived.Test.YtbbobekgnclkfaaDoorM44
namespace Go.Proofs.YtbbobekgnclkfaaDoor
open Go Go.Aw
set_option maxRecDepth 100000
set_option maxHeartbeats 4000000
variable (G : Glob)

def numR (l : List Int) : List (List AV) := l.map fun n => [.p (.int .i64 n)]
theorem numR_app (a b : List Int) : numR (a ++ b) = numR a ++ numR b := by simp [numR]
theorem numR_pure (l : List Int) : ∀ x ∈ numR l, belowL 0 x := by
  intro x hx; obtain ⟨m, _, rfl⟩ := List.mem_map.1 hx; simp [belowL, below]
theorem numR_view {h : List AO} {id : Nat} {l : List Int} (e : h[id]? = some (rowE 1 (numR l))) : View h (slE id 1 (numR l)) (numL l) := by
  have hh : numR l = (l.map fun n => [PV.int .i64 n]).map (·.map .p) := by simp [numR]
  rw [hh] at e ⊢
  exact view_E e (fun x hx => by obtain ⟨b, _, rfl⟩ := List.mem_map.1 hx; rfl)

theorem nofnO_insA (l : List Mins) : nofnO (insO l) = true := by
  simp only [nofnO, insO, List.all_map, List.all_eq_true]
  intro m _
  exact nofnL_pure m.cs
section
theorem k_Clone (xs : List Mins) (hx : xs ≠ []) (hb : xs.length ≤ 1000000) : AC Tryd.prog G n_slices_Clone_impl_Mins [.p (insL xs)] [] fun x h => ∃ id, x = .ret (.sl id 5 0 xs.length) ∧ h[id]? = some (insO xs) := by
  obtain ⟨y, r, rfl⟩ : ∃ y r, xs = y :: r := by cases xs with | nil => exact absurd rfl hx | cons y r => exact ⟨y, r, rfl⟩
  refine AC.go k_slices_Clone_impl_Mins ?_
  have hin : insL (y :: r) = .lst 5 (y.cs :: r.map Mins.cs) := rfl
  have hl : (y :: r).length = r.length + 1 := rfl
  rw [hl] at hb
  simp -implicitDefEqProofs [F_slices_Clone_impl_Mins, hin]
  refine ⟨by omega, ?_⟩
  simp only [insO, List.map_cons]
  rfl
theorem o_Clone (xs : List Mins) (hx : xs ≠ []) (hb : xs.length ≤ 1000000) : AC Tryd.prog G n_slices_Clone_impl_Mins [.p (insL xs)] [] fun x h => x = .ret (.sl 0 5 0 xs.length) ∧ h = [insO xs] := by
  refine (k_Clone G xs hx hb).gc (fun t v h ⟨id, e, _⟩ => by cases e) fun v h ⟨id, e1, e2⟩ => ?_
  cases e1
  exact ⟨.sl 0 5 0 xs.length, [insO xs], ⟨[id], by simp, by simp, by simp, by simp [below], by simp [ren], hw_row e2 (av_pure _) hw_nil⟩, rfl, rfl⟩

theorem k_cloneMfn (f : Mfn) (hx : f.ins ≠ []) (hb : f.ins.length ≤ 1000000) : AC Tryd.prog G n_impl_cloneMfn [.agg (f.cs.map .p)] [] fun x h => ∃ id, x = .ret (.agg (f.ov id)) ∧ h[id]? = some (insO f.ins) := by
  refine AC.go k_impl_cloneMfn ?_
  have hin : insL f.ins = .lst 5 (f.ins.map Mins.cs) := rfl
  simp -implicitDefEqProofs [F_impl_cloneMfn, Mfn.cs, ← hin]
  refine (AC.lift (o_Clone G f.ins hx hb) (by simp [belowL, below]) rfl ?_).mono ?_
  · simp only [List.all_cons, List.all_nil, nofnO_insA]; rfl
  rintro r h ⟨rfl, rfl⟩
  simp -implicitDefEqProofs [callR_nxt, shiftV, shiftL, shiftO_ins]
  exact ⟨2, rfl, rfl⟩
theorem o_cloneMfn (f : Mfn) (hx : f.ins ≠ []) (hb : f.ins.length ≤ 1000000) : AC Tryd.prog G n_impl_cloneMfn [.agg (f.cs.map .p)] [] fun x h => x = .ret (.agg (f.ov 0)) ∧ h = [insO f.ins] := by
  refine (k_cloneMfn G f hx hb).gc (fun t v h ⟨id, e, _⟩ => by cases e) fun v h ⟨id, e1, e2⟩ => ?_
  cases e1
  exact ⟨.agg (f.ov 0), [insO f.ins], ⟨[id], by simp, by simp, by simp, by simp [below, belowL, Mfn.ov], by simp [ren, renL, Mfn.ov], hw_row e2 (av_pure _) hw_nil⟩, rfl, rfl⟩
end

variable (hG : G g_forms = some pvForms)
include hG
theorem i_callBytes (f : Mfn) (hn : f.ins.length ≤ 1000000) (hlo : ∀ x ∈ f.ins, x.op = 14 → -9223372036854775808 ≤ x.n) : VF Tryd.prog G n_impl_callBytes [.agg (f.cs.map .p)] (.p (numL (callsF f))) := by
  have key : AC Tryd.prog G n_impl_callBytes [.agg (f.cs.map .p)] [] fun x h => ∃ id, x = .ret (slE id 1 (numR (callsF f))) ∧ h[id]? = some (rowE 1 (numR (callsF f))) := by
    refine AC.go k_impl_callBytes ?_
    have hpi := pla_ins f
    have hps : ∀ l, intsL l = .lst 1 (l.map fun (n : Nat) => [.int .i64 (n : Int)]) := fun _ => rfl
    simp -implicitDefEqProofs [F_impl_callBytes]
    refine (i_MinsPlaces G hG f hn hlo).use ?_
    simp -implicitDefEqProofs [hps]
    refine loopA (fun i : Nat => tsOf 28 [(1, .ptr 0 3 0 0), (3, slE 1 1 (numR (clsT f i))), (7, .p (intsL (plaF f))), (8, .p (.int .i64 (plaF f).length)), (9, .p (.int .i64 i))]) (fun i => [.row 3 [f.cs.map .p], rowE 1 (numR (clsT f i))])
      (fun i => i ≤ (plaF f).length) (fun i => (plaF f).length - i) 0 (by simp) ?_ ?_
    · simp only [clsT_zero, numR, List.map_nil, slE_nil, rowE_nil]
      exact wkt_dup [0, 0] (by simp) (by simp) (by simp [lives]) (hw_row rfl (by simp) (hw_dead (by simp) hw_nil)) (by simp [below, ren, hps])
    · intro i hi
      simp -implicitDefEqProofs [hps]
      refine cndb (fun h1 => ?_) (fun h1 => ?_)
      · simp at h1
        have h2 : i < f.ins.length := by omega
        have hg1 := List.getElem?_eq_getElem h2
        have hg2 := List.getElem?_eq_getElem h1
        have hle : (plaF f)[i] ≤ 8000 := plcs_le _ (List.getElem_mem h1)
        have hsu := clsT_succ h2 h1
        have hcl := clsT_len f i
        have hnl : (numR (clsT f i)).length = (clsT f i).length := by simp [numR]
        by_cases ho : f.ins[i].op = 14
        · have hw : IntKind.i64.wrap (((plaF f)[i] : Int) + 1) = ((plaF f)[i] : Int) + 1 := i64_small (by omega) (by omega)
          rw [clsI, if_pos ho] at hsu
          clear hle
          simp -implicitDefEqProofs [Mfn.cs, hg1, hg2, Mins.cs, ho, hw, hnl]
          refine ⟨by omega, i + 1, h1, by omega, ?_⟩
          rw [hsu, numR_app, slE_app _ (by simp [numR]), rowE_app _ (by simp [numR])]
          refine wkt_pick [0, 3] rfl (by decide) (hw_row rfl (by simp) (hw_row rfl (by rw [← numR_app]; exact numR_pure _) hw_nil)) ?_
          simp [below, ren, hps, hnl, numR, w1 (i := i) (by omega)]
        · rw [clsI, if_neg ho, List.append_nil] at hsu
          clear hle
          simp -implicitDefEqProofs [Mfn.cs, hg1, hg2, Mins.cs, ho]
          refine ⟨i + 1, h1, by omega, ?_⟩
          rw [hsu]
          exact wkt_pick [0, 1] rfl (by decide) (hw_row rfl (by simp) (hw_rowE rfl (numR_pure _) hw_nil)) (by simp [below, ren, hps, w1 (i := i) (by omega)])
      · simp at h1
        have := clsT_all (f := f) (i := i) h1
        simp -implicitDefEqProofs [this]
        exact ⟨1, rfl, rfl⟩
  refine key.freezeR (fun t v h ⟨id, e, _⟩ => by cases e) fun v h ⟨id, e1, e2⟩ => ?_
  cases e1
  exact .one (numR_view e2) .nil

end Go.Proofs.YtbbobekgnclkfaaDoor
