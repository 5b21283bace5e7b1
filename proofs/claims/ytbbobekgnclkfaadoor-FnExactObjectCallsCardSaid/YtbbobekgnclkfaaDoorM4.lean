/-
  Whether a machine's program is valid: the reference, ended.
-/
import Derived.Test.YtbbobekgnclkfaaDoorM3
namespace Go.Proofs.YtbbobekgnclkfaaDoor
open Go Go.Aw
set_option maxRecDepth 100000
set_option maxHeartbeats 4000000
variable (G : Glob)

theorem fldOf_bad {op : Int} (h : inR op 1 22 = false) : fldOf op = [] := by simp [fldOf, h]
theorem fldOf_good {op : Int} (h : inR op 1 22 = true) : fldOf op ≠ [] ∧ (fldOf op).length ≤ 3 := by
  rcases op22 h with rfl | rfl | rfl | rfl | rfl | rfl | rfl | rfl | rfl | rfl | rfl | rfl | rfl | rfl | rfl | rfl | rfl | rfl | rfl | rfl | rfl | rfl <;> simp [fldOf, fldT, inR]

theorem s_l22Ins (fs : List Mfn) (k : Nat) (f : Mfn) (x : Mins) (hk : fs[k]? = some f) (hk2 : k ≤ 1048576) (hl : f.ins.length ≤ 1048576) (hp : inR f.params 0 3 = true) (hs : inR f.slots 0 64 = true) :
    VF Tryd.prog G n_spec_l22Ins [.agg [.p (fnsL fs)], .p (.int .i64 k), .agg (x.cs.map .p)] (.p (.bool (insOk f.params f.slots f.ins.length k x))) := by
  refine AC.enter k_spec_l22Ins ?_
  have hkm : (fs.map Mfn.cs)[k]? = some f.cs := by rw [List.getElem?_map, hk]; rfl
  rw [insOk_eq]
  simp -implicitDefEqProofs [F_spec_l22Ins, List.replicate, fnsL, hkm]
  simp -implicitDefEqProofs [Mins.cs]
  refine (s_l22Word G x.op).use ?_
  by_cases hop : inR x.op 1 22 = true
  · obtain ⟨g1, g2⟩ := fldOf_good hop
    simp -implicitDefEqProofs [g1, hop]
    generalize hfl : fldOf x.op = fields at g1 g2
    refine (s_l22Rest G x fields (by omega)).use ?_
    simp -implicitDefEqProofs
    by_cases hr : restOk x fields = true
    · simp -implicitDefEqProofs [hr]
      refine loopA (fun i : Nat => slots 95 [(1, .p (.int .i64 k)), (5, .ptr 1 5 0 0), (7, .ptr 2 3 0 0), (9, .p (.str fields)), (10, .p (.int .i64 i))]) (fun _ => [.row 1 [[.p (fnsL fs)]], .row 5 [x.cs.map .p], .row 3 [f.cs.map .p]])
        (fun i => i ≤ fields.length ∧ chkOk x (fields.take i) = true) (fun i => fields.length - i) 0 (by simp [chkOk]) ?_ ?_
      · refine wk_same (by simp) (by simp [okO, Mins.cs, Mfn.cs]) (by simp [slots, List.replicate, below])
      · intro i ⟨hi, hc⟩
        simp -implicitDefEqProofs [slots, List.replicate]
        refine cnd (fun h1 => ?_) (fun h1 => ?_)
        · simp at h1
          simp -implicitDefEqProofs [List.getElem?_eq_getElem h1]
          have hct : chkOk x (fields.take (i + 1)) = (chkOk x (fields.take i) && (fields[i] == 78 || inR (fieldV x fields[i].toNat) 0 7)) := by
            rw [chkOk, take_succ' h1, List.all_append]; simp [chkOk]
          have hbad : (fields[i] == 78 || inR (fieldV x fields[i].toNat) 0 7) = false → chkOk x fields = false := fun h => by
            rw [chkOk, List.all_eq_false]
            exact ⟨fields[i], List.getElem_mem h1, by simpa using h⟩
          by_cases h78 : fields[i] = 78
          · simp -implicitDefEqProofs [h78]
            refine ⟨i + 1, ⟨by omega, by rw [hct, hc, h78]; rfl⟩, by omega, wk_same (by simp) (by simp [okO, Mins.cs, Mfn.cs]) ?_⟩
            simp [below, w1 (i := i) (by omega)]
          · have h78' : ¬ ((fields[i].toNat : Int) = 78) := fun e => h78 (u8_eq (b := 78) |>.1 e).symm
            simp -implicitDefEqProofs [h78']
            refine (s_l22Field G x _).use ?_
            simp -implicitDefEqProofs
            refine (s_l1In G _ _ _).use ?_
            simp -implicitDefEqProofs
            refine cnd (fun h3 => ?_) (fun h3 => ?_)
            · simp at h3
              simp -implicitDefEqProofs [hbad (by simp [h78, h3])]
            · simp at h3
              refine ⟨i + 1, ⟨by omega, by rw [hct, hc]; simp [h3]⟩, by omega, wk_same (by simp) (by simp [okO, Mins.cs, Mfn.cs]) ?_⟩
              simp [below, w1 (i := i) (by omega)]
        · simp at h1
          have hall : chkOk x fields = true := by rw [List.take_of_length_le h1] at hc; exact hc
          simp [inR] at hp hs
          have hwk : IntKind.i64.wrap ((k : Int) - 1) = (k : Int) - 1 := i64_small (by omega) (by omega)
          have hwp : IntKind.i64.wrap (f.params - 1) = f.params - 1 := i64_small (by omega) (by omega)
          have hws : IntKind.i64.wrap (f.slots - 1) = f.slots - 1 := i64_small (by omega) (by omega)
          have hwl : IntKind.i64.wrap ((f.ins.length : Int) - 1) = (f.ins.length : Int) - 1 := i64_small (by omega) (by omega)
          have hsel : x.op = 1 ∨ x.op = 14 ∨ x.op = 15 ∨ x.op = 16 ∨ x.op = 17 ∨ x.op = 18 ∨ x.op = 20 ∨ x.op = 21 ∨ (x.op ≠ 1 ∧ x.op ≠ 14 ∧ x.op ≠ 15 ∧ x.op ≠ 16 ∧ x.op ≠ 17 ∧ x.op ≠ 18 ∧ x.op ≠ 20 ∧ x.op ≠ 21) := by omega
          rcases hsel with e | e | e | e | e | e | e | e | ⟨e1, e2, e3, e4, e5, e6, e7, e8⟩
          case inr.inr.inr.inr.inr.inr.inr.inr =>
            have hfn : fN x.op = false := by simp [inR] at hop; simp [fN, inR, e1, e7, e8]; omega
            simp -implicitDefEqProofs [Mins.cs, e1, e2, e3, e4, e5, e6, e7, e8, hall, hfn]
          all_goals
            simp -implicitDefEqProofs [Mins.cs, Mfn.cs, e, hwk, hwp, hws, hwl]
            refine (s_l1In G _ _ _).use ?_
            simp -implicitDefEqProofs [hall, fN, mostN, inR]
    · simp -implicitDefEqProofs [hr]
  · simp -implicitDefEqProofs [fldOf_bad (by simpa using hop), hop]
end Go.Proofs.YtbbobekgnclkfaaDoor
