/-
  Whether a machine's program is valid: the program's answer.
-/
import Derived.Test.YtbbobekgnclkfaaDoorM6
namespace Go.Proofs.YtbbobekgnclkfaaDoor
open Go Go.Aw
set_option maxRecDepth 100000
set_option maxHeartbeats 4000000

theorem insOk_eq2 (p s l k : Int) (x : Mins) : insOk p s l k x = (formOk x && inR x.a 0 7 && inR x.b 0 7 && inR x.c 0 7 && (!fN x.op || inR x.n 0 (mostN p s l k x.op))) := by
  simp [insOk, formOk, okI]

theorem mask_and {op : Int} (h : inR op 1 22 = true) : (f_bin .and (.int .i64 (maskOf op)) (.int .i64 8)) = some (.int .i64 (if fN op then 8 else 0)) := by
  rcases mask_cases h with ⟨m0, m1, m2, m3, m4⟩ | ⟨m0, m1, m2, m3, m4⟩ | ⟨m0, m1, m2, m3, m4⟩ | ⟨m0, m1, m2, m3, m4⟩ | ⟨m0, m1, m2, m3, m4⟩ <;> rw [m0, m4] <;> rfl

variable (G : Glob) (hG : G g_forms = some pvForms)
include hG

theorem i_minsOk (fs : List Mfn) (k : Nat) (f : Mfn) (x : Mins) (hk : fs[k]? = some f) (hk2 : k ≤ 1048576) (hl : f.ins.length ≤ 1048576) (hp : inR f.params 0 3 = true) (hs : inR f.slots 0 64 = true) :
    VF Tryd.prog G n_impl_minsOk [.agg [.p (fnsL fs)], .p (.int .i64 k), .agg (x.cs.map .p)] (.p (.bool (insOk f.params f.slots f.ins.length k x))) := by
  refine AC.enter k_impl_minsOk ?_
  rw [insOk_eq2]
  simp -implicitDefEqProofs [F_impl_minsOk, List.replicate, fnsL]
  refine (i_formOf G hG x).use ?_
  simp -implicitDefEqProofs [Mins.cs]
  by_cases hf : formOk x = true
  rotate_left
  · simp -implicitDefEqProofs [hf]
  simp -implicitDefEqProofs [hf]
  refine (i_within G _ _ _).use ?_
  by_cases ha : inR x.a 0 7 = true
  rotate_left
  · simp -implicitDefEqProofs [ha]
  simp -implicitDefEqProofs [ha]
  refine (i_within G _ _ _).use ?_
  by_cases hb : inR x.b 0 7 = true
  rotate_left
  · simp -implicitDefEqProofs [hb]
  simp -implicitDefEqProofs [hb]
  refine (i_within G _ _ _).use ?_
  by_cases hc : inR x.c 0 7 = true
  rotate_left
  · simp -implicitDefEqProofs [hc]
  simp -implicitDefEqProofs [hc]
  have hop : inR x.op 1 22 = true := by simp [formOk] at hf; exact hf.1.1.1.1
  have hand := mask_and hop
  simp [inR] at hp hs
  have hwk : IntKind.i64.wrap ((k : Int) - 1) = (k : Int) - 1 := i64_small (by omega) (by omega)
  have hwp : IntKind.i64.wrap (f.params - 1) = f.params - 1 := i64_small (by omega) (by omega)
  have hws : IntKind.i64.wrap (f.slots - 1) = f.slots - 1 := i64_small (by omega) (by omega)
  have hwl : IntKind.i64.wrap ((f.ins.length : Int) - 1) = (f.ins.length : Int) - 1 := i64_small (by omega) (by omega)
  simp only [f_bin] at hand
  have hsel : x.op = 1 ∨ x.op = 14 ∨ x.op = 15 ∨ x.op = 16 ∨ x.op = 17 ∨ x.op = 18 ∨ x.op = 20 ∨ x.op = 21 ∨ (x.op ≠ 1 ∧ x.op ≠ 14 ∧ x.op ≠ 15 ∧ x.op ≠ 16 ∧ x.op ≠ 17 ∧ x.op ≠ 18 ∧ x.op ≠ 20 ∧ x.op ≠ 21) := by omega
  rcases hsel with e | e | e | e | e | e | e | e | ⟨e1, e2, e3, e4, e5, e6, e7, e8⟩
  case inr.inr.inr.inr.inr.inr.inr.inr =>
    have hfn : fN x.op = false := by simp [inR] at hop; simp [fN, inR, e1, e7, e8]; omega
    rw [hfn] at hand
    simp -implicitDefEqProofs at hand
    simp -implicitDefEqProofs [e1, e2, e3, e4, e5, e6, e7, e8, hfn, hand]
  all_goals
    have hfn : fN x.op = true := by rw [e]; decide
    rw [hfn] at hand
    simp -implicitDefEqProofs at hand
    rw [e] at hand
    simp -implicitDefEqProofs [Mfn.cs, e, hwk, hwp, hws, hwl, hk, hand]
    refine (i_within G _ _ _).use ?_
    simp -implicitDefEqProofs [fN, mostN, inR]
end Go.Proofs.YtbbobekgnclkfaaDoor
