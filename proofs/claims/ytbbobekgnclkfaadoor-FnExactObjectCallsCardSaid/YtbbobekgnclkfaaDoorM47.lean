/-
  Which objects are well made: the program; the law's walk.
-/
import Derived.Test.YtbbobekgnclkfaaDoorM46
namespace Go.Proofs.YtbbobekgnclkfaaDoor
open Go Go.Aw
set_option maxRecDepth 100000
set_option maxHeartbeats 4000000
variable (G : Glob)

def fnR (o : Obj) : List AV := match decF o.params o.slots o.code with
  | none => zMfn
  | some f => f.cs.map .p

section
variable (hG : G g_forms = some pvForms)
include hG
theorem t_iDecodeFn {p s : Int} {code : List Int} (hb : BytesOk code) (hl : code.length ≤ 1048576) {f : Mfn} (hd : decF p s code = some f) :
    VF Tryd.prog G n_impl_DecodeFn [.p (.int .i64 p), .p (.int .i64 s), .p (bysL code)] (.tup [.agg (f.cs.map .p), .p (.bool true)]) :=
  AC.freeze (i_DecodeFn1 G hG hb hl hd) (.tup (.agg (.keep (by simp) (.keep (by simp) (.one (insO_view rfl) .nil))) (.keep (by simp) .nil)) .nil)
end

variable (hG : G g_forms = some pvForms) (hK : G g_keys = some pvKeys)
include hG hK
theorem i_fnOf (o : Obj) (ho : ObjSm o) (hz : szO o ≤ 1048576) : VF Tryd.prog G n_impl_fnOf [.agg (o.cs.map .p)] (.tup [.agg (fnR o), .p (.bool (objOk o))]) := by
  refine AC.go k_impl_fnOf ?_
  have hsz : szO o = o.name.length + o.code.length + o.calls.length + szW o.names := rfl
  have hwz : szW o.names = o.names.length + (o.names.map List.length).sum := rfl
  simp -implicitDefEqProofs [F_impl_fnOf, Obj.cs]
  cases hd : decF o.params o.slots o.code with
  | none =>
    have hob : objOk o = false := by simp only [objOk, hd]
    have hfr : fnR o = zMfn := by simp only [fnR, hd]
    have h2 := i_DecodeFn2 G hG ho.bytes (by omega) hd
    rw [zMfn] at h2
    refine h2.use ?_
    simp -implicitDefEqProofs [zMfn, hob, hfr]
  | some f =>
    obtain ⟨hc, henc⟩ := decF_some hd
    have hob : objOk o = (isName o.name && decide (callsF f = o.calls) && decide (o.names.length = o.calls.length) && o.names.all isName && decide (f = blankF f)) := by simp only [objOk, hd]
    have hfr : fnR o = f.cs.map .p := by simp only [fnR, hd]
    have hil : f.ins.length ≤ 1000000 := by
      have := (fine_of_alone (by simp only [codeOk, Bool.and_eq_true] at hc; exact hc.1) : InsFine f.ins).1
      omega
    have hne : f.ins ≠ [] := by intro e; have := codeOk_pos hc; rw [e] at this; simp at this
    have hlo : ∀ x ∈ f.ins, x.op = 14 → -9223372036854775808 ≤ x.n := fun x hx h => by have := call_n hc hx h; omega
    have hcb : (callsF f).length ≤ 1048576 := by
      have h1 := clsT_len f (plaF f).length
      have h2 := pla_ins f
      rw [clsT_all (Nat.le_refl _)] at h1
      omega
    refine (t_iDecodeFn G hG ho.bytes (by omega) hd).use ?_
    simp -implicitDefEqProofs []
    refine (i_IsName G hK o.name (by omega)).use ?_
    by_cases h1 : isName o.name = true
    case neg => simp -implicitDefEqProofs [h1, hob, hfr, Mfn.cs]
    simp -implicitDefEqProofs [h1]
    refine (i_blank G f hne hil).useQ ?_
    simp -implicitDefEqProofs []
    refine (i_sameMfn G f (blankF f) (by omega)).use ?_
    by_cases h2 : f = blankF f
    case neg => simp -implicitDefEqProofs [h2, hob, hfr, Mfn.cs]
    simp -implicitDefEqProofs [← h2]
    refine (i_callBytes G hG f hil hlo).useQ ?_
    simp -implicitDefEqProofs []
    refine (t_EqualInt G (callsF f) o.calls hcb).use ?_
    by_cases h3 : callsF f = o.calls
    case neg => simp -implicitDefEqProofs [h3, hob, hfr, Mfn.cs]
    have hnl : numL o.calls = .lst 1 (o.calls.map fun n => [.int .i64 n]) := rfl
    have hsl : strL o.names = .lst 1 (o.names.map fun w => [.str w]) := rfl
    simp -implicitDefEqProofs [h3, hnl, hsl]
    by_cases h4 : o.names.length = o.calls.length
    case neg =>
      have h4' : ¬ (o.names.length : Int) = (o.calls.length : Int) := by omega
      simp -implicitDefEqProofs [h4, h4', hob, hfr, Mfn.cs]
    simp -implicitDefEqProofs [h4]
    rw [← hsl]
    refine (i_ContainsNot G hK o.names (by omega) (words_le hz)).use ?_
    simp -implicitDefEqProofs [hob, hfr, Mfn.cs, h1, h3, h4, ← h2]

theorem i_ObjectValid (o : Obj) (ho : ObjSm o) (hz : szO o ≤ 1048576) : VF Tryd.prog G n_impl_ObjectValid [.agg (o.cs.map .p)] (.p (.bool (objOk o))) := by
  refine AC.go k_impl_ObjectValid ?_
  have hfn := i_fnOf G hG hK o ho hz
  simp -implicitDefEqProofs [F_impl_ObjectValid]
  rw [fnR] at hfn
  cases hd : decF o.params o.slots o.code with
  | none =>
    rw [hd] at hfn
    simp only [zMfn] at hfn
    refine hfn.use ?_
    simp -implicitDefEqProofs []
  | some f =>
    rw [hd] at hfn
    simp only at hfn
    refine hfn.use ?_
    simp -implicitDefEqProofs [Mfn.cs]

theorem law_ObjectValid (o : Obj) (ho : ObjSm o) : VF Tryd.prog G n_laws_FnExactObjectValid [.agg (o.cs.map .p)] (.p (.bool true)) := by
  refine AC.go k_laws_FnExactObjectValid ?_
  have hs : VF Tryd.prog G n_laws_szObject [.agg (o.cs.map .p), .p (.int .i64 1048576)] (.p (.int .i64 (if szO o ≤ 1048576 then ((1048576 - szO o : Nat) : Int) else -1))) := t_szObject G o 1048576 (Nat.le_refl _) ho
  simp -implicitDefEqProofs [F_laws_FnExactObjectValid]
  refine hs.use ?_
  by_cases hz : szO o ≤ 1048576
  case neg => simp -implicitDefEqProofs [hz]
  have hsz : szO o = o.name.length + o.code.length + o.calls.length + szW o.names := rfl
  have hwz : szW o.names = o.names.length + (o.names.map List.length).sum := rfl
  have hto := t_toObject G o (by omega) (by omega) (by omega)
  have hnn : ¬ ((1048576 - szO o : Nat) : Int) < 0 := by omega
  simp -implicitDefEqProofs [hz, hnn]
  refine hto.use ?_
  simp -implicitDefEqProofs []
  refine (s_ObjectValid G o ho hz).use ?_
  simp -implicitDefEqProofs []
  refine hto.use ?_
  simp -implicitDefEqProofs []
  refine (i_ObjectValid G hG hK o ho hz).use ?_
  simp -implicitDefEqProofs []
  refine hto.use ?_
  simp -implicitDefEqProofs []
  refine (t_eqObject G o o (by omega) (by omega) (by omega)).use ?_
  simp -implicitDefEqProofs []
end Go.Proofs.YtbbobekgnclkfaaDoor
