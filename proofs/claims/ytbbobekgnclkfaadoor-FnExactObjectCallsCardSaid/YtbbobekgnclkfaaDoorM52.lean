/-
  The names an object calls: the law's walk.
-/
import Derived.Test.YtbbobekgnclkfaaDoorM51
namespace Go.Proofs.YtbbobekgnclkfaaDoor
open Go Go.Aw
set_option maxRecDepth 100000
set_option maxHeartbeats 4000000
variable (G : Glob)

theorem nofnO_byS (l : List Int) : nofnO (bysO l) = true := by simp [nofnO, bysO, nofnL, nofn]
theorem nofnO_num (l : List Int) : nofnO (numO l) = true := by simp [nofnO, numO, nofnL, nofn]
theorem shiftO_num (n : Nat) (l : List Int) : shiftO n (numO l) = numO l := by
  simp only [shiftO, numO, List.map_map]; rfl
theorem bysO_pure (l : List Int) : ∀ x ∈ l.map (fun w => [AV.p (.int .u8 w)]), belowL 0 x := by
  intro x hx; obtain ⟨m, _, rfl⟩ := List.mem_map.1 hx; simp [belowL, below]
theorem numO_pure (l : List Int) : ∀ x ∈ l.map (fun w => [AV.p (.int .i64 w)]), belowL 0 x := by
  intro x hx; obtain ⟨m, _, rfl⟩ := List.mem_map.1 hx; simp [belowL, below]

theorem t_markStringS_nil (k : Int) : VF Tryd.prog G n_laws_markStringS [.nils, .p (.int .i64 k)] (.p (.int .i64 k)) := by
  refine AC.go k_laws_markStringS ?_
  simp -implicitDefEqProofs [F_laws_markStringS]
  refine loopA (fun _ : Unit => tsOf 20 [(0, .nils), (1, .p (.int .i64 k)), (5, .p (.int .i64 0))]) (fun _ => []) (fun _ => True) (fun _ => 0) () trivial (wkt_nil rfl (by simp)) ?_
  intro _ _
  simp -implicitDefEqProofs []
theorem k_toObject (o : Obj) (h1 : o.code.length ≤ 1048576) (h2 : o.calls.length ≤ 1048576) (h3 : o.names.length ≤ 1048576) : AC Tryd.prog G n_laws_toObject [.agg (o.cs.map .p)] [] fun x h =>
    ∃ a b c, x = .ret (.agg (o.ov a b c)) ∧ h[a]? = some (bysO o.code) ∧ h[b]? = some (numO o.calls) ∧ h[c]? = some (strO o.names) ∧ a < b ∧ b < c := by
  refine AC.go k_laws_toObject ?_
  simp -implicitDefEqProofs [F_laws_toObject, Obj.cs]
  refine (AC.lift (o_toByteS G o.code h1) (by simp [belowL, below]) rfl (by simp only [List.all_cons, List.all_nil, nofnO_byS]; rfl)).mono ?_
  rintro r h ⟨rfl, rfl⟩
  simp -implicitDefEqProofs [callR_nxt, shiftV, shiftL, shiftO_bys]
  refine (AC.lift (o_toIntS G o.calls h2) (by simp [belowL, below]) rfl (by simp only [List.all_cons, List.all_nil, nofnO_num]; rfl)).mono ?_
  rintro r h ⟨rfl, rfl⟩
  simp -implicitDefEqProofs [callR_nxt, shiftV, shiftL, shiftO_num]
  refine (AC.lift (o_toStringS G o.names h3) (by simp [belowL, below]) rfl (by simp only [List.all_cons, List.all_nil, nofnO_str]; rfl)).mono ?_
  rintro r h ⟨rfl, rfl⟩
  simp -implicitDefEqProofs [callR_nxt, shiftV, shiftL, shiftO_str]
  exact ⟨3, 4, 5, rfl, rfl, rfl, rfl, by omega, by omega⟩
theorem o_toObject (o : Obj) (h1 : o.code.length ≤ 1048576) (h2 : o.calls.length ≤ 1048576) (h3 : o.names.length ≤ 1048576) : AC Tryd.prog G n_laws_toObject [.agg (o.cs.map .p)] [] fun x h =>
    x = .ret (.agg (o.ov 0 1 2)) ∧ h = [bysO o.code, numO o.calls, strO o.names] := by
  refine (k_toObject G o h1 h2 h3).gc (fun t v h ⟨_, _, _, e, _⟩ => by cases e) fun v h ⟨a, b, c, e, e1, e2, e3, l1, l2⟩ => ?_
  cases e
  refine ⟨.agg (o.ov 0 1 2), [bysO o.code, numO o.calls, strO o.names], ⟨[a, b, c], by simp, by simp, ?_, by simp [below, belowL, Obj.ov], by simp [ren, renL, Obj.ov], hw_row e1 (bysO_pure _) (hw_row e2 (numO_pure _) (hw_row e3 (strO_pure _) hw_nil))⟩, rfl, rfl⟩
  simp
  omega
theorem obj_view {h : List AO} {o : Obj} {a b c : Nat} (e1 : h[a]? = some (bysO o.code)) (e2 : h[b]? = some (numO o.calls)) (e3 : h[c]? = some (strO o.names)) : Views h [.agg (o.ov a b c)] [.agg (o.cs.map .p)] :=
  .agg (.keep (by simp [below]) (.keep (by simp [below]) (.keep (by simp [below]) (.one (bysO_view e1) (.one (numO_view e2) (.one (strO_view e3) .nil)))))) .nil
theorem obj_view2 {h : List AO} {o : Obj} {a b c : Nat} (e1 : h[a]? = some (bysO o.code)) (e2 : h[b]? = some (numO o.calls)) (e3 : h[c]? = some (strO o.names)) : Views h [.agg (o.ov a b c), .agg (o.cs.map .p)] [.agg (o.cs.map .p), .agg (o.cs.map .p)] :=
  .agg (.keep (by simp [below]) (.keep (by simp [below]) (.keep (by simp [below]) (.one (bysO_view e1) (.one (numO_view e2) (.one (strO_view e3) .nil)))))) (.keep (by simp [below, belowL, Obj.cs]) .nil)

variable (hG : G g_forms = some pvForms) (hK : G g_keys = some pvKeys)
include hG hK
theorem t_iObjectCalls (o : Obj) (ho : ObjSm o) (hz : szO o ≤ 1048576) : VF Tryd.prog G n_impl_ObjectCalls [.agg (o.cs.map .p)] (.p (strL (clsN o))) := by
  by_cases hk : objOk o = true ∧ o.names ≠ []
  · exact AC.freeze (i_ObjectCalls1 G hG hK o ho hz hk.1 hk.2) (.one (strO_view rfl) .nil)
  · refine ((o_ObjectCalls G hG hK o ho hz).mono (R' := fun r _ => r = .ret .nils) fun r h e => by rw [if_neg hk] at e; exact e).freezeR (fun t v h e => by cases e) fun v h e => ?_
    cases e
    rw [clsN_nil hk]
    exact .one (View.nils 1) .nil
theorem law_ObjectCalls (o : Obj) (ho : ObjSm o) : VF Tryd.prog G n_laws_FnExactObjectCalls [.agg (o.cs.map .p)] (.p (.bool true)) := by
  refine AC.go k_laws_FnExactObjectCalls ?_
  have hs : VF Tryd.prog G n_laws_szObject [.agg (o.cs.map .p), .p (.int .i64 1048576)] (.p (.int .i64 (if szO o ≤ 1048576 then ((1048576 - szO o : Nat) : Int) else -1))) := t_szObject G o 1048576 (Nat.le_refl _) ho
  simp -implicitDefEqProofs [F_laws_FnExactObjectCalls]
  refine hs.use ?_
  by_cases hz : szO o ≤ 1048576
  case neg => simp -implicitDefEqProofs [hz]
  have hsz : szO o = o.name.length + o.code.length + o.calls.length + szW o.names := rfl
  have hwz : szW o.names = o.names.length + (o.names.map List.length).sum := rfl
  have h1 : o.code.length ≤ 1048576 := by omega
  have h2 : o.calls.length ≤ 1048576 := by omega
  have h3 : o.names.length ≤ 1048576 := by omega
  have hto := t_toObject G o h1 h2 h3
  have hnn : ¬ ((1048576 - szO o : Nat) : Int) < 0 := by omega
  have hul : (clsN o).length ≤ 1048576 := by unfold clsN; split; exact Nat.le_trans (uniW_len _) h3; simp
  have heq := t_eqStringS G (clsN o) (clsN o) hul
  simp -implicitDefEqProofs [hz, hnn]
  refine hto.use ?_
  simp -implicitDefEqProofs []
  refine (s_ObjectCalls G o ho hz).use ?_
  simp -implicitDefEqProofs []
  refine (AC.lift (o_toObject G o h1 h2 h3) (by simp [belowL, below]) rfl (by simp only [List.all_cons, List.all_nil, nofnO_byS, nofnO_num, nofnO_str]; rfl)).mono ?_
  rintro r h ⟨rfl, rfl⟩
  simp -implicitDefEqProofs [callR_nxt, shiftV, shiftL, shiftO_bys, shiftO_num, shiftO_str, Obj.ov]
  by_cases hk : objOk o = true ∧ o.names ≠ []
  · have hcl : ([strO (clsN o)] : List AO).all cleanO = true := by simp [cleanO, strO, cleanL, clean]
    refine (AC.lend (i_ObjectCalls1 G hG hK o ho hz hk.1 hk.2) (obj_view (a := 1) (b := 2) (c := 3) rfl rfl rfl) rfl hcl).mono ?_
    rintro r h ⟨rfl, rfl⟩
    simp -implicitDefEqProofs [callR_nxt, shiftV, shiftL, shiftO_str]
    refine (VF.lend heq (.one (strO_view rfl) (.keep (by simp [below]) .nil)) rfl).mono ?_
    rintro r h ⟨rfl, rfl⟩
    simp -implicitDefEqProofs [callR_nxt]
    refine hto.use ?_
    simp -implicitDefEqProofs []
    refine (VF.lend (t_eqObject G o o h1 h2 h3) (obj_view2 (a := 1) (b := 2) (c := 3) rfl rfl rfl) rfl).mono ?_
    rintro r h ⟨rfl, rfl⟩
    simp -implicitDefEqProofs [callR_nxt]
    refine (m_markObject G (o := o) (k := 1) (a := 1) (b := 2) (c := 3) rfl rfl rfl (by decide) (by decide) (by decide) (by omega)).mono ?_
    rintro r h ⟨rfl, z, rfl⟩
    have hk0 : ¬ (1 : Int) + (o.code.length : Int) + (o.calls.length : Int) + (o.names.length : Int) < 0 := by omega
    simp -implicitDefEqProofs [callR_nxt, hk0]
    refine (VF.lend heq (.one (strO_view rfl) (.keep (by simp [below]) .nil)) rfl).mono ?_
    rintro r h ⟨rfl, rfl⟩
    simp -implicitDefEqProofs [callR_nxt]
    refine (m_markStringS G (k := 1) (id := 5) (xs := clsN o) rfl (by omega)).mono ?_
    rintro r h ⟨rfl, rfl⟩
    simp -implicitDefEqProofs [callR_nxt]
    have hv : ∀ h : List AO, h[5]? = some (strO (mksW 1 (clsN o).length)) → View h (.sl 5 1 0 (clsN o).length) (strL (mksW 1 (clsN o).length)) := fun h e => by
      have := strO_view e; rwa [mksW_len] at this
    have hh := t_heldStringS G 1 (clsN o).length (by omega)
    have hm0 : ¬ (1 : Int) + ((clsN o).length : Int) < 0 := by omega
    refine (VF.lend hh (.one (hv _ rfl) (.keep (by simp [below]) .nil)) rfl).mono ?_
    rintro r h ⟨rfl, rfl⟩
    simp -implicitDefEqProofs [callR_nxt, hm0]
    refine hto.use ?_
    simp -implicitDefEqProofs []
    refine (t_iObjectCalls G hG hK o ho hz).use ?_
    simp -implicitDefEqProofs []
    refine heq.use ?_
    simp -implicitDefEqProofs []
    refine (VF.lend hh (.one (hv _ rfl) (.keep (by simp [below]) .nil)) rfl).mono ?_
    rintro r h ⟨rfl, rfl⟩
    simp -implicitDefEqProofs [callR_nxt, hm0]
  · have hcn := clsN_nil hk
    rw [hcn] at heq ⊢
    refine (AC.lend ((i_ObjectCalls2 G hG hK o ho hz hk).ac (by simp [belowL, below]) (by simp [belowL, below]) []) (obj_view (a := 1) (b := 2) (c := 3) rfl rfl rfl) rfl rfl).mono ?_
    rintro r h ⟨rfl, rfl⟩
    simp -implicitDefEqProofs [callR_nxt, shiftV, shiftL]
    refine (VF.lend heq (.one (View.nils 1) (.keep (by simp [below]) .nil)) rfl).mono ?_
    rintro r h ⟨rfl, rfl⟩
    simp -implicitDefEqProofs [callR_nxt]
    refine hto.use ?_
    simp -implicitDefEqProofs []
    refine (VF.lend (t_eqObject G o o h1 h2 h3) (obj_view2 (a := 1) (b := 2) (c := 3) rfl rfl rfl) rfl).mono ?_
    rintro r h ⟨rfl, rfl⟩
    simp -implicitDefEqProofs [callR_nxt]
    refine (m_markObject G (o := o) (k := 1) (a := 1) (b := 2) (c := 3) rfl rfl rfl (by decide) (by decide) (by decide) (by omega)).mono ?_
    rintro r h ⟨rfl, z, rfl⟩
    have hk0 : ¬ (1 : Int) + (o.code.length : Int) + (o.calls.length : Int) + (o.names.length : Int) < 0 := by omega
    simp -implicitDefEqProofs [callR_nxt, hk0]
    refine (VF.lend heq (.one (View.nils 1) (.keep (by simp [below]) .nil)) rfl).mono ?_
    rintro r h ⟨rfl, rfl⟩
    simp -implicitDefEqProofs [callR_nxt]
    refine (t_markStringS_nil G 1).use ?_
    simp -implicitDefEqProofs []
    have hh := t_heldStringS G 1 0 (by omega)
    refine (VF.lend hh (.one (View.nils 1) (.keep (by simp [below]) .nil)) rfl).mono ?_
    rintro r h ⟨rfl, rfl⟩
    simp -implicitDefEqProofs [callR_nxt]
    refine hto.use ?_
    simp -implicitDefEqProofs []
    refine (i_ObjectCalls2 G hG hK o ho hz hk).use ?_
    simp -implicitDefEqProofs []
    refine (VF.lend heq (.one (View.nils 1) (.keep (by simp [below]) .nil)) rfl).mono ?_
    rintro r h ⟨rfl, rfl⟩
    simp -implicitDefEqProofs [callR_nxt]
    refine (VF.lend hh (.one (View.nils 1) (.keep (by simp [below]) .nil)) rfl).mono ?_
    rintro r h ⟨rfl, rfl⟩
    simp -implicitDefEqProofs [callR_nxt]
end Go.Proofs.YtbbobekgnclkfaaDoor
