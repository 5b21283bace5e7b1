/-
  The names an object calls, each once: both sides.
-/
import Derived.Test.YtbbobekgnclkfaaDoorM50
namespace Go.Proofs.YtbbobekgnclkfaaDoor
open Go Go.Aw
set_option maxRecDepth 100000
set_option maxHeartbeats 4000000

def uniS (acc : List (List UInt8)) (w : List UInt8) : List (List UInt8) := if acc.contains w then acc else acc ++ [w]
def uniT (l : List (List UInt8)) (i : Nat) : List (List UInt8) := (l.take i).foldl uniS []
def uniW (l : List (List UInt8)) : List (List UInt8) := l.foldl uniS []
theorem uniT_zero (l : List (List UInt8)) : uniT l 0 = [] := rfl
theorem uniT_succ {l : List (List UInt8)} {i : Nat} (h : i < l.length) : uniT l (i + 1) = uniS (uniT l i) l[i] := by
  rw [uniT, take_succ' h, List.foldl_append]; rfl
theorem uniT_all {l : List (List UInt8)} {i : Nat} (h : l.length ≤ i) : uniT l i = uniW l := by rw [uniT, List.take_of_length_le h]; rfl
theorem uniS_len (acc : List (List UInt8)) (w : List UInt8) : (uniS acc w).length ≤ acc.length + 1 := by
  unfold uniS; split <;> simp
theorem uniT_len {l : List (List UInt8)} : ∀ {i : Nat}, i ≤ l.length → (uniT l i).length ≤ i
  | 0, _ => by simp [uniT_zero]
  | i + 1, h => by
    rw [uniT_succ h]
    have h1 := uniS_len (uniT l i) l[i]
    have h2 := uniT_len (l := l) (i := i) (by omega)
    omega
theorem uniW_len (l : List (List UInt8)) : (uniW l).length ≤ l.length := by
  have := uniT_len (l := l) (Nat.le_refl _)
  rwa [uniT_all (Nat.le_refl _)] at this

variable (G : Glob)

theorem s_l2Has (L : List (List UInt8)) (s : List UInt8) (hb : L.length ≤ 1048576) : VF Tryd.prog G n_spec_l2Has [.p (strL L), .p (.str s)] (.p (.bool (L.contains s))) := by
  refine AC.go k_spec_l2Has ?_
  have hsl : strL L = .lst 1 (L.map fun w => [.str w]) := rfl
  simp -implicitDefEqProofs [F_spec_l2Has, hsl]
  refine loopA (fun i : Nat => tsOf 18 [(0, .p (strL L)), (1, .p (.str s)), (5, .p (.int .i64 i))]) (fun _ => []) (fun i => i ≤ L.length ∧ ∀ w ∈ L.take i, w ≠ s) (fun i => L.length - i) 0 (by simp) ?_ ?_
  · exact wkt_nil rfl (by simp [below, strL])
  · intro i ⟨hi, hn⟩
    simp -implicitDefEqProofs [hsl]
    refine cndb (fun h1 => ?_) (fun h1 => ?_)
    · simp at h1
      have hg := List.getElem?_eq_getElem h1
      by_cases he : L[i] = s
      · have hf : L.contains s = true := by rw [List.contains_iff_mem, ← he]; exact List.getElem_mem h1
        have hf' : s ∈ L := by rw [← he]; exact List.getElem_mem h1
        simp -implicitDefEqProofs [hg, hf', he]
      · simp -implicitDefEqProofs [hg, he]
        refine ⟨i + 1, ⟨h1, fun p hp => ?_⟩, by omega, wkt_nil rfl ?_⟩
        · rw [take_succ' h1] at hp
          rcases List.mem_append.1 hp with hp | hp
          · exact hn p hp
          · rw [List.mem_singleton.1 hp]; exact he
        · simp [below, strL, w1 (i := i) (by omega)]
    · simp at h1
      rw [List.take_of_length_le h1] at hn
      have hf : ¬ s ∈ L := fun hm => absurd rfl (hn s hm)
      simp -implicitDefEqProofs [hf]

def clsN (o : Obj) : List (List UInt8) := if objOk o then uniW o.names else []
theorem s_ObjectCalls (o : Obj) (ho : ObjSm o) (hz : szO o ≤ 1048576) : VF Tryd.prog G n_spec_ObjectCalls [.agg (o.cs.map .p)] (.p (strL (clsN o))) := by
  have hsz : szO o = o.name.length + o.code.length + o.calls.length + szW o.names := rfl
  have hwz : szW o.names = o.names.length + (o.names.map List.length).sum := rfl
  have key : AC Tryd.prog G n_spec_ObjectCalls [.agg (o.cs.map .p)] [] fun x h => ∃ id, x = .ret (.sl id 1 0 (clsN o).length) ∧ h[id]? = some (strO (clsN o)) := by
    refine AC.go k_spec_ObjectCalls ?_
    have hsl : ∀ l, strL l = .lst 1 (l.map fun w => [.str w]) := fun _ => rfl
    have hso : ∀ l, strO l = .row 1 (l.map fun w => [.p (.str w)]) := fun _ => rfl
    simp -implicitDefEqProofs [F_spec_ObjectCalls]
    refine loopA (fun i : Nat => tsOf 34 [(1, .ptr 0 6 0 0), (3, .sl 1 1 0 (uniT o.names i).length), (4, .p (.int .i64 i))]) (fun i => [.row 6 [o.cs.map .p], strO (uniT o.names i)])
      (fun i => i ≤ o.names.length ∧ (0 < i → objOk o = true)) (fun i => o.names.length - i) 0 (by simp) ?_ ?_
    · exact wkt_same (by simp) (by simp [okO, uniT_zero, hso]) (by simp [below, uniT_zero])
    · intro i ⟨hi, hob⟩
      by_cases h1 : i < o.names.length
      · have hg := List.getElem?_eq_getElem h1
        have hv := s_ObjectValid G o ho hz
        rw [Obj.cs, hsl] at hv
        have hul := uniT_len (l := o.names) (i := i) (Nat.le_of_lt h1)
        simp -implicitDefEqProofs [Obj.cs, hsl, h1]
        refine hv.use ?_
        by_cases hk : objOk o = true
        case neg =>
          have hi0 : i = 0 := by
            rcases Nat.eq_zero_or_pos i with e | e
            · exact e
            · exact absurd (hob e) hk
          subst hi0
          have hcl : clsN o = [] := by rw [clsN, if_neg hk]
          simp -implicitDefEqProofs [hk, hcl, uniT_zero]
        have hsu := uniT_succ h1
        simp -implicitDefEqProofs [hk, hg]
        refine (VF.lend (s_l2Has G (uniT o.names i) o.names[i] (by omega)) (.one (strO_view rfl) (.keep (by simp [below]) .nil)) rfl).mono ?_
        rintro r h ⟨rfl, rfl⟩
        by_cases hm : o.names[i] ∈ uniT o.names i
        · rw [uniS, if_pos (by simpa using hm)] at hsu
          simp -implicitDefEqProofs [callR_nxt, hm]
          refine ⟨i + 1, h1, by omega, ?_⟩
          rw [hsu]
          exact wkt_same (by simp) (by simp [okO, hso]) (by simp [below, w1 (i := i) (by omega)])
        · rw [uniS, if_neg (by simpa using hm)] at hsu
          simp -implicitDefEqProofs [callR_nxt, hm, hg, hso]
          refine ⟨by omega, i + 1, h1, by omega, ?_⟩
          rw [hsu]
          refine wkt_pick [0, 3] rfl (by decide) (hw_row rfl (by simp) (hw_row (by simp [hso, List.take_of_length_le]) (by intro x hx; simp at hx; rcases hx with ⟨a, _, rfl⟩ | rfl <;> simp [belowL, below]) hw_nil)) ?_
          simp [below, ren, w1 (i := i) (by omega)]
      · have hiN : ¬ (i : Int) < (o.names.length : Int) := by omega
        have hcl : clsN o = uniT o.names i := by
          rcases Nat.eq_zero_or_pos i with e | e
          · subst e
            have hn : o.names = [] := List.eq_nil_of_length_eq_zero (by omega)
            rw [clsN, hn, uniT_zero]; split <;> rfl
          · rw [clsN, if_pos (hob e), uniT_all (by omega)]
        simp -implicitDefEqProofs [Obj.cs, hsl, h1, hiN, hcl]
  refine key.freezeR (fun t v h ⟨id, e, _⟩ => by cases e) fun v h ⟨id, e1, e2⟩ => ?_
  cases e1
  exact .one (strO_view e2) .nil

theorem o_uniq (l : List (List UInt8)) (hb : l.length ≤ 1048576) : AC Tryd.prog G n_impl_uniq [.p (strL l)] [] fun x h => if l = [] then x = .ret .nils else ∃ id, x = .ret (.sl id 1 0 (uniW l).length) ∧ h[id]? = some (strO (uniW l)) := by
  refine AC.go k_impl_uniq ?_
  have hsl : ∀ l, strL l = .lst 1 (l.map fun w => [.str w]) := fun _ => rfl
  have hso : ∀ l, strO l = .row 1 (l.map fun w => [.p (.str w)]) := fun _ => rfl
  simp -implicitDefEqProofs [F_impl_uniq, hsl]
  refine loopA (fun i : Nat => tsOf 22 [(3, if i = 0 then .nils else .sl 0 1 0 (uniT l i).length), (6, .p (strL l)), (7, .p (.int .i64 l.length)), (8, .p (.int .i64 i))]) (fun i => if i = 0 then [] else [strO (uniT l i)])
    (fun i => i ≤ l.length) (fun i => l.length - i) 0 (by simp) ?_ ?_
  · rw [if_pos rfl, if_pos rfl]
    exact wkt_nil rfl (by simp [below, hsl])
  · intro i hi
    by_cases h1 : i < l.length
    · have hg := List.getElem?_eq_getElem h1
      have hne : l ≠ [] := by rintro rfl; simp at h1
      have hsu := uniT_succ h1
      have hul := uniT_len (l := l) (i := i) (Nat.le_of_lt h1)
      have hi1 : ¬ i + 1 = 0 := by omega
      by_cases h0 : i = 0
      · subst h0
        have hu1 : uniT l (0 + 1) = [l[0]] := by rw [hsu, uniT_zero]; rfl
        simp -implicitDefEqProofs [hsl, h1, hg]
        refine (VF.lend (i_Contains G [] l[0] (by simp)) (.one (View.nils 1) (.keep (by simp [below]) .nil)) rfl).mono ?_
        rintro r h ⟨rfl, rfl⟩
        simp -implicitDefEqProofs [callR_nxt]
        refine ⟨0 + 1, h1, by omega, ?_⟩
        rw [if_neg hi1, if_neg hi1, hu1]
        rw [show IntKind.i64.wrap 1 = ((0 + 1 : Nat) : Int) from rfl]
        refine wkt_pick [1] rfl (by decide) (hw_row rfl (by simp [belowL, below]) hw_nil) ?_
        simp [below, ren, hsl]
      · rw [if_neg h0, if_neg h0]
        simp -implicitDefEqProofs [hsl, h1, hg]
        refine (VF.lend (i_Contains G (uniT l i) l[i] (by omega)) (.one (strO_view rfl) (.keep (by simp [below]) .nil)) rfl).mono ?_
        rintro r h ⟨rfl, rfl⟩
        by_cases hm : l[i] ∈ uniT l i
        · rw [uniS, if_pos (by simpa using hm)] at hsu
          simp -implicitDefEqProofs [callR_nxt, hm]
          refine ⟨i + 1, h1, by omega, ?_⟩
          rw [if_neg hi1, if_neg hi1, hsu]
          exact wkt_same (by simp) (by simp [okO, hso]) (by simp [below, hsl, w1 (i := i) (by omega)])
        · rw [uniS, if_neg (by simpa using hm)] at hsu
          simp -implicitDefEqProofs [callR_nxt, hm, hso]
          refine ⟨by omega, i + 1, h1, by omega, ?_⟩
          rw [if_neg hi1, if_neg hi1, hsu]
          refine wkt_pick [2] rfl (by decide) (hw_row (by simp [hso, List.take_of_length_le]) (by intro x hx; simp at hx; rcases hx with ⟨a, _, rfl⟩ | rfl <;> simp [belowL, below]) hw_nil) ?_
          simp [below, ren, hsl, w1 (i := i) (by omega)]
    · have hiN : ¬ (i : Int) < (l.length : Int) := by omega
      have hall := uniT_all (l := l) (i := i) (by omega)
      by_cases h0 : i = 0
      · subst h0
        have hn : l = [] := List.eq_nil_of_length_eq_zero (by omega)
        simp -implicitDefEqProofs [hsl, h1, hiN, hn]
      · have hn : l ≠ [] := by rintro rfl; simp at hi; omega
        rw [if_neg h0, if_neg h0]
        simp -implicitDefEqProofs [hsl, h1, hiN, hn, hall]

theorem strO_pure (l : List (List UInt8)) : ∀ x ∈ l.map (fun w => [AV.p (.str w)]), belowL 0 x := by
  intro x hx; obtain ⟨m, _, rfl⟩ := List.mem_map.1 hx; simp [belowL, below]
theorem nofnO_str (l : List (List UInt8)) : nofnO (strO l) = true := by simp [nofnO, strO, nofnL, nofn]
theorem shiftO_str (n : Nat) (l : List (List UInt8)) : shiftO n (strO l) = strO l := by
  simp only [shiftO, strO, List.map_map]; rfl
theorem i_uniq1 {l : List (List UInt8)} (hb : l.length ≤ 1048576) (hn : l ≠ []) : AC Tryd.prog G n_impl_uniq [.p (strL l)] [] fun x h => x = .ret (.sl 0 1 0 (uniW l).length) ∧ h = [strO (uniW l)] := by
  refine (o_uniq G l hb).gc (fun t v h e => ?_) fun v h e => ?_
  · rw [if_neg hn] at e; obtain ⟨_, e, _⟩ := e; cases e
  · rw [if_neg hn] at e
    obtain ⟨id, e1, e2⟩ := e
    cases e1
    exact ⟨.sl 0 1 0 (uniW l).length, [strO (uniW l)], ⟨[id], by simp, by simp, by simp, by simp [below], by simp [ren], hw_row e2 (strO_pure _) hw_nil⟩, rfl, rfl⟩
theorem i_uniq2 : VF Tryd.prog G n_impl_uniq [.p (strL [])] .nils :=
  AC.freezeR ((o_uniq G [] (by simp)).mono (R' := fun r _ => r = .ret .nils) fun r h e => by rw [if_pos rfl] at e; exact e) (fun t v h e => by cases e) fun v h e => by cases e; exact .keep (by simp [below]) .nil

theorem clsN_nil {o : Obj} (hk : ¬ (objOk o = true ∧ o.names ≠ [])) : clsN o = [] := by
  unfold clsN
  split
  · rename_i h
    have : o.names = [] := by
      by_cases hn : o.names = []
      · exact hn
      · exact absurd ⟨h, hn⟩ hk
    rw [this]; rfl
  · rfl
variable (hG : G g_forms = some pvForms) (hK : G g_keys = some pvKeys)
include hG hK
theorem o_ObjectCalls (o : Obj) (ho : ObjSm o) (hz : szO o ≤ 1048576) : AC Tryd.prog G n_impl_ObjectCalls [.agg (o.cs.map .p)] [] fun x h =>
    if objOk o = true ∧ o.names ≠ [] then ∃ id, x = .ret (.sl id 1 0 (clsN o).length) ∧ h[id]? = some (strO (clsN o)) else x = .ret .nils := by
  refine AC.go k_impl_ObjectCalls ?_
  have hsz : szO o = o.name.length + o.code.length + o.calls.length + szW o.names := rfl
  have hwz : szW o.names = o.names.length + (o.names.map List.length).sum := rfl
  simp -implicitDefEqProofs [F_impl_ObjectCalls]
  refine (i_ObjectValid G hG hK o ho hz).use ?_
  by_cases hk : objOk o = true
  case neg => simp -implicitDefEqProofs [hk]
  have hcl : clsN o = uniW o.names := by rw [clsN, if_pos hk]
  simp -implicitDefEqProofs [hk, Obj.cs]
  by_cases hn : o.names = []
  · have h2 := i_uniq2 G
    rw [← hn] at h2
    refine h2.use ?_
    simp -implicitDefEqProofs [hn]
  · refine (AC.lift (i_uniq1 G (by omega) hn) (by simp [belowL, below]) rfl ?_).mono ?_
    · simp only [List.all_cons, List.all_nil, nofnO_str]; rfl
    rintro r h ⟨rfl, rfl⟩
    simp -implicitDefEqProofs [callR_nxt, shiftV, shiftL, shiftO_str, hn, hcl]
theorem i_ObjectCalls1 (o : Obj) (ho : ObjSm o) (hz : szO o ≤ 1048576) (hk : objOk o = true) (hn : o.names ≠ []) : AC Tryd.prog G n_impl_ObjectCalls [.agg (o.cs.map .p)] [] fun x h => x = .ret (.sl 0 1 0 (clsN o).length) ∧ h = [strO (clsN o)] := by
  refine (o_ObjectCalls G hG hK o ho hz).gc (fun t v h e => ?_) fun v h e => ?_
  · rw [if_pos ⟨hk, hn⟩] at e; obtain ⟨_, e, _⟩ := e; cases e
  · rw [if_pos ⟨hk, hn⟩] at e
    obtain ⟨id, e1, e2⟩ := e
    cases e1
    exact ⟨.sl 0 1 0 (clsN o).length, [strO (clsN o)], ⟨[id], by simp, by simp, by simp, by simp [below], by simp [ren], hw_row e2 (strO_pure _) hw_nil⟩, rfl, rfl⟩
theorem i_ObjectCalls2 (o : Obj) (ho : ObjSm o) (hz : szO o ≤ 1048576) (hk : ¬ (objOk o = true ∧ o.names ≠ [])) : VF Tryd.prog G n_impl_ObjectCalls [.agg (o.cs.map .p)] .nils :=
  AC.freezeR ((o_ObjectCalls G hG hK o ho hz).mono (R' := fun r _ => r = .ret .nils) fun r h e => by rw [if_neg hk] at e; exact e) (fun t v h e => by cases e) fun v h e => by cases e; exact .keep (by simp [below]) .nil
end Go.Proofs.YtbbobekgnclkfaaDoor
