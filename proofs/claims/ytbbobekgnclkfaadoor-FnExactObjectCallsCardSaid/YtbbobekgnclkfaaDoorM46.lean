/-
  What the program asks of an object's code: the code with its calls struck out; names.
-/
import Derived.Test.YtbbobekgnclkfaaDoorM45
namespace Go.Proofs.YtbbobekgnclkfaaDoor
open Go Go.Aw
set_option maxRecDepth 100000
set_option maxHeartbeats 4000000
variable (G : Glob)

/-- The first ones struck out. -/
def blankT (f : Mfn) (i : Nat) : List Mins := (f.ins.take i).map blankI ++ f.ins.drop i
theorem blankT_zero (f : Mfn) : blankT f 0 = f.ins := by simp [blankT]
theorem blankT_all (f : Mfn) : blankT f f.ins.length = (blankF f).ins := by simp [blankT, blankF]
theorem blankT_len {f : Mfn} {i : Nat} (h : i ≤ f.ins.length) : (blankT f i).length = f.ins.length := by simp [blankT]; omega
theorem blankT_get {f : Mfn} {i : Nat} (h : i < f.ins.length) : (blankT f i)[i]? = some f.ins[i] := by
  rw [blankT, List.getElem?_append_right (by simp; omega)]
  simp [Nat.min_eq_left (Nat.le_of_lt h), h]
theorem blankT_set {f : Mfn} {i : Nat} (h : i < f.ins.length) : (blankT f i).set i (blankI f.ins[i]) = blankT f (i + 1) := by
  have hl : ((f.ins.take i).map blankI).length = i := by simp; omega
  rw [blankT, List.set_append_right _ _ (by omega), hl, Nat.sub_self, List.drop_eq_getElem_cons h, List.set_cons_zero, blankT, take_succ' h, List.map_append, List.append_assoc]
  rfl
theorem blankT_same {f : Mfn} {i : Nat} (h : i < f.ins.length) (ho : ¬ f.ins[i].op = 14) : blankT f (i + 1) = blankT f i := by
  rw [blankT, take_succ' h, List.map_append, List.append_assoc, blankT, List.drop_eq_getElem_cons h, List.map_cons, blankI, if_neg ho]
  rfl

theorem i_blank (f : Mfn) (hx : f.ins ≠ []) (hb : f.ins.length ≤ 1000000) : VF Tryd.prog G n_impl_blank [.agg (f.cs.map .p)] (.agg ((blankF f).cs.map .p)) := by
  have key : AC Tryd.prog G n_impl_blank [.agg (f.cs.map .p)] [] fun x h => ∃ id, x = .ret (.agg ((blankF f).ov id)) ∧ h[id]? = some (insO (blankF f).ins) := by
    refine AC.go k_impl_blank ?_
    have hin : insL f.ins = .lst 5 (f.ins.map Mins.cs) := rfl
    simp -implicitDefEqProofs [F_impl_blank]
    refine (AC.lift (o_cloneMfn G f hx hb) (by simp [belowL, below]) rfl ?_).mono ?_
    · simp only [List.all_cons, List.all_nil, nofnO_insA]; rfl
    rintro r h ⟨rfl, rfl⟩
    simp -implicitDefEqProofs [callR_nxt, shiftV, shiftL, shiftO_ins, Mfn.ov]
    refine loopA (fun i : Nat => tsOf 26 [(1, .ptr 0 3 0 0), (2, .ptr 1 3 0 0), (8, .p (.int .i64 f.ins.length)), (9, .p (.int .i64 i))]) (fun i => [.row 3 [[.p (.int .i64 f.params), .p (.int .i64 f.slots), .sl 2 5 0 f.ins.length]], .row 3 [zMfn], insO (blankT f i)])
      (fun i => i ≤ f.ins.length) (fun i => f.ins.length - i) 0 (by simp) ?_ ?_
    · rw [blankT_zero]
      refine wkt_pick [0, 1, 2] rfl (by decide) (hw_rowr (by simp [below]) (by simp [ren, renL]) (hw_row rfl (by simp [zMfn, belowL, below]) (hw_row rfl (av_pure _) hw_nil))) ?_
      simp [below, ren]
    · intro i hi
      simp -implicitDefEqProofs []
      refine cndb (fun h1 => ?_) (fun h1 => ?_)
      · simp at h1
        have hg := blankT_get h1
        have hbo : insO (blankT f i) = .row 5 ((blankT f i).map Mins.av) := rfl
        by_cases ho : f.ins[i].op = 14
        · have hs := blankT_set h1
          have hs2 : ((blankT f i).map Mins.av).set i [.p (.int .i64 14), .p (.int .i64 f.ins[i].a), .p (.int .i64 f.ins[i].b), .p (.int .i64 f.ins[i].c), .p (.int .i64 0)] = (blankT f (i + 1)).map Mins.av := by
            rw [← hs, List.map_set, blankI, if_pos ho, Mins.av_eq, ho]
          simp -implicitDefEqProofs [hbo, hg, h1, Mins.av_eq, ho, splice, hs2]
          refine ⟨i + 1, h1, by omega, ?_⟩
          refine wkt_pick [0, 1, 2] rfl (by decide) (hw_rowr (by simp [below]) (by simp [ren, renL]) (hw_row rfl (by simp [zMfn, belowL, below]) (hw_row rfl (av_pure _) hw_nil))) ?_
          simp [below, ren, w1 (i := i) (by omega)]
        · have hs := blankT_same h1 ho
          simp -implicitDefEqProofs [hbo, hg, h1, Mins.av_eq, ho]
          refine ⟨i + 1, h1, by omega, ?_⟩
          rw [hs]
          refine wkt_pick [0, 1, 2] rfl (by decide) (hw_rowr (by simp [below]) (by simp [ren, renL]) (hw_row rfl (by simp [zMfn, belowL, below]) (hw_row rfl (av_pure _) hw_nil))) ?_
          simp [below, ren, w1 (i := i) (by omega)]
      · simp at h1
        have hie : i = f.ins.length := by omega
        subst hie
        simp -implicitDefEqProofs [blankT_all]
        exact ⟨by simp [zMfn], 2, ⟨rfl, rfl, rfl, by simp [blankF]⟩, rfl⟩
  refine key.freezeR (fun t v h ⟨id, e, _⟩ => by cases e) fun v h ⟨id, e1, e2⟩ => ?_
  cases e1
  exact .agg (.keep (by simp [below]) (.keep (by simp [below]) (.one (insO_view e2) .nil))) .nil

def idxB (L : List (List UInt8)) : Int := match L.findIdx? (fun w => !isName w) with | some i => i | none => -1
theorem idxB_pos (L : List (List UInt8)) : decide (0 ≤ idxB L) = !(L.all isName) := by
  unfold idxB
  cases h : L.findIdx? (fun x => !isName x) with
  | none =>
    rw [List.findIdx?_eq_none_iff] at h
    have : L.all isName = true := List.all_eq_true.2 fun x hx => by have := h x hx; simpa using this
    simp [this]
  | some i =>
    rw [List.findIdx?_eq_some_iff_getElem] at h
    obtain ⟨h1, h2, _⟩ := h
    have : L.all isName = false := List.all_eq_false.2 ⟨_, List.getElem_mem h1, by simpa using h2⟩
    rw [this]; simp

variable (hK : G g_keys = some pvKeys)
include hK
theorem i_fnOf_1 (s : List UInt8) (hb : s.length ≤ 140737488355328) : VF Tryd.prog G n_impl_fnOf_1 [.p (.str s)] (.p (.bool (!isName s))) := by
  refine AC.go k_impl_fnOf_1 ?_
  simp -implicitDefEqProofs [F_impl_fnOf_1]
  refine (i_IsName G hK s hb).use ?_
  simp -implicitDefEqProofs []
theorem i_IndexNot (L : List (List UInt8)) (hb : L.length ≤ 1048576) (hw : ∀ x ∈ L, x.length ≤ 140737488355328) : VF Tryd.prog G n_slices_IndexFunc_string [.p (strL L), .fn (.func n_impl_fnOf_1) []] (.p (.int .i64 (idxB L))) := by
  refine AC.go k_slices_IndexFunc_string ?_
  have hsl : strL L = .lst 1 (L.map fun w => [.str w]) := rfl
  simp -implicitDefEqProofs [F_slices_IndexFunc_string, hsl]
  refine loopA (fun i : Nat => tsOf 19 [(0, .p (strL L)), (1, .fn (.func n_impl_fnOf_1) []), (6, .p (strL L)), (7, .p (.int .i64 L.length)), (8, .p (.int .i64 i))]) (fun _ => []) (fun i => i ≤ L.length ∧ ∀ w ∈ L.take i, isName w = true) (fun i => L.length - i) 0 (by simp) ?_ ?_
  · exact wkt_same (by simp) (by simp [okO]) (by simp [below, belowL, strL])
  · intro i ⟨hi, hn⟩
    simp -implicitDefEqProofs [hsl]
    refine cndb (fun h1 => ?_) (fun h1 => ?_)
    · simp at h1
      have hg := List.getElem?_eq_getElem h1
      simp -implicitDefEqProofs [hg]
      refine (i_fnOf_1 G hK _ (hw _ (List.getElem_mem h1))).use ?_
      by_cases he : isName L[i] = true
      · simp -implicitDefEqProofs [he]
        refine ⟨i + 1, ⟨h1, fun p hp => ?_⟩, by omega, wkt_same (by simp) (by simp [okO]) ?_⟩
        · rw [take_succ' h1] at hp
          rcases List.mem_append.1 hp with hp | hp
          · exact hn p hp
          · rw [List.mem_singleton.1 hp]; exact he
        · simp [below, belowL, strL, w1 (i := i) (by omega)]
      · have hf : idxB L = i := by
          have : L.findIdx? (fun w => !isName w) = some i := by
            rw [List.findIdx?_eq_some_iff_getElem]
            exact ⟨h1, by simpa using he, fun j hj => by have := hn L[j] (List.mem_take_iff_getElem.2 ⟨j, by omega, rfl⟩); simpa using this⟩
          rw [idxB, this]
        simp -implicitDefEqProofs [he, hf]
    · simp at h1
      rw [List.take_of_length_le h1] at hn
      have hf : idxB L = -1 := by
        have : L.findIdx? (fun w => !isName w) = none := by
          rw [List.findIdx?_eq_none_iff]; intro x hx; simpa using hn x hx
        rw [idxB, this]
      simp -implicitDefEqProofs [hf]
theorem i_ContainsNot (L : List (List UInt8)) (hb : L.length ≤ 1048576) (hw : ∀ x ∈ L, x.length ≤ 140737488355328) : VF Tryd.prog G n_slices_ContainsFunc_string [.p (strL L), .fn (.func n_impl_fnOf_1) []] (.p (.bool (!L.all isName))) := by
  rw [← idxB_pos]
  refine AC.go k_slices_ContainsFunc_string ?_
  simp -implicitDefEqProofs [F_slices_ContainsFunc_string]
  refine (i_IndexNot G hK L hb hw).use ?_
  simp -implicitDefEqProofs []
end Go.Proofs.YtbbobekgnclkfaaDoor
