/-
  How a machine's function is encoded: the reference's program of one function.
-/
import Derived.Test.YtbbobekgnclkfaaDoorM11
import Derived.Test.YtbbobekgnclkfaaDoorL7
namespace Go.Proofs.YtbbobekgnclkfaaDoor
open Go Go.Aw
set_option maxRecDepth 100000
set_option maxHeartbeats 4000000

theorem s_l25Long (G : Glob) (f : Mfn) (hf : InsFine f.ins) : VF Tryd.prog G n_spec_l25Long [.agg (f.cs.map .p)] (.p (boolL (longs f.ins))) :=
  AC.freeze (o_l25Long G f hf) (.one (by have := boolO_view (h := [boolO (longs f.ins)]) (id := 0) rfl; rw [longs_len] at this; exact this) .nil)

def mostStep (m : Nat) (x : Mins) : Nat := if x.op = 14 ∧ (m : Int) ≤ x.n ∧ x.n < 4 then x.n.toNat + 1 else m
def mostS (ins : List Mins) : Nat := ins.foldl mostStep 0
def mostT (ins : List Mins) (i : Nat) : Nat := (ins.take i).foldl mostStep 0
theorem mostT_succ {ins : List Mins} {i : Nat} (h : i < ins.length) : mostT ins (i + 1) = mostStep (mostT ins i) ins[i] := by rw [mostT, take_succ' h, List.foldl_append]; rfl
theorem mostStep_le {m : Nat} {x : Mins} (h : m ≤ 4) : mostStep m x ≤ 4 := by unfold mostStep; split <;> omega
theorem mostT_le (ins : List Mins) (i : Nat) : mostT ins i ≤ 4 := by
  have key : ∀ (l : List Mins) (m : Nat), m ≤ 4 → l.foldl mostStep m ≤ 4 := by
    intro l
    induction l with
    | nil => intro m h; exact h
    | cons x r ih => intro m h; exact ih _ (mostStep_le h)
  exact key _ _ (by omega)
def back1 : Mins := ⟨22, 0, 0, 0, 0⟩
def backF : Mfn := ⟨0, 0, [back1]⟩
def aloneF (e : Nat) (f : Mfn) : List Mfn := List.replicate e backF ++ [f]

/-- The heap while the program is made. -/
def aloneH (bx rs : AO) : Nat → List AO
  | 0 => [bx, rs, .row 1 [[.nils]]]
  | k + 1 => [bx, rs, .row 1 [[.sl 3 3 0 (k + 1)]], .row 3 (fnsR 4 (List.replicate (k + 1) backF))] ++ List.replicate (k + 1) (insO [back1])

theorem renL_mapp (ρ : List Nat) (l : List PV) : renL ρ (l.map .p) = l.map .p := renL_pure ρ _ (by simp)

variable (G : Glob)

theorem s_l25Alone (f : Mfn) (hn : f.ins.length ≤ 1048576) : VF Tryd.prog G n_spec_l25Alone [.agg (f.cs.map .p)] (.agg [.p (fnsL (aloneF (mostS f.ins) f))]) := by
  have key : AC Tryd.prog G n_spec_l25Alone [.agg (f.cs.map .p)] [] fun x h => ∃ id, x = .ret (.agg [.sl id 3 0 (mostS f.ins + 1)]) ∧ h[id]? = some (.row 3 (fnsR 4 (List.replicate (mostS f.ins) backF) ++ [f.cs.map .p])) ∧ ∀ j, j < mostS f.ins → h[4 + j]? = some (insO [back1]) := by
    refine AC.go k_spec_l25Alone ?_
    simp -implicitDefEqProofs [F_spec_l25Alone]
    refine loopA (fun i : Nat => tsOf 68 [(1, .ptr 0 3 0 0), (2, .ptr 1 1 0 0), (3, .ptr 2 1 0 0), (4, .p (.int .i64 (mostT f.ins i))), (5, .p (.int .i64 i))]) (fun _ => aloneH (.row 3 [f.cs.map .p]) (.row 1 [[.nils]]) 0)
      (fun i => i ≤ f.ins.length) (fun i => f.ins.length - i) 0 (by simp) ?_ ?_
    · refine wkt_same ?_ ?_ ?_
      · simp
      · simp [okO]
      simp [below, mostT]
    · intro i hi
      simp -implicitDefEqProofs [aloneH]
      simp -implicitDefEqProofs [Mfn.cs]
      refine cndb (fun h1 => ?_) (fun h1 => ?_)
      · simp at h1
        have hg1 := List.getElem?_eq_getElem h1
        have hm := mostT_le f.ins i
        have hgo : ∀ m, m = mostT f.ins (i + 1) → Wk 0 [] [] [] [] → True := fun _ _ _ => trivial
        by_cases h14 : f.ins[i].op = 14
        · by_cases hge : (mostT f.ins i : Int) ≤ f.ins[i].n
          · by_cases hlt : f.ins[i].n < 4
            · have hw : IntKind.i64.wrap (f.ins[i].n + 1) = ((mostT f.ins (i + 1) : Nat) : Int) := by rw [i64_small (by omega) (by omega), mostT_succ h1, mostStep, if_pos ⟨h14, hge, hlt⟩]; omega
              simp -implicitDefEqProofs [hg1, Mins.cs, h14, hge, hlt, hw]
              refine ⟨i + 1, h1, by omega, wkt_same (by simp) (by simp [okO]) ?_⟩
              simp [below, w1 (i := i) (by omega)]
            · have hw : mostT f.ins (i + 1) = mostT f.ins i := by rw [mostT_succ h1, mostStep, if_neg (by omega)]
              simp -implicitDefEqProofs [hg1, Mins.cs, h14, hge, hlt]
              refine ⟨i + 1, h1, by omega, wkt_same (by simp) (by simp [okO]) ?_⟩
              simp [below, w1 (i := i) (by omega), hw]
          · have hw : mostT f.ins (i + 1) = mostT f.ins i := by rw [mostT_succ h1, mostStep, if_neg (by omega)]
            simp -implicitDefEqProofs [hg1, Mins.cs, h14, hge]
            refine ⟨i + 1, h1, by omega, wkt_same (by simp) (by simp [okO]) ?_⟩
            simp [below, w1 (i := i) (by omega), hw]
        · have hw : mostT f.ins (i + 1) = mostT f.ins i := by rw [mostT_succ h1, mostStep, if_neg (by omega)]
          simp -implicitDefEqProofs [hg1, Mins.cs, h14]
          refine ⟨i + 1, h1, by omega, wkt_same (by simp) (by simp [okO]) ?_⟩
          simp [below, w1 (i := i) (by omega), hw]
      · simp at h1
        have he : mostT f.ins i = mostS f.ins := by rw [mostT, List.take_of_length_le h1]; rfl
        have hle := mostT_le f.ins i
        simp -implicitDefEqProofs []
        rw [he] at hle ⊢
        generalize mostS f.ins = e at hle ⊢
        refine loopA (fun k : Nat => tsOf 68 [(1, .ptr 0 3 0 0), (2, .ptr 1 1 0 0), (3, .ptr 2 1 0 0), (4, .p (.int .i64 e)), (6, .p (.int .i64 k))]) (fun k => aloneH (.row 3 [f.cs.map .p]) (.row 1 [[.nils]]) k)
          (fun k => k ≤ e) (fun k => e - k) 0 (by simp) ?_ ?_
        · refine wkt_same ?_ ?_ ?_
          · simp
          · simp [okO]
          simp [below]
        · intro k hk
          simp -implicitDefEqProofs []
          refine cndb (fun h2 => ?_) (fun h2 => ?_)
          · simp at h2
            have hkk : k = 0 ∨ k = 1 ∨ k = 2 ∨ k = 3 := by omega
            rcases hkk with rfl | rfl | rfl | rfl
            · simp -implicitDefEqProofs [aloneH, fnsR, List.replicate, Mfn.ov, backF, insO]
              refine ⟨1, by omega, by omega, wkt_pick [0, 1, 2, 5, 3] rfl (by decide) ?_ ?_⟩
              · simp [HW, renL, ren, below, renL_mapp, Mins.av, Mins.cs, back1, fnsR, Mfn.ov]
              · simp [below, ren, IntKind.wrap, IntKind.bits, IntKind.signed]
            · simp -implicitDefEqProofs [aloneH, fnsR, List.replicate, Mfn.ov, backF, insO]
              refine ⟨2, by omega, by omega, wkt_pick [0, 1, 2, 7, 4, 5] rfl (by decide) ?_ ?_⟩
              · simp [HW, renL, ren, below, renL_mapp, Mins.av, Mins.cs, back1, fnsR, Mfn.ov]
              · simp [below, ren, IntKind.wrap, IntKind.bits, IntKind.signed]
            · simp -implicitDefEqProofs [aloneH, fnsR, List.replicate, Mfn.ov, backF, insO]
              refine ⟨3, by omega, by omega, wkt_pick [0, 1, 2, 8, 4, 5, 6] rfl (by decide) ?_ ?_⟩
              · simp [HW, renL, ren, below, renL_mapp, Mins.av, Mins.cs, back1, fnsR, Mfn.ov]
              · simp [below, ren, IntKind.wrap, IntKind.bits, IntKind.signed]
            · simp -implicitDefEqProofs [aloneH, fnsR, List.replicate, Mfn.ov, backF, insO]
              refine ⟨4, by omega, by omega, wkt_pick [0, 1, 2, 9, 4, 5, 6, 7] rfl (by decide) ?_ ?_⟩
              · simp [HW, renL, ren, below, renL_mapp, Mins.av, Mins.cs, back1, fnsR, Mfn.ov]
              · simp [below, ren, IntKind.wrap, IntKind.bits, IntKind.signed]
          · simp at h2
            have hke : k = e := by omega
            subst hke
            have hkk : k = 0 ∨ k = 1 ∨ k = 2 ∨ k = 3 ∨ k = 4 := by omega
            rcases hkk with rfl | rfl | rfl | rfl | rfl
            all_goals
              simp -implicitDefEqProofs [aloneH, fnsR, List.replicate, Mfn.ov, backF, insO]
              first
                | rfl
                | (refine ⟨rfl, ?_⟩
                   intro j hj
                   have : j = 0 ∨ j = 1 ∨ j = 2 ∨ j = 3 := by omega
                   rcases this with rfl | rfl | rfl | rfl <;> first | rfl | omega)
  refine key.freezeR (fun t v h ⟨id, e, _⟩ => by cases e) fun v h ⟨id, e1, e2, e3⟩ => ?_
  cases e1
  refine .agg (.one ?_ .nil) .nil
  have hlen : ((aloneF (mostS f.ins) f).map Mfn.cs).length = mostS f.ins + 1 := by simp [aloneF]
  have hv := View.sl id 3 0 _ ((aloneF (mostS f.ins) f).map Mfn.cs) e2 (by simp [aloneF, fnsR_len]) (by intro e he; obtain ⟨m, _, rfl⟩ := List.mem_map.1 he; rfl) (fun i j e q e' a h1 h2 h3 h4 => by
    rw [Nat.zero_add] at h3
    rcases Nat.lt_or_ge i (mostS f.ins) with hi | hi
    · have e5 : ((aloneF (mostS f.ins) f).map Mfn.cs)[i]? = some backF.cs := by
        rw [List.getElem?_map, aloneF, List.getElem?_append_left (by simpa using hi), List.getElem?_replicate, if_pos hi]; rfl
      rw [e5] at h1; cases h1
      rw [List.getElem?_append_left (by rw [fnsR_len]; simpa using hi), fnsR_get, List.getElem?_replicate, if_pos hi] at h3
      cases h3
      match j, h2, h4 with
      | 0, h2, h4 => cases h2; cases h4; exact .p _
      | 1, h2, h4 => cases h2; cases h4; exact .p _
      | 2, h2, h4 =>
        cases h2; cases h4
        exact view_row (ls := [back1.cs]) (e3 i hi) rfl (by simp)
      | j + 3, h2, h4 => simp [backF, Mfn.cs] at h2
    · have hil : i < mostS f.ins + 1 := by have := (List.getElem?_eq_some_iff.1 h1).1; rw [hlen] at this; exact this
      have hie : i = mostS f.ins := by omega
      rw [List.getElem?_append_right (by rw [fnsR_len]; simpa using hi), fnsR_len, List.length_replicate, hie, Nat.sub_self] at h3
      cases h3
      have e5 : ((aloneF (mostS f.ins) f).map Mfn.cs)[i]? = some f.cs := by
        rw [List.getElem?_map, aloneF, List.getElem?_append_right (by simpa using hi), List.length_replicate, hie, Nat.sub_self]; rfl
      rw [e5] at h1; cases h1
      rw [List.getElem?_map, h2] at h4
      cases h4
      exact .p _)
  rw [hlen] at hv
  exact hv
end Go.Proofs.YtbbobekgnclkfaaDoor
