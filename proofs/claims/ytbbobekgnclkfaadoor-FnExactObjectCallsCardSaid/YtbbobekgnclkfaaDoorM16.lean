/-
  How a machine's function is encoded: the program's repeated functions, its layout.
-/
import Derived.Test.YtbbobekgnclkfaaDoorM15
namespace Go.Proofs.YtbbobekgnclkfaaDoor
open Go Go.Aw
set_option maxRecDepth 100000
set_option maxHeartbeats 4000000

def earStep (m : Nat) (x : Mins) : Nat := if x.op = 14 then max m ((if 4 < x.n then 4 else x.n) + 1).toNat else m
def earT (ins : List Mins) (i : Nat) : Nat := (ins.take i).foldl earStep 0
theorem earT_succ {ins : List Mins} {i : Nat} (h : i < ins.length) : earT ins (i + 1) = earStep (earT ins i) ins[i] := by rw [earT, take_succ' h, List.foldl_append]; rfl
theorem earT_le (ins : List Mins) : ∀ i, earT ins i ≤ 5 := by
  have key : ∀ (l : List Mins) (m : Nat), m ≤ 5 → l.foldl earStep m ≤ 5 := by
    intro l
    induction l with
    | nil => intro m h; exact h
    | cons x r ih =>
      intro m h
      refine ih _ ?_
      unfold earStep
      by_cases h14 : x.op = 14
      · rw [if_pos h14]
        by_cases h4 : 4 < x.n
        · rw [if_pos h4]; omega
        · rw [if_neg h4]; omega
      · rw [if_neg h14]; exact h
  exact fun i => key _ _ (by omega)

/-- Both counts of earlier functions tell the same. -/
theorem alone_eq (f : Mfn) : machOk (aloneF (earT f.ins f.ins.length) f) = machOk (aloneF (mostS f.ins) f) := by
  have he : earT f.ins f.ins.length = f.ins.foldl earStep 0 := by rw [earT, List.take_of_length_le (Nat.le_refl _)]
  rw [he]
  by_cases h : ∀ x ∈ f.ins, x.op = 14 → x.n < 4
  · have key : ∀ (l : List Mins) (m : Nat), (∀ x ∈ l, x.op = 14 → x.n < 4) → l.foldl earStep m = l.foldl mostStep m := by
      intro l
      induction l with
      | nil => intro m _; rfl
      | cons x r ih =>
        intro m hl
        have h1 := hl x (by simp)
        have e : earStep m x = mostStep m x := by
          unfold earStep mostStep
          by_cases h14 : x.op = 14
          · have h2 := h1 h14
            rw [if_pos h14, if_neg (by omega)]
            by_cases hm : (m : Int) ≤ x.n
            · rw [if_pos ⟨h14, hm, h2⟩]; omega
            · rw [if_neg (by omega)]; omega
          · rw [if_neg h14, if_neg (by simp [h14])]
        rw [List.foldl_cons, List.foldl_cons, e]
        exact ih _ fun x hx => hl x (by simp [hx])
    rw [key _ _ h]; rfl
  · have h' : ∃ x ∈ f.ins, x.op = 14 ∧ 4 ≤ x.n := by
      refine Classical.byContradiction fun hn => h fun x hx h14 => ?_
      refine Classical.byContradiction fun hlt => hn ⟨x, hx, h14, by omega⟩
    obtain ⟨x, hx, h14, hx4⟩ := h'
    have e1 : machOk (aloneF (f.ins.foldl earStep 0) f) = false := by
      have mono : ∀ (l : List Mins) (m : Nat), m ≤ l.foldl earStep m := by
        intro l
        induction l with
        | nil => intro m; exact Nat.le_refl _
        | cons y r ih => intro m; exact Nat.le_trans (by unfold earStep; split; exact Nat.le_max_left _ _; exact Nat.le_refl _) (ih _)
      have big : ∀ (l : List Mins) (m : Nat), x ∈ l → 5 ≤ l.foldl earStep m := by
        intro l
        induction l with
        | nil => intro m h; simp at h
        | cons y r ih =>
          intro m h
          rcases List.mem_cons.1 h with rfl | h
          · refine Nat.le_trans ?_ (mono r _)
            unfold earStep; rw [if_pos h14]
            by_cases h5 : 4 < x.n
            · rw [if_pos h5]; omega
            · rw [if_neg h5]; omega
          · exact ih _ h
      have := big f.ins 0 hx
      have hl : inR (aloneF (f.ins.foldl earStep 0) f).length 1 4 = false := by simp [inR, aloneF]; omega
      simp [machOk, hl]
    have e2 : machOk (aloneF (mostS f.ins) f) = false := by
      have hm := mostT_le f.ins f.ins.length
      have he2 : mostT f.ins f.ins.length = mostS f.ins := by rw [mostT, List.take_of_length_le (Nat.le_refl _)]; rfl
      refine machBad (i := mostS f.ins) (f := f) (by simp [aloneF]) ?_
      have : f.ins.all (insOk f.params f.slots f.ins.length (mostS f.ins)) = false := by
        rw [List.all_eq_false]
        refine ⟨x, hx, ?_⟩
        have : inR x.n 0 ((mostS f.ins : Int) - 1) = false := by simp [inR]; omega
        simp [insOk_eq2, fN, mostN, h14, this, inR]
        try (intros; omega)
      simp [fnOk, this]
    rw [e1, e2]

variable (G : Glob)

theorem i_Mul64 (e : Nat) (he : e ≤ 5) : VF Tryd.prog G n_math_bits_Mul64 [.p (.int .u64 1), .p (.int .u64 e)] (.tup [.p (.int .u64 0), .p (.int .u64 e)]) := by
  refine AC.go k_math_bits_Mul64 ?_
  have : e = 0 ∨ e = 1 ∨ e = 2 ∨ e = 3 ∨ e = 4 ∨ e = 5 := by omega
  rcases this with rfl | rfl | rfl | rfl | rfl | rfl <;> simp -implicitDefEqProofs [F_math_bits_Mul64, IntKind.wrap, IntKind.bits, IntKind.signed]

theorem i_Mul (e : Nat) (he : e ≤ 5) : VF Tryd.prog G n_math_bits_Mul [.p (.int .u64 1), .p (.int .u64 e)] (.tup [.p (.int .u64 0), .p (.int .u64 e)]) := by
  refine AC.go k_math_bits_Mul ?_
  simp -implicitDefEqProofs [F_math_bits_Mul]
  refine (i_Mul64 G e he).use ?_
  simp -implicitDefEqProofs

/-- n functions, and the rest nought. -/
def repR (n e : Nat) : List (List AV) := List.replicate n (backF.cs.map .p) ++ List.replicate (e - n) zMfn
theorem repR_len {n e : Nat} (h : n ≤ e) : (repR n e).length = e := by simp [repR]; omega
theorem repR_step {n e : Nat} (h : n ≤ e) : List.take n (repR n e) ++ List.take (e - n) (List.take n (repR n e)) ++ List.drop (n + min n (e - n)) (repR n e) = repR (n + min n (e - n)) e := by
  have h1 : List.take n (repR n e) = List.replicate n (backF.cs.map .p) := by rw [repR, List.take_left' (by simp)]
  rw [h1, List.take_replicate, repR, List.drop_append, List.drop_replicate, List.drop_replicate, List.length_replicate, repR]
  rw [show n - (n + min n (e - n)) = 0 by omega, show e - n - (n + min n (e - n) - n) = e - (n + min n (e - n)) by omega, List.replicate_zero, List.nil_append, ← List.replicate_append_replicate, Nat.min_comm (e - n) n, List.append_assoc]

theorem repR_b (n e : Nat) : ∀ x ∈ repR n e, belowL 0 x := by
  intro x hx
  rcases List.mem_append.1 hx with h | h
  · rw [List.eq_of_mem_replicate h]; simp [backF, Mfn.cs, below, belowL]
  · rw [List.eq_of_mem_replicate h]; simp [zMfn, below, belowL]

theorem o_Repeat (o : AO) (ho : okO 0 o) (e : Nat) (he : e ≤ 5) : AC Tryd.prog G n_slices_Repeat_impl_Mfn [.p (.lst 3 [backF.cs]), .p (.int .i64 e)] [o] fun r h => r = .ret (.sl 1 3 0 e) ∧ h = [o, .row 3 (List.replicate e (backF.cs.map .p))] := by
  refine AC.go k_slices_Repeat_impl_Mfn ?_
  have w1' : IntKind.u64.wrap 1 = 1 := rfl
  have we : IntKind.u64.wrap (e : Int) = e := by simp [IntKind.wrap, IntKind.bits, IntKind.signed]; omega
  have wi : IntKind.i64.wrap (e : Int) = e := i64_small (by omega) (by omega)
  simp -implicitDefEqProofs [F_slices_Repeat_impl_Mfn, w1', we]
  refine (i_Mul G e he).use ?_
  have hng : ¬ (9223372036854775807 : Int) < e := by omega
  simp -implicitDefEqProofs [hng, wi]
  refine ⟨by omega, ?_⟩
  refine loopA (fun n : Nat => tsOf 48 [(7, .sl 1 3 0 e), (8, .p (.int .i64 n))]) (fun n => [o, .row 3 (repR n e)]) (fun n => n ≤ e ∧ (e = 0 ∨ 0 < n)) (fun n => e - n) (min 1 e) (by omega) ?_ ?_
  · have : (List.take e [List.map AV.p backF.cs] ++ List.replicate (e - min 1 e) [AV.p (PV.int IntKind.i64 0), AV.p (PV.int IntKind.i64 0), AV.nils]) = repR (min 1 e) e := by
      rcases Nat.eq_zero_or_pos e with rfl | h
      · rfl
      · rw [show min 1 e = 1 by omega, repR, List.take_of_length_le (by simp; omega)]; rfl
    rw [this]
    exact wkt_ren [0, 1] (by simp) (by decide) (by decide) (hw_ok rfl ho (hw_row rfl (repR_b _ _) hw_nil)) (by simp [below, ren])
  · intro n ⟨hn, hp⟩
    have hl := repR_len hn
    simp -implicitDefEqProofs []
    refine cndb (fun h1 => ?_) (fun h1 => ?_)
    · simp at h1
      simp -implicitDefEqProofs [hl]
      refine ⟨by omega, ?_⟩
      have hne : n + (e - n) ≤ e := by omega
      have hrs := repR_step hn
      rw [List.append_assoc] at hrs
      have w2 : IntKind.i64.wrap ((n : Int) + (min n (e - n) : Nat)) = ((n + min n (e - n) : Nat) : Int) := by rw [i64_small (by omega) (by omega)]; omega
      simp -implicitDefEqProofs [hn, hne, hl, hrs, Nat.min_eq_left hn, w2]
      exact ⟨n + min n (e - n), ⟨by omega, by omega⟩, by omega, wkt_ren [0, 1] (by simp) (by decide) (by decide) (hw_ok rfl ho (hw_row rfl (repR_b _ _) hw_nil)) (by simp [below, ren])⟩
    · simp at h1
      have : n = e := by omega
      subst this
      simp -implicitDefEqProofs [repR]
end Go.Proofs.YtbbobekgnclkfaaDoor
