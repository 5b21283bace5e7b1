/-
  Contracts and lemmas that the card needs, part 5.
-/
import Derived.Test.YtbbobekgnclkfaaDoorOa4
import Derived.Laws.RangeAny
import Derived.Laws.RangeString
import Derived.WalkKit
import Derived.ProofKit
namespace Go.Proofs.YtbbobekgnclkfaaDoor
open Go Go.Aw
set_option maxRecDepth 100000
set_option maxHeartbeats 4000000
def earStep (m : Nat) (x : Mins) : Nat := if x.op = 14 then max m ((if 4 < x.n then 4 else x.n) + 1).toNat else m
def earT (ins : List Mins) (i : Nat) : Nat := (ins.take i).foldl earStep 0
theorem earT_succ {ins : List Mins} {i : Nat} (h : i < ins.length) : earT ins (i + 1) = earStep (earT ins i) ins[i] := by rw [earT, take_succ' h, List.foldl_append]; rfl
theorem earT_le (ins : List Mins) : ∀ i, earT ins i ≤ 5 := by
  have key : ∀ (l : List Mins) (m : Nat), m ≤ 5 → l.foldl earStep m ≤ 5 := by
    intro l
    induction l with
    | nil => intro m h; exact h
    | cons x r ih =>
      intro m h
      refine ih _ ?_
      unfold earStep
      by_cases h14 : x.op = 14
      · rw [if_pos h14]
        by_cases h4 : 4 < x.n
        · rw [if_pos h4]; omega
        · rw [if_neg h4]; omega
      · rw [if_neg h14]; exact h
  exact fun i => key _ _ (by omega)
/-- Both counts of earlier functions tell the same. -/
theorem alone_eq (f : Mfn) : machOk (aloneF (earT f.ins f.ins.length) f) = machOk (aloneF (mostS f.ins) f) := by
  have he : earT f.ins f.ins.length = f.ins.foldl earStep 0 := by rw [earT, List.take_of_length_le (Nat.le_refl _)]
  rw [he]
  by_cases h : ∀ x ∈ f.ins, x.op = 14 → x.n < 4
  · have key : ∀ (l : List Mins) (m : Nat), (∀ x ∈ l, x.op = 14 → x.n < 4) → l.foldl earStep m = l.foldl mostStep m := by
      intro l
      induction l with
      | nil => intro m _; rfl
      | cons x r ih =>
        intro m hl
        have h1 := hl x (by simp)
        have e : earStep m x = mostStep m x := by
          unfold earStep mostStep
          by_cases h14 : x.op = 14
          · have h2 := h1 h14
            rw [if_pos h14, if_neg (by omega)]
            by_cases hm : (m : Int) ≤ x.n
            · rw [if_pos ⟨h14, hm, h2⟩]; omega
            · rw [if_neg (by omega)]; omega
          · rw [if_neg h14, if_neg (by simp [h14])]
        rw [List.foldl_cons, List.foldl_cons, e]
        exact ih _ fun x hx => hl x (by simp [hx])
    rw [key _ _ h]; rfl
  · have h' : ∃ x ∈ f.ins, x.op = 14 ∧ 4 ≤ x.n := by
      refine Classical.byContradiction fun hn => h fun x hx h14 => ?_
      refine Classical.byContradiction fun hlt => hn ⟨x, hx, h14, by omega⟩
    obtain ⟨x, hx, h14, hx4⟩ := h'
    have e1 : machOk (aloneF (f.ins.foldl earStep 0) f) = false := by
      have mono : ∀ (l : List Mins) (m : Nat), m ≤ l.foldl earStep m := by
        intro l
        induction l with
        | nil => intro m; exact Nat.le_refl _
        | cons y r ih => intro m; exact Nat.le_trans (by unfold earStep; split; exact Nat.le_max_left _ _; exact Nat.le_refl _) (ih _)
      have big : ∀ (l : List Mins) (m : Nat), x ∈ l → 5 ≤ l.foldl earStep m := by
        intro l
        induction l with
        | nil => intro m h; simp at h
        | cons y r ih =>
          intro m h
          rcases List.mem_cons.1 h with rfl | h
          · refine Nat.le_trans ?_ (mono r _)
            unfold earStep; rw [if_pos h14]
            by_cases h5 : 4 < x.n
            · rw [if_pos h5]; omega
            · rw [if_neg h5]; omega
          · exact ih _ h
      have := big f.ins 0 hx
      have hl : inR (aloneF (f.ins.foldl earStep 0) f).length 1 4 = false := by simp [inR, aloneF]; omega
      simp [machOk, hl]
    have e2 : machOk (aloneF (mostS f.ins) f) = false := by
      have hm := mostT_le f.ins f.ins.length
      have he2 : mostT f.ins f.ins.length = mostS f.ins := by rw [mostT, List.take_of_length_le (Nat.le_refl _)]; rfl
      refine machBad (i := mostS f.ins) (f := f) (by simp [aloneF]) ?_
      have : f.ins.all (insOk f.params f.slots f.ins.length (mostS f.ins)) = false := by
        rw [List.all_eq_false]
        refine ⟨x, hx, ?_⟩
        have : inR x.n 0 ((mostS f.ins : Int) - 1) = false := by simp [inR]; omega
        simp [insOk_eq2, fN, mostN, h14, this, inR]
        try (intros; omega)
      simp [fnOk, this]
    rw [e1, e2]
variable (G : Glob)
theorem i_Mul64 (e : Nat) (he : e ≤ 5) : VF Tryd.prog G n_math_bits_Mul64 [.p (.int .u64 1), .p (.int .u64 e)] (.tup [.p (.int .u64 0), .p (.int .u64 e)]) := by
  refine AC.go k_math_bits_Mul64 ?_
  have : e = 0 ∨ e = 1 ∨ e = 2 ∨ e = 3 ∨ e = 4 ∨ e = 5 := by omega
  rcases this with rfl | rfl | rfl | rfl | rfl | rfl <;> simp -implicitDefEqProofs [F_math_bits_Mul64, IntKind.wrap, IntKind.bits, IntKind.signed]
theorem i_Mul (e : Nat) (he : e ≤ 5) : VF Tryd.prog G n_math_bits_Mul [.p (.int .u64 1), .p (.int .u64 e)] (.tup [.p (.int .u64 0), .p (.int .u64 e)]) := by
  refine AC.go k_math_bits_Mul ?_
  simp -implicitDefEqProofs [F_math_bits_Mul]
  refine (i_Mul64 G e he).use ?_
  simp -implicitDefEqProofs
/-- n functions, and the rest nought. -/
def repR (n e : Nat) : List (List AV) := List.replicate n (backF.cs.map .p) ++ List.replicate (e - n) zMfn
theorem repR_len {n e : Nat} (h : n ≤ e) : (repR n e).length = e := by simp [repR]; omega
theorem repR_step {n e : Nat} (h : n ≤ e) : List.take n (repR n e) ++ List.take (e - n) (List.take n (repR n e)) ++ List.drop (n + min n (e - n)) (repR n e) = repR (n + min n (e - n)) e := by
  have h1 : List.take n (repR n e) = List.replicate n (backF.cs.map .p) := by rw [repR, List.take_left' (by simp)]
  rw [h1, List.take_replicate, repR, List.drop_append, List.drop_replicate, List.drop_replicate, List.length_replicate, repR]
  rw [show n - (n + min n (e - n)) = 0 by omega, show e - n - (n + min n (e - n) - n) = e - (n + min n (e - n)) by omega, List.replicate_zero, List.nil_append, ← List.replicate_append_replicate, Nat.min_comm (e - n) n, List.append_assoc]
theorem repR_b (n e : Nat) : ∀ x ∈ repR n e, belowL 0 x := by
  intro x hx
  rcases List.mem_append.1 hx with h | h
  · rw [List.eq_of_mem_replicate h]; simp [backF, Mfn.cs, below, belowL]
  · rw [List.eq_of_mem_replicate h]; simp [zMfn, below, belowL]
theorem o_Repeat (o : AO) (ho : okO 0 o) (e : Nat) (he : e ≤ 5) : AC Tryd.prog G n_slices_Repeat_impl_Mfn [.p (.lst 3 [backF.cs]), .p (.int .i64 e)] [o] fun r h => r = .ret (.sl 1 3 0 e) ∧ h = [o, .row 3 (List.replicate e (backF.cs.map .p))] := by
  refine AC.go k_slices_Repeat_impl_Mfn ?_
  have w1' : IntKind.u64.wrap 1 = 1 := rfl
  have we : IntKind.u64.wrap (e : Int) = e := by simp [IntKind.wrap, IntKind.bits, IntKind.signed]; omega
  have wi : IntKind.i64.wrap (e : Int) = e := i64_small (by omega) (by omega)
  simp -implicitDefEqProofs [F_slices_Repeat_impl_Mfn, w1', we]
  refine (i_Mul G e he).use ?_
  have hng : ¬ (9223372036854775807 : Int) < e := by omega
  simp -implicitDefEqProofs [hng, wi]
  refine ⟨by omega, ?_⟩
  refine loopA (fun n : Nat => tsOf 48 [(7, .sl 1 3 0 e), (8, .p (.int .i64 n))]) (fun n => [o, .row 3 (repR n e)]) (fun n => n ≤ e ∧ (e = 0 ∨ 0 < n)) (fun n => e - n) (min 1 e) (by omega) ?_ ?_
  · have : (List.take e [List.map AV.p backF.cs] ++ List.replicate (e - min 1 e) [AV.p (PV.int IntKind.i64 0), AV.p (PV.int IntKind.i64 0), AV.nils]) = repR (min 1 e) e := by
      rcases Nat.eq_zero_or_pos e with rfl | h
      · rfl
      · rw [show min 1 e = 1 by omega, repR, List.take_of_length_le (by simp; omega)]; rfl
    rw [this]
    exact wkt_ren [0, 1] (by simp) (by decide) (by decide) (hw_ok rfl ho (hw_row rfl (repR_b _ _) hw_nil)) (by simp [below, ren])
  · intro n ⟨hn, hp⟩
    have hl := repR_len hn
    simp -implicitDefEqProofs []
    refine cndb (fun h1 => ?_) (fun h1 => ?_)
    · simp at h1
      simp -implicitDefEqProofs [hl]
      refine ⟨by omega, ?_⟩
      have hne : n + (e - n) ≤ e := by omega
      have hrs := repR_step hn
      rw [List.append_assoc] at hrs
      have w2 : IntKind.i64.wrap ((n : Int) + (min n (e - n) : Nat)) = ((n + min n (e - n) : Nat) : Int) := by rw [i64_small (by omega) (by omega)]; omega
      simp -implicitDefEqProofs [hn, hne, hl, hrs, Nat.min_eq_left hn, w2]
      exact ⟨n + min n (e - n), ⟨by omega, by omega⟩, by omega, wkt_ren [0, 1] (by simp) (by decide) (by decide) (hw_ok rfl ho (hw_row rfl (repR_b _ _) hw_nil)) (by simp [below, ren])⟩
    · simp at h1
      have : n = e := by omega
      subst this
      simp -implicitDefEqProofs [repR]
end Go.Proofs.YtbbobekgnclkfaaDoor
namespace Go.Proofs.YtbbobekgnclkfaaDoor
open Go Go.Aw
set_option maxRecDepth 100000
set_option maxHeartbeats 4000000
variable (G : Glob)
structure LS where
  again : Bool
  first : Bool
  L : List Bool
  sz : Int
  o3 : AO
  o4 : AO
structure IS where
  fst : Nat
  snd : Bool
def LS.row (f : Mfn) (a : LS) : AO := .row 7 [layC f (.sl 1 1 0 f.ins.length) (if a.first then .nils else .sl 3 1 0 f.ins.length) (if a.first then .nils else .sl 4 1 0 f.ins.length) a.sz]
def LS.inv (f : Mfn) (a : LS) : Prop := a.L.length = f.ins.length ∧ okO 0 a.o3 ∧ okO 0 a.o4 ∧
  (if a.again then fixL f.ins a.L = longs f.ins else a.first = false ∧ a.L = longs f.ins ∧ a.sz = plc f.ins a.L f.ins.length ∧ a.o3 = intsO (szl f.ins a.L f.ins.length) ∧ a.o4 = intsO (plcs f.ins a.L f.ins.length))
theorem pos_of_alone {e : Nat} {f : Mfn} (h : machOk (aloneF e f) = true) : 0 < f.ins.length := by
  simp only [machOk, Bool.and_eq_true] at h
  have := fnsOk_get h.2 (i := e) (f := f) (by simp [aloneF])
  simp only [fnOk, Bool.and_eq_true] at this
  have h1 := this.1.2
  rcases Nat.eq_zero_or_pos f.ins.length with h0 | h0
  · rw [List.length_eq_zero_iff] at h0
    rw [h0] at h1; simp [lastOk] at h1
  · exact h0
variable (hG : G g_forms = some pvForms)
include hG
theorem o_layoutOf0 (f : Mfn) (hn : f.ins.length ≤ 1000000) (hlo : ∀ x ∈ f.ins, x.op = 14 → -9223372036854775808 ≤ x.n) : AC Tryd.prog G n_impl_layoutOf [.agg (f.cs.map .p)] [] fun r h =>
    if codeOk f then r = .ret (.ptr 2 7 0 0) ∧ h = [.row 3 [f.cs.map .p], boolO (longs f.ins), .row 7 [layC f (.sl 1 1 0 f.ins.length) (.sl 3 1 0 f.ins.length) (.sl 4 1 0 f.ins.length) (plc f.ins (longs f.ins) f.ins.length)], intsO (szl f.ins (longs f.ins) f.ins.length), intsO (plcs f.ins (longs f.ins) f.ins.length)]
    else r = .ret .nilp := by
  refine AC.go k_impl_layoutOf ?_
  simp -implicitDefEqProofs [F_impl_layoutOf]
  simp -implicitDefEqProofs [Mfn.cs]
  refine loopA (fun i : Nat => tsOf 92 [(1, .ptr 0 3 0 0), (3, .p (.int .i64 (earT f.ins i))), (12, .p (insL f.ins)), (13, .p (.int .i64 f.ins.length)), (14, .p (.int .i64 i))]) (fun _ => [.row 3 [f.cs.map .p]])
    (fun i => i ≤ f.ins.length) (fun i => f.ins.length - i) 0 (by simp) ?_ ?_
  · refine wkt_same (by simp) (by simp [okO, Mfn.cs]) ?_
    simp [below, earT, insL, Mfn.cs]
  · intro i hi
    have hin : insL f.ins = .lst 5 (f.ins.map Mins.cs) := rfl
    have hle := earT_le f.ins i
    simp -implicitDefEqProofs [hin]
    refine cndb (fun h1 => ?_) (fun h1 => ?_)
    · simp at h1
      have hg1 := List.getElem?_eq_getElem h1
      simp -implicitDefEqProofs [hg1]
      by_cases h14 : f.ins[i].op = 14
      · have hw : IntKind.i64.wrap ((if 4 < f.ins[i].n then 4 else f.ins[i].n) + 1) = (if 4 < f.ins[i].n then 4 else f.ins[i].n) + 1 := by
          have := hlo _ (List.getElem_mem h1) h14
          split <;> exact i64_small (by omega) (by omega)
        have he : (if (earT f.ins i : Int) < (if 4 < f.ins[i].n then 4 else f.ins[i].n) + 1 then (if 4 < f.ins[i].n then 4 else f.ins[i].n) + 1 else (earT f.ins i : Int)) = ((earT f.ins (i + 1) : Nat) : Int) := by
          rw [earT_succ h1, earStep, if_pos h14]
          by_cases h4 : 4 < f.ins[i].n
          · simp only [if_pos h4]; omega
          · simp only [if_neg h4]; omega
        simp -implicitDefEqProofs [hg1, Mins.cs, h14, hw, he]
        refine ⟨i + 1, h1, by omega, wkt_pick [0] rfl (by decide) (hw_row rfl (by simp [belowL, Mfn.cs]) hw_nil) ?_⟩
        simp [below, ren, w1 (i := i) (by omega)]
      · have hw : earT f.ins (i + 1) = earT f.ins i := by rw [earT_succ h1, earStep, if_neg h14]
        simp -implicitDefEqProofs [hg1, Mins.cs, h14]
        refine ⟨i + 1, h1, by omega, wkt_pick [0] rfl (by decide) (hw_row rfl (by simp [belowL, Mfn.cs]) hw_nil) ?_⟩
        simp [below, ren, w1 (i := i) (by omega), hw]
    · simp at h1
      have : i = f.ins.length := by omega
      subst this
      simp -implicitDefEqProofs []
      have hbc : backF.cs = [.int .i64 0, .int .i64 0, .lst 5 [[.int .i64 22, .int .i64 0, .int .i64 0, .int .i64 0, .int .i64 0]]] := rfl
      generalize hee : earT f.ins f.ins.length = e at *
      refine (o_Repeat G (.row 3 [f.cs.map .p]) (by simp [okO, Mfn.cs]) e hle).mono ?_
      rintro r h ⟨rfl, rfl⟩
      simp -implicitDefEqProofs [callR, callR_nxt]
      refine ⟨⟨by omega, by omega⟩, ?_⟩
      have hv : View [AO.row 3 [List.map AV.p f.cs], AO.dead, AO.row 3 (List.replicate e (List.map AV.p backF.cs) ++ [[AV.p (PV.int IntKind.i64 f.params), AV.p (PV.int IntKind.i64 f.slots), AV.p (PV.lst 5 (List.map Mins.cs f.ins))]]), AO.row 1 [[AV.sl 2 3 0 (e + 1)]]] (.sl 2 3 0 (e + 1)) (fnsL (aloneF e f)) :=
        view_row (ls := (aloneF e f).map Mfn.cs) (by simp [aloneF, Mfn.cs]) (by simp [aloneF]) (fun l hl => by obtain ⟨x, _, rfl⟩ := List.mem_map.1 hl; rfl)
      refine (VF.lend (i_MachValid G hG (aloneF e f) (by rw [szF_alone]; omega)) (.agg (.one hv .nil) .nil) rfl).mono ?_
      rintro r h ⟨rfl, rfl⟩
      have hae : machOk (aloneF e f) = machOk (aloneF (mostS f.ins) f) := by rw [← hee]; exact alone_eq f
      simp -implicitDefEqProofs [hae]
      refine cndb (fun h2 => ?_) (fun h2 => ?_)
      · simp at h2
        have hc : codeOk f = false := by simp [codeOk, h2]
        simp -implicitDefEqProofs [hc]
      · simp at h2
        have hf := fine_of_alone h2
        have hmn : f.ins.length ≤ 2000 := hf.1
        simp -implicitDefEqProofs [Mfn.cs, insL]
        refine ⟨by omega, ?_⟩
        have hpos := pos_of_alone h2
        refine loopA (fun a : LS => tsOf 92 [(1, .ptr 0 3 0 0), (7, .ptr 2 7 0 0), (8, .p (.bool a.again))]) (fun a => [.row 3 [f.cs.map .p], boolO a.L, a.row f, a.o3, a.o4])
          (fun a => a.inv f) (fun a => 2 * countF a.L + (if a.again then 1 else 0)) ⟨true, true, List.replicate f.ins.length false, 0, .dead, .dead⟩ (by simp [LS.inv, longs, okO]) ?_ ?_
        · refine wkt_pick [0, 4, 5, 1, 3] rfl (by decide) (hw_row rfl (by simp [belowL, Mfn.cs]) (hw_ok (by simp [boolO]) (by simp [-Bool.exists_bool, -Bool.forall_bool, okO, boolO]) (hw_rowr (by simp [layC, below]) (by simp [layC, ren, renL]; exact hin.symm) (hw_dead (by simp) (hw_dead (by simp) hw_nil))))) ?_
          simp [below, ren]
        · rintro ⟨again, first, L, sz, o3, o4⟩ ⟨hL, ho3, ho4, hfix⟩
          simp only at hL ho3 ho4 hfix
          simp -implicitDefEqProofs []
          refine cndb (fun h3 => ?_) (fun h3 => ?_)
          · subst h3
            simp only [if_true] at hfix
            simp -implicitDefEqProofs []
            refine AC.mono (o_settle G f L hL hf hpos _ _ sz o3 o4 ho3 ho4) ?_
            rintro r h ⟨rfl, rfl⟩
            have hbo : ∀ l, boolO l = .row 1 (l.map fun b => [.p (.bool b)]) := fun _ => rfl
            simp -implicitDefEqProofs [callR_nxt]
            simp -implicitDefEqProofs [Mfn.cs, hin]
            have hrl := roundL_len f.ins L
            have hn0 : L = nextAt f.ins L 0 := by simp [nextAt]
            refine loopA (fun a : IS => tsOf 92 [(1, .ptr 0 3 0 0), (7, .ptr 2 7 0 0), (8, .p (.bool a.snd)), (52, .p (insL f.ins)), (53, .p (.int .i64 f.ins.length)), (54, .p (.int .i64 a.fst))])
              (fun a => [.row 3 [f.cs.map .p], boolO (nextAt f.ins L a.fst), .row 7 [layC f (.sl 1 1 0 f.ins.length) (.sl 5 1 0 f.ins.length) (.sl 6 1 0 f.ins.length) (plc f.ins L f.ins.length)], o3, o4, intsO (szl f.ins L f.ins.length), intsO (plcs f.ins L f.ins.length)])
              (fun a => a.fst ≤ f.ins.length ∧ (a.snd = false → (roundL f.ins L).take a.fst = L.take a.fst) ∧ (a.snd = true → roundL f.ins L ≠ L)) (fun a => f.ins.length - a.fst) ⟨0, false⟩ (by simp) ?_ ?_
            · rw [← hn0]
              refine wkt_pick [0, 1, 2, 3, 4, 5, 6] rfl (by decide) (hw_row rfl (by simp [belowL, Mfn.cs]) (hw_ok rfl (by simp [-Bool.exists_bool, -Bool.forall_bool, okO, boolO]) (hw_rowr (by simp [layC, below]) (by simp [layC, ren, renL]) (hw_ok rfl ho3 (hw_ok rfl ho4 (hw_ok rfl (by simp [okO, intsO]) (hw_ok rfl (by simp [okO, intsO]) hw_nil))))))) ?_
              simp [below, ren, hin]
            · rintro ⟨i, c⟩ ⟨hi, hc0, hc1⟩
              simp only at hi hc0 hc1
              simp -implicitDefEqProofs [hin]
              refine cndb (fun h3 => ?_) (fun h3 => ?_)
              · simp at h3
                have h4 : i < L.length := by omega
                obtain ⟨q1, q2, q3, q4⟩ := hf.2 _ (List.getElem_mem h3)
                have hg1 := List.getElem?_eq_getElem h3
                have hg2 := List.getElem?_eq_getElem h4
                have hng := nextAt_get (ins := f.ins) h4
                have hrg := roundL_get (ins := f.ins) h4
                have hnl := nextAt_len (ins := f.ins) (L := L) (i := i) (by omega)
                have hstay : (L[i] || need f.ins L i) = L[i] → ((⟨i + 1, c⟩ : IS).fst ≤ f.ins.length ∧ ((⟨i + 1, c⟩ : IS).snd = false → (roundL f.ins L).take (⟨i + 1, c⟩ : IS).fst = L.take (⟨i + 1, c⟩ : IS).fst) ∧ ((⟨i + 1, c⟩ : IS).snd = true → roundL f.ins L ≠ L)) := fun hs => by
                  refine ⟨h3, fun hc => ?_, hc1⟩
                  show (roundL f.ins L).take (i + 1) = L.take (i + 1)
                  rw [take_succ' (by rw [hrl]; exact h4), take_succ' h4, hc0 hc, hrg, hs]
                simp -implicitDefEqProofs [hg1]
                simp -implicitDefEqProofs [Mins.cs]
                refine (i_jumpOp G _).use ?_
                by_cases hj : jmp f.ins[i] = true
                · have hjo : (f.ins[i].op == 20 || f.ins[i].op == 21) = true := by simpa [jmp] using hj
                  simp -implicitDefEqProofs [hjo, layC, hbo, h3, hng]
                  cases hLi : L[i] with
                  | true =>
                    have hs : (L[i] || need f.ins L i) = L[i] := by simp [hLi]
                    simp -implicitDefEqProofs [hLi]
                    refine ⟨⟨i + 1, c⟩, hstay hs, (by show f.ins.length - (i + 1) < f.ins.length - i; omega), ?_⟩
                    rw [nextAt_same h4 hs]
                    refine wkt_pick [0, 1, 2, 3, 4, 5, 6] rfl (by decide) (hw_row rfl (by simp [belowL, Mfn.cs]) (hw_ok rfl (by simp [-Bool.exists_bool, -Bool.forall_bool, okO, boolO]) (hw_rowr (by simp [layC, below]) (by simp [layC, ren, renL]) (hw_ok rfl ho3 (hw_ok rfl ho4 (hw_ok rfl (by simp [okO, intsO]) (hw_ok rfl (by simp [okO, intsO]) hw_nil))))))) ?_
                    simp [below, ren, w1 (i := i) (by omega)]
                  | false =>
                    simp -implicitDefEqProofs [hLi]
                    refine AC.mono (i_offset G (L := L) hL hf h3 hj rfl rfl rfl) ?_
                    rintro r h ⟨rfl, rfl⟩
                    simp -implicitDefEqProofs [callR_nxt, hLi]
                    refine (i_within G _ _ _).use ?_
                    simp -implicitDefEqProofs []
                    have hneed : need f.ins L i = !inR ((plc f.ins L f.ins[i].n.toNat : Int) - (plc f.ins L i : Int) - (sizeB f.ins[i] false : Int)) (-128) 127 := by simp [need, hg1, hj]
                    refine cndb (fun h5 => ?_) (fun h5 => ?_)
                    · simp at h5
                      have hnt : need f.ins L i = true := by rw [hneed, h5]; rfl
                      have hset := nextAt_set (ins := f.ins) h4
                      rw [hLi, hnt] at hset
                      simp only [Bool.false_or] at hset
                      have hset2 : ((nextAt f.ins L i).map fun b => [AV.p (.bool b)]).set i [AV.p (.bool true)] = (nextAt f.ins L (i + 1)).map fun b => [AV.p (.bool b)] := by rw [← hset, List.map_set]
                      simp -implicitDefEqProofs [h3, hng, hset2]
                      refine ⟨⟨i + 1, true⟩, ⟨h3, by simp, fun _ he => ?_⟩, (by show f.ins.length - (i + 1) < f.ins.length - i; omega), ?_⟩
                      · have h6 : (roundL f.ins L)[i]? = some true := by rw [List.getElem?_eq_getElem (by rw [hrl]; exact h4), hrg, hnt]; simp
                        rw [he, hg2, hLi] at h6; cases h6
                      · refine wkt_pick [0, 1, 2, 3, 4, 5, 6] rfl (by decide) (hw_row rfl (by simp [belowL, Mfn.cs]) (hw_ok rfl (by simp [-Bool.exists_bool, -Bool.forall_bool, okO, boolO]) (hw_rowr (by simp [layC, below]) (by simp [layC, ren, renL]) (hw_ok rfl ho3 (hw_ok rfl ho4 (hw_ok rfl (by simp [okO, intsO]) (hw_ok rfl (by simp [okO, intsO]) hw_nil))))))) ?_
                        simp [below, ren, w1 (i := i) (by omega)]
                    · simp at h5
                      have hnt : need f.ins L i = false := by rw [hneed, h5]; rfl
                      have hs : (L[i] || need f.ins L i) = L[i] := by simp [hnt]
                      simp -implicitDefEqProofs []
                      refine ⟨⟨i + 1, c⟩, hstay hs, (by show f.ins.length - (i + 1) < f.ins.length - i; omega), ?_⟩
                      rw [nextAt_same h4 hs]
                      refine wkt_pick [0, 1, 2, 3, 4, 5, 6] rfl (by decide) (hw_row rfl (by simp [belowL, Mfn.cs]) (hw_ok rfl (by simp [-Bool.exists_bool, -Bool.forall_bool, okO, boolO]) (hw_rowr (by simp [layC, below]) (by simp [layC, ren, renL]) (hw_ok rfl ho3 (hw_ok rfl ho4 (hw_ok rfl (by simp [okO, intsO]) (hw_ok rfl (by simp [okO, intsO]) hw_nil))))))) ?_
                      simp [below, ren, w1 (i := i) (by omega)]
                · have hjo : (f.ins[i].op == 20 || f.ins[i].op == 21) = false := by simpa [jmp] using hj
                  simp -implicitDefEqProofs [hjo]
                  have hs : (L[i] || need f.ins L i) = L[i] := by simp [need, hg1, hj]
                  refine ⟨⟨i + 1, c⟩, hstay hs, (by show f.ins.length - (i + 1) < f.ins.length - i; omega), ?_⟩
                  rw [nextAt_same h4 hs]
                  refine wkt_pick [0, 1, 2, 3, 4, 5, 6] rfl (by decide) (hw_row rfl (by simp [belowL, Mfn.cs]) (hw_ok rfl (by simp [-Bool.exists_bool, -Bool.forall_bool, okO, boolO]) (hw_rowr (by simp [layC, below]) (by simp [layC, ren, renL]) (hw_ok rfl ho3 (hw_ok rfl ho4 (hw_ok rfl (by simp [okO, intsO]) (hw_ok rfl (by simp [okO, intsO]) hw_nil))))))) ?_
                  simp [below, ren, w1 (i := i) (by omega)]
              · simp at h3
                have hie : i = f.ins.length := by omega
                subst hie
                have hnx : nextAt f.ins L f.ins.length = roundL f.ins L := by rw [nextAt, List.take_of_length_le (by rw [hrl]; omega), List.drop_of_length_le (by omega), List.append_nil]
                rw [List.take_of_length_le (by rw [hrl]; omega), List.take_of_length_le (by omega)] at hc0
                rw [hnx]
                simp -implicitDefEqProofs []
                refine ⟨⟨c, false, roundL f.ins L, plc f.ins L f.ins.length, intsO (szl f.ins L f.ins.length), intsO (plcs f.ins L f.ins.length)⟩, ⟨by rw [hrl]; exact hL, by simp [okO, intsO], by simp [okO, intsO], ?_⟩, ?_, wkt_pick [0, 1, 2, 5, 6] rfl (by simp) (hw_row rfl (by simp [belowL]) (hw_ok rfl (by simp [-Bool.exists_bool, -Bool.forall_bool, okO, boolO]) (hw_rowr (by simp [layC, below]) (by simp [layC, ren, renL]) (hw_ok rfl (by simp [okO, intsO]) (hw_ok rfl (by simp [okO, intsO]) hw_nil))))) ?_⟩
                · cases c with
                  | false =>
                    have hh := hc0 rfl
                    simp only [Bool.false_eq_true, if_false]
                    refine ⟨trivial, ?_, ?_, ?_, ?_⟩
                    · rw [← hfix, fixL_same hh, hh]
                    · rw [hh]
                    · rw [hh]
                    · rw [hh]
                  | true => simp only [if_true]; rw [← hfix, fixL_next (hc1 rfl)]
                · cases c with
                  | false => have := hc0 rfl; rw [this]; simp
                  | true => have := countF_round _ _ (hc1 rfl); simp; omega
                · simp [below, ren]
          · subst h3
            simp at hfix
            obtain ⟨hf1, hf2, hf3, hf4, hf5⟩ := hfix
            subst hf1 hf2 hf3 hf4 hf5
            simp -implicitDefEqProofs [LS.row, layC]
            refine cndb (fun h4 => ?_) (fun h4 => ?_)
            · simp at h4
              have hc : codeOk f = false := by simp [codeOk]; intro _; omega
              simp -implicitDefEqProofs [hc]
            · simp at h4
              have hc : codeOk f = true := by simp [codeOk, h2]; omega
              simp -implicitDefEqProofs [hc, Mfn.cs, hin]
end Go.Proofs.YtbbobekgnclkfaaDoor
namespace Go.Proofs.YtbbobekgnclkfaaDoor
open Go Go.Aw
set_option maxRecDepth 100000
set_option maxHeartbeats 4000000
theorem codeOk_pos {f : Mfn} (h : codeOk f = true) : 0 < f.ins.length := by
  simp only [codeOk, Bool.and_eq_true] at h
  exact pos_of_alone h.1
variable (G : Glob)
end Go.Proofs.YtbbobekgnclkfaaDoor
namespace Go.Proofs.YtbbobekgnclkfaaDoor
open Go Go.Aw
set_option maxRecDepth 100000
set_option maxHeartbeats 4000000
def isLet (c : UInt8) : Bool := decide (97 ≤ c.toNat) && decide (c.toNat ≤ 122)
def keyW : List (List UInt8) := [[102, 110], [108, 101, 116], [115, 97, 121], [112, 117, 116], [105, 102], [101, 108, 115, 101], [108, 111, 111, 112], [98, 97, 99, 107], [100, 111]]
def isName (s : List UInt8) : Bool := s.all isLet && decide (0 < s.length) && decide (s.length ≤ 4) && !keyW.contains s
def signW : List UInt8 := [40, 41, 123, 125, 59, 44, 43, 45, 42, 47, 37, 60, 61, 38, 33, 64]
def findB (s : List UInt8) (c : Int) : Int := match s.findIdx? (fun x => (x.toNat : Int) == c) with | some i => i | none => -1
def clsOf (c : Int) : Int := if 97 ≤ c ∧ c ≤ 122 then 1 else if 48 ≤ c ∧ c ≤ 57 then 2 else if 0 ≤ findB signW c then 3 else if c = 32 ∨ c = 10 then 4 else 0
theorem cls_let (x : UInt8) : (clsOf (x.toNat : Int) = 1) ↔ isLet x = true := by
  have h : (97 ≤ (x.toNat : Int) ∧ (x.toNat : Int) ≤ 122) ↔ isLet x = true := by simp [isLet]; omega
  unfold clsOf
  constructor
  · intro e
    split at e
    · rename_i h1; exact h.1 h1
    · repeat' split at e
      all_goals omega
  · intro e; rw [if_pos (h.2 e)]
def strL (l : List (List UInt8)) : PV := .lst 1 (l.map fun w => [.str w])
def idxN (s : List UInt8) : Int := match s.findIdx? (fun x => !isLet x) with | some i => i | none => -1
theorem idxN_neg (s : List UInt8) : decide (idxN s < 0) = s.all isLet := by
  unfold idxN
  cases h : s.findIdx? (fun x => !isLet x) with
  | none =>
    rw [List.findIdx?_eq_none_iff] at h
    have : s.all isLet = true := List.all_eq_true.2 fun x hx => by have := h x hx; simpa using this
    simp [this]
  | some i =>
    rw [List.findIdx?_eq_some_iff_getElem] at h
    obtain ⟨h1, h2, _⟩ := h
    have : s.all isLet = false := List.all_eq_false.2 ⟨_, List.getElem_mem h1, by simpa using h2⟩
    rw [this]; simp
def idxS (l : List (List UInt8)) (s : List UInt8) : Int := match l.findIdx? (fun w => w == s) with | some i => i | none => -1
theorem idxS_pos (l : List (List UInt8)) (s : List UInt8) : decide (0 ≤ idxS l s) = l.contains s := by
  unfold idxS
  cases h : l.findIdx? (fun w => w == s) with
  | none =>
    rw [List.findIdx?_eq_none_iff] at h
    have : l.contains s = false := by
      cases hc : l.contains s with
      | false => rfl
      | true =>
        have hm : s ∈ l := by simpa using hc
        have := h s hm
        simp at this
    rw [this]; simp
  | some i =>
    rw [List.findIdx?_eq_some_iff_getElem] at h
    obtain ⟨h1, h2, _⟩ := h
    have : l.contains s = true := by
      simp only [beq_iff_eq] at h2
      rw [List.contains_iff_mem, ← h2]; exact List.getElem_mem h1
    rw [this]; simp
variable (G : Glob)
theorem s_l30Find (s : List UInt8) (c : Int) (hb : s.length ≤ 1048576) : VF Tryd.prog G n_spec_l30Find [.p (.str s), .p (.int .u8 c)] (.p (.int .i64 (findB s c))) := by
  refine AC.go k_spec_l30Find ?_
  simp -implicitDefEqProofs [F_spec_l30Find]
  refine loopA (fun i : Nat => tsOf 18 [(0, .p (.str s)), (1, .p (.int .u8 c)), (5, .p (.int .i64 i))]) (fun _ => []) (fun i => i ≤ s.length ∧ ∀ x ∈ s.take i, (x.toNat : Int) ≠ c) (fun i => s.length - i) 0 (by simp) ?_ ?_
  · exact wkt_nil rfl (by simp [below])
  · intro i ⟨hi, hn⟩
    simp -implicitDefEqProofs []
    refine cndb (fun h1 => ?_) (fun h1 => ?_)
    · simp at h1
      have hg := List.getElem?_eq_getElem h1
      by_cases he : (s[i].toNat : Int) = c
      · have hf : findB s c = i := by
          have : s.findIdx? (fun x => (x.toNat : Int) == c) = some i := by
            rw [List.findIdx?_eq_some_iff_getElem]
            exact ⟨h1, by simpa using he, fun j hj => by have := hn s[j] (List.mem_take_iff_getElem.2 ⟨j, by omega, rfl⟩); simpa using this⟩
          rw [findB, this]
        simp -implicitDefEqProofs [hg, he, hf]
      · simp -implicitDefEqProofs [hg, he]
        refine ⟨i + 1, ⟨h1, fun p hp => ?_⟩, by omega, wkt_nil rfl ?_⟩
        · rw [take_succ' h1] at hp
          rcases List.mem_append.1 hp with hp | hp
          · exact hn p hp
          · rw [List.mem_singleton.1 hp]; exact he
        · simp [below, w1 (i := i) (by omega)]
    · simp at h1
      rw [List.take_of_length_le h1] at hn
      have hf : findB s c = -1 := by
        have : s.findIdx? (fun x => (x.toNat : Int) == c) = none := by
          rw [List.findIdx?_eq_none_iff]; intro x hx; simpa using hn x hx
        rw [findB, this]
      simp -implicitDefEqProofs [hf]
theorem s_l1Class (c : Int) : VF Tryd.prog G n_spec_l1Class [.p (.int .u8 c)] (.p (.int .i64 (clsOf c))) := by
  refine AC.go k_spec_l1Class ?_
  simp -implicitDefEqProofs [F_spec_l1Class]
  unfold clsOf
  by_cases h1 : 97 ≤ c
  · by_cases h2 : c ≤ 122
    · simp -implicitDefEqProofs [h1, h2]
    · have h3 : ¬ c ≤ 57 := by omega
      have h4 : ¬ c = 32 := by omega
      have h5 : ¬ c = 10 := by omega
      have h6 : 48 ≤ c := by omega
      simp -implicitDefEqProofs [h1, h2, h3, h6]
      refine (s_l30Find G signW c (by decide)).use ?_
      generalize findB signW c = w
      by_cases hf : 0 ≤ w
      · simp -implicitDefEqProofs [hf]
      · simp -implicitDefEqProofs [hf, h4, h5]
  · simp -implicitDefEqProofs [h1]
    by_cases h2 : 48 ≤ c
    · by_cases h3 : c ≤ 57
      · simp -implicitDefEqProofs [h2, h3]
      · have h4 : ¬ c = 32 := by omega
        have h5 : ¬ c = 10 := by omega
        simp -implicitDefEqProofs [h2, h3]
        refine (s_l30Find G signW c (by decide)).use ?_
        generalize findB signW c = w
        by_cases hf : 0 ≤ w
        · simp -implicitDefEqProofs [hf]
        · simp -implicitDefEqProofs [hf, h4, h5]
    · simp -implicitDefEqProofs [h2]
      refine (s_l30Find G signW c (by decide)).use ?_
      generalize findB signW c = w
      by_cases hf : 0 ≤ w
      · simp -implicitDefEqProofs [hf]
      · by_cases h4 : c = 32
        · simp -implicitDefEqProofs [hf, h4]
        · by_cases h5 : c = 10
          · simp -implicitDefEqProofs [hf, h4, h5]
          · simp -implicitDefEqProofs [hf, h4, h5]
theorem s_l1All (s : List UInt8) (hb : s.length ≤ 140737488355328) : VF Tryd.prog G n_spec_l1All [.p (.str s), .p (.int .i64 1)] (.p (.bool (s.all isLet && decide (0 < s.length)))) := by
  refine AC.go k_spec_l1All ?_
  simp -implicitDefEqProofs [F_spec_l1All]
  refine loopA (fun i : Nat => tsOf 21 [(0, .p (.str s)), (1, .p (.int .i64 1)), (5, .p (.int .i64 i))]) (fun _ => []) (fun i => i ≤ s.length ∧ ∀ x ∈ s.take i, isLet x = true) (fun i => s.length - i) 0 (by simp) ?_ ?_
  · exact wkt_nil rfl (by simp [below])
  · intro i ⟨hi, hn⟩
    simp -implicitDefEqProofs []
    refine cndb (fun h1 => ?_) (fun h1 => ?_)
    · simp at h1
      have hg := List.getElem?_eq_getElem h1
      simp -implicitDefEqProofs [hg]
      refine (s_l1Class G _).use ?_
      have hcl := cls_let s[i]
      by_cases he : isLet s[i] = true
      · have hc := hcl.2 he
        simp -implicitDefEqProofs [hc]
        refine ⟨i + 1, ⟨h1, fun p hp => ?_⟩, by omega, wkt_nil rfl ?_⟩
        · rw [take_succ' h1] at hp
          rcases List.mem_append.1 hp with hp | hp
          · exact hn p hp
          · rw [List.mem_singleton.1 hp]; exact he
        · simp [below, w1 (i := i) (by omega)]
      · have hc : ¬ clsOf (s[i].toNat : Int) = 1 := fun e => he (hcl.1 e)
        have ha : s.all isLet = false := List.all_eq_false.2 ⟨_, List.getElem_mem h1, by simpa using he⟩
        simp -implicitDefEqProofs [hc, ha]
    · simp at h1
      rw [List.take_of_length_le h1] at hn
      have ha : s.all isLet = true := List.all_eq_true.2 hn
      simp -implicitDefEqProofs [ha]
theorem s_KeyWords : VF Tryd.prog G n_spec_KeyWords [] (.p (strL keyW)) := by
  have key : AC Tryd.prog G n_spec_KeyWords [] [] fun x h => x = .ret (.sl 0 1 0 9) ∧ h = [.row 1 (keyW.map fun w => [.p (.str w)])] := by
    refine AC.go k_spec_KeyWords ?_
    simp -implicitDefEqProofs [F_spec_KeyWords, keyW]
  exact AC.freeze key (.one (view_row (ls := keyW.map fun w => [.str w]) (by simp) (by simp [keyW]) (by simp)) .nil)
theorem s_l1Key (s : List UInt8) : VF Tryd.prog G n_spec_l1Key [.p (.str s)] (.p (.bool (keyW.contains s))) := by
  refine AC.go k_spec_l1Key ?_
  have hsl : strL keyW = .lst 1 (keyW.map fun w => [.str w]) := rfl
  have hkl : keyW.length = 9 := rfl
  simp -implicitDefEqProofs [F_spec_l1Key]
  refine (s_KeyWords G).use ?_
  simp -implicitDefEqProofs []
  refine loopA (fun i : Nat => tsOf 18 [(0, .p (.str s)), (3, .p (strL keyW)), (4, .p (.int .i64 i))]) (fun _ => []) (fun i => i ≤ keyW.length ∧ ∀ w ∈ keyW.take i, w ≠ s) (fun i => keyW.length - i) 0 (by simp) ?_ ?_
  · exact wkt_nil rfl (by simp [below, strL])
  · intro i ⟨hi, hn⟩
    generalize keyW = L at *
    simp -implicitDefEqProofs [hsl]
    refine cndb (fun h1 => ?_) (fun h1 => ?_)
    · simp at h1
      have hg := List.getElem?_eq_getElem h1
      by_cases he : L[i] = s
      · have hm : s ∈ L := by rw [← he]; exact List.getElem_mem h1
        simp -implicitDefEqProofs [hg, he, hm]
      · simp -implicitDefEqProofs [hg, he]
        refine ⟨i + 1, ⟨h1, fun p hp => ?_⟩, by omega, wkt_nil rfl ?_⟩
        · rw [take_succ' h1] at hp
          rcases List.mem_append.1 hp with hp | hp
          · exact hn p hp
          · rw [List.mem_singleton.1 hp]; exact he
        · simp [below, w1 (i := i) (by omega)]
    · simp at h1
      rw [List.take_of_length_le h1] at hn
      have hm : ¬ s ∈ L := fun hm => hn s hm rfl
      simp -implicitDefEqProofs [hm]
theorem s_IsName (s : List UInt8) (hb : s.length ≤ 140737488355328) : VF Tryd.prog G n_spec_IsName [.p (.str s)] (.p (.bool (isName s))) := by
  refine AC.go k_spec_IsName ?_
  simp -implicitDefEqProofs [F_spec_IsName]
  refine (s_l1All G s hb).use ?_
  cases h1 : (s.all isLet && decide (0 < s.length)) with
  | false =>
    have hi : isName s = false := by rw [isName, h1]; rfl
    simp -implicitDefEqProofs [hi]
  | true =>
    by_cases h4 : s.length ≤ 4
    · have h4i : (s.length : Int) ≤ 4 := by omega
      have hi : isName s = !keyW.contains s := by rw [isName, h1]; simp [h4]
      simp -implicitDefEqProofs [h4i]
      refine (s_l1Key G s).use ?_
      rw [hi]
      simp -implicitDefEqProofs []
    · have h4i : ¬ (s.length : Int) ≤ 4 := by omega
      have hi : isName s = false := by rw [isName, h1]; simp [h4]
      simp -implicitDefEqProofs [h4i, hi]
end Go.Proofs.YtbbobekgnclkfaaDoor
namespace Go.Proofs.YtbbobekgnclkfaaDoor
open Go Go.Aw
set_option maxRecDepth 100000
set_option maxHeartbeats 4000000
variable (G : Glob)
def numL (l : List Int) : PV := .lst 1 (l.map fun n => [.int .i64 n])
structure Obj where (name : List UInt8) (params slots : Int) (code calls : List Int) (names : List (List UInt8))
deriving DecidableEq
def Obj.cs (o : Obj) : List PV := [.str o.name, .int .i64 o.params, .int .i64 o.slots, bysL o.code, numL o.calls, strL o.names]
theorem take_done' {α : Type} {xs ys : List α} {i : Nat} (h : xs.length = ys.length) (h1 : ys.length ≤ i) (he : xs.take i = ys.take i) : xs = ys := by
  rwa [List.take_of_length_le (by omega), List.take_of_length_le h1] at he
@[simp] theorem Obj.cs_len (o : Obj) : o.cs.length = 6 := rfl
@[simp] theorem Obj.cs_take (o : Obj) : List.take 6 (o.cs.map AV.p) = o.cs.map AV.p := rfl
theorem t_eqIntS (xs ys : List Int) (hb : xs.length ≤ 1048576) : VF Tryd.prog G n_laws_eqIntS [.p (numL xs), .p (numL ys)] (.p (.bool (decide (xs = ys)))) := by
  refine AC.go k_laws_eqIntS ?_
  simp -implicitDefEqProofs [F_laws_eqIntS, numL]
  refine cndb (fun h => ?_) (fun h => ?_)
  · have h' : xs ≠ ys := by rintro rfl; simp at h
    simp -implicitDefEqProofs [h']
  have h : xs.length = ys.length := by simp at h; omega
  simp -implicitDefEqProofs []
  refine loopA (fun i : Nat => tsOf 26 [(0, .p (numL xs)), (1, .p (numL ys)), (5, .p (.int .i64 i))]) (fun _ => []) (fun i => i ≤ xs.length ∧ xs.take i = ys.take i) (fun i => xs.length - i) 0 (by simp) ?_ ?_
  · exact wkt_nil rfl (by simp [below, numL, h])
  intro i ⟨hi, he⟩
  simp -implicitDefEqProofs [numL]
  refine cndb (fun h1 => ?_) (fun h1 => ?_)
  · simp at h1
    have h1 : i < ys.length := by omega
    have h1' : i < xs.length := by omega
    have hx := List.getElem?_eq_getElem h1'
    have hy := List.getElem?_eq_getElem h1
    by_cases h3 : xs[i] = ys[i]
    · simp -implicitDefEqProofs [hx, hy, h3]
      exact ⟨i + 1, ⟨h1', take_succ_eq h1' h1 h3 he⟩, by omega, wkt_nil rfl (by simp [below, numL, w1 (i := i) (by omega)])⟩
    · have h' : xs ≠ ys := by rintro rfl; exact h3 rfl
      simp -implicitDefEqProofs [hx, hy, h3, h']
  · simp at h1
    have h1 : ys.length ≤ i := by omega
    have h' : xs = ys := take_done' h h1 he
    simp -implicitDefEqProofs [h']
theorem t_eqStringS (xs ys : List (List UInt8)) (hb : xs.length ≤ 1048576) : VF Tryd.prog G n_laws_eqStringS [.p (strL xs), .p (strL ys)] (.p (.bool (decide (xs = ys)))) := by
  refine AC.go k_laws_eqStringS ?_
  simp -implicitDefEqProofs [F_laws_eqStringS, strL]
  refine cndb (fun h => ?_) (fun h => ?_)
  · have h' : xs ≠ ys := by rintro rfl; simp at h
    simp -implicitDefEqProofs [h']
  have h : xs.length = ys.length := by simp at h; omega
  simp -implicitDefEqProofs []
  refine loopA (fun i : Nat => tsOf 26 [(0, .p (strL xs)), (1, .p (strL ys)), (5, .p (.int .i64 i))]) (fun _ => []) (fun i => i ≤ xs.length ∧ xs.take i = ys.take i) (fun i => xs.length - i) 0 (by simp) ?_ ?_
  · exact wkt_nil rfl (by simp [below, strL, h])
  intro i ⟨hi, he⟩
  simp -implicitDefEqProofs [strL]
  refine cndb (fun h1 => ?_) (fun h1 => ?_)
  · simp at h1
    have h1 : i < ys.length := by omega
    have h1' : i < xs.length := by omega
    have hx := List.getElem?_eq_getElem h1'
    have hy := List.getElem?_eq_getElem h1
    by_cases h3 : xs[i] = ys[i]
    · simp -implicitDefEqProofs [hx, hy, h3]
      exact ⟨i + 1, ⟨h1', take_succ_eq h1' h1 h3 he⟩, by omega, wkt_nil rfl (by simp [below, strL, w1 (i := i) (by omega)])⟩
    · have h' : xs ≠ ys := by rintro rfl; exact h3 rfl
      simp -implicitDefEqProofs [hx, hy, h3, h']
  · simp at h1
    have h1 : ys.length ≤ i := by omega
    have h' : xs = ys := take_done' h h1 he
    simp -implicitDefEqProofs [h']
theorem t_eqObject (x y : Obj) (h3 : x.code.length ≤ 1048576) (h4 : x.calls.length ≤ 1048576) (h5 : x.names.length ≤ 1048576) : VF Tryd.prog G n_laws_eqObject [.agg (x.cs.map .p), .agg (y.cs.map .p)] (.p (.bool (decide (x = y)))) := by
  refine AC.go k_laws_eqObject ?_
  have hxy : (x = y) ↔ (x.name = y.name ∧ x.params = y.params ∧ x.slots = y.slots ∧ x.code = y.code ∧ x.calls = y.calls ∧ x.names = y.names) := by
    cases x; cases y; simp
  by_cases h1 : x.name = y.name
  case neg => simp -implicitDefEqProofs [F_laws_eqObject, Obj.cs, hxy, h1]
  by_cases h2 : x.params = y.params
  case neg => simp -implicitDefEqProofs [F_laws_eqObject, Obj.cs, hxy, h1, h2]
  by_cases h6 : x.slots = y.slots
  case neg => simp -implicitDefEqProofs [F_laws_eqObject, Obj.cs, hxy, h1, h2, h6]
  simp -implicitDefEqProofs [F_laws_eqObject, Obj.cs, h1, h2, h6]
  refine (t_eqByteS G _ _ h3).use ?_
  by_cases h7 : x.code = y.code
  case neg => simp -implicitDefEqProofs [hxy, h7]
  simp -implicitDefEqProofs [h7]
  refine (t_eqIntS G _ _ h4).use ?_
  by_cases h8 : x.calls = y.calls
  case neg => simp -implicitDefEqProofs [hxy, h8]
  simp -implicitDefEqProofs [h8]
  refine (t_eqStringS G _ _ h5).use ?_
  by_cases h9 : x.names = y.names
  case neg => simp -implicitDefEqProofs [hxy, h9]
  simp -implicitDefEqProofs [hxy, h1, h2, h6, h7, h8, h9]
end Go.Proofs.YtbbobekgnclkfaaDoor
namespace Go.Proofs.YtbbobekgnclkfaaDoor
open Go Go.Aw
set_option maxRecDepth 100000
set_option maxHeartbeats 4000000
theorem shiftL_pure0 (n : Nat) (l : List PV) : shiftL n (l.map .p) = l.map .p := by
  rw [shiftL_map, List.map_map]; rfl
theorem shiftO_bool (n : Nat) (L : List Bool) : shiftO n (boolO L) = boolO L := by
  simp only [shiftO, boolO, List.map_map]; rfl
theorem shiftO_ints (n : Nat) (L : List Nat) : shiftO n (intsO L) = intsO L := by
  simp only [shiftO, intsO, List.map_map]; rfl
theorem shiftO_bys (n : Nat) (L : List Int) : shiftO n (bysO L) = bysO L := by
  simp only [shiftO, bysO, List.map_map]; rfl
theorem shiftO_fn (n : Nat) (f : Mfn) : shiftO n (.row 3 [f.cs.map .p]) = .row 3 [f.cs.map .p] := by
  simp only [shiftO, List.map_cons, List.map_nil, shiftL_pure0]
theorem shiftO_lay (n : Nat) (f : Mfn) (a b c la lb lc : Nat) (z : Int) : shiftO n (.row 7 [layC f (.sl a 1 0 la) (.sl b 1 0 lb) (.sl c 1 0 lc) z]) = .row 7 [layC f (.sl (n + a) 1 0 la) (.sl (n + b) 1 0 lb) (.sl (n + c) 1 0 lc) z] := rfl
theorem nofnL_pure (l : List PV) : nofnL (l.map .p) = true := by
  induction l with
  | nil => rfl
  | cons a r ih => simp [nofnL, nofn, ih]
theorem nofnO_bool (L : List Bool) : nofnO (boolO L) = true := by simp [nofnO, boolO, nofnL, nofn]
theorem nofnO_ints (L : List Nat) : nofnO (intsO L) = true := by simp [nofnO, intsO, nofnL, nofn]
variable (G : Glob) (hG : G g_forms = some pvForms)
include hG
theorem i_layoutOf1 (f : Mfn) (hn : f.ins.length ≤ 1000000) (hlo : ∀ x ∈ f.ins, x.op = 14 → -9223372036854775808 ≤ x.n) (hc : codeOk f = true) : AC Tryd.prog G n_impl_layoutOf [.agg (f.cs.map .p)] [] fun r h =>
    r = .ret (.ptr 2 7 0 0) ∧ h = [.row 3 [f.cs.map .p], boolO (longs f.ins), .row 7 [layC f (.sl 1 1 0 f.ins.length) (.sl 3 1 0 f.ins.length) (.sl 4 1 0 f.ins.length) (plc f.ins (longs f.ins) f.ins.length)], intsO (szl f.ins (longs f.ins) f.ins.length), intsO (plcs f.ins (longs f.ins) f.ins.length)] :=
  (o_layoutOf0 G hG f hn hlo).mono fun r h e => by rw [if_pos hc] at e; exact e
theorem i_layoutOf2 (f : Mfn) (hn : f.ins.length ≤ 1000000) (hlo : ∀ x ∈ f.ins, x.op = 14 → -9223372036854775808 ≤ x.n) (hc : ¬ codeOk f = true) : VF Tryd.prog G n_impl_layoutOf [.agg (f.cs.map .p)] .nilp :=
  AC.freezeR ((o_layoutOf0 G hG f hn hlo).mono (R' := fun r _ => r = .ret .nilp) fun r h e => by rw [if_neg hc] at e; exact e) (fun t v h e => by cases e) fun v h e => by cases e; exact .keep (by simp [below]) .nil
def encHp (f : Mfn) (L : List Bool) : List AO := [.row 3 [f.cs.map .p], .dead, boolO L, .row 7 [layC f (.sl 2 1 0 f.ins.length) (.sl 4 1 0 f.ins.length) (.sl 5 1 0 f.ins.length) (plc f.ins L f.ins.length)], intsO (szl f.ins L f.ins.length), intsO (plcs f.ins L f.ins.length)]
theorem o_EncodeFn1 (f : Mfn) (hn : f.ins.length ≤ 1000000) (hlo : ∀ x ∈ f.ins, x.op = 14 → -9223372036854775808 ≤ x.n) (hc : codeOk f = true) : AC Tryd.prog G n_impl_EncodeFn [.agg (f.cs.map .p)] [] fun r h =>
    r = .ret (.tup [.sl 6 1 0 (encB f).length, .p (.bool true)]) ∧ ∃ h0, h = h0 ++ [bysO (encB f)] ∧ h0.length = 6 := by
  refine AC.go k_impl_EncodeFn ?_
  have hal : machOk (aloneF (mostS f.ins) f) = true := by simp [codeOk] at hc; exact hc.1
  have hf := fine_of_alone hal
  have hpos := pos_of_alone hal
  obtain ⟨hn2, hfi⟩ := id hf
  simp -implicitDefEqProofs [F_impl_EncodeFn]
  refine (AC.lift (i_layoutOf1 G hG f hn hlo hc) (by simp [belowL, below]) rfl ?_).mono ?_
  · simp only [List.all_cons, List.all_nil, nofnO_bool, nofnO_ints]; rfl
  rintro r h ⟨rfl, rfl⟩
  simp -implicitDefEqProofs [callR_nxt, shiftO_bool, shiftO_ints, shiftO_fn, shiftO_lay, shiftV, shiftL]
  simp -implicitDefEqProofs [Mfn.cs]
  have hL := longs_len f.ins
  simp only [encB]
  generalize longs f.ins = L at hL ⊢
  have hin : insL f.ins = .lst 5 (f.ins.map Mins.cs) := rfl
  refine loopA (fun i : Nat => tsOf 88 [(1, .ptr 0 3 0 0), (4, .ptr 3 7 0 0), (5, if i = 0 then .nils else .sl 6 1 0 (encT f.ins L i).length), (15, .p (insL f.ins)), (16, .p (.int .i64 f.ins.length)), (17, .p (.int .i64 i))]) (fun i => if i = 0 then encHp f L else encHp f L ++ [bysO (encT f.ins L i)])
    (fun i => i ≤ f.ins.length) (fun i => f.ins.length - i) 0 (by simp) ?_ ?_
  · rw [if_pos rfl, if_pos rfl]
    refine wkt_pick [0, 1, 2, 3, 4, 5] rfl (by decide) (hw_row rfl (by simp [belowL, Mfn.cs]) (hw_dead (by simp) (hw_ok rfl (by simp [-Bool.exists_bool, -Bool.forall_bool, okO, boolO]) (hw_rowr (by simp [layC, below]) (by simp [layC, ren, renL]) (hw_ok rfl (by simp [okO, intsO]) (hw_ok rfl (by simp [okO, intsO]) hw_nil)))))) ?_
    simp [below, ren, hin]
  · intro i hi
    simp -implicitDefEqProofs [hin]
    refine cndb (fun h1 => ?_) (fun h1 => ?_)
    · simp at h1
      have h2 : i < L.length := by omega
      obtain ⟨q1, q2, q3, q4⟩ := hfi _ (List.getElem_mem h1)
      have hg1 := List.getElem?_eq_getElem h1
      have hg2 := List.getElem?_eq_getElem h2
      have hbo : ∀ l, bysO l = .row 1 (l.map fun n => [.p (.int .u8 n)]) := fun _ => rfl
      have hbl : ∀ l, bysL l = .lst 1 (l.map fun n => [.int .u8 n]) := fun _ => rfl
      have hoo : boolO L = .row 1 (L.map fun b => [.p (.bool b)]) := rfl
      have hii : ∀ l, intsO l = .row 1 (l.map fun (n : Nat) => [.p (.int .i64 (n : Int))]) := fun _ => rfl
      have htk : ∀ l : List Int, List.take l.length (l.map fun n => [AV.p (.int .u8 n)]) = l.map fun n => [AV.p (.int .u8 n)] := fun l => List.take_of_length_le (by simp)
      have henc := encT_succ f.ins L i
      have hel := encT_len f.ins L i
      have he0 : encT f.ins L 0 = [] := by simp [encT]
      by_cases hj : jmp f.ins[i] = true
      rotate_left
      · have hjo : (f.ins[i].op == 20 || f.ins[i].op == 21) = false := by simpa [jmp] using hj
        have he : encI f.ins L i = plainB f.ins[i] := by simp [encI, hg1, hg2, hj]
        have hl1 := plainB_len f.ins[i]
        have hp0 : ¬ plainB f.ins[i] = [] := fun e => by rw [e] at hl1; simp at hl1
        rcases Nat.eq_zero_or_pos i with rfl | hz
        · simp -implicitDefEqProofs [hg1, encHp]
          simp -implicitDefEqProofs [Mins.cs]
          refine (i_jumpOp G _).use ?_
          simp -implicitDefEqProofs [hjo]
          refine (i_encoded G f.ins[0] q3 (by simpa using hj) q1 q2).use ?_
          simp -implicitDefEqProofs [hbl, hbo, hp0, htk]
          refine ⟨by omega, 1, h1, by omega, ?_⟩
          rw [if_neg (by omega), if_neg (by omega)]
          refine wkt_pick [0, 1, 2, 3, 4, 5, 7] rfl (by decide) (hw_row rfl (by simp [belowL, Mfn.cs]) (hw_dead (by simp) (hw_ok rfl (by simp [-Bool.exists_bool, -Bool.forall_bool, okO, boolO]) (hw_rowr (by simp [layC, below]) (by simp [layC, ren, renL]) (hw_ok rfl (by simp [okO, intsO]) (hw_ok rfl (by simp [okO, intsO]) (hw_row (by simp [henc, he, he0, Function.comp_def]) (by simp) hw_nil))))))) ?_
          simp [below, ren, henc, he, he0, IntKind.wrap, IntKind.bits, IntKind.signed]
        · have hz1 : ¬ i = 0 := by omega
          simp -implicitDefEqProofs [hz1, hg1, encHp]
          simp -implicitDefEqProofs [Mins.cs]
          refine (i_jumpOp G _).use ?_
          simp -implicitDefEqProofs [hjo]
          refine (i_encoded G f.ins[i] q3 (by simpa using hj) q1 q2).use ?_
          simp -implicitDefEqProofs [hbl, hbo, hp0, htk]
          refine ⟨by omega, i + 1, h1, by omega, ?_⟩
          rw [if_neg (by omega), if_neg (by omega)]
          refine wkt_pick [0, 1, 2, 3, 4, 5, 8] rfl (by decide) (hw_row rfl (by simp [belowL, Mfn.cs]) (hw_dead (by simp) (hw_ok rfl (by simp [-Bool.exists_bool, -Bool.forall_bool, okO, boolO]) (hw_rowr (by simp [layC, below]) (by simp [layC, ren, renL]) (hw_ok rfl (by simp [okO, intsO]) (hw_ok rfl (by simp [okO, intsO]) (hw_row (by simp [henc, he, Function.comp_def]) (by simp) hw_nil))))))) ?_
          simp [below, ren, henc, he, w1 (i := i) (by omega)]
      · have hjo : (f.ins[i].op == 20 || f.ins[i].op == 21) = true := by simpa [jmp] using hj
        have q5 := q4 hj
        simp [inR] at q5
        have hnl : f.ins[i].n.toNat < f.ins.length := by omega
        have hp1 := plcs_get (ins := f.ins) (L := L) hnl
        have hle2 := plc_le (ins := f.ins) (L := L) hL (i := f.ins[i].n.toNat)
        have hoff := fun (h : List AO) e0 e1 e2 => i_offset G (h := h) (id := 3) (sid := 4) (pid := 5) (f := f) (lv := .sl 2 1 0 f.ins.length) (sz := plc f.ins L f.ins.length) (L := L) (i := i) hL hf h1 hj e0 e1 e2
        generalize hp : plc f.ins L f.ins[i].n.toNat = p at hp1 hle2 hoff
        have htm : (p : Int).tmod 256 = (p : Int) % 256 := by rw [show (p : Int).tmod 256 = ((p % 256 : Nat) : Int) from rfl]; omega
        have htd : IntKind.i64.wrap ((p : Int) / 256) = (p : Int) / 256 := i64_small (by omega) (by omega)
        have w148 : IntKind.u8.wrap 148 = 148 := rfl
        have w149 : IntKind.u8.wrap 149 = 149 := rfl
        have w20 : IntKind.u8.wrap 20 = 20 := rfl
        have w21 : IntKind.u8.wrap 21 = 21 := rfl
        have hc2 : f.ins[i].op = 20 ∨ f.ins[i].op = 21 := by simpa [jmp] using hj
        cases hLi : L[i] with
        | true =>
          have he : encI f.ins L i = [u8 (f.ins[i].op + 128)] ++ (if f.ins[i].op = 21 then [u8 f.ins[i].a] else []) ++ [u8 (p % 256 : Nat), u8 (p / 256 : Nat)] := by simp [encI, hg1, hg2, hj, hLi, hp]
          clear hoff
          rcases hc2 with e | e
          · have hjt : (f.ins[i].op == 20 || f.ins[i].op == 21) = true := hjo
            rcases Nat.eq_zero_or_pos i with rfl | hz
            · simp -implicitDefEqProofs [hg1, encHp]
              simp -implicitDefEqProofs [Mins.cs]
              refine (i_jumpOp G _).use ?_
              simp -implicitDefEqProofs [hjo, layC, hbo, hoo, hii, h1, hg2, hLi, hL, hnl, hp1, e, w20, w21, w148, w149, htm, htd, htk]
              refine ⟨⟨by omega, by omega⟩, 1, h1, by omega, ?_⟩
              rw [if_neg (by omega), if_neg (by omega)]
              refine wkt_pick [0, 1, 2, 3, 4, 5, 10] rfl (by decide) (hw_row rfl (by simp [belowL, Mfn.cs]) (hw_dead (by simp) (hw_ok rfl (by simp [-Bool.exists_bool, -Bool.forall_bool, okO, boolO]) (hw_rowr (by simp [layC, below]) (by simp [layC, ren, renL]) (hw_ok rfl (by simp [okO, intsO]) (hw_ok rfl (by simp [okO, intsO]) (hw_row (by simp [w20, w21, w148, w149, henc, he, e, u8, htm, htd, List.take_of_length_le, he0]) (by simp) hw_nil))))))) ?_
              simp [below, ren, henc, he, e, he0, IntKind.wrap, IntKind.bits, IntKind.signed]
            · have hz1 : ¬ i = 0 := by omega
              simp -implicitDefEqProofs [hz1, hg1, encHp]
              simp -implicitDefEqProofs [Mins.cs]
              refine (i_jumpOp G _).use ?_
              simp -implicitDefEqProofs [hjo, layC, hbo, hoo, hii, h1, hg2, hLi, hL, hnl, hp1, e, w20, w21, w148, w149, htm, htd, htk]
              refine ⟨by omega, ⟨by omega, by omega⟩, by omega, i + 1, h1, by omega, ?_⟩
              rw [if_neg (by omega), if_neg (by omega)]
              refine wkt_pick [0, 1, 2, 3, 4, 5, 11] rfl (by decide) (hw_row rfl (by simp [belowL, Mfn.cs]) (hw_dead (by simp) (hw_ok rfl (by simp [-Bool.exists_bool, -Bool.forall_bool, okO, boolO]) (hw_rowr (by simp [layC, below]) (by simp [layC, ren, renL]) (hw_ok rfl (by simp [okO, intsO]) (hw_ok rfl (by simp [okO, intsO]) (hw_row (by simp [w20, w21, w148, w149, henc, he, e, u8, htm, htd, List.take_of_length_le]) (by simp) hw_nil))))))) ?_
              simp [below, ren, henc, he, e, w1 (i := i) (by omega)]
          · have hjt : (f.ins[i].op == 20 || f.ins[i].op == 21) = true := hjo
            rcases Nat.eq_zero_or_pos i with rfl | hz
            · simp -implicitDefEqProofs [hg1, encHp]
              simp -implicitDefEqProofs [Mins.cs]
              refine (i_jumpOp G _).use ?_
              simp -implicitDefEqProofs [hjo, layC, hbo, hoo, hii, h1, hg2, hLi, hL, hnl, hp1, e, w20, w21, w148, w149, htm, htd, htk]
              refine ⟨⟨by omega, by omega⟩, 1, h1, by omega, ?_⟩
              rw [if_neg (by omega), if_neg (by omega)]
              refine wkt_pick [0, 1, 2, 3, 4, 5, 12] rfl (by decide) (hw_row rfl (by simp [belowL, Mfn.cs]) (hw_dead (by simp) (hw_ok rfl (by simp [-Bool.exists_bool, -Bool.forall_bool, okO, boolO]) (hw_rowr (by simp [layC, below]) (by simp [layC, ren, renL]) (hw_ok rfl (by simp [okO, intsO]) (hw_ok rfl (by simp [okO, intsO]) (hw_row (by simp [w20, w21, w148, w149, henc, he, e, u8, htm, htd, List.take_of_length_le, he0]) (by simp) hw_nil))))))) ?_
              simp [below, ren, henc, he, e, he0, IntKind.wrap, IntKind.bits, IntKind.signed]
            · have hz1 : ¬ i = 0 := by omega
              simp -implicitDefEqProofs [hz1, hg1, encHp]
              simp -implicitDefEqProofs [Mins.cs]
              refine (i_jumpOp G _).use ?_
              simp -implicitDefEqProofs [hjo, layC, hbo, hoo, hii, h1, hg2, hLi, hL, hnl, hp1, e, w20, w21, w148, w149, htm, htd, htk]
              refine ⟨by omega, by omega, ⟨by omega, by omega⟩, by omega, i + 1, h1, by omega, ?_⟩
              rw [if_neg (by omega), if_neg (by omega)]
              refine wkt_pick [0, 1, 2, 3, 4, 5, 13] rfl (by decide) (hw_row rfl (by simp [belowL, Mfn.cs]) (hw_dead (by simp) (hw_ok rfl (by simp [-Bool.exists_bool, -Bool.forall_bool, okO, boolO]) (hw_rowr (by simp [layC, below]) (by simp [layC, ren, renL]) (hw_ok rfl (by simp [okO, intsO]) (hw_ok rfl (by simp [okO, intsO]) (hw_row (by simp [w20, w21, w148, w149, henc, he, e, u8, htm, htd, List.take_of_length_le]) (by simp) hw_nil))))))) ?_
              simp [below, ren, henc, he, e, w1 (i := i) (by omega)]
        | false =>
          have he : encI f.ins L i = [u8 f.ins[i].op] ++ (if f.ins[i].op = 21 then [u8 f.ins[i].a] else []) ++ [u8 ((p : Int) - plc f.ins L i - sizeB f.ins[i] false)] := by simp [encI, hg1, hg2, hj, hLi, hp]
          rw [hLi] at hoff
          rcases hc2 with e | e
          · have hjt : (f.ins[i].op == 20 || f.ins[i].op == 21) = true := hjo
            rcases Nat.eq_zero_or_pos i with rfl | hz
            · simp -implicitDefEqProofs [hg1, encHp]
              simp -implicitDefEqProofs [Mins.cs]
              refine (i_jumpOp G _).use ?_
              simp -implicitDefEqProofs [hjo, layC, hbo, hoo, hii, h1, hg2, hLi, hL, hnl, hp1, e, w20, w21, w148, w149, htm, htd, htk]
              refine ⟨⟨by omega, by omega⟩, ?_⟩
              refine AC.mono (hoff _ rfl rfl rfl) ?_
              rintro r h ⟨rfl, rfl⟩
              simp -implicitDefEqProofs [callR_nxt, hbo, htk]
              refine ⟨1, h1, by omega, ?_⟩
              rw [if_neg (by omega), if_neg (by omega)]
              refine wkt_pick [0, 1, 2, 3, 4, 5, 10] rfl (by decide) (hw_row rfl (by simp [belowL, Mfn.cs]) (hw_dead (by simp) (hw_ok rfl (by simp [-Bool.exists_bool, -Bool.forall_bool, okO, boolO]) (hw_rowr (by simp [layC, below]) (by simp [layC, ren, renL]) (hw_ok rfl (by simp [okO, intsO]) (hw_ok rfl (by simp [okO, intsO]) (hw_row (by simp [w20, w21, w148, w149, henc, he, e, u8, htm, htd, List.take_of_length_le, he0]) (by simp) hw_nil))))))) ?_
              simp [below, ren, henc, he, e, he0, IntKind.wrap, IntKind.bits, IntKind.signed]
            · have hz1 : ¬ i = 0 := by omega
              simp -implicitDefEqProofs [hz1, hg1, encHp]
              simp -implicitDefEqProofs [Mins.cs]
              refine (i_jumpOp G _).use ?_
              simp -implicitDefEqProofs [hjo, layC, hbo, hoo, hii, h1, hg2, hLi, hL, hnl, hp1, e, w20, w21, w148, w149, htm, htd, htk]
              refine ⟨by omega, ⟨by omega, by omega⟩, ?_⟩
              refine AC.mono (hoff _ rfl rfl rfl) ?_
              rintro r h ⟨rfl, rfl⟩
              simp -implicitDefEqProofs [callR_nxt, hbo, htk]
              refine ⟨by omega, i + 1, h1, by omega, ?_⟩
              rw [if_neg (by omega), if_neg (by omega)]
              refine wkt_pick [0, 1, 2, 3, 4, 5, 11] rfl (by decide) (hw_row rfl (by simp [belowL, Mfn.cs]) (hw_dead (by simp) (hw_ok rfl (by simp [-Bool.exists_bool, -Bool.forall_bool, okO, boolO]) (hw_rowr (by simp [layC, below]) (by simp [layC, ren, renL]) (hw_ok rfl (by simp [okO, intsO]) (hw_ok rfl (by simp [okO, intsO]) (hw_row (by simp [w20, w21, w148, w149, henc, he, e, u8, htm, htd, List.take_of_length_le]) (by simp) hw_nil))))))) ?_
              simp [below, ren, henc, he, e, w1 (i := i) (by omega)]
          · have hjt : (f.ins[i].op == 20 || f.ins[i].op == 21) = true := hjo
            rcases Nat.eq_zero_or_pos i with rfl | hz
            · simp -implicitDefEqProofs [hg1, encHp]
              simp -implicitDefEqProofs [Mins.cs]
              refine (i_jumpOp G _).use ?_
              simp -implicitDefEqProofs [hjo, layC, hbo, hoo, hii, h1, hg2, hLi, hL, hnl, hp1, e, w20, w21, w148, w149, htm, htd, htk]
              refine ⟨⟨by omega, by omega⟩, ?_⟩
              refine AC.mono (hoff _ rfl rfl rfl) ?_
              rintro r h ⟨rfl, rfl⟩
              simp -implicitDefEqProofs [callR_nxt, hbo, htk]
              refine ⟨1, h1, by omega, ?_⟩
              rw [if_neg (by omega), if_neg (by omega)]
              refine wkt_pick [0, 1, 2, 3, 4, 5, 12] rfl (by decide) (hw_row rfl (by simp [belowL, Mfn.cs]) (hw_dead (by simp) (hw_ok rfl (by simp [-Bool.exists_bool, -Bool.forall_bool, okO, boolO]) (hw_rowr (by simp [layC, below]) (by simp [layC, ren, renL]) (hw_ok rfl (by simp [okO, intsO]) (hw_ok rfl (by simp [okO, intsO]) (hw_row (by simp [w20, w21, w148, w149, henc, he, e, u8, htm, htd, List.take_of_length_le, he0]) (by simp) hw_nil))))))) ?_
              simp [below, ren, henc, he, e, he0, IntKind.wrap, IntKind.bits, IntKind.signed]
            · have hz1 : ¬ i = 0 := by omega
              simp -implicitDefEqProofs [hz1, hg1, encHp]
              simp -implicitDefEqProofs [Mins.cs]
              refine (i_jumpOp G _).use ?_
              simp -implicitDefEqProofs [hjo, layC, hbo, hoo, hii, h1, hg2, hLi, hL, hnl, hp1, e, w20, w21, w148, w149, htm, htd, htk]
              refine ⟨by omega, by omega, ⟨by omega, by omega⟩, ?_⟩
              refine AC.mono (hoff _ rfl rfl rfl) ?_
              rintro r h ⟨rfl, rfl⟩
              simp -implicitDefEqProofs [callR_nxt, hbo, htk]
              refine ⟨by omega, i + 1, h1, by omega, ?_⟩
              rw [if_neg (by omega), if_neg (by omega)]
              refine wkt_pick [0, 1, 2, 3, 4, 5, 13] rfl (by decide) (hw_row rfl (by simp [belowL, Mfn.cs]) (hw_dead (by simp) (hw_ok rfl (by simp [-Bool.exists_bool, -Bool.forall_bool, okO, boolO]) (hw_rowr (by simp [layC, below]) (by simp [layC, ren, renL]) (hw_ok rfl (by simp [okO, intsO]) (hw_ok rfl (by simp [okO, intsO]) (hw_row (by simp [w20, w21, w148, w149, henc, he, e, u8, htm, htd, List.take_of_length_le]) (by simp) hw_nil))))))) ?_
              simp [below, ren, henc, he, e, w1 (i := i) (by omega)]
    · simp at h1
      have hie : i = f.ins.length := by omega
      subst hie
      have hz1 : ¬ f.ins.length = 0 := by omega
      simp -implicitDefEqProofs [hz1]
      simp [encHp]
end Go.Proofs.YtbbobekgnclkfaaDoor
namespace Go.Proofs.YtbbobekgnclkfaaDoor
open Go Go.Aw
set_option maxRecDepth 100000
set_option maxHeartbeats 4000000
variable (G : Glob) (hG : G g_forms = some pvForms)
section
include hG
theorem i_EncodeFn1 (f : Mfn) (hn : f.ins.length ≤ 1000000) (hlo : ∀ x ∈ f.ins, x.op = 14 → -9223372036854775808 ≤ x.n) (hc : codeOk f = true) : AC Tryd.prog G n_impl_EncodeFn [.agg (f.cs.map .p)] [] fun r h =>
    r = .ret (.tup [.sl 0 1 0 (encB f).length, .p (.bool true)]) ∧ h = [bysO (encB f)] := by
  refine (o_EncodeFn1 G hG f hn hlo hc).gc (fun t v h ⟨e, _⟩ => by cases e) fun v h ⟨e1, h0, e2, e3⟩ => ?_
  cases e1; subst e2
  exact ⟨.tup [.sl 0 1 0 (encB f).length, .p (.bool true)], [bysO (encB f)], ⟨[6], by simp, by simp, by simp, by simp [below], by simp [ren, renL], hw_row (by rw [List.getElem?_append_right (by omega), e3]; rfl) (by simp [bysO]) hw_nil⟩, rfl, rfl⟩
end
variable (hM : G g_magic = some pvMagic)
include hG hM
end Go.Proofs.YtbbobekgnclkfaaDoor
namespace Go.Proofs.YtbbobekgnclkfaaDoor
open Go Go.Aw
set_option maxRecDepth 100000
set_option maxHeartbeats 4000000
def LX (b : AO) (mid os : List AO) : List AO := b :: (mid ++ os)
theorem LX_k (b : AO) (mid os : List AO) {m : Nat} (hm : mid.length = m) (k : Nat) : (LX b mid os)[m + 1 + k]? = os[k]? := by
  subst hm
  rw [LX, show mid.length + 1 + k = (mid.length + k) + 1 by omega, List.getElem?_cons_succ, List.getElem?_append_right (by omega)]
  congr 1; omega
theorem LX_app (b : AO) (mid os l : List AO) : LX b mid os ++ l = LX b mid (os ++ l) := by simp [LX]
theorem LX_set (b : AO) (mid os : List AO) {m : Nat} (hm : mid.length = m) (k : Nat) (o : AO) : (LX b mid os).set (m + 1 + k) o = LX b mid (os.set k o) := by
  subst hm
  rw [LX, show mid.length + 1 + k = (mid.length + k) + 1 by omega, List.set_cons_succ, List.set_append_right _ _ (by omega), LX]
  congr 3; omega
section
variable {b : AO} {mid : List AO} {n : Nat} (hm : mid.length = n + 1)
include hm
@[simp high] theorem LX_k0 (o : AO) (os : List AO) : (LX b mid (o :: os))[n + 2]? = some o := LX_k b mid _ hm 0
@[simp high] theorem LX_k1 (o p : AO) (os : List AO) : (LX b mid (o :: p :: os))[n + 3]? = some p := LX_k b mid _ hm 1
@[simp high] theorem LX_k2 (o p q : AO) (os : List AO) : (LX b mid (o :: p :: q :: os))[n + 4]? = some q := LX_k b mid _ hm 2
@[simp high] theorem LX_k3 (o p q r : AO) (os : List AO) : (LX b mid (o :: p :: q :: r :: os))[n + 5]? = some r := LX_k b mid _ hm 3
@[simp high] theorem LX_s0 (o o' : AO) (os : List AO) : (LX b mid (o :: os)).set (n + 2) o' = LX b mid (o' :: os) := LX_set b mid _ hm 0 o'
@[simp high] theorem LX_s1 (o p o' : AO) (os : List AO) : (LX b mid (o :: p :: os)).set (n + 3) o' = LX b mid (o :: o' :: os) := LX_set b mid _ hm 1 o'
end
@[simp high] theorem LX_00 (b : AO) (mid os : List AO) : (LX b mid os)[0]? = some b := rfl
attribute [simp] LX_app
theorem fnsR_shift (n : Nat) : ∀ (fs : List Mfn) (b : Nat), (fnsR b fs).map (shiftL n) = fnsR (n + b) fs
  | [], b => rfl
  | m :: r, b => by
    rw [fnsR, List.map_cons, fnsR_shift n r (b + 1), fnsR]; rfl
theorem shiftO_ins (n : Nat) (L : List Mins) : shiftO n (insO L) = insO L := by
  simp only [shiftO, insO, List.map_map]; rfl
theorem fnsO_shift (n : Nat) (fs : List Mfn) : (fnsO 0 fs).map (shiftO n) = fnsO n fs := by
  rw [fnsO, List.map_cons, fnsO, List.map_map]
  congr 1
  · rw [shiftO, fnsR_shift]
  · exact List.map_congr_left fun m _ => shiftO_ins n _
theorem machAt_view {h : List AO} {b : Nat} {fs : List Mfn} (ha : MachAt h b fs) : View h (.sl b 3 0 fs.length) (fnsL fs) := by
  have hv := View.sl b 3 0 _ (fs.map Mfn.cs) ha.row (by simp [fnsR_len]) (by intro e he; obtain ⟨m, _, rfl⟩ := List.mem_map.1 he; rfl) (fun i j e q e' a h1 h2 h3 h4 => by
    rw [Nat.zero_add] at h3
    rw [List.getElem?_map, Option.map_eq_some_iff] at h1
    obtain ⟨m, hm, rfl⟩ := h1
    rw [fnsR_get, hm] at h3
    cases h3
    match j, h2, h4 with
    | 0, h2, h4 => cases h2; cases h4; exact .p _
    | 1, h2, h4 => cases h2; cases h4; exact .p _
    | 2, h2, h4 =>
      cases h2; cases h4
      have hi := ha.ins i m hm
      exact view_row (ls := m.ins.map Mins.cs) (by rw [hi, insO, List.map_map]; rfl) (by simp) (fun l hl => by obtain ⟨x, _, rfl⟩ := List.mem_map.1 hl; rfl))
  simpa [fnsL] using hv
variable (G : Glob)
theorem t_markByteS_nil (k : Int) : VF Tryd.prog G n_laws_markByteS [.nils, .p (.int .i64 k)] (.p (.int .i64 k)) := by
  refine AC.go k_laws_markByteS ?_
  simp -implicitDefEqProofs [F_laws_markByteS]
  refine loopA (fun _ : Unit => tsOf 20 [(0, .nils), (1, .p (.int .i64 k)), (5, .p (.int .i64 0))]) (fun _ => []) (fun _ => True) (fun _ => 0) () trivial (wkt_nil rfl (by simp)) ?_
  intro _ _
  simp -implicitDefEqProofs []
end Go.Proofs.YtbbobekgnclkfaaDoor
namespace Go.Proofs.YtbbobekgnclkfaaDoor
open Go Go.Aw
set_option maxRecDepth 100000
set_option maxHeartbeats 4000000
def mk1 (k i : Nat) : Mins := ⟨(k : Int) + 5 * i, (k : Int) + 5 * i + 1, (k : Int) + 5 * i + 1 + 1, (k : Int) + 5 * i + 1 + 1 + 1, (k : Int) + 5 * i + 1 + 1 + 1 + 1⟩
def mkI (k n : Nat) : List Mins := (List.range n).map (mk1 k)
theorem mkI_len (k n : Nat) : (mkI k n).length = n := by simp [mkI]
def mkAt (k : Nat) (xs : List Mins) (i : Nat) : List Mins := mkI k i ++ xs.drop i
theorem mkAt_len {k : Nat} {xs : List Mins} {i : Nat} (h : i ≤ xs.length) : (mkAt k xs i).length = xs.length := by simp [mkAt, mkI_len]; omega
theorem mkAt_get {k : Nat} {xs : List Mins} {i : Nat} (h : i < xs.length) : (mkAt k xs i)[i]? = some xs[i] := by
  rw [mkAt, List.getElem?_append_right (by rw [mkI_len]; omega), mkI_len, Nat.sub_self, List.drop_eq_getElem_cons h]; rfl
theorem mkAt_set {k : Nat} {xs : List Mins} {i : Nat} (h : i < xs.length) : (mkAt k xs i).set i (mk1 k i) = mkAt k xs (i + 1) := by
  rw [mkAt, List.set_append_right _ _ (by rw [mkI_len]; omega), mkI_len, Nat.sub_self, List.drop_eq_getElem_cons h, List.set_cons_zero, mkAt, mkI, mkI, List.range_succ, List.map_append]
  simp
theorem mkAt_all (k : Nat) (xs : List Mins) : mkAt k xs xs.length = mkI k xs.length := by simp [mkAt]
theorem mkAt_zero (k : Nat) (xs : List Mins) : mkAt k xs 0 = xs := by simp [mkAt, mkI]
/-- A machine whose first functions are marked. -/
def markAt (k : Nat) (fs : List Mfn) (i : Nat) : List Mfn := fs.mapIdx fun j f => if j < i then ⟨(k : Int) + 2 * j + 5 * szT fs j, (k : Int) + 2 * j + 5 * szT fs j + 1, mkI (k + 2 * j + 5 * szT fs j + 2) f.ins.length⟩ else f
theorem markAt_len (k : Nat) (fs : List Mfn) (i : Nat) : (markAt k fs i).length = fs.length := by simp [markAt]
theorem markAt_zero (k : Nat) (fs : List Mfn) : markAt k fs 0 = fs := by
  refine List.ext_getElem? fun j => ?_
  simp [markAt, List.getElem?_mapIdx]
theorem markAt_get (k : Nat) {fs : List Mfn} {i : Nat} (h : i < fs.length) : (markAt k fs i)[i]? = some fs[i] := by
  simp [markAt, List.getElem?_mapIdx, h]
theorem markAt_set {k : Nat} {fs : List Mfn} {i : Nat} (h : i < fs.length) : (markAt k fs i).set i ⟨(k : Int) + 2 * i + 5 * szT fs i, (k : Int) + 2 * i + 5 * szT fs i + 1, mkI (k + 2 * i + 5 * szT fs i + 2) fs[i].ins.length⟩ = markAt k fs (i + 1) := by
  refine List.ext_getElem? fun j => ?_
  rw [List.getElem?_set]
  by_cases e : i = j
  · subst e
    rw [if_pos rfl, if_pos (by rw [markAt_len]; exact h)]
    simp [markAt, List.getElem?_mapIdx, h]
  · rw [if_neg e]
    simp only [markAt, List.getElem?_mapIdx]
    cases fs[j]? with
    | none => rfl
    | some f =>
      simp only [Option.map_some]
      by_cases hj : j < i
      · rw [if_pos hj, if_pos (by omega)]
      · rw [if_neg hj, if_neg (by omega)]
variable (G : Glob)
theorem x_markMinsS {h : List AO} {id : Nat} {xs : List Mins} {k : Nat} (hr : h[id]? = some (insO xs)) (hk : k + 5 * xs.length ≤ 1152921504606846976) :
    AC Tryd.prog G n_laws_markMinsS [.sl id 5 0 xs.length, .p (.int .i64 k)] h fun x h' => x = .ret (.p (.int .i64 ((k + 5 * xs.length : Nat) : Int))) ∧ h' = h.set id (insO (mkI k xs.length)) := by
  refine AC.enterB k_laws_markMinsS fun hb => AC.enter k_laws_markMinsS ?_
  have hid : id < h.length := (List.getElem?_eq_some_iff.1 hr).1
  have hbs : ∀ ys : List Mins, HB (h.set id (insO ys)) := fun ys => hb.set_row fun e he => by
    obtain ⟨x, _, rfl⟩ := List.mem_map.1 he
    simp [Mins.av, Mins.cs]
  simp -implicitDefEqProofs [F_laws_markMinsS, List.replicate]
  refine loopA (fun a : Nat × List Mins => slots 48 [(0, .sl id 5 0 xs.length), (1, .p (.int .i64 ((k + 5 * a.1 : Nat) : Int))), (5, .p (.int .i64 a.1))]) (fun a => h.set id (insO a.2)) (fun a => a.1 ≤ xs.length ∧ a.2 = mkAt k xs a.1) (fun a => xs.length - a.1) (0, xs) (by simp [mkAt_zero]) ?_ ?_
  · have e : h.set id (insO xs) = h := by
      obtain ⟨hi, e⟩ := List.getElem?_eq_some_iff.1 hr
      rw [← e]; simp
    rw [e]
    exact wk_refl (by simp) hb (by simp -implicitDefEqProofs [slots, List.replicate, below, hid])
  · rintro ⟨i, ys⟩ ⟨hi, hy⟩
    simp only at hi hy
    have hyl : ys.length = xs.length := by rw [hy]; exact mkAt_len hi
    simp -implicitDefEqProofs [slots, List.replicate]
    refine cnd (fun h1 => ?_) (fun h1 => ?_)
    · simp at h1
      have h2 : i < ys.length := by omega
      have hg : (List.map Mins.av ys)[i]? = some ys[i].av := by rw [List.getElem?_map, List.getElem?_eq_getElem h2]; rfl
      have hw1 : IntKind.i64.wrap ((k : Int) + 5 * (i : Int) + 1) = (k : Int) + 5 * (i : Int) + 1 := i64_small (by omega) (by omega)
      have hw2 : IntKind.i64.wrap ((k : Int) + 5 * (i : Int) + 1 + 1) = (k : Int) + 5 * (i : Int) + 1 + 1 := i64_small (by omega) (by omega)
      have hw3 : IntKind.i64.wrap ((k : Int) + 5 * (i : Int) + 1 + 1 + 1) = (k : Int) + 5 * (i : Int) + 1 + 1 + 1 := i64_small (by omega) (by omega)
      have hw4 : IntKind.i64.wrap ((k : Int) + 5 * (i : Int) + 1 + 1 + 1 + 1) = (k : Int) + 5 * (i : Int) + 1 + 1 + 1 + 1 := i64_small (by omega) (by omega)
      have hw5 : IntKind.i64.wrap ((k : Int) + 5 * (i : Int) + 1 + 1 + 1 + 1 + 1) = (k : Int) + 5 * (i : Int) + 1 + 1 + 1 + 1 + 1 := i64_small (by omega) (by omega)
      simp -implicitDefEqProofs [insO, hid, h1, hg, Mins.av_eq, h2, hw1, hw2, hw3, hw4, hw5]
      obtain ⟨m, hm⟩ : ∃ m : Mins, m = mk1 k i := ⟨_, rfl⟩
      have hm' : m = ⟨(k : Int) + 5 * i, (k : Int) + 5 * i + 1, (k : Int) + 5 * i + 1 + 1, (k : Int) + 5 * i + 1 + 1 + 1, (k : Int) + 5 * i + 1 + 1 + 1 + 1⟩ := hm
      refine ⟨i + 1, ys.set i m, ⟨h1, by rw [hy, hm]; exact mkAt_set h1⟩, by omega, ?_⟩
      have e : ((List.map Mins.av ys).set i m.av) = List.map Mins.av (ys.set i m) := by rw [List.map_set]
      rw [Mins.av_eq, hm'] at e
      rw [e, ← hm']
      refine wk_refl (by simp) (hbs _) ?_
      simp [w1 (i := i) (by omega), below, hid]
      omega
    · simp at h1
      have : i = xs.length := by omega
      subst this
      simp
      rw [hy, mkAt_all]
theorem x_markMfnS {h : List AO} {b : Nat} {fs : List Mfn} {k : Nat} (ha : MachAt h b fs) (hk : k + 5 * szF fs ≤ 1152921504606846976) :
    AC Tryd.prog G n_laws_markMfnS [.sl b 3 0 fs.length, .p (.int .i64 k)] h fun x h' => x = .ret (.p (.int .i64 ((k + 2 * fs.length + 5 * szT fs fs.length : Nat) : Int))) ∧ h'.length = h.length ∧ MachAt h' b (markAt k fs fs.length) ∧ ∀ j, (j < b ∨ b + fs.length + 1 ≤ j) → h'[j]? = h[j]? := by
  refine AC.enterB k_laws_markMfnS fun hb => AC.enter k_laws_markMfnS ?_
  have hid : b < h.length := (List.getElem?_eq_some_iff.1 ha.row).1
  have hsz : szF fs = fs.length + (fs.map (·.ins.length)).sum := rfl
  simp -implicitDefEqProofs [F_laws_markMfnS, List.replicate]
  refine loopA (fun a : Nat × List Mfn × List AO => slots 34 [(0, .sl b 3 0 fs.length), (1, .p (.int .i64 ((k + 2 * a.1 + 5 * szT fs a.1 : Nat) : Int))), (5, .p (.int .i64 a.1))]) (fun a => a.2.2)
    (fun a => a.1 ≤ fs.length ∧ a.2.1 = markAt k fs a.1 ∧ MachAt a.2.2 b a.2.1 ∧ HB a.2.2 ∧ a.2.2.length = h.length ∧ ∀ j, (j < b ∨ b + fs.length + 1 ≤ j) → a.2.2[j]? = h[j]?) (fun a => fs.length - a.1) (0, fs, h) (by simp [markAt_zero, ha, hb]) ?_ ?_
  · exact wk_refl (by simp) hb (by simp -implicitDefEqProofs [slots, List.replicate, below, hid])
  · rintro ⟨i, gs, h1⟩ ⟨hi, hlk, hat, hb1, hl1, hsame⟩
    simp only at hi hlk hat hb1 hl1 hsame
    have hgsl : gs.length = fs.length := by rw [hlk]; exact markAt_len _ _ _
    simp -implicitDefEqProofs [slots, List.replicate]
    refine cnd (fun hlt => ?_) (fun hlt => ?_)
    · simp at hlt
      have hgl : i < gs.length := by rw [hgsl]; exact hlt
      have hgi := List.getElem?_eq_getElem hgl
      have hgf : gs[i] = fs[i] := by have := markAt_get k (fs := fs) hlt; rw [← hlk, hgi] at this; exact Option.some.inj this
      have hlen : gs[i].ins.length = fs[i].ins.length := by rw [hgf]
      have hx := szT_succ hlt
      have hx2 := szT_le (fs := fs) (i := i + 1)
      have hid1 : b < h1.length := by omega
      have hg : (fnsR (b + 1) gs)[i]? = some [.p (.int .i64 gs[i].params), .p (.int .i64 gs[i].slots), .sl (b + 1 + i) 5 0 gs[i].ins.length] := by rw [fnsR_get, hgi]; rfl
      have hw1 : IntKind.i64.wrap ((k : Int) + 2 * (i : Int) + 5 * (szT fs i : Int) + 1) = (k : Int) + 2 * (i : Int) + 5 * (szT fs i : Int) + 1 := i64_small (by omega) (by omega)
      have hw2 : IntKind.i64.wrap ((k : Int) + 2 * (i : Int) + 5 * (szT fs i : Int) + 1 + 1) = ((k + 2 * i + 5 * szT fs i + 2 : Nat) : Int) := by rw [i64_small (by omega) (by omega)]; omega
      have hfl : i < (fnsR (b + 1) gs).length := by rw [fnsR_len]; exact hgl
      have hself : ∀ o, (h1.set b o)[b]? = some o := fun o => List.getElem?_set_self hid1
      have hself2 : ∀ e, ((fnsR (b + 1) gs).set i e)[i]? = some e := fun e => List.getElem?_set_self hfl
      simp -implicitDefEqProofs [hat.row, hlt, hg, hself, hself2, hw1, hw2]
      obtain ⟨m1, hm1⟩ : ∃ m : Mfn, m = ⟨(k : Int) + 2 * i + 5 * szT fs i, (k : Int) + 2 * i + 5 * szT fs i + 1, gs[i].ins⟩ := ⟨_, rfl⟩
      have hset : (fnsR (b + 1) gs).set i [.p (.int .i64 ((k : Int) + 2 * i + 5 * szT fs i)), .p (.int .i64 ((k : Int) + 2 * i + 5 * szT fs i + 1)), .sl (b + 1 + i) 5 0 gs[i].ins.length] = fnsR (b + 1) (gs.set i m1) := by
        rw [← fnsR_set hgi (m' := m1) (by rw [hm1]), hm1]
      rw [hset]
      have hins : (h1.set b (.row 3 (fnsR (b + 1) (gs.set i m1))))[b + 1 + i]? = some (insO gs[i].ins) := by
        rw [List.getElem?_set_ne (by omega)]; exact hat.ins i _ hgi
      have hcall := x_markMinsS G (h := h1.set b (.row 3 (fnsR (b + 1) (gs.set i m1)))) (k := k + 2 * i + 5 * szT fs i + 2) hins (by omega)
      refine hcall.mono ?_
      rintro x h2 ⟨rfl, rfl⟩
      obtain ⟨ys, hyd⟩ : ∃ ys, ys = mkI (k + 2 * i + 5 * szT fs i + 2) gs[i].ins.length := ⟨_, rfl⟩
      have hys : ys.length = gs[i].ins.length := by rw [hyd]; exact mkI_len _ _
      rw [← hyd]
      simp -implicitDefEqProofs []
      obtain ⟨m2, hm2⟩ : ∃ m : Mfn, m = ⟨m1.params, m1.slots, ys⟩ := ⟨_, rfl⟩
      have hm2l : m2.ins.length = gs[i].ins.length := by rw [hm2]; exact hys
      have hb2 : HB ((h1.set b (.row 3 (fnsR (b + 1) (gs.set i m1)))).set (b + 1 + i) (insO ys)) := by
        refine HB.set_row (HB.set_row hb1 fun e he => ?_) fun e he => ?_
        · obtain ⟨q, m, hq, rfl⟩ := fnsR_mem he
          have hql := (List.getElem?_eq_some_iff.1 hq).1
          simp only [List.length_set] at hql
          have := (List.getElem?_eq_some_iff.1 (hat.ins q _ (List.getElem?_eq_getElem hql))).1
          simp [Mfn.ov, below]; omega
        · obtain ⟨x, _, rfl⟩ := List.mem_map.1 he
          simp [Mins.av, Mins.cs]
      refine ⟨i + 1, gs.set i m2, (h1.set b (.row 3 (fnsR (b + 1) (gs.set i m1)))).set (b + 1 + i) (insO ys), ⟨hlt, ?_, ⟨?_, fun q m hq => ?_⟩, hb2, by simp [hl1], fun j hj => ?_⟩, by omega, ?_⟩
      · have hm2' : m2 = ⟨(k : Int) + 2 * i + 5 * szT fs i, (k : Int) + 2 * i + 5 * szT fs i + 1, mkI (k + 2 * i + 5 * szT fs i + 2) fs[i].ins.length⟩ := by rw [hm2, hm1, hyd, hlen]
        rw [hlk, hm2']
        exact markAt_set hlt
      · rw [List.getElem?_set_ne (by omega), List.getElem?_set_self hid1]
        congr 2
        rw [← fnsR_set hgi (m' := m1) (by rw [hm1]), ← fnsR_set hgi (m' := m2) hm2l, hm2]
      · have hlen2 : b + 1 + i < h1.length := (List.getElem?_eq_some_iff.1 (hat.ins i _ hgi)).1
        by_cases hqi : q = i
        · subst hqi
          rw [List.getElem?_set_self hgl] at hq
          cases hq
          rw [List.getElem?_set_self (by simpa using hlen2), hm2]
        · rw [List.getElem?_set_ne (Ne.symm hqi)] at hq
          rw [List.getElem?_set_ne (by omega), List.getElem?_set_ne (by omega)]
          exact hat.ins q m hq
      · rw [List.getElem?_set_ne (by omega), List.getElem?_set_ne (by omega)]
        exact hsame j hj
      · refine wk_refl (by simp [hl1]) hb2 ?_
        simp [w1 (i := i) (by omega), below, hid1, hx]
        omega
    · simp at hlt
      have hie : i = fs.length := by omega
      subst hie
      rw [hlk] at hat
      simp -implicitDefEqProofs []
      exact ⟨hl1, hat, hsame⟩
theorem x_markMach {h : List AO} {b : Nat} {fs : List Mfn} {k : Nat} (ha : MachAt h b fs) (hk : k + 5 * szF fs ≤ 1152921504606846976) :
    AC Tryd.prog G n_laws_markMach [.agg [.sl b 3 0 fs.length], .p (.int .i64 k)] h fun x h' => x = .ret (.p (.int .i64 ((k + 2 * fs.length + 5 * szT fs fs.length : Nat) : Int))) ∧ h'.length = h.length + 1 ∧ MachAt h' b (markAt k fs fs.length) ∧ ∀ j, j < h.length → (j < b ∨ b + fs.length + 1 ≤ j) → h'[j]? = h[j]? := by
  have hbl : b < h.length := (List.getElem?_eq_some_iff.1 ha.row).1
  refine AC.enter k_laws_markMach ?_
  simp -implicitDefEqProofs [F_laws_markMach, List.replicate]
  have ha' : MachAt (h ++ [.row 1 [[.sl b 3 0 fs.length]]]) b fs := by
    refine ⟨by rw [List.getElem?_append_left hbl]; exact ha.row, fun q m hq => ?_⟩
    have := ha.ins q m hq
    rw [List.getElem?_append_left (List.getElem?_eq_some_iff.1 this).1]; exact this
  refine (x_markMfnS G ha' hk).mono ?_
  rintro x h2 ⟨rfl, hl, h3, h4⟩
  simp -implicitDefEqProofs []
  refine ⟨by simpa using hl, h3, fun j hj hjj => ?_⟩
  rw [h4 j hjj, List.getElem?_append_left hj]
end Go.Proofs.YtbbobekgnclkfaaDoor
namespace Go.Proofs.YtbbobekgnclkfaaDoor
open Go Go.Aw
set_option maxRecDepth 100000
set_option maxHeartbeats 4000000
variable (G : Glob)
def wrdT (xs : List (List UInt8)) (i : Nat) : Nat := ((xs.take i).map List.length).sum
theorem wrdT_succ {xs : List (List UInt8)} {i : Nat} (h : i < xs.length) : wrdT xs (i + 1) = wrdT xs i + xs[i].length := by
  show ((xs.take (i + 1)).map List.length).sum = ((xs.take i).map List.length).sum + xs[i].length
  rw [take_succ' h, List.map_append, List.sum_append]
  rfl
theorem wrdT_all {xs : List (List UInt8)} {i : Nat} (h : xs.length ≤ i) : wrdT xs i = (xs.map List.length).sum := by rw [wrdT, List.take_of_length_le h]
theorem wrdT_le {xs : List (List UInt8)} {i : Nat} : wrdT xs i ≤ (xs.map List.length).sum := by
  conv => rhs; rw [← List.take_append_drop i xs, List.map_append, List.sum_append]
  simp [wrdT]
def szW (xs : List (List UInt8)) : Nat := xs.length + (xs.map List.length).sum
theorem t_szStringS (xs : List (List UInt8)) (left : Nat) (hl : left ≤ 1048576) (hb : xs.length ≤ 9223372036854775807) (hs : ∀ x ∈ xs, x.length ≤ 9223372036854775807) : VF Tryd.prog G n_laws_szStringS [.p (strL xs), .p (.int .i64 left)] (.p (.int .i64 (if szW xs ≤ left then ((left - szW xs : Nat) : Int) else -1))) := by
  refine AC.go k_laws_szStringS ?_
  have hw : IntKind.i64.wrap ((left : Int) - xs.length) = (left : Int) - xs.length := i64_small (by omega) (by omega)
  have hsz : szW xs = xs.length + (xs.map List.length).sum := rfl
  by_cases h : xs.length ≤ left
  case neg =>
    have h1 : (left : Int) - xs.length < 0 := by omega
    have h2 : ¬ szW xs ≤ left := by omega
    simp -implicitDefEqProofs [F_laws_szStringS, strL, hw, h1, h2]
  have h1 : ¬ (left : Int) - xs.length < 0 := by omega
  simp -implicitDefEqProofs [F_laws_szStringS, strL, hw, h1]
  refine loopA (fun i : Nat => tsOf 28 [(0, .p (strL xs)), (1, .p (.int .i64 ((left - xs.length - wrdT xs i : Nat) : Int))), (5, .p (.int .i64 i))]) (fun _ => []) (fun i => i ≤ xs.length ∧ xs.length + wrdT xs i ≤ left) (fun i => xs.length - i) 0 (by simp [wrdT]; omega) ?_ ?_
  · refine wkt_nil rfl ?_
    simp [below, strL, wrdT]
    omega
  · intro i ⟨hi, hx⟩
    simp -implicitDefEqProofs [strL]
    refine cndb (fun h1 => ?_) (fun h1 => ?_)
    · simp at h1
      have hg := List.getElem?_eq_getElem h1
      have hle := hs _ (List.getElem_mem h1)
      have hsu := wrdT_succ h1
      have hsl := wrdT_le (xs := xs) (i := i + 1)
      have hw2 : IntKind.i64.wrap (((left - xs.length - wrdT xs i : Nat) : Int) - (xs[i].length : Int)) = ((left - xs.length - wrdT xs i : Nat) : Int) - (xs[i].length : Int) := i64_small (by omega) (by omega)
      by_cases h2 : xs.length + wrdT xs (i + 1) ≤ left
      · have h3 : ¬ ((left - xs.length - wrdT xs i : Nat) : Int) - (xs[i].length : Int) < 0 := by omega
        have h4 : ((left - xs.length - wrdT xs i : Nat) : Int) - (xs[i].length : Int) = ((left - xs.length - wrdT xs (i + 1) : Nat) : Int) := by omega
        rw [h4] at h3
        replace hw2 := hw2.trans h4
        clear hle hsu hsl
        simp -implicitDefEqProofs [hg, hw2, h3]
        refine ⟨i + 1, ⟨h1, h2⟩, by omega, wkt_nil rfl (by simp [below, strL, w1 (i := i) (by omega)])⟩
      · have h3 : ((left - xs.length - wrdT xs i : Nat) : Int) - (xs[i].length : Int) < 0 := by omega
        have h5 : ¬ szW xs ≤ left := by omega
        clear hle hsu hsl
        simp -implicitDefEqProofs [hg, hw2, h3, h5]
    · simp at h1
      have hta := wrdT_all (xs := xs) h1
      have h5 : szW xs ≤ left := by omega
      have h6 : ((left - xs.length - wrdT xs i : Nat) : Int) = ((left - szW xs : Nat) : Int) := by omega
      simp -implicitDefEqProofs [h5, h6]
def numO (l : List Int) : AO := .row 1 (l.map fun n => [.p (.int .i64 n)])
theorem numO_view {l : List Int} {id : Nat} {h : List AO} (e : h[id]? = some (numO l)) : View h (.sl id 1 0 l.length) (numL l) := by
  have := view_row (h := h) (id := id) (sz := 1) (n := l.length) (ls := l.map fun n => [.int .i64 n]) (by rw [e, numO]; simp) (by simp) (fun x hx => by obtain ⟨b, _, rfl⟩ := List.mem_map.1 hx; rfl)
  exact this
def strO (l : List (List UInt8)) : AO := .row 1 (l.map fun n => [.p (.str n)])
theorem strO_view {l : List (List UInt8)} {id : Nat} {h : List AO} (e : h[id]? = some (strO l)) : View h (.sl id 1 0 l.length) (strL l) := by
  have := view_row (h := h) (id := id) (sz := 1) (n := l.length) (ls := l.map fun n => [.str n]) (by rw [e, strO]; simp) (by simp) (fun x hx => by obtain ⟨b, _, rfl⟩ := List.mem_map.1 hx; rfl)
  exact this
def strAt (l : List (List UInt8)) (i : Nat) : List (List UInt8) := l.take i ++ List.replicate (l.length - i) []
theorem strAt_set {l : List (List UInt8)} {i : Nat} (h : i < l.length) : (strAt l i).set i l[i] = strAt l (i + 1) := by
  have hl : (l.take i).length = i := by simp; omega
  have e : l.length - i = (l.length - (i + 1)) + 1 := by omega
  show (l.take i ++ List.replicate (l.length - i) []).set i l[i] = l.take (i + 1) ++ List.replicate (l.length - (i + 1)) []
  rw [List.set_append_right _ _ (by omega), hl, Nat.sub_self, e, List.replicate_succ, List.set_cons_zero, take_succ' h, List.append_assoc]
  rfl
theorem strAt_get {l : List (List UInt8)} {i : Nat} (h : i < l.length) : (strAt l i)[i]? = some [] := by
  have hl : (l.take i).length = i := by simp; omega
  rw [strAt, List.getElem?_append_right (by omega), hl, Nat.sub_self, List.getElem?_replicate, if_pos (by omega)]
theorem strAt_len {l : List (List UInt8)} {i : Nat} (h : i ≤ l.length) : (strAt l i).length = l.length := by simp [strAt]; omega
theorem o_toStringS (l : List (List UInt8)) (hb : l.length ≤ 1048576) : AC Tryd.prog G n_laws_toStringS [.p (strL l)] [] fun x h => x = .ret (.sl 0 1 0 l.length) ∧ h = [strO l] := by
  refine AC.go k_laws_toStringS ?_
  have hbl : strL l = .lst 1 (l.map fun n => [.str n]) := rfl
  simp -implicitDefEqProofs [F_laws_toStringS, hbl]
  refine ⟨by omega, ?_⟩
  refine loopA (fun i : Nat => tsOf 22 [(0, .p (strL l)), (3, .sl 0 1 0 l.length), (4, .p (.int .i64 i))]) (fun i => [strO (strAt l i)]) (fun i => i ≤ l.length) (fun i => l.length - i) 0 (by simp) ?_ ?_
  · refine wkt_pick [0] rfl (by simp) (hw_row (by simp [strAt]) (by simp) hw_nil) ?_
    simp [below, ren, strL]
  · intro i hi
    have hlen := strAt_len hi
    simp -implicitDefEqProofs [hbl]
    refine cndb (fun h1 => ?_) (fun h1 => ?_)
    · simp at h1
      have hg := List.getElem?_eq_getElem h1
      have hg2 := strAt_get h1
      have hset : ((strAt l i).map fun n => [AV.p (.str n)]).set i [.p (.str l[i])] = (strAt l (i + 1)).map fun n => [AV.p (.str n)] := by rw [← strAt_set h1, List.map_set]
      have hbo : strO (strAt l i) = .row 1 ((strAt l i).map fun n => [.p (.str n)]) := rfl
      clear hlen
      simp -implicitDefEqProofs [hg, hbo, hg2, h1, hset]
      refine ⟨i + 1, h1, by omega, wkt_pick [0] rfl (by simp) (hw_row rfl (by simp) hw_nil) ?_⟩
      simp [below, ren, strL, w1 (i := i) (by omega)]
    · simp at h1
      have : i = l.length := by omega
      subst this
      simp -implicitDefEqProofs [strAt]
theorem t_toStringS (l : List (List UInt8)) (hb : l.length ≤ 1048576) : VF Tryd.prog G n_laws_toStringS [.p (strL l)] (.p (strL l)) := AC.freeze (o_toStringS G l hb) (.one (strO_view rfl) .nil)
end Go.Proofs.YtbbobekgnclkfaaDoor
namespace Go.Proofs.YtbbobekgnclkfaaDoor
open Go Go.Aw
set_option maxRecDepth 100000
set_option maxHeartbeats 4000000
variable (G : Glob)
theorem i_IsName_1 (n : Int) : VF Tryd.prog G n_impl_IsName_1 [.p (.int .i32 n)] (.p (.bool (decide (n < 97) || decide (122 < n)))) := by
  refine AC.go k_impl_IsName_1 ?_
  simp -implicitDefEqProofs [F_impl_IsName_1]
  by_cases h : n < 97
  · simp -implicitDefEqProofs [h]
  · simp -implicitDefEqProofs [h]
theorem dec_let {s : List UInt8} {i : Nat} (h : i < s.length) (hl : isLet s[i] = true) : Utf8.decode ⟨⟨s⟩⟩ i = (s[i].toNat, 1) := by
  simp only [isLet, Bool.and_eq_true, decide_eq_true_eq] at hl
  exact decode_ascii ⟨⟨s⟩⟩ i h (by show (s[i]).toNat < 128; omega)
theorem dec_other {s : List UInt8} {i : Nat} (h : i < s.length) (hl : ¬ isLet s[i] = true) : (((Utf8.decode ⟨⟨s⟩⟩ i).1 : Int) < 97 ∨ 122 < ((Utf8.decode ⟨⟨s⟩⟩ i).1 : Int)) := by
  rcases Nat.lt_or_ge s[i].toNat 128 with h1 | h1
  · rw [show Utf8.decode ⟨⟨s⟩⟩ i = (s[i].toNat, 1) from decode_ascii ⟨⟨s⟩⟩ i h h1]
    simp [isLet] at hl
    simp only
    omega
  · have := (decode_high ⟨⟨s⟩⟩ i h h1).1
    omega
theorem i_indexFunc (s : List UInt8) (hb : s.length ≤ 140737488355328) : VF Tryd.prog G n_strings_indexFunc [.p (.str s), .fn (.func n_impl_IsName_1) [], .p (.bool true)] (.p (.int .i64 (idxN s))) := by
  refine AC.go k_strings_indexFunc ?_
  simp -implicitDefEqProofs [F_strings_indexFunc]
  refine loopA (fun i : Nat => tsOf 21 [(0, .p (.str s)), (1, .fn (.func n_impl_IsName_1) []), (2, .p (.bool true)), (10, .it 0)]) (fun i => [.sit s i]) (fun i => i ≤ s.length ∧ ∀ x ∈ s.take i, isLet x = true) (fun i => s.length - i) 0 (by simp) ?_ ?_
  · exact wkt_same (by simp) (by simp [okO]) (by simp [below, belowL])
  · intro i ⟨hi, hn⟩
    simp -implicitDefEqProofs []
    by_cases h1 : i < s.length
    · have hg := List.getElem?_eq_getElem h1
      simp -implicitDefEqProofs [h1]
      refine (i_IsName_1 G _).use ?_
      by_cases hl : isLet s[i] = true
      · have hd := dec_let h1 hl
        have hl' := hl
        simp only [isLet, Bool.and_eq_true, decide_eq_true_eq] at hl'
        have e1 : ¬ ((s[i].toNat : Int) < 97) := by omega
        have e2 : ¬ (122 < (s[i].toNat : Int)) := by omega
        rw [hd]
        simp -implicitDefEqProofs [e1, e2]
        refine ⟨i + 1, ⟨h1, fun p hp => ?_⟩, by omega, wkt_same (by simp) (by simp [okO]) (by simp [below, belowL])⟩
        rw [take_succ' h1] at hp
        rcases List.mem_append.1 hp with hp | hp
        · exact hn p hp
        · rw [List.mem_singleton.1 hp]; exact hl
      · have hd := dec_other h1 hl
        have hf : idxN s = i := by
          have : s.findIdx? (fun x => !isLet x) = some i := by
            rw [List.findIdx?_eq_some_iff_getElem]
            exact ⟨h1, by simpa using hl, fun j hj => by have := hn s[j] (List.mem_take_iff_getElem.2 ⟨j, by omega, rfl⟩); simpa using this⟩
          rw [idxN, this]
        have hdb : (decide (((Utf8.decode ⟨⟨s⟩⟩ i).1 : Int) < 97) || decide (122 < ((Utf8.decode ⟨⟨s⟩⟩ i).1 : Int))) = true := by
          rcases hd with h | h <;> simp [h]
        rw [hdb]
        simp -implicitDefEqProofs [hf]
    · have hn' := hn
      rw [List.take_of_length_le (by omega)] at hn'
      have hf : idxN s = -1 := by
        have : s.findIdx? (fun x => !isLet x) = none := by
          rw [List.findIdx?_eq_none_iff]; intro x hx; simpa using hn' x hx
        rw [idxN, this]
      simp -implicitDefEqProofs [h1, hf]
theorem i_IndexFunc (s : List UInt8) (hb : s.length ≤ 140737488355328) : VF Tryd.prog G n_strings_IndexFunc [.p (.str s), .fn (.func n_impl_IsName_1) []] (.p (.int .i64 (idxN s))) := by
  refine AC.go k_strings_IndexFunc ?_
  simp -implicitDefEqProofs [F_strings_IndexFunc]
  refine (i_indexFunc G s hb).use ?_
  simp -implicitDefEqProofs []
theorem i_Index (L : List (List UInt8)) (s : List UInt8) (hb : L.length ≤ 1048576) : VF Tryd.prog G n_slices_Index_string [.p (strL L), .p (.str s)] (.p (.int .i64 (idxS L s))) := by
  refine AC.go k_slices_Index_string ?_
  have hsl : strL L = .lst 1 (L.map fun w => [.str w]) := rfl
  simp -implicitDefEqProofs [F_slices_Index_string, hsl]
  refine loopA (fun i : Nat => tsOf 19 [(0, .p (strL L)), (1, .p (.str s)), (6, .p (strL L)), (7, .p (.int .i64 L.length)), (8, .p (.int .i64 i))]) (fun _ => []) (fun i => i ≤ L.length ∧ ∀ w ∈ L.take i, w ≠ s) (fun i => L.length - i) 0 (by simp) ?_ ?_
  · exact wkt_nil rfl (by simp [below, strL])
  · intro i ⟨hi, hn⟩
    simp -implicitDefEqProofs [hsl]
    refine cndb (fun h1 => ?_) (fun h1 => ?_)
    · simp at h1
      have hg := List.getElem?_eq_getElem h1
      by_cases he : L[i] = s
      · have hf : idxS L s = i := by
          have : L.findIdx? (fun w => w == s) = some i := by
            rw [List.findIdx?_eq_some_iff_getElem]
            exact ⟨h1, by simpa using he, fun j hj => by have := hn L[j] (List.mem_take_iff_getElem.2 ⟨j, by omega, rfl⟩); simpa using this⟩
          rw [idxS, this]
        have he' : s = L[i] := he.symm
        simp -implicitDefEqProofs [hg, hf, ← he']
      · have he' : ¬ s = L[i] := fun e => he e.symm
        simp -implicitDefEqProofs [hg, he']
        refine ⟨i + 1, ⟨h1, fun p hp => ?_⟩, by omega, wkt_nil rfl ?_⟩
        · rw [take_succ' h1] at hp
          rcases List.mem_append.1 hp with hp | hp
          · exact hn p hp
          · rw [List.mem_singleton.1 hp]; exact he
        · simp [below, strL, w1 (i := i) (by omega)]
    · simp at h1
      rw [List.take_of_length_le h1] at hn
      have hf : idxS L s = -1 := by
        have : L.findIdx? (fun w => w == s) = none := by
          rw [List.findIdx?_eq_none_iff]; intro x hx; simpa using hn x hx
        rw [idxS, this]
      simp -implicitDefEqProofs [hf]
theorem i_Contains (L : List (List UInt8)) (s : List UInt8) (hb : L.length ≤ 1048576) : VF Tryd.prog G n_slices_Contains_string [.p (strL L), .p (.str s)] (.p (.bool (L.contains s))) := by
  rw [← idxS_pos]
  refine AC.go k_slices_Contains_string ?_
  simp -implicitDefEqProofs [F_slices_Contains_string]
  refine (i_Index G L s hb).use ?_
  simp -implicitDefEqProofs []
abbrev g_keys : Nat := 1
def pvKeys : List PV := keyW.map .str
variable (hK : G g_keys = some pvKeys)
include hK
theorem i_IsName (s : List UInt8) (hb : s.length ≤ 140737488355328) : VF Tryd.prog G n_impl_IsName [.p (.str s)] (.p (.bool (isName s))) := by
  refine AC.go k_impl_IsName ?_
  have hg : g_keys = 1 := rfl
  rw [hg] at hK
  simp -implicitDefEqProofs [F_impl_IsName]
  refine (i_within G _ _ _).use ?_
  have hr : inR (s.length : Int) 1 4 = (decide (0 < s.length) && decide (s.length ≤ 4)) := by
    unfold inR
    by_cases h1 : 0 < s.length <;> by_cases h2 : s.length ≤ 4 <;> simp [h1, h2] <;> omega
  rw [hr]
  have hi : isName s = ((decide (0 < s.length) && decide (s.length ≤ 4)) && (s.all isLet && !keyW.contains s)) := by
    rw [isName]; cases s.all isLet <;> cases decide (0 < s.length) <;> cases decide (s.length ≤ 4) <;> rfl
  cases h1 : (decide (0 < s.length) && decide (s.length ≤ 4)) with
  | false =>
    rw [hi, h1]
    simp -implicitDefEqProofs []
  | true =>
    rw [hi, h1]
    simp -implicitDefEqProofs []
    refine (i_IndexFunc G s hb).use ?_
    rw [← idxN_neg]
    by_cases hn : idxN s < 0
    · simp -implicitDefEqProofs [hn, hK, pvKeys, keyW]
      refine (i_Contains G keyW s (by decide)).use ?_
      simp -implicitDefEqProofs [keyW]
    · simp -implicitDefEqProofs [hn]
end Go.Proofs.YtbbobekgnclkfaaDoor
namespace Go.Proofs.YtbbobekgnclkfaaDoor
open Go Go.Aw
set_option maxRecDepth 100000
set_option maxHeartbeats 4000000
variable (G : Glob)
theorem av_pure (ins : List Mins) : ∀ x ∈ ins.map Mins.av, belowL 0 x := by
  intro x hx; obtain ⟨m, _, rfl⟩ := List.mem_map.1 hx; simp [Mins.av_eq, belowL, below]
theorem insO_view {h : List AO} {id : Nat} {ins : List Mins} (e : h[id]? = some (insO ins)) : View h (.sl id 5 0 ins.length) (insL ins) := by
  have := view_row (h := h) (id := id) (sz := 5) (n := ins.length) (ls := ins.map Mins.cs) (by rw [e, insO]; simp [Mins.av]) (by simp) (fun x hx => by obtain ⟨b, _, rfl⟩ := List.mem_map.1 hx; rfl)
  exact this
end Go.Proofs.YtbbobekgnclkfaaDoor
namespace Go.Proofs.YtbbobekgnclkfaaDoor
open Go Go.Aw
set_option maxRecDepth 100000
set_option maxHeartbeats 4000000
def plaF (f : Mfn) : List Nat := if codeOk f then plcs f.ins (longs f.ins) f.ins.length else []
theorem plaF_len (f : Mfn) : (plaF f).length = if codeOk f then f.ins.length else 0 := by
  unfold plaF; split
  · exact plcs_len ..
  · rfl
def clsI (x : Mins) (p : Nat) : List Int := if x.op = 14 then [(p : Int) + 1] else []
def clsT (f : Mfn) (i : Nat) : List Int := ((List.zip f.ins (plaF f)).take i).flatMap fun x => clsI x.1 x.2
def callsF (f : Mfn) : List Int := (List.zip f.ins (plaF f)).flatMap fun x => clsI x.1 x.2
theorem clsT_zero (f : Mfn) : clsT f 0 = [] := rfl
theorem clsT_succ {f : Mfn} {i : Nat} (h1 : i < f.ins.length) (h2 : i < (plaF f).length) : clsT f (i + 1) = clsT f i ++ clsI f.ins[i] (plaF f)[i] := by
  have hz : i < (List.zip f.ins (plaF f)).length := by rw [List.length_zip]; omega
  rw [clsT, take_succ' hz, List.flatMap_append, List.getElem_zip]
  simp [clsT]
theorem clsT_all {f : Mfn} {i : Nat} (h : (plaF f).length ≤ i) : clsT f i = callsF f := by
  rw [clsT, List.take_of_length_le (by rw [List.length_zip]; omega)]; rfl
theorem clsT_len (f : Mfn) (i : Nat) : (clsT f i).length ≤ i := by
  have key : ∀ l : List (Mins × Nat), (l.flatMap fun x => clsI x.1 x.2).length ≤ l.length := by
    intro l
    induction l with
    | nil => simp
    | cons a r ih =>
      rw [List.flatMap_cons, List.length_append, List.length_cons]
      have : (clsI a.1 a.2).length ≤ 1 := by unfold clsI; split <;> simp
      omega
  have := key ((List.zip f.ins (plaF f)).take i)
  rw [List.length_take] at this
  exact Nat.le_trans this (Nat.min_le_left ..)
theorem plc_mono (ins : List Mins) (L : List Bool) {i k : Nat} (h : i ≤ k) : plc ins L i ≤ plc ins L k := by
  unfold plc
  generalize List.zipWith sizeB ins L = l
  have e : l.take i = (l.take k).take i := by rw [List.take_take, Nat.min_eq_left h]
  rw [e]
  conv => rhs; rw [← List.take_append_drop i (l.take k), List.sum_append]
  omega
theorem plcs_le {f : Mfn} : ∀ p ∈ plaF f, p ≤ 8000 := by
  intro p hp
  by_cases hc : codeOk f = true
  · rw [plaF, if_pos hc] at hp
    have h8 : plc f.ins (longs f.ins) f.ins.length ≤ 8000 := by simp only [codeOk, Bool.and_eq_true, decide_eq_true_eq] at hc; exact hc.2
    obtain ⟨i, hi, rfl⟩ := List.mem_map.1 hp
    rw [List.mem_range] at hi
    exact Nat.le_trans (plc_mono _ _ (Nat.le_of_lt hi)) h8
  · rw [plaF, if_neg hc] at hp; cases hp
variable (G : Glob)
theorem s_MinsPlaces (f : Mfn) (hn : f.ins.length ≤ 1000000) : VF Tryd.prog G n_spec_MinsPlaces [.agg (f.cs.map .p)] (.p (intsL (plaF f))) := by
  have key : AC Tryd.prog G n_spec_MinsPlaces [.agg (f.cs.map .p)] [] fun x h => x = .ret (.p (intsL (plaF f))) ∨ (∃ id, x = .ret (.sl id 1 0 0) ∧ h[id]? = some (intsO []) ∧ plaF f = []) := by
    refine AC.go k_spec_MinsPlaces ?_
    simp -implicitDefEqProofs [F_spec_MinsPlaces]
    refine (s_l25Can G f hn).use ?_
    by_cases hc : codeOk f = true
    rotate_left
    · have hp : plaF f = [] := by rw [plaF, if_neg hc]
      simp -implicitDefEqProofs [hc, intsO, hp]
    have hal : machOk (aloneF (mostS f.ins) f) = true := by simp [codeOk] at hc; exact hc.1
    have hf := fine_of_alone hal
    have hp : plaF f = plcs f.ins (longs f.ins) f.ins.length := by rw [plaF, if_pos hc]
    simp -implicitDefEqProofs [hc]
    refine (s_l25Long G f hf).use ?_
    simp -implicitDefEqProofs
    refine (s_l25Places G f _ (longs_len _) hf).use ?_
    simp -implicitDefEqProofs [hp]
  refine key.freezeR (fun t v h e => ?_) fun v h e => ?_
  · rcases e with e | ⟨_, e, _⟩ <;> cases e
  · rcases e with e | ⟨id, e, e2, e3⟩
    · cases e; exact .keep (by simp [below]) .nil
    · cases e
      rw [e3]
      exact .one (by have := intsO_view e2; exact this) .nil
theorem pla_ins (f : Mfn) : (plaF f).length ≤ f.ins.length := by rw [plaF_len]; split <;> omega
theorem k_l26Calls (f : Mfn) (hn : f.ins.length ≤ 1000000) : AC Tryd.prog G n_spec_l26Calls [.agg (f.cs.map .p)] [] fun x h => ∃ id, x = .ret (.sl id 1 0 (callsF f).length) ∧ h[id]? = some (numO (callsF f)) := by
  refine AC.go k_spec_l26Calls ?_
  have hpi := pla_ins f
  have hps : ∀ l, intsL l = .lst 1 (l.map fun (n : Nat) => [.int .i64 (n : Int)]) := fun _ => rfl
  have hin : insL f.ins = .lst 5 (f.ins.map Mins.cs) := rfl
  simp -implicitDefEqProofs [F_spec_l26Calls]
  refine (s_MinsPlaces G f hn).use ?_
  simp -implicitDefEqProofs []
  refine loopA (fun i : Nat => tsOf 31 [(1, .ptr 0 3 0 0), (3, .sl 1 1 0 (clsT f i).length), (4, .p (intsL (plaF f))), (5, .p (.int .i64 i))]) (fun i => [.row 3 [f.cs.map .p], numO (clsT f i)])
    (fun i => i ≤ (plaF f).length) (fun i => (plaF f).length - i) 0 (by simp) ?_ ?_
  · refine wkt_same ?_ ?_ ?_
    · simp
    · simp [okO, clsT_zero, numO]
    simp [below, clsT_zero]
  · intro i hi
    simp -implicitDefEqProofs [hps]
    refine cndb (fun h1 => ?_) (fun h1 => ?_)
    · simp at h1
      have h2 : i < f.ins.length := by omega
      have hg1 := List.getElem?_eq_getElem h2
      have hg2 := List.getElem?_eq_getElem h1
      have hle : (plaF f)[i] ≤ 8000 := plcs_le _ (List.getElem_mem h1)
      have hsu := clsT_succ h2 h1
      have hcl := clsT_len f i
      have hnb : ∀ l, numO l = .row 1 (l.map fun n => [.p (.int .i64 n)]) := fun _ => rfl
      simp -implicitDefEqProofs [Mfn.cs, hg1, Mins.cs]
      by_cases ho : f.ins[i].op = 14
      · have hw : IntKind.i64.wrap (((plaF f)[i] : Int) + 1) = ((plaF f)[i] : Int) + 1 := i64_small (by omega) (by omega)
        rw [clsI, if_pos ho] at hsu
        clear hle
        simp -implicitDefEqProofs [Mfn.cs, hg1, hg2, Mins.cs, ho, hw, hnb]
        refine ⟨by omega, i + 1, h1, by omega, wkt_pick [0, 3] rfl (by simp) (hw_row rfl (by simp) (hw_row (by simp [hnb, hsu, List.take_of_length_le]) (by simp) hw_nil)) ?_⟩
        simp [below, ren, hps, hsu, w1 (i := i) (by omega)]
      · rw [clsI, if_neg ho, List.append_nil] at hsu
        clear hle
        simp -implicitDefEqProofs [Mfn.cs, hg1, hg2, Mins.cs, ho]
        refine ⟨i + 1, h1, by omega, wkt_pick [0, 1] rfl (by simp) (hw_row rfl (by simp) (hw_row (by simp [numO, hsu]; done) (by simp) hw_nil)) ?_⟩
        simp [below, ren, hps, hsu, w1 (i := i) (by omega)]
    · simp at h1
      have := clsT_all (f := f) (i := i) h1
      simp -implicitDefEqProofs [this]
theorem s_l26Calls (f : Mfn) (hn : f.ins.length ≤ 1000000) : VF Tryd.prog G n_spec_l26Calls [.agg (f.cs.map .p)] (.p (numL (callsF f))) := by
  refine (k_l26Calls G f hn).freezeR (fun t v h ⟨id, e, _⟩ => by cases e) fun v h ⟨id, e1, e2⟩ => ?_
  cases e1
  exact .one (numO_view e2) .nil
theorem o_l26Calls (f : Mfn) (hn : f.ins.length ≤ 1000000) : AC Tryd.prog G n_spec_l26Calls [.agg (f.cs.map .p)] [] fun x h => x = .ret (.sl 0 1 0 (callsF f).length) ∧ h = [numO (callsF f)] := by
  refine (k_l26Calls G f hn).gc (fun t v h ⟨id, e, _⟩ => by cases e) fun v h ⟨id, e1, e2⟩ => ?_
  cases e1
  exact ⟨.sl 0 1 0 (callsF f).length, [numO (callsF f)], ⟨[id], by simp, by simp, by simp, by simp [below], by simp [ren], hw_row e2 (fun x hx => by obtain ⟨m, _, rfl⟩ := List.mem_map.1 hx; simp [belowL, below]) hw_nil⟩, rfl, rfl⟩
end Go.Proofs.YtbbobekgnclkfaaDoor
namespace Go.Proofs.YtbbobekgnclkfaaDoor
open Go Go.Aw
set_option maxRecDepth 100000
set_option maxHeartbeats 4000000
theorem fnOk_of_code {f : Mfn} (hc : codeOk f = true) : fnOk (mostS f.ins) f = true := by
  simp only [codeOk, Bool.and_eq_true] at hc
  have h := hc.1
  simp only [machOk, Bool.and_eq_true, decide_eq_true_eq] at h
  have := fnsOk_get h.2 (i := mostS f.ins) (f := f) (by simp [aloneF])
  simpa using this
theorem call_n {f : Mfn} (hc : codeOk f = true) {x : Mins} (hx : x ∈ f.ins) (ho : x.op = 14) : 0 ≤ x.n ∧ x.n < 4 := by
  have h := fnOk_of_code hc
  simp only [fnOk, Bool.and_eq_true, List.all_eq_true] at h
  have hi := h.2 x hx
  simp only [insOk, Bool.and_eq_true] at hi
  have h5 := hi.2
  have hm : mostS f.ins ≤ 4 := by have := mostT_le f.ins f.ins.length; rwa [mostT, List.take_of_length_le (Nat.le_refl _)] at this
  simp [fN, mostN, ho, inR] at h5
  omega
def blankI (x : Mins) : Mins := if x.op = 14 then { x with n := 0 } else x
def blankF (f : Mfn) : Mfn := { f with ins := f.ins.map blankI }
theorem sum_ge : ∀ {l : List (List UInt8)} {x : List UInt8}, x ∈ l → x.length ≤ (l.map List.length).sum
  | y :: r, x, h => by
    rw [List.map_cons, List.sum_cons]
    rcases List.mem_cons.1 h with rfl | h
    · omega
    · have := sum_ge h; omega
variable (G : Glob)
end Go.Proofs.YtbbobekgnclkfaaDoor
namespace Go.Proofs.YtbbobekgnclkfaaDoor
open Go Go.Aw
set_option maxRecDepth 100000
set_option maxHeartbeats 4000000
variable (G : Glob)
variable (hG : G g_forms = some pvForms)
include hG
theorem i_MinsPlaces (f : Mfn) (hn : f.ins.length ≤ 1000000) (hlo : ∀ x ∈ f.ins, x.op = 14 → -9223372036854775808 ≤ x.n) : VF Tryd.prog G n_impl_MinsPlaces [.agg (f.cs.map .p)] (.p (intsL (plaF f))) := by
  by_cases hc : codeOk f = true
  · have key : AC Tryd.prog G n_impl_MinsPlaces [.agg (f.cs.map .p)] [] fun x h => ∃ id, x = .ret (.sl id 1 0 f.ins.length) ∧ h[id]? = some (intsO (plcs f.ins (longs f.ins) f.ins.length)) := by
      refine AC.go k_impl_MinsPlaces ?_
      simp -implicitDefEqProofs [F_impl_MinsPlaces]
      refine (AC.lift (i_layoutOf1 G hG f hn hlo hc) (by simp [belowL, below]) rfl ?_).mono ?_
      · simp only [List.all_cons, List.all_nil, nofnO_bool, nofnO_ints]; rfl
      rintro r h ⟨rfl, rfl⟩
      simp -implicitDefEqProofs [callR_nxt, shiftO_bool, shiftO_ints, shiftO_fn, shiftO_lay, shiftV, shiftL]
      simp -implicitDefEqProofs [Mfn.cs, layC]
    have hp : plaF f = plcs f.ins (longs f.ins) f.ins.length := by rw [plaF, if_pos hc]
    refine key.freezeR (fun t v h ⟨id, e, _⟩ => by cases e) fun v h ⟨id, e1, e2⟩ => ?_
    cases e1
    rw [hp]
    exact .one (by have := intsO_view e2; rwa [plcs_len] at this) .nil
  · have hp : plaF f = [] := by rw [plaF, if_neg hc]
    have key : AC Tryd.prog G n_impl_MinsPlaces [.agg (f.cs.map .p)] [] fun x _ => x = .ret .nils := by
      refine AC.go k_impl_MinsPlaces ?_
      simp -implicitDefEqProofs [F_impl_MinsPlaces]
      refine (i_layoutOf2 G hG f hn hlo hc).use ?_
      simp -implicitDefEqProofs []
    refine key.freezeR (fun t v h e => by cases e) fun v h e => ?_
    cases e
    rw [hp]
    exact .one (View.nils 1) .nil
end Go.Proofs.YtbbobekgnclkfaaDoor
namespace Go.Proofs.YtbbobekgnclkfaaDoor
open Go Go.Aw
set_option maxRecDepth 100000
set_option maxHeartbeats 4000000
variable (G : Glob)
def numR (l : List Int) : List (List AV) := l.map fun n => [.p (.int .i64 n)]
theorem numR_app (a b : List Int) : numR (a ++ b) = numR a ++ numR b := by simp [numR]
theorem numR_pure (l : List Int) : ∀ x ∈ numR l, belowL 0 x := by
  intro x hx; obtain ⟨m, _, rfl⟩ := List.mem_map.1 hx; simp [belowL, below]
theorem nofnO_insA (l : List Mins) : nofnO (insO l) = true := by
  simp only [nofnO, insO, List.all_map, List.all_eq_true]
  intro m _
  exact nofnL_pure m.cs
section
theorem k_Clone (xs : List Mins) (hx : xs ≠ []) (hb : xs.length ≤ 1000000) : AC Tryd.prog G n_slices_Clone_impl_Mins [.p (insL xs)] [] fun x h => ∃ id, x = .ret (.sl id 5 0 xs.length) ∧ h[id]? = some (insO xs) := by
  obtain ⟨y, r, rfl⟩ : ∃ y r, xs = y :: r := by cases xs with | nil => exact absurd rfl hx | cons y r => exact ⟨y, r, rfl⟩
  refine AC.go k_slices_Clone_impl_Mins ?_
  have hin : insL (y :: r) = .lst 5 (y.cs :: r.map Mins.cs) := rfl
  have hl : (y :: r).length = r.length + 1 := rfl
  rw [hl] at hb
  simp -implicitDefEqProofs [F_slices_Clone_impl_Mins, hin]
  refine ⟨by omega, ?_⟩
  simp only [insO, List.map_cons]
  rfl
theorem o_Clone (xs : List Mins) (hx : xs ≠ []) (hb : xs.length ≤ 1000000) : AC Tryd.prog G n_slices_Clone_impl_Mins [.p (insL xs)] [] fun x h => x = .ret (.sl 0 5 0 xs.length) ∧ h = [insO xs] := by
  refine (k_Clone G xs hx hb).gc (fun t v h ⟨id, e, _⟩ => by cases e) fun v h ⟨id, e1, e2⟩ => ?_
  cases e1
  exact ⟨.sl 0 5 0 xs.length, [insO xs], ⟨[id], by simp, by simp, by simp, by simp [below], by simp [ren], hw_row e2 (av_pure _) hw_nil⟩, rfl, rfl⟩
theorem k_cloneMfn (f : Mfn) (hx : f.ins ≠ []) (hb : f.ins.length ≤ 1000000) : AC Tryd.prog G n_impl_cloneMfn [.agg (f.cs.map .p)] [] fun x h => ∃ id, x = .ret (.agg (f.ov id)) ∧ h[id]? = some (insO f.ins) := by
  refine AC.go k_impl_cloneMfn ?_
  have hin : insL f.ins = .lst 5 (f.ins.map Mins.cs) := rfl
  simp -implicitDefEqProofs [F_impl_cloneMfn, Mfn.cs, ← hin]
  refine (AC.lift (o_Clone G f.ins hx hb) (by simp [belowL, below]) rfl ?_).mono ?_
  · simp only [List.all_cons, List.all_nil, nofnO_insA]; rfl
  rintro r h ⟨rfl, rfl⟩
  simp -implicitDefEqProofs [callR_nxt, shiftV, shiftL, shiftO_ins]
  exact ⟨2, rfl, rfl⟩
theorem o_cloneMfn (f : Mfn) (hx : f.ins ≠ []) (hb : f.ins.length ≤ 1000000) : AC Tryd.prog G n_impl_cloneMfn [.agg (f.cs.map .p)] [] fun x h => x = .ret (.agg (f.ov 0)) ∧ h = [insO f.ins] := by
  refine (k_cloneMfn G f hx hb).gc (fun t v h ⟨id, e, _⟩ => by cases e) fun v h ⟨id, e1, e2⟩ => ?_
  cases e1
  exact ⟨.agg (f.ov 0), [insO f.ins], ⟨[id], by simp, by simp, by simp, by simp [below, belowL, Mfn.ov], by simp [ren, renL, Mfn.ov], hw_row e2 (av_pure _) hw_nil⟩, rfl, rfl⟩
end
variable (hG : G g_forms = some pvForms)
include hG
theorem k_callBytes (f : Mfn) (hn : f.ins.length ≤ 1000000) (hlo : ∀ x ∈ f.ins, x.op = 14 → -9223372036854775808 ≤ x.n) : AC Tryd.prog G n_impl_callBytes [.agg (f.cs.map .p)] [] fun x h => ∃ id, x = .ret (slE id 1 (numR (callsF f))) ∧ h[id]? = some (rowE 1 (numR (callsF f))) := by
  refine AC.go k_impl_callBytes ?_
  have hpi := pla_ins f
  have hps : ∀ l, intsL l = .lst 1 (l.map fun (n : Nat) => [.int .i64 (n : Int)]) := fun _ => rfl
  simp -implicitDefEqProofs [F_impl_callBytes]
  refine (i_MinsPlaces G hG f hn hlo).use ?_
  simp -implicitDefEqProofs [hps]
  refine loopA (fun i : Nat => tsOf 28 [(1, .ptr 0 3 0 0), (3, slE 1 1 (numR (clsT f i))), (7, .p (intsL (plaF f))), (8, .p (.int .i64 (plaF f).length)), (9, .p (.int .i64 i))]) (fun i => [.row 3 [f.cs.map .p], rowE 1 (numR (clsT f i))])
    (fun i => i ≤ (plaF f).length) (fun i => (plaF f).length - i) 0 (by simp) ?_ ?_
  · simp only [clsT_zero, numR, List.map_nil, slE_nil, rowE_nil]
    exact wkt_dup [0, 0] (by simp) (by simp) (by simp [lives]) (hw_row rfl (by simp) (hw_dead (by simp) hw_nil)) (by simp [below, ren, hps])
  · intro i hi
    simp -implicitDefEqProofs [hps]
    refine cndb (fun h1 => ?_) (fun h1 => ?_)
    · simp at h1
      have h2 : i < f.ins.length := by omega
      have hg1 := List.getElem?_eq_getElem h2
      have hg2 := List.getElem?_eq_getElem h1
      have hle : (plaF f)[i] ≤ 8000 := plcs_le _ (List.getElem_mem h1)
      have hsu := clsT_succ h2 h1
      have hcl := clsT_len f i
      have hnl : (numR (clsT f i)).length = (clsT f i).length := by simp [numR]
      by_cases ho : f.ins[i].op = 14
      · have hw : IntKind.i64.wrap (((plaF f)[i] : Int) + 1) = ((plaF f)[i] : Int) + 1 := i64_small (by omega) (by omega)
        rw [clsI, if_pos ho] at hsu
        clear hle
        simp -implicitDefEqProofs [Mfn.cs, hg1, hg2, Mins.cs, ho, hw, hnl]
        refine ⟨by omega, i + 1, h1, by omega, ?_⟩
        rw [hsu, numR_app, slE_app _ (by simp [numR]), rowE_app _ (by simp [numR])]
        refine wkt_pick [0, 3] rfl (by decide) (hw_row rfl (by simp) (hw_row rfl (by rw [← numR_app]; exact numR_pure _) hw_nil)) ?_
        simp [below, ren, hps, hnl, numR, w1 (i := i) (by omega)]
      · rw [clsI, if_neg ho, List.append_nil] at hsu
        clear hle
        simp -implicitDefEqProofs [Mfn.cs, hg1, hg2, Mins.cs, ho]
        refine ⟨i + 1, h1, by omega, ?_⟩
        rw [hsu]
        exact wkt_pick [0, 1] rfl (by decide) (hw_row rfl (by simp) (hw_rowE rfl (numR_pure _) hw_nil)) (by simp [below, ren, hps, w1 (i := i) (by omega)])
    · simp at h1
      have := clsT_all (f := f) (i := i) h1
      simp -implicitDefEqProofs [this]
      exact ⟨1, rfl, rfl⟩
end Go.Proofs.YtbbobekgnclkfaaDoor
namespace Go.Proofs.YtbbobekgnclkfaaDoor
open Go Go.Aw
set_option maxRecDepth 100000
set_option maxHeartbeats 4000000
variable (G : Glob)
/-- The first ones struck out. -/
def blankT (f : Mfn) (i : Nat) : List Mins := (f.ins.take i).map blankI ++ f.ins.drop i
theorem blankT_zero (f : Mfn) : blankT f 0 = f.ins := by simp [blankT]
theorem blankT_all (f : Mfn) : blankT f f.ins.length = (blankF f).ins := by simp [blankT, blankF]
theorem blankT_get {f : Mfn} {i : Nat} (h : i < f.ins.length) : (blankT f i)[i]? = some f.ins[i] := by
  rw [blankT, List.getElem?_append_right (by simp; omega)]
  simp [Nat.min_eq_left (Nat.le_of_lt h), h]
theorem blankT_set {f : Mfn} {i : Nat} (h : i < f.ins.length) : (blankT f i).set i (blankI f.ins[i]) = blankT f (i + 1) := by
  have hl : ((f.ins.take i).map blankI).length = i := by simp; omega
  rw [blankT, List.set_append_right _ _ (by omega), hl, Nat.sub_self, List.drop_eq_getElem_cons h, List.set_cons_zero, blankT, take_succ' h, List.map_append, List.append_assoc]
  rfl
theorem blankT_same {f : Mfn} {i : Nat} (h : i < f.ins.length) (ho : ¬ f.ins[i].op = 14) : blankT f (i + 1) = blankT f i := by
  rw [blankT, take_succ' h, List.map_append, List.append_assoc, blankT, List.drop_eq_getElem_cons h, List.map_cons, blankI, if_neg ho]
  rfl
theorem i_blank (f : Mfn) (hx : f.ins ≠ []) (hb : f.ins.length ≤ 1000000) : VF Tryd.prog G n_impl_blank [.agg (f.cs.map .p)] (.agg ((blankF f).cs.map .p)) := by
  have key : AC Tryd.prog G n_impl_blank [.agg (f.cs.map .p)] [] fun x h => ∃ id, x = .ret (.agg ((blankF f).ov id)) ∧ h[id]? = some (insO (blankF f).ins) := by
    refine AC.go k_impl_blank ?_
    have hin : insL f.ins = .lst 5 (f.ins.map Mins.cs) := rfl
    simp -implicitDefEqProofs [F_impl_blank]
    refine (AC.lift (o_cloneMfn G f hx hb) (by simp [belowL, below]) rfl ?_).mono ?_
    · simp only [List.all_cons, List.all_nil, nofnO_insA]; rfl
    rintro r h ⟨rfl, rfl⟩
    simp -implicitDefEqProofs [callR_nxt, shiftV, shiftL, shiftO_ins, Mfn.ov]
    refine loopA (fun i : Nat => tsOf 26 [(1, .ptr 0 3 0 0), (2, .ptr 1 3 0 0), (8, .p (.int .i64 f.ins.length)), (9, .p (.int .i64 i))]) (fun i => [.row 3 [[.p (.int .i64 f.params), .p (.int .i64 f.slots), .sl 2 5 0 f.ins.length]], .row 3 [zMfn], insO (blankT f i)])
      (fun i => i ≤ f.ins.length) (fun i => f.ins.length - i) 0 (by simp) ?_ ?_
    · rw [blankT_zero]
      refine wkt_pick [0, 1, 2] rfl (by decide) (hw_rowr (by simp [below]) (by simp [ren, renL]) (hw_row rfl (by simp [zMfn, belowL, below]) (hw_row rfl (av_pure _) hw_nil))) ?_
      simp [below, ren]
    · intro i hi
      simp -implicitDefEqProofs []
      refine cndb (fun h1 => ?_) (fun h1 => ?_)
      · simp at h1
        have hg := blankT_get h1
        have hbo : insO (blankT f i) = .row 5 ((blankT f i).map Mins.av) := rfl
        by_cases ho : f.ins[i].op = 14
        · have hs := blankT_set h1
          have hs2 : ((blankT f i).map Mins.av).set i [.p (.int .i64 14), .p (.int .i64 f.ins[i].a), .p (.int .i64 f.ins[i].b), .p (.int .i64 f.ins[i].c), .p (.int .i64 0)] = (blankT f (i + 1)).map Mins.av := by
            rw [← hs, List.map_set, blankI, if_pos ho, Mins.av_eq, ho]
          simp -implicitDefEqProofs [hbo, hg, h1, Mins.av_eq, ho, splice, hs2]
          refine ⟨i + 1, h1, by omega, ?_⟩
          refine wkt_pick [0, 1, 2] rfl (by decide) (hw_rowr (by simp [below]) (by simp [ren, renL]) (hw_row rfl (by simp [zMfn, belowL, below]) (hw_row rfl (av_pure _) hw_nil))) ?_
          simp [below, ren, w1 (i := i) (by omega)]
        · have hs := blankT_same h1 ho
          simp -implicitDefEqProofs [hbo, hg, h1, Mins.av_eq, ho]
          refine ⟨i + 1, h1, by omega, ?_⟩
          rw [hs]
          refine wkt_pick [0, 1, 2] rfl (by decide) (hw_rowr (by simp [below]) (by simp [ren, renL]) (hw_row rfl (by simp [zMfn, belowL, below]) (hw_row rfl (av_pure _) hw_nil))) ?_
          simp [below, ren, w1 (i := i) (by omega)]
      · simp at h1
        have hie : i = f.ins.length := by omega
        subst hie
        simp -implicitDefEqProofs [blankT_all]
        exact ⟨by simp [zMfn], 2, ⟨rfl, rfl, rfl, by simp [blankF]⟩, rfl⟩
  refine key.freezeR (fun t v h ⟨id, e, _⟩ => by cases e) fun v h ⟨id, e1, e2⟩ => ?_
  cases e1
  exact .agg (.keep (by simp [below]) (.keep (by simp [below]) (.one (insO_view e2) .nil))) .nil
variable (hK : G g_keys = some pvKeys)
include hK
end Go.Proofs.YtbbobekgnclkfaaDoor
namespace Go.Proofs.YtbbobekgnclkfaaDoor
open Go Go.Aw
set_option maxRecDepth 100000
set_option maxHeartbeats 4000000
def digs (n : Nat) (acc : List UInt8) : List UInt8 := if n = 0 then acc else digs (n / 10) (UInt8.ofNat (48 + n % 10) :: acc)
termination_by n
theorem digs_zero (acc : List UInt8) : digs 0 acc = acc := by rw [digs, if_pos rfl]
theorem digs_step {n : Nat} (h : ¬ n = 0) (acc : List UInt8) : digs n acc = digs (n / 10) (UInt8.ofNat (48 + n % 10) :: acc) := by rw [digs, if_neg h]
def markW (n : Nat) : List UInt8 := if n = 0 then [109, 48] else 109 :: digs n []
structure DG where (n : Nat) (acc : List UInt8)
variable (G : Glob)
theorem t_markText (n : Nat) (hn : n ≤ 1152921504606846976) : VF Tryd.prog G n_laws_markText [.p (.int .i64 n)] (.p (.str (markW n))) := by
  refine AC.go k_laws_markText ?_
  by_cases h0 : n = 0
  · subst h0
    simp -implicitDefEqProofs [F_laws_markText, markW]
  have h1 : ¬ (n : Int) ≤ 0 := by omega
  simp -implicitDefEqProofs [F_laws_markText, h1, h0]
  refine loopA (fun d : DG => tsOf 20 [(0, .p (.int .i64 d.n)), (3, .p (.str d.acc))]) (fun _ => []) (fun d => digs d.n d.acc = digs n [] ∧ d.acc.length + d.n ≤ n) (fun d => d.n) ⟨n, []⟩ (by simp) ?_ ?_
  · exact wkt_nil rfl (by simp [below])
  · rintro ⟨m, acc⟩ ⟨i1, i2⟩
    simp only at i1 i2
    simp -implicitDefEqProofs []
    refine cndb (fun h2 => ?_) (fun h2 => ?_)
    · simp at h2
      have hm0 : ¬ m = 0 := by omega
      have e10 : (m : Int).tmod 10 = (m : Int) % 10 := Int.tmod_eq_emod_of_nonneg (by omega)
      have ew : IntKind.i64.wrap (48 + (m : Int) % 10) = 48 + (m : Int) % 10 := i64_small (by omega) (by omega)
      have e8 : IntKind.u8.wrap (48 + (m : Int) % 10) = 48 + (m : Int) % 10 := by have := u8_eq_mod (48 + (m : Int) % 10); rw [u8] at this; rw [this]; omega
      have et : (48 + (m : Int) % 10).toNat = 48 + m % 10 := by omega
      have ed : IntKind.i64.wrap ((m : Int) / 10) = ((m / 10 : Nat) : Int) := i64_nat (by omega) (by omega)
      simp -implicitDefEqProofs [e10, ew, e8, et, ed]
      refine ⟨by omega, ⟨m / 10, UInt8.ofNat (48 + m % 10) :: acc⟩, ⟨?_, ?_⟩, by simp only; omega, wkt_nil rfl ?_⟩
      · rw [← i1]; exact (digs_step hm0 acc).symm
      · simp only [List.length_cons]; omega
      · simp [below]
    · simp at h2
      have : m = 0 := by omega
      subst this
      rw [digs_zero] at i1
      have hl : 1 + (digs n []).length ≤ 9223372036854775807 := by rw [← i1]; omega
      simp -implicitDefEqProofs [markW, h0, i1]
      exact hl
def mksN (k n : Nat) : List Int := (List.range n).map fun j => ((k + j : Nat) : Int)
def mksW (k n : Nat) : List (List UInt8) := (List.range n).map fun j => markW (k + j)
theorem mksN_len (k n : Nat) : (mksN k n).length = n := by simp [mksN]
theorem mksW_len (k n : Nat) : (mksW k n).length = n := by simp [mksW]
theorem m_markIntS {h : List AO} {id : Nat} {xs : List Int} {k : Nat} (hr : h[id]? = some (numO xs)) (hk : k + xs.length ≤ 1152921504606846976) :
    AC Tryd.prog G n_laws_markIntS [.sl id 1 0 xs.length, .p (.int .i64 k)] h fun x h' => x = .ret (.p (.int .i64 ((k + xs.length : Nat) : Int))) ∧ h' = h.set id (numO (mksN k xs.length)) := by
  refine AC.enterB k_laws_markIntS fun hb => AC.go k_laws_markIntS ?_
  have hid : id < h.length := (List.getElem?_eq_some_iff.1 hr).1
  have hbs : ∀ ys : List Int, HB (h.set id (numO ys)) := fun ys => hb.set_row fun e he => by
    obtain ⟨x, _, rfl⟩ := List.mem_map.1 he
    simp
  simp -implicitDefEqProofs [F_laws_markIntS]
  have e0 : mksN k 0 ++ xs.drop 0 = xs := by simp [mksN]
  refine loopA (fun a : Nat × List Int => tsOf 19 [(0, .sl id 1 0 xs.length), (1, .p (.int .i64 ((k + a.1 : Nat) : Int))), (5, .p (.int .i64 a.1))]) (fun a => h.set id (numO a.2)) (fun a => a.1 ≤ xs.length ∧ a.2 = mksN k a.1 ++ xs.drop a.1) (fun a => xs.length - a.1) (0, xs) ⟨by simp, e0.symm⟩ ?_ ?_
  · have e : h.set id (numO xs) = h := by
      obtain ⟨hi, e⟩ := List.getElem?_eq_some_iff.1 hr
      rw [← e]; simp
    rw [e]
    exact wkt_refl (by simp) hb (by simp -implicitDefEqProofs [below, hid])
  · rintro ⟨i, ys⟩ ⟨hi, hy⟩
    simp only at hi hy
    simp -implicitDefEqProofs []
    refine cndb (fun h1 => ?_) (fun h1 => ?_)
    · simp at h1
      have hyl : ys.length = xs.length := by rw [hy]; simp [mksN]; omega
      have hys : ys.set i ((k + i : Nat) : Int) = mksN k (i + 1) ++ xs.drop (i + 1) := by
        rw [hy, List.set_append_right _ _ (by simp [mksN])]
        simp only [mksN, List.length_map, List.length_range, Nat.sub_self]
        rw [List.drop_eq_getElem_cons h1, List.set_cons_zero, List.range_succ]
        simp
      have hg : (List.map (fun n => [AV.p (.int .i64 n)]) ys)[i]? = some [AV.p (.int .i64 (ys[i]'(by omega)))] := by rw [List.getElem?_map, List.getElem?_eq_getElem (by omega)]; rfl
      have hw1 : IntKind.i64.wrap ((k : Int) + (i : Int) + 1) = (k : Int) + (i : Int) + 1 := i64_small (by omega) (by omega)
      simp -implicitDefEqProofs [numO, hid, h1, hg, hw1]
      refine ⟨i + 1, ys.set i ((k + i : Nat) : Int), ⟨h1, hys⟩, by omega, ?_⟩
      have e : (List.map (fun n => [AV.p (PV.int IntKind.i64 n)]) ys).set i [AV.p (PV.int IntKind.i64 (↑k + ↑i))] = List.map (fun n => [AV.p (PV.int IntKind.i64 n)]) (ys.set i ((k + i : Nat) : Int)) := by
        rw [List.map_set]; simp
      rw [e]
      refine wkt_refl ?_ (hbs (ys.set i ((k + i : Nat) : Int))) ?_
      · simp
      simp [w1 (i := i) (by omega), below, hid]
      omega
    · simp at h1
      have : i = xs.length := by omega
      subst this
      simp [hy]
end Go.Proofs.YtbbobekgnclkfaaDoor
namespace Go.Proofs.YtbbobekgnclkfaaDoor
open Go Go.Aw
set_option maxRecDepth 100000
set_option maxHeartbeats 4000000
variable (G : Glob)
theorem t_markTextI (k i : Nat) (hn : k + i ≤ 1152921504606846976) : VF Tryd.prog G n_laws_markText [.p (.int .i64 ((k : Int) + (i : Int)))] (.p (.str (markW (k + i)))) := by
  have := t_markText G (k + i) hn
  rwa [Int.natCast_add] at this
theorem m_markStringS {h : List AO} {id : Nat} {xs : List (List UInt8)} {k : Nat} (hr : h[id]? = some (strO xs)) (hk : k + xs.length ≤ 1152921504606846976) :
    AC Tryd.prog G n_laws_markStringS [.sl id 1 0 xs.length, .p (.int .i64 k)] h fun x h' => x = .ret (.p (.int .i64 ((k + xs.length : Nat) : Int))) ∧ h' = h.set id (strO (mksW k xs.length)) := by
  refine AC.enterB k_laws_markStringS fun hb => AC.go k_laws_markStringS ?_
  have hid : id < h.length := (List.getElem?_eq_some_iff.1 hr).1
  have hbs : ∀ ys : List (List UInt8), HB (h.set id (strO ys)) := fun ys => hb.set_row fun e he => by
    obtain ⟨x, _, rfl⟩ := List.mem_map.1 he
    simp
  simp -implicitDefEqProofs [F_laws_markStringS]
  have e0 : mksW k 0 ++ xs.drop 0 = xs := by simp [mksW]
  refine loopA (fun a : Nat × List (List UInt8) => tsOf 20 [(0, .sl id 1 0 xs.length), (1, .p (.int .i64 ((k + a.1 : Nat) : Int))), (5, .p (.int .i64 a.1))]) (fun a => h.set id (strO a.2)) (fun a => a.1 ≤ xs.length ∧ a.2 = mksW k a.1 ++ xs.drop a.1) (fun a => xs.length - a.1) (0, xs) ⟨by simp, e0.symm⟩ ?_ ?_
  · have e : h.set id (strO xs) = h := by
      obtain ⟨hi, e⟩ := List.getElem?_eq_some_iff.1 hr
      rw [← e]; simp
    rw [e]
    exact wkt_refl (by simp) hb (by simp -implicitDefEqProofs [below, hid])
  · rintro ⟨i, ys⟩ ⟨hi, hy⟩
    simp only at hi hy
    simp -implicitDefEqProofs []
    refine cndb (fun h1 => ?_) (fun h1 => ?_)
    · simp at h1
      have hyl : ys.length = xs.length := by rw [hy]; simp [mksW]; omega
      have hys : ys.set i (markW (k + i)) = mksW k (i + 1) ++ xs.drop (i + 1) := by
        rw [hy, List.set_append_right _ _ (by simp [mksW])]
        simp only [mksW, List.length_map, List.length_range, Nat.sub_self]
        rw [List.drop_eq_getElem_cons h1, List.set_cons_zero, List.range_succ]
        simp
      have hg : (List.map (fun n => [AV.p (.str n)]) ys)[i]? = some [AV.p (.str (ys[i]'(by omega)))] := by rw [List.getElem?_map, List.getElem?_eq_getElem (by omega)]; rfl
      have hw1 : IntKind.i64.wrap ((k : Int) + (i : Int) + 1) = (k : Int) + (i : Int) + 1 := i64_small (by omega) (by omega)
      simp -implicitDefEqProofs []
      refine (t_markTextI G k i (by omega)).use ?_
      simp -implicitDefEqProofs [strO, hid, h1, hg, hw1]
      refine ⟨i + 1, ys.set i (markW (k + i)), ⟨h1, hys⟩, by omega, ?_⟩
      have e : (List.map (fun n => [AV.p (PV.str n)]) ys).set i [AV.p (PV.str (markW (k + i)))] = List.map (fun n => [AV.p (PV.str n)]) (ys.set i (markW (k + i))) := by
        rw [List.map_set]
      rw [e]
      refine wkt_refl ?_ (hbs (ys.set i (markW (k + i)))) ?_
      · simp
      simp [w1 (i := i) (by omega), below, hid]
      omega
    · simp at h1
      have : i = xs.length := by omega
      subst this
      simp [hy]
theorem t_heldStringS (k n : Nat) (hk : k + n ≤ 1152921504606846976) : VF Tryd.prog G n_laws_heldStringS [.p (strL (mksW k n)), .p (.int .i64 k)] (.p (.int .i64 ((k + n : Nat) : Int))) := by
  refine AC.go k_laws_heldStringS ?_
  have hsl : ∀ l, strL l = .lst 1 (l.map fun w => [.str w]) := fun _ => rfl
  have hl := mksW_len k n
  simp -implicitDefEqProofs [F_laws_heldStringS]
  refine loopA (fun i : Nat => tsOf 22 [(0, .p (strL (mksW k n))), (1, .p (.int .i64 ((k + i : Nat) : Int))), (5, .p (.int .i64 i))]) (fun _ => []) (fun i => i ≤ n) (fun i => n - i) 0 (by simp) ?_ ?_
  · exact wkt_nil rfl (by simp [below, strL])
  intro i hi
  simp -implicitDefEqProofs [hsl, hl]
  refine cndb (fun h1 => ?_) (fun h1 => ?_)
  · simp at h1
    have hg : (mksW k n)[i]? = some (markW (k + i)) := by simp [mksW, h1]
    have hw1 : IntKind.i64.wrap ((k : Int) + (i : Int) + 1) = (k : Int) + (i : Int) + 1 := i64_small (by omega) (by omega)
    clear hl
    simp -implicitDefEqProofs [hg]
    refine (t_markTextI G k i (by omega)).use ?_
    simp -implicitDefEqProofs [hw1]
    refine ⟨i + 1, h1, by omega, wkt_nil rfl ?_⟩
    simp [below, strL, w1 (i := i) (by omega)]
    omega
  · simp at h1
    have : i = n := by omega
    subst this
    simp -implicitDefEqProofs []
/-- An object's cells, the lists owned. -/
def Obj.ov (o : Obj) (a b c : Nat) : List AV := [.p (.str o.name), .p (.int .i64 o.params), .p (.int .i64 o.slots), .sl a 1 0 o.code.length, .sl b 1 0 o.calls.length, .sl c 1 0 o.names.length]
theorem m_markObject {h : List AO} {a b c : Nat} {o : Obj} {k : Nat} (h1 : h[a]? = some (bysO o.code)) (h2 : h[b]? = some (numO o.calls)) (h3 : h[c]? = some (strO o.names)) (hab : a ≠ b) (hac : a ≠ c) (hbc : b ≠ c)
    (hk : k + o.code.length + o.calls.length + o.names.length ≤ 1152921504606846976) :
    AC Tryd.prog G n_laws_markObject [.agg (o.ov a b c), .p (.int .i64 k)] h fun x h' => x = .ret (.p (.int .i64 ((k + o.code.length + o.calls.length + o.names.length : Nat) : Int))) ∧
      ∃ z, h' = ((h.set a (bysO (mks8 k o.code.length))).set b (numO (mksN (k + o.code.length) o.calls.length))).set c (strO (mksW (k + o.code.length + o.calls.length) o.names.length)) ++ [z] := by
  have ha := (List.getElem?_eq_some_iff.1 h1).1
  have hbl := (List.getElem?_eq_some_iff.1 h2).1
  have hcl := (List.getElem?_eq_some_iff.1 h3).1
  refine AC.go k_laws_markObject ?_
  simp -implicitDefEqProofs [F_laws_markObject, Obj.ov]
  refine (m_markByteS G (xs := o.code) (k := k) (by rw [List.getElem?_append_left ha]; exact h1) (by omega)).mono ?_
  rintro x h' ⟨rfl, rfl⟩
  rw [List.set_append_left _ _ ha]
  simp -implicitDefEqProofs [callR_nxt]
  have hb2 : b < (h.set a (bysO (mks8 k o.code.length))).length := by rw [List.length_set]; exact hbl
  have c2 := m_markIntS G (xs := o.calls) (k := k + o.code.length) (h := h.set a (bysO (mks8 k o.code.length)) ++ [.row 6 [o.ov a b c]]) (id := b) (by rw [List.getElem?_append_left hb2, List.getElem?_set_ne hab]; exact h2) (by omega)
  rw [List.set_append_left _ _ hb2, Int.natCast_add] at c2
  refine c2.mono ?_
  rintro x h' ⟨rfl, rfl⟩
  simp -implicitDefEqProofs [callR_nxt, Obj.ov]
  have hc2 : c < ((h.set a (bysO (mks8 k o.code.length))).set b (numO (mksN (k + o.code.length) o.calls.length))).length := by rw [List.length_set, List.length_set]; exact hcl
  have c3 := m_markStringS G (xs := o.names) (k := k + o.code.length + o.calls.length) (h := (h.set a (bysO (mks8 k o.code.length))).set b (numO (mksN (k + o.code.length) o.calls.length)) ++ [.row 6 [o.ov a b c]]) (id := c) (by rw [List.getElem?_append_left hc2, List.getElem?_set_ne hbc, List.getElem?_set_ne hac]; exact h3) (by omega)
  rw [List.set_append_left _ _ hc2, Int.natCast_add, Int.natCast_add] at c3
  refine c3.mono ?_
  rintro x h' ⟨rfl, rfl⟩
  simp -implicitDefEqProofs [callR_nxt]
end Go.Proofs.YtbbobekgnclkfaaDoor
namespace Go.Proofs.YtbbobekgnclkfaaDoor
open Go Go.Aw
set_option maxRecDepth 100000
set_option maxHeartbeats 4000000
variable (G : Glob)
theorem s_l2Has (L : List (List UInt8)) (s : List UInt8) (hb : L.length ≤ 1048576) : VF Tryd.prog G n_spec_l2Has [.p (strL L), .p (.str s)] (.p (.bool (L.contains s))) := by
  refine AC.go k_spec_l2Has ?_
  have hsl : strL L = .lst 1 (L.map fun w => [.str w]) := rfl
  simp -implicitDefEqProofs [F_spec_l2Has, hsl]
  refine loopA (fun i : Nat => tsOf 18 [(0, .p (strL L)), (1, .p (.str s)), (5, .p (.int .i64 i))]) (fun _ => []) (fun i => i ≤ L.length ∧ ∀ w ∈ L.take i, w ≠ s) (fun i => L.length - i) 0 (by simp) ?_ ?_
  · exact wkt_nil rfl (by simp [below, strL])
  · intro i ⟨hi, hn⟩
    simp -implicitDefEqProofs [hsl]
    refine cndb (fun h1 => ?_) (fun h1 => ?_)
    · simp at h1
      have hg := List.getElem?_eq_getElem h1
      by_cases he : L[i] = s
      · have hf : L.contains s = true := by rw [List.contains_iff_mem, ← he]; exact List.getElem_mem h1
        have hf' : s ∈ L := by rw [← he]; exact List.getElem_mem h1
        simp -implicitDefEqProofs [hg, hf', he]
      · simp -implicitDefEqProofs [hg, he]
        refine ⟨i + 1, ⟨h1, fun p hp => ?_⟩, by omega, wkt_nil rfl ?_⟩
        · rw [take_succ' h1] at hp
          rcases List.mem_append.1 hp with hp | hp
          · exact hn p hp
          · rw [List.mem_singleton.1 hp]; exact he
        · simp [below, strL, w1 (i := i) (by omega)]
    · simp at h1
      rw [List.take_of_length_le h1] at hn
      have hf : ¬ s ∈ L := fun hm => absurd rfl (hn s hm)
      simp -implicitDefEqProofs [hf]
theorem strO_pure (l : List (List UInt8)) : ∀ x ∈ l.map (fun w => [AV.p (.str w)]), belowL 0 x := by
  intro x hx; obtain ⟨m, _, rfl⟩ := List.mem_map.1 hx; simp [belowL, below]
theorem nofnO_str (l : List (List UInt8)) : nofnO (strO l) = true := by simp [nofnO, strO, nofnL, nofn]
theorem shiftO_str (n : Nat) (l : List (List UInt8)) : shiftO n (strO l) = strO l := by
  simp only [shiftO, strO, List.map_map]; rfl
variable (hG : G g_forms = some pvForms) (hK : G g_keys = some pvKeys)
include hG hK
end Go.Proofs.YtbbobekgnclkfaaDoor
namespace Go.Proofs.YtbbobekgnclkfaaDoor
open Go Go.Aw
set_option maxRecDepth 100000
set_option maxHeartbeats 4000000
variable (G : Glob)
theorem nofnO_byS (l : List Int) : nofnO (bysO l) = true := by simp [nofnO, bysO, nofnL, nofn]
theorem nofnO_num (l : List Int) : nofnO (numO l) = true := by simp [nofnO, numO, nofnL, nofn]
theorem shiftO_num (n : Nat) (l : List Int) : shiftO n (numO l) = numO l := by
  simp only [shiftO, numO, List.map_map]; rfl
theorem bysO_pure (l : List Int) : ∀ x ∈ l.map (fun w => [AV.p (.int .u8 w)]), belowL 0 x := by
  intro x hx; obtain ⟨m, _, rfl⟩ := List.mem_map.1 hx; simp [belowL, below]
theorem numO_pure (l : List Int) : ∀ x ∈ l.map (fun w => [AV.p (.int .i64 w)]), belowL 0 x := by
  intro x hx; obtain ⟨m, _, rfl⟩ := List.mem_map.1 hx; simp [belowL, below]
theorem t_markStringS_nil (k : Int) : VF Tryd.prog G n_laws_markStringS [.nils, .p (.int .i64 k)] (.p (.int .i64 k)) := by
  refine AC.go k_laws_markStringS ?_
  simp -implicitDefEqProofs [F_laws_markStringS]
  refine loopA (fun _ : Unit => tsOf 20 [(0, .nils), (1, .p (.int .i64 k)), (5, .p (.int .i64 0))]) (fun _ => []) (fun _ => True) (fun _ => 0) () trivial (wkt_nil rfl (by simp)) ?_
  intro _ _
  simp -implicitDefEqProofs []
theorem obj_view2 {h : List AO} {o : Obj} {a b c : Nat} (e1 : h[a]? = some (bysO o.code)) (e2 : h[b]? = some (numO o.calls)) (e3 : h[c]? = some (strO o.names)) : Views h [.agg (o.ov a b c), .agg (o.cs.map .p)] [.agg (o.cs.map .p), .agg (o.cs.map .p)] :=
  .agg (.keep (by simp [below]) (.keep (by simp [below]) (.keep (by simp [below]) (.one (bysO_view e1) (.one (numO_view e2) (.one (strO_view e3) .nil)))))) (.keep (by simp [below, belowL, Obj.cs]) .nil)
variable (hG : G g_forms = some pvForms) (hK : G g_keys = some pvKeys)
include hG hK
end Go.Proofs.YtbbobekgnclkfaaDoor
namespace Go.Proofs.YtbbobekgnclkfaaDoor
open Go Go.Aw
set_option maxRecDepth 100000
set_option maxHeartbeats 4000000
theorem blankI_op (x : Mins) : (blankI x).op = x.op := by unfold blankI; split <;> rfl
theorem blankI_jmp (x : Mins) : jmp (blankI x) = jmp x := by simp only [jmp, blankI_op]
theorem blankI_keep {x : Mins} (h : jmp x = true) : blankI x = x := by
  unfold blankI
  rw [if_neg]
  intro e
  simp [jmp, e] at h
theorem plainB_blank (x : Mins) : (plainB (blankI x)).length = (plainB x).length := by
  by_cases e : x.op = 14
  · have h : blankI x = { x with n := 0 } := by rw [blankI, if_pos e]
    rw [h]
    simp only [plainB, e]
    simp [inR]
  · rw [blankI, if_neg e]
theorem sizeB_blank (x : Mins) (b : Bool) : sizeB (blankI x) b = sizeB x b := by
  simp only [sizeB, blankI_jmp, blankI_op, plainB_blank]
theorem zip_blank : ∀ (ins : List Mins) (L : List Bool), List.zipWith sizeB (ins.map blankI) L = List.zipWith sizeB ins L
  | [], _ => by simp
  | _ :: _, [] => by simp
  | x :: r, b :: L => by simp only [List.map_cons, List.zipWith_cons_cons, sizeB_blank, zip_blank r L]
theorem plc_blank (ins : List Mins) (L : List Bool) (i : Nat) : plc (ins.map blankI) L i = plc ins L i := by rw [plc, zip_blank]; rfl
theorem need_blank (ins : List Mins) (L : List Bool) (i : Nat) : need (ins.map blankI) L i = need ins L i := by
  unfold need
  rw [List.getElem?_map]
  cases ins[i]? with
  | none => rfl
  | some x =>
    simp only [Option.map_some, plc_blank, blankI_jmp, sizeB_blank]
    cases h : jmp x with
    | false => rfl
    | true => rw [blankI_keep h]
theorem roundL_blank (ins : List Mins) (L : List Bool) : roundL (ins.map blankI) L = roundL ins L := by
  unfold roundL
  congr 1
  funext i b
  rw [need_blank]
theorem fixL_blank (ins : List Mins) : ∀ (n : Nat) (L : List Bool), countF L ≤ n → fixL (ins.map blankI) L = fixL ins L := by
  intro n
  induction n with
  | zero =>
    intro L h
    have hs : roundL ins L = L := by
      rcases countF_map L (need ins L) with e | e
      · exact e
      · omega
    rw [fixL_same hs, fixL_same (by rw [roundL_blank]; exact hs)]
  | succ n ih =>
    intro L h
    by_cases hs : roundL ins L = L
    · rw [fixL_same hs, fixL_same (by rw [roundL_blank]; exact hs)]
    · rw [fixL_next hs, fixL_next (by rw [roundL_blank]; exact hs), roundL_blank]
      exact ih _ (by
        rcases countF_map L (need ins L) with e | e
        · exact absurd e hs
        · have : countF (roundL ins L) < countF L := e
          omega)
theorem longs_blank (ins : List Mins) : longs (ins.map blankI) = longs ins := by
  rw [longs, longs, List.length_map]
  exact fixL_blank ins _ _ (Nat.le_refl _)
theorem plcs_blank (ins : List Mins) (L : List Bool) (k : Nat) : plcs (ins.map blankI) L k = plcs ins L k := by
  unfold plcs
  exact List.map_congr_left fun i _ => plc_blank ins L i
theorem mostStep_ge {m : Nat} {x : Mins} : m ≤ mostStep m x := by unfold mostStep; split <;> omega
theorem mostS_fold : ∀ (ins : List Mins) (m : Nat), m ≤ ins.foldl mostStep m ∧ (∀ x ∈ ins, x.op = 14 → x.n < 4 → x.n < (ins.foldl mostStep m : Nat)) ∧ (∀ e : Nat, m ≤ e → (∀ x ∈ ins, x.op = 14 → x.n < e) → ins.foldl mostStep m ≤ e)
  | [], m => ⟨Nat.le_refl _, fun x h => by simp at h, fun e h _ => h⟩
  | y :: r, m => by
    obtain ⟨i1, i2, i3⟩ := mostS_fold r (mostStep m y)
    have hg := mostStep_ge (m := m) (x := y)
    refine ⟨Nat.le_trans hg i1, fun x hx ho hn => ?_, fun e h1 h2 => ?_⟩
    · rcases List.mem_cons.1 hx with rfl | hx
      · have : x.n < (mostStep m x : Nat) := by unfold mostStep; split <;> omega
        simp only [List.foldl_cons]; omega
      · exact i2 x hx ho hn
    · refine i3 e ?_ fun x hx ho => h2 x (by simp [hx]) ho
      have := h2 y (by simp)
      unfold mostStep
      split
      · rename_i h; have := this h.1; omega
      · exact h1
theorem mostS_ge {ins : List Mins} {x : Mins} (hx : x ∈ ins) (ho : x.op = 14) (hn : x.n < 4) : x.n < (mostS ins : Nat) := (mostS_fold ins 0).2.1 x hx ho hn
theorem mostS_le {ins : List Mins} {e : Nat} (h : ∀ x ∈ ins, x.op = 14 → x.n < e) : mostS ins ≤ e := (mostS_fold ins 0).2.2 e (by omega) h
theorem backF_ok (k : Int) : fnOk k backF = true := by rfl
theorem insOk_call {p s len k e : Int} {x : Mins} (h : insOk p s len k x = true) (hc : x.op = 14 → x.n < e) : insOk p s len e x = true := by
  by_cases ho : x.op = 14
  · have := hc ho
    simp only [insOk, Bool.and_eq_true] at h ⊢
    refine ⟨h.1, ?_⟩
    have h2 := h.2
    simp [fN, mostN, ho, inR] at h2 ⊢
    omega
  · have e1 : mostN p s len e x.op = mostN p s len k x.op := by simp [mostN, ho]
    simp only [insOk, Bool.and_eq_true, e1] at h ⊢
    exact h
theorem insOk_n {p s len k : Int} {x : Mins} (h : insOk p s len k x = true) (ho : x.op = 14) : 0 ≤ x.n ∧ x.n < k := by
  simp only [insOk, Bool.and_eq_true] at h
  have h2 := h.2
  simp [fN, mostN, ho, inR] at h2
  omega
theorem fnOk_call {k e : Int} {f : Mfn} (h : fnOk k f = true) (hc : ∀ x ∈ f.ins, x.op = 14 → x.n < e) : fnOk e f = true := by
  simp only [fnOk, Bool.and_eq_true, List.all_eq_true] at h ⊢
  exact ⟨h.1, fun x hx => insOk_call (h.2 x hx) (hc x hx)⟩
theorem fnsOk_alone {f : Mfn} : ∀ (e : Nat) (k : Int), fnOk (k + e) f = true → fnsOk k (List.replicate e backF ++ [f]) = true
  | 0, k, h => by
    have h' : fnOk k f = true := by simpa using h
    simp [fnsOk, h']
  | e + 1, k, h => by
    have := fnsOk_alone e (k + 1) (by rw [show k + 1 + (e : Int) = k + ((e + 1 : Nat) : Int) by omega]; exact h)
    simp [List.replicate_succ, fnsOk, backF_ok, this]
/-- Within a machine only the room decides. -/
theorem codeOk_room {k : Nat} {f : Mfn} (h : fnOk k f = true) (hk : k ≤ 3) (hs : k + f.ins.length ≤ 2000) : codeOk f = decide (plc f.ins (longs f.ins) f.ins.length ≤ 8000) := by
  have hall : ∀ x ∈ f.ins, insOk f.params f.slots f.ins.length k x = true := by
    simp only [fnOk, Bool.and_eq_true, List.all_eq_true] at h
    exact h.2
  have hle : mostS f.ins ≤ k := mostS_le fun x hx ho => (insOk_n (hall x hx) ho).2
  have hok : fnOk (mostS f.ins : Nat) f = true := fnOk_call h fun x hx ho => mostS_ge hx ho (by have := (insOk_n (hall x hx) ho).2; omega)
  have hm : machOk (aloneF (mostS f.ins) f) = true := by
    simp only [machOk, Bool.and_eq_true, decide_eq_true_eq]
    refine ⟨⟨?_, by rw [insSum_alone]; omega⟩, fnsOk_alone _ 0 (by simpa using hok)⟩
    simp [aloneF, inR]
    omega
  rw [codeOk, hm, Bool.true_and]
theorem lastOk_blank (l : List Mins) : lastOk (l.map blankI) = lastOk l := by
  unfold lastOk
  rw [List.getLast?_map]
  cases l.getLast? with
  | none => rfl
  | some x => simp only [Option.map_some, blankI_op]
theorem fnOk_blank {k : Int} {f : Mfn} (h : fnOk k f = true) : fnOk k (blankF f) = true := by
  simp only [fnOk, Bool.and_eq_true, List.all_eq_true] at h
  obtain ⟨⟨⟨h1, h2⟩, h3⟩, h4⟩ := h
  have hl : (blankF f).ins = f.ins.map blankI := rfl
  simp only [fnOk, Bool.and_eq_true, List.all_eq_true, hl, lastOk_blank, List.length_map]
  refine ⟨⟨⟨h1, h2⟩, h3⟩, fun x hx => ?_⟩
  obtain ⟨y, hy, rfl⟩ := List.mem_map.1 hx
  have hi := h4 y hy
  by_cases ho : y.op = 14
  · have hn := insOk_n hi ho
    rw [blankI, if_pos ho]
    simp only [insOk, Bool.and_eq_true, ho] at hi ⊢
    refine ⟨⟨⟨⟨⟨hi.1.1.1.1.1, by simp [fN]⟩, hi.1.1.1.2⟩, hi.1.1.2⟩, hi.1.2⟩, ?_⟩
    simp [fN, mostN, inR]
    omega
  · rw [blankI, if_neg ho]; exact hi
theorem codeOk_blank {k : Nat} {f : Mfn} (h : fnOk k f = true) (hk : k ≤ 3) (hs : k + f.ins.length ≤ 2000) : codeOk (blankF f) = codeOk f := by
  have hl : (blankF f).ins = f.ins.map blankI := rfl
  rw [codeOk_room h hk hs, codeOk_room (fnOk_blank h) hk (by rw [hl, List.length_map]; exact hs), hl, longs_blank, plc_blank, List.length_map]
theorem plaF_blank {f : Mfn} (hc : codeOk (blankF f) = codeOk f) : plaF (blankF f) = plaF f := by
  have hl : (blankF f).ins = f.ins.map blankI := rfl
  rw [plaF, plaF, hc, hl, longs_blank, plcs_blank, List.length_map]
theorem callsF_blank {f : Mfn} (hc : codeOk (blankF f) = codeOk f) : callsF (blankF f) = callsF f := by
  have hl : (blankF f).ins = f.ins.map blankI := rfl
  have key : ∀ (l : List Mins) (ps : List Nat), (List.zip (l.map blankI) ps).flatMap (fun x => clsI x.1 x.2) = (List.zip l ps).flatMap fun x => clsI x.1 x.2 := by
    intro l
    induction l with
    | nil => intro ps; rfl
    | cons x r ih =>
      intro ps
      cases ps with
      | nil => rfl
      | cons p q =>
        simp only [List.map_cons, List.zip_cons_cons, List.flatMap_cons, ih]
        simp only [clsI, blankI_op]
  rw [callsF, callsF, plaF_blank hc, hl, key]
/-- A machine's function: its number and its room. -/
theorem mach_fn {fs : List Mfn} (h : machOk fs = true) {i : Nat} {f : Mfn} (hi : fs[i]? = some f) : fnOk i f = true ∧ i ≤ 3 ∧ i + f.ins.length ≤ 2000 := by
  simp only [machOk, Bool.and_eq_true, decide_eq_true_eq] at h
  obtain ⟨⟨h1, h2⟩, h3⟩ := h
  have hil := (List.getElem?_eq_some_iff.1 hi).1
  have hf := fnsOk_get h3 hi
  simp [inR] at h1
  refine ⟨by simpa using hf, by omega, ?_⟩
  have hpos : ∀ g ∈ fs, 0 < g.ins.length := fun g hg => by
    obtain ⟨j, hj, rfl⟩ := List.getElem_of_mem hg
    have := fnsOk_get h3 (List.getElem?_eq_getElem hj)
    simp only [fnOk, Bool.and_eq_true] at this
    have hl := this.1.2
    cases e : fs[j].ins with
    | nil => rw [e] at hl; simp [lastOk] at hl
    | cons a r => simp
  have key : ∀ (l : List Mfn) (i : Nat) (f : Mfn), (∀ g ∈ l, 0 < g.ins.length) → l[i]? = some f → i + f.ins.length ≤ insSum l := by
    intro l
    induction l with
    | nil => intro i f _ h; simp at h
    | cons g r ih =>
      intro i f hp h
      have hg := hp g (by simp)
      cases i with
      | zero => cases h; simp [insSum]
      | succ i =>
        have := ih i f (fun g hg => hp g (by simp [hg])) h
        simp only [insSum, List.map_cons, List.sum_cons] at this ⊢
        omega
  exact Nat.le_trans (key fs i f hpos hi) h2
end Go.Proofs.YtbbobekgnclkfaaDoor
namespace Go.Proofs.YtbbobekgnclkfaaDoor
open Go Go.Aw
set_option maxRecDepth 100000
set_option maxHeartbeats 4000000
/-- The i-th word is a name and none of those ahead. -/
def nmAt (L : List (List UInt8)) (i : Nat) : Bool := match L[i]? with
  | some w => isName w && !((L.take i).contains w)
  | none => false
def nmsT (L : List (List UInt8)) (i : Nat) : Bool := (List.range i).all (nmAt L)
def nmsOk (L : List (List UInt8)) : Bool := nmsT L L.length
theorem nmsT_succ (L : List (List UInt8)) (i : Nat) : nmsT L (i + 1) = (nmsT L i && nmAt L i) := by simp [nmsT, List.range_succ]
theorem nmsT_bad {L : List (List UInt8)} {i : Nat} (h : i < L.length) (hb : nmAt L i = false) : nmsOk L = false := by
  rw [nmsOk, nmsT, List.all_eq_false]
  exact ⟨i, List.mem_range.2 h, by rw [hb]; simp⟩
variable (G : Glob)
theorem s_l26Names (L : List (List UInt8)) (hb : L.length ≤ 1048576) (hw : ∀ x ∈ L, x.length ≤ 140737488355328) : VF Tryd.prog G n_spec_l26Names [.p (strL L)] (.p (.bool (nmsOk L))) := by
  refine AC.go k_spec_l26Names ?_
  have hsl : ∀ L, strL L = .lst 1 (L.map fun w => [.str w]) := fun _ => rfl
  simp -implicitDefEqProofs [F_spec_l26Names, hsl]
  refine loopA (fun i : Nat => tsOf 26 [(0, .p (strL L)), (3, .p (.int .i64 i))]) (fun _ => []) (fun i => i ≤ L.length ∧ nmsT L i = true) (fun i => L.length - i) 0 (by simp [nmsT]) ?_ ?_
  · exact wkt_nil rfl (by simp [below, strL])
  · intro i ⟨hi, hn⟩
    simp -implicitDefEqProofs [hsl]
    refine cndb (fun h1 => ?_) (fun h1 => ?_)
    · simp at h1
      have hg := List.getElem?_eq_getElem h1
      have hat : nmAt L i = (isName L[i] && !((L.take i).contains L[i])) := by rw [nmAt, hg]
      simp -implicitDefEqProofs [hg]
      refine (s_IsName G _ (hw _ (List.getElem_mem h1))).use ?_
      by_cases h2 : isName L[i] = true
      case neg =>
        have hbad := nmsT_bad h1 (by rw [hat]; simp [h2])
        simp -implicitDefEqProofs [h2, hbad]
      simp -implicitDefEqProofs [h2, hg]
      have hl2 := s_l2Has G (L.take i) L[i] (by rw [List.length_take]; omega)
      rw [hsl, List.map_take] at hl2
      refine ⟨hi, hl2.use ?_⟩
      by_cases hm : L[i] ∈ L.take i
      · have hbad := nmsT_bad h1 (by rw [hat]; simp [hm])
        simp -implicitDefEqProofs [hm, hbad]
      · simp -implicitDefEqProofs [hm]
        refine ⟨i + 1, ⟨h1, ?_⟩, by omega, wkt_nil rfl ?_⟩
        · rw [nmsT_succ, hn, hat, h2]; simp [hm]
        · simp [below, strL, w1 (i := i) (by omega)]
    · simp at h1
      have : nmsOk L = true := by rw [nmsOk, show L.length = i by omega]; exact hn
      simp -implicitDefEqProofs [this]
end Go.Proofs.YtbbobekgnclkfaaDoor
namespace Go.Proofs.YtbbobekgnclkfaaDoor
open Go Go.Aw
set_option maxRecDepth 100000
set_option maxHeartbeats 4000000
/-- The names at the calls' numbers. -/
def nmC (names : List (List UInt8)) (x : Mins) : List (List UInt8) := if x.op = 14 then [names.getD x.n.toNat []] else []
def nmT (f : Mfn) (names : List (List UInt8)) (k : Nat) : List (List UInt8) := (f.ins.take k).flatMap (nmC names)
def nmF (f : Mfn) (names : List (List UInt8)) : List (List UInt8) := f.ins.flatMap (nmC names)
theorem nmT_zero (f : Mfn) (names : List (List UInt8)) : nmT f names 0 = [] := rfl
theorem nmT_succ {f : Mfn} {names : List (List UInt8)} {k : Nat} (h : k < f.ins.length) : nmT f names (k + 1) = nmT f names k ++ nmC names f.ins[k] := by
  rw [nmT, take_succ' h, List.flatMap_append]; simp [nmT]
theorem nmT_all (f : Mfn) (names : List (List UInt8)) : nmT f names f.ins.length = nmF f names := by rw [nmT, List.take_of_length_le (Nat.le_refl _)]; rfl
theorem nmT_len (f : Mfn) (names : List (List UInt8)) (k : Nat) : (nmT f names k).length ≤ k := by
  have key : ∀ l : List Mins, (l.flatMap (nmC names)).length ≤ l.length := by
    intro l
    induction l with
    | nil => simp
    | cons a r ih =>
      rw [List.flatMap_cons, List.length_append, List.length_cons]
      have : (nmC names a).length ≤ 1 := by unfold nmC; split <;> simp
      omega
  have := key (f.ins.take k)
  rw [List.length_take] at this
  exact Nat.le_trans this (Nat.min_le_left ..)
def zObjV : List AV := [.p (.str []), .p (.int .i64 0), .p (.int .i64 0), .nils, .nils, .nils]
def zObj : Obj := ⟨[], 0, 0, [], [], []⟩
/-- The object of a machine's i-th function. -/
def objOf (fs : List Mfn) (i : Int) (names : List (List UInt8)) : Option Obj :=
  if machOk fs = true ∧ inR i 0 (fs.length - 1) = true ∧ names.length = fs.length ∧ nmsOk names = true then
    match fs[i.toNat]? with
    | some f => if codeOk f then some ⟨names.getD i.toNat [], f.params, f.slots, encB (blankF f), callsF f, nmF f names⟩ else none
    | none => none
  else none
variable (G : Glob)
theorem k_l24Copy (f : Mfn) (hb : f.ins.length ≤ 1000000) : AC Tryd.prog G n_spec_l24Copy [.agg (f.cs.map .p)] [] fun x h => ∃ id, x = .ret (.agg (f.ov id)) ∧ h[id]? = some (insO f.ins) := by
  refine AC.go k_spec_l24Copy ?_
  simp -implicitDefEqProofs [F_spec_l24Copy, Mfn.cs]
  exact ⟨⟨by omega, by omega⟩, 3, rfl, rfl⟩
theorem o_l24Copy (f : Mfn) (hb : f.ins.length ≤ 1000000) : AC Tryd.prog G n_spec_l24Copy [.agg (f.cs.map .p)] [] fun x h => x = .ret (.agg (f.ov 0)) ∧ h = [insO f.ins] := by
  refine (k_l24Copy G f hb).gc (fun t v h ⟨id, e, _⟩ => by cases e) fun v h ⟨id, e1, e2⟩ => ?_
  cases e1
  exact ⟨.agg (f.ov 0), [insO f.ins], ⟨[id], by simp, by simp, by simp, by simp [below, belowL, Mfn.ov], by simp [ren, renL, Mfn.ov], hw_row e2 (av_pure _) hw_nil⟩, rfl, rfl⟩
theorem s_ObjectOf (fs : List Mfn) (i : Int) (names : List (List UInt8)) (hb : szF fs + szW names ≤ 1048576) : VF Tryd.prog G n_spec_ObjectOf [.agg [.p (fnsL fs)], .p (.int .i64 i), .p (strL names)] (.tup [.agg (((objOf fs i names).getD zObj).cs.map .p), .p (.bool (objOf fs i names).isSome)]) := by
  have key : AC Tryd.prog G n_spec_ObjectOf [.agg [.p (fnsL fs)], .p (.int .i64 i), .p (strL names)] [] fun x h => match objOf fs i names with
      | none => x = .ret (.tup [.agg [.p (.str []), .p (.int .i64 0), .p (.int .i64 0), .nils, .nils, .nils], .p (.bool false)])
      | some o => ∃ a b c, x = .ret (.tup [.agg (o.ov a b c), .p (.bool true)]) ∧ h[a]? = some (bysO o.code) ∧ h[b]? = some (numO o.calls) ∧ h[c]? = some (strO o.names) := by
    refine AC.go k_spec_ObjectOf ?_
    have hsl : ∀ L, strL L = .lst 1 (L.map fun w => [.str w]) := fun _ => rfl
    have hfl : fnsL fs = .lst 3 (fs.map Mfn.cs) := rfl
    have hsz : szF fs = fs.length + (fs.map (·.ins.length)).sum := rfl
    have hwz : szW names = names.length + (names.map List.length).sum := rfl
    have hww : ∀ x ∈ names, x.length ≤ 140737488355328 := fun x hx => by have := sum_ge hx; omega
    simp -implicitDefEqProofs [F_spec_ObjectOf]
    refine (s_MachValid G fs (by omega)).use ?_
    by_cases h1 : machOk fs = true
    case neg =>
      have ho : objOf fs i names = none := by rw [objOf, if_neg (fun h => h1 h.1)]
      simp -implicitDefEqProofs [h1, ho]
    have hw : IntKind.i64.wrap ((fs.length : Int) - 1) = (fs.length : Int) - 1 := i64_small (by omega) (by omega)
    simp -implicitDefEqProofs [h1, hfl, hw]
    refine (s_l1In G _ _ _).use ?_
    by_cases h2 : inR i 0 (fs.length - 1) = true
    case neg =>
      have ho : objOf fs i names = none := by rw [objOf, if_neg (fun h => h2 h.2.1)]
      simp -implicitDefEqProofs [h2, ho]
    simp -implicitDefEqProofs [h2, hfl, hsl]
    by_cases h3 : names.length = fs.length
    case neg =>
      have h3' : ¬ (names.length : Int) = (fs.length : Int) := by omega
      have ho : objOf fs i names = none := by rw [objOf, if_neg (fun h => h3 h.2.2.1)]
      simp -implicitDefEqProofs [h3, h3', ho]
    simp -implicitDefEqProofs [h3]
    rw [← hsl]
    refine (s_l26Names G names (by omega) hww).use ?_
    by_cases h4 : nmsOk names = true
    case neg =>
      have ho : objOf fs i names = none := by rw [objOf, if_neg (fun h => h4 h.2.2.2)]
      simp -implicitDefEqProofs [h4, ho]
    obtain ⟨j, rfl⟩ : ∃ j : Nat, i = j := ⟨i.toNat, by simp [inR] at h2; omega⟩
    have hj : j < fs.length := by simp [inR] at h2; omega
    have hjn : j < names.length := by omega
    have hg := List.getElem?_eq_getElem hj
    have hgn := List.getElem?_eq_getElem hjn
    obtain ⟨q1, q2, q3⟩ := mach_fn h1 hg
    have ho : objOf fs j names = if codeOk fs[j] then some ⟨names[j], fs[j].params, fs[j].slots, encB (blankF fs[j]), callsF fs[j], nmF fs[j] names⟩ else none := by
      rw [objOf, if_pos ⟨h1, h2, h3, h4⟩, Int.toNat_natCast, hg]
      simp [List.getD, hgn]
    generalize fs[j] = f at hg q1 q3 ho
    simp -implicitDefEqProofs [h4, hsl, hg]
    have hil : f.ins.length ≤ 1000000 := by omega
    refine (AC.lift (o_l24Copy G f hil) (by simp [belowL, below]) rfl (by simp only [List.all_cons, List.all_nil, nofnO_insA]; rfl)).mono ?_
    rintro r h ⟨rfl, rfl⟩
    simp -implicitDefEqProofs [callR_nxt, shiftV, shiftL, shiftO_ins, Mfn.ov, hgn, hjn]
    have hall : ∀ x ∈ f.ins, insOk f.params f.slots f.ins.length j x = true := by
      simp only [fnOk, Bool.and_eq_true, List.all_eq_true] at q1
      exact q1.2
    have hso : ∀ l, strO l = .row 1 (l.map fun w => [.p (.str w)]) := fun _ => rfl
    have hbo : ∀ l, insO l = .row 5 (l.map Mins.av) := fun _ => rfl
    refine loopA (fun k : Nat => tsOf 102 [(2, .p (strL names)), (6, .ptr 1 6 0 0), (8, .ptr 3 3 0 0), (9, .ptr 5 6 0 0), (10, .p (.int .i64 k))])
      (fun k => [.row 1 [[.p (fnsL fs)]], .row 6 [zObjV], insO (blankT f k), .row 3 [f.ov 2], strO (nmT f names k), .row 6 [[.p (.str names[j]), .p (.int .i64 f.params), .p (.int .i64 f.slots), .nils, .nils, .sl 4 1 0 (nmT f names k).length]]])
      (fun k => k ≤ f.ins.length) (fun k => f.ins.length - k) 0 (by simp) ?_ ?_
    · rw [blankT_zero, nmT_zero]
      refine wkt_pick [0, 1, 2, 3, 4, 5] rfl (by decide) (hw_row rfl (by simp [belowL, below]) (hw_row rfl (by simp [zObjV, belowL, below]) (hw_row rfl (av_pure _) (hw_rowr (by simp [Mfn.ov, below]) (by simp [Mfn.ov, ren, renL]) (hw_row rfl (by simp) (hw_rowr (by simp [below]) (by simp [ren, renL]) hw_nil)))))) ?_
      simp [below, ren, hsl]
    · intro k hk
      simp -implicitDefEqProofs [Mfn.ov]
      refine cndb (fun h5 => ?_) (fun h5 => ?_)
      · simp at h5
        have hgb := blankT_get h5
        have hsu := nmT_succ (names := names) h5
        have hnl := nmT_len f names k
        by_cases hop : f.ins[k].op = 14
        · obtain ⟨n1, n2⟩ := insOk_n (hall _ (List.getElem_mem h5)) hop
          obtain ⟨q, hq⟩ : ∃ q : Nat, f.ins[k].n = q := ⟨f.ins[k].n.toNat, by omega⟩
          have hqn : q < names.length := by omega
          have hgq := List.getElem?_eq_getElem hqn
          have hs := blankT_set h5
          have hs2 : ((blankT f k).map Mins.av).set k [.p (.int .i64 14), .p (.int .i64 f.ins[k].a), .p (.int .i64 f.ins[k].b), .p (.int .i64 f.ins[k].c), .p (.int .i64 0)] = (blankT f (k + 1)).map Mins.av := by
            rw [← hs, List.map_set, blankI, if_pos hop, Mins.av_eq, hop]
          rw [nmC, if_pos hop, hq, Int.toNat_natCast, List.getD, hgq, Option.getD_some] at hsu
          simp -implicitDefEqProofs [hbo, hso, hsl, hgb, h5, Mins.av_eq, hop, hq, hgq, hqn, splice, hs2]
          refine ⟨by omega, k + 1, h5, by omega, ?_⟩
          rw [hsu]
          refine wkt_pick [0, 1, 2, 3, 6, 5] rfl (by decide) (hw_row rfl (by simp [belowL, below]) (hw_row rfl (by simp [zObjV, belowL, below]) (hw_row rfl (av_pure _) (hw_rowr (by simp [below]) (by simp [ren, renL]) (hw_row (by simp [List.take_of_length_le]) (strO_pure _) (hw_rowr (by simp [below]) (by simp [ren, renL]) hw_nil)))))) ?_
          simp [below, ren, hsl, w1 (i := k) (by omega)]
        · have hs := blankT_same h5 hop
          rw [nmC, if_neg hop, List.append_nil] at hsu
          simp -implicitDefEqProofs [hbo, hgb, h5, Mins.av_eq, hop]
          refine ⟨k + 1, h5, by omega, ?_⟩
          rw [hs, hsu]
          refine wkt_pick [0, 1, 2, 3, 4, 5] rfl (by decide) (hw_row rfl (by simp [belowL, below]) (hw_row rfl (by simp [zObjV, belowL, below]) (hw_row rfl (av_pure _) (hw_rowr (by simp [Mfn.ov, below]) (by simp [Mfn.ov, ren, renL]) (hw_row rfl (strO_pure _) (hw_rowr (by simp [below]) (by simp [ren, renL]) hw_nil)))))) ?_
          simp [below, ren, hsl, w1 (i := k) (by omega)]
      · simp at h5
        have hke : k = f.ins.length := by omega
        subst hke
        have hbl : (blankF f).ins.length = f.ins.length := by simp [blankF]
        have hcb := codeOk_blank q1 q2 q3
        have hcF := callsF_blank hcb
        have hvI : ∀ h : List AO, h[2]? = some (insO (blankF f).ins) → Views h [.agg [.p (.int .i64 f.params), .p (.int .i64 f.slots), .sl 2 5 0 f.ins.length]] [.agg ((blankF f).cs.map .p)] := fun h e => by
          have := insO_view e
          rw [hbl] at this
          exact .agg (.keep (by simp [below]) (.keep (by simp [below]) (.one this .nil))) .nil
        simp -implicitDefEqProofs [blankT_all, nmT_all]
        refine (AC.lend (o_sEncodeFn G (blankF f) (by omega)) (hvI _ rfl) rfl (by simp only [List.all_cons, List.all_nil]; simp [cleanO, bysO, cleanL, clean])).mono ?_
        rintro r h ⟨rfl, rfl⟩
        rw [hcb]
        by_cases hc : codeOk f = true
        case neg =>
          rw [if_neg hc] at ho
          simp -implicitDefEqProofs [callR_nxt, shiftV, shiftL, hc, ho, zObjV]
        rw [if_pos hc] at ho
        simp -implicitDefEqProofs [callR_nxt, shiftV, shiftL, shiftO_bys, hc]
        refine (AC.lend (o_l26Calls G (blankF f) (by omega)) (hvI _ rfl) rfl (by simp only [List.all_cons, List.all_nil]; simp [cleanO, numO, cleanL, clean])).mono ?_
        rintro r h ⟨rfl, rfl⟩
        rw [hcF]
        simp -implicitDefEqProofs [callR_nxt, shiftV, shiftL, shiftO_num, ho, zObjV]
        exact ⟨6, 7, 4, rfl, rfl, rfl, rfl⟩
  refine key.freezeR (fun t v h e => ?_) fun v h e => ?_
  · cases ho : objOf fs i names <;> rw [ho] at e
    · cases e
    · obtain ⟨_, _, _, e, _⟩ := e; cases e
  · cases ho : objOf fs i names with
    | none =>
      rw [ho] at e
      cases e
      exact .tup (.agg (.keep (by simp [below]) (.keep (by simp [below]) (.keep (by simp [below]) (.one (View.nils 1) (.one (View.nils 1) (.one (View.nils 1) .nil)))))) (.keep (by simp [below]) .nil)) .nil
    | some o =>
      rw [ho] at e
      obtain ⟨a, b, c, e, e1, e2, e3⟩ := e
      cases e
      exact .tup (.agg (.keep (by simp [below]) (.keep (by simp [below]) (.keep (by simp [below]) (.one (bysO_view e1) (.one (numO_view e2) (.one (strO_view e3) .nil)))))) (.keep (by simp [below]) .nil)) .nil
end Go.Proofs.YtbbobekgnclkfaaDoor
namespace Go.Proofs.YtbbobekgnclkfaaDoor
open Go Go.Aw
set_option maxRecDepth 100000
set_option maxHeartbeats 4000000
theorem calls_names (f : Mfn) (names : List (List UInt8)) (hc : codeOk f = true) : (callsF f).length = (nmF f names).length := by
  have key : ∀ (l : List Mins) (ps : List Nat), ps.length = l.length → ((List.zip l ps).flatMap fun x => clsI x.1 x.2).length = (l.flatMap (nmC names)).length := by
    intro l
    induction l with
    | nil => intro ps _; rfl
    | cons x r ih =>
      intro ps hp
      cases ps with
      | nil => simp at hp
      | cons p q =>
        have := ih q (by simpa using hp)
        simp only [List.zip_cons_cons, List.flatMap_cons, List.length_append, this]
        congr 1
        unfold clsI nmC
        split <;> rfl
  exact key _ _ (by rw [plaF_len, if_pos hc])
def strR (l : List (List UInt8)) : List (List AV) := l.map fun w => [.p (.str w)]
theorem strR_app (a b : List (List UInt8)) : strR (a ++ b) = strR a ++ strR b := by simp [strR]
theorem strR_len (l : List (List UInt8)) : (strR l).length = l.length := by simp [strR]
theorem strR_pure (l : List (List UInt8)) : ∀ x ∈ strR l, belowL 0 x := by
  intro x hx; obtain ⟨m, _, rfl⟩ := List.mem_map.1 hx; simp [belowL, below]
theorem numR_ne {l : List Int} (h : l ≠ []) : numR l ≠ [] := by intro e; exact h (List.map_eq_nil_iff.1 e)
variable (G : Glob) (hG : G g_forms = some pvForms)
include hG
theorem i_callBytes1 {f : Mfn} (hn : f.ins.length ≤ 1000000) (hlo : ∀ x ∈ f.ins, x.op = 14 → -9223372036854775808 ≤ x.n) (hne : callsF f ≠ []) : AC Tryd.prog G n_impl_callBytes [.agg (f.cs.map .p)] [] fun x h => x = .ret (.sl 0 1 0 (callsF f).length) ∧ h = [numO (callsF f)] := by
  refine (k_callBytes G hG f hn hlo).gc (fun t v h ⟨id, e, _⟩ => by cases e) fun v h ⟨id, e1, e2⟩ => ?_
  rw [slE_ne (numR_ne hne)] at e1
  rw [rowE_ne (numR_ne hne)] at e2
  cases e1
  have hl : (numR (callsF f)).length = (callsF f).length := by simp [numR]
  exact ⟨.sl 0 1 0 (callsF f).length, [numO (callsF f)], ⟨[id], by simp, by simp, by simp, by simp [below], by simp [ren, hl], hw_row e2 (numO_pure _) hw_nil⟩, rfl, rfl⟩
theorem i_callBytes2 {f : Mfn} (hn : f.ins.length ≤ 1000000) (hlo : ∀ x ∈ f.ins, x.op = 14 → -9223372036854775808 ≤ x.n) (he : callsF f = []) : VF Tryd.prog G n_impl_callBytes [.agg (f.cs.map .p)] .nils := by
  refine (k_callBytes G hG f hn hlo).freezeR (fun t v h ⟨id, e, _⟩ => by cases e) fun v h ⟨id, e1, e2⟩ => ?_
  rw [he, show numR [] = [] from rfl, slE_nil] at e1
  cases e1
  exact .keep (by simp [below]) .nil
variable (hK : G g_keys = some pvKeys)
include hK
theorem k_iObjectOf (fs : List Mfn) (i : Int) (names : List (List UInt8)) (hb : szF fs + szW names ≤ 1048576) : AC Tryd.prog G n_impl_ObjectOf [.agg [.p (fnsL fs)], .p (.int .i64 i), .p (strL names)] [] fun x h => match objOf fs i names with
      | none => x = .ret (.tup [.agg zObjV, .p (.bool false)])
      | some o => (o.calls = [] ∧ o.names = [] ∧ ∃ a, x = .ret (.tup [.agg [.p (.str o.name), .p (.int .i64 o.params), .p (.int .i64 o.slots), .sl a 1 0 o.code.length, .nils, .nils], .p (.bool true)]) ∧ h[a]? = some (bysO o.code)) ∨
        (o.calls ≠ [] ∧ ∃ a b c, x = .ret (.tup [.agg (o.ov a b c), .p (.bool true)]) ∧ h[a]? = some (bysO o.code) ∧ h[b]? = some (numO o.calls) ∧ h[c]? = some (strO o.names) ∧ a < b ∧ b < c) := by
  refine AC.go k_impl_ObjectOf ?_
  have hsl : ∀ L, strL L = .lst 1 (L.map fun w => [.str w]) := fun _ => rfl
  have hfl : fnsL fs = .lst 3 (fs.map Mfn.cs) := rfl
  have hsz : szF fs = fs.length + (fs.map (·.ins.length)).sum := rfl
  have hwz : szW names = names.length + (names.map List.length).sum := rfl
  have hww : ∀ x ∈ names, x.length ≤ 140737488355328 := fun x hx => by have := sum_ge hx; omega
  simp -implicitDefEqProofs [F_impl_ObjectOf]
  refine (i_MachValid G hG fs (by omega)).use ?_
  by_cases h1 : machOk fs = true
  case neg =>
    have ho : objOf fs i names = none := by rw [objOf, if_neg (fun h => h1 h.1)]
    simp -implicitDefEqProofs [h1, ho, zObjV]
  have hw : IntKind.i64.wrap ((fs.length : Int) - 1) = (fs.length : Int) - 1 := i64_small (by omega) (by omega)
  simp -implicitDefEqProofs [h1, hfl, hw]
  refine (i_within G _ _ _).use ?_
  by_cases h2 : inR i 0 (fs.length - 1) = true
  case neg =>
    have ho : objOf fs i names = none := by rw [objOf, if_neg (fun h => h2 h.2.1)]
    simp -implicitDefEqProofs [h2, ho, zObjV]
  simp -implicitDefEqProofs [h2, hfl, hsl]
  by_cases h3 : names.length = fs.length
  case neg =>
    have h3' : ¬ (names.length : Int) = (fs.length : Int) := by omega
    have ho : objOf fs i names = none := by rw [objOf, if_neg (fun h => h3 h.2.2.1)]
    simp -implicitDefEqProofs [h3, h3', ho, zObjV]
  simp -implicitDefEqProofs [h3]
  rw [← hsl, ← hfl]
  refine loopA (fun k : Nat => tsOf 106 [(1, .p (.int .i64 i)), (2, .p (strL names)), (3, .ptr 0 1 0 0), (6, .ptr 1 6 0 0), (36, .p (strL names)), (37, .p (.int .i64 fs.length)), (38, .p (.int .i64 k))]) (fun _ => [.row 1 [[.p (fnsL fs)]], .row 6 [zObjV]])
    (fun k => k ≤ names.length ∧ nmsT names k = true) (fun k => names.length - k) 0 (by simp [nmsT]) ?_ ?_
  · exact wkt_same (by simp) (by simp [okO, zObjV, below, belowL]) (by simp [below, hsl])
  intro k ⟨hk, hn⟩
  simp -implicitDefEqProofs [hsl]
  refine cndb (fun h5 => ?_) (fun h5 => ?_)
  · simp at h5
    have h5 : k < names.length := by omega
    have hg := List.getElem?_eq_getElem h5
    have hat : nmAt names k = (isName names[k] && !((names.take k).contains names[k])) := by rw [nmAt, hg]
    have hnone : nmAt names k = false → objOf fs i names = none := fun hb => by
      have := nmsT_bad h5 hb
      rw [objOf, if_neg (fun h => by rw [this] at h; exact absurd h.2.2.2 (by simp))]
    simp -implicitDefEqProofs [hg]
    refine (i_IsName G hK _ (hww _ (List.getElem_mem h5))).use ?_
    by_cases h6 : isName names[k] = true
    case neg =>
      have ho := hnone (by rw [hat]; simp [h6])
      simp -implicitDefEqProofs [h6, ho, zObjV]
    simp -implicitDefEqProofs [h6, hg]
    have hl2 := i_Contains G (names.take k) names[k] (by rw [List.length_take]; omega)
    rw [hsl, List.map_take] at hl2
    refine ⟨hk, hl2.use ?_⟩
    by_cases hm : names[k] ∈ names.take k
    · have ho := hnone (by rw [hat]; simp [hm])
      simp -implicitDefEqProofs [hm, ho, zObjV]
    · simp -implicitDefEqProofs [hm]
      refine ⟨k + 1, ⟨h5, ?_⟩, by omega, wkt_same (by simp) (by simp [okO, zObjV, below, belowL]) ?_⟩
      · rw [nmsT_succ, hn, hat, h6]; simp [hm]
      · simp [below, hsl, w1 (i := k) (by omega)]
  simp at h5
  have h4 : nmsOk names = true := by rw [nmsOk, show names.length = k by omega]; exact hn
  obtain ⟨j, rfl⟩ : ∃ j : Nat, i = j := ⟨i.toNat, by simp [inR] at h2; omega⟩
  have hj : j < fs.length := by simp [inR] at h2; omega
  have hjn : j < names.length := by omega
  have hg := List.getElem?_eq_getElem hj
  have hgn := List.getElem?_eq_getElem hjn
  obtain ⟨q1, q2, q3⟩ := mach_fn h1 hg
  have ho : objOf fs j names = if codeOk fs[j] then some ⟨names[j], fs[j].params, fs[j].slots, encB (blankF fs[j]), callsF fs[j], nmF fs[j] names⟩ else none := by
    rw [objOf, if_pos ⟨h1, h2, h3, h4⟩, Int.toNat_natCast, hg]
    simp [List.getD, hgn]
  generalize fs[j] = f at hg q1 q3 ho
  have hall : ∀ x ∈ f.ins, insOk f.params f.slots f.ins.length j x = true := by
    simp only [fnOk, Bool.and_eq_true, List.all_eq_true] at q1
    exact q1.2
  have hil : f.ins.length ≤ 1000000 := by omega
  have hlo : ∀ x ∈ f.ins, x.op = 14 → -9223372036854775808 ≤ x.n := fun x hx h => by have := insOk_n (hall x hx) h; omega
  simp -implicitDefEqProofs [hfl, hg]
  by_cases hc : codeOk f = true
  case neg =>
    rw [if_neg hc] at ho
    refine (i_layoutOf2 G hG f hil hlo hc).use ?_
    simp -implicitDefEqProofs [ho, zObjV]
  rw [if_pos hc] at ho
  refine (AC.lift (i_layoutOf1 G hG f hil hlo hc) (by simp [belowL, below]) rfl (by simp only [List.all_cons, List.all_nil, nofnO_bool, nofnO_ints]; rfl)).mono ?_
  rintro r h ⟨rfl, rfl⟩
  simp -implicitDefEqProofs [callR_nxt, shiftO_bool, shiftO_ints, shiftO_fn, shiftO_lay, shiftV, shiftL, hgn, hjn, Mfn.cs]
  have hcb := codeOk_blank q1 q2 q3
  have hcB : codeOk (blankF f) = true := by rw [hcb]; exact hc
  have hcF := callsF_blank hcb
  have hbl : (blankF f).ins.length = f.ins.length := by simp [blankF]
  have hne : f.ins ≠ [] := by intro e; have := codeOk_pos hc; rw [e] at this; simp at this
  have hloB : ∀ x ∈ (blankF f).ins, x.op = 14 → -9223372036854775808 ≤ x.n := fun x hx h => by have := call_n hcB hx h; omega
  refine (i_blank G f hne hil).use ?_
  simp -implicitDefEqProofs []
  refine (AC.lift (i_EncodeFn1 G hG (blankF f) (by omega) hloB hcB) (by simp [belowL, below]) rfl (by simp only [List.all_cons, List.all_nil, nofnO_byS]; rfl)).mono ?_
  rintro r h ⟨rfl, rfl⟩
  simp -implicitDefEqProofs [callR_nxt, shiftV, shiftL, shiftO_bys]
  rcases Classical.em (callsF f = []) with hce | hce
  · refine (i_callBytes2 G hG (f := blankF f) (by omega) hloB (by rw [hcF]; exact hce)).use ?_
    simp -implicitDefEqProofs []
    refine loopA (fun k : Nat => tsOf 106 [(2, .p (strL names)), (6, .ptr 0 6 0 0), (11, .ptr 5 6 0 0), (85, .p (insL f.ins)), (86, .p (.int .i64 f.ins.length)), (87, .p (.int .i64 k))])
      (fun k => [.row 6 [zObjV], .row 3 [f.cs.map .p], bysO (encB (blankF f)), rowE 1 (numR (callsF f)), rowE 1 (strR (nmT f names k)), .row 6 [[.p (.str names[j]), .p (.int .i64 f.params), .p (.int .i64 f.slots), .sl 2 1 0 (encB (blankF f)).length, slE 3 1 (numR (callsF f)), slE 4 1 (strR (nmT f names k))]]])
      (fun k => k ≤ f.ins.length) (fun k => f.ins.length - k) 0 (by simp) ?_ ?_
    · simp only [hce, numR, strR, nmT_zero, List.map_nil, slE_nil, rowE_nil]
      refine wkt_dup [1, 2, 10, 0, 0, 8] (by simp) (by simp) (by simp [lives, bysO]) (hw_row rfl (by simp [zObjV, belowL, below]) (hw_row rfl (by simp [belowL, below, Mfn.cs]) (hw_row rfl (bysO_pure _) (hw_dead (by simp) (hw_dead (by simp) (hw_rowr (by simp [below]) (by simp [ren, renL]) hw_nil)))))) ?_
      simp [below, ren, hsl, insL]
    · intro k hk
      have hin : insL f.ins = .lst 5 (f.ins.map Mins.cs) := rfl
      simp -implicitDefEqProofs [hin]
      refine cndb (fun h5 => ?_) (fun h5 => ?_)
      · simp at h5
        have hgk := List.getElem?_eq_getElem h5
        have hsu := nmT_succ (names := names) h5
        have hnl := nmT_len f names k
        have hsl2 := strR_len (nmT f names k)
        by_cases hop : f.ins[k].op = 14
        · obtain ⟨n1, n2⟩ := insOk_n (hall _ (List.getElem_mem h5)) hop
          obtain ⟨q, hq⟩ : ∃ q : Nat, f.ins[k].n = q := ⟨f.ins[k].n.toNat, by omega⟩
          have hqn : q < names.length := by omega
          have hgq := List.getElem?_eq_getElem hqn
          rw [nmC, if_pos hop, hq, Int.toNat_natCast, List.getD, hgq, Option.getD_some] at hsu
          simp -implicitDefEqProofs [hgk, h5, Mins.cs, hop, hq, hsl, hgq, hqn, hsl2]
          refine ⟨by omega, k + 1, h5, by omega, ?_⟩
          rw [hsu, strR_app, slE_app _ (by simp [strR]), rowE_app _ (by simp [strR])]
          refine wkt_pick [0, 1, 2, 3, 7, 5] rfl (by decide) (hw_row rfl (by simp [zObjV, belowL, below]) (hw_row rfl (by simp [belowL, below, Mfn.cs]) (hw_row rfl (bysO_pure _) (hw_rowE rfl (numR_pure _) (hw_row rfl (by rw [← strR_app]; exact strR_pure _) (hw_rowr (by simp [below]) (by simp [ren, renL, hsl2, strR]) hw_nil)))))) ?_
          simp [below, ren, hsl, w1 (i := k) (by omega)]
        · rw [nmC, if_neg hop, List.append_nil] at hsu
          simp -implicitDefEqProofs [hgk, h5, Mins.cs, hop]
          refine ⟨k + 1, h5, by omega, ?_⟩
          rw [hsu]
          refine wkt_pick [0, 1, 2, 3, 4, 5] rfl (by decide) (hw_row rfl (by simp [zObjV, belowL, below]) (hw_row rfl (by simp [belowL, below, Mfn.cs]) (hw_row rfl (bysO_pure _) (hw_rowE rfl (numR_pure _) (hw_rowE rfl (strR_pure _) (hw_rowr (by simp [below]) (by simp [ren, renL]) hw_nil)))))) ?_
          simp [below, ren, hsl, w1 (i := k) (by omega)]
      · simp at h5
        have hke : k = f.ins.length := by omega
        subst hke
        simp -implicitDefEqProofs [nmT_all, ho]
        have hcn := calls_names f names hc
        by_cases he : callsF f = []
        · have hn0 : nmF f names = [] := List.eq_nil_of_length_eq_zero (by rw [← hcn, he]; rfl)
          exact ⟨by simp [zObjV], .inl ⟨he, hn0, 2, ⟨rfl, by rw [he]; rfl, by rw [hn0]; rfl⟩, rfl⟩⟩
        · have hn0 : nmF f names ≠ [] := by intro e; rw [e] at hcn; exact he (List.eq_nil_of_length_eq_zero hcn)
          have hs : strR (nmF f names) ≠ [] := by intro e; exact hn0 (List.map_eq_nil_iff.1 e)
          refine ⟨by simp [zObjV], .inr ⟨he, 2, 3, 4, ?_, rfl, ?_, ?_, by omega, by omega⟩⟩
          · rw [slE_ne (numR_ne he), slE_ne hs]; simp [Obj.ov, numR, strR]
          · show some (rowE 1 (numR (callsF f))) = _
            rw [rowE_ne (numR_ne he)]; rfl
          · show some (rowE 1 (strR (nmF f names))) = _
            rw [rowE_ne hs]; rfl
  · refine (AC.lift (i_callBytes1 G hG (f := blankF f) (by omega) hloB (by rw [hcF]; exact hce)) (by simp [belowL, below]) rfl (by simp only [List.all_cons, List.all_nil, nofnO_num]; rfl)).mono ?_
    rintro r h ⟨rfl, rfl⟩
    simp -implicitDefEqProofs [callR_nxt, shiftV, shiftL, shiftO_num, hcF]
    have hl : (numR (callsF f)).length = (callsF f).length := by simp [numR]
    have hnr := numR_ne hce
    have hnO : rowE 1 (numR (callsF f)) = numO (callsF f) := rowE_ne hnr
    refine loopA (fun k : Nat => tsOf 106 [(2, .p (strL names)), (6, .ptr 0 6 0 0), (11, .ptr 5 6 0 0), (85, .p (insL f.ins)), (86, .p (.int .i64 f.ins.length)), (87, .p (.int .i64 k))])
      (fun k => [.row 6 [zObjV], .row 3 [f.cs.map .p], bysO (encB (blankF f)), rowE 1 (numR (callsF f)), rowE 1 (strR (nmT f names k)), .row 6 [[.p (.str names[j]), .p (.int .i64 f.params), .p (.int .i64 f.slots), .sl 2 1 0 (encB (blankF f)).length, slE 3 1 (numR (callsF f)), slE 4 1 (strR (nmT f names k))]]])
      (fun k => k ≤ f.ins.length) (fun k => f.ins.length - k) 0 (by simp) ?_ ?_
    · rw [hnO, slE_ne hnr, hl]
      simp only [strR, nmT_zero, List.map_nil, slE_nil, rowE_nil]
      refine wkt_dup [1, 2, 10, 11, 0, 8] (by simp) (by simp) (by simp [lives, bysO, numO]) (hw_row rfl (by simp [zObjV, belowL, below]) (hw_row rfl (by simp [belowL, below, Mfn.cs]) (hw_row rfl (bysO_pure _) (hw_row rfl (numO_pure _) (hw_dead (by simp) (hw_rowr (by simp [below]) (by simp [ren, renL]) hw_nil)))))) ?_
      simp [below, ren, hsl, insL]
    · intro k hk
      have hin : insL f.ins = .lst 5 (f.ins.map Mins.cs) := rfl
      simp -implicitDefEqProofs [hin]
      refine cndb (fun h5 => ?_) (fun h5 => ?_)
      · simp at h5
        have hgk := List.getElem?_eq_getElem h5
        have hsu := nmT_succ (names := names) h5
        have hnl := nmT_len f names k
        have hsl2 := strR_len (nmT f names k)
        by_cases hop : f.ins[k].op = 14
        · obtain ⟨n1, n2⟩ := insOk_n (hall _ (List.getElem_mem h5)) hop
          obtain ⟨q, hq⟩ : ∃ q : Nat, f.ins[k].n = q := ⟨f.ins[k].n.toNat, by omega⟩
          have hqn : q < names.length := by omega
          have hgq := List.getElem?_eq_getElem hqn
          rw [nmC, if_pos hop, hq, Int.toNat_natCast, List.getD, hgq, Option.getD_some] at hsu
          simp -implicitDefEqProofs [hgk, h5, Mins.cs, hop, hq, hsl, hgq, hqn, hsl2]
          refine ⟨by omega, k + 1, h5, by omega, ?_⟩
          rw [hsu, strR_app, slE_app _ (by simp [strR]), rowE_app _ (by simp [strR])]
          refine wkt_pick [0, 1, 2, 3, 7, 5] rfl (by decide) (hw_row rfl (by simp [zObjV, belowL, below]) (hw_row rfl (by simp [belowL, below, Mfn.cs]) (hw_row rfl (bysO_pure _) (hw_rowE rfl (numR_pure _) (hw_row rfl (by rw [← strR_app]; exact strR_pure _) (hw_rowr (by simp [below]) (by simp [ren, renL, hsl2, strR]) hw_nil)))))) ?_
          simp [below, ren, hsl, w1 (i := k) (by omega)]
        · rw [nmC, if_neg hop, List.append_nil] at hsu
          simp -implicitDefEqProofs [hgk, h5, Mins.cs, hop]
          refine ⟨k + 1, h5, by omega, ?_⟩
          rw [hsu]
          refine wkt_pick [0, 1, 2, 3, 4, 5] rfl (by decide) (hw_row rfl (by simp [zObjV, belowL, below]) (hw_row rfl (by simp [belowL, below, Mfn.cs]) (hw_row rfl (bysO_pure _) (hw_rowE rfl (numR_pure _) (hw_rowE rfl (strR_pure _) (hw_rowr (by simp [below]) (by simp [ren, renL]) hw_nil)))))) ?_
          simp [below, ren, hsl, w1 (i := k) (by omega)]
      · simp at h5
        have hke : k = f.ins.length := by omega
        subst hke
        simp -implicitDefEqProofs [nmT_all, ho]
        have hcn := calls_names f names hc
        by_cases he : callsF f = []
        · have hn0 : nmF f names = [] := List.eq_nil_of_length_eq_zero (by rw [← hcn, he]; rfl)
          exact ⟨by simp [zObjV], .inl ⟨he, hn0, 2, ⟨rfl, by rw [he]; rfl, by rw [hn0]; rfl⟩, rfl⟩⟩
        · have hn0 : nmF f names ≠ [] := by intro e; rw [e] at hcn; exact he (List.eq_nil_of_length_eq_zero hcn)
          have hs : strR (nmF f names) ≠ [] := by intro e; exact hn0 (List.map_eq_nil_iff.1 e)
          refine ⟨by simp [zObjV], .inr ⟨he, 2, 3, 4, ?_, rfl, ?_, ?_, by omega, by omega⟩⟩
          · rw [slE_ne (numR_ne he), slE_ne hs]; simp [Obj.ov, numR, strR]
          · show some (rowE 1 (numR (callsF f))) = _
            rw [rowE_ne (numR_ne he)]; rfl
          · show some (rowE 1 (strR (nmF f names))) = _
            rw [rowE_ne hs]; rfl
end Go.Proofs.YtbbobekgnclkfaaDoor
namespace Go.Proofs.YtbbobekgnclkfaaDoor
open Go Go.Aw
set_option maxRecDepth 100000
set_option maxHeartbeats 4000000
variable (G : Glob)
theorem t_heldIntS (k n : Nat) (hk : k + n ≤ 1152921504606846976) : VF Tryd.prog G n_laws_heldIntS [.p (numL (mksN k n)), .p (.int .i64 k)] (.p (.int .i64 ((k + n : Nat) : Int))) := by
  refine AC.go k_laws_heldIntS ?_
  have hsl : ∀ l, numL l = .lst 1 (l.map fun w => [.int .i64 w]) := fun _ => rfl
  have hl := mksN_len k n
  simp -implicitDefEqProofs [F_laws_heldIntS]
  refine loopA (fun i : Nat => tsOf 21 [(0, .p (numL (mksN k n))), (1, .p (.int .i64 ((k + i : Nat) : Int))), (5, .p (.int .i64 i))]) (fun _ => []) (fun i => i ≤ n) (fun i => n - i) 0 (by simp) ?_ ?_
  · exact wkt_nil rfl (by simp [below, numL])
  intro i hi
  simp -implicitDefEqProofs [hsl, hl]
  refine cndb (fun h1 => ?_) (fun h1 => ?_)
  · simp at h1
    have hg : (mksN k n)[i]? = some ((k + i : Nat) : Int) := by simp [mksN, h1]
    have hw1 : IntKind.i64.wrap ((k : Int) + (i : Int) + 1) = (k : Int) + (i : Int) + 1 := i64_small (by omega) (by omega)
    clear hl
    simp -implicitDefEqProofs [hg, hw1]
    refine ⟨i + 1, h1, by omega, wkt_nil rfl ?_⟩
    simp [below, numL, w1 (i := i) (by omega)]
    omega
  · simp at h1
    have : i = n := by omega
    subst this
    simp -implicitDefEqProofs []
/-- An object that holds the marks from k on. -/
def mkdO (k : Nat) (o : Obj) : Obj := ⟨o.name, o.params, o.slots, mks8 k o.code.length, mksN (k + o.code.length) o.calls.length, mksW (k + o.code.length + o.calls.length) o.names.length⟩
theorem t_heldObject (k : Nat) (o : Obj) (hk : k + o.code.length + o.calls.length + o.names.length ≤ 1152921504606846976) : VF Tryd.prog G n_laws_heldObject [.agg ((mkdO k o).cs.map .p), .p (.int .i64 k)] (.p (.int .i64 ((k + o.code.length + o.calls.length + o.names.length : Nat) : Int))) := by
  refine AC.go k_laws_heldObject ?_
  simp -implicitDefEqProofs [F_laws_heldObject, Obj.cs, mkdO]
  refine (t_heldByteS G k o.code.length (by omega)).use ?_
  have h1 : ¬ (k : Int) + (o.code.length : Int) < 0 := by omega
  simp -implicitDefEqProofs [h1]
  have c2 := t_heldIntS G (k + o.code.length) o.calls.length (by omega)
  rw [Int.natCast_add] at c2
  refine c2.use ?_
  have h2 : ¬ (k : Int) + (o.code.length : Int) + (o.calls.length : Int) < 0 := by omega
  simp -implicitDefEqProofs [h2]
  have c3 := t_heldStringS G (k + o.code.length + o.calls.length) o.names.length (by omega)
  rw [Int.natCast_add, Int.natCast_add] at c3
  refine c3.use ?_
  have h3 : ¬ (k : Int) + (o.code.length : Int) + (o.calls.length : Int) + (o.names.length : Int) < 0 := by omega
  simp -implicitDefEqProofs [h3]
end Go.Proofs.YtbbobekgnclkfaaDoor
namespace Go.Proofs.YtbbobekgnclkfaaDoor
open Go Go.Aw
set_option maxRecDepth 100000
set_option maxHeartbeats 4000000
theorem obj_viewT {h : List AO} {o : Obj} {a b c : Nat} {x : Bool} (e1 : h[a]? = some (bysO o.code)) (e2 : h[b]? = some (numO o.calls)) (e3 : h[c]? = some (strO o.names)) : Views h [.agg (o.ov a b c), .p (.bool x)] [.agg (o.cs.map .p), .p (.bool x)] :=
  .agg (.keep (by simp [below]) (.keep (by simp [below]) (.keep (by simp [below]) (.one (bysO_view e1) (.one (numO_view e2) (.one (strO_view e3) .nil)))))) (.keep (by simp [below]) .nil)
variable (G : Glob) (hG : G g_forms = some pvForms) (hK : G g_keys = some pvKeys)
include hG hK
theorem i_ObjectOf0 {fs : List Mfn} {i : Int} {names : List (List UInt8)} (hb : szF fs + szW names ≤ 1048576) (ho : objOf fs i names = none) : VF Tryd.prog G n_impl_ObjectOf [.agg [.p (fnsL fs)], .p (.int .i64 i), .p (strL names)] (.tup [.agg zObjV, .p (.bool false)]) := by
  refine AC.freezeR ((k_iObjectOf G hG hK fs i names hb).mono (R' := fun r _ => r = .ret (.tup [.agg zObjV, .p (.bool false)])) fun r h e => by rw [ho] at e; exact e) (fun t v h e => by cases e) fun v h e => ?_
  cases e
  exact .keep (by simp [below, belowL, zObjV]) .nil
/-- Nothing is called. -/
theorem i_ObjectOfE {fs : List Mfn} {i : Int} {names : List (List UInt8)} (hb : szF fs + szW names ≤ 1048576) {o : Obj} (ho : objOf fs i names = some o) (he : o.calls = []) : o.names = [] ∧ AC Tryd.prog G n_impl_ObjectOf [.agg [.p (fnsL fs)], .p (.int .i64 i), .p (strL names)] [] fun x h =>
    x = .ret (.tup [.agg [.p (.str o.name), .p (.int .i64 o.params), .p (.int .i64 o.slots), .sl 0 1 0 o.code.length, .nils, .nils], .p (.bool true)]) ∧ h = [bysO o.code] := by
  have hn : o.names = [] := by
    unfold objOf at ho
    split at ho
    · split at ho
      · split at ho
        · rename_i hc
          cases ho
          simp only at he ⊢
          rename_i f _
          exact List.eq_nil_of_length_eq_zero (by rw [← calls_names f names hc, he]; rfl)
        · cases ho
      · cases ho
    · cases ho
  refine ⟨hn, (k_iObjectOf G hG hK fs i names hb).gc (fun t v h e => ?_) fun v h e => ?_⟩
  · rw [ho] at e
    rcases e with ⟨_, _, a, e, _⟩ | ⟨_, a, b, c, e, _⟩ <;> cases e
  · rw [ho] at e
    rcases e with ⟨_, _, a, e, e1⟩ | ⟨hne, _⟩
    · cases e
      exact ⟨.tup [.agg [.p (.str o.name), .p (.int .i64 o.params), .p (.int .i64 o.slots), .sl 0 1 0 o.code.length, .nils, .nils], .p (.bool true)], [bysO o.code], ⟨[a], by simp, by simp, by simp, by simp [below, belowL], by simp [ren, renL], hw_row e1 (bysO_pure _) hw_nil⟩, rfl, rfl⟩
    · exact absurd he hne
theorem i_ObjectOfN {fs : List Mfn} {i : Int} {names : List (List UInt8)} (hb : szF fs + szW names ≤ 1048576) {o : Obj} (ho : objOf fs i names = some o) (he : o.calls ≠ []) : AC Tryd.prog G n_impl_ObjectOf [.agg [.p (fnsL fs)], .p (.int .i64 i), .p (strL names)] [] fun x h =>
    x = .ret (.tup [.agg (o.ov 0 1 2), .p (.bool true)]) ∧ h = [bysO o.code, numO o.calls, strO o.names] := by
  refine (k_iObjectOf G hG hK fs i names hb).gc (fun t v h e => ?_) fun v h e => ?_
  · rw [ho] at e
    rcases e with ⟨_, _, a, e, _⟩ | ⟨_, a, b, c, e, _⟩ <;> cases e
  · rw [ho] at e
    rcases e with ⟨hn, _⟩ | ⟨_, a, b, c, e, e1, e2, e3, l1, l2⟩
    · exact absurd hn he
    · cases e
      refine ⟨.tup [.agg (o.ov 0 1 2), .p (.bool true)], [bysO o.code, numO o.calls, strO o.names], ⟨[a, b, c], by simp, by simp, ?_, by simp [below, belowL, Obj.ov], by simp [ren, renL, Obj.ov], hw_row e1 (bysO_pure _) (hw_row e2 (numO_pure _) (hw_row e3 (strO_pure _) hw_nil))⟩, rfl, rfl⟩
      simp
      omega
theorem t_iObjectOf {fs : List Mfn} {i : Int} {names : List (List UInt8)} (hb : szF fs + szW names ≤ 1048576) {o : Obj} (ho : objOf fs i names = some o) : VF Tryd.prog G n_impl_ObjectOf [.agg [.p (fnsL fs)], .p (.int .i64 i), .p (strL names)] (.tup [.agg (o.cs.map .p), .p (.bool true)]) := by
  by_cases he : o.calls = []
  · obtain ⟨hn, h⟩ := i_ObjectOfE G hG hK hb ho he
    refine AC.freeze h (.tup (.agg (.keep (by simp [below]) (.keep (by simp [below]) (.keep (by simp [below]) (.one (bysO_view rfl) (.one ?_ (.one ?_ .nil)))))) (.keep (by simp [below]) .nil)) .nil)
    · rw [he]; exact View.nils 1
    · rw [hn]; exact View.nils 1
  · exact AC.freeze (i_ObjectOfN G hG hK hb ho he) (.tup (obj_viewT rfl rfl rfl) .nil)
end Go.Proofs.YtbbobekgnclkfaaDoor
namespace Go.Proofs.YtbbobekgnclkfaaDoor
open Go Go.Aw
set_option maxRecDepth 100000
set_option maxHeartbeats 4000000
variable (G : Glob)
def leftI (left n : Nat) : Int := if n ≤ left then ((left - n : Nat) : Int) else -1
theorem a_szMinsS (xs : List Mins) (left : Nat) (hl : left ≤ 1048576) (hb : xs.length ≤ 9223372036854775807) : VF Tryd.prog G n_laws_szMinsS [.p (insL xs), .p (.int .i64 left)] (.p (.int .i64 (leftI left xs.length))) := by
  refine AC.go k_laws_szMinsS ?_
  have hw : IntKind.i64.wrap ((left : Int) - xs.length) = (left : Int) - xs.length := i64_small (by omega) (by omega)
  by_cases h : xs.length ≤ left
  · have h1 : ¬ (left : Int) - xs.length < 0 := by omega
    have h2 : (left : Int) - xs.length = ((left - xs.length : Nat) : Int) := by omega
    simp -implicitDefEqProofs [F_laws_szMinsS, insL, hw, h1, h, leftI]
    omega
  · have h1 : (left : Int) - xs.length < 0 := by omega
    simp -implicitDefEqProofs [F_laws_szMinsS, insL, hw, h1, h, leftI]
theorem a_szMfn (f : Mfn) (left : Nat) (hl : left ≤ 1048576) (hb : f.ins.length ≤ 9223372036854775807) : VF Tryd.prog G n_laws_szMfn [.agg (f.cs.map .p), .p (.int .i64 left)] (.p (.int .i64 (leftI left f.ins.length))) := by
  refine AC.go k_laws_szMfn ?_
  have hin : insL f.ins = .lst 5 (f.ins.map Mins.cs) := rfl
  simp -implicitDefEqProofs [F_laws_szMfn, Mfn.cs, ← hin]
  refine (a_szMinsS G f.ins left hl hb).use ?_
  by_cases h : f.ins.length ≤ left
  · have h1 : ¬ ((left - f.ins.length : Nat) : Int) < 0 := by omega
    simp -implicitDefEqProofs [leftI, h, h1]
  · simp -implicitDefEqProofs [leftI, h]
theorem a_szMfnS (fs : List Mfn) (left : Nat) (hl : left ≤ 1048576) (hb : fs.length ≤ 9223372036854775807) (hs : ∀ f ∈ fs, f.ins.length ≤ 9223372036854775807) : VF Tryd.prog G n_laws_szMfnS [.p (fnsL fs), .p (.int .i64 left)] (.p (.int .i64 (leftI left (szF fs)))) := by
  refine AC.go k_laws_szMfnS ?_
  have hw : IntKind.i64.wrap ((left : Int) - fs.length) = (left : Int) - fs.length := i64_small (by omega) (by omega)
  have hsz : szF fs = fs.length + (fs.map (·.ins.length)).sum := rfl
  have hfl : fnsL fs = .lst 3 (fs.map Mfn.cs) := rfl
  by_cases h : fs.length ≤ left
  case neg =>
    have h1 : (left : Int) - fs.length < 0 := by omega
    have h2 : ¬ szF fs ≤ left := by omega
    simp -implicitDefEqProofs [F_laws_szMfnS, hfl, hw, h1, leftI, h2]
  have h1 : ¬ (left : Int) - fs.length < 0 := by omega
  simp -implicitDefEqProofs [F_laws_szMfnS, hfl, hw, h1]
  refine loopA (fun i : Nat => tsOf 27 [(0, .p (fnsL fs)), (1, .p (.int .i64 ((left - fs.length - szT fs i : Nat) : Int))), (5, .p (.int .i64 i))]) (fun _ => []) (fun i => i ≤ fs.length ∧ fs.length + szT fs i ≤ left) (fun i => fs.length - i) 0 (by simp; omega) ?_ ?_
  · refine wkt_nil rfl ?_
    simp [below, hfl]
    omega
  · intro i ⟨hi, hx⟩
    simp -implicitDefEqProofs [hfl]
    refine cndb (fun h1 => ?_) (fun h1 => ?_)
    · simp at h1
      have hg := List.getElem?_eq_getElem h1
      have hsu := szT_succ h1
      have hsl := szT_le (fs := fs) (i := i + 1)
      have hc := a_szMfn G fs[i] (left - fs.length - szT fs i) (by omega) (hs _ (List.getElem_mem h1))
      simp -implicitDefEqProofs [hg]
      refine hc.use ?_
      by_cases h2 : fs[i].ins.length ≤ left - fs.length - szT fs i
      · have h3 : ¬ ((left - fs.length - szT fs i - fs[i].ins.length : Nat) : Int) < 0 := by omega
        simp -implicitDefEqProofs [leftI, h2, h3]
        refine ⟨i + 1, ⟨h1, by omega⟩, by omega, wkt_nil rfl ?_⟩
        simp [below, hfl, hsu, w1 (i := i) (by omega)]
        omega
      · have h5 : ¬ szF fs ≤ left := by omega
        simp -implicitDefEqProofs [leftI, h2, h5]
    · simp at h1
      have hta := szT_all (fs := fs) h1
      have h5 : szF fs ≤ left := by omega
      have h6 : ((left - fs.length - szT fs i : Nat) : Int) = ((left - szF fs : Nat) : Int) := by omega
      simp -implicitDefEqProofs [leftI, h5, h6]
theorem a_szMach (fs : List Mfn) (left : Nat) (hl : left ≤ 1048576) (hb : fs.length ≤ 9223372036854775807) (hs : ∀ f ∈ fs, f.ins.length ≤ 9223372036854775807) : VF Tryd.prog G n_laws_szMach [.agg [.p (fnsL fs)], .p (.int .i64 left)] (.p (.int .i64 (leftI left (szF fs)))) := by
  refine AC.go k_laws_szMach ?_
  simp -implicitDefEqProofs [F_laws_szMach]
  refine (a_szMfnS G fs left hl hb hs).use ?_
  by_cases h : szF fs ≤ left
  · have h1 : ¬ ((left - szF fs : Nat) : Int) < 0 := by omega
    simp -implicitDefEqProofs [leftI, h, h1]
  · simp -implicitDefEqProofs [leftI, h]
end Go.Proofs.YtbbobekgnclkfaaDoor
namespace Go.Proofs.YtbbobekgnclkfaaDoor
open Go Go.Aw
set_option maxRecDepth 100000
set_option maxHeartbeats 4000000
def LZ (a b c : AO) (mid os : List AO) : List AO := a :: b :: c :: (mid ++ os)
section
variable {a b c : AO} {mid os : List AO} {n : Nat}
theorem LZ_len (hm : mid.length = n) : (LZ a b c mid os).length = n + 3 + os.length := by simp [LZ, hm]; omega
theorem LZ_0 : (LZ a b c mid os)[0]? = some a := rfl
theorem LZ_1 : (LZ a b c mid os)[1]? = some b := rfl
theorem LZ_2 : (LZ a b c mid os)[2]? = some c := rfl
theorem LZ_m {i : Nat} (hi : i < mid.length) : (LZ a b c mid os)[3 + i]? = mid[i]? := by
  show (a :: b :: c :: (mid ++ os))[3 + i]? = _
  rw [show 3 + i = i + 1 + 1 + 1 by omega]
  simp only [List.getElem?_cons_succ]
  rw [List.getElem?_append_left hi]
theorem LZ_k (hm : mid.length = n) (k : Nat) : (LZ a b c mid os)[n + 3 + k]? = os[k]? := by
  show (a :: b :: c :: (mid ++ os))[n + 3 + k]? = _
  rw [show n + 3 + k = n + k + 1 + 1 + 1 by omega]
  simp only [List.getElem?_cons_succ]
  rw [List.getElem?_append_right (by omega), hm, show n + k - n = k by omega]
theorem LZ_k0 (hm : mid.length = n) : (LZ a b c mid os)[n + 3]? = os[0]? := LZ_k hm 0
theorem LZ_k1 (hm : mid.length = n) : (LZ a b c mid os)[n + 4]? = os[1]? := LZ_k hm 1
theorem LZ_k2 (hm : mid.length = n) : (LZ a b c mid os)[n + 5]? = os[2]? := LZ_k hm 2
theorem LZ_k3 (hm : mid.length = n) : (LZ a b c mid os)[n + 6]? = os[3]? := LZ_k hm 3
theorem LZ_k4 (hm : mid.length = n) : (LZ a b c mid os)[n + 7]? = os[4]? := LZ_k hm 4
theorem LZ_s0 (o : AO) : (LZ a b c mid os).set 0 o = LZ o b c mid os := rfl
theorem LZ_s1 (o : AO) : (LZ a b c mid os).set 1 o = LZ a o c mid os := rfl
theorem LZ_s2 (o : AO) : (LZ a b c mid os).set 2 o = LZ a b o mid os := rfl
theorem LZ_s (hm : mid.length = n) (k : Nat) (o : AO) : (LZ a b c mid os).set (n + 3 + k) o = LZ a b c mid (os.set k o) := by
  show (a :: b :: c :: (mid ++ os)).set (n + 3 + k) o = _
  rw [show n + 3 + k = n + k + 1 + 1 + 1 by omega]
  simp only [List.set_cons_succ]
  rw [List.set_append_right _ _ (by omega), hm, show n + k - n = k by omega]; rfl
theorem LZ_t0 (hm : mid.length = n) (o : AO) : (LZ a b c mid os).set (n + 3) o = LZ a b c mid (os.set 0 o) := LZ_s hm 0 o
theorem LZ_t1 (hm : mid.length = n) (o : AO) : (LZ a b c mid os).set (n + 4) o = LZ a b c mid (os.set 1 o) := LZ_s hm 1 o
theorem LZ_t2 (hm : mid.length = n) (o : AO) : (LZ a b c mid os).set (n + 5) o = LZ a b c mid (os.set 2 o) := LZ_s hm 2 o
theorem LZ_t3 (hm : mid.length = n) (o : AO) : (LZ a b c mid os).set (n + 6) o = LZ a b c mid (os.set 3 o) := LZ_s hm 3 o
theorem LZ_app (l : List AO) : LZ a b c mid os ++ l = LZ a b c mid (os ++ l) := by simp [LZ]
end
attribute [simp high] LZ_0 LZ_1 LZ_2 LZ_k0 LZ_k1 LZ_k2 LZ_k3 LZ_k4 LZ_s0 LZ_s1 LZ_s2 LZ_t0 LZ_t1 LZ_t2 LZ_t3 LZ_app
end Go.Proofs.YtbbobekgnclkfaaDoor
namespace Go.Proofs.YtbbobekgnclkfaaDoor
open Go Go.Aw
set_option maxRecDepth 100000
set_option maxHeartbeats 4000000
variable (G : Glob)
/-- A heap that was marked. -/
theorem LZ_of {a b : AO} {gs : List Mfn} {os h : List AO} (hm : MachAt h 2 gs) (h0 : h[0]? = some a) (h1 : h[1]? = some b) (hl : h.length = gs.length + 3 + os.length + 1) (hs : ∀ k, k < os.length → h[gs.length + 3 + k]? = os[k]?) :
    ∃ x, h = LZ a b (.row 3 (fnsR 3 gs)) (gs.map fun f => insO f.ins) (os ++ [x]) := by
  have hml : (gs.map fun f => insO f.ins).length = gs.length := by simp
  obtain ⟨x, hx⟩ : ∃ x, h[gs.length + 3 + os.length]? = some x := ⟨_, List.getElem?_eq_getElem (by omega)⟩
  refine ⟨x, List.ext_getElem? fun i => ?_⟩
  match i with
  | 0 => rw [LZ_0]; exact h0
  | 1 => rw [LZ_1]; exact h1
  | 2 => rw [LZ_2]; exact hm.row
  | i + 3 =>
    rcases Nat.lt_or_ge i gs.length with hi | hi
    · have := hm.ins i _ (List.getElem?_eq_getElem hi)
      rw [show 2 + 1 + i = i + 3 by omega] at this
      rw [this, show i + 3 = 3 + i by omega, LZ_m (by rw [hml]; exact hi), List.getElem?_map, List.getElem?_eq_getElem hi]; rfl
    · have e : i + 3 = gs.length + 3 + (i - gs.length) := by omega
      rw [e, LZ_k hml]
      rcases Nat.lt_trichotomy (i - gs.length) os.length with hk | hk | hk
      · rw [hs _ hk, List.getElem?_append_left hk]
      · rw [hk, hx, List.getElem?_append_right (Nat.le_refl _)]; simp
      · rw [List.getElem?_eq_none (by omega), List.getElem?_eq_none (by simp; omega)]
variable (hG : G g_forms = some pvForms) (hM : G g_magic = some pvMagic)
include hG hM
end Go.Proofs.YtbbobekgnclkfaaDoor
namespace Go.Proofs.YtbbobekgnclkfaaDoor
open Go Go.Aw
set_option maxRecDepth 100000
set_option maxHeartbeats 4000000
theorem nofn_fnsR : ∀ (fs : List Mfn) (b : Nat), (fnsR b fs).all nofnL = true
  | [], _ => rfl
  | f :: r, b => by
    have := nofn_fnsR r (b + 1)
    simp only [fnsR, List.all_cons, this, Bool.and_true]
    rfl
theorem nofn_fns (fs : List Mfn) : (fnsO 0 fs).all nofnO = true := by
  simp only [fnsO, List.all_cons, nofnO, nofn_fnsR, Bool.true_and, List.all_map, List.all_eq_true]
  intro f _
  exact nofnO_insA f.ins
section
variable {a b c : AO} {mid os : List AO} {n : Nat}
theorem LZ_k5 (hm : mid.length = n) : (LZ a b c mid os)[n + 8]? = os[5]? := LZ_k hm 5
theorem LZ_k6 (hm : mid.length = n) : (LZ a b c mid os)[n + 9]? = os[6]? := LZ_k hm 6
theorem LZ_k7 (hm : mid.length = n) : (LZ a b c mid os)[n + 10]? = os[7]? := LZ_k hm 7
theorem LZ_k8 (hm : mid.length = n) : (LZ a b c mid os)[n + 11]? = os[8]? := LZ_k hm 8
theorem LZ_t4 (hm : mid.length = n) (o : AO) : (LZ a b c mid os).set (n + 7) o = LZ a b c mid (os.set 4 o) := LZ_s hm 4 o
theorem LZ_t5 (hm : mid.length = n) (o : AO) : (LZ a b c mid os).set (n + 8) o = LZ a b c mid (os.set 5 o) := LZ_s hm 5 o
theorem LZ_t6 (hm : mid.length = n) (o : AO) : (LZ a b c mid os).set (n + 9) o = LZ a b c mid (os.set 6 o) := LZ_s hm 6 o
theorem LZ_t7 (hm : mid.length = n) (o : AO) : (LZ a b c mid os).set (n + 10) o = LZ a b c mid (os.set 7 o) := LZ_s hm 7 o
theorem LZ_t8 (hm : mid.length = n) (o : AO) : (LZ a b c mid os).set (n + 11) o = LZ a b c mid (os.set 8 o) := LZ_s hm 8 o
end
attribute [simp high] LZ_k5 LZ_k6 LZ_k7 LZ_k8 LZ_t4 LZ_t5 LZ_t6 LZ_t7 LZ_t8
theorem objOf_bound {fs : List Mfn} {i : Int} {names : List (List UInt8)} {o : Obj} (ho : objOf fs i names = some o) : o.code.length ≤ 8000 ∧ o.calls.length ≤ 2000 ∧ o.names.length ≤ 2000 := by
  unfold objOf at ho
  split at ho
  case isFalse => cases ho
  rename_i hh
  split at ho
  case h_2 => cases ho
  rename_i f hf
  split at ho
  case isFalse => cases ho
  rename_i hc
  cases ho
  obtain ⟨q1, q2, q3⟩ := mach_fn hh.1 hf
  have h1 := encB_len (blankF f)
  have h2 : (blankF f).ins.length = f.ins.length := by simp [blankF]
  have h3 := nmT_len f names f.ins.length
  rw [nmT_all] at h3
  have h4 := calls_names f names hc
  refine ⟨?_, ?_, ?_⟩
  · show (encB (blankF f)).length ≤ 8000
    omega
  · show (callsF f).length ≤ 2000
    omega
  · show (nmF f names).length ≤ 2000
    omega
/-- No object, as the program hands it back. -/
theorem zObj_view (h : List AO) : Views h [.agg [.p (.str []), .p (.int .i64 0), .p (.int .i64 0), .nils, .nils, .nils], .agg (zObj.cs.map .p)] [.agg (zObj.cs.map .p), .agg (zObj.cs.map .p)] :=
  .agg (.keep (by simp [below]) (.keep (by simp [below]) (.keep (by simp [below]) (.one (View.nils 1) (.one (View.nils 1) (.one (View.nils 1) .nil)))))) (.keep (by simp [below, belowL, Obj.cs]) .nil)
theorem zObj_view1 (h : List AO) (x : AV) (hx : below 0 x) : Views h [.agg [.p (.str []), .p (.int .i64 0), .p (.int .i64 0), .nils, .nils, .nils], x] [.agg ((mkdO 1 zObj).cs.map .p), x] :=
  .agg (.keep (by simp [below]) (.keep (by simp [below]) (.keep (by simp [below]) (.one (View.nils 1) (.one (View.nils 1) (.one (View.nils 1) .nil)))))) (.keep hx .nil)
theorem mkd_view {h : List AO} {o : Obj} {a b c k : Nat} {x : AV} (hx : below 0 x) (e1 : h[a]? = some (bysO (mks8 k o.code.length))) (e2 : h[b]? = some (numO (mksN (k + o.code.length) o.calls.length))) (e3 : h[c]? = some (strO (mksW (k + o.code.length + o.calls.length) o.names.length))) :
    Views h [.agg (o.ov a b c), x] [.agg ((mkdO k o).cs.map .p), x] := by
  have v1 := bysO_view e1
  have v2 := numO_view e2
  have v3 := strO_view e3
  rw [show (mks8 k o.code.length).length = o.code.length by simp [mks8]] at v1
  rw [mksN_len] at v2
  rw [mksW_len] at v3
  exact .agg (.keep (by simp [below]) (.keep (by simp [below]) (.keep (by simp [below]) (.one v1 (.one v2 (.one v3 .nil)))))) (.keep hx .nil)
theorem mkd_viewE {h : List AO} {o : Obj} {a k : Nat} {x : AV} (hx : below 0 x) (hc : o.calls = []) (hn : o.names = []) (e1 : h[a]? = some (bysO (mks8 k o.code.length))) :
    Views h [.agg [.p (.str o.name), .p (.int .i64 o.params), .p (.int .i64 o.slots), .sl a 1 0 o.code.length, .nils, .nils], x] [.agg ((mkdO k o).cs.map .p), x] := by
  have v1 := bysO_view e1
  rw [show (mks8 k o.code.length).length = o.code.length by simp [mks8]] at v1
  have v2 : View h .nils (numL (mksN (k + o.code.length) o.calls.length)) := by rw [hc]; exact View.nils 1
  have v3 : View h .nils (strL (mksW (k + o.code.length + o.calls.length) o.names.length)) := by rw [hn]; exact View.nils 1
  exact .agg (.keep (by simp [below]) (.keep (by simp [below]) (.keep (by simp [below]) (.one v1 (.one v2 (.one v3 .nil)))))) (.keep hx .nil)
theorem obj_viewE {h : List AO} {o : Obj} {a : Nat} (hc : o.calls = []) (hn : o.names = []) (e1 : h[a]? = some (bysO o.code)) : Views h [.agg [.p (.str o.name), .p (.int .i64 o.params), .p (.int .i64 o.slots), .sl a 1 0 o.code.length, .nils, .nils], .agg (o.cs.map .p)] [.agg (o.cs.map .p), .agg (o.cs.map .p)] := by
  have v2 : View h .nils (numL o.calls) := by rw [hc]; exact View.nils 1
  have v3 : View h .nils (strL o.names) := by rw [hn]; exact View.nils 1
  exact .agg (.keep (by simp [below]) (.keep (by simp [below]) (.keep (by simp [below]) (.one (bysO_view e1) (.one v2 (.one v3 .nil)))))) (.keep (by simp [below, belowL, Obj.cs]) .nil)
section
variable (G : Glob)
theorem t_markIntS_nil (k : Int) : VF Tryd.prog G n_laws_markIntS [.nils, .p (.int .i64 k)] (.p (.int .i64 k)) := by
  refine AC.go k_laws_markIntS ?_
  simp -implicitDefEqProofs [F_laws_markIntS]
  refine loopA (fun _ : Unit => tsOf 19 [(0, .nils), (1, .p (.int .i64 k)), (5, .p (.int .i64 0))]) (fun _ => []) (fun _ => True) (fun _ => 0) () trivial (wkt_nil rfl (by simp)) ?_
  intro _ _
  simp -implicitDefEqProofs []
theorem t_markObject0 (k : Int) : VF Tryd.prog G n_laws_markObject [.agg [.p (.str []), .p (.int .i64 0), .p (.int .i64 0), .nils, .nils, .nils], .p (.int .i64 k)] (.p (.int .i64 k)) := by
  refine AC.go k_laws_markObject ?_
  simp -implicitDefEqProofs [F_laws_markObject]
  refine (t_markByteS_nil G k).use ?_
  simp -implicitDefEqProofs []
  refine (t_markIntS_nil G k).use ?_
  simp -implicitDefEqProofs []
  refine (t_markStringS_nil G k).use ?_
  simp -implicitDefEqProofs []
/-- An object that calls nothing. -/
theorem m_markObjectE {h : List AO} {a : Nat} {o : Obj} {k : Nat} (h1 : h[a]? = some (bysO o.code)) (hk : k + o.code.length ≤ 1152921504606846976) :
    AC Tryd.prog G n_laws_markObject [.agg [.p (.str o.name), .p (.int .i64 o.params), .p (.int .i64 o.slots), .sl a 1 0 o.code.length, .nils, .nils], .p (.int .i64 k)] h fun x h' => x = .ret (.p (.int .i64 ((k + o.code.length : Nat) : Int))) ∧
      ∃ z, h' = h.set a (bysO (mks8 k o.code.length)) ++ [z] := by
  have ha := (List.getElem?_eq_some_iff.1 h1).1
  refine AC.go k_laws_markObject ?_
  simp -implicitDefEqProofs [F_laws_markObject]
  refine (m_markByteS G (xs := o.code) (k := k) (by rw [List.getElem?_append_left ha]; exact h1) (by omega)).mono ?_
  rintro x h' ⟨rfl, rfl⟩
  rw [List.set_append_left _ _ ha]
  simp -implicitDefEqProofs [callR_nxt]
  refine (t_markIntS_nil G _).use ?_
  simp -implicitDefEqProofs []
  refine (t_markStringS_nil G _).use ?_
  simp -implicitDefEqProofs []
end
variable (G : Glob) (hG : G g_forms = some pvForms) (hK : G g_keys = some pvKeys)
include hG hK
theorem law_ObjectOf (fs : List Mfn) (i : Int) (names : List (List UInt8)) (h1 : fs.length ≤ 9223372036854775807) (h2 : ∀ f ∈ fs, f.ins.length ≤ 9223372036854775807) (h3 : names.length ≤ 9223372036854775807) (h4 : ∀ x ∈ names, x.length ≤ 9223372036854775807) :
    VF Tryd.prog G n_laws_FnExactObjectOf [.agg [.p (fnsL fs)], .p (.int .i64 i), .p (strL names)] (.p (.bool true)) := by
  refine AC.go k_laws_FnExactObjectOf ?_
  have hs : VF Tryd.prog G n_laws_szMach [.agg [.p (fnsL fs)], .p (.int .i64 1048576)] (.p (.int .i64 (leftI 1048576 (szF fs)))) := a_szMach G fs 1048576 (Nat.le_refl _) h1 h2
  simp -implicitDefEqProofs [F_laws_FnExactObjectOf]
  refine hs.use ?_
  by_cases hz : szF fs ≤ 1048576
  case neg => simp -implicitDefEqProofs [leftI, hz]
  have hn0 : ¬ ((1048576 - szF fs : Nat) : Int) < 0 := by omega
  simp -implicitDefEqProofs [leftI, hz, hn0]
  refine (t_szStringS G names (1048576 - szF fs) (by omega) h3 h4).use ?_
  by_cases hz2 : szW names ≤ 1048576 - szF fs
  case neg => simp -implicitDefEqProofs [hz2]
  have hn1 : ¬ ((1048576 - szF fs - szW names : Nat) : Int) < 0 := by omega
  have hb : szF fs + szW names ≤ 1048576 := by omega
  simp -implicitDefEqProofs [hz2, hn1]
  have hwz : szW names = names.length + (names.map List.length).sum := rfl
  have hszt : szT fs fs.length ≤ (fs.map (·.ins.length)).sum := szT_le
  have hsz : szF fs = fs.length + (fs.map (·.ins.length)).sum := rfl
  have htm := t_toMach G fs (by omega)
  have hts := t_toStringS G names (by omega)
  refine htm.use ?_
  simp -implicitDefEqProofs []
  refine hts.use ?_
  simp -implicitDefEqProofs []
  refine (s_ObjectOf G fs i names hb).use ?_
  simp -implicitDefEqProofs [Obj.cs]
  refine (AC.lift (o_toMach G fs (by omega)) (by simp [belowL, below]) rfl (nofn_fns fs)).mono ?_
  rintro r h ⟨rfl, rfl⟩
  rw [fnsO_shift]
  have hml : (fs.map fun f => insO f.ins).length = fs.length := by simp
  have hlen : ∀ a b c os, (LZ a b c (fs.map fun f => insO f.ins) os).length = fs.length + 3 + os.length := fun a b c os => LZ_len hml
  have hma : ∀ (a b : AO) (os : List AO), MachAt (LZ a b (.row 3 (fnsR 3 fs)) (fs.map fun f => insO f.ins) os) 2 fs := fun a b os => ⟨rfl, fun k m hk => by
    have hkl := (List.getElem?_eq_some_iff.1 hk).1
    rw [show 2 + 1 + k = 3 + k by omega, LZ_m (by rw [hml]; exact hkl), List.getElem?_map, hk]; rfl⟩
  have hLZ : ∀ a b : AO, [a, b] ++ fnsO [a, b].length fs = LZ a b (.row 3 (fnsR 3 fs)) (fs.map fun f => insO f.ins) [] := fun a b => by simp [LZ, fnsO]
  rw [hLZ]
  simp -implicitDefEqProofs [callR_nxt, shiftV, shiftL, hlen, hml]
  refine (AC.lift (o_toStringS G names (by omega)) (by simp [belowL, below]) rfl (by simp only [List.all_cons, List.all_nil, nofnO_str]; rfl)).mono ?_
  rintro r h ⟨rfl, rfl⟩
  simp -implicitDefEqProofs [callR_nxt, shiftV, shiftL, shiftO_str, hlen, hml]
  cases ho : objOf fs i names with
  | none =>
    simp -implicitDefEqProofs [ho]
    refine (AC.lend ((i_ObjectOf0 G hG hK hb ho).ac (by simp [belowL, below]) (by simp [belowL, below, zObjV]) []) (.agg (.one (machAt_view (hma _ _ _)) .nil) (.keep (by simp [below]) (.one (strO_view (LZ_k1 hml)) .nil))) rfl rfl).mono ?_
    rintro r h ⟨rfl, rfl⟩
    simp -implicitDefEqProofs [callR_nxt, shiftV, shiftL, hlen, hml, zObjV]
    have heqO := t_eqObject G zObj zObj (by simp [zObj]) (by simp [zObj]) (by simp [zObj])
    have heq := t_eqMach G fs fs (by omega)
    have heqS := t_eqStringS G names names (by omega)
    refine (VF.lend heqO (zObj_view _) rfl).mono ?_
    rintro r h ⟨rfl, rfl⟩
    simp -implicitDefEqProofs [callR_nxt, hlen, hml]
    refine htm.use ?_
    simp -implicitDefEqProofs [hlen, hml]
    refine (VF.lend heq (.agg (.one (machAt_view (hma _ _ _)) .nil) (.keep (by simp [below, belowL]) .nil)) rfl).mono ?_
    rintro r h ⟨rfl, rfl⟩
    simp -implicitDefEqProofs [callR_nxt, hlen, hml]
    refine hts.use ?_
    simp -implicitDefEqProofs [hlen, hml]
    refine (VF.lend heqS (.one (strO_view (LZ_k1 hml)) (.keep (by simp [below]) .nil)) rfl).mono ?_
    rintro r h ⟨rfl, rfl⟩
    simp -implicitDefEqProofs [callR_nxt, hlen, hml]
    refine (x_markMach G (k := 1) (hma _ _ _) (by omega)).mono ?_
    rintro r h2 ⟨rfl, hl2, hm2, hs2⟩
    rw [hlen] at hl2
    have hgl := markAt_len 1 fs fs.length
    obtain ⟨x, hh2⟩ := LZ_of hm2 (a := .row 1 [[.p (fnsL fs)]]) (b := .row 6 [zObj.cs.map .p]) (os := [.row 1 [[.sl 2 3 0 fs.length]], strO names, .row 6 [zObjV]]) (by rw [hs2 0 (by rw [hlen]; omega) (.inl (by omega)), LZ_0]) (by rw [hs2 1 (by rw [hlen]; omega) (.inl (by omega)), LZ_1]; rfl) (by rw [hgl]; exact hl2)
      (fun k hk => by rw [hgl, hs2 _ (by rw [hlen]; simp at hk ⊢; omega) (.inr (by omega)), LZ_k hml]; rfl)
    subst hh2
    have hml2 : ((markAt 1 fs fs.length).map fun f => insO f.ins).length = fs.length := by simp [hgl]
    have hlen2 : ∀ a b c os, (LZ a b c ((markAt 1 fs fs.length).map fun f => insO f.ins) os).length = fs.length + 3 + os.length := fun a b c os => LZ_len hml2
    generalize hmid : ((markAt 1 fs fs.length).map fun f => insO f.ins) = mid2 at *
    generalize hrow : AO.row 3 (fnsR 3 (markAt 1 fs fs.length)) = row2 at *
    simp -implicitDefEqProofs [callR_nxt, hml2, hlen2]
    have cS := fun (h : List AO) (hr : h[fs.length + 4]? = some (strO names)) => m_markStringS G (h := h) (id := fs.length + 4) (xs := names) (k := 1 + 2 * fs.length + 5 * szT fs fs.length) hr (by omega)
    rw [show ((1 + 2 * fs.length + 5 * szT fs fs.length : Nat) : Int) = 1 + 2 * (fs.length : Int) + 5 * (szT fs fs.length : Int) by omega] at cS
    refine (cS _ (LZ_k1 hml2)).mono ?_
    rintro r h ⟨rfl, rfl⟩
    have hk1 : ¬ (1 : Int) + 2 * (fs.length : Int) + 5 * (szT fs fs.length : Int) + (names.length : Int) < 0 := by omega
    simp -implicitDefEqProofs [callR_nxt, hml2, hlen2, hk1, zObjV]
    refine (VF.lend heqO (zObj_view _) rfl).mono ?_
    rintro r h ⟨rfl, rfl⟩
    simp -implicitDefEqProofs [callR_nxt, hml2, hlen2]
    refine (t_markObject0 G 1).use ?_
    simp -implicitDefEqProofs [hml2, hlen2]
    have hhe : VF Tryd.prog G n_laws_heldObject [.agg ((mkdO 1 zObj).cs.map .p), .p (.int .i64 1)] (.p (.int .i64 1)) := t_heldObject G 1 zObj (by simp [zObj])
    refine (VF.lend hhe (zObj_view1 _ _ (by simp [below])) rfl).mono ?_
    rintro r h ⟨rfl, rfl⟩
    simp -implicitDefEqProofs [callR_nxt, hml2, hlen2]
    refine htm.use ?_
    simp -implicitDefEqProofs [hml2, hlen2]
    refine hts.use ?_
    simp -implicitDefEqProofs [hml2, hlen2]
    have h00 : VF Tryd.prog G n_impl_ObjectOf [.agg [.p (fnsL fs)], .p (.int .i64 i), .p (strL names)] (.tup [.agg [.p (.str []), .p (.int .i64 0), .p (.int .i64 0), .nils, .nils, .nils], .p (.bool false)]) := i_ObjectOf0 G hG hK hb ho
    refine h00.use ?_
    simp -implicitDefEqProofs [hml2, hlen2]
    refine (VF.lend heqO (zObj_view _) rfl).mono ?_
    rintro r h ⟨rfl, rfl⟩
    simp -implicitDefEqProofs [callR_nxt, hml2, hlen2]
    refine (VF.lend hhe (zObj_view1 _ _ (by simp [below])) rfl).mono ?_
    rintro r h ⟨rfl, rfl⟩
    simp -implicitDefEqProofs [callR_nxt, hml2, hlen2]
  | some o =>
    simp -implicitDefEqProofs [ho]
    obtain ⟨hb1, hb2, hb3⟩ := objOf_bound ho
    have heqO := t_eqObject G o o (by omega) (by omega) (by omega)
    have heq := t_eqMach G fs fs (by omega)
    have heqS := t_eqStringS G names names (by omega)
    by_cases he : o.calls = []
    · obtain ⟨hn, hE⟩ := i_ObjectOfE G hG hK hb ho he
      have hcl : ([bysO o.code] : List AO).all cleanO = true := by simp [cleanO, bysO, cleanL, clean]
      refine (AC.lend hE (.agg (.one (machAt_view (hma _ _ _)) .nil) (.keep (by simp [below]) (.one (strO_view (LZ_k1 hml)) .nil))) rfl hcl).mono ?_
      rintro r h ⟨rfl, rfl⟩
      simp -implicitDefEqProofs [callR_nxt, shiftV, shiftL, shiftO_bys, hlen, hml]
      have hs1 : fs.length + 3 + 2 + 1 = fs.length + 6 := rfl
      have hs2 : fs.length + 3 + 2 + 2 = fs.length + 7 := rfl
      refine (VF.lend heqO (obj_viewE (a := fs.length + 5) he hn (LZ_k2 hml)) rfl).mono ?_
      rintro r h ⟨rfl, rfl⟩
      simp -implicitDefEqProofs [callR_nxt, hlen, hml, hs1, hs2]
      refine htm.use ?_
      simp -implicitDefEqProofs [hlen, hml]
      refine (VF.lend heq (.agg (.one (machAt_view (hma _ _ _)) .nil) (.keep (by simp [below, belowL]) .nil)) rfl).mono ?_
      rintro r h ⟨rfl, rfl⟩
      simp -implicitDefEqProofs [callR_nxt, hlen, hml]
      refine hts.use ?_
      simp -implicitDefEqProofs [hlen, hml]
      refine (VF.lend heqS (.one (strO_view (LZ_k1 hml)) (.keep (by simp [below]) .nil)) rfl).mono ?_
      rintro r h ⟨rfl, rfl⟩
      simp -implicitDefEqProofs [callR_nxt, hlen, hml]
      refine (x_markMach G (k := 1) (hma _ _ _) (by omega)).mono ?_
      rintro r h2 ⟨rfl, hl2, hm2, hs2'⟩
      rw [hlen] at hl2
      have hgl := markAt_len 1 fs fs.length
      obtain ⟨x, hh2⟩ := LZ_of hm2 (a := .row 1 [[.p (fnsL fs)]]) (b := .row 6 [o.cs.map .p]) (os := [.row 1 [[.sl 2 3 0 fs.length]], strO names, bysO o.code, .row 6 [[.p (.str o.name), .p (.int .i64 o.params), .p (.int .i64 o.slots), .sl (fs.length + 5) 1 0 o.code.length, .nils, .nils]]]) (by rw [hs2' 0 (by rw [hlen]; omega) (.inl (by omega)), LZ_0]) (by rw [hs2' 1 (by rw [hlen]; omega) (.inl (by omega)), LZ_1]; try rfl) (by rw [hgl]; exact hl2)
        (fun k hk => by rw [hgl, hs2' _ (by rw [hlen]; simp at hk ⊢; omega) (.inr (by omega)), LZ_k hml]; try rfl)
      subst hh2
      have hml2 : ((markAt 1 fs fs.length).map fun f => insO f.ins).length = fs.length := by simp [hgl]
      have hlen2 : ∀ a b c os, (LZ a b c ((markAt 1 fs fs.length).map fun f => insO f.ins) os).length = fs.length + 3 + os.length := fun a b c os => LZ_len hml2
      generalize hmid : ((markAt 1 fs fs.length).map fun f => insO f.ins) = mid2 at *
      generalize hrow : AO.row 3 (fnsR 3 (markAt 1 fs fs.length)) = row2 at *
      simp -implicitDefEqProofs [callR_nxt, hml2, hlen2]
      have cS := fun (h : List AO) (hr : h[fs.length + 4]? = some (strO names)) => m_markStringS G (h := h) (id := fs.length + 4) (xs := names) (k := 1 + 2 * fs.length + 5 * szT fs fs.length) hr (by omega)
      rw [show ((1 + 2 * fs.length + 5 * szT fs fs.length : Nat) : Int) = 1 + 2 * (fs.length : Int) + 5 * (szT fs fs.length : Int) by omega] at cS
      refine (cS _ (LZ_k1 hml2)).mono ?_
      rintro r h ⟨rfl, rfl⟩
      have hk1 : ¬ (1 : Int) + 2 * (fs.length : Int) + 5 * (szT fs fs.length : Int) + (names.length : Int) < 0 := by omega
      simp -implicitDefEqProofs [callR_nxt, hml2, hlen2, hk1, Obj.ov, Obj.cs]
      refine (VF.lend heqO (obj_viewE (a := fs.length + 5) he hn (LZ_k2 hml2)) rfl).mono ?_
      rintro r h ⟨rfl, rfl⟩
      simp -implicitDefEqProofs [callR_nxt, hml2, hlen2]
      refine (m_markObjectE G (o := o) (k := 1) (a := fs.length + 5) (LZ_k2 hml2) (by omega)).mono ?_
      rintro r h ⟨rfl, z, rfl⟩
      simp -implicitDefEqProofs [callR_nxt, hml2, hlen2]
      have hhe := t_heldObject G 1 o (by omega)
      rw [show 1 + o.code.length + o.calls.length + o.names.length = 1 + o.code.length by rw [he, hn]; rfl] at hhe
      refine (VF.lend hhe (mkd_viewE (a := fs.length + 5) (by simp [below]) he hn (LZ_k2 hml2)) rfl).mono ?_
      rintro r h ⟨rfl, rfl⟩
      have hk2 : ¬ (1 : Int) + (o.code.length : Int) < 0 := by omega
      simp -implicitDefEqProofs [callR_nxt, hml2, hlen2, hk2]
      refine htm.use ?_
      simp -implicitDefEqProofs [hml2, hlen2]
      refine hts.use ?_
      simp -implicitDefEqProofs [hml2, hlen2]
      have hpo : VF Tryd.prog G n_impl_ObjectOf [.agg [.p (fnsL fs)], .p (.int .i64 i), .p (strL names)] (.tup [.agg (o.cs.map .p), .p (.bool true)]) := t_iObjectOf G hG hK hb ho
      refine hpo.use ?_
      simp -implicitDefEqProofs [hml2, hlen2, Obj.cs]
      refine heqO.use ?_
      simp -implicitDefEqProofs [hml2, hlen2]
      refine (VF.lend hhe (mkd_viewE (a := fs.length + 5) (by simp [below]) he hn (LZ_k2 hml2)) rfl).mono ?_
      rintro r h ⟨rfl, rfl⟩
      simp -implicitDefEqProofs [callR_nxt, hml2, hlen2, hk2]
    · have hcl : ([bysO o.code, numO o.calls, strO o.names] : List AO).all cleanO = true := by simp [cleanO, strO, bysO, numO, cleanL, clean]
      refine (AC.lend (i_ObjectOfN G hG hK hb ho he) (.agg (.one (machAt_view (hma _ _ _)) .nil) (.keep (by simp [below]) (.one (strO_view (LZ_k1 hml)) .nil))) rfl hcl).mono ?_
      rintro r h ⟨rfl, rfl⟩
      simp -implicitDefEqProofs [callR_nxt, shiftV, shiftL, shiftO_bys, shiftO_num, shiftO_str, hlen, hml, Obj.ov]
      have hs1 : fs.length + 3 + 2 + 1 = fs.length + 6 := rfl
      have hs2 : fs.length + 3 + 2 + 2 = fs.length + 7 := rfl
      refine (VF.lend heqO (obj_view2 (a := fs.length + 5) (b := fs.length + 6) (c := fs.length + 7) (LZ_k2 hml) (LZ_k3 hml) (LZ_k4 hml)) rfl).mono ?_
      rintro r h ⟨rfl, rfl⟩
      simp -implicitDefEqProofs [callR_nxt, hlen, hml, hs1, hs2]
      refine htm.use ?_
      simp -implicitDefEqProofs [hlen, hml]
      refine (VF.lend heq (.agg (.one (machAt_view (hma _ _ _)) .nil) (.keep (by simp [below, belowL]) .nil)) rfl).mono ?_
      rintro r h ⟨rfl, rfl⟩
      simp -implicitDefEqProofs [callR_nxt, hlen, hml]
      refine hts.use ?_
      simp -implicitDefEqProofs [hlen, hml]
      refine (VF.lend heqS (.one (strO_view (LZ_k1 hml)) (.keep (by simp [below]) .nil)) rfl).mono ?_
      rintro r h ⟨rfl, rfl⟩
      simp -implicitDefEqProofs [callR_nxt, hlen, hml]
      refine (x_markMach G (k := 1) (hma _ _ _) (by omega)).mono ?_
      rintro r h2 ⟨rfl, hl2, hm2, hs2'⟩
      rw [hlen] at hl2
      have hgl := markAt_len 1 fs fs.length
      obtain ⟨x, hh2⟩ := LZ_of hm2 (a := .row 1 [[.p (fnsL fs)]]) (b := .row 6 [o.cs.map .p]) (os := [.row 1 [[.sl 2 3 0 fs.length]], strO names, bysO o.code, numO o.calls, strO o.names, .row 6 [o.ov (fs.length + 5) (fs.length + 6) (fs.length + 7)]]) (by rw [hs2' 0 (by rw [hlen]; omega) (.inl (by omega)), LZ_0]) (by rw [hs2' 1 (by rw [hlen]; omega) (.inl (by omega)), LZ_1]; rfl) (by rw [hgl]; exact hl2)
        (fun k hk => by rw [hgl, hs2' _ (by rw [hlen]; simp at hk ⊢; omega) (.inr (by omega)), LZ_k hml]; rfl)
      subst hh2
      have hml2 : ((markAt 1 fs fs.length).map fun f => insO f.ins).length = fs.length := by simp [hgl]
      have hlen2 : ∀ a b c os, (LZ a b c ((markAt 1 fs fs.length).map fun f => insO f.ins) os).length = fs.length + 3 + os.length := fun a b c os => LZ_len hml2
      generalize hmid : ((markAt 1 fs fs.length).map fun f => insO f.ins) = mid2 at *
      generalize hrow : AO.row 3 (fnsR 3 (markAt 1 fs fs.length)) = row2 at *
      simp -implicitDefEqProofs [callR_nxt, hml2, hlen2]
      have cS := fun (h : List AO) (hr : h[fs.length + 4]? = some (strO names)) => m_markStringS G (h := h) (id := fs.length + 4) (xs := names) (k := 1 + 2 * fs.length + 5 * szT fs fs.length) hr (by omega)
      rw [show ((1 + 2 * fs.length + 5 * szT fs fs.length : Nat) : Int) = 1 + 2 * (fs.length : Int) + 5 * (szT fs fs.length : Int) by omega] at cS
      refine (cS _ (LZ_k1 hml2)).mono ?_
      rintro r h ⟨rfl, rfl⟩
      have hk1 : ¬ (1 : Int) + 2 * (fs.length : Int) + 5 * (szT fs fs.length : Int) + (names.length : Int) < 0 := by omega
      simp -implicitDefEqProofs [callR_nxt, hml2, hlen2, hk1, Obj.ov, Obj.cs]
      refine (VF.lend heqO (obj_view2 (a := fs.length + 5) (b := fs.length + 6) (c := fs.length + 7) (LZ_k2 hml2) (LZ_k3 hml2) (LZ_k4 hml2)) rfl).mono ?_
      rintro r h ⟨rfl, rfl⟩
      simp -implicitDefEqProofs [callR_nxt, hml2, hlen2]
      refine (m_markObject G (o := o) (k := 1) (a := fs.length + 5) (b := fs.length + 6) (c := fs.length + 7) (LZ_k2 hml2) (LZ_k3 hml2) (LZ_k4 hml2) (by omega) (by omega) (by omega) (by omega)).mono ?_
      rintro r h ⟨rfl, z, rfl⟩
      simp -implicitDefEqProofs [callR_nxt, hml2, hlen2]
      have hhe := t_heldObject G 1 o (by omega)
      refine (VF.lend hhe (mkd_view (a := fs.length + 5) (b := fs.length + 6) (c := fs.length + 7) (by simp [below]) (LZ_k2 hml2) (LZ_k3 hml2) (LZ_k4 hml2)) rfl).mono ?_
      rintro r h ⟨rfl, rfl⟩
      have hk2 : ¬ (1 : Int) + (o.code.length : Int) + (o.calls.length : Int) + (o.names.length : Int) < 0 := by omega
      simp -implicitDefEqProofs [callR_nxt, hml2, hlen2, hk2]
      refine htm.use ?_
      simp -implicitDefEqProofs [hml2, hlen2]
      refine hts.use ?_
      simp -implicitDefEqProofs [hml2, hlen2]
      have hpo : VF Tryd.prog G n_impl_ObjectOf [.agg [.p (fnsL fs)], .p (.int .i64 i), .p (strL names)] (.tup [.agg (o.cs.map .p), .p (.bool true)]) := t_iObjectOf G hG hK hb ho
      refine hpo.use ?_
      simp -implicitDefEqProofs [hml2, hlen2, Obj.cs]
      refine heqO.use ?_
      simp -implicitDefEqProofs [hml2, hlen2]
      refine (VF.lend hhe (mkd_view (a := fs.length + 5) (b := fs.length + 6) (c := fs.length + 7) (by simp [below]) (LZ_k2 hml2) (LZ_k3 hml2) (LZ_k4 hml2)) rfl).mono ?_
      rintro r h ⟨rfl, rfl⟩
      simp -implicitDefEqProofs [callR_nxt, hml2, hlen2, hk2]
end Go.Proofs.YtbbobekgnclkfaaDoor
namespace Go.Proofs.YtbbobekgnclkfaaDoor
open Go Go.Aw
set_option maxRecDepth 100000
theorem u3 : Tryd.prog.underlying 3 = some (.int .i64) := by kernel_rfl
theorem conf_int5 {vs : List PV} (h : ConfS Tryd.prog [3, 3, 3, 3, 3] vs) : ∃ m : Mins, vs = m.cs := by
  obtain ⟨a, r, rfl, h1, h⟩ := confS_cons h
  obtain ⟨b, r, rfl, h2, h⟩ := confS_cons h
  obtain ⟨c, r, rfl, h3, h⟩ := confS_cons h
  obtain ⟨d, r, rfl, h4, h⟩ := confS_cons h
  obtain ⟨e, r, rfl, h5, h⟩ := confS_cons h
  cases confS_nil h
  obtain ⟨n1, rfl, _⟩ := conf_int h1 u3
  obtain ⟨n2, rfl, _⟩ := conf_int h2 u3
  obtain ⟨n3, rfl, _⟩ := conf_int h3 u3
  obtain ⟨n4, rfl, _⟩ := conf_int h4 u3
  obtain ⟨n5, rfl, _⟩ := conf_int h5 u3
  exact ⟨⟨n1, n2, n3, n4, n5⟩, rfl⟩
theorem conf_mins {vs : List PV} (h : Conf Tryd.prog 164 vs) : ∃ m : Mins, vs = m.cs :=
  conf_int5 (conf_st h (by kernel_rfl))
end Go.Proofs.YtbbobekgnclkfaaDoor
