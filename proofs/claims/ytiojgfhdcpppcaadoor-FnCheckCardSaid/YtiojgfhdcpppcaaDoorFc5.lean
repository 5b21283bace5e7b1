/-
  Contracts and lemmas that the card needs, part 5.
-/
import Derived.Test.YtiojgfhdcpppcaaDoorFc4
namespace Go.Proofs.YtiojgfhdcpppcaaDoor
open Go Go.Aw
set_option maxRecDepth 100000
/-- A variable that can be used. -/
structure LV where (name : List UInt8) (num block : Nat)
/-- What a look has come to: the variables, the last one first; how many there were; what is wrong. -/
structure WS where (vs : List LV) (count : Nat) (code : Int)
def fl (c k : Int) : Int := if c = 0 then k else c
theorem fl_ne {c k : Int} (h : c ≠ 0) : fl c k = c := if_neg h
def lkV (vs : List LV) (s : List UInt8) : Option LV := vs.find? fun v => decide (v.name = s)
def fnAt (fns : List Fd) (s : List UInt8) : Option Nat := fns.findIdx? fun f => decide (f.name = s)
def parN (fns : List Fd) (j : Nat) : Nat := match fns[j]? with | some f => f.params.length | none => 0
def useC (vs : List LV) (s : List UInt8) (c : Int) : Int := match lkV vs s with | none => fl c 3 | some _ => c
def callC (fns : List Fd) (k : Nat) (s : List UInt8) (n : Nat) (c : Int) : Int :=
  match fnAt fns s with | none => fl c 4 | some j => if k ≤ j then fl c 4 else if parN fns j = n then c else fl c 5
def headC (fns : List Fd) (k : Nat) (vs : List LV) (o : Int) (s : List UInt8) (n : Nat) (c : Int) : Int :=
  if o = 2 then useC vs s c else if o = 13 then callC fns k s n c else c
mutual
def chkE (fns : List Fd) (k : Nat) (vs : List LV) : Ex → Int → Int
  | .mk o _ s ks, c => chkEs fns k vs ks (headC fns k vs o s ks.length c)
def chkEs (fns : List Fd) (k : Nat) (vs : List LV) : List Ex → Int → Int
  | [], c => c
  | e :: r, c => chkEs fns k vs r (chkE fns k vs e c)
end
def vnm (n : Nat) : List UInt8 := [118, UInt8.ofNat (97 + n % 26)]
def useN (vs : List LV) (s : List UInt8) : List UInt8 := match lkV vs s with | none => s | some v => vnm v.num
mutual
def rnE (vs : List LV) : Ex → Ex
  | .mk o n s ks => .mk o n (if o = 2 then useN vs s else s) (rnEs vs ks)
def rnEs (vs : List LV) : List Ex → List Ex
  | [] => []
  | e :: r => rnE vs e :: rnEs vs r
end
def putC (vs : List LV) (s : List UInt8) (b : Nat) (c : Int) : Int := match lkV vs s with | none => c | some v => if v.block = b then fl c 2 else c
def putW (w : WS) (s : List UInt8) (b : Nat) : WS := ⟨⟨s, w.count, b⟩ :: w.vs, w.count + 1, putC w.vs s b w.code⟩
def opW (o : Int) (s : List UInt8) (b : Nat) (w : WS) : WS := if o = 1 then putW w s b else if o = 2 then ⟨w.vs, w.count, useC w.vs s w.code⟩ else w
def opN (o : Int) (s : List UInt8) (w : WS) : List UInt8 := if o = 1 then vnm w.count else if o = 2 then useN w.vs s else s
/-- Back to the variables of before. -/
def WS.back (w : WS) (vs : List LV) : WS := ⟨vs, w.count, w.code⟩
mutual
def stW (fns : List Fd) (k b : Nat) : Sm → WS → WS
  | .mk o s a bd el, w =>
    let w2 := opW o s b ⟨w.vs, w.count, chkEs fns k w.vs a w.code⟩
    let w3 := (stsW fns k (b + 1) bd w2).back w2.vs
    (stsW fns k (b + 1) el w3).back w2.vs
def stsW (fns : List Fd) (k b : Nat) : List Sm → WS → WS
  | [], w => w
  | s :: r, w => stsW fns k b r (stW fns k b s w)
end
def putsW (ps : List (List UInt8)) (w : WS) : WS := ps.foldl (fun w s => putW w s 0) w
def fnW (fns : List Fd) (k : Nat) (f : Fd) : WS := stsW fns k 0 f.body (putsW f.params ⟨[], 0, if fnAt fns f.name = some k then 0 else 2⟩)
def firstC (fns : List Fd) : Nat → List Fd → Int
  | _, [] => 0
  | k, f :: r => if (fnW fns k f).code = 0 then firstC fns (k + 1) r else (fnW fns k f).code
def chkProg (fns : List Fd) : Int := if progOk fns then firstC fns 0 fns else 1
abbrev Scp := List (List UInt8 × Nat)
def hasS (m : Scp) (s : List UInt8) : Option Nat := (m.find? fun x => decide (x.1 = s)).map (·.2)
def setS : Scp → List UInt8 → Nat → Scp
  | [], s, n => [(s, n)]
  | x :: r, s, n => if x.1 = s then (s, n) :: r else x :: setS r s n
def fndS : List Scp → List UInt8 → Option Nat
  | [], _ => none
  | m :: r, s => match hasS m s with | some n => some n | none => fndS r s
def visC (fns : List Fd) (k : Nat) (ch : List Scp) (c : Int) (e : Ex) : Int :=
  if e.op = 2 then (if (fndS ch e.name).isSome then c else fl c 3)
  else if e.op = 13 then (match fnAt (fns.take k) e.name with | none => fl c 4 | some j => if parN fns j = e.kids.length then c else fl c 5)
  else c
mutual
def Ex.pre : Ex → List Ex
  | .mk o n s ks => .mk o n s ks :: pres ks
def pres : List Ex → List Ex
  | [] => []
  | e :: r => e.pre ++ pres r
end
def icEs (fns : List Fd) (k : Nat) (ch : List Scp) (l : List Ex) (c : Int) : Int := (pres l).foldl (visC fns k ch) c
def opS (o : Int) (s : List UInt8) (m : Scp) (n : Nat) : Scp := if o = 1 then setS m s n else m
def opC (o : Int) (s : List UInt8) (m : Scp) (up : List Scp) (c : Int) : Int :=
  if o = 1 then (if (hasS m s).isSome then fl c 2 else c) else if o = 2 then (if (fndS (m :: up) s).isSome then c else fl c 3) else c
mutual
def icS (fns : List Fd) (k : Nat) : Sm → Scp → List Scp → Int → Scp × Int
  | .mk o s a bd el, m, up, c =>
    let m2 := opS o s m 0
    let c2 := opC o s m up (icEs fns k (m :: up) a c)
    (m2, if o = 5 ∨ o = 6 then (icSs fns k el [] (m2 :: up) (icSs fns k bd [] (m2 :: up) c2).2).2 else c2)
def icSs (fns : List Fd) (k : Nat) : List Sm → Scp → List Scp → Int → Scp × Int
  | [], m, _, c => (m, c)
  | s :: r, m, up, c => icSs fns k r (icS fns k s m up c).1 up (icS fns k s m up c).2
end
def icPs (ps : List (List UInt8)) (m : Scp) (c : Int) : Scp × Int := ps.foldl (fun x s => (setS x.1 s 0, if (hasS x.1 s).isSome then fl x.2 2 else x.2)) (m, c)
def icF (fns : List Fd) (k : Nat) (f : Fd) (c : Int) : Int :=
  let c1 := if (match fnAt fns f.name with | some j => decide (j < k) | none => true) then fl c 2 else c
  let x := icPs f.params [] c1
  (icSs fns k f.body x.1 [] x.2).2
def icAll (fns : List Fd) : Nat → List Fd → Int → Int
  | _, [], c => c
  | k, f :: r, c => icAll fns (k + 1) r (icF fns k f c)
/-- Blocks' variables and the scopes; what a scope notes of a variable. -/
def SR (g : LV → Nat) : Nat → List LV → List Scp → Prop
  | _, _, [] => False
  | b, vs, m :: up => ∃ v1 v2, vs = v1 ++ v2 ∧ (∀ v ∈ v1, v.block = b) ∧ (∀ s, (lkV v1 s).map g = hasS m s) ∧ match b with
    | 0 => v2 = [] ∧ up = []
    | b + 1 => SR g b v2 up
theorem lkV_app (a b : List LV) (s : List UInt8) : lkV (a ++ b) s = match lkV a s with | some v => some v | none => lkV b s := by
  simp only [lkV, List.find?_append]
  cases List.find? (fun v => decide (v.name = s)) a <;> rfl
variable {g : LV → Nat}
theorem SR.blk : ∀ {b : Nat} {vs : List LV} {ch : List Scp}, SR g b vs ch → ∀ v ∈ vs, v.block ≤ b
  | b, _, [], h, v, hv => by cases b <;> exact False.elim h
  | 0, vs, m :: up, ⟨v1, v2, e, h1, _, h3, _⟩, v, hv => by
    subst e; subst h3
    rw [List.append_nil] at hv
    exact Nat.le_of_eq (h1 v hv)
  | b + 1, vs, m :: up, ⟨v1, v2, e, h1, _, h3⟩, v, hv => by
    subst e
    rcases List.mem_append.1 hv with h | h
    · exact Nat.le_of_eq (h1 v h)
    · exact Nat.le_succ_of_le (SR.blk h3 v h)
theorem SR.fnd : ∀ {b : Nat} {vs : List LV} {ch : List Scp}, SR g b vs ch → ∀ s, (lkV vs s).map g = fndS ch s
  | b, _, [], h, s => by cases b <;> exact False.elim h
  | 0, vs, m :: up, ⟨v1, v2, e, h1, h2, h3, h4⟩, s => by
    subst e; subst h3; subst h4
    rw [List.append_nil, h2, fndS]
    cases hasS m s <;> rfl
  | b + 1, vs, m :: up, ⟨v1, v2, e, h1, h2, h3⟩, s => by
    subst e
    have ih := SR.fnd h3 s
    have h2 := h2 s
    rw [lkV_app, fndS, ← h2]
    cases e1 : lkV v1 s with
    | some v => rfl
    | none => exact ih
theorem SR.is {b : Nat} {vs : List LV} {ch : List Scp} (h : SR g b vs ch) (s : List UInt8) : (lkV vs s).isSome = (fndS ch s).isSome := by rw [← h.fnd s, Option.isSome_map]
theorem lkV_mem {vs : List LV} {s : List UInt8} {v : LV} (h : lkV vs s = some v) : v ∈ vs := List.mem_of_find?_eq_some h
theorem SR.put : ∀ {b : Nat} {vs : List LV} {m : Scp} {up : List Scp}, SR g b vs (m :: up) → ∀ (s : List UInt8) (c : Int), putC vs s b c = if (hasS m s).isSome then fl c 2 else c := by
  intro b vs m up h s c
  have key : ∀ v1 v2 : List LV, (∀ v ∈ v1, v.block = b) → (lkV v1 s).map g = hasS m s → (∀ v ∈ v2, v.block ≠ b) → putC (v1 ++ v2) s b c = if (hasS m s).isSome then fl c 2 else c := by
    intro v1 v2 h1 h2 h3
    rw [← h2, putC, lkV_app]
    cases e1 : lkV v1 s with
    | some v => simp [h1 v (lkV_mem e1)]
    | none =>
      cases e2 : lkV v2 s with
      | none => rfl
      | some v => simp [h3 v (lkV_mem e2)]
  match b, h with
  | 0, ⟨v1, v2, e, h1, h2, h3, _⟩ => subst e; subst h3; exact key v1 [] h1 (h2 s) (fun v hv => by simp at hv)
  | b + 1, ⟨v1, v2, e, h1, h2, h3⟩ => subst e; exact key v1 v2 h1 (h2 s) (fun v hv e => by have := h3.blk v hv; omega)
theorem hasS_set : ∀ (m : Scp) (s : List UInt8) (n : Nat) (t : List UInt8), hasS (setS m s n) t = if s = t then some n else hasS m t
  | [], s, n, t => by
    by_cases h : s = t
    · simp [setS, hasS, h]
    · simp [setS, hasS, h]
  | x :: r, s, n, t => by
    have ih := hasS_set r s n t
    simp only [hasS] at ih
    by_cases hx : x.1 = s
    · by_cases h : s = t
      · simp [setS, hasS, hx, h]
      · have : ¬ x.1 = t := by rw [hx]; exact h
        simp [setS, hasS, hx, h]
    · by_cases ht : x.1 = t
      · have : ¬ s = t := fun e => hx (ht.trans e.symm)
        rw [setS, if_neg hx, if_neg this]; simp [hasS, ht]
      · simp only [setS, hasS, if_neg hx, List.find?_cons, ht, decide_false]
        exact ih
theorem SR.add {b : Nat} {vs : List LV} {m : Scp} {up : List Scp} (h : SR g b vs (m :: up)) (s : List UInt8) (n k : Nat) (hg : g ⟨s, n, b⟩ = k) : SR g b (⟨s, n, b⟩ :: vs) (setS m s k :: up) := by
  have key : ∀ v1 : List LV, (∀ s, (lkV v1 s).map g = hasS m s) → ∀ t, (lkV (⟨s, n, b⟩ :: v1) t).map g = hasS (setS m s k) t := by
    intro v1 h2 t
    rw [hasS_set]
    by_cases e : s = t
    · simp [lkV, e, ← hg]
    · rw [if_neg e, ← h2 t]; simp [lkV, e]
  match b, h with
  | 0, ⟨v1, v2, e, h1, h2, h3⟩ =>
    subst e
    refine ⟨⟨s, n, 0⟩ :: v1, v2, rfl, fun v hv => ?_, key v1 h2, h3⟩
    rcases List.mem_cons.1 hv with rfl | hv
    · rfl
    · exact h1 v hv
  | b + 1, ⟨v1, v2, e, h1, h2, h3⟩ =>
    subst e
    refine ⟨⟨s, n, b + 1⟩ :: v1, v2, rfl, fun v hv => ?_, key v1 h2, h3⟩
    rcases List.mem_cons.1 hv with rfl | hv
    · rfl
    · exact h1 v hv
theorem SR.open {b : Nat} {vs : List LV} {ch : List Scp} (h : SR g b vs ch) : SR g (b + 1) vs ([] :: ch) := ⟨[], vs, rfl, fun v hv => by simp at hv, fun s => rfl, h⟩
theorem SR.base : SR g 0 [] [[]] := ⟨[], [], rfl, fun v hv => by simp at hv, fun s => rfl, rfl, rfl⟩
theorem findIdx_take {α : Type} {p : α → Bool} {l : List α} {k : Nat} : (l.take k).findIdx? p = match l.findIdx? p with | some j => if j < k then some j else none | none => none := by
  cases h : l.findIdx? p with
  | none =>
    rw [List.findIdx?_eq_none_iff] at h ⊢
    exact fun x hx => h x (List.mem_of_mem_take hx)
  | some j =>
    rw [List.findIdx?_eq_some_iff_getElem] at h
    obtain ⟨h1, h2, h3⟩ := h
    simp only
    split
    · rename_i hj
      rw [List.findIdx?_eq_some_iff_getElem]
      exact ⟨by rw [List.length_take]; omega, by rw [List.getElem_take]; exact h2, fun i hi => by rw [List.getElem_take]; exact h3 i hi⟩
    · rename_i hj
      rw [List.findIdx?_eq_none_iff]
      intro x hx
      obtain ⟨i, hi, rfl⟩ := List.mem_take_iff_getElem.1 hx
      simpa using h3 i (by omega)
theorem head_vis (fns : List Fd) (k : Nat) {vs : List LV} {ch : List Scp} (h : ∀ s, (lkV vs s).isSome = (fndS ch s).isSome) (e : Ex) (c : Int) : headC fns k vs e.op e.name e.kids.length c = visC fns k ch c e := by
  unfold headC visC
  split
  · rw [← h, useC]; cases lkV vs e.name <;> rfl
  · split
    · rw [callC, fnAt, fnAt, findIdx_take]
      cases List.findIdx? (fun f => decide (f.name = e.name)) fns with
      | none => rfl
      | some j =>
        simp only
        by_cases hj : j < k
        · rw [if_neg (by omega), if_pos hj]
        · rw [if_pos (by omega), if_neg hj]
    · rfl
mutual
theorem chkE_eq (fns : List Fd) (k : Nat) {vs : List LV} {ch : List Scp} (h : ∀ s, (lkV vs s).isSome = (fndS ch s).isSome) : ∀ (e : Ex) (c : Int), chkE fns k vs e c = e.pre.foldl (visC fns k ch) c
  | .mk o n s ks, c => by
    rw [chkE, Ex.pre, List.foldl_cons, ← chkEs_eq fns k h ks, ← head_vis fns k h]; rfl
theorem chkEs_eq (fns : List Fd) (k : Nat) {vs : List LV} {ch : List Scp} (h : ∀ s, (lkV vs s).isSome = (fndS ch s).isSome) : ∀ (l : List Ex) (c : Int), chkEs fns k vs l c = (pres l).foldl (visC fns k ch) c
  | [], c => rfl
  | e :: r, c => by rw [chkEs, pres, List.foldl_append, chkE_eq fns k h e, chkEs_eq fns k h r]
end
abbrev g0 : LV → Nat := fun _ => 0
theorem opW_eq {b : Nat} {w : WS} {m : Scp} {up : List Scp} (h : SR g0 b w.vs (m :: up)) (o : Int) (s : List UInt8) : SR g0 b (opW o s b w).vs (opS o s m 0 :: up) ∧ (opW o s b w).code = opC o s m up w.code := by
  unfold opW opS opC
  by_cases h1 : o = 1
  · simp only [h1, if_true]
    exact ⟨h.add s _ 0 rfl, h.put s _⟩
  · simp only [if_neg h1]
    split
    · refine ⟨h, ?_⟩
      have := h.is s
      simp only [useC]
      rw [← this]
      cases lkV w.vs s <;> rfl
    · exact ⟨h, rfl⟩
theorem formS_flat {d : Nat} {o : Int} {s : List UInt8} {a : List Ex} {bd el : List Sm} (h : formS (d + 1) (.mk o s a bd el) = true) : bd.all (formS d) = true ∧ el.all (formS d) = true ∧ (¬ (o = 5 ∨ o = 6) → bd = [] ∧ el = []) := by
  simp only [formS, headS, Sm.op, Sm.body, Sm.els, Bool.and_eq_true, Bool.or_eq_true, decide_eq_true_eq, List.isEmpty_iff] at h
  refine ⟨h.1.2, h.2, fun hn => ⟨?_, ?_⟩⟩
  · rcases h.1.1.2 with (h | h) | h
    · exact h
    · exact absurd (.inl (of_decide_eq_true h)) hn
    · exact absurd (.inr (of_decide_eq_true h)) hn
  · rcases h.1.1.1.2 with h | h
    · exact h
    · exact absurd (.inl (of_decide_eq_true h)) hn
theorem back_code (w : WS) (vs : List LV) : (w.back vs).code = w.code := rfl
theorem sts_eq (fns : List Fd) (k : Nat) : ∀ (d b : Nat) (l : List Sm), l.all (formS d) = true → ∀ (w : WS) (m : Scp) (up : List Scp), SR g0 b w.vs (m :: up) →
    SR g0 b (stsW fns k b l w).vs ((icSs fns k l m up w.code).1 :: up) ∧ (stsW fns k b l w).code = (icSs fns k l m up w.code).2 := by
  intro d
  induction d with
  | zero =>
    intro b l hl w m up h
    cases l with
    | nil => exact ⟨h, rfl⟩
    | cons s r => simp [formS] at hl
  | succ d ih =>
    have one : ∀ (b : Nat) (s : Sm), formS (d + 1) s = true → ∀ (w : WS) (m : Scp) (up : List Scp), SR g0 b w.vs (m :: up) →
        SR g0 b (stW fns k b s w).vs ((icS fns k s m up w.code).1 :: up) ∧ (stW fns k b s w).code = (icS fns k s m up w.code).2 := by
      intro b s hs w m up h
      obtain ⟨o, n, a, bd, el⟩ := s
      obtain ⟨f1, f2, f3⟩ := formS_flat hs
      have hc := chkEs_eq fns k h.is a w.code
      obtain ⟨g1, g2⟩ := opW_eq (w := ⟨w.vs, w.count, chkEs fns k w.vs a w.code⟩) h o n
      rw [stW, icS]
      simp only [hc] at g1 g2 ⊢
      generalize hw2 : opW o n b ⟨w.vs, w.count, (pres a).foldl (visC fns k (m :: up)) w.code⟩ = w2 at *
      refine ⟨g1, ?_⟩
      rw [back_code]
      have g2' : w2.code = opC o n m up (icEs fns k (m :: up) a w.code) := g2
      rw [← g2']
      by_cases ho : o = 5 ∨ o = 6
      · rw [if_pos ho]
        have k1 := ih (b + 1) bd f1 w2 [] _ g1.open
        have k2 := ih (b + 1) el f2 ((stsW fns k (b + 1) bd w2).back w2.vs) [] _ g1.open
        rw [k2.2, back_code, k1.2]
      · obtain ⟨rfl, rfl⟩ := f3 ho
        rw [if_neg ho]
        simp [stsW, WS.back]
    intro b l
    induction l with
    | nil => intro _ w m up h; exact ⟨h, rfl⟩
    | cons s r ihl =>
      intro hl w m up h
      rw [List.all_cons, Bool.and_eq_true] at hl
      obtain ⟨k1, k2⟩ := one b s hl.1 w m up h
      have := ihl hl.2 _ _ up k1
      rw [stsW, icSs, ← k2]
      exact this
theorem puts_eq : ∀ (ps : List (List UInt8)) (w : WS) (m : Scp), SR g0 0 w.vs [m] → SR g0 0 (putsW ps w).vs [(icPs ps m w.code).1] ∧ (putsW ps w).code = (icPs ps m w.code).2
  | [], w, m, h => ⟨h, rfl⟩
  | s :: r, w, m, h => by
    have hp := h.put s w.code
    have := puts_eq r (putW w s 0) (setS m s 0) (h.add s w.count 0 rfl)
    simp only [putsW, icPs, List.foldl_cons] at this ⊢
    rw [← hp]
    exact this
theorem vis_stay {fns : List Fd} {k : Nat} {ch : List Scp} {c : Int} (h : c ≠ 0) (e : Ex) : visC fns k ch c e = c := by
  unfold visC
  simp only [fl_ne h]
  split
  · split <;> rfl
  · split
    · split
      · rfl
      · split <;> rfl
    · rfl
theorem fold_stay {fns : List Fd} {k : Nat} {ch : List Scp} {c : Int} (h : c ≠ 0) : ∀ l : List Ex, l.foldl (visC fns k ch) c = c
  | [] => rfl
  | e :: r => by rw [List.foldl_cons, vis_stay h, fold_stay h r]
theorem opC_stay {o : Int} {s : List UInt8} {m : Scp} {up : List Scp} {c : Int} (h : c ≠ 0) : opC o s m up c = c := by
  unfold opC
  simp only [fl_ne h]
  split
  · split <;> rfl
  · split
    · split <;> rfl
    · rfl
mutual
theorem icS_stay (fns : List Fd) (k : Nat) {c : Int} (h : c ≠ 0) : ∀ (s : Sm) (m : Scp) (up : List Scp), (icS fns k s m up c).2 = c
  | .mk o s a bd el, m, up => by
    rw [icS]
    simp only [icEs, fold_stay h, opC_stay h]
    rw [icSs_stay fns k h bd, icSs_stay fns k h el, ite_self]
theorem icSs_stay (fns : List Fd) (k : Nat) {c : Int} (h : c ≠ 0) : ∀ (l : List Sm) (m : Scp) (up : List Scp), (icSs fns k l m up c).2 = c
  | [], m, up => rfl
  | s :: r, m, up => by rw [icSs, icS_stay fns k h s m up, icSs_stay fns k h r]
end
theorem icPs_stay {c : Int} (h : c ≠ 0) : ∀ (ps : List (List UInt8)) (m : Scp), (icPs ps m c).2 = c
  | [], m => rfl
  | s :: r, m => by
    have := icPs_stay h r (setS m s 0)
    simp only [icPs, List.foldl_cons, fl_ne h, ite_self] at this ⊢
    exact this
theorem icF_stay (fns : List Fd) (k : Nat) (f : Fd) {c : Int} (h : c ≠ 0) : icF fns k f c = c := by
  simp only [icF, fl_ne h, ite_self]
  rw [icPs_stay h, icSs_stay fns k h]
theorem icAll_stay (fns : List Fd) {c : Int} (h : c ≠ 0) : ∀ (l : List Fd) (k : Nat), icAll fns k l c = c
  | [], k => rfl
  | f :: r, k => by rw [icAll, icF_stay fns k f h, icAll_stay fns h r]
theorem fnAt_self {fns : List Fd} {k : Nat} {f : Fd} (h : fns[k]? = some f) : ∃ j, fnAt fns f.name = some j ∧ j ≤ k := by
  cases e : fnAt fns f.name with
  | none =>
    rw [fnAt, List.findIdx?_eq_none_iff] at e
    have := e f (List.mem_of_getElem? h)
    simp at this
  | some j =>
    refine ⟨j, rfl, ?_⟩
    rw [fnAt, List.findIdx?_eq_some_iff_getElem] at e
    obtain ⟨h1, h2, h3⟩ := e
    rcases Nat.lt_or_ge k j with hk | hk
    · have := h3 k hk
      obtain ⟨a1, a2⟩ := List.getElem?_eq_some_iff.1 h
      rw [a2] at this
      simp at this
    · exact hk
theorem fn_eq (fns : List Fd) {k : Nat} {f : Fd} (hf : fns[k]? = some f) (hok : fdOk f = true) : (fnW fns k f).code = icF fns k f 0 := by
  obtain ⟨j, e1, e2⟩ := fnAt_self hf
  have hb : f.body.all (formS 4) = true := by simp only [fdOk, Bool.and_eq_true] at hok; exact hok.2
  have hc : (if fnAt fns f.name = some k then (0 : Int) else 2) = if (match fnAt fns f.name with | some j => decide (j < k) | none => true) then fl 0 2 else 0 := by
    rw [e1]
    by_cases h : j = k
    · subst h; simp
    · have : j < k := by omega
      simp [h, this, fl]
  obtain ⟨p1, p2⟩ := puts_eq f.params ⟨[], 0, if fnAt fns f.name = some k then (0 : Int) else 2⟩ [] SR.base
  obtain ⟨q1, q2⟩ := sts_eq fns k 4 0 f.body hb _ _ [] p1
  rw [fnW, q2, p2]
  simp only [icF, ← hc]
theorem all_eq (fns : List Fd) : ∀ (l : List Fd) (k : Nat), (∀ i, l[i]? = fns[k + i]?) → l.all fdOk = true → firstC fns k l = icAll fns k l 0
  | [], k, _, _ => rfl
  | f :: r, k, hl, ha => by
    rw [List.all_cons, Bool.and_eq_true] at ha
    have h0 : fns[k]? = some f := by have := hl 0; simpa using this.symm
    have hr : ∀ i, r[i]? = fns[k + 1 + i]? := fun i => by have := hl (i + 1); rw [List.getElem?_cons_succ] at this; rw [this]; congr 1; omega
    rw [firstC, icAll, fn_eq fns h0 ha.1]
    split
    · rename_i e; rw [e]; exact all_eq fns r (k + 1) hr ha.2
    · rename_i e; rw [icAll_stay fns e]
theorem chkProg_eq (fns : List Fd) : chkProg fns = if progOk fns then icAll fns 0 fns 0 else 1 := by
  unfold chkProg
  split
  · rename_i h
    simp only [progOk, Bool.and_eq_true] at h
    exact all_eq fns fns 0 (fun i => by rw [Nat.zero_add]) h.1.2
  · rfl
end Go.Proofs.YtiojgfhdcpppcaaDoor
namespace Go.Proofs.YtiojgfhdcpppcaaDoor
open Go Go.Aw
set_option maxRecDepth 100000
mutual
def rnS (fns : List Fd) (k b : Nat) : Sm → WS → Sm
  | .mk o s a bd el, w =>
    let w2 := opW o s b ⟨w.vs, w.count, chkEs fns k w.vs a w.code⟩
    .mk o (opN o s w) (rnEs w.vs a) (rnSs fns k (b + 1) bd w2) (rnSs fns k (b + 1) el ((stsW fns k (b + 1) bd w2).back w2.vs))
def rnSs (fns : List Fd) (k b : Nat) : List Sm → WS → List Sm
  | [], _ => []
  | s :: r, w => rnS fns k b s w :: rnSs fns k b r (stW fns k b s w)
end
def rnPs : List (List UInt8) → WS → List (List UInt8)
  | [], _ => []
  | s :: r, w => vnm w.count :: rnPs r (putW w s 0)
def rnF (fns : List Fd) (k : Nat) (f : Fd) : Fd :=
  ⟨f.name, rnPs f.params ⟨[], 0, if fnAt fns f.name = some k then 0 else 2⟩, rnSs fns k 0 f.body (putsW f.params ⟨[], 0, if fnAt fns f.name = some k then 0 else 2⟩)⟩
mutual
/-- How many variables statements make. -/
def letS : Sm → Nat
  | .mk o _ _ bd el => (if o = 1 then 1 else 0) + letSs bd + letSs el
def letSs : List Sm → Nat
  | [] => 0
  | s :: r => letS s + letSs r
end
theorem opW_count (o : Int) (s : List UInt8) (b : Nat) (w : WS) : (opW o s b w).count = w.count + if o = 1 then 1 else 0 := by
  unfold opW
  split
  · rfl
  · split <;> rfl
mutual
theorem stW_count (fns : List Fd) (k : Nat) : ∀ (s : Sm) (b : Nat) (w : WS), (stW fns k b s w).count = w.count + letS s
  | .mk o s a bd el, b, w => by
    rw [stW, letS]
    simp only [WS.back]
    rw [stsW_count fns k el, stsW_count fns k bd, opW_count]; show w.count + _ + _ + _ = _
    omega
theorem stsW_count (fns : List Fd) (k : Nat) : ∀ (l : List Sm) (b : Nat) (w : WS), (stsW fns k b l w).count = w.count + letSs l
  | [], b, w => rfl
  | s :: r, b, w => by rw [stsW, letSs, stsW_count fns k r, stW_count fns k s]; omega
end
mutual
theorem letS_le : ∀ s : Sm, letS s ≤ s.cnt
  | .mk o s a bd el => by
    have := letSs_le bd
    have := letSs_le el
    simp only [letS, Sm.cnt]
    split <;> omega
theorem letSs_le : ∀ l : List Sm, letSs l ≤ smsN l
  | [] => Nat.le_refl _
  | s :: r => by have := letS_le s; have := letSs_le r; simp only [letSs, smsN]; omega
end
theorem putsW_count : ∀ (ps : List (List UInt8)) (w : WS), (putsW ps w).count = w.count + ps.length
  | [], w => rfl
  | s :: r, w => by
    have := putsW_count r (putW w s 0)
    simp only [putsW, List.foldl_cons, List.length_cons] at this ⊢
    rw [this]; simp only [putW]; omega
theorem opW_ext (o : Int) (s : List UInt8) (b : Nat) (w : WS) : ∃ e, (opW o s b w).vs = e ++ w.vs := by
  unfold opW
  split
  · exact ⟨[_], rfl⟩
  · split <;> exact ⟨[], rfl⟩
theorem stW_vs (fns : List Fd) (k b : Nat) (o : Int) (s : List UInt8) (a : List Ex) (bd el : List Sm) (w : WS) : (stW fns k b (.mk o s a bd el) w).vs = (opW o s b ⟨w.vs, w.count, chkEs fns k w.vs a w.code⟩).vs := rfl
theorem stsW_ext (fns : List Fd) (k : Nat) : ∀ (l : List Sm) (b : Nat) (w : WS), ∃ e, (stsW fns k b l w).vs = e ++ w.vs
  | [], b, w => ⟨[], rfl⟩
  | .mk o s a bd el :: r, b, w => by
    obtain ⟨e1, h1⟩ := stsW_ext fns k r b (stW fns k b (.mk o s a bd el) w)
    obtain ⟨e2, h2⟩ := opW_ext o s b ⟨w.vs, w.count, chkEs fns k w.vs a w.code⟩
    exact ⟨e1 ++ e2, by rw [stsW, h1, stW_vs, h2, List.append_assoc]⟩
theorem opW_le {o : Int} {s : List UInt8} {b : Nat} {w : WS} (h : w.vs.length ≤ w.count) : (opW o s b w).vs.length ≤ (opW o s b w).count := by
  unfold opW
  split
  · simp [putW, h]
  · split <;> exact h
theorem stW_le (fns : List Fd) (k : Nat) {s : Sm} {b : Nat} {w : WS} (h : w.vs.length ≤ w.count) : (stW fns k b s w).vs.length ≤ (stW fns k b s w).count := by
  obtain ⟨o, n, a, bd, el⟩ := s
  rw [stW_count, stW_vs]
  have := opW_le (o := o) (s := n) (b := b) (w := ⟨w.vs, w.count, chkEs fns k w.vs a w.code⟩) h
  rw [opW_count] at this
  simp only [letS]
  simp only at this
  omega
theorem stsW_le (fns : List Fd) (k : Nat) : ∀ {l : List Sm} {b : Nat} {w : WS}, w.vs.length ≤ w.count → (stsW fns k b l w).vs.length ≤ (stsW fns k b l w).count
  | [], _, _, h => h
  | s :: r, b, w, h => stsW_le fns k (l := r) (stW_le fns k h)
mutual
def Sm.pre (d : Nat) : Sm → List (Sm × Nat)
  | .mk o s a bd el => (.mk o s a bd el, d) :: (smsPre (d + 1) bd ++ smsPre (d + 1) el)
def smsPre (d : Nat) : List Sm → List (Sm × Nat)
  | [] => []
  | s :: r => Sm.pre d s ++ smsPre d r
end
theorem Sm.pre_eq (d : Nat) (s : Sm) : s.pre d = (s, d) :: (smsPre (d + 1) s.body ++ smsPre (d + 1) s.els) := by cases s; rfl
theorem smsPre_app (d : Nat) : ∀ a b : List Sm, smsPre d (a ++ b) = smsPre d a ++ smsPre d b
  | [], b => rfl
  | s :: r, b => by rw [List.cons_append, smsPre, smsPre, smsPre_app d r b, List.append_assoc]
theorem Ex.pre_eq (e : Ex) : e.pre = e :: pres e.kids := by cases e; rfl
theorem pres_app : ∀ a b : List Ex, pres (a ++ b) = pres a ++ pres b
  | [], b => rfl
  | e :: r, b => by rw [List.cons_append, pres, pres, pres_app r b, List.append_assoc]
mutual
theorem Sm.pre_len : ∀ (s : Sm) (d : Nat), (s.pre d).length = s.cnt
  | .mk o s a bd el, d => by simp only [Sm.pre, Sm.cnt, List.length_cons, List.length_append, smsPre_len bd, smsPre_len el]; omega
theorem smsPre_len : ∀ (l : List Sm) (d : Nat), (smsPre d l).length = smsN l
  | [], d => rfl
  | s :: r, d => by simp only [smsPre, smsN, List.length_append, Sm.pre_len s, smsPre_len r]
end
end Go.Proofs.YtiojgfhdcpppcaaDoor
namespace Go.Proofs.YtiojgfhdcpppcaaDoor
open Go Go.Aw
set_option maxRecDepth 100000
set_option maxHeartbeats 4000000
theorem all_take_succ {α : Type} {p : α → Bool} {xs : List α} {i : Nat} (h : i < xs.length) : (xs.take (i + 1)).all p = ((xs.take i).all p && p xs[i]) := by
  rw [take_succ' h, List.all_append]; simp
theorem all_bad {α : Type} {p : α → Bool} {xs : List α} {i : Nat} (h : i < xs.length) (hp : p xs[i] = false) : xs.all p = false :=
  List.all_eq_false.2 ⟨_, List.getElem_mem h, by simp [hp]⟩
theorem all_done {α : Type} {p : α → Bool} {xs : List α} {i : Nat} (h : xs.length ≤ i) (ht : (xs.take i).all p = true) : xs.all p = true := by
  rwa [List.take_of_length_le h] at ht
def K_spec_l2Form : AK := .seq (.reg [⟨(some 2), none, .box 4 (.t 0)⟩, ⟨(some 4), none, .mov (.c (.p (.bool false)))⟩]) (.seq (.reg [⟨(some 10), none, .fldA 0 (.t 2)⟩, ⟨(some 11), none, .ld none (.t 10)⟩, ⟨(some 12), none, .call n_spec_l2Kids [(.t 11)]⟩, ⟨(some 9), none, .mov (.t 12)⟩, ⟨(some 13), none, .ext 0 (.t 9)⟩, ⟨(some 14), none, .ext 1 (.t 9)⟩, ⟨(some 5), none, .mov (.t 13)⟩, ⟨(some 6), none, .mov (.t 14)⟩]) (.seq (.seq (.reg [⟨(some 15), none, .mov (.t 1)⟩, ⟨(some 16), none, .bin .lss (.t 15) (.c (.p (.int .i64 1)))⟩, ⟨(some 17), none, .mov (.t 16)⟩, ⟨(some 18), (some (17, false)), .fldA 0 (.t 2)⟩, ⟨(some 19), (some (17, false)), .ld none (.t 18)⟩, ⟨(some 20), (some (17, false)), .call n_spec_l1In [(.t 19), (.c (.p (.int .i64 1))), (.c (.p (.int .i64 13)))]⟩, ⟨(some 21), (some (17, false)), .not (.t 20)⟩, ⟨(some 22), none, .pick (.t 17) (.c (.p (.bool true))) (.t 21)⟩, ⟨(some 23), none, .mov (.t 22)⟩, ⟨(some 24), (some (23, false)), .fldA 3 (.t 2)⟩, ⟨(some 25), (some (23, false)), .ld none (.t 24)⟩, ⟨(some 26), (some (23, false)), .len false (.t 25)⟩, ⟨(some 27), (some (23, false)), .mov (.t 5)⟩, ⟨(some 28), (some (23, false)), .mov (.t 6)⟩, ⟨(some 29), (some (23, false)), .call n_spec_l1In [(.t 26), (.t 27), (.t 28)]⟩, ⟨(some 30), (some (23, false)), .not (.t 29)⟩, ⟨(some 31), none, .pick (.t 23) (.c (.p (.bool true))) (.t 30)⟩]) (.cond (.t 31) (.seq (.reg [⟨(some 4), none, .mov (.c (.p (.bool false)))⟩]) (.ret)) (.skip))) (.cut (.reg [⟨(some 32), none, .fldA 0 (.t 2)⟩, ⟨(some 33), none, .ld none (.t 32)⟩, ⟨(some 34), none, .bin .eql (.t 33) (.c (.p (.int .i64 2)))⟩, ⟨(some 35), none, .mov (.t 34)⟩, ⟨(some 36), (some (35, false)), .fldA 0 (.t 2)⟩, ⟨(some 37), (some (35, false)), .ld none (.t 36)⟩, ⟨(some 38), (some (35, false)), .bin .eql (.t 37) (.c (.p (.int .i64 13)))⟩, ⟨(some 39), none, .pick (.t 35) (.c (.p (.bool true))) (.t 38)⟩, ⟨(some 7), none, .mov (.t 39)⟩]) (.cut (.seq (.reg [⟨(some 40), none, .mov (.t 7)⟩, ⟨(some 41), none, .fldA 2 (.t 2)⟩, ⟨(some 42), none, .ld none (.t 41)⟩, ⟨(some 43), none, .call n_spec_IsName [(.t 42)]⟩, ⟨(some 44), none, .beq true (.t 40) (.t 43)⟩, ⟨(some 45), none, .mov (.t 44)⟩, ⟨(some 46), (some (45, false)), .mov (.t 7)⟩, ⟨(some 47), (some (45, false)), .not (.t 46)⟩, ⟨(some 48), (some (45, false)), .mov (.t 47)⟩, ⟨(some 49), (some (48, true)), .fldA 2 (.t 2)⟩, ⟨(some 50), (some (48, true)), .ld none (.t 49)⟩, ⟨(some 51), (some (48, true)), .bins .neq (.t 50) (.c (.p (.str [])))⟩, ⟨(some 52), (some (45, false)), .pick (.t 48) (.t 51) (.c (.p (.bool false)))⟩, ⟨(some 53), none, .pick (.t 45) (.c (.p (.bool true))) (.t 52)⟩, ⟨(some 54), none, .mov (.t 53)⟩, ⟨(some 55), (some (54, false)), .fldA 1 (.t 2)⟩, ⟨(some 56), (some (54, false)), .ld none (.t 55)⟩, ⟨(some 57), (some (54, false)), .call n_spec_l1In [(.t 56), (.c (.p (.int .i64 0))), (.c (.p (.int .i64 255)))]⟩, ⟨(some 58), (some (54, false)), .not (.t 57)⟩, ⟨(some 59), none, .pick (.t 54) (.c (.p (.bool true))) (.t 58)⟩, ⟨(some 60), none, .mov (.t 59)⟩, ⟨(some 61), (some (60, false)), .fldA 0 (.t 2)⟩, ⟨(some 62), (some (60, false)), .ld none (.t 61)⟩, ⟨(some 63), (some (60, false)), .bin .neq (.t 62) (.c (.p (.int .i64 1)))⟩, ⟨(some 64), (some (60, false)), .mov (.t 63)⟩, ⟨(some 65), (some (64, true)), .fldA 1 (.t 2)⟩, ⟨(some 66), (some (64, true)), .ld none (.t 65)⟩, ⟨(some 67), (some (64, true)), .bin .neq (.t 66) (.c (.p (.int .i64 0)))⟩, ⟨(some 68), (some (60, false)), .pick (.t 64) (.t 67) (.c (.p (.bool false)))⟩, ⟨(some 69), none, .pick (.t 60) (.c (.p (.bool true))) (.t 68)⟩]) (.cond (.t 69) (.seq (.reg [⟨(some 4), none, .mov (.c (.p (.bool false)))⟩]) (.ret)) (.skip))) (.seq (.seq (.reg [⟨(some 8), none, .mov (.c (.p (.int .i64 0)))⟩]) (.blk 0 (.loop (.seq (.seq (.reg [⟨(some 70), none, .mov (.t 8)⟩, ⟨(some 71), none, .fldA 3 (.t 2)⟩, ⟨(some 72), none, .ld none (.t 71)⟩, ⟨(some 73), none, .len false (.t 72)⟩, ⟨(some 74), none, .bin .lss (.t 70) (.t 73)⟩]) (.cond (.t 74) (.skip) (.exit 0))) (.seq (.blk 1 (.seq (.reg [⟨(some 77), none, .fldA 3 (.t 2)⟩, ⟨(some 78), none, .ld none (.t 77)⟩, ⟨(some 79), none, .mov (.t 8)⟩, ⟨(some 80), none, .idxS 4 (.t 78) (.t 79)⟩, ⟨(some 81), none, .ld (some 4) (.t 80)⟩, ⟨(some 82), none, .mov (.t 1)⟩, ⟨(some 83), none, .bin .sub (.t 82) (.c (.p (.int .i64 1)))⟩, ⟨(some 84), none, .call n_spec_l2Form [(.t 81), (.t 83)]⟩, ⟨(some 85), none, .not (.t 84)⟩]) (.cond (.t 85) (.seq (.reg [⟨(some 4), none, .mov (.c (.p (.bool false)))⟩]) (.ret)) (.skip)))) (.reg [⟨(some 75), none, .mov (.t 8)⟩, ⟨(some 76), none, .bin .add (.t 75) (.c (.p (.int .i64 1)))⟩, ⟨(some 8), none, .mov (.t 76)⟩])))))) (.seq (.reg [⟨(some 4), none, .mov (.c (.p (.bool true)))⟩]) (.ret)))))))
theorem w_spec_l2Form : K_spec_l2Form.whole = F_spec_l2Form.ak := rfl
def K_spec_l3Stmt : AK := .seq (.reg [⟨(some 2), none, .box 5 (.t 0)⟩, ⟨(some 4), none, .mov (.c (.p (.bool false)))⟩]) (.cut (.seq (.reg [⟨(some 7), none, .mov (.t 1)⟩, ⟨(some 8), none, .bin .lss (.t 7) (.c (.p (.int .i64 1)))⟩, ⟨(some 9), none, .mov (.t 8)⟩, ⟨(some 10), (some (9, false)), .fldA 0 (.t 2)⟩, ⟨(some 11), (some (9, false)), .ld none (.t 10)⟩, ⟨(some 12), (some (9, false)), .call n_spec_l1In [(.t 11), (.c (.p (.int .i64 1))), (.c (.p (.int .i64 8)))]⟩, ⟨(some 13), (some (9, false)), .not (.t 12)⟩, ⟨(some 14), none, .pick (.t 9) (.c (.p (.bool true))) (.t 13)⟩, ⟨(some 15), none, .mov (.t 14)⟩, ⟨(some 16), (some (15, false)), .fldA 2 (.t 2)⟩, ⟨(some 19), (some (15, false)), .fldA 0 (.t 2)⟩, ⟨(some 17), (some (15, false)), .ld none (.t 16)⟩, ⟨(some 18), (some (15, false)), .len false (.t 17)⟩, ⟨(some 20), (some (15, false)), .ld none (.t 19)⟩, ⟨(some 21), (some (15, false)), .qcall n_spec_l3Args [(.t 20)]⟩, ⟨(some 22), (some (15, false)), .bin .neq (.t 18) (.t 21)⟩, ⟨(some 23), none, .pick (.t 15) (.c (.p (.bool true))) (.t 22)⟩]) (.cond (.t 23) (.seq (.reg [⟨(some 4), none, .mov (.c (.p (.bool false)))⟩]) (.ret)) (.skip))) (.cut (.reg [⟨(some 24), none, .fldA 0 (.t 2)⟩, ⟨(some 25), none, .ld none (.t 24)⟩, ⟨(some 26), none, .bin .eql (.t 25) (.c (.p (.int .i64 1)))⟩, ⟨(some 27), none, .mov (.t 26)⟩, ⟨(some 28), (some (27, false)), .fldA 0 (.t 2)⟩, ⟨(some 29), (some (27, false)), .ld none (.t 28)⟩, ⟨(some 30), (some (27, false)), .bin .eql (.t 29) (.c (.p (.int .i64 2)))⟩, ⟨(some 31), none, .pick (.t 27) (.c (.p (.bool true))) (.t 30)⟩, ⟨(some 5), none, .mov (.t 31)⟩]) (.cut (.seq (.reg [⟨(some 32), none, .mov (.t 5)⟩, ⟨(some 33), none, .fldA 1 (.t 2)⟩, ⟨(some 34), none, .ld none (.t 33)⟩, ⟨(some 35), none, .call n_spec_IsName [(.t 34)]⟩, ⟨(some 36), none, .beq true (.t 32) (.t 35)⟩, ⟨(some 37), none, .mov (.t 36)⟩, ⟨(some 38), (some (37, false)), .mov (.t 5)⟩, ⟨(some 39), (some (37, false)), .not (.t 38)⟩, ⟨(some 40), (some (37, false)), .mov (.t 39)⟩, ⟨(some 41), (some (40, true)), .fldA 1 (.t 2)⟩, ⟨(some 42), (some (40, true)), .ld none (.t 41)⟩, ⟨(some 43), (some (40, true)), .bins .neq (.t 42) (.c (.p (.str [])))⟩, ⟨(some 44), (some (37, false)), .pick (.t 40) (.t 43) (.c (.p (.bool false)))⟩, ⟨(some 45), none, .pick (.t 37) (.c (.p (.bool true))) (.t 44)⟩]) (.cond (.t 45) (.seq (.reg [⟨(some 4), none, .mov (.c (.p (.bool false)))⟩]) (.ret)) (.skip))) (.seq (.seq (.reg [⟨(some 6), none, .mov (.c (.p (.int .i64 0)))⟩]) (.blk 0 (.loop (.seq (.seq (.reg [⟨(some 46), none, .mov (.t 6)⟩, ⟨(some 47), none, .fldA 2 (.t 2)⟩, ⟨(some 48), none, .ld none (.t 47)⟩, ⟨(some 49), none, .len false (.t 48)⟩, ⟨(some 50), none, .bin .lss (.t 46) (.t 49)⟩]) (.cond (.t 50) (.skip) (.exit 0))) (.seq (.blk 1 (.seq (.reg [⟨(some 53), none, .fldA 2 (.t 2)⟩, ⟨(some 54), none, .ld none (.t 53)⟩, ⟨(some 55), none, .mov (.t 6)⟩, ⟨(some 56), none, .idxS 4 (.t 54) (.t 55)⟩, ⟨(some 57), none, .ld (some 4) (.t 56)⟩, ⟨(some 58), none, .call n_spec_ExprValid [(.t 57)]⟩, ⟨(some 59), none, .not (.t 58)⟩]) (.cond (.t 59) (.seq (.reg [⟨(some 4), none, .mov (.c (.p (.bool false)))⟩]) (.ret)) (.skip)))) (.reg [⟨(some 51), none, .mov (.t 6)⟩, ⟨(some 52), none, .bin .add (.t 51) (.c (.p (.int .i64 1)))⟩, ⟨(some 6), none, .mov (.t 52)⟩])))))) (.cut (.seq (.reg [⟨(some 60), none, .fldA 0 (.t 2)⟩, ⟨(some 61), none, .ld none (.t 60)⟩, ⟨(some 62), none, .bin .eql (.t 61) (.c (.p (.int .i64 8)))⟩, ⟨(some 63), none, .mov (.t 62)⟩, ⟨(some 64), (some (63, true)), .fldA 2 (.t 2)⟩, ⟨(some 65), (some (63, true)), .ld none (.t 64)⟩, ⟨(some 66), (some (63, true)), .idxS 4 (.t 65) (.c (.p (.int .i64 0)))⟩, ⟨(some 67), (some (63, true)), .fldA 0 (.t 66)⟩, ⟨(some 68), (some (63, true)), .ld none (.t 67)⟩, ⟨(some 69), (some (63, true)), .bin .neq (.t 68) (.c (.p (.int .i64 13)))⟩, ⟨(some 70), none, .pick (.t 63) (.t 69) (.c (.p (.bool false)))⟩]) (.cond (.t 70) (.seq (.reg [⟨(some 4), none, .mov (.c (.p (.bool false)))⟩]) (.ret)) (.skip))) (.cut (.seq (.reg [⟨(some 71), none, .fldA 4 (.t 2)⟩, ⟨(some 72), none, .ld none (.t 71)⟩, ⟨(some 73), none, .len false (.t 72)⟩, ⟨(some 74), none, .bin .gtr (.t 73) (.c (.p (.int .i64 0)))⟩, ⟨(some 75), none, .mov (.t 74)⟩, ⟨(some 76), (some (75, true)), .fldA 0 (.t 2)⟩, ⟨(some 77), (some (75, true)), .ld none (.t 76)⟩, ⟨(some 78), (some (75, true)), .bin .neq (.t 77) (.c (.p (.int .i64 5)))⟩, ⟨(some 79), none, .pick (.t 75) (.t 78) (.c (.p (.bool false)))⟩, ⟨(some 80), none, .mov (.t 79)⟩, ⟨(some 81), (some (80, false)), .fldA 3 (.t 2)⟩, ⟨(some 82), (some (80, false)), .ld none (.t 81)⟩, ⟨(some 83), (some (80, false)), .len false (.t 82)⟩, ⟨(some 84), (some (80, false)), .bin .gtr (.t 83) (.c (.p (.int .i64 0)))⟩, ⟨(some 85), (some (80, false)), .mov (.t 84)⟩, ⟨(some 86), (some (85, true)), .fldA 0 (.t 2)⟩, ⟨(some 87), (some (85, true)), .ld none (.t 86)⟩, ⟨(some 88), (some (85, true)), .bin .neq (.t 87) (.c (.p (.int .i64 5)))⟩, ⟨(some 89), (some (80, false)), .pick (.t 85) (.t 88) (.c (.p (.bool false)))⟩, ⟨(some 90), (some (80, false)), .mov (.t 89)⟩, ⟨(some 91), (some (90, true)), .fldA 0 (.t 2)⟩, ⟨(some 92), (some (90, true)), .ld none (.t 91)⟩, ⟨(some 93), (some (90, true)), .bin .neq (.t 92) (.c (.p (.int .i64 6)))⟩, ⟨(some 94), (some (80, false)), .pick (.t 90) (.t 93) (.c (.p (.bool false)))⟩, ⟨(some 95), none, .pick (.t 80) (.c (.p (.bool true))) (.t 94)⟩]) (.cond (.t 95) (.seq (.reg [⟨(some 4), none, .mov (.c (.p (.bool false)))⟩]) (.ret)) (.skip))) (.seq (.reg [⟨(some 96), none, .fldA 3 (.t 2)⟩, ⟨(some 97), none, .ld none (.t 96)⟩, ⟨(some 98), none, .mov (.t 1)⟩, ⟨(some 99), none, .bin .sub (.t 98) (.c (.p (.int .i64 1)))⟩, ⟨(some 100), none, .call n_spec_l3Stmts [(.t 97), (.t 99)]⟩, ⟨(some 101), none, .mov (.t 100)⟩, ⟨(some 102), (some (101, true)), .fldA 4 (.t 2)⟩, ⟨(some 103), (some (101, true)), .ld none (.t 102)⟩, ⟨(some 104), (some (101, true)), .mov (.t 1)⟩, ⟨(some 105), (some (101, true)), .bin .sub (.t 104) (.c (.p (.int .i64 1)))⟩, ⟨(some 106), (some (101, true)), .call n_spec_l3Stmts [(.t 103), (.t 105)]⟩, ⟨(some 107), none, .pick (.t 101) (.t 106) (.c (.p (.bool false)))⟩, ⟨(some 4), none, .mov (.t 107)⟩]) (.ret))))))))
theorem w_spec_l3Stmt : K_spec_l3Stmt.whole = F_spec_l3Stmt.ak := rfl
variable (G : Glob)
theorem s_l1In (n lo hi : Int) : VF Tryd.prog G n_spec_l1In [.p (.int .i64 n), .p (.int .i64 lo), .p (.int .i64 hi)] (.p (.bool (inR n lo hi))) := by
  refine AC.go k_spec_l1In ?_
  by_cases h : lo ≤ n
  · simp -implicitDefEqProofs [F_spec_l1In, h, inR]
  · simp -implicitDefEqProofs [F_spec_l1In, h, inR]
theorem s_l2Kids (op : Int) : VF Tryd.prog G n_spec_l2Kids [.p (.int .i64 op)] (.tup [.p (.int .i64 (loK op)), .p (.int .i64 (hiK op))]) := by
  refine AC.go k_spec_l2Kids ?_
  by_cases h1 : op = 1
  · subst h1; simp -implicitDefEqProofs [F_spec_l2Kids, loK, hiK]
  by_cases h2 : op = 2
  · subst h2; simp -implicitDefEqProofs [F_spec_l2Kids, loK, hiK]
  by_cases h3 : op = 11
  · subst h3; simp -implicitDefEqProofs [F_spec_l2Kids, loK, hiK]
  by_cases h4 : op = 12
  · subst h4; simp -implicitDefEqProofs [F_spec_l2Kids, loK, hiK]
  by_cases h5 : op = 13
  · subst h5; simp -implicitDefEqProofs [F_spec_l2Kids, loK, hiK]
  simp -implicitDefEqProofs [F_spec_l2Kids, loK, hiK, h1, h2, h3, h4, h5]
theorem s_l2Form : ∀ (d : Nat) (e : Ex), e.sz ≤ 1099511627776 → d ≤ 1000 → VF Tryd.prog G n_spec_l2Form [.agg (e.cs.map .p), .p (.int .i64 d)] (.p (.bool (formE d e))) := by
  intro d
  induction d with
  | zero =>
    intro e he _
    refine AC.go k_spec_l2Form ?_
    simp -implicitDefEqProofs [F_spec_l2Form, Ex.cs_eq]
    refine (s_l2Kids G _).use ?_
    simp -implicitDefEqProofs [formE]
  | succ d ih =>
    intro e he hd
    have hsz := e.sz_eq
    have hkl := exsZ_len e.kids
    refine AC.goK k_spec_l2Form w_spec_l2Form ?_
    have hd1 : ¬ (d : Int) + 1 < 1 := by omega
    have hw : IntKind.i64.wrap ((d : Int) + 1 - 1) = (d : Int) := by rw [show (d : Int) + 1 - 1 = d by omega]; exact i64_small (by omega) (by omega)
    have hw' : IntKind.i64.wrap (d : Int) = (d : Int) := i64_small (by omega) (by omega)
    have hxl : ∀ l, exL l = .lst 4 (l.map Ex.cs) := fun _ => rfl
    simp -implicitDefEqProofs [K_spec_l2Form, F_spec_l2Form, Ex.cs_eq]
    refine (s_l2Kids G _).use ?_
    simp -implicitDefEqProofs [hd1]
    refine (s_l1In G _ _ _).use ?_
    by_cases h1 : inR e.op 1 13 = true
    case neg => simp -implicitDefEqProofs [h1, formE, headE]
    simp -implicitDefEqProofs [h1, hxl]
    refine (s_l1In G _ _ _).use ?_
    by_cases h2 : inR e.kids.length (loK e.op) (hiK e.op) = true
    case neg => simp -implicitDefEqProofs [h2, formE, headE]
    simp -implicitDefEqProofs [h2]
    refine cut1 (tsOf 86 [(1, .p (.int .i64 (d + 1))), (2, .ptr 0 4 0 0), (7, .p (.bool (nmdE e.op)))]) [.row 4 [[.p (.int .i64 e.op), .p (.int .i64 e.n), .p (.str e.name), .p (.lst 4 (e.kids.map Ex.cs))]]] ?_ ?_
    · by_cases o2 : e.op = 2
      · simp -implicitDefEqProofs [o2]
        exact wkt_same (by simp) (by simp [okO]) (by simp [below, nmdE])
      · by_cases o13 : e.op = 13
        · simp -implicitDefEqProofs [o13]
          exact wkt_same (by simp) (by simp [okO]) (by simp [below, nmdE])
        · simp -implicitDefEqProofs [o2, o13]
          exact wkt_same (by simp) (by simp [okO]) (by simp [below, nmdE, o2, o13])
    have hn : e.name.length ≤ 140737488355328 := by omega
    refine cutA (fun _ : Unit => tsOf 86 [(1, .p (.int .i64 ((d : Int) + 1))), (2, .ptr 0 4 0 0)]) (fun _ => [.row 4 [[.p (.int .i64 e.op), .p (.int .i64 e.n), .p (.str e.name), .p (.lst 4 (e.kids.map Ex.cs))]]]) (fun _ => headE e = true) ?_ ?_
    · simp -implicitDefEqProofs []
      refine (s_IsName G _ hn).use ?_
      simp -implicitDefEqProofs []
      repeat' first
        | (refine (s_l1In G _ _ _).use ?_; simp -implicitDefEqProofs [])
        | (refine cndb (fun hc => ?_) (fun hc => ?_) <;> simp -implicitDefEqProofs [hc])
      all_goals first
        | exact ⟨by simp_all [headE], wkt_same (by simp) (by simp [okO]) (by simp [below])⟩
        | simp_all [formE, headE]
    intro _ hh
    simp -implicitDefEqProofs []
    refine loopA (fun i : Nat => tsOf 86 [(1, .p (.int .i64 ((d : Int) + 1))), (2, .ptr 0 4 0 0), (8, .p (.int .i64 i))]) (fun _ => [.row 4 [[.p (.int .i64 e.op), .p (.int .i64 e.n), .p (.str e.name), .p (.lst 4 (e.kids.map Ex.cs))]]])
      (fun i => i ≤ e.kids.length ∧ (e.kids.take i).all (formE d) = true) (fun i => e.kids.length - i) 0 (by simp) (wkt_same (by simp) (by simp [okO]) (by simp [below])) ?_
    intro i ⟨hi, hall⟩
    simp -implicitDefEqProofs []
    refine cndb (fun h => ?_) (fun h => ?_)
    · simp at h
      have hg := List.getElem?_eq_getElem h
      have hks := exsZ_mem (List.getElem_mem h)
      simp -implicitDefEqProofs [hg, hw']
      refine (ih e.kids[i] (by omega) (by omega)).use ?_
      by_cases hk : formE d e.kids[i] = true
      · simp -implicitDefEqProofs [hk]
        refine ⟨i + 1, ⟨h, by rw [← List.all_eq_true, all_take_succ h, hall, hk]; rfl⟩, by omega, wkt_same (by simp) (by simp [okO]) ?_⟩
        simp [below, w1 (i := i) (by omega)]
      · have hk' : formE d e.kids[i] = false := by simpa using hk
        have hf : formE (d + 1) e = false := by simp only [formE, all_bad h hk', Bool.and_false]
        simp -implicitDefEqProofs [hk', hf]
    · simp at h
      have hf : formE (d + 1) e = true := by simp only [formE, all_done h hall, hh, Bool.and_self]
      simp -implicitDefEqProofs [hf]
theorem exsP_take {l : List Ex} {i : Nat} (h : i < l.length) : exsP (l.take (i + 1)) = exsP (l.take i) + l[i].parts := by
  rw [take_succ' h, exsP_append]; simp [exsP]
theorem exsP_take_le (l : List Ex) (i : Nat) : exsP (l.take i) ≤ exsP l := by
  have := exsP_append (l.take i) (l.drop i)
  rw [List.take_append_drop] at this
  omega
theorem s_l2Parts : ∀ (k : Nat) (e : Ex), e.sz ≤ k → k ≤ 1099511627776 → VF Tryd.prog G n_spec_l2Parts [.agg (e.cs.map .p)] (.p (.int .i64 e.parts)) := by
  intro k
  induction k with
  | zero => intro e he; have := e.sz_eq; omega
  | succ k ih =>
    intro e he hk
    have hsz := e.sz_eq
    have hkl := exsZ_len e.kids
    have hpe := e.parts_eq
    have hpz := exsP_le e.kids
    refine AC.go k_spec_l2Parts ?_
    have hxl : ∀ l, exL l = .lst 4 (l.map Ex.cs) := fun _ => rfl
    simp -implicitDefEqProofs [F_spec_l2Parts, Ex.cs_eq, hxl]
    refine loopA (fun i : Nat => tsOf 21 [(1, .ptr 0 4 0 0), (3, .p (.int .i64 ((1 + exsP (e.kids.take i) : Nat) : Int))), (4, .p (.int .i64 i))]) (fun _ => [.row 4 [[.p (.int .i64 e.op), .p (.int .i64 e.n), .p (.str e.name), .p (.lst 4 (e.kids.map Ex.cs))]]])
      (fun i => i ≤ e.kids.length) (fun i => e.kids.length - i) 0 (by simp) (wkt_same (by simp) (by simp [okO]) (by simp [below, exsP])) ?_
    intro i hi
    simp -implicitDefEqProofs []
    refine cndb (fun h => ?_) (fun h => ?_)
    · simp at h
      have hg := List.getElem?_eq_getElem h
      have hks := exsZ_mem (List.getElem_mem h)
      have hps := exsP_take h
      have hple := exsP_take_le e.kids (i + 1)
      simp -implicitDefEqProofs [hg]
      refine (ih e.kids[i] (by omega) (by omega)).use ?_
      have hw : IntKind.i64.wrap (1 + (exsP (e.kids.take i) : Int) + (e.kids[i].parts : Int)) = ((1 + exsP (e.kids.take (i + 1)) : Nat) : Int) := by rw [i64_small (by omega) (by omega)]; omega
      simp -implicitDefEqProofs [hw]
      exact ⟨i + 1, h, by omega, wkt_same (by simp) (by simp [okO]) (by simp [below, w1 (i := i) (by omega)])⟩
    · simp at h
      rw [List.take_of_length_le h]
      simp -implicitDefEqProofs []
      omega
theorem s_ExprValid (e : Ex) (he : e.sz ≤ 1099511627776) : VF Tryd.prog G n_spec_ExprValid [.agg (e.cs.map .p)] (.p (.bool (exOk e))) := by
  refine AC.go k_spec_ExprValid ?_
  simp -implicitDefEqProofs [F_spec_ExprValid]
  have h6 := s_l2Form G 6 e he (by omega)
  refine h6.use ?_
  by_cases h : formE 6 e = true
  · simp -implicitDefEqProofs [h]
    refine (s_l2Parts G _ e (Nat.le_refl _) he).use ?_
    simp -implicitDefEqProofs [exOk, h]
    omega
  · simp -implicitDefEqProofs [h, exOk]
theorem s_l3Args (op : Int) : VF Tryd.prog G n_spec_l3Args [.p (.int .i64 op)] (.p (.int .i64 (argsN op))) := by
  refine AC.go k_spec_l3Args ?_
  by_cases h : op = 4
  · simp -implicitDefEqProofs [F_spec_l3Args, h, argsN]
  · simp -implicitDefEqProofs [F_spec_l3Args, h, argsN]
theorem s_l3StmtsOf (d : Nat) (hd : d ≤ 1000) (hs : ∀ s : Sm, s.sz ≤ 1099511627776 → VF Tryd.prog G n_spec_l3Stmt [.agg (s.cs.map .p), .p (.int .i64 d)] (.p (.bool (formS d s)))) (l : List Sm) (hl : smsZ l ≤ 1099511627776) :
    VF Tryd.prog G n_spec_l3Stmts [.p (smL l), .p (.int .i64 d)] (.p (.bool (l.all (formS d)))) := by
  refine AC.go k_spec_l3Stmts ?_
  have hll := smsZ_len l
  have hsl : ∀ l, smL l = .lst 5 (l.map Sm.cs) := fun _ => rfl
  simp -implicitDefEqProofs [F_spec_l3Stmts]
  refine loopA (fun i : Nat => tsOf 19 [(0, .p (smL l)), (1, .p (.int .i64 d)), (5, .p (.int .i64 i))]) (fun _ => []) (fun i => i ≤ l.length ∧ (l.take i).all (formS d) = true) (fun i => l.length - i) 0 (by simp) (wkt_nil rfl (by simp [below, hsl])) ?_
  intro i ⟨hi, hall⟩
  simp -implicitDefEqProofs [hsl]
  refine cndb (fun h => ?_) (fun h => ?_)
  · simp at h
    have hg := List.getElem?_eq_getElem h
    have hks := smsZ_mem (List.getElem_mem h)
    simp -implicitDefEqProofs [hg]
    refine (hs l[i] (by omega)).use ?_
    by_cases hk : formS d l[i] = true
    · simp -implicitDefEqProofs [hk]
      exact ⟨i + 1, ⟨h, by rw [← List.all_eq_true, all_take_succ h, hall, hk]; rfl⟩, by omega, wkt_nil rfl (by simp [below, hsl, w1 (i := i) (by omega)])⟩
    · have hk' : formS d l[i] = false := by simpa using hk
      have hf := all_bad h hk'
      simp -implicitDefEqProofs [hk', hf]
  · simp at h
    have hf := all_done h hall
    simp -implicitDefEqProofs [hf]
theorem s_l3Stmt : ∀ (d : Nat), d ≤ 1000 → ∀ s : Sm, s.sz ≤ 1099511627776 → VF Tryd.prog G n_spec_l3Stmt [.agg (s.cs.map .p), .p (.int .i64 d)] (.p (.bool (formS d s))) := by
  intro d
  induction d with
  | zero =>
    intro _ s _
    refine AC.go k_spec_l3Stmt ?_
    simp -implicitDefEqProofs [F_spec_l3Stmt, Sm.cs_eq, formS]
  | succ d ih =>
    intro hd s he
    have hsz := s.sz_eq
    have hal := exsZ_len s.args
    have hbl := smsZ_len s.body
    have hel := smsZ_len s.els
    have ihs := s_l3StmtsOf G d (by omega) (ih (by omega))
    refine AC.goK k_spec_l3Stmt w_spec_l3Stmt ?_
    have hd1 : ¬ (d : Int) + 1 < 1 := by omega
    have hw' : IntKind.i64.wrap (d : Int) = (d : Int) := i64_small (by omega) (by omega)
    have hxl : ∀ l, exL l = .lst 4 (l.map Ex.cs) := fun _ => rfl
    have hsl : ∀ l, smL l = .lst 5 (l.map Sm.cs) := fun _ => rfl
    have hn : s.name.length ≤ 140737488355328 := by omega
    simp -implicitDefEqProofs [K_spec_l3Stmt, F_spec_l3Stmt, Sm.cs_eq]
    generalize hH : [AO.row 5 [[AV.p (.int .i64 s.op), .p (.str s.name), .p (exL s.args), .p (smL s.body), .p (smL s.els)]]] = H
    have hho : ∀ o ∈ H, okO H.length o := by rw [← hH]; simp [okO]
    have hhl : 0 < H.length := by rw [← hH]; simp
    have hh0 : H[0]? = some (AO.row 5 [[AV.p (.int .i64 s.op), .p (.str s.name), .p (exL s.args), .p (smL s.body), .p (smL s.els)]]) := by rw [← hH]; rfl
    have hhL : H.length = 1 := by rw [← hH]; rfl
    refine cutA (fun _ : Unit => tsOf 108 [(1, .p (.int .i64 ((d : Int) + 1))), (2, .ptr 0 5 0 0)]) (fun _ => H) (fun _ => inR s.op 1 8 = true ∧ s.args.length = argsN s.op) ?_ ?_
    · simp -implicitDefEqProofs [hd1, hh0]
      refine (s_l1In G _ _ _).use ?_
      by_cases h1 : inR s.op 1 8 = true
      case neg => simp -implicitDefEqProofs [h1, formS, headS]
      simp -implicitDefEqProofs [h1, hh0, hxl]
      refine (s_l3Args G _).useQ ?_
      by_cases h2 : s.args.length = argsN s.op
      · simp -implicitDefEqProofs [h2]
        exact wkt_same (by omega) hho (by simp [below, hhl])
      · have h2' : ¬ (s.args.length : Int) = (argsN s.op : Int) := by omega
        simp -implicitDefEqProofs [h2, h2', formS, headS]
    intro _ ⟨h1, h2⟩
    refine cutA (fun _ : Unit => tsOf 108 [(1, .p (.int .i64 ((d : Int) + 1))), (2, .ptr 0 5 0 0), (5, .p (.bool (nmdS s.op)))]) (fun _ => H) (fun _ => True) ?_ ?_
    · simp -implicitDefEqProofs [hh0]
      by_cases o1 : s.op = 1
      · simp -implicitDefEqProofs [o1, hh0, nmdS]
        exact wkt_same (by omega) hho (by simp [below, hhl])
      · by_cases o2 : s.op = 2
        · simp -implicitDefEqProofs [o2, hh0, nmdS]
          exact wkt_same (by omega) hho (by simp [below, hhl])
        · simp -implicitDefEqProofs [o1, o2, hh0, nmdS]
          exact wkt_same (by omega) hho (by simp [below, hhl])
    intro _ _
    refine cutA (fun _ : Unit => tsOf 108 [(1, .p (.int .i64 ((d : Int) + 1))), (2, .ptr 0 5 0 0)]) (fun _ => H) (fun _ => (nmdS s.op == isName s.name) = true ∧ (nmdS s.op || decide (s.name = [])) = true) ?_ ?_
    · simp -implicitDefEqProofs [hh0]
      refine (s_IsName G _ hn).use ?_
      simp -implicitDefEqProofs [hh0]
      repeat' first
        | (refine cndb (fun hc => ?_) (fun hc => ?_) <;> simp -implicitDefEqProofs [hc, hh0])
      all_goals first
        | exact wkt_same (by omega) hho (by simp [below, hhl])
        | exact ⟨by simp_all, by simp_all, wkt_same (by omega) hho (by simp [below, hhl])⟩
        | exact ⟨by simp_all, wkt_same (by omega) hho (by simp [below, hhl])⟩
        | (simp_all [formS, headS]; done)
    intro _ ⟨h3, h4⟩
    simp -implicitDefEqProofs []
    refine loopA (fun i : Nat => tsOf 108 [(1, .p (.int .i64 ((d : Int) + 1))), (2, .ptr 0 5 0 0), (6, .p (.int .i64 i))]) (fun _ => H) (fun i => i ≤ s.args.length ∧ (s.args.take i).all exOk = true) (fun i => s.args.length - i) 0 (by simp) (wkt_same (by omega) hho (by simp [below, hhl])) ?_
    intro i ⟨hi, hall⟩
    simp -implicitDefEqProofs [hh0, hxl]
    refine cndb (fun h => ?_) (fun h => ?_)
    · simp at h
      have hg := List.getElem?_eq_getElem h
      have hks := exsZ_mem (List.getElem_mem h)
      simp -implicitDefEqProofs [hg, hh0, hxl]
      refine (s_ExprValid G s.args[i] (by omega)).use ?_
      by_cases hk : exOk s.args[i] = true
      · simp -implicitDefEqProofs [hk]
        exact ⟨i + 1, ⟨h, by rw [← List.all_eq_true, all_take_succ h, hall, hk]; rfl⟩, by omega, wkt_same (by omega) hho (by simp [below, hhl, w1 (i := i) (by omega)])⟩
      · have hk' : exOk s.args[i] = false := by simpa using hk
        have hf : formS (d + 1) s = false := by simp only [formS, headS, all_bad h hk', Bool.and_false, Bool.false_and]
        simp -implicitDefEqProofs [hk', hf]
    simp at h
    have h5 : s.args.all exOk = true := all_done h hall
    have hlen1 : 1 ≤ s.args.length := by rw [h2]; unfold argsN; split <;> omega
    obtain ⟨a0, ar, ha⟩ : ∃ a r, s.args = a :: r := by
      cases hh : s.args with
      | nil => rw [hh] at hlen1; simp at hlen1
      | cons a r => exact ⟨a, r, rfl⟩
    have ha0 : s.args[0]? = some a0 := by rw [ha]; rfl
    refine cutA (fun _ : Unit => tsOf 108 [(1, .p (.int .i64 ((d : Int) + 1))), (2, .ptr 0 5 0 0)]) (fun _ => H) (fun _ => (!decide (s.op = 8) || decide (a0.op = 13)) = true) ?_ ?_
    · simp -implicitDefEqProofs [hh0]
      by_cases o8 : s.op = 8
      · have hae := a0.cs_eq
        simp -implicitDefEqProofs [o8, hh0, hxl, ha0, hae]
        refine cndb (fun hc => ?_) (fun hc => ?_)
        · simp at hc
          have hf : formS (d + 1) s = false := by simp [formS, headS, o8, ha, hc]
          simp -implicitDefEqProofs [hf]
        · simp at hc
          simp -implicitDefEqProofs [hc]
          exact wkt_same (by omega) hho (by simp [below, hhl])
      · simp -implicitDefEqProofs [o8, hh0]
        exact wkt_same (by omega) hho (by simp [below, hhl])
    intro _ h6
    refine cutA (fun _ : Unit => tsOf 108 [(1, .p (.int .i64 ((d : Int) + 1))), (2, .ptr 0 5 0 0)]) (fun _ => H) (fun _ => (s.els.isEmpty || decide (s.op = 5)) = true ∧ (s.body.isEmpty || decide (s.op = 5) || decide (s.op = 6)) = true) ?_ ?_
    · have hf : ¬ ((s.els.isEmpty || decide (s.op = 5)) = true ∧ (s.body.isEmpty || decide (s.op = 5) || decide (s.op = 6)) = true) → formS (d + 1) s = false := fun h => by
        have : headS s = false := by
          cases hx : headS s with
          | false => rfl
          | true => refine absurd ?_ h; simp only [headS, Bool.and_eq_true] at hx; exact ⟨hx.1.2, hx.2⟩
        simp [formS, this]
      have pe : ¬ s.els = [] → 0 < s.els.length := List.length_pos_iff.2
      have pb : ¬ s.body = [] → 0 < s.body.length := List.length_pos_iff.2
      by_cases o5 : s.op = 5
      · simp -implicitDefEqProofs [hh0, hsl, o5]
        repeat' first
          | (refine cndb (fun hc => ?_) (fun hc => ?_) <;> simp -implicitDefEqProofs [hc, hh0, hsl, o5])
        all_goals exact wkt_same (by omega) hho (by simp [below, hhl])
      by_cases e1 : s.els = []
      case neg =>
        have hf := hf (by simp [e1, o5])
        have := pe e1
        simp -implicitDefEqProofs [hh0, hsl, o5, e1, this, hf]
      by_cases e2 : s.body = []
      · simp -implicitDefEqProofs [hh0, hsl, o5, e1, e2]
        exact wkt_same (by omega) hho (by simp [below, hhl])
      have := pb e2
      by_cases o6 : s.op = 6
      · simp -implicitDefEqProofs [hh0, hsl, o6, e1, e2, this]
        exact wkt_same (by omega) hho (by simp [below, hhl])
      · have hf := hf (by simp [e2, o5, o6])
        simp -implicitDefEqProofs [hh0, hsl, o5, o6, e1, e2, this, hf]
    intro _ ⟨h7, h8⟩
    have hm : (match s.args with | a :: _ => decide (a.op = 13) | [] => false) = decide (a0.op = 13) := by rw [ha]
    have hhd : headS s = true := by
      have h6' : (!decide (s.op = 8) || (match s.args with | a :: _ => decide (a.op = 13) | [] => false)) = true := by rw [hm]; exact h6
      have h2' : decide (s.args.length = argsN s.op) = true := by simp [h2]
      simp only [headS, h1, h2', h3, h4, h5, h7, h8, Bool.and_self, Bool.and_true, Bool.true_and]
      exact h6'
    simp -implicitDefEqProofs [hh0, hw']
    refine (ihs s.body (by omega)).use ?_
    by_cases hB : s.body.all (formS d) = true
    · simp only [hB]
      simp -implicitDefEqProofs [hh0, hw']
      refine (ihs s.els (by omega)).use ?_
      have hf : formS (d + 1) s = s.els.all (formS d) := by simp only [formS, hhd, hB, Bool.true_and]
      rw [hf]
      generalize s.els.all (formS d) = w
      simp -implicitDefEqProofs []
    · have hB' : s.body.all (formS d) = false := by simpa using hB
      have hf : formS (d + 1) s = false := by simp only [formS, hB', Bool.and_false, Bool.false_and]
      simp only [hB', hf]
      simp -implicitDefEqProofs []
theorem s_l3Stmts (d : Nat) (hd : d ≤ 1000) (l : List Sm) (hl : smsZ l ≤ 1099511627776) : VF Tryd.prog G n_spec_l3Stmts [.p (smL l), .p (.int .i64 d)] (.p (.bool (l.all (formS d)))) :=
  s_l3StmtsOf G d hd (s_l3Stmt G d hd) l hl
theorem s_l3Fn (f : Fd) (hf : f.sz ≤ 1099511627776) : VF Tryd.prog G n_spec_l3Fn [.agg (f.cs.map .p)] (.p (.bool (fdOk f))) := by
  refine AC.go k_spec_l3Fn ?_
  have hsz : f.sz = 1 + f.name.length + (f.params.length + (f.params.map List.length).sum) + smsZ f.body := rfl
  have hps : ∀ x ∈ f.params, x.length ≤ (f.params.map List.length).sum := fun x hx => by
    have key : ∀ l : List (List UInt8), x ∈ l → x.length ≤ (l.map List.length).sum := by
      intro l
      induction l with
      | nil => intro h; cases h
      | cons y r ih =>
        intro h
        simp only [List.map_cons, List.sum_cons]
        rcases List.mem_cons.1 h with rfl | h
        · omega
        · have := ih h; omega
    exact key _ hx
  have hst : strL f.params = .lst 1 (f.params.map fun w => [.str w]) := rfl
  have h4 := s_l3Stmts G 4 (by omega) f.body (by omega)
  simp -implicitDefEqProofs [F_spec_l3Fn, Fd.cs, hst]
  refine loopA (fun i : Nat => tsOf 32 [(1, .ptr 0 3 0 0), (3, .p (.int .i64 i))]) (fun _ => [.row 3 [[.p (.str f.name), .p (strL f.params), .p (smL f.body)]]]) (fun i => i ≤ f.params.length ∧ (f.params.take i).all isName = true) (fun i => f.params.length - i) 0 (by simp) (wkt_same (by simp) (by simp [okO]) (by simp [below])) ?_
  intro i ⟨hi, hall⟩
  simp -implicitDefEqProofs [hst]
  refine cndb (fun h => ?_) (fun h => ?_)
  · simp at h
    have hg := List.getElem?_eq_getElem h
    have hl := hps _ (List.getElem_mem h)
    simp -implicitDefEqProofs [hg]
    refine (s_IsName G _ (by omega)).use ?_
    by_cases hk : isName f.params[i] = true
    · simp -implicitDefEqProofs [hk]
      exact ⟨i + 1, ⟨h, by rw [← List.all_eq_true, all_take_succ h, hall, hk]; rfl⟩, by omega, wkt_same (by simp) (by simp [okO]) (by simp [below, w1 (i := i) (by omega)])⟩
    · have hk' : isName f.params[i] = false := by simpa using hk
      have hff : fdOk f = false := by simp only [fdOk, all_bad h hk', Bool.false_and]
      simp -implicitDefEqProofs [hk', hff]
  · simp at h
    have h1 : f.params.all isName = true := all_done h hall
    simp -implicitDefEqProofs []
    refine (s_IsName G _ (by omega)).use ?_
    by_cases h2 : isName f.name = true
    case neg =>
      have h2' : isName f.name = false := by simpa using h2
      simp -implicitDefEqProofs [h2', fdOk]
    simp -implicitDefEqProofs [h2]
    by_cases h3 : f.params.length ≤ 3
    case neg =>
      have h3' : ¬ (f.params.length : Int) ≤ 3 := by omega
      simp -implicitDefEqProofs [h3, h3', fdOk]
    have h3' : (f.params.length : Int) ≤ 3 := by omega
    simp -implicitDefEqProofs [h3']
    refine h4.use ?_
    have hff : fdOk f = f.body.all (formS 4) := by simp only [fdOk, h1, h2, h3, decide_true, Bool.true_and]
    rw [hff]
    generalize f.body.all (formS 4) = w
    simp -implicitDefEqProofs []
theorem smsN_take {l : List Sm} {i : Nat} (h : i < l.length) : smsN (l.take (i + 1)) = smsN (l.take i) + l[i].cnt := by
  rw [take_succ' h, smsN_append]; simp [smsN]
theorem smsN_take_le (l : List Sm) (i : Nat) : smsN (l.take i) ≤ smsN l := by
  have := smsN_append (l.take i) (l.drop i)
  rw [List.take_append_drop] at this
  omega
/-- How many statements are counted before the i-th. -/
def cntAt (l : List Sm) (i : Nat) : Nat := l.length + ((l.take i).map fun s => smsN s.body + smsN s.els).sum
theorem cntAt_zero (l : List Sm) : cntAt l 0 = l.length := by simp [cntAt]
theorem cntAt_succ {l : List Sm} {i : Nat} (h : i < l.length) : cntAt l (i + 1) = cntAt l i + smsN l[i].body + smsN l[i].els := by
  rw [cntAt, cntAt, take_succ' h, List.map_append, List.sum_append]
  simp only [List.map_cons, List.map_nil, List.sum_cons, List.sum_nil]
  omega
theorem cntAt_key (l : List Sm) : ∀ i, i ≤ l.length → smsN (l.take i) + l.length = i + cntAt l i
  | 0, _ => by simp [smsN, cntAt]
  | i + 1, h => by
    have := cntAt_key l i (by omega)
    rw [smsN_take (by omega), cntAt_succ (by omega), (l[i]'(by omega)).cnt_eq]
    omega
theorem s_l3Count : ∀ (k : Nat) (l : List Sm), smsZ l ≤ k → k ≤ 1099511627776 → VF Tryd.prog G n_spec_l3Count [.p (smL l)] (.p (.int .i64 (smsN l))) := by
  intro k
  induction k with
  | zero =>
    intro l hl _
    have : l = [] := by
      cases l with
      | nil => rfl
      | cons s r => have := s.sz_eq; simp only [smsZ] at hl; omega
    subst this
    refine AC.go k_spec_l3Count ?_
    have hsl : smL [] = .lst 5 [] := rfl
    simp -implicitDefEqProofs [F_spec_l3Count, hsl]
    refine loopA (fun _ : Unit => tsOf 29 [(0, .p (.lst 5 [])), (3, .p (.int .i64 0)), (4, .p (.int .i64 0))]) (fun _ => []) (fun _ => True) (fun _ => 0) () trivial (wkt_nil rfl (by simp [below])) ?_
    intro _ _
    simp -implicitDefEqProofs [smsN]
  | succ k ih =>
    intro l hl hk
    have hll := smsZ_len l
    have hnz := smsN_le l
    refine AC.go k_spec_l3Count ?_
    have hsl : ∀ l, smL l = .lst 5 (l.map Sm.cs) := fun _ => rfl
    simp -implicitDefEqProofs [F_spec_l3Count, hsl]
    refine loopA (fun i : Nat => tsOf 29 [(0, .p (smL l)), (3, .p (.int .i64 (cntAt l i))), (4, .p (.int .i64 i))]) (fun _ => []) (fun i => i ≤ l.length) (fun i => l.length - i) 0 (by simp) (wkt_nil rfl (by simp [below, hsl, cntAt_zero])) ?_
    intro i hi
    have k0 := cntAt_key l i hi
    have k2 := smsN_take_le l i
    simp -implicitDefEqProofs [hsl]
    refine cndb (fun h => ?_) (fun h => ?_)
    · simp at h
      have hg := List.getElem?_eq_getElem h
      have hks := smsZ_mem (List.getElem_mem h)
      have hse := l[i].sz_eq
      have hce := l[i].cs_eq
      have k1 := cntAt_succ h
      have k3 := cntAt_key l (i + 1) h
      have k4 := smsN_take_le l (i + 1)
      simp -implicitDefEqProofs [hg, hce]
      refine (ih l[i].body (by omega) (by omega)).use ?_
      simp -implicitDefEqProofs [hg, hce]
      refine (ih l[i].els (by omega) (by omega)).use ?_
      have w1' : IntKind.i64.wrap ((cntAt l i : Int) + (smsN l[i].body : Int)) = (cntAt l i : Int) + (smsN l[i].body : Int) := i64_small (by omega) (by omega)
      have w2' : IntKind.i64.wrap ((cntAt l i : Int) + (smsN l[i].body : Int) + (smsN l[i].els : Int)) = (cntAt l (i + 1) : Int) := by rw [i64_small (by omega) (by omega)]; omega
      simp -implicitDefEqProofs [w1', w2']
      exact ⟨i + 1, h, by omega, wkt_nil rfl (by simp [below, hsl, w1 (i := i) (by omega)])⟩
    · simp at h
      rw [List.take_of_length_le h] at k0
      have : cntAt l i = smsN l := by omega
      simp -implicitDefEqProofs [this]
theorem fdsZ_mem : ∀ {l : List Fd} {f : Fd}, f ∈ l → f.sz ≤ fdsZ l
  | x :: r, e, h => by
    simp only [fdsZ, List.map_cons, List.sum_cons]
    rcases List.mem_cons.1 h with rfl | h
    · omega
    · have := fdsZ_mem h; simp only [fdsZ] at this; omega
theorem fdsZ_len : ∀ l : List Fd, l.length ≤ fdsZ l
  | [] => Nat.le_refl _
  | e :: r => by have := fdsZ_len r; simp only [fdsZ, List.map_cons, List.sum_cons, List.length_cons] at this ⊢; have : 1 ≤ e.sz := by unfold Fd.sz; omega
                 omega
def allT (l : List Fd) (i : Nat) : Nat := allN (l.take i)
theorem allT_succ {l : List Fd} {i : Nat} (h : i < l.length) : allT l (i + 1) = allT l i + smsN l[i].body := by
  rw [allT, allT, allN, allN, take_succ' h, List.map_append, List.sum_append]; simp
theorem allN_le : ∀ l : List Fd, allN l ≤ fdsZ l
  | [] => Nat.le_refl _
  | f :: r => by
    have := allN_le r
    have h2 := smsN_le f.body
    simp only [allN, fdsZ, List.map_cons, List.sum_cons] at this ⊢
    have : smsZ f.body ≤ f.sz := by unfold Fd.sz; omega
    omega
theorem allT_le (l : List Fd) (i : Nat) : allT l i ≤ fdsZ l := by
  have h1 := allN_le (l.take i)
  have h2 : fdsZ (l.take i) ≤ fdsZ l := by
    have : fdsZ l = fdsZ (l.take i) + fdsZ (l.drop i) := by
      rw [← List.take_append_drop i l, fdsZ, List.map_append, List.sum_append]; simp [fdsZ]
    omega
  exact Nat.le_trans h1 h2
theorem s_l3All (l : List Fd) (hl : fdsZ l ≤ 1099511627776) : VF Tryd.prog G n_spec_l3All [.agg [.p (fdL l)]] (.p (.int .i64 (allN l))) := by
  refine AC.go k_spec_l3All ?_
  have hll := fdsZ_len l
  have hfl : ∀ l, fdL l = .lst 3 (l.map Fd.cs) := fun _ => rfl
  simp -implicitDefEqProofs [F_spec_l3All]
  refine loopA (fun i : Nat => tsOf 22 [(1, .ptr 0 1 0 0), (3, .p (.int .i64 (allT l i))), (4, .p (.int .i64 i))]) (fun _ => [.row 1 [[.p (fdL l)]]]) (fun i => i ≤ l.length) (fun i => l.length - i) 0 (by simp) (wkt_same (by simp) (by simp [okO]) (by simp [below, allT, allN])) ?_
  intro i hi
  simp -implicitDefEqProofs [hfl]
  refine cndb (fun h => ?_) (fun h => ?_)
  · simp at h
    have hg := List.getElem?_eq_getElem h
    have hks := fdsZ_mem (List.getElem_mem h)
    have hse : l[i].sz = 1 + l[i].name.length + (l[i].params.length + (l[i].params.map List.length).sum) + smsZ l[i].body := rfl
    have hce : l[i].cs = [.str l[i].name, strL l[i].params, smL l[i].body] := rfl
    have k1 := allT_succ h
    have k2 := allT_le l (i + 1)
    simp -implicitDefEqProofs [hg, hce]
    refine (s_l3Count G _ l[i].body (Nat.le_refl _) (by omega)).use ?_
    have w1' : IntKind.i64.wrap ((allT l i : Int) + (smsN l[i].body : Int)) = (allT l (i + 1) : Int) := by rw [i64_small (by omega) (by omega)]; omega
    simp -implicitDefEqProofs [w1']
    exact ⟨i + 1, h, by omega, wkt_same (by simp) (by simp [okO]) (by simp [below, w1 (i := i) (by omega), hfl])⟩
  · simp at h
    have : allT l i = allN l := by rw [allT, List.take_of_length_le h]
    simp -implicitDefEqProofs [this]
theorem s_ProgramValid (l : List Fd) (hl : fdsZ l ≤ 1099511627776) : VF Tryd.prog G n_spec_ProgramValid [.agg [.p (fdL l)]] (.p (.bool (progOk l))) := by
  refine AC.go k_spec_ProgramValid ?_
  have hfl : ∀ l, fdL l = .lst 3 (l.map Fd.cs) := fun _ => rfl
  have hall := s_l3All G l hl
  have hll := fdsZ_len l
  rw [hfl] at hall
  simp -implicitDefEqProofs [F_spec_ProgramValid, hfl]
  refine (s_l1In G _ _ _).use ?_
  by_cases h1 : inR l.length 1 4 = true
  case neg => simp -implicitDefEqProofs [h1, progOk]
  simp -implicitDefEqProofs [h1]
  refine loopA (fun i : Nat => tsOf 26 [(1, .ptr 0 1 0 0), (3, .p (.int .i64 i))]) (fun _ => [.row 1 [[.p (.lst 3 (l.map Fd.cs))]]]) (fun i => i ≤ l.length ∧ (l.take i).all fdOk = true) (fun i => l.length - i) 0 (by simp) (wkt_same (by simp) (by simp [okO]) (by simp [below])) ?_
  intro i ⟨hi, ha⟩
  simp -implicitDefEqProofs []
  refine cndb (fun h => ?_) (fun h => ?_)
  · simp at h
    have hg := List.getElem?_eq_getElem h
    have hks := fdsZ_mem (List.getElem_mem h)
    simp -implicitDefEqProofs [hg]
    refine (s_l3Fn G l[i] (by omega)).use ?_
    by_cases hk : fdOk l[i] = true
    · simp -implicitDefEqProofs [hk]
      exact ⟨i + 1, ⟨h, by rw [← List.all_eq_true, all_take_succ h, ha, hk]; rfl⟩, by omega, wkt_same (by simp) (by simp [okO]) (by simp [below, w1 (i := i) (by omega)])⟩
    · have hk' : fdOk l[i] = false := by simpa using hk
      have hff : progOk l = false := by simp only [progOk, all_bad h hk', Bool.and_false, Bool.false_and]
      simp -implicitDefEqProofs [hk', hff]
  · simp at h
    have h2 : l.all fdOk = true := all_done h ha
    simp -implicitDefEqProofs []
    refine hall.use ?_
    have hff : progOk l = decide (allN l ≤ 40) := by simp only [progOk, h1, h2, Bool.true_and]
    simp -implicitDefEqProofs [hff]
    omega
end Go.Proofs.YtiojgfhdcpppcaaDoor
namespace Go.Proofs.YtiojgfhdcpppcaaDoor
open Go Go.Aw
set_option maxRecDepth 100000
set_option maxHeartbeats 4000000
theorem fst_take {n : Nat} {h h1 : List AO} (e : h.take n = h1) (hn : h1.length = n) (ho : ∀ o ∈ h1, okO n o) : Fst n h h1 := by
  have hl : n ≤ h.length := by
    have := congrArg List.length e
    rw [List.length_take] at this; omega
  have hg : ∀ (i : Nat) (o : AO), h1[i]? = some o → h[i]? = some o := fun i o hi => by
    have h2 := (List.getElem?_eq_some_iff.1 hi).1
    rw [← e, List.getElem?_take_of_lt (by omega)] at hi
    exact hi
  exact ⟨hn, hl, fun i sz es hi => ⟨hg _ _ hi, ho _ (List.mem_of_getElem? hi)⟩, fun i es hi => ⟨hg _ _ hi, ho _ (List.mem_of_getElem? hi)⟩, fun i s p hi => hg _ _ hi⟩
theorem live_dead : ∀ (r : List AO) (s : Nat), ((lives (List.range' s r.length ++ [0]) (r ++ [.dead])).Nodup ∧ ∀ i ∈ lives (List.range' s r.length ++ [0]) (r ++ [.dead]), s ≤ i)
  | [], s => by simp [lives]
  | o :: r, s => by
    obtain ⟨h1, h2⟩ := live_dead r (s + 1)
    rw [List.length_cons, List.range'_succ]
    cases o with
    | dead => exact ⟨h1, fun i hi => Nat.le_of_succ_le (h2 i hi)⟩
    | _ => exact ⟨List.nodup_cons.2 ⟨fun hm => absurd (h2 _ hm) (by omega), h1⟩, fun i hi => by
      rcases List.mem_cons.1 hi with rfl | hi
      · exact Nat.le_refl _
      · exact Nat.le_of_succ_le (h2 i hi)⟩
theorem hw_deadT {h : List AO} (hp : 0 < h.length) (ho : ∀ o ∈ h, okO h.length o) : ∀ (r : List AO) (s : Nat), (∀ i : Nat, r[i]? = h[s + i]?) → s + r.length = h.length → HW (List.range' 0 h.length ++ [0]) h (List.range' s r.length ++ [0]) (r ++ [.dead])
  | [], s, _, _ => hw_dead hp hw_nil
  | o :: r, s, hr, hs => by
    have hσ : ∀ i, i < h.length → (List.range' 0 h.length ++ [0]).getD i 0 = i := fun i hi => by
      rw [List.getD_eq_getElem?_getD, List.getElem?_append_left (by simp; exact hi)]; simp [hi]
    rw [List.length_cons, List.range'_succ]
    have h0 := hr 0
    have ih := hw_deadT hp ho r (s + 1) (fun i => by have := hr (i + 1); rw [List.getElem?_cons_succ] at this; rw [this]; congr 1; omega) (by simp at hs; omega)
    have hm : h[s]? = some o := by simpa using h0.symm
    have hok := ho o (List.mem_of_getElem? hm)
    cases o with
    | dead => exact hw_dead (List.getElem?_eq_some_iff.1 hm).1 ih
    | row sz es =>
      refine hw_rowr (fun x hx => belowL_mono (by simp) _ (hok x hx)) ?_ ih
      rw [hm, List.map_congr_left (g := id) fun x hx => renL_fix hσ x (hok x hx)]; simp
    | mp es => exact ⟨(List.getElem?_eq_some_iff.1 hm).1, ⟨fun x hx => by exact (belowL_mono (by simp) [x.2] ⟨hok x hx, trivial⟩).1, by rw [hm, List.map_congr_left (g := id) fun x hx => by rw [ren_fix hσ x.2 (hok x hx)]; rfl]; simp⟩, ih⟩
    | sit s p => exact ⟨(List.getElem?_eq_some_iff.1 hm).1, hm, ih⟩
theorem twa_dead {m : Nat} {l : List (Nat × AV)} : ∀ r : List (Nat × AV), FgA m l r → TWA (List.range' 0 m ++ [0]) l r
  | [], _ => trivial
  | x :: r, ⟨⟨a, c⟩, d⟩ => by
    have hσ : ∀ i, i < m → (List.range' 0 m ++ [0]).getD i 0 = i := fun i hi => by
      rw [List.getD_eq_getElem?_getD, List.getElem?_append_left (by simp; exact hi)]; simp [hi]
    exact ⟨⟨(belowL_mono (by simp) [x.2] ⟨a, trivial⟩).1, by rw [ren_fix hσ _ a, c]⟩, twa_dead r d⟩
/-- At a loop's head: one more object, dead. -/
theorem wkt_dead {k n : Nat} {l l1 : List (Nat × AV)} {h : List AO} (hk : k ≤ h.length) (hp : 0 < h.length) (ho : ∀ o ∈ h, okO h.length o) (H : FgA h.length l l1) : Wk k (tsOf n l) h (tsOf n l1) (h ++ [.dead]) := by
  have hσ : ∀ i, i < h.length → (List.range' 0 h.length ++ [0]).getD i 0 = i := fun i hi => by
    rw [List.getD_eq_getElem?_getD, List.getElem?_append_left (by simp; exact hi)]; simp [hi]
  refine wkt_dup (List.range' 0 h.length ++ [0]) (by simp; omega) (fun i hi => hσ i (by omega)) ?_ ?_ (twa_dead _ H)
  · exact (live_dead h 0).1
  · exact hw_deadT hp ho h 0 (fun i => by simp) (by simp)
def fnsR (fns : List Fd) : List (List AV) := fns.map fun f => f.cs.map .p
theorem fnsR_pure (fns : List Fd) : ∀ x ∈ fnsR fns, belowL 0 x := by
  intro x hx; obtain ⟨m, _, rfl⟩ := List.mem_map.1 hx; simp
theorem okO_up {n : Nat} {o : AO} (h : okO 0 o) : okO n o := by
  cases o with
  | dead => trivial
  | sit => trivial
  | row sz es => exact fun e he => belowL_mono (Nat.zero_le _) _ (h e he)
  | mp es => exact fun e he => (belowL_mono (Nat.zero_le n) [e.2] ⟨h e he, trivial⟩).1
theorem fnsE_ok (fns : List Fd) (n : Nat) : okO n (rowE 3 (fnsR fns)) := okO_up (okO_E (fnsR_pure fns))
def exR (l : List Ex) : List (List AV) := l.map fun e => e.cs.map .p
theorem exR_pure (l : List Ex) : ∀ x ∈ exR l, belowL 0 x := by
  intro x hx; obtain ⟨m, _, rfl⟩ := List.mem_map.1 hx; simp
theorem exE_view {h : List AO} {id : Nat} {l : List Ex} (e : h[id]? = some (rowE 4 (exR l))) : View h (slE id 4 (exR l)) (exL l) := by
  have hh : exR l = (l.map Ex.cs).map (·.map .p) := by simp [exR]
  rw [hh] at e ⊢
  exact view_E e (fun x hx => by obtain ⟨b, _, rfl⟩ := List.mem_map.1 hx; exact b.cs_len)
theorem two_view {h : List AO} {id sz : Nat} {r0 r1 : List AV} {p0 p1 : List PV} (he : h[id]? = some (.row sz [r0, r1])) (l0 : p0.length = sz) (l1 : p1.length = sz) (h0 : ∀ (j : Nat) (q : PV) (a : AV), p0[j]? = some q → r0[j]? = some a → View h a q) (h1 : ∀ (j : Nat) (q : PV) (a : AV), p1[j]? = some q → r1[j]? = some a → View h a q) : View h (.sl id sz 0 2) (.lst sz [p0, p1]) := by
  refine View.sl id sz 0 _ [p0, p1] he (by simp) (by simp [l0, l1]) fun i j e q e' a a1 a2 a3 a4 => ?_
  rw [Nat.zero_add] at a3
  match i, a1, a3 with
  | 0, a1, a3 => cases a1; cases a3; exact h0 j q a a2 a4
  | 1, a1, a3 => cases a1; cases a3; exact h1 j q a a2 a4
  | i + 2, a1, a3 => simp at a1
def smR (l : List Sm) : List (List AV) := l.map fun s => s.cs.map .p
theorem smR_pure (l : List Sm) : ∀ x ∈ smR l, belowL 0 x := by
  intro x hx; obtain ⟨m, _, rfl⟩ := List.mem_map.1 hx; simp
theorem smR_len (l : List Sm) : (smR l).length = l.length := by simp [smR]
theorem smR_app (a b : List Sm) : smR (a ++ b) = smR a ++ smR b := by simp [smR]
theorem one_view {h : List AO} {id sz : Nat} {r0 : List AV} {p0 : List PV} (he : h[id]? = some (.row sz [r0])) (l0 : p0.length = sz) (h0 : ∀ (j : Nat) (q : PV) (a : AV), p0[j]? = some q → r0[j]? = some a → View h a q) : View h (.sl id sz 0 1) (.lst sz [p0]) := by
  refine View.sl id sz 0 _ [p0] he (by simp) (by simp [l0]) fun i j e q e' a a1 a2 a3 a4 => ?_
  rw [Nat.zero_add] at a3
  match i, a1, a3 with
  | 0, a1, a3 => cases a1; cases a3; exact h0 j q a a2 a4
  | i + 1, a1, a3 => simp at a1
/-- The cells of an expression, as they lie. -/
theorem ex_cells {h : List AO} {o n : Int} {w : List UInt8} {k : List Ex} {K : AV} (hk : View h K (exL k)) : ∀ (j : Nat) (q : PV) (a : AV), (Ex.mk o n w k).cs[j]? = some q → [AV.p (.int .i64 o), .p (.int .i64 n), .p (.str w), K][j]? = some a → View h a q := by
  intro j q a e1 e2
  have hc : (Ex.mk o n w k).cs = [.int .i64 o, .int .i64 n, .str w, exL k] := Ex.cs_eq _
  rw [hc] at e1
  match j, e1, e2 with
  | 0, e1, e2 => cases e1; cases e2; exact .p _
  | 1, e1, e2 => cases e1; cases e2; exact .p _
  | 2, e1, e2 => cases e1; cases e2; exact .p _
  | 3, e1, e2 => cases e1; cases e2; exact hk
  | j + 4, e1, e2 => simp at e1
theorem smR_view {h : List AO} {id : Nat} {l : List Sm} (e : h[id]? = some (.row 5 (smR l))) : View h (.sl id 5 0 l.length) (smL l) := by
  have := view_row (h := h) (id := id) (sz := 5) (n := l.length) (ls := l.map Sm.cs) (by rw [e, smR]; simp) (by simp) (fun x hx => by obtain ⟨b, _, rfl⟩ := List.mem_map.1 hx; exact b.cs_len)
  exact this
/-- The cells of a statement, as they lie. -/
theorem sm_cells {h : List AO} {o : Int} {w : List UInt8} {a : List Ex} {bd el : List Sm} {A B E : AV} (hA : View h A (exL a)) (hB : View h B (smL bd)) (hE : View h E (smL el)) : ∀ (j : Nat) (q : PV) (x : AV), (Sm.mk o w a bd el).cs[j]? = some q → [AV.p (.int .i64 o), .p (.str w), A, B, E][j]? = some x → View h x q := by
  intro j q x e1 e2
  have hc : (Sm.mk o w a bd el).cs = [.int .i64 o, .str w, exL a, smL bd, smL el] := Sm.cs_eq _
  rw [hc] at e1
  match j, e1, e2 with
  | 0, e1, e2 => cases e1; cases e2; exact .p _
  | 1, e1, e2 => cases e1; cases e2; exact .p _
  | 2, e1, e2 => cases e1; cases e2; exact hA
  | 3, e1, e2 => cases e1; cases e2; exact hB
  | 4, e1, e2 => cases e1; cases e2; exact hE
  | j + 5, e1, e2 => simp at e1
theorem oks_nil {n : Nat} : ∀ o ∈ ([] : List AO), okO n o := fun o h => by cases h
theorem oks_cons {n : Nat} {a : AO} {l : List AO} (h : okO n a) (r : ∀ o ∈ l, okO n o) : ∀ o ∈ a :: l, okO n o := fun o ho => by
  rcases List.mem_cons.1 ho with rfl | ho
  · exact h
  · exact r o ho
end Go.Proofs.YtiojgfhdcpppcaaDoor
namespace Go.Proofs.YtiojgfhdcpppcaaDoor
open Go Go.Aw
set_option maxRecDepth 100000
set_option maxHeartbeats 4000000
def ixI : Option Nat → Int | none => -1 | some i => i
def vaC (nf : Bool) (id n : Nat) : AV := if nf then .nils else .sl id 3 0 n
def lvC (v : LV) : List AV := [.p (.str v.name), .p (.int .i64 v.num), .p (.int .i64 v.block)]
def lvR (vs : List LV) : List (List AV) := vs.reverse.map lvC
def roC (nf : Bool) (vs : List LV) : AO := if nf then .dead else .row 3 (lvR vs)
/-- The walker's cells: the program, the function, its variables, two numbers. -/
def wC (id : Nat) (nf : Bool) (fns : List Fd) (k : Nat) (w : WS) : List AV := [.p (fdL fns), .p (.int .i64 k), vaC nf id w.vs.length, .p (.int .i64 w.count), .p (.int .i64 w.code)]
def wO (id : Nat) (nf : Bool) (fns : List Fd) (k : Nat) (w : WS) : AO := .row 5 [wC id nf fns k w]
def HWk (nf : Bool) (fns : List Fd) (k : Nat) (w : WS) : List AO := [wO 1 nf fns k w, roC nf w.vs]
theorem lvR_len (vs : List LV) : (lvR vs).length = vs.length := by simp [lvR]
theorem lvR_pure (vs : List LV) : ∀ x ∈ lvR vs, belowL 0 x := by
  intro x hx; obtain ⟨m, _, rfl⟩ := List.mem_map.1 hx; simp [lvC, belowL, below]
theorem roC_ok (nf : Bool) (vs : List LV) (n : Nat) : okO n (roC nf vs) := by
  cases nf
  · exact okO_up (fun e he => lvR_pure vs e he)
  · exact trivial
theorem vaC_below {nf : Bool} {id n m : Nat} (h : id < m) : below m (vaC nf id n) := by cases nf <;> simp [vaC, below, h]
theorem wC_below {id : Nat} {nf : Bool} {fns : List Fd} {k : Nat} {w : WS} {m : Nat} (h : id < m) : belowL m (wC id nf fns k w) := ⟨by simp, by simp, vaC_below h, by simp, by simp, trivial⟩
theorem wO_ok {id : Nat} {nf : Bool} {fns : List Fd} {k : Nat} {w : WS} {m : Nat} (h : id < m) : okO m (wO id nf fns k w) := by
  intro e he; rw [List.mem_singleton.1 he]; exact wC_below h
theorem ren_vaC (σ : List Nat) (nf : Bool) (id n : Nat) : ren σ (vaC nf id n) = vaC nf (σ.getD id 0) n := by cases nf <;> rfl
theorem renL_wC (σ : List Nat) (id : Nat) (nf : Bool) (fns : List Fd) (k : Nat) (w : WS) : renL σ (wC id nf fns k w) = wC (σ.getD id 0) nf fns k w := by
  simp only [wC, renL, ren_vaC]; rfl
theorem renO_wO (σ : List Nat) (id : Nat) (nf : Bool) (fns : List Fd) (k : Nat) (w : WS) : renO σ (wO id nf fns k w) = wO (σ.getD id 0) nf fns k w := by
  simp only [wO, renO, List.map_cons, List.map_nil, renL_wC]
theorem renO_roC (σ : List Nat) (nf : Bool) (vs : List LV) : renO σ (roC nf vs) = roC nf vs := by
  cases nf
  · show AO.row 3 ((lvR vs).map (renL σ)) = .row 3 (lvR vs)
    rw [List.map_congr_left (g := id) fun x hx => renL_pure σ x (lvR_pure vs x hx)]; simp
  · rfl
theorem lvR_at (pre : List LV) (v : LV) (r : List LV) : (lvR (pre ++ v :: r))[r.length]? = some (lvC v) := by
  simp [lvR]
theorem lvR_cons (v : LV) (r : List LV) : lvR (v :: r) = lvR r ++ [lvC v] := by simp [lvR]
/-- Where a variable stands. -/
def fndI : List LV → List UInt8 → Int
  | [], _ => -1
  | v :: r, s => if v.name = s then r.length else fndI r s
theorem fnd_cases : ∀ (vs : List LV) (s : List UInt8), (lkV vs s = none ∧ fndI vs s = -1) ∨ ∃ pre v r, vs = pre ++ v :: r ∧ lkV vs s = some v ∧ fndI vs s = r.length
  | [], s => .inl ⟨rfl, rfl⟩
  | v :: r, s => by
    by_cases h : v.name = s
    · exact .inr ⟨[], v, r, rfl, by simp [lkV, h], by simp [fndI, h]⟩
    · have h1 : lkV (v :: r) s = lkV r s := by simp [lkV, h]
      have h2 : fndI (v :: r) s = fndI r s := by simp [fndI, h]
      rw [h1, h2]
      rcases fnd_cases r s with h | ⟨pre, u, q, e, h⟩
      · exact .inl h
      · exact .inr ⟨v :: pre, u, q, by rw [e]; rfl, h⟩
def K_spec_l4Walk_put : AK := .seq (.reg [⟨(some 6), none, .mov (.c (.p (.str [])))⟩]) (.seq (.reg [⟨(some 8), none, .mov (.t 0)⟩, ⟨(some 9), none, .mov (.t 1)⟩, ⟨(some 10), none, .call n_spec_l4Walk_find [(.t 8), (.t 9)]⟩, ⟨(some 7), none, .mov (.t 10)⟩]) (.cut (.seq (.reg [⟨(some 11), none, .mov (.t 7)⟩, ⟨(some 12), none, .bin .geq (.t 11) (.c (.p (.int .i64 0)))⟩, ⟨(some 13), none, .mov (.t 12)⟩, ⟨(some 14), (some (13, true)), .mov (.t 0)⟩, ⟨(some 15), (some (13, true)), .nilck (.t 14)⟩, ⟨(some 16), (some (13, true)), .fldA 2 (.t 15)⟩, ⟨(some 17), (some (13, true)), .ld none (.t 16)⟩, ⟨(some 18), (some (13, true)), .mov (.t 7)⟩, ⟨(some 19), (some (13, true)), .idxS 3 (.t 17) (.t 18)⟩, ⟨(some 20), (some (13, true)), .fldA 2 (.t 19)⟩, ⟨(some 21), (some (13, true)), .ld none (.t 20)⟩, ⟨(some 22), (some (13, true)), .mov (.t 2)⟩, ⟨(some 23), (some (13, true)), .bin .eql (.t 21) (.t 22)⟩, ⟨(some 24), none, .pick (.t 13) (.t 23) (.c (.p (.bool false)))⟩]) (.cond (.t 24) (.reg [⟨(some 25), none, .mov (.t 0)⟩, ⟨(some 26), none, .call n_spec_l4Walk_fail [(.t 25), (.c (.p (.int .i64 2)))]⟩]) (.skip))) (.seq (.reg [⟨(some 27), none, .mov (.t 0)⟩, ⟨(some 28), none, .mov (.t 0)⟩, ⟨(some 29), none, .nilck (.t 28)⟩, ⟨(some 30), none, .fldA 2 (.t 29)⟩, ⟨(some 32), none, .mov (.t 1)⟩, ⟨(some 33), none, .mov (.t 0)⟩, ⟨(some 34), none, .nilck (.t 33)⟩, ⟨(some 35), none, .fldA 3 (.t 34)⟩, ⟨(some 37), none, .mov (.t 2)⟩, ⟨(some 31), none, .ld none (.t 30)⟩, ⟨(some 36), none, .ld none (.t 35)⟩, ⟨(some 38), none, .bld [(.p (.str [])), (.p (.int .i64 0)), (.p (.int .i64 0))] [(0, 1, (.t 32)), (1, 1, (.t 36)), (2, 1, (.t 37))]⟩, ⟨(some 39), none, .bslP 3 [(.p (.str [])), (.p (.int .i64 0)), (.p (.int .i64 0))] 1 [(0, 3, (.t 38))]⟩, ⟨(some 40), none, .app 3 32 (.t 31) (.t 39)⟩, ⟨(some 41), none, .nilck (.t 27)⟩, ⟨(some 42), none, .fldA 2 (.t 41)⟩, ⟨none, none, .st 1 (.t 42) (.t 40)⟩]) (.seq (.reg [⟨(some 43), none, .mov (.t 0)⟩, ⟨(some 44), none, .mov (.t 0)⟩, ⟨(some 45), none, .nilck (.t 44)⟩, ⟨(some 46), none, .fldA 3 (.t 45)⟩, ⟨(some 47), none, .ld none (.t 46)⟩, ⟨(some 48), none, .bin .add (.t 47) (.c (.p (.int .i64 1)))⟩, ⟨(some 49), none, .nilck (.t 43)⟩, ⟨(some 50), none, .fldA 3 (.t 49)⟩, ⟨none, none, .st 1 (.t 50) (.t 48)⟩]) (.seq (.reg [⟨(some 51), none, .mov (.t 0)⟩, ⟨(some 52), none, .nilck (.t 51)⟩, ⟨(some 53), none, .fldA 3 (.t 52)⟩, ⟨(some 54), none, .ld none (.t 53)⟩, ⟨(some 55), none, .bin .sub (.t 54) (.c (.p (.int .i64 1)))⟩, ⟨(some 56), none, .call n_spec_l4Name [(.t 55)]⟩, ⟨(some 6), none, .mov (.t 56)⟩]) (.ret))))))
theorem w_spec_l4Walk_put : K_spec_l4Walk_put.whole = F_spec_l4Walk_put.ak := rfl
variable (G : Glob)
theorem s_FnAt (l : List Fd) (s : List UInt8) (hl : l.length ≤ 1099511627776) : VF Tryd.prog G n_spec_FnAt [.agg [.p (fdL l)], .p (.str s)] (.p (.int .i64 (ixI (fnAt l s)))) := by
  refine AC.go k_spec_FnAt ?_
  have hfl : ∀ l, fdL l = .lst 3 (l.map Fd.cs) := fun _ => rfl
  simp -implicitDefEqProofs [F_spec_FnAt, hfl]
  refine loopA (fun i : Nat => tsOf 22 [(1, .p (.str s)), (2, .ptr 0 1 0 0), (5, .p (.int .i64 i))]) (fun _ => [.row 1 [[.p (.lst 3 (l.map Fd.cs))]]]) (fun i => i ≤ l.length ∧ ∀ f ∈ l.take i, f.name ≠ s) (fun i => l.length - i) 0 (by simp) (wkt_same (by simp) (by simp [okO]) (by simp [below])) ?_
  intro i ⟨hi, hn⟩
  simp -implicitDefEqProofs []
  refine cndb (fun h => ?_) (fun h => ?_)
  · simp at h
    have hg := List.getElem?_eq_getElem h
    have hce : l[i].cs = [.str l[i].name, strL l[i].params, smL l[i].body] := rfl
    by_cases he : l[i].name = s
    · have hf : fnAt l s = some i := by
        rw [fnAt, List.findIdx?_eq_some_iff_getElem]
        exact ⟨h, by simpa using he, fun j hj => by have := hn l[j] (List.mem_take_iff_getElem.2 ⟨j, by omega, rfl⟩); simpa using this⟩
      simp -implicitDefEqProofs [hg, hce, he, hf, ixI]
    · simp -implicitDefEqProofs [hg, hce, he]
      refine ⟨i + 1, ⟨h, fun p hp => ?_⟩, by omega, wkt_same (by simp) (by simp [okO]) (by simp [below, w1 (i := i) (by omega)])⟩
      rw [take_succ' h] at hp
      rcases List.mem_append.1 hp with hp | hp
      · exact hn p hp
      · rw [List.mem_singleton.1 hp]; exact he
  · simp at h
    rw [List.take_of_length_le h] at hn
    have hf : fnAt l s = none := by
      rw [fnAt, List.findIdx?_eq_none_iff]; intro x hx; simpa using hn x hx
    simp -implicitDefEqProofs [hf, ixI]
theorem abc_at : ∀ m : Nat, m < 26 → ((([97, 98, 99, 100, 101, 102, 103, 104, 105, 106, 107, 108, 109, 110, 111, 112, 113, 114, 115, 116, 117, 118, 119, 120, 121, 122] : List UInt8).take (m + 1)).drop m) = [UInt8.ofNat (97 + m)] := by decide
theorem abc_at2 : ∀ m : Nat, m < 26 → List.drop m ((97 : UInt8) :: List.take m [98, 99, 100, 101, 102, 103, 104, 105, 106, 107, 108, 109, 110, 111, 112, 113, 114, 115, 116, 117, 118, 119, 120, 121, 122]) = [97 + UInt8.ofNat m] := by decide
theorem s_l4Name (n : Nat) : VF Tryd.prog G n_spec_l4Name [.p (.int .i64 n)] (.p (.str (vnm n))) := by
  refine AC.go k_spec_l4Name ?_
  have hm : n % 26 < 26 := Nat.mod_lt _ (by omega)
  have ht : (n : Int).tmod 26 = ((n % 26 : Nat) : Int) := rfl
  have hw : IntKind.i64.wrap (((n % 26 : Nat) : Int) + 1) = ((n % 26 + 1 : Nat) : Int) := w1 (by omega)
  have habc := abc_at _ hm
  rw [vnm]
  generalize n % 26 = m at hm ht hw habc
  have h0 : (0 : Int) ≤ (m : Int) + 1 := by omega
  have h1 : m + 1 ≤ 26 := by omega
  simp -implicitDefEqProofs [F_spec_l4Name, ht, hw, h0, h1]
  exact ⟨by omega, abc_at2 m hm⟩
theorem s_fail0 (nf : Bool) (fns : List Fd) (k : Nat) (w : WS) (c : Int) : AC Tryd.prog G n_spec_l4Walk_fail [.ptr 0 5 0 0, .p (.int .i64 c)] (HWk nf fns k w) fun x h => x = .ret (.tup []) ∧ h = HWk nf fns k ⟨w.vs, w.count, fl w.code c⟩ := by
  refine AC.go k_spec_l4Walk_fail ?_
  by_cases h0 : w.code = 0
  · simp -implicitDefEqProofs [F_spec_l4Walk_fail, HWk, wO, wC, h0, fl]
  · simp -implicitDefEqProofs [F_spec_l4Walk_fail, HWk, wO, wC, h0, fl]
theorem HWk_ok (nf : Bool) (fns : List Fd) (k : Nat) (w : WS) : ∀ o ∈ HWk nf fns k w, okO 2 o := by
  intro o ho
  simp only [HWk, List.mem_cons, List.not_mem_nil, or_false] at ho
  rcases ho with rfl | rfl
  · exact wO_ok (by omega)
  · exact roC_ok _ _ _
theorem s_find0 (nf : Bool) (fns : List Fd) (k : Nat) (w : WS) (hn : nf = true → w.vs = []) (hl : w.vs.length ≤ 1099511627776) (s : List UInt8) : AC Tryd.prog G n_spec_l4Walk_find [.ptr 0 5 0 0, .p (.str s)] (HWk nf fns k w) fun x h => x = .ret (.p (.int .i64 (fndI w.vs s))) ∧ h = HWk nf fns k w := by
  refine AC.go k_spec_l4Walk_find ?_
  have hok := HWk_ok nf fns k w
  cases nf with
  | true =>
    have hv := hn rfl
    rw [HWk] at hok ⊢
    simp -implicitDefEqProofs [F_spec_l4Walk_find, wO, wC, vaC, hv]
    refine loopA (fun _ : Unit => tsOf 27 [(0, .ptr 0 5 0 0), (1, .p (.str s)), (5, .p (.int .i64 (-1)))]) (fun _ => [wO 1 true fns k w, roC true w.vs]) (fun _ => True) (fun _ => 0) () trivial ?_ ?_
    · have e : wO 1 true fns k w = .row 5 [[.p (fdL fns), .p (.int .i64 k), .nils, .p (.int .i64 w.count), .p (.int .i64 w.code)]] := by simp [wO, wC, vaC]
      rw [← e, ← hv]
      exact wkt_same (by simp) hok (by simp [below, i64_small (x := -1) (by omega) (by omega)])
    · intro _ _
      simp -implicitDefEqProofs [fndI]
      simp [wO, wC, vaC, hv]
  | false =>
    rw [HWk] at hok ⊢
    have e : ∀ r, roC false r = .row 3 (lvR r) := fun _ => rfl
    have hw0 : IntKind.i64.wrap ((w.vs.length : Int) - 1) = (w.vs.length : Int) - 1 := i64_small (by omega) (by omega)
    simp -implicitDefEqProofs [F_spec_l4Walk_find, wO, wC, vaC, hw0]
    refine loopA (fun r : List LV => tsOf 27 [(0, .ptr 0 5 0 0), (1, .p (.str s)), (5, .p (.int .i64 ((r.length : Int) - 1)))]) (fun _ => [wO 1 false fns k w, roC false w.vs]) (fun r => ∃ pre, w.vs = pre ++ r ∧ fndI w.vs s = fndI r s) (fun r => r.length) w.vs ⟨[], rfl, rfl⟩ ?_ ?_
    · exact wkt_same (h := [wO 1 false fns k w, roC false w.vs]) (by simp) hok (by simp [below])
    · rintro r ⟨pre, e1, e2⟩
      cases r with
      | nil =>
        simp -implicitDefEqProofs [wO, wC, vaC]
        rw [e2]; rfl
      | cons v r =>
        have hat := lvR_at pre v r
        rw [← e1] at hat
        have hlen : r.length < w.vs.length := by rw [e1]; simp; omega
        have hll := lvR_len w.vs
        have c1 : ((r.length + 1 : Nat) : Int) - 1 = (r.length : Int) := by omega
        have hw1 : IntKind.i64.wrap ((r.length : Int) - 1) = (r.length : Int) - 1 := i64_small (by omega) (by omega)
        by_cases hs : v.name = s
        · simp -implicitDefEqProofs [wO, wC, vaC, e, c1, hat, hlen, lvC, hs]
          rw [e2]; simp [fndI, hs]
        · simp -implicitDefEqProofs [wO, wC, vaC, e, c1, hat, hlen, lvC, hs]
          refine ⟨r, ⟨⟨pre ++ [v], by rw [e1]; simp⟩, by rw [e2]; simp [fndI, hs]⟩, by simp, ?_⟩
          refine wkt_same (h := [wO 1 false fns k w, roC false w.vs]) (by simp) hok ?_
          simp [below, hw1]
theorem s_use0 (nf : Bool) (fns : List Fd) (k : Nat) (w : WS) (hn : nf = true → w.vs = []) (hl : w.vs.length ≤ 1099511627776) (s : List UInt8) : AC Tryd.prog G n_spec_l4Walk_use [.ptr 0 5 0 0, .p (.str s)] (HWk nf fns k w) fun x h => x = .ret (.p (.str (useN w.vs s))) ∧ h = HWk nf fns k ⟨w.vs, w.count, useC w.vs s w.code⟩ := by
  refine AC.go k_spec_l4Walk_use ?_
  simp -implicitDefEqProofs [F_spec_l4Walk_use]
  refine (s_find0 G nf fns k w hn hl s).mono ?_
  rintro r h ⟨rfl, rfl⟩
  rcases fnd_cases w.vs s with ⟨e1, e2⟩ | ⟨pre, v, q, e0, e1, e2⟩
  · simp -implicitDefEqProofs [callR_nxt, e2]
    refine (s_fail0 G nf fns k w 3).mono ?_
    rintro r h ⟨rfl, rfl⟩
    simp -implicitDefEqProofs [callR_nxt, useN, useC, e1]
  · have hat := lvR_at pre v q
    rw [← e0] at hat
    have hlen : q.length < w.vs.length := by rw [e0]; simp; omega
    have hnf : nf = false := by
      cases nf with
      | false => rfl
      | true => rw [hn rfl] at e0; simp at e0
    subst hnf
    have e : ∀ r, roC false r = .row 3 (lvR r) := fun _ => rfl
    have hq : ¬ (q.length : Int) < 0 := by omega
    simp -implicitDefEqProofs [callR_nxt, e2, hq, HWk, wO, wC, vaC, e, hat, hlen, lvC]
    refine (s_l4Name G v.num).use ?_
    simp -implicitDefEqProofs [useN, useC, e1]
theorem s_put0 (nf : Bool) (fns : List Fd) (k : Nat) (w : WS) (hn : nf = true → w.vs = []) (hl : w.vs.length ≤ 1099511627776) (hc : w.count ≤ 1099511627776) (s : List UInt8) (b : Nat) : AC Tryd.prog G n_spec_l4Walk_put [.ptr 0 5 0 0, .p (.str s), .p (.int .i64 b)] (HWk nf fns k w) fun x h => x = .ret (.p (.str (vnm w.count))) ∧ h = [wO 2 false fns k (putW w s b), .dead, roC false (putW w s b).vs] := by
  refine AC.goK k_spec_l4Walk_put w_spec_l4Walk_put ?_
  have hw1 : IntKind.i64.wrap ((w.count : Int) + 1) = (w.count : Int) + 1 := i64_small (by omega) (by omega)
  have hw2 : IntKind.i64.wrap ((w.count : Int) + 1 - 1) = (w.count : Int) := by rw [i64_small (by omega) (by omega)]; omega
  have hw3 : IntKind.i64.wrap (w.count : Int) = (w.count : Int) := i64_small (by omega) (by omega)
  have hll := lvR_len w.vs
  simp -implicitDefEqProofs [K_spec_l4Walk_put, F_spec_l4Walk_put]
  refine (s_find0 G nf fns k w hn hl s).mono ?_
  rintro r h ⟨rfl, rfl⟩
  simp -implicitDefEqProofs [callR_nxt]
  refine cut1 (tsOf 57 [(0, .ptr 0 5 0 0), (1, .p (.str s)), (2, .p (.int .i64 b))]) (HWk nf fns k ⟨w.vs, w.count, putC w.vs s b w.code⟩) ?_ ?_
  · rcases fnd_cases w.vs s with ⟨e1, e2⟩ | ⟨pre, v, q, e0, e1, e2⟩
    · simp -implicitDefEqProofs [e2, putC, e1]
      exact wkt_same (by simp [HWk]) (HWk_ok nf fns k w) (by simp [below, HWk])
    · have hat := lvR_at pre v q
      rw [← e0] at hat
      have hlen : q.length < w.vs.length := by rw [e0]; simp; omega
      have hnf : nf = false := by
        cases nf with
        | false => rfl
        | true => rw [hn rfl] at e0; simp at e0
      subst hnf
      have e : ∀ r, roC false r = .row 3 (lvR r) := fun _ => rfl
      have hq : (0 : Int) ≤ (q.length : Int) := by omega
      by_cases hb : v.block = b
      · have := s_fail0 G false fns k w 2
        simp only [HWk, wO, wC, vaC, e] at this
        simp -implicitDefEqProofs [e2, HWk, wO, wC, vaC, e, hat, hlen, lvC, hb]
        refine this.mono ?_
        rintro r h ⟨rfl, rfl⟩
        have hp : putC w.vs s b w.code = fl w.code 2 := by simp [putC, e1, hb]
        rw [hp]
        simp -implicitDefEqProofs [callR_nxt]
        refine wkt_same (h := HWk false fns k ⟨w.vs, w.count, fl w.code 2⟩) ?_ (HWk_ok _ _ _ _) ?_
        · simp [HWk]
        · simp [below, HWk]
      · have hp : putC w.vs s b w.code = w.code := by simp [putC, e1, hb]
        have hbi : ¬ (v.block : Int) = (b : Int) := by omega
        rw [hp]
        simp -implicitDefEqProofs [e2, HWk, wO, wC, vaC, e, hat, hlen, lvC, hbi]
        refine wkt_same (h := HWk false fns k w) ?_ (HWk_ok _ _ _ _) ?_
        · simp [HWk]
        · simp [below, HWk]
  · cases nf with
    | true =>
      have hv := hn rfl
      simp -implicitDefEqProofs [HWk, wO, wC, vaC, roC, hv, hw1, hw2, hw3]
      refine (s_l4Name G w.count).use ?_
      simp -implicitDefEqProofs [putW, lvR, lvC, hv]
    | false =>
      have e : ∀ r, roC false r = .row 3 (lvR r) := fun _ => rfl
      simp -implicitDefEqProofs [HWk, wO, wC, vaC, e, hw1, hw2, hw3, hll]
      refine ⟨by omega, ?_⟩
      refine (s_l4Name G w.count).use ?_
      simp -implicitDefEqProofs [putW, lvR_cons, lvC]
      rw [List.take_of_length_le (by omega)]
end Go.Proofs.YtiojgfhdcpppcaaDoor
namespace Go.Proofs.YtiojgfhdcpppcaaDoor
open Go Go.Aw
set_option maxRecDepth 100000
set_option maxHeartbeats 4000000
def K_spec_l4Walk_expr : AK := .seq (.reg [⟨(some 3), none, .box 4 (.t 1)⟩, ⟨(some 4), none, .alloc [(.p (.int .i64 0)), (.p (.int .i64 0)), (.p (.str [])), .nils]⟩]) (.cut (.seq (.reg [⟨(some 8), none, .fldA 0 (.t 3)⟩, ⟨(some 9), none, .ld none (.t 8)⟩, ⟨(some 10), none, .bin .eql (.t 9) (.c (.p (.int .i64 2)))⟩]) (.cond (.t 10) (.reg [⟨(some 11), none, .mov (.t 0)⟩, ⟨(some 12), none, .fldA 2 (.t 3)⟩, ⟨(some 13), none, .ld none (.t 12)⟩, ⟨(some 14), none, .call n_spec_l4Walk_use [(.t 11), (.t 13)]⟩, ⟨(some 15), none, .fldA 2 (.t 3)⟩, ⟨none, none, .st 1 (.t 15) (.t 14)⟩]) (.skip))) (.cut (.seq (.reg [⟨(some 16), none, .fldA 0 (.t 3)⟩, ⟨(some 17), none, .ld none (.t 16)⟩, ⟨(some 18), none, .bin .eql (.t 17) (.c (.p (.int .i64 13)))⟩]) (.cond (.t 18) (.seq (.reg [⟨(some 19), none, .mov (.t 0)⟩, ⟨(some 20), none, .nilck (.t 19)⟩, ⟨(some 21), none, .fldA 0 (.t 20)⟩, ⟨(some 23), none, .fldA 2 (.t 3)⟩, ⟨(some 22), none, .ld (some 1) (.t 21)⟩, ⟨(some 24), none, .ld none (.t 23)⟩, ⟨(some 25), none, .call n_spec_FnAt [(.t 22), (.t 24)]⟩, ⟨(some 5), none, .mov (.t 25)⟩]) (.seq (.reg [⟨(some 26), none, .mov (.t 5)⟩, ⟨(some 27), none, .bin .lss (.t 26) (.c (.p (.int .i64 0)))⟩, ⟨(some 28), none, .mov (.t 27)⟩, ⟨(some 29), (some (28, false)), .mov (.t 5)⟩, ⟨(some 30), (some (28, false)), .mov (.t 0)⟩, ⟨(some 31), (some (28, false)), .nilck (.t 30)⟩, ⟨(some 32), (some (28, false)), .fldA 1 (.t 31)⟩, ⟨(some 33), (some (28, false)), .ld none (.t 32)⟩, ⟨(some 34), (some (28, false)), .bin .geq (.t 29) (.t 33)⟩, ⟨(some 35), none, .pick (.t 28) (.c (.p (.bool true))) (.t 34)⟩]) (.cond (.t 35) (.reg [⟨(some 36), none, .mov (.t 0)⟩, ⟨(some 37), none, .call n_spec_l4Walk_fail [(.t 36), (.c (.p (.int .i64 4)))]⟩]) (.seq (.reg [⟨(some 38), none, .mov (.t 0)⟩, ⟨(some 39), none, .nilck (.t 38)⟩, ⟨(some 40), none, .fldA 0 (.t 39)⟩, ⟨(some 41), none, .fldA 0 (.t 40)⟩, ⟨(some 43), none, .mov (.t 5)⟩, ⟨(some 48), none, .fldA 3 (.t 3)⟩, ⟨(some 42), none, .ld none (.t 41)⟩, ⟨(some 44), none, .idxS 3 (.t 42) (.t 43)⟩, ⟨(some 45), none, .fldA 1 (.t 44)⟩, ⟨(some 46), none, .ld none (.t 45)⟩, ⟨(some 47), none, .len false (.t 46)⟩, ⟨(some 49), none, .ld none (.t 48)⟩, ⟨(some 50), none, .len false (.t 49)⟩, ⟨(some 51), none, .bin .neq (.t 47) (.t 50)⟩]) (.cond (.t 51) (.reg [⟨(some 52), none, .mov (.t 0)⟩, ⟨(some 53), none, .call n_spec_l4Walk_fail [(.t 52), (.c (.p (.int .i64 5)))]⟩]) (.skip)))))) (.skip))) (.seq (.reg [⟨(some 54), none, .bsl 4 [(.p (.int .i64 0)), (.p (.int .i64 0)), (.p (.str [])), .nils] 0 []⟩, ⟨(some 6), none, .mov (.t 54)⟩]) (.seq (.seq (.reg [⟨(some 7), none, .mov (.c (.p (.int .i64 0)))⟩]) (.blk 0 (.loop (.seq (.seq (.reg [⟨(some 55), none, .mov (.t 7)⟩, ⟨(some 56), none, .fldA 3 (.t 3)⟩, ⟨(some 57), none, .ld none (.t 56)⟩, ⟨(some 58), none, .len false (.t 57)⟩, ⟨(some 59), none, .bin .lss (.t 55) (.t 58)⟩]) (.cond (.t 59) (.skip) (.exit 0))) (.seq (.blk 1 (.reg [⟨(some 62), none, .mov (.t 6)⟩, ⟨(some 63), none, .mov (.t 0)⟩, ⟨(some 64), none, .fldA 3 (.t 3)⟩, ⟨(some 65), none, .ld none (.t 64)⟩, ⟨(some 66), none, .mov (.t 7)⟩, ⟨(some 67), none, .idxS 4 (.t 65) (.t 66)⟩, ⟨(some 68), none, .ld (some 4) (.t 67)⟩, ⟨(some 69), none, .call n_spec_l4Walk_expr [(.t 63), (.t 68)]⟩, ⟨(some 70), none, .bsl 4 [(.p (.int .i64 0)), (.p (.int .i64 0)), (.p (.str [])), .nils] 1 [(0, 4, (.t 69))]⟩, ⟨(some 71), none, .app 4 56 (.t 62) (.t 70)⟩, ⟨(some 6), none, .mov (.t 71)⟩])) (.reg [⟨(some 60), none, .mov (.t 7)⟩, ⟨(some 61), none, .bin .add (.t 60) (.c (.p (.int .i64 1)))⟩, ⟨(some 7), none, .mov (.t 61)⟩])))))) (.seq (.reg [⟨(some 72), none, .mov (.t 6)⟩, ⟨(some 73), none, .fldA 3 (.t 3)⟩, ⟨none, none, .st 1 (.t 73) (.t 72)⟩]) (.seq (.reg [⟨(some 74), none, .ld (some 4) (.t 3)⟩, ⟨none, none, .st 4 (.t 4) (.t 74)⟩]) (.ret)))))))
theorem w_spec_l4Walk_expr : K_spec_l4Walk_expr.whole = F_spec_l4Walk_expr.ak := rfl
variable (G : Glob)
theorem w_pre {f : FuncId} {args : List AV} {nf : Bool} {fns : List Fd} {k : Nat} {w w' : WS} {v : AV} (H : AC Tryd.prog G f args (HWk nf fns k w) fun x h => x = .ret v ∧ h = HWk nf fns k w') (rest : List AO) (ha : belowL 2 args) :
    AC Tryd.prog G f args (wO 1 nf fns k w :: roC nf w.vs :: rest) fun x h => x = .ret v ∧ h = wO 1 nf fns k w' :: roC nf w'.vs :: rest := by
  refine (AC.pre H rest ha (HWk_ok _ _ _ _) ?_).mono ?_
  · rintro x h ⟨_, rfl⟩; rfl
  · rintro x h ⟨h1, ⟨rfl, rfl⟩, rfl⟩
    exact ⟨rfl, rfl⟩
theorem oks_w {n id : Nat} (hn : id < n) {nf nf' : Bool} {fns : List Fd} {k : Nat} {w : WS} {vs : List LV} {l : List AO} (r : ∀ o ∈ l, okO n o) : ∀ o ∈ wO id nf fns k w :: roC nf' vs :: l, okO n o := oks_cons (wO_ok hn) (oks_cons (roC_ok _ _ _) r)
theorem hw_wO {ρ π : List Nat} {h r1 : List AO} {i id : Nat} {nf : Bool} {fns : List Fd} {k : Nat} {w : WS} (hid : id < ρ.length) (e : h[i]? = some (wO (ρ.getD id 0) nf fns k w)) (hr : HW ρ h π r1) : HW ρ h (i :: π) (wO id nf fns k w :: r1) := by
  refine hw_rowr (es := [wC id nf fns k w]) (fun x hx => ?_) ?_ hr
  · rw [List.mem_singleton.1 hx]; exact wC_below hid
  · rw [e, List.map_cons, List.map_nil, renL_wC]; rfl
theorem set_self' {α : Type} {l : List α} {i j : Nat} {a b : α} (hij : i ≠ j) (h : l[j]? = some b) : (l.set i a).set j b = l.set i a := by
  apply List.ext_getElem?
  intro n
  rw [List.getElem?_set]
  split
  · rename_i e
    subst e
    rw [List.getElem?_set_ne hij, h]
    rw [if_pos (by rw [List.length_set]; exact (List.getElem?_eq_some_iff.1 h).1)]
  · rfl
theorem tw_pure (ρ : List Nat) : ∀ l : List AV, belowL 0 l → TW ρ l l
  | [], _ => by simp
  | v :: r, h => by
    rw [TW_cons]
    refine ⟨.inr ⟨(belowL_mono (Nat.zero_le _) [v] ⟨h.1, trivial⟩).1, ?_⟩, tw_pure ρ r h.2⟩
    have := renL_pure ρ [v] ⟨h.1, trivial⟩
    simpa [renL] using this
theorem hw_w {h : List AO} {wid id : Nat} {nf : Bool} {fns : List Fd} {k : Nat} {w : WS} (e0 : h[wid]? = some (wO id nf fns k w)) (e1 : h[id]? = some (roC nf w.vs)) : HW [wid, id] h [wid, id] (HWk nf fns k w) := by
  refine hw_rowr (es := [wC 1 nf fns k w]) (fun x hx => ?_) ?_ ?_
  · rw [List.mem_singleton.1 hx]; exact wC_below (by simp)
  · rw [e0, List.map_cons, List.map_nil, renL_wC]; rfl
  · exact hw_ok e1 (roC_ok _ _ _) hw_nil
/-- A call of the walker, its variables anywhere; they stay. -/
theorem w_at {f : FuncId} {args : List AV} {nf : Bool} {fns : List Fd} {k : Nat} {w : WS} {v : AV} {c : Int} (H : AC Tryd.prog G f (.ptr 0 5 0 0 :: args) (HWk nf fns k w) fun x h => x = .ret v ∧ h = HWk nf fns k ⟨w.vs, w.count, c⟩) (ha : belowL 0 args) (hv : below 0 v)
    {h : List AO} {wid id : Nat} (hid : wid ≠ id) (e0 : h[wid]? = some (wO id nf fns k w)) (e1 : h[id]? = some (roC nf w.vs)) :
    AC Tryd.prog G f (.ptr wid 5 0 0 :: args) h fun x h' => x = .ret v ∧ h' = h.set wid (wO id nf fns k ⟨w.vs, w.count, c⟩) := by
  refine (H.frame [wid, id] (by simp [hid]) ?_ (hw_w e0 e1)).mono ?_
  · rw [TW_cons]; exact ⟨.inr ⟨by simp [below], rfl⟩, tw_pure _ _ ha⟩
  · rintro x h' ⟨x0, h0, ⟨rfl, rfl⟩, _, rfl, rfl⟩
    refine ⟨?_, ?_⟩
    · have := renL_pure ([wid, id] ++ List.range' h.length ((HWk nf fns k ⟨w.vs, w.count, c⟩).length - (HWk nf fns k w).length)) [v] ⟨hv, trivial⟩
      simp only [renL] at this
      simp only [renR]
      exact congrArg ARes.ret (List.cons.inj this).1
    · simp only [HWk, List.length_cons, List.length_nil, Nat.sub_self, List.range'_zero, List.append_nil, List.take_succ_cons, List.take_zero, List.map_cons, List.map_nil, List.drop_succ_cons, List.drop_zero, renO_wO, renO_roC, mrg]
      exact set_self' hid e1
/-- A call of the walker, its variables anywhere; they move to the end. -/
theorem w_mv {f : FuncId} {args : List AV} {nf : Bool} {fns : List Fd} {k : Nat} {w : WS} {v : AV} {Q : Bool → WS → Prop} (H : AC Tryd.prog G f (.ptr 0 5 0 0 :: args) (HWk nf fns k w) fun x h => ∃ nf' w', x = .ret v ∧ h = [wO 2 nf' fns k w', .dead, roC nf' w'.vs] ∧ Q nf' w') (ha : belowL 0 args) (hv : below 0 v)
    {h : List AO} {wid id : Nat} (hid : wid ≠ id) (e0 : h[wid]? = some (wO id nf fns k w)) (e1 : h[id]? = some (roC nf w.vs)) :
    AC Tryd.prog G f (.ptr wid 5 0 0 :: args) h fun x h' => ∃ nf' w', x = .ret v ∧ h' = (h.set wid (wO h.length nf' fns k w')).set id .dead ++ [roC nf' w'.vs] ∧ Q nf' w' := by
  refine (H.frame [wid, id] (by simp [hid]) ?_ (hw_w e0 e1)).mono ?_
  · rw [TW_cons]; exact ⟨.inr ⟨by simp [below], rfl⟩, tw_pure _ _ ha⟩
  · rintro x h' ⟨x0, h0, ⟨nf', w', rfl, rfl, q⟩, _, rfl, rfl⟩
    refine ⟨nf', w', ?_, ?_, q⟩
    · have := renL_pure ([wid, id] ++ List.range' h.length ([wO 2 nf' fns k w', .dead, roC nf' w'.vs].length - (HWk nf fns k w).length)) [v] ⟨hv, trivial⟩
      simp only [renL] at this
      simp only [renR]
      exact congrArg ARes.ret (List.cons.inj this).1
    · simp only [HWk, List.length_cons, List.length_nil, List.take_succ_cons, List.take_zero, List.map_cons, List.map_nil, List.drop_succ_cons, List.drop_zero, renO_wO, renO_roC, mrg]
      rfl
theorem chkEs_app (fns : List Fd) (k : Nat) (vs : List LV) : ∀ (a b : List Ex) (c : Int), chkEs fns k vs (a ++ b) c = chkEs fns k vs b (chkEs fns k vs a c)
  | [], b, c => rfl
  | e :: r, b, c => by rw [List.cons_append, chkEs, chkEs, chkEs_app fns k vs r]
theorem rnEs_map (vs : List LV) : ∀ l : List Ex, rnEs vs l = l.map (rnE vs)
  | [] => rfl
  | e :: r => by rw [rnEs, rnEs_map vs r]; rfl
theorem chkEs_take {fns : List Fd} {k : Nat} {vs : List LV} {l : List Ex} {c : Int} {i : Nat} (h : i < l.length) : chkEs fns k vs (l.take (i + 1)) c = chkE fns k vs l[i] (chkEs fns k vs (l.take i) c) := by
  rw [take_succ' h, chkEs_app]; rfl
theorem rnEs_take {vs : List LV} {l : List Ex} {i : Nat} (h : i < l.length) : rnEs vs (l.take (i + 1)) = rnEs vs (l.take i) ++ [rnE vs l[i]] := by
  rw [rnEs_map, rnEs_map, take_succ' h, List.map_append]; rfl
theorem rnEs_len (vs : List LV) (l : List Ex) : (rnEs vs l).length = l.length := by rw [rnEs_map, List.length_map]
theorem exR_len (l : List Ex) : (exR l).length = l.length := by simp [exR]
theorem exR_app (a b : List Ex) : exR (a ++ b) = exR a ++ exR b := by simp [exR]
theorem exR_view {h : List AO} {id : Nat} {l : List Ex} (e : h[id]? = some (.row 4 (exR l))) : View h (.sl id 4 0 l.length) (exL l) := by
  have := view_row (h := h) (id := id) (sz := 4) (n := l.length) (ls := l.map Ex.cs) (by rw [e, exR]; simp) (by simp) (fun x hx => by obtain ⟨b, _, rfl⟩ := List.mem_map.1 hx; exact b.cs_len)
  exact this
theorem fnAt_lt {fns : List Fd} {s : List UInt8} {j : Nat} (h : fnAt fns s = some j) : j < fns.length := by
  rw [fnAt, List.findIdx?_eq_some_iff_getElem] at h; exact h.1
theorem s_expr0 {fns : List Fd} {k : Nat} (hf : fns.length ≤ 1099511627776) : ∀ (N : Nat) (e : Ex), e.sz ≤ N → N ≤ 1099511627776 → ∀ (nf : Bool) (w : WS), (nf = true → w.vs = []) → w.vs.length ≤ 1099511627776 →
    AC Tryd.prog G n_spec_l4Walk_expr [.ptr 0 5 0 0, .agg (e.cs.map .p)] (HWk nf fns k w) fun x h => x = .ret (.agg ((rnE w.vs e).cs.map .p)) ∧ h = HWk nf fns k ⟨w.vs, w.count, chkE fns k w.vs e w.code⟩ := by
  intro N
  induction N with
  | zero => intro e he; have := e.sz_eq; omega
  | succ N ih =>
    intro e he hN nf w hn hl
    have hec := e.cs_eq
    have hsz := e.sz_eq
    have hkl := exsZ_len e.kids
    have hre : (rnE w.vs e).cs = [.int .i64 e.op, .int .i64 e.n, .str (if e.op = 2 then useN w.vs e.name else e.name), exL (rnEs w.vs e.kids)] := by
      obtain ⟨o, n, s, ks⟩ := e; rw [rnE, Ex.cs_eq]; rfl
    have hce : chkE fns k w.vs e w.code = chkEs fns k w.vs e.kids (headC fns k w.vs e.op e.name e.kids.length w.code) := by
      obtain ⟨o, n, s, ks⟩ := e; rfl
    have main : AC Tryd.prog G n_spec_l4Walk_expr [.ptr 0 5 0 0, .agg (e.cs.map .p)] (HWk nf fns k w) fun x h => ∃ E1 E2, x = .ret (.agg [.p (.int .i64 e.op), .p (.int .i64 e.n), .p (.str (if e.op = 2 then useN w.vs e.name else e.name)), .sl 4 4 0 e.kids.length]) ∧
        h = [wO 1 nf fns k ⟨w.vs, w.count, chkE fns k w.vs e w.code⟩, roC nf w.vs, E1, E2, .row 4 (exR (rnEs w.vs e.kids))] := by
      refine AC.goK k_spec_l4Walk_expr w_spec_l4Walk_expr ?_
      simp -implicitDefEqProofs [K_spec_l4Walk_expr, F_spec_l4Walk_expr, HWk, hec]
      refine cut1 (tsOf 75 [(0, .ptr 0 5 0 0), (3, .ptr 2 4 0 0), (4, .ptr 3 4 0 0)]) [wO 1 nf fns k ⟨w.vs, w.count, if e.op = 2 then useC w.vs e.name w.code else w.code⟩, roC nf w.vs, .row 4 [[.p (.int .i64 e.op), .p (.int .i64 e.n), .p (.str (if e.op = 2 then useN w.vs e.name else e.name)), .p (exL e.kids)]], .row 4 [[.p (.int .i64 0), .p (.int .i64 0), .p (.str []), .nils]]] ?_ ?_
      · by_cases o2 : e.op = 2
        · simp -implicitDefEqProofs [o2]
          refine (w_pre G (s_use0 G nf fns k w hn hl e.name) _ (by simp [below])).mono ?_
          rintro r h ⟨rfl, rfl⟩
          simp -implicitDefEqProofs [callR_nxt]
          exact wkt_same (by simp) (oks_w (by simp) (by simp [okO, below])) (by simp [below])
        · simp -implicitDefEqProofs [o2]
          exact wkt_same (by simp) (oks_w (by simp) (by simp [okO, below])) (by simp [below])
      refine cut1 (tsOf 75 [(0, .ptr 0 5 0 0), (3, .ptr 2 4 0 0), (4, .ptr 3 4 0 0)]) [wO 1 nf fns k ⟨w.vs, w.count, headC fns k w.vs e.op e.name e.kids.length w.code⟩, roC nf w.vs, .row 4 [[.p (.int .i64 e.op), .p (.int .i64 e.n), .p (.str (if e.op = 2 then useN w.vs e.name else e.name)), .p (exL e.kids)]], .row 4 [[.p (.int .i64 0), .p (.int .i64 0), .p (.str []), .nils]]] ?_ ?_
      · by_cases o13 : e.op = 13
        · have hhd : headC fns k w.vs e.op e.name e.kids.length w.code = callC fns k e.name e.kids.length w.code := by simp [headC, o13]
          rw [hhd]
          simp -implicitDefEqProofs [o13, wO, wC]
          refine (s_FnAt G fns e.name hf).use ?_
          have fin : ∀ c : Int, Wk 2 (tsOf 75 [(0, .ptr 0 5 0 0), (3, .ptr 2 4 0 0), (4, .ptr 3 4 0 0)]) [wO 1 nf fns k ⟨w.vs, w.count, c⟩, roC nf w.vs, .row 4 [[.p (.int .i64 13), .p (.int .i64 e.n), .p (.str e.name), .p (exL e.kids)]], .row 4 [[.p (.int .i64 0), .p (.int .i64 0), .p (.str []), .nils]]] (tsOf 75 [(0, .ptr 0 5 0 0), (3, .ptr 2 4 0 0), (4, .ptr 3 4 0 0)]) [wO 1 nf fns k ⟨w.vs, w.count, c⟩, roC nf w.vs, .row 4 [[.p (.int .i64 13), .p (.int .i64 e.n), .p (.str e.name), .p (exL e.kids)]], .row 4 [[.p (.int .i64 0), .p (.int .i64 0), .p (.str []), .nils]]] := fun c =>
            wkt_same (by simp) (oks_w (by simp) (by simp [okO, below])) (by simp [below])
          cases hfa : fnAt fns e.name with
          | none =>
            simp -implicitDefEqProofs [ixI, callC, hfa]
            refine (w_pre G (s_fail0 G nf fns k w 4) _ (by simp [below])).mono ?_
            rintro r h ⟨rfl, rfl⟩
            simp -implicitDefEqProofs [callR_nxt]
            exact wkt_same (h := [wO 1 nf fns k ⟨w.vs, w.count, fl w.code 4⟩, roC nf w.vs, .row 4 [[.p (.int .i64 13), .p (.int .i64 e.n), .p (.str e.name), .p (exL e.kids)]], .row 4 [[.p (.int .i64 0), .p (.int .i64 0), .p (.str []), .nils]]]) (by simp) (oks_w (by simp) (by simp [okO, below])) (by simp [below])
          | some j =>
            have hj := fnAt_lt hfa
            have hg := List.getElem?_eq_getElem hj
            have hjn : ¬ (j : Int) < 0 := by omega
            by_cases hkj : k ≤ j
            · have hkj' : (k : Int) ≤ (j : Int) := by omega
              simp -implicitDefEqProofs [ixI, callC, hfa, hkj, hkj', hjn]
              refine (w_pre G (s_fail0 G nf fns k w 4) _ (by simp [below])).mono ?_
              rintro r h ⟨rfl, rfl⟩
              simp -implicitDefEqProofs [callR_nxt]
              exact wkt_same (h := [wO 1 nf fns k ⟨w.vs, w.count, fl w.code 4⟩, roC nf w.vs, .row 4 [[.p (.int .i64 13), .p (.int .i64 e.n), .p (.str e.name), .p (exL e.kids)]], .row 4 [[.p (.int .i64 0), .p (.int .i64 0), .p (.str []), .nils]]]) (by simp) (oks_w (by simp) (by simp [okO, below])) (by simp [below])
            · have hkj' : ¬ (k : Int) ≤ (j : Int) := by omega
              have hfl : fdL fns = .lst 3 (fns.map Fd.cs) := rfl
              have hcs : fns[j].cs = [.str fns[j].name, strL fns[j].params, smL fns[j].body] := rfl
              have hst : strL fns[j].params = .lst 1 (fns[j].params.map fun w => [.str w]) := rfl
              have hxl : ∀ l, exL l = .lst 4 (l.map Ex.cs) := fun _ => rfl
              have hpn : parN fns j = fns[j].params.length := by simp [parN, hg]
              by_cases hp : fns[j].params.length = e.kids.length
              · have hcc : callC fns k e.name e.kids.length w.code = w.code := by simp [callC, hfa, hkj, hpn, hp]
                rw [hcc]
                simp -implicitDefEqProofs [ixI, hkj', hjn, hfl, hg, hcs, hst, hxl, hp]
                exact wkt_same (h := [wO 1 nf fns k w, roC nf w.vs, .row 4 [[.p (.int .i64 13), .p (.int .i64 e.n), .p (.str e.name), .p (exL e.kids)]], .row 4 [[.p (.int .i64 0), .p (.int .i64 0), .p (.str []), .nils]]]) (by simp) (oks_w (by simp) (by simp [okO, below])) (by simp [below])
              · have hcc : callC fns k e.name e.kids.length w.code = fl w.code 5 := by simp [callC, hfa, hkj, hpn, hp]
                have hp' : ¬ (fns[j].params.length : Int) = (e.kids.length : Int) := by omega
                rw [hcc]
                simp -implicitDefEqProofs [ixI, hkj', hjn, hfl, hg, hcs, hst, hxl, hp']
                refine (w_pre G (s_fail0 G nf fns k w 5) _ (by simp [below])).mono ?_
                rintro r h ⟨rfl, rfl⟩
                simp -implicitDefEqProofs [callR_nxt]
                exact wkt_same (h := [wO 1 nf fns k ⟨w.vs, w.count, fl w.code 5⟩, roC nf w.vs, .row 4 [[.p (.int .i64 13), .p (.int .i64 e.n), .p (.str e.name), .p (exL e.kids)]], .row 4 [[.p (.int .i64 0), .p (.int .i64 0), .p (.str []), .nils]]]) (by simp) (oks_w (by simp) (by simp [okO, below])) (by simp [below])
        · have hhd : headC fns k w.vs e.op e.name e.kids.length w.code = if e.op = 2 then useC w.vs e.name w.code else w.code := by simp [headC, o13]
          rw [hhd]
          simp -implicitDefEqProofs [o13]
          exact wkt_same (by simp) (oks_w (by simp) (by simp [okO, below])) (by simp [below])
      rw [hce]
      generalize headC fns k w.vs e.op e.name e.kids.length w.code = c2
      generalize (if e.op = 2 then useN w.vs e.name else e.name) = s1
      have hxl : exL e.kids = .lst 4 (e.kids.map Ex.cs) := rfl
      simp -implicitDefEqProofs []
      refine loopA (fun i : Nat => tsOf 75 [(0, .ptr 0 5 0 0), (3, .ptr 2 4 0 0), (4, .ptr 3 4 0 0), (6, .sl 4 4 0 i), (7, .p (.int .i64 i))])
        (fun i => [wO 1 nf fns k ⟨w.vs, w.count, chkEs fns k w.vs (e.kids.take i) c2⟩, roC nf w.vs, .row 4 [[.p (.int .i64 e.op), .p (.int .i64 e.n), .p (.str s1), .p (exL e.kids)]], .row 4 [[.p (.int .i64 0), .p (.int .i64 0), .p (.str []), .nils]], .row 4 (exR (rnEs w.vs (e.kids.take i)))])
        (fun i => i ≤ e.kids.length) (fun i => e.kids.length - i) 0 (by simp) ?_ ?_
      · exact wkt_same (by simp) (oks_w (by simp) (by simp [okO, below])) (by simp [below])
      · intro i hi
        have hrl : (exR (rnEs w.vs (e.kids.take i))).length = i := by rw [exR_len, rnEs_len]; simp; omega
        simp -implicitDefEqProofs [hxl]
        refine cndb (fun h => ?_) (fun h => ?_)
        · simp at h
          have hg := List.getElem?_eq_getElem h
          have hks := exsZ_mem (List.getElem_mem h)
          have hkc := (rnE w.vs e.kids[i]).cs_eq
          simp -implicitDefEqProofs [hg]
          refine (w_pre G (ih e.kids[i] (by omega) (by omega) nf ⟨w.vs, w.count, chkEs fns k w.vs (e.kids.take i) c2⟩ hn hl) _ (by simp [below])).mono ?_
          rintro r h ⟨rfl, rfl⟩
          rw [show (rnE (WS.mk w.vs w.count (chkEs fns k w.vs (e.kids.take i) c2)).vs e.kids[i]) = rnE w.vs e.kids[i] from rfl]
          simp -implicitDefEqProofs [callR_nxt, hkc, hrl]
          refine ⟨by omega, ?_⟩
          refine ⟨i + 1, by omega, by omega, ?_⟩
          have htk : List.take i (exR (rnEs w.vs (e.kids.take i))) = exR (rnEs w.vs (e.kids.take i)) := List.take_of_length_le (by omega)
          rw [chkEs_take h, rnEs_take h, exR_app, htk]
          refine wkt_ren [0, 1, 2, 3, 6] (by simp) (by decide) (by decide) (hw_wO (by simp) rfl (hw_ok rfl (roC_ok _ _ _) (hw_row rfl (by simp [below]) (hw_row rfl (by simp [below]) (hw_row ?_ ?_ hw_nil))))) (by simp [below, ren, w1 (i := i) (by omega)])
          · have : exR [rnE w.vs e.kids[i]] = [[.p (.int .i64 (rnE w.vs e.kids[i]).op), .p (.int .i64 (rnE w.vs e.kids[i]).n), .p (.str (rnE w.vs e.kids[i]).name), .p (exL (rnE w.vs e.kids[i]).kids)]] := by rw [exR, List.map_singleton, hkc]; rfl
            rw [this]; rfl
          · intro x hx
            rcases List.mem_append.1 hx with h | h
            · exact exR_pure _ x h
            · exact exR_pure _ x h
        · simp at h
          have hie : i = e.kids.length := by omega
          subst hie
          simp -implicitDefEqProofs []
    refine main.frz 2 (by simp [HWk]) (fun t v h ⟨_, _, e, _⟩ => by cases e) ?_
    rintro v h ⟨E1, E2, e, rfl⟩
    cases e
    refine ⟨_, HWk nf fns k ⟨w.vs, w.count, chkE fns k w.vs e w.code⟩, by simp, rfl, .agg ?_ .nil, .same (wO_ok (by omega)) (.same (roC_ok _ _ _) (.nil _)), rfl, rfl⟩
    rw [hre]
    have hrl := rnEs_len w.vs e.kids
    rw [← hrl]
    exact .keep (by simp) (.keep (by simp) (.keep (by simp) (.one (exR_view rfl) .nil)))
end Go.Proofs.YtiojgfhdcpppcaaDoor
namespace Go.Proofs.YtiojgfhdcpppcaaDoor
open Go Go.Aw
set_option maxRecDepth 100000
set_option maxHeartbeats 4000000
def K_spec_l4Walk_stmts : AK := .seq (.reg [⟨(some 6), none, .mov (.c .nils)⟩]) (.seq (.reg [⟨(some 13), none, .bsl 5 [(.p (.int .i64 0)), (.p (.str [])), .nils, .nils, .nils] 0 []⟩, ⟨(some 7), none, .mov (.t 13)⟩]) (.seq (.reg [⟨(some 14), none, .mov (.t 0)⟩, ⟨(some 15), none, .nilck (.t 14)⟩, ⟨(some 16), none, .fldA 2 (.t 15)⟩, ⟨(some 17), none, .ld none (.t 16)⟩, ⟨(some 18), none, .len false (.t 17)⟩, ⟨(some 8), none, .mov (.t 18)⟩]) (.seq (.seq (.reg [⟨(some 9), none, .mov (.c (.p (.int .i64 0)))⟩]) (.blk 0 (.loop (.seq (.seq (.reg [⟨(some 19), none, .mov (.t 9)⟩, ⟨(some 20), none, .mov (.t 1)⟩, ⟨(some 21), none, .len false (.t 20)⟩, ⟨(some 22), none, .bin .lss (.t 19) (.t 21)⟩]) (.cond (.t 22) (.skip) (.exit 0))) (.seq (.blk 1 (.seq (.reg [⟨(some 25), none, .mov (.t 1)⟩, ⟨(some 26), none, .mov (.t 9)⟩, ⟨(some 27), none, .idxS 5 (.t 25) (.t 26)⟩, ⟨(some 28), none, .ld (some 5) (.t 27)⟩, ⟨(some 10), none, .alloc [(.p (.int .i64 0)), (.p (.str [])), .nils, .nils, .nils]⟩, ⟨none, none, .st 5 (.t 10) (.t 28)⟩]) (.seq (.reg [⟨(some 29), none, .bsl 4 [(.p (.int .i64 0)), (.p (.int .i64 0)), (.p (.str [])), .nils] 0 []⟩, ⟨(some 11), none, .mov (.t 29)⟩]) (.seq (.seq (.reg [⟨(some 12), none, .mov (.c (.p (.int .i64 0)))⟩]) (.blk 2 (.loop (.seq (.seq (.reg [⟨(some 30), none, .mov (.t 12)⟩, ⟨(some 31), none, .fldA 2 (.t 10)⟩, ⟨(some 32), none, .ld none (.t 31)⟩, ⟨(some 33), none, .len false (.t 32)⟩, ⟨(some 34), none, .bin .lss (.t 30) (.t 33)⟩]) (.cond (.t 34) (.skip) (.exit 2))) (.seq (.blk 3 (.reg [⟨(some 37), none, .mov (.t 11)⟩, ⟨(some 38), none, .mov (.t 0)⟩, ⟨(some 39), none, .fldA 2 (.t 10)⟩, ⟨(some 40), none, .ld none (.t 39)⟩, ⟨(some 41), none, .mov (.t 12)⟩, ⟨(some 42), none, .idxS 4 (.t 40) (.t 41)⟩, ⟨(some 43), none, .ld (some 4) (.t 42)⟩, ⟨(some 44), none, .call n_spec_l4Walk_expr [(.t 38), (.t 43)]⟩, ⟨(some 45), none, .bsl 4 [(.p (.int .i64 0)), (.p (.int .i64 0)), (.p (.str [])), .nils] 1 [(0, 4, (.t 44))]⟩, ⟨(some 46), none, .app 4 56 (.t 37) (.t 45)⟩, ⟨(some 11), none, .mov (.t 46)⟩])) (.reg [⟨(some 35), none, .mov (.t 12)⟩, ⟨(some 36), none, .bin .add (.t 35) (.c (.p (.int .i64 1)))⟩, ⟨(some 12), none, .mov (.t 36)⟩])))))) (.cut (.reg [⟨(some 47), none, .mov (.t 11)⟩, ⟨(some 48), none, .fldA 2 (.t 10)⟩, ⟨none, none, .st 1 (.t 48) (.t 47)⟩]) (.cut (.seq (.reg [⟨(some 49), none, .fldA 0 (.t 10)⟩, ⟨(some 50), none, .ld none (.t 49)⟩, ⟨(some 51), none, .bin .eql (.t 50) (.c (.p (.int .i64 1)))⟩]) (.cond (.t 51) (.reg [⟨(some 52), none, .mov (.t 0)⟩, ⟨(some 53), none, .fldA 1 (.t 10)⟩, ⟨(some 54), none, .ld none (.t 53)⟩, ⟨(some 55), none, .mov (.t 2)⟩, ⟨(some 56), none, .call n_spec_l4Walk_put [(.t 52), (.t 54), (.t 55)]⟩, ⟨(some 57), none, .fldA 1 (.t 10)⟩, ⟨none, none, .st 1 (.t 57) (.t 56)⟩]) (.skip))) (.cut (.seq (.reg [⟨(some 58), none, .fldA 0 (.t 10)⟩, ⟨(some 59), none, .ld none (.t 58)⟩, ⟨(some 60), none, .bin .eql (.t 59) (.c (.p (.int .i64 2)))⟩]) (.cond (.t 60) (.reg [⟨(some 61), none, .mov (.t 0)⟩, ⟨(some 62), none, .fldA 1 (.t 10)⟩, ⟨(some 63), none, .ld none (.t 62)⟩, ⟨(some 64), none, .call n_spec_l4Walk_use [(.t 61), (.t 63)]⟩, ⟨(some 65), none, .fldA 1 (.t 10)⟩, ⟨none, none, .st 1 (.t 65) (.t 64)⟩]) (.skip))) (.seq (.reg [⟨(some 66), none, .mov (.t 0)⟩, ⟨(some 67), none, .fldA 3 (.t 10)⟩, ⟨(some 68), none, .ld none (.t 67)⟩, ⟨(some 69), none, .mov (.t 2)⟩, ⟨(some 70), none, .bin .add (.t 69) (.c (.p (.int .i64 1)))⟩, ⟨(some 71), none, .call n_spec_l4Walk_stmts [(.t 66), (.t 68), (.t 70)]⟩, ⟨(some 72), none, .fldA 3 (.t 10)⟩, ⟨none, none, .st 1 (.t 72) (.t 71)⟩]) (.seq (.reg [⟨(some 73), none, .mov (.t 0)⟩, ⟨(some 74), none, .fldA 4 (.t 10)⟩, ⟨(some 75), none, .ld none (.t 74)⟩, ⟨(some 76), none, .mov (.t 2)⟩, ⟨(some 77), none, .bin .add (.t 76) (.c (.p (.int .i64 1)))⟩, ⟨(some 78), none, .call n_spec_l4Walk_stmts [(.t 73), (.t 75), (.t 77)]⟩, ⟨(some 79), none, .fldA 4 (.t 10)⟩, ⟨none, none, .st 1 (.t 79) (.t 78)⟩]) (.reg [⟨(some 80), none, .mov (.t 7)⟩, ⟨(some 81), none, .ld (some 5) (.t 10)⟩, ⟨(some 82), none, .bsl 5 [(.p (.int .i64 0)), (.p (.str [])), .nils, .nils, .nils] 1 [(0, 5, (.t 81))]⟩, ⟨(some 83), none, .app 5 96 (.t 80) (.t 82)⟩, ⟨(some 7), none, .mov (.t 83)⟩])))))))))) (.reg [⟨(some 23), none, .mov (.t 9)⟩, ⟨(some 24), none, .bin .add (.t 23) (.c (.p (.int .i64 1)))⟩, ⟨(some 9), none, .mov (.t 24)⟩])))))) (.cut (.seq (.reg [⟨(some 84), none, .mov (.t 2)⟩, ⟨(some 85), none, .bin .gtr (.t 84) (.c (.p (.int .i64 0)))⟩]) (.cond (.t 85) (.reg [⟨(some 86), none, .mov (.t 0)⟩, ⟨(some 87), none, .mov (.t 0)⟩, ⟨(some 88), none, .nilck (.t 87)⟩, ⟨(some 89), none, .fldA 2 (.t 88)⟩, ⟨(some 90), none, .ld none (.t 89)⟩, ⟨(some 91), none, .mov (.t 8)⟩, ⟨(some 92), none, .slS 3 (.t 90) none (some (.t 91))⟩, ⟨(some 93), none, .nilck (.t 86)⟩, ⟨(some 94), none, .fldA 2 (.t 93)⟩, ⟨none, none, .st 1 (.t 94) (.t 92)⟩]) (.skip))) (.seq (.reg [⟨(some 95), none, .mov (.t 7)⟩, ⟨(some 6), none, .mov (.t 95)⟩]) (.ret))))))
theorem w_spec_l4Walk_stmts : K_spec_l4Walk_stmts.whole = F_spec_l4Walk_stmts.ak := rfl
theorem stsW_app (fns : List Fd) (k b : Nat) : ∀ (x y : List Sm) (w : WS), stsW fns k b (x ++ y) w = stsW fns k b y (stsW fns k b x w)
  | [], y, w => rfl
  | s :: r, y, w => by rw [List.cons_append, stsW, stsW, stsW_app fns k b r]
theorem rnSs_app (fns : List Fd) (k b : Nat) : ∀ (x y : List Sm) (w : WS), rnSs fns k b (x ++ y) w = rnSs fns k b x w ++ rnSs fns k b y (stsW fns k b x w)
  | [], y, w => rfl
  | s :: r, y, w => by rw [List.cons_append, rnSs, rnSs, rnSs_app fns k b r]; rfl
theorem stsW_take {fns : List Fd} {k b : Nat} {l : List Sm} {w : WS} {i : Nat} (h : i < l.length) : stsW fns k b (l.take (i + 1)) w = stW fns k b l[i] (stsW fns k b (l.take i) w) := by
  rw [take_succ' h, stsW_app]; rfl
theorem rnSs_take {fns : List Fd} {k b : Nat} {l : List Sm} {w : WS} {i : Nat} (h : i < l.length) : rnSs fns k b (l.take (i + 1)) w = rnSs fns k b (l.take i) w ++ [rnS fns k b l[i] (stsW fns k b (l.take i) w)] := by
  rw [take_succ' h, rnSs_app]; rfl
theorem rnSs_len (fns : List Fd) (k b : Nat) : ∀ (l : List Sm) (w : WS), (rnSs fns k b l w).length = l.length
  | [], w => rfl
  | s :: r, w => by rw [rnSs, List.length_cons, rnSs_len fns k b r, List.length_cons]
theorem smsZ_at {l : List Sm} {i : Nat} (h : i < l.length) : smsZ (l.take i) + l[i].sz ≤ smsZ l := by
  have e : l = l.take i ++ l[i] :: l.drop (i + 1) := by rw [← List.drop_eq_getElem_cons h, List.take_append_drop]
  have h2 : smsZ l = smsZ (l.take i) + (l[i].sz + smsZ (l.drop (i + 1))) := by
    conv => lhs; rw [e]
    rw [smsZ_append]; rfl
  omega
def blkW (fns : List Fd) (k b : Nat) (l : List Sm) (w : WS) : WS := if 0 < b then (stsW fns k b l w).back w.vs else stsW fns k b l w
theorem blkW_count (fns : List Fd) (k b : Nat) (l : List Sm) (w : WS) : (blkW fns k b l w).count = w.count + letSs l := by
  unfold blkW
  split
  · exact stsW_count fns k l b w
  · exact stsW_count fns k l b w
theorem lvR_take {e vs : List LV} : (lvR (e ++ vs)).take vs.length = lvR vs := by
  have h : lvR (e ++ vs) = lvR vs ++ lvR e := by simp [lvR]
  rw [h, List.take_append_of_le_length (by rw [lvR_len]; exact Nat.le_refl _), List.take_of_length_le (by rw [lvR_len]; exact Nat.le_refl _)]
theorem letSs_leZ (l : List Sm) : letSs l ≤ smsZ l := Nat.le_trans (letSs_le l) (smsN_le l)
theorem vaC_isCell (nf : Bool) (id n : Nat) : (vaC nf id n).isCell = true := by cases nf <;> rfl
theorem vaC_cells (nf : Bool) (id n : Nat) : (vaC nf id n).cells = [vaC nf id n] := by cases nf <;> rfl
attribute [simp ↓] vaC_isCell vaC_cells
variable (G : Glob)
def StP (fns : List Fd) (k b : Nat) (l : List Sm) (w : WS) (x : ARes) (h : List AO) : Prop := ∃ nf' w', x = .ret (.p (smL (rnSs fns k b l w))) ∧ h = [wO 2 nf' fns k w', .dead, roC nf' w'.vs] ∧ (nf' = true → w'.vs = []) ∧ w' = blkW fns k b l w
structure StS where (i : Nat) (nf : Bool)
theorem s_stmts0 {fns : List Fd} {k : Nat} (hf : fns.length ≤ 1099511627776) : ∀ (N : Nat) (l : List Sm), smsZ l < N → ∀ (b : Nat) (nf : Bool) (w : WS), (nf = true → w.vs = []) → w.vs.length ≤ w.count → w.count + smsZ l ≤ 1099511627776 → b + smsZ l ≤ 1099511627776 →
    AC Tryd.prog G n_spec_l4Walk_stmts [.ptr 0 5 0 0, .p (smL l), .p (.int .i64 b)] (HWk nf fns k w) (StP fns k b l w) := by
  intro N
  induction N with
  | zero =>
    intro l hl b nf w hn hv hc hb
    omega
  | succ N ih =>
    intro l hl b nf w hn hv hc hb
    have hll := smsZ_len l
    refine AC.goK k_spec_l4Walk_stmts w_spec_l4Walk_stmts ?_
    have hsl : ∀ l, smL l = .lst 5 (l.map Sm.cs) := fun _ => rfl
    have hlen0 : lenV (vaC nf 1 w.vs.length) = some (.p (.int .i64 w.vs.length)) := by
      cases nf
      · rfl
      · simp [vaC, hn rfl]
    simp -implicitDefEqProofs [K_spec_l4Walk_stmts, F_spec_l4Walk_stmts, HWk, wO, wC, hlen0]
    refine loopA (fun s : StS => tsOf 96 [(0, .ptr 0 5 0 0), (1, .p (smL l)), (2, .p (.int .i64 b)), (7, .sl 2 5 0 s.i), (8, .p (.int .i64 w.vs.length)), (9, .p (.int .i64 s.i))])
      (fun s => [wO 3 s.nf fns k (stsW fns k b (l.take s.i) w), .dead, .row 5 (smR (rnSs fns k b (l.take s.i) w)), roC s.nf (stsW fns k b (l.take s.i) w).vs])
      (fun s => s.i ≤ l.length ∧ (s.nf = true → (stsW fns k b (l.take s.i) w).vs = [])) (fun s => l.length - s.i) ⟨0, nf⟩ ⟨by simp, hn⟩ ?_ ?_
    · refine wkt_dup [0, 1, 2, 1] (by simp) (by decide) ?_ (hw_wO (by simp) rfl (hw_dead (by simp) (hw_row rfl (by simp [smR, rnSs]) (hw_ok rfl (roC_ok _ _ _) hw_nil)))) (by simp [below, ren])
      cases nf <;> simp [lives, roC, wO, stsW]
    · rintro ⟨i, nf⟩ ⟨hi, hn⟩
      simp only at hi hn
      simp -implicitDefEqProofs [hsl]
      refine cndb (fun h => ?_) (fun h => ?_)
      · simp at h
        have hg := List.getElem?_eq_getElem h
        have hat := smsZ_at h
        have hse := l[i].cs_eq
        have hsz := l[i].sz_eq
        have hle := stsW_le fns k (l := l.take i) (b := b) hv
        have hcn := stsW_count fns k (l.take i) b w
        have hlz := letSs_leZ (l.take i)
        have eW := stsW_take (fns := fns) (k := k) (b := b) (w := w) h
        have eR := rnSs_take (fns := fns) (k := k) (b := b) (w := w) h
        have hol := rnSs_len fns k b (l.take i) w
        rw [List.length_take, Nat.min_eq_left hi] at hol
        generalize l[i] = s at hg hat hse hsz eW eR
        generalize stsW fns k b (l.take i) w = wi at hn hle hcn eW eR ⊢
        generalize rnSs fns k b (l.take i) w = out at hol eR ⊢
        obtain ⟨o, nme, a, bd, el⟩ := s
        simp only [Sm.op, Sm.name, Sm.args, Sm.body, Sm.els] at hse hsz
        simp -implicitDefEqProofs [hg, hse]
        have hxl : ∀ l, exL l = .lst 4 (l.map Ex.cs) := fun _ => rfl
        have hal := exsZ_len a
        have hlE := letSs_leZ bd
        have hwl : wi.vs.length ≤ 1099511627776 := by omega
        have hopR : ∀ (x y z u v : AV), belowL 0 [x, y, z, u, v] → okO 5 (AO.row 5 [[x, y, z, u, v]]) := fun x y z u v hh => okO_up (fun e he => by rw [List.mem_singleton.1 he]; exact hh)
        refine loopA (fun j : Nat => tsOf 96 [(0, .ptr 0 5 0 0), (1, .p (smL l)), (2, .p (.int .i64 b)), (7, .sl 2 5 0 i), (8, .p (.int .i64 w.vs.length)), (9, .p (.int .i64 i)), (10, .ptr 4 5 0 0), (11, .sl 5 4 0 j), (12, .p (.int .i64 j))])
          (fun j => [wO 3 nf fns k ⟨wi.vs, wi.count, chkEs fns k wi.vs (a.take j) wi.code⟩, .dead, .row 5 (smR out), roC nf wi.vs, .row 5 [[.p (.int .i64 o), .p (.str nme), .p (exL a), .p (smL bd), .p (smL el)]], .row 4 (exR (rnEs wi.vs (a.take j)))])
          (fun j => j ≤ a.length) (fun j => a.length - j) 0 (by simp) ?_ ?_
        · refine wkt_same (h := [wO 3 nf fns k wi, .dead, .row 5 (smR out), roC nf wi.vs, .row 5 [[.p (.int .i64 o), .p (.str nme), .p (exL a), .p (smL bd), .p (smL el)]], .row 4 []]) (by simp) (oks_cons (wO_ok (by simp)) (oks_cons trivial (oks_cons (okO_up (smR_pure out)) (oks_cons (roC_ok _ _ _) (by simp [okO, below]))))) (by simp [below, hsl])
        intro j hj
        have hrl : (exR (rnEs wi.vs (a.take j))).length = j := by rw [exR_len, rnEs_len]; simp; omega
        simp -implicitDefEqProofs [hxl]
        refine cndb (fun hc => ?_) (fun hc => ?_)
        · simp at hc
          have hga := List.getElem?_eq_getElem hc
          have hks := exsZ_mem (List.getElem_mem hc)
          have hkc := (rnE wi.vs a[j]).cs_eq
          simp -implicitDefEqProofs [hga]
          refine (w_at G (id := 3) (s_expr0 G hf (a[j].sz) a[j] (Nat.le_refl _) (by omega) nf ⟨wi.vs, wi.count, chkEs fns k wi.vs (a.take j) wi.code⟩ hn hwl) (by simp) (by simp [below]) (by decide) rfl rfl).mono ?_
          rintro r h' ⟨rfl, rfl⟩
          rw [show (rnE (WS.mk wi.vs wi.count (chkEs fns k wi.vs (a.take j) wi.code)).vs a[j]) = rnE wi.vs a[j] from rfl]
          simp -implicitDefEqProofs [callR_nxt, hkc, hrl]
          refine ⟨by omega, j + 1, by omega, by omega, ?_⟩
          have htk : List.take j (exR (rnEs wi.vs (a.take j))) = exR (rnEs wi.vs (a.take j)) := List.take_of_length_le (by omega)
          rw [chkEs_take hc, rnEs_take hc, exR_app, htk]
          refine wkt_ren [0, 1, 2, 3, 4, 7] (by simp) (by decide) (by decide) (hw_wO (by simp) rfl (hw_dead (by simp) (hw_row rfl (smR_pure out) (hw_ok rfl (roC_ok _ _ _) (hw_row rfl (by simp [below]) (hw_row ?_ ?_ hw_nil)))))) (by simp [below, ren, hsl, w1 (i := j) (by omega)])
          · have : exR [rnE wi.vs a[j]] = [[.p (.int .i64 (rnE wi.vs a[j]).op), .p (.int .i64 (rnE wi.vs a[j]).n), .p (.str (rnE wi.vs a[j]).name), .p (exL (rnE wi.vs a[j]).kids)]] := by rw [exR, List.map_singleton, hkc]; rfl
            rw [this]; rfl
          · intro x hx
            rcases List.mem_append.1 hx with h | h
            · exact exR_pure _ x h
            · exact exR_pure _ x h
        simp at hc
        have hje : j = a.length := by omega
        subst hje
        rw [List.take_length] at hrl ⊢
        have hal2 := rnEs_len wi.vs a
        simp -implicitDefEqProofs []
        generalize hw1 : WS.mk wi.vs wi.count (chkEs fns k wi.vs a wi.code) = w1
        have e1v : w1.vs = wi.vs := by rw [← hw1]
        have e1c : w1.count = wi.count := by rw [← hw1]
        have e1l : w1.vs.length = wi.vs.length := by rw [e1v]
        rw [← e1v]
        refine cut1 (tsOf 96 [(0, .ptr 0 5 0 0), (1, .p (smL l)), (2, .p (.int .i64 b)), (7, .sl 2 5 0 i), (8, .p (.int .i64 w.vs.length)), (9, .p (.int .i64 i)), (10, .ptr 4 5 0 0)])
          [wO 3 nf fns k w1, .dead, .row 5 (smR out), roC nf w1.vs, .row 5 [[.p (.int .i64 o), .p (.str nme), .p (exL (rnEs w1.vs a)), .p (smL bd), .p (smL el)]]] ?_ ?_
        · simp -implicitDefEqProofs []
          refine wkt_frz 5 (by omega) (by simp) rfl (.same (wO_ok (by omega)) (.dead (.same (okO_up (smR_pure out)) (.same (roC_ok _ _ _) (.one (.keep (by simp [below]) (.keep (by simp [below]) (.one ?_ (.keep (by simp [below]) (.keep (by simp [below]) .nil))))) (.nil _)))))) ?_
          · rw [← e1v] at hal2
            rw [← hal2]
            exact exR_view rfl
          · refine ⟨.keep (by simp [below]) .nil, .keep (by simp [below]) .nil, .keep (by simp [below]) .nil, .keep (by simp [below]) .nil, .keep (by simp [below]) .nil, .keep (by simp [below]) .nil, .keep (by simp [below]) .nil, trivial⟩
        have TT : ∀ (r1 : List (Nat × AV)), Aw.look r1 0 = .ptr 0 5 0 0 → Aw.look r1 1 = .p (smL l) → Aw.look r1 2 = .p (.int .i64 b) → Aw.look r1 7 = .sl 2 5 0 i → Aw.look r1 8 = .p (.int .i64 w.vs.length) → Aw.look r1 9 = .p (.int .i64 i) → Aw.look r1 10 = .ptr 4 5 0 0 → ∀ ρ : List Nat, ρ.length = 5 → ρ.getD 0 0 = 0 → ρ.getD 2 0 = 2 → ρ.getD 4 0 = 4 →
            TWA ρ r1 [(0, .ptr 0 5 0 0), (1, .p (smL l)), (2, .p (.int .i64 b)), (7, .sl 2 5 0 i), (8, .p (.int .i64 w.vs.length)), (9, .p (.int .i64 i)), (10, .ptr 4 5 0 0)] := by
          intro r1 a0 a1 a2 a7 a8 a9 a10 ρ hr r0 r2 r4
          simp [below, ren, hr, a0, a1, a2, a7, a8, a9, a10]
          rw [List.getD_eq_getElem?_getD, List.getElem?_eq_getElem (by omega)] at r0 r2 r4
          exact ⟨r0, r2, r4⟩
        have hn1 : nf = true → w1.vs = [] := fun h => by rw [e1v]; exact hn h
        have okB : ∀ (nf : Bool) (w : WS) (r : AO), okO 0 r → ∀ x ∈ [wO 3 nf fns k w, .dead, .row 5 (smR out), roC nf w.vs, r], okO 5 x := fun nf w r hr =>
          oks_cons (wO_ok (by omega)) (oks_cons trivial (oks_cons (okO_up (smR_pure out)) (oks_cons (roC_ok _ _ _) (oks_cons (okO_up hr) oks_nil))))
        refine cut1 (tsOf 96 [(0, .ptr 0 5 0 0), (1, .p (smL l)), (2, .p (.int .i64 b)), (7, .sl 2 5 0 i), (8, .p (.int .i64 w.vs.length)), (9, .p (.int .i64 i)), (10, .ptr 4 5 0 0)])
          [wO 3 (if o = 1 then false else nf) fns k (if o = 1 then putW w1 nme b else w1), .dead, .row 5 (smR out), roC (if o = 1 then false else nf) (if o = 1 then putW w1 nme b else w1).vs, .row 5 [[.p (.int .i64 o), .p (.str (if o = 1 then vnm w1.count else nme)), .p (exL (rnEs w1.vs a)), .p (smL bd), .p (smL el)]]] ?_ ?_
        · by_cases o1 : o = 1
          · simp -implicitDefEqProofs [o1]
            refine (w_mv G (id := 3) (Q := fun nf' w' => nf' = false ∧ w' = putW w1 nme b) ((s_put0 G nf fns k w1 hn1 (by omega) (by omega) nme b).mono (by rintro x h ⟨rfl, rfl⟩; exact ⟨false, _, rfl, rfl, rfl, rfl⟩)) (by simp) (by simp [below]) (by decide) rfl rfl).mono ?_
            rintro r h' ⟨nf', w', rfl, rfl, rfl, rfl⟩
            simp -implicitDefEqProofs [callR_nxt]
            refine wkt_ren [0, 1, 2, 5, 4] (by simp) (by decide) (by decide) (hw_wO (by simp) rfl (hw_dead (by simp) (hw_row rfl (smR_pure out) (hw_ok rfl (roC_ok _ _ _) (hw_row rfl (by simp [below]) hw_nil))))) (TT _ (by simp) (by simp) (by simp) (by simp) (by simp) (by simp) (by simp) _ rfl rfl rfl rfl)
          · simp -implicitDefEqProofs [o1]
            refine wkt_same (by simp) (okB nf w1 _ (by simp [okO, below])) (by simp [below])
        generalize hw2 : (if o = 1 then putW w1 nme b else w1) = w2
        generalize hnf2 : (if o = 1 then false else nf) = nf2
        generalize hnm2 : (if o = 1 then vnm w1.count else nme) = nm2
        have hn2 : nf2 = true → w2.vs = [] := by
          intro h
          by_cases o1 : o = 1
          · rw [if_pos o1] at hnf2; rw [← hnf2] at h; cases h
          · rw [if_neg o1] at hnf2 hw2; rw [← hw2]; exact hn1 (by rw [hnf2]; exact h)
        have h2c : w2.count = w1.count + if o = 1 then 1 else 0 := by rw [← hw2]; split <;> rfl
        have h2v : w2.vs.length ≤ w2.count := by
          rw [← hw2]; split
          · simp [putW]; omega
          · omega
        have h2b : w2.count ≤ wi.count + 1 := by rw [h2c, e1c]; split <;> omega
        refine cut1 (tsOf 96 [(0, .ptr 0 5 0 0), (1, .p (smL l)), (2, .p (.int .i64 b)), (7, .sl 2 5 0 i), (8, .p (.int .i64 w.vs.length)), (9, .p (.int .i64 i)), (10, .ptr 4 5 0 0)])
          [wO 3 nf2 fns k (opW o nme b w1), .dead, .row 5 (smR out), roC nf2 (opW o nme b w1).vs, .row 5 [[.p (.int .i64 o), .p (.str (opN o nme w1)), .p (exL (rnEs w1.vs a)), .p (smL bd), .p (smL el)]]] ?_ ?_
        · by_cases o2 : o = 2
          · have o1 : ¬ o = 1 := by omega
            rw [if_neg o1] at hw2 hnm2
            subst hw2; subst hnm2
            have eo : opW o nme b w1 = ⟨w1.vs, w1.count, useC w1.vs nme w1.code⟩ := by rw [opW, if_neg o1, if_pos o2]
            have en : opN o nme w1 = useN w1.vs nme := by rw [opN, if_neg o1, if_pos o2]
            rw [eo, en]
            simp -implicitDefEqProofs [o2]
            refine (w_at G (id := 3) (s_use0 G nf2 fns k w1 hn2 (by omega) nme) (by simp) (by simp [below]) (by decide) rfl rfl).mono ?_
            rintro r h' ⟨rfl, rfl⟩
            simp -implicitDefEqProofs [callR_nxt]
            refine wkt_same (h := [wO 3 nf2 fns k ⟨w1.vs, w1.count, useC w1.vs nme w1.code⟩, .dead, .row 5 (smR out), roC nf2 w1.vs, _]) (by simp) (okB nf2 ⟨w1.vs, w1.count, useC w1.vs nme w1.code⟩ _ (by simp [okO, below])) (by simp [below])
          · have eo : opW o nme b w1 = w2 := by rw [opW, if_neg o2, ← hw2]
            have en : opN o nme w1 = nm2 := by rw [opN, if_neg o2, ← hnm2]
            rw [eo, en]
            simp -implicitDefEqProofs [o2]
            refine wkt_same (by simp) (okB nf2 w2 _ (by simp [okO, below])) (by simp [below])
        have eov : (opW o nme b w1).vs = w2.vs := by
          rw [opW, ← hw2]; split
          · rfl
          · split <;> rfl
        have eoc : (opW o nme b w1).count = w2.count := by rw [opW_count, h2c]
        have hwb : IntKind.i64.wrap ((b : Int) + 1) = ((b + 1 : Nat) : Int) := by rw [i64_small (by omega) (by omega)]; omega
        have hstw : stW fns k b (.mk o nme a bd el) wi = blkW fns k (b + 1) el (blkW fns k (b + 1) bd (opW o nme b w1)) := by
          rw [stW]
          simp only [hw1, blkW, Nat.succ_pos, if_true]
          rfl
        have hrns : (rnS fns k b (.mk o nme a bd el) wi).cs = [.int .i64 o, .str (opN o nme w1), exL (rnEs w1.vs a), smL (rnSs fns k (b + 1) bd (opW o nme b w1)), smL (rnSs fns k (b + 1) el (blkW fns k (b + 1) bd (opW o nme b w1)))] := by
          rw [rnS, Sm.cs_eq]
          simp only [hw1, blkW, Nat.succ_pos, if_true, Sm.op, Sm.name, Sm.args, Sm.body, Sm.els, e1v]
          have : opN o nme wi = opN o nme w1 := by simp only [opN, e1v, e1c]
          rw [this]
        rw [hstw] at eW
        clear hstw
        generalize opW o nme b w1 = w3 at eov eoc hrns eW ⊢
        have hn3 : nf2 = true → w3.vs = [] := fun h => by rw [eov]; exact hn2 h
        have h3v : w3.vs.length ≤ w3.count := by rw [eov, eoc]; exact h2v
        simp -implicitDefEqProofs [hwb]
        refine (w_mv G (id := 3) (ih bd (by omega) (b + 1) nf2 w3 hn3 h3v (by omega) (by omega)) (by simp) (by simp [below]) (by decide) rfl rfl).mono ?_
        rintro r h' ⟨nf4, w4, rfl, rfl, hn4, hw4⟩
        rw [← hw4] at hrns eW
        have h4c : w4.count = w3.count + letSs bd := by rw [hw4]; exact blkW_count _ _ _ _ _
        have h4v : w4.vs.length ≤ w4.count := by
          have : w4.vs = w3.vs := by rw [hw4]; simp [blkW, WS.back]
          rw [this, h4c]; omega
        simp -implicitDefEqProofs [callR_nxt, hwb]
        refine (w_mv G (id := 5) (ih el (by omega) (b + 1) nf4 w4 hn4 h4v (by omega) (by omega)) (by simp) (by simp [below]) (by decide) rfl rfl).mono ?_
        rintro r h' ⟨nf5, w5, rfl, rfl, hn5, hw5⟩
        rw [← hw5] at eW
        have hsl2 : (smR out).length = i := by rw [smR_len]; exact hol
        simp -implicitDefEqProofs [callR_nxt, hsl2]
        refine ⟨⟨by omega, by omega⟩, ⟨i + 1, nf5⟩, ⟨by simp only; omega, fun h => by simp only at h ⊢; rw [eW]; exact hn5 h⟩, by simp only; omega, ?_⟩
        simp only
        rw [eW, eR, smR_app]
        have htk : List.take i (smR out) = smR out := List.take_of_length_le (by omega)
        rw [htk]
        have hsm1 : smR [rnS fns k b (.mk o nme a bd el) wi] = [[.p (.int .i64 o), .p (.str (opN o nme w1)), .p (exL (rnEs w1.vs a)), .p (smL (rnSs fns k (b + 1) bd w3)), .p (smL (rnSs fns k (b + 1) el w4))]] := by rw [smR, List.map_singleton, hrns]; rfl
        rw [hsm1]
        refine wkt_ren [0, 1, 8, 6] (by simp) (by decide) (by decide) (hw_wO (by simp) rfl (hw_dead (by simp) (hw_row rfl (fun x hx => ?_) (hw_ok rfl (roC_ok _ _ _) hw_nil)))) (by simp [below, ren, hsl, show IntKind.i64.wrap ((i : Int) + 1) = ((i : Int) + 1) from i64_small (by omega) (by omega)])
        rcases List.mem_append.1 hx with h | h
        · exact smR_pure out x h
        · rw [List.mem_singleton.1 h]; simp
      · simp at h
        have hie : i = l.length := by omega
        subst hie
        rw [List.take_length] at hn ⊢
        obtain ⟨ext, hext⟩ := stsW_ext fns k l b w
        have hlen := rnSs_len fns k b l w
        refine cut1 (tsOf 96 [(7, .p (smL (rnSs fns k b l w)))]) [wO 2 nf fns k (blkW fns k b l w), .dead, roC nf (blkW fns k b l w).vs] ?_ ?_
        · have fin : ∀ (r1 : List (Nat × AV)) (w' : WS), w'.vs = w.vs ∨ w'.vs = (stsW fns k b l w).vs → (Aw.look r1 7 = .sl 2 5 0 l.length) →
              Wk 2 (tsOf 96 r1) [wO 3 nf fns k w', .dead, .row 5 (smR (rnSs fns k b l w)), roC nf (stsW fns k b l w).vs] (tsOf 96 [(7, .p (smL (rnSs fns k b l w)))]) [wO 2 nf fns k w', .dead, roC nf w'.vs] := by
            intro r1 w' hv' hr
            refine Wk.trans (wk_cuts (h1 := [wO 3 nf fns k w', .dead, .row 5 (smR (rnSs fns k b l w)), roC nf w'.vs]) ?_) (Wk.trans (wkt_ren (l1 := [(7, .sl 3 5 0 l.length)]) (h1 := [wO 2 nf fns k w', .dead, roC nf w'.vs, .row 5 (smR (rnSs fns k b l w))]) [0, 1, 3, 2] (by simp) (by decide) (by decide) (hw_wO (by simp) rfl (hw_dead (by simp) (hw_ok rfl (roC_ok _ _ _) (hw_row rfl (smR_pure _) hw_nil)))) (by simp [below, ren, hr]))
              (wkt_frz 3 (by omega) (by simp) rfl (.same (wO_ok (by omega)) (.dead (.same (roC_ok _ _ _) (.nil _)))) ?_))
            · refine ⟨.inl rfl, .inl rfl, .inl rfl, ?_, trivial⟩
              rcases hv' with e | e
              · cases nf with
                | true => exact .inl rfl
                | false =>
                  refine .inr ⟨3, lvR (stsW fns k b l w).vs, w.vs.length, rfl, ?_⟩
                  rw [hext, lvR_take, e]; rfl
              · rw [e]; exact .inl rfl
            · rw [← hlen]
              exact ⟨.one (smR_view rfl) .nil, trivial⟩
          by_cases hb0 : 0 < b
          · have hwe : blkW fns k b l w = (stsW fns k b l w).back w.vs := if_pos hb0
            rw [hwe]
            have hll2 : (stsW fns k b l w).vs.length = ext.length + w.vs.length := by rw [hext, List.length_append]
            cases nf with
            | true =>
              have h0 := hn rfl
              rw [h0] at hext
              have h00 : w.vs = [] := (List.append_eq_nil_iff.1 hext.symm).2
              simp -implicitDefEqProofs [hb0, wO, wC, vaC, h00]
              rw [h00] at fin
              exact fin _ ⟨[], (stsW fns k b l w).count, (stsW fns k b l w).code⟩ (.inl rfl) (by simp)
            | false =>
              have hle : w.vs.length ≤ (stsW fns k b l w).vs.length := by omega
              simp -implicitDefEqProofs [hb0, wO, wC, vaC, hle]
              exact fin _ ⟨w.vs, (stsW fns k b l w).count, (stsW fns k b l w).code⟩ (.inl rfl) (by simp)
          · have hwe : blkW fns k b l w = stsW fns k b l w := if_neg hb0
            have hb0' : b = 0 := by omega
            subst hb0'
            rw [hwe]
            simp -implicitDefEqProofs []
            exact fin _ _ (.inr rfl) (by simp)
        · simp -implicitDefEqProofs []
          refine ⟨nf, _, rfl, rfl, ?_, rfl⟩
          intro hnf
          have h0 := hn hnf
          unfold blkW
          split
          · rw [h0] at hext; exact (List.append_eq_nil_iff.1 hext.symm).2
          · exact h0
end Go.Proofs.YtiojgfhdcpppcaaDoor
namespace Go.Proofs.YtiojgfhdcpppcaaDoor
open Go Go.Aw
set_option maxRecDepth 100000
set_option maxHeartbeats 4000000
def K_spec_l4Fn : AK := .seq (.reg [⟨(some 2), none, .box 1 (.t 0)⟩, ⟨(some 4), none, .alloc [(.p (.str [])), .nils, .nils]⟩, ⟨(some 5), none, .mov (.c (.p (.int .i64 0)))⟩, ⟨(some 6), none, .mov (.c (.p (.int .i64 0)))⟩]) (.seq (.reg [⟨(some 11), none, .ld (some 1) (.t 2)⟩, ⟨(some 12), none, .mov (.t 1)⟩, ⟨(some 13), none, .bld [.nils, (.p (.int .i64 0)), .nils, (.p (.int .i64 0)), (.p (.int .i64 0))] [(0, 1, (.t 11)), (1, 1, (.t 12))]⟩, ⟨(some 14), none, .box 5 (.t 13)⟩, ⟨(some 7), none, .mov (.t 14)⟩]) (.cut (.reg [⟨(some 15), none, .fldA 0 (.t 2)⟩, ⟨(some 16), none, .ld none (.t 15)⟩, ⟨(some 17), none, .mov (.t 1)⟩, ⟨(some 18), none, .idxS 3 (.t 16) (.t 17)⟩, ⟨(some 19), none, .ld (some 3) (.t 18)⟩, ⟨(some 8), none, .alloc [(.p (.str [])), .nils, .nils]⟩, ⟨none, none, .st 3 (.t 8) (.t 19)⟩]) (.cut (.seq (.reg [⟨(some 20), none, .ld (some 1) (.t 2)⟩, ⟨(some 21), none, .fldA 0 (.t 8)⟩, ⟨(some 22), none, .ld none (.t 21)⟩, ⟨(some 23), none, .call n_spec_FnAt [(.t 20), (.t 22)]⟩, ⟨(some 24), none, .mov (.t 1)⟩, ⟨(some 25), none, .bin .neq (.t 23) (.t 24)⟩]) (.cond (.t 25) (.reg [⟨(some 26), none, .mov (.t 7)⟩, ⟨(some 27), none, .call n_spec_l4Walk_fail [(.t 26), (.c (.p (.int .i64 2)))]⟩]) (.skip))) (.seq (.reg [⟨(some 28), none, .bsl 1 [(.p (.str []))] 0 []⟩, ⟨(some 9), none, .mov (.t 28)⟩]) (.seq (.seq (.reg [⟨(some 10), none, .mov (.c (.p (.int .i64 0)))⟩]) (.blk 0 (.loop (.seq (.seq (.reg [⟨(some 29), none, .mov (.t 10)⟩, ⟨(some 30), none, .fldA 1 (.t 8)⟩, ⟨(some 31), none, .ld none (.t 30)⟩, ⟨(some 32), none, .len false (.t 31)⟩, ⟨(some 33), none, .bin .lss (.t 29) (.t 32)⟩]) (.cond (.t 33) (.skip) (.exit 0))) (.seq (.blk 1 (.reg [⟨(some 36), none, .mov (.t 9)⟩, ⟨(some 37), none, .mov (.t 7)⟩, ⟨(some 38), none, .fldA 1 (.t 8)⟩, ⟨(some 39), none, .ld none (.t 38)⟩, ⟨(some 40), none, .mov (.t 10)⟩, ⟨(some 41), none, .idxS 1 (.t 39) (.t 40)⟩, ⟨(some 42), none, .ld none (.t 41)⟩, ⟨(some 43), none, .call n_spec_l4Walk_put [(.t 37), (.t 42), (.c (.p (.int .i64 0)))]⟩, ⟨(some 44), none, .bsl 1 [(.p (.str []))] 1 [(0, 1, (.t 43))]⟩, ⟨(some 45), none, .app 1 16 (.t 36) (.t 44)⟩, ⟨(some 9), none, .mov (.t 45)⟩])) (.reg [⟨(some 34), none, .mov (.t 10)⟩, ⟨(some 35), none, .bin .add (.t 34) (.c (.p (.int .i64 1)))⟩, ⟨(some 10), none, .mov (.t 35)⟩])))))) (.seq (.reg [⟨(some 46), none, .mov (.t 9)⟩, ⟨(some 47), none, .fldA 1 (.t 8)⟩, ⟨none, none, .st 1 (.t 47) (.t 46)⟩]) (.seq (.reg [⟨(some 48), none, .mov (.t 7)⟩, ⟨(some 49), none, .fldA 2 (.t 8)⟩, ⟨(some 50), none, .ld none (.t 49)⟩, ⟨(some 51), none, .call n_spec_l4Walk_stmts [(.t 48), (.t 50), (.c (.p (.int .i64 0)))]⟩, ⟨(some 52), none, .fldA 2 (.t 8)⟩, ⟨none, none, .st 1 (.t 52) (.t 51)⟩]) (.seq (.reg [⟨(some 54), none, .mov (.t 7)⟩, ⟨(some 55), none, .nilck (.t 54)⟩, ⟨(some 56), none, .fldA 4 (.t 55)⟩, ⟨(some 58), none, .mov (.t 7)⟩, ⟨(some 59), none, .nilck (.t 58)⟩, ⟨(some 60), none, .fldA 3 (.t 59)⟩, ⟨(some 53), none, .ld (some 3) (.t 8)⟩, ⟨(some 57), none, .ld none (.t 56)⟩, ⟨(some 61), none, .ld none (.t 60)⟩, ⟨none, none, .st 3 (.t 4) (.t 53)⟩, ⟨none, none, .chk none 56 57⟩, ⟨none, none, .chk none 60 61⟩, ⟨(some 5), none, .mov (.t 57)⟩, ⟨(some 6), none, .mov (.t 61)⟩]) (.ret)))))))))
theorem w_spec_l4Fn : K_spec_l4Fn.whole = F_spec_l4Fn.ak := rfl
theorem putsW_le : ∀ (ps : List (List UInt8)) (w : WS), w.vs.length ≤ w.count → (putsW ps w).vs.length ≤ (putsW ps w).count
  | [], w, h => h
  | s :: r, w, h => putsW_le r (putW w s 0) (by simp [putW]; omega)
theorem putsW_app (a b : List (List UInt8)) (w : WS) : putsW (a ++ b) w = putsW b (putsW a w) := by simp [putsW]
theorem putsW_take {l : List (List UInt8)} {w : WS} {i : Nat} (h : i < l.length) : putsW (l.take (i + 1)) w = putW (putsW (l.take i) w) l[i] 0 := by
  rw [take_succ' h, putsW_app]; rfl
theorem rnPs_app : ∀ (a b : List (List UInt8)) (w : WS), rnPs (a ++ b) w = rnPs a w ++ rnPs b (putsW a w)
  | [], b, w => rfl
  | s :: r, b, w => by rw [List.cons_append, rnPs, rnPs, rnPs_app r]; rfl
theorem rnPs_take {l : List (List UInt8)} {w : WS} {i : Nat} (h : i < l.length) : rnPs (l.take (i + 1)) w = rnPs (l.take i) w ++ [vnm (putsW (l.take i) w).count] := by
  rw [take_succ' h, rnPs_app]; rfl
theorem rnPs_len : ∀ (l : List (List UInt8)) (w : WS), (rnPs l w).length = l.length
  | [], w => rfl
  | s :: r, w => by rw [rnPs, List.length_cons, rnPs_len r, List.length_cons]
def w0 (fns : List Fd) (k : Nat) (f : Fd) : WS := ⟨[], 0, if fnAt fns f.name = some k then 0 else 2⟩
theorem fnW_eq (fns : List Fd) (k : Nat) (f : Fd) : fnW fns k f = stsW fns k 0 f.body (putsW f.params (w0 fns k f)) := rfl
theorem rnF_cs (fns : List Fd) (k : Nat) (f : Fd) : (rnF fns k f).cs = [.str f.name, strL (rnPs f.params (w0 fns k f)), smL (rnSs fns k 0 f.body (putsW f.params (w0 fns k f)))] := rfl
variable (G : Glob)
theorem s_l4Fn {fns : List Fd} {k : Nat} {f : Fd} (hk : fns[k]? = some f) (hz : fdsZ fns ≤ 1073741824) : VF Tryd.prog G n_spec_l4Fn [.agg [.p (fdL fns)], .p (.int .i64 k)] (.tup [.agg ((rnF fns k f).cs.map .p), .p (.int .i64 (fnW fns k f).code), .p (.int .i64 (fnW fns k f).count)]) := by
  have hfl := fdsZ_len fns
  have hfm := fdsZ_mem (List.mem_of_getElem? hk)
  have hfz : f.sz = 1 + f.name.length + (f.params.length + (f.params.map List.length).sum) + smsZ f.body := rfl
  have hkl := (List.getElem?_eq_some_iff.1 hk).1
  have key : AC Tryd.prog G n_spec_l4Fn [.agg [.p (fdL fns)], .p (.int .i64 k)] [] fun x h => x = .ret (.tup [.agg [.p (.str f.name), .sl 5 1 0 f.params.length, .p (smL (rnSs fns k 0 f.body (putsW f.params (w0 fns k f))))], .p (.int .i64 (fnW fns k f).code), .p (.int .i64 (fnW fns k f).count)]) ∧ h[5]? = some (strO (rnPs f.params (w0 fns k f))) := by
    refine AC.goK k_spec_l4Fn w_spec_l4Fn ?_
    have hfd : ∀ l, fdL l = .lst 3 (l.map Fd.cs) := fun _ => rfl
    have hcs : f.cs = [.str f.name, strL f.params, smL f.body] := rfl
    have hst : strL f.params = .lst 1 (f.params.map fun w => [.str w]) := rfl
    simp -implicitDefEqProofs [K_spec_l4Fn, F_spec_l4Fn]
    refine cut1 (tsOf 62 [(1, .p (.int .i64 k)), (2, .ptr 0 1 0 0), (4, .ptr 1 3 0 0), (7, .ptr 2 5 0 0), (8, .ptr 3 3 0 0)])
      [.row 1 [[.p (fdL fns)]], .row 3 [[.p (.str []), .nils, .nils]], wO 4 true fns k ⟨[], 0, 0⟩, .row 3 [[.p (.str f.name), .p (strL f.params), .p (smL f.body)]], .dead] ?_ ?_
    · simp -implicitDefEqProofs [hfd, hk, hcs]
      refine wkt_dead (h := [.row 1 [[.p (fdL fns)]], .row 3 [[.p (.str []), .nils, .nils]], wO 4 true fns k ⟨[], 0, 0⟩, .row 3 [[.p (.str f.name), .p (strL f.params), .p (smL f.body)]]]) (by simp) (by simp) ?_ (by simp [below])
      refine oks_cons (by simp [okO, below]) (oks_cons (by simp [okO, below]) (oks_cons ?_ (oks_cons (by simp [okO, below]) oks_nil)))
      intro x hx
      rw [List.mem_singleton.1 hx]; simp [wC, vaC, below]
    refine cut1 (tsOf 62 [(1, .p (.int .i64 k)), (2, .ptr 0 1 0 0), (4, .ptr 1 3 0 0), (7, .ptr 2 5 0 0), (8, .ptr 3 3 0 0)])
      [.row 1 [[.p (fdL fns)]], .row 3 [[.p (.str []), .nils, .nils]], wO 4 true fns k (w0 fns k f), .row 3 [[.p (.str f.name), .p (strL f.params), .p (smL f.body)]], .dead] ?_ ?_
    · simp -implicitDefEqProofs []
      refine (s_FnAt G fns f.name (by omega)).use ?_
      have hok : ∀ w : WS, ∀ o ∈ [AO.row 1 [[.p (fdL fns)]], .row 3 [[.p (.str []), .nils, .nils]], wO 4 true fns k w, .row 3 [[.p (.str f.name), .p (strL f.params), .p (smL f.body)]], .dead], okO 5 o := fun w =>
        oks_cons (by simp [okO, below]) (oks_cons (by simp [okO, below]) (oks_cons (wO_ok (by simp)) (oks_cons (by simp [okO, below]) (oks_cons trivial oks_nil))))
      by_cases he : fnAt fns f.name = some k
      · have hw : w0 fns k f = ⟨[], 0, 0⟩ := by rw [w0, if_pos he]
        rw [hw, he]
        simp -implicitDefEqProofs [ixI]
        exact wkt_same (by simp) (hok _) (by simp [below])
      · have hw : w0 fns k f = ⟨[], 0, 2⟩ := by rw [w0, if_neg he]
        have hne : ¬ ixI (fnAt fns f.name) = (k : Int) := by
          intro h
          apply he
          cases e : fnAt fns f.name with
          | none => rw [e] at h; simp only [ixI] at h; omega
          | some j => rw [e] at h; simp only [ixI] at h; have : j = k := by omega
                      rw [this]
        rw [hw]
        simp -implicitDefEqProofs [hne]
        refine (w_at G (wid := 2) (id := 4) (s_fail0 G true fns k ⟨[], 0, 0⟩ 2) (by simp) (by simp [below]) (by decide) rfl rfl).mono ?_
        rintro r h' ⟨rfl, rfl⟩
        simp -implicitDefEqProofs [callR_nxt]
        exact wkt_same (h := [AO.row 1 [[.p (fdL fns)]], .row 3 [[.p (.str []), .nils, .nils]], wO 4 true fns k ⟨[], 0, 2⟩, .row 3 [[.p (.str f.name), .p (strL f.params), .p (smL f.body)]], .dead]) (by simp) (hok _) (by simp [below])
    rw [fnW_eq]
    have hw0v : (w0 fns k f).vs = [] := rfl
    have hw0c : (w0 fns k f).count = 0 := rfl
    generalize w0 fns k f = w0 at hw0v hw0c ⊢
    simp -implicitDefEqProofs []
    have hcnt : ∀ j, j ≤ f.params.length → (putsW (f.params.take j) w0).count = j := fun j hj => by rw [putsW_count, hw0c]; simp; omega
    have hvl : ∀ j, (putsW (f.params.take j) w0).vs.length ≤ (putsW (f.params.take j) w0).count := fun j => putsW_le _ _ (by rw [hw0v]; simp)
    refine loopA (fun j : Nat => tsOf 62 [(1, .p (.int .i64 k)), (2, .ptr 0 1 0 0), (4, .ptr 1 3 0 0), (7, .ptr 2 5 0 0), (8, .ptr 3 3 0 0), (9, .sl 5 1 0 j), (10, .p (.int .i64 j))])
      (fun j => [.row 1 [[.p (fdL fns)]], .row 3 [[.p (.str []), .nils, .nils]], wO 6 (decide (j = 0)) fns k (putsW (f.params.take j) w0), .row 3 [[.p (.str f.name), .p (strL f.params), .p (smL f.body)]], .dead, strO (rnPs (f.params.take j) w0), roC (decide (j = 0)) (putsW (f.params.take j) w0).vs])
      (fun j => j ≤ f.params.length) (fun j => f.params.length - j) 0 (by simp) ?_ ?_
    · refine wkt_dead (h := [.row 1 [[.p (fdL fns)]], .row 3 [[.p (.str []), .nils, .nils]], wO 6 true fns k w0, .row 3 [[.p (.str f.name), .p (strL f.params), .p (smL f.body)]], .dead, .row 1 []]) (by simp) (by simp) ?_ (by simp [below])
      refine oks_cons (by simp [okO, below]) (oks_cons (by simp [okO, below]) (oks_cons ?_ (oks_cons (by simp [okO, below]) (oks_cons trivial (oks_cons (by simp [okO]) oks_nil)))))
      intro x hx
      rw [List.mem_singleton.1 hx]; simp [wC, vaC, below]
    intro j hj
    have hjc := hcnt j hj
    have hjv := hvl j
    have hol := rnPs_len (f.params.take j) w0
    rw [List.length_take, Nat.min_eq_left hj] at hol
    have hnf : decide (j = 0) = true → (putsW (f.params.take j) w0).vs = [] := by
      intro h
      have h0 : j = 0 := by simpa using h
      rw [h0, List.take_zero]
      exact hw0v
    simp -implicitDefEqProofs [hst]
    refine cndb (fun h => ?_) (fun h => ?_)
    · simp at h
      have hg := List.getElem?_eq_getElem h
      have eP := putsW_take (w := w0) h
      have eR := rnPs_take (w := w0) h
      simp -implicitDefEqProofs [hg]
      refine (w_mv G (wid := 2) (id := 6) (Q := fun nf' w' => nf' = false ∧ w' = putW (putsW (f.params.take j) w0) f.params[j] 0) ((s_put0 G (decide (j = 0)) fns k _ hnf (by omega) (by omega) f.params[j] 0).mono (by rintro x h ⟨rfl, rfl⟩; exact ⟨false, _, rfl, rfl, rfl, rfl⟩)) (by simp) (by simp [below]) (by decide) rfl rfl).mono ?_
      rintro r h' ⟨nf', w', rfl, rfl, rfl, rfl⟩
      have hso : ∀ l, strO l = .row 1 (l.map fun n => [.p (.str n)]) := fun _ => rfl
      simp -implicitDefEqProofs [callR_nxt, hso, hol]
      refine ⟨by omega, j + 1, by omega, by omega, ?_⟩
      have htk : List.take j ((rnPs (f.params.take j) w0).map fun n => [AV.p (.str n)]) = (rnPs (f.params.take j) w0).map fun n => [AV.p (.str n)] := List.take_of_length_le (by rw [List.length_map]; omega)
      have hd : decide (j + 1 = 0) = false := by simp
      rw [eP, eR, hd, List.map_append, ← List.map_take, List.map_take, htk]
      refine wkt_pick [0, 1, 2, 3, 4, 9, 7] rfl (by decide) (hw_row rfl (by simp) (hw_row rfl (by simp [below]) (hw_wO (by simp) rfl (hw_row rfl (by simp) (hw_dead (by simp) (hw_row rfl (fun x hx => ?_) (hw_ok rfl (roC_ok _ _ _) hw_nil))))))) (by simp [below, ren, w1 (i := j) (by omega)])
      rcases List.mem_append.1 hx with h | h
      · exact strR_pure _ x h
      · exact strR_pure _ x h
    · simp at h
      have hje : j = f.params.length := by omega
      subst hje
      rw [List.take_length] at hol hjc hjv hnf ⊢
      generalize decide (f.params.length = 0) = nf at hnf ⊢
      simp -implicitDefEqProofs []
      refine (w_mv G (wid := 2) (id := 6) (s_stmts0 G (fns := fns) (by omega) (smsZ f.body + 1) f.body (by omega) 0 _ (putsW f.params w0) hnf hjv (by omega) (by omega)) (by simp) (by simp [below]) (by decide) rfl rfl).mono ?_
      rintro r h' ⟨nf', w', rfl, rfl, hn', hw'⟩
      have hb : blkW fns k 0 f.body (putsW f.params w0) = stsW fns k 0 f.body (putsW f.params w0) := rfl
      rw [hb] at hw'
      rw [← hw']
      simp -implicitDefEqProofs [callR_nxt, wO, wC]
  refine key.freezeR (fun t v h ⟨e, _⟩ => by cases e) fun v h ⟨e1, e2⟩ => ?_
  cases e1
  rw [rnF_cs]
  have hol := rnPs_len f.params (w0 fns k f)
  have hv := strO_view e2
  rw [hol] at hv
  exact .tup (.agg (.keep (by simp) (.one hv (.keep (by simp) .nil))) (.keep (by simp) (.keep (by simp) .nil))) .nil
theorem firstC_drop {fns : List Fd} {i : Nat} (h : i < fns.length) : firstC fns i (fns.drop i) = if (fnW fns i fns[i]).code = 0 then firstC fns (i + 1) (fns.drop (i + 1)) else (fnW fns i fns[i]).code := by
  rw [List.drop_eq_getElem_cons h, firstC]
theorem s_CheckProgram (l : List Fd) (hz : fdsZ l ≤ 1073741824) : VF Tryd.prog G n_spec_CheckProgram [.agg [.p (fdL l)]] (.p (.int .i64 (chkProg l))) := by
  refine AC.go k_spec_CheckProgram ?_
  have hll := fdsZ_len l
  have hfd : ∀ l, fdL l = .lst 3 (l.map Fd.cs) := fun _ => rfl
  simp -implicitDefEqProofs [F_spec_CheckProgram]
  refine (s_ProgramValid G l (by omega)).use ?_
  by_cases hv : progOk l = true
  case neg =>
    have : chkProg l = 1 := if_neg hv
    have hv' : progOk l = false := by simpa using hv
    simp -implicitDefEqProofs [hv', this]
  have hc : chkProg l = firstC l 0 (l.drop 0) := if_pos hv
  rw [hc]
  simp -implicitDefEqProofs [hv]
  refine loopA (fun i : Nat => tsOf 27 [(1, .ptr 0 1 0 0), (3, .p (.int .i64 i))]) (fun _ => [.row 1 [[.p (fdL l)]]]) (fun i => i ≤ l.length ∧ firstC l 0 l = firstC l i (l.drop i)) (fun i => l.length - i) 0 (by simp) (wkt_same (by simp) (by simp [okO]) (by simp [below])) ?_
  rintro i ⟨hi, he⟩
  simp -implicitDefEqProofs [hfd]
  refine cndb (fun h => ?_) (fun h => ?_)
  · simp at h
    have hg := List.getElem?_eq_getElem h
    have hd := firstC_drop h
    simp -implicitDefEqProofs []
    refine (s_l4Fn G hg hz).use ?_
    have hrc := rnF_cs l i l[i]
    by_cases h0 : (fnW l i l[i]).code = 0
    · rw [if_pos h0] at hd
      simp -implicitDefEqProofs [h0, hrc]
      refine ⟨i + 1, ⟨by omega, by rw [he, hd]⟩, by omega, ?_⟩
      refine wkt_fst (m := 1) (by omega) (fst_take rfl rfl (by simp [okO, below])) (by simp [below, hfd, w1 (i := i) (by omega)])
    · rw [if_neg h0] at hd
      simp -implicitDefEqProofs [h0, hrc]
      rw [he, hd]
  · simp at h
    have hie : i = l.length := by omega
    subst hie
    rw [List.drop_length] at he
    simp -implicitDefEqProofs []
    rw [he]; rfl
end Go.Proofs.YtiojgfhdcpppcaaDoor
namespace Go.Proofs.YtiojgfhdcpppcaaDoor
open Go Go.Aw
set_option maxRecDepth 100000
set_option maxHeartbeats 4000000
variable (G : Glob)
theorem i_within (n lo hi : Int) : VF Tryd.prog G n_impl_within [.p (.int .i64 n), .p (.int .i64 lo), .p (.int .i64 hi)] (.p (.bool (inR n lo hi))) := by
  refine AC.go k_impl_within ?_
  by_cases h : lo ≤ n
  · simp -implicitDefEqProofs [F_impl_within, h, inR]
  · simp -implicitDefEqProofs [F_impl_within, h, inR]
theorem i_isByte (n : Int) : VF Tryd.prog G n_impl_isByte [.p (.int .i64 n)] (.p (.bool (inR n 0 255))) := by
  refine AC.go k_impl_isByte ?_
  simp -implicitDefEqProofs [F_impl_isByte]
  refine (i_within G _ _ _).use ?_
  simp -implicitDefEqProofs []
theorem i_IsName_1 (n : Int) : VF Tryd.prog G n_impl_IsName_1 [.p (.int .i32 n)] (.p (.bool (decide (n < 97) || decide (122 < n)))) := by
  refine AC.go k_impl_IsName_1 ?_
  simp -implicitDefEqProofs [F_impl_IsName_1]
  by_cases h : n < 97
  · simp -implicitDefEqProofs [h]
  · simp -implicitDefEqProofs [h]
theorem dec_let {s : List UInt8} {i : Nat} (h : i < s.length) (hl : isLet s[i] = true) : Utf8.decode ⟨⟨s⟩⟩ i = (s[i].toNat, 1) := by
  simp only [isLet, Bool.and_eq_true, decide_eq_true_eq] at hl
  exact decode_ascii ⟨⟨s⟩⟩ i h (by show (s[i]).toNat < 128; omega)
theorem dec_other {s : List UInt8} {i : Nat} (h : i < s.length) (hl : ¬ isLet s[i] = true) : (((Utf8.decode ⟨⟨s⟩⟩ i).1 : Int) < 97 ∨ 122 < ((Utf8.decode ⟨⟨s⟩⟩ i).1 : Int)) := by
  rcases Nat.lt_or_ge s[i].toNat 128 with h1 | h1
  · rw [show Utf8.decode ⟨⟨s⟩⟩ i = (s[i].toNat, 1) from decode_ascii ⟨⟨s⟩⟩ i h h1]
    simp [isLet] at hl
    simp only
    omega
  · have := (decode_high ⟨⟨s⟩⟩ i h h1).1
    omega
theorem i_indexFunc (s : List UInt8) (hb : s.length ≤ 140737488355328) : VF Tryd.prog G n_strings_indexFunc [.p (.str s), .fn (.func n_impl_IsName_1) [], .p (.bool true)] (.p (.int .i64 (idxN s))) := by
  refine AC.go k_strings_indexFunc ?_
  simp -implicitDefEqProofs [F_strings_indexFunc]
  refine loopA (fun i : Nat => tsOf 21 [(0, .p (.str s)), (1, .fn (.func n_impl_IsName_1) []), (2, .p (.bool true)), (10, .it 0)]) (fun i => [.sit s i]) (fun i => i ≤ s.length ∧ ∀ x ∈ s.take i, isLet x = true) (fun i => s.length - i) 0 (by simp) ?_ ?_
  · exact wkt_same (by simp) (by simp [okO]) (by simp [below, belowL])
  · intro i ⟨hi, hn⟩
    simp -implicitDefEqProofs []
    by_cases h1 : i < s.length
    · have hg := List.getElem?_eq_getElem h1
      simp -implicitDefEqProofs [h1]
      refine (i_IsName_1 G _).use ?_
      by_cases hl : isLet s[i] = true
      · have hd := dec_let h1 hl
        have hl' := hl
        simp only [isLet, Bool.and_eq_true, decide_eq_true_eq] at hl'
        have e1 : ¬ ((s[i].toNat : Int) < 97) := by omega
        have e2 : ¬ (122 < (s[i].toNat : Int)) := by omega
        rw [hd]
        simp -implicitDefEqProofs [e1, e2]
        refine ⟨i + 1, ⟨h1, fun p hp => ?_⟩, by omega, wkt_same (by simp) (by simp [okO]) (by simp [below, belowL])⟩
        rw [take_succ' h1] at hp
        rcases List.mem_append.1 hp with hp | hp
        · exact hn p hp
        · rw [List.mem_singleton.1 hp]; exact hl
      · have hd := dec_other h1 hl
        have hf : idxN s = i := by
          have : s.findIdx? (fun x => !isLet x) = some i := by
            rw [List.findIdx?_eq_some_iff_getElem]
            exact ⟨h1, by simpa using hl, fun j hj => by have := hn s[j] (List.mem_take_iff_getElem.2 ⟨j, by omega, rfl⟩); simpa using this⟩
          rw [idxN, this]
        have hdb : (decide (((Utf8.decode ⟨⟨s⟩⟩ i).1 : Int) < 97) || decide (122 < ((Utf8.decode ⟨⟨s⟩⟩ i).1 : Int))) = true := by
          rcases hd with h | h <;> simp [h]
        rw [hdb]
        simp -implicitDefEqProofs [hf]
    · have hn' := hn
      rw [List.take_of_length_le (by omega)] at hn'
      have hf : idxN s = -1 := by
        have : s.findIdx? (fun x => !isLet x) = none := by
          rw [List.findIdx?_eq_none_iff]; intro x hx; simpa using hn' x hx
        rw [idxN, this]
      simp -implicitDefEqProofs [h1, hf]
theorem i_IndexFunc (s : List UInt8) (hb : s.length ≤ 140737488355328) : VF Tryd.prog G n_strings_IndexFunc [.p (.str s), .fn (.func n_impl_IsName_1) []] (.p (.int .i64 (idxN s))) := by
  refine AC.go k_strings_IndexFunc ?_
  simp -implicitDefEqProofs [F_strings_IndexFunc]
  refine (i_indexFunc G s hb).use ?_
  simp -implicitDefEqProofs []
theorem i_Index (L : List (List UInt8)) (s : List UInt8) (hb : L.length ≤ 1048576) : VF Tryd.prog G n_slices_Index_string [.p (strL L), .p (.str s)] (.p (.int .i64 (idxS L s))) := by
  refine AC.go k_slices_Index_string ?_
  have hsl : strL L = .lst 1 (L.map fun w => [.str w]) := rfl
  simp -implicitDefEqProofs [F_slices_Index_string, hsl]
  refine loopA (fun i : Nat => tsOf 19 [(0, .p (strL L)), (1, .p (.str s)), (6, .p (strL L)), (7, .p (.int .i64 L.length)), (8, .p (.int .i64 i))]) (fun _ => []) (fun i => i ≤ L.length ∧ ∀ w ∈ L.take i, w ≠ s) (fun i => L.length - i) 0 (by simp) ?_ ?_
  · exact wkt_nil rfl (by simp [below, strL])
  · intro i ⟨hi, hn⟩
    simp -implicitDefEqProofs [hsl]
    refine cndb (fun h1 => ?_) (fun h1 => ?_)
    · simp at h1
      have hg := List.getElem?_eq_getElem h1
      by_cases he : L[i] = s
      · have hf : idxS L s = i := by
          have : L.findIdx? (fun w => w == s) = some i := by
            rw [List.findIdx?_eq_some_iff_getElem]
            exact ⟨h1, by simpa using he, fun j hj => by have := hn L[j] (List.mem_take_iff_getElem.2 ⟨j, by omega, rfl⟩); simpa using this⟩
          rw [idxS, this]
        have he' : s = L[i] := he.symm
        simp -implicitDefEqProofs [hg, hf, ← he']
      · have he' : ¬ s = L[i] := fun e => he e.symm
        simp -implicitDefEqProofs [hg, he']
        refine ⟨i + 1, ⟨h1, fun p hp => ?_⟩, by omega, wkt_nil rfl ?_⟩
        · rw [take_succ' h1] at hp
          rcases List.mem_append.1 hp with hp | hp
          · exact hn p hp
          · rw [List.mem_singleton.1 hp]; exact he
        · simp [below, strL, w1 (i := i) (by omega)]
    · simp at h1
      rw [List.take_of_length_le h1] at hn
      have hf : idxS L s = -1 := by
        have : L.findIdx? (fun w => w == s) = none := by
          rw [List.findIdx?_eq_none_iff]; intro x hx; simpa using hn x hx
        rw [idxS, this]
      simp -implicitDefEqProofs [hf]
theorem i_Contains (L : List (List UInt8)) (s : List UInt8) (hb : L.length ≤ 1048576) : VF Tryd.prog G n_slices_Contains_string [.p (strL L), .p (.str s)] (.p (.bool (L.contains s))) := by
  rw [← idxS_pos]
  refine AC.go k_slices_Contains_string ?_
  simp -implicitDefEqProofs [F_slices_Contains_string]
  refine (i_Index G L s hb).use ?_
  simp -implicitDefEqProofs []
abbrev g_keys : Nat := 0
def pvKeys : List PV := keyW.map .str
variable (hK : G g_keys = some pvKeys)
include hK
theorem i_IsName (s : List UInt8) (hb : s.length ≤ 140737488355328) : VF Tryd.prog G n_impl_IsName [.p (.str s)] (.p (.bool (isName s))) := by
  refine AC.go k_impl_IsName ?_
  have hg : g_keys = 0 := rfl
  rw [hg] at hK
  simp -implicitDefEqProofs [F_impl_IsName]
  refine (i_within G _ _ _).use ?_
  have hr : inR (s.length : Int) 1 4 = (decide (0 < s.length) && decide (s.length ≤ 4)) := by
    unfold inR
    by_cases h1 : 0 < s.length <;> by_cases h2 : s.length ≤ 4 <;> simp [h1, h2] <;> omega
  rw [hr]
  have hi : isName s = ((decide (0 < s.length) && decide (s.length ≤ 4)) && (s.all isLet && !keyW.contains s)) := by
    rw [isName]; cases s.all isLet <;> cases decide (0 < s.length) <;> cases decide (s.length ≤ 4) <;> rfl
  cases h1 : (decide (0 < s.length) && decide (s.length ≤ 4)) with
  | false =>
    rw [hi, h1]
    simp -implicitDefEqProofs []
  | true =>
    rw [hi, h1]
    simp -implicitDefEqProofs []
    refine (i_IndexFunc G s hb).use ?_
    rw [← idxN_neg]
    by_cases hn : idxN s < 0
    · simp -implicitDefEqProofs [hn, hK, pvKeys, keyW]
      refine (i_Contains G keyW s (by decide)).use ?_
      simp -implicitDefEqProofs [keyW]
    · simp -implicitDefEqProofs [hn]
end Go.Proofs.YtiojgfhdcpppcaaDoor
namespace Go.Proofs.YtiojgfhdcpppcaaDoor
open Go Go.Aw
set_option maxRecDepth 100000
set_option maxHeartbeats 4000000
def K_impl_exprSize : AK := .seq (.reg [⟨(some 2), none, .box 4 (.t 0)⟩, ⟨(some 4), none, .mov (.c (.p (.int .i64 0)))⟩, ⟨(some 5), none, .mov (.c (.p (.int .i64 0)))⟩, ⟨(some 6), none, .mov (.c (.p (.bool false)))⟩]) (.seq (.reg [⟨(some 7), none, .mov (.c (.p (.int .i64 0)))⟩, ⟨(some 8), none, .mov (.c (.p (.int .i64 0)))⟩]) (.cut (.blk 0 (.seq (.reg [⟨(some 17), none, .fldA 0 (.t 2)⟩, ⟨(some 18), none, .ld none (.t 17)⟩, ⟨(some 19), none, .bin .eql (.t 18) (.c (.p (.int .i64 1)))⟩, ⟨(some 16), none, .mov (.t 19)⟩]) (.cond (.t 16) (.seq (.reg [⟨(some 20), none, .fldA 1 (.t 2)⟩, ⟨(some 21), none, .ld none (.t 20)⟩, ⟨(some 22), none, .call n_impl_isByte [(.t 21)]⟩, ⟨(some 23), none, .not (.t 22)⟩, ⟨(some 24), none, .mov (.t 23)⟩, ⟨(some 25), (some (24, false)), .fldA 2 (.t 2)⟩, ⟨(some 26), (some (24, false)), .ld none (.t 25)⟩, ⟨(some 27), (some (24, false)), .bins .neq (.t 26) (.c (.p (.str [])))⟩, ⟨(some 28), none, .pick (.t 24) (.c (.p (.bool true))) (.t 27)⟩]) (.cond (.t 28) (.seq (.reg [⟨(some 4), none, .mov (.c (.p (.int .i64 0)))⟩, ⟨(some 5), none, .mov (.c (.p (.int .i64 0)))⟩, ⟨(some 6), none, .mov (.c (.p (.bool false)))⟩]) (.ret)) (.skip))) (.seq (.reg [⟨(some 30), none, .fldA 0 (.t 2)⟩, ⟨(some 31), none, .ld none (.t 30)⟩, ⟨(some 32), none, .bin .eql (.t 31) (.c (.p (.int .i64 2)))⟩, ⟨(some 29), none, .mov (.t 32)⟩]) (.cond (.t 29) (.seq (.reg [⟨(some 33), none, .fldA 2 (.t 2)⟩, ⟨(some 34), none, .ld none (.t 33)⟩, ⟨(some 35), none, .call n_impl_IsName [(.t 34)]⟩, ⟨(some 36), none, .not (.t 35)⟩, ⟨(some 37), none, .mov (.t 36)⟩, ⟨(some 38), (some (37, false)), .fldA 1 (.t 2)⟩, ⟨(some 39), (some (37, false)), .ld none (.t 38)⟩, ⟨(some 40), (some (37, false)), .bin .neq (.t 39) (.c (.p (.int .i64 0)))⟩, ⟨(some 41), none, .pick (.t 37) (.c (.p (.bool true))) (.t 40)⟩]) (.cond (.t 41) (.seq (.reg [⟨(some 4), none, .mov (.c (.p (.int .i64 0)))⟩, ⟨(some 5), none, .mov (.c (.p (.int .i64 0)))⟩, ⟨(some 6), none, .mov (.c (.p (.bool false)))⟩]) (.ret)) (.skip))) (.seq (.reg [⟨(some 43), none, .fldA 0 (.t 2)⟩, ⟨(some 44), none, .ld none (.t 43)⟩, ⟨(some 45), none, .bin .eql (.t 44) (.c (.p (.int .i64 13)))⟩, ⟨(some 42), none, .mov (.t 45)⟩]) (.cond (.t 42) (.seq (.reg [⟨(some 8), none, .mov (.c (.p (.int .i64 3)))⟩]) (.seq (.reg [⟨(some 46), none, .fldA 2 (.t 2)⟩, ⟨(some 47), none, .ld none (.t 46)⟩, ⟨(some 48), none, .call n_impl_IsName [(.t 47)]⟩, ⟨(some 49), none, .not (.t 48)⟩, ⟨(some 50), none, .mov (.t 49)⟩, ⟨(some 51), (some (50, false)), .fldA 1 (.t 2)⟩, ⟨(some 52), (some (50, false)), .ld none (.t 51)⟩, ⟨(some 53), (some (50, false)), .bin .neq (.t 52) (.c (.p (.int .i64 0)))⟩, ⟨(some 54), none, .pick (.t 50) (.c (.p (.bool true))) (.t 53)⟩]) (.cond (.t 54) (.seq (.reg [⟨(some 4), none, .mov (.c (.p (.int .i64 0)))⟩, ⟨(some 5), none, .mov (.c (.p (.int .i64 0)))⟩, ⟨(some 6), none, .mov (.c (.p (.bool false)))⟩]) (.ret)) (.skip)))) (.seq (.reg [⟨(some 56), none, .ld none (.c (.gp 1 0))⟩, ⟨(some 57), none, .fldA 0 (.t 2)⟩, ⟨(some 58), none, .ld none (.t 57)⟩, ⟨(some 59), none, .lk 0 (.agg [(.p (.str [])), (.p (.int .i64 0))]) false (.t 56) (.t 58)⟩, ⟨(some 60), none, .fldv 1 none (.t 59)⟩, ⟨(some 61), none, .bin .gtr (.t 60) (.c (.p (.int .i64 0)))⟩, ⟨(some 55), none, .mov (.t 61)⟩]) (.cond (.t 55) (.reg [⟨(some 7), none, .mov (.c (.p (.int .i64 2)))⟩, ⟨(some 8), none, .mov (.c (.p (.int .i64 2)))⟩]) (.seq (.reg [⟨(some 63), none, .fldA 0 (.t 2)⟩, ⟨(some 64), none, .ld none (.t 63)⟩, ⟨(some 65), none, .bin .eql (.t 64) (.c (.p (.int .i64 11)))⟩, ⟨(some 66), none, .mov (.t 65)⟩, ⟨(some 67), (some (66, false)), .fldA 0 (.t 2)⟩, ⟨(some 68), (some (66, false)), .ld none (.t 67)⟩, ⟨(some 69), (some (66, false)), .bin .eql (.t 68) (.c (.p (.int .i64 12)))⟩, ⟨(some 70), none, .pick (.t 66) (.c (.p (.bool true))) (.t 69)⟩, ⟨(some 62), none, .mov (.t 70)⟩]) (.cond (.t 62) (.reg [⟨(some 7), none, .mov (.c (.p (.int .i64 1)))⟩, ⟨(some 8), none, .mov (.c (.p (.int .i64 1)))⟩]) (.seq (.reg [⟨(some 4), none, .mov (.c (.p (.int .i64 0)))⟩, ⟨(some 5), none, .mov (.c (.p (.int .i64 0)))⟩, ⟨(some 6), none, .mov (.c (.p (.bool false)))⟩]) (.ret))))))))))))) (.cut (.seq (.reg [⟨(some 71), none, .fldA 0 (.t 2)⟩, ⟨(some 72), none, .ld none (.t 71)⟩, ⟨(some 73), none, .call n_impl_levelOf [(.t 72)]⟩, ⟨(some 74), none, .bin .lss (.t 73) (.c (.p (.int .i64 6)))⟩, ⟨(some 75), none, .mov (.t 74)⟩, ⟨(some 76), (some (75, true)), .fldA 1 (.t 2)⟩, ⟨(some 77), (some (75, true)), .ld none (.t 76)⟩, ⟨(some 78), (some (75, true)), .bin .neq (.t 77) (.c (.p (.int .i64 0)))⟩, ⟨(some 79), (some (75, true)), .mov (.t 78)⟩, ⟨(some 80), (some (79, false)), .fldA 2 (.t 2)⟩, ⟨(some 81), (some (79, false)), .ld none (.t 80)⟩, ⟨(some 82), (some (79, false)), .bins .neq (.t 81) (.c (.p (.str [])))⟩, ⟨(some 83), (some (75, true)), .pick (.t 79) (.c (.p (.bool true))) (.t 82)⟩, ⟨(some 84), none, .pick (.t 75) (.t 83) (.c (.p (.bool false)))⟩, ⟨(some 85), none, .mov (.t 84)⟩, ⟨(some 86), (some (85, false)), .fldA 3 (.t 2)⟩, ⟨(some 87), (some (85, false)), .ld none (.t 86)⟩, ⟨(some 88), (some (85, false)), .len false (.t 87)⟩, ⟨(some 89), (some (85, false)), .mov (.t 7)⟩, ⟨(some 90), (some (85, false)), .mov (.t 8)⟩, ⟨(some 91), (some (85, false)), .call n_impl_within [(.t 88), (.t 89), (.t 90)]⟩, ⟨(some 92), (some (85, false)), .not (.t 91)⟩, ⟨(some 93), none, .pick (.t 85) (.c (.p (.bool true))) (.t 92)⟩, ⟨(some 94), none, .mov (.t 93)⟩, ⟨(some 95), (some (94, false)), .mov (.t 1)⟩, ⟨(some 96), (some (94, false)), .bin .lss (.t 95) (.c (.p (.int .i64 1)))⟩, ⟨(some 97), none, .pick (.t 94) (.c (.p (.bool true))) (.t 96)⟩]) (.cond (.t 97) (.seq (.reg [⟨(some 4), none, .mov (.c (.p (.int .i64 0)))⟩, ⟨(some 5), none, .mov (.c (.p (.int .i64 0)))⟩, ⟨(some 6), none, .mov (.c (.p (.bool false)))⟩]) (.ret)) (.skip))) (.seq (.reg [⟨(some 9), none, .mov (.c (.p (.int .i64 1)))⟩, ⟨(some 10), none, .mov (.c (.p (.int .i64 1)))⟩]) (.seq (.seq (.reg [⟨(some 98), none, .fldA 3 (.t 2)⟩, ⟨(some 99), none, .ld none (.t 98)⟩, ⟨(some 100), none, .len false (.t 99)⟩, ⟨(some 101), none, .mov (.c (.p (.int .i64 0)))⟩]) (.blk 1 (.loop (.seq (.reg [⟨(some 102), none, .bin .lss (.t 101) (.t 100)⟩]) (.seq (.cond (.t 102) (.skip) (.exit 1)) (.seq (.blk 2 (.seq (.reg [⟨(some 103), none, .idxS 4 (.t 99) (.t 101)⟩, ⟨(some 104), none, .ld (some 4) (.t 103)⟩, ⟨(some 12), none, .alloc [(.p (.int .i64 0)), (.p (.int .i64 0)), (.p (.str [])), .nils]⟩, ⟨none, none, .st 4 (.t 12) (.t 104)⟩]) (.seq (.reg [⟨(some 106), none, .ld (some 4) (.t 12)⟩, ⟨(some 107), none, .mov (.t 1)⟩, ⟨(some 108), none, .bin .sub (.t 107) (.c (.p (.int .i64 1)))⟩, ⟨(some 109), none, .call n_impl_exprSize [(.t 106), (.t 108)]⟩, ⟨(some 105), none, .mov (.t 109)⟩, ⟨(some 110), none, .ext 0 (.t 105)⟩, ⟨(some 111), none, .ext 1 (.t 105)⟩, ⟨(some 112), none, .ext 2 (.t 105)⟩, ⟨(some 13), none, .mov (.t 110)⟩, ⟨(some 14), none, .mov (.t 111)⟩, ⟨(some 15), none, .mov (.t 112)⟩]) (.seq (.seq (.reg [⟨(some 113), none, .mov (.t 15)⟩, ⟨(some 114), none, .not (.t 113)⟩]) (.cond (.t 114) (.seq (.reg [⟨(some 4), none, .mov (.c (.p (.int .i64 0)))⟩, ⟨(some 5), none, .mov (.c (.p (.int .i64 0)))⟩, ⟨(some 6), none, .mov (.c (.p (.bool false)))⟩]) (.ret)) (.skip))) (.seq (.reg [⟨(some 115), none, .mov (.t 9)⟩, ⟨(some 116), none, .mov (.t 13)⟩, ⟨(some 117), none, .bin .add (.t 115) (.t 116)⟩, ⟨(some 9), none, .mov (.t 117)⟩]) (.reg [⟨(some 118), none, .mov (.t 10)⟩, ⟨(some 119), none, .mov (.t 14)⟩, ⟨(some 120), none, .bin .add (.t 119) (.c (.p (.int .i64 1)))⟩, ⟨(some 121), none, .mx (.t 118) (.t 120)⟩, ⟨(some 10), none, .mov (.t 121)⟩])))))) (.reg [⟨(some 122), none, .bin .add (.t 101) (.c (.p (.int .i64 1)))⟩, ⟨(some 101), none, .mov (.t 122)⟩]))))))) (.seq (.reg [⟨(some 123), none, .mov (.t 9)⟩, ⟨(some 124), none, .mov (.t 10)⟩, ⟨(some 125), none, .mov (.t 9)⟩, ⟨(some 126), none, .bin .leq (.t 125) (.c (.p (.int .i64 30)))⟩, ⟨(some 4), none, .mov (.t 123)⟩, ⟨(some 5), none, .mov (.t 124)⟩, ⟨(some 6), none, .mov (.t 126)⟩]) (.ret)))))))
theorem w_impl_exprSize : K_impl_exprSize.whole = F_impl_exprSize.ak := rfl
abbrev g_opSign : Nat := 1
def opK : List PV := [.int .i64 3, .int .i64 4, .int .i64 5, .int .i64 6, .int .i64 7, .int .i64 8, .int .i64 9, .int .i64 10]
def opV : List (List PV) := [[.str [43], .int .i64 3], [.str [45], .int .i64 3], [.str [42], .int .i64 4], [.str [47], .int .i64 4], [.str [37], .int .i64 4], [.str [60], .int .i64 2], [.str [61], .int .i64 2], [.str [38], .int .i64 1]]
def lvl (op : Int) : Int := if op = 10 then 1 else if op = 8 then 2 else if op = 9 then 2 else if op = 3 then 3 else if op = 4 then 3 else 4
def sgB (op : Int) : UInt8 := if op = 3 then 43 else if op = 4 then 45 else if op = 5 then 42 else if op = 6 then 47 else if op = 7 then 37 else if op = 8 then 60 else if op = 9 then 61 else 38
def sgn (op : Int) : Option AV := if 3 ≤ op ∧ op ≤ 10 then some (.agg [.p (.str [sgB op]), .p (.int .i64 (lvl op))]) else none
theorem opK_all (op : Int) : (opK.all fun k' => (keq (.int .i64 op) k').isSome) = true := by simp [opK, keq]
theorem opK_get (op : Int) : mgetk (.int .i64 op) (tblE opK opV) = some (sgn op) := by
  by_cases h : 3 ≤ op ∧ op ≤ 10
  · have h8 : op = 3 ∨ op = 4 ∨ op = 5 ∨ op = 6 ∨ op = 7 ∨ op = 8 ∨ op = 9 ∨ op = 10 := by omega
    rcases h8 with rfl | rfl | rfl | rfl | rfl | rfl | rfl | rfl <;> rfl
  · have e : sgn op = none := if_neg h
    have h3 : ¬ op = 3 := by omega
    have h4 : ¬ op = 4 := by omega
    have h5 : ¬ op = 5 := by omega
    have h6 : ¬ op = 6 := by omega
    have h7 : ¬ op = 7 := by omega
    have h8 : ¬ op = 8 := by omega
    have h9 : ¬ op = 9 := by omega
    have h10 : ¬ op = 10 := by omega
    rw [e]
    simp [opK, opV, tblE, mgetk, keq, h3, h4, h5, h6, h7, h8, h9, h10]
theorem lvl_pos (op : Int) : 0 < lvl op := by
  unfold lvl
  repeat' split
  all_goals omega
theorem lvl_lt (op : Int) : lvl op < 6 := by
  unfold lvl
  repeat' split
  all_goals omega
def lvI (op : Int) : Int := if 3 ≤ op ∧ op ≤ 10 then lvl op else if op = 11 ∨ op = 12 then 5 else 6
mutual
def Ex.deep : Ex → Nat
  | .mk _ _ _ k => 1 + exsD k
def exsD : List Ex → Nat
  | [] => 0
  | e :: r => max e.deep (exsD r)
end
theorem Ex.deep_eq (e : Ex) : e.deep = 1 + exsD e.kids := by cases e; rfl
theorem exsD_app : ∀ a b : List Ex, exsD (a ++ b) = max (exsD a) (exsD b)
  | [], b => by simp [exsD]
  | e :: r, b => by rw [List.cons_append, exsD, exsD, exsD_app r b]; omega
mutual
theorem Ex.deep_le : ∀ e : Ex, e.deep ≤ e.sz
  | .mk _ _ s k => by have := exsD_le k; simp only [Ex.deep, Ex.sz]; omega
theorem exsD_le : ∀ l : List Ex, exsD l ≤ exsZ l
  | [] => Nat.le_refl _
  | e :: r => by have := e.deep_le; have := exsD_le r; simp only [exsD, exsZ]; omega
end
theorem all_take_succ' {α : Type} {p : α → Bool} {xs : List α} {i : Nat} {c : α} (h : xs[i]? = some c) : (xs.take (i + 1)).all p = ((xs.take i).all p && p c) := by
  rw [List.take_add_one, h, List.all_append]; simp
def okE (m : Nat) (e : Ex) : Bool := formE m e && decide (e.parts ≤ 30)
def szOk : Nat → Ex → Bool
  | 0, _ => false
  | m + 1, e => headE e && e.kids.all (okE m)
theorem exsP_mem : ∀ {l : List Ex} {e : Ex}, e ∈ l → e.parts ≤ exsP l
  | x :: r, e, h => by
    simp only [exsP]
    rcases List.mem_cons.1 h with rfl | h
    · omega
    · have := exsP_mem h; omega
theorem szOk_eq (m : Nat) (e : Ex) : (szOk m e && decide (e.parts ≤ 30)) = okE m e := by
  cases m with
  | zero => simp [szOk, okE, formE]
  | succ m =>
    by_cases hp : e.parts ≤ 30
    · have h2 : e.kids.all (okE m) = e.kids.all (formE m) := by
        rw [Bool.eq_iff_iff, List.all_eq_true, List.all_eq_true]
        refine ⟨fun h x hx => ?_, fun h x hx => ?_⟩
        · have := h x hx; simp only [okE, Bool.and_eq_true] at this; exact this.1
        · have h1 := h x hx
          have := exsP_mem hx
          have := e.parts_eq
          simp only [okE, h1, Bool.true_and]
          simp; omega
      simp [szOk, okE, formE, h2]
    · simp [okE, hp]
theorem okE_six (e : Ex) : okE 6 e = exOk e := rfl
/-- What a look at an expression hands back. -/
def szA (m : Nat) (e : Ex) : AV := if szOk m e then .tup [.p (.int .i64 e.parts), .p (.int .i64 e.deep), .p (.bool (decide (e.parts ≤ 30)))] else .tup [.p (.int .i64 0), .p (.int .i64 0), .p (.bool false)]
def partH (e : Ex) : Bool := inR e.op 1 13 && (if e.op = 1 then inR e.n 0 255 && decide (e.name = []) else if e.op = 2 ∨ e.op = 13 then isName e.name && decide (e.n = 0) else true)
def restH (e : Ex) : Bool := (decide (e.op = 1 ∨ e.op = 2 ∨ e.op = 13) || (decide (e.n = 0) && decide (e.name = []))) && inR e.kids.length (loK e.op) (hiK e.op)
theorem isName_nil : isName [] = false := rfl
theorem headE_eq (e : Ex) : headE e = (partH e && restH e) := by
  unfold headE partH restH nmdE
  by_cases h1 : e.op = 1
  · simp only [h1]
    cases inR (e.kids.length : Int) (loK 1 : Nat) (hiK 1 : Nat) <;> by_cases hn : e.name = [] <;> cases h2 : inR e.n 0 255 <;> simp [hn, isName_nil, inR]
  by_cases h2 : e.op = 2
  · simp only [h2]
    cases inR (e.kids.length : Int) (loK 2 : Nat) (hiK 2 : Nat) <;> cases hi : isName e.name <;> by_cases hn : e.n = 0 <;> simp [hn, inR]
  by_cases h3 : e.op = 13
  · simp only [h3]
    cases inR (e.kids.length : Int) (loK 13 : Nat) (hiK 13 : Nat) <;> cases hi : isName e.name <;> by_cases hn : e.n = 0 <;> simp [hn, inR]
  · cases inR e.op 1 13 <;> cases inR (e.kids.length : Int) (loK e.op : Nat) (hiK e.op : Nat) <;> by_cases hn : e.n = 0 <;> by_cases hm : e.name = [] <;> simp [h1, h2, h3, hn, hm, isName_nil, inR]
variable (G : Glob) (hK : G g_keys = some pvKeys) (hS : G g_opSign = some [.tbl opK opV])
include hS
theorem i_levelOf (op : Int) : VF Tryd.prog G n_impl_levelOf [.p (.int .i64 op)] (.p (.int .i64 (lvI op))) := by
  refine AC.go k_impl_levelOf ?_
  have hall := opK_all op
  have hget := opK_get op
  have hS' : G 1 = some [.tbl opK opV] := hS
  have hlp := lvl_pos op
  by_cases h : 3 ≤ op ∧ op ≤ 10
  · have e : sgn op = some (.agg [.p (.str [sgB op]), .p (.int .i64 (lvl op))]) := if_pos h
    have e2 : lvI op = lvl op := if_pos h
    rw [e2]
    generalize lvl op = L at *
    simp -implicitDefEqProofs [F_impl_levelOf, hS', hall, hget, e, hlp]
  · have e : sgn op = none := if_neg h
    by_cases h11 : op = 11
    · subst h11; simp -implicitDefEqProofs [F_impl_levelOf, hS', hall, hget, e, lvI]
    by_cases h12 : op = 12
    · subst h12; simp -implicitDefEqProofs [F_impl_levelOf, hS', hall, hget, e, lvI]
    have e2 : lvI op = 6 := by rw [lvI, if_neg h, if_neg (by simp [h11, h12])]
    simp -implicitDefEqProofs [F_impl_levelOf, hS', hall, hget, e, e2, h11, h12]
include hK
theorem i_exprSize : ∀ (m : Nat) (e : Ex), e.sz ≤ 1073741824 → m ≤ 100 → VF Tryd.prog G n_impl_exprSize [.agg (e.cs.map .p), .p (.int .i64 m)] (szA m e) := by
  intro m
  induction m using Nat.strongRecOn with
  | _ m ih =>
  intro e he hm
  have hec := e.cs_eq
  have hsz := e.sz_eq
  have hkl := exsZ_len e.kids
  have hS' : G 1 = some [.tbl opK opV] := hS
  have hall := opK_all e.op
  have hget := opK_get e.op
  have hxl : exL e.kids = .lst 4 (e.kids.map Ex.cs) := rfl
  have hbad : (partH e && restH e && decide (1 ≤ m)) = false → szA m e = .tup [.p (.int .i64 0), .p (.int .i64 0), .p (.bool false)] := by
    intro h
    have : szOk m e = false := by
      cases m with
      | zero => rfl
      | succ m => rw [szOk, headE_eq]; simp at h; cases h1 : partH e <;> cases h2 : restH e <;> simp [h1, h2] at h ⊢
    rw [szA, this]; rfl
  have hb1 : partH e = false → szA m e = .tup [.p (.int .i64 0), .p (.int .i64 0), .p (.bool false)] := fun h => hbad (by rw [h]; rfl)
  refine AC.goK k_impl_exprSize w_impl_exprSize ?_
  simp -implicitDefEqProofs [K_impl_exprSize, F_impl_exprSize, hec]
  refine cutA (fun _ : Unit => tsOf 127 [(1, .p (.int .i64 m)), (2, .ptr 0 4 0 0), (7, .p (.int .i64 (loK e.op))), (8, .p (.int .i64 (hiK e.op)))]) (fun _ => [.row 4 [[.p (.int .i64 e.op), .p (.int .i64 e.n), .p (.str e.name), .p (exL e.kids)]]]) (fun _ => partH e = true) ?_ ?_
  · have fin : ∀ (r1 : List (Nat × AV)), Aw.look r1 1 = .p (.int .i64 m) → Aw.look r1 2 = .ptr 0 4 0 0 → Aw.look r1 7 = .p (.int .i64 (loK e.op)) → Aw.look r1 8 = .p (.int .i64 (hiK e.op)) →
        Wk 0 (tsOf 127 r1) [.row 4 [[.p (.int .i64 e.op), .p (.int .i64 e.n), .p (.str e.name), .p (exL e.kids)]]] (tsOf 127 [(1, .p (.int .i64 m)), (2, .ptr 0 4 0 0), (7, .p (.int .i64 (loK e.op))), (8, .p (.int .i64 (hiK e.op)))]) [.row 4 [[.p (.int .i64 e.op), .p (.int .i64 e.n), .p (.str e.name), .p (exL e.kids)]]] := fun r1 a b c d =>
      wkt_same (by simp) (by simp [okO, below]) (by simp [below, a, b, c, d])
    have hop1 : inR (1 : Int) 1 13 = true := rfl
    have hop2 : inR (2 : Int) 1 13 = true := rfl
    have hop13 : inR (13 : Int) 1 13 = true := rfl
    by_cases o1 : e.op = 1
    · rw [o1] at fin ⊢
      simp -implicitDefEqProofs [o1]
      refine (i_isByte G _).use ?_
      by_cases h1 : inR e.n 0 255 = true
      · by_cases h2 : e.name = []
        · have hp : partH e = true := by simp [partH, o1, h1, h2, hop1]
          rw [h2] at fin
          simp -implicitDefEqProofs [h1, h2, hp]
          exact fin _ (by simp) (by simp) (by simp [loK]) (by simp [hiK])
        · have hp : partH e = false := by simp [partH, o1, h1, h2, hop1]
          rw [hb1 hp]
          simp -implicitDefEqProofs [h1, h2]
      · have hp : partH e = false := by simp [partH, o1, h1, hop1]
        rw [hb1 hp]
        simp -implicitDefEqProofs [h1]
    by_cases o2 : e.op = 2
    · rw [o2] at fin ⊢
      simp -implicitDefEqProofs [o2]
      refine (i_IsName G hK _ (by omega)).use ?_
      by_cases h1 : isName e.name = true
      · by_cases h2 : e.n = 0
        · have hp : partH e = true := by simp [partH, o2, h1, h2, hop2]
          rw [h2] at fin
          simp -implicitDefEqProofs [h1, h2, hp]
          exact fin _ (by simp) (by simp) (by simp [loK]) (by simp [hiK])
        · have hp : partH e = false := by simp [partH, o2, h1, h2, hop2]
          rw [hb1 hp]
          simp -implicitDefEqProofs [h1, h2]
      · have hp : partH e = false := by simp [partH, o2, h1, hop2]
        rw [hb1 hp]
        simp -implicitDefEqProofs [h1]
    by_cases o13 : e.op = 13
    · rw [o13] at fin ⊢
      simp -implicitDefEqProofs [o13]
      refine (i_IsName G hK _ (by omega)).use ?_
      by_cases h1 : isName e.name = true
      · by_cases h2 : e.n = 0
        · have hp : partH e = true := by simp [partH, o13, h1, h2, hop13]
          rw [h2] at fin
          simp -implicitDefEqProofs [h1, h2, hp]
          exact fin _ (by simp) (by simp) (by simp [loK]) (by simp [hiK])
        · have hp : partH e = false := by simp [partH, o13, h1, h2, hop13]
          rw [hb1 hp]
          simp -implicitDefEqProofs [h1, h2]
      · have hp : partH e = false := by simp [partH, o13, h1, hop13]
        rw [hb1 hp]
        simp -implicitDefEqProofs [h1]
    have hlp := lvl_pos e.op
    by_cases h : 3 ≤ e.op ∧ e.op ≤ 10
    · have es : sgn e.op = some (.agg [.p (.str [sgB e.op]), .p (.int .i64 (lvl e.op))]) := if_pos h
      have hp : partH e = true := by simp [partH, o1, o2, o13, inR]; omega
      have o11 : ¬ e.op = 11 := by omega
      have o12 : ¬ e.op = 12 := by omega
      have elo : loK e.op = 2 := by simp [loK, o1, o2, o11, o12, o13]
      have ehi : hiK e.op = 2 := by simp [hiK, o1, o2, o11, o12, o13]
      generalize lvl e.op = L at *
      simp -implicitDefEqProofs [o1, o2, o13, hS', hall, hget, es, hlp, hp]
      exact fin _ (by simp) (by simp) (by simp [elo]) (by simp [ehi])
    have es : sgn e.op = none := if_neg h
    by_cases o11 : e.op = 11
    · have hp : partH e = true := by simp [partH, o11, inR]
      have elo : loK e.op = 1 := by simp [loK, o11]
      have ehi : hiK e.op = 1 := by simp [hiK, o11]
      rw [o11] at hall hget es fin
      simp -implicitDefEqProofs [o11, hS', hall, hget, es, hp]
      exact fin _ (by simp) (by simp) (by simp [loK]) (by simp [hiK])
    by_cases o12 : e.op = 12
    · have hp : partH e = true := by simp [partH, o12, inR]
      rw [o12] at hall hget es fin
      simp -implicitDefEqProofs [o12, hS', hall, hget, es, hp]
      exact fin _ (by simp) (by simp) (by simp [loK]) (by simp [hiK])
    · have hp : partH e = false := by simp [partH, o1, o2, o13, inR]; omega
      rw [hb1 hp]
      simp -implicitDefEqProofs [o1, o2, o13, hS', hall, hget, es, o11, o12]
  intro _ hp
  have hop : 1 ≤ e.op ∧ e.op ≤ 13 := by
    simp only [partH, Bool.and_eq_true, inR, decide_eq_true_eq] at hp
    exact hp.1
  have hb2 : restH e = false → szA m e = .tup [.p (.int .i64 0), .p (.int .i64 0), .p (.bool false)] := fun h => hbad (by rw [h]; simp)
  have hb3 : m < 1 → szA m e = .tup [.p (.int .i64 0), .p (.int .i64 0), .p (.bool false)] := by
    intro h
    have hd : decide (1 ≤ m) = false := by simp; omega
    exact hbad (by rw [hd]; simp)
  refine cutA (fun _ : Unit => tsOf 127 [(1, .p (.int .i64 m)), (2, .ptr 0 4 0 0)]) (fun _ => [.row 4 [[.p (.int .i64 e.op), .p (.int .i64 e.n), .p (.str e.name), .p (exL e.kids)]]]) (fun _ => restH e = true ∧ 1 ≤ m) ?_ ?_
  · have fin : ∀ (r1 : List (Nat × AV)), Aw.look r1 1 = .p (.int .i64 m) → Aw.look r1 2 = .ptr 0 4 0 0 →
        Wk 0 (tsOf 127 r1) [.row 4 [[.p (.int .i64 e.op), .p (.int .i64 e.n), .p (.str e.name), .p (exL e.kids)]]] (tsOf 127 [(1, .p (.int .i64 m)), (2, .ptr 0 4 0 0)]) [.row 4 [[.p (.int .i64 e.op), .p (.int .i64 e.n), .p (.str e.name), .p (exL e.kids)]]] := fun r1 a b =>
      wkt_same (by simp) (by simp [okO, below]) (by simp [below, a, b])
    simp -implicitDefEqProofs []
    refine (i_levelOf G hS e.op).use ?_
    by_cases ho : e.op = 1 ∨ e.op = 2 ∨ e.op = 13
    · have hlv : lvI e.op = 6 := by
        rw [lvI, if_neg (by omega), if_neg (by omega)]
      have hd : decide (e.op = 1 ∨ e.op = 2 ∨ e.op = 13) = true := by simpa using ho
      simp -implicitDefEqProofs [hlv, hxl]
      refine (i_within G _ _ _).use ?_
      by_cases hk : inR e.kids.length (loK e.op) (hiK e.op) = true
      · have hr : restH e = true := by rw [restH, hd, hk]; rfl
        by_cases hm1 : m < 1
        · have hm1' : (m : Int) < 1 := by omega
          rw [hb3 hm1]
          simp -implicitDefEqProofs [hk, hm1']
        · have hm1' : ¬ (m : Int) < 1 := by omega
          have hm2 : 1 ≤ m := by omega
          simp -implicitDefEqProofs [hk, hm1', hr, hm2]
          exact fin _ (by simp) (by simp)
      · have hk' : inR e.kids.length (loK e.op) (hiK e.op) = false := by simpa using hk
        have hr : restH e = false := by rw [restH, hk', Bool.and_false]
        rw [hb2 hr]
        simp -implicitDefEqProofs [hk']
    · have hlv : lvI e.op < 6 := by
        have := lvl_lt e.op
        unfold lvI
        split
        · exact this
        · rw [if_pos (by omega)]; omega
      have hd : decide (e.op = 1 ∨ e.op = 2 ∨ e.op = 13) = false := by simpa using ho
      generalize lvI e.op = L at hlv ⊢
      by_cases h1 : e.n = 0
      · by_cases h2 : e.name = []
        · have hz : decide (e.n = 0) = true ∧ decide (e.name = []) = true := by simp [h1, h2]
          simp -implicitDefEqProofs [hlv, h1, h2, hxl]
          refine (i_within G _ _ _).use ?_
          rw [h1, h2] at fin
          by_cases hk : inR e.kids.length (loK e.op) (hiK e.op) = true
          · have hr : restH e = true := by rw [restH, hd, hk, hz.1, hz.2]; rfl
            by_cases hm1 : m < 1
            · have hm1' : (m : Int) < 1 := by omega
              rw [hb3 hm1]
              simp -implicitDefEqProofs [hk, hm1']
            · have hm1' : ¬ (m : Int) < 1 := by omega
              have hm2 : 1 ≤ m := by omega
              simp -implicitDefEqProofs [hk, hm1', hr, hm2]
              exact fin _ (by simp) (by simp)
          · have hk' : inR e.kids.length (loK e.op) (hiK e.op) = false := by simpa using hk
            have hr : restH e = false := by rw [restH, hk', Bool.and_false]
            rw [hb2 hr]
            simp -implicitDefEqProofs [hk']
        · have hr : restH e = false := by rw [restH, hd]; simp [h2]
          rw [hb2 hr]
          simp -implicitDefEqProofs [hlv, h1, h2]
      · have hr : restH e = false := by rw [restH, hd]; simp [h1]
        rw [hb2 hr]
        simp -implicitDefEqProofs [hlv, h1]
  rintro _ ⟨hr, hm1⟩
  have hhd : headE e = true := by rw [headE_eq, hp, hr]; rfl
  obtain ⟨m', rfl⟩ : ∃ m', m = m' + 1 := ⟨m - 1, by omega⟩
  have hszO : szOk (m' + 1) e = e.kids.all (okE m') := by rw [szOk, hhd]; rfl
  have hpe := e.parts_eq
  have hde := e.deep_eq
  have hpl := e.parts_le
  have hwm : IntKind.i64.wrap (((m' + 1 : Nat) : Int) - 1) = (m' : Int) := by rw [i64_small (by omega) (by omega)]; omega
  simp -implicitDefEqProofs [hxl]
  refine loopA (fun i : Nat => tsOf 127 [(1, .p (.int .i64 ((m' : Int) + 1))), (2, .ptr 0 4 0 0), (9, .p (.int .i64 ((1 + exsP (e.kids.take i) : Nat) : Int))), (10, .p (.int .i64 ((1 + exsD (e.kids.take i) : Nat) : Int))), (99, .p (exL e.kids)), (100, .p (.int .i64 e.kids.length)), (101, .p (.int .i64 i))])
    (fun _ => [.row 4 [[.p (.int .i64 e.op), .p (.int .i64 e.n), .p (.str e.name), .p (exL e.kids)]]]) (fun i => i ≤ e.kids.length ∧ (e.kids.take i).all (okE m') = true) (fun i => e.kids.length - i) 0 (by simp) ?_ ?_
  · exact wkt_same (by simp) (by simp [okO, below]) (by simp [below, hxl, exsP, exsD])
  rintro i ⟨hi, ha⟩
  have hwm' : IntKind.i64.wrap (m' : Int) = (m' : Int) := i64_small (by omega) (by omega)
  simp -implicitDefEqProofs [hxl]
  refine cndb (fun h => ?_) (fun h => ?_)
  · simp at h
    have hg := List.getElem?_eq_getElem h
    have hks := exsZ_mem (List.getElem_mem h)
    have hkc := e.kids[i].cs_eq
    have hpt : exsP (e.kids.take (i + 1)) = exsP (e.kids.take i) + e.kids[i].parts := by rw [take_succ' h, exsP_append]; simp [exsP]
    have hdt : exsD (e.kids.take (i + 1)) = max (exsD (e.kids.take i)) e.kids[i].deep := by rw [take_succ' h, exsD_app]; simp [exsD]
    have hpl1 : exsP (e.kids.take (i + 1)) ≤ e.parts := by
      have := exsP_append (e.kids.take (i + 1)) (e.kids.drop (i + 1))
      rw [List.take_append_drop] at this
      omega
    have hok := szOk_eq m' e.kids[i]
    have hdl : e.kids[i].deep ≤ e.kids[i].sz := Ex.deep_le _
    have hdl2 : exsD (e.kids.take i) ≤ e.sz := by
      have h1 := exsD_le (e.kids.take i)
      have h2 := exsZ_append (e.kids.take i) (e.kids.drop i)
      rw [List.take_append_drop] at h2
      omega
    generalize e.kids[i] = c at *
    simp -implicitDefEqProofs [hg, hkc, hwm']
    have hI := ih m' (by omega) c (by omega) (by omega)
    rw [hkc] at hI
    by_cases ho : okE m' c = true
    · have h1 : szOk m' c = true ∧ c.parts ≤ 30 := by rw [ho] at hok; simpa using hok
      have hA : szA m' c = .tup [.p (.int .i64 c.parts), .p (.int .i64 c.deep), .p (.bool true)] := by rw [szA, if_pos h1.1]; simp [h1.2]
      rw [hA] at hI
      refine hI.use ?_
      have hw1 : IntKind.i64.wrap (1 + (exsP (e.kids.take i) : Int) + (c.parts : Int)) = ((1 + exsP (e.kids.take (i + 1)) : Nat) : Int) := by rw [i64_small (by omega) (by omega)]; omega
      have hw2 : IntKind.i64.wrap ((c.deep : Int) + 1) = (c.deep : Int) + 1 := i64_small (by omega) (by omega)
      have hmx : (if 1 + (exsD (e.kids.take i) : Int) < (c.deep : Int) + 1 then (c.deep : Int) + 1 else 1 + (exsD (e.kids.take i) : Int)) = 1 + (exsD (e.kids.take (i + 1)) : Int) := by
        rw [hdt]; split <;> omega
      simp -implicitDefEqProofs [hw1, hw2, hmx]
      refine ⟨i + 1, ⟨h, by rw [← List.all_eq_true, all_take_succ' hg, ha, ho]; rfl⟩, by omega, ?_⟩
      refine wkt_fst (m := 1) (by omega) (fst_take rfl rfl (by simp [okO, below])) (by simp [below, hxl, w1 (i := i) (by omega)])
    · have hf : e.kids.all (okE m') = false := List.all_eq_false.2 ⟨c, List.mem_of_getElem? hg, by simpa using ho⟩
      have hA2 : szA (m' + 1) e = .tup [.p (.int .i64 0), .p (.int .i64 0), .p (.bool false)] := by rw [szA, hszO, hf]; rfl
      rw [hA2]
      by_cases h1 : szOk m' c = true
      · have h2 : ¬ c.parts ≤ 30 := fun h2 => ho (by rw [← hok, h1]; simpa using h2)
        have hA : szA m' c = .tup [.p (.int .i64 c.parts), .p (.int .i64 c.deep), .p (.bool false)] := by rw [szA, if_pos h1]; simp [h2]
        rw [hA] at hI
        refine hI.use ?_
        simp -implicitDefEqProofs []
      · have hA : szA m' c = .tup [.p (.int .i64 0), .p (.int .i64 0), .p (.bool false)] := by rw [szA, if_neg h1]
        rw [hA] at hI
        refine hI.use ?_
        simp -implicitDefEqProofs []
  · simp at h
    rw [List.take_of_length_le h] at ha ⊢
    have hA : szA (m' + 1) e = .tup [.p (.int .i64 e.parts), .p (.int .i64 e.deep), .p (.bool (decide (e.parts ≤ 30)))] := by rw [szA, hszO, ha]; rfl
    rw [hA, hpe, hde]
    simp -implicitDefEqProofs []
    omega
theorem i_ExprValid (e : Ex) (he : e.sz ≤ 1073741824) : VF Tryd.prog G n_impl_ExprValid [.agg (e.cs.map .p)] (.p (.bool (exOk e))) := by
  refine AC.go k_impl_ExprValid ?_
  have hec := e.cs_eq
  have hx := i_exprSize G hK hS 6 e he (by omega)
  rw [hec] at hx
  simp -implicitDefEqProofs [F_impl_ExprValid, hec]
  rw [← okE_six, ← szOk_eq]
  unfold szA at hx
  by_cases h : szOk 6 e = true
  · rw [if_pos h] at hx
    rw [h]
    refine hx.use ?_
    simp -implicitDefEqProofs []
  · have h' : szOk 6 e = false := by simpa using h
    rw [if_neg h] at hx
    rw [h']
    refine hx.use ?_
    simp -implicitDefEqProofs []
end Go.Proofs.YtiojgfhdcpppcaaDoor
namespace Go.Proofs.YtiojgfhdcpppcaaDoor
open Go Go.Aw
set_option maxRecDepth 100000
set_option maxHeartbeats 4000000
def K_impl_stmtOk : AK := .seq (.reg [⟨(some 2), none, .box 5 (.t 0)⟩, ⟨(some 4), none, .mov (.c (.p (.bool false)))⟩]) (.seq (.reg [⟨(some 12), none, .fldA 0 (.t 2)⟩, ⟨(some 13), none, .ld none (.t 12)⟩, ⟨(some 14), none, .call n_impl_argCount [(.t 13)]⟩, ⟨(some 11), none, .mov (.t 14)⟩, ⟨(some 15), none, .ext 0 (.t 11)⟩, ⟨(some 16), none, .ext 1 (.t 11)⟩, ⟨(some 17), none, .ext 2 (.t 11)⟩, ⟨(some 18), none, .ext 3 (.t 11)⟩, ⟨(some 5), none, .mov (.t 15)⟩, ⟨(some 6), none, .mov (.t 16)⟩, ⟨(some 7), none, .mov (.t 17)⟩, ⟨(some 8), none, .mov (.t 18)⟩]) (.cut (.blk 0 (.seq (.seq (.reg [⟨(some 20), none, .mov (.t 1)⟩, ⟨(some 21), none, .bin .gtr (.t 20) (.c (.p (.int .i64 4)))⟩, ⟨(some 19), none, .mov (.t 21)⟩]) (.cond (.t 19) (.skip) (.seq (.reg [⟨(some 22), none, .fldA 2 (.t 2)⟩, ⟨(some 23), none, .ld none (.t 22)⟩, ⟨(some 24), none, .len false (.t 23)⟩, ⟨(some 25), none, .mov (.t 5)⟩, ⟨(some 26), none, .bin .neq (.t 24) (.t 25)⟩, ⟨(some 19), none, .mov (.t 26)⟩]) (.cond (.t 19) (.skip) (.cut (.reg [⟨(some 27), none, .mov (.t 6)⟩, ⟨(some 28), none, .mov (.t 27)⟩, ⟨(some 29), (some (28, true)), .fldA 1 (.t 2)⟩, ⟨(some 30), (some (28, true)), .ld none (.t 29)⟩, ⟨(some 31), (some (28, true)), .call n_impl_IsName [(.t 30)]⟩, ⟨(some 32), (some (28, true)), .not (.t 31)⟩, ⟨(some 33), none, .pick (.t 28) (.t 32) (.c (.p (.bool false)))⟩, ⟨(some 19), none, .mov (.t 33)⟩]) (.cond (.t 19) (.skip) (.cut (.reg [⟨(some 34), none, .mov (.t 6)⟩, ⟨(some 35), none, .not (.t 34)⟩, ⟨(some 36), none, .mov (.t 35)⟩, ⟨(some 37), (some (36, true)), .fldA 1 (.t 2)⟩, ⟨(some 38), (some (36, true)), .ld none (.t 37)⟩, ⟨(some 39), (some (36, true)), .bins .neq (.t 38) (.c (.p (.str [])))⟩, ⟨(some 40), none, .pick (.t 36) (.t 39) (.c (.p (.bool false)))⟩, ⟨(some 19), none, .mov (.t 40)⟩]) (.cond (.t 19) (.skip) (.cut (.reg [⟨(some 41), none, .mov (.t 7)⟩, ⟨(some 42), none, .not (.t 41)⟩, ⟨(some 43), none, .mov (.t 42)⟩, ⟨(some 44), (some (43, true)), .fldA 3 (.t 2)⟩, ⟨(some 45), (some (43, true)), .ld none (.t 44)⟩, ⟨(some 46), (some (43, true)), .len false (.t 45)⟩, ⟨(some 47), (some (43, true)), .bin .gtr (.t 46) (.c (.p (.int .i64 0)))⟩, ⟨(some 48), none, .pick (.t 43) (.t 47) (.c (.p (.bool false)))⟩, ⟨(some 19), none, .mov (.t 48)⟩]) (.cond (.t 19) (.skip) (.cut (.reg [⟨(some 49), none, .mov (.t 8)⟩, ⟨(some 50), none, .not (.t 49)⟩, ⟨(some 51), none, .mov (.t 50)⟩, ⟨(some 52), (some (51, true)), .fldA 4 (.t 2)⟩, ⟨(some 53), (some (51, true)), .ld none (.t 52)⟩, ⟨(some 54), (some (51, true)), .len false (.t 53)⟩, ⟨(some 55), (some (51, true)), .bin .gtr (.t 54) (.c (.p (.int .i64 0)))⟩, ⟨(some 56), none, .pick (.t 51) (.t 55) (.c (.p (.bool false)))⟩, ⟨(some 19), none, .mov (.t 56)⟩]) (.cond (.t 19) (.skip) (.reg [⟨(some 57), none, .fldA 0 (.t 2)⟩, ⟨(some 58), none, .ld none (.t 57)⟩, ⟨(some 59), none, .bin .eql (.t 58) (.c (.p (.int .i64 8)))⟩, ⟨(some 60), none, .mov (.t 59)⟩, ⟨(some 61), (some (60, true)), .fldA 2 (.t 2)⟩, ⟨(some 62), (some (60, true)), .ld none (.t 61)⟩, ⟨(some 63), (some (60, true)), .idxS 4 (.t 62) (.c (.p (.int .i64 0)))⟩, ⟨(some 64), (some (60, true)), .fldA 0 (.t 63)⟩, ⟨(some 65), (some (60, true)), .ld none (.t 64)⟩, ⟨(some 66), (some (60, true)), .bin .neq (.t 65) (.c (.p (.int .i64 13)))⟩, ⟨(some 67), none, .pick (.t 60) (.t 66) (.c (.p (.bool false)))⟩, ⟨(some 19), none, .mov (.t 67)⟩]))))))))))))) (.cond (.t 19) (.seq (.reg [⟨(some 4), none, .mov (.c (.p (.bool false)))⟩]) (.ret)) (.skip)))) (.seq (.seq (.reg [⟨(some 68), none, .fldA 2 (.t 2)⟩, ⟨(some 69), none, .ld none (.t 68)⟩, ⟨(some 70), none, .len false (.t 69)⟩, ⟨(some 71), none, .mov (.c (.p (.int .i64 0)))⟩]) (.blk 1 (.loop (.seq (.reg [⟨(some 72), none, .bin .lss (.t 71) (.t 70)⟩]) (.seq (.cond (.t 72) (.skip) (.exit 1)) (.seq (.blk 2 (.seq (.reg [⟨(some 73), none, .idxS 4 (.t 69) (.t 71)⟩, ⟨(some 74), none, .ld (some 4) (.t 73)⟩, ⟨(some 10), none, .alloc [(.p (.int .i64 0)), (.p (.int .i64 0)), (.p (.str [])), .nils]⟩, ⟨none, none, .st 4 (.t 10) (.t 74)⟩]) (.seq (.reg [⟨(some 75), none, .ld (some 4) (.t 10)⟩, ⟨(some 76), none, .call n_impl_ExprValid [(.t 75)]⟩, ⟨(some 77), none, .not (.t 76)⟩]) (.cond (.t 77) (.seq (.reg [⟨(some 4), none, .mov (.c (.p (.bool false)))⟩]) (.ret)) (.skip))))) (.reg [⟨(some 78), none, .bin .add (.t 71) (.c (.p (.int .i64 1)))⟩, ⟨(some 71), none, .mov (.t 78)⟩]))))))) (.seq (.reg [⟨(some 79), none, .fldA 3 (.t 2)⟩, ⟨(some 80), none, .ld none (.t 79)⟩, ⟨(some 81), none, .mov (.t 1)⟩, ⟨(some 82), none, .bin .add (.t 81) (.c (.p (.int .i64 1)))⟩, ⟨(some 83), none, .call n_impl_blockOk [(.t 80), (.t 82)]⟩, ⟨(some 84), none, .mov (.t 83)⟩, ⟨(some 85), (some (84, true)), .fldA 4 (.t 2)⟩, ⟨(some 86), (some (84, true)), .ld none (.t 85)⟩, ⟨(some 87), (some (84, true)), .mov (.t 1)⟩, ⟨(some 88), (some (84, true)), .bin .add (.t 87) (.c (.p (.int .i64 1)))⟩, ⟨(some 89), (some (84, true)), .call n_impl_blockOk [(.t 86), (.t 88)]⟩, ⟨(some 90), none, .pick (.t 84) (.t 89) (.c (.p (.bool false)))⟩, ⟨(some 4), none, .mov (.t 90)⟩]) (.ret)))))
theorem w_impl_stmtOk : K_impl_stmtOk.whole = F_impl_stmtOk.ak := rfl
variable (G : Glob)
def argI (op : Int) : Int := if op = 4 then 2 else if inR op 1 8 then 1 else -1
def bodS (op : Int) : Bool := decide (op = 5) || decide (op = 6)
theorem i_argCount (op : Int) : VF Tryd.prog G n_impl_argCount [.p (.int .i64 op)] (.tup [.p (.int .i64 (argI op)), .p (.bool (nmdS op)), .p (.bool (bodS op)), .p (.bool (decide (op = 5)))]) := by
  refine AC.go k_impl_argCount ?_
  by_cases h1 : op = 1
  · subst h1; simp -implicitDefEqProofs [F_impl_argCount, argI, inR, nmdS, bodS]
  by_cases h2 : op = 2
  · subst h2; simp -implicitDefEqProofs [F_impl_argCount, argI, inR, nmdS, bodS]
  by_cases h3 : op = 3
  · subst h3; simp -implicitDefEqProofs [F_impl_argCount, argI, inR, nmdS, bodS]
  by_cases h4 : op = 4
  · subst h4; simp -implicitDefEqProofs [F_impl_argCount, argI, inR, nmdS, bodS]
  by_cases h5 : op = 5
  · subst h5; simp -implicitDefEqProofs [F_impl_argCount, argI, inR, nmdS, bodS]
  by_cases h6 : op = 6
  · subst h6; simp -implicitDefEqProofs [F_impl_argCount, argI, inR, nmdS, bodS]
  by_cases h7 : op = 7
  · subst h7; simp -implicitDefEqProofs [F_impl_argCount, argI, inR, nmdS, bodS]
  by_cases h8 : op = 8
  · subst h8; simp -implicitDefEqProofs [F_impl_argCount, argI, inR, nmdS, bodS]
  have ha : argI op = -1 := by
    have : inR op 1 8 = false := by simp [inR]; omega
    rw [argI, if_neg h4, this]; rfl
  have hn : nmdS op = false := by simp [nmdS, h1, h2]
  have hb : bodS op = false := by simp [bodS, h5, h6]
  rw [ha, hn, hb]
  simp -implicitDefEqProofs [F_impl_argCount, h1, h2, h3, h4, h5, h6, h7, h8]
def hd13 : List Ex → Bool
  | a :: _ => decide (a.op = 13)
  | [] => false
/-- The first part of a look at a statement. -/
def headS1 (s : Sm) : Bool := decide ((s.args.length : Int) = argI s.op) && (!nmdS s.op || isName s.name) && (nmdS s.op || decide (s.name = [])) && (bodS s.op || decide (s.body = [])) && (decide (s.op = 5) || decide (s.els = [])) &&
  (!decide (s.op = 8) || hd13 s.args)
theorem headS_def (s : Sm) : headS s = (inR s.op 1 8 && decide (s.args.length = argsN s.op) && (nmdS s.op == isName s.name) && (nmdS s.op || decide (s.name = [])) && s.args.all exOk &&
    (!decide (s.op = 8) || hd13 s.args) && (s.els.isEmpty || decide (s.op = 5)) && (s.body.isEmpty || decide (s.op = 5) || decide (s.op = 6))) := by
  unfold headS
  cases s.args <;> rfl
theorem headS_eq (s : Sm) : headS s = (headS1 s && s.args.all exOk) := by
  have ha : decide ((s.args.length : Int) = argI s.op) = (inR s.op 1 8 && decide (s.args.length = argsN s.op)) := by
    unfold argI argsN
    by_cases h4 : s.op = 4
    · have : inR s.op 1 8 = true := by simp [inR, h4]
      rw [this, if_pos h4, if_pos h4]; simp; omega
    · rw [if_neg h4, if_neg h4]
      cases h : inR s.op 1 8 with
      | true => simp; omega
      | false => simp
  have hn : (nmdS s.op == isName s.name && (nmdS s.op || decide (s.name = []))) = ((!nmdS s.op || isName s.name) && (nmdS s.op || decide (s.name = []))) := by
    cases nmdS s.op with
    | true => cases isName s.name <;> rfl
    | false =>
      by_cases h : s.name = []
      · rw [h, isName_nil]; rfl
      · simp [h]
  have hb : (s.body.isEmpty || decide (s.op = 5) || decide (s.op = 6)) = (bodS s.op || decide (s.body = [])) := by
    rw [bodS]
    cases s.body <;> cases decide (s.op = 5) <;> cases decide (s.op = 6) <;> simp
  have he : (s.els.isEmpty || decide (s.op = 5)) = (decide (s.op = 5) || decide (s.els = [])) := by
    cases s.els <;> cases decide (s.op = 5) <;> simp
  rw [headS_def]
  unfold headS1
  rw [ha, hb, he]
  generalize hd13 s.args = z
  generalize (nmdS s.op == isName s.name) = c at hn ⊢
  generalize (!nmdS s.op || isName s.name) = c' at hn ⊢
  generalize (nmdS s.op || decide (s.name = [])) = d at hn ⊢
  generalize s.args.all exOk = x
  generalize (bodS s.op || decide (s.body = [])) = y
  generalize (decide (s.op = 5) || decide (s.els = [])) = y'
  generalize (!decide (s.op = 8)) = u
  cases inR s.op 1 8 <;> cases decide (s.args.length = argsN s.op) <;> cases c <;> cases c' <;> cases d <;> cases x <;> cases y <;> cases y' <;> cases u <;> cases z <;> simp_all
variable (hK : G g_keys = some pvKeys) (hS : G g_opSign = some [.tbl opK opV])
def idxF (d : Nat) (L : List Sm) : Int := match L.findIdx? (fun s => !formS d s) with | some i => i | none => -1
theorem idxF_pos (d : Nat) (L : List Sm) : decide (0 ≤ idxF d L) = !(L.all (formS d)) := by
  unfold idxF
  cases h : L.findIdx? (fun x => !formS d x) with
  | none =>
    rw [List.findIdx?_eq_none_iff] at h
    have : L.all (formS d) = true := List.all_eq_true.2 fun x hx => by have := h x hx; simpa using this
    simp [this]
  | some i =>
    rw [List.findIdx?_eq_some_iff_getElem] at h
    obtain ⟨h1, h2, _⟩ := h
    have : L.all (formS d) = false := List.all_eq_false.2 ⟨_, List.getElem_mem h1, by simpa using h2⟩
    rw [this]; simp
theorem i_blockOkOf (d : Nat) (nest : Int) (hs : ∀ s : Sm, s.sz ≤ 1073741824 → VF Tryd.prog G n_impl_stmtOk [.agg (s.cs.map .p), .p (.int .i64 nest)] (.p (.bool (formS d s)))) (L : List Sm) (hL : smsZ L ≤ 1073741824) :
    VF Tryd.prog G n_impl_blockOk [.p (smL L), .p (.int .i64 nest)] (.p (.bool (L.all (formS d)))) := by
  have hsl : smL L = .lst 5 (L.map Sm.cs) := rfl
  have hll := smsZ_len L
  have one : ∀ s : Sm, s.sz ≤ 1073741824 → AC Tryd.prog G n_impl_blockOk_1 [.agg (s.cs.map .p), .ptr 0 1 0 0] [.row 1 [[.p (.int .i64 nest)]]] fun x h => x = .ret (.p (.bool (!formS d s))) ∧ h = [.row 1 [[.p (.int .i64 nest)]]] := by
    intro s hz
    refine AC.trim (AC.go k_impl_blockOk_1 ?_) (by simp [below])
    have hse := s.cs_eq
    have h1 := hs s hz
    rw [hse] at h1
    simp -implicitDefEqProofs [F_impl_blockOk_1, hse]
    refine h1.use ?_
    simp -implicitDefEqProofs []
  have idx : AC Tryd.prog G n_slices_IndexFunc_impl_Stmt [.p (smL L), .fn (.func n_impl_blockOk_1) [.ptr 0 1 0 0]] [.row 1 [[.p (.int .i64 nest)]]] fun x h => x = .ret (.p (.int .i64 (idxF d L))) ∧ h = [.row 1 [[.p (.int .i64 nest)]]] := by
    refine AC.go k_slices_IndexFunc_impl_Stmt ?_
    simp -implicitDefEqProofs [F_slices_IndexFunc_impl_Stmt, hsl]
    refine loopA (fun i : Nat => tsOf 19 [(0, .p (smL L)), (1, .fn (.func n_impl_blockOk_1) [.ptr 0 1 0 0]), (7, .p (.int .i64 L.length)), (8, .p (.int .i64 i))]) (fun _ => [.row 1 [[.p (.int .i64 nest)]]]) (fun i => i ≤ L.length ∧ ∀ w ∈ L.take i, formS d w = true) (fun i => L.length - i) 0 (by simp) ?_ ?_
    · exact wkt_same (by simp) (by simp [okO, below]) (by simp [below, belowL, hsl])
    · intro i ⟨hi, hn⟩
      simp -implicitDefEqProofs [hsl]
      refine cndb (fun h1 => ?_) (fun h1 => ?_)
      · simp at h1
        have hg := List.getElem?_eq_getElem h1
        have hz := smsZ_mem (List.getElem_mem h1)
        simp -implicitDefEqProofs [hg]
        refine (one L[i] (by omega)).mono ?_
        rintro r h ⟨rfl, rfl⟩
        by_cases he : formS d L[i] = true
        · simp -implicitDefEqProofs [callR_nxt, he]
          refine ⟨i + 1, ⟨h1, fun p hp => ?_⟩, by omega, wkt_same (by simp) (by simp [okO, below]) (by simp [below, belowL, hsl, w1 (i := i) (by omega)])⟩
          rw [take_succ' h1] at hp
          rcases List.mem_append.1 hp with hp | hp
          · exact hn p hp
          · rw [List.mem_singleton.1 hp]; exact he
        · have hf : idxF d L = i := by
            have : L.findIdx? (fun w => !formS d w) = some i := by
              rw [List.findIdx?_eq_some_iff_getElem]
              exact ⟨h1, by simpa using he, fun j hj => by have := hn L[j] (List.mem_take_iff_getElem.2 ⟨j, by omega, rfl⟩); simpa using this⟩
            rw [idxF, this]
          simp -implicitDefEqProofs [callR_nxt, he, hf]
      · simp at h1
        rw [List.take_of_length_le h1] at hn
        have hf : idxF d L = -1 := by
          have : L.findIdx? (fun w => !formS d w) = none := by
            rw [List.findIdx?_eq_none_iff]; intro x hx; simpa using hn x hx
          rw [idxF, this]
        simp -implicitDefEqProofs [hf]
  have con : AC Tryd.prog G n_slices_ContainsFunc_impl_Stmt [.p (smL L), .fn (.func n_impl_blockOk_1) [.ptr 0 1 0 0]] [.row 1 [[.p (.int .i64 nest)]]] fun x h => x = .ret (.p (.bool (!L.all (formS d)))) ∧ h = [.row 1 [[.p (.int .i64 nest)]]] := by
    refine AC.go k_slices_ContainsFunc_impl_Stmt ?_
    simp -implicitDefEqProofs [F_slices_ContainsFunc_impl_Stmt]
    refine idx.mono ?_
    rintro r h ⟨rfl, rfl⟩
    have := idxF_pos d L
    simp -implicitDefEqProofs [callR_nxt]
    simpa using this
  refine AC.go k_impl_blockOk ?_
  simp -implicitDefEqProofs [F_impl_blockOk]
  refine con.mono ?_
  rintro r h ⟨rfl, rfl⟩
  simp -implicitDefEqProofs [callR_nxt]
include hS hK
theorem i_stmtOk : ∀ d : Nat, d ≤ 4 → ∀ s : Sm, s.sz ≤ 1073741824 → VF Tryd.prog G n_impl_stmtOk [.agg (s.cs.map .p), .p (.int .i64 (5 - d))] (.p (.bool (formS d s))) := by
  intro d
  induction d with
  | zero =>
    intro _ s hz
    have hse := s.cs_eq
    refine AC.go k_impl_stmtOk ?_
    simp -implicitDefEqProofs [F_impl_stmtOk, hse]
    refine (i_argCount G _).use ?_
    simp -implicitDefEqProofs [formS]
  | succ d ih =>
    intro hd s hz
    have hse := s.cs_eq
    have hsz := s.sz_eq
    have hal := exsZ_len s.args
    have hblk := i_blockOkOf G d (5 - d) (ih (by omega))
    have hnn : (5 : Int) - ((d + 1 : Nat) : Int) = 4 - d := by omega
    have hnw : IntKind.i64.wrap (4 - (d : Int) + 1) = 5 - d := by rw [i64_small (by omega) (by omega)]; omega
    have hn4 : ¬ (4 : Int) < 4 - d := by omega
    have hxl : exL s.args = .lst 4 (s.args.map Ex.cs) := rfl
    have hsl : ∀ l, smL l = .lst 5 (l.map Sm.cs) := fun _ => rfl
    rw [hnn]
    have hbad : headS1 s = false → formS (d + 1) s = false := fun h => by rw [formS, headS_eq, h]; rfl
    refine AC.goK k_impl_stmtOk w_impl_stmtOk ?_
    simp -implicitDefEqProofs [K_impl_stmtOk, F_impl_stmtOk, hse]
    refine (i_argCount G _).use ?_
    simp -implicitDefEqProofs []
    refine cutA (fun _ : Unit => tsOf 91 [(1, .p (.int .i64 (4 - d))), (2, .ptr 0 5 0 0)]) (fun _ => [.row 5 [[.p (.int .i64 s.op), .p (.str s.name), .p (exL s.args), .p (smL s.body), .p (smL s.els)]]]) (fun _ => headS1 s = true) ?_ ?_
    · have fin : ∀ (r1 : List (Nat × AV)), Aw.look r1 1 = .p (.int .i64 (4 - d)) → Aw.look r1 2 = .ptr 0 5 0 0 →
          Wk 0 (tsOf 91 r1) [.row 5 [[.p (.int .i64 s.op), .p (.str s.name), .p (exL s.args), .p (smL s.body), .p (smL s.els)]]] (tsOf 91 [(1, .p (.int .i64 (4 - d))), (2, .ptr 0 5 0 0)]) [.row 5 [[.p (.int .i64 s.op), .p (.str s.name), .p (exL s.args), .p (smL s.body), .p (smL s.els)]]] := fun r1 a b =>
        wkt_same (by simp) (by simp [okO, below]) (by simp [below, a, b])
      have hb0 : s.body = [] ∨ 0 < s.body.length := by cases s.body <;> simp
      have he0 : s.els = [] ∨ 0 < s.els.length := by cases s.els <;> simp
      by_cases hl : (s.args.length : Int) = argI s.op
      case neg =>
        rw [hbad (by simp [headS1, hl])]
        simp -implicitDefEqProofs [hn4, hxl, hl]
      have hel : (decide (s.els = [])) = !decide (0 < s.els.length) := by cases s.els <;> simp
      have hbo : (decide (s.body = [])) = !decide (0 < s.body.length) := by cases s.body <;> simp
      simp -implicitDefEqProofs [hn4, hxl, hl]
      refine cut1 (tsOf 91 [(1, .p (.int .i64 (4 - d))), (2, .ptr 0 5 0 0), (6, .p (.bool (nmdS s.op))), (7, .p (.bool (bodS s.op))), (8, .p (.bool (decide (s.op = 5)))), (19, .p (.bool (nmdS s.op && !isName s.name)))]) ([.row 5 [[.p (.int .i64 s.op), .p (.str s.name), .p (exL s.args), .p (smL s.body), .p (smL s.els)]]]) ?_ ?_
      · cases hn : nmdS s.op with
        | true =>
          simp -implicitDefEqProofs []
          refine (i_IsName G hK _ (by omega)).use ?_
          simp -implicitDefEqProofs []
          exact wkt_same (by simp) (by simp [okO, below]) (by simp [below])
        | false =>
          simp -implicitDefEqProofs []
          exact wkt_same (by simp) (by simp [okO, below]) (by simp [below])
      by_cases h2 : (nmdS s.op && !isName s.name) = true
      · rw [hbad (by simp only [headS1]; cases h : nmdS s.op <;> cases h' : isName s.name <;> simp [h, h'] at h2 ⊢)]
        simp -implicitDefEqProofs [h2]
      have h2' : (nmdS s.op && !isName s.name) = false := by simpa using h2
      rw [h2']
      simp -implicitDefEqProofs []
      refine cut1 (tsOf 91 [(1, .p (.int .i64 (4 - d))), (2, .ptr 0 5 0 0), (6, .p (.bool (nmdS s.op))), (7, .p (.bool (bodS s.op))), (8, .p (.bool (decide (s.op = 5)))), (19, .p (.bool (!nmdS s.op && !decide (s.name = []))))]) ([.row 5 [[.p (.int .i64 s.op), .p (.str s.name), .p (exL s.args), .p (smL s.body), .p (smL s.els)]]]) ?_ ?_
      · cases hn : nmdS s.op with
        | true =>
          simp -implicitDefEqProofs []
          exact wkt_same (by simp) (by simp [okO, below]) (by simp [below])
        | false =>
          simp -implicitDefEqProofs []
          exact wkt_same (by simp) (by simp [okO, below]) (by simp [below])
      by_cases h3 : (!nmdS s.op && !decide (s.name = [])) = true
      · rw [hbad (by simp only [headS1]; cases h : nmdS s.op <;> cases h' : decide (s.name = []) <;> simp [h, h'] at h3 ⊢)]
        simp -implicitDefEqProofs [h3]
      have h3' : (!nmdS s.op && !decide (s.name = [])) = false := by simpa using h3
      rw [h3']
      simp -implicitDefEqProofs []
      refine cut1 (tsOf 91 [(1, .p (.int .i64 (4 - d))), (2, .ptr 0 5 0 0), (6, .p (.bool (nmdS s.op))), (7, .p (.bool (bodS s.op))), (8, .p (.bool (decide (s.op = 5)))), (19, .p (.bool (!bodS s.op && decide (0 < s.body.length))))]) ([.row 5 [[.p (.int .i64 s.op), .p (.str s.name), .p (exL s.args), .p (smL s.body), .p (smL s.els)]]]) ?_ ?_
      · cases hn : bodS s.op with
        | true =>
          simp -implicitDefEqProofs [hsl]
          exact wkt_same (by simp) (by simp [okO, below]) (by simp [below])
        | false =>
          simp -implicitDefEqProofs [hsl]
          exact wkt_same (by simp) (by simp [okO, below]) (by simp [below])
      by_cases h4 : (!bodS s.op && decide (0 < s.body.length)) = true
      · rw [hbad (by simp only [headS1, hbo]; cases h : bodS s.op <;> cases h' : decide (0 < s.body.length) <;> simp [h, h'] at h4 ⊢)]
        simp -implicitDefEqProofs [h4]
      have h4' : (!bodS s.op && decide (0 < s.body.length)) = false := by simpa using h4
      rw [h4']
      simp -implicitDefEqProofs []
      refine cut1 (tsOf 91 [(1, .p (.int .i64 (4 - d))), (2, .ptr 0 5 0 0), (6, .p (.bool (nmdS s.op))), (7, .p (.bool (bodS s.op))), (8, .p (.bool (decide (s.op = 5)))), (19, .p (.bool (!decide (s.op = 5) && decide (0 < s.els.length))))]) ([.row 5 [[.p (.int .i64 s.op), .p (.str s.name), .p (exL s.args), .p (smL s.body), .p (smL s.els)]]]) ?_ ?_
      · cases hn : decide (s.op = 5) with
        | true =>
          simp -implicitDefEqProofs [hsl]
          exact wkt_same (by simp) (by simp [okO, below]) (by simp [below])
        | false =>
          simp -implicitDefEqProofs [hsl]
          exact wkt_same (by simp) (by simp [okO, below]) (by simp [below])
      by_cases h5 : (!decide (s.op = 5) && decide (0 < s.els.length)) = true
      · rw [hbad (by simp only [headS1, hel]; cases h : decide (s.op = 5) <;> cases h' : decide (0 < s.els.length) <;> simp [h, h'] at h5 ⊢)]
        simp -implicitDefEqProofs [h5]
      have h5' : (!decide (s.op = 5) && decide (0 < s.els.length)) = false := by simpa using h5
      rw [h5']
      have hh1 : headS1 s = (!decide (s.op = 8) || hd13 s.args) := by
        simp only [headS1, hl, decide_true, Bool.true_and, hel, hbo]
        cases h : nmdS s.op <;> cases hi : isName s.name <;> cases hm : decide (s.name = []) <;> cases hb : bodS s.op <;> cases hc : decide (0 < s.body.length) <;> cases ho : decide (s.op = 5) <;> cases he : decide (0 < s.els.length) <;> simp [h, hi, hm, hb, hc, ho, he] at h2' h3' h4' h5' ⊢
      by_cases o8 : s.op = 8
      · have ha1 : s.args.length = 1 := by
          have : argI s.op = 1 := by rw [o8]; rfl
          omega
        obtain ⟨a0, ha0⟩ : ∃ a0, s.args = [a0] := by
          match hh : s.args, ha1 with
          | [x], _ => exact ⟨x, rfl⟩
        have hae := a0.cs_eq
        rw [hh1, o8, ha0]
        rw [o8, ha0] at fin
        have hxa : exL [a0] = .lst 4 [a0.cs] := rfl
        by_cases hc : a0.op = 13
        · have h13 : hd13 [a0] = true := by simp [hd13, hc]
          simp -implicitDefEqProofs [o8, hae, hc, h13, hxa]
          rw [hxa, hae, hc] at fin
          exact fin _ (by simp) (by simp)
        · rw [hbad (by rw [hh1, o8, ha0]; simp [hd13, hc])]
          simp -implicitDefEqProofs [o8, hae, hc, hxa]
      · have hh2 : headS1 s = true := by rw [hh1]; simp [o8]
        simp -implicitDefEqProofs [o8, hh2]
        exact fin _ (by simp) (by simp)
    intro _ h1
    have hh : formS (d + 1) s = (s.args.all exOk && (s.body.all (formS d) && s.els.all (formS d))) := by rw [formS, headS_eq, h1, Bool.true_and, Bool.and_assoc]
    simp -implicitDefEqProofs [hxl]
    refine loopA (fun i : Nat => tsOf 91 [(1, .p (.int .i64 (4 - d))), (2, .ptr 0 5 0 0), (69, .p (exL s.args)), (70, .p (.int .i64 s.args.length)), (71, .p (.int .i64 i))]) (fun _ => [.row 5 [[.p (.int .i64 s.op), .p (.str s.name), .p (exL s.args), .p (smL s.body), .p (smL s.els)]]]) (fun i => i ≤ s.args.length ∧ (s.args.take i).all exOk = true) (fun i => s.args.length - i) 0 (by simp) ?_ ?_
    · exact wkt_same (by simp) (by simp [okO, below]) (by simp [below, hxl])
    rintro i ⟨hi, ha⟩
    simp -implicitDefEqProofs [hxl]
    refine cndb (fun h => ?_) (fun h => ?_)
    · simp at h
      have hg := List.getElem?_eq_getElem h
      have hks := exsZ_mem (List.getElem_mem h)
      have hkc := s.args[i].cs_eq
      have hx := i_ExprValid G hK hS s.args[i] (by omega)
      rw [hkc] at hx
      simp -implicitDefEqProofs [hg, hkc]
      refine hx.use ?_
      by_cases ho : exOk s.args[i] = true
      · simp -implicitDefEqProofs [ho]
        refine ⟨i + 1, ⟨h, by rw [← List.all_eq_true, all_take_succ h, ha, ho]; rfl⟩, by omega, ?_⟩
        refine wkt_fst (m := 1) (by omega) (fst_take rfl rfl (by simp [okO, below])) (by simp [below, hxl, w1 (i := i) (by omega)])
      · have ho' : exOk s.args[i] = false := by simpa using ho
        rw [hh, all_bad h ho']
        simp -implicitDefEqProofs [ho']
    · simp at h
      have ha2 : s.args.all exOk = true := all_done h ha
      rw [hh, ha2, Bool.true_and]
      simp -implicitDefEqProofs [hnw]
      refine (hblk s.body (by omega)).use ?_
      cases hb : s.body.all (formS d) with
      | true =>
        simp -implicitDefEqProofs [hnw]
        refine (hblk s.els (by omega)).use ?_
        simp -implicitDefEqProofs []
      | false =>
        simp -implicitDefEqProofs []
end Go.Proofs.YtiojgfhdcpppcaaDoor
namespace Go.Proofs.YtiojgfhdcpppcaaDoor
open Go Go.Aw
set_option maxRecDepth 100000
set_option maxHeartbeats 4000000
variable (G : Glob)
/-- A visitor: objects of a state, all that a visit changes. -/
structure Vis (σ : Type) where
  I : σ → List AO
  n : Nat
  F : FuncId
  caps : List AV
  len : ∀ st, (I st).length = n
  ok : ∀ st, ∀ o ∈ I st, okO n o
  capsOk : belowL n caps
theorem Vis.pre {σ : Type} (V : Vis σ) {f : FuncId} {args : List AV} {st st' : σ} {v : AV} (H : AC Tryd.prog G f args (V.I st) fun x h => x = .ret v ∧ h = V.I st') (rest : List AO) (ha : belowL V.n args) :
    AC Tryd.prog G f args (V.I st ++ rest) fun x h => x = .ret v ∧ h = V.I st' ++ rest := by
  refine (AC.pre H rest (by rw [V.len]; exact ha) (by rw [V.len]; exact V.ok st) ?_).mono ?_
  · rintro x h ⟨_, rfl⟩; rw [V.len, V.len]
  · rintro x h ⟨h1, ⟨rfl, rfl⟩, rfl⟩
    exact ⟨rfl, rfl⟩
theorem Vis.trim {σ : Type} (V : Vis σ) {f : FuncId} {args : List AV} {st st' : σ} {v : AV} (H : AC Tryd.prog G f args (V.I st) fun x h => x = .ret v ∧ ∃ l, h = V.I st' ++ l) (hv : below V.n v) :
    AC Tryd.prog G f args (V.I st) fun x h => x = .ret v ∧ h = V.I st' := by
  refine H.wk (fun t v h ⟨e, _⟩ => by cases e) ?_
  rintro u h ⟨e, l, rfl⟩
  cases e
  refine ⟨v, V.I st', wk_fst (n := V.n) (by rw [V.len]; exact Nat.le_refl _) (fst_take (by rw [← V.len st', List.take_left']; rfl) (V.len _) (V.ok _)) ?_, rfl, rfl⟩
  simp [Fgt, hv]
theorem okO_mono {n m : Nat} (h : n ≤ m) {o : AO} (ho : okO n o) : okO m o := by
  cases o with
  | dead => trivial
  | sit => trivial
  | row sz es => exact fun e he => belowL_mono h _ (ho e he)
  | mp es => exact fun e he => (belowL_mono h [e.2] ⟨ho e he, trivial⟩).1
theorem Vis.oks {σ : Type} (V : Vis σ) (st : σ) {m : Nat} (hm : V.n ≤ m) {r : List AO} (hr : ∀ o ∈ r, okO m o) : ∀ o ∈ V.I st ++ r, okO m o := by
  intro o ho
  rcases List.mem_append.1 ho with h | h
  · exact okO_mono hm (V.ok st o h)
  · exact hr o h
/-- At heads: the state, and some objects behind it. -/
theorem Vis.same {σ : Type} (V : Vis σ) (st : σ) {k n : Nat} (hk : k ≤ V.n) {r s : List AO} {l l1 : List (Nat × AV)} (hr : ∀ o ∈ r, okO (V.n + r.length) o) (H : FgA (V.n + r.length) l l1) : Wk k (tsOf n l) (V.I st ++ (r ++ s)) (tsOf n l1) (V.I st ++ r) := by
  have hl : (V.I st ++ r).length = V.n + r.length := by rw [List.length_append, V.len]
  refine wkt_fst (m := V.n + r.length) (by omega) (fst_take ?_ hl (V.oks st (by omega) hr)) H
  rw [← List.append_assoc, ← hl, List.take_left']; rfl
theorem Vis.same0 {σ : Type} (V : Vis σ) (st : σ) {k n : Nat} (hk : k ≤ V.n) {s : List AO} {l l1 : List (Nat × AV)} (H : FgA V.n l l1) : Wk k (tsOf n l) (V.I st ++ s) (tsOf n l1) (V.I st) := by
  refine wkt_fst (m := V.n) (by omega) (fst_take ?_ (V.len _) (V.ok st)) H
  rw [← V.len st, List.take_left']; rfl
theorem get_app {α : Type} {a b : List α} {n : Nat} (h : a.length = n) (i : Nat) : (a ++ b)[n + i]? = b[i]? := by
  rw [← h, List.getElem?_append_right (by omega)]; congr 1; omega
theorem i_parts {σ : Type} (V : Vis σ) (step : σ → Ex → σ) (inv : σ → Prop) (B : Nat) (hB : B ≤ 1073741824)
    (hv : ∀ st e, inv st → e.sz ≤ B → inv (step st e) ∧ AC Tryd.prog G V.F (.agg (e.cs.map .p) :: V.caps) (V.I st) fun x h => x = .ret (.tup []) ∧ h = V.I (step st e)) :
    ∀ (N : Nat) (e : Ex), e.sz < N → e.sz ≤ B → ∀ st, inv st → inv (e.pre.foldl step st) ∧ AC Tryd.prog G n_impl_parts [.agg (e.cs.map .p), .fn (.func V.F) V.caps] (V.I st) fun x h => x = .ret (.tup []) ∧ h = V.I (e.pre.foldl step st) := by
  intro N
  induction N with
  | zero => intro e h; omega
  | succ N ih =>
    intro e he hz st hi
    have hec := e.cs_eq
    have hsz := e.sz_eq
    have hkl := exsZ_len e.kids
    have hxl : exL e.kids = .lst 4 (e.kids.map Ex.cs) := rfl
    have hlen := V.len
    obtain ⟨i1, h1⟩ := hv st e hi hz
    have hinv : ∀ i, i ≤ e.kids.length → inv ((pres (e.kids.take i)).foldl step (step st e)) := by
      intro i
      induction i with
      | zero => intro _; exact i1
      | succ i ihi =>
        intro hl
        have hg : i < e.kids.length := by omega
        have hks := exsZ_mem (List.getElem_mem hg)
        rw [take_succ' hg, pres_app, List.foldl_append, pres, pres, List.append_nil]
        exact (ih e.kids[i] (by omega) (by omega) _ (ihi (by omega))).1
    refine ⟨?_, ?_⟩
    · rw [Ex.pre_eq, List.foldl_cons]
      have := hinv e.kids.length (Nat.le_refl _)
      rwa [List.take_length] at this
    refine V.trim G (AC.go k_impl_parts ?_) (by simp [below])
    have hcb := V.capsOk
    have hcb1 : belowL (V.n + 1) V.caps := belowL_mono (by omega) _ hcb
    rw [hec] at h1
    simp -implicitDefEqProofs [F_impl_parts, hec, hlen]
    refine (V.pre G h1 _ ⟨by simp [below], hcb⟩).mono ?_
    rintro r h ⟨rfl, rfl⟩
    simp -implicitDefEqProofs [callR_nxt, hlen, hxl]
    refine loopA (fun i : Nat => tsOf 20 [(1, .fn (.func V.F) V.caps), (2, .ptr V.n 4 0 0), (10, .p (exL e.kids)), (11, .p (.int .i64 e.kids.length)), (12, .p (.int .i64 i))])
      (fun i => V.I ((pres (e.kids.take i)).foldl step (step st e)) ++ [.row 4 [[.p (.int .i64 e.op), .p (.int .i64 e.n), .p (.str e.name), .p (exL e.kids)]]]) (fun i => i ≤ e.kids.length) (fun i => e.kids.length - i) 0 (by simp) ?_ ?_
    · refine V.same (r := [_]) (s := []) _ (Nat.le_refl _) (by simp [okO, below]) ?_
      simp [below, hxl, hcb1]
    intro i hil
    simp -implicitDefEqProofs [hxl]
    refine cndb (fun hc => ?_) (fun hc => ?_)
    · simp at hc
      have hg := List.getElem?_eq_getElem hc
      have hks := exsZ_mem (List.getElem_mem hc)
      have hkc := e.kids[i].cs_eq
      have hI := (ih e.kids[i] (by omega) (by omega) _ (hinv i hil)).2
      rw [hkc] at hI
      simp -implicitDefEqProofs [hg, hkc, hlen]
      refine (V.pre G hI _ ⟨by simp [below], by simp [below, hcb], trivial⟩).mono ?_
      rintro r h ⟨rfl, rfl⟩
      simp -implicitDefEqProofs [callR_nxt]
      refine ⟨i + 1, hc, by omega, ?_⟩
      have hf : (pres (e.kids.take (i + 1))).foldl step (step st e) = e.kids[i].pre.foldl step ((pres (e.kids.take i)).foldl step (step st e)) := by
        rw [take_succ' hc, pres_app, List.foldl_append, pres, pres, List.append_nil]
      rw [hf]
      refine V.same (r := [_]) (s := [_]) _ (Nat.le_refl _) (by simp [okO, below]) ?_
      simp [below, hxl, hcb1, w1 (i := i) (by omega)]
    · simp at hc
      have hie : i = e.kids.length := by omega
      subst hie
      rw [List.take_length, Ex.pre_eq, List.foldl_cons]
      simp -implicitDefEqProofs []
theorem i_stmts {σ : Type} (V : Vis σ) (step : σ → Sm × Nat → σ) (inv : σ → Prop) (B : Nat) (hB : B ≤ 1073741824)
    (hv : ∀ st s d, inv st → s.sz ≤ B → inv (step st (s, d)) ∧ AC Tryd.prog G V.F (.agg (s.cs.map .p) :: .p (.int .i64 (d : Nat)) :: V.caps) (V.I st) fun x h => x = .ret (.tup []) ∧ h = V.I (step st (s, d))) :
    ∀ (N : Nat) (l : List Sm), smsZ l < N → smsZ l ≤ B → ∀ (d : Nat), d + smsZ l ≤ 1099511627776 → ∀ st, inv st → inv ((smsPre d l).foldl step st) ∧ AC Tryd.prog G n_impl_stmts [.p (smL l), .p (.int .i64 d), .fn (.func V.F) V.caps] (V.I st) fun x h => x = .ret (.tup []) ∧ h = V.I ((smsPre d l).foldl step st) := by
  intro N
  induction N with
  | zero => intro l h; omega
  | succ N ih =>
    intro l hl hz d hd st hi
    have hll := smsZ_len l
    have hlen := V.len
    have hsl : ∀ l, smL l = .lst 5 (l.map Sm.cs) := fun _ => rfl
    have hone : ∀ s : Sm, s ∈ l → ∀ st, inv st → inv ((s.pre d).foldl step st) := by
      intro s hs st hi
      have hm := smsZ_mem hs
      have hsz := s.sz_eq
      have i1 := (hv st s d hi (by omega)).1
      have i2 := (ih s.body (by omega) (by omega) (d + 1) (by omega) _ i1).1
      have i3 := (ih s.els (by omega) (by omega) (d + 1) (by omega) _ i2).1
      rw [Sm.pre_eq, List.foldl_cons, List.foldl_append]
      exact i3
    have hinv : ∀ i, i ≤ l.length → inv ((smsPre d (l.take i)).foldl step st) := by
      intro i
      induction i with
      | zero => intro _; exact hi
      | succ i ihi =>
        intro hl
        have hg : i < l.length := by omega
        rw [take_succ' hg, smsPre_app, List.foldl_append, smsPre, smsPre, List.append_nil]
        exact hone _ (List.getElem_mem hg) _ (ihi (by omega))
    refine ⟨?_, ?_⟩
    · have := hinv l.length (Nat.le_refl _)
      rwa [List.take_length] at this
    refine V.trim G (AC.go k_impl_stmts ?_) (by simp [below])
    have hcb := V.capsOk
    simp -implicitDefEqProofs [F_impl_stmts, hsl]
    refine loopA (fun i : Nat => tsOf 31 [(1, .p (.int .i64 d)), (2, .fn (.func V.F) V.caps), (8, .p (smL l)), (9, .p (.int .i64 l.length)), (10, .p (.int .i64 i))])
      (fun i => V.I ((smsPre d (l.take i)).foldl step st)) (fun i => i ≤ l.length) (fun i => l.length - i) 0 (by simp) ?_ ?_
    · rw [hlen]
      have := V.same0 (s := []) st (k := V.n) (n := 31) (Nat.le_refl _) (l := [(10, .p (.int .i64 0)), (9, .p (.int .i64 l.length)), (8, .p (smL l)), (0, .p (smL l)), (1, .p (.int .i64 d)), (2, .fn (.func V.F) V.caps)]) (l1 := [(1, .p (.int .i64 d)), (2, .fn (.func V.F) V.caps), (8, .p (smL l)), (9, .p (.int .i64 l.length)), (10, .p (.int .i64 0))]) (by simp [below, hcb])
      rw [List.append_nil] at this
      exact this
    intro i hil
    simp -implicitDefEqProofs [hsl]
    refine cndb (fun hc => ?_) (fun hc => ?_)
    · simp at hc
      have hg := List.getElem?_eq_getElem hc
      have hks := smsZ_mem (List.getElem_mem hc)
      have hkc := l[i].cs_eq
      have hsz := l[i].sz_eq
      have hf : (smsPre d (l.take (i + 1))).foldl step st = (l[i].pre d).foldl step ((smsPre d (l.take i)).foldl step st) := by
        rw [take_succ' hc, smsPre_app, List.foldl_append, smsPre, smsPre, List.append_nil]
      have ii := hinv i hil
      obtain ⟨i1, h1⟩ := hv _ l[i] d ii (by omega)
      obtain ⟨i2, h2⟩ := ih l[i].body (by omega) (by omega) (d + 1) (by omega) _ i1
      obtain ⟨i3, h3⟩ := ih l[i].els (by omega) (by omega) (d + 1) (by omega) _ i2
      rw [Sm.pre_eq, List.foldl_cons, List.foldl_append] at hf
      have hwd : IntKind.i64.wrap ((d : Int) + 1) = ((d + 1 : Nat) : Int) := by rw [i64_small (by omega) (by omega)]; omega
      rw [hkc] at h1
      simp -implicitDefEqProofs [hg, hkc, hlen]
      refine (V.pre G h1 _ ⟨by simp, by simp, hcb⟩).mono ?_
      rintro r h ⟨rfl, rfl⟩
      simp -implicitDefEqProofs [callR_nxt, hlen, hwd]
      refine (V.pre G h2 _ ⟨by simp, by simp, by simp [below, hcb], trivial⟩).mono ?_
      rintro r h ⟨rfl, rfl⟩
      simp -implicitDefEqProofs [callR_nxt, hlen, hwd]
      refine (V.pre G h3 _ ⟨by simp, by simp, by simp [below, hcb], trivial⟩).mono ?_
      rintro r h ⟨rfl, rfl⟩
      simp -implicitDefEqProofs [callR_nxt]
      refine ⟨i + 1, hc, by omega, ?_⟩
      rw [hf]
      refine V.same0 (s := [_]) _ (Nat.le_refl _) ?_
      simp [below, hsl, hcb, w1 (i := i) (by omega)]
    · simp at hc
      have hie : i = l.length := by omega
      subst hie
      rw [List.take_length]
      simp -implicitDefEqProofs []
end Go.Proofs.YtiojgfhdcpppcaaDoor
