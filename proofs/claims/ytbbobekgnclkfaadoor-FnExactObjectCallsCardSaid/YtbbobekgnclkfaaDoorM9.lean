/-
  How a machine's function is encoded: the plain model, and the reference's pieces.
-/
import Derived.Test.YtbbobekgnclkfaaDoorM8
namespace Go.Proofs.YtbbobekgnclkfaaDoor
open Go Go.Aw
set_option maxRecDepth 100000
set_option maxHeartbeats 4000000

/-! ### The plain model -/
def jmp (x : Mins) : Bool := x.op == 20 || x.op == 21
def u8 (n : Int) : Int := IntKind.u8.wrap n
theorem u8_eq_mod (n : Int) : u8 n = n % 256 := by simp [u8, IntKind.wrap, IntKind.bits, IntKind.signed]
/-- The bytes of an instruction that is no jump. -/
def plainB (x : Mins) : List Int :=
  if x.op == 1 || inR x.op 15 18 then [u8 x.op, u8 x.a, u8 x.n] else if inR x.op 3 9 then [u8 x.op, u8 (x.a + 8 * x.b), u8 x.c]
  else if x.op == 2 || inR x.op 10 12 then [u8 x.op, u8 (x.a + 8 * x.b)] else if x.op == 14 then [u8 x.op, u8 x.n] else [u8 x.op, u8 x.a]
theorem plainB_len (x : Mins) : (plainB x).length = 2 ∨ (plainB x).length = 3 := by
  unfold plainB; repeat' split
  all_goals simp
def sizeB (x : Mins) (long : Bool) : Nat := if jmp x then 2 + (if long then 1 else 0) + (if x.op = 21 then 1 else 0) else (plainB x).length
theorem sizeB_le (x : Mins) (b : Bool) : sizeB x b ≤ 4 := by
  unfold sizeB; split
  · split <;> split <;> omega
  · rcases plainB_len x with h | h <;> omega
/-- Where the i-th instruction begins. -/
def plc (ins : List Mins) (L : List Bool) (i : Nat) : Nat := ((List.zipWith sizeB ins L).take i).sum
theorem plc_zero (ins : List Mins) (L : List Bool) : plc ins L 0 = 0 := by simp [plc]
theorem plc_succ {ins : List Mins} {L : List Bool} {i : Nat} (h1 : i < ins.length) (h2 : i < L.length) : plc ins L (i + 1) = plc ins L i + sizeB ins[i] L[i] := by
  have h : i < (List.zipWith sizeB ins L).length := by simp; omega
  rw [plc, take_succ' h, List.sum_append]
  simp [plc]
theorem plc_le {ins : List Mins} {L : List Bool} (hl : L.length = ins.length) : ∀ {i : Nat}, plc ins L i ≤ 4 * ins.length := by
  have key : ∀ i, i ≤ ins.length → plc ins L i ≤ 4 * i := by
    intro i
    induction i with
    | zero => intro _; rw [plc_zero]; omega
    | succ i ih =>
      intro h
      rw [plc_succ (by omega) (by omega)]
      have := ih (by omega)
      have := sizeB_le ins[i] L[i]
      omega
  intro i
  rcases Nat.lt_or_ge i ins.length with h | h
  · have := key i (by omega); omega
  · have h1 : plc ins L i = plc ins L ins.length := by
      have hz : (List.zipWith sizeB ins L).length = ins.length := by simp; omega
      simp only [plc]
      rw [List.take_of_length_le (by omega), List.take_of_length_le (by omega)]
    have := key ins.length (Nat.le_refl _)
    omega

/-- Whether the i-th instruction is a jump too far for a short form. -/
def need (ins : List Mins) (L : List Bool) (i : Nat) : Bool := match ins[i]? with
  | some x => jmp x && !inR ((plc ins L x.n.toNat : Int) - plc ins L i - sizeB x false) (-128) 127
  | none => false
def roundL (ins : List Mins) (L : List Bool) : List Bool := L.mapIdx fun i b => b || need ins L i
theorem roundL_len (ins : List Mins) (L : List Bool) : (roundL ins L).length = L.length := by simp [roundL]
def countF (L : List Bool) : Nat := L.countP (!·)
theorem countF_map : ∀ (L : List Bool) (g : Nat → Bool), (L.mapIdx fun i b => b || g i) = L ∨ countF (L.mapIdx fun i b => b || g i) < countF L
  | [], g => .inl rfl
  | b :: L, g => by
    have ih := countF_map L fun i => g (i + 1)
    have hle : countF (L.mapIdx fun i b => b || g (i + 1)) ≤ countF L := by
      rcases ih with h | h
      · rw [h]; exact Nat.le_refl _
      · omega
    simp only [List.mapIdx_cons]
    cases b with
    | true =>
      rcases ih with h | h
      · left; simp at h ⊢; exact h
      · right; simp [countF] at h ⊢; exact h
    | false =>
      cases hg : g 0 with
      | true => right; simp [countF] at hle ⊢; omega
      | false =>
        rcases ih with h | h
        · left; simp at h ⊢; exact h
        · right; simp [countF] at h ⊢; omega
theorem countF_round (ins : List Mins) (L : List Bool) (h : roundL ins L ≠ L) : countF (roundL ins L) < countF L := by
  rcases countF_map L (need ins L) with h1 | h1
  · exact (h h1).elim
  · exact h1
/-- Which jumps are long in the end. -/
def fixL (ins : List Mins) (L : List Bool) : List Bool := if roundL ins L = L then L else fixL ins (roundL ins L)
termination_by countF L
decreasing_by exact countF_round _ _ (by assumption)
theorem fixL_same {ins : List Mins} {L : List Bool} (h : roundL ins L = L) : fixL ins L = L := by rw [fixL, if_pos h]
theorem fixL_next {ins : List Mins} {L : List Bool} (h : roundL ins L ≠ L) : fixL ins L = fixL ins (roundL ins L) := by
  conv => lhs; rw [fixL, if_neg h]
theorem fixL_len (ins : List Mins) (L : List Bool) : (fixL ins L).length = L.length := by
  rw [fixL]; split
  · rfl
  · rw [fixL_len, roundL_len]
termination_by countF L
decreasing_by exact countF_round _ _ (by assumption)
def longs (ins : List Mins) : List Bool := fixL ins (List.replicate ins.length false)
theorem longs_len (ins : List Mins) : (longs ins).length = ins.length := by simp [longs, fixL_len]

/-- The bytes of the i-th instruction. -/
def encI (ins : List Mins) (L : List Bool) (i : Nat) : List Int := match ins[i]?, L[i]? with
  | some x, some b => if !jmp x then plainB x else
      [u8 (x.op + (if b then 128 else 0))] ++ (if x.op = 21 then [u8 x.a] else []) ++
        (if b then [u8 (plc ins L x.n.toNat % 256 : Nat), u8 (plc ins L x.n.toNat / 256 : Nat)] else [u8 ((plc ins L x.n.toNat : Int) - plc ins L i - sizeB x false)])
  | _, _ => []
def encT (ins : List Mins) (L : List Bool) (i : Nat) : List Int := ((List.range i).map (encI ins L)).flatten
theorem encT_succ (ins : List Mins) (L : List Bool) (i : Nat) : encT ins L (i + 1) = encT ins L i ++ encI ins L i := by simp [encT, List.range_succ]

/-- What is needed of the instructions. -/
def InsFine (ins : List Mins) : Prop := ins.length ≤ 2000 ∧ ∀ x ∈ ins, inR x.a 0 7 = true ∧ inR x.b 0 7 = true ∧ inR x.op 1 22 = true ∧ (jmp x = true → inR x.n 0 (ins.length - 1) = true)

variable (G : Glob)

theorem s_l24Jumps (x : Mins) : VF Tryd.prog G n_spec_l24Jumps [.agg (x.cs.map .p)] (.p (.bool (jmp x))) := by
  refine AC.enter k_spec_l24Jumps ?_
  simp -implicitDefEqProofs [F_spec_l24Jumps, List.replicate, Mins.cs]
  by_cases h : x.op = 20
  · simp -implicitDefEqProofs [h, jmp]
  · simp -implicitDefEqProofs [h, jmp]
    rw [Bool.eq_iff_iff]; simp
    exact fun e => (h e).elim

theorem s_l5Truth (b : Bool) : VF Tryd.prog G n_spec_l5Truth [.p (.bool b)] (.p (.int .i64 (if b then 1 else 0))) := by
  refine AC.enter k_spec_l5Truth ?_
  cases b <;> simp -implicitDefEqProofs [F_spec_l5Truth, List.replicate]

theorem o_l25Plain (x : Mins) (ha : inR x.a 0 7 = true) (hb : inR x.b 0 7 = true) : AC Tryd.prog G n_spec_l25Plain [.agg (x.cs.map .p)] [] fun r h => r = .ret (.sl 0 1 0 (plainB x).length) ∧ h = [bysO (plainB x)] := by
  have key : AC Tryd.prog G n_spec_l25Plain [.agg (x.cs.map .p)] [] fun r h => r = .ret (.sl 1 1 0 (plainB x).length) ∧ ∃ o, h = [o, bysO (plainB x)] := by
    refine AC.enter k_spec_l25Plain ?_
    simp [inR] at ha hb
    have hw1 : IntKind.i64.wrap (8 * x.b) = 8 * x.b := i64_small (by omega) (by omega)
    have hw2 : IntKind.i64.wrap (x.a + 8 * x.b) = x.a + 8 * x.b := i64_small (by omega) (by omega)
    simp -implicitDefEqProofs [F_spec_l25Plain, List.replicate]
    simp -implicitDefEqProofs [Mins.cs]
    by_cases h1 : x.op = 1
    · simp -implicitDefEqProofs [h1, plainB, bysO, u8]
    simp -implicitDefEqProofs [h1]
    refine (s_l1In G _ _ _).use ?_
    by_cases h2 : inR x.op 15 18 = true
    · simp -implicitDefEqProofs [h2, plainB, bysO, u8]
    simp -implicitDefEqProofs [h2]
    refine (s_l1In G _ _ _).use ?_
    by_cases h3 : inR x.op 3 9 = true
    · simp -implicitDefEqProofs [h1, h2, h3, plainB, bysO, u8, hw1, hw2]
    simp -implicitDefEqProofs [h3]
    by_cases h4 : x.op = 2
    · simp -implicitDefEqProofs [h4, hw1, hw2, plainB, bysO, u8, inR]
    simp -implicitDefEqProofs [h4]
    refine (s_l1In G _ _ _).use ?_
    by_cases h5 : inR x.op 10 12 = true
    · simp -implicitDefEqProofs [h1, h2, h3, h4, h5, plainB, bysO, u8, hw1, hw2]
    simp -implicitDefEqProofs [h5]
    by_cases h6 : x.op = 14
    · simp -implicitDefEqProofs [h6, plainB, bysO, u8, inR]
    · simp -implicitDefEqProofs [h1, h2, h3, h4, h5, h6, plainB, bysO, u8]
  refine key.gc (fun t v h ⟨e, _⟩ => by cases e) fun v h ⟨e1, o, e2⟩ => ?_
  cases e1; subst e2
  exact ⟨.sl 0 1 0 (plainB x).length, [bysO (plainB x)], ⟨[1], by simp, by simp, by simp, by simp [below], by simp [ren], by simp, ⟨by simp [bysO], by simp [bysO, renL, ren]⟩, trivial⟩, rfl, rfl⟩

theorem bysO_view {l : List Int} {id : Nat} {h : List AO} (e : h[id]? = some (bysO l)) : View h (.sl id 1 0 l.length) (bysL l) := by
  have := view_row (h := h) (id := id) (sz := 1) (n := l.length) (ls := l.map fun n => [.int .u8 n]) (by rw [e, bysO]; simp) (by simp) (by simp)
  exact this

theorem s_l25Plain (x : Mins) (ha : inR x.a 0 7 = true) (hb : inR x.b 0 7 = true) : VF Tryd.prog G n_spec_l25Plain [.agg (x.cs.map .p)] (.p (bysL (plainB x))) :=
  AC.freeze (o_l25Plain G x ha hb) (.one (bysO_view rfl) .nil)

theorem s_l25Size (x : Mins) (b : Bool) (ha : inR x.a 0 7 = true) (hb : inR x.b 0 7 = true) : VF Tryd.prog G n_spec_l25Size [.agg (x.cs.map .p), .p (.bool b)] (.p (.int .i64 (sizeB x b))) := by
  refine AC.enter k_spec_l25Size ?_
  simp -implicitDefEqProofs [F_spec_l25Size, List.replicate]
  refine (s_l24Jumps G x).use ?_
  by_cases hj : jmp x = true
  · simp -implicitDefEqProofs [hj, Mins.cs]
    refine (s_l5Truth G b).use ?_
    simp -implicitDefEqProofs []
    refine (s_l5Truth G _).use ?_
    simp -implicitDefEqProofs [sizeB, hj]
    by_cases h21 : x.op = 21 <;> cases b <;> simp [h21, IntKind.wrap, IntKind.bits, IntKind.signed]
  · simp -implicitDefEqProofs [hj]
    refine (s_l25Plain G x ha hb).use ?_
    simp -implicitDefEqProofs [sizeB, hj, bysL]
end Go.Proofs.YtbbobekgnclkfaaDoor
