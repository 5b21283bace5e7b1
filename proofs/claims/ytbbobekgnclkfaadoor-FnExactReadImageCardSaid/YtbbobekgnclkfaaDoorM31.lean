/-
  A machine's program read from bytes: the program's sections.
-/
import Derived.Test.YtbbobekgnclkfaaDoorM30
import Derived.Test.YtbbobekgnclkfaaDoorM29
namespace Go.Proofs.YtbbobekgnclkfaaDoor
open Go Go.Aw
set_option maxRecDepth 100000
set_option maxHeartbeats 4000000
variable (G : Glob)

theorem i_HasPrefix (b : List Int) (hb : BytesOk b) : VF Tryd.prog G n_bytes_HasPrefix [.p (bysL b), .p (bysL [87, 119])] (.p (.bool (decide (2 ≤ b.length) && decide (b.take 2 = [87, 119])))) := by
  refine AC.go k_bytes_HasPrefix ?_
  have hbl : ∀ l, bysL l = .lst 1 (l.map fun n => [.int .u8 n]) := fun _ => rfl
  simp -implicitDefEqProofs [F_bytes_HasPrefix, hbl]
  by_cases h : 2 ≤ b.length
  · have hi : (2 : Int) ≤ b.length := by omega
    simp -implicitDefEqProofs [hi, h]
    have he := i_bytesEqual G (b.take 2) [87, 119] (fun x hx => hb x (List.mem_of_mem_take hx)) (by intro x hx; simp at hx; omega)
    rw [bysL, List.map_take] at he
    refine he.use ?_
    simp -implicitDefEqProofs []
  · have hi : ¬ (2 : Int) ≤ b.length := by omega
    simp -implicitDefEqProofs [hi, h]
theorem hd_eq (b : List Int) : ((decide (2 ≤ b.length) && decide (b.take 2 = [87, 119])) && !decide (b.length < 3)) = hdOk b := by
  rcases b with _ | ⟨x, _ | ⟨y, _ | ⟨z, r⟩⟩⟩ <;> simp [hdOk, byAt]

def secC (b : List Int) (a : Nat) : List PV := [.int .i64 (byAt b a), .int .i64 (byAt b (a + 1)), .int .i64 ((a + 4 : Nat) : Int), .int .i64 (szAt b a)]
def secR (b : List Int) (sts : List Nat) : List (List AV) := (sts.map (secC b)).map (·.map .p)
theorem secR_len (b : List Int) (sts : List Nat) : (secR b sts).length = sts.length := by simp [secR]
theorem secR_pure (b : List Int) (sts : List Nat) : ∀ x ∈ secR b sts, belowL 0 x := by
  intro x hx
  simp only [secR, List.mem_map] at hx
  obtain ⟨y, ⟨f, _, rfl⟩, rfl⟩ := hx
  simp
theorem secR_app (b : List Int) (sts : List Nat) (a : Nat) : secR b (sts ++ [a]) = secR b sts ++ [(secC b a).map .p] := by simp [secR]
/-- What 'sections' tells. -/
def secV (b : List Int) : Option (List Nat × Nat) := if hdOk b then secTo b (cntN b) else none
structure SS where
  k : Nat
  a : Nat
  sts : List Nat
variable (hM : G g_magic = some pvMagic)
include hM
theorem o_sections (b : List Int) (hb : BytesOk b) (hl : b.length ≤ 1048576) :
    AC Tryd.prog G n_impl_sections [.p (bysL b)] [] fun x h => match secV b with
      | none => x = .ret (.tup [.nils, .p (.bool false)])
      | some (sts, a) => x = .ret (.tup [slE 0 4 (secR b sts), .p (.bool (decide (a = b.length)))]) ∧ (sts ≠ [] → h[0]? = some (.row 4 (secR b sts))) := by
  refine AC.go k_impl_sections ?_
  have hbl : bysL b = .lst 1 (b.map fun n => [.int .u8 n]) := rfl
  have hg : g_magic = 0 := rfl
  rw [hg] at hM
  simp -implicitDefEqProofs [F_impl_sections, hM, pvMagic]
  refine (i_HasPrefix G b hb).use ?_
  have hhe := hd_eq b
  cases hpb : (decide (2 ≤ b.length) && decide (b.take 2 = [87, 119])) with
  | false =>
    have hd : secV b = none := by rw [secV, if_neg]; rw [← hhe, hpb]; simp
    rw [hd]
    simp -implicitDefEqProofs []
  | true =>
  rw [hpb] at hhe
  by_cases h3 : b.length < 3
  · have hd : secV b = none := by rw [secV, if_neg]; rw [← hhe]; simp [h3]
    have h3i : (b.length : Int) < 3 := by omega
    rw [hd]
    simp -implicitDefEqProofs [hbl, h3i]
  have h3i : ¬ (b.length : Int) < 3 := by omega
  have hhd : hdOk b = true := by rw [← hhe]; simp [h3]
  have hsv : secV b = secTo b (cntN b) := by rw [secV, if_pos hhd]
  have hg2 := byAt_get (code := b) (i := 2) (by omega)
  have b2 := byAt_ok hb 2
  have hcn : ((cntN b : Nat) : Int) = byAt b 2 := by rw [cntN]; omega
  have hcnt : IntKind.i64.wrap (byAt b 2) = ((cntN b : Nat) : Int) := by rw [hcn]; exact i64_small (by omega) (by omega)
  simp -implicitDefEqProofs [hbl, h3i, hg2, hcnt]
  refine loopA (fun d : SS => tsOf 74 [(0, .p (bysL b)), (4, slE 0 4 (secR b d.sts)), (5, .p (.int .i64 d.a)), (19, .p (.int .i64 (cntN b))), (20, .p (.int .i64 d.k))]) (fun d => if d.sts = [] then [] else [.row 4 (secR b d.sts)]) (fun d => d.k ≤ cntN b ∧ secTo b d.k = some (d.sts, d.a)) (fun d => cntN b - d.k) ⟨0, 3, []⟩ (by simp [secTo]) ?_ ?_
  · exact wkt_nil rfl (by simp [below, bysL, secR, slE])
  · rintro ⟨k, a, sts⟩ ⟨i1, i2⟩
    simp only at i1 i2
    obtain ⟨l1, l2, l3⟩ := secTo_le (by omega) i2
    simp only at l1 l2 l3
    simp -implicitDefEqProofs [hbl]
    refine cndb (fun h1 => ?_) (fun h1 => ?_)
    · simp at h1
      have hw4 : IntKind.i64.wrap ((a : Int) + 4) = ((a + 4 : Nat) : Int) := i64_nat (by omega) (by omega)
      simp -implicitDefEqProofs [hw4, hbl]
      by_cases hf1 : a + 4 ≤ b.length
      rotate_left
      · have hd : secV b = none := by
          have := secTo_none (secTo_bad i2 (by omega)) (cntN b - (k + 1))
          rw [hsv, show cntN b = k + 1 + (cntN b - (k + 1)) by omega]; exact this
        have hfi : (b.length : Int) < (a : Int) + 4 := by omega
        simp -implicitDefEqProofs [hfi, hd]
      have hfi : ¬ (b.length : Int) < (a : Int) + 4 := by omega
      have hq0 := byAt_get (code := b) (i := a) (by omega)
      have hq1 := byAt_get (code := b) (i := a + 1) (by omega)
      have hq2 := byAt_get (code := b) (i := a + 2) (by omega)
      have hq3 := byAt_get (code := b) (i := a + 3) (by omega)
      have ht2 : ((a : Int) + 2).toNat = a + 2 := by omega
      have ht3 : ((a : Int) + 3).toNat = a + 3 := by omega
      have hw1 : IntKind.i64.wrap ((a : Int) + 1) = ((a + 1 : Nat) : Int) := i64_nat (by omega) (by omega)
      have hw2 : IntKind.i64.wrap ((a : Int) + 2) = ((a + 2 : Nat) : Int) := i64_nat (by omega) (by omega)
      have hw3 : IntKind.i64.wrap ((a : Int) + 3) = ((a + 3 : Nat) : Int) := i64_nat (by omega) (by omega)
      have c0 := byAt_ok hb a
      have c1 := byAt_ok hb (a + 1)
      have c2 := byAt_ok hb (a + 2)
      have c3 := byAt_ok hb (a + 3)
      have hv0 : IntKind.i64.wrap (byAt b a) = byAt b a := i64_small (by omega) (by omega)
      have hv1 : IntKind.i64.wrap (byAt b (a + 1)) = byAt b (a + 1) := i64_small (by omega) (by omega)
      have hv2 : IntKind.i64.wrap (byAt b (a + 2)) = byAt b (a + 2) := i64_small (by omega) (by omega)
      have hv3 : IntKind.i64.wrap (byAt b (a + 3)) = byAt b (a + 3) := i64_small (by omega) (by omega)
      have hs3 : IntKind.i64.wrap (256 * byAt b (a + 3)) = 256 * byAt b (a + 3) := i64_small (by omega) (by omega)
      have hsz : IntKind.i64.wrap (byAt b (a + 2) + 256 * byAt b (a + 3)) = ((szAt b a : Nat) : Int) := i64_nat (by rw [szAt]; omega) (by rw [szAt]; omega)
      have hwn : IntKind.i64.wrap ((a : Int) + 4 + szAt b a) = ((a + 4 + szAt b a : Nat) : Int) := i64_nat (by omega) (by rw [szAt]; omega)
      have hp1 : (0 : Int) ≤ (a : Int) + 1 := by omega
      have hp2 : (0 : Int) ≤ (a : Int) + 2 := by omega
      have hp3 : (0 : Int) ≤ (a : Int) + 3 := by omega
      have hln := secR_len b sts
      have hlk : sts.length ≤ 255 := by have := b2; omega
      have hdone : a + 4 + szAt b a ≤ b.length → ∀ (l1 : List (Nat × AV)) (h : List AO) (q : Nat), h[q]? = some (.row 4 (secR b (sts ++ [a]))) → TWA [q] l1 [(0, .p (bysL b)), (4, .sl 0 4 0 (sts.length + 1)), (5, .p (.int .i64 ((a + 4 + szAt b a : Nat) : Int))), (19, .p (.int .i64 (cntN b))), (20, .p (.int .i64 ((k + 1 : Nat) : Int)))] →
          ∃ d : SS, (d.k ≤ cntN b ∧ secTo b d.k = some (d.sts, d.a)) ∧ cntN b - d.k < cntN b - k ∧ Wk 0 (tsOf 74 l1) h (tsOf 74 [(0, .p (bysL b)), (4, slE 0 4 (secR b d.sts)), (5, .p (.int .i64 d.a)), (19, .p (.int .i64 (cntN b))), (20, .p (.int .i64 d.k))]) (if d.sts = [] then [] else [.row 4 (secR b d.sts)]) := fun hf2 l1 h q hq hl1 => by
        refine ⟨⟨k + 1, a + 4 + szAt b a, sts ++ [a]⟩, ⟨h1, secTo_step i2 hf1 hf2⟩, by simp only; omega, ?_⟩
        simp only
        rw [if_neg (by simp), show slE 0 4 (secR b (sts ++ [a])) = .sl 0 4 0 (sts.length + 1) by rw [secR_app, slE_app _ (by simp), hln]; rfl]
        exact wkt_pick [q] rfl (by simp) (hw_row hq (secR_pure _ _) hw_nil) hl1
      by_cases hf2 : a + 4 + szAt b a ≤ b.length
      rotate_left
      · have hd : secV b = none := by
          have := secTo_none (secTo_bad i2 (by omega)) (cntN b - (k + 1))
          rw [hsv, show cntN b = k + 1 + (cntN b - (k + 1)) by omega]; exact this
        have hfi2 : (b.length : Int) < (a : Int) + 4 + szAt b a := by omega
        rcases List.eq_nil_or_concat sts with rfl | ⟨r, e, rfl⟩
        · simp -implicitDefEqProofs [hbl, hfi, hq0, hq1, hq2, hq3, ht2, ht3, hw1, hw2, hw3, hw4, hv0, hv1, hv2, hv3, hs3, hsz, hwn, hp1, hp2, hp3, hfi2, hd]
        · simp -implicitDefEqProofs [hbl, hfi, hq0, hq1, hq2, hq3, ht2, ht3, hw1, hw2, hw3, hw4, hv0, hv1, hv2, hv3, hs3, hsz, hwn, hp1, hp2, hp3, hfi2, hd]
      have hfi2 : ¬ (b.length : Int) < (a : Int) + 4 + szAt b a := by omega
      have hsl0 : slE 0 4 (secR b []) = .nils := rfl
      by_cases hs0 : sts = []
      · subst hs0
        simp -implicitDefEqProofs [hbl, hfi, hq0, hq1, hq2, hq3, ht2, ht3, hw1, hw2, hw3, hw4, hv0, hv1, hv2, hv3, hs3, hsz, hwn, hp1, hp2, hp3, hfi2, hsl0]
        refine hdone hf2 _ _ 2 rfl ?_
        simp [below, ren, bysL, w1 (i := k) (by omega), hw4, hwn]
      · have hsl : slE 0 4 (secR b sts) = .sl 0 4 0 sts.length := by rw [slE_ne (by intro e; rw [e] at hln; simp at hln; exact hs0 (List.length_eq_zero_iff.1 hln.symm)), hln]
        simp -implicitDefEqProofs [hbl, hfi, hq0, hq1, hq2, hq3, ht2, ht3, hw1, hw2, hw3, hw4, hv0, hv1, hv2, hv3, hs3, hsz, hwn, hp1, hp2, hp3, hfi2, hsl, hs0, hln]
        refine ⟨⟨by omega, by omega⟩, hdone hf2 _ _ 3 ?_ ?_⟩
        · rw [secR_app]; simp [List.take_of_length_le, hln, secC]
        · simp [below, ren, bysL, w1 (i := k) (by omega), hw4, hwn]
    · simp at h1
      have hke : k = cntN b := by omega
      subst hke
      rw [← hsv] at i2
      rw [i2]
      have hde : ((a : Int) = (b.length : Int)) ↔ a = b.length := by omega
      simp -implicitDefEqProofs [hbl, hde]
      intro hs; simp [hs]

theorem i_sections (b : List Int) (hb : BytesOk b) (hl : b.length ≤ 1048576) :
    VF Tryd.prog G n_impl_sections [.p (bysL b)] (match secV b with
      | none => .tup [.p (.lst 4 []), .p (.bool false)]
      | some (sts, a) => .tup [.p (.lst 4 (sts.map (secC b))), .p (.bool (decide (a = b.length)))]) := by
  have ho := o_sections G hM b hb hl
  cases hd : secV b with
  | none =>
    refine ho.freezeR (fun t v h e => by rw [hd] at e; cases e) fun v h e => ?_
    rw [hd] at e; cases e
    exact .tup (.one (View.nils 4) (.keep (by simp) .nil)) .nil
  | some x =>
    obtain ⟨sts, a⟩ := x
    refine ho.freezeR (fun t v h e => by rw [hd] at e; obtain ⟨e, _⟩ := e; cases e) fun v h e => ?_
    rw [hd] at e
    obtain ⟨e1, e2⟩ := e
    cases e1
    have hl : ∀ l ∈ sts.map (secC b), l.length = 4 := by intro l hl; obtain ⟨x, _, rfl⟩ := List.mem_map.1 hl; rfl
    by_cases hs : sts = []
    · subst hs; exact .tup (.one (View.nils 4) (.keep (by simp) .nil)) .nil
    · have hne : secR b sts ≠ [] := by intro e; have := secR_len b sts; rw [e] at this; exact hs (List.length_eq_zero_iff.1 this.symm)
      exact .tup (.one (view_E (ls := sts.map (secC b)) (by rw [show (sts.map (secC b)).map (·.map AV.p) = secR b sts from rfl, rowE_ne hne]; exact e2 hs) hl) (.keep (by simp) .nil)) .nil
end Go.Proofs.YtbbobekgnclkfaaDoor
