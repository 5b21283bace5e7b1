/-
  How a machine's function is encoded: the reference's long jumps.
-/
import Derived.Test.YtbbobekgnclkfaaDoorM10
namespace Go.Proofs.YtbbobekgnclkfaaDoor
open Go Go.Aw
set_option maxRecDepth 100000
set_option maxHeartbeats 4000000

theorem boolO_view {l : List Bool} {id : Nat} {h : List AO} (e : h[id]? = some (boolO l)) : View h (.sl id 1 0 l.length) (boolL l) := by
  have := view_row (h := h) (id := id) (sz := 1) (n := l.length) (ls := l.map fun b => [.bool b]) (by rw [e, boolO]; simp) (by simp) (fun x hx => by obtain ⟨b, _, rfl⟩ := List.mem_map.1 hx; rfl)
  exact this
theorem roundL_get {ins : List Mins} {L : List Bool} {i : Nat} (h : i < L.length) : (roundL ins L)[i]'(by rw [roundL_len]; exact h) = (L[i] || need ins L i) := by simp [roundL]
/-- What is found after i instructions. -/
def nextAt (ins : List Mins) (L : List Bool) (i : Nat) : List Bool := (roundL ins L).take i ++ L.drop i
theorem nextAt_len {ins : List Mins} {L : List Bool} {i : Nat} (h : i ≤ L.length) : (nextAt ins L i).length = L.length := by simp [nextAt, roundL_len]; omega
theorem nextAt_get {ins : List Mins} {L : List Bool} {i : Nat} (h : i < L.length) : (nextAt ins L i)[i]? = some L[i] := by
  rw [nextAt, List.getElem?_append_right (by simp [roundL_len]; omega), List.length_take, roundL_len, Nat.min_eq_left (by omega), Nat.sub_self, List.drop_eq_getElem_cons h]; rfl
theorem nextAt_set {ins : List Mins} {L : List Bool} {i : Nat} (h : i < L.length) : (nextAt ins L i).set i (L[i] || need ins L i) = nextAt ins L (i + 1) := by
  have hl : ((roundL ins L).take i).length = i := by simp [roundL_len]; omega
  rw [nextAt, List.set_append_right _ _ (by omega), hl, Nat.sub_self, List.drop_eq_getElem_cons h, List.set_cons_zero, nextAt, take_succ' (by rw [roundL_len]; exact h), roundL_get h]
  simp
theorem nextAt_same {ins : List Mins} {L : List Bool} {i : Nat} (h : i < L.length) (hs : (L[i] || need ins L i) = L[i]) : nextAt ins L i = nextAt ins L (i + 1) := by
  rw [← nextAt_set h, hs]
  have h2 : i < (nextAt ins L i).length := by rw [nextAt_len (by omega)]; exact h
  have h3 := nextAt_get (ins := ins) h
  rw [List.getElem?_eq_getElem h2] at h3
  conv => lhs; rw [← List.set_getElem_self h2]
  rw [Option.some.inj h3]

variable (G : Glob)

theorem o_l25Long (f : Mfn) (hf : InsFine f.ins) : AC Tryd.prog G n_spec_l25Long [.agg (f.cs.map .p)] [] fun r h => r = .ret (.sl 0 1 0 f.ins.length) ∧ h = [boolO (longs f.ins)] := by
  have hf' := hf
  obtain ⟨hn, hfi⟩ := hf'
  have key : AC Tryd.prog G n_spec_l25Long [.agg (f.cs.map .p)] [] fun r h => r = .ret (.sl 1 1 0 f.ins.length) ∧ ∃ o, h = [o, boolO (longs f.ins)] := by
    refine AC.enter k_spec_l25Long ?_
    simp -implicitDefEqProofs [-Prod.exists, F_spec_l25Long, List.replicate]
    simp -implicitDefEqProofs [-Prod.exists, Mfn.cs]
    refine ⟨by omega, ?_⟩
    refine loopA (fun a : Bool × List Bool => slots 73 [(1, .ptr 0 3 0 0), (3, .sl 1 1 0 f.ins.length), (4, .p (.bool a.1))]) (fun a => [.row 3 [f.cs.map .p], boolO a.2])
      (fun a => a.2.length = f.ins.length ∧ (if a.1 then fixL f.ins a.2 = longs f.ins else a.2 = longs f.ins)) (fun a => 2 * countF a.2 + (if a.1 then 1 else 0)) (true, List.replicate f.ins.length false) (by simp [longs]) ?_ ?_
    · have e : AO.row 1 (List.replicate f.ins.length [AV.p (PV.bool false)]) = boolO (List.replicate f.ins.length false) := by simp [boolO]
      rw [e]
      refine wk_same ?_ ?_ ?_
      · simp
      · simp [-Bool.exists_bool, -Bool.forall_bool, okO, boolO]
      simp [slots, List.replicate, below]
    · rintro ⟨again, L⟩ ⟨hL, hfix⟩
      simp only at hL hfix
      simp -implicitDefEqProofs [-Prod.exists, slots, List.replicate]
      refine cnd (fun h1 => ?_) (fun h1 => ?_)
      · subst h1
        simp only [if_true] at hfix
        simp -implicitDefEqProofs [-Prod.exists, Mfn.cs]
        refine (AC.lend (o_l25Places G f L hL hf) (.keep (by simp [Mfn.cs]) (.one (by rw [← hL]; exact boolO_view rfl) .nil)) rfl ?_).mono ?_
        · simp [cleanO, intsO, cleanL, clean]
        rintro r h ⟨rfl, rfl⟩
        have hbo : boolO L = .row 1 (L.map fun b => [.p (.bool b)]) := rfl
        have hsh : shiftO 2 (intsO (plcs f.ins L f.ins.length)) = intsO (plcs f.ins L f.ins.length) := by simp [shiftO, intsO, shiftL, shiftV]
        have hsL : List.take f.ins.length L = L := List.take_of_length_le (by omega)
        have htk : List.take f.ins.length (L.map fun b => [AV.p (PV.bool b)]) = L.map fun b => [AV.p (PV.bool b)] := List.take_of_length_le (by simp [hL])
        simp -implicitDefEqProofs [-Prod.exists, shiftV, shiftL, hsh, hbo, hL, htk]
        refine ⟨by omega, ?_⟩
        have e0 : AO.row 1 (L.map fun b => [AV.p (.bool b)]) = boolO (nextAt f.ins L 0) := by simp [boolO, nextAt]
        have hin : intsO (plcs f.ins L f.ins.length) = .row 1 ((plcs f.ins L f.ins.length).map fun (n : Nat) => [.p (.int .i64 (n : Int))]) := rfl
        have hplen := plcs_len f.ins L f.ins.length
        have hrl := roundL_len f.ins L
        refine loopA (fun a : Nat × Bool => slots 73 [(1, .ptr 0 3 0 0), (3, .sl 1 1 0 f.ins.length), (4, .p (.bool a.2)), (5, .sl 2 1 0 f.ins.length), (7, .sl 4 1 0 f.ins.length), (8, .p (.int .i64 a.1))])
          (fun a => [.row 3 [f.cs.map .p], boolO L, intsO (plcs f.ins L f.ins.length), .dead, boolO (nextAt f.ins L a.1)])
          (fun a => a.1 ≤ f.ins.length ∧ (a.2 = false → (roundL f.ins L).take a.1 = L.take a.1) ∧ (a.2 = true → roundL f.ins L ≠ L)) (fun a => f.ins.length - a.1) (0, false) (by simp) ?_ ?_
        · rw [← e0]
          refine wk_same ?_ ?_ ?_
          · simp
          · simp [-Bool.exists_bool, -Bool.forall_bool, okO, Mfn.cs, boolO, intsO]
          simp [slots, List.replicate, below]
        · rintro ⟨i, c⟩ ⟨hi, hc0, hc1⟩
          simp only at hi hc0 hc1
          simp -implicitDefEqProofs [-Prod.exists, slots, List.replicate]
          simp -implicitDefEqProofs [-Prod.exists, Mfn.cs]
          refine cnd (fun h1 => ?_) (fun h1 => ?_)
          · simp at h1
            have h2 : i < L.length := by omega
            obtain ⟨q1, q2, q3, q4⟩ := hfi _ (List.getElem_mem h1)
            have hg1 := List.getElem?_eq_getElem h1
            have hg2 := List.getElem?_eq_getElem h2
            have hrg := roundL_get (ins := f.ins) h2
            have hstay : (L[i] || need f.ins L i) = L[i] → ∃ a : Nat × Bool, a = (i + 1, c) ∧ (a.1 ≤ f.ins.length ∧ (a.2 = false → (roundL f.ins L).take a.1 = L.take a.1) ∧ (a.2 = true → roundL f.ins L ≠ L)) := fun hs => by
              refine ⟨(i + 1, c), rfl, h1, fun hc => ?_, hc1⟩
              rw [take_succ' (by rw [hrl]; exact h2), take_succ' h2, hc0 hc, hrg, hs]
            simp -implicitDefEqProofs [-Prod.exists, hg1]
            refine (s_l24Jumps G f.ins[i]).use ?_
            by_cases hj : jmp f.ins[i] = true
            · simp -implicitDefEqProofs [-Prod.exists, hj, hbo, hL, h1]
              refine cnd (fun h3 => ?_) (fun h3 => ?_)
              · have hs : (L[i] || need f.ins L i) = L[i] := by simp [h3]
                obtain ⟨a, rfl, ha⟩ := hstay hs
                refine ⟨(i + 1, c), ha, (by show f.ins.length - (i + 1) < f.ins.length - i; omega), ?_⟩
                rw [nextAt_same h2 hs]
                refine wk_same ?_ ?_ ?_
                · simp
                · simp [-Bool.exists_bool, -Bool.forall_bool, okO, boolO, intsO]
                simp [below, w1 (i := i) (by omega)]
              · have q5 := q4 hj
                simp [inR] at q5
                have hnl : f.ins[i].n.toNat < f.ins.length := by omega
                have hp1 := plcs_get (ins := f.ins) (L := L) hnl
                have hp2 := plcs_get (ins := f.ins) (L := L) h1
                have hle1 := plc_le (ins := f.ins) (L := L) hL (i := i)
                have hle2 := plc_le (ins := f.ins) (L := L) hL (i := f.ins[i].n.toNat)
                have hsb := sizeB_le f.ins[i] false
                have hwd1 : IntKind.i64.wrap ((plc f.ins L f.ins[i].n.toNat : Int) - (plc f.ins L i : Int)) = (plc f.ins L f.ins[i].n.toNat : Int) - (plc f.ins L i : Int) := i64_small (by omega) (by omega)
                have hwd2 : IntKind.i64.wrap ((plc f.ins L f.ins[i].n.toNat : Int) - (plc f.ins L i : Int) - (sizeB f.ins[i] false : Int)) = (plc f.ins L f.ins[i].n.toNat : Int) - (plc f.ins L i : Int) - (sizeB f.ins[i] false : Int) := i64_small (by omega) (by omega)
                simp -implicitDefEqProofs [-Prod.exists, Mins.cs, hin, hp1, hp2, hg1]
                refine ⟨by omega, ?_⟩
                refine (s_l25Size G f.ins[i] false q1 q2).use ?_
                simp -implicitDefEqProofs [-Prod.exists, hg1, hp1, hp2, Mins.cs, hwd1, hwd2]
                refine (s_l1In G _ _ _).use ?_
                simp -implicitDefEqProofs [-Prod.exists]
                have hneed : need f.ins L i = !inR ((plc f.ins L f.ins[i].n.toNat : Int) - (plc f.ins L i : Int) - (sizeB f.ins[i] false : Int)) (-128) 127 := by simp [need, hg1, hj]
                refine cnd (fun h4 => ?_) (fun h4 => ?_)
                · simp at h4
                  have hnt : need f.ins L i = true := by rw [hneed, h4]; rfl
                  have hset := nextAt_set (ins := f.ins) h2
                  rw [h3, hnt] at hset
                  simp only [Bool.false_or] at hset
                  have hnlen : i < (nextAt f.ins L i).length := by rw [nextAt_len (by omega)]; exact h2
                  have hng := nextAt_get (ins := f.ins) h2
                  have hbn : boolO (nextAt f.ins L i) = .row 1 ((nextAt f.ins L i).map fun b => [.p (.bool b)]) := rfl
                  have hset2 : ((nextAt f.ins L i).map fun b => [AV.p (.bool b)]).set i [AV.p (.bool true)] = (nextAt f.ins L (i + 1)).map fun b => [AV.p (.bool b)] := by rw [← hset, List.map_set]
                  simp -implicitDefEqProofs [-Prod.exists, hbn, h1, hng, hset2]
                  refine ⟨(i + 1, true), ⟨h1, by simp, fun _ he => ?_⟩, (by show f.ins.length - (i + 1) < f.ins.length - i; omega), ?_⟩
                  · have h5 := hrg
                    have h6 : (roundL f.ins L)[i]? = some true := by rw [List.getElem?_eq_getElem (by rw [hrl]; exact h2), hrg, hnt]; simp
                    rw [he, hg2, h3] at h6; cases h6
                  · refine wk_same ?_ ?_ ?_
                    · simp
                    · simp [-Bool.exists_bool, -Bool.forall_bool, okO, boolO, intsO]
                    simp [below, w1 (i := i) (by omega)]
                · simp at h4
                  have hnt : need f.ins L i = false := by rw [hneed, h4]; rfl
                  have hs : (L[i] || need f.ins L i) = L[i] := by simp [hnt]
                  obtain ⟨a, rfl, ha⟩ := hstay hs
                  refine ⟨(i + 1, c), ha, (by show f.ins.length - (i + 1) < f.ins.length - i; omega), ?_⟩
                  rw [nextAt_same h2 hs]
                  refine wk_same ?_ ?_ ?_
                  · simp
                  · simp [-Bool.exists_bool, -Bool.forall_bool, okO, boolO, intsO]
                  simp [below, w1 (i := i) (by omega)]
            · simp -implicitDefEqProofs [-Prod.exists, hj]
              have hs : (L[i] || need f.ins L i) = L[i] := by simp [need, hg1, hj]
              obtain ⟨a, rfl, ha⟩ := hstay hs
              refine ⟨(i + 1, c), ha, (by show f.ins.length - (i + 1) < f.ins.length - i; omega), ?_⟩
              rw [nextAt_same h2 hs]
              refine wk_same ?_ ?_ ?_
              · simp
              · simp [-Bool.exists_bool, -Bool.forall_bool, okO, boolO, intsO]
              simp [below, w1 (i := i) (by omega)]
          · simp at h1
            have hie : i = f.ins.length := by omega
            subst hie
            have hnx : nextAt f.ins L f.ins.length = roundL f.ins L := by rw [nextAt, List.take_of_length_le (by rw [hrl]; omega), List.drop_of_length_le (by omega), List.append_nil]
            rw [List.take_of_length_le (by rw [hrl]; omega), List.take_of_length_le (by omega)] at hc0
            rw [hnx]
            simp -implicitDefEqProofs [-Prod.exists]
            refine ⟨(c, roundL f.ins L), ⟨by rw [hrl]; exact hL, ?_⟩, ?_, wk_pick [0, 4] rfl (by simp) (hw_row rfl (by simp) (hw_row rfl (by simp [-Bool.exists_bool, -Bool.forall_bool]) hw_nil)) ?_⟩
            · cases c with
              | false =>
                have := hc0 rfl
                simp only [Bool.false_eq_true, if_false]
                rw [← hfix, fixL_same this, this]
              | true => simp only [if_true]; rw [← hfix, fixL_next (hc1 rfl)]
            · cases c with
              | false => have := hc0 rfl; rw [this]; simp
              | true => have := countF_round _ _ (hc1 rfl); simp; omega
            · simp [below, ren]
      · subst h1
        simp at hfix
        subst hfix
        simp -implicitDefEqProofs [-Prod.exists]
  refine key.gc (fun t v h ⟨e, _⟩ => by cases e) fun v h ⟨e1, o, e2⟩ => ?_
  cases e1; subst e2
  exact ⟨.sl 0 1 0 f.ins.length, [boolO (longs f.ins)], ⟨[1], by simp, by simp, by simp, by simp [below], by simp [ren], hw_row rfl (by simp [-Bool.exists_bool, -Bool.forall_bool]) hw_nil⟩, rfl, rfl⟩
end Go.Proofs.YtbbobekgnclkfaaDoor
