/-
  How a machine's function is encoded: the program's pieces.
-/
import Derived.Test.YtbbobekgnclkfaaDoorM14
namespace Go.Proofs.YtbbobekgnclkfaaDoor
open Go Go.Aw
set_option maxRecDepth 100000
set_option maxHeartbeats 4000000
variable (G : Glob)

def shpT : List Int := [2, 0, 1, 2, 2, 2, 2, 2, 2, 2, 1, 1, 1, 3, 4, 0, 0, 0, 0, 3, 5, 5, 3]
theorem i_shapeOf (op : Int) (h : inR op 1 22 = true) : VF Tryd.prog G n_impl_shapeOf [.p (.int .i64 op)] (.p (.int .i64 (shpT.getD op.toNat 2))) := by
  refine AC.go k_impl_shapeOf ?_
  rcases op22 h with rfl | rfl | rfl | rfl | rfl | rfl | rfl | rfl | rfl | rfl | rfl | rfl | rfl | rfl | rfl | rfl | rfl | rfl | rfl | rfl | rfl | rfl <;> simp -implicitDefEqProofs [F_impl_shapeOf, shpT]

theorem o_encoded (x : Mins) (hop : inR x.op 1 22 = true) (hj : jmp x = false) (ha : inR x.a 0 7 = true) (hb : inR x.b 0 7 = true) :
    AC Tryd.prog G n_impl_encoded [.agg (x.cs.map .p)] [] fun r h => r = .ret (.sl 0 1 0 (plainB x).length) ∧ h = [bysO (plainB x)] := by
  have key : AC Tryd.prog G n_impl_encoded [.agg (x.cs.map .p)] [] fun r h => r = .ret (.sl 1 1 0 (plainB x).length) ∧ ∃ o, h = [o, bysO (plainB x)] := by
    refine AC.go k_impl_encoded ?_
    simp -implicitDefEqProofs [F_impl_encoded]
    simp -implicitDefEqProofs [Mins.cs]
    refine (i_shapeOf G x.op hop).use ?_
    simp [inR] at ha hb
    have hw : IntKind.u8.wrap (IntKind.u8.wrap x.a + IntKind.u8.wrap (8 * IntKind.u8.wrap x.b)) = IntKind.u8.wrap (x.a + 8 * x.b) := by
      simp [IntKind.wrap, IntKind.bits, IntKind.signed]
      omega
    obtain ⟨op, a, b, c, n⟩ := x
    simp only at hop hj ha hb hw ⊢
    rcases op22 hop with rfl | rfl | rfl | rfl | rfl | rfl | rfl | rfl | rfl | rfl | rfl | rfl | rfl | rfl | rfl | rfl | rfl | rfl | rfl | rfl | rfl | rfl
    all_goals first
      | (simp [jmp] at hj; done)
      | simp -implicitDefEqProofs [shpT, plainB, bysO, u8, inR, hw]
  refine key.gc (fun t v h ⟨e, _⟩ => by cases e) fun v h ⟨e1, o, e2⟩ => ?_
  cases e1; subst e2
  exact ⟨.sl 0 1 0 (plainB x).length, [bysO (plainB x)], ⟨[1], by simp, by simp, by simp, by simp [below], by simp [ren], hw_row rfl (by simp) hw_nil⟩, rfl, rfl⟩

theorem i_encoded (x : Mins) (hop : inR x.op 1 22 = true) (hj : jmp x = false) (ha : inR x.a 0 7 = true) (hb : inR x.b 0 7 = true) : VF Tryd.prog G n_impl_encoded [.agg (x.cs.map .p)] (.p (bysL (plainB x))) :=
  AC.freeze (o_encoded G x hop hj ha hb) (.one (bysO_view rfl) .nil)

/-! ### The layout -/
def szl (ins : List Mins) (L : List Bool) (k : Nat) : List Nat := (List.zipWith sizeB ins L).take k
theorem szl_get {ins : List Mins} {L : List Bool} {k i : Nat} (hk : i < k) (h1 : i < ins.length) (h2 : i < L.length) : (szl ins L k)[i]? = some (sizeB ins[i] L[i]) := by
  rw [szl, List.getElem?_take, if_pos hk, List.getElem?_zipWith, List.getElem?_eq_getElem h1, List.getElem?_eq_getElem h2]
theorem szl_succ {ins : List Mins} {L : List Bool} {k : Nat} (h1 : k < ins.length) (h2 : k < L.length) : szl ins L (k + 1) = szl ins L k ++ [sizeB ins[k] L[k]] := by
  have h : k < (List.zipWith sizeB ins L).length := by simp; omega
  rw [szl, take_succ' h]; simp [szl]
theorem szl_len {ins : List Mins} {L : List Bool} {k : Nat} (h1 : k ≤ ins.length) (h2 : k ≤ L.length) : (szl ins L k).length = k := by simp [szl]; omega

/-- The cells of a layout. -/
def layC (f : Mfn) (lv v1 v2 : AV) (sz : Int) : List AV := [.p (.int .i64 f.params), .p (.int .i64 f.slots), .p (insL f.ins), lv, v1, v2, .p (.int .i64 sz)]

theorem i_offset {h : List AO} {id sid pid : Nat} {f : Mfn} {lv : AV} {sz : Int} {L : List Bool} {i : Nat} (hl : L.length = f.ins.length) (hf : InsFine f.ins) (h1 : i < f.ins.length) (hj : jmp f.ins[i] = true)
    (e0 : h[id]? = some (.row 7 [layC f lv (.sl sid 1 0 f.ins.length) (.sl pid 1 0 f.ins.length) sz])) (e1 : h[sid]? = some (intsO (szl f.ins L f.ins.length))) (e2 : h[pid]? = some (intsO (plcs f.ins L f.ins.length))) :
    AC Tryd.prog G n_impl_layout_offset [.ptr id 7 0 0, .p (.int .i64 i)] h fun r h' => r = .ret (.p (.int .i64 ((plc f.ins L f.ins[i].n.toNat : Int) - plc f.ins L i - sizeB f.ins[i] (L[i]'(by omega))))) ∧ h' = h := by
  refine AC.go k_impl_layout_offset ?_
  obtain ⟨hn, hfi⟩ := hf
  obtain ⟨q1, q2, q3, q4⟩ := hfi _ (List.getElem_mem h1)
  have q5 := q4 hj
  simp [inR] at q5
  have hnl : f.ins[i].n.toNat < f.ins.length := by omega
  have hp1 := plcs_get (ins := f.ins) (L := L) hnl
  have hp2 := plcs_get (ins := f.ins) (L := L) h1
  have hs1 := szl_get (ins := f.ins) (L := L) h1 h1 (by omega)
  have hle1 := plc_le (ins := f.ins) (L := L) hl (i := i)
  have hle2 := plc_le (ins := f.ins) (L := L) hl (i := f.ins[i].n.toNat)
  have hsb := sizeB_le f.ins[i] (L[i]'(by omega))
  have hg1 := List.getElem?_eq_getElem h1
  have hi : ∀ l, intsO l = .row 1 (l.map fun (n : Nat) => [.p (.int .i64 (n : Int))]) := fun _ => rfl
  have hin : insL f.ins = .lst 5 (f.ins.map Mins.cs) := rfl
  rw [hi] at e1 e2
  have hwd1 : IntKind.i64.wrap ((plc f.ins L f.ins[i].n.toNat : Int) - (plc f.ins L i : Int)) = (plc f.ins L f.ins[i].n.toNat : Int) - (plc f.ins L i : Int) := i64_small (by omega) (by omega)
  have hwd2 : IntKind.i64.wrap ((plc f.ins L f.ins[i].n.toNat : Int) - (plc f.ins L i : Int) - (sizeB f.ins[i] (L[i]'(by omega)) : Int)) = (plc f.ins L f.ins[i].n.toNat : Int) - (plc f.ins L i : Int) - (sizeB f.ins[i] (L[i]'(by omega)) : Int) := i64_small (by omega) (by omega)
  simp -implicitDefEqProofs [F_impl_layout_offset, e0, layC, hin, hg1]
  simp -implicitDefEqProofs [Mins.cs, hp1, e1, e2, hp2, hs1, h1]
  refine ⟨by omega, ?_⟩
  simp -implicitDefEqProofs [e0, layC, hp1, e1, e2, hp2, hs1, h1, hwd1, hwd2]

theorem o_settle (f : Mfn) (L : List Bool) (hl : L.length = f.ins.length) (hf : InsFine f.ins) (hpos : 0 < f.ins.length) (v1 v2 : AV) (sz : Int) (o3 o4 : AO) (ho3 : okO 0 o3) (ho4 : okO 0 o4) :
    AC Tryd.prog G n_impl_layout_settle [.ptr 2 7 0 0] [.row 3 [f.cs.map .p], boolO L, .row 7 [layC f (.sl 1 1 0 f.ins.length) v1 v2 sz], o3, o4]
      fun r h' => r = .ret (.tup []) ∧ h' = [.row 3 [f.cs.map .p], boolO L, .row 7 [layC f (.sl 1 1 0 f.ins.length) (.sl 5 1 0 f.ins.length) (.sl 6 1 0 f.ins.length) (plc f.ins L f.ins.length)], o3, o4, intsO (szl f.ins L f.ins.length), intsO (plcs f.ins L f.ins.length)] := by
  obtain ⟨hn, hfi⟩ := hf
  refine AC.go k_impl_layout_settle ?_
  have hin : insL f.ins = .lst 5 (f.ins.map Mins.cs) := rfl
  simp -implicitDefEqProofs [F_impl_layout_settle, layC]
  simp -implicitDefEqProofs [hin]
  refine loopA (fun i : Nat => tsOf 78 [(0, .ptr 2 7 0 0), (18, .p (insL f.ins)), (19, .p (.int .i64 f.ins.length)), (20, .p (.int .i64 i))])
    (fun i => if i = 0 then [.row 3 [f.cs.map .p], boolO L, .row 7 [layC f (.sl 1 1 0 f.ins.length) .nils .nils 0], o3, o4]
      else [.row 3 [f.cs.map .p], boolO L, .row 7 [layC f (.sl 1 1 0 f.ins.length) (.sl 5 1 0 i) (.sl 6 1 0 i) (plc f.ins L i)], o3, o4, intsO (szl f.ins L i), intsO (plcs f.ins L i)])
    (fun i => i ≤ f.ins.length) (fun i => f.ins.length - i) 0 (by simp) ?_ ?_
  · refine wkt_ren [0, 1, 2, 3, 4] (by simp) (by decide) (by decide) (hw_row rfl (by simp) (hw_ok rfl (by simp [-Bool.exists_bool, -Bool.forall_bool, okO, boolO]) (hw_rowr (by simp [layC, below]) (by simp [layC, ren, renL]; exact hin.symm) (hw_ok rfl ho3 (hw_ok rfl ho4 hw_nil))))) ?_
    simp [below, ren]
    exact hin.symm
  · intro i hi
    simp -implicitDefEqProofs []
    refine cndb (fun h1 => ?_) (fun h1 => ?_)
    · simp at h1
      have h2 : i < L.length := by omega
      obtain ⟨q1, q2, q3, q4⟩ := hfi _ (List.getElem_mem h1)
      have hg1 := List.getElem?_eq_getElem h1
      have hg2 := List.getElem?_eq_getElem h2
      have hbo : boolO L = .row 1 (L.map fun b => [.p (.bool b)]) := rfl
      have hle := plc_le (ins := f.ins) (L := L) hl (i := i)
      have hle2 := plc_le (ins := f.ins) (L := L) hl (i := i + 1)
      have hps := plc_succ h1 h2
      have hss := szl_succ h1 h2
      have hqs := plcs_succ f.ins L i
      have hsl := szl_len (ins := f.ins) (L := L) (k := i) (by omega) (by omega)
      have hql := plcs_len f.ins L i
      have hii : ∀ l, intsO l = .row 1 (l.map fun (n : Nat) => [.p (.int .i64 (n : Int))]) := fun _ => rfl
      have hbl : ∀ l, bysL l = .lst 1 (l.map fun n => [.int .u8 n]) := fun _ => rfl
      have hw : IntKind.i64.wrap ((plc f.ins L i : Int) + (sizeB f.ins[i] L[i] : Int)) = ((plc f.ins L (i + 1) : Nat) : Int) := by rw [i64_small (by omega) (by omega), hps]; omega
      have w2 : IntKind.i64.wrap 2 = 2 := rfl
      have w3 : IntKind.i64.wrap 3 = 3 := rfl
      have w4 : IntKind.i64.wrap 4 = 4 := rfl
      rcases Nat.eq_zero_or_pos i with hi0 | hi0
      · have hz : (i = 0) = True := by simp [hi0]
        have hs0 : szl f.ins L i = [] := by rw [hi0]; simp [szl]
        have hq0 : plcs f.ins L i = [] := by rw [hi0]; simp [plcs]
        have hp0 : plc f.ins L i = 0 := by rw [hi0]; exact plc_zero _ _
        by_cases hj : jmp f.ins[i] = true
        rotate_left
        · have hsz : sizeB f.ins[i] L[i] = (plainB f.ins[i]).length := by simp [sizeB, hj]
          have hjo : (f.ins[i].op == 20 || f.ins[i].op == 21) = false := by simpa [jmp] using hj
          have hpl := plainB_len f.ins[i]
          have hwv : IntKind.i64.wrap (((plainB f.ins[i]).length : Int)) = ((plc f.ins L (i + 1) : Nat) : Int) := by rw [i64_small (by omega) (by omega), hps, hp0, hsz]; omega
          simp -implicitDefEqProofs [hz, hin, hg1]
          simp -implicitDefEqProofs [Mins.cs]
          refine (i_jumpOp G _).use ?_
          simp -implicitDefEqProofs [hjo]
          refine (i_encoded G f.ins[i] q3 (by simpa using hj) q1 q2).use ?_
          simp -implicitDefEqProofs [hbl, layC, hii, hsl, hql, hwv, hz]
          refine ⟨i + 1, h1, by omega, ?_⟩
          rw [if_neg (by omega)]
          refine wkt_ren [0, 1, 2, 3, 4, 6, 7] (by simp) (by decide) (by decide) (hw_row rfl (by simp) (hw_ok rfl (by simp [-Bool.exists_bool, -Bool.forall_bool, okO, boolO]) (hw_rowr (by simp [layC, below]) (by simp [layC, ren, renL]; exact hi0) (hw_ok rfl ho3 (hw_ok rfl ho4 (hw_row (by simp [hs0, hq0, hp0, hss, hsz, List.take_of_length_le, hsl]) (by simp) (hw_row (by simp [hs0, hq0, hp0, hqs, List.take_of_length_le, hql]) (by simp) hw_nil))))))) ?_
          simp [below, ren, w1 (i := i) (by omega)]
        · have hc2 : f.ins[i].op = 20 ∨ f.ins[i].op = 21 := by simpa [jmp] using hj
          cases hLi : L[i] with
          | true =>
            rcases hc2 with e | e
            · have hsz : sizeB f.ins[i] L[i] = 3 := by simp [sizeB, hj, hLi, e]
              have hpv : plc f.ins L (i + 1) = 3 := by rw [hps, hp0, hsz]
              simp -implicitDefEqProofs [hz, hin, hg1]
              simp -implicitDefEqProofs [Mins.cs]
              refine (i_jumpOp G _).use ?_
              simp -implicitDefEqProofs [e, layC, hbo, h1, hg2, hLi, hii, hsl, hql, w2, w3, w4, hz, hl]
              refine ⟨i + 1, h1, by omega, ?_⟩
              rw [if_neg (by omega)]
              refine wkt_ren [0, 1, 2, 3, 4, 6, 7] (by simp) (by decide) (by decide) (hw_row rfl (by simp) (hw_ok rfl (by simp [-Bool.exists_bool, -Bool.forall_bool, okO, boolO]) (hw_rowr (by simp [layC, below]) (by simp [layC, ren, renL, hpv]; exact hi0) (hw_ok rfl ho3 (hw_ok rfl ho4 (hw_row (by simp [hs0, hq0, hp0, hss, hsz, List.take_of_length_le, hsl]) (by simp) (hw_row (by simp [hs0, hq0, hp0, hqs, List.take_of_length_le, hql]) (by simp) hw_nil))))))) ?_
              simp [below, ren, w1 (i := i) (by omega)]
            · have hsz : sizeB f.ins[i] L[i] = 4 := by simp [sizeB, hj, hLi, e]
              have hpv : plc f.ins L (i + 1) = 4 := by rw [hps, hp0, hsz]
              simp -implicitDefEqProofs [hz, hin, hg1]
              simp -implicitDefEqProofs [Mins.cs]
              refine (i_jumpOp G _).use ?_
              simp -implicitDefEqProofs [e, layC, hbo, h1, hg2, hLi, hii, hsl, hql, w2, w3, w4, hz, hl]
              refine ⟨i + 1, h1, by omega, ?_⟩
              rw [if_neg (by omega)]
              refine wkt_ren [0, 1, 2, 3, 4, 6, 7] (by simp) (by decide) (by decide) (hw_row rfl (by simp) (hw_ok rfl (by simp [-Bool.exists_bool, -Bool.forall_bool, okO, boolO]) (hw_rowr (by simp [layC, below]) (by simp [layC, ren, renL, hpv]; exact hi0) (hw_ok rfl ho3 (hw_ok rfl ho4 (hw_row (by simp [hs0, hq0, hp0, hss, hsz, List.take_of_length_le, hsl]) (by simp) (hw_row (by simp [hs0, hq0, hp0, hqs, List.take_of_length_le, hql]) (by simp) hw_nil))))))) ?_
              simp [below, ren, w1 (i := i) (by omega)]
          | false =>
            rcases hc2 with e | e
            · have hsz : sizeB f.ins[i] L[i] = 2 := by simp [sizeB, hj, hLi, e]
              have hpv : plc f.ins L (i + 1) = 2 := by rw [hps, hp0, hsz]
              simp -implicitDefEqProofs [hz, hin, hg1]
              simp -implicitDefEqProofs [Mins.cs]
              refine (i_jumpOp G _).use ?_
              simp -implicitDefEqProofs [e, layC, hbo, h1, hg2, hLi, hii, hsl, hql, w2, w3, w4, hz, hl]
              refine ⟨i + 1, h1, by omega, ?_⟩
              rw [if_neg (by omega)]
              refine wkt_ren [0, 1, 2, 3, 4, 6, 7] (by simp) (by decide) (by decide) (hw_row rfl (by simp) (hw_ok rfl (by simp [-Bool.exists_bool, -Bool.forall_bool, okO, boolO]) (hw_rowr (by simp [layC, below]) (by simp [layC, ren, renL, hpv]; exact hi0) (hw_ok rfl ho3 (hw_ok rfl ho4 (hw_row (by simp [hs0, hq0, hp0, hss, hsz, List.take_of_length_le, hsl]) (by simp) (hw_row (by simp [hs0, hq0, hp0, hqs, List.take_of_length_le, hql]) (by simp) hw_nil))))))) ?_
              simp [below, ren, w1 (i := i) (by omega)]
            · have hsz : sizeB f.ins[i] L[i] = 3 := by simp [sizeB, hj, hLi, e]
              have hpv : plc f.ins L (i + 1) = 3 := by rw [hps, hp0, hsz]
              simp -implicitDefEqProofs [hz, hin, hg1]
              simp -implicitDefEqProofs [Mins.cs]
              refine (i_jumpOp G _).use ?_
              simp -implicitDefEqProofs [e, layC, hbo, h1, hg2, hLi, hii, hsl, hql, w2, w3, w4, hz, hl]
              refine ⟨i + 1, h1, by omega, ?_⟩
              rw [if_neg (by omega)]
              refine wkt_ren [0, 1, 2, 3, 4, 6, 7] (by simp) (by decide) (by decide) (hw_row rfl (by simp) (hw_ok rfl (by simp [-Bool.exists_bool, -Bool.forall_bool, okO, boolO]) (hw_rowr (by simp [layC, below]) (by simp [layC, ren, renL, hpv]; exact hi0) (hw_ok rfl ho3 (hw_ok rfl ho4 (hw_row (by simp [hs0, hq0, hp0, hss, hsz, List.take_of_length_le, hsl]) (by simp) (hw_row (by simp [hs0, hq0, hp0, hqs, List.take_of_length_le, hql]) (by simp) hw_nil))))))) ?_
              simp [below, ren, w1 (i := i) (by omega)]
      · have hi1 : ¬ i = 0 := by omega
        by_cases hj : jmp f.ins[i] = true
        rotate_left
        · have hsz : sizeB f.ins[i] L[i] = (plainB f.ins[i]).length := by simp [sizeB, hj]
          have hjo : (f.ins[i].op == 20 || f.ins[i].op == 21) = false := by simpa [jmp] using hj
          have hpl := plainB_len f.ins[i]
          have hwv : IntKind.i64.wrap ((plc f.ins L i : Int) + ((plainB f.ins[i]).length : Int)) = ((plc f.ins L (i + 1) : Nat) : Int) := by rw [i64_small (by omega) (by omega), hps, hsz]; omega
          simp -implicitDefEqProofs [hi1, hin, hg1]
          simp -implicitDefEqProofs [Mins.cs]
          refine (i_jumpOp G _).use ?_
          simp -implicitDefEqProofs [hjo]
          refine (i_encoded G f.ins[i] q3 (by simpa using hj) q1 q2).use ?_
          simp -implicitDefEqProofs [hbl, layC, hii, hsl, hql, hwv, hi1]
          refine ⟨⟨by omega, by omega⟩, i + 1, h1, by omega, ?_⟩
          rw [if_neg (by omega)]
          refine wkt_ren [0, 1, 2, 3, 4, 8, 9] (by simp) (by decide) (by decide) (hw_row rfl (by simp) (hw_ok rfl (by simp [-Bool.exists_bool, -Bool.forall_bool, okO, boolO]) (hw_rowr (by simp [layC, below]) (by simp [layC, ren, renL]) (hw_ok rfl ho3 (hw_ok rfl ho4 (hw_row (by simp [hss, hsz, List.take_of_length_le, hsl]) (by simp) (hw_row (by simp [hqs, List.take_of_length_le, hql]) (by simp) hw_nil))))))) ?_
          simp [below, ren, w1 (i := i) (by omega)]
        · have hc2 : f.ins[i].op = 20 ∨ f.ins[i].op = 21 := by simpa [jmp] using hj
          cases hLi : L[i] with
          | true =>
            rcases hc2 with e | e
            · have hsz : sizeB f.ins[i] L[i] = 3 := by simp [sizeB, hj, hLi, e]
              have hwv : IntKind.i64.wrap ((plc f.ins L i : Int) + 3) = ((plc f.ins L (i + 1) : Nat) : Int) := by rw [i64_small (by omega) (by omega), hps, hsz]; omega
              simp -implicitDefEqProofs [hi1, hin, hg1]
              simp -implicitDefEqProofs [Mins.cs]
              refine (i_jumpOp G _).use ?_
              simp -implicitDefEqProofs [e, layC, hbo, h1, hg2, hLi, hii, hsl, hql, hwv, w3, w4, hi1, hl]
              refine ⟨⟨by omega, by omega⟩, i + 1, h1, by omega, ?_⟩
              rw [if_neg (by omega)]
              refine wkt_ren [0, 1, 2, 3, 4, 8, 9] (by simp) (by decide) (by decide) (hw_row rfl (by simp) (hw_ok rfl (by simp [-Bool.exists_bool, -Bool.forall_bool, okO, boolO]) (hw_rowr (by simp [layC, below]) (by simp [layC, ren, renL]) (hw_ok rfl ho3 (hw_ok rfl ho4 (hw_row (by simp [hss, hsz, List.take_of_length_le, hsl]) (by simp) (hw_row (by simp [hqs, List.take_of_length_le, hql]) (by simp) hw_nil))))))) ?_
              simp [below, ren, w1 (i := i) (by omega)]
            · have hsz : sizeB f.ins[i] L[i] = 4 := by simp [sizeB, hj, hLi, e]
              have hwv : IntKind.i64.wrap ((plc f.ins L i : Int) + 4) = ((plc f.ins L (i + 1) : Nat) : Int) := by rw [i64_small (by omega) (by omega), hps, hsz]; omega
              simp -implicitDefEqProofs [hi1, hin, hg1]
              simp -implicitDefEqProofs [Mins.cs]
              refine (i_jumpOp G _).use ?_
              simp -implicitDefEqProofs [e, layC, hbo, h1, hg2, hLi, hii, hsl, hql, hwv, w3, w4, hi1, hl]
              refine ⟨⟨by omega, by omega⟩, i + 1, h1, by omega, ?_⟩
              rw [if_neg (by omega)]
              refine wkt_ren [0, 1, 2, 3, 4, 8, 9] (by simp) (by decide) (by decide) (hw_row rfl (by simp) (hw_ok rfl (by simp [-Bool.exists_bool, -Bool.forall_bool, okO, boolO]) (hw_rowr (by simp [layC, below]) (by simp [layC, ren, renL]) (hw_ok rfl ho3 (hw_ok rfl ho4 (hw_row (by simp [hss, hsz, List.take_of_length_le, hsl]) (by simp) (hw_row (by simp [hqs, List.take_of_length_le, hql]) (by simp) hw_nil))))))) ?_
              simp [below, ren, w1 (i := i) (by omega)]
          | false =>
            rcases hc2 with e | e
            · have hsz : sizeB f.ins[i] L[i] = 2 := by simp [sizeB, hj, hLi, e]
              have hwv : IntKind.i64.wrap ((plc f.ins L i : Int) + 2) = ((plc f.ins L (i + 1) : Nat) : Int) := by rw [i64_small (by omega) (by omega), hps, hsz]; omega
              simp -implicitDefEqProofs [hi1, hin, hg1]
              simp -implicitDefEqProofs [Mins.cs]
              refine (i_jumpOp G _).use ?_
              simp -implicitDefEqProofs [e, layC, hbo, h1, hg2, hLi, hii, hsl, hql, hwv, w3, w4, hi1, hl]
              refine ⟨⟨by omega, by omega⟩, i + 1, h1, by omega, ?_⟩
              rw [if_neg (by omega)]
              refine wkt_ren [0, 1, 2, 3, 4, 8, 9] (by simp) (by decide) (by decide) (hw_row rfl (by simp) (hw_ok rfl (by simp [-Bool.exists_bool, -Bool.forall_bool, okO, boolO]) (hw_rowr (by simp [layC, below]) (by simp [layC, ren, renL]) (hw_ok rfl ho3 (hw_ok rfl ho4 (hw_row (by simp [hss, hsz, List.take_of_length_le, hsl]) (by simp) (hw_row (by simp [hqs, List.take_of_length_le, hql]) (by simp) hw_nil))))))) ?_
              simp [below, ren, w1 (i := i) (by omega)]
            · have hsz : sizeB f.ins[i] L[i] = 3 := by simp [sizeB, hj, hLi, e]
              have hwv : IntKind.i64.wrap ((plc f.ins L i : Int) + 3) = ((plc f.ins L (i + 1) : Nat) : Int) := by rw [i64_small (by omega) (by omega), hps, hsz]; omega
              simp -implicitDefEqProofs [hi1, hin, hg1]
              simp -implicitDefEqProofs [Mins.cs]
              refine (i_jumpOp G _).use ?_
              simp -implicitDefEqProofs [e, layC, hbo, h1, hg2, hLi, hii, hsl, hql, hwv, w3, w4, hi1, hl]
              refine ⟨⟨by omega, by omega⟩, i + 1, h1, by omega, ?_⟩
              rw [if_neg (by omega)]
              refine wkt_ren [0, 1, 2, 3, 4, 8, 9] (by simp) (by decide) (by decide) (hw_row rfl (by simp) (hw_ok rfl (by simp [-Bool.exists_bool, -Bool.forall_bool, okO, boolO]) (hw_rowr (by simp [layC, below]) (by simp [layC, ren, renL]) (hw_ok rfl ho3 (hw_ok rfl ho4 (hw_row (by simp [hss, hsz, List.take_of_length_le, hsl]) (by simp) (hw_row (by simp [hqs, List.take_of_length_le, hql]) (by simp) hw_nil))))))) ?_
              simp [below, ren, w1 (i := i) (by omega)]
    · simp at h1
      have hie : i = f.ins.length := by omega
      subst hie
      have hne : ¬ f.ins.length = 0 := by omega
      have hne' : ¬ f.ins = [] := fun e => by rw [e] at hpos; simp at hpos
      simp -implicitDefEqProofs [hne, hne', layC, hin]
end Go.Proofs.YtbbobekgnclkfaaDoor
