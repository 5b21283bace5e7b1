/-
  How a machine's function is encoded: the program's layout.
-/
import Derived.Test.YtbbobekgnclkfaaDoorM16
namespace Go.Proofs.YtbbobekgnclkfaaDoor
open Go Go.Aw
set_option maxRecDepth 100000
set_option maxHeartbeats 4000000
variable (G : Glob)
structure LS where
  again : Bool
  first : Bool
  L : List Bool
  sz : Int
  o3 : AO
  o4 : AO
structure IS where
  fst : Nat
  snd : Bool
def LS.row (f : Mfn) (a : LS) : AO := .row 7 [layC f (.sl 1 1 0 f.ins.length) (if a.first then .nils else .sl 3 1 0 f.ins.length) (if a.first then .nils else .sl 4 1 0 f.ins.length) a.sz]
def LS.inv (f : Mfn) (a : LS) : Prop := a.L.length = f.ins.length ∧ okO 0 a.o3 ∧ okO 0 a.o4 ∧
  (if a.again then fixL f.ins a.L = longs f.ins else a.first = false ∧ a.L = longs f.ins ∧ a.sz = plc f.ins a.L f.ins.length ∧ a.o3 = intsO (szl f.ins a.L f.ins.length) ∧ a.o4 = intsO (plcs f.ins a.L f.ins.length))

theorem pos_of_alone {e : Nat} {f : Mfn} (h : machOk (aloneF e f) = true) : 0 < f.ins.length := by
  simp only [machOk, Bool.and_eq_true] at h
  have := fnsOk_get h.2 (i := e) (f := f) (by simp [aloneF])
  simp only [fnOk, Bool.and_eq_true] at this
  have h1 := this.1.2
  rcases Nat.eq_zero_or_pos f.ins.length with h0 | h0
  · rw [List.length_eq_zero_iff] at h0
    rw [h0] at h1; simp [lastOk] at h1
  · exact h0
variable (hG : G g_forms = some pvForms)
include hG
theorem o_layoutOf0 (f : Mfn) (hn : f.ins.length ≤ 1000000) (hlo : ∀ x ∈ f.ins, x.op = 14 → -9223372036854775808 ≤ x.n) : AC Tryd.prog G n_impl_layoutOf [.agg (f.cs.map .p)] [] fun r h =>
    if codeOk f then r = .ret (.ptr 2 7 0 0) ∧ h = [.row 3 [f.cs.map .p], boolO (longs f.ins), .row 7 [layC f (.sl 1 1 0 f.ins.length) (.sl 3 1 0 f.ins.length) (.sl 4 1 0 f.ins.length) (plc f.ins (longs f.ins) f.ins.length)], intsO (szl f.ins (longs f.ins) f.ins.length), intsO (plcs f.ins (longs f.ins) f.ins.length)]
    else r = .ret .nilp := by
  refine AC.go k_impl_layoutOf ?_
  simp -implicitDefEqProofs [F_impl_layoutOf]
  simp -implicitDefEqProofs [Mfn.cs]
  refine loopA (fun i : Nat => tsOf 92 [(1, .ptr 0 3 0 0), (3, .p (.int .i64 (earT f.ins i))), (12, .p (insL f.ins)), (13, .p (.int .i64 f.ins.length)), (14, .p (.int .i64 i))]) (fun _ => [.row 3 [f.cs.map .p]])
    (fun i => i ≤ f.ins.length) (fun i => f.ins.length - i) 0 (by simp) ?_ ?_
  · refine wkt_same (by simp) (by simp [okO, Mfn.cs]) ?_
    simp [below, earT, insL, Mfn.cs]
  · intro i hi
    have hin : insL f.ins = .lst 5 (f.ins.map Mins.cs) := rfl
    have hle := earT_le f.ins i
    simp -implicitDefEqProofs [hin]
    refine cndb (fun h1 => ?_) (fun h1 => ?_)
    · simp at h1
      have hg1 := List.getElem?_eq_getElem h1
      simp -implicitDefEqProofs [hg1]
      by_cases h14 : f.ins[i].op = 14
      · have hw : IntKind.i64.wrap ((if 4 < f.ins[i].n then 4 else f.ins[i].n) + 1) = (if 4 < f.ins[i].n then 4 else f.ins[i].n) + 1 := by
          have := hlo _ (List.getElem_mem h1) h14
          split <;> exact i64_small (by omega) (by omega)
        have he : (if (earT f.ins i : Int) < (if 4 < f.ins[i].n then 4 else f.ins[i].n) + 1 then (if 4 < f.ins[i].n then 4 else f.ins[i].n) + 1 else (earT f.ins i : Int)) = ((earT f.ins (i + 1) : Nat) : Int) := by
          rw [earT_succ h1, earStep, if_pos h14]
          by_cases h4 : 4 < f.ins[i].n
          · simp only [if_pos h4]; omega
          · simp only [if_neg h4]; omega
        simp -implicitDefEqProofs [hg1, Mins.cs, h14, hw, he]
        refine ⟨i + 1, h1, by omega, wkt_pick [0] rfl (by decide) (hw_row rfl (by simp [belowL, Mfn.cs]) hw_nil) ?_⟩
        simp [below, ren, w1 (i := i) (by omega)]
      · have hw : earT f.ins (i + 1) = earT f.ins i := by rw [earT_succ h1, earStep, if_neg h14]
        simp -implicitDefEqProofs [hg1, Mins.cs, h14]
        refine ⟨i + 1, h1, by omega, wkt_pick [0] rfl (by decide) (hw_row rfl (by simp [belowL, Mfn.cs]) hw_nil) ?_⟩
        simp [below, ren, w1 (i := i) (by omega), hw]
    · simp at h1
      have : i = f.ins.length := by omega
      subst this
      simp -implicitDefEqProofs []
      have hbc : backF.cs = [.int .i64 0, .int .i64 0, .lst 5 [[.int .i64 22, .int .i64 0, .int .i64 0, .int .i64 0, .int .i64 0]]] := rfl
      generalize hee : earT f.ins f.ins.length = e at *
      refine (o_Repeat G (.row 3 [f.cs.map .p]) (by simp [okO, Mfn.cs]) e hle).mono ?_
      rintro r h ⟨rfl, rfl⟩
      simp -implicitDefEqProofs [callR, callR_nxt]
      refine ⟨⟨by omega, by omega⟩, ?_⟩
      have hv : View [AO.row 3 [List.map AV.p f.cs], AO.dead, AO.row 3 (List.replicate e (List.map AV.p backF.cs) ++ [[AV.p (PV.int IntKind.i64 f.params), AV.p (PV.int IntKind.i64 f.slots), AV.p (PV.lst 5 (List.map Mins.cs f.ins))]]), AO.row 1 [[AV.sl 2 3 0 (e + 1)]]] (.sl 2 3 0 (e + 1)) (fnsL (aloneF e f)) :=
        view_row (ls := (aloneF e f).map Mfn.cs) (by simp [aloneF, Mfn.cs]) (by simp [aloneF]) (fun l hl => by obtain ⟨x, _, rfl⟩ := List.mem_map.1 hl; rfl)
      refine (VF.lend (i_MachValid G hG (aloneF e f) (by rw [szF_alone]; omega)) (.agg (.one hv .nil) .nil) rfl).mono ?_
      rintro r h ⟨rfl, rfl⟩
      have hae : machOk (aloneF e f) = machOk (aloneF (mostS f.ins) f) := by rw [← hee]; exact alone_eq f
      simp -implicitDefEqProofs [hae]
      refine cndb (fun h2 => ?_) (fun h2 => ?_)
      · simp at h2
        have hc : codeOk f = false := by simp [codeOk, h2]
        simp -implicitDefEqProofs [hc]
      · simp at h2
        have hf := fine_of_alone h2
        have hmn : f.ins.length ≤ 2000 := hf.1
        simp -implicitDefEqProofs [Mfn.cs, insL]
        refine ⟨by omega, ?_⟩
        have hpos := pos_of_alone h2
        refine loopA (fun a : LS => tsOf 92 [(1, .ptr 0 3 0 0), (7, .ptr 2 7 0 0), (8, .p (.bool a.again))]) (fun a => [.row 3 [f.cs.map .p], boolO a.L, a.row f, a.o3, a.o4])
          (fun a => a.inv f) (fun a => 2 * countF a.L + (if a.again then 1 else 0)) ⟨true, true, List.replicate f.ins.length false, 0, .dead, .dead⟩ (by simp [LS.inv, longs, okO]) ?_ ?_
        · refine wkt_pick [0, 4, 5, 1, 3] rfl (by decide) (hw_row rfl (by simp [belowL, Mfn.cs]) (hw_ok (by simp [boolO]) (by simp [-Bool.exists_bool, -Bool.forall_bool, okO, boolO]) (hw_rowr (by simp [layC, below]) (by simp [layC, ren, renL]; exact hin.symm) (hw_dead (by simp) (hw_dead (by simp) hw_nil))))) ?_
          simp [below, ren]
        · rintro ⟨again, first, L, sz, o3, o4⟩ ⟨hL, ho3, ho4, hfix⟩
          simp only at hL ho3 ho4 hfix
          simp -implicitDefEqProofs []
          refine cndb (fun h3 => ?_) (fun h3 => ?_)
          · subst h3
            simp only [if_true] at hfix
            simp -implicitDefEqProofs []
            refine AC.mono (o_settle G f L hL hf hpos _ _ sz o3 o4 ho3 ho4) ?_
            rintro r h ⟨rfl, rfl⟩
            have hbo : ∀ l, boolO l = .row 1 (l.map fun b => [.p (.bool b)]) := fun _ => rfl
            simp -implicitDefEqProofs [callR_nxt]
            simp -implicitDefEqProofs [Mfn.cs, hin]
            have hrl := roundL_len f.ins L
            have hn0 : L = nextAt f.ins L 0 := by simp [nextAt]
            refine loopA (fun a : IS => tsOf 92 [(1, .ptr 0 3 0 0), (7, .ptr 2 7 0 0), (8, .p (.bool a.snd)), (52, .p (insL f.ins)), (53, .p (.int .i64 f.ins.length)), (54, .p (.int .i64 a.fst))])
              (fun a => [.row 3 [f.cs.map .p], boolO (nextAt f.ins L a.fst), .row 7 [layC f (.sl 1 1 0 f.ins.length) (.sl 5 1 0 f.ins.length) (.sl 6 1 0 f.ins.length) (plc f.ins L f.ins.length)], o3, o4, intsO (szl f.ins L f.ins.length), intsO (plcs f.ins L f.ins.length)])
              (fun a => a.fst ≤ f.ins.length ∧ (a.snd = false → (roundL f.ins L).take a.fst = L.take a.fst) ∧ (a.snd = true → roundL f.ins L ≠ L)) (fun a => f.ins.length - a.fst) ⟨0, false⟩ (by simp) ?_ ?_
            · rw [← hn0]
              refine wkt_pick [0, 1, 2, 3, 4, 5, 6] rfl (by decide) (hw_row rfl (by simp [belowL, Mfn.cs]) (hw_ok rfl (by simp [-Bool.exists_bool, -Bool.forall_bool, okO, boolO]) (hw_rowr (by simp [layC, below]) (by simp [layC, ren, renL]) (hw_ok rfl ho3 (hw_ok rfl ho4 (hw_ok rfl (by simp [okO, intsO]) (hw_ok rfl (by simp [okO, intsO]) hw_nil))))))) ?_
              simp [below, ren, hin]
            · rintro ⟨i, c⟩ ⟨hi, hc0, hc1⟩
              simp only at hi hc0 hc1
              simp -implicitDefEqProofs [hin]
              refine cndb (fun h3 => ?_) (fun h3 => ?_)
              · simp at h3
                have h4 : i < L.length := by omega
                obtain ⟨q1, q2, q3, q4⟩ := hf.2 _ (List.getElem_mem h3)
                have hg1 := List.getElem?_eq_getElem h3
                have hg2 := List.getElem?_eq_getElem h4
                have hng := nextAt_get (ins := f.ins) h4
                have hrg := roundL_get (ins := f.ins) h4
                have hnl := nextAt_len (ins := f.ins) (L := L) (i := i) (by omega)
                have hstay : (L[i] || need f.ins L i) = L[i] → ((⟨i + 1, c⟩ : IS).fst ≤ f.ins.length ∧ ((⟨i + 1, c⟩ : IS).snd = false → (roundL f.ins L).take (⟨i + 1, c⟩ : IS).fst = L.take (⟨i + 1, c⟩ : IS).fst) ∧ ((⟨i + 1, c⟩ : IS).snd = true → roundL f.ins L ≠ L)) := fun hs => by
                  refine ⟨h3, fun hc => ?_, hc1⟩
                  show (roundL f.ins L).take (i + 1) = L.take (i + 1)
                  rw [take_succ' (by rw [hrl]; exact h4), take_succ' h4, hc0 hc, hrg, hs]
                simp -implicitDefEqProofs [hg1]
                simp -implicitDefEqProofs [Mins.cs]
                refine (i_jumpOp G _).use ?_
                by_cases hj : jmp f.ins[i] = true
                · have hjo : (f.ins[i].op == 20 || f.ins[i].op == 21) = true := by simpa [jmp] using hj
                  simp -implicitDefEqProofs [hjo, layC, hbo, h3, hng]
                  cases hLi : L[i] with
                  | true =>
                    have hs : (L[i] || need f.ins L i) = L[i] := by simp [hLi]
                    simp -implicitDefEqProofs [hLi]
                    refine ⟨⟨i + 1, c⟩, hstay hs, (by show f.ins.length - (i + 1) < f.ins.length - i; omega), ?_⟩
                    rw [nextAt_same h4 hs]
                    refine wkt_pick [0, 1, 2, 3, 4, 5, 6] rfl (by decide) (hw_row rfl (by simp [belowL, Mfn.cs]) (hw_ok rfl (by simp [-Bool.exists_bool, -Bool.forall_bool, okO, boolO]) (hw_rowr (by simp [layC, below]) (by simp [layC, ren, renL]) (hw_ok rfl ho3 (hw_ok rfl ho4 (hw_ok rfl (by simp [okO, intsO]) (hw_ok rfl (by simp [okO, intsO]) hw_nil))))))) ?_
                    simp [below, ren, w1 (i := i) (by omega)]
                  | false =>
                    simp -implicitDefEqProofs [hLi]
                    refine AC.mono (i_offset G (L := L) hL hf h3 hj rfl rfl rfl) ?_
                    rintro r h ⟨rfl, rfl⟩
                    simp -implicitDefEqProofs [callR_nxt, hLi]
                    refine (i_within G _ _ _).use ?_
                    simp -implicitDefEqProofs []
                    have hneed : need f.ins L i = !inR ((plc f.ins L f.ins[i].n.toNat : Int) - (plc f.ins L i : Int) - (sizeB f.ins[i] false : Int)) (-128) 127 := by simp [need, hg1, hj]
                    refine cndb (fun h5 => ?_) (fun h5 => ?_)
                    · simp at h5
                      have hnt : need f.ins L i = true := by rw [hneed, h5]; rfl
                      have hset := nextAt_set (ins := f.ins) h4
                      rw [hLi, hnt] at hset
                      simp only [Bool.false_or] at hset
                      have hset2 : ((nextAt f.ins L i).map fun b => [AV.p (.bool b)]).set i [AV.p (.bool true)] = (nextAt f.ins L (i + 1)).map fun b => [AV.p (.bool b)] := by rw [← hset, List.map_set]
                      simp -implicitDefEqProofs [h3, hng, hset2]
                      refine ⟨⟨i + 1, true⟩, ⟨h3, by simp, fun _ he => ?_⟩, (by show f.ins.length - (i + 1) < f.ins.length - i; omega), ?_⟩
                      · have h6 : (roundL f.ins L)[i]? = some true := by rw [List.getElem?_eq_getElem (by rw [hrl]; exact h4), hrg, hnt]; simp
                        rw [he, hg2, hLi] at h6; cases h6
                      · refine wkt_pick [0, 1, 2, 3, 4, 5, 6] rfl (by decide) (hw_row rfl (by simp [belowL, Mfn.cs]) (hw_ok rfl (by simp [-Bool.exists_bool, -Bool.forall_bool, okO, boolO]) (hw_rowr (by simp [layC, below]) (by simp [layC, ren, renL]) (hw_ok rfl ho3 (hw_ok rfl ho4 (hw_ok rfl (by simp [okO, intsO]) (hw_ok rfl (by simp [okO, intsO]) hw_nil))))))) ?_
                        simp [below, ren, w1 (i := i) (by omega)]
                    · simp at h5
                      have hnt : need f.ins L i = false := by rw [hneed, h5]; rfl
                      have hs : (L[i] || need f.ins L i) = L[i] := by simp [hnt]
                      simp -implicitDefEqProofs []
                      refine ⟨⟨i + 1, c⟩, hstay hs, (by show f.ins.length - (i + 1) < f.ins.length - i; omega), ?_⟩
                      rw [nextAt_same h4 hs]
                      refine wkt_pick [0, 1, 2, 3, 4, 5, 6] rfl (by decide) (hw_row rfl (by simp [belowL, Mfn.cs]) (hw_ok rfl (by simp [-Bool.exists_bool, -Bool.forall_bool, okO, boolO]) (hw_rowr (by simp [layC, below]) (by simp [layC, ren, renL]) (hw_ok rfl ho3 (hw_ok rfl ho4 (hw_ok rfl (by simp [okO, intsO]) (hw_ok rfl (by simp [okO, intsO]) hw_nil))))))) ?_
                      simp [below, ren, w1 (i := i) (by omega)]
                · have hjo : (f.ins[i].op == 20 || f.ins[i].op == 21) = false := by simpa [jmp] using hj
                  simp -implicitDefEqProofs [hjo]
                  have hs : (L[i] || need f.ins L i) = L[i] := by simp [need, hg1, hj]
                  refine ⟨⟨i + 1, c⟩, hstay hs, (by show f.ins.length - (i + 1) < f.ins.length - i; omega), ?_⟩
                  rw [nextAt_same h4 hs]
                  refine wkt_pick [0, 1, 2, 3, 4, 5, 6] rfl (by decide) (hw_row rfl (by simp [belowL, Mfn.cs]) (hw_ok rfl (by simp [-Bool.exists_bool, -Bool.forall_bool, okO, boolO]) (hw_rowr (by simp [layC, below]) (by simp [layC, ren, renL]) (hw_ok rfl ho3 (hw_ok rfl ho4 (hw_ok rfl (by simp [okO, intsO]) (hw_ok rfl (by simp [okO, intsO]) hw_nil))))))) ?_
                  simp [below, ren, w1 (i := i) (by omega)]
              · simp at h3
                have hie : i = f.ins.length := by omega
                subst hie
                have hnx : nextAt f.ins L f.ins.length = roundL f.ins L := by rw [nextAt, List.take_of_length_le (by rw [hrl]; omega), List.drop_of_length_le (by omega), List.append_nil]
                rw [List.take_of_length_le (by rw [hrl]; omega), List.take_of_length_le (by omega)] at hc0
                rw [hnx]
                simp -implicitDefEqProofs []
                refine ⟨⟨c, false, roundL f.ins L, plc f.ins L f.ins.length, intsO (szl f.ins L f.ins.length), intsO (plcs f.ins L f.ins.length)⟩, ⟨by rw [hrl]; exact hL, by simp [okO, intsO], by simp [okO, intsO], ?_⟩, ?_, wkt_pick [0, 1, 2, 5, 6] rfl (by simp) (hw_row rfl (by simp [belowL]) (hw_ok rfl (by simp [-Bool.exists_bool, -Bool.forall_bool, okO, boolO]) (hw_rowr (by simp [layC, below]) (by simp [layC, ren, renL]) (hw_ok rfl (by simp [okO, intsO]) (hw_ok rfl (by simp [okO, intsO]) hw_nil))))) ?_⟩
                · cases c with
                  | false =>
                    have hh := hc0 rfl
                    simp only [Bool.false_eq_true, if_false]
                    refine ⟨trivial, ?_, ?_, ?_, ?_⟩
                    · rw [← hfix, fixL_same hh, hh]
                    · rw [hh]
                    · rw [hh]
                    · rw [hh]
                  | true => simp only [if_true]; rw [← hfix, fixL_next (hc1 rfl)]
                · cases c with
                  | false => have := hc0 rfl; rw [this]; simp
                  | true => have := countF_round _ _ (hc1 rfl); simp; omega
                · simp [below, ren]
          · subst h3
            simp at hfix
            obtain ⟨hf1, hf2, hf3, hf4, hf5⟩ := hfix
            subst hf1 hf2 hf3 hf4 hf5
            simp -implicitDefEqProofs [LS.row, layC]
            refine cndb (fun h4 => ?_) (fun h4 => ?_)
            · simp at h4
              have hc : codeOk f = false := by simp [codeOk]; intro _; omega
              simp -implicitDefEqProofs [hc]
            · simp at h4
              have hc : codeOk f = true := by simp [codeOk, h2]; omega
              simp -implicitDefEqProofs [hc, Mfn.cs, hin]
end Go.Proofs.YtbbobekgnclkfaaDoor
