/-
  How a machine's function is encoded: the reference's places and long jumps.
-/
import Derived.Test.YtbbobekgnclkfaaDoorM9
namespace Go.Proofs.YtbbobekgnclkfaaDoor
open Go Go.Aw
set_option maxRecDepth 100000
set_option maxHeartbeats 4000000

def intsL (l : List Nat) : PV := .lst 1 (l.map fun (n : Nat) => [.int .i64 (n : Int)])
def intsO (l : List Nat) : AO := .row 1 (l.map fun (n : Nat) => [.p (.int .i64 (n : Int))])
def boolL (l : List Bool) : PV := .lst 1 (l.map fun b => [.bool b])
def boolO (l : List Bool) : AO := .row 1 (l.map fun b => [.p (.bool b)])
def plcs (ins : List Mins) (L : List Bool) (k : Nat) : List Nat := (List.range k).map (plc ins L)
theorem plcs_len (ins : List Mins) (L : List Bool) (k : Nat) : (plcs ins L k).length = k := by simp [plcs]
theorem plcs_succ (ins : List Mins) (L : List Bool) (k : Nat) : plcs ins L (k + 1) = plcs ins L k ++ [plc ins L k] := by simp [plcs, List.range_succ]
theorem plcs_get {ins : List Mins} {L : List Bool} {k i : Nat} (h : i < k) : (plcs ins L k)[i]? = some (plc ins L i) := by simp [plcs, h]
variable (G : Glob)

theorem o_l25Places (f : Mfn) (L : List Bool) (hl : L.length = f.ins.length) (hf : InsFine f.ins) :
    AC Tryd.prog G n_spec_l25Places [.agg (f.cs.map .p), .p (boolL L)] [] fun r h => r = .ret (.tup [.sl 0 1 0 f.ins.length, .p (.int .i64 (plc f.ins L f.ins.length))]) ∧ h = [intsO (plcs f.ins L f.ins.length)] := by
  obtain ⟨hn, hfi⟩ := hf
  have key : AC Tryd.prog G n_spec_l25Places [.agg (f.cs.map .p), .p (boolL L)] [] fun r h => r = .ret (.tup [.sl 1 1 0 f.ins.length, .p (.int .i64 (plc f.ins L f.ins.length))]) ∧ ∃ o, h = [o, intsO (plcs f.ins L f.ins.length)] := by
    refine AC.enter k_spec_l25Places ?_
    simp -implicitDefEqProofs [F_spec_l25Places, List.replicate, boolL]
    refine loopA (fun i : Nat => slots 35 [(1, .p (boolL L)), (2, .ptr 0 3 0 0), (6, .sl 1 1 0 i), (7, .p (.int .i64 (plc f.ins L i))), (8, .p (.int .i64 i))]) (fun i => [.row 3 [f.cs.map .p], intsO (plcs f.ins L i)])
      (fun i => i ≤ f.ins.length) (fun i => f.ins.length - i) 0 (by simp) ?_ ?_
    · refine wk_same ?_ ?_ ?_
      · simp
      · simp [okO, Mfn.cs]
      simp [slots, List.replicate, below, boolL, plc_zero]
    · intro i hi
      simp -implicitDefEqProofs [slots, List.replicate, boolL]
      simp -implicitDefEqProofs [Mfn.cs]
      refine cnd (fun h1 => ?_) (fun h1 => ?_)
      · simp at h1
        have h2 : i < L.length := by omega
        obtain ⟨q1, q2, q3, q4⟩ := hfi _ (List.getElem_mem h1)
        have hle := plc_le (ins := f.ins) (L := L) hl (i := i)
        have hsz := sizeB_le f.ins[i] L[i]
        have hw : IntKind.i64.wrap ((plc f.ins L i : Int) + (sizeB f.ins[i] L[i] : Int)) = ((plc f.ins L (i + 1) : Nat) : Int) := by rw [i64_small (by omega) (by omega), plc_succ h1 h2]; omega
        have hg1 := List.getElem?_eq_getElem h1
        have hg2 := List.getElem?_eq_getElem h2
        have hin : intsO (plcs f.ins L i) = .row 1 ((plcs f.ins L i).map fun (n : Nat) => [.p (.int .i64 (n : Int))]) := rfl
        have hlen := plcs_len f.ins L i
        simp -implicitDefEqProofs [hin, hlen, hg1, hg2]
        refine ⟨by omega, ?_⟩
        have e : List.take i (List.map (fun (n : Nat) => [AV.p (.int .i64 (n : Int))]) (plcs f.ins L i)) ++ [[AV.p (.int .i64 ((plc f.ins L i : Nat) : Int))]] = (plcs f.ins L (i + 1)).map fun (n : Nat) => [AV.p (.int .i64 (n : Int))] := by
          rw [List.take_of_length_le (by simp [hlen]), plcs_succ, List.map_append]; rfl
        rw [e]
        refine (s_l25Size G f.ins[i] L[i] q1 q2).use ?_
        simp -implicitDefEqProofs [hw]
        refine ⟨i + 1, h1, by omega, wk_pick [0, 3] rfl (by simp) (hw_row rfl (by simp) (hw_row rfl (by simp) hw_nil)) ?_⟩
        simp [below, ren, w1 (i := i) (by omega)]
      · simp at h1
        have : i = f.ins.length := by omega
        subst this
        simp -implicitDefEqProofs
  refine key.gc (fun t v h ⟨e, _⟩ => by cases e) fun v h ⟨e1, o, e2⟩ => ?_
  cases e1; subst e2
  exact ⟨.tup [.sl 0 1 0 f.ins.length, .p (.int .i64 (plc f.ins L f.ins.length))], [intsO (plcs f.ins L f.ins.length)], ⟨[1], by simp, by simp, by simp, by simp [below], by simp [ren, renL], by simp, ⟨by simp [intsO], by simp [intsO, renL, ren]⟩, trivial⟩, rfl, rfl⟩
end Go.Proofs.YtbbobekgnclkfaaDoor
