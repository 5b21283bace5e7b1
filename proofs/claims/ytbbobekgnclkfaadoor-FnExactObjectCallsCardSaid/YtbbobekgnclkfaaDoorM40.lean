/-
  The helpers of the laws over objects: sizes, comparisons, copies; lists of numbers and of words compared.
-/
import Derived.Test.YtbbobekgnclkfaaDoorM38
namespace Go.Proofs.YtbbobekgnclkfaaDoor
open Go Go.Aw
set_option maxRecDepth 100000
set_option maxHeartbeats 4000000
variable (G : Glob)

def numL (l : List Int) : PV := .lst 1 (l.map fun n => [.int .i64 n])
structure Obj where (name : List UInt8) (params slots : Int) (code calls : List Int) (names : List (List UInt8))
deriving DecidableEq
def Obj.cs (o : Obj) : List PV := [.str o.name, .int .i64 o.params, .int .i64 o.slots, bysL o.code, numL o.calls, strL o.names]
theorem take_done' {α : Type} {xs ys : List α} {i : Nat} (h : xs.length = ys.length) (h1 : ys.length ≤ i) (he : xs.take i = ys.take i) : xs = ys := by
  rwa [List.take_of_length_le (by omega), List.take_of_length_le h1] at he
@[simp] theorem Obj.cs_len (o : Obj) : o.cs.length = 6 := rfl
@[simp] theorem Obj.cs_take (o : Obj) : List.take 6 (o.cs.map AV.p) = o.cs.map AV.p := rfl

theorem t_eqIntS (xs ys : List Int) (hb : xs.length ≤ 1048576) : VF Tryd.prog G n_laws_eqIntS [.p (numL xs), .p (numL ys)] (.p (.bool (decide (xs = ys)))) := by
  refine AC.go k_laws_eqIntS ?_
  simp -implicitDefEqProofs [F_laws_eqIntS, numL]
  refine cndb (fun h => ?_) (fun h => ?_)
  · have h' : xs ≠ ys := by rintro rfl; simp at h
    simp -implicitDefEqProofs [h']
  have h : xs.length = ys.length := by simp at h; omega
  simp -implicitDefEqProofs []
  refine loopA (fun i : Nat => tsOf 26 [(0, .p (numL xs)), (1, .p (numL ys)), (5, .p (.int .i64 i))]) (fun _ => []) (fun i => i ≤ xs.length ∧ xs.take i = ys.take i) (fun i => xs.length - i) 0 (by simp) ?_ ?_
  · exact wkt_nil rfl (by simp [below, numL, h])
  intro i ⟨hi, he⟩
  simp -implicitDefEqProofs [numL]
  refine cndb (fun h1 => ?_) (fun h1 => ?_)
  · simp at h1
    have h1 : i < ys.length := by omega
    have h1' : i < xs.length := by omega
    have hx := List.getElem?_eq_getElem h1'
    have hy := List.getElem?_eq_getElem h1
    by_cases h3 : xs[i] = ys[i]
    · simp -implicitDefEqProofs [hx, hy, h3]
      exact ⟨i + 1, ⟨h1', take_succ_eq h1' h1 h3 he⟩, by omega, wkt_nil rfl (by simp [below, numL, w1 (i := i) (by omega)])⟩
    · have h' : xs ≠ ys := by rintro rfl; exact h3 rfl
      simp -implicitDefEqProofs [hx, hy, h3, h']
  · simp at h1
    have h1 : ys.length ≤ i := by omega
    have h' : xs = ys := take_done' h h1 he
    simp -implicitDefEqProofs [h']

theorem t_eqStringS (xs ys : List (List UInt8)) (hb : xs.length ≤ 1048576) : VF Tryd.prog G n_laws_eqStringS [.p (strL xs), .p (strL ys)] (.p (.bool (decide (xs = ys)))) := by
  refine AC.go k_laws_eqStringS ?_
  simp -implicitDefEqProofs [F_laws_eqStringS, strL]
  refine cndb (fun h => ?_) (fun h => ?_)
  · have h' : xs ≠ ys := by rintro rfl; simp at h
    simp -implicitDefEqProofs [h']
  have h : xs.length = ys.length := by simp at h; omega
  simp -implicitDefEqProofs []
  refine loopA (fun i : Nat => tsOf 26 [(0, .p (strL xs)), (1, .p (strL ys)), (5, .p (.int .i64 i))]) (fun _ => []) (fun i => i ≤ xs.length ∧ xs.take i = ys.take i) (fun i => xs.length - i) 0 (by simp) ?_ ?_
  · exact wkt_nil rfl (by simp [below, strL, h])
  intro i ⟨hi, he⟩
  simp -implicitDefEqProofs [strL]
  refine cndb (fun h1 => ?_) (fun h1 => ?_)
  · simp at h1
    have h1 : i < ys.length := by omega
    have h1' : i < xs.length := by omega
    have hx := List.getElem?_eq_getElem h1'
    have hy := List.getElem?_eq_getElem h1
    by_cases h3 : xs[i] = ys[i]
    · simp -implicitDefEqProofs [hx, hy, h3]
      exact ⟨i + 1, ⟨h1', take_succ_eq h1' h1 h3 he⟩, by omega, wkt_nil rfl (by simp [below, strL, w1 (i := i) (by omega)])⟩
    · have h' : xs ≠ ys := by rintro rfl; exact h3 rfl
      simp -implicitDefEqProofs [hx, hy, h3, h']
  · simp at h1
    have h1 : ys.length ≤ i := by omega
    have h' : xs = ys := take_done' h h1 he
    simp -implicitDefEqProofs [h']

theorem t_l5Ints (xs ys : List Int) (hb : xs.length ≤ 1048576) : VF Tryd.prog G n_spec_l5Ints [.p (numL xs), .p (numL ys)] (.p (.bool (decide (xs = ys)))) := by
  refine AC.go k_spec_l5Ints ?_
  simp -implicitDefEqProofs [F_spec_l5Ints, numL]
  refine cndb (fun h => ?_) (fun h => ?_)
  · have h' : xs ≠ ys := by rintro rfl; simp at h
    simp -implicitDefEqProofs [h']
  have h : xs.length = ys.length := by simp at h; omega
  simp -implicitDefEqProofs []
  refine loopA (fun i : Nat => tsOf 26 [(0, .p (numL xs)), (1, .p (numL ys)), (5, .p (.int .i64 i))]) (fun _ => []) (fun i => i ≤ xs.length ∧ xs.take i = ys.take i) (fun i => xs.length - i) 0 (by simp) ?_ ?_
  · exact wkt_nil rfl (by simp [below, numL, h])
  intro i ⟨hi, he⟩
  simp -implicitDefEqProofs [numL]
  refine cndb (fun h1 => ?_) (fun h1 => ?_)
  · simp at h1
    have h1 : i < ys.length := by omega
    have h1' : i < xs.length := by omega
    have hx := List.getElem?_eq_getElem h1'
    have hy := List.getElem?_eq_getElem h1
    by_cases h3 : xs[i] = ys[i]
    · simp -implicitDefEqProofs [hx, hy, h3]
      exact ⟨i + 1, ⟨h1', take_succ_eq h1' h1 h3 he⟩, by omega, wkt_nil rfl (by simp [below, numL, w1 (i := i) (by omega)])⟩
    · have h' : xs ≠ ys := by rintro rfl; exact h3 rfl
      simp -implicitDefEqProofs [hx, hy, h3, h']
  · simp at h1
    have h1 : ys.length ≤ i := by omega
    have h' : xs = ys := take_done' h h1 he
    simp -implicitDefEqProofs [h']

theorem t_EqualInt (xs ys : List Int) (hb : xs.length ≤ 1048576) : VF Tryd.prog G n_slices_Equal_int [.p (numL xs), .p (numL ys)] (.p (.bool (decide (xs = ys)))) := by
  refine AC.go k_slices_Equal_int ?_
  simp -implicitDefEqProofs [F_slices_Equal_int, numL]
  refine cndb (fun h => ?_) (fun h => ?_)
  · have h' : xs ≠ ys := by rintro rfl; simp at h
    simp -implicitDefEqProofs [h']
  have h : xs.length = ys.length := by simp at h; omega
  simp -implicitDefEqProofs []
  refine loopA (fun i : Nat => tsOf 26 [(0, .p (numL xs)), (1, .p (numL ys)), (11, .p (numL xs)), (12, .p (.int .i64 xs.length)), (13, .p (.int .i64 i))]) (fun _ => []) (fun i => i ≤ xs.length ∧ xs.take i = ys.take i) (fun i => xs.length - i) 0 (by simp) ?_ ?_
  · exact wkt_nil rfl (by simp [below, numL, h])
  intro i ⟨hi, he⟩
  simp -implicitDefEqProofs [numL]
  refine cndb (fun h1 => ?_) (fun h1 => ?_)
  · simp at h1
    have h1 : i < ys.length := by omega
    have h1' : i < xs.length := by omega
    have hx := List.getElem?_eq_getElem h1'
    have hy := List.getElem?_eq_getElem h1
    by_cases h3 : xs[i] = ys[i]
    · simp -implicitDefEqProofs [hx, hy, h3]
      exact ⟨i + 1, ⟨h1', take_succ_eq h1' h1 h3 he⟩, by omega, wkt_nil rfl (by simp [below, numL, w1 (i := i) (by omega)])⟩
    · have h' : xs ≠ ys := by rintro rfl; exact h3 rfl
      simp -implicitDefEqProofs [hx, hy, h3, h']
  · simp at h1
    have h1 : ys.length ≤ i := by omega
    have h' : xs = ys := take_done' h h1 he
    simp -implicitDefEqProofs [h']

theorem t_eqObject (x y : Obj) (h3 : x.code.length ≤ 1048576) (h4 : x.calls.length ≤ 1048576) (h5 : x.names.length ≤ 1048576) : VF Tryd.prog G n_laws_eqObject [.agg (x.cs.map .p), .agg (y.cs.map .p)] (.p (.bool (decide (x = y)))) := by
  refine AC.go k_laws_eqObject ?_
  have hxy : (x = y) ↔ (x.name = y.name ∧ x.params = y.params ∧ x.slots = y.slots ∧ x.code = y.code ∧ x.calls = y.calls ∧ x.names = y.names) := by
    cases x; cases y; simp
  by_cases h1 : x.name = y.name
  case neg => simp -implicitDefEqProofs [F_laws_eqObject, Obj.cs, hxy, h1]
  by_cases h2 : x.params = y.params
  case neg => simp -implicitDefEqProofs [F_laws_eqObject, Obj.cs, hxy, h1, h2]
  by_cases h6 : x.slots = y.slots
  case neg => simp -implicitDefEqProofs [F_laws_eqObject, Obj.cs, hxy, h1, h2, h6]
  simp -implicitDefEqProofs [F_laws_eqObject, Obj.cs, h1, h2, h6]
  refine (t_eqByteS G _ _ h3).use ?_
  by_cases h7 : x.code = y.code
  case neg => simp -implicitDefEqProofs [hxy, h7]
  simp -implicitDefEqProofs [h7]
  refine (t_eqIntS G _ _ h4).use ?_
  by_cases h8 : x.calls = y.calls
  case neg => simp -implicitDefEqProofs [hxy, h8]
  simp -implicitDefEqProofs [h8]
  refine (t_eqStringS G _ _ h5).use ?_
  by_cases h9 : x.names = y.names
  case neg => simp -implicitDefEqProofs [hxy, h9]
  simp -implicitDefEqProofs [hxy, h1, h2, h6, h7, h8, h9]

end Go.Proofs.YtbbobekgnclkfaaDoor
