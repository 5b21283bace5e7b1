/-
  Whether a machine's program is valid: the reference.
-/
import Derived.Test.YtbbobekgnclkfaaDoorM2
namespace Go.Proofs.YtbbobekgnclkfaaDoor
open Go Go.Aw
set_option maxRecDepth 100000
set_option maxHeartbeats 4000000
variable (G : Glob)

/-! ### The plain model -/
def inR (n lo hi : Int) : Bool := decide (lo ≤ n ∧ n ≤ hi)
def fA (op : Int) : Bool := op != 14 && op != 20
def fB (op : Int) : Bool := inR op 2 12
def fC (op : Int) : Bool := inR op 3 9
def fN (op : Int) : Bool := op == 1 || inR op 14 18 || op == 20 || op == 21
def mostN (params slots len k op : Int) : Int :=
  if op = 1 then 255 else if op = 14 then k - 1 else if op = 15 ∨ op = 16 then slots - 1 else if op = 17 then 2 else if op = 18 then params - 1 else len - 1
/-- An instruction of the k-th function, which has params, slots, len. -/
def insOk (params slots len k : Int) (x : Mins) : Bool :=
  inR x.op 1 22 && (fA x.op || x.a == 0) && (fB x.op || x.b == 0) && (fC x.op || x.c == 0) && (fN x.op || x.n == 0) &&
  inR x.a 0 7 && inR x.b 0 7 && inR x.c 0 7 && (!fN x.op || inR x.n 0 (mostN params slots len k x.op))
def lastOk (l : List Mins) : Bool := match l.getLast? with | some x => x.op == 20 || x.op == 22 | none => false
def fnOk (k : Int) (f : Mfn) : Bool := inR f.params 0 3 && inR f.slots 0 64 && lastOk f.ins && f.ins.all (insOk f.params f.slots f.ins.length k)
def fnsOk : Int → List Mfn → Bool
  | _, [] => true
  | k, f :: r => fnOk k f && fnsOk (k + 1) r
def insSum (fs : List Mfn) : Nat := (fs.map (·.ins.length)).sum
def machOk (fs : List Mfn) : Bool := inR fs.length 1 4 && decide (insSum fs ≤ 2000) && fnsOk 0 fs

/-! ### Words -/
def wordT : List (List UInt8) := [[], [115, 101, 116], [109, 111, 118, 101], [97, 100, 100], [115, 117, 98], [109, 117, 108], [100, 105, 118], [114, 101, 109], [108, 101, 115, 115], [115, 97, 109, 101], [110, 111, 116], [108, 111, 97, 100], [115, 116, 111, 114, 101], [115, 97, 121], [99, 97, 108, 108], [107, 101, 101, 112], [116, 97, 107, 101], [103, 105, 118, 101], [102, 101, 116, 99, 104], [114, 101, 115, 117, 108, 116], [106, 117, 109, 112], [98, 114, 97, 110, 99, 104], [98, 97, 99, 107]]
def fldT : List (List UInt8) := [[], [65, 78], [65, 66], [65, 66, 67], [65, 66, 67], [65, 66, 67], [65, 66, 67], [65, 66, 67], [65, 66, 67], [65, 66, 67], [65, 66], [65, 66], [65, 66], [65], [78], [65, 78], [65, 78], [65, 78], [65, 78], [65], [78], [65, 78], [65]]
def wordOf (op : Int) : List UInt8 := if inR op 1 22 then wordT.getD op.toNat [] else []
def fldOf (op : Int) : List UInt8 := if inR op 1 22 then fldT.getD op.toNat [] else []

theorem s_l1In (n lo hi : Int) : VF Tryd.prog G n_spec_l1In [.p (.int .i64 n), .p (.int .i64 lo), .p (.int .i64 hi)] (.p (.bool (inR n lo hi))) := by
  refine AC.enter k_spec_l1In ?_
  simp -implicitDefEqProofs [F_spec_l1In, List.replicate]
  refine cnd (fun h => ?_) (fun h => ?_)
  · simp at h; simp [inR, h]
  · simp at h
    have : ¬ (lo ≤ n) := by omega
    simp [inR, h, this]

theorem i_within (n lo hi : Int) : VF Tryd.prog G n_impl_within [.p (.int .i64 n), .p (.int .i64 lo), .p (.int .i64 hi)] (.p (.bool (inR n lo hi))) := by
  refine AC.enter k_impl_within ?_
  simp -implicitDefEqProofs [F_impl_within, List.replicate]
  refine cnd (fun h => ?_) (fun h => ?_)
  · simp at h; simp [inR, h]
  · simp at h
    have : ¬ (lo ≤ n) := by omega
    simp [inR, h, this]

theorem op22 {op : Int} (h : inR op 1 22 = true) : op = 1 ∨ op = 2 ∨ op = 3 ∨ op = 4 ∨ op = 5 ∨ op = 6 ∨ op = 7 ∨ op = 8 ∨ op = 9 ∨ op = 10 ∨ op = 11 ∨ op = 12 ∨ op = 13 ∨ op = 14 ∨ op = 15 ∨ op = 16 ∨ op = 17 ∨ op = 18 ∨ op = 19 ∨ op = 20 ∨ op = 21 ∨ op = 22 := by
  simp [inR] at h; omega

theorem s_l22Word (op : Int) : VF Tryd.prog G n_spec_l22Word [.p (.int .i64 op)] (.tup [.p (.str (wordOf op)), .p (.str (fldOf op))]) := by
  refine AC.enter k_spec_l22Word ?_
  simp -implicitDefEqProofs [F_spec_l22Word, List.replicate]
  refine (s_l1In G op 1 22).use ?_
  simp -implicitDefEqProofs
  refine cnd (fun h => ?_) (fun h => ?_)
  · simp at h; simp [wordOf, fldOf, h]
  · simp at h
    have h2 := h
    simp [inR] at h2
    have h3 : op.toNat < 23 := by omega
    rcases op22 h with rfl | rfl | rfl | rfl | rfl | rfl | rfl | rfl | rfl | rfl | rfl | rfl | rfl | rfl | rfl | rfl | rfl | rfl | rfl | rfl | rfl | rfl <;> simp -implicitDefEqProofs [wordOf, fldOf, inR, wordT, fldT]

def fieldV (x : Mins) (n : Int) : Int := if n = 65 then x.a else if n = 66 then x.b else if n = 67 then x.c else x.n
theorem s_l22Field (x : Mins) (n : Int) : VF Tryd.prog G n_spec_l22Field [.agg (x.cs.map .p), .p (.int .u8 n)] (.p (.int .i64 (fieldV x n))) := by
  refine AC.enter k_spec_l22Field ?_
  simp -implicitDefEqProofs [F_spec_l22Field, List.replicate, Mins.cs]
  refine cnd (fun h => ?_) fun h => cnd (fun h => ?_) fun h => cnd (fun h => ?_) fun h => ?_
  all_goals simp_all [fieldV]

def chrs : List UInt8 := [65, 66, 67, 78]
def restJ (x : Mins) (fields : List UInt8) (j : Nat) : Bool := fields.contains (chrs.getD j 0) || fieldV x (chrs.getD j 0).toNat == 0
def restOk (x : Mins) (fields : List UInt8) : Bool := (List.range 4).all (restJ x fields)
theorem u8_eq {a b : UInt8} : ((a.toNat : Int) = (b.toNat : Int)) ↔ b = a := by
  rw [Int.natCast_inj, UInt8.toNat_inj]; exact eq_comm

theorem s_l22Rest (x : Mins) (fields : List UInt8) (hb : fields.length ≤ 1048576) : VF Tryd.prog G n_spec_l22Rest [.agg (x.cs.map .p), .p (.str fields)] (.p (.bool (restOk x fields))) := by
  refine AC.enter k_spec_l22Rest ?_
  simp -implicitDefEqProofs [F_spec_l22Rest, List.replicate]
  refine loopA (fun i : Nat => slots 37 [(1, .p (.str fields)), (2, .ptr 0 5 0 0), (5, .p (.int .i64 i))]) (fun _ => [.row 5 [x.cs.map .p]]) (fun i => i ≤ 4 ∧ ∀ j, j < i → restJ x fields j = true) (fun i => 4 - i) 0 (by simp) (wk_same (by simp) (by simp [okO]) (by simp [slots, List.replicate, below])) ?_
  intro i ⟨hi, hj⟩
  simp -implicitDefEqProofs [slots, List.replicate]
  refine cnd (fun h1 => ?_) (fun h1 => ?_)
  · simp at h1
    obtain ⟨c, hc⟩ : ∃ c, chrs[i]? = some c := ⟨chrs[i]'(by simp [chrs]; omega), List.getElem?_eq_getElem _⟩
    have hc' := hc
    simp only [chrs] at hc'
    simp -implicitDefEqProofs [hc']
    refine loopA (fun k : Nat => slots 37 [(1, .p (.str fields)), (2, .ptr 0 5 0 0), (5, .p (.int .i64 i)), (6, .p (.int .u8 c.toNat)), (7, .p (.bool ((fields.take k).contains c))), (8, .p (.int .i64 k))]) (fun _ => [.row 5 [x.cs.map .p]]) (fun k => k ≤ fields.length) (fun k => fields.length - k) 0 (by simp) (wk_same (by simp) (by simp [okO]) (by simp [slots, List.replicate, below])) ?_
    intro k hk
    simp -implicitDefEqProofs [slots, List.replicate]
    refine cnd (fun h2 => ?_) (fun h2 => ?_)
    · simp at h2
      have hw := w1 (i := k) (by omega)
      have hct : (fields.take (k + 1)).contains c = ((fields.take k).contains c || c == fields[k]) := by
        rw [take_succ' h2]; simp only [List.contains_eq_any_beq, List.any_append, List.any_cons, List.any_nil, Bool.or_false]
      simp -implicitDefEqProofs [List.getElem?_eq_getElem h2]
      refine cnd (fun h3 => ?_) (fun h3 => ?_)
      · simp -implicitDefEqProofs [h3]
        refine ⟨k + 1, h2, by omega, wk_same (by simp) (by simp [okO]) ?_⟩
        simp -implicitDefEqProofs [below, hw]
        simp at h3 hct
        simp [hct, h3]
        rw [Bool.eq_iff_iff]; simp [u8_eq]
      · simp -implicitDefEqProofs [h3]
        refine ⟨k + 1, h2, by omega, wk_same (by simp) (by simp [okO]) ?_⟩
        simp -implicitDefEqProofs [below, hw]
        simp at h3 hct
        simp [hct, h3]
    · simp at h2
      have hke : k = fields.length := by omega
      subst hke
      have hcd : chrs.getD i 0 = c := by rw [List.getD_eq_getElem?_getD, hc]; rfl
      by_cases hin : c ∈ fields
      · simp -implicitDefEqProofs [hin]
        refine ⟨i + 1, ⟨by omega, fun j hji => ?_⟩, by omega, wk_same (by simp) (by simp [okO]) ?_⟩
        · rcases Nat.lt_or_ge j i with h3 | h3
          · exact hj j h3
          · obtain rfl : j = i := by omega
            simp only [restJ, hcd]; simp [hin]
        · simp [below, w1 (i := i) (by omega)]
      · simp -implicitDefEqProofs [hin]
        refine (s_l22Field G x c.toNat).use ?_
        simp -implicitDefEqProofs []
        refine cnd (fun h3 => ?_) (fun h3 => ?_)
        · simp at h3
          have : restJ x fields i = false := by simp only [restJ, hcd]; simp [hin, h3]
          simp [restOk, List.all_eq_false]
          exact ⟨i, by omega, by simp [this]⟩
        · simp at h3
          refine ⟨i + 1, ⟨by omega, fun j hji => ?_⟩, by omega, wk_same (by simp) (by simp [okO]) ?_⟩
          · rcases Nat.lt_or_ge j i with h4 | h4
            · exact hj j h4
            · obtain rfl : j = i := by omega
              simp only [restJ, hcd]; simp [h3]
          · simp [below, w1 (i := i) (by omega)]
  · simp at h1
    have : i = 4 := by omega
    subst this
    simp [restOk]
    exact hj

def chkOk (x : Mins) (fields : List UInt8) : Bool := fields.all fun c => c == 78 || inR (fieldV x c.toNat) 0 7
theorem insOk_eq (p s l k : Int) (x : Mins) : insOk p s l k x = (inR x.op 1 22 && restOk x (fldOf x.op) && chkOk x (fldOf x.op) && (!fN x.op || inR x.n 0 (mostN p s l k x.op))) := by
  by_cases h : inR x.op 1 22 = true
  · have e : (restOk x (fldOf x.op) && chkOk x (fldOf x.op)) = ((fA x.op || x.a == 0) && (fB x.op || x.b == 0) && (fC x.op || x.c == 0) && (fN x.op || x.n == 0) && inR x.a 0 7 && inR x.b 0 7 && inR x.c 0 7) := by
      obtain ⟨op, a, b, c, n⟩ := x
      simp only at h ⊢
      rcases op22 h with rfl | rfl | rfl | rfl | rfl | rfl | rfl | rfl | rfl | rfl | rfl | rfl | rfl | rfl | rfl | rfl | rfl | rfl | rfl | rfl | rfl | rfl <;> simp [restOk, restJ, chkOk, fldOf, fldT, fieldV, chrs, fA, fB, fC, fN, inR, List.range, List.range.loop] <;> (rw [Bool.eq_iff_iff]; simp; try omega)
    simp only [insOk, h, Bool.true_and]
    rw [e]
  · simp [insOk, h]

end Go.Proofs.YtbbobekgnclkfaaDoor
