/-
  What the program asks of an object's code: places, call bytes, the code with its calls struck out.
-/
import Derived.Test.YtbbobekgnclkfaaDoorM43
namespace Go.Proofs.YtbbobekgnclkfaaDoor
open Go Go.Aw
set_option maxRecDepth 100000
set_option maxHeartbeats 4000000
variable (G : Glob)

theorem cellsEq_ins (x y : Mins) : cellsEq [0, 0, 0, 0, 0] [.p (.int .i64 x.op), .p (.int .i64 x.a), .p (.int .i64 x.b), .p (.int .i64 x.c), .p (.int .i64 x.n)] [.p (.int .i64 y.op), .p (.int .i64 y.a), .p (.int .i64 y.b), .p (.int .i64 y.c), .p (.int .i64 y.n)] = some (decide (x = y)) := by
  have : cellsEq [0, 0, 0, 0, 0] [.p (.int .i64 x.op), .p (.int .i64 x.a), .p (.int .i64 x.b), .p (.int .i64 x.c), .p (.int .i64 x.n)] [.p (.int .i64 y.op), .p (.int .i64 y.a), .p (.int .i64 y.b), .p (.int .i64 y.c), .p (.int .i64 y.n)]
    = some (decide (x.op = y.op) && (decide (x.a = y.a) && (decide (x.b = y.b) && (decide (x.c = y.c) && (decide (x.n = y.n) && true))))) := rfl
  rw [this]
  cases x; cases y
  simp [Bool.eq_iff_iff]
theorem i_EqualMins (xs ys : List Mins) (hb : xs.length ≤ 1048576) : VF Tryd.prog G n_slices_Equal_impl_Mins [.p (insL xs), .p (insL ys)] (.p (.bool (decide (xs = ys)))) := by
  refine AC.go k_slices_Equal_impl_Mins ?_
  simp -implicitDefEqProofs [F_slices_Equal_impl_Mins, insL]
  refine cndb (fun h => ?_) (fun h => ?_)
  · have h' : xs ≠ ys := by rintro rfl; simp at h
    simp -implicitDefEqProofs [h']
  have h : xs.length = ys.length := by simp at h; omega
  simp -implicitDefEqProofs []
  refine loopA (fun i : Nat => tsOf 26 [(0, .p (insL xs)), (1, .p (insL ys)), (11, .p (insL xs)), (12, .p (.int .i64 xs.length)), (13, .p (.int .i64 i))]) (fun _ => []) (fun i => i ≤ xs.length ∧ xs.take i = ys.take i) (fun i => xs.length - i) 0 (by simp) ?_ ?_
  · exact wkt_nil rfl (by simp [below, insL, h])
  intro i ⟨hi, he⟩
  simp -implicitDefEqProofs [insL]
  refine cndb (fun h1 => ?_) (fun h1 => ?_)
  · simp at h1
    have h1 : i < ys.length := by omega
    have h1' : i < xs.length := by omega
    have hx := List.getElem?_eq_getElem h1'
    have hy := List.getElem?_eq_getElem h1
    by_cases h3 : xs[i] = ys[i]
    · simp -implicitDefEqProofs [hx, hy, h3, Mins.cs, cellsEq_ins]
      exact ⟨i + 1, ⟨h1', take_succ_eq h1' h1 h3 he⟩, by omega, wkt_nil rfl (by simp [below, insL, w1 (i := i) (by omega)])⟩
    · have h' : xs ≠ ys := by rintro rfl; exact h3 rfl
      simp -implicitDefEqProofs [hx, hy, h', h3, Mins.cs, cellsEq_ins]
  · simp at h1
    have h1 : ys.length ≤ i := by omega
    have h' : xs = ys := take_done' h h1 he
    simp -implicitDefEqProofs [h']

theorem i_sameMfn (x y : Mfn) (hb : x.ins.length ≤ 1048576) : VF Tryd.prog G n_impl_sameMfn [.agg (x.cs.map .p), .agg (y.cs.map .p)] (.p (.bool (decide (x = y)))) := by
  refine AC.go k_impl_sameMfn ?_
  have hxy : (x = y) ↔ (x.params = y.params ∧ x.slots = y.slots ∧ x.ins = y.ins) := by cases x; cases y; simp
  have hil : ∀ f : Mfn, insL f.ins = .lst 5 (f.ins.map Mins.cs) := fun _ => rfl
  by_cases h1 : x.params = y.params
  case neg => simp -implicitDefEqProofs [F_impl_sameMfn, Mfn.cs, hxy, h1]
  by_cases h2 : x.slots = y.slots
  case neg => simp -implicitDefEqProofs [F_impl_sameMfn, Mfn.cs, hxy, h1, h2]
  simp -implicitDefEqProofs [F_impl_sameMfn, Mfn.cs, h1, h2]
  refine (i_EqualMins G x.ins y.ins hb).use ?_
  simp -implicitDefEqProofs [hxy, h1, h2]

variable (hG : G g_forms = some pvForms)
include hG
theorem i_MinsPlaces (f : Mfn) (hn : f.ins.length ≤ 1000000) (hlo : ∀ x ∈ f.ins, x.op = 14 → -9223372036854775808 ≤ x.n) : VF Tryd.prog G n_impl_MinsPlaces [.agg (f.cs.map .p)] (.p (intsL (plaF f))) := by
  by_cases hc : codeOk f = true
  · have key : AC Tryd.prog G n_impl_MinsPlaces [.agg (f.cs.map .p)] [] fun x h => ∃ id, x = .ret (.sl id 1 0 f.ins.length) ∧ h[id]? = some (intsO (plcs f.ins (longs f.ins) f.ins.length)) := by
      refine AC.go k_impl_MinsPlaces ?_
      simp -implicitDefEqProofs [F_impl_MinsPlaces]
      refine (AC.lift (i_layoutOf1 G hG f hn hlo hc) (by simp [belowL, below]) rfl ?_).mono ?_
      · simp only [List.all_cons, List.all_nil, nofnO_bool, nofnO_ints]; rfl
      rintro r h ⟨rfl, rfl⟩
      simp -implicitDefEqProofs [callR_nxt, shiftO_bool, shiftO_ints, shiftO_fn, shiftO_lay, shiftV, shiftL]
      simp -implicitDefEqProofs [Mfn.cs, layC]
    have hp : plaF f = plcs f.ins (longs f.ins) f.ins.length := by rw [plaF, if_pos hc]
    refine key.freezeR (fun t v h ⟨id, e, _⟩ => by cases e) fun v h ⟨id, e1, e2⟩ => ?_
    cases e1
    rw [hp]
    exact .one (by have := intsO_view e2; rwa [plcs_len] at this) .nil
  · have hp : plaF f = [] := by rw [plaF, if_neg hc]
    have key : AC Tryd.prog G n_impl_MinsPlaces [.agg (f.cs.map .p)] [] fun x _ => x = .ret .nils := by
      refine AC.go k_impl_MinsPlaces ?_
      simp -implicitDefEqProofs [F_impl_MinsPlaces]
      refine (i_layoutOf2 G hG f hn hlo hc).use ?_
      simp -implicitDefEqProofs []
    refine key.freezeR (fun t v h e => by cases e) fun v h e => ?_
    cases e
    rw [hp]
    exact .one (View.nils 1) .nil

end Go.Proofs.YtbbobekgnclkfaaDoor
