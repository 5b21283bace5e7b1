/-
  Whether a machine's program is valid: the program's instructions.
-/
import Derived.Test.YtbbobekgnclkfaaDoorM5
namespace Go.Proofs.YtbbobekgnclkfaaDoor
open Go Go.Aw
set_option maxRecDepth 100000
set_option maxHeartbeats 4000000

abbrev g_magic : Nat := 0
abbrev g_forms : Nat := 2
def pvMagic : List PV := [.lst 1 [[.int .u8 87], [.int .u8 119]]]
def pvForms : List PV := [.str [], .int .i64 0, .str [115, 101, 116], .int .i64 9, .str [109, 111, 118, 101], .int .i64 3, .str [97, 100, 100], .int .i64 7, .str [115, 117, 98], .int .i64 7, .str [109, 117, 108], .int .i64 7, .str [100, 105, 118], .int .i64 7, .str [114, 101, 109], .int .i64 7, .str [108, 101, 115, 115], .int .i64 7, .str [115, 97, 109, 101], .int .i64 7, .str [110, 111, 116], .int .i64 3, .str [108, 111, 97, 100], .int .i64 3, .str [115, 116, 111, 114, 101], .int .i64 3, .str [115, 97, 121], .int .i64 1, .str [99, 97, 108, 108], .int .i64 8, .str [107, 101, 101, 112], .int .i64 9, .str [116, 97, 107, 101], .int .i64 9, .str [103, 105, 118, 101], .int .i64 9, .str [102, 101, 116, 99, 104], .int .i64 9, .str [114, 101, 115, 117, 108, 116], .int .i64 1, .str [106, 117, 109, 112], .int .i64 8, .str [98, 114, 97, 110, 99, 104], .int .i64 9, .str [98, 97, 99, 107], .int .i64 1]
def maskT : List Int := [0, 9, 3, 7, 7, 7, 7, 7, 7, 7, 3, 3, 3, 1, 8, 9, 9, 9, 9, 1, 8, 9, 1]
def maskOf (op : Int) : Int := maskT.getD op.toNat 0

theorem forms_at {op : Int} (h : inR op 1 22 = true) : ((pvForms.map AV.p).drop (op.toNat * 2)).take 2 = [.p (.str (wordOf op)), .p (.int .i64 (maskOf op))] ∧ op.toNat * 2 + 2 ≤ pvForms.length := by
  rcases op22 h with rfl | rfl | rfl | rfl | rfl | rfl | rfl | rfl | rfl | rfl | rfl | rfl | rfl | rfl | rfl | rfl | rfl | rfl | rfl | rfl | rfl | rfl <;> exact ⟨rfl, by decide⟩

theorem mask_cases {op : Int} (h : inR op 1 22 = true) : (maskOf op = 9 ∧ fA op = true ∧ fB op = false ∧ fC op = false ∧ fN op = true) ∨ (maskOf op = 3 ∧ fA op = true ∧ fB op = true ∧ fC op = false ∧ fN op = false) ∨
    (maskOf op = 7 ∧ fA op = true ∧ fB op = true ∧ fC op = true ∧ fN op = false) ∨ (maskOf op = 1 ∧ fA op = true ∧ fB op = false ∧ fC op = false ∧ fN op = false) ∨ (maskOf op = 8 ∧ fA op = false ∧ fB op = false ∧ fC op = false ∧ fN op = true) := by
  rcases op22 h with rfl | rfl | rfl | rfl | rfl | rfl | rfl | rfl | rfl | rfl | rfl | rfl | rfl | rfl | rfl | rfl | rfl | rfl | rfl | rfl | rfl | rfl <;> decide

def okI (x : Mins) : Nat → Bool
  | 0 => fA x.op || x.a == 0
  | 1 => fB x.op || x.b == 0
  | 2 => fC x.op || x.c == 0
  | _ => fN x.op || x.n == 0
def formOk (x : Mins) : Bool := inR x.op 1 22 && okI x 0 && okI x 1 && okI x 2 && okI x 3

variable (G : Glob) (hG : G g_forms = some pvForms)
include hG

theorem i_formOf (x : Mins) : VF Tryd.prog G n_impl_formOf [.agg (x.cs.map .p)] (.tup [.agg [.p (.str (if formOk x then wordOf x.op else [])), .p (.int .i64 (if formOk x then maskOf x.op else 0))], .p (.bool (formOk x))]) := by
  refine AC.enter k_impl_formOf ?_
  simp -implicitDefEqProofs [F_impl_formOf, List.replicate]
  simp -implicitDefEqProofs [Mins.cs]
  refine (i_within G _ _ _).use ?_
  by_cases hop : inR x.op 1 22 = true
  rotate_left
  · simp -implicitDefEqProofs [hop, formOk]
  obtain ⟨f1, f2⟩ := forms_at hop
  have hop' := hop
  simp [inR] at hop'
  have hG' : G 2 = some pvForms := hG
  simp -implicitDefEqProofs [hop, hG', f1, f2]
  refine ⟨by omega, ?_⟩
  rcases mask_cases hop with ⟨m0, m1, m2, m3, m4⟩ | ⟨m0, m1, m2, m3, m4⟩ | ⟨m0, m1, m2, m3, m4⟩ | ⟨m0, m1, m2, m3, m4⟩ | ⟨m0, m1, m2, m3, m4⟩
  all_goals
    rw [m0]
    refine loopA (fun i : Nat => slots 42 [(1, .ptr 0 5 0 0), (2, .ptr 1 2 0 0), (4, .ptr 2 2 0 0), (24, .agg [.p (.int .i64 x.a), .p (.int .i64 x.b), .p (.int .i64 x.c), .p (.int .i64 x.n)]), (25, .p (.int .i64 i))])
      (fun _ => [.row 5 [x.cs.map .p], .row 2 [[.p (.str []), .p (.int .i64 0)]], .row 2 [[.p (.str (wordOf x.op)), .p (.int .i64 _)]]]) (fun i => i ≤ 4 ∧ ∀ j, j < i → okI x j = true) (fun i => 4 - i) 0 (by simp) (wk_same (by simp) (by simp [okO]) (by simp [slots, List.replicate, below])) ?_
    rintro i ⟨hi, hj⟩
    have hsplit : i = 0 ∨ i = 1 ∨ i = 2 ∨ i = 3 ∨ i = 4 := by omega
    have hbad : ∀ j, j < 4 → okI x j = false → formOk x = false := fun j hj h => by
      have : j = 0 ∨ j = 1 ∨ j = 2 ∨ j = 3 := by omega
      rcases this with rfl | rfl | rfl | rfl <;> simp [formOk, h]
    have hnext : ∀ {ts : List AV} {b : List AO} (i : Nat), okI x i = true → (∀ j, j < i → okI x j = true) → ∀ j, j < i + 1 → okI x j = true := fun i h1 h2 j h3 => by
      rcases Nat.lt_or_ge j i with h4 | h4
      · exact h2 j h4
      · obtain rfl : j = i := by omega
        exact h1
    rcases hsplit with rfl | rfl | rfl | rfl | rfl
    case inr.inr.inr.inr =>
      have h0 := hj 0 (by omega)
      have h1 := hj 1 (by omega)
      have h2 := hj 2 (by omega)
      have h3 := hj 3 (by omega)
      have hf : formOk x = true := by simp [formOk, hop, h0, h1, h2, h3]
      simp -implicitDefEqProofs [slots, List.replicate, hf, m0]
    all_goals
      simp -implicitDefEqProofs [slots, List.replicate, IntKind.wrap, IntKind.bits, IntKind.signed]
      first
        | (refine cnd (fun h => ?_) (fun h => ?_)
           · simp at h
             first
               | simp -implicitDefEqProofs [hbad 0 (by decide) (show okI x 0 = false by simp [okI, m1, m2, m3, m4, h])]
               | simp -implicitDefEqProofs [hbad 1 (by decide) (show okI x 1 = false by simp [okI, m1, m2, m3, m4, h])]
               | simp -implicitDefEqProofs [hbad 2 (by decide) (show okI x 2 = false by simp [okI, m1, m2, m3, m4, h])]
               | simp -implicitDefEqProofs [hbad 3 (by decide) (show okI x 3 = false by simp [okI, m1, m2, m3, m4, h])]
           · simp at h
             first
               | exact ⟨1, ⟨by decide, hnext (ts := []) (b := []) 0 (by simp [okI, m1, m2, m3, m4, h]) hj⟩, by decide, wk_same (by simp) (by simp [okO]) (by simp [below])⟩
               | exact ⟨2, ⟨by decide, hnext (ts := []) (b := []) 1 (by simp [okI, m1, m2, m3, m4, h]) hj⟩, by decide, wk_same (by simp) (by simp [okO]) (by simp [below])⟩
               | exact ⟨3, ⟨by decide, hnext (ts := []) (b := []) 2 (by simp [okI, m1, m2, m3, m4, h]) hj⟩, by decide, wk_same (by simp) (by simp [okO]) (by simp [below])⟩
               | exact ⟨4, ⟨by decide, hnext (ts := []) (b := []) 3 (by simp [okI, m1, m2, m3, m4, h]) hj⟩, by decide, wk_same (by simp) (by simp [okO]) (by simp [below])⟩)
        | (first
               | exact ⟨1, ⟨by decide, hnext (ts := []) (b := []) 0 (by simp [okI, m1, m2, m3, m4]) hj⟩, by decide, wk_same (by simp) (by simp [okO]) (by simp [below])⟩
               | exact ⟨2, ⟨by decide, hnext (ts := []) (b := []) 1 (by simp [okI, m1, m2, m3, m4]) hj⟩, by decide, wk_same (by simp) (by simp [okO]) (by simp [below])⟩
               | exact ⟨3, ⟨by decide, hnext (ts := []) (b := []) 2 (by simp [okI, m1, m2, m3, m4]) hj⟩, by decide, wk_same (by simp) (by simp [okO]) (by simp [below])⟩
               | exact ⟨4, ⟨by decide, hnext (ts := []) (b := []) 3 (by simp [okI, m1, m2, m3, m4]) hj⟩, by decide, wk_same (by simp) (by simp [okO]) (by simp [below])⟩)
end Go.Proofs.YtbbobekgnclkfaaDoor
