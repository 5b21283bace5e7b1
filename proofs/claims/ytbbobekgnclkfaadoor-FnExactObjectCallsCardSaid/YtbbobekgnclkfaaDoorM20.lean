/-
  The bytes of a machine's program: the law's walk.
-/
import Derived.Test.YtbbobekgnclkfaaDoorM19
namespace Go.Proofs.YtbbobekgnclkfaaDoor
open Go Go.Aw
set_option maxRecDepth 100000
set_option maxHeartbeats 4000000

/-! ### A heap with a middle -/
def LX (b : AO) (mid os : List AO) : List AO := b :: (mid ++ os)
theorem LX_len (b : AO) (mid os : List AO) : (LX b mid os).length = mid.length + 1 + os.length := by simp [LX]; omega
theorem LX_0 (b : AO) (mid os : List AO) : (LX b mid os)[0]? = some b := rfl
theorem LX_k (b : AO) (mid os : List AO) {m : Nat} (hm : mid.length = m) (k : Nat) : (LX b mid os)[m + 1 + k]? = os[k]? := by
  subst hm
  rw [LX, show mid.length + 1 + k = (mid.length + k) + 1 by omega, List.getElem?_cons_succ, List.getElem?_append_right (by omega)]
  congr 1; omega
theorem LX_app (b : AO) (mid os l : List AO) : LX b mid os ++ l = LX b mid (os ++ l) := by simp [LX]
theorem LX_set (b : AO) (mid os : List AO) {m : Nat} (hm : mid.length = m) (k : Nat) (o : AO) : (LX b mid os).set (m + 1 + k) o = LX b mid (os.set k o) := by
  subst hm
  rw [LX, show mid.length + 1 + k = (mid.length + k) + 1 by omega, List.set_cons_succ, List.set_append_right _ _ (by omega), LX]
  congr 3; omega

section
variable {b : AO} {mid : List AO} {n : Nat} (hm : mid.length = n + 1)
include hm
@[simp high] theorem LX_k0 (o : AO) (os : List AO) : (LX b mid (o :: os))[n + 2]? = some o := LX_k b mid _ hm 0
@[simp high] theorem LX_k1 (o p : AO) (os : List AO) : (LX b mid (o :: p :: os))[n + 3]? = some p := LX_k b mid _ hm 1
@[simp high] theorem LX_k2 (o p q : AO) (os : List AO) : (LX b mid (o :: p :: q :: os))[n + 4]? = some q := LX_k b mid _ hm 2
@[simp high] theorem LX_k3 (o p q r : AO) (os : List AO) : (LX b mid (o :: p :: q :: r :: os))[n + 5]? = some r := LX_k b mid _ hm 3
@[simp high] theorem LX_s0 (o o' : AO) (os : List AO) : (LX b mid (o :: os)).set (n + 2) o' = LX b mid (o' :: os) := LX_set b mid _ hm 0 o'
@[simp high] theorem LX_s1 (o p o' : AO) (os : List AO) : (LX b mid (o :: p :: os)).set (n + 3) o' = LX b mid (o :: o' :: os) := LX_set b mid _ hm 1 o'
end
@[simp high] theorem LX_00 (b : AO) (mid os : List AO) : (LX b mid os)[0]? = some b := rfl
attribute [simp] LX_app
theorem fnsR_shift (n : Nat) : ∀ (fs : List Mfn) (b : Nat), (fnsR b fs).map (shiftL n) = fnsR (n + b) fs
  | [], b => rfl
  | m :: r, b => by
    rw [fnsR, List.map_cons, fnsR_shift n r (b + 1), fnsR]; rfl
theorem shiftO_ins (n : Nat) (L : List Mins) : shiftO n (insO L) = insO L := by
  simp only [shiftO, insO, List.map_map]; rfl
theorem fnsO_shift (n : Nat) (fs : List Mfn) : (fnsO 0 fs).map (shiftO n) = fnsO n fs := by
  rw [fnsO, List.map_cons, fnsO, List.map_map]
  congr 1
  · rw [shiftO, fnsR_shift]
  · exact List.map_congr_left fun m _ => shiftO_ins n _

theorem machAt_view {h : List AO} {b : Nat} {fs : List Mfn} (ha : MachAt h b fs) : View h (.sl b 3 0 fs.length) (fnsL fs) := by
  have hv := View.sl b 3 0 _ (fs.map Mfn.cs) ha.row (by simp [fnsR_len]) (by intro e he; obtain ⟨m, _, rfl⟩ := List.mem_map.1 he; rfl) (fun i j e q e' a h1 h2 h3 h4 => by
    rw [Nat.zero_add] at h3
    rw [List.getElem?_map, Option.map_eq_some_iff] at h1
    obtain ⟨m, hm, rfl⟩ := h1
    rw [fnsR_get, hm] at h3
    cases h3
    match j, h2, h4 with
    | 0, h2, h4 => cases h2; cases h4; exact .p _
    | 1, h2, h4 => cases h2; cases h4; exact .p _
    | 2, h2, h4 =>
      cases h2; cases h4
      have hi := ha.ins i m hm
      exact view_row (ls := m.ins.map Mins.cs) (by rw [hi, insO, List.map_map]; rfl) (by simp) (fun l hl => by obtain ⟨x, _, rfl⟩ := List.mem_map.1 hl; rfl))
  simpa [fnsL] using hv

theorem machAt_LX {b : AO} {mid os os' : List AO} {fs : List Mfn} (hm : mid.length = fs.length + 1) (ha : MachAt (LX b mid os) 1 fs) : MachAt (LX b mid os') 1 fs := by
  have key : ∀ i, i < fs.length + 1 → (LX b mid os')[1 + i]? = (LX b mid os)[1 + i]? := fun i hi => by
    rw [LX, LX, Nat.add_comm 1 i, List.getElem?_cons_succ, List.getElem?_cons_succ, List.getElem?_append_left (by omega), List.getElem?_append_left (by omega)]
  refine ⟨by rw [key 0 (by omega)]; exact ha.row, fun k m hk => ?_⟩
  have hl := (List.getElem?_eq_some_iff.1 hk).1
  rw [Nat.add_assoc, key (1 + k) (by omega), ← Nat.add_assoc]; exact ha.ins k m hk

/-- What is known at the ends is the whole. -/
theorem LX_of {b : AO} {mid os h' : List AO} {x : Nat} (hl : h'.length = (LX b mid os).length + x) (h0 : h'[0]? = some b) (hs : ∀ k, k < os.length → h'[mid.length + 1 + k]? = os[k]?) :
    ∃ mid' os', h' = LX b mid' (os ++ os') ∧ mid'.length = mid.length ∧ os'.length = x := by
  rw [LX_len] at hl
  refine ⟨(h'.drop 1).take mid.length, h'.drop (mid.length + 1 + os.length), ?_, by simp; omega, by simp; omega⟩
  apply List.ext_getElem?
  intro i
  rcases Nat.eq_zero_or_pos i with rfl | hi
  · rw [h0]; rfl
  obtain ⟨j, rfl⟩ : ∃ j, i = j + 1 := ⟨i - 1, by omega⟩
  rw [LX, List.getElem?_cons_succ]
  have hml : ((h'.drop 1).take mid.length).length = mid.length := by simp; omega
  rcases Nat.lt_or_ge j mid.length with h1 | h1
  · rw [List.getElem?_append_left (by omega), List.getElem?_take, if_pos h1, List.getElem?_drop, Nat.add_comm]
  · rw [List.getElem?_append_right (by omega), hml]
    rcases Nat.lt_or_ge (j - mid.length) os.length with h2 | h2
    · rw [List.getElem?_append_left h2, ← hs _ h2]; congr 1; omega
    · rw [List.getElem?_append_right h2, List.getElem?_drop]; congr 1; omega

variable (G : Glob)
theorem t_markByteS_nil (k : Int) : VF Tryd.prog G n_laws_markByteS [.nils, .p (.int .i64 k)] (.p (.int .i64 k)) := by
  refine AC.go k_laws_markByteS ?_
  simp -implicitDefEqProofs [F_laws_markByteS]
  refine loopA (fun _ : Unit => tsOf 20 [(0, .nils), (1, .p (.int .i64 k)), (5, .p (.int .i64 0))]) (fun _ => []) (fun _ => True) (fun _ => 0) () trivial (wkt_nil rfl (by simp)) ?_
  intro _ _
  simp -implicitDefEqProofs []
end Go.Proofs.YtbbobekgnclkfaaDoor
