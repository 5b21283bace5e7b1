/-
  The bytes of a machine's program: the reference's answer.
-/
import Derived.Test.YtbbobekgnclkfaaDoorM13
namespace Go.Proofs.YtbbobekgnclkfaaDoor
open Go Go.Aw
set_option maxRecDepth 100000
set_option maxHeartbeats 4000000

/-! ### The plain model -/
def secB (f : Mfn) : List Int := [u8 f.params, u8 f.slots, u8 ((encB f).length % 256 : Nat), u8 ((encB f).length / 256 : Nat)] ++ encB f
def imgT (fs : List Mfn) (i : Nat) : List Int := [87, 119, u8 fs.length] ++ ((fs.take i).map secB).flatten
def imgOk (fs : List Mfn) : Bool := machOk fs && fs.all codeOk
def imgB (fs : List Mfn) : List Int := if imgOk fs then imgT fs fs.length else []
theorem imgT_succ {fs : List Mfn} {i : Nat} (h : i < fs.length) : imgT fs (i + 1) = imgT fs i ++ secB fs[i] := by
  rw [imgT, map_take_succ _ h, List.flatten_append, imgT, List.append_assoc]; simp
theorem encB_len (f : Mfn) : (encB f).length ≤ 4 * f.ins.length := encT_len _ _ _
theorem mach_len {fs : List Mfn} (h : machOk fs = true) : fs.length ≤ 4 ∧ insSum fs ≤ 2000 := by
  simp only [machOk, Bool.and_eq_true, decide_eq_true_eq] at h
  have := h.1.1
  simp [inR] at this
  exact ⟨by omega, h.1.2⟩
theorem ins_le {fs : List Mfn} {i : Nat} (h : i < fs.length) : fs[i].ins.length ≤ insSum fs := by
  have h1 := szT_succ h
  have h2 := szT_le (fs := fs) (i := i + 1)
  rw [insSum]; omega
theorem imgT_len {fs : List Mfn} (h : insSum fs ≤ 2000) (hl : fs.length ≤ 4) : ∀ {i : Nat}, i ≤ fs.length → (imgT fs i).length ≤ 3 + i * 8004 := by
  intro i
  induction i with
  | zero => intro _; simp [imgT]
  | succ i ih =>
    intro hi
    have h1 := ih (by omega)
    have h2 := encB_len fs[i]
    have h3 := ins_le (fs := fs) (i := i) (by omega)
    rw [imgT_succ (by omega), List.length_append, secB, List.length_append]
    simp only [List.length_cons, List.length_nil]
    omega

variable (G : Glob)

theorem s_ImageOf (fs : List Mfn) (hb : szF fs ≤ 1000000) : VF Tryd.prog G n_spec_ImageOf [.agg [.p (fnsL fs)]] (.tup [.p (bysL (imgB fs)), .p (.bool (imgOk fs))]) := by
  have key : AC Tryd.prog G n_spec_ImageOf [.agg [.p (fnsL fs)]] [] fun x h => ∃ id, x = .ret (.tup [.sl id 1 0 (imgB fs).length, .p (.bool (imgOk fs))]) ∧ h[id]? = some (bysO (imgB fs)) := by
    refine AC.go k_spec_ImageOf ?_
    simp -implicitDefEqProofs [F_spec_ImageOf]
    refine (s_MachValid G fs (by omega)).use ?_
    simp -implicitDefEqProofs
    refine cndb (fun h => ?_) (fun h => ?_)
    · simp at h
      simp -implicitDefEqProofs [imgB, imgOk, h, bysO]
    simp at h
    obtain ⟨hl4, hs2⟩ := mach_len h
    have hfl : fnsL fs = .lst 3 (fs.map Mfn.cs) := rfl
    simp -implicitDefEqProofs [hfl]
    refine loopA (fun i : Nat => tsOf 65 [(1, .ptr 0 1 0 0), (4, .sl 1 1 0 (imgT fs i).length), (5, .p (.int .i64 i))]) (fun i => [.row 1 [[.p (fnsL fs)]], bysO (imgT fs i)])
      (fun i => i ≤ fs.length ∧ ∀ f ∈ fs.take i, codeOk f = true) (fun i => fs.length - i) 0 (by simp) ?_ ?_
    · refine wkt_pick [0, 1] rfl (by simp) (hw_row rfl (by simp) (hw_row (by simp [imgT, u8]) (by simp) hw_nil)) ?_
      simp [below, ren, imgT]
    · intro i ⟨hi, hok⟩
      simp -implicitDefEqProofs [hfl]
      refine cndb (fun h1 => ?_) (fun h1 => ?_)
      · simp at h1
        have hg1 := List.getElem?_eq_getElem h1
        have hil := ins_le h1
        have hel := encB_len fs[i]
        have hbo : ∀ l, bysO l = .row 1 (l.map fun n => [.p (.int .u8 n)]) := fun _ => rfl
        have htk : ∀ l : List Int, List.take l.length (l.map fun n => [AV.p (.int .u8 n)]) = l.map fun n => [AV.p (.int .u8 n)] := fun l => List.take_of_length_le (by simp)
        have himl := imgT_len hs2 hl4 (i := i) (by omega)
        have hsu := imgT_succ h1
        simp -implicitDefEqProofs [hg1, hfl]
        refine (s_EncodeFn G fs[i] (by omega)).use ?_
        by_cases hc : codeOk fs[i] = true
        rotate_left
        · have : fs.all codeOk = false := by rw [List.all_eq_false]; exact ⟨_, List.getElem_mem h1, by simpa using hc⟩
          simp -implicitDefEqProofs [hc, imgB, imgOk, this, bysO]
        have hbl : ∀ l, bysL l = .lst 1 (l.map fun n => [.int .u8 n]) := fun _ => rfl
        have htm : ((encB fs[i]).length : Int).tmod 256 = ((encB fs[i]).length : Int) % 256 := by rw [show ((encB fs[i]).length : Int).tmod 256 = (((encB fs[i]).length % 256 : Nat) : Int) from rfl]; omega
        have htd : IntKind.i64.wrap (((encB fs[i]).length : Int) / 256) = ((encB fs[i]).length : Int) / 256 := i64_small (by omega) (by omega)
        simp -implicitDefEqProofs [hc, hg1, hfl, hbl, htm, htd, Mfn.cs, hbo, htk]
        refine ⟨by omega, by omega, i + 1, ⟨h1, fun f hf => ?_⟩, by omega, wkt_pick [0, 4] rfl (by simp) (hw_row rfl (by simp) (hw_row (by simp [List.take_of_length_le, hsu, secB, u8, Function.comp_def]) (by simp) hw_nil)) ?_⟩
        · rw [take_succ' h1] at hf
          rcases List.mem_append.1 hf with hf | hf
          · exact hok f hf
          · rw [List.mem_singleton.1 hf]; exact hc
        · simp [below, ren, w1 (i := i) (by omega), hsu, secB]
          omega
      · simp at h1
        have hie : i = fs.length := by omega
        subst hie
        rw [List.take_of_length_le (by omega)] at hok
        have hok2 : imgOk fs = true := by simp [imgOk, h]; exact hok
        simp -implicitDefEqProofs [imgB, hok2]
  refine key.freezeR (fun t v h ⟨id, e, _⟩ => by cases e) fun v h ⟨id, e1, e2⟩ => ?_
  cases e1
  exact .tup (.one (bysO_view e2) (.keep (by simp) .nil)) .nil
end Go.Proofs.YtbbobekgnclkfaaDoor
