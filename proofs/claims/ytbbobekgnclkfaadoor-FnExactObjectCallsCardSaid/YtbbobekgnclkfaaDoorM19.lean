/-
  The bytes of a machine's program: the program's answer.
-/
import Derived.Test.YtbbobekgnclkfaaDoorM18
namespace Go.Proofs.YtbbobekgnclkfaaDoor
open Go Go.Aw
set_option maxRecDepth 100000
set_option maxHeartbeats 4000000
theorem lo_of_mach {fs : List Mfn} (h : machOk fs = true) {i : Nat} (hi : i < fs.length) : ∀ x ∈ fs[i].ins, x.op = 14 → -9223372036854775808 ≤ x.n := by
  intro x hx e
  simp only [machOk, Bool.and_eq_true, decide_eq_true_eq] at h
  have h1 := fnsOk_get h.2 (i := i) (f := fs[i]) (List.getElem?_eq_getElem hi)
  simp only [fnOk, Bool.and_eq_true, List.all_eq_true] at h1
  have hi := h1.2 x hx
  rw [insOk_eq2] at hi
  simp only [Bool.and_eq_true] at hi
  have h5 := hi.2
  simp [fN, mostN, e, inR] at h5
  omega
theorem nofnO_bys (L : List Int) : nofnO (bysO L) = true := by simp [nofnO, bysO, nofnL, nofn]

variable (G : Glob) (hG : G g_forms = some pvForms)
section
include hG
theorem i_EncodeFn1 (f : Mfn) (hn : f.ins.length ≤ 1000000) (hlo : ∀ x ∈ f.ins, x.op = 14 → -9223372036854775808 ≤ x.n) (hc : codeOk f = true) : AC Tryd.prog G n_impl_EncodeFn [.agg (f.cs.map .p)] [] fun r h =>
    r = .ret (.tup [.sl 0 1 0 (encB f).length, .p (.bool true)]) ∧ h = [bysO (encB f)] := by
  refine (o_EncodeFn1 G hG f hn hlo hc).gc (fun t v h ⟨e, _⟩ => by cases e) fun v h ⟨e1, h0, e2, e3⟩ => ?_
  cases e1; subst e2
  exact ⟨.tup [.sl 0 1 0 (encB f).length, .p (.bool true)], [bysO (encB f)], ⟨[6], by simp, by simp, by simp, by simp [below], by simp [ren, renL], hw_row (by rw [List.getElem?_append_right (by omega), e3]; rfl) (by simp [bysO]) hw_nil⟩, rfl, rfl⟩

theorem i_EncodeFn2 (f : Mfn) (hn : f.ins.length ≤ 1000000) (hlo : ∀ x ∈ f.ins, x.op = 14 → -9223372036854775808 ≤ x.n) (hc : ¬ codeOk f = true) : VF Tryd.prog G n_impl_EncodeFn [.agg (f.cs.map .p)] (.tup [.nils, .p (.bool false)]) := by
  refine AC.go k_impl_EncodeFn ?_
  simp -implicitDefEqProofs [F_impl_EncodeFn]
  refine (i_layoutOf2 G hG f hn hlo hc).use ?_
  simp -implicitDefEqProofs []
end

theorem o_CloneMagic : AC Tryd.prog G n_slices_Clone_byte [.p (bysL [87, 119])] [] fun r h => r = .ret (.sl 0 1 0 2) ∧ h = [bysO [87, 119]] := by
  have key : AC Tryd.prog G n_slices_Clone_byte [.p (bysL [87, 119])] [] fun r h => ∃ o, r = .ret (.sl 1 1 0 2) ∧ h = [o, bysO [87, 119]] := by
    refine AC.go k_slices_Clone_byte ?_
    simp -implicitDefEqProofs [F_slices_Clone_byte, bysL]
    rfl
  refine key.gc (fun t v h ⟨o, e, _⟩ => by cases e) fun v h ⟨o, e1, e2⟩ => ?_
  cases e1; subst e2
  exact ⟨.sl 0 1 0 2, [bysO [87, 119]], ⟨[1], by simp, by simp, by simp, by simp [below], by simp [ren, renL], hw_row rfl (by simp [bysO]) hw_nil⟩, rfl, rfl⟩

variable (hM : G g_magic = some pvMagic)
include hG hM
theorem o_ImageOf (fs : List Mfn) (hb : szF fs ≤ 1048576) : AC Tryd.prog G n_impl_ImageOf [.agg [.p (fnsL fs)]] [] fun x h =>
    if imgOk fs then x = .ret (.tup [.sl 1 1 0 (imgB fs).length, .p (.bool true)]) ∧ ∃ o, h = [o, bysO (imgB fs)] else x = .ret (.tup [.nils, .p (.bool false)]) := by
  refine AC.go k_impl_ImageOf ?_
  simp -implicitDefEqProofs [F_impl_ImageOf]
  refine (i_MachValid G hG fs hb).use ?_
  simp -implicitDefEqProofs
  refine cndb (fun h => ?_) (fun h => ?_)
  · simp at h
    have hc : imgOk fs = false := by simp [imgOk, h]
    simp -implicitDefEqProofs [hc]
  simp at h
  have hmo := h
  obtain ⟨hl4, hs2⟩ := mach_len h
  have hfl : fnsL fs = .lst 3 (fs.map Mfn.cs) := rfl
  have hM0 : G 0 = some [.lst 1 [[.int .u8 87], [.int .u8 119]]] := hM
  simp -implicitDefEqProofs [hfl, hM0]
  refine (AC.lift (o_CloneMagic G) (by simp [belowL, below]) rfl (by simp only [List.all_cons, List.all_nil, nofnO_bys]; rfl)).mono ?_
  rintro r h ⟨rfl, rfl⟩
  have hbo : ∀ l, bysO l = .row 1 (l.map fun n => [.p (.int .u8 n)]) := fun _ => rfl
  have htk : ∀ l : List Int, List.take l.length (l.map fun n => [AV.p (.int .u8 n)]) = l.map fun n => [AV.p (.int .u8 n)] := fun l => List.take_of_length_le (by simp)
  have hsh : shiftO 1 (bysO [87, 119]) = .row 1 [[.p (.int .u8 87)], [.p (.int .u8 119)]] := rfl
  simp -implicitDefEqProofs [callR, hsh, shiftV, shiftL]
  refine loopA (fun i : Nat => tsOf 56 [(1, .ptr 0 1 0 0), (4, .sl 1 1 0 (imgT fs i).length), (21, .p (fnsL fs)), (22, .p (.int .i64 fs.length)), (23, .p (.int .i64 i))]) (fun i => [.row 1 [[.p (fnsL fs)]], bysO (imgT fs i)])
    (fun i => i ≤ fs.length ∧ ∀ f ∈ fs.take i, codeOk f = true) (fun i => fs.length - i) 0 (by simp) ?_ ?_
  · refine wkt_pick [0, 2] rfl (by decide) (hw_row rfl (by simp) (hw_row (by simp [imgT, u8]) (by simp) hw_nil)) ?_
    simp [below, ren, imgT, hfl]
  · intro i ⟨hi, hok⟩
    simp -implicitDefEqProofs [hfl]
    refine cndb (fun h1 => ?_) (fun h1 => ?_)
    · simp at h1
      have hg1 := List.getElem?_eq_getElem h1
      have hil := ins_le h1
      have hel := encB_len fs[i]
      have himl := imgT_len hs2 hl4 (i := i) (by omega)
      have hsu := imgT_succ h1
      simp -implicitDefEqProofs [hg1, hfl]
      simp -implicitDefEqProofs [Mfn.cs]
      by_cases hc : codeOk fs[i] = true
      rotate_left
      · have : fs.all codeOk = false := by rw [List.all_eq_false]; exact ⟨_, List.getElem_mem h1, by simpa using hc⟩
        refine (i_EncodeFn2 G hG fs[i] (by omega) (lo_of_mach hmo h1) hc).use ?_
        simp -implicitDefEqProofs [imgOk, this]
      have htm : ((encB fs[i]).length : Int).tmod 256 = ((encB fs[i]).length : Int) % 256 := by rw [show ((encB fs[i]).length : Int).tmod 256 = (((encB fs[i]).length % 256 : Nat) : Int) from rfl]; omega
      have htd : IntKind.i64.wrap (((encB fs[i]).length : Int) / 256) = ((encB fs[i]).length : Int) / 256 := i64_small (by omega) (by omega)
      refine (AC.lift (i_EncodeFn1 G hG fs[i] (by omega) (lo_of_mach hmo h1) hc) (by simp [belowL, below]) rfl (by simp only [List.all_cons, List.all_nil, nofnO_bys]; rfl)).mono ?_
      rintro r h ⟨rfl, rfl⟩
      have hsh2 : shiftO 3 (.row 1 ((encB fs[i]).map fun n => [.p (.int .u8 n)])) = .row 1 ((encB fs[i]).map fun n => [.p (.int .u8 n)]) := shiftO_bys 3 _
      simp -implicitDefEqProofs [callR_nxt, hsh2, shiftV, shiftL, hbo, htk, htm, htd]
      refine ⟨by omega, by omega, i + 1, ⟨h1, fun f hf => ?_⟩, by omega, wkt_pick [0, 6] rfl (by simp) (hw_row rfl (by simp) (hw_row (by simp [List.take_of_length_le, hsu, secB, u8, Function.comp_def]) (by simp) hw_nil)) ?_⟩
      · rw [take_succ' h1] at hf
        rcases List.mem_append.1 hf with hf | hf
        · exact hok f hf
        · rw [List.mem_singleton.1 hf]; exact hc
      · simp [below, ren, w1 (i := i) (by omega), hsu, secB]
        omega
    · simp at h1
      have hie : i = fs.length := by omega
      subst hie
      rw [List.take_of_length_le (by omega)] at hok
      have hok2 : imgOk fs = true := by simp [imgOk, hmo]; exact hok
      simp -implicitDefEqProofs [imgB, hok2]

theorem i_ImageOf1 (fs : List Mfn) (hb : szF fs ≤ 1048576) (hc : imgOk fs = true) : AC Tryd.prog G n_impl_ImageOf [.agg [.p (fnsL fs)]] [] fun r h =>
    r = .ret (.tup [.sl 0 1 0 (imgB fs).length, .p (.bool true)]) ∧ h = [bysO (imgB fs)] := by
  refine ((o_ImageOf G hG hM fs hb).mono (R' := fun x h => x = .ret (.tup [.sl 1 1 0 (imgB fs).length, .p (.bool true)]) ∧ ∃ o, h = [o, bysO (imgB fs)]) fun r h e => by rw [if_pos hc] at e; exact e).gc (fun t v h ⟨e, _⟩ => by cases e) fun v h ⟨e1, o, e2⟩ => ?_
  cases e1; subst e2
  exact ⟨.tup [.sl 0 1 0 (imgB fs).length, .p (.bool true)], [bysO (imgB fs)], ⟨[1], by simp, by simp, by simp, by simp [below], by simp [ren, renL], hw_row rfl (by simp) hw_nil⟩, rfl, rfl⟩

theorem i_ImageOf2 (fs : List Mfn) (hb : szF fs ≤ 1048576) (hc : ¬ imgOk fs = true) : VF Tryd.prog G n_impl_ImageOf [.agg [.p (fnsL fs)]] (.tup [.nils, .p (.bool false)]) :=
  AC.freezeR ((o_ImageOf G hG hM fs hb).mono (R' := fun r _ => r = .ret (.tup [.nils, .p (.bool false)])) fun r h e => by rw [if_neg hc] at e; exact e) (fun t v h e => by cases e) fun v h e => by cases e; exact .keep (by simp [below, belowL]) .nil
end Go.Proofs.YtbbobekgnclkfaaDoor
