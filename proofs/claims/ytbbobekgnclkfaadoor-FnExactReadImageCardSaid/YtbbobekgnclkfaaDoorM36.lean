/-
  A machine's program read from bytes: the law's walk.
-/
import Derived.Test.YtbbobekgnclkfaaDoorM34
import Derived.Test.YtbbobekgnclkfaaDoorM35
namespace Go.Proofs.YtbbobekgnclkfaaDoor
open Go Go.Aw
set_option maxRecDepth 100000
set_option maxHeartbeats 4000000
variable (G : Glob)

theorem rdIm_bound {b : List Int} (h3 : BytesOk b) {fs : List Mfn} (h : rdIm b = some fs) : fs.length ≤ 255 ∧ szF fs ≤ 600000 := by
  unfold rdIm at h
  split at h <;> first | (cases h; done) | skip
  rename_i hh
  rw [Option.bind_eq_some_iff] at h
  obtain ⟨x, h1, h2⟩ := h
  split at h2 <;> first | (cases h2; done) | skip
  rw [Option.bind_eq_some_iff] at h2
  obtain ⟨gs, h4, h5⟩ := h2
  split at h5 <;> first | (cases h5; done) | skip
  cases h5
  have hb3 : 3 ≤ b.length := by simp only [hdOk, Bool.and_eq_true, decide_eq_true_eq] at hh; exact hh.1.1
  obtain ⟨_, l2, _⟩ := secTo_le hb3 h1
  obtain ⟨k1, k2⟩ := fnsOf_all h4
  have b2 := byAt_ok h3 2
  have hl : fs.length ≤ 255 := by rw [k1, l2, cntN]; omega
  have := szF_bound fs fun f hf => (k2 f hf).2
  exact ⟨hl, by omega⟩

theorem t_markMfnS_nil (k : Int) : VF Tryd.prog G n_laws_markMfnS [.nils, .p (.int .i64 k)] (.p (.int .i64 k)) := by
  refine AC.go k_laws_markMfnS ?_
  simp -implicitDefEqProofs [F_laws_markMfnS]
  refine loopA (fun _ : Unit => tsOf 34 [(0, .nils), (1, .p (.int .i64 k)), (5, .p (.int .i64 0))]) (fun _ => []) (fun _ => True) (fun _ => 0) () trivial (wkt_nil rfl (by simp)) ?_
  intro _ _
  simp -implicitDefEqProofs []
theorem t_markMach_nil (k : Int) : VF Tryd.prog G n_laws_markMach [.agg [.nils], .p (.int .i64 k)] (.p (.int .i64 k)) := by
  refine AC.go k_laws_markMach ?_
  simp -implicitDefEqProofs [F_laws_markMach]
  refine (t_markMfnS_nil G k).use ?_
  simp -implicitDefEqProofs []

/-- A heap that was marked. -/
theorem LZ_of {a b : AO} {gs : List Mfn} {os h : List AO} (hm : MachAt h 2 gs) (h0 : h[0]? = some a) (h1 : h[1]? = some b) (hl : h.length = gs.length + 3 + os.length + 1) (hs : ∀ k, k < os.length → h[gs.length + 3 + k]? = os[k]?) :
    ∃ x, h = LZ a b (.row 3 (fnsR 3 gs)) (gs.map fun f => insO f.ins) (os ++ [x]) := by
  have hml : (gs.map fun f => insO f.ins).length = gs.length := by simp
  obtain ⟨x, hx⟩ : ∃ x, h[gs.length + 3 + os.length]? = some x := ⟨_, List.getElem?_eq_getElem (by omega)⟩
  refine ⟨x, List.ext_getElem? fun i => ?_⟩
  match i with
  | 0 => rw [LZ_0]; exact h0
  | 1 => rw [LZ_1]; exact h1
  | 2 => rw [LZ_2]; exact hm.row
  | i + 3 =>
    rcases Nat.lt_or_ge i gs.length with hi | hi
    · have := hm.ins i _ (List.getElem?_eq_getElem hi)
      rw [show 2 + 1 + i = i + 3 by omega] at this
      rw [this, show i + 3 = 3 + i by omega, LZ_m (by rw [hml]; exact hi), List.getElem?_map, List.getElem?_eq_getElem hi]; rfl
    · have e : i + 3 = gs.length + 3 + (i - gs.length) := by omega
      rw [e, LZ_k hml]
      rcases Nat.lt_trichotomy (i - gs.length) os.length with hk | hk | hk
      · rw [hs _ hk, List.getElem?_append_left hk]
      · rw [hk, hx, List.getElem?_append_right (Nat.le_refl _)]; simp
      · rw [List.getElem?_eq_none (by omega), List.getElem?_eq_none (by simp; omega)]

variable (hG : G g_forms = some pvForms) (hM : G g_magic = some pvMagic)
include hG hM

theorem t_iReadImage {b : List Int} (hb : BytesOk b) (hl : b.length ≤ 1048576) {fs : List Mfn} (hd : rdIm b = some fs) : VF Tryd.prog G n_impl_ReadImage [.p (bysL b)] (.tup [.agg [.p (fnsL fs)], .p (.bool true)]) := by
  refine AC.freeze (i_ReadImage1 G hG hM hb hl hd) (.tup (.agg (.one ?_ .nil) (.keep (by simp) .nil)) .nil)
  have := machAt_own fs []
  rw [List.append_nil] at this
  exact machAt_view this

theorem law_ReadImage (l : List Int) (hb : BytesOk l) : VF Tryd.prog G n_laws_FnExactReadImage [.p (bysL l)] (.p (.bool true)) := by
  refine AC.go k_laws_FnExactReadImage ?_
  have hbl : bysL l = .lst 1 (l.map fun n => [.int .u8 n]) := rfl
  simp -implicitDefEqProofs [F_laws_FnExactReadImage, hbl]
  refine cndb (fun h => ?_) (fun h => ?_)
  · simp -implicitDefEqProofs []
  simp at h
  have hl : l.length ≤ 1048576 := by omega
  rw [← hbl]
  simp -implicitDefEqProofs []
  refine (t_toByteS G l hl).use ?_
  simp -implicitDefEqProofs []
  cases hd : rdIm l with
  | none =>
    have hs := s_ReadImage G l hb hl
    rw [hd] at hs
    refine hs.use ?_
    simp -implicitDefEqProofs []
    refine (AC.lift (o_toByteS G l hl) (by simp [belowL, below]) rfl (by simp only [List.all_cons, List.all_nil, nofnO_bys]; rfl)).mono ?_
    rintro r h ⟨rfl, rfl⟩
    simp -implicitDefEqProofs [callR_nxt, shiftV, shiftL, shiftO_bys]
    refine (AC.lend ((i_ReadImage2 G hG hM hb hl hd).ac (by simp [belowL, below]) (by simp [belowL, below]) []) (.one (bysO_view rfl) .nil) rfl rfl).mono ?_
    rintro r h ⟨rfl, rfl⟩
    simp -implicitDefEqProofs [callR_nxt, shiftV, shiftL]
    have heq := t_eqMach G [] [] (by simp [szF])
    refine (VF.lend heq (.agg (.one (View.nils 3) .nil) (.keep (by simp [below, belowL]) .nil)) rfl).mono ?_
    rintro r h ⟨rfl, rfl⟩
    simp -implicitDefEqProofs [callR_nxt]
    refine (t_toByteS G l hl).use ?_
    simp -implicitDefEqProofs []
    refine (VF.lend (t_eqByteS G l l hl) (.one (bysO_view rfl) (.keep (by simp [below]) .nil)) rfl).mono ?_
    rintro r h ⟨rfl, rfl⟩
    simp -implicitDefEqProofs [callR_nxt]
    refine (m_markByteS G (k := 1) (id := 1) (xs := l) rfl (by omega)).mono ?_
    rintro r h ⟨rfl, rfl⟩
    have hk0 : ¬ (1 : Int) + (l.length : Int) < 0 := by omega
    simp -implicitDefEqProofs [callR_nxt, hk0]
    refine (VF.lend heq (.agg (.one (View.nils 3) .nil) (.keep (by simp [below, belowL]) .nil)) rfl).mono ?_
    rintro r h ⟨rfl, rfl⟩
    simp -implicitDefEqProofs [callR_nxt]
    refine (t_markMach_nil G 1).use ?_
    simp -implicitDefEqProofs []
    have hhe := t_heldMach G 1 [] (by simp [szF])
    have hvn : ∀ h, View h .nils (fnsL (markAt 1 [] ([] : List Mfn).length)) := fun h => View.nils 3
    refine (VF.lend hhe (.agg (.one (hvn _) .nil) (.keep (by simp [below, belowL]) .nil)) rfl).mono ?_
    rintro r h ⟨rfl, rfl⟩
    simp -implicitDefEqProofs [callR_nxt, szT]
    refine (t_toByteS G l hl).use ?_
    simp -implicitDefEqProofs []
    refine (i_ReadImage2 G hG hM hb hl hd).use ?_
    simp -implicitDefEqProofs []
    refine (VF.lend heq (.agg (.one (View.nils 3) .nil) (.keep (by simp [below, belowL]) .nil)) rfl).mono ?_
    rintro r h ⟨rfl, rfl⟩
    simp -implicitDefEqProofs [callR_nxt]
    refine (VF.lend hhe (.agg (.one (hvn _) .nil) (.keep (by simp [below, belowL]) .nil)) rfl).mono ?_
    rintro r h ⟨rfl, rfl⟩
    simp -implicitDefEqProofs [callR_nxt, szT]
  | some fs =>
    have hs := s_ReadImage G l hb hl
    rw [hd] at hs
    refine hs.use ?_
    simp -implicitDefEqProofs []
    refine (AC.lift (o_toByteS G l hl) (by simp [belowL, below]) rfl (by simp only [List.all_cons, List.all_nil, nofnO_bys]; rfl)).mono ?_
    rintro r h ⟨rfl, rfl⟩
    simp -implicitDefEqProofs [callR_nxt, shiftV, shiftL, shiftO_bys]
    obtain ⟨hfl, hsz⟩ := rdIm_bound hb hd
    have hml : (fs.map fun f => insO f.ins).length = fs.length := by simp
    have hlen : ∀ a b c os, (LZ a b c (fs.map fun f => insO f.ins) os).length = fs.length + 3 + os.length := fun a b c os => LZ_len hml
    have hma : ∀ (a b : AO) (os : List AO), MachAt (LZ a b (.row 3 (fnsR 3 fs)) (fs.map fun f => insO f.ins) os) 2 fs := fun a b os => ⟨rfl, fun k m hk => by
      have hkl := (List.getElem?_eq_some_iff.1 hk).1
      rw [show 2 + 1 + k = 3 + k by omega, LZ_m (by rw [hml]; exact hkl), List.getElem?_map, hk]; rfl⟩
    refine (AC.lend (i_ReadImage1 G hG hM hb hl hd) (.one (bysO_view rfl) .nil) rfl (fnsO_clean fs)).mono ?_
    rintro r h ⟨rfl, rfl⟩
    rw [fnsO_shift, show [AO.row 1 [[AV.p (fnsL fs)]], bysO l] ++ fnsO ([AO.row 1 [[AV.p (fnsL fs)]], bysO l].length) fs = LZ (.row 1 [[.p (fnsL fs)]]) (bysO l) (.row 3 (fnsR 3 fs)) (fs.map fun f => insO f.ins) [] by simp [LZ, fnsO]]
    simp -implicitDefEqProofs [callR_nxt, shiftV, shiftL, hlen, hml]
    have heq := t_eqMach G fs fs (by omega)
    refine (VF.lend heq (.agg (.one (machAt_view (hma _ _ _)) .nil) (.keep (by simp [below, belowL]) .nil)) rfl).mono ?_
    rintro r h ⟨rfl, rfl⟩
    simp -implicitDefEqProofs [callR_nxt]
    refine (t_toByteS G l hl).use ?_
    simp -implicitDefEqProofs []
    refine (VF.lend (t_eqByteS G l l hl) (.one (bysO_view LZ_1) (.keep (by simp [below]) .nil)) rfl).mono ?_
    rintro r h ⟨rfl, rfl⟩
    simp -implicitDefEqProofs [callR_nxt]
    refine (m_markByteS G (k := 1) (id := 1) (xs := l) LZ_1 (by omega)).mono ?_
    rintro r h ⟨rfl, rfl⟩
    have hk0 : ¬ (1 : Int) + (l.length : Int) < 0 := by omega
    simp -implicitDefEqProofs [callR_nxt, hk0, hlen, hml]
    refine (VF.lend heq (.agg (.one (machAt_view (hma _ _ _)) .nil) (.keep (by simp [below, belowL]) .nil)) rfl).mono ?_
    rintro r h ⟨rfl, rfl⟩
    simp -implicitDefEqProofs [callR_nxt, hlen, hml]
    refine (x_markMach G (k := 1) (hma _ _ _) (by omega)).mono ?_
    rintro r h2 ⟨rfl, hl2, hm2, hs2⟩
    rw [hlen] at hl2
    have hgl := markAt_len 1 fs fs.length
    obtain ⟨x, hh2⟩ := LZ_of hm2 (a := .row 1 [[.p (fnsL fs)]]) (b := bysO (mks8 1 l.length)) (os := [.row 1 [[.sl 2 3 0 fs.length]]]) (by rw [hs2 0 (by rw [hlen]; omega) (.inl (by omega)), LZ_0]) (by rw [hs2 1 (by rw [hlen]; omega) (.inl (by omega)), LZ_1]) (by rw [hgl]; exact hl2)
      (fun k hk => by rw [hgl, hs2 _ (by rw [hlen]; simp at hk ⊢; omega) (.inr (by omega)), LZ_k hml])
    have hhe := t_heldMach G 1 fs (by omega)
    have hml2 : ((markAt 1 fs fs.length).map fun f => insO f.ins).length = fs.length := by simp [hgl]
    have hlen2 : ∀ a b c os, (LZ a b c ((markAt 1 fs fs.length).map fun f => insO f.ins) os).length = fs.length + 3 + os.length := fun a b c os => LZ_len hml2
    have hvw : ∀ (a b : AO) (os : List AO), View (LZ a b (.row 3 (fnsR 3 (markAt 1 fs fs.length))) ((markAt 1 fs fs.length).map fun f => insO f.ins) os) (.sl 2 3 0 fs.length) (fnsL (markAt 1 fs fs.length)) := fun a b os => by
      have := machAt_view (h := LZ a b (.row 3 (fnsR 3 (markAt 1 fs fs.length))) ((markAt 1 fs fs.length).map fun f => insO f.ins) os) (b := 2) (fs := markAt 1 fs fs.length) ⟨rfl, fun k m hk => by
        have hkl := (List.getElem?_eq_some_iff.1 hk).1
        rw [show 2 + 1 + k = 3 + k by omega, LZ_m (by rw [List.length_map]; exact hkl), List.getElem?_map, hk]; rfl⟩
      rw [hgl] at this; exact this
    subst hh2
    generalize hmid : ((markAt 1 fs fs.length).map fun f => insO f.ins) = mid2 at *
    generalize hrow : AO.row 3 (fnsR 3 (markAt 1 fs fs.length)) = row2 at *
    simp -implicitDefEqProofs [callR_nxt, hml2, hlen2]
    refine (VF.lend hhe (.agg (.one (hvw _ _ _) .nil) (.keep (by simp [below, belowL]) .nil)) rfl).mono ?_
    rintro r h ⟨rfl, rfl⟩
    have hk1 : ¬ (1 : Int) + 2 * (fs.length : Int) + 5 * (szT fs fs.length : Int) < 0 := by omega
    simp -implicitDefEqProofs [callR_nxt, hml2, hlen2, hk1]
    refine (t_toByteS G l hl).use ?_
    simp -implicitDefEqProofs []
    refine (t_iReadImage G hG hM hb hl hd).use ?_
    simp -implicitDefEqProofs [hml2, hlen2]
    refine (t_eqMach G fs fs (by omega)).use ?_
    simp -implicitDefEqProofs [hml2, hlen2]
    refine (VF.lend hhe (.agg (.one (hvw _ _ _) .nil) (.keep (by simp [below, belowL]) .nil)) rfl).mono ?_
    rintro r h ⟨rfl, rfl⟩
    simp -implicitDefEqProofs [callR_nxt, hml2, hlen2, hk1]
end Go.Proofs.YtbbobekgnclkfaaDoor
