/-
  The bytes of a machine's program: the law's walk.
-/
import Derived.Test.YtbbobekgnclkfaaDoorM20
namespace Go.Proofs.YtbbobekgnclkfaaDoor
open Go Go.Aw
set_option maxRecDepth 100000
set_option maxHeartbeats 4000000
variable (G : Glob) (hG : G g_forms = some pvForms) (hM : G g_magic = some pvMagic)
include hG hM

theorem law_ImageOf (fs : List Mfn) (hb : szF fs ≤ 1000000) : VF Tryd.prog G n_laws_FnExactImageOf [.agg [.p (fnsL fs)]] (.p (.bool true)) := by
  refine AC.go k_laws_FnExactImageOf ?_
  have hfl : fnsL fs = .lst 3 (fs.map Mfn.cs) := rfl
  have hn : fs.length ≤ 1000000 := by rw [szF] at hb; omega
  simp -implicitDefEqProofs [F_laws_FnExactImageOf]
  refine (t_szMach G fs 1048576 (by omega) (by omega)).use ?_
  have hng : ¬ ((1048576 - szF fs : Nat) : Int) < 0 := by omega
  simp -implicitDefEqProofs [hng]
  refine (t_toMach G fs (by omega)).use ?_
  simp -implicitDefEqProofs []
  refine (s_ImageOf G fs hb).use ?_
  simp -implicitDefEqProofs []
  refine (AC.lift (o_toMach G fs (by omega)) (by simp [belowL, below]) rfl ?_).mono ?_
  · simp only [fnsO, List.all_cons, Bool.and_eq_true, List.all_eq_true, List.mem_map, nofnO]
    refine ⟨fun x hx => ?_, ?_⟩
    · obtain ⟨i, m, _, rfl⟩ := fnsR_mem hx; rfl
    · rintro x ⟨m, _, rfl⟩
      simp only [insO, nofnO, List.all_eq_true, List.mem_map]
      rintro y ⟨z, _, rfl⟩; exact nofnL_pure _
  rintro r h ⟨rfl, rfl⟩
  rw [fnsO_shift]
  simp only [List.length_cons, List.length_nil, Nat.zero_add]
  have hma0 : MachAt ([AO.row 1 [[AV.p (fnsL fs)]]] ++ fnsO 1 fs) 1 fs := ⟨by simp [fnsO], fun k m hk => by
    have hl := (List.getElem?_eq_some_iff.1 hk).1
    rw [List.getElem?_append_right (by simp; omega)]
    simp only [fnsO, List.length_cons, List.length_nil]
    rw [show 1 + 1 + k - (0 + 1) = k + 1 by omega, List.getElem?_cons_succ, List.getElem?_map, hk]; rfl⟩
  obtain ⟨mid, hmid⟩ : ∃ mid, mid = fnsO 1 fs := ⟨_, rfl⟩
  have hml : mid.length = fs.length + 1 := by rw [hmid]; simp [fnsO]
  rw [← hmid] at hma0 ⊢
  have hLX : [AO.row 1 [[AV.p (fnsL fs)]]] ++ mid = LX (.row 1 [[.p (fnsL fs)]]) mid [] := by simp [LX]
  have hlen := LX_len (.row 1 [[.p (fnsL fs)]]) mid
  rw [hLX] at hma0 ⊢
  simp -implicitDefEqProofs [callR_nxt, shiftV, shiftL, hlen, hml]
  have hma : ∀ os, MachAt (LX (.row 1 [[.p (fnsL fs)]]) mid os) 1 fs := fun os => machAt_LX hml hma0
  by_cases hc : imgOk fs = true
  · refine (AC.lend (i_ImageOf1 G hG hM fs (by omega) hc) (.agg (.one (machAt_view (hma _)) .nil) .nil) rfl (by simp [cleanO, bysO, cleanL, clean])).mono ?_
    rintro r h ⟨rfl, rfl⟩
    have hbl : (imgB fs).length ≤ 1048576 := by
        have hmo : machOk fs = true := by simp [imgOk] at hc; exact hc.1
        obtain ⟨hl4, hs2⟩ := mach_len hmo
        have := imgT_len hs2 hl4 (Nat.le_refl _)
        rw [imgB, if_pos hc]; omega
    simp -implicitDefEqProofs [callR_nxt, shiftV, shiftL, shiftO_bys, hc, hlen, hml]
    refine (VF.lend (t_eqByteS G (imgB fs) (imgB fs) hbl) (.one (bysO_view (LX_k1 hml _ _ _)) (.keep (by simp [below]) .nil)) rfl).mono ?_
    rintro r h ⟨rfl, rfl⟩
    simp -implicitDefEqProofs [callR_nxt, shiftV, shiftL, shiftO_bys, hc, hlen, hml]
    refine (t_toMach G fs (by omega)).use ?_
    simp -implicitDefEqProofs [callR_nxt, shiftV, shiftL, shiftO_bys, hc, hlen, hml]
    refine (VF.lend (t_eqMach G fs fs (by omega)) (.agg (.one (machAt_view (hma _)) .nil) (.keep (by simp [below, belowL]) .nil)) rfl).mono ?_
    rintro r h ⟨rfl, rfl⟩
    simp -implicitDefEqProofs [callR_nxt, shiftV, shiftL, shiftO_bys, hc, hlen, hml]
    refine AC.mono (m_markMach G (k := 1) (hma _) (by omega)) ?_
    rintro r h2 ⟨k', hk', rfl, hl2, _, hsame⟩
    obtain ⟨mid2, os2, rfl, hml2', ho2⟩ := LX_of (b := .row 1 [[.p (fnsL fs)]]) (mid := mid) (os := [.row 1 [[.sl 1 3 0 fs.length]], bysO (imgB fs)]) hl2 (by rw [hsame 0 (by rw [hlen]; omega) (.inl (by omega))]; rfl) (fun k hk => by rw [hsame _ (by rw [hlen]; omega) (.inr (by omega))]; exact LX_k _ mid _ rfl k)
    have hml2 : mid2.length = fs.length + 1 := by omega
    obtain ⟨x, rfl⟩ : ∃ x, os2 = [x] := by match os2, ho2 with | [x], _ => exact ⟨x, rfl⟩
    have hlen2 := LX_len (.row 1 [[.p (fnsL fs)]]) mid2
    have hk0 : ¬ (k' : Int) < 0 := by omega
    simp -implicitDefEqProofs [callR_nxt, shiftV, shiftL, shiftO_bys, hc, hlen2, hml2, hk0]
    refine (VF.lend (t_eqByteS G (imgB fs) (imgB fs) hbl) (.one (bysO_view (LX_k1 hml2 _ _ _)) (.keep (by simp [below]) .nil)) rfl).mono ?_
    rintro r h ⟨rfl, rfl⟩
    simp -implicitDefEqProofs [callR_nxt, shiftV, shiftL, shiftO_bys, hc, hlen2, hml2]
    refine AC.mono (m_markByteS G (k := 1) (LX_k1 hml2 _ _ _) (by omega)) ?_
    rintro r h ⟨rfl, rfl⟩
    have hk1 : ¬ (1 + ((imgB fs).length : Int)) < 0 := by omega
    simp -implicitDefEqProofs [callR_nxt, shiftV, shiftL, shiftO_bys, hc, hlen2, hml2]
    have hvw : ∀ os, View (LX (AO.row 1 [[AV.p (fnsL fs)]]) mid2 (AO.row 1 [[AV.sl 1 3 0 fs.length]] :: bysO (mks8 1 (imgB fs).length) :: os)) (.sl (fs.length + 3) 1 0 (imgB fs).length) (bysL (mks8 1 (imgB fs).length)) := fun os => by
        have := bysO_view (LX_k1 (b := AO.row 1 [[AV.p (fnsL fs)]]) hml2 (AO.row 1 [[AV.sl 1 3 0 fs.length]]) (bysO (mks8 1 (imgB fs).length)) os)
        rw [show (mks8 1 (imgB fs).length).length = (imgB fs).length by simp [mks8]] at this; exact this
    refine (VF.lend (t_heldByteS G 1 (imgB fs).length (by omega)) (.one (hvw _) (.keep (by simp [below]) .nil)) rfl).mono ?_
    rintro r h ⟨rfl, rfl⟩
    simp -implicitDefEqProofs [callR_nxt, shiftV, shiftL, shiftO_bys, hc, hlen2, hml2, hk1]
    refine (t_toMach G fs (by omega)).use ?_
    simp -implicitDefEqProofs [callR_nxt, shiftV, shiftL, shiftO_bys, hc, hlen2, hml2]
    refine (AC.lift (i_ImageOf1 G hG hM fs (by omega) hc) (by simp [belowL, below]) rfl (by simp only [List.all_cons, List.all_nil, nofnO_bys]; rfl)).mono ?_
    rintro r h ⟨rfl, rfl⟩
    simp -implicitDefEqProofs [callR_nxt, shiftV, shiftL, shiftO_bys, hc, hlen2, hml2]
    refine (VF.lend (t_eqByteS G (imgB fs) (imgB fs) hbl) (.one (bysO_view (LX_k3 hml2 _ _ _ _ _)) (.keep (by simp [below]) .nil)) rfl).mono ?_
    rintro r h ⟨rfl, rfl⟩
    simp -implicitDefEqProofs [callR_nxt, shiftV, shiftL, shiftO_bys, hc, hlen2, hml2]
    refine (VF.lend (t_heldByteS G 1 (imgB fs).length (by omega)) (.one (hvw _) (.keep (by simp [below]) .nil)) rfl).mono ?_
    rintro r h ⟨rfl, rfl⟩
    simp -implicitDefEqProofs [callR_nxt, shiftV, shiftL, shiftO_bys, hc, hlen2, hml2, hk1]
  · refine (AC.lend ((i_ImageOf2 G hG hM fs (by omega) hc).ac (by simp [belowL, below]) (by simp [belowL, below]) []) (.agg (.one (machAt_view (hma _)) .nil) .nil) rfl rfl).mono ?_
    rintro r h ⟨rfl, rfl⟩
    have himg : imgB fs = [] := by rw [imgB, if_neg hc]
    rw [himg]
    have hbl : ([] : List Int).length ≤ 1048576 := by simp
    simp -implicitDefEqProofs [callR_nxt, shiftV, shiftL, hc, hlen, hml]
    refine (VF.lend (t_eqByteS G ([]) ([]) hbl) (.one (View.nils 1) (.keep (by simp [below]) .nil)) rfl).mono ?_
    rintro r h ⟨rfl, rfl⟩
    simp -implicitDefEqProofs [callR_nxt, shiftV, shiftL, shiftO_bys, hc, hlen, hml]
    refine (t_toMach G fs (by omega)).use ?_
    simp -implicitDefEqProofs [callR_nxt, shiftV, shiftL, shiftO_bys, hc, hlen, hml]
    refine (VF.lend (t_eqMach G fs fs (by omega)) (.agg (.one (machAt_view (hma _)) .nil) (.keep (by simp [below, belowL]) .nil)) rfl).mono ?_
    rintro r h ⟨rfl, rfl⟩
    simp -implicitDefEqProofs [callR_nxt, shiftV, shiftL, shiftO_bys, hc, hlen, hml]
    refine AC.mono (m_markMach G (k := 1) (hma _) (by omega)) ?_
    rintro r h2 ⟨k', hk', rfl, hl2, _, hsame⟩
    obtain ⟨mid2, os2, rfl, hml2', ho2⟩ := LX_of (b := .row 1 [[.p (fnsL fs)]]) (mid := mid) (os := [.row 1 [[.sl 1 3 0 fs.length]]]) hl2 (by rw [hsame 0 (by rw [hlen]; omega) (.inl (by omega))]; rfl) (fun k hk => by rw [hsame _ (by rw [hlen]; omega) (.inr (by omega))]; exact LX_k _ mid _ rfl k)
    have hml2 : mid2.length = fs.length + 1 := by omega
    obtain ⟨x, rfl⟩ : ∃ x, os2 = [x] := by match os2, ho2 with | [x], _ => exact ⟨x, rfl⟩
    have hlen2 := LX_len (.row 1 [[.p (fnsL fs)]]) mid2
    have hk0 : ¬ (k' : Int) < 0 := by omega
    simp -implicitDefEqProofs [callR_nxt, shiftV, shiftL, shiftO_bys, hc, hlen2, hml2, hk0]
    refine (VF.lend (t_eqByteS G ([]) ([]) hbl) (.one (View.nils 1) (.keep (by simp [below]) .nil)) rfl).mono ?_
    rintro r h ⟨rfl, rfl⟩
    simp -implicitDefEqProofs [callR_nxt, shiftV, shiftL, shiftO_bys, hc, hlen2, hml2]
    refine (t_markByteS_nil G 1).use ?_
    simp -implicitDefEqProofs [callR_nxt, shiftV, shiftL, shiftO_bys, hc, hlen2, hml2]
    have hk1 : ¬ ((1 + 0 : Nat) : Int) < 0 := by omega
    have hvw : ∀ h, View h .nils (bysL (mks8 1 0)) := fun h => View.nils 1
    refine (VF.lend (t_heldByteS G 1 0 (by omega)) (.one (hvw _) (.keep (by simp [below]) .nil)) rfl).mono ?_
    rintro r h ⟨rfl, rfl⟩
    simp -implicitDefEqProofs [callR_nxt, shiftV, shiftL, shiftO_bys, hc, hlen2, hml2, hk1]
    refine (t_toMach G fs (by omega)).use ?_
    simp -implicitDefEqProofs [callR_nxt, shiftV, shiftL, shiftO_bys, hc, hlen2, hml2]
    refine (i_ImageOf2 G hG hM fs (by omega) hc).use ?_
    simp -implicitDefEqProofs [callR_nxt, shiftV, shiftL, shiftO_bys, hc, hlen2, hml2]
    refine (VF.lend (t_eqByteS G ([]) ([]) hbl) (.one (View.nils 1) (.keep (by simp [below]) .nil)) rfl).mono ?_
    rintro r h ⟨rfl, rfl⟩
    simp -implicitDefEqProofs [callR_nxt, shiftV, shiftL, shiftO_bys, hc, hlen2, hml2]
    refine (VF.lend (t_heldByteS G 1 0 (by omega)) (.one (hvw _) (.keep (by simp [below]) .nil)) rfl).mono ?_
    rintro r h ⟨rfl, rfl⟩
    simp -implicitDefEqProofs [callR_nxt, shiftV, shiftL, shiftO_bys, hc, hlen2, hml2, hk1]
end Go.Proofs.YtbbobekgnclkfaaDoor
