/-
  A machine's program read from bytes: the program's walk.
-/
import Derived.Test.YtbbobekgnclkfaaDoorM33
namespace Go.Proofs.YtbbobekgnclkfaaDoor
open Go Go.Aw
set_option maxRecDepth 100000
set_option maxHeartbeats 4000000
variable (G : Glob)
structure IR where
  i : Nat
  fs : List Mfn
theorem fnsOf_take {b : List Int} {sts : List Nat} {i : Nat} {fs : List Mfn} (hi : i < sts.length) (h : fnsOf b (sts.take i) = some fs) : fnsOf b (sts.take (i + 1)) = (fnAt b sts[i]).map fun f => fs ++ [f] := by
  rw [take_succ' hi, fnsOf_app, h]; rfl
variable (hG : G g_forms = some pvForms) (hM : G g_magic = some pvMagic)
include hG hM

theorem o_iReadImage (b : List Int) (hb : BytesOk b) (hl : b.length ≤ 1048576) :
    AC Tryd.prog G n_impl_ReadImage [.p (bysL b)] [] fun x h => match rdIm b with
      | none => x = .ret (.tup [.agg [.nils], .p (.bool false)])
      | some fs => x = .ret (.tup [.agg [.sl 2 3 0 fs.length], .p (.bool true)]) ∧ ∃ a c os, h = LZ a c (.row 3 (fnsR 3 fs)) (fs.map fun f => insO f.ins) os := by
  refine AC.go k_impl_ReadImage ?_
  have hbl : bysL b = .lst 1 (b.map fun n => [.int .u8 n]) := rfl
  simp -implicitDefEqProofs [F_impl_ReadImage]
  have hsec := i_sections G hM b hb hl
  cases hsv : secV b with
  | none =>
    have hd : rdIm b = none := by
      rw [rdIm]
      by_cases hh : hdOk b = true
      · rw [secV, if_pos hh] at hsv
        rw [if_pos hh, hsv]; rfl
      · rw [if_neg hh]
    rw [hsv] at hsec
    refine hsec.use ?_
    simp -implicitDefEqProofs [hd]
  | some x =>
  obtain ⟨sts, a⟩ := x
  rw [hsv] at hsec
  have hhd : hdOk b = true := by
    cases h : hdOk b with
    | true => rfl
    | false => rw [secV, h] at hsv; simp at hsv
  rw [secV, if_pos hhd] at hsv
  have hres : rdIm b = if a = b.length then ((fnsOf b sts).bind fun fs => if machOk fs then some fs else none) else none := by rw [rdIm, if_pos hhd, hsv]; rfl
  have h3 : 3 ≤ b.length := by simp only [hdOk, Bool.and_eq_true, decide_eq_true_eq] at hhd; exact hhd.1.1
  obtain ⟨l1, l2, l3⟩ := secTo_le h3 hsv
  simp only at l1 l2 l3
  have b2 := byAt_ok hb 2
  have hcl : sts.length ≤ 255 := by rw [l2, cntN]; omega
  refine hsec.use ?_
  by_cases ha : a = b.length
  rotate_left
  · rw [if_neg ha] at hres
    simp -implicitDefEqProofs [ha, hres]
  rw [if_pos ha] at hres
  subst ha
  simp -implicitDefEqProofs []
  refine loopA (fun d : IR => tsOf 69 [(0, .p (bysL b)), (2, .ptr 0 1 0 0), (3, .p (.bool false)), (6, .ptr 1 1 0 0), (21, .p (.lst 4 (sts.map (secC b)))), (22, .p (.int .i64 sts.length)), (23, .p (.int .i64 d.i))]) (fun d => riH d.fs)
    (fun d => d.i ≤ sts.length ∧ fnsOf b (sts.take d.i) = some d.fs) (fun d => sts.length - d.i) ⟨0, []⟩ (by simp [fnsOf]) ?_ ?_
  · show Wk 0 _ _ _ (LZ (.row 1 [[.nils]]) (.row 1 [[.nils]]) .dead [] [])
    exact wkt_dup [0, 1, 0] (by simp) (by simp) (by simp [lives, LZ]) (hw_row rfl (by simp [belowL, below]) (hw_row rfl (by simp [belowL, below]) (hw_dead (by simp) hw_nil))) (by simp [below, ren, bysL])
  · rintro ⟨i, fs⟩ ⟨i1, i2⟩
    simp only at i1 i2
    have hfl : fs.length = i := by rw [(fnsOf_all i2).1]; simp; omega
    have hml : (fs.map fun f => insO f.ins).length = fs.length := by simp
    have hlen : ∀ a b c os, (LZ a b c (fs.map fun f => insO f.ins) os).length = fs.length + 3 + os.length := fun a b c os => LZ_len hml
    simp -implicitDefEqProofs [riH, hbl]
    refine cndb (fun h1 => ?_) (fun h1 => ?_)
    · simp at h1
      have hg := List.getElem?_eq_getElem h1
      have hmem := secTo_mem hsv sts[i] (List.getElem_mem h1)
      generalize hst : sts[i] = s at hg hmem
      have c0 := byAt_ok hb s
      have c1 := byAt_ok hb (s + 1)
      have hwn : IntKind.i64.wrap ((s : Int) + 4 + szAt b s) = ((s + 4 + szAt b s : Nat) : Int) := i64_nat (by omega) (by omega)
      have ht4 : ((s : Int) + 4).toNat = s + 4 := by omega
      have ht5 : ((s : Int) + 4 + szAt b s).toNat = s + 4 + szAt b s := by omega
      have hp0 : (0 : Int) ≤ (s : Int) + 4 := by omega
      have hp1 : (0 : Int) ≤ (s : Int) + 4 + szAt b s := by omega
      have hsub : List.drop (s + 4) (List.take (s + 4 + szAt b s) (b.map fun n => [PV.int .u8 n])) = (subAt b s).map fun n => [PV.int .u8 n] := by
        rw [List.drop_take, subAt, show s + 4 + szAt b s - (s + 4) = szAt b s by omega, List.map_take, List.map_drop]
      simp -implicitDefEqProofs [hg, secC, hlen, hml, hwn, ht4, ht5, hp0, hp1, hmem, hsub, hbl]
      have hsb : BytesOk (subAt b s) := fun x hx => hb x (List.mem_of_mem_drop (List.mem_of_mem_take hx))
      have hsl : (subAt b s).length ≤ 1048576 := by simp [subAt]; omega
      have hms : s ∈ sts := by rw [← hst]; exact List.getElem_mem h1
      cases hfn : fnAt b s with
      | none =>
        have hd : rdIm b = none := by rw [hres, fnsOf_bad hfn hms]; rfl
        refine (i_DecodeFn2 G hG hsb hsl hfn).use ?_ (by simp [belowL, below]) (by simp [belowL, below, zMfn])
        simp -implicitDefEqProofs [hd, zMfn, hlen]
      | some f =>
        refine (AC.lift (i_DecodeFn1 G hG hsb hsl hfn) (by simp [belowL, below]) rfl (by simp [nofnO, insO]; intro x hx; exact nofnL_pure _)).mono ?_
        rintro r h ⟨rfl, rfl⟩
        have hfnl := fnsR_len fs 3
        simp -implicitDefEqProofs [callR_nxt, shiftV, shiftL, Mfn.ov, shiftO_ins, hlen, hml, hfnl]
        have hl2 := fnsR_len (fs ++ [f]) 3
        have hne : fnsR 3 (fs ++ [f]) ≠ [] := by intro e; rw [e] at hl2; simp at hl2
        have hgt : (riR fs.length).getD 2 0 = fs.length + 7 := rfl
        refine ⟨⟨by omega, by omega⟩, ⟨i + 1, fs ++ [f]⟩, ⟨h1, by rw [fnsOf_take h1 i2, hst, hfn]; rfl⟩, by simp only; omega, ?_⟩
        simp only
        rw [slE_ne hne, rowE_ne hne, hl2]
        refine wkt_pick (riR fs.length) rfl (riR_nodup _) ?_ ?_
        · show HW (riR fs.length) _ (0 :: 1 :: (fs.length + 7) :: (List.range' 3 fs.length ++ [fs.length + 4])) (_ :: _ :: _ :: ((fs ++ [f]).map (fun f => insO f.ins) ++ []))
          refine hw_row LZ_0 (by simp [belowL, below]) (hw_rowr (by simp [belowL, below, riR_len]) (by rw [LZ_1]; simp [renL, ren]; rfl) (hw_rowr (fun x hx => ?_) ?_ ?_))
          · have := fnsR_below (fs ++ [f]) 3 x hx
            rw [riR_len]
            rw [show 3 + (fs ++ [f]).length = fs.length + 4 by simp; omega] at this
            exact this
          · rw [riR_row, LZ_k4 hml]; rfl
          · rw [List.append_nil, List.map_append]
            have := hw_mid (ρ := riR fs.length) (h := LZ (.row 1 [[.nils]]) (.row 1 [[.sl (fs.length + 3 + 4) 3 0 (fs.length + 1)]]) .dead (fs.map fun f => insO f.ins)
              [.row 4 [[.p (.int .i64 (byAt b s)), .p (.int .i64 (byAt b (s + 1))), .p (.int .i64 ((s : Int) + 4)), .p (.int .i64 (szAt b s))]], insO f.ins, .row 3 [f.ov (fs.length + 4)], .row 3 [f.ov (fs.length + 4)], .row 3 (fnsR 3 fs ++ [f.ov (fs.length + 4)])])
              (π := [fs.length + 4]) (r := [insO f.ins]) (fs.map fun f => insO f.ins) 3 (insO_ok fs) (fun i hi => LZ_m hi) (hw_ok (LZ_k1 hml) (av_pure _) hw_nil)
            rw [hml] at this
            exact this
        · simp [below, ren, bysL, riR_len, w1 (i := i) (by omega), List.getD_eq_getElem?_getD]
          exact ⟨rfl, rfl⟩
    · simp at h1
      have hie : i = sts.length := by omega
      subst hie
      rw [List.take_length] at i2
      obtain ⟨hio, him⟩ := im_eq hb hhd hsv i2
      rw [i2] at hres
      simp only [Option.bind_some] at hres
      have hszF : szF fs ≤ 1048576 := by
        have := szF_bound fs (fun f hf => ((fnsOf_all i2).2 f hf).2)
        omega
      have hfnl := fnsR_len fs 3
      have hview : ∀ (a c : AO) (os : List AO), View (LZ a c (rowE 3 (fnsR 3 fs)) (fs.map fun f => insO f.ins) os) (slE 2 3 (fnsR 3 fs)) (fnsL fs) := fun a c os => by
        by_cases hf : fs = []
        · subst hf; exact View.nils 3
        · have hne : fnsR 3 fs ≠ [] := by intro e; rw [e] at hfnl; exact hf (List.length_eq_zero_iff.1 hfnl.symm)
          rw [slE_ne hne, rowE_ne hne, hfnl]
          refine machAt_view ⟨rfl, fun k m hk => ?_⟩
          have hkl := (List.getElem?_eq_some_iff.1 hk).1
          rw [show 2 + 1 + k = 3 + k by omega, LZ_m (by rw [hml]; exact hkl), List.getElem?_map, hk]; rfl
      simp -implicitDefEqProofs []
      cases hi : imgOk fs with
      | false =>
        rw [← hio, hi] at hres
        refine (AC.lend ((i_ImageOf2 G hG hM fs hszF (by simp [hi])).ac (by simp [belowL, below]) (by simp [belowL, below]) []) (.agg (.one (hview _ _ _) .nil) .nil) rfl rfl).mono ?_
        rintro r h ⟨rfl, rfl⟩
        simp -implicitDefEqProofs [callR_nxt, shiftV, shiftL, hres]
      | true =>
        have hib := him hi
        rw [← hio, hi] at hres
        have hpos : 0 < fs.length := by
          have hm : machOk fs = true := by rw [← hio]; exact hi
          simp [machOk, inR] at hm
          omega
        have hne : fnsR 3 fs ≠ [] := by intro e; rw [e] at hfnl; simp at hfnl; omega
        refine (AC.lend (i_ImageOf1 G hG hM fs hszF hi) (.agg (.one (hview _ _ _) .nil) .nil) rfl (by simp [cleanO, bysO, cleanL, clean])).mono ?_
        rintro r h ⟨rfl, rfl⟩
        simp -implicitDefEqProofs [callR_nxt, shiftV, shiftL, shiftO_bys, hlen, hml]
        refine (VF.lend (i_bytesEqual G (imgB fs) b (by rw [hib]; exact hb) hb) (.one (bysO_view (LZ_k0 hml)) (.keep (by simp [below]) .nil)) rfl).mono ?_
        rintro r h ⟨rfl, rfl⟩
        simp -implicitDefEqProofs [callR_nxt, hib, hres, slE_ne hne, rowE_ne hne, hfnl]
        exact ⟨_, _, _, rfl⟩

omit hG hM in
theorem rowSh (fs : List Mfn) : (fnsR 1 fs).map (renL (2 :: List.range' 3 fs.length)) = fnsR 3 fs := by
  refine List.ext_getElem? fun i => ?_
  rw [List.getElem?_map, fnsR_get, fnsR_get]
  rcases Nat.lt_or_ge i fs.length with h | h
  · rw [List.getElem?_eq_getElem h]
    simp only [Option.map_some, renL_ov]
    have : (2 :: List.range' 3 fs.length).getD (1 + i) 0 = 3 + i := by
      rw [List.getD_eq_getElem?_getD, Nat.add_comm 1 i, List.getElem?_cons_succ, List.getElem?_range' h]; simp
    rw [this]
  · rw [List.getElem?_eq_none h]; rfl
theorem i_ReadImage1 {b : List Int} (hb : BytesOk b) (hl : b.length ≤ 1048576) {fs : List Mfn} (hd : rdIm b = some fs) :
    AC Tryd.prog G n_impl_ReadImage [.p (bysL b)] [] fun x h => x = .ret (.tup [.agg [.sl 0 3 0 fs.length], .p (.bool true)]) ∧ h = fnsO 0 fs := by
  refine (o_iReadImage G hG hM b hb hl).gc (fun t v h e => ?_) fun v h e => ?_
  · rw [hd] at e
    obtain ⟨e, _⟩ := e; cases e
  · rw [hd] at e
    obtain ⟨e1, a, c, os, e2⟩ := e
    cases e1; subst e2
    refine ⟨.tup [.agg [.sl 0 3 0 fs.length], .p (.bool true)], fnsO 0 fs, ⟨2 :: List.range' 3 fs.length, by simp, by simp, ?_, by simp [below, belowL], by simp [ren, renL], ?_⟩, rfl, rfl⟩
    · simp [List.nodup_range']
    · show HW (2 :: List.range' 3 fs.length) _ (2 :: List.range' 3 fs.length) (.row 3 (fnsR 1 fs) :: fs.map fun m => insO m.ins)
      refine hw_rowr (fun x hx => ?_) (by rw [LZ_2, rowSh]) ?_
      · have := fnsR_below fs 1 x hx
        simp only [List.length_cons, List.length_range']
        rw [Nat.add_comm]; exact this
      · have := hw_mid (ρ := 2 :: List.range' 3 fs.length) (h := LZ a c (.row 3 (fnsR 3 fs)) (fs.map fun f => insO f.ins) os) (π := []) (r := []) (fs.map fun f => insO f.ins) 3 (insO_ok fs) (fun i hi => LZ_m hi) hw_nil
        simp only [List.length_map, List.append_nil] at this
        exact this
theorem i_ReadImage2 {b : List Int} (hb : BytesOk b) (hl : b.length ≤ 1048576) (hd : rdIm b = none) : VF Tryd.prog G n_impl_ReadImage [.p (bysL b)] (.tup [.agg [.nils], .p (.bool false)]) :=
  (o_iReadImage G hG hM b hb hl).mono fun x h e => by rw [hd] at e; exact e
end Go.Proofs.YtbbobekgnclkfaaDoor
