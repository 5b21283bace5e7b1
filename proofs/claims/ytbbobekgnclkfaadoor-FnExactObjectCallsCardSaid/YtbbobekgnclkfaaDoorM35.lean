/-
  Marks on a machine, told exactly.
-/
import Derived.Test.YtbbobekgnclkfaaDoorM21
import Derived.Test.YtbbobekgnclkfaaDoorCode2
namespace Go.Proofs.YtbbobekgnclkfaaDoor
open Go Go.Aw
set_option maxRecDepth 100000
set_option maxHeartbeats 4000000

/-! ### The marks -/
def mk1 (k i : Nat) : Mins := ⟨(k : Int) + 5 * i, (k : Int) + 5 * i + 1, (k : Int) + 5 * i + 1 + 1, (k : Int) + 5 * i + 1 + 1 + 1, (k : Int) + 5 * i + 1 + 1 + 1 + 1⟩
def mkI (k n : Nat) : List Mins := (List.range n).map (mk1 k)
theorem mkI_len (k n : Nat) : (mkI k n).length = n := by simp [mkI]
theorem mkI_get {k n i : Nat} (h : i < n) : (mkI k n)[i]? = some (mk1 k i) := by simp [mkI, h]
def mkAt (k : Nat) (xs : List Mins) (i : Nat) : List Mins := mkI k i ++ xs.drop i
theorem mkAt_len {k : Nat} {xs : List Mins} {i : Nat} (h : i ≤ xs.length) : (mkAt k xs i).length = xs.length := by simp [mkAt, mkI_len]; omega
theorem mkAt_get {k : Nat} {xs : List Mins} {i : Nat} (h : i < xs.length) : (mkAt k xs i)[i]? = some xs[i] := by
  rw [mkAt, List.getElem?_append_right (by rw [mkI_len]; omega), mkI_len, Nat.sub_self, List.drop_eq_getElem_cons h]; rfl
theorem mkAt_set {k : Nat} {xs : List Mins} {i : Nat} (h : i < xs.length) : (mkAt k xs i).set i (mk1 k i) = mkAt k xs (i + 1) := by
  rw [mkAt, List.set_append_right _ _ (by rw [mkI_len]; omega), mkI_len, Nat.sub_self, List.drop_eq_getElem_cons h, List.set_cons_zero, mkAt, mkI, mkI, List.range_succ, List.map_append]
  simp
theorem mkAt_all (k : Nat) (xs : List Mins) : mkAt k xs xs.length = mkI k xs.length := by simp [mkAt]
theorem mkAt_zero (k : Nat) (xs : List Mins) : mkAt k xs 0 = xs := by simp [mkAt, mkI]


/-- A machine whose first functions are marked. -/
def markAt (k : Nat) (fs : List Mfn) (i : Nat) : List Mfn := fs.mapIdx fun j f => if j < i then ⟨(k : Int) + 2 * j + 5 * szT fs j, (k : Int) + 2 * j + 5 * szT fs j + 1, mkI (k + 2 * j + 5 * szT fs j + 2) f.ins.length⟩ else f
theorem markAt_len (k : Nat) (fs : List Mfn) (i : Nat) : (markAt k fs i).length = fs.length := by simp [markAt]
theorem markAt_zero (k : Nat) (fs : List Mfn) : markAt k fs 0 = fs := by
  refine List.ext_getElem? fun j => ?_
  simp [markAt, List.getElem?_mapIdx]
theorem markAt_get (k : Nat) {fs : List Mfn} {i : Nat} (h : i < fs.length) : (markAt k fs i)[i]? = some fs[i] := by
  simp [markAt, List.getElem?_mapIdx, h]
theorem markAt_set {k : Nat} {fs : List Mfn} {i : Nat} (h : i < fs.length) : (markAt k fs i).set i ⟨(k : Int) + 2 * i + 5 * szT fs i, (k : Int) + 2 * i + 5 * szT fs i + 1, mkI (k + 2 * i + 5 * szT fs i + 2) fs[i].ins.length⟩ = markAt k fs (i + 1) := by
  refine List.ext_getElem? fun j => ?_
  rw [List.getElem?_set]
  by_cases e : i = j
  · subst e
    rw [if_pos rfl, if_pos (by rw [markAt_len]; exact h)]
    simp [markAt, List.getElem?_mapIdx, h]
  · rw [if_neg e]
    simp only [markAt, List.getElem?_mapIdx]
    cases fs[j]? with
    | none => rfl
    | some f =>
      simp only [Option.map_some]
      by_cases hj : j < i
      · rw [if_pos hj, if_pos (by omega)]
      · rw [if_neg hj, if_neg (by omega)]

variable (G : Glob)
theorem x_markMinsS {h : List AO} {id : Nat} {xs : List Mins} {k : Nat} (hr : h[id]? = some (insO xs)) (hk : k + 5 * xs.length ≤ 1152921504606846976) :
    AC Tryd.prog G n_laws_markMinsS [.sl id 5 0 xs.length, .p (.int .i64 k)] h fun x h' => x = .ret (.p (.int .i64 ((k + 5 * xs.length : Nat) : Int))) ∧ h' = h.set id (insO (mkI k xs.length)) := by
  refine AC.enterB k_laws_markMinsS fun hb => AC.enter k_laws_markMinsS ?_
  have hid : id < h.length := (List.getElem?_eq_some_iff.1 hr).1
  have hbs : ∀ ys : List Mins, HB (h.set id (insO ys)) := fun ys => hb.set_row fun e he => by
    obtain ⟨x, _, rfl⟩ := List.mem_map.1 he
    simp [Mins.av, Mins.cs]
  simp -implicitDefEqProofs [F_laws_markMinsS, List.replicate]
  refine loopA (fun a : Nat × List Mins => slots 48 [(0, .sl id 5 0 xs.length), (1, .p (.int .i64 ((k + 5 * a.1 : Nat) : Int))), (5, .p (.int .i64 a.1))]) (fun a => h.set id (insO a.2)) (fun a => a.1 ≤ xs.length ∧ a.2 = mkAt k xs a.1) (fun a => xs.length - a.1) (0, xs) (by simp [mkAt_zero]) ?_ ?_
  · have e : h.set id (insO xs) = h := by
      obtain ⟨hi, e⟩ := List.getElem?_eq_some_iff.1 hr
      rw [← e]; simp
    rw [e]
    exact wk_refl (by simp) hb (by simp -implicitDefEqProofs [slots, List.replicate, below, hid])
  · rintro ⟨i, ys⟩ ⟨hi, hy⟩
    simp only at hi hy
    have hyl : ys.length = xs.length := by rw [hy]; exact mkAt_len hi
    simp -implicitDefEqProofs [slots, List.replicate]
    refine cnd (fun h1 => ?_) (fun h1 => ?_)
    · simp at h1
      have h2 : i < ys.length := by omega
      have hg : (List.map Mins.av ys)[i]? = some ys[i].av := by rw [List.getElem?_map, List.getElem?_eq_getElem h2]; rfl
      have hw1 : IntKind.i64.wrap ((k : Int) + 5 * (i : Int) + 1) = (k : Int) + 5 * (i : Int) + 1 := i64_small (by omega) (by omega)
      have hw2 : IntKind.i64.wrap ((k : Int) + 5 * (i : Int) + 1 + 1) = (k : Int) + 5 * (i : Int) + 1 + 1 := i64_small (by omega) (by omega)
      have hw3 : IntKind.i64.wrap ((k : Int) + 5 * (i : Int) + 1 + 1 + 1) = (k : Int) + 5 * (i : Int) + 1 + 1 + 1 := i64_small (by omega) (by omega)
      have hw4 : IntKind.i64.wrap ((k : Int) + 5 * (i : Int) + 1 + 1 + 1 + 1) = (k : Int) + 5 * (i : Int) + 1 + 1 + 1 + 1 := i64_small (by omega) (by omega)
      have hw5 : IntKind.i64.wrap ((k : Int) + 5 * (i : Int) + 1 + 1 + 1 + 1 + 1) = (k : Int) + 5 * (i : Int) + 1 + 1 + 1 + 1 + 1 := i64_small (by omega) (by omega)
      simp -implicitDefEqProofs [insO, hid, h1, hg, Mins.av_eq, h2, hw1, hw2, hw3, hw4, hw5]
      obtain ⟨m, hm⟩ : ∃ m : Mins, m = mk1 k i := ⟨_, rfl⟩
      have hm' : m = ⟨(k : Int) + 5 * i, (k : Int) + 5 * i + 1, (k : Int) + 5 * i + 1 + 1, (k : Int) + 5 * i + 1 + 1 + 1, (k : Int) + 5 * i + 1 + 1 + 1 + 1⟩ := hm
      refine ⟨i + 1, ys.set i m, ⟨h1, by rw [hy, hm]; exact mkAt_set h1⟩, by omega, ?_⟩
      have e : ((List.map Mins.av ys).set i m.av) = List.map Mins.av (ys.set i m) := by rw [List.map_set]
      rw [Mins.av_eq, hm'] at e
      rw [e, ← hm']
      refine wk_refl (by simp) (hbs _) ?_
      simp [w1 (i := i) (by omega), below, hid]
      omega
    · simp at h1
      have : i = xs.length := by omega
      subst this
      simp
      rw [hy, mkAt_all]

theorem x_markMfnS {h : List AO} {b : Nat} {fs : List Mfn} {k : Nat} (ha : MachAt h b fs) (hk : k + 5 * szF fs ≤ 1152921504606846976) :
    AC Tryd.prog G n_laws_markMfnS [.sl b 3 0 fs.length, .p (.int .i64 k)] h fun x h' => x = .ret (.p (.int .i64 ((k + 2 * fs.length + 5 * szT fs fs.length : Nat) : Int))) ∧ h'.length = h.length ∧ MachAt h' b (markAt k fs fs.length) ∧ ∀ j, (j < b ∨ b + fs.length + 1 ≤ j) → h'[j]? = h[j]? := by
  refine AC.enterB k_laws_markMfnS fun hb => AC.enter k_laws_markMfnS ?_
  have hid : b < h.length := (List.getElem?_eq_some_iff.1 ha.row).1
  have hsz : szF fs = fs.length + (fs.map (·.ins.length)).sum := rfl
  simp -implicitDefEqProofs [F_laws_markMfnS, List.replicate]
  refine loopA (fun a : Nat × List Mfn × List AO => slots 34 [(0, .sl b 3 0 fs.length), (1, .p (.int .i64 ((k + 2 * a.1 + 5 * szT fs a.1 : Nat) : Int))), (5, .p (.int .i64 a.1))]) (fun a => a.2.2)
    (fun a => a.1 ≤ fs.length ∧ a.2.1 = markAt k fs a.1 ∧ MachAt a.2.2 b a.2.1 ∧ HB a.2.2 ∧ a.2.2.length = h.length ∧ ∀ j, (j < b ∨ b + fs.length + 1 ≤ j) → a.2.2[j]? = h[j]?) (fun a => fs.length - a.1) (0, fs, h) (by simp [markAt_zero, ha, hb]) ?_ ?_
  · exact wk_refl (by simp) hb (by simp -implicitDefEqProofs [slots, List.replicate, below, hid])
  · rintro ⟨i, gs, h1⟩ ⟨hi, hlk, hat, hb1, hl1, hsame⟩
    simp only at hi hlk hat hb1 hl1 hsame
    have hgsl : gs.length = fs.length := by rw [hlk]; exact markAt_len _ _ _
    simp -implicitDefEqProofs [slots, List.replicate]
    refine cnd (fun hlt => ?_) (fun hlt => ?_)
    · simp at hlt
      have hgl : i < gs.length := by rw [hgsl]; exact hlt
      have hgi := List.getElem?_eq_getElem hgl
      have hgf : gs[i] = fs[i] := by have := markAt_get k (fs := fs) hlt; rw [← hlk, hgi] at this; exact Option.some.inj this
      have hlen : gs[i].ins.length = fs[i].ins.length := by rw [hgf]
      have hx := szT_succ hlt
      have hx2 := szT_le (fs := fs) (i := i + 1)
      have hid1 : b < h1.length := by omega
      have hg : (fnsR (b + 1) gs)[i]? = some [.p (.int .i64 gs[i].params), .p (.int .i64 gs[i].slots), .sl (b + 1 + i) 5 0 gs[i].ins.length] := by rw [fnsR_get, hgi]; rfl
      have hw1 : IntKind.i64.wrap ((k : Int) + 2 * (i : Int) + 5 * (szT fs i : Int) + 1) = (k : Int) + 2 * (i : Int) + 5 * (szT fs i : Int) + 1 := i64_small (by omega) (by omega)
      have hw2 : IntKind.i64.wrap ((k : Int) + 2 * (i : Int) + 5 * (szT fs i : Int) + 1 + 1) = ((k + 2 * i + 5 * szT fs i + 2 : Nat) : Int) := by rw [i64_small (by omega) (by omega)]; omega
      have hfl : i < (fnsR (b + 1) gs).length := by rw [fnsR_len]; exact hgl
      have hself : ∀ o, (h1.set b o)[b]? = some o := fun o => List.getElem?_set_self hid1
      have hself2 : ∀ e, ((fnsR (b + 1) gs).set i e)[i]? = some e := fun e => List.getElem?_set_self hfl
      simp -implicitDefEqProofs [hat.row, hlt, hg, hself, hself2, hw1, hw2]
      obtain ⟨m1, hm1⟩ : ∃ m : Mfn, m = ⟨(k : Int) + 2 * i + 5 * szT fs i, (k : Int) + 2 * i + 5 * szT fs i + 1, gs[i].ins⟩ := ⟨_, rfl⟩
      have hset : (fnsR (b + 1) gs).set i [.p (.int .i64 ((k : Int) + 2 * i + 5 * szT fs i)), .p (.int .i64 ((k : Int) + 2 * i + 5 * szT fs i + 1)), .sl (b + 1 + i) 5 0 gs[i].ins.length] = fnsR (b + 1) (gs.set i m1) := by
        rw [← fnsR_set hgi (m' := m1) (by rw [hm1]), hm1]
      rw [hset]
      have hins : (h1.set b (.row 3 (fnsR (b + 1) (gs.set i m1))))[b + 1 + i]? = some (insO gs[i].ins) := by
        rw [List.getElem?_set_ne (by omega)]; exact hat.ins i _ hgi
      have hcall := x_markMinsS G (h := h1.set b (.row 3 (fnsR (b + 1) (gs.set i m1)))) (k := k + 2 * i + 5 * szT fs i + 2) hins (by omega)
      refine hcall.mono ?_
      rintro x h2 ⟨rfl, rfl⟩
      obtain ⟨ys, hyd⟩ : ∃ ys, ys = mkI (k + 2 * i + 5 * szT fs i + 2) gs[i].ins.length := ⟨_, rfl⟩
      have hys : ys.length = gs[i].ins.length := by rw [hyd]; exact mkI_len _ _
      rw [← hyd]
      simp -implicitDefEqProofs []
      obtain ⟨m2, hm2⟩ : ∃ m : Mfn, m = ⟨m1.params, m1.slots, ys⟩ := ⟨_, rfl⟩
      have hm2l : m2.ins.length = gs[i].ins.length := by rw [hm2]; exact hys
      have hb2 : HB ((h1.set b (.row 3 (fnsR (b + 1) (gs.set i m1)))).set (b + 1 + i) (insO ys)) := by
        refine HB.set_row (HB.set_row hb1 fun e he => ?_) fun e he => ?_
        · obtain ⟨q, m, hq, rfl⟩ := fnsR_mem he
          have hql := (List.getElem?_eq_some_iff.1 hq).1
          simp only [List.length_set] at hql
          have := (List.getElem?_eq_some_iff.1 (hat.ins q _ (List.getElem?_eq_getElem hql))).1
          simp [Mfn.ov, below]; omega
        · obtain ⟨x, _, rfl⟩ := List.mem_map.1 he
          simp [Mins.av, Mins.cs]
      refine ⟨i + 1, gs.set i m2, (h1.set b (.row 3 (fnsR (b + 1) (gs.set i m1)))).set (b + 1 + i) (insO ys), ⟨hlt, ?_, ⟨?_, fun q m hq => ?_⟩, hb2, by simp [hl1], fun j hj => ?_⟩, by omega, ?_⟩
      · have hm2' : m2 = ⟨(k : Int) + 2 * i + 5 * szT fs i, (k : Int) + 2 * i + 5 * szT fs i + 1, mkI (k + 2 * i + 5 * szT fs i + 2) fs[i].ins.length⟩ := by rw [hm2, hm1, hyd, hlen]
        rw [hlk, hm2']
        exact markAt_set hlt
      · rw [List.getElem?_set_ne (by omega), List.getElem?_set_self hid1]
        congr 2
        rw [← fnsR_set hgi (m' := m1) (by rw [hm1]), ← fnsR_set hgi (m' := m2) hm2l, hm2]
      · have hlen2 : b + 1 + i < h1.length := (List.getElem?_eq_some_iff.1 (hat.ins i _ hgi)).1
        by_cases hqi : q = i
        · subst hqi
          rw [List.getElem?_set_self hgl] at hq
          cases hq
          rw [List.getElem?_set_self (by simpa using hlen2), hm2]
        · rw [List.getElem?_set_ne (Ne.symm hqi)] at hq
          rw [List.getElem?_set_ne (by omega), List.getElem?_set_ne (by omega)]
          exact hat.ins q m hq
      · rw [List.getElem?_set_ne (by omega), List.getElem?_set_ne (by omega)]
        exact hsame j hj
      · refine wk_refl (by simp [hl1]) hb2 ?_
        simp [w1 (i := i) (by omega), below, hid1, hx]
        omega
    · simp at hlt
      have hie : i = fs.length := by omega
      subst hie
      rw [hlk] at hat
      simp -implicitDefEqProofs []
      exact ⟨hl1, hat, hsame⟩

theorem x_markMach {h : List AO} {b : Nat} {fs : List Mfn} {k : Nat} (ha : MachAt h b fs) (hk : k + 5 * szF fs ≤ 1152921504606846976) :
    AC Tryd.prog G n_laws_markMach [.agg [.sl b 3 0 fs.length], .p (.int .i64 k)] h fun x h' => x = .ret (.p (.int .i64 ((k + 2 * fs.length + 5 * szT fs fs.length : Nat) : Int))) ∧ h'.length = h.length + 1 ∧ MachAt h' b (markAt k fs fs.length) ∧ ∀ j, j < h.length → (j < b ∨ b + fs.length + 1 ≤ j) → h'[j]? = h[j]? := by
  have hbl : b < h.length := (List.getElem?_eq_some_iff.1 ha.row).1
  refine AC.enter k_laws_markMach ?_
  simp -implicitDefEqProofs [F_laws_markMach, List.replicate]
  have ha' : MachAt (h ++ [.row 1 [[.sl b 3 0 fs.length]]]) b fs := by
    refine ⟨by rw [List.getElem?_append_left hbl]; exact ha.row, fun q m hq => ?_⟩
    have := ha.ins q m hq
    rw [List.getElem?_append_left (List.getElem?_eq_some_iff.1 this).1]; exact this
  refine (x_markMfnS G ha' hk).mono ?_
  rintro x h2 ⟨rfl, hl, h3, h4⟩
  simp -implicitDefEqProofs []
  refine ⟨by simpa using hl, h3, fun j hj hjj => ?_⟩
  rw [h4 j hjj, List.getElem?_append_left hj]


/-! ### What holds the marks -/
theorem t_heldMinsS (k n : Nat) (hk : k + 5 * n ≤ 1152921504606846976) : VF Tryd.prog G n_laws_heldMinsS [.p (insL (mkI k n)), .p (.int .i64 k)] (.p (.int .i64 ((k + 5 * n : Nat) : Int))) := by
  refine AC.go k_laws_heldMinsS ?_
  have hl : insL (mkI k n) = .lst 5 ((mkI k n).map Mins.cs) := rfl
  have hml := mkI_len k n
  simp -implicitDefEqProofs [F_laws_heldMinsS]
  refine loopA (fun i : Nat => tsOf 58 [(0, .p (insL (mkI k n))), (1, .p (.int .i64 ((k + 5 * i : Nat) : Int))), (5, .p (.int .i64 i))]) (fun _ => []) (fun i => i ≤ n) (fun i => n - i) 0 (by simp) ?_ ?_
  · exact wkt_nil rfl (by simp [below, insL])
  · intro i hi
    simp -implicitDefEqProofs [hl, hml]
    refine cndb (fun h1 => ?_) (fun h1 => ?_)
    · simp at h1
      have hg := mkI_get (k := k) h1
      have hw1 : IntKind.i64.wrap ((k : Int) + 5 * (i : Int) + 1) = (k : Int) + 5 * (i : Int) + 1 := i64_small (by omega) (by omega)
      have hw2 : IntKind.i64.wrap ((k : Int) + 5 * (i : Int) + 1 + 1) = (k : Int) + 5 * (i : Int) + 1 + 1 := i64_small (by omega) (by omega)
      have hw3 : IntKind.i64.wrap ((k : Int) + 5 * (i : Int) + 1 + 1 + 1) = (k : Int) + 5 * (i : Int) + 1 + 1 + 1 := i64_small (by omega) (by omega)
      have hw4 : IntKind.i64.wrap ((k : Int) + 5 * (i : Int) + 1 + 1 + 1 + 1) = (k : Int) + 5 * (i : Int) + 1 + 1 + 1 + 1 := i64_small (by omega) (by omega)
      have hw5 : IntKind.i64.wrap ((k : Int) + 5 * (i : Int) + 1 + 1 + 1 + 1 + 1) = (k : Int) + 5 * (i : Int) + 1 + 1 + 1 + 1 + 1 := i64_small (by omega) (by omega)
      clear hml
      simp -implicitDefEqProofs [hl, hg, mk1, Mins.cs, hw1, hw2, hw3, hw4, hw5]
      refine ⟨i + 1, h1, by omega, wkt_nil rfl ?_⟩
      simp [below, w1 (i := i) (by omega)]
      omega
    · simp at h1
      have : i = n := by omega
      subst this
      simp -implicitDefEqProofs []

theorem t_heldMfnS (k : Nat) (fs : List Mfn) (hk : k + 5 * szF fs ≤ 1152921504606846976) : VF Tryd.prog G n_laws_heldMfnS [.p (fnsL (markAt k fs fs.length)), .p (.int .i64 k)] (.p (.int .i64 ((k + 2 * fs.length + 5 * szT fs fs.length : Nat) : Int))) := by
  refine AC.go k_laws_heldMfnS ?_
  have hl : fnsL (markAt k fs fs.length) = .lst 3 ((markAt k fs fs.length).map Mfn.cs) := rfl
  have hml := markAt_len k fs fs.length
  have hsz : szF fs = fs.length + (fs.map (·.ins.length)).sum := rfl
  simp -implicitDefEqProofs [F_laws_heldMfnS]
  refine loopA (fun i : Nat => tsOf 40 [(0, .p (fnsL (markAt k fs fs.length))), (1, .p (.int .i64 ((k + 2 * i + 5 * szT fs i : Nat) : Int))), (5, .p (.int .i64 i))]) (fun _ => []) (fun i => i ≤ fs.length) (fun i => fs.length - i) 0 (by simp) ?_ ?_
  · exact wkt_nil rfl (by simp [below, fnsL, szT])
  · intro i hi
    simp -implicitDefEqProofs [hl, hml]
    refine cndb (fun h1 => ?_) (fun h1 => ?_)
    · simp at h1
      have hg : (markAt k fs fs.length)[i]? = some ⟨(k : Int) + 2 * i + 5 * szT fs i, (k : Int) + 2 * i + 5 * szT fs i + 1, mkI (k + 2 * i + 5 * szT fs i + 2) fs[i].ins.length⟩ := by
        simp [markAt, List.getElem?_mapIdx, h1]
      have hx := szT_succ h1
      have hx2 := szT_le (fs := fs) (i := i + 1)
      have hw1 : IntKind.i64.wrap ((k : Int) + 2 * (i : Int) + 5 * (szT fs i : Int) + 1) = (k : Int) + 2 * (i : Int) + 5 * (szT fs i : Int) + 1 := i64_small (by omega) (by omega)
      have hw2 : IntKind.i64.wrap ((k : Int) + 2 * (i : Int) + 5 * (szT fs i : Int) + 1 + 1) = ((k + 2 * i + 5 * szT fs i + 2 : Nat) : Int) := by rw [i64_small (by omega) (by omega)]; omega
      have hcall := t_heldMinsS G (k + 2 * i + 5 * szT fs i + 2) fs[i].ins.length (by omega)
      generalize fs[i].ins.length = w at *
      clear hml
      simp -implicitDefEqProofs [hl, hg, Mfn.cs, hw1, hw2]
      refine hcall.use ?_
      have hng : ¬ (k : Int) + 2 * (i : Int) + 5 * (szT fs i : Int) + 2 + 5 * (w : Int) < 0 := by omega
      simp -implicitDefEqProofs [hng]
      refine ⟨i + 1, h1, by omega, wkt_nil rfl ?_⟩
      simp [below, w1 (i := i) (by omega)]
      omega
    · simp at h1
      have : i = fs.length := by omega
      subst this
      simp -implicitDefEqProofs []

theorem t_heldMach (k : Nat) (fs : List Mfn) (hk : k + 5 * szF fs ≤ 1152921504606846976) : VF Tryd.prog G n_laws_heldMach [.agg [.p (fnsL (markAt k fs fs.length))], .p (.int .i64 k)] (.p (.int .i64 ((k + 2 * fs.length + 5 * szT fs fs.length : Nat) : Int))) := by
  refine AC.go k_laws_heldMach ?_
  simp -implicitDefEqProofs [F_laws_heldMach]
  refine (t_heldMfnS G k fs hk).use ?_
  have hng : ¬ (k : Int) + 2 * (fs.length : Int) + 5 * (szT fs fs.length : Int) < 0 := by omega
  simp -implicitDefEqProofs [hng]

/-! ### Bytes, copied -/
def bysAt (l : List Int) (i : Nat) : List Int := l.take i ++ List.replicate (l.length - i) 0
theorem bysAt_set {l : List Int} {i : Nat} (h : i < l.length) : (bysAt l i).set i l[i] = bysAt l (i + 1) := by
  have hl : (l.take i).length = i := by simp; omega
  have e : l.length - i = (l.length - (i + 1)) + 1 := by omega
  show (l.take i ++ List.replicate (l.length - i) 0).set i l[i] = l.take (i + 1) ++ List.replicate (l.length - (i + 1)) 0
  rw [List.set_append_right _ _ (by omega), hl, Nat.sub_self, e, List.replicate_succ, List.set_cons_zero, take_succ' h, List.append_assoc]
  rfl
theorem bysAt_get {l : List Int} {i : Nat} (h : i < l.length) : (bysAt l i)[i]? = some 0 := by
  have hl : (l.take i).length = i := by simp; omega
  rw [bysAt, List.getElem?_append_right (by omega), hl, Nat.sub_self, List.getElem?_replicate, if_pos (by omega)]
theorem bysAt_len {l : List Int} {i : Nat} (h : i ≤ l.length) : (bysAt l i).length = l.length := by simp [bysAt]; omega
theorem o_toByteS (l : List Int) (hb : l.length ≤ 1048576) : AC Tryd.prog G n_laws_toByteS [.p (bysL l)] [] fun x h => x = .ret (.sl 0 1 0 l.length) ∧ h = [bysO l] := by
  refine AC.go k_laws_toByteS ?_
  have hbl : bysL l = .lst 1 (l.map fun n => [.int .u8 n]) := rfl
  simp -implicitDefEqProofs [F_laws_toByteS, hbl]
  refine ⟨by omega, ?_⟩
  refine loopA (fun i : Nat => tsOf 22 [(0, .p (bysL l)), (3, .sl 0 1 0 l.length), (4, .p (.int .i64 i))]) (fun i => [bysO (bysAt l i)]) (fun i => i ≤ l.length) (fun i => l.length - i) 0 (by simp) ?_ ?_
  · refine wkt_pick [0] rfl (by simp) (hw_row (by simp [bysAt]) (by simp) hw_nil) ?_
    simp [below, ren, bysL]
  · intro i hi
    have hlen := bysAt_len hi
    simp -implicitDefEqProofs [hbl]
    refine cndb (fun h1 => ?_) (fun h1 => ?_)
    · simp at h1
      have hg := List.getElem?_eq_getElem h1
      have hg2 := bysAt_get h1
      have hset : ((bysAt l i).map fun n => [AV.p (.int .u8 n)]).set i [.p (.int .u8 l[i])] = (bysAt l (i + 1)).map fun n => [AV.p (.int .u8 n)] := by rw [← bysAt_set h1, List.map_set]
      have hbo : bysO (bysAt l i) = .row 1 ((bysAt l i).map fun n => [.p (.int .u8 n)]) := rfl
      clear hlen
      simp -implicitDefEqProofs [hg, hbo, hg2, h1, hset]
      refine ⟨i + 1, h1, by omega, wkt_pick [0] rfl (by simp) (hw_row rfl (by simp) hw_nil) ?_⟩
      simp [below, ren, bysL, w1 (i := i) (by omega)]
    · simp at h1
      have : i = l.length := by omega
      subst this
      simp -implicitDefEqProofs [bysAt]
theorem t_toByteS (l : List Int) (hb : l.length ≤ 1048576) : VF Tryd.prog G n_laws_toByteS [.p (bysL l)] (.p (bysL l)) := AC.freeze (o_toByteS G l hb) (.one (bysO_view rfl) .nil)
end Go.Proofs.YtbbobekgnclkfaaDoor
