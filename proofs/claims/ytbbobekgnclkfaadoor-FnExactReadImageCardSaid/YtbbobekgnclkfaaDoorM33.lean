/-
  A machine's program read from bytes: the program's answer.
-/
import Derived.Test.YtbbobekgnclkfaaDoorM32
namespace Go.Proofs.YtbbobekgnclkfaaDoor
open Go Go.Aw
set_option maxRecDepth 100000
set_option maxHeartbeats 4000000

/-! ### What is written again -/
theorem secTo_mem {b : List Int} : ∀ {k : Nat} {x : List Nat × Nat}, secTo b k = some x → ∀ s ∈ x.1, s + 4 + szAt b s ≤ b.length
  | 0, x, e, s, hs => by cases e; simp at hs
  | k + 1, x, e, s, hs => by
    rw [secTo, Option.bind_eq_some_iff] at e
    obtain ⟨y, e1, e2⟩ := e
    split at e2
    · rename_i hc
      cases e2
      simp only [List.mem_append, List.mem_singleton] at hs
      rcases hs with hs | rfl
      · exact secTo_mem e1 s hs
      · exact hc.2
    · cases e2
theorem u8_id {n : Int} (h : 0 ≤ n ∧ n ≤ 255) : u8 n = n := by rw [u8_eq_mod]; omega
theorem secB_eq {b : List Int} (hb : BytesOk b) {a : Nat} {f : Mfn} (hf : fnAt b a = some f) (h2 : a + 4 + szAt b a ≤ b.length) : secB f = (b.drop a).take (4 + szAt b a) := by
  obtain ⟨_, he, hp, hs, _⟩ := decF_ins hf
  have c0 := byAt_ok hb a
  have c1 := byAt_ok hb (a + 1)
  have c2 := byAt_ok hb (a + 2)
  have c3 := byAt_ok hb (a + 3)
  have hl : (subAt b a).length = szAt b a := by simp [subAt]; omega
  have hsz : ((szAt b a : Nat) : Int) = byAt b (a + 2) + 256 * byAt b (a + 3) := by rw [szAt]; omega
  have h4 : (b.drop a).take 4 = [byAt b a, byAt b (a + 1), byAt b (a + 2), byAt b (a + 3)] := by
    have hg : ∀ k, k < 4 → ((b.drop a).take 4)[k]? = some (byAt b (a + k)) := fun k hk => by rw [List.getElem?_take, if_pos hk, List.getElem?_drop, byAt_get (by omega)]
    refine List.ext_getElem? fun k => ?_
    match k with
    | 0 => exact hg 0 (by omega)
    | 1 => exact hg 1 (by omega)
    | 2 => exact hg 2 (by omega)
    | 3 => exact hg 3 (by omega)
    | k + 4 => rw [List.getElem?_eq_none (by simp; omega), List.getElem?_eq_none (by simp)]
  rw [secB, he, hl, hp, hs, List.take_add, h4, List.drop_drop, u8_id c0, u8_id c1]
  have e1 : u8 ((szAt b a % 256 : Nat) : Int) = byAt b (a + 2) := by rw [u8_eq_mod]; omega
  have e2 : u8 ((szAt b a / 256 : Nat) : Int) = byAt b (a + 3) := by rw [u8_eq_mod]; omega
  rw [e1, e2]; rfl
theorem secs_bytes {b : List Int} (hb : BytesOk b) : ∀ {k a : Nat} {sts : List Nat} {fs : List Mfn}, secTo b k = some (sts, a) → fnsOf b sts = some fs → b.take a = b.take 3 ++ (fs.map secB).flatten
  | 0, a, sts, fs, e, hf => by cases e; cases hf; simp
  | k + 1, a, sts, fs, e, hf => by
    rw [secTo, Option.bind_eq_some_iff] at e
    obtain ⟨⟨s1, a1⟩, e1, e2⟩ := e
    simp only at e2
    split at e2
    · rename_i hc
      cases e2
      rw [fnsOf_app, Option.bind_eq_some_iff] at hf
      obtain ⟨fs1, hf1, hf2⟩ := hf
      rw [Option.map_eq_some_iff] at hf2
      obtain ⟨f, hf3, rfl⟩ := hf2
      have ih := secs_bytes hb e1 hf1
      have hs := secB_eq hb hf3 hc.2
      rw [show a1 + 4 + szAt b a1 = a1 + (4 + szAt b a1) by omega, List.take_add, ih, ← hs]
      simp
    · cases e2
theorem fnsOf_all {b : List Int} : ∀ {sts : List Nat} {fs : List Mfn}, fnsOf b sts = some fs → fs.length = sts.length ∧ ∀ f ∈ fs, codeOk f = true ∧ f.ins.length ≤ 2000
  | [], fs, h => by cases h; exact ⟨rfl, fun f hf => by simp at hf⟩
  | a :: r, fs, h => by
    rw [fnsOf, Option.bind_eq_some_iff] at h
    obtain ⟨f, h1, h2⟩ := h
    rw [Option.map_eq_some_iff] at h2
    obtain ⟨gs, h3, rfl⟩ := h2
    obtain ⟨k1, k2⟩ := fnsOf_all h3
    refine ⟨by simp [k1], fun g hg => ?_⟩
    rcases List.mem_cons.1 hg with rfl | hg
    · have := decF_ins h1; exact ⟨this.1, this.2.2.2.2⟩
    · exact k2 g hg
theorem im_eq {b : List Int} (hb : BytesOk b) (hd : hdOk b = true) {sts : List Nat} {fs : List Mfn} (hs : secTo b (cntN b) = some (sts, b.length)) (hf : fnsOf b sts = some fs) : imgOk fs = machOk fs ∧ (imgOk fs = true → imgB fs = b) := by
  obtain ⟨h1, h2⟩ := fnsOf_all hf
  have hall : fs.all codeOk = true := List.all_eq_true.2 fun f h => (h2 f h).1
  have ho : imgOk fs = machOk fs := by simp [imgOk, hall]
  refine ⟨ho, fun hi => ?_⟩
  have hby := secs_bytes hb hs hf
  rw [List.take_length] at hby
  simp only [hdOk, Bool.and_eq_true, decide_eq_true_eq] at hd
  obtain ⟨⟨hd1, hd2⟩, hd3⟩ := hd
  have h3 : b.take 3 = [87, 119, byAt b 2] := by
    have hg : ∀ k, k < 3 → (b.take 3)[k]? = some (byAt b k) := fun k hk => by rw [List.getElem?_take, if_pos hk, byAt_get (by omega)]
    refine List.ext_getElem? fun k => ?_
    match k with
    | 0 => rw [hg 0 (by omega), hd2]; rfl
    | 1 => rw [hg 1 (by omega), hd3]; rfl
    | 2 => exact hg 2 (by omega)
    | k + 3 => rw [List.getElem?_eq_none (by simp; omega), List.getElem?_eq_none (by simp)]
  have hlen : fs.length = cntN b := by rw [h1]; exact (secTo_le hd1 hs).2.1
  have b2 := byAt_ok hb 2
  have hu : u8 (fs.length : Int) = byAt b 2 := by rw [hlen, cntN, u8_eq_mod]; omega
  rw [imgB, if_pos hi, imgT, List.take_length, hu, ← h3]
  exact hby.symm
end Go.Proofs.YtbbobekgnclkfaaDoor
