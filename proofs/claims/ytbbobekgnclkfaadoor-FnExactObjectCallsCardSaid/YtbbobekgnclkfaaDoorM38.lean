/-
  What a name is: the plain model, the reference and the program.
-/
import Derived.Test.YtbbobekgnclkfaaDoorM26
import Derived.Test.YtbbobekgnclkfaaDoorCode3
import Derived.Laws.RangeAny
import Derived.Laws.RangeString
namespace Go.Proofs.YtbbobekgnclkfaaDoor
open Go Go.Aw
set_option maxRecDepth 100000
set_option maxHeartbeats 4000000

/-! ### The plain model -/
def isLet (c : UInt8) : Bool := decide (97 ≤ c.toNat) && decide (c.toNat ≤ 122)
def keyW : List (List UInt8) := [[102, 110], [108, 101, 116], [115, 97, 121], [112, 117, 116], [105, 102], [101, 108, 115, 101], [108, 111, 111, 112], [98, 97, 99, 107], [100, 111]]
def isName (s : List UInt8) : Bool := s.all isLet && decide (0 < s.length) && decide (s.length ≤ 4) && !keyW.contains s
def signW : List UInt8 := [40, 41, 123, 125, 59, 44, 43, 45, 42, 47, 37, 60, 61, 38, 33, 64]
def findB (s : List UInt8) (c : Int) : Int := match s.findIdx? (fun x => (x.toNat : Int) == c) with | some i => i | none => -1
def clsOf (c : Int) : Int := if 97 ≤ c ∧ c ≤ 122 then 1 else if 48 ≤ c ∧ c ≤ 57 then 2 else if 0 ≤ findB signW c then 3 else if c = 32 ∨ c = 10 then 4 else 0
theorem cls_let (x : UInt8) : (clsOf (x.toNat : Int) = 1) ↔ isLet x = true := by
  have h : (97 ≤ (x.toNat : Int) ∧ (x.toNat : Int) ≤ 122) ↔ isLet x = true := by simp [isLet]; omega
  unfold clsOf
  constructor
  · intro e
    split at e
    · rename_i h1; exact h.1 h1
    · repeat' split at e
      all_goals omega
  · intro e; rw [if_pos (h.2 e)]
def strL (l : List (List UInt8)) : PV := .lst 1 (l.map fun w => [.str w])
def idxN (s : List UInt8) : Int := match s.findIdx? (fun x => !isLet x) with | some i => i | none => -1
theorem idxN_neg (s : List UInt8) : decide (idxN s < 0) = s.all isLet := by
  unfold idxN
  cases h : s.findIdx? (fun x => !isLet x) with
  | none =>
    rw [List.findIdx?_eq_none_iff] at h
    have : s.all isLet = true := List.all_eq_true.2 fun x hx => by have := h x hx; simpa using this
    simp [this]
  | some i =>
    rw [List.findIdx?_eq_some_iff_getElem] at h
    obtain ⟨h1, h2, _⟩ := h
    have : s.all isLet = false := List.all_eq_false.2 ⟨_, List.getElem_mem h1, by simpa using h2⟩
    rw [this]; simp
def idxS (l : List (List UInt8)) (s : List UInt8) : Int := match l.findIdx? (fun w => w == s) with | some i => i | none => -1
theorem idxS_pos (l : List (List UInt8)) (s : List UInt8) : decide (0 ≤ idxS l s) = l.contains s := by
  unfold idxS
  cases h : l.findIdx? (fun w => w == s) with
  | none =>
    rw [List.findIdx?_eq_none_iff] at h
    have : l.contains s = false := by
      cases hc : l.contains s with
      | false => rfl
      | true =>
        have hm : s ∈ l := by simpa using hc
        have := h s hm
        simp at this
    rw [this]; simp
  | some i =>
    rw [List.findIdx?_eq_some_iff_getElem] at h
    obtain ⟨h1, h2, _⟩ := h
    have : l.contains s = true := by
      simp only [beq_iff_eq] at h2
      rw [List.contains_iff_mem, ← h2]; exact List.getElem_mem h1
    rw [this]; simp

variable (G : Glob)

theorem s_l30Find (s : List UInt8) (c : Int) (hb : s.length ≤ 1048576) : VF Tryd.prog G n_spec_l30Find [.p (.str s), .p (.int .u8 c)] (.p (.int .i64 (findB s c))) := by
  refine AC.go k_spec_l30Find ?_
  simp -implicitDefEqProofs [F_spec_l30Find]
  refine loopA (fun i : Nat => tsOf 18 [(0, .p (.str s)), (1, .p (.int .u8 c)), (5, .p (.int .i64 i))]) (fun _ => []) (fun i => i ≤ s.length ∧ ∀ x ∈ s.take i, (x.toNat : Int) ≠ c) (fun i => s.length - i) 0 (by simp) ?_ ?_
  · exact wkt_nil rfl (by simp [below])
  · intro i ⟨hi, hn⟩
    simp -implicitDefEqProofs []
    refine cndb (fun h1 => ?_) (fun h1 => ?_)
    · simp at h1
      have hg := List.getElem?_eq_getElem h1
      by_cases he : (s[i].toNat : Int) = c
      · have hf : findB s c = i := by
          have : s.findIdx? (fun x => (x.toNat : Int) == c) = some i := by
            rw [List.findIdx?_eq_some_iff_getElem]
            exact ⟨h1, by simpa using he, fun j hj => by have := hn s[j] (List.mem_take_iff_getElem.2 ⟨j, by omega, rfl⟩); simpa using this⟩
          rw [findB, this]
        simp -implicitDefEqProofs [hg, he, hf]
      · simp -implicitDefEqProofs [hg, he]
        refine ⟨i + 1, ⟨h1, fun p hp => ?_⟩, by omega, wkt_nil rfl ?_⟩
        · rw [take_succ' h1] at hp
          rcases List.mem_append.1 hp with hp | hp
          · exact hn p hp
          · rw [List.mem_singleton.1 hp]; exact he
        · simp [below, w1 (i := i) (by omega)]
    · simp at h1
      rw [List.take_of_length_le h1] at hn
      have hf : findB s c = -1 := by
        have : s.findIdx? (fun x => (x.toNat : Int) == c) = none := by
          rw [List.findIdx?_eq_none_iff]; intro x hx; simpa using hn x hx
        rw [findB, this]
      simp -implicitDefEqProofs [hf]

theorem s_l1Class (c : Int) : VF Tryd.prog G n_spec_l1Class [.p (.int .u8 c)] (.p (.int .i64 (clsOf c))) := by
  refine AC.go k_spec_l1Class ?_
  simp -implicitDefEqProofs [F_spec_l1Class]
  unfold clsOf
  by_cases h1 : 97 ≤ c
  · by_cases h2 : c ≤ 122
    · simp -implicitDefEqProofs [h1, h2]
    · have h3 : ¬ c ≤ 57 := by omega
      have h4 : ¬ c = 32 := by omega
      have h5 : ¬ c = 10 := by omega
      have h6 : 48 ≤ c := by omega
      simp -implicitDefEqProofs [h1, h2, h3, h6]
      refine (s_l30Find G signW c (by decide)).use ?_
      generalize findB signW c = w
      by_cases hf : 0 ≤ w
      · simp -implicitDefEqProofs [hf]
      · simp -implicitDefEqProofs [hf, h4, h5]
  · simp -implicitDefEqProofs [h1]
    by_cases h2 : 48 ≤ c
    · by_cases h3 : c ≤ 57
      · simp -implicitDefEqProofs [h2, h3]
      · have h4 : ¬ c = 32 := by omega
        have h5 : ¬ c = 10 := by omega
        simp -implicitDefEqProofs [h2, h3]
        refine (s_l30Find G signW c (by decide)).use ?_
        generalize findB signW c = w
        by_cases hf : 0 ≤ w
        · simp -implicitDefEqProofs [hf]
        · simp -implicitDefEqProofs [hf, h4, h5]
    · simp -implicitDefEqProofs [h2]
      refine (s_l30Find G signW c (by decide)).use ?_
      generalize findB signW c = w
      by_cases hf : 0 ≤ w
      · simp -implicitDefEqProofs [hf]
      · by_cases h4 : c = 32
        · simp -implicitDefEqProofs [hf, h4]
        · by_cases h5 : c = 10
          · simp -implicitDefEqProofs [hf, h4, h5]
          · simp -implicitDefEqProofs [hf, h4, h5]

theorem s_l1All (s : List UInt8) (hb : s.length ≤ 140737488355328) : VF Tryd.prog G n_spec_l1All [.p (.str s), .p (.int .i64 1)] (.p (.bool (s.all isLet && decide (0 < s.length)))) := by
  refine AC.go k_spec_l1All ?_
  simp -implicitDefEqProofs [F_spec_l1All]
  refine loopA (fun i : Nat => tsOf 21 [(0, .p (.str s)), (1, .p (.int .i64 1)), (5, .p (.int .i64 i))]) (fun _ => []) (fun i => i ≤ s.length ∧ ∀ x ∈ s.take i, isLet x = true) (fun i => s.length - i) 0 (by simp) ?_ ?_
  · exact wkt_nil rfl (by simp [below])
  · intro i ⟨hi, hn⟩
    simp -implicitDefEqProofs []
    refine cndb (fun h1 => ?_) (fun h1 => ?_)
    · simp at h1
      have hg := List.getElem?_eq_getElem h1
      simp -implicitDefEqProofs [hg]
      refine (s_l1Class G _).use ?_
      have hcl := cls_let s[i]
      by_cases he : isLet s[i] = true
      · have hc := hcl.2 he
        simp -implicitDefEqProofs [hc]
        refine ⟨i + 1, ⟨h1, fun p hp => ?_⟩, by omega, wkt_nil rfl ?_⟩
        · rw [take_succ' h1] at hp
          rcases List.mem_append.1 hp with hp | hp
          · exact hn p hp
          · rw [List.mem_singleton.1 hp]; exact he
        · simp [below, w1 (i := i) (by omega)]
      · have hc : ¬ clsOf (s[i].toNat : Int) = 1 := fun e => he (hcl.1 e)
        have ha : s.all isLet = false := List.all_eq_false.2 ⟨_, List.getElem_mem h1, by simpa using he⟩
        simp -implicitDefEqProofs [hc, ha]
    · simp at h1
      rw [List.take_of_length_le h1] at hn
      have ha : s.all isLet = true := List.all_eq_true.2 hn
      simp -implicitDefEqProofs [ha]

theorem s_KeyWords : VF Tryd.prog G n_spec_KeyWords [] (.p (strL keyW)) := by
  have key : AC Tryd.prog G n_spec_KeyWords [] [] fun x h => x = .ret (.sl 0 1 0 9) ∧ h = [.row 1 (keyW.map fun w => [.p (.str w)])] := by
    refine AC.go k_spec_KeyWords ?_
    simp -implicitDefEqProofs [F_spec_KeyWords, keyW]
  exact AC.freeze key (.one (view_row (ls := keyW.map fun w => [.str w]) (by simp) (by simp [keyW]) (by simp)) .nil)

theorem s_l1Key (s : List UInt8) : VF Tryd.prog G n_spec_l1Key [.p (.str s)] (.p (.bool (keyW.contains s))) := by
  refine AC.go k_spec_l1Key ?_
  have hsl : strL keyW = .lst 1 (keyW.map fun w => [.str w]) := rfl
  have hkl : keyW.length = 9 := rfl
  simp -implicitDefEqProofs [F_spec_l1Key]
  refine (s_KeyWords G).use ?_
  simp -implicitDefEqProofs []
  refine loopA (fun i : Nat => tsOf 18 [(0, .p (.str s)), (3, .p (strL keyW)), (4, .p (.int .i64 i))]) (fun _ => []) (fun i => i ≤ keyW.length ∧ ∀ w ∈ keyW.take i, w ≠ s) (fun i => keyW.length - i) 0 (by simp) ?_ ?_
  · exact wkt_nil rfl (by simp [below, strL])
  · intro i ⟨hi, hn⟩
    generalize keyW = L at *
    simp -implicitDefEqProofs [hsl]
    refine cndb (fun h1 => ?_) (fun h1 => ?_)
    · simp at h1
      have hg := List.getElem?_eq_getElem h1
      by_cases he : L[i] = s
      · have hm : s ∈ L := by rw [← he]; exact List.getElem_mem h1
        simp -implicitDefEqProofs [hg, he, hm]
      · simp -implicitDefEqProofs [hg, he]
        refine ⟨i + 1, ⟨h1, fun p hp => ?_⟩, by omega, wkt_nil rfl ?_⟩
        · rw [take_succ' h1] at hp
          rcases List.mem_append.1 hp with hp | hp
          · exact hn p hp
          · rw [List.mem_singleton.1 hp]; exact he
        · simp [below, w1 (i := i) (by omega)]
    · simp at h1
      rw [List.take_of_length_le h1] at hn
      have hm : ¬ s ∈ L := fun hm => hn s hm rfl
      simp -implicitDefEqProofs [hm]

theorem s_IsName (s : List UInt8) (hb : s.length ≤ 140737488355328) : VF Tryd.prog G n_spec_IsName [.p (.str s)] (.p (.bool (isName s))) := by
  refine AC.go k_spec_IsName ?_
  simp -implicitDefEqProofs [F_spec_IsName]
  refine (s_l1All G s hb).use ?_
  cases h1 : (s.all isLet && decide (0 < s.length)) with
  | false =>
    have hi : isName s = false := by rw [isName, h1]; rfl
    simp -implicitDefEqProofs [hi]
  | true =>
    by_cases h4 : s.length ≤ 4
    · have h4i : (s.length : Int) ≤ 4 := by omega
      have hi : isName s = !keyW.contains s := by rw [isName, h1]; simp [h4]
      simp -implicitDefEqProofs [h4i]
      refine (s_l1Key G s).use ?_
      rw [hi]
      simp -implicitDefEqProofs []
    · have h4i : ¬ (s.length : Int) ≤ 4 := by omega
      have hi : isName s = false := by rw [isName, h1]; simp [h4]
      simp -implicitDefEqProofs [h4i, hi]
end Go.Proofs.YtbbobekgnclkfaaDoor
