/-
  What a name is: the program.
-/
import Derived.Test.YtbbobekgnclkfaaDoorM38
namespace Go.Proofs.YtbbobekgnclkfaaDoor
open Go Go.Aw
set_option maxRecDepth 100000
set_option maxHeartbeats 4000000
variable (G : Glob)

theorem i_IsName_1 (n : Int) : VF Tryd.prog G n_impl_IsName_1 [.p (.int .i32 n)] (.p (.bool (decide (n < 97) || decide (122 < n)))) := by
  refine AC.go k_impl_IsName_1 ?_
  simp -implicitDefEqProofs [F_impl_IsName_1]
  by_cases h : n < 97
  · simp -implicitDefEqProofs [h]
  · simp -implicitDefEqProofs [h]

theorem dec_let {s : List UInt8} {i : Nat} (h : i < s.length) (hl : isLet s[i] = true) : Utf8.decode ⟨⟨s⟩⟩ i = (s[i].toNat, 1) := by
  simp only [isLet, Bool.and_eq_true, decide_eq_true_eq] at hl
  exact decode_ascii ⟨⟨s⟩⟩ i h (by show (s[i]).toNat < 128; omega)
theorem dec_other {s : List UInt8} {i : Nat} (h : i < s.length) (hl : ¬ isLet s[i] = true) : (((Utf8.decode ⟨⟨s⟩⟩ i).1 : Int) < 97 ∨ 122 < ((Utf8.decode ⟨⟨s⟩⟩ i).1 : Int)) := by
  rcases Nat.lt_or_ge s[i].toNat 128 with h1 | h1
  · rw [show Utf8.decode ⟨⟨s⟩⟩ i = (s[i].toNat, 1) from decode_ascii ⟨⟨s⟩⟩ i h h1]
    simp [isLet] at hl
    simp only
    omega
  · have := (decode_high ⟨⟨s⟩⟩ i h h1).1
    omega

theorem i_indexFunc (s : List UInt8) (hb : s.length ≤ 140737488355328) : VF Tryd.prog G n_strings_indexFunc [.p (.str s), .fn (.func n_impl_IsName_1) [], .p (.bool true)] (.p (.int .i64 (idxN s))) := by
  refine AC.go k_strings_indexFunc ?_
  simp -implicitDefEqProofs [F_strings_indexFunc]
  refine loopA (fun i : Nat => tsOf 21 [(0, .p (.str s)), (1, .fn (.func n_impl_IsName_1) []), (2, .p (.bool true)), (10, .it 0)]) (fun i => [.sit s i]) (fun i => i ≤ s.length ∧ ∀ x ∈ s.take i, isLet x = true) (fun i => s.length - i) 0 (by simp) ?_ ?_
  · exact wkt_same (by simp) (by simp [okO]) (by simp [below, belowL])
  · intro i ⟨hi, hn⟩
    simp -implicitDefEqProofs []
    by_cases h1 : i < s.length
    · have hg := List.getElem?_eq_getElem h1
      simp -implicitDefEqProofs [h1]
      refine (i_IsName_1 G _).use ?_
      by_cases hl : isLet s[i] = true
      · have hd := dec_let h1 hl
        have hl' := hl
        simp only [isLet, Bool.and_eq_true, decide_eq_true_eq] at hl'
        have e1 : ¬ ((s[i].toNat : Int) < 97) := by omega
        have e2 : ¬ (122 < (s[i].toNat : Int)) := by omega
        rw [hd]
        simp -implicitDefEqProofs [e1, e2]
        refine ⟨i + 1, ⟨h1, fun p hp => ?_⟩, by omega, wkt_same (by simp) (by simp [okO]) (by simp [below, belowL])⟩
        rw [take_succ' h1] at hp
        rcases List.mem_append.1 hp with hp | hp
        · exact hn p hp
        · rw [List.mem_singleton.1 hp]; exact hl
      · have hd := dec_other h1 hl
        have hf : idxN s = i := by
          have : s.findIdx? (fun x => !isLet x) = some i := by
            rw [List.findIdx?_eq_some_iff_getElem]
            exact ⟨h1, by simpa using hl, fun j hj => by have := hn s[j] (List.mem_take_iff_getElem.2 ⟨j, by omega, rfl⟩); simpa using this⟩
          rw [idxN, this]
        have hdb : (decide (((Utf8.decode ⟨⟨s⟩⟩ i).1 : Int) < 97) || decide (122 < ((Utf8.decode ⟨⟨s⟩⟩ i).1 : Int))) = true := by
          rcases hd with h | h <;> simp [h]
        rw [hdb]
        simp -implicitDefEqProofs [hf]
    · have hn' := hn
      rw [List.take_of_length_le (by omega)] at hn'
      have hf : idxN s = -1 := by
        have : s.findIdx? (fun x => !isLet x) = none := by
          rw [List.findIdx?_eq_none_iff]; intro x hx; simpa using hn' x hx
        rw [idxN, this]
      simp -implicitDefEqProofs [h1, hf]

theorem i_IndexFunc (s : List UInt8) (hb : s.length ≤ 140737488355328) : VF Tryd.prog G n_strings_IndexFunc [.p (.str s), .fn (.func n_impl_IsName_1) []] (.p (.int .i64 (idxN s))) := by
  refine AC.go k_strings_IndexFunc ?_
  simp -implicitDefEqProofs [F_strings_IndexFunc]
  refine (i_indexFunc G s hb).use ?_
  simp -implicitDefEqProofs []

theorem i_Index (L : List (List UInt8)) (s : List UInt8) (hb : L.length ≤ 1048576) : VF Tryd.prog G n_slices_Index_string [.p (strL L), .p (.str s)] (.p (.int .i64 (idxS L s))) := by
  refine AC.go k_slices_Index_string ?_
  have hsl : strL L = .lst 1 (L.map fun w => [.str w]) := rfl
  simp -implicitDefEqProofs [F_slices_Index_string, hsl]
  refine loopA (fun i : Nat => tsOf 19 [(0, .p (strL L)), (1, .p (.str s)), (6, .p (strL L)), (7, .p (.int .i64 L.length)), (8, .p (.int .i64 i))]) (fun _ => []) (fun i => i ≤ L.length ∧ ∀ w ∈ L.take i, w ≠ s) (fun i => L.length - i) 0 (by simp) ?_ ?_
  · exact wkt_nil rfl (by simp [below, strL])
  · intro i ⟨hi, hn⟩
    simp -implicitDefEqProofs [hsl]
    refine cndb (fun h1 => ?_) (fun h1 => ?_)
    · simp at h1
      have hg := List.getElem?_eq_getElem h1
      by_cases he : L[i] = s
      · have hf : idxS L s = i := by
          have : L.findIdx? (fun w => w == s) = some i := by
            rw [List.findIdx?_eq_some_iff_getElem]
            exact ⟨h1, by simpa using he, fun j hj => by have := hn L[j] (List.mem_take_iff_getElem.2 ⟨j, by omega, rfl⟩); simpa using this⟩
          rw [idxS, this]
        have he' : s = L[i] := he.symm
        simp -implicitDefEqProofs [hg, hf, ← he']
      · have he' : ¬ s = L[i] := fun e => he e.symm
        simp -implicitDefEqProofs [hg, he']
        refine ⟨i + 1, ⟨h1, fun p hp => ?_⟩, by omega, wkt_nil rfl ?_⟩
        · rw [take_succ' h1] at hp
          rcases List.mem_append.1 hp with hp | hp
          · exact hn p hp
          · rw [List.mem_singleton.1 hp]; exact he
        · simp [below, strL, w1 (i := i) (by omega)]
    · simp at h1
      rw [List.take_of_length_le h1] at hn
      have hf : idxS L s = -1 := by
        have : L.findIdx? (fun w => w == s) = none := by
          rw [List.findIdx?_eq_none_iff]; intro x hx; simpa using hn x hx
        rw [idxS, this]
      simp -implicitDefEqProofs [hf]
theorem i_Contains (L : List (List UInt8)) (s : List UInt8) (hb : L.length ≤ 1048576) : VF Tryd.prog G n_slices_Contains_string [.p (strL L), .p (.str s)] (.p (.bool (L.contains s))) := by
  rw [← idxS_pos]
  refine AC.go k_slices_Contains_string ?_
  simp -implicitDefEqProofs [F_slices_Contains_string]
  refine (i_Index G L s hb).use ?_
  simp -implicitDefEqProofs []

abbrev g_keys : Nat := 1
def pvKeys : List PV := keyW.map .str
variable (hK : G g_keys = some pvKeys)
include hK
theorem i_IsName (s : List UInt8) (hb : s.length ≤ 140737488355328) : VF Tryd.prog G n_impl_IsName [.p (.str s)] (.p (.bool (isName s))) := by
  refine AC.go k_impl_IsName ?_
  have hg : g_keys = 1 := rfl
  rw [hg] at hK
  simp -implicitDefEqProofs [F_impl_IsName]
  refine (i_within G _ _ _).use ?_
  have hr : inR (s.length : Int) 1 4 = (decide (0 < s.length) && decide (s.length ≤ 4)) := by
    unfold inR
    by_cases h1 : 0 < s.length <;> by_cases h2 : s.length ≤ 4 <;> simp [h1, h2] <;> omega
  rw [hr]
  have hi : isName s = ((decide (0 < s.length) && decide (s.length ≤ 4)) && (s.all isLet && !keyW.contains s)) := by
    rw [isName]; cases s.all isLet <;> cases decide (0 < s.length) <;> cases decide (s.length ≤ 4) <;> rfl
  cases h1 : (decide (0 < s.length) && decide (s.length ≤ 4)) with
  | false =>
    rw [hi, h1]
    simp -implicitDefEqProofs []
  | true =>
    rw [hi, h1]
    simp -implicitDefEqProofs []
    refine (i_IndexFunc G s hb).use ?_
    rw [← idxN_neg]
    by_cases hn : idxN s < 0
    · simp -implicitDefEqProofs [hn, hK, pvKeys, keyW]
      refine (i_Contains G keyW s (by decide)).use ?_
      simp -implicitDefEqProofs [keyW]
    · simp -implicitDefEqProofs [hn]
end Go.Proofs.YtbbobekgnclkfaaDoor
