/-
  Contracts and lemmas that the card needs, part 5.
-/
import Derived.Test.YtbbobekgnclkfaaDoorOb4
namespace Go.Proofs.YtbbobekgnclkfaaDoor
open Go Go.Aw
set_option maxRecDepth 100000
set_option maxHeartbeats 4000000
variable (G : Glob)
theorem i_IsName_1 (n : Int) : VF Tryd.prog G n_impl_IsName_1 [.p (.int .i32 n)] (.p (.bool (decide (n < 97) || decide (122 < n)))) := by
  refine AC.go k_impl_IsName_1 ?_
  simp -implicitDefEqProofs [F_impl_IsName_1]
  by_cases h : n < 97
  · simp -implicitDefEqProofs [h]
  · simp -implicitDefEqProofs [h]
theorem dec_let {s : List UInt8} {i : Nat} (h : i < s.length) (hl : isLet s[i] = true) : Utf8.decode ⟨⟨s⟩⟩ i = (s[i].toNat, 1) := by
  simp only [isLet, Bool.and_eq_true, decide_eq_true_eq] at hl
  exact decode_ascii ⟨⟨s⟩⟩ i h (by show (s[i]).toNat < 128; omega)
theorem dec_other {s : List UInt8} {i : Nat} (h : i < s.length) (hl : ¬ isLet s[i] = true) : (((Utf8.decode ⟨⟨s⟩⟩ i).1 : Int) < 97 ∨ 122 < ((Utf8.decode ⟨⟨s⟩⟩ i).1 : Int)) := by
  rcases Nat.lt_or_ge s[i].toNat 128 with h1 | h1
  · rw [show Utf8.decode ⟨⟨s⟩⟩ i = (s[i].toNat, 1) from decode_ascii ⟨⟨s⟩⟩ i h h1]
    simp [isLet] at hl
    simp only
    omega
  · have := (decode_high ⟨⟨s⟩⟩ i h h1).1
    omega
theorem i_indexFunc (s : List UInt8) (hb : s.length ≤ 140737488355328) : VF Tryd.prog G n_strings_indexFunc [.p (.str s), .fn (.func n_impl_IsName_1) [], .p (.bool true)] (.p (.int .i64 (idxN s))) := by
  refine AC.go k_strings_indexFunc ?_
  simp -implicitDefEqProofs [F_strings_indexFunc]
  refine loopA (fun i : Nat => tsOf 21 [(0, .p (.str s)), (1, .fn (.func n_impl_IsName_1) []), (2, .p (.bool true)), (10, .it 0)]) (fun i => [.sit s i]) (fun i => i ≤ s.length ∧ ∀ x ∈ s.take i, isLet x = true) (fun i => s.length - i) 0 (by simp) ?_ ?_
  · exact wkt_same (by simp) (by simp [okO]) (by simp [below, belowL])
  · intro i ⟨hi, hn⟩
    simp -implicitDefEqProofs []
    by_cases h1 : i < s.length
    · have hg := List.getElem?_eq_getElem h1
      simp -implicitDefEqProofs [h1]
      refine (i_IsName_1 G _).use ?_
      by_cases hl : isLet s[i] = true
      · have hd := dec_let h1 hl
        have hl' := hl
        simp only [isLet, Bool.and_eq_true, decide_eq_true_eq] at hl'
        have e1 : ¬ ((s[i].toNat : Int) < 97) := by omega
        have e2 : ¬ (122 < (s[i].toNat : Int)) := by omega
        rw [hd]
        simp -implicitDefEqProofs [e1, e2]
        refine ⟨i + 1, ⟨h1, fun p hp => ?_⟩, by omega, wkt_same (by simp) (by simp [okO]) (by simp [below, belowL])⟩
        rw [take_succ' h1] at hp
        rcases List.mem_append.1 hp with hp | hp
        · exact hn p hp
        · rw [List.mem_singleton.1 hp]; exact hl
      · have hd := dec_other h1 hl
        have hf : idxN s = i := by
          have : s.findIdx? (fun x => !isLet x) = some i := by
            rw [List.findIdx?_eq_some_iff_getElem]
            exact ⟨h1, by simpa using hl, fun j hj => by have := hn s[j] (List.mem_take_iff_getElem.2 ⟨j, by omega, rfl⟩); simpa using this⟩
          rw [idxN, this]
        have hdb : (decide (((Utf8.decode ⟨⟨s⟩⟩ i).1 : Int) < 97) || decide (122 < ((Utf8.decode ⟨⟨s⟩⟩ i).1 : Int))) = true := by
          rcases hd with h | h <;> simp [h]
        rw [hdb]
        simp -implicitDefEqProofs [hf]
    · have hn' := hn
      rw [List.take_of_length_le (by omega)] at hn'
      have hf : idxN s = -1 := by
        have : s.findIdx? (fun x => !isLet x) = none := by
          rw [List.findIdx?_eq_none_iff]; intro x hx; simpa using hn' x hx
        rw [idxN, this]
      simp -implicitDefEqProofs [h1, hf]
theorem i_IndexFunc (s : List UInt8) (hb : s.length ≤ 140737488355328) : VF Tryd.prog G n_strings_IndexFunc [.p (.str s), .fn (.func n_impl_IsName_1) []] (.p (.int .i64 (idxN s))) := by
  refine AC.go k_strings_IndexFunc ?_
  simp -implicitDefEqProofs [F_strings_IndexFunc]
  refine (i_indexFunc G s hb).use ?_
  simp -implicitDefEqProofs []
theorem i_Index (L : List (List UInt8)) (s : List UInt8) (hb : L.length ≤ 1048576) : VF Tryd.prog G n_slices_Index_string [.p (strL L), .p (.str s)] (.p (.int .i64 (idxS L s))) := by
  refine AC.go k_slices_Index_string ?_
  have hsl : strL L = .lst 1 (L.map fun w => [.str w]) := rfl
  simp -implicitDefEqProofs [F_slices_Index_string, hsl]
  refine loopA (fun i : Nat => tsOf 19 [(0, .p (strL L)), (1, .p (.str s)), (6, .p (strL L)), (7, .p (.int .i64 L.length)), (8, .p (.int .i64 i))]) (fun _ => []) (fun i => i ≤ L.length ∧ ∀ w ∈ L.take i, w ≠ s) (fun i => L.length - i) 0 (by simp) ?_ ?_
  · exact wkt_nil rfl (by simp [below, strL])
  · intro i ⟨hi, hn⟩
    simp -implicitDefEqProofs [hsl]
    refine cndb (fun h1 => ?_) (fun h1 => ?_)
    · simp at h1
      have hg := List.getElem?_eq_getElem h1
      by_cases he : L[i] = s
      · have hf : idxS L s = i := by
          have : L.findIdx? (fun w => w == s) = some i := by
            rw [List.findIdx?_eq_some_iff_getElem]
            exact ⟨h1, by simpa using he, fun j hj => by have := hn L[j] (List.mem_take_iff_getElem.2 ⟨j, by omega, rfl⟩); simpa using this⟩
          rw [idxS, this]
        have he' : s = L[i] := he.symm
        simp -implicitDefEqProofs [hg, hf, ← he']
      · have he' : ¬ s = L[i] := fun e => he e.symm
        simp -implicitDefEqProofs [hg, he']
        refine ⟨i + 1, ⟨h1, fun p hp => ?_⟩, by omega, wkt_nil rfl ?_⟩
        · rw [take_succ' h1] at hp
          rcases List.mem_append.1 hp with hp | hp
          · exact hn p hp
          · rw [List.mem_singleton.1 hp]; exact he
        · simp [below, strL, w1 (i := i) (by omega)]
    · simp at h1
      rw [List.take_of_length_le h1] at hn
      have hf : idxS L s = -1 := by
        have : L.findIdx? (fun w => w == s) = none := by
          rw [List.findIdx?_eq_none_iff]; intro x hx; simpa using hn x hx
        rw [idxS, this]
      simp -implicitDefEqProofs [hf]
theorem i_Contains (L : List (List UInt8)) (s : List UInt8) (hb : L.length ≤ 1048576) : VF Tryd.prog G n_slices_Contains_string [.p (strL L), .p (.str s)] (.p (.bool (L.contains s))) := by
  rw [← idxS_pos]
  refine AC.go k_slices_Contains_string ?_
  simp -implicitDefEqProofs [F_slices_Contains_string]
  refine (i_Index G L s hb).use ?_
  simp -implicitDefEqProofs []
abbrev g_keys : Nat := 1
def pvKeys : List PV := keyW.map .str
variable (hK : G g_keys = some pvKeys)
include hK
theorem i_IsName (s : List UInt8) (hb : s.length ≤ 140737488355328) : VF Tryd.prog G n_impl_IsName [.p (.str s)] (.p (.bool (isName s))) := by
  refine AC.go k_impl_IsName ?_
  have hg : g_keys = 1 := rfl
  rw [hg] at hK
  simp -implicitDefEqProofs [F_impl_IsName]
  refine (i_within G _ _ _).use ?_
  have hr : inR (s.length : Int) 1 4 = (decide (0 < s.length) && decide (s.length ≤ 4)) := by
    unfold inR
    by_cases h1 : 0 < s.length <;> by_cases h2 : s.length ≤ 4 <;> simp [h1, h2] <;> omega
  rw [hr]
  have hi : isName s = ((decide (0 < s.length) && decide (s.length ≤ 4)) && (s.all isLet && !keyW.contains s)) := by
    rw [isName]; cases s.all isLet <;> cases decide (0 < s.length) <;> cases decide (s.length ≤ 4) <;> rfl
  cases h1 : (decide (0 < s.length) && decide (s.length ≤ 4)) with
  | false =>
    rw [hi, h1]
    simp -implicitDefEqProofs []
  | true =>
    rw [hi, h1]
    simp -implicitDefEqProofs []
    refine (i_IndexFunc G s hb).use ?_
    rw [← idxN_neg]
    by_cases hn : idxN s < 0
    · simp -implicitDefEqProofs [hn, hK, pvKeys, keyW]
      refine (i_Contains G keyW s (by decide)).use ?_
      simp -implicitDefEqProofs [keyW]
    · simp -implicitDefEqProofs [hn]
end Go.Proofs.YtbbobekgnclkfaaDoor
namespace Go.Proofs.YtbbobekgnclkfaaDoor
open Go Go.Aw
set_option maxRecDepth 100000
set_option maxHeartbeats 4000000
def sOf (op : Int) : Int := shpT.getD op.toNat 2
theorem shp_cases {op : Int} (h : inR op 1 22 = true) :
    (sOf op = 0 ∧ jmpO op = false ∧ (op == 1 || inR op 15 18) = true) ∨
    (sOf op = 1 ∧ jmpO op = false ∧ (op == 1 || inR op 15 18) = false ∧ inR op 3 9 = false ∧ (op == 2 || inR op 10 12) = true) ∨
    (sOf op = 2 ∧ jmpO op = false ∧ (op == 1 || inR op 15 18) = false ∧ inR op 3 9 = true) ∨
    (sOf op = 3 ∧ jmpO op = false ∧ (op == 1 || inR op 15 18) = false ∧ inR op 3 9 = false ∧ (op == 2 || inR op 10 12) = false ∧ (op == 14) = false) ∨
    (sOf op = 4 ∧ jmpO op = false ∧ (op == 1 || inR op 15 18) = false ∧ inR op 3 9 = false ∧ (op == 2 || inR op 10 12) = false ∧ (op == 14) = true) ∨
    (sOf op = 5 ∧ jmpO op = true) := by
  rcases op22 h with rfl | rfl | rfl | rfl | rfl | rfl | rfl | rfl | rfl | rfl | rfl | rfl | rfl | rfl | rfl | rfl | rfl | rfl | rfl | rfl | rfl | rfl <;> decide
variable (G : Glob)
theorem i_decoded_1 (n : Int) (h : 0 ≤ n ∧ n ≤ 255) : VF Tryd.prog G n_impl_decoded_1 [.p (.int .u8 n)] (.p (.int .i64 n)) := by
  refine AC.go k_impl_decoded_1 ?_
  simp -implicitDefEqProofs [F_impl_decoded_1, i64_small (x := n) (by omega) (by omega)]
def i64L (l : List Int) : PV := .lst 1 (l.map fun n => [.int .i64 n])
def i64R (l : List Int) : List (List AV) := l.map fun n => [.p (.int .i64 n)]
theorem i64R_pure (l : List Int) : ∀ x ∈ i64R l, belowL 0 x := by
  intro x hx; obtain ⟨m, _, rfl⟩ := List.mem_map.1 hx; simp [belowL, below]
theorem i_mapped (l : List Int) (hb : BytesOk l) (hl : l.length ≤ 1048576) : VF Tryd.prog G n_impl_mapped_int [.p (bysL l), .fn (.func n_impl_decoded_1) []] (.p (i64L l)) := by
  have key : AC Tryd.prog G n_impl_mapped_int [.p (bysL l), .fn (.func n_impl_decoded_1) []] [] fun x h => x = .ret (slE 0 1 (i64R l)) ∧ (l ≠ [] → h[0]? = some (.row 1 (i64R l))) := by
    refine AC.go k_impl_mapped_int ?_
    have hbl : bysL l = .lst 1 (l.map fun n => [.int .u8 n]) := rfl
    simp -implicitDefEqProofs [F_impl_mapped_int, hbl]
    refine loopA (fun i : Nat => tsOf 22 [(1, .fn (.func n_impl_decoded_1) []), (5, slE 0 1 (i64R (l.take i))), (8, .p (bysL l)), (9, .p (.int .i64 l.length)), (10, .p (.int .i64 i))])
      (fun i => if i = 0 then [] else [.row 1 (i64R (l.take i))]) (fun i => i ≤ l.length) (fun i => l.length - i) 0 (by simp) ?_ ?_
    · exact wkt_nil rfl (by simp [below, belowL, bysL, i64R, slE])
    · intro i hi
      simp -implicitDefEqProofs [hbl]
      refine cndb (fun h1 => ?_) (fun h1 => ?_)
      · simp at h1
        have hg := List.getElem?_eq_getElem h1
        have hnb := hb _ (List.getElem_mem h1)
        simp -implicitDefEqProofs [hg]
        refine (i_decoded_1 G _ hnb).use ?_
        have hts : i64R (l.take (i + 1)) = i64R (l.take i) ++ [[.p (.int .i64 l[i])]] := by rw [i64R, take_succ' h1, List.map_append]; rfl
        have hne : ([[.p (.int .i64 l[i])]] : List (List AV)) ≠ [] := by simp
        have hln : (i64R (l.take i)).length = i := by simp [i64R]; omega
        have fin : ∀ (l1 : List (Nat × AV)) (h : List AO) (k : Nat), h[k]? = some (.row 1 (i64R (l.take (i + 1)))) → TWA [k] l1 [(1, .fn (.func n_impl_decoded_1) []), (5, .sl 0 1 0 (i + 1)), (8, .p (bysL l)), (9, .p (.int .i64 l.length)), (10, .p (.int .i64 ((i + 1 : Nat) : Int)))] →
            Wk 0 (tsOf 22 l1) h (tsOf 22 [(1, .fn (.func n_impl_decoded_1) []), (5, slE 0 1 (i64R (l.take (i + 1)))), (8, .p (bysL l)), (9, .p (.int .i64 l.length)), (10, .p (.int .i64 ((i + 1 : Nat) : Int)))]) (if i + 1 = 0 then [] else [.row 1 (i64R (l.take (i + 1)))]) := fun l1 h k hk hl1 => by
          rw [if_neg (by omega), show slE 0 1 (i64R (l.take (i + 1))) = .sl 0 1 0 (i + 1) by rw [hts, slE_app _ hne, hln]; rfl]
          exact wkt_pick [k] rfl (by simp) (hw_row hk (i64R_pure _) hw_nil) hl1
        rcases Nat.eq_zero_or_pos i with h0 | h0
        · subst h0
          have hsl0 : slE 0 1 (i64R ([] : List Int)) = .nils := rfl
          simp -implicitDefEqProofs [hsl0]
          refine ⟨1, h1, by omega, ?_⟩
          refine fin _ _ 1 ?_ ?_
          · rw [hts]; rfl
          · simp [below, belowL, ren, renL, bysL]
            rfl
        · have h0' : ¬ i = 0 := by omega
          have hsl : slE 0 1 (i64R (l.take i)) = .sl 0 1 0 i := by rw [slE_ne (by intro e; rw [e] at hln; simp at hln; omega), hln]
          simp -implicitDefEqProofs [h0', hsl, hln]
          refine ⟨⟨by omega, by omega⟩, i + 1, h1, by omega, fin _ _ 2 (by rw [hts]; simp [List.take_of_length_le, hln]) (by simp [below, belowL, ren, renL, bysL, w1 (i := i) (by omega)])⟩
      · simp at h1
        have hie : i = l.length := by omega
        subst hie
        simp -implicitDefEqProofs [List.take_length]
        intro hne
        simp [hne]
  refine key.freezeR (fun t v h ⟨e, _⟩ => by cases e) fun v h ⟨e1, e2⟩ => ?_
  cases e1
  by_cases hne : l = []
  · subst hne; exact .one (View.nils 1) .nil
  · have hn : i64R l ≠ [] := by simpa [i64R] using hne
    have hm : i64R l = (l.map fun n => [PV.int .i64 n]).map (·.map .p) := by simp [i64R]
    have := view_E (h := h) (id := 0) (sz := 1) (ls := l.map fun n => [PV.int .i64 n]) (by rw [← hm, rowE_ne hn]; exact e2 hne) (by simp)
    rw [← hm] at this
    exact .one this .nil
def zMi : Mins := ⟨0, 0, 0, 0, 0⟩
theorem sub_get {code : List Int} {i n k : Nat} (hk : k < n) (h : i + n ≤ code.length) : ((code.drop i).take n)[k]? = some (byAt code (i + k)) := by
  rw [List.getElem?_take, if_pos hk, List.getElem?_drop, byAt_get (by omega)]
theorem i_shape (op : Int) (h : inR op 1 22 = true) : VF Tryd.prog G n_impl_shapeOf [.p (.int .i64 op)] (.p (.int .i64 (sOf op))) := i_shapeOf G op h
theorem i_decoded (code : List Int) (hb : BytesOk code) (i : Nat) (hi : i < code.length) (hl : code.length ≤ 1048576) :
    VF Tryd.prog G n_impl_decoded [.p (bysL code), .p (.int .i64 i)] (.tup [.agg ((if decGood code i then decI code i else zMi).cs.map .p), .p (.int .i64 (if decGood code i then decSz code i else 0 : Nat))]) := by
  refine AC.go k_impl_decoded ?_
  have hbl : bysL code = .lst 1 (code.map fun n => [.int .u8 n]) := rfl
  have hg0 := byAt_get hi
  have h0 := byAt_ok hb i
  have hcv : IntKind.i64.wrap (byAt code i) = byAt code i := i64_small (by omega) (by omega)
  have hsz : decSz code i = sizeB (bare (opAt code i)) (longAt code i) := rfl
  have hX : decI code i = decX code i (opAt code i) (longAt code i) := rfl
  have hil : (i : Int) ≤ code.length := by omega
  have hdr : List.drop i (List.take code.length (code.map fun n => [PV.int .u8 n])) = (code.drop i).map fun n => [PV.int .u8 n] := by rw [List.take_of_length_le (by simp), List.map_drop]
  simp -implicitDefEqProofs [F_impl_decoded, hbl, hg0, hcv, hil, hdr]
  refine ⟨by omega, ?_⟩
  have hbad : ¬ decOk1 code i = true → ((if decGood code i then decI code i else zMi) = zMi ∧ (if decGood code i then decSz code i else 0) = 0) := fun h => by simp [decGood, h]
  have hnofit : ¬ i + decSz code i ≤ code.length → ((if decGood code i then decI code i else zMi) = zMi ∧ (if decGood code i then decSz code i else 0) = 0) := fun h => by simp [decGood, h]
  have hfine : decOk1 code i = true → i + decSz code i ≤ code.length → decGood code i = true := fun h1 h2 => by simp [decGood, h1, h2]
  have hrest : (((code.drop i).length : Nat) : Int) = (code.length : Int) - i := by simp; omega
  have hmp : ∀ n, VF Tryd.prog G n_impl_mapped_int [.p (.lst 1 (List.take n (List.drop i (code.map fun n => [PV.int .u8 n])))), .fn (.func n_impl_decoded_1) []] (.p (i64L ((code.drop i).take n))) := fun n => by
    have := i_mapped G ((code.drop i).take n) (fun x hx => hb x (List.mem_of_mem_drop (List.mem_of_mem_take hx))) (by simp; omega)
    rw [bysL, List.map_take, List.map_drop] at this; exact this
  have b1 := byAt_ok hb (i + 1)
  have hm : (byAt code (i + 1)).tmod 8 = byAt code (i + 1) % 8 := Int.tmod_eq_emod_of_nonneg b1.1
  have hdd : (byAt code (i + 1)).tdiv 8 = byAt code (i + 1) / 8 := Int.tdiv_eq_ediv_of_nonneg b1.1
  have hdv : IntKind.i64.wrap (byAt code (i + 1) / 8) = byAt code (i + 1) / 8 := i64_small (by omega) (by omega)
  have hs8 : ∀ k, IntKind.i8.wrap (byAt code k) = s8 (byAt code k) := fun k => by
    have := byAt_ok hb k
    simp [IntKind.wrap, IntKind.bits, IntKind.signed, s8]
    split <;> split <;> omega
  have hr8 : ∀ k, -128 ≤ s8 (byAt code k) ∧ s8 (byAt code k) ≤ 127 := fun k => by
    have := byAt_ok hb k
    unfold s8; split <;> omega
  have hr64 : ∀ k, IntKind.i64.wrap (s8 (byAt code k)) = s8 (byAt code k) := fun k => i64_small (by have := hr8 k; omega) (by have := hr8 k; omega)
  have hsum : ∀ n k : Nat, n ≤ 4 → IntKind.i64.wrap (((i + n : Nat) : Int) + s8 (byAt code k)) = ((i + n : Nat) : Int) + s8 (byAt code k) := fun n k hn => i64_small (by have := hr8 k; omega) (by have := hr8 k; omega)
  have hwi : ∀ n : Nat, n ≤ 4 → IntKind.i64.wrap ((i : Int) + n) = ((i + n : Nat) : Int) := fun n hn => i64_nat (by omega) (by omega)
  have hlong : ∀ k l : Nat, IntKind.i64.wrap (byAt code k + IntKind.i64.wrap (256 * byAt code l)) = byAt code k + 256 * byAt code l := fun k l => by
    have := byAt_ok hb k
    have := byAt_ok hb l
    rw [i64_small (x := 256 * _) (by omega) (by omega), i64_small (by omega) (by omega)]
  cases hL : longAt code i with
  | false =>
    have hlt : byAt code i < 128 := by simpa [longAt] using hL
    have hop : opAt code i = byAt code i := by rw [opAt]; omega
    have hng : ¬ 128 ≤ opAt code i := by omega
    rw [hL] at hsz hX
    rw [← hop]
    simp -implicitDefEqProofs [hng]
    refine (i_within G _ _ _).use ?_
    by_cases hr : inR (opAt code i) 1 22 = true
    rotate_left
    · obtain ⟨e1, e2⟩ := hbad (by simp [decOk1, hr])
      simp -implicitDefEqProofs [hr, e1, e2]
      simp [zMi, Mins.cs]
    have hok : decOk1 code i = true := by simp [decOk1, hr, hL]
    simp -implicitDefEqProofs [hr, msetk, keq]
    refine (i_shape G _ hr).use ?_
    rcases shp_cases hr with ⟨hs, hj, c1⟩ | ⟨hs, hj, c1, c2, c3⟩ | ⟨hs, hj, c1, c2⟩ | ⟨hs, hj, c1, c2, c3, c4⟩ | ⟨hs, hj, c1, c2, c3, c4⟩ | ⟨hs, hj⟩
    · have h21 : ¬ opAt code i = 21 := by intro e; simp [jmpO, e] at hj
      have hn : decSz code i = 3 := by rw [hsz, sizeB, if_neg (by simpa [jmp, bare, jmpO] using hj), plainB]; simp only [bare, c1, if_true]; try rfl
      have hXe : decI code i = ⟨opAt code i, byAt code (i + 1), 0, 0, byAt code (i + 2)⟩ := by rw [hX]; simp only [decX, hj, c1, if_true]; try rfl
      simp -implicitDefEqProofs [hs, h21, mgetk, keq]
      refine cndb (fun h1 => ?_) (fun h1 => ?_)
      · obtain ⟨e1, e2⟩ := hnofit (by rw [hn]; simp at h1; omega)
        simp -implicitDefEqProofs [e1, e2]
        simp [zMi, Mins.cs]
      have hfit : i + 3 ≤ code.length := by simp at h1; omega
      have hgd := hfine hok (by rw [hn]; exact hfit)
      have hll : 3 ≤ code.length - i := by omega
      simp -implicitDefEqProofs [hll]
      refine (hmp 3).use ?_
      have g1 := sub_get (code := code) (i := i) (n := 3) (k := 1) (by omega) hfit
      have g2 := sub_get (code := code) (i := i) (n := 3) (k := 2) (by omega) hfit
      generalize ((code.drop i).take 3) = q at g1 g2 ⊢
      simp -implicitDefEqProofs []
      refine (i_shape G _ hr).use ?_
      simp -implicitDefEqProofs [hs, i64L, g1, g2]
      simp [hgd, hn, Mins.cs, hXe]
    · have h21 : ¬ opAt code i = 21 := by intro e; simp [jmpO, e] at hj
      have hn : decSz code i = 2 := by rw [hsz, sizeB, if_neg (by simpa [jmp, bare, jmpO] using hj), plainB]; simp only [bare, c1, c2, c3, if_true, if_false, Bool.false_eq_true]; try rfl
      have hXe : decI code i = ⟨opAt code i, byAt code (i + 1) % 8, byAt code (i + 1) / 8, 0, 0⟩ := by rw [hX]; simp only [decX, hj, c1, c2, c3, if_true, if_false, Bool.false_eq_true]; try rfl
      simp -implicitDefEqProofs [hs, h21, mgetk, keq]
      refine cndb (fun h1 => ?_) (fun h1 => ?_)
      · obtain ⟨e1, e2⟩ := hnofit (by rw [hn]; simp at h1; omega)
        simp -implicitDefEqProofs [e1, e2]
        simp [zMi, Mins.cs]
      have hfit : i + 2 ≤ code.length := by simp at h1; omega
      have hgd := hfine hok (by rw [hn]; exact hfit)
      have hll : 2 ≤ code.length - i := by omega
      simp -implicitDefEqProofs [hll]
      refine (hmp 2).use ?_
      have g1 := sub_get (code := code) (i := i) (n := 2) (k := 1) (by omega) hfit
      generalize ((code.drop i).take 2) = q at g1 ⊢
      simp -implicitDefEqProofs []
      refine (i_shape G _ hr).use ?_
      simp -implicitDefEqProofs [hs, i64L, g1, hm, hdd, hdv]
      simp [hgd, hn, Mins.cs, hXe]
    · have h21 : ¬ opAt code i = 21 := by intro e; simp [jmpO, e] at hj
      have hn : decSz code i = 3 := by rw [hsz, sizeB, if_neg (by simpa [jmp, bare, jmpO] using hj), plainB]; simp only [bare, c1, c2, if_true, if_false, Bool.false_eq_true]; try rfl
      have hXe : decI code i = ⟨opAt code i, byAt code (i + 1) % 8, byAt code (i + 1) / 8, byAt code (i + 2), 0⟩ := by rw [hX]; simp only [decX, hj, c1, c2, if_true, if_false, Bool.false_eq_true]; try rfl
      simp -implicitDefEqProofs [hs, h21, mgetk, keq]
      refine cndb (fun h1 => ?_) (fun h1 => ?_)
      · obtain ⟨e1, e2⟩ := hnofit (by rw [hn]; simp at h1; omega)
        simp -implicitDefEqProofs [e1, e2]
        simp [zMi, Mins.cs]
      have hfit : i + 3 ≤ code.length := by simp at h1; omega
      have hgd := hfine hok (by rw [hn]; exact hfit)
      have hll : 3 ≤ code.length - i := by omega
      simp -implicitDefEqProofs [hll]
      refine (hmp 3).use ?_
      have g1 := sub_get (code := code) (i := i) (n := 3) (k := 1) (by omega) hfit
      have g2 := sub_get (code := code) (i := i) (n := 3) (k := 2) (by omega) hfit
      generalize ((code.drop i).take 3) = q at g1 g2 ⊢
      simp -implicitDefEqProofs []
      refine (i_shape G _ hr).use ?_
      simp -implicitDefEqProofs [hs, i64L, g1, g2, hm, hdd, hdv]
      simp [hgd, hn, Mins.cs, hXe]
    · have h21 : ¬ opAt code i = 21 := by intro e; simp [jmpO, e] at hj
      have hn : decSz code i = 2 := by rw [hsz, sizeB, if_neg (by simpa [jmp, bare, jmpO] using hj), plainB]; simp only [bare, c1, c2, c3, c4, if_true, if_false, Bool.false_eq_true]; try rfl
      have hXe : decI code i = ⟨opAt code i, byAt code (i + 1), 0, 0, 0⟩ := by rw [hX]; simp only [decX, hj, c1, c2, c3, c4, if_true, if_false, Bool.false_eq_true]; try rfl
      simp -implicitDefEqProofs [hs, h21, mgetk, keq]
      refine cndb (fun h1 => ?_) (fun h1 => ?_)
      · obtain ⟨e1, e2⟩ := hnofit (by rw [hn]; simp at h1; omega)
        simp -implicitDefEqProofs [e1, e2]
        simp [zMi, Mins.cs]
      have hfit : i + 2 ≤ code.length := by simp at h1; omega
      have hgd := hfine hok (by rw [hn]; exact hfit)
      have hll : 2 ≤ code.length - i := by omega
      simp -implicitDefEqProofs [hll]
      refine (hmp 2).use ?_
      have g1 := sub_get (code := code) (i := i) (n := 2) (k := 1) (by omega) hfit
      generalize ((code.drop i).take 2) = q at g1 ⊢
      simp -implicitDefEqProofs []
      refine (i_shape G _ hr).use ?_
      simp -implicitDefEqProofs [hs, i64L, g1]
      simp [hgd, hn, Mins.cs, hXe]
    · have h21 : ¬ opAt code i = 21 := by intro e; simp [jmpO, e] at hj
      have hn : decSz code i = 2 := by rw [hsz, sizeB, if_neg (by simpa [jmp, bare, jmpO] using hj), plainB]; simp only [bare, c1, c2, c3, c4, if_true, if_false, Bool.false_eq_true]; try rfl
      have hXe : decI code i = ⟨opAt code i, 0, 0, 0, byAt code (i + 1)⟩ := by rw [hX]; simp only [decX, hj, c1, c2, c3, c4, if_true, if_false, Bool.false_eq_true]; try rfl
      simp -implicitDefEqProofs [hs, h21, mgetk, keq]
      refine cndb (fun h1 => ?_) (fun h1 => ?_)
      · obtain ⟨e1, e2⟩ := hnofit (by rw [hn]; simp at h1; omega)
        simp -implicitDefEqProofs [e1, e2]
        simp [zMi, Mins.cs]
      have hfit : i + 2 ≤ code.length := by simp at h1; omega
      have hgd := hfine hok (by rw [hn]; exact hfit)
      have hll : 2 ≤ code.length - i := by omega
      simp -implicitDefEqProofs [hll]
      refine (hmp 2).use ?_
      have g1 := sub_get (code := code) (i := i) (n := 2) (k := 1) (by omega) hfit
      generalize ((code.drop i).take 2) = q at g1 ⊢
      simp -implicitDefEqProofs []
      refine (i_shape G _ hr).use ?_
      simp -implicitDefEqProofs [hs, i64L, g1]
      simp [hgd, hn, Mins.cs, hXe]
    · have hc : opAt code i = 20 ∨ opAt code i = 21 := by simpa [jmpO] using hj
      rcases hc with e | e
      · skip
        have hn : decSz code i = 2 := by rw [hsz, e]; rfl
        have hXe : decI code i = ⟨20, 0, 0, 0, ((i + 2 : Nat) : Int) + s8 (byAt code (i + 1))⟩ := by rw [hX, e]; rfl
        simp -implicitDefEqProofs [show sOf 20 = 5 from rfl, show sOf 21 = 5 from rfl, e, mgetk, keq, show IntKind.i64.wrap 3 = 3 from rfl, show IntKind.i64.wrap 4 = 4 from rfl]
        refine cndb (fun h1 => ?_) (fun h1 => ?_)
        · obtain ⟨e1, e2⟩ := hnofit (by rw [hn]; simp at h1; omega)
          simp -implicitDefEqProofs [e1, e2]
          simp [zMi, Mins.cs]
        have hfit : i + 2 ≤ code.length := by simp at h1; omega
        have hgd := hfine hok (by rw [hn]; exact hfit)
        have hll : 2 ≤ code.length - i := by omega
        simp -implicitDefEqProofs [hll]
        refine (hmp 2).use ?_
        have gr := byAt_get (code := code) (i := i + 1) (by omega)
        have g0 := sub_get (code := code) (i := i) (n := 2) (k := 0) (by omega) hfit
        generalize ((code.drop i).take 2) = q at g0 ⊢
        simp -implicitDefEqProofs []
        refine (i_shape G 20 rfl).use ?_
        simp -implicitDefEqProofs [show sOf 20 = 5 from rfl, show sOf 21 = 5 from rfl, e, i64L, g0, show IntKind.i64.wrap 1 = 1 from rfl, show IntKind.i64.wrap 2 = 2 from rfl, show IntKind.i64.wrap 3 = 3 from rfl, gr, hs8, hr64]
        simp [hgd, hn, Mins.cs, hXe, hsum]
        have := hr8 (i + 1)
        rw [i64_small (x := (i : Int) + 2) (by omega) (by omega), i64_small (by omega) (by omega)]
      · skip
        have hn : decSz code i = 3 := by rw [hsz, e]; rfl
        have hXe : decI code i = ⟨21, byAt code (i + 1), 0, 0, ((i + 3 : Nat) : Int) + s8 (byAt code (i + 2))⟩ := by rw [hX, e]; rfl
        simp -implicitDefEqProofs [show sOf 20 = 5 from rfl, show sOf 21 = 5 from rfl, e, mgetk, keq, show IntKind.i64.wrap 3 = 3 from rfl, show IntKind.i64.wrap 4 = 4 from rfl]
        refine cndb (fun h1 => ?_) (fun h1 => ?_)
        · obtain ⟨e1, e2⟩ := hnofit (by rw [hn]; simp at h1; omega)
          simp -implicitDefEqProofs [e1, e2]
          simp [zMi, Mins.cs]
        have hfit : i + 3 ≤ code.length := by simp at h1; omega
        have hgd := hfine hok (by rw [hn]; exact hfit)
        have hll : 3 ≤ code.length - i := by omega
        simp -implicitDefEqProofs [hll]
        refine (hmp 3).use ?_
        have g1 := sub_get (code := code) (i := i) (n := 3) (k := 1) (by omega) hfit
        have gr := byAt_get (code := code) (i := i + 2) (by omega)
        generalize ((code.drop i).take 3) = q at g1 ⊢
        simp -implicitDefEqProofs []
        refine (i_shape G 21 rfl).use ?_
        simp -implicitDefEqProofs [show sOf 20 = 5 from rfl, show sOf 21 = 5 from rfl, e, i64L, g1, show IntKind.i64.wrap 1 = 1 from rfl, show IntKind.i64.wrap 2 = 2 from rfl, show IntKind.i64.wrap 3 = 3 from rfl, gr, hs8, hr64]
        simp [hgd, hn, Mins.cs, hXe, hsum]
        have := hr8 (i + 2)
        rw [i64_small (x := (i : Int) + 3) (by omega) (by omega), i64_small (by omega) (by omega)]
  | true =>
    have hge : 128 ≤ byAt code i := by simpa [longAt] using hL
    have hop : opAt code i = byAt code i - 128 := by rw [opAt]; omega
    have hwo : IntKind.i64.wrap (byAt code i - 128) = opAt code i := by rw [i64_small (by omega) (by omega), hop]
    rw [hL] at hsz hX
    simp -implicitDefEqProofs [hge, hwo]
    refine (i_within G _ _ _).use ?_
    by_cases hr : inR (opAt code i) 1 22 = true
    rotate_left
    · obtain ⟨e1, e2⟩ := hbad (by simp [decOk1, hr])
      simp -implicitDefEqProofs [hr, e1, e2]
      simp [zMi, Mins.cs]
    simp -implicitDefEqProofs [hr]
    refine (i_jumpOp G _).use ?_
    have hjo : (opAt code i == 20 || opAt code i == 21) = jmpO (opAt code i) := rfl
    cases hj : jmpO (opAt code i) with
    | false =>
      obtain ⟨e1, e2⟩ := hbad (by simp [decOk1, hL, hj])
      rw [hjo, hj]
      simp -implicitDefEqProofs [e1, e2]
      simp [zMi, Mins.cs]
    | true =>
    rw [hjo, hj]
    have hok : decOk1 code i = true := by simp [decOk1, hr, hL, hj]
    simp -implicitDefEqProofs [msetk, keq]
    refine (i_shape G _ hr).use ?_
    have hc : opAt code i = 20 ∨ opAt code i = 21 := by simpa [jmpO] using hj
    have hs : sOf (opAt code i) = 5 := by rcases hc with e | e <;> rw [e] <;> rfl
    rcases hc with e | e
    · skip
      have hn : decSz code i = 3 := by rw [hsz, e]; rfl
      have hXe : decI code i = ⟨20, 0, 0, 0, byAt code (i + 1) + 256 * byAt code (i + 2)⟩ := by rw [hX, e]; rfl
      simp -implicitDefEqProofs [show sOf 20 = 5 from rfl, show sOf 21 = 5 from rfl, e, mgetk, keq, show IntKind.i64.wrap 3 = 3 from rfl, show IntKind.i64.wrap 4 = 4 from rfl]
      refine cndb (fun h1 => ?_) (fun h1 => ?_)
      · obtain ⟨e1, e2⟩ := hnofit (by rw [hn]; simp at h1; omega)
        simp -implicitDefEqProofs [e1, e2]
        simp [zMi, Mins.cs]
      have hfit : i + 3 ≤ code.length := by simp at h1; omega
      have hgd := hfine hok (by rw [hn]; exact hfit)
      have hll : 3 ≤ code.length - i := by omega
      simp -implicitDefEqProofs [hll]
      refine (hmp 3).use ?_
      have g1 := sub_get (code := code) (i := i) (n := 3) (k := 1) (by omega) hfit
      have g2 := sub_get (code := code) (i := i) (n := 3) (k := 2) (by omega) hfit
      generalize ((code.drop i).take 3) = q at g1 g2 ⊢
      simp -implicitDefEqProofs []
      refine (i_shape G 20 rfl).use ?_
      simp -implicitDefEqProofs [show sOf 20 = 5 from rfl, show sOf 21 = 5 from rfl, e, i64L, g1, g2, show IntKind.i64.wrap 1 = 1 from rfl, show IntKind.i64.wrap 2 = 2 from rfl, show IntKind.i64.wrap 3 = 3 from rfl, hlong]
      simp [hgd, hn, Mins.cs, hXe]
    · skip
      have hn : decSz code i = 4 := by rw [hsz, e]; rfl
      have hXe : decI code i = ⟨21, byAt code (i + 1), 0, 0, byAt code (i + 2) + 256 * byAt code (i + 3)⟩ := by rw [hX, e]; rfl
      simp -implicitDefEqProofs [show sOf 20 = 5 from rfl, show sOf 21 = 5 from rfl, e, mgetk, keq, show IntKind.i64.wrap 3 = 3 from rfl, show IntKind.i64.wrap 4 = 4 from rfl]
      refine cndb (fun h1 => ?_) (fun h1 => ?_)
      · obtain ⟨e1, e2⟩ := hnofit (by rw [hn]; simp at h1; omega)
        simp -implicitDefEqProofs [e1, e2]
        simp [zMi, Mins.cs]
      have hfit : i + 4 ≤ code.length := by simp at h1; omega
      have hgd := hfine hok (by rw [hn]; exact hfit)
      have hll : 4 ≤ code.length - i := by omega
      simp -implicitDefEqProofs [hll]
      refine (hmp 4).use ?_
      have g1 := sub_get (code := code) (i := i) (n := 4) (k := 1) (by omega) hfit
      have g2 := sub_get (code := code) (i := i) (n := 4) (k := 2) (by omega) hfit
      have g3 := sub_get (code := code) (i := i) (n := 4) (k := 3) (by omega) hfit
      generalize ((code.drop i).take 4) = q at g1 g2 g3 ⊢
      simp -implicitDefEqProofs []
      refine (i_shape G 21 rfl).use ?_
      simp -implicitDefEqProofs [show sOf 20 = 5 from rfl, show sOf 21 = 5 from rfl, e, i64L, g1, g2, g3, show IntKind.i64.wrap 1 = 1 from rfl, show IntKind.i64.wrap 2 = 2 from rfl, show IntKind.i64.wrap 3 = 3 from rfl, hlong]
      simp [hgd, hn, Mins.cs, hXe]
end Go.Proofs.YtbbobekgnclkfaaDoor
namespace Go.Proofs.YtbbobekgnclkfaaDoor
open Go Go.Aw
set_option maxRecDepth 100000
set_option maxHeartbeats 4000000
variable (G : Glob)
structure DS where
  ps : List Nat
  a : Nat
theorem av_pure (ins : List Mins) : ∀ x ∈ ins.map Mins.av, belowL 0 x := by
  intro x hx; obtain ⟨m, _, rfl⟩ := List.mem_map.1 hx; simp [Mins.av_eq, belowL, below]
theorem raw_app (code : List Int) (ps : List Nat) (a : Nat) : rawX code (ps ++ [a]) = rawX code ps ++ [decI code a] := by simp [rawX]
theorem insO_view {h : List AO} {id : Nat} {ins : List Mins} (e : h[id]? = some (insO ins)) : View h (.sl id 5 0 ins.length) (insL ins) := by
  have := view_row (h := h) (id := id) (sz := 5) (n := ins.length) (ls := ins.map Mins.cs) (by rw [e, insO]; simp [Mins.av]) (by simp) (fun x hx => by obtain ⟨b, _, rfl⟩ := List.mem_map.1 hx; rfl)
  exact this
end Go.Proofs.YtbbobekgnclkfaaDoor
namespace Go.Proofs.YtbbobekgnclkfaaDoor
open Go Go.Aw
set_option maxRecDepth 100000
set_option maxHeartbeats 4000000
def mpF : Nat → List Nat → List (PV × AV)
  | _, [] => []
  | k, p :: r => (.int .i64 (p : Int), .p (.int .i64 (k : Int))) :: mpF (k + 1) r
theorem mpF_get (n : Int) : ∀ (k : Nat) (ps : List Nat), mgetk (.int .i64 n) (mpF k ps) = some ((ps.findIdx? (fun (p : Nat) => (p : Int) == n)).map fun i => .p (.int .i64 ((k + i : Nat) : Int)))
  | k, [] => rfl
  | k, p :: r => by
    simp only [mpF, mgetk, keq, if_true, List.findIdx?_cons]
    by_cases h : n = (p : Int)
    · subst h; simp
    · have h' : ¬ (p : Int) = n := fun e => h e.symm
      simp only [h, h', decide_false, beq_iff_eq, if_false, mpF_get n (k + 1) r, Option.map_map]
      have : ((fun i => AV.p (.int .i64 ((k + i : Nat) : Int))) ∘ fun i => i + 1) = fun i => AV.p (.int .i64 ((k + 1 + i : Nat) : Int)) := by
        funext i
        simp only [Function.comp]
        rw [show k + (i + 1) = k + 1 + i by omega]
      rw [this]
theorem mpF_new (a : Nat) (v : AV) : ∀ (k : Nat) (ps : List Nat), (∀ p ∈ ps, p ≠ a) → msetk (.int .i64 (a : Int)) v (mpF k ps) = some (mpF k ps ++ [(.int .i64 (a : Int), v)])
  | k, [], _ => rfl
  | k, p :: r, h => by
    have h1 : ¬ (a : Int) = (p : Int) := fun e => h p (by simp) (by omega)
    simp only [mpF, msetk, keq, if_true, h1, decide_false, mpF_new a v (k + 1) r (fun q hq => h q (by simp [hq])), Option.map_some, List.cons_append]
theorem mpF_app (a : Nat) : ∀ (k : Nat) (ps : List Nat), mpF k (ps ++ [a]) = mpF k ps ++ [(.int .i64 (a : Int), .p (.int .i64 ((k + ps.length : Nat) : Int)))]
  | k, [] => rfl
  | k, p :: r => by
    simp only [List.cons_append, mpF, mpF_app a (k + 1) r, List.length_cons]
    congr 6
    omega
theorem mpF_pure : ∀ (k : Nat) (ps : List Nat), ∀ x ∈ mpF k ps, below 0 x.2
  | k, [], x, h => by simp [mpF] at h
  | k, p :: r, x, h => by
    simp only [mpF, List.mem_cons] at h
    rcases h with rfl | h
    · trivial
    · exact mpF_pure (k + 1) r x h
theorem atOf_some {ps : List Nat} {n : Int} {i : Nat} (h : ps.findIdx? (fun (p : Nat) => (p : Int) == n) = some i) : atOf ps n = i := by rw [atOf, h]
theorem atOf_none {ps : List Nat} {n : Int} (h : ps.findIdx? (fun (p : Nat) => (p : Int) == n) = none) : atOf ps n = -1 := by rw [atOf, h]
/-- A jump without a target spoils all. -/
theorem decOkF_target {p s : Int} {code : List Int} {ps : List Nat} {i : Nat} (h : i < ps.length) (hj : jmp (decI code ps[i]) = true) (ha : atOf ps (decI code ps[i]).n = -1) : decOkF code (decFn p s code ps) = false := by
  cases hk : decOkF code (decFn p s code ps) with
  | false => rfl
  | true =>
    exfalso
    simp only [decOkF, codeOk, Bool.and_eq_true] at hk
    have hf := fine_of_alone hk.1.1
    have hm : linkX ps (decI code ps[i]) ∈ (decFn p s code ps).ins := by
      simp only [decFn, linked, rawX, List.mem_map]
      exact ⟨_, ⟨_, List.getElem_mem h, rfl⟩, rfl⟩
    have hq := (hf.2 _ hm).2.2.2
    rw [linkX, if_pos hj, ha] at hq
    have := hq hj
    simp [inR] at this
theorem linked_lo {code : List Int} (hb : BytesOk code) {ps : List Nat} : ∀ x ∈ linked code ps, x.op = 14 → -9223372036854775808 ≤ x.n := by
  intro x hx h14
  simp only [linked, rawX, List.mem_map] at hx
  obtain ⟨y, ⟨a, _, rfl⟩, rfl⟩ := hx
  have hj : jmp (decI code a) = false := by
    cases h : jmp (decI code a) with
    | false => rfl
    | true =>
      rw [linkX, if_pos h] at h14
      simp [jmp] at h
      simp only at h14
      omega
  rw [linkX, hj] at h14 ⊢
  have b1 := byAt_ok hb (a + 1)
  have b2 := byAt_ok hb (a + 2)
  simp only [Bool.false_eq_true, if_false] at h14 ⊢
  have hjo : jmpO (opAt code a) = false := by
    have : (decI code a).op = opAt code a := by
      unfold decI decX; simp only; repeat' split
      all_goals rfl
    rw [← this]; exact hj
  unfold decI decX
  simp only [hjo]
  repeat' split
  all_goals first | (simp only; omega) | contradiction
variable (G : Glob)
theorem i_bytesEqual (a b : List Int) (ha : BytesOk a) (hb : BytesOk b) : VF Tryd.prog G n_bytes_Equal [.p (bysL a), .p (bysL b)] (.p (.bool (decide (a = b)))) := by
  refine AC.go k_bytes_Equal ?_
  have hbl : ∀ l, bysL l = .lst 1 (l.map fun n => [.int .u8 n]) := fun _ => rfl
  have hcm : ∀ l : List Int, List.map ((fun x => List.map AV.p x) ∘ fun n => [PV.int .u8 n]) l = l.map fun n => [AV.p (.int .u8 n)] := fun l => rfl
  have hsi := str8_inj ha hb
  simp -implicitDefEqProofs [F_bytes_Equal, hbl, hcm, bytesA_bys, hsi]
def idH (p s : Int) (ins : List Mins) (ps : List Nat) : List AO := [.row 3 [zMfn], .row 3 [[.p (.int .i64 p), .p (.int .i64 s), slE 3 5 (ins.map Mins.av)]], .mp (mpF 0 ps), rowE 5 (ins.map Mins.av)]
variable (hG : G g_forms = some pvForms)
include hG
theorem o_iDecodeFn (p s : Int) (code : List Int) (hb : BytesOk code) (hl : code.length ≤ 1048576) :
    AC Tryd.prog G n_impl_DecodeFn [.p (.int .i64 p), .p (.int .i64 s), .p (bysL code)] [] fun x h => match decF p s code with
      | none => x = .ret (.tup [.agg zMfn, .p (.bool false)])
      | some f => ∃ id, x = .ret (.tup [.agg (f.ov id), .p (.bool true)]) ∧ h[id]? = some (insO f.ins) := by
  refine AC.go k_impl_DecodeFn ?_
  have hbl : bysL code = .lst 1 (code.map fun n => [.int .u8 n]) := rfl
  simp -implicitDefEqProofs [F_impl_DecodeFn]
  refine loopA (fun d : DS => tsOf 93 [(0, .p (.int .i64 p)), (1, .p (.int .i64 s)), (2, .p (bysL code)), (6, .ptr 0 3 0 0), (7, .p (.bool false)), (8, .ptr 1 3 0 0), (9, .mp 2), (10, .p (.int .i64 d.a))])
    (fun d => idH p s (rawX code d.ps) d.ps) (fun d => decFrom code 0 = (decFrom code d.a).map (d.ps ++ ·) ∧ 2 * d.ps.length ≤ d.a ∧ d.a ≤ code.length ∧ ∀ q ∈ d.ps, q < d.a)
    (fun d => code.length - d.a) ⟨[], 0⟩ (by simp) ?_ ?_
  · simp only [idH, rawX, List.map_nil, slE_nil, rowE_nil, mpF]
    exact wkt_dup [0, 1, 2, 0] (by simp) (by simp) (by simp [lives]) (hw_row rfl (by simp [zMfn, belowL, below]) (hw_row rfl (by simp [belowL, below]) (hw_ok rfl (by simp [okO]) (hw_dead (by simp) hw_nil)))) (by simp [below, ren, bysL])
  · rintro ⟨ps, a⟩ ⟨i1, i2, i3, i4⟩
    simp only at i1 i2 i3 i4
    simp -implicitDefEqProofs [idH, hbl]
    refine cndb (fun h1 => ?_) (fun h1 => ?_)
    · simp at h1
      simp -implicitDefEqProofs []
      have hone := i_decoded G code hb a h1 hl
      by_cases hg : decGood code a = true
      · rw [if_pos hg, if_pos hg] at hone
        refine hone.use ?_
        have hlen : (rawX code ps).length = ps.length := raw_len _ _
        have hz2 := decSz_two code a
        have hgl := decGood_le hg
        have hw : IntKind.i64.wrap ((a : Int) + decSz code a) = ((a + decSz code a : Nat) : Int) := i64_nat (by omega) (by omega)
        have hz : ¬ decSz code a = 0 := by omega
        have hnew := mpF_new a (.p (.int .i64 (ps.length : Int))) 0 ps (fun q hq => by have := i4 q hq; omega)
        simp -implicitDefEqProofs [hlen, hw, hz, hnew, Mins.cs]
        refine ⟨⟨by omega, by omega⟩, ⟨ps ++ [a], a + decSz code a⟩, ⟨?_, ?_, ?_, ?_⟩, by simp only; omega, ?_⟩
        · rw [i1, decFrom_step h1 hg, Option.map_map]
          simp [Function.comp_def]
        · simp; omega
        · simp only; omega
        · intro q hq
          simp only [List.mem_append, List.mem_singleton] at hq ⊢
          rcases hq with hq | rfl
          · have := i4 q hq; omega
          · omega
        · have hne : ([(decI code a).av] : List (List AV)) ≠ [] := by simp
          simp only [idH, raw_app, List.map_append, List.map_cons, List.map_nil]
          rw [slE_app _ hne, rowE_app _ hne, mpF_app]
          refine wkt_pick [0, 1, 2, 6] rfl (by decide) (hw_row rfl (by simp [zMfn, belowL, below]) (hw_rowr (by simp [below]) (by simp [ren, renL, hlen]) (hw_ok (by simp) ?_ (hw_row rfl (by simpa [rawX] using av_pure (rawX code (ps ++ [a]))) hw_nil)))) ?_
          · rw [← mpF_app]; exact mpF_pure _ _
          · simp [below, ren, bysL]
      · rw [if_neg hg, if_neg hg] at hone
        refine hone.use ?_
        have hd : decF p s code = none := by rw [decF, i1, decFrom_bad h1 hg]; rfl
        simp -implicitDefEqProofs [hd, zMfn, zMi, Mins.cs]
    · simp at h1
      have hdf : decFrom code 0 = some ps := by rw [i1, decFrom_end (by omega)]; simp
      have hres : decF p s code = if decOkF code (decFn p s code ps) then some (decFn p s code ps) else none := by rw [decF, hdf]; rfl
      have hrl := raw_len code ps
      simp -implicitDefEqProofs [hrl]
      refine loopA (fun i : Nat => tsOf 93 [(0, .p (.int .i64 p)), (1, .p (.int .i64 s)), (2, .p (bysL code)), (6, .ptr 0 3 0 0), (7, .p (.bool false)), (8, .ptr 1 3 0 0), (9, .mp 2), (51, slE 3 5 ((linkAt code ps i).map Mins.av)), (52, .p (.int .i64 ps.length)), (53, .p (.int .i64 i))])
        (fun i => idH p s (linkAt code ps i) ps) (fun i => i ≤ ps.length) (fun i => ps.length - i) 0 (by simp) ?_ ?_
      · simp only [idH, linkAt_zero]
        refine wkt_ren [0, 1, 2, 3] (by simp) (by simp) (by decide) (hw_row rfl (by simp [zMfn, belowL, below]) (hw_rowr (by simp [below]) (by simp [ren, renL]) (hw_ok rfl (mpF_pure _ _) (hw_rowE rfl (av_pure _) hw_nil)))) ?_
        simp [below, ren, bysL]
      · intro i hi
        have hll := linkAt_len (code := code) hi
        simp -implicitDefEqProofs [idH, hll]
        refine cndb (fun h2 => ?_) (fun h2 => ?_)
        · simp at h2
          have hne : (linkAt code ps i).map Mins.av ≠ [] := by intro e; rw [List.map_eq_nil_iff] at e; rw [e] at hll; simp at hll; omega
          have hll1 := linkAt_len (code := code) (ps := ps) (i := i + 1) h2
          have hne1 : (linkAt code ps (i + 1)).map Mins.av ≠ [] := by intro e; rw [List.map_eq_nil_iff] at e; rw [e] at hll1; simp at hll1; omega
          have hg := linkAt_get (code := code) h2
          have hwk : ∀ (l : List (Nat × AV)) (os : List AO), TWA [0, 1, 2, 3] l [(0, .p (.int .i64 p)), (1, .p (.int .i64 s)), (2, .p (bysL code)), (6, .ptr 0 3 0 0), (7, .p (.bool false)), (8, .ptr 1 3 0 0), (9, .mp 2), (51, .sl 3 5 0 ps.length), (52, .p (.int .i64 ps.length)), (53, .p (.int .i64 ((i + 1 : Nat) : Int)))] →
              Wk 0 (tsOf 93 l) (.row 3 [zMfn] :: .row 3 [[.p (.int .i64 p), .p (.int .i64 s), .sl 3 5 0 ps.length]] :: .mp (mpF 0 ps) :: .row 5 ((linkAt code ps (i + 1)).map Mins.av) :: os)
                (tsOf 93 [(0, .p (.int .i64 p)), (1, .p (.int .i64 s)), (2, .p (bysL code)), (6, .ptr 0 3 0 0), (7, .p (.bool false)), (8, .ptr 1 3 0 0), (9, .mp 2), (51, slE 3 5 ((linkAt code ps (i + 1)).map Mins.av)), (52, .p (.int .i64 ps.length)), (53, .p (.int .i64 ((i + 1 : Nat) : Int)))]) (idH p s (linkAt code ps (i + 1)) ps) := fun l os hl => by
            rw [idH, slE_ne hne1, rowE_ne hne1, List.length_map, hll1]
            exact wkt_pick [0, 1, 2, 3] rfl (by decide) (hw_row rfl (by simp [zMfn, belowL, below]) (hw_rowr (by simp [below]) (by simp [ren, renL]) (hw_ok rfl (mpF_pure _ _) (hw_row rfl (av_pure _) hw_nil)))) hl
          have hsl : slE 3 5 ((linkAt code ps i).map Mins.av) = .sl 3 5 0 ps.length := by rw [slE_ne hne, List.length_map, hll]
          have hrw := rowE_ne (sz := 5) hne
          clear hll
          simp -implicitDefEqProofs [hsl, hrw, hg, h2, Mins.av_eq]
          refine (i_jumpOp G _).use ?_
          have hjj : ((decI code ps[i]).op == 20 || (decI code ps[i]).op == 21) = jmp (decI code ps[i]) := rfl
          rw [hjj]
          cases hj : jmp (decI code ps[i]) with
          | true =>
            have hset := linkAt_set (code := code) h2
            rw [linkX, hj] at hset
            have hmg := mpF_get (decI code ps[i]).n 0 ps
            cases hfi : ps.findIdx? (fun (p : Nat) => (p : Int) == (decI code ps[i]).n) with
            | none =>
              have hd : decF p s code = none := by rw [hres, decOkF_target h2 hj (atOf_none hfi)]; rfl
              rw [hfi] at hmg
              simp -implicitDefEqProofs [hmg, hd, zMfn]
            | some q =>
              have hat := atOf_some hfi
              rw [hfi] at hmg
              have hs2 : ((linkAt code ps i).map Mins.av).set i [.p (.int .i64 (decI code ps[i]).op), .p (.int .i64 (decI code ps[i]).a), .p (.int .i64 (decI code ps[i]).b), .p (.int .i64 (decI code ps[i]).c), .p (.int .i64 (q : Int))] = (linkAt code ps (i + 1)).map Mins.av := by
                rw [← hset, List.map_set, hat]; rfl
              simp -implicitDefEqProofs [hmg, hg, h2, Mins.av_eq, splice, hs2, w1 (i := i) (by omega)]
              refine ⟨i + 1, h2, by omega, hwk _ _ (by simp [below, ren, bysL])⟩
          | false =>
            have hnx := linkAt_next h2 hj
            simp -implicitDefEqProofs [w1 (i := i) (by omega)]
            refine ⟨i + 1, h2, by omega, ?_⟩
            rw [hnx]
            exact hwk _ _ (by simp [below, ren, bysL])
        · simp at h2
          have hie : i = ps.length := by omega
          subst hie
          simp only [linkAt_all]
          have hv : ∀ h : List AO, h[3]? = some (rowE 5 ((linked code ps).map Mins.av)) → View h (slE 3 5 ((linked code ps).map Mins.av)) (insL (linked code ps)) := fun h e => insV e
          have hlen : (decFn p s code ps).ins.length ≤ 1000000 := by rw [decFn]; simp only; rw [linked_len]; omega
          simp -implicitDefEqProofs []
          by_cases hc : codeOk (decFn p s code ps) = true
          rotate_left
          · have hd : decF p s code = none := by rw [hres, if_neg]; simp [decOkF, hc]
            refine (AC.lend ((i_EncodeFn2 G hG (decFn p s code ps) hlen (linked_lo hb) hc).ac (by simp [belowL, below]) (by simp [belowL, below]) []) (.agg (.keep (by simp [below]) (.keep (by simp [below]) (.one (hv _ rfl) .nil))) .nil) rfl rfl).mono ?_
            rintro r h ⟨rfl, rfl⟩
            simp -implicitDefEqProofs [callR_nxt, shiftV, shiftL, hd, zMfn]
          refine (AC.lend (i_EncodeFn1 G hG (decFn p s code ps) hlen (linked_lo hb) hc) (.agg (.keep (by simp [below]) (.keep (by simp [below]) (.one (hv _ rfl) .nil))) .nil) rfl (by simp [cleanO, bysO, cleanL, clean])).mono ?_
          rintro r h ⟨rfl, rfl⟩
          have hpos := codeOk_pos hc
          have hne : (linked code ps).map Mins.av ≠ [] := by intro e; rw [List.map_eq_nil_iff] at e; simp [decFn, e] at hpos
          simp -implicitDefEqProofs [callR_nxt, shiftV, shiftL, shiftO_bys]
          refine (VF.lend (i_bytesEqual G (encB (decFn p s code ps)) code (encB_ok _) hb) (.one (bysO_view rfl) (.keep (by simp [below]) .nil)) rfl).mono ?_
          rintro r h ⟨rfl, rfl⟩
          by_cases he : encB (decFn p s code ps) = code
          · have hd : decF p s code = some (decFn p s code ps) := by rw [hres, if_pos]; simp [decOkF, hc, he]
            simp -implicitDefEqProofs [callR_nxt, he, hd, slE_ne hne, rowE_ne hne]
            exact ⟨by simp [zMfn], 3, rfl, rfl⟩
          · have hd : decF p s code = none := by rw [hres, if_neg]; simp [decOkF, he]
            simp -implicitDefEqProofs [callR_nxt, he, hd, zMfn]
theorem i_DecodeFn1 {p s : Int} {code : List Int} (hb : BytesOk code) (hl : code.length ≤ 1048576) {f : Mfn} (hd : decF p s code = some f) :
    AC Tryd.prog G n_impl_DecodeFn [.p (.int .i64 p), .p (.int .i64 s), .p (bysL code)] [] fun x h => x = .ret (.tup [.agg (f.ov 0), .p (.bool true)]) ∧ h = [insO f.ins] := by
  refine (o_iDecodeFn G hG p s code hb hl).gc (fun t v h e => ?_) fun v h e => ?_
  · rw [hd] at e
    obtain ⟨_, e, _⟩ := e; cases e
  · rw [hd] at e
    obtain ⟨id, e1, e2⟩ := e
    cases e1
    exact ⟨.tup [.agg (f.ov 0), .p (.bool true)], [insO f.ins], ⟨[id], by simp, by simp, by simp, by simp [below, belowL, Mfn.ov], by simp [ren, renL, Mfn.ov], hw_row e2 (av_pure _) hw_nil⟩, rfl, rfl⟩
theorem i_DecodeFn2 {p s : Int} {code : List Int} (hb : BytesOk code) (hl : code.length ≤ 1048576) (hd : decF p s code = none) :
    VF Tryd.prog G n_impl_DecodeFn [.p (.int .i64 p), .p (.int .i64 s), .p (bysL code)] (.tup [.agg zMfn, .p (.bool false)]) :=
  (o_iDecodeFn G hG p s code hb hl).mono fun x h e => by rw [hd] at e; exact e
end Go.Proofs.YtbbobekgnclkfaaDoor
namespace Go.Proofs.YtbbobekgnclkfaaDoor
open Go Go.Aw
set_option maxRecDepth 100000
set_option maxHeartbeats 4000000
def plaF (f : Mfn) : List Nat := if codeOk f then plcs f.ins (longs f.ins) f.ins.length else []
theorem plaF_len (f : Mfn) : (plaF f).length = if codeOk f then f.ins.length else 0 := by
  unfold plaF; split
  · exact plcs_len ..
  · rfl
def clsI (x : Mins) (p : Nat) : List Int := if x.op = 14 then [(p : Int) + 1] else []
def clsT (f : Mfn) (i : Nat) : List Int := ((List.zip f.ins (plaF f)).take i).flatMap fun x => clsI x.1 x.2
def callsF (f : Mfn) : List Int := (List.zip f.ins (plaF f)).flatMap fun x => clsI x.1 x.2
theorem clsT_zero (f : Mfn) : clsT f 0 = [] := rfl
theorem clsT_succ {f : Mfn} {i : Nat} (h1 : i < f.ins.length) (h2 : i < (plaF f).length) : clsT f (i + 1) = clsT f i ++ clsI f.ins[i] (plaF f)[i] := by
  have hz : i < (List.zip f.ins (plaF f)).length := by rw [List.length_zip]; omega
  rw [clsT, take_succ' hz, List.flatMap_append, List.getElem_zip]
  simp [clsT]
theorem clsT_all {f : Mfn} {i : Nat} (h : (plaF f).length ≤ i) : clsT f i = callsF f := by
  rw [clsT, List.take_of_length_le (by rw [List.length_zip]; omega)]; rfl
theorem clsT_len (f : Mfn) (i : Nat) : (clsT f i).length ≤ i := by
  have key : ∀ l : List (Mins × Nat), (l.flatMap fun x => clsI x.1 x.2).length ≤ l.length := by
    intro l
    induction l with
    | nil => simp
    | cons a r ih =>
      rw [List.flatMap_cons, List.length_append, List.length_cons]
      have : (clsI a.1 a.2).length ≤ 1 := by unfold clsI; split <;> simp
      omega
  have := key ((List.zip f.ins (plaF f)).take i)
  rw [List.length_take] at this
  exact Nat.le_trans this (Nat.min_le_left ..)
theorem plc_mono (ins : List Mins) (L : List Bool) {i k : Nat} (h : i ≤ k) : plc ins L i ≤ plc ins L k := by
  unfold plc
  generalize List.zipWith sizeB ins L = l
  have e : l.take i = (l.take k).take i := by rw [List.take_take, Nat.min_eq_left h]
  rw [e]
  conv => rhs; rw [← List.take_append_drop i (l.take k), List.sum_append]
  omega
theorem plcs_le {f : Mfn} : ∀ p ∈ plaF f, p ≤ 8000 := by
  intro p hp
  by_cases hc : codeOk f = true
  · rw [plaF, if_pos hc] at hp
    have h8 : plc f.ins (longs f.ins) f.ins.length ≤ 8000 := by simp only [codeOk, Bool.and_eq_true, decide_eq_true_eq] at hc; exact hc.2
    obtain ⟨i, hi, rfl⟩ := List.mem_map.1 hp
    rw [List.mem_range] at hi
    exact Nat.le_trans (plc_mono _ _ (Nat.le_of_lt hi)) h8
  · rw [plaF, if_neg hc] at hp; cases hp
variable (G : Glob)
theorem s_MinsPlaces (f : Mfn) (hn : f.ins.length ≤ 1000000) : VF Tryd.prog G n_spec_MinsPlaces [.agg (f.cs.map .p)] (.p (intsL (plaF f))) := by
  have key : AC Tryd.prog G n_spec_MinsPlaces [.agg (f.cs.map .p)] [] fun x h => x = .ret (.p (intsL (plaF f))) ∨ (∃ id, x = .ret (.sl id 1 0 0) ∧ h[id]? = some (intsO []) ∧ plaF f = []) := by
    refine AC.go k_spec_MinsPlaces ?_
    simp -implicitDefEqProofs [F_spec_MinsPlaces]
    refine (s_l25Can G f hn).use ?_
    by_cases hc : codeOk f = true
    rotate_left
    · have hp : plaF f = [] := by rw [plaF, if_neg hc]
      simp -implicitDefEqProofs [hc, intsO, hp]
    have hal : machOk (aloneF (mostS f.ins) f) = true := by simp [codeOk] at hc; exact hc.1
    have hf := fine_of_alone hal
    have hp : plaF f = plcs f.ins (longs f.ins) f.ins.length := by rw [plaF, if_pos hc]
    simp -implicitDefEqProofs [hc]
    refine (s_l25Long G f hf).use ?_
    simp -implicitDefEqProofs
    refine (s_l25Places G f _ (longs_len _) hf).use ?_
    simp -implicitDefEqProofs [hp]
  refine key.freezeR (fun t v h e => ?_) fun v h e => ?_
  · rcases e with e | ⟨_, e, _⟩ <;> cases e
  · rcases e with e | ⟨id, e, e2, e3⟩
    · cases e; exact .keep (by simp [below]) .nil
    · cases e
      rw [e3]
      exact .one (by have := intsO_view e2; exact this) .nil
theorem pla_ins (f : Mfn) : (plaF f).length ≤ f.ins.length := by rw [plaF_len]; split <;> omega
theorem k_l26Calls (f : Mfn) (hn : f.ins.length ≤ 1000000) : AC Tryd.prog G n_spec_l26Calls [.agg (f.cs.map .p)] [] fun x h => ∃ id, x = .ret (.sl id 1 0 (callsF f).length) ∧ h[id]? = some (numO (callsF f)) := by
  refine AC.go k_spec_l26Calls ?_
  have hpi := pla_ins f
  have hps : ∀ l, intsL l = .lst 1 (l.map fun (n : Nat) => [.int .i64 (n : Int)]) := fun _ => rfl
  have hin : insL f.ins = .lst 5 (f.ins.map Mins.cs) := rfl
  simp -implicitDefEqProofs [F_spec_l26Calls]
  refine (s_MinsPlaces G f hn).use ?_
  simp -implicitDefEqProofs []
  refine loopA (fun i : Nat => tsOf 31 [(1, .ptr 0 3 0 0), (3, .sl 1 1 0 (clsT f i).length), (4, .p (intsL (plaF f))), (5, .p (.int .i64 i))]) (fun i => [.row 3 [f.cs.map .p], numO (clsT f i)])
    (fun i => i ≤ (plaF f).length) (fun i => (plaF f).length - i) 0 (by simp) ?_ ?_
  · refine wkt_same ?_ ?_ ?_
    · simp
    · simp [okO, clsT_zero, numO]
    simp [below, clsT_zero]
  · intro i hi
    simp -implicitDefEqProofs [hps]
    refine cndb (fun h1 => ?_) (fun h1 => ?_)
    · simp at h1
      have h2 : i < f.ins.length := by omega
      have hg1 := List.getElem?_eq_getElem h2
      have hg2 := List.getElem?_eq_getElem h1
      have hle : (plaF f)[i] ≤ 8000 := plcs_le _ (List.getElem_mem h1)
      have hsu := clsT_succ h2 h1
      have hcl := clsT_len f i
      have hnb : ∀ l, numO l = .row 1 (l.map fun n => [.p (.int .i64 n)]) := fun _ => rfl
      simp -implicitDefEqProofs [Mfn.cs, hg1, Mins.cs]
      by_cases ho : f.ins[i].op = 14
      · have hw : IntKind.i64.wrap (((plaF f)[i] : Int) + 1) = ((plaF f)[i] : Int) + 1 := i64_small (by omega) (by omega)
        rw [clsI, if_pos ho] at hsu
        clear hle
        simp -implicitDefEqProofs [Mfn.cs, hg1, hg2, Mins.cs, ho, hw, hnb]
        refine ⟨by omega, i + 1, h1, by omega, wkt_pick [0, 3] rfl (by simp) (hw_row rfl (by simp) (hw_row (by simp [hnb, hsu, List.take_of_length_le]) (by simp) hw_nil)) ?_⟩
        simp [below, ren, hps, hsu, w1 (i := i) (by omega)]
      · rw [clsI, if_neg ho, List.append_nil] at hsu
        clear hle
        simp -implicitDefEqProofs [Mfn.cs, hg1, hg2, Mins.cs, ho]
        refine ⟨i + 1, h1, by omega, wkt_pick [0, 1] rfl (by simp) (hw_row rfl (by simp) (hw_row (by simp [numO, hsu]; done) (by simp) hw_nil)) ?_⟩
        simp [below, ren, hps, hsu, w1 (i := i) (by omega)]
    · simp at h1
      have := clsT_all (f := f) (i := i) h1
      simp -implicitDefEqProofs [this]
theorem s_l26Calls (f : Mfn) (hn : f.ins.length ≤ 1000000) : VF Tryd.prog G n_spec_l26Calls [.agg (f.cs.map .p)] (.p (numL (callsF f))) := by
  refine (k_l26Calls G f hn).freezeR (fun t v h ⟨id, e, _⟩ => by cases e) fun v h ⟨id, e1, e2⟩ => ?_
  cases e1
  exact .one (numO_view e2) .nil
theorem o_l26Calls (f : Mfn) (hn : f.ins.length ≤ 1000000) : AC Tryd.prog G n_spec_l26Calls [.agg (f.cs.map .p)] [] fun x h => x = .ret (.sl 0 1 0 (callsF f).length) ∧ h = [numO (callsF f)] := by
  refine (k_l26Calls G f hn).gc (fun t v h ⟨id, e, _⟩ => by cases e) fun v h ⟨id, e1, e2⟩ => ?_
  cases e1
  exact ⟨.sl 0 1 0 (callsF f).length, [numO (callsF f)], ⟨[id], by simp, by simp, by simp, by simp [below], by simp [ren], hw_row e2 (fun x hx => by obtain ⟨m, _, rfl⟩ := List.mem_map.1 hx; simp [belowL, below]) hw_nil⟩, rfl, rfl⟩
end Go.Proofs.YtbbobekgnclkfaaDoor
namespace Go.Proofs.YtbbobekgnclkfaaDoor
open Go Go.Aw
set_option maxRecDepth 100000
set_option maxHeartbeats 4000000
theorem fnOk_of_code {f : Mfn} (hc : codeOk f = true) : fnOk (mostS f.ins) f = true := by
  simp only [codeOk, Bool.and_eq_true] at hc
  have h := hc.1
  simp only [machOk, Bool.and_eq_true, decide_eq_true_eq] at h
  have := fnsOk_get h.2 (i := mostS f.ins) (f := f) (by simp [aloneF])
  simpa using this
theorem call_n {f : Mfn} (hc : codeOk f = true) {x : Mins} (hx : x ∈ f.ins) (ho : x.op = 14) : 0 ≤ x.n ∧ x.n < 4 := by
  have h := fnOk_of_code hc
  simp only [fnOk, Bool.and_eq_true, List.all_eq_true] at h
  have hi := h.2 x hx
  simp only [insOk, Bool.and_eq_true] at hi
  have h5 := hi.2
  have hm : mostS f.ins ≤ 4 := by have := mostT_le f.ins f.ins.length; rwa [mostT, List.take_of_length_le (Nat.le_refl _)] at this
  simp [fN, mostN, ho, inR] at h5
  omega
theorem encT_le {ins : List Mins} {L : List Bool} {i k : Nat} (h : i ≤ k) : ∃ r, encT ins L k = encT ins L i ++ r := by
  induction k with
  | zero => exact ⟨[], by rw [show i = 0 by omega]; simp⟩
  | succ k ih =>
    rcases Nat.lt_or_ge k i with h1 | h1
    · exact ⟨[], by rw [show i = k + 1 by omega]; simp⟩
    · obtain ⟨r, e⟩ := ih h1
      exact ⟨r ++ encI ins L k, by rw [encT_succ, e, List.append_assoc]⟩
/-- The byte behind a call's own. -/
theorem call_at {f : Mfn} {i : Nat} (h1 : i < f.ins.length) (ho : f.ins[i].op = 14) : (encB f)[plc f.ins (longs f.ins) i + 1]? = some (u8 f.ins[i].n) := by
  have hL := longs_len f.ins
  obtain ⟨r, e⟩ := encT_le (ins := f.ins) (L := longs f.ins) (i := i + 1) (k := f.ins.length) h1
  have hs := encT_size hL i (Nat.le_of_lt h1)
  have hj : jmp f.ins[i] = false := by simp [jmp, ho]
  have he : encI f.ins (longs f.ins) i = [u8 14, u8 f.ins[i].n] := by
    have h2 : i < (longs f.ins).length := by omega
    simp only [encI, List.getElem?_eq_getElem h1, List.getElem?_eq_getElem h2, hj]
    simp [plainB, ho, inR]
  rw [encB, e, encT_succ, he, List.append_assoc, List.getElem?_append_right (by omega), hs]
  simp
def blankI (x : Mins) : Mins := if x.op = 14 then { x with n := 0 } else x
def blankF (f : Mfn) : Mfn := { f with ins := f.ins.map blankI }
theorem decF_some {p s : Int} {code : List Int} {f : Mfn} (h : decF p s code = some f) : codeOk f = true ∧ encB f = code := by
  unfold decF at h
  rw [Option.bind_eq_some_iff] at h
  obtain ⟨ps, _, h2⟩ := h
  split at h2
  · rename_i hk
    cases h2
    simp only [decOkF, Bool.and_eq_true, decide_eq_true_eq] at hk
    exact hk
  · cases h2
/-- Whether an object is well made. -/
def objOk (o : Obj) : Bool := match decF o.params o.slots o.code with
  | none => false
  | some f => isName o.name && decide (callsF f = o.calls) && decide (o.names.length = o.calls.length) && o.names.all isName && decide (f = blankF f)
theorem sum_ge : ∀ {l : List (List UInt8)} {x : List UInt8}, x ∈ l → x.length ≤ (l.map List.length).sum
  | y :: r, x, h => by
    rw [List.map_cons, List.sum_cons]
    rcases List.mem_cons.1 h with rfl | h
    · omega
    · have := sum_ge h; omega
theorem words_le {o : Obj} (hz : szO o ≤ 1048576) : ∀ x ∈ o.names, x.length ≤ 140737488355328 := fun x hx => by
  have h := sum_ge hx
  have hsz : szO o = o.name.length + o.code.length + o.calls.length + szW o.names := rfl
  have hwz : szW o.names = o.names.length + (o.names.map List.length).sum := rfl
  omega
variable (G : Glob)
end Go.Proofs.YtbbobekgnclkfaaDoor
namespace Go.Proofs.YtbbobekgnclkfaaDoor
open Go Go.Aw
set_option maxRecDepth 100000
set_option maxHeartbeats 4000000
variable (G : Glob)
theorem cellsEq_ins (x y : Mins) : cellsEq [0, 0, 0, 0, 0] [.p (.int .i64 x.op), .p (.int .i64 x.a), .p (.int .i64 x.b), .p (.int .i64 x.c), .p (.int .i64 x.n)] [.p (.int .i64 y.op), .p (.int .i64 y.a), .p (.int .i64 y.b), .p (.int .i64 y.c), .p (.int .i64 y.n)] = some (decide (x = y)) := by
  have : cellsEq [0, 0, 0, 0, 0] [.p (.int .i64 x.op), .p (.int .i64 x.a), .p (.int .i64 x.b), .p (.int .i64 x.c), .p (.int .i64 x.n)] [.p (.int .i64 y.op), .p (.int .i64 y.a), .p (.int .i64 y.b), .p (.int .i64 y.c), .p (.int .i64 y.n)]
    = some (decide (x.op = y.op) && (decide (x.a = y.a) && (decide (x.b = y.b) && (decide (x.c = y.c) && (decide (x.n = y.n) && true))))) := rfl
  rw [this]
  cases x; cases y
  simp [Bool.eq_iff_iff]
theorem i_EqualMins (xs ys : List Mins) (hb : xs.length ≤ 1048576) : VF Tryd.prog G n_slices_Equal_impl_Mins [.p (insL xs), .p (insL ys)] (.p (.bool (decide (xs = ys)))) := by
  refine AC.go k_slices_Equal_impl_Mins ?_
  simp -implicitDefEqProofs [F_slices_Equal_impl_Mins, insL]
  refine cndb (fun h => ?_) (fun h => ?_)
  · have h' : xs ≠ ys := by rintro rfl; simp at h
    simp -implicitDefEqProofs [h']
  have h : xs.length = ys.length := by simp at h; omega
  simp -implicitDefEqProofs []
  refine loopA (fun i : Nat => tsOf 26 [(0, .p (insL xs)), (1, .p (insL ys)), (11, .p (insL xs)), (12, .p (.int .i64 xs.length)), (13, .p (.int .i64 i))]) (fun _ => []) (fun i => i ≤ xs.length ∧ xs.take i = ys.take i) (fun i => xs.length - i) 0 (by simp) ?_ ?_
  · exact wkt_nil rfl (by simp [below, insL, h])
  intro i ⟨hi, he⟩
  simp -implicitDefEqProofs [insL]
  refine cndb (fun h1 => ?_) (fun h1 => ?_)
  · simp at h1
    have h1 : i < ys.length := by omega
    have h1' : i < xs.length := by omega
    have hx := List.getElem?_eq_getElem h1'
    have hy := List.getElem?_eq_getElem h1
    by_cases h3 : xs[i] = ys[i]
    · simp -implicitDefEqProofs [hx, hy, h3, Mins.cs, cellsEq_ins]
      exact ⟨i + 1, ⟨h1', take_succ_eq h1' h1 h3 he⟩, by omega, wkt_nil rfl (by simp [below, insL, w1 (i := i) (by omega)])⟩
    · have h' : xs ≠ ys := by rintro rfl; exact h3 rfl
      simp -implicitDefEqProofs [hx, hy, h', h3, Mins.cs, cellsEq_ins]
  · simp at h1
    have h1 : ys.length ≤ i := by omega
    have h' : xs = ys := take_done' h h1 he
    simp -implicitDefEqProofs [h']
theorem i_sameMfn (x y : Mfn) (hb : x.ins.length ≤ 1048576) : VF Tryd.prog G n_impl_sameMfn [.agg (x.cs.map .p), .agg (y.cs.map .p)] (.p (.bool (decide (x = y)))) := by
  refine AC.go k_impl_sameMfn ?_
  have hxy : (x = y) ↔ (x.params = y.params ∧ x.slots = y.slots ∧ x.ins = y.ins) := by cases x; cases y; simp
  have hil : ∀ f : Mfn, insL f.ins = .lst 5 (f.ins.map Mins.cs) := fun _ => rfl
  by_cases h1 : x.params = y.params
  case neg => simp -implicitDefEqProofs [F_impl_sameMfn, Mfn.cs, hxy, h1]
  by_cases h2 : x.slots = y.slots
  case neg => simp -implicitDefEqProofs [F_impl_sameMfn, Mfn.cs, hxy, h1, h2]
  simp -implicitDefEqProofs [F_impl_sameMfn, Mfn.cs, h1, h2]
  refine (i_EqualMins G x.ins y.ins hb).use ?_
  simp -implicitDefEqProofs [hxy, h1, h2]
variable (hG : G g_forms = some pvForms)
include hG
theorem i_MinsPlaces (f : Mfn) (hn : f.ins.length ≤ 1000000) (hlo : ∀ x ∈ f.ins, x.op = 14 → -9223372036854775808 ≤ x.n) : VF Tryd.prog G n_impl_MinsPlaces [.agg (f.cs.map .p)] (.p (intsL (plaF f))) := by
  by_cases hc : codeOk f = true
  · have key : AC Tryd.prog G n_impl_MinsPlaces [.agg (f.cs.map .p)] [] fun x h => ∃ id, x = .ret (.sl id 1 0 f.ins.length) ∧ h[id]? = some (intsO (plcs f.ins (longs f.ins) f.ins.length)) := by
      refine AC.go k_impl_MinsPlaces ?_
      simp -implicitDefEqProofs [F_impl_MinsPlaces]
      refine (AC.lift (i_layoutOf1 G hG f hn hlo hc) (by simp [belowL, below]) rfl ?_).mono ?_
      · simp only [List.all_cons, List.all_nil, nofnO_bool, nofnO_ints]; rfl
      rintro r h ⟨rfl, rfl⟩
      simp -implicitDefEqProofs [callR_nxt, shiftO_bool, shiftO_ints, shiftO_fn, shiftO_lay, shiftV, shiftL]
      simp -implicitDefEqProofs [Mfn.cs, layC]
    have hp : plaF f = plcs f.ins (longs f.ins) f.ins.length := by rw [plaF, if_pos hc]
    refine key.freezeR (fun t v h ⟨id, e, _⟩ => by cases e) fun v h ⟨id, e1, e2⟩ => ?_
    cases e1
    rw [hp]
    exact .one (by have := intsO_view e2; rwa [plcs_len] at this) .nil
  · have hp : plaF f = [] := by rw [plaF, if_neg hc]
    have key : AC Tryd.prog G n_impl_MinsPlaces [.agg (f.cs.map .p)] [] fun x _ => x = .ret .nils := by
      refine AC.go k_impl_MinsPlaces ?_
      simp -implicitDefEqProofs [F_impl_MinsPlaces]
      refine (i_layoutOf2 G hG f hn hlo hc).use ?_
      simp -implicitDefEqProofs []
    refine key.freezeR (fun t v h e => by cases e) fun v h e => ?_
    cases e
    rw [hp]
    exact .one (View.nils 1) .nil
end Go.Proofs.YtbbobekgnclkfaaDoor
namespace Go.Proofs.YtbbobekgnclkfaaDoor
open Go Go.Aw
set_option maxRecDepth 100000
set_option maxHeartbeats 4000000
variable (G : Glob)
def numR (l : List Int) : List (List AV) := l.map fun n => [.p (.int .i64 n)]
theorem numR_app (a b : List Int) : numR (a ++ b) = numR a ++ numR b := by simp [numR]
theorem numR_pure (l : List Int) : ∀ x ∈ numR l, belowL 0 x := by
  intro x hx; obtain ⟨m, _, rfl⟩ := List.mem_map.1 hx; simp [belowL, below]
theorem numR_view {h : List AO} {id : Nat} {l : List Int} (e : h[id]? = some (rowE 1 (numR l))) : View h (slE id 1 (numR l)) (numL l) := by
  have hh : numR l = (l.map fun n => [PV.int .i64 n]).map (·.map .p) := by simp [numR]
  rw [hh] at e ⊢
  exact view_E e (fun x hx => by obtain ⟨b, _, rfl⟩ := List.mem_map.1 hx; rfl)
theorem nofnO_insA (l : List Mins) : nofnO (insO l) = true := by
  simp only [nofnO, insO, List.all_map, List.all_eq_true]
  intro m _
  exact nofnL_pure m.cs
section
theorem k_Clone (xs : List Mins) (hx : xs ≠ []) (hb : xs.length ≤ 1000000) : AC Tryd.prog G n_slices_Clone_impl_Mins [.p (insL xs)] [] fun x h => ∃ id, x = .ret (.sl id 5 0 xs.length) ∧ h[id]? = some (insO xs) := by
  obtain ⟨y, r, rfl⟩ : ∃ y r, xs = y :: r := by cases xs with | nil => exact absurd rfl hx | cons y r => exact ⟨y, r, rfl⟩
  refine AC.go k_slices_Clone_impl_Mins ?_
  have hin : insL (y :: r) = .lst 5 (y.cs :: r.map Mins.cs) := rfl
  have hl : (y :: r).length = r.length + 1 := rfl
  rw [hl] at hb
  simp -implicitDefEqProofs [F_slices_Clone_impl_Mins, hin]
  refine ⟨by omega, ?_⟩
  simp only [insO, List.map_cons]
  rfl
theorem o_Clone (xs : List Mins) (hx : xs ≠ []) (hb : xs.length ≤ 1000000) : AC Tryd.prog G n_slices_Clone_impl_Mins [.p (insL xs)] [] fun x h => x = .ret (.sl 0 5 0 xs.length) ∧ h = [insO xs] := by
  refine (k_Clone G xs hx hb).gc (fun t v h ⟨id, e, _⟩ => by cases e) fun v h ⟨id, e1, e2⟩ => ?_
  cases e1
  exact ⟨.sl 0 5 0 xs.length, [insO xs], ⟨[id], by simp, by simp, by simp, by simp [below], by simp [ren], hw_row e2 (av_pure _) hw_nil⟩, rfl, rfl⟩
theorem k_cloneMfn (f : Mfn) (hx : f.ins ≠ []) (hb : f.ins.length ≤ 1000000) : AC Tryd.prog G n_impl_cloneMfn [.agg (f.cs.map .p)] [] fun x h => ∃ id, x = .ret (.agg (f.ov id)) ∧ h[id]? = some (insO f.ins) := by
  refine AC.go k_impl_cloneMfn ?_
  have hin : insL f.ins = .lst 5 (f.ins.map Mins.cs) := rfl
  simp -implicitDefEqProofs [F_impl_cloneMfn, Mfn.cs, ← hin]
  refine (AC.lift (o_Clone G f.ins hx hb) (by simp [belowL, below]) rfl ?_).mono ?_
  · simp only [List.all_cons, List.all_nil, nofnO_insA]; rfl
  rintro r h ⟨rfl, rfl⟩
  simp -implicitDefEqProofs [callR_nxt, shiftV, shiftL, shiftO_ins]
  exact ⟨2, rfl, rfl⟩
theorem o_cloneMfn (f : Mfn) (hx : f.ins ≠ []) (hb : f.ins.length ≤ 1000000) : AC Tryd.prog G n_impl_cloneMfn [.agg (f.cs.map .p)] [] fun x h => x = .ret (.agg (f.ov 0)) ∧ h = [insO f.ins] := by
  refine (k_cloneMfn G f hx hb).gc (fun t v h ⟨id, e, _⟩ => by cases e) fun v h ⟨id, e1, e2⟩ => ?_
  cases e1
  exact ⟨.agg (f.ov 0), [insO f.ins], ⟨[id], by simp, by simp, by simp, by simp [below, belowL, Mfn.ov], by simp [ren, renL, Mfn.ov], hw_row e2 (av_pure _) hw_nil⟩, rfl, rfl⟩
end
variable (hG : G g_forms = some pvForms)
include hG
theorem k_callBytes (f : Mfn) (hn : f.ins.length ≤ 1000000) (hlo : ∀ x ∈ f.ins, x.op = 14 → -9223372036854775808 ≤ x.n) : AC Tryd.prog G n_impl_callBytes [.agg (f.cs.map .p)] [] fun x h => ∃ id, x = .ret (slE id 1 (numR (callsF f))) ∧ h[id]? = some (rowE 1 (numR (callsF f))) := by
  refine AC.go k_impl_callBytes ?_
  have hpi := pla_ins f
  have hps : ∀ l, intsL l = .lst 1 (l.map fun (n : Nat) => [.int .i64 (n : Int)]) := fun _ => rfl
  simp -implicitDefEqProofs [F_impl_callBytes]
  refine (i_MinsPlaces G hG f hn hlo).use ?_
  simp -implicitDefEqProofs [hps]
  refine loopA (fun i : Nat => tsOf 28 [(1, .ptr 0 3 0 0), (3, slE 1 1 (numR (clsT f i))), (7, .p (intsL (plaF f))), (8, .p (.int .i64 (plaF f).length)), (9, .p (.int .i64 i))]) (fun i => [.row 3 [f.cs.map .p], rowE 1 (numR (clsT f i))])
    (fun i => i ≤ (plaF f).length) (fun i => (plaF f).length - i) 0 (by simp) ?_ ?_
  · simp only [clsT_zero, numR, List.map_nil, slE_nil, rowE_nil]
    exact wkt_dup [0, 0] (by simp) (by simp) (by simp [lives]) (hw_row rfl (by simp) (hw_dead (by simp) hw_nil)) (by simp [below, ren, hps])
  · intro i hi
    simp -implicitDefEqProofs [hps]
    refine cndb (fun h1 => ?_) (fun h1 => ?_)
    · simp at h1
      have h2 : i < f.ins.length := by omega
      have hg1 := List.getElem?_eq_getElem h2
      have hg2 := List.getElem?_eq_getElem h1
      have hle : (plaF f)[i] ≤ 8000 := plcs_le _ (List.getElem_mem h1)
      have hsu := clsT_succ h2 h1
      have hcl := clsT_len f i
      have hnl : (numR (clsT f i)).length = (clsT f i).length := by simp [numR]
      by_cases ho : f.ins[i].op = 14
      · have hw : IntKind.i64.wrap (((plaF f)[i] : Int) + 1) = ((plaF f)[i] : Int) + 1 := i64_small (by omega) (by omega)
        rw [clsI, if_pos ho] at hsu
        clear hle
        simp -implicitDefEqProofs [Mfn.cs, hg1, hg2, Mins.cs, ho, hw, hnl]
        refine ⟨by omega, i + 1, h1, by omega, ?_⟩
        rw [hsu, numR_app, slE_app _ (by simp [numR]), rowE_app _ (by simp [numR])]
        refine wkt_pick [0, 3] rfl (by decide) (hw_row rfl (by simp) (hw_row rfl (by rw [← numR_app]; exact numR_pure _) hw_nil)) ?_
        simp [below, ren, hps, hnl, numR, w1 (i := i) (by omega)]
      · rw [clsI, if_neg ho, List.append_nil] at hsu
        clear hle
        simp -implicitDefEqProofs [Mfn.cs, hg1, hg2, Mins.cs, ho]
        refine ⟨i + 1, h1, by omega, ?_⟩
        rw [hsu]
        exact wkt_pick [0, 1] rfl (by decide) (hw_row rfl (by simp) (hw_rowE rfl (numR_pure _) hw_nil)) (by simp [below, ren, hps, w1 (i := i) (by omega)])
    · simp at h1
      have := clsT_all (f := f) (i := i) h1
      simp -implicitDefEqProofs [this]
      exact ⟨1, rfl, rfl⟩
theorem i_callBytes (f : Mfn) (hn : f.ins.length ≤ 1000000) (hlo : ∀ x ∈ f.ins, x.op = 14 → -9223372036854775808 ≤ x.n) : VF Tryd.prog G n_impl_callBytes [.agg (f.cs.map .p)] (.p (numL (callsF f))) := by
  refine (k_callBytes G hG f hn hlo).freezeR (fun t v h ⟨id, e, _⟩ => by cases e) fun v h ⟨id, e1, e2⟩ => ?_
  cases e1
  exact .one (numR_view e2) .nil
end Go.Proofs.YtbbobekgnclkfaaDoor
namespace Go.Proofs.YtbbobekgnclkfaaDoor
open Go Go.Aw
set_option maxRecDepth 100000
set_option maxHeartbeats 4000000
variable (G : Glob)
/-- The first ones struck out. -/
def blankT (f : Mfn) (i : Nat) : List Mins := (f.ins.take i).map blankI ++ f.ins.drop i
theorem blankT_zero (f : Mfn) : blankT f 0 = f.ins := by simp [blankT]
theorem blankT_all (f : Mfn) : blankT f f.ins.length = (blankF f).ins := by simp [blankT, blankF]
theorem blankT_get {f : Mfn} {i : Nat} (h : i < f.ins.length) : (blankT f i)[i]? = some f.ins[i] := by
  rw [blankT, List.getElem?_append_right (by simp; omega)]
  simp [Nat.min_eq_left (Nat.le_of_lt h), h]
theorem blankT_set {f : Mfn} {i : Nat} (h : i < f.ins.length) : (blankT f i).set i (blankI f.ins[i]) = blankT f (i + 1) := by
  have hl : ((f.ins.take i).map blankI).length = i := by simp; omega
  rw [blankT, List.set_append_right _ _ (by omega), hl, Nat.sub_self, List.drop_eq_getElem_cons h, List.set_cons_zero, blankT, take_succ' h, List.map_append, List.append_assoc]
  rfl
theorem blankT_same {f : Mfn} {i : Nat} (h : i < f.ins.length) (ho : ¬ f.ins[i].op = 14) : blankT f (i + 1) = blankT f i := by
  rw [blankT, take_succ' h, List.map_append, List.append_assoc, blankT, List.drop_eq_getElem_cons h, List.map_cons, blankI, if_neg ho]
  rfl
theorem i_blank (f : Mfn) (hx : f.ins ≠ []) (hb : f.ins.length ≤ 1000000) : VF Tryd.prog G n_impl_blank [.agg (f.cs.map .p)] (.agg ((blankF f).cs.map .p)) := by
  have key : AC Tryd.prog G n_impl_blank [.agg (f.cs.map .p)] [] fun x h => ∃ id, x = .ret (.agg ((blankF f).ov id)) ∧ h[id]? = some (insO (blankF f).ins) := by
    refine AC.go k_impl_blank ?_
    have hin : insL f.ins = .lst 5 (f.ins.map Mins.cs) := rfl
    simp -implicitDefEqProofs [F_impl_blank]
    refine (AC.lift (o_cloneMfn G f hx hb) (by simp [belowL, below]) rfl ?_).mono ?_
    · simp only [List.all_cons, List.all_nil, nofnO_insA]; rfl
    rintro r h ⟨rfl, rfl⟩
    simp -implicitDefEqProofs [callR_nxt, shiftV, shiftL, shiftO_ins, Mfn.ov]
    refine loopA (fun i : Nat => tsOf 26 [(1, .ptr 0 3 0 0), (2, .ptr 1 3 0 0), (8, .p (.int .i64 f.ins.length)), (9, .p (.int .i64 i))]) (fun i => [.row 3 [[.p (.int .i64 f.params), .p (.int .i64 f.slots), .sl 2 5 0 f.ins.length]], .row 3 [zMfn], insO (blankT f i)])
      (fun i => i ≤ f.ins.length) (fun i => f.ins.length - i) 0 (by simp) ?_ ?_
    · rw [blankT_zero]
      refine wkt_pick [0, 1, 2] rfl (by decide) (hw_rowr (by simp [below]) (by simp [ren, renL]) (hw_row rfl (by simp [zMfn, belowL, below]) (hw_row rfl (av_pure _) hw_nil))) ?_
      simp [below, ren]
    · intro i hi
      simp -implicitDefEqProofs []
      refine cndb (fun h1 => ?_) (fun h1 => ?_)
      · simp at h1
        have hg := blankT_get h1
        have hbo : insO (blankT f i) = .row 5 ((blankT f i).map Mins.av) := rfl
        by_cases ho : f.ins[i].op = 14
        · have hs := blankT_set h1
          have hs2 : ((blankT f i).map Mins.av).set i [.p (.int .i64 14), .p (.int .i64 f.ins[i].a), .p (.int .i64 f.ins[i].b), .p (.int .i64 f.ins[i].c), .p (.int .i64 0)] = (blankT f (i + 1)).map Mins.av := by
            rw [← hs, List.map_set, blankI, if_pos ho, Mins.av_eq, ho]
          simp -implicitDefEqProofs [hbo, hg, h1, Mins.av_eq, ho, splice, hs2]
          refine ⟨i + 1, h1, by omega, ?_⟩
          refine wkt_pick [0, 1, 2] rfl (by decide) (hw_rowr (by simp [below]) (by simp [ren, renL]) (hw_row rfl (by simp [zMfn, belowL, below]) (hw_row rfl (av_pure _) hw_nil))) ?_
          simp [below, ren, w1 (i := i) (by omega)]
        · have hs := blankT_same h1 ho
          simp -implicitDefEqProofs [hbo, hg, h1, Mins.av_eq, ho]
          refine ⟨i + 1, h1, by omega, ?_⟩
          rw [hs]
          refine wkt_pick [0, 1, 2] rfl (by decide) (hw_rowr (by simp [below]) (by simp [ren, renL]) (hw_row rfl (by simp [zMfn, belowL, below]) (hw_row rfl (av_pure _) hw_nil))) ?_
          simp [below, ren, w1 (i := i) (by omega)]
      · simp at h1
        have hie : i = f.ins.length := by omega
        subst hie
        simp -implicitDefEqProofs [blankT_all]
        exact ⟨by simp [zMfn], 2, ⟨rfl, rfl, rfl, by simp [blankF]⟩, rfl⟩
  refine key.freezeR (fun t v h ⟨id, e, _⟩ => by cases e) fun v h ⟨id, e1, e2⟩ => ?_
  cases e1
  exact .agg (.keep (by simp [below]) (.keep (by simp [below]) (.one (insO_view e2) .nil))) .nil
def idxB (L : List (List UInt8)) : Int := match L.findIdx? (fun w => !isName w) with | some i => i | none => -1
theorem idxB_pos (L : List (List UInt8)) : decide (0 ≤ idxB L) = !(L.all isName) := by
  unfold idxB
  cases h : L.findIdx? (fun x => !isName x) with
  | none =>
    rw [List.findIdx?_eq_none_iff] at h
    have : L.all isName = true := List.all_eq_true.2 fun x hx => by have := h x hx; simpa using this
    simp [this]
  | some i =>
    rw [List.findIdx?_eq_some_iff_getElem] at h
    obtain ⟨h1, h2, _⟩ := h
    have : L.all isName = false := List.all_eq_false.2 ⟨_, List.getElem_mem h1, by simpa using h2⟩
    rw [this]; simp
variable (hK : G g_keys = some pvKeys)
include hK
theorem i_fnOf_1 (s : List UInt8) (hb : s.length ≤ 140737488355328) : VF Tryd.prog G n_impl_fnOf_1 [.p (.str s)] (.p (.bool (!isName s))) := by
  refine AC.go k_impl_fnOf_1 ?_
  simp -implicitDefEqProofs [F_impl_fnOf_1]
  refine (i_IsName G hK s hb).use ?_
  simp -implicitDefEqProofs []
theorem i_IndexNot (L : List (List UInt8)) (hb : L.length ≤ 1048576) (hw : ∀ x ∈ L, x.length ≤ 140737488355328) : VF Tryd.prog G n_slices_IndexFunc_string [.p (strL L), .fn (.func n_impl_fnOf_1) []] (.p (.int .i64 (idxB L))) := by
  refine AC.go k_slices_IndexFunc_string ?_
  have hsl : strL L = .lst 1 (L.map fun w => [.str w]) := rfl
  simp -implicitDefEqProofs [F_slices_IndexFunc_string, hsl]
  refine loopA (fun i : Nat => tsOf 19 [(0, .p (strL L)), (1, .fn (.func n_impl_fnOf_1) []), (6, .p (strL L)), (7, .p (.int .i64 L.length)), (8, .p (.int .i64 i))]) (fun _ => []) (fun i => i ≤ L.length ∧ ∀ w ∈ L.take i, isName w = true) (fun i => L.length - i) 0 (by simp) ?_ ?_
  · exact wkt_same (by simp) (by simp [okO]) (by simp [below, belowL, strL])
  · intro i ⟨hi, hn⟩
    simp -implicitDefEqProofs [hsl]
    refine cndb (fun h1 => ?_) (fun h1 => ?_)
    · simp at h1
      have hg := List.getElem?_eq_getElem h1
      simp -implicitDefEqProofs [hg]
      refine (i_fnOf_1 G hK _ (hw _ (List.getElem_mem h1))).use ?_
      by_cases he : isName L[i] = true
      · simp -implicitDefEqProofs [he]
        refine ⟨i + 1, ⟨h1, fun p hp => ?_⟩, by omega, wkt_same (by simp) (by simp [okO]) ?_⟩
        · rw [take_succ' h1] at hp
          rcases List.mem_append.1 hp with hp | hp
          · exact hn p hp
          · rw [List.mem_singleton.1 hp]; exact he
        · simp [below, belowL, strL, w1 (i := i) (by omega)]
      · have hf : idxB L = i := by
          have : L.findIdx? (fun w => !isName w) = some i := by
            rw [List.findIdx?_eq_some_iff_getElem]
            exact ⟨h1, by simpa using he, fun j hj => by have := hn L[j] (List.mem_take_iff_getElem.2 ⟨j, by omega, rfl⟩); simpa using this⟩
          rw [idxB, this]
        simp -implicitDefEqProofs [he, hf]
    · simp at h1
      rw [List.take_of_length_le h1] at hn
      have hf : idxB L = -1 := by
        have : L.findIdx? (fun w => !isName w) = none := by
          rw [List.findIdx?_eq_none_iff]; intro x hx; simpa using hn x hx
        rw [idxB, this]
      simp -implicitDefEqProofs [hf]
theorem i_ContainsNot (L : List (List UInt8)) (hb : L.length ≤ 1048576) (hw : ∀ x ∈ L, x.length ≤ 140737488355328) : VF Tryd.prog G n_slices_ContainsFunc_string [.p (strL L), .fn (.func n_impl_fnOf_1) []] (.p (.bool (!L.all isName))) := by
  rw [← idxB_pos]
  refine AC.go k_slices_ContainsFunc_string ?_
  simp -implicitDefEqProofs [F_slices_ContainsFunc_string]
  refine (i_IndexNot G hK L hb hw).use ?_
  simp -implicitDefEqProofs []
end Go.Proofs.YtbbobekgnclkfaaDoor
namespace Go.Proofs.YtbbobekgnclkfaaDoor
open Go Go.Aw
set_option maxRecDepth 100000
set_option maxHeartbeats 4000000
variable (G : Glob)
def fnR (o : Obj) : List AV := match decF o.params o.slots o.code with
  | none => zMfn
  | some f => f.cs.map .p
section
variable (hG : G g_forms = some pvForms)
include hG
theorem t_iDecodeFn {p s : Int} {code : List Int} (hb : BytesOk code) (hl : code.length ≤ 1048576) {f : Mfn} (hd : decF p s code = some f) :
    VF Tryd.prog G n_impl_DecodeFn [.p (.int .i64 p), .p (.int .i64 s), .p (bysL code)] (.tup [.agg (f.cs.map .p), .p (.bool true)]) :=
  AC.freeze (i_DecodeFn1 G hG hb hl hd) (.tup (.agg (.keep (by simp) (.keep (by simp) (.one (insO_view rfl) .nil))) (.keep (by simp) .nil)) .nil)
end
variable (hG : G g_forms = some pvForms) (hK : G g_keys = some pvKeys)
include hG hK
theorem i_fnOf (o : Obj) (ho : ObjSm o) (hz : szO o ≤ 1048576) : VF Tryd.prog G n_impl_fnOf [.agg (o.cs.map .p)] (.tup [.agg (fnR o), .p (.bool (objOk o))]) := by
  refine AC.go k_impl_fnOf ?_
  have hsz : szO o = o.name.length + o.code.length + o.calls.length + szW o.names := rfl
  have hwz : szW o.names = o.names.length + (o.names.map List.length).sum := rfl
  simp -implicitDefEqProofs [F_impl_fnOf, Obj.cs]
  cases hd : decF o.params o.slots o.code with
  | none =>
    have hob : objOk o = false := by simp only [objOk, hd]
    have hfr : fnR o = zMfn := by simp only [fnR, hd]
    have h2 := i_DecodeFn2 G hG ho.bytes (by omega) hd
    rw [zMfn] at h2
    refine h2.use ?_
    simp -implicitDefEqProofs [zMfn, hob, hfr]
  | some f =>
    obtain ⟨hc, henc⟩ := decF_some hd
    have hob : objOk o = (isName o.name && decide (callsF f = o.calls) && decide (o.names.length = o.calls.length) && o.names.all isName && decide (f = blankF f)) := by simp only [objOk, hd]
    have hfr : fnR o = f.cs.map .p := by simp only [fnR, hd]
    have hil : f.ins.length ≤ 1000000 := by
      have := (fine_of_alone (by simp only [codeOk, Bool.and_eq_true] at hc; exact hc.1) : InsFine f.ins).1
      omega
    have hne : f.ins ≠ [] := by intro e; have := codeOk_pos hc; rw [e] at this; simp at this
    have hlo : ∀ x ∈ f.ins, x.op = 14 → -9223372036854775808 ≤ x.n := fun x hx h => by have := call_n hc hx h; omega
    have hcb : (callsF f).length ≤ 1048576 := by
      have h1 := clsT_len f (plaF f).length
      have h2 := pla_ins f
      rw [clsT_all (Nat.le_refl _)] at h1
      omega
    refine (t_iDecodeFn G hG ho.bytes (by omega) hd).use ?_
    simp -implicitDefEqProofs []
    refine (i_IsName G hK o.name (by omega)).use ?_
    by_cases h1 : isName o.name = true
    case neg => simp -implicitDefEqProofs [h1, hob, hfr, Mfn.cs]
    simp -implicitDefEqProofs [h1]
    refine (i_blank G f hne hil).useQ ?_
    simp -implicitDefEqProofs []
    refine (i_sameMfn G f (blankF f) (by omega)).use ?_
    by_cases h2 : f = blankF f
    case neg => simp -implicitDefEqProofs [h2, hob, hfr, Mfn.cs]
    simp -implicitDefEqProofs [← h2]
    refine (i_callBytes G hG f hil hlo).useQ ?_
    simp -implicitDefEqProofs []
    refine (t_EqualInt G (callsF f) o.calls hcb).use ?_
    by_cases h3 : callsF f = o.calls
    case neg => simp -implicitDefEqProofs [h3, hob, hfr, Mfn.cs]
    have hnl : numL o.calls = .lst 1 (o.calls.map fun n => [.int .i64 n]) := rfl
    have hsl : strL o.names = .lst 1 (o.names.map fun w => [.str w]) := rfl
    simp -implicitDefEqProofs [h3, hnl, hsl]
    by_cases h4 : o.names.length = o.calls.length
    case neg =>
      have h4' : ¬ (o.names.length : Int) = (o.calls.length : Int) := by omega
      simp -implicitDefEqProofs [h4, h4', hob, hfr, Mfn.cs]
    simp -implicitDefEqProofs [h4]
    rw [← hsl]
    refine (i_ContainsNot G hK o.names (by omega) (words_le hz)).use ?_
    simp -implicitDefEqProofs [hob, hfr, Mfn.cs, h1, h3, h4, ← h2]
theorem i_ObjectValid (o : Obj) (ho : ObjSm o) (hz : szO o ≤ 1048576) : VF Tryd.prog G n_impl_ObjectValid [.agg (o.cs.map .p)] (.p (.bool (objOk o))) := by
  refine AC.go k_impl_ObjectValid ?_
  have hfn := i_fnOf G hG hK o ho hz
  simp -implicitDefEqProofs [F_impl_ObjectValid]
  rw [fnR] at hfn
  cases hd : decF o.params o.slots o.code with
  | none =>
    rw [hd] at hfn
    simp only [zMfn] at hfn
    refine hfn.use ?_
    simp -implicitDefEqProofs []
  | some f =>
    rw [hd] at hfn
    simp only at hfn
    refine hfn.use ?_
    simp -implicitDefEqProofs [Mfn.cs]
end Go.Proofs.YtbbobekgnclkfaaDoor
namespace Go.Proofs.YtbbobekgnclkfaaDoor
open Go Go.Aw
set_option maxRecDepth 100000
set_option maxHeartbeats 4000000
variable (G : Glob)
/-- An object's cells, the lists owned. -/
def Obj.ov (o : Obj) (a b c : Nat) : List AV := [.p (.str o.name), .p (.int .i64 o.params), .p (.int .i64 o.slots), .sl a 1 0 o.code.length, .sl b 1 0 o.calls.length, .sl c 1 0 o.names.length]
end Go.Proofs.YtbbobekgnclkfaaDoor
namespace Go.Proofs.YtbbobekgnclkfaaDoor
open Go Go.Aw
set_option maxRecDepth 100000
set_option maxHeartbeats 4000000
variable (G : Glob)
theorem s_l2Has (L : List (List UInt8)) (s : List UInt8) (hb : L.length ≤ 1048576) : VF Tryd.prog G n_spec_l2Has [.p (strL L), .p (.str s)] (.p (.bool (L.contains s))) := by
  refine AC.go k_spec_l2Has ?_
  have hsl : strL L = .lst 1 (L.map fun w => [.str w]) := rfl
  simp -implicitDefEqProofs [F_spec_l2Has, hsl]
  refine loopA (fun i : Nat => tsOf 18 [(0, .p (strL L)), (1, .p (.str s)), (5, .p (.int .i64 i))]) (fun _ => []) (fun i => i ≤ L.length ∧ ∀ w ∈ L.take i, w ≠ s) (fun i => L.length - i) 0 (by simp) ?_ ?_
  · exact wkt_nil rfl (by simp [below, strL])
  · intro i ⟨hi, hn⟩
    simp -implicitDefEqProofs [hsl]
    refine cndb (fun h1 => ?_) (fun h1 => ?_)
    · simp at h1
      have hg := List.getElem?_eq_getElem h1
      by_cases he : L[i] = s
      · have hf : L.contains s = true := by rw [List.contains_iff_mem, ← he]; exact List.getElem_mem h1
        have hf' : s ∈ L := by rw [← he]; exact List.getElem_mem h1
        simp -implicitDefEqProofs [hg, hf', he]
      · simp -implicitDefEqProofs [hg, he]
        refine ⟨i + 1, ⟨h1, fun p hp => ?_⟩, by omega, wkt_nil rfl ?_⟩
        · rw [take_succ' h1] at hp
          rcases List.mem_append.1 hp with hp | hp
          · exact hn p hp
          · rw [List.mem_singleton.1 hp]; exact he
        · simp [below, strL, w1 (i := i) (by omega)]
    · simp at h1
      rw [List.take_of_length_le h1] at hn
      have hf : ¬ s ∈ L := fun hm => absurd rfl (hn s hm)
      simp -implicitDefEqProofs [hf]
theorem strO_pure (l : List (List UInt8)) : ∀ x ∈ l.map (fun w => [AV.p (.str w)]), belowL 0 x := by
  intro x hx; obtain ⟨m, _, rfl⟩ := List.mem_map.1 hx; simp [belowL, below]
variable (hG : G g_forms = some pvForms) (hK : G g_keys = some pvKeys)
include hG hK
end Go.Proofs.YtbbobekgnclkfaaDoor
namespace Go.Proofs.YtbbobekgnclkfaaDoor
open Go Go.Aw
set_option maxRecDepth 100000
set_option maxHeartbeats 4000000
variable (G : Glob)
theorem nofnO_byS (l : List Int) : nofnO (bysO l) = true := by simp [nofnO, bysO, nofnL, nofn]
theorem nofnO_num (l : List Int) : nofnO (numO l) = true := by simp [nofnO, numO, nofnL, nofn]
theorem shiftO_num (n : Nat) (l : List Int) : shiftO n (numO l) = numO l := by
  simp only [shiftO, numO, List.map_map]; rfl
theorem bysO_pure (l : List Int) : ∀ x ∈ l.map (fun w => [AV.p (.int .u8 w)]), belowL 0 x := by
  intro x hx; obtain ⟨m, _, rfl⟩ := List.mem_map.1 hx; simp [belowL, below]
theorem numO_pure (l : List Int) : ∀ x ∈ l.map (fun w => [AV.p (.int .i64 w)]), belowL 0 x := by
  intro x hx; obtain ⟨m, _, rfl⟩ := List.mem_map.1 hx; simp [belowL, below]
variable (hG : G g_forms = some pvForms) (hK : G g_keys = some pvKeys)
include hG hK
end Go.Proofs.YtbbobekgnclkfaaDoor
namespace Go.Proofs.YtbbobekgnclkfaaDoor
open Go Go.Aw
set_option maxRecDepth 100000
set_option maxHeartbeats 4000000
theorem blankI_op (x : Mins) : (blankI x).op = x.op := by unfold blankI; split <;> rfl
theorem blankI_jmp (x : Mins) : jmp (blankI x) = jmp x := by simp only [jmp, blankI_op]
theorem blankI_keep {x : Mins} (h : jmp x = true) : blankI x = x := by
  unfold blankI
  rw [if_neg]
  intro e
  simp [jmp, e] at h
theorem plainB_blank (x : Mins) : (plainB (blankI x)).length = (plainB x).length := by
  by_cases e : x.op = 14
  · have h : blankI x = { x with n := 0 } := by rw [blankI, if_pos e]
    rw [h]
    simp only [plainB, e]
    simp [inR]
  · rw [blankI, if_neg e]
theorem sizeB_blank (x : Mins) (b : Bool) : sizeB (blankI x) b = sizeB x b := by
  simp only [sizeB, blankI_jmp, blankI_op, plainB_blank]
theorem zip_blank : ∀ (ins : List Mins) (L : List Bool), List.zipWith sizeB (ins.map blankI) L = List.zipWith sizeB ins L
  | [], _ => by simp
  | _ :: _, [] => by simp
  | x :: r, b :: L => by simp only [List.map_cons, List.zipWith_cons_cons, sizeB_blank, zip_blank r L]
theorem plc_blank (ins : List Mins) (L : List Bool) (i : Nat) : plc (ins.map blankI) L i = plc ins L i := by rw [plc, zip_blank]; rfl
theorem need_blank (ins : List Mins) (L : List Bool) (i : Nat) : need (ins.map blankI) L i = need ins L i := by
  unfold need
  rw [List.getElem?_map]
  cases ins[i]? with
  | none => rfl
  | some x =>
    simp only [Option.map_some, plc_blank, blankI_jmp, sizeB_blank]
    cases h : jmp x with
    | false => rfl
    | true => rw [blankI_keep h]
theorem roundL_blank (ins : List Mins) (L : List Bool) : roundL (ins.map blankI) L = roundL ins L := by
  unfold roundL
  congr 1
  funext i b
  rw [need_blank]
theorem fixL_blank (ins : List Mins) : ∀ (n : Nat) (L : List Bool), countF L ≤ n → fixL (ins.map blankI) L = fixL ins L := by
  intro n
  induction n with
  | zero =>
    intro L h
    have hs : roundL ins L = L := by
      rcases countF_map L (need ins L) with e | e
      · exact e
      · omega
    rw [fixL_same hs, fixL_same (by rw [roundL_blank]; exact hs)]
  | succ n ih =>
    intro L h
    by_cases hs : roundL ins L = L
    · rw [fixL_same hs, fixL_same (by rw [roundL_blank]; exact hs)]
    · rw [fixL_next hs, fixL_next (by rw [roundL_blank]; exact hs), roundL_blank]
      exact ih _ (by
        rcases countF_map L (need ins L) with e | e
        · exact absurd e hs
        · have : countF (roundL ins L) < countF L := e
          omega)
theorem longs_blank (ins : List Mins) : longs (ins.map blankI) = longs ins := by
  rw [longs, longs, List.length_map]
  exact fixL_blank ins _ _ (Nat.le_refl _)
theorem plcs_blank (ins : List Mins) (L : List Bool) (k : Nat) : plcs (ins.map blankI) L k = plcs ins L k := by
  unfold plcs
  exact List.map_congr_left fun i _ => plc_blank ins L i
theorem mostStep_ge {m : Nat} {x : Mins} : m ≤ mostStep m x := by unfold mostStep; split <;> omega
theorem mostS_fold : ∀ (ins : List Mins) (m : Nat), m ≤ ins.foldl mostStep m ∧ (∀ x ∈ ins, x.op = 14 → x.n < 4 → x.n < (ins.foldl mostStep m : Nat)) ∧ (∀ e : Nat, m ≤ e → (∀ x ∈ ins, x.op = 14 → x.n < e) → ins.foldl mostStep m ≤ e)
  | [], m => ⟨Nat.le_refl _, fun x h => by simp at h, fun e h _ => h⟩
  | y :: r, m => by
    obtain ⟨i1, i2, i3⟩ := mostS_fold r (mostStep m y)
    have hg := mostStep_ge (m := m) (x := y)
    refine ⟨Nat.le_trans hg i1, fun x hx ho hn => ?_, fun e h1 h2 => ?_⟩
    · rcases List.mem_cons.1 hx with rfl | hx
      · have : x.n < (mostStep m x : Nat) := by unfold mostStep; split <;> omega
        simp only [List.foldl_cons]; omega
      · exact i2 x hx ho hn
    · refine i3 e ?_ fun x hx ho => h2 x (by simp [hx]) ho
      have := h2 y (by simp)
      unfold mostStep
      split
      · rename_i h; have := this h.1; omega
      · exact h1
theorem mostS_ge {ins : List Mins} {x : Mins} (hx : x ∈ ins) (ho : x.op = 14) (hn : x.n < 4) : x.n < (mostS ins : Nat) := (mostS_fold ins 0).2.1 x hx ho hn
theorem mostS_le {ins : List Mins} {e : Nat} (h : ∀ x ∈ ins, x.op = 14 → x.n < e) : mostS ins ≤ e := (mostS_fold ins 0).2.2 e (by omega) h
theorem backF_ok (k : Int) : fnOk k backF = true := by rfl
theorem insOk_call {p s len k e : Int} {x : Mins} (h : insOk p s len k x = true) (hc : x.op = 14 → x.n < e) : insOk p s len e x = true := by
  by_cases ho : x.op = 14
  · have := hc ho
    simp only [insOk, Bool.and_eq_true] at h ⊢
    refine ⟨h.1, ?_⟩
    have h2 := h.2
    simp [fN, mostN, ho, inR] at h2 ⊢
    omega
  · have e1 : mostN p s len e x.op = mostN p s len k x.op := by simp [mostN, ho]
    simp only [insOk, Bool.and_eq_true, e1] at h ⊢
    exact h
theorem insOk_n {p s len k : Int} {x : Mins} (h : insOk p s len k x = true) (ho : x.op = 14) : 0 ≤ x.n ∧ x.n < k := by
  simp only [insOk, Bool.and_eq_true] at h
  have h2 := h.2
  simp [fN, mostN, ho, inR] at h2
  omega
theorem fnOk_call {k e : Int} {f : Mfn} (h : fnOk k f = true) (hc : ∀ x ∈ f.ins, x.op = 14 → x.n < e) : fnOk e f = true := by
  simp only [fnOk, Bool.and_eq_true, List.all_eq_true] at h ⊢
  exact ⟨h.1, fun x hx => insOk_call (h.2 x hx) (hc x hx)⟩
theorem fnsOk_alone {f : Mfn} : ∀ (e : Nat) (k : Int), fnOk (k + e) f = true → fnsOk k (List.replicate e backF ++ [f]) = true
  | 0, k, h => by
    have h' : fnOk k f = true := by simpa using h
    simp [fnsOk, h']
  | e + 1, k, h => by
    have := fnsOk_alone e (k + 1) (by rw [show k + 1 + (e : Int) = k + ((e + 1 : Nat) : Int) by omega]; exact h)
    simp [List.replicate_succ, fnsOk, backF_ok, this]
/-- Within a machine only the room decides. -/
theorem codeOk_room {k : Nat} {f : Mfn} (h : fnOk k f = true) (hk : k ≤ 3) (hs : k + f.ins.length ≤ 2000) : codeOk f = decide (plc f.ins (longs f.ins) f.ins.length ≤ 8000) := by
  have hall : ∀ x ∈ f.ins, insOk f.params f.slots f.ins.length k x = true := by
    simp only [fnOk, Bool.and_eq_true, List.all_eq_true] at h
    exact h.2
  have hle : mostS f.ins ≤ k := mostS_le fun x hx ho => (insOk_n (hall x hx) ho).2
  have hok : fnOk (mostS f.ins : Nat) f = true := fnOk_call h fun x hx ho => mostS_ge hx ho (by have := (insOk_n (hall x hx) ho).2; omega)
  have hm : machOk (aloneF (mostS f.ins) f) = true := by
    simp only [machOk, Bool.and_eq_true, decide_eq_true_eq]
    refine ⟨⟨?_, by rw [insSum_alone]; omega⟩, fnsOk_alone _ 0 (by simpa using hok)⟩
    simp [aloneF, inR]
    omega
  rw [codeOk, hm, Bool.true_and]
theorem lastOk_blank (l : List Mins) : lastOk (l.map blankI) = lastOk l := by
  unfold lastOk
  rw [List.getLast?_map]
  cases l.getLast? with
  | none => rfl
  | some x => simp only [Option.map_some, blankI_op]
theorem fnOk_blank {k : Int} {f : Mfn} (h : fnOk k f = true) : fnOk k (blankF f) = true := by
  simp only [fnOk, Bool.and_eq_true, List.all_eq_true] at h
  obtain ⟨⟨⟨h1, h2⟩, h3⟩, h4⟩ := h
  have hl : (blankF f).ins = f.ins.map blankI := rfl
  simp only [fnOk, Bool.and_eq_true, List.all_eq_true, hl, lastOk_blank, List.length_map]
  refine ⟨⟨⟨h1, h2⟩, h3⟩, fun x hx => ?_⟩
  obtain ⟨y, hy, rfl⟩ := List.mem_map.1 hx
  have hi := h4 y hy
  by_cases ho : y.op = 14
  · have hn := insOk_n hi ho
    rw [blankI, if_pos ho]
    simp only [insOk, Bool.and_eq_true, ho] at hi ⊢
    refine ⟨⟨⟨⟨⟨hi.1.1.1.1.1, by simp [fN]⟩, hi.1.1.1.2⟩, hi.1.1.2⟩, hi.1.2⟩, ?_⟩
    simp [fN, mostN, inR]
    omega
  · rw [blankI, if_neg ho]; exact hi
theorem codeOk_blank {k : Nat} {f : Mfn} (h : fnOk k f = true) (hk : k ≤ 3) (hs : k + f.ins.length ≤ 2000) : codeOk (blankF f) = codeOk f := by
  have hl : (blankF f).ins = f.ins.map blankI := rfl
  rw [codeOk_room h hk hs, codeOk_room (fnOk_blank h) hk (by rw [hl, List.length_map]; exact hs), hl, longs_blank, plc_blank, List.length_map]
theorem plaF_blank {f : Mfn} (hc : codeOk (blankF f) = codeOk f) : plaF (blankF f) = plaF f := by
  have hl : (blankF f).ins = f.ins.map blankI := rfl
  rw [plaF, plaF, hc, hl, longs_blank, plcs_blank, List.length_map]
theorem callsF_blank {f : Mfn} (hc : codeOk (blankF f) = codeOk f) : callsF (blankF f) = callsF f := by
  have hl : (blankF f).ins = f.ins.map blankI := rfl
  have key : ∀ (l : List Mins) (ps : List Nat), (List.zip (l.map blankI) ps).flatMap (fun x => clsI x.1 x.2) = (List.zip l ps).flatMap fun x => clsI x.1 x.2 := by
    intro l
    induction l with
    | nil => intro ps; rfl
    | cons x r ih =>
      intro ps
      cases ps with
      | nil => rfl
      | cons p q =>
        simp only [List.map_cons, List.zip_cons_cons, List.flatMap_cons, ih]
        simp only [clsI, blankI_op]
  rw [callsF, callsF, plaF_blank hc, hl, key]
/-- A machine's function: its number and its room. -/
theorem mach_fn {fs : List Mfn} (h : machOk fs = true) {i : Nat} {f : Mfn} (hi : fs[i]? = some f) : fnOk i f = true ∧ i ≤ 3 ∧ i + f.ins.length ≤ 2000 := by
  simp only [machOk, Bool.and_eq_true, decide_eq_true_eq] at h
  obtain ⟨⟨h1, h2⟩, h3⟩ := h
  have hil := (List.getElem?_eq_some_iff.1 hi).1
  have hf := fnsOk_get h3 hi
  simp [inR] at h1
  refine ⟨by simpa using hf, by omega, ?_⟩
  have hpos : ∀ g ∈ fs, 0 < g.ins.length := fun g hg => by
    obtain ⟨j, hj, rfl⟩ := List.getElem_of_mem hg
    have := fnsOk_get h3 (List.getElem?_eq_getElem hj)
    simp only [fnOk, Bool.and_eq_true] at this
    have hl := this.1.2
    cases e : fs[j].ins with
    | nil => rw [e] at hl; simp [lastOk] at hl
    | cons a r => simp
  have key : ∀ (l : List Mfn) (i : Nat) (f : Mfn), (∀ g ∈ l, 0 < g.ins.length) → l[i]? = some f → i + f.ins.length ≤ insSum l := by
    intro l
    induction l with
    | nil => intro i f _ h; simp at h
    | cons g r ih =>
      intro i f hp h
      have hg := hp g (by simp)
      cases i with
      | zero => cases h; simp [insSum]
      | succ i =>
        have := ih i f (fun g hg => hp g (by simp [hg])) h
        simp only [insSum, List.map_cons, List.sum_cons] at this ⊢
        omega
  exact Nat.le_trans (key fs i f hpos hi) h2
end Go.Proofs.YtbbobekgnclkfaaDoor
namespace Go.Proofs.YtbbobekgnclkfaaDoor
open Go Go.Aw
set_option maxRecDepth 100000
set_option maxHeartbeats 4000000
/-- The i-th word is a name and none of those ahead. -/
def nmAt (L : List (List UInt8)) (i : Nat) : Bool := match L[i]? with
  | some w => isName w && !((L.take i).contains w)
  | none => false
def nmsT (L : List (List UInt8)) (i : Nat) : Bool := (List.range i).all (nmAt L)
def nmsOk (L : List (List UInt8)) : Bool := nmsT L L.length
theorem nmsT_succ (L : List (List UInt8)) (i : Nat) : nmsT L (i + 1) = (nmsT L i && nmAt L i) := by simp [nmsT, List.range_succ]
theorem nmsT_bad {L : List (List UInt8)} {i : Nat} (h : i < L.length) (hb : nmAt L i = false) : nmsOk L = false := by
  rw [nmsOk, nmsT, List.all_eq_false]
  exact ⟨i, List.mem_range.2 h, by rw [hb]; simp⟩
variable (G : Glob)
theorem s_l26Names (L : List (List UInt8)) (hb : L.length ≤ 1048576) (hw : ∀ x ∈ L, x.length ≤ 140737488355328) : VF Tryd.prog G n_spec_l26Names [.p (strL L)] (.p (.bool (nmsOk L))) := by
  refine AC.go k_spec_l26Names ?_
  have hsl : ∀ L, strL L = .lst 1 (L.map fun w => [.str w]) := fun _ => rfl
  simp -implicitDefEqProofs [F_spec_l26Names, hsl]
  refine loopA (fun i : Nat => tsOf 26 [(0, .p (strL L)), (3, .p (.int .i64 i))]) (fun _ => []) (fun i => i ≤ L.length ∧ nmsT L i = true) (fun i => L.length - i) 0 (by simp [nmsT]) ?_ ?_
  · exact wkt_nil rfl (by simp [below, strL])
  · intro i ⟨hi, hn⟩
    simp -implicitDefEqProofs [hsl]
    refine cndb (fun h1 => ?_) (fun h1 => ?_)
    · simp at h1
      have hg := List.getElem?_eq_getElem h1
      have hat : nmAt L i = (isName L[i] && !((L.take i).contains L[i])) := by rw [nmAt, hg]
      simp -implicitDefEqProofs [hg]
      refine (s_IsName G _ (hw _ (List.getElem_mem h1))).use ?_
      by_cases h2 : isName L[i] = true
      case neg =>
        have hbad := nmsT_bad h1 (by rw [hat]; simp [h2])
        simp -implicitDefEqProofs [h2, hbad]
      simp -implicitDefEqProofs [h2, hg]
      have hl2 := s_l2Has G (L.take i) L[i] (by rw [List.length_take]; omega)
      rw [hsl, List.map_take] at hl2
      refine ⟨hi, hl2.use ?_⟩
      by_cases hm : L[i] ∈ L.take i
      · have hbad := nmsT_bad h1 (by rw [hat]; simp [hm])
        simp -implicitDefEqProofs [hm, hbad]
      · simp -implicitDefEqProofs [hm]
        refine ⟨i + 1, ⟨h1, ?_⟩, by omega, wkt_nil rfl ?_⟩
        · rw [nmsT_succ, hn, hat, h2]; simp [hm]
        · simp [below, strL, w1 (i := i) (by omega)]
    · simp at h1
      have : nmsOk L = true := by rw [nmsOk, show L.length = i by omega]; exact hn
      simp -implicitDefEqProofs [this]
end Go.Proofs.YtbbobekgnclkfaaDoor
namespace Go.Proofs.YtbbobekgnclkfaaDoor
open Go Go.Aw
set_option maxRecDepth 100000
set_option maxHeartbeats 4000000
/-- The names at the calls' numbers. -/
def nmC (names : List (List UInt8)) (x : Mins) : List (List UInt8) := if x.op = 14 then [names.getD x.n.toNat []] else []
def nmT (f : Mfn) (names : List (List UInt8)) (k : Nat) : List (List UInt8) := (f.ins.take k).flatMap (nmC names)
def nmF (f : Mfn) (names : List (List UInt8)) : List (List UInt8) := f.ins.flatMap (nmC names)
theorem nmT_zero (f : Mfn) (names : List (List UInt8)) : nmT f names 0 = [] := rfl
theorem nmT_succ {f : Mfn} {names : List (List UInt8)} {k : Nat} (h : k < f.ins.length) : nmT f names (k + 1) = nmT f names k ++ nmC names f.ins[k] := by
  rw [nmT, take_succ' h, List.flatMap_append]; simp [nmT]
theorem nmT_all (f : Mfn) (names : List (List UInt8)) : nmT f names f.ins.length = nmF f names := by rw [nmT, List.take_of_length_le (Nat.le_refl _)]; rfl
theorem nmT_len (f : Mfn) (names : List (List UInt8)) (k : Nat) : (nmT f names k).length ≤ k := by
  have key : ∀ l : List Mins, (l.flatMap (nmC names)).length ≤ l.length := by
    intro l
    induction l with
    | nil => simp
    | cons a r ih =>
      rw [List.flatMap_cons, List.length_append, List.length_cons]
      have : (nmC names a).length ≤ 1 := by unfold nmC; split <;> simp
      omega
  have := key (f.ins.take k)
  rw [List.length_take] at this
  exact Nat.le_trans this (Nat.min_le_left ..)
def zObjV : List AV := [.p (.str []), .p (.int .i64 0), .p (.int .i64 0), .nils, .nils, .nils]
def zObj : Obj := ⟨[], 0, 0, [], [], []⟩
/-- The object of a machine's i-th function. -/
def objOf (fs : List Mfn) (i : Int) (names : List (List UInt8)) : Option Obj :=
  if machOk fs = true ∧ inR i 0 (fs.length - 1) = true ∧ names.length = fs.length ∧ nmsOk names = true then
    match fs[i.toNat]? with
    | some f => if codeOk f then some ⟨names.getD i.toNat [], f.params, f.slots, encB (blankF f), callsF f, nmF f names⟩ else none
    | none => none
  else none
variable (G : Glob)
theorem k_l24Copy (f : Mfn) (hb : f.ins.length ≤ 1000000) : AC Tryd.prog G n_spec_l24Copy [.agg (f.cs.map .p)] [] fun x h => ∃ id, x = .ret (.agg (f.ov id)) ∧ h[id]? = some (insO f.ins) := by
  refine AC.go k_spec_l24Copy ?_
  simp -implicitDefEqProofs [F_spec_l24Copy, Mfn.cs]
  exact ⟨⟨by omega, by omega⟩, 3, rfl, rfl⟩
theorem o_l24Copy (f : Mfn) (hb : f.ins.length ≤ 1000000) : AC Tryd.prog G n_spec_l24Copy [.agg (f.cs.map .p)] [] fun x h => x = .ret (.agg (f.ov 0)) ∧ h = [insO f.ins] := by
  refine (k_l24Copy G f hb).gc (fun t v h ⟨id, e, _⟩ => by cases e) fun v h ⟨id, e1, e2⟩ => ?_
  cases e1
  exact ⟨.agg (f.ov 0), [insO f.ins], ⟨[id], by simp, by simp, by simp, by simp [below, belowL, Mfn.ov], by simp [ren, renL, Mfn.ov], hw_row e2 (av_pure _) hw_nil⟩, rfl, rfl⟩
theorem s_ObjectOf (fs : List Mfn) (i : Int) (names : List (List UInt8)) (hb : szF fs + szW names ≤ 1048576) : VF Tryd.prog G n_spec_ObjectOf [.agg [.p (fnsL fs)], .p (.int .i64 i), .p (strL names)] (.tup [.agg (((objOf fs i names).getD zObj).cs.map .p), .p (.bool (objOf fs i names).isSome)]) := by
  have key : AC Tryd.prog G n_spec_ObjectOf [.agg [.p (fnsL fs)], .p (.int .i64 i), .p (strL names)] [] fun x h => match objOf fs i names with
      | none => x = .ret (.tup [.agg [.p (.str []), .p (.int .i64 0), .p (.int .i64 0), .nils, .nils, .nils], .p (.bool false)])
      | some o => ∃ a b c, x = .ret (.tup [.agg (o.ov a b c), .p (.bool true)]) ∧ h[a]? = some (bysO o.code) ∧ h[b]? = some (numO o.calls) ∧ h[c]? = some (strO o.names) := by
    refine AC.go k_spec_ObjectOf ?_
    have hsl : ∀ L, strL L = .lst 1 (L.map fun w => [.str w]) := fun _ => rfl
    have hfl : fnsL fs = .lst 3 (fs.map Mfn.cs) := rfl
    have hsz : szF fs = fs.length + (fs.map (·.ins.length)).sum := rfl
    have hwz : szW names = names.length + (names.map List.length).sum := rfl
    have hww : ∀ x ∈ names, x.length ≤ 140737488355328 := fun x hx => by have := sum_ge hx; omega
    simp -implicitDefEqProofs [F_spec_ObjectOf]
    refine (s_MachValid G fs (by omega)).use ?_
    by_cases h1 : machOk fs = true
    case neg =>
      have ho : objOf fs i names = none := by rw [objOf, if_neg (fun h => h1 h.1)]
      simp -implicitDefEqProofs [h1, ho]
    have hw : IntKind.i64.wrap ((fs.length : Int) - 1) = (fs.length : Int) - 1 := i64_small (by omega) (by omega)
    simp -implicitDefEqProofs [h1, hfl, hw]
    refine (s_l1In G _ _ _).use ?_
    by_cases h2 : inR i 0 (fs.length - 1) = true
    case neg =>
      have ho : objOf fs i names = none := by rw [objOf, if_neg (fun h => h2 h.2.1)]
      simp -implicitDefEqProofs [h2, ho]
    simp -implicitDefEqProofs [h2, hfl, hsl]
    by_cases h3 : names.length = fs.length
    case neg =>
      have h3' : ¬ (names.length : Int) = (fs.length : Int) := by omega
      have ho : objOf fs i names = none := by rw [objOf, if_neg (fun h => h3 h.2.2.1)]
      simp -implicitDefEqProofs [h3, h3', ho]
    simp -implicitDefEqProofs [h3]
    rw [← hsl]
    refine (s_l26Names G names (by omega) hww).use ?_
    by_cases h4 : nmsOk names = true
    case neg =>
      have ho : objOf fs i names = none := by rw [objOf, if_neg (fun h => h4 h.2.2.2)]
      simp -implicitDefEqProofs [h4, ho]
    obtain ⟨j, rfl⟩ : ∃ j : Nat, i = j := ⟨i.toNat, by simp [inR] at h2; omega⟩
    have hj : j < fs.length := by simp [inR] at h2; omega
    have hjn : j < names.length := by omega
    have hg := List.getElem?_eq_getElem hj
    have hgn := List.getElem?_eq_getElem hjn
    obtain ⟨q1, q2, q3⟩ := mach_fn h1 hg
    have ho : objOf fs j names = if codeOk fs[j] then some ⟨names[j], fs[j].params, fs[j].slots, encB (blankF fs[j]), callsF fs[j], nmF fs[j] names⟩ else none := by
      rw [objOf, if_pos ⟨h1, h2, h3, h4⟩, Int.toNat_natCast, hg]
      simp [List.getD, hgn]
    generalize fs[j] = f at hg q1 q3 ho
    simp -implicitDefEqProofs [h4, hsl, hg]
    have hil : f.ins.length ≤ 1000000 := by omega
    refine (AC.lift (o_l24Copy G f hil) (by simp [belowL, below]) rfl (by simp only [List.all_cons, List.all_nil, nofnO_insA]; rfl)).mono ?_
    rintro r h ⟨rfl, rfl⟩
    simp -implicitDefEqProofs [callR_nxt, shiftV, shiftL, shiftO_ins, Mfn.ov, hgn, hjn]
    have hall : ∀ x ∈ f.ins, insOk f.params f.slots f.ins.length j x = true := by
      simp only [fnOk, Bool.and_eq_true, List.all_eq_true] at q1
      exact q1.2
    have hso : ∀ l, strO l = .row 1 (l.map fun w => [.p (.str w)]) := fun _ => rfl
    have hbo : ∀ l, insO l = .row 5 (l.map Mins.av) := fun _ => rfl
    refine loopA (fun k : Nat => tsOf 102 [(2, .p (strL names)), (6, .ptr 1 6 0 0), (8, .ptr 3 3 0 0), (9, .ptr 5 6 0 0), (10, .p (.int .i64 k))])
      (fun k => [.row 1 [[.p (fnsL fs)]], .row 6 [zObjV], insO (blankT f k), .row 3 [f.ov 2], strO (nmT f names k), .row 6 [[.p (.str names[j]), .p (.int .i64 f.params), .p (.int .i64 f.slots), .nils, .nils, .sl 4 1 0 (nmT f names k).length]]])
      (fun k => k ≤ f.ins.length) (fun k => f.ins.length - k) 0 (by simp) ?_ ?_
    · rw [blankT_zero, nmT_zero]
      refine wkt_pick [0, 1, 2, 3, 4, 5] rfl (by decide) (hw_row rfl (by simp [belowL, below]) (hw_row rfl (by simp [zObjV, belowL, below]) (hw_row rfl (av_pure _) (hw_rowr (by simp [Mfn.ov, below]) (by simp [Mfn.ov, ren, renL]) (hw_row rfl (by simp) (hw_rowr (by simp [below]) (by simp [ren, renL]) hw_nil)))))) ?_
      simp [below, ren, hsl]
    · intro k hk
      simp -implicitDefEqProofs [Mfn.ov]
      refine cndb (fun h5 => ?_) (fun h5 => ?_)
      · simp at h5
        have hgb := blankT_get h5
        have hsu := nmT_succ (names := names) h5
        have hnl := nmT_len f names k
        by_cases hop : f.ins[k].op = 14
        · obtain ⟨n1, n2⟩ := insOk_n (hall _ (List.getElem_mem h5)) hop
          obtain ⟨q, hq⟩ : ∃ q : Nat, f.ins[k].n = q := ⟨f.ins[k].n.toNat, by omega⟩
          have hqn : q < names.length := by omega
          have hgq := List.getElem?_eq_getElem hqn
          have hs := blankT_set h5
          have hs2 : ((blankT f k).map Mins.av).set k [.p (.int .i64 14), .p (.int .i64 f.ins[k].a), .p (.int .i64 f.ins[k].b), .p (.int .i64 f.ins[k].c), .p (.int .i64 0)] = (blankT f (k + 1)).map Mins.av := by
            rw [← hs, List.map_set, blankI, if_pos hop, Mins.av_eq, hop]
          rw [nmC, if_pos hop, hq, Int.toNat_natCast, List.getD, hgq, Option.getD_some] at hsu
          simp -implicitDefEqProofs [hbo, hso, hsl, hgb, h5, Mins.av_eq, hop, hq, hgq, hqn, splice, hs2]
          refine ⟨by omega, k + 1, h5, by omega, ?_⟩
          rw [hsu]
          refine wkt_pick [0, 1, 2, 3, 6, 5] rfl (by decide) (hw_row rfl (by simp [belowL, below]) (hw_row rfl (by simp [zObjV, belowL, below]) (hw_row rfl (av_pure _) (hw_rowr (by simp [below]) (by simp [ren, renL]) (hw_row (by simp [List.take_of_length_le]) (strO_pure _) (hw_rowr (by simp [below]) (by simp [ren, renL]) hw_nil)))))) ?_
          simp [below, ren, hsl, w1 (i := k) (by omega)]
        · have hs := blankT_same h5 hop
          rw [nmC, if_neg hop, List.append_nil] at hsu
          simp -implicitDefEqProofs [hbo, hgb, h5, Mins.av_eq, hop]
          refine ⟨k + 1, h5, by omega, ?_⟩
          rw [hs, hsu]
          refine wkt_pick [0, 1, 2, 3, 4, 5] rfl (by decide) (hw_row rfl (by simp [belowL, below]) (hw_row rfl (by simp [zObjV, belowL, below]) (hw_row rfl (av_pure _) (hw_rowr (by simp [Mfn.ov, below]) (by simp [Mfn.ov, ren, renL]) (hw_row rfl (strO_pure _) (hw_rowr (by simp [below]) (by simp [ren, renL]) hw_nil)))))) ?_
          simp [below, ren, hsl, w1 (i := k) (by omega)]
      · simp at h5
        have hke : k = f.ins.length := by omega
        subst hke
        have hbl : (blankF f).ins.length = f.ins.length := by simp [blankF]
        have hcb := codeOk_blank q1 q2 q3
        have hcF := callsF_blank hcb
        have hvI : ∀ h : List AO, h[2]? = some (insO (blankF f).ins) → Views h [.agg [.p (.int .i64 f.params), .p (.int .i64 f.slots), .sl 2 5 0 f.ins.length]] [.agg ((blankF f).cs.map .p)] := fun h e => by
          have := insO_view e
          rw [hbl] at this
          exact .agg (.keep (by simp [below]) (.keep (by simp [below]) (.one this .nil))) .nil
        simp -implicitDefEqProofs [blankT_all, nmT_all]
        refine (AC.lend (o_sEncodeFn G (blankF f) (by omega)) (hvI _ rfl) rfl (by simp only [List.all_cons, List.all_nil]; simp [cleanO, bysO, cleanL, clean])).mono ?_
        rintro r h ⟨rfl, rfl⟩
        rw [hcb]
        by_cases hc : codeOk f = true
        case neg =>
          rw [if_neg hc] at ho
          simp -implicitDefEqProofs [callR_nxt, shiftV, shiftL, hc, ho, zObjV]
        rw [if_pos hc] at ho
        simp -implicitDefEqProofs [callR_nxt, shiftV, shiftL, shiftO_bys, hc]
        refine (AC.lend (o_l26Calls G (blankF f) (by omega)) (hvI _ rfl) rfl (by simp only [List.all_cons, List.all_nil]; simp [cleanO, numO, cleanL, clean])).mono ?_
        rintro r h ⟨rfl, rfl⟩
        rw [hcF]
        simp -implicitDefEqProofs [callR_nxt, shiftV, shiftL, shiftO_num, ho, zObjV]
        exact ⟨6, 7, 4, rfl, rfl, rfl, rfl⟩
  refine key.freezeR (fun t v h e => ?_) fun v h e => ?_
  · cases ho : objOf fs i names <;> rw [ho] at e
    · cases e
    · obtain ⟨_, _, _, e, _⟩ := e; cases e
  · cases ho : objOf fs i names with
    | none =>
      rw [ho] at e
      cases e
      exact .tup (.agg (.keep (by simp [below]) (.keep (by simp [below]) (.keep (by simp [below]) (.one (View.nils 1) (.one (View.nils 1) (.one (View.nils 1) .nil)))))) (.keep (by simp [below]) .nil)) .nil
    | some o =>
      rw [ho] at e
      obtain ⟨a, b, c, e, e1, e2, e3⟩ := e
      cases e
      exact .tup (.agg (.keep (by simp [below]) (.keep (by simp [below]) (.keep (by simp [below]) (.one (bysO_view e1) (.one (numO_view e2) (.one (strO_view e3) .nil)))))) (.keep (by simp [below]) .nil)) .nil
end Go.Proofs.YtbbobekgnclkfaaDoor
namespace Go.Proofs.YtbbobekgnclkfaaDoor
open Go Go.Aw
set_option maxRecDepth 100000
set_option maxHeartbeats 4000000
theorem calls_names (f : Mfn) (names : List (List UInt8)) (hc : codeOk f = true) : (callsF f).length = (nmF f names).length := by
  have key : ∀ (l : List Mins) (ps : List Nat), ps.length = l.length → ((List.zip l ps).flatMap fun x => clsI x.1 x.2).length = (l.flatMap (nmC names)).length := by
    intro l
    induction l with
    | nil => intro ps _; rfl
    | cons x r ih =>
      intro ps hp
      cases ps with
      | nil => simp at hp
      | cons p q =>
        have := ih q (by simpa using hp)
        simp only [List.zip_cons_cons, List.flatMap_cons, List.length_append, this]
        congr 1
        unfold clsI nmC
        split <;> rfl
  exact key _ _ (by rw [plaF_len, if_pos hc])
def strR (l : List (List UInt8)) : List (List AV) := l.map fun w => [.p (.str w)]
theorem strR_app (a b : List (List UInt8)) : strR (a ++ b) = strR a ++ strR b := by simp [strR]
theorem strR_len (l : List (List UInt8)) : (strR l).length = l.length := by simp [strR]
theorem strR_pure (l : List (List UInt8)) : ∀ x ∈ strR l, belowL 0 x := by
  intro x hx; obtain ⟨m, _, rfl⟩ := List.mem_map.1 hx; simp [belowL, below]
theorem numR_ne {l : List Int} (h : l ≠ []) : numR l ≠ [] := by intro e; exact h (List.map_eq_nil_iff.1 e)
variable (G : Glob) (hG : G g_forms = some pvForms)
include hG
theorem i_callBytes1 {f : Mfn} (hn : f.ins.length ≤ 1000000) (hlo : ∀ x ∈ f.ins, x.op = 14 → -9223372036854775808 ≤ x.n) (hne : callsF f ≠ []) : AC Tryd.prog G n_impl_callBytes [.agg (f.cs.map .p)] [] fun x h => x = .ret (.sl 0 1 0 (callsF f).length) ∧ h = [numO (callsF f)] := by
  refine (k_callBytes G hG f hn hlo).gc (fun t v h ⟨id, e, _⟩ => by cases e) fun v h ⟨id, e1, e2⟩ => ?_
  rw [slE_ne (numR_ne hne)] at e1
  rw [rowE_ne (numR_ne hne)] at e2
  cases e1
  have hl : (numR (callsF f)).length = (callsF f).length := by simp [numR]
  exact ⟨.sl 0 1 0 (callsF f).length, [numO (callsF f)], ⟨[id], by simp, by simp, by simp, by simp [below], by simp [ren, hl], hw_row e2 (numO_pure _) hw_nil⟩, rfl, rfl⟩
theorem i_callBytes2 {f : Mfn} (hn : f.ins.length ≤ 1000000) (hlo : ∀ x ∈ f.ins, x.op = 14 → -9223372036854775808 ≤ x.n) (he : callsF f = []) : VF Tryd.prog G n_impl_callBytes [.agg (f.cs.map .p)] .nils := by
  refine (k_callBytes G hG f hn hlo).freezeR (fun t v h ⟨id, e, _⟩ => by cases e) fun v h ⟨id, e1, e2⟩ => ?_
  rw [he, show numR [] = [] from rfl, slE_nil] at e1
  cases e1
  exact .keep (by simp [below]) .nil
variable (hK : G g_keys = some pvKeys)
include hK
theorem k_iObjectOf (fs : List Mfn) (i : Int) (names : List (List UInt8)) (hb : szF fs + szW names ≤ 1048576) : AC Tryd.prog G n_impl_ObjectOf [.agg [.p (fnsL fs)], .p (.int .i64 i), .p (strL names)] [] fun x h => match objOf fs i names with
      | none => x = .ret (.tup [.agg zObjV, .p (.bool false)])
      | some o => (o.calls = [] ∧ o.names = [] ∧ ∃ a, x = .ret (.tup [.agg [.p (.str o.name), .p (.int .i64 o.params), .p (.int .i64 o.slots), .sl a 1 0 o.code.length, .nils, .nils], .p (.bool true)]) ∧ h[a]? = some (bysO o.code)) ∨
        (o.calls ≠ [] ∧ ∃ a b c, x = .ret (.tup [.agg (o.ov a b c), .p (.bool true)]) ∧ h[a]? = some (bysO o.code) ∧ h[b]? = some (numO o.calls) ∧ h[c]? = some (strO o.names) ∧ a < b ∧ b < c) := by
  refine AC.go k_impl_ObjectOf ?_
  have hsl : ∀ L, strL L = .lst 1 (L.map fun w => [.str w]) := fun _ => rfl
  have hfl : fnsL fs = .lst 3 (fs.map Mfn.cs) := rfl
  have hsz : szF fs = fs.length + (fs.map (·.ins.length)).sum := rfl
  have hwz : szW names = names.length + (names.map List.length).sum := rfl
  have hww : ∀ x ∈ names, x.length ≤ 140737488355328 := fun x hx => by have := sum_ge hx; omega
  simp -implicitDefEqProofs [F_impl_ObjectOf]
  refine (i_MachValid G hG fs (by omega)).use ?_
  by_cases h1 : machOk fs = true
  case neg =>
    have ho : objOf fs i names = none := by rw [objOf, if_neg (fun h => h1 h.1)]
    simp -implicitDefEqProofs [h1, ho, zObjV]
  have hw : IntKind.i64.wrap ((fs.length : Int) - 1) = (fs.length : Int) - 1 := i64_small (by omega) (by omega)
  simp -implicitDefEqProofs [h1, hfl, hw]
  refine (i_within G _ _ _).use ?_
  by_cases h2 : inR i 0 (fs.length - 1) = true
  case neg =>
    have ho : objOf fs i names = none := by rw [objOf, if_neg (fun h => h2 h.2.1)]
    simp -implicitDefEqProofs [h2, ho, zObjV]
  simp -implicitDefEqProofs [h2, hfl, hsl]
  by_cases h3 : names.length = fs.length
  case neg =>
    have h3' : ¬ (names.length : Int) = (fs.length : Int) := by omega
    have ho : objOf fs i names = none := by rw [objOf, if_neg (fun h => h3 h.2.2.1)]
    simp -implicitDefEqProofs [h3, h3', ho, zObjV]
  simp -implicitDefEqProofs [h3]
  rw [← hsl, ← hfl]
  refine loopA (fun k : Nat => tsOf 106 [(1, .p (.int .i64 i)), (2, .p (strL names)), (3, .ptr 0 1 0 0), (6, .ptr 1 6 0 0), (36, .p (strL names)), (37, .p (.int .i64 fs.length)), (38, .p (.int .i64 k))]) (fun _ => [.row 1 [[.p (fnsL fs)]], .row 6 [zObjV]])
    (fun k => k ≤ names.length ∧ nmsT names k = true) (fun k => names.length - k) 0 (by simp [nmsT]) ?_ ?_
  · exact wkt_same (by simp) (by simp [okO, zObjV, below, belowL]) (by simp [below, hsl])
  intro k ⟨hk, hn⟩
  simp -implicitDefEqProofs [hsl]
  refine cndb (fun h5 => ?_) (fun h5 => ?_)
  · simp at h5
    have h5 : k < names.length := by omega
    have hg := List.getElem?_eq_getElem h5
    have hat : nmAt names k = (isName names[k] && !((names.take k).contains names[k])) := by rw [nmAt, hg]
    have hnone : nmAt names k = false → objOf fs i names = none := fun hb => by
      have := nmsT_bad h5 hb
      rw [objOf, if_neg (fun h => by rw [this] at h; exact absurd h.2.2.2 (by simp))]
    simp -implicitDefEqProofs [hg]
    refine (i_IsName G hK _ (hww _ (List.getElem_mem h5))).use ?_
    by_cases h6 : isName names[k] = true
    case neg =>
      have ho := hnone (by rw [hat]; simp [h6])
      simp -implicitDefEqProofs [h6, ho, zObjV]
    simp -implicitDefEqProofs [h6, hg]
    have hl2 := i_Contains G (names.take k) names[k] (by rw [List.length_take]; omega)
    rw [hsl, List.map_take] at hl2
    refine ⟨hk, hl2.use ?_⟩
    by_cases hm : names[k] ∈ names.take k
    · have ho := hnone (by rw [hat]; simp [hm])
      simp -implicitDefEqProofs [hm, ho, zObjV]
    · simp -implicitDefEqProofs [hm]
      refine ⟨k + 1, ⟨h5, ?_⟩, by omega, wkt_same (by simp) (by simp [okO, zObjV, below, belowL]) ?_⟩
      · rw [nmsT_succ, hn, hat, h6]; simp [hm]
      · simp [below, hsl, w1 (i := k) (by omega)]
  simp at h5
  have h4 : nmsOk names = true := by rw [nmsOk, show names.length = k by omega]; exact hn
  obtain ⟨j, rfl⟩ : ∃ j : Nat, i = j := ⟨i.toNat, by simp [inR] at h2; omega⟩
  have hj : j < fs.length := by simp [inR] at h2; omega
  have hjn : j < names.length := by omega
  have hg := List.getElem?_eq_getElem hj
  have hgn := List.getElem?_eq_getElem hjn
  obtain ⟨q1, q2, q3⟩ := mach_fn h1 hg
  have ho : objOf fs j names = if codeOk fs[j] then some ⟨names[j], fs[j].params, fs[j].slots, encB (blankF fs[j]), callsF fs[j], nmF fs[j] names⟩ else none := by
    rw [objOf, if_pos ⟨h1, h2, h3, h4⟩, Int.toNat_natCast, hg]
    simp [List.getD, hgn]
  generalize fs[j] = f at hg q1 q3 ho
  have hall : ∀ x ∈ f.ins, insOk f.params f.slots f.ins.length j x = true := by
    simp only [fnOk, Bool.and_eq_true, List.all_eq_true] at q1
    exact q1.2
  have hil : f.ins.length ≤ 1000000 := by omega
  have hlo : ∀ x ∈ f.ins, x.op = 14 → -9223372036854775808 ≤ x.n := fun x hx h => by have := insOk_n (hall x hx) h; omega
  simp -implicitDefEqProofs [hfl, hg]
  by_cases hc : codeOk f = true
  case neg =>
    rw [if_neg hc] at ho
    refine (i_layoutOf2 G hG f hil hlo hc).use ?_
    simp -implicitDefEqProofs [ho, zObjV]
  rw [if_pos hc] at ho
  refine (AC.lift (i_layoutOf1 G hG f hil hlo hc) (by simp [belowL, below]) rfl (by simp only [List.all_cons, List.all_nil, nofnO_bool, nofnO_ints]; rfl)).mono ?_
  rintro r h ⟨rfl, rfl⟩
  simp -implicitDefEqProofs [callR_nxt, shiftO_bool, shiftO_ints, shiftO_fn, shiftO_lay, shiftV, shiftL, hgn, hjn, Mfn.cs]
  have hcb := codeOk_blank q1 q2 q3
  have hcB : codeOk (blankF f) = true := by rw [hcb]; exact hc
  have hcF := callsF_blank hcb
  have hbl : (blankF f).ins.length = f.ins.length := by simp [blankF]
  have hne : f.ins ≠ [] := by intro e; have := codeOk_pos hc; rw [e] at this; simp at this
  have hloB : ∀ x ∈ (blankF f).ins, x.op = 14 → -9223372036854775808 ≤ x.n := fun x hx h => by have := call_n hcB hx h; omega
  refine (i_blank G f hne hil).use ?_
  simp -implicitDefEqProofs []
  refine (AC.lift (i_EncodeFn1 G hG (blankF f) (by omega) hloB hcB) (by simp [belowL, below]) rfl (by simp only [List.all_cons, List.all_nil, nofnO_byS]; rfl)).mono ?_
  rintro r h ⟨rfl, rfl⟩
  simp -implicitDefEqProofs [callR_nxt, shiftV, shiftL, shiftO_bys]
  rcases Classical.em (callsF f = []) with hce | hce
  · refine (i_callBytes2 G hG (f := blankF f) (by omega) hloB (by rw [hcF]; exact hce)).use ?_
    simp -implicitDefEqProofs []
    refine loopA (fun k : Nat => tsOf 106 [(2, .p (strL names)), (6, .ptr 0 6 0 0), (11, .ptr 5 6 0 0), (85, .p (insL f.ins)), (86, .p (.int .i64 f.ins.length)), (87, .p (.int .i64 k))])
      (fun k => [.row 6 [zObjV], .row 3 [f.cs.map .p], bysO (encB (blankF f)), rowE 1 (numR (callsF f)), rowE 1 (strR (nmT f names k)), .row 6 [[.p (.str names[j]), .p (.int .i64 f.params), .p (.int .i64 f.slots), .sl 2 1 0 (encB (blankF f)).length, slE 3 1 (numR (callsF f)), slE 4 1 (strR (nmT f names k))]]])
      (fun k => k ≤ f.ins.length) (fun k => f.ins.length - k) 0 (by simp) ?_ ?_
    · simp only [hce, numR, strR, nmT_zero, List.map_nil, slE_nil, rowE_nil]
      refine wkt_dup [1, 2, 10, 0, 0, 8] (by simp) (by simp) (by simp [lives, bysO]) (hw_row rfl (by simp [zObjV, belowL, below]) (hw_row rfl (by simp [belowL, below, Mfn.cs]) (hw_row rfl (bysO_pure _) (hw_dead (by simp) (hw_dead (by simp) (hw_rowr (by simp [below]) (by simp [ren, renL]) hw_nil)))))) ?_
      simp [below, ren, hsl, insL]
    · intro k hk
      have hin : insL f.ins = .lst 5 (f.ins.map Mins.cs) := rfl
      simp -implicitDefEqProofs [hin]
      refine cndb (fun h5 => ?_) (fun h5 => ?_)
      · simp at h5
        have hgk := List.getElem?_eq_getElem h5
        have hsu := nmT_succ (names := names) h5
        have hnl := nmT_len f names k
        have hsl2 := strR_len (nmT f names k)
        by_cases hop : f.ins[k].op = 14
        · obtain ⟨n1, n2⟩ := insOk_n (hall _ (List.getElem_mem h5)) hop
          obtain ⟨q, hq⟩ : ∃ q : Nat, f.ins[k].n = q := ⟨f.ins[k].n.toNat, by omega⟩
          have hqn : q < names.length := by omega
          have hgq := List.getElem?_eq_getElem hqn
          rw [nmC, if_pos hop, hq, Int.toNat_natCast, List.getD, hgq, Option.getD_some] at hsu
          simp -implicitDefEqProofs [hgk, h5, Mins.cs, hop, hq, hsl, hgq, hqn, hsl2]
          refine ⟨by omega, k + 1, h5, by omega, ?_⟩
          rw [hsu, strR_app, slE_app _ (by simp [strR]), rowE_app _ (by simp [strR])]
          refine wkt_pick [0, 1, 2, 3, 7, 5] rfl (by decide) (hw_row rfl (by simp [zObjV, belowL, below]) (hw_row rfl (by simp [belowL, below, Mfn.cs]) (hw_row rfl (bysO_pure _) (hw_rowE rfl (numR_pure _) (hw_row rfl (by rw [← strR_app]; exact strR_pure _) (hw_rowr (by simp [below]) (by simp [ren, renL, hsl2, strR]) hw_nil)))))) ?_
          simp [below, ren, hsl, w1 (i := k) (by omega)]
        · rw [nmC, if_neg hop, List.append_nil] at hsu
          simp -implicitDefEqProofs [hgk, h5, Mins.cs, hop]
          refine ⟨k + 1, h5, by omega, ?_⟩
          rw [hsu]
          refine wkt_pick [0, 1, 2, 3, 4, 5] rfl (by decide) (hw_row rfl (by simp [zObjV, belowL, below]) (hw_row rfl (by simp [belowL, below, Mfn.cs]) (hw_row rfl (bysO_pure _) (hw_rowE rfl (numR_pure _) (hw_rowE rfl (strR_pure _) (hw_rowr (by simp [below]) (by simp [ren, renL]) hw_nil)))))) ?_
          simp [below, ren, hsl, w1 (i := k) (by omega)]
      · simp at h5
        have hke : k = f.ins.length := by omega
        subst hke
        simp -implicitDefEqProofs [nmT_all, ho]
        have hcn := calls_names f names hc
        by_cases he : callsF f = []
        · have hn0 : nmF f names = [] := List.eq_nil_of_length_eq_zero (by rw [← hcn, he]; rfl)
          exact ⟨by simp [zObjV], .inl ⟨he, hn0, 2, ⟨rfl, by rw [he]; rfl, by rw [hn0]; rfl⟩, rfl⟩⟩
        · have hn0 : nmF f names ≠ [] := by intro e; rw [e] at hcn; exact he (List.eq_nil_of_length_eq_zero hcn)
          have hs : strR (nmF f names) ≠ [] := by intro e; exact hn0 (List.map_eq_nil_iff.1 e)
          refine ⟨by simp [zObjV], .inr ⟨he, 2, 3, 4, ?_, rfl, ?_, ?_, by omega, by omega⟩⟩
          · rw [slE_ne (numR_ne he), slE_ne hs]; simp [Obj.ov, numR, strR]
          · show some (rowE 1 (numR (callsF f))) = _
            rw [rowE_ne (numR_ne he)]; rfl
          · show some (rowE 1 (strR (nmF f names))) = _
            rw [rowE_ne hs]; rfl
  · refine (AC.lift (i_callBytes1 G hG (f := blankF f) (by omega) hloB (by rw [hcF]; exact hce)) (by simp [belowL, below]) rfl (by simp only [List.all_cons, List.all_nil, nofnO_num]; rfl)).mono ?_
    rintro r h ⟨rfl, rfl⟩
    simp -implicitDefEqProofs [callR_nxt, shiftV, shiftL, shiftO_num, hcF]
    have hl : (numR (callsF f)).length = (callsF f).length := by simp [numR]
    have hnr := numR_ne hce
    have hnO : rowE 1 (numR (callsF f)) = numO (callsF f) := rowE_ne hnr
    refine loopA (fun k : Nat => tsOf 106 [(2, .p (strL names)), (6, .ptr 0 6 0 0), (11, .ptr 5 6 0 0), (85, .p (insL f.ins)), (86, .p (.int .i64 f.ins.length)), (87, .p (.int .i64 k))])
      (fun k => [.row 6 [zObjV], .row 3 [f.cs.map .p], bysO (encB (blankF f)), rowE 1 (numR (callsF f)), rowE 1 (strR (nmT f names k)), .row 6 [[.p (.str names[j]), .p (.int .i64 f.params), .p (.int .i64 f.slots), .sl 2 1 0 (encB (blankF f)).length, slE 3 1 (numR (callsF f)), slE 4 1 (strR (nmT f names k))]]])
      (fun k => k ≤ f.ins.length) (fun k => f.ins.length - k) 0 (by simp) ?_ ?_
    · rw [hnO, slE_ne hnr, hl]
      simp only [strR, nmT_zero, List.map_nil, slE_nil, rowE_nil]
      refine wkt_dup [1, 2, 10, 11, 0, 8] (by simp) (by simp) (by simp [lives, bysO, numO]) (hw_row rfl (by simp [zObjV, belowL, below]) (hw_row rfl (by simp [belowL, below, Mfn.cs]) (hw_row rfl (bysO_pure _) (hw_row rfl (numO_pure _) (hw_dead (by simp) (hw_rowr (by simp [below]) (by simp [ren, renL]) hw_nil)))))) ?_
      simp [below, ren, hsl, insL]
    · intro k hk
      have hin : insL f.ins = .lst 5 (f.ins.map Mins.cs) := rfl
      simp -implicitDefEqProofs [hin]
      refine cndb (fun h5 => ?_) (fun h5 => ?_)
      · simp at h5
        have hgk := List.getElem?_eq_getElem h5
        have hsu := nmT_succ (names := names) h5
        have hnl := nmT_len f names k
        have hsl2 := strR_len (nmT f names k)
        by_cases hop : f.ins[k].op = 14
        · obtain ⟨n1, n2⟩ := insOk_n (hall _ (List.getElem_mem h5)) hop
          obtain ⟨q, hq⟩ : ∃ q : Nat, f.ins[k].n = q := ⟨f.ins[k].n.toNat, by omega⟩
          have hqn : q < names.length := by omega
          have hgq := List.getElem?_eq_getElem hqn
          rw [nmC, if_pos hop, hq, Int.toNat_natCast, List.getD, hgq, Option.getD_some] at hsu
          simp -implicitDefEqProofs [hgk, h5, Mins.cs, hop, hq, hsl, hgq, hqn, hsl2]
          refine ⟨by omega, k + 1, h5, by omega, ?_⟩
          rw [hsu, strR_app, slE_app _ (by simp [strR]), rowE_app _ (by simp [strR])]
          refine wkt_pick [0, 1, 2, 3, 7, 5] rfl (by decide) (hw_row rfl (by simp [zObjV, belowL, below]) (hw_row rfl (by simp [belowL, below, Mfn.cs]) (hw_row rfl (bysO_pure _) (hw_rowE rfl (numR_pure _) (hw_row rfl (by rw [← strR_app]; exact strR_pure _) (hw_rowr (by simp [below]) (by simp [ren, renL, hsl2, strR]) hw_nil)))))) ?_
          simp [below, ren, hsl, w1 (i := k) (by omega)]
        · rw [nmC, if_neg hop, List.append_nil] at hsu
          simp -implicitDefEqProofs [hgk, h5, Mins.cs, hop]
          refine ⟨k + 1, h5, by omega, ?_⟩
          rw [hsu]
          refine wkt_pick [0, 1, 2, 3, 4, 5] rfl (by decide) (hw_row rfl (by simp [zObjV, belowL, below]) (hw_row rfl (by simp [belowL, below, Mfn.cs]) (hw_row rfl (bysO_pure _) (hw_rowE rfl (numR_pure _) (hw_rowE rfl (strR_pure _) (hw_rowr (by simp [below]) (by simp [ren, renL]) hw_nil)))))) ?_
          simp [below, ren, hsl, w1 (i := k) (by omega)]
      · simp at h5
        have hke : k = f.ins.length := by omega
        subst hke
        simp -implicitDefEqProofs [nmT_all, ho]
        have hcn := calls_names f names hc
        by_cases he : callsF f = []
        · have hn0 : nmF f names = [] := List.eq_nil_of_length_eq_zero (by rw [← hcn, he]; rfl)
          exact ⟨by simp [zObjV], .inl ⟨he, hn0, 2, ⟨rfl, by rw [he]; rfl, by rw [hn0]; rfl⟩, rfl⟩⟩
        · have hn0 : nmF f names ≠ [] := by intro e; rw [e] at hcn; exact he (List.eq_nil_of_length_eq_zero hcn)
          have hs : strR (nmF f names) ≠ [] := by intro e; exact hn0 (List.map_eq_nil_iff.1 e)
          refine ⟨by simp [zObjV], .inr ⟨he, 2, 3, 4, ?_, rfl, ?_, ?_, by omega, by omega⟩⟩
          · rw [slE_ne (numR_ne he), slE_ne hs]; simp [Obj.ov, numR, strR]
          · show some (rowE 1 (numR (callsF f))) = _
            rw [rowE_ne (numR_ne he)]; rfl
          · show some (rowE 1 (strR (nmF f names))) = _
            rw [rowE_ne hs]; rfl
end Go.Proofs.YtbbobekgnclkfaaDoor
namespace Go.Proofs.YtbbobekgnclkfaaDoor
open Go Go.Aw
set_option maxRecDepth 100000
set_option maxHeartbeats 4000000
theorem obj_viewT {h : List AO} {o : Obj} {a b c : Nat} {x : Bool} (e1 : h[a]? = some (bysO o.code)) (e2 : h[b]? = some (numO o.calls)) (e3 : h[c]? = some (strO o.names)) : Views h [.agg (o.ov a b c), .p (.bool x)] [.agg (o.cs.map .p), .p (.bool x)] :=
  .agg (.keep (by simp [below]) (.keep (by simp [below]) (.keep (by simp [below]) (.one (bysO_view e1) (.one (numO_view e2) (.one (strO_view e3) .nil)))))) (.keep (by simp [below]) .nil)
variable (G : Glob) (hG : G g_forms = some pvForms) (hK : G g_keys = some pvKeys)
include hG hK
theorem i_ObjectOf0 {fs : List Mfn} {i : Int} {names : List (List UInt8)} (hb : szF fs + szW names ≤ 1048576) (ho : objOf fs i names = none) : VF Tryd.prog G n_impl_ObjectOf [.agg [.p (fnsL fs)], .p (.int .i64 i), .p (strL names)] (.tup [.agg zObjV, .p (.bool false)]) := by
  refine AC.freezeR ((k_iObjectOf G hG hK fs i names hb).mono (R' := fun r _ => r = .ret (.tup [.agg zObjV, .p (.bool false)])) fun r h e => by rw [ho] at e; exact e) (fun t v h e => by cases e) fun v h e => ?_
  cases e
  exact .keep (by simp [below, belowL, zObjV]) .nil
/-- Nothing is called. -/
theorem i_ObjectOfE {fs : List Mfn} {i : Int} {names : List (List UInt8)} (hb : szF fs + szW names ≤ 1048576) {o : Obj} (ho : objOf fs i names = some o) (he : o.calls = []) : o.names = [] ∧ AC Tryd.prog G n_impl_ObjectOf [.agg [.p (fnsL fs)], .p (.int .i64 i), .p (strL names)] [] fun x h =>
    x = .ret (.tup [.agg [.p (.str o.name), .p (.int .i64 o.params), .p (.int .i64 o.slots), .sl 0 1 0 o.code.length, .nils, .nils], .p (.bool true)]) ∧ h = [bysO o.code] := by
  have hn : o.names = [] := by
    unfold objOf at ho
    split at ho
    · split at ho
      · split at ho
        · rename_i hc
          cases ho
          simp only at he ⊢
          rename_i f _
          exact List.eq_nil_of_length_eq_zero (by rw [← calls_names f names hc, he]; rfl)
        · cases ho
      · cases ho
    · cases ho
  refine ⟨hn, (k_iObjectOf G hG hK fs i names hb).gc (fun t v h e => ?_) fun v h e => ?_⟩
  · rw [ho] at e
    rcases e with ⟨_, _, a, e, _⟩ | ⟨_, a, b, c, e, _⟩ <;> cases e
  · rw [ho] at e
    rcases e with ⟨_, _, a, e, e1⟩ | ⟨hne, _⟩
    · cases e
      exact ⟨.tup [.agg [.p (.str o.name), .p (.int .i64 o.params), .p (.int .i64 o.slots), .sl 0 1 0 o.code.length, .nils, .nils], .p (.bool true)], [bysO o.code], ⟨[a], by simp, by simp, by simp, by simp [below, belowL], by simp [ren, renL], hw_row e1 (bysO_pure _) hw_nil⟩, rfl, rfl⟩
    · exact absurd he hne
theorem i_ObjectOfN {fs : List Mfn} {i : Int} {names : List (List UInt8)} (hb : szF fs + szW names ≤ 1048576) {o : Obj} (ho : objOf fs i names = some o) (he : o.calls ≠ []) : AC Tryd.prog G n_impl_ObjectOf [.agg [.p (fnsL fs)], .p (.int .i64 i), .p (strL names)] [] fun x h =>
    x = .ret (.tup [.agg (o.ov 0 1 2), .p (.bool true)]) ∧ h = [bysO o.code, numO o.calls, strO o.names] := by
  refine (k_iObjectOf G hG hK fs i names hb).gc (fun t v h e => ?_) fun v h e => ?_
  · rw [ho] at e
    rcases e with ⟨_, _, a, e, _⟩ | ⟨_, a, b, c, e, _⟩ <;> cases e
  · rw [ho] at e
    rcases e with ⟨hn, _⟩ | ⟨_, a, b, c, e, e1, e2, e3, l1, l2⟩
    · exact absurd hn he
    · cases e
      refine ⟨.tup [.agg (o.ov 0 1 2), .p (.bool true)], [bysO o.code, numO o.calls, strO o.names], ⟨[a, b, c], by simp, by simp, ?_, by simp [below, belowL, Obj.ov], by simp [ren, renL, Obj.ov], hw_row e1 (bysO_pure _) (hw_row e2 (numO_pure _) (hw_row e3 (strO_pure _) hw_nil))⟩, rfl, rfl⟩
      simp
      omega
theorem t_iObjectOf {fs : List Mfn} {i : Int} {names : List (List UInt8)} (hb : szF fs + szW names ≤ 1048576) {o : Obj} (ho : objOf fs i names = some o) : VF Tryd.prog G n_impl_ObjectOf [.agg [.p (fnsL fs)], .p (.int .i64 i), .p (strL names)] (.tup [.agg (o.cs.map .p), .p (.bool true)]) := by
  by_cases he : o.calls = []
  · obtain ⟨hn, h⟩ := i_ObjectOfE G hG hK hb ho he
    refine AC.freeze h (.tup (.agg (.keep (by simp [below]) (.keep (by simp [below]) (.keep (by simp [below]) (.one (bysO_view rfl) (.one ?_ (.one ?_ .nil)))))) (.keep (by simp [below]) .nil)) .nil)
    · rw [he]; exact View.nils 1
    · rw [hn]; exact View.nils 1
  · exact AC.freeze (i_ObjectOfN G hG hK hb ho he) (.tup (obj_viewT rfl rfl rfl) .nil)
end Go.Proofs.YtbbobekgnclkfaaDoor
namespace Go.Proofs.YtbbobekgnclkfaaDoor
open Go Go.Aw
set_option maxRecDepth 100000
abbrev n_spec_l30Open : FuncId := 54
abbrev n_spec_l30Rd_pick : FuncId := 56
abbrev n_spec_l30Rd_num : FuncId := 57
abbrev n_spec_l22Some : FuncId := 130
abbrev n_spec_l22Mach : FuncId := 103
abbrev n_spec_l22Bent : FuncId := 55
abbrev n_spec_DrawObjectOf : FuncId := 22
abbrev n_laws_wwInts : FuncId := 25
abbrev n_laws_FnObjectOf : FuncId := 5
def F_spec_l30Open : FK := ⟨11, [.t 2],
 .seq (.reg [⟨(some 2), none, .mov (.c .nilp)⟩])
 (.seq (.seq (.reg [⟨(some 3), none, .mov (.t 0)⟩,
   ⟨(some 4), none, .len false (.t 3)⟩,
   ⟨(some 5), none, .bin .gtr (.t 4) (.c (.p (.int .i64 2000)))⟩])
 (.cond (.t 5)
  (.reg [⟨(some 6), none, .mov (.t 0)⟩,
    ⟨(some 7), none, .slS 1 (.t 6) none (some (.c (.p (.int .i64 2000))))⟩,
    ⟨(some 0), none, .mov (.t 7)⟩])
  (.skip)))
 (.seq (.reg [⟨(some 8), none, .mov (.t 0)⟩,
   ⟨(some 9), none, .bld [.nils, (.p (.int .i64 0))] [(0, 1, (.t 8))]⟩,
   ⟨(some 10), none, .box 2 (.t 9)⟩,
   ⟨(some 2), none, .mov (.t 10)⟩])
 (.ret)))⟩
theorem k_spec_l30Open : compF Tryd.prog n_spec_l30Open = some F_spec_l30Open := by kernel_rfl
def F_spec_l30Rd_pick : FK := ⟨99, [.t 4],
 .seq (.reg [⟨(some 4), none, .mov (.c (.p (.int .i64 0)))⟩])
 (.seq (.reg [⟨(some 7), none, .mov (.t 0)⟩,
   ⟨(some 8), none, .mov (.t 0)⟩,
   ⟨(some 9), none, .nilck (.t 8)⟩,
   ⟨(some 10), none, .fldA 1 (.t 9)⟩,
   ⟨(some 11), none, .ld none (.t 10)⟩,
   ⟨(some 12), none, .bin .add (.t 11) (.c (.p (.int .i64 1)))⟩,
   ⟨(some 13), none, .nilck (.t 7)⟩,
   ⟨(some 14), none, .fldA 1 (.t 13)⟩,
   ⟨none, none, .st 1 (.t 14) (.t 12)⟩])
 (.seq (.seq (.reg [⟨(some 15), none, .mov (.t 1)⟩,
   ⟨(some 16), none, .bin .lss (.t 15) (.c (.p (.int .i64 1)))⟩,
   ⟨(some 17), none, .mov (.t 16)⟩,
   ⟨(some 18), (some (17, false)), .mov (.t 0)⟩,
   ⟨(some 19), (some (17, false)), .nilck (.t 18)⟩,
   ⟨(some 20), (some (17, false)), .fldA 0 (.t 19)⟩,
   ⟨(some 21), (some (17, false)), .ld none (.t 20)⟩,
   ⟨(some 22), (some (17, false)), .len false (.t 21)⟩,
   ⟨(some 23), (some (17, false)), .bin .eql (.t 22) (.c (.p (.int .i64 0)))⟩,
   ⟨(some 24), none, .pick (.t 17) (.c (.p (.bool true))) (.t 23)⟩])
 (.cond (.t 24)
  (.seq (.reg [⟨(some 4), none, .mov (.c (.p (.int .i64 0)))⟩])
  (.ret))
  (.skip)))
 (.seq (.reg [⟨(some 25), none, .mov (.t 0)⟩,
   ⟨(some 26), none, .nilck (.t 25)⟩,
   ⟨(some 27), none, .fldA 1 (.t 26)⟩,
   ⟨(some 28), none, .ld none (.t 27)⟩,
   ⟨(some 29), none, .bin .sub (.t 28) (.c (.p (.int .i64 1)))⟩,
   ⟨(some 5), none, .mov (.t 29)⟩])
 (.seq (.seq (.reg [⟨(some 30), none, .mov (.t 5)⟩,
   ⟨(some 31), none, .mov (.t 0)⟩,
   ⟨(some 32), none, .nilck (.t 31)⟩,
   ⟨(some 33), none, .fldA 0 (.t 32)⟩,
   ⟨(some 34), none, .ld none (.t 33)⟩,
   ⟨(some 35), none, .len false (.t 34)⟩,
   ⟨(some 36), none, .bin .lss (.t 30) (.t 35)⟩])
 (.cond (.t 36)
  (.seq (.reg [⟨(some 37), none, .mov (.t 0)⟩,
    ⟨(some 38), none, .nilck (.t 37)⟩,
    ⟨(some 39), none, .fldA 0 (.t 38)⟩,
    ⟨(some 40), none, .ld none (.t 39)⟩,
    ⟨(some 41), none, .mov (.t 5)⟩,
    ⟨(some 42), none, .idxS 1 (.t 40) (.t 41)⟩,
    ⟨(some 43), none, .ld none (.t 42)⟩,
    ⟨(some 44), none, .conv .i64 (.t 43)⟩,
    ⟨(some 45), none, .mov (.t 1)⟩,
    ⟨(some 46), none, .bin .rem (.t 44) (.t 45)⟩,
    ⟨(some 4), none, .mov (.t 46)⟩])
  (.ret))
  (.skip)))
 (.seq (.reg [⟨(some 47), none, .mov (.t 0)⟩,
   ⟨(some 48), none, .nilck (.t 47)⟩,
   ⟨(some 49), none, .fldA 0 (.t 48)⟩,
   ⟨(some 51), none, .mov (.t 5)⟩,
   ⟨(some 52), none, .mov (.t 0)⟩,
   ⟨(some 53), none, .nilck (.t 52)⟩,
   ⟨(some 54), none, .fldA 0 (.t 53)⟩,
   ⟨(some 62), none, .mov (.t 0)⟩,
   ⟨(some 63), none, .nilck (.t 62)⟩,
   ⟨(some 64), none, .fldA 0 (.t 63)⟩,
   ⟨(some 66), none, .mov (.t 5)⟩,
   ⟨(some 67), none, .bin .mul (.t 66) (.c (.p (.int .i64 7)))⟩,
   ⟨(some 68), none, .bin .add (.t 67) (.c (.p (.int .i64 3)))⟩,
   ⟨(some 69), none, .mov (.t 0)⟩,
   ⟨(some 70), none, .nilck (.t 69)⟩,
   ⟨(some 71), none, .fldA 0 (.t 70)⟩,
   ⟨(some 80), none, .mov (.t 5)⟩,
   ⟨(some 81), none, .bin .mul (.t 80) (.c (.p (.int .i64 29)))⟩,
   ⟨(some 83), none, .mov (.t 5)⟩,
   ⟨(some 84), none, .mov (.t 0)⟩,
   ⟨(some 85), none, .nilck (.t 84)⟩,
   ⟨(some 86), none, .fldA 0 (.t 85)⟩,
   ⟨(some 50), none, .ld none (.t 49)⟩,
   ⟨(some 55), none, .ld none (.t 54)⟩,
   ⟨(some 56), none, .len false (.t 55)⟩,
   ⟨(some 57), none, .bin .rem (.t 51) (.t 56)⟩,
   ⟨(some 58), none, .idxS 1 (.t 50) (.t 57)⟩,
   ⟨(some 59), none, .ld none (.t 58)⟩,
   ⟨(some 60), none, .conv .i64 (.t 59)⟩,
   ⟨(some 61), none, .bin .mul (.t 60) (.c (.p (.int .i64 131)))⟩,
   ⟨(some 65), none, .ld none (.t 64)⟩,
   ⟨(some 72), none, .ld none (.t 71)⟩,
   ⟨(some 73), none, .len false (.t 72)⟩,
   ⟨(some 74), none, .bin .rem (.t 68) (.t 73)⟩,
   ⟨(some 75), none, .idxS 1 (.t 65) (.t 74)⟩,
   ⟨(some 76), none, .ld none (.t 75)⟩,
   ⟨(some 77), none, .conv .i64 (.t 76)⟩,
   ⟨(some 78), none, .bin .mul (.t 77) (.c (.p (.int .i64 1117)))⟩,
   ⟨(some 79), none, .bin .add (.t 61) (.t 78)⟩,
   ⟨(some 82), none, .bin .add (.t 79) (.t 81)⟩,
   ⟨(some 87), none, .ld none (.t 86)⟩,
   ⟨(some 88), none, .len false (.t 87)⟩,
   ⟨(some 89), none, .bin .quo (.t 83) (.t 88)⟩,
   ⟨(some 90), none, .bin .mul (.t 89) (.c (.p (.int .i64 53)))⟩,
   ⟨(some 91), none, .bin .add (.t 82) (.t 90)⟩,
   ⟨(some 6), none, .mov (.t 91)⟩])
 (.seq (.reg [⟨(some 92), none, .mov (.t 6)⟩,
   ⟨(some 93), none, .mov (.t 6)⟩,
   ⟨(some 94), none, .bin .quo (.t 93) (.c (.p (.int .i64 64)))⟩,
   ⟨(some 95), none, .bin .xor (.t 92) (.t 94)⟩,
   ⟨(some 6), none, .mov (.t 95)⟩])
 (.seq (.reg [⟨(some 96), none, .mov (.t 6)⟩,
   ⟨(some 97), none, .mov (.t 1)⟩,
   ⟨(some 98), none, .bin .rem (.t 96) (.t 97)⟩,
   ⟨(some 4), none, .mov (.t 98)⟩])
 (.ret))))))))⟩
theorem k_spec_l30Rd_pick : compF Tryd.prog n_spec_l30Rd_pick = some F_spec_l30Rd_pick := by kernel_rfl
def F_spec_l30Rd_num : FK := ⟨12, [.t 4],
 .seq (.reg [⟨(some 4), none, .mov (.c (.p (.int .i64 0)))⟩])
 (.seq (.reg [⟨(some 5), none, .mov (.t 1)⟩,
   ⟨(some 6), none, .mov (.t 0)⟩,
   ⟨(some 7), none, .mov (.t 1)⟩,
   ⟨(some 8), none, .len false (.t 7)⟩,
   ⟨(some 9), none, .call n_spec_l30Rd_pick [(.t 6), (.t 8)]⟩,
   ⟨(some 10), none, .idxS 1 (.t 5) (.t 9)⟩,
   ⟨(some 11), none, .ld none (.t 10)⟩,
   ⟨(some 4), none, .mov (.t 11)⟩])
 (.ret))⟩
theorem k_spec_l30Rd_num : compF Tryd.prog n_spec_l30Rd_num = some F_spec_l30Rd_num := by kernel_rfl
def F_spec_l22Some : FK := ⟨109, [.c 8 (some 5)],
 .seq (.reg [⟨(some 6), none, .box 3 (.t 2)⟩,
   ⟨(some 8), none, .alloc [(.p (.int .i64 0)), (.p (.int .i64 0)), (.p (.int .i64 0)), (.p (.int .i64 0)), (.p (.int .i64 0))]⟩])
 (.seq (.reg [⟨(some 15), none, .mov (.t 0)⟩,
   ⟨(some 16), none, .bsl 1 [(.p (.int .i64 0))] 23 [(0, 1, (.c (.p (.int .i64 1)))), (1, 1, (.c (.p (.int .i64 1)))), (2, 1, (.c (.p (.int .i64 2)))), (3, 1, (.c (.p (.int .i64 3)))), (4, 1, (.c (.p (.int .i64 4)))), (5, 1, (.c (.p (.int .i64 5)))), (6, 1, (.c (.p (.int .i64 8)))), (7, 1, (.c (.p (.int .i64 9)))), (8, 1, (.c (.p (.int .i64 10)))), (9, 1, (.c (.p (.int .i64 13)))), (10, 1, (.c (.p (.int .i64 21)))), (11, 1, (.c (.p (.int .i64 6)))), (12, 1, (.c (.p (.int .i64 7)))), (13, 1, (.c (.p (.int .i64 11)))), (14, 1, (.c (.p (.int .i64 12)))), (15, 1, (.c (.p (.int .i64 14)))), (16, 1, (.c (.p (.int .i64 15)))), (17, 1, (.c (.p (.int .i64 16)))), (18, 1, (.c (.p (.int .i64 17)))), (19, 1, (.c (.p (.int .i64 18)))), (20, 1, (.c (.p (.int .i64 19)))), (21, 1, (.c (.p (.int .i64 20)))), (22, 1, (.c (.p (.int .i64 22))))]⟩,
   ⟨(some 17), none, .call n_spec_l30Rd_num [(.t 15), (.t 16)]⟩,
   ⟨(some 18), none, .bld [(.p (.int .i64 0)), (.p (.int .i64 0)), (.p (.int .i64 0)), (.p (.int .i64 0)), (.p (.int .i64 0))] [(0, 1, (.t 17))]⟩,
   ⟨(some 9), none, .alloc [(.p (.int .i64 0)), (.p (.int .i64 0)), (.p (.int .i64 0)), (.p (.int .i64 0)), (.p (.int .i64 0))]⟩,
   ⟨none, none, .st 5 (.t 9) (.t 18)⟩])
 (.seq (.reg [⟨(some 20), none, .fldA 0 (.t 9)⟩,
   ⟨(some 21), none, .ld none (.t 20)⟩,
   ⟨(some 22), none, .call n_spec_l22Word [(.t 21)]⟩,
   ⟨(some 19), none, .mov (.t 22)⟩,
   ⟨(some 23), none, .ext 0 (.t 19)⟩,
   ⟨(some 24), none, .ext 1 (.t 19)⟩,
   ⟨(some 10), none, .mov (.t 23)⟩,
   ⟨(some 11), none, .mov (.t 24)⟩])
 (.seq (.seq (.reg [⟨(some 12), none, .mov (.c (.p (.int .i64 0)))⟩])
 (.blk 0 (.loop (.seq (.seq (.reg [⟨(some 25), none, .mov (.t 12)⟩,
   ⟨(some 26), none, .mov (.t 11)⟩,
   ⟨(some 27), none, .len true (.t 26)⟩,
   ⟨(some 28), none, .bin .lss (.t 25) (.t 27)⟩])
 (.cond (.t 28)
  (.skip)
  (.exit 0)))
 (.seq (.blk 1 (.seq (.reg [⟨(some 31), none, .mov (.t 0)⟩,
   ⟨(some 32), none, .mov (.t 0)⟩,
   ⟨(some 33), none, .bsl 1 [(.p (.int .i64 0))] 3 [(0, 1, (.c (.p (.int .i64 4)))), (1, 1, (.c (.p (.int .i64 8)))), (2, 1, (.c (.p (.int .i64 2))))]⟩,
   ⟨(some 34), none, .call n_spec_l30Rd_num [(.t 32), (.t 33)]⟩,
   ⟨(some 35), none, .call n_spec_l30Rd_pick [(.t 31), (.t 34)]⟩,
   ⟨(some 13), none, .mov (.t 35)⟩])
 (.seq (.reg [⟨(some 36), none, .mov (.t 11)⟩,
   ⟨(some 37), none, .mov (.t 12)⟩,
   ⟨(some 38), none, .idxStr (.t 36) (.t 37)⟩])
 (.blk 2 (.seq (.reg [⟨(some 40), none, .bin .eql (.t 38) (.c (.p (.int .u8 65)))⟩,
   ⟨(some 39), none, .mov (.t 40)⟩])
 (.cond (.t 39)
  (.reg [⟨(some 41), none, .mov (.t 13)⟩,
    ⟨(some 42), none, .fldA 1 (.t 9)⟩,
    ⟨none, none, .st 1 (.t 42) (.t 41)⟩])
  (.seq (.reg [⟨(some 44), none, .bin .eql (.t 38) (.c (.p (.int .u8 66)))⟩,
    ⟨(some 43), none, .mov (.t 44)⟩])
  (.cond (.t 43)
   (.reg [⟨(some 45), none, .mov (.t 13)⟩,
     ⟨(some 46), none, .fldA 2 (.t 9)⟩,
     ⟨none, none, .st 1 (.t 46) (.t 45)⟩])
   (.seq (.reg [⟨(some 48), none, .bin .eql (.t 38) (.c (.p (.int .u8 67)))⟩,
     ⟨(some 47), none, .mov (.t 48)⟩])
   (.cond (.t 47)
    (.reg [⟨(some 49), none, .mov (.t 13)⟩,
      ⟨(some 50), none, .fldA 3 (.t 9)⟩,
      ⟨none, none, .st 1 (.t 50) (.t 49)⟩])
    (.skip)))))))))))
 (.reg [⟨(some 29), none, .mov (.t 12)⟩,
   ⟨(some 30), none, .bin .add (.t 29) (.c (.p (.int .i64 1)))⟩,
   ⟨(some 12), none, .mov (.t 30)⟩]))))))
 (.seq (.reg [⟨(some 14), none, .mov (.c (.p (.int .i64 0)))⟩])
 (.seq (.seq (.reg [⟨(some 51), none, .fldA 0 (.t 9)⟩,
   ⟨(some 52), none, .ld none (.t 51)⟩])
 (.blk 3 (.seq (.reg [⟨(some 54), none, .bin .eql (.t 52) (.c (.p (.int .i64 1)))⟩,
   ⟨(some 53), none, .mov (.t 54)⟩])
 (.cond (.t 53)
  (.reg [⟨(some 55), none, .mov (.t 0)⟩,
    ⟨(some 56), none, .bsl 1 [(.p (.int .i64 0))] 7 [(0, 1, (.c (.p (.int .i64 0)))), (1, 1, (.c (.p (.int .i64 1)))), (2, 1, (.c (.p (.int .i64 2)))), (3, 1, (.c (.p (.int .i64 3)))), (4, 1, (.c (.p (.int .i64 15)))), (5, 1, (.c (.p (.int .i64 16)))), (6, 1, (.c (.p (.int .i64 255))))]⟩,
    ⟨(some 57), none, .call n_spec_l30Rd_num [(.t 55), (.t 56)]⟩,
    ⟨(some 58), none, .fldA 4 (.t 9)⟩,
    ⟨none, none, .st 1 (.t 58) (.t 57)⟩])
  (.seq (.reg [⟨(some 60), none, .bin .eql (.t 52) (.c (.p (.int .i64 14)))⟩,
    ⟨(some 59), none, .mov (.t 60)⟩])
  (.cond (.t 59)
   (.reg [⟨(some 61), none, .mov (.t 1)⟩,
     ⟨(some 14), none, .mov (.t 61)⟩])
   (.seq (.seq (.reg [⟨(some 63), none, .bin .eql (.t 52) (.c (.p (.int .i64 15)))⟩,
     ⟨(some 62), none, .mov (.t 63)⟩])
   (.cond (.t 62)
    (.skip)
    (.reg [⟨(some 64), none, .bin .eql (.t 52) (.c (.p (.int .i64 16)))⟩,
      ⟨(some 62), none, .mov (.t 64)⟩])))
   (.cond (.t 62)
    (.reg [⟨(some 65), none, .fldA 1 (.t 6)⟩,
      ⟨(some 66), none, .ld none (.t 65)⟩,
      ⟨(some 14), none, .mov (.t 66)⟩])
    (.seq (.reg [⟨(some 68), none, .bin .eql (.t 52) (.c (.p (.int .i64 17)))⟩,
      ⟨(some 67), none, .mov (.t 68)⟩])
    (.cond (.t 67)
     (.reg [⟨(some 14), none, .mov (.c (.p (.int .i64 3)))⟩])
     (.seq (.reg [⟨(some 70), none, .bin .eql (.t 52) (.c (.p (.int .i64 18)))⟩,
       ⟨(some 69), none, .mov (.t 70)⟩])
     (.cond (.t 69)
      (.reg [⟨(some 71), none, .fldA 0 (.t 6)⟩,
        ⟨(some 72), none, .ld none (.t 71)⟩,
        ⟨(some 14), none, .mov (.t 72)⟩])
      (.seq (.seq (.reg [⟨(some 74), none, .bin .eql (.t 52) (.c (.p (.int .i64 20)))⟩,
        ⟨(some 73), none, .mov (.t 74)⟩])
      (.cond (.t 73)
       (.skip)
       (.reg [⟨(some 75), none, .bin .eql (.t 52) (.c (.p (.int .i64 21)))⟩,
         ⟨(some 73), none, .mov (.t 75)⟩])))
      (.cond (.t 73)
       (.reg [⟨(some 76), none, .mov (.t 3)⟩,
         ⟨(some 14), none, .mov (.t 76)⟩])
       (.skip)))))))))))))))
 (.seq (.seq (.reg [⟨(some 77), none, .mov (.t 14)⟩,
   ⟨(some 78), none, .bin .gtr (.t 77) (.c (.p (.int .i64 0)))⟩])
 (.cond (.t 78)
  (.reg [⟨(some 79), none, .mov (.t 0)⟩,
    ⟨(some 80), none, .mov (.t 14)⟩,
    ⟨(some 81), none, .call n_spec_l30Rd_pick [(.t 79), (.t 80)]⟩,
    ⟨(some 82), none, .fldA 4 (.t 9)⟩,
    ⟨none, none, .st 1 (.t 82) (.t 81)⟩])
  (.skip)))
 (.seq (.seq (.reg [⟨(some 83), none, .mov (.t 14)⟩,
   ⟨(some 84), none, .bin .eql (.t 83) (.c (.p (.int .i64 0)))⟩,
   ⟨(some 85), none, .mov (.t 84)⟩,
   ⟨(some 86), (some (85, true)), .fldA 0 (.t 9)⟩,
   ⟨(some 87), (some (85, true)), .ld none (.t 86)⟩,
   ⟨(some 88), (some (85, true)), .bin .eql (.t 87) (.c (.p (.int .i64 14)))⟩,
   ⟨(some 89), (some (85, true)), .mov (.t 88)⟩,
   ⟨(some 90), (some (89, false)), .fldA 0 (.t 9)⟩,
   ⟨(some 91), (some (89, false)), .ld none (.t 90)⟩,
   ⟨(some 92), (some (89, false)), .bin .eql (.t 91) (.c (.p (.int .i64 15)))⟩,
   ⟨(some 93), (some (85, true)), .pick (.t 89) (.c (.p (.bool true))) (.t 92)⟩,
   ⟨(some 94), (some (85, true)), .mov (.t 93)⟩,
   ⟨(some 95), (some (94, false)), .fldA 0 (.t 9)⟩,
   ⟨(some 96), (some (94, false)), .ld none (.t 95)⟩,
   ⟨(some 97), (some (94, false)), .bin .eql (.t 96) (.c (.p (.int .i64 16)))⟩,
   ⟨(some 98), (some (85, true)), .pick (.t 94) (.c (.p (.bool true))) (.t 97)⟩,
   ⟨(some 99), (some (85, true)), .mov (.t 98)⟩,
   ⟨(some 100), (some (99, false)), .fldA 0 (.t 9)⟩,
   ⟨(some 101), (some (99, false)), .ld none (.t 100)⟩,
   ⟨(some 102), (some (99, false)), .bin .eql (.t 101) (.c (.p (.int .i64 18)))⟩,
   ⟨(some 103), (some (85, true)), .pick (.t 99) (.c (.p (.bool true))) (.t 102)⟩,
   ⟨(some 104), none, .pick (.t 85) (.t 103) (.c (.p (.bool false)))⟩])
 (.cond (.t 104)
  (.seq (.reg [⟨(some 105), none, .fldA 1 (.t 9)⟩,
    ⟨(some 106), none, .ld none (.t 105)⟩,
    ⟨(some 107), none, .bld [(.p (.int .i64 0)), (.p (.int .i64 0)), (.p (.int .i64 0)), (.p (.int .i64 0)), (.p (.int .i64 0))] [(0, 1, (.c (.p (.int .i64 13)))), (1, 1, (.t 106))]⟩,
    ⟨none, none, .st 5 (.t 8) (.t 107)⟩])
  (.ret))
  (.skip)))
 (.seq (.reg [⟨(some 108), none, .ld (some 5) (.t 9)⟩,
   ⟨none, none, .st 5 (.t 8) (.t 108)⟩])
 (.ret)))))))))⟩
theorem k_spec_l22Some : compF Tryd.prog n_spec_l22Some = some F_spec_l22Some := by kernel_rfl
def F_spec_l22Mach : FK := ⟨75, [.c 2 (some 1)],
 .seq (.reg [⟨(some 2), none, .alloc [.nils]⟩])
 (.seq (.reg [⟨(some 9), none, .bld [.nils] []⟩,
   ⟨(some 3), none, .alloc [.nils]⟩,
   ⟨none, none, .st 1 (.t 3) (.t 9)⟩])
 (.seq (.reg [⟨(some 10), none, .mov (.t 0)⟩,
   ⟨(some 11), none, .bsl 1 [(.p (.int .i64 0))] 4 [(0, 1, (.c (.p (.int .i64 1)))), (1, 1, (.c (.p (.int .i64 2)))), (2, 1, (.c (.p (.int .i64 1)))), (3, 1, (.c (.p (.int .i64 3))))]⟩,
   ⟨(some 12), none, .call n_spec_l30Rd_num [(.t 10), (.t 11)]⟩,
   ⟨(some 4), none, .mov (.t 12)⟩])
 (.seq (.seq (.reg [⟨(some 5), none, .mov (.c (.p (.int .i64 0)))⟩])
 (.blk 0 (.loop (.seq (.seq (.reg [⟨(some 13), none, .mov (.t 5)⟩,
   ⟨(some 14), none, .mov (.t 4)⟩,
   ⟨(some 15), none, .bin .lss (.t 13) (.t 14)⟩])
 (.cond (.t 15)
  (.skip)
  (.exit 0)))
 (.seq (.blk 1 (.seq (.reg [⟨(some 18), none, .mov (.t 0)⟩,
   ⟨(some 19), none, .bsl 1 [(.p (.int .i64 0))] 4 [(0, 1, (.c (.p (.int .i64 1)))), (1, 1, (.c (.p (.int .i64 0)))), (2, 1, (.c (.p (.int .i64 2)))), (3, 1, (.c (.p (.int .i64 3))))]⟩,
   ⟨(some 20), none, .call n_spec_l30Rd_num [(.t 18), (.t 19)]⟩,
   ⟨(some 21), none, .mov (.t 0)⟩,
   ⟨(some 22), none, .bsl 1 [(.p (.int .i64 0))] 4 [(0, 1, (.c (.p (.int .i64 2)))), (1, 1, (.c (.p (.int .i64 0)))), (2, 1, (.c (.p (.int .i64 5)))), (3, 1, (.c (.p (.int .i64 1))))]⟩,
   ⟨(some 23), none, .call n_spec_l30Rd_num [(.t 21), (.t 22)]⟩,
   ⟨(some 24), none, .bld [(.p (.int .i64 0)), (.p (.int .i64 0)), .nils] [(0, 1, (.t 20)), (1, 1, (.t 23))]⟩,
   ⟨(some 6), none, .alloc [(.p (.int .i64 0)), (.p (.int .i64 0)), .nils]⟩,
   ⟨none, none, .st 3 (.t 6) (.t 24)⟩])
 (.seq (.reg [⟨(some 25), none, .mov (.t 0)⟩,
   ⟨(some 26), none, .bsl 1 [(.p (.int .i64 0))] 6 [(0, 1, (.c (.p (.int .i64 6)))), (1, 1, (.c (.p (.int .i64 9)))), (2, 1, (.c (.p (.int .i64 14)))), (3, 1, (.c (.p (.int .i64 3)))), (4, 1, (.c (.p (.int .i64 1)))), (5, 1, (.c (.p (.int .i64 20))))]⟩,
   ⟨(some 27), none, .call n_spec_l30Rd_num [(.t 25), (.t 26)]⟩,
   ⟨(some 7), none, .mov (.t 27)⟩])
 (.seq (.seq (.reg [⟨(some 8), none, .mov (.c (.p (.int .i64 0)))⟩])
 (.blk 2 (.loop (.seq (.seq (.reg [⟨(some 28), none, .mov (.t 8)⟩,
   ⟨(some 29), none, .mov (.t 7)⟩,
   ⟨(some 30), none, .bin .sub (.t 29) (.c (.p (.int .i64 1)))⟩,
   ⟨(some 31), none, .bin .lss (.t 28) (.t 30)⟩])
 (.cond (.t 31)
  (.skip)
  (.exit 2)))
 (.seq (.blk 3 (.reg [⟨(some 34), none, .fldA 2 (.t 6)⟩,
   ⟨(some 36), none, .mov (.t 0)⟩,
   ⟨(some 37), none, .mov (.t 5)⟩,
   ⟨(some 39), none, .mov (.t 7)⟩,
   ⟨(some 35), none, .ld none (.t 34)⟩,
   ⟨(some 38), none, .ld (some 3) (.t 6)⟩,
   ⟨(some 40), none, .call n_spec_l22Some [(.t 36), (.t 37), (.t 38), (.t 39)]⟩,
   ⟨none, none, .chk none 34 35⟩,
   ⟨(some 41), none, .bslP 5 [(.p (.int .i64 0)), (.p (.int .i64 0)), (.p (.int .i64 0)), (.p (.int .i64 0)), (.p (.int .i64 0))] 1 [(0, 5, (.t 40))]⟩,
   ⟨(some 42), none, .app 5 40 (.t 35) (.t 41)⟩,
   ⟨(some 43), none, .fldA 2 (.t 6)⟩,
   ⟨none, none, .st 1 (.t 43) (.t 42)⟩]))
 (.reg [⟨(some 32), none, .mov (.t 8)⟩,
   ⟨(some 33), none, .bin .add (.t 32) (.c (.p (.int .i64 1)))⟩,
   ⟨(some 8), none, .mov (.t 33)⟩]))))))
 (.seq (.seq (.reg [⟨(some 44), none, .mov (.t 7)⟩,
   ⟨(some 45), none, .bin .gtr (.t 44) (.c (.p (.int .i64 1)))⟩,
   ⟨(some 46), none, .mov (.t 45)⟩,
   ⟨(some 47), (some (46, true)), .mov (.t 0)⟩,
   ⟨(some 48), (some (46, true)), .call n_spec_l30Rd_pick [(.t 47), (.c (.p (.int .i64 6)))]⟩,
   ⟨(some 49), (some (46, true)), .bin .eql (.t 48) (.c (.p (.int .i64 0)))⟩,
   ⟨(some 50), none, .pick (.t 46) (.t 49) (.c (.p (.bool false)))⟩])
 (.cond (.t 50)
  (.reg [⟨(some 51), none, .fldA 2 (.t 6)⟩,
    ⟨(some 53), none, .mov (.t 0)⟩,
    ⟨(some 54), none, .mov (.t 7)⟩,
    ⟨(some 52), none, .ld none (.t 51)⟩,
    ⟨(some 55), none, .call n_spec_l30Rd_pick [(.t 53), (.t 54)]⟩,
    ⟨none, none, .chk none 51 52⟩,
    ⟨(some 56), none, .bld [(.p (.int .i64 0)), (.p (.int .i64 0)), (.p (.int .i64 0)), (.p (.int .i64 0)), (.p (.int .i64 0))] [(0, 1, (.c (.p (.int .i64 20)))), (4, 1, (.t 55))]⟩,
    ⟨(some 57), none, .bslP 5 [(.p (.int .i64 0)), (.p (.int .i64 0)), (.p (.int .i64 0)), (.p (.int .i64 0)), (.p (.int .i64 0))] 1 [(0, 5, (.t 56))]⟩,
    ⟨(some 58), none, .app 5 40 (.t 52) (.t 57)⟩,
    ⟨(some 59), none, .fldA 2 (.t 6)⟩,
    ⟨none, none, .st 1 (.t 59) (.t 58)⟩])
  (.reg [⟨(some 60), none, .fldA 2 (.t 6)⟩,
    ⟨(some 62), none, .mov (.t 0)⟩,
    ⟨(some 61), none, .ld none (.t 60)⟩,
    ⟨(some 63), none, .call n_spec_l30Rd_pick [(.t 62), (.c (.p (.int .i64 8)))]⟩,
    ⟨none, none, .chk none 60 61⟩,
    ⟨(some 64), none, .bld [(.p (.int .i64 0)), (.p (.int .i64 0)), (.p (.int .i64 0)), (.p (.int .i64 0)), (.p (.int .i64 0))] [(0, 1, (.c (.p (.int .i64 22)))), (1, 1, (.t 63))]⟩,
    ⟨(some 65), none, .bslP 5 [(.p (.int .i64 0)), (.p (.int .i64 0)), (.p (.int .i64 0)), (.p (.int .i64 0)), (.p (.int .i64 0))] 1 [(0, 5, (.t 64))]⟩,
    ⟨(some 66), none, .app 5 40 (.t 61) (.t 65)⟩,
    ⟨(some 67), none, .fldA 2 (.t 6)⟩,
    ⟨none, none, .st 1 (.t 67) (.t 66)⟩])))
 (.reg [⟨(some 68), none, .fldA 0 (.t 3)⟩,
   ⟨(some 69), none, .ld none (.t 68)⟩,
   ⟨(some 70), none, .ld (some 3) (.t 6)⟩,
   ⟨(some 71), none, .bsl 3 [(.p (.int .i64 0)), (.p (.int .i64 0)), .nils] 1 [(0, 3, (.t 70))]⟩,
   ⟨(some 72), none, .app 3 40 (.t 69) (.t 71)⟩,
   ⟨(some 73), none, .fldA 0 (.t 3)⟩,
   ⟨none, none, .st 1 (.t 73) (.t 72)⟩]))))))
 (.reg [⟨(some 16), none, .mov (.t 5)⟩,
   ⟨(some 17), none, .bin .add (.t 16) (.c (.p (.int .i64 1)))⟩,
   ⟨(some 5), none, .mov (.t 17)⟩]))))))
 (.seq (.reg [⟨(some 74), none, .ld (some 1) (.t 3)⟩,
   ⟨none, none, .st 1 (.t 2) (.t 74)⟩])
 (.ret)))))⟩
theorem k_spec_l22Mach : compF Tryd.prog n_spec_l22Mach = some F_spec_l22Mach := by kernel_rfl
def F_spec_l22Bent : FK := ⟨98, [.c 2 (some 1)],
 .seq (.reg [⟨(some 2), none, .alloc [.nils]⟩])
 (.seq (.reg [⟨(some 7), none, .mov (.t 0)⟩,
   ⟨(some 8), none, .call n_spec_l22Mach [(.t 7)]⟩,
   ⟨(some 3), none, .alloc [.nils]⟩,
   ⟨none, none, .st 1 (.t 3) (.t 8)⟩])
 (.seq (.reg [⟨(some 9), none, .fldA 0 (.t 3)⟩,
   ⟨(some 11), none, .mov (.t 0)⟩,
   ⟨(some 12), none, .fldA 0 (.t 3)⟩,
   ⟨(some 10), none, .ld none (.t 9)⟩,
   ⟨(some 13), none, .ld none (.t 12)⟩,
   ⟨(some 14), none, .len false (.t 13)⟩,
   ⟨(some 15), none, .call n_spec_l30Rd_pick [(.t 11), (.t 14)]⟩,
   ⟨none, none, .chk none 9 10⟩,
   ⟨(some 16), none, .idxS 3 (.t 10) (.t 15)⟩,
   ⟨(some 4), none, .mov (.t 16)⟩])
 (.seq (.reg [⟨(some 17), none, .mov (.t 4)⟩,
   ⟨(some 18), none, .nilck (.t 17)⟩,
   ⟨(some 19), none, .fldA 2 (.t 18)⟩,
   ⟨(some 21), none, .mov (.t 0)⟩,
   ⟨(some 22), none, .mov (.t 4)⟩,
   ⟨(some 23), none, .nilck (.t 22)⟩,
   ⟨(some 24), none, .fldA 2 (.t 23)⟩,
   ⟨(some 20), none, .ld none (.t 19)⟩,
   ⟨(some 25), none, .ld none (.t 24)⟩,
   ⟨(some 26), none, .len false (.t 25)⟩,
   ⟨(some 27), none, .call n_spec_l30Rd_pick [(.t 21), (.t 26)]⟩,
   ⟨none, none, .chk none 19 20⟩,
   ⟨(some 28), none, .idxS 5 (.t 20) (.t 27)⟩,
   ⟨(some 5), none, .mov (.t 28)⟩])
 (.seq (.reg [⟨(some 29), none, .mov (.t 0)⟩,
   ⟨(some 30), none, .mov (.t 4)⟩,
   ⟨(some 31), none, .nilck (.t 30)⟩,
   ⟨(some 32), none, .fldA 2 (.t 31)⟩,
   ⟨(some 33), none, .ld none (.t 32)⟩,
   ⟨(some 34), none, .len false (.t 33)⟩,
   ⟨(some 35), none, .bsl 1 [(.p (.int .i64 0))] 6 [(0, 1, (.c (.p (.int .i64 (-1))))), (1, 1, (.c (.p (.int .i64 8)))), (2, 1, (.c (.p (.int .i64 64)))), (3, 1, (.c (.p (.int .i64 300)))), (4, 1, (.t 34)), (5, 1, (.c (.p (.int .i64 1))))]⟩,
   ⟨(some 36), none, .call n_spec_l30Rd_num [(.t 29), (.t 35)]⟩,
   ⟨(some 6), none, .mov (.t 36)⟩])
 (.seq (.seq (.reg [⟨(some 37), none, .mov (.t 0)⟩,
   ⟨(some 38), none, .call n_spec_l30Rd_pick [(.t 37), (.c (.p (.int .i64 28)))]⟩])
 (.blk 0 (.seq (.reg [⟨(some 40), none, .bin .eql (.t 38) (.c (.p (.int .i64 0)))⟩,
   ⟨(some 39), none, .mov (.t 40)⟩])
 (.cond (.t 39)
  (.reg [⟨(some 41), none, .mov (.t 5)⟩,
    ⟨(some 42), none, .mov (.t 0)⟩,
    ⟨(some 43), none, .call n_spec_l30Rd_pick [(.t 42), (.c (.p (.int .i64 25)))]⟩,
    ⟨(some 44), none, .bin .sub (.t 43) (.c (.p (.int .i64 1)))⟩,
    ⟨(some 45), none, .nilck (.t 41)⟩,
    ⟨(some 46), none, .fldA 0 (.t 45)⟩,
    ⟨none, none, .st 1 (.t 46) (.t 44)⟩])
  (.seq (.reg [⟨(some 48), none, .bin .eql (.t 38) (.c (.p (.int .i64 1)))⟩,
    ⟨(some 47), none, .mov (.t 48)⟩])
  (.cond (.t 47)
   (.reg [⟨(some 49), none, .mov (.t 5)⟩,
     ⟨(some 50), none, .mov (.t 6)⟩,
     ⟨(some 51), none, .nilck (.t 49)⟩,
     ⟨(some 52), none, .fldA 1 (.t 51)⟩,
     ⟨none, none, .st 1 (.t 52) (.t 50)⟩])
   (.seq (.reg [⟨(some 54), none, .bin .eql (.t 38) (.c (.p (.int .i64 2)))⟩,
     ⟨(some 53), none, .mov (.t 54)⟩])
   (.cond (.t 53)
    (.reg [⟨(some 55), none, .mov (.t 5)⟩,
      ⟨(some 56), none, .mov (.t 6)⟩,
      ⟨(some 57), none, .nilck (.t 55)⟩,
      ⟨(some 58), none, .fldA 4 (.t 57)⟩,
      ⟨none, none, .st 1 (.t 58) (.t 56)⟩])
    (.seq (.reg [⟨(some 60), none, .bin .eql (.t 38) (.c (.p (.int .i64 3)))⟩,
      ⟨(some 59), none, .mov (.t 60)⟩])
    (.cond (.t 59)
     (.reg [⟨(some 61), none, .mov (.t 5)⟩,
       ⟨(some 62), none, .mov (.t 6)⟩,
       ⟨(some 63), none, .nilck (.t 61)⟩,
       ⟨(some 64), none, .fldA 3 (.t 63)⟩,
       ⟨none, none, .st 1 (.t 64) (.t 62)⟩])
     (.seq (.reg [⟨(some 66), none, .bin .eql (.t 38) (.c (.p (.int .i64 4)))⟩,
       ⟨(some 65), none, .mov (.t 66)⟩])
     (.cond (.t 65)
      (.reg [⟨(some 67), none, .mov (.t 4)⟩,
        ⟨(some 68), none, .mov (.t 0)⟩,
        ⟨(some 69), none, .bsl 1 [(.p (.int .i64 0))] 4 [(0, 1, (.c (.p (.int .i64 65)))), (1, 1, (.c (.p (.int .i64 (-1))))), (2, 1, (.c (.p (.int .i64 0)))), (3, 1, (.c (.p (.int .i64 64))))]⟩,
        ⟨(some 70), none, .call n_spec_l30Rd_num [(.t 68), (.t 69)]⟩,
        ⟨(some 71), none, .nilck (.t 67)⟩,
        ⟨(some 72), none, .fldA 1 (.t 71)⟩,
        ⟨none, none, .st 1 (.t 72) (.t 70)⟩])
      (.seq (.reg [⟨(some 74), none, .bin .eql (.t 38) (.c (.p (.int .i64 5)))⟩,
        ⟨(some 73), none, .mov (.t 74)⟩])
      (.cond (.t 73)
       (.reg [⟨(some 75), none, .mov (.t 4)⟩,
         ⟨(some 76), none, .mov (.t 4)⟩,
         ⟨(some 77), none, .nilck (.t 76)⟩,
         ⟨(some 78), none, .fldA 2 (.t 77)⟩,
         ⟨(some 80), none, .mov (.t 4)⟩,
         ⟨(some 81), none, .nilck (.t 80)⟩,
         ⟨(some 82), none, .fldA 2 (.t 81)⟩,
         ⟨(some 79), none, .ld none (.t 78)⟩,
         ⟨(some 83), none, .ld none (.t 82)⟩,
         ⟨(some 84), none, .len false (.t 83)⟩,
         ⟨(some 85), none, .bin .sub (.t 84) (.c (.p (.int .i64 1)))⟩,
         ⟨(some 86), none, .slS 5 (.t 79) none (some (.t 85))⟩,
         ⟨(some 87), none, .nilck (.t 75)⟩,
         ⟨(some 88), none, .fldA 2 (.t 87)⟩,
         ⟨none, none, .st 1 (.t 88) (.t 86)⟩])
       (.seq (.reg [⟨(some 90), none, .bin .eql (.t 38) (.c (.p (.int .i64 6)))⟩,
         ⟨(some 89), none, .mov (.t 90)⟩])
       (.cond (.t 89)
        (.reg [⟨(some 91), none, .mov (.t 4)⟩,
          ⟨(some 92), none, .mov (.t 0)⟩,
          ⟨(some 93), none, .bsl 1 [(.p (.int .i64 0))] 3 [(0, 1, (.c (.p (.int .i64 4)))), (1, 1, (.c (.p (.int .i64 (-1))))), (2, 1, (.c (.p (.int .i64 0))))]⟩,
          ⟨(some 94), none, .call n_spec_l30Rd_num [(.t 92), (.t 93)]⟩,
          ⟨(some 95), none, .nilck (.t 91)⟩,
          ⟨(some 96), none, .fldA 0 (.t 95)⟩,
          ⟨none, none, .st 1 (.t 96) (.t 94)⟩])
        (.skip)))))))))))))))))
 (.seq (.reg [⟨(some 97), none, .ld (some 1) (.t 3)⟩,
   ⟨none, none, .st 1 (.t 2) (.t 97)⟩])
 (.ret)))))))⟩
theorem k_spec_l22Bent : compF Tryd.prog n_spec_l22Bent = some F_spec_l22Bent := by kernel_rfl
def F_spec_DrawObjectOf : FK := ⟨36, [.c 2 (some 1), .t 3, .t 4],
 .seq (.reg [⟨(some 2), none, .alloc [.nils]⟩,
   ⟨(some 3), none, .mov (.c (.p (.int .i64 0)))⟩,
   ⟨(some 4), none, .mov (.c .nils)⟩])
 (.seq (.reg [⟨(some 8), none, .mov (.t 0)⟩,
   ⟨(some 9), none, .call n_spec_l30Open [(.t 8)]⟩,
   ⟨(some 5), none, .mov (.t 9)⟩])
 (.seq (.reg [⟨(some 10), none, .mov (.t 5)⟩,
   ⟨(some 11), none, .call n_spec_l22Bent [(.t 10)]⟩,
   ⟨(some 6), none, .alloc [.nils]⟩,
   ⟨none, none, .st 1 (.t 6) (.t 11)⟩])
 (.seq (.reg [⟨(some 12), none, .bsl 1 [(.p (.str []))] 4 [(0, 1, (.c (.p (.str [102])))), (1, 1, (.c (.p (.str [103])))), (2, 1, (.c (.p (.str [104])))), (3, 1, (.c (.p (.str [109]))))]⟩,
   ⟨(some 13), none, .fldA 0 (.t 6)⟩,
   ⟨(some 14), none, .ld none (.t 13)⟩,
   ⟨(some 15), none, .len false (.t 14)⟩,
   ⟨(some 16), none, .slS 1 (.t 12) none (some (.t 15))⟩,
   ⟨(some 7), none, .mov (.t 16)⟩])
 (.seq (.seq (.reg [⟨(some 17), none, .mov (.t 5)⟩,
   ⟨(some 18), none, .call n_spec_l30Rd_pick [(.t 17), (.c (.p (.int .i64 12)))]⟩,
   ⟨(some 19), none, .bin .eql (.t 18) (.c (.p (.int .i64 0)))⟩])
 (.cond (.t 19)
  (.reg [⟨(some 20), none, .bsl 1 [(.p (.str []))] 3 [(0, 1, (.c (.p (.str [102])))), (1, 1, (.c (.p (.str [102])))), (2, 1, (.c (.p (.str [105, 102]))))]⟩,
    ⟨(some 21), none, .mov (.t 5)⟩,
    ⟨(some 22), none, .call n_spec_l30Rd_pick [(.t 21), (.c (.p (.int .i64 4)))]⟩,
    ⟨(some 23), none, .slS 1 (.t 20) none (some (.t 22))⟩,
    ⟨(some 7), none, .mov (.t 23)⟩])
  (.skip)))
 (.seq (.reg [⟨(some 25), none, .mov (.t 5)⟩,
   ⟨(some 26), none, .fldA 0 (.t 6)⟩,
   ⟨(some 30), none, .fldA 0 (.t 6)⟩,
   ⟨(some 35), none, .mov (.t 7)⟩,
   ⟨(some 24), none, .ld (some 1) (.t 6)⟩,
   ⟨(some 27), none, .ld none (.t 26)⟩,
   ⟨(some 28), none, .len false (.t 27)⟩,
   ⟨(some 29), none, .bin .sub (.t 28) (.c (.p (.int .i64 1)))⟩,
   ⟨(some 31), none, .ld none (.t 30)⟩,
   ⟨(some 32), none, .len false (.t 31)⟩,
   ⟨(some 33), none, .bslP 1 [(.p (.int .i64 0))] 5 [(0, 1, (.t 29)), (1, 1, (.c (.p (.int .i64 0)))), (2, 1, (.c (.p (.int .i64 (-1))))), (3, 1, (.t 32)), (4, 1, (.c (.p (.int .i64 0))))]⟩,
   ⟨(some 34), none, .call n_spec_l30Rd_num [(.t 25), (.t 33)]⟩,
   ⟨none, none, .chk (some 1) 6 24⟩,
   ⟨none, none, .st 1 (.t 2) (.t 24)⟩,
   ⟨(some 3), none, .mov (.t 34)⟩,
   ⟨(some 4), none, .mov (.t 35)⟩])
 (.ret))))))⟩
theorem k_spec_DrawObjectOf : compF Tryd.prog n_spec_DrawObjectOf = some F_spec_DrawObjectOf := by kernel_rfl
def F_laws_wwInts : FK := ⟨29, [.t 4],
 .seq (.reg [⟨(some 4), none, .mov (.c (.p (.bool false)))⟩])
 (.seq (.seq (.reg [⟨(some 6), none, .mov (.t 0)⟩,
   ⟨(some 7), none, .len false (.t 6)⟩,
   ⟨(some 8), none, .mov (.t 1)⟩,
   ⟨(some 9), none, .len false (.t 8)⟩,
   ⟨(some 10), none, .mn (.t 7) (.t 9)⟩,
   ⟨(some 11), none, .mov (.c (.p (.int .i64 0)))⟩])
 (.blk 0 (.loop (.seq (.reg [⟨(some 12), none, .bin .lss (.t 11) (.t 10)⟩])
 (.seq (.cond (.t 12)
  (.skip)
  (.exit 0))
 (.seq (.blk 1 (.seq (.reg [⟨(some 13), none, .mov (.t 11)⟩,
   ⟨(some 5), none, .mov (.t 13)⟩])
 (.seq (.reg [⟨(some 14), none, .mov (.t 0)⟩,
   ⟨(some 15), none, .mov (.t 5)⟩,
   ⟨(some 16), none, .idxS 1 (.t 14) (.t 15)⟩,
   ⟨(some 18), none, .mov (.t 1)⟩,
   ⟨(some 19), none, .mov (.t 5)⟩,
   ⟨(some 20), none, .idxS 1 (.t 18) (.t 19)⟩,
   ⟨(some 17), none, .ld none (.t 16)⟩,
   ⟨(some 21), none, .ld none (.t 20)⟩,
   ⟨(some 22), none, .bin .neq (.t 17) (.t 21)⟩])
 (.cond (.t 22)
  (.seq (.reg [⟨(some 4), none, .mov (.c (.p (.bool false)))⟩])
  (.ret))
  (.skip)))))
 (.reg [⟨(some 23), none, .bin .add (.t 11) (.c (.p (.int .i64 1)))⟩,
   ⟨(some 11), none, .mov (.t 23)⟩])))))))
 (.seq (.reg [⟨(some 24), none, .mov (.t 0)⟩,
   ⟨(some 25), none, .len false (.t 24)⟩,
   ⟨(some 26), none, .mov (.t 1)⟩,
   ⟨(some 27), none, .len false (.t 26)⟩,
   ⟨(some 28), none, .bin .eql (.t 25) (.t 27)⟩,
   ⟨(some 4), none, .mov (.t 28)⟩])
 (.ret)))⟩
theorem k_laws_wwInts : compF Tryd.prog n_laws_wwInts = some F_laws_wwInts := by kernel_rfl
def F_laws_FnObjectOf : FK := ⟨155, [.t 2],
 .seq (.reg [⟨(some 2), none, .mov (.c (.p (.bool false)))⟩])
 (.seq (.seq (.reg [⟨(some 13), none, .mov (.t 0)⟩,
   ⟨(some 14), none, .len false (.t 13)⟩,
   ⟨(some 15), none, .bin .gtr (.t 14) (.c (.p (.int .i64 1048576)))⟩])
 (.cond (.t 15)
  (.seq (.reg [⟨(some 2), none, .mov (.c (.p (.bool true)))⟩])
  (.ret))
  (.skip)))
 (.seq (.reg [⟨(some 17), none, .mov (.t 0)⟩,
   ⟨(some 18), none, .call n_spec_DrawObjectOf [(.t 17)]⟩,
   ⟨(some 16), none, .mov (.t 18)⟩,
   ⟨(some 19), none, .ext 0 (.t 16)⟩,
   ⟨(some 20), none, .ext 1 (.t 16)⟩,
   ⟨(some 21), none, .ext 2 (.t 16)⟩,
   ⟨(some 3), none, .alloc [.nils]⟩,
   ⟨none, none, .st 1 (.t 3) (.t 19)⟩,
   ⟨(some 4), none, .mov (.t 20)⟩,
   ⟨(some 5), none, .mov (.t 21)⟩])
 (.seq (.reg [⟨(some 23), none, .ld (some 1) (.t 3)⟩,
   ⟨(some 24), none, .mov (.t 4)⟩,
   ⟨(some 25), none, .mov (.t 5)⟩,
   ⟨(some 26), none, .call n_impl_ObjectOf [(.t 23), (.t 24), (.t 25)]⟩,
   ⟨(some 22), none, .mov (.t 26)⟩,
   ⟨(some 27), none, .ext 0 (.t 22)⟩,
   ⟨(some 28), none, .ext 1 (.t 22)⟩,
   ⟨(some 6), none, .alloc [(.p (.str [])), (.p (.int .i64 0)), (.p (.int .i64 0)), .nils, .nils, .nils]⟩,
   ⟨none, none, .st 6 (.t 6) (.t 27)⟩,
   ⟨(some 7), none, .mov (.t 28)⟩])
 (.seq (.reg [⟨(some 30), none, .ld (some 1) (.t 3)⟩,
   ⟨(some 31), none, .mov (.t 4)⟩,
   ⟨(some 32), none, .mov (.t 5)⟩,
   ⟨(some 33), none, .call n_spec_ObjectOf [(.t 30), (.t 31), (.t 32)]⟩,
   ⟨(some 29), none, .mov (.t 33)⟩,
   ⟨(some 34), none, .ext 0 (.t 29)⟩,
   ⟨(some 35), none, .ext 1 (.t 29)⟩,
   ⟨(some 8), none, .alloc [(.p (.str [])), (.p (.int .i64 0)), (.p (.int .i64 0)), .nils, .nils, .nils]⟩,
   ⟨none, none, .st 6 (.t 8) (.t 34)⟩,
   ⟨(some 9), none, .mov (.t 35)⟩])
 (.seq (.seq (.reg [⟨(some 36), none, .mov (.t 7)⟩,
   ⟨(some 37), none, .mov (.t 9)⟩,
   ⟨(some 38), none, .beq true (.t 36) (.t 37)⟩,
   ⟨(some 39), none, .mov (.t 38)⟩,
   ⟨(some 40), (some (39, false)), .mov (.t 7)⟩,
   ⟨(some 41), (some (39, false)), .not (.t 40)⟩,
   ⟨(some 42), none, .pick (.t 39) (.c (.p (.bool true))) (.t 41)⟩])
 (.cond (.t 42)
  (.seq (.reg [⟨(some 43), none, .mov (.t 7)⟩,
    ⟨(some 44), none, .mov (.t 9)⟩,
    ⟨(some 45), none, .beq false (.t 43) (.t 44)⟩,
    ⟨(some 46), none, .mov (.t 45)⟩,
    ⟨(some 47), (some (46, true)), .fldA 0 (.t 6)⟩,
    ⟨(some 48), (some (46, true)), .ld none (.t 47)⟩,
    ⟨(some 49), (some (46, true)), .bins .eql (.t 48) (.c (.p (.str [])))⟩,
    ⟨(some 50), none, .pick (.t 46) (.t 49) (.c (.p (.bool false)))⟩,
    ⟨(some 2), none, .mov (.t 50)⟩])
  (.ret))
  (.skip)))
 (.seq (.seq (.reg [⟨(some 51), none, .fldA 3 (.t 6)⟩,
   ⟨(some 54), none, .fldA 3 (.t 8)⟩,
   ⟨(some 52), none, .ld none (.t 51)⟩,
   ⟨(some 53), none, .btos (.t 52)⟩,
   ⟨(some 55), none, .ld none (.t 54)⟩,
   ⟨(some 56), none, .btos (.t 55)⟩,
   ⟨(some 57), none, .bins .neq (.t 53) (.t 56)⟩,
   ⟨(some 58), none, .mov (.t 57)⟩,
   ⟨(some 59), (some (58, false)), .fldA 4 (.t 6)⟩,
   ⟨(some 61), (some (58, false)), .fldA 4 (.t 8)⟩,
   ⟨(some 60), (some (58, false)), .ld none (.t 59)⟩,
   ⟨(some 62), (some (58, false)), .ld none (.t 61)⟩,
   ⟨(some 63), (some (58, false)), .call n_laws_wwInts [(.t 60), (.t 62)]⟩,
   ⟨(some 64), (some (58, false)), .not (.t 63)⟩,
   ⟨(some 65), none, .pick (.t 58) (.c (.p (.bool true))) (.t 64)⟩,
   ⟨(some 66), none, .mov (.t 65)⟩,
   ⟨(some 67), (some (66, false)), .fldA 5 (.t 6)⟩,
   ⟨(some 70), (some (66, false)), .fldA 5 (.t 8)⟩,
   ⟨(some 68), (some (66, false)), .ld none (.t 67)⟩,
   ⟨(some 69), (some (66, false)), .len false (.t 68)⟩,
   ⟨(some 71), (some (66, false)), .ld none (.t 70)⟩,
   ⟨(some 72), (some (66, false)), .len false (.t 71)⟩,
   ⟨(some 73), (some (66, false)), .bin .neq (.t 69) (.t 72)⟩,
   ⟨(some 74), none, .pick (.t 66) (.c (.p (.bool true))) (.t 73)⟩,
   ⟨(some 75), none, .mov (.t 74)⟩,
   ⟨(some 76), (some (75, false)), .fldA 0 (.t 6)⟩,
   ⟨(some 78), (some (75, false)), .mov (.t 5)⟩,
   ⟨(some 79), (some (75, false)), .mov (.t 4)⟩,
   ⟨(some 80), (some (75, false)), .idxS 1 (.t 78) (.t 79)⟩,
   ⟨(some 77), (some (75, false)), .ld none (.t 76)⟩,
   ⟨(some 81), (some (75, false)), .ld none (.t 80)⟩,
   ⟨(some 82), (some (75, false)), .bins .neq (.t 77) (.t 81)⟩,
   ⟨(some 83), none, .pick (.t 75) (.c (.p (.bool true))) (.t 82)⟩])
 (.cond (.t 83)
  (.seq (.reg [⟨(some 2), none, .mov (.c (.p (.bool false)))⟩])
  (.ret))
  (.skip)))
 (.seq (.reg [⟨(some 10), none, .mov (.c (.p (.int .i64 0)))⟩])
 (.seq (.seq (.reg [⟨(some 84), none, .fldA 0 (.t 3)⟩,
   ⟨(some 85), none, .ld none (.t 84)⟩,
   ⟨(some 86), none, .mov (.t 4)⟩,
   ⟨(some 87), none, .idxS 3 (.t 85) (.t 86)⟩,
   ⟨(some 88), none, .fldA 2 (.t 87)⟩,
   ⟨(some 89), none, .ld none (.t 88)⟩,
   ⟨(some 90), none, .len false (.t 89)⟩,
   ⟨(some 91), none, .mov (.c (.p (.int .i64 0)))⟩])
 (.blk 0 (.loop (.seq (.reg [⟨(some 92), none, .bin .lss (.t 91) (.t 90)⟩])
 (.seq (.cond (.t 92)
  (.skip)
  (.exit 0))
 (.seq (.blk 1 (.seq (.reg [⟨(some 93), none, .idxS 5 (.t 89) (.t 91)⟩,
   ⟨(some 94), none, .ld (some 5) (.t 93)⟩,
   ⟨(some 12), none, .alloc [(.p (.int .i64 0)), (.p (.int .i64 0)), (.p (.int .i64 0)), (.p (.int .i64 0)), (.p (.int .i64 0))]⟩,
   ⟨none, none, .st 5 (.t 12) (.t 94)⟩])
 (.seq (.reg [⟨(some 95), none, .fldA 0 (.t 12)⟩,
   ⟨(some 96), none, .ld none (.t 95)⟩,
   ⟨(some 97), none, .bin .eql (.t 96) (.c (.p (.int .i64 14)))⟩])
 (.cond (.t 97)
  (.seq (.seq (.reg [⟨(some 98), none, .fldA 5 (.t 6)⟩,
    ⟨(some 100), none, .mov (.t 10)⟩,
    ⟨(some 103), none, .mov (.t 5)⟩,
    ⟨(some 104), none, .fldA 4 (.t 12)⟩,
    ⟨(some 99), none, .ld none (.t 98)⟩,
    ⟨(some 101), none, .idxS 1 (.t 99) (.t 100)⟩,
    ⟨(some 102), none, .ld none (.t 101)⟩,
    ⟨(some 105), none, .ld none (.t 104)⟩,
    ⟨(some 106), none, .idxS 1 (.t 103) (.t 105)⟩,
    ⟨(some 107), none, .ld none (.t 106)⟩,
    ⟨(some 108), none, .bins .neq (.t 102) (.t 107)⟩,
    ⟨(some 109), none, .mov (.t 108)⟩,
    ⟨(some 110), (some (109, false)), .fldA 3 (.t 6)⟩,
    ⟨(some 112), (some (109, false)), .fldA 4 (.t 6)⟩,
    ⟨(some 114), (some (109, false)), .mov (.t 10)⟩,
    ⟨(some 111), (some (109, false)), .ld none (.t 110)⟩,
    ⟨(some 113), (some (109, false)), .ld none (.t 112)⟩,
    ⟨(some 115), (some (109, false)), .idxS 1 (.t 113) (.t 114)⟩,
    ⟨(some 116), (some (109, false)), .ld none (.t 115)⟩,
    ⟨(some 117), (some (109, false)), .idxS 1 (.t 111) (.t 116)⟩,
    ⟨(some 118), (some (109, false)), .ld none (.t 117)⟩,
    ⟨(some 119), (some (109, false)), .bin .neq (.t 118) (.c (.p (.int .u8 0)))⟩,
    ⟨(some 120), none, .pick (.t 109) (.c (.p (.bool true))) (.t 119)⟩])
  (.cond (.t 120)
   (.seq (.reg [⟨(some 2), none, .mov (.c (.p (.bool false)))⟩])
   (.ret))
   (.skip)))
  (.reg [⟨(some 121), none, .mov (.t 10)⟩,
    ⟨(some 122), none, .bin .add (.t 121) (.c (.p (.int .i64 1)))⟩,
    ⟨(some 10), none, .mov (.t 122)⟩]))
  (.skip)))))
 (.reg [⟨(some 123), none, .bin .add (.t 91) (.c (.p (.int .i64 1)))⟩,
   ⟨(some 91), none, .mov (.t 123)⟩])))))))
 (.seq (.reg [⟨(some 124), none, .mov (.t 10)⟩,
   ⟨(some 125), none, .fldA 5 (.t 6)⟩,
   ⟨(some 126), none, .ld none (.t 125)⟩,
   ⟨(some 127), none, .len false (.t 126)⟩,
   ⟨(some 128), none, .bin .eql (.t 124) (.t 127)⟩,
   ⟨(some 129), none, .mov (.t 128)⟩,
   ⟨(some 130), (some (129, true)), .ld (some 6) (.t 6)⟩,
   ⟨(some 131), (some (129, true)), .call n_impl_ObjectValid [(.t 130)]⟩,
   ⟨(some 132), none, .pick (.t 129) (.t 131) (.c (.p (.bool false)))⟩,
   ⟨(some 133), none, .mov (.t 132)⟩,
   ⟨(some 134), (some (133, true)), .fldA 1 (.t 6)⟩,
   ⟨(some 136), (some (133, true)), .fldA 0 (.t 3)⟩,
   ⟨(some 138), (some (133, true)), .mov (.t 4)⟩,
   ⟨(some 135), (some (133, true)), .ld none (.t 134)⟩,
   ⟨(some 137), (some (133, true)), .ld none (.t 136)⟩,
   ⟨(some 139), (some (133, true)), .idxS 3 (.t 137) (.t 138)⟩,
   ⟨(some 140), (some (133, true)), .fldA 0 (.t 139)⟩,
   ⟨(some 141), (some (133, true)), .ld none (.t 140)⟩,
   ⟨(some 142), (some (133, true)), .bin .eql (.t 135) (.t 141)⟩,
   ⟨(some 143), none, .pick (.t 133) (.t 142) (.c (.p (.bool false)))⟩,
   ⟨(some 144), none, .mov (.t 143)⟩,
   ⟨(some 145), (some (144, true)), .fldA 2 (.t 6)⟩,
   ⟨(some 147), (some (144, true)), .fldA 0 (.t 3)⟩,
   ⟨(some 149), (some (144, true)), .mov (.t 4)⟩,
   ⟨(some 146), (some (144, true)), .ld none (.t 145)⟩,
   ⟨(some 148), (some (144, true)), .ld none (.t 147)⟩,
   ⟨(some 150), (some (144, true)), .idxS 3 (.t 148) (.t 149)⟩,
   ⟨(some 151), (some (144, true)), .fldA 1 (.t 150)⟩,
   ⟨(some 152), (some (144, true)), .ld none (.t 151)⟩,
   ⟨(some 153), (some (144, true)), .bin .eql (.t 146) (.t 152)⟩,
   ⟨(some 154), none, .pick (.t 144) (.t 153) (.c (.p (.bool false)))⟩,
   ⟨(some 2), none, .mov (.t 154)⟩])
 (.ret))))))))))⟩
theorem k_laws_FnObjectOf : compF Tryd.prog n_laws_FnObjectOf = some F_laws_FnObjectOf := by kernel_rfl
end Go.Proofs.YtbbobekgnclkfaaDoor
namespace Go.Aw
variable {P : Program} {G : Glob}
/-- From the callee's names to the caller's. -/
theorem ren_up {W : World} {S : Nat → Prop} {φ φ' : Place} {n m : Nat} {σ : List Nat} (hσ : ∀ i, i < m → σ.getD i 0 < n ∧ φ (σ.getD i 0) = φ' i) {v : AV} {x : Value} (h : VRel W S φ' m v x) : VRel W S φ n (ren σ v) x := by
  induction h with
  | p pv x hp => exact .p _ _ hp
  | agg cs vs hs _ ih =>
    simp only [ren]
    refine .agg _ vs (by rw [hs, renL_length]) fun j c y h1 h2 => ?_
    rw [renL_get, Option.map_eq_some_iff] at h1
    obtain ⟨c0, h1, rfl⟩ := h1
    exact ih j c0 y h1 h2
  | tup cs vs hs _ ih =>
    simp only [ren]
    refine .tup _ vs (by rw [hs, renL_length]) fun j c y h1 h2 => ?_
    rw [renL_get, Option.map_eq_some_iff] at h1
    obtain ⟨c0, h1, rfl⟩ := h1
    exact ih j c0 y h1 h2
  | ptr id esz i off hid =>
    have := VRel.ptr (W := W) (S := S) (φ := φ) (n := n) (σ.getD id 0) esz i off (hσ id hid).1
    rw [(hσ id hid).2] at this
    exact this
  | sl id esz off len cap ba hid hl hb hc =>
    exact VRel.sl (W := W) (S := S) (φ := φ) (n := n) (σ.getD id 0) esz off len cap ba (hσ id hid).1 hl (by rw [(hσ id hid).2]; exact hb) (by rw [(hσ id hid).2]; exact hc)
  | mp id hid =>
    have := VRel.mp (W := W) (S := S) (φ := φ) (n := n) (σ.getD id 0) (hσ id hid).1
    rw [(hσ id hid).2] at this
    exact this
  | it id hid =>
    have := VRel.it (W := W) (S := S) (φ := φ) (n := n) (σ.getD id 0) (hσ id hid).1
    rw [(hσ id hid).2] at this
    exact this
  | fn f caps vs hs _ ih =>
    simp only [ren]
    refine .fn f _ vs (by rw [hs, renL_length]) fun j c y h1 h2 => ?_
    rw [renL_get, Option.map_eq_some_iff] at h1
    obtain ⟨c0, h1, rfl⟩ := h1
    exact ih j c0 y h1 h2
  | gp g off => exact .gp g off
  | nils => exact .nils
  | nilp => exact .nilp
  | nilf => exact .nilf
  | nilm => exact .nilm
  | nili => exact .nili
  | any x => exact .any x
  | eptr e off b o hb hc => exact .eptr e off b o hb hc
  | ifc t pv x hp => exact .ifc t pv x hp
def renO (σ : List Nat) : AO → AO
  | .row sz es => .row sz (es.map (renL σ))
  | .mp es => .mp (es.map fun x => (x.1, ren σ x.2))
  | .sit s pos => .sit s pos
  | .dead => .dead
def renR (σ : List Nat) : ARes → ARes
  | .ret v => .ret (ren σ v)
  | .pan t v => .pan t v
/-- Some objects, put in their places. -/
def mrg (h : List AO) : List Nat → List AO → List AO
  | i :: π, o :: os => mrg (h.set i o) π os
  | _, _ => h
theorem mrg_len : ∀ (π : List Nat) (os h : List AO), (mrg h π os).length = h.length
  | [], _, _ => by simp [mrg]
  | _ :: _, [], _ => by simp [mrg]
  | i :: π, o :: os, h => by rw [mrg, mrg_len, List.length_set]
theorem mrg_out : ∀ (π : List Nat) (os h : List AO) (j : Nat), j ∉ π → (mrg h π os)[j]? = h[j]?
  | [], _, _, _, _ => by simp [mrg]
  | _ :: _, [], _, _, _ => by simp [mrg]
  | i :: π, o :: os, h, j, hj => by
    simp only [List.mem_cons, not_or] at hj
    rw [mrg, mrg_out π os _ j hj.2, List.getElem?_set_ne (Ne.symm hj.1)]
theorem mrg_in : ∀ (π : List Nat) (os h : List AO), π.Nodup → (∀ i ∈ π, i < h.length) → ∀ (i : Nat) (o : AO), i < π.length → os[i]? = some o → (mrg h π os)[π.getD i 0]? = some o
  | [], _, _, _, _, i, o, hi, _ => by simp at hi
  | _ :: _, [], _, _, _, i, o, _, e => by simp at e
  | p :: π, q :: os, h, nd, hb, i, o, hi, e => by
    simp only [List.nodup_cons] at nd
    rw [mrg]
    cases i with
    | zero =>
      simp at e; subst e
      have hp := hb p (by simp)
      simp only [List.getD_cons_zero]
      rw [mrg_out π os _ p nd.1]
      simp [hp]
    | succ i =>
      simp only [List.getD_cons_succ]
      exact mrg_in π os _ nd.2 (fun j hj => by rw [List.length_set]; exact hb j (by simp [hj])) i o (by simpa using hi) (by simpa using e)
theorem renO_live {σ : List Nat} {o : AO} (l : (renO σ o).live) : o.live := by cases o <;> exact l
/-- A CALL BESIDE OTHER OBJECTS: what it does to some objects, it does to them wherever they are. -/
theorem AC.frame {f : FuncId} {args0 args : List AV} {h0 h : List AO} {R : ARes → List AO → Prop} (H : AC P G f args0 h0 R) (π : List Nat) (nd : π.Nodup) (hT : TW π args args0) (hW : HW π h π h0) :
    AC P G f args h fun x h' => ∃ x0 h0', R x0 h0' ∧ h0.length ≤ h0'.length ∧ x = renR (π ++ List.range' h.length (h0'.length - h0.length)) x0 ∧
      h' = mrg h π ((h0'.take h0.length).map (renO (π ++ List.range' h.length (h0'.length - h0.length)))) ++ (h0'.drop h0.length).map (renO (π ++ List.range' h.length (h0'.length - h0.length))) := by
  obtain ⟨t1, t2⟩ := TW_get hT
  obtain ⟨q1, q2, q3, q4, q5⟩ := HW_get hW
  refine ⟨H.1, fun W S φ vs hH hA => ?_⟩
  have hliv : ∀ {id}, Live h0 id → Live h (π.getD id 0) := fun {id} ⟨o, e, l⟩ => by
    cases o with
    | dead => exact l.elim
    | row sz es => exact live_row (q3 _ _ _ e).2
    | mp es => exact live_mp (q4 _ _ e).2
    | sit t pos => exact live_sit (q5 _ _ _ e)
  have hmem : ∀ {i}, i < π.length → π.getD i 0 ∈ π := fun {i} hi => by
    rw [List.getD_eq_getElem?_getD, List.getElem?_eq_getElem hi]; exact List.getElem_mem hi
  have hinj : ∀ i j, i < π.length → j < π.length → π.getD i 0 = π.getD j 0 → i = j := fun i j hi hj e => by
    rw [List.getD_eq_getElem?_getD, List.getD_eq_getElem?_getD, List.getElem?_eq_getElem hi, List.getElem?_eq_getElem hj] at e
    refine (List.getElem?_inj hi nd).1 ?_
    rw [List.getElem?_eq_getElem hi, List.getElem?_eq_getElem hj]
    exact congrArg some (by simpa using e)
  have hbnd : ∀ i ∈ π, i < h.length := fun i hi => by
    obtain ⟨j, hj⟩ := List.getElem?_of_mem hi
    have := q2 j (List.getElem?_eq_some_iff.1 hj).1
    rwa [List.getD_eq_getElem?_getD, hj] at this
  have H0 : HRel G W S (fun i => φ (π.getD i 0)) h0 := by
    refine ⟨fun id sz es hid => ?_, fun id o hid lo => ?_, fun id id' e1 e2 he => ?_, fun b hb => ⟨(hH.sep b hb).1, fun id hid he => ?_⟩, fun id hid => ?_, hH.glob⟩
    · obtain ⟨b1, b2⟩ := q3 id sz es hid
      obtain ⟨c, t, fr, a1, a2, a3, a4, a5⟩ := hH.obj _ _ _ b2
      refine ⟨c, t, fr, a1, a2, fun e he => ?_, by simpa using a4, fun j u hj => ?_⟩
      · have := a3 (renL π e) (List.mem_map.2 ⟨e, he, rfl⟩)
        rwa [renL_length] at this
      · have hr : (es.map (renL π)).flatten[j]? = some (ren π u) := by rw [renL_flatten, renL_get, hj]; rfl
        obtain ⟨c1, v, c2, c3⟩ := a5 j _ hr
        rw [ren_isCell] at c1
        exact ⟨c1, v, c2, by rw [← q1]; exact ren_rel u (belowL_get (belowL_flatten _ b1) j u hj) c3⟩
    · cases o with
      | dead => trivial
      | row sz es => trivial
      | sit t pos => exact hH.oobj _ _ (q5 id t pos hid) trivial
      | mp es =>
        obtain ⟨b1, b2⟩ := q4 id es hid
        obtain ⟨ents, clock, a1, a2, a3, a4⟩ := hH.oobj _ _ b2 trivial
        refine ⟨ents, clock, a1, by simpa using a2, fun j k a hj => ?_, a4⟩
        obtain ⟨e, c1, c2, c3⟩ := a3 j k (ren π a) (by rw [List.getElem?_map, hj]; rfl)
        exact ⟨e, c1, c2, by rw [← q1]; exact ren_rel a (b1 _ (List.mem_of_getElem? hj)) c3⟩
    · exact hinj _ _ (by rw [q1]; exact e1.lt) (by rw [q1]; exact e2.lt) (hH.inj _ _ (hliv e1) (hliv e2) he)
    · exact (hH.sep b hb).2 _ (hliv hid) he
    · exact hH.bnd _ (q2 id (by rw [q1]; exact hid))
  have hA0 : ArgsRel W S (fun i => φ (π.getD i 0)) h0.length args0 vs := ⟨hA.1.trans t1, fun j c v h1 h2 => by
    rcases t2 j c h1 with rfl | ⟨b1, b2⟩
    · exact .any _
    · rw [← q1]; exact ren_rel c b1 (hA.2 j _ v b2 h2)⟩
  refine (H.2 W S _ vs H0 hA0).mono fun e W' ⟨x, S', φ', h', k1, k2, k3, k4⟩ => ?_
  have hle := k4.len
  have hkl : π.length = h0.length := q1
  let σ : List Nat := π ++ List.range' h.length (h'.length - h0.length)
  let ψ : Place := fun j => if j < h.length then φ j else φ' (h0.length + (j - h.length))
  have hψ1 : ∀ {j}, j < h.length → ψ j = φ j := fun {j} hj => by show (if j < h.length then φ j else _) = _; rw [if_pos hj]
  have hψ2 : ∀ j, ψ (h.length + j) = φ' (h0.length + j) := fun j => by show (if h.length + j < h.length then φ _ else φ' _) = _; rw [if_neg (by omega)]; congr 1; omega
  have hσ1 : ∀ i, i < h0.length → σ.getD i 0 = π.getD i 0 := fun i hi => by
    show (π ++ _).getD i 0 = _
    rw [List.getD_eq_getElem?_getD, List.getD_eq_getElem?_getD, List.getElem?_append_left (by omega)]
  have hσ2 : ∀ i, i < h'.length - h0.length → σ.getD (h0.length + i) 0 = h.length + i := fun i hi => by
    show (π ++ List.range' h.length (h'.length - h0.length)).getD _ 0 = _
    rw [List.getD_eq_getElem?_getD, List.getElem?_append_right (by omega), show h0.length + i - π.length = i by omega]
    simp [hi]
  let hm : List AO := mrg h π ((h'.take h0.length).map (renO σ)) ++ (h'.drop h0.length).map (renO σ)
  have hml : hm.length = h.length + (h'.length - h0.length) := by simp [hm, mrg_len]
  have hσ : ∀ i, i < h'.length → σ.getD i 0 < hm.length ∧ ψ (σ.getD i 0) = φ' i := fun i hi => by
    rcases Nat.lt_or_ge i h0.length with h1 | h1
    · have := q2 i (by omega)
      rw [hσ1 i h1]
      exact ⟨by omega, by rw [hψ1 this]; exact (k4.same i h1).symm⟩
    · obtain ⟨j, rfl⟩ : ∃ j, i = h0.length + j := ⟨i - h0.length, by omega⟩
      rw [hσ2 j (by omega)]
      exact ⟨by omega, hψ2 j⟩
  have hget : ∀ {j o}, hm[j]? = some o → (∃ i o', i < h'.length ∧ σ.getD i 0 = j ∧ h'[i]? = some o' ∧ o = renO σ o') ∨ (j < h.length ∧ j ∉ π ∧ h[j]? = some o) := fun {j o} e => by
    rcases Nat.lt_or_ge j h.length with hj | hj
    · have e' : (mrg h π ((h'.take h0.length).map (renO σ)))[j]? = some o := by rw [← e]; exact (List.getElem?_append_left (by rw [mrg_len]; exact hj)).symm
      by_cases hp : j ∈ π
      · left
        obtain ⟨i, hi⟩ := List.getElem?_of_mem hp
        have hil := (List.getElem?_eq_some_iff.1 hi).1
        have hig : π.getD i 0 = j := by rw [List.getD_eq_getElem?_getD, hi]; rfl
        have hih : i < h'.length := by omega
        have hio : h'[i]? = some h'[i] := List.getElem?_eq_getElem hih
        have := mrg_in π ((h'.take h0.length).map (renO σ)) h nd hbnd i (renO σ h'[i]) hil (by rw [List.getElem?_map, List.getElem?_take_of_lt (by omega), hio]; rfl)
        rw [hig, e'] at this
        exact ⟨i, h'[i], hih, by rw [hσ1 i (by omega), hig], hio, Option.some.inj this⟩
      · exact .inr ⟨hj, hp, by rw [← e', mrg_out _ _ _ _ hp]⟩
    · left
      have e' : ((h'.drop h0.length).map (renO σ))[j - h.length]? = some o := by
        rw [← e]
        show _ = (mrg h π _ ++ _)[j]?
        rw [List.getElem?_append_right (by rw [mrg_len]; exact hj), mrg_len]
      rw [List.getElem?_map, Option.map_eq_some_iff] at e'
      obtain ⟨o', e1, e2⟩ := e'
      rw [List.getElem?_drop] at e1
      have hl := (List.getElem?_eq_some_iff.1 e1).1
      exact ⟨h0.length + (j - h.length), o', hl, by rw [hσ2 _ (by omega)]; omega, e1, e2.symm⟩
  have hout : ∀ {j}, j < h.length → j ∉ π → Live h j → W'.heap[(φ j).1]? = W.heap[(φ j).1]? := fun {j} hj hp lj => k4.out _ (hH.bnd j hj) fun id hid he => by
    have := hH.inj _ _ (hliv hid) lj he
    exact hp (this ▸ hmem (by rw [q1]; exact hid.lt))
  have hnew : ∀ b, S' b → S b ∨ W.heap.size ≤ b ∨ ∃ i, Live h0 i ∧ (φ (π.getD i 0)).1 = b := fun b hb => k4.newS b hb
  have K : Keep W S φ h W' S' ψ hm :=
    { pure := k4.pure, len := by omega, same := fun _ hid => hψ1 hid
      blk := fun id hid c t fr e => by
        by_cases hx : ∃ i, Live h0 i ∧ (φ (π.getD i 0)).1 = (φ id).1
        · obtain ⟨i, li, ei⟩ := hx
          have := k4.blk i li.lt c t fr (by rw [ei]; exact e)
          rwa [ei] at this
        · rw [k4.out _ (hH.bnd id hid) fun i li ei => hx ⟨i, li, ei⟩] at e
          exact ⟨c, t, fr, e, rfl⟩
      os := k4.os, tape := k4.tape, output := k4.output, size := k4.size
      out := fun b hb hn => k4.out b hb fun i li => hn _ (hliv li)
      img := fun id ⟨o, e, l⟩ => by
        rcases hget e with ⟨i, o', hi, rfl, e', rfl⟩ | ⟨hj, _, e'⟩
        · rw [(hσ i hi).2]
          rcases k4.img i ⟨_, e', renO_live l⟩ with h2 | ⟨id2, h2, h3⟩
          · exact .inl h2
          · exact .inr ⟨_, hliv h2, h3⟩
        · exact .inr ⟨id, ⟨_, e', l⟩, by rw [hψ1 hj]⟩
      newS := fun b hb => by
        rcases hnew b hb with h2 | h2 | ⟨i, h2, h3⟩
        · exact .inl h2
        · exact .inr (.inl h2)
        · exact .inr (.inr ⟨_, hliv h2, h3⟩) }
  refine ⟨renR σ x, S', ψ, hm, ⟨x, h', k1, hle, rfl, rfl⟩, ⟨fun id sz es e => ?_, fun id o1 e lo => ?_, fun id id' ⟨o1, e1, l1⟩ ⟨o2, e2, l2⟩ he => ?_, fun b hb => ⟨(k2.sep b hb).1, fun id ⟨o1, e, l1⟩ he => ?_⟩, fun id hid => ?_, k2.glob⟩, ?_, K⟩
  · rcases hget e with ⟨i, o', hi, rfl, e', eo⟩ | ⟨hj, hp, e'⟩
    · obtain ⟨es', rfl, rfl⟩ : ∃ es', o' = .row sz es' ∧ es = es'.map (renL σ) := by cases o' <;> cases eo; exact ⟨_, rfl, rfl⟩
      obtain ⟨c, t, fr, a1, a2, a3, a4, a5⟩ := k2.obj i sz es' e'
      refine ⟨c, t, fr, by rw [(hσ i hi).2]; exact a1, a2, fun e he => ?_, by rw [(hσ i hi).2]; simpa using a4, fun j u hj => ?_⟩
      · obtain ⟨e0, he0, rfl⟩ := List.mem_map.1 he
        rw [renL_length]; exact a3 e0 he0
      · rw [renL_flatten, renL_get, Option.map_eq_some_iff] at hj
        obtain ⟨u0, hj, rfl⟩ := hj
        obtain ⟨b1, v, b2, b3⟩ := a5 j u0 hj
        exact ⟨by rw [ren_isCell]; exact b1, v, by rw [(hσ i hi).2]; exact b2, ren_up hσ b3⟩
    · obtain ⟨c, t, fr, a1, a2, a3, a4, a5⟩ := hH.obj id sz es e'
      refine ⟨c, t, fr, by rw [hψ1 hj, hout hj hp (live_row e')]; exact a1, a2, a3, by rw [hψ1 hj]; exact a4, fun j u hj2 => ?_⟩
      obtain ⟨b1, v, b2, b3⟩ := a5 j u hj2
      exact ⟨b1, v, by rw [hψ1 hj]; exact b2, b3.kept K.toKept⟩
  · rcases hget e with ⟨i, o', hi, rfl, e', rfl⟩ | ⟨hj, hp, e'⟩
    · rw [(hσ i hi).2]
      have hq := k2.oobj i o' e' (renO_live lo)
      cases o' with
      | dead => trivial
      | row sz es => trivial
      | sit t pos => exact hq
      | mp es' =>
        obtain ⟨ents, clock, a1, a2, a3, a4⟩ := hq
        refine ⟨ents, clock, a1, by simpa using a2, fun j k a hj => ?_, a4⟩
        rw [List.getElem?_map, Option.map_eq_some_iff] at hj
        obtain ⟨⟨k0, a0⟩, hj, hk⟩ := hj
        cases hk
        obtain ⟨x, c1, c2, c3⟩ := a3 j _ _ hj
        exact ⟨x, c1, c2, ren_up hσ c3⟩
    · rw [hψ1 hj, hout hj hp ⟨_, e', lo⟩]
      exact (hH.oobj id o1 e' lo).mono fun a v r => r.kept K.toKept
  · rcases hget e1 with ⟨i, o', hi, rfl, e1', rfl⟩ | ⟨hj, hp, e1'⟩ <;> rcases hget e2 with ⟨i', o'', hi', rfl, e2', rfl⟩ | ⟨hj', hp', e2'⟩
    · rw [(hσ i hi).2, (hσ i' hi').2] at he
      rw [k2.inj _ _ ⟨_, e1', renO_live l1⟩ ⟨_, e2', renO_live l2⟩ he]
    · rw [(hσ i hi).2, hψ1 hj'] at he
      rcases k4.img i ⟨_, e1', renO_live l1⟩ with h2 | ⟨id2, h2, h3⟩
      · have := hH.bnd _ hj'
        omega
      · have := hH.inj _ _ (hliv h2) ⟨_, e2', l2⟩ (h3.trans he)
        exact (hp' (this ▸ hmem (by rw [q1]; exact h2.lt))).elim
    · rw [(hσ i' hi').2, hψ1 hj] at he
      rcases k4.img i' ⟨_, e2', renO_live l2⟩ with h2 | ⟨id2, h2, h3⟩
      · have := hH.bnd _ hj
        omega
      · have := hH.inj _ _ (hliv h2) ⟨_, e1', l1⟩ (h3.trans he.symm)
        exact (hp (this ▸ hmem (by rw [q1]; exact h2.lt))).elim
    · rw [hψ1 hj, hψ1 hj'] at he; exact hH.inj _ _ ⟨_, e1', l1⟩ ⟨_, e2', l2⟩ he
  · rcases hget e with ⟨i, o', hi, rfl, e', rfl⟩ | ⟨hj, hp, e'⟩
    · rw [(hσ i hi).2] at he
      exact (k2.sep b hb).2 _ ⟨_, e', renO_live l1⟩ he
    · rw [hψ1 hj] at he
      rcases hnew b hb with h2 | h2 | ⟨i, h2, h3⟩
      · exact (hH.sep b h2).2 _ ⟨_, e', l1⟩ he
      · have := hH.bnd id hj
        omega
      · have := hH.inj _ _ (hliv h2) ⟨_, e', l1⟩ (h3.trans he.symm)
        exact hp (this ▸ hmem (by rw [q1]; exact h2.lt))
  · rcases Nat.lt_or_ge id h.length with hi | hi
    · rw [hψ1 hi]; exact Nat.lt_of_lt_of_le (hH.bnd id hi) k4.size
    · obtain ⟨k, rfl⟩ : ∃ k, id = h.length + k := ⟨id - h.length, by omega⟩
      rw [hψ2]
      exact k2.bnd _ (by omega)
  · cases k3 with
    | ret _ x hv => exact .ret _ _ (ren_up hσ hv)
    | pan t v x hp => exact .pan t v x hp
/-- Values: as they are, and with what is frozen as pure data. -/
inductive Fzs (hF : List AO) (n : Nat) : List AV → List AV → Prop where
  | nil : Fzs hF n [] []
  | one {a : AV} {q : PV} {l l' : List AV} : View hF a q → Fzs hF n l l' → Fzs hF n (a :: l) (.p q :: l')
  | agg {cs cs' l l' : List AV} : Fzs hF n cs cs' → Fzs hF n l l' → Fzs hF n (.agg cs :: l) (.agg cs' :: l')
  | tup {cs cs' l l' : List AV} : Fzs hF n cs cs' → Fzs hF n l l' → Fzs hF n (.tup cs :: l) (.tup cs' :: l')
  | keep {a : AV} {l l' : List AV} : below n a → Fzs hF n l l' → Fzs hF n (a :: l) (a :: l')
theorem Fzs.len {hF : List AO} {n : Nat} : ∀ {l l' : List AV}, Fzs hF n l l' → l.length = l'.length
  | _, _, .nil => rfl
  | _, _, .one _ r => by simp [r.len]
  | _, _, .agg _ r => by simp [r.len]
  | _, _, .tup _ r => by simp [r.len]
  | _, _, .keep _ r => by simp [r.len]
theorem Fzs.append {hF : List AO} {n : Nat} : ∀ {l l' m m' : List AV}, Fzs hF n l l' → Fzs hF n m m' → Fzs hF n (l ++ m) (l' ++ m')
  | _, _, _, _, .nil, h => h
  | _, _, _, _, .one v r, h => .one v (r.append h)
  | _, _, _, _, .agg v r, h => .agg v (r.append h)
  | _, _, _, _, .tup v r, h => .tup v (r.append h)
  | _, _, _, _, .keep v r, h => .keep v (r.append h)
theorem below_relN {W : World} {S S' : Nat → Prop} {φ : Place} {n m : Nat} (hS : ∀ b, S b → S' b) {v : AV} (hb : below m v) {x : Value} (h : VRel W S φ n v x) : VRel W S' φ m v x := by
  induction h with
  | p v x hp => exact .p _ _ (hp.mono fun b hb => ⟨hS b hb, rfl⟩)
  | agg cs vs hs _ ih => exact .agg cs vs hs fun j c y h1 h2 => ih j c y h1 h2 (belowL_get (by simpa [below] using hb) j c h1)
  | tup cs vs hs _ ih => exact .tup cs vs hs fun j c y h1 h2 => ih j c y h1 h2 (belowL_get (by simpa [below] using hb) j c h1)
  | ptr id e i o _ => exact .ptr id e i o hb
  | sl id e o l cap ba _ h1 h2 h3 => exact .sl id e o l cap ba hb h1 h2 h3
  | mp id _ => exact .mp id hb
  | it id _ => exact .it id hb
  | eptr e off b o hb' hc =>
    exact .eptr e off b o (hS b hb') fun j c hj => by
      obtain ⟨v, h1, h2⟩ := hc j c hj
      exact ⟨v, h1, h2.mono fun b hb => ⟨hS b hb, rfl⟩⟩
  | gp g off => exact .gp g off
  | fn f caps vs hs _ ih => exact .fn f caps vs hs fun j c y h1 h2 => ih j c y h1 h2 (belowL_get (by simpa [below] using hb) j c h1)
  | nils => exact .nils
  | nilp => exact .nilp
  | nilf => exact .nilf
  | nilm => exact .nilm
  | nili => exact .nili
  | ifc t pv x hp => exact .ifc _ _ _ (hp.mono fun b hb => ⟨hS b hb, rfl⟩)
  | any x => exact .any x
theorem Fzs.rel {W : World} {S : Nat → Prop} {φ : Place} {hF : List AO} {n : Nat} (H : HRel G W S φ hF) : ∀ {l l' : List AV}, Fzs hF n l l' → ∀ (j : Nat) (c c' : AV) (x : Value), l[j]? = some c → l'[j]? = some c' → VRel W S φ hF.length c x → VRel W (fun b => S b ∨ Owned φ hF b) φ n c' x ∧ (c.isCell = true → c'.isCell = true)
  | _, _, .nil, j, c, c', x, h1, _, _ => by simp at h1
  | _, _, .one hv r, j, c, c', x, h1, h2, hx => by
    cases j with
    | zero => simp at h1 h2; subst h1; subst h2; exact ⟨.p _ _ (hv.prel H hx), fun _ => rfl⟩
    | succ j => exact r.rel H j c c' x (by simpa using h1) (by simpa using h2) hx
  | _, _, .agg (cs := cs0) hv r, j, c, c', x, h1, h2, hx => by
    cases j with
    | zero =>
      simp at h1 h2; subst h1; subst h2
      cases hx with
      | agg cs vs hs hc =>
        refine ⟨.agg _ vs (hs.trans hv.len) fun i u y e1 e2 => ?_, fun h => by cases h⟩
        obtain ⟨u0, e0⟩ : ∃ u0, cs0[i]? = some u0 := ⟨_, List.getElem?_eq_getElem (by rw [hv.len]; exact (List.getElem?_eq_some_iff.1 e1).1)⟩
        exact (hv.rel H i u0 u y e0 e1 (hc i u0 y e0 e2)).1
    | succ j => exact r.rel H j c c' x (by simpa using h1) (by simpa using h2) hx
  | _, _, .tup (cs := cs0) hv r, j, c, c', x, h1, h2, hx => by
    cases j with
    | zero =>
      simp at h1 h2; subst h1; subst h2
      cases hx with
      | tup cs vs hs hc =>
        refine ⟨.tup _ vs (hs.trans hv.len) fun i u y e1 e2 => ?_, fun h => by cases h⟩
        obtain ⟨u0, e0⟩ : ∃ u0, cs0[i]? = some u0 := ⟨_, List.getElem?_eq_getElem (by rw [hv.len]; exact (List.getElem?_eq_some_iff.1 e1).1)⟩
        exact (hv.rel H i u0 u y e0 e1 (hc i u0 y e0 e2)).1
    | succ j => exact r.rel H j c c' x (by simpa using h1) (by simpa using h2) hx
  | _, _, .keep hb r, j, c, c', x, h1, h2, hx => by
    cases j with
    | zero => simp at h1 h2; subst h1; subst h2; exact ⟨below_relN (fun b hb => .inl hb) hb hx, id⟩
    | succ j => exact r.rel H j c c' x (by simpa using h1) (by simpa using h2) hx
/-- Objects: as they are, and with what is frozen as pure data; or forgotten. -/
inductive FzO (hF : List AO) (n : Nat) : List AO → List AO → Prop where
  | nil (r : List AO) : FzO hF n r []
  | same {o : AO} {r r1 : List AO} : okO n o → FzO hF n r r1 → FzO hF n (o :: r) (o :: r1)
  | one {sz : Nat} {e e1 : List AV} {r r1 : List AO} : Fzs hF n e e1 → FzO hF n r r1 → FzO hF n (.row sz [e] :: r) (.row sz [e1] :: r1)
  | rows {sz : Nat} {es es1 : List (List AV)} {r r1 : List AO} : es.length = es1.length → (∀ (j : Nat) (e e1 : List AV), es[j]? = some e → es1[j]? = some e1 → Fzs hF n e e1) → FzO hF n r r1 → FzO hF n (.row sz es :: r) (.row sz es1 :: r1)
  | dead {o : AO} {r r1 : List AO} : FzO hF n r r1 → FzO hF n (o :: r) (.dead :: r1)
def FzI (hF : List AO) (n : Nat) (h : List AO) (i : Nat) : AO → Prop
  | .row sz es1 => ∃ es, h[i]? = some (.row sz es) ∧ es.length = es1.length ∧ ∀ (j : Nat) (e e1 : List AV), es[j]? = some e → es1[j]? = some e1 → Fzs hF n e e1
  | .mp es => h[i]? = some (.mp es) ∧ ∀ e ∈ es, below n e.2
  | .sit s p => h[i]? = some (.sit s p)
  | .dead => True
theorem fzs_keep {hF : List AO} {n : Nat} : ∀ {l : List AV}, belowL n l → Fzs hF n l l
  | [], _ => .nil
  | _ :: _, h => .keep h.1 (fzs_keep h.2)
theorem FzO.get {hF : List AO} {n : Nat} : ∀ {h h1 : List AO}, FzO hF n h h1 → ∀ (i : Nat) (o : AO), h1[i]? = some o → FzI hF n h i o
  | _, _, .nil _, i, o, e => by simp at e
  | _, _, .same (o := o0) ho r, i, o, e => by
    cases i with
    | zero =>
      simp at e; subst e
      cases o0 with
      | dead => trivial
      | row sz es => exact ⟨es, rfl, rfl, fun j e e1 h1 h2 => by rw [h1] at h2; cases h2; exact fzs_keep (ho e (List.mem_of_getElem? h1))⟩
      | mp es => exact ⟨rfl, ho⟩
      | sit s p => exact rfl
    | succ i =>
      have := r.get i o (by simpa using e)
      cases o <;> exact this
  | _, _, .one (e := e0) (e1 := e01) hv r, i, o, e => by
    cases i with
    | zero =>
      simp at e; subst e
      refine ⟨_, rfl, rfl, fun j e e1 h1 h2 => ?_⟩
      cases j with
      | zero => simp at h1 h2; subst h1; subst h2; exact hv
      | succ j => simp at h1
    | succ i =>
      have := r.get i o (by simpa using e)
      cases o <;> exact this
  | _, _, .rows hl hv r, i, o, e => by
    cases i with
    | zero => simp at e; subst e; exact ⟨_, rfl, hl, hv⟩
    | succ i =>
      have := r.get i o (by simpa using e)
      cases o <;> exact this
  | _, _, .dead r, i, o, e => by
    cases i with
    | zero => simp at e; subst e; trivial
    | succ i =>
      have := r.get i o (by simpa using e)
      cases o <;> exact this
theorem fzs_flatten {hF : List AO} {n : Nat} : ∀ {es es1 : List (List AV)}, es.length = es1.length → (∀ (j : Nat) (e e1 : List AV), es[j]? = some e → es1[j]? = some e1 → Fzs hF n e e1) → Fzs hF n es.flatten es1.flatten
  | [], [], _, _ => .nil
  | e :: r, e1 :: r1, hl, h => by
    simp only [List.flatten_cons]
    exact (h 0 e e1 rfl rfl).append (fzs_flatten (by simpa using hl) fun j a b ha hb => h (j + 1) a b (by simpa using ha) (by simpa using hb))
  | [], _ :: _, hl, _ => by simp at hl
  | _ :: _, [], hl, _ => by simp at hl
/-- The objects from n on. -/
def tail (n : Nat) (h : List AO) : List AO := List.replicate n .dead ++ h.drop n
/-- FREEZING, the first n objects kept. -/
theorem wk_frz {k n : Nat} {ts ts1 : List AV} {h h1 : List AO} (hk : k ≤ n) (hnl : n ≤ h.length) (hl : h1.length = n) (htl : ts.length = ts1.length)
    (hT : ∀ (i : Nat) (v1 : AV), ts1[i]? = some v1 → v1 = .any ∨ ∃ v, ts[i]? = some v ∧ Fzs (tail n h) n [v] [v1]) (ho : FzO (tail n h) n h h1) : Wk k ts h ts1 h1 := by
  intro G W0 S0 φ0 h0 W S φ a ek s
  subst ek
  have k2 := s.hrel
  have k4 := s.keep
  have htn : (tail n h).length = h.length := by simp [tail]; omega
  have htg : ∀ {id o}, (tail n h)[id]? = some o → o.live → n ≤ id ∧ h[id]? = some o := fun {id o} e l => by
    rcases Nat.lt_or_ge id n with hi | hi
    · rw [tail, List.getElem?_append_left (by simpa using hi), List.getElem?_replicate, if_pos hi] at e
      cases e; exact l.elim
    · rw [tail, List.getElem?_append_right (by simpa using hi), List.length_replicate, List.getElem?_drop, show n + (id - n) = id by omega] at e
      exact ⟨hi, e⟩
  have HF : HRel G W S φ (tail n h) := by
    refine ⟨fun id sz es e => ?_, fun id o e lo => ?_, fun id id' ⟨o1, e1, l1⟩ ⟨o2, e2, l2⟩ he => k2.inj _ _ ⟨_, (htg e1 l1).2, l1⟩ ⟨_, (htg e2 l2).2, l2⟩ he, fun b hb => ⟨(k2.sep b hb).1, fun id ⟨o1, e, l1⟩ he => (k2.sep b hb).2 id ⟨_, (htg e l1).2, l1⟩ he⟩, fun id hid => k2.bnd id (by rwa [htn] at hid), k2.glob⟩
    · rw [htn]; exact k2.obj id sz es (htg e trivial).2
    · rw [htn]; exact k2.oobj id o (htg e lo).2 lo
  have hg : ∀ {i o}, h1[i]? = some o → o.live → i < n ∧ Live h i := fun {i o} e l => by
    refine ⟨by rw [← hl]; exact (List.getElem?_eq_some_iff.1 e).1, ?_⟩
    have := ho.get i o e
    cases o with
    | dead => exact l.elim
    | row sz es => obtain ⟨es', e', _⟩ := this; exact live_row e'
    | mp es => exact live_mp this.1
    | sit s p => exact live_sit this
  refine ⟨(fun b => S b ∨ Owned φ (tail n h) b), φ, ⟨⟨fun id sz es e => ?_, fun id o e lo => ?_, fun id id' ⟨o1, e1, l1⟩ ⟨o2, e2, l2⟩ he => k2.inj _ _ (hg e1 l1).2 (hg e2 l2).2 he, fun b hb => ⟨?_, fun id ⟨o1, e, l1⟩ he => ?_⟩, fun id hid => k2.bnd id (by omega), fun g cs hgl => ?_⟩, ⟨s.trel.size.trans htl, fun i v hi => ?_⟩, s.defers, ?_⟩⟩
  · obtain ⟨es', e', hel, hef⟩ := ho.get id _ e
    obtain ⟨c, t, fr, a1, a2, a3, a4, a5⟩ := k2.obj id sz es' e'
    have hall := fzs_flatten hel hef
    refine ⟨c, t, fr, a1, a2, fun x hx => ?_, by rw [← hel]; exact a4, fun j u hj => ?_⟩
    · obtain ⟨j, hj⟩ := List.getElem?_of_mem hx
      obtain ⟨y, hy⟩ : ∃ y, es'[j]? = some y := ⟨_, List.getElem?_eq_getElem (by rw [hel]; exact (List.getElem?_eq_some_iff.1 hj).1)⟩
      rw [← (hef j y x hy hj).len]; exact a3 y (List.mem_of_getElem? hy)
    · obtain ⟨u0, hu0⟩ : ∃ u0, es'.flatten[j]? = some u0 := ⟨_, List.getElem?_eq_getElem (by rw [hall.len]; exact (List.getElem?_eq_some_iff.1 hj).1)⟩
      obtain ⟨b1, v, b2, b3⟩ := a5 j u0 hu0
      obtain ⟨c1, c2⟩ := hall.rel HF j u0 u v hu0 hj (by rw [htn]; exact b3)
      exact ⟨c2 b1, v, b2, by rw [hl]; exact c1⟩
  · have hi := ho.get id o e
    cases o with
    | dead => trivial
    | row sz es => trivial
    | sit s p => exact k2.oobj id _ hi trivial
    | mp es =>
      obtain ⟨ents, clock, a1, a2, a3, a4⟩ := k2.oobj id _ hi.1 trivial
      refine ⟨ents, clock, a1, a2, fun j k a hj => ?_, a4⟩
      obtain ⟨x, c1, c2, c3⟩ := a3 j k a hj
      exact ⟨x, c1, c2, by rw [hl]; exact below_relN (fun b hb => .inl hb) (hi.2 _ (List.mem_of_getElem? hj)) c3⟩
  · rcases hb with hb | ⟨id, ⟨o, e, l⟩, he⟩
    · exact (k2.sep b hb).1
    · rw [← he]; exact k2.bnd id (by rw [← htn]; exact (List.getElem?_eq_some_iff.1 e).1)
  · obtain ⟨g1, g2⟩ := hg e l1
    rcases hb with hb | ⟨id2, ⟨o, e2, l⟩, he2⟩
    · exact (k2.sep b hb).2 id g2 he
    · obtain ⟨g3, g4⟩ := htg e2 l
      have := k2.inj _ _ g2 ⟨_, g4, l⟩ (he.trans he2.symm)
      omega
  · obtain ⟨g1, g2⟩ := k2.glob g cs hgl
    exact ⟨.inl g1, fun j c hj => by obtain ⟨v, q1, q2⟩ := g2 j c hj; exact ⟨v, q1, q2.mono fun b hb => ⟨.inl hb, rfl⟩⟩⟩
  · rcases hT i v hi with rfl | ⟨v0, e0, hv⟩
    · exact .any _
    · rw [hl]
      exact (hv.rel HF 0 v0 v _ rfl rfl (by rw [htn]; exact s.trel.get i _ e0)).1
  · exact { pure := fun b hb => ⟨.inl (k4.pure b hb).1, (k4.pure b hb).2⟩, len := by omega, same := k4.same
            blk := k4.blk, os := k4.os, tape := k4.tape, output := k4.output, size := k4.size, out := k4.out
            img := fun id ⟨o, e, l⟩ => k4.img id (hg e l).2
            newS := fun b hb => by
              rcases hb with hb | ⟨id, ⟨o, e, l⟩, he⟩
              · exact k4.newS b hb
              · rcases k4.img id ⟨_, (htg e l).2, l⟩ with h2 | ⟨id2, h2, h3⟩
                · exact .inr (.inl (by rw [← he]; exact h2))
                · exact .inr (.inr ⟨id2, h2, by rw [h3, he]⟩) }
/-- What a call leaves, known otherwise. -/
theorem AC.wk {f : FuncId} {args : List AV} {h : List AO} {R R' : ARes → List AO → Prop} (H : AC P G f args h R) (hp : ∀ t v h', R (.pan t v) h' → R' (.pan t v) h')
    (hw : ∀ v h', R (.ret v) h' → ∃ v1 h1, Wk h.length [v] h' [v1] h1 ∧ R' (.ret v1) h1) : AC P G f args h R' := by
  refine ⟨H.1, fun W S φ vs hH hA => (H.2 W S φ vs hH hA).mono fun e W' ⟨r, S', φ', h', k1, k2, k3, k4⟩ => ?_⟩
  cases r with
  | pan t v => exact ⟨_, S', φ', h', hp t v h' k1, k2, k3, k4⟩
  | ret v =>
    cases k3 with
    | ret _ x hv =>
      obtain ⟨v1, h1, w, hr⟩ := hw v h' k1
      have s : St G W S φ h W' S' φ' { tmps := #[x], defers := [] } [v] h' := ⟨k2, ⟨rfl, fun i u hi => by
        cases i with
        | zero => simp at hi; subst hi; exact hv
        | succ i => simp at hi⟩, rfl, k4⟩
      obtain ⟨S1, φ1, s1⟩ := w G W S φ h W' S' φ' _ rfl s
      exact ⟨.ret v1, S1, φ1, h1, hr, s1.hrel, .ret _ _ (s1.trel.get 0 v1 rfl), s1.keep⟩
/-- FREEZING behind a call, the first n objects kept. -/
theorem AC.frz {f : FuncId} {args : List AV} {h : List AO} {R R' : ARes → List AO → Prop} (H : AC P G f args h R) (n : Nat) (hn : h.length ≤ n) (hp : ∀ t v h', R (.pan t v) h' → R' (.pan t v) h')
    (hw : ∀ v h', R (.ret v) h' → ∃ v1 h1, n ≤ h'.length ∧ h1.length = n ∧ Fzs (tail n h') n [v] [v1] ∧ FzO (tail n h') n h' h1 ∧ R' (.ret v1) h1) : AC P G f args h R' :=
  H.wk hp fun v h' r => by
    obtain ⟨v1, h1, a1, a2, a3, a4, a5⟩ := hw v h' r
    exact ⟨v1, h1, wk_frz hn a1 a2 rfl (fun i u hi => by
      cases i with
      | zero => simp at hi; subst hi; exact .inr ⟨v, rfl, a3⟩
      | succ i => simp at hi) a4, a5⟩
end Go.Aw
namespace Go.Aw
variable {P : Program} {G : Glob}
theorem ren_fix {σ : List Nat} {n : Nat} (hσ : ∀ i, i < n → σ.getD i 0 = i) : ∀ v : AV, below n v → ren σ v = v := by
  have key : ∀ (s : Nat), (∀ v : AV, SizeOf.sizeOf v < s → below n v → ren σ v = v) ∧ (∀ l : List AV, SizeOf.sizeOf l < s → belowL n l → renL σ l = l) := by
    intro s
    induction s with
    | zero => exact ⟨fun v h => by omega, fun l h => by omega⟩
    | succ s ih =>
      refine ⟨fun v hs hb => ?_, fun l hs hb => ?_⟩
      · cases v <;> simp only [ren, below] at hb ⊢ <;> first
          | rfl
          | (rw [ih.2 _ (by simp at hs; omega) hb])
          | (rw [hσ _ hb])
      · cases l with
        | nil => rfl
        | cons v r =>
          simp only [renL]; rw [ih.1 v (by simp at hs; omega) hb.1, ih.2 r (by simp at hs; omega) hb.2]
  exact fun v => (key _).1 v (Nat.lt_succ_self _)
theorem renL_fix {σ : List Nat} {n : Nat} (hσ : ∀ i, i < n → σ.getD i 0 = i) : ∀ l : List AV, belowL n l → renL σ l = l
  | [], _ => rfl
  | v :: r, h => by simp only [renL]; rw [ren_fix hσ v h.1, renL_fix hσ r h.2]
theorem renO_fix {σ : List Nat} {n : Nat} (hσ : ∀ i, i < n → σ.getD i 0 = i) : ∀ o : AO, okO n o → renO σ o = o
  | .row sz es, h => by
    simp only [renO]; rw [List.map_congr_left (g := id) fun e he => renL_fix hσ e (h e he)]; simp
  | .mp es, h => by
    simp only [renO]; rw [List.map_congr_left (g := id) fun e he => by rw [ren_fix hσ e.2 (h e he)]; rfl]; simp
  | .sit s p, _ => rfl
  | .dead, _ => rfl
/-- What is known of what a call leaves, whatever it is. -/
theorem AC.known {f : FuncId} {args : List AV} {h : List AO} {R : ARes → List AO → Prop} (H : AC P G f args h R) : AC P G f args h fun x h' => R x h' ∧ HB h' ∧ (∀ v, x = .ret v → below h'.length v) ∧ h.length ≤ h'.length :=
  ⟨H.1, fun W S φ vs a b => (H.2 W S φ vs a b).mono fun _ _ ⟨r, S', φ', h', k1, k2, k3, k4⟩ => ⟨r, S', φ', h', ⟨k1, k2.hb, fun v e => by
    subst e
    cases k3 with
    | ret _ x hv => exact hv.isBelow, k4.len⟩, k2, k3, k4⟩⟩
theorem mrg_pre : ∀ (a b rest : List AO) (n : Nat), b.length = a.length → ∀ pre : List AO, pre.length = n → mrg (pre ++ a ++ rest) (List.range' n a.length) b = pre ++ b ++ rest
  | [], [], rest, n, _, pre, _ => by simp [mrg]
  | x :: a, y :: b, rest, n, hl, pre, hp => by
    simp only [List.length_cons, List.range'_succ, mrg]
    have e : (pre ++ x :: a ++ rest).set n y = (pre ++ [y]) ++ a ++ rest := by
      subst hp
      rw [List.append_assoc, List.set_append_right _ _ (Nat.le_refl _), Nat.sub_self]; simp
    rw [e, mrg_pre a b rest (n + 1) (by simpa using hl) (pre ++ [y]) (by simp [hp])]
    simp
  | [], _ :: _, _, _, hl, _, _ => by simp at hl
  | _ :: _, [], _, _, hl, _, _ => by simp at hl
theorem hw_id {n : Nat} {h0 rest : List AO} (hn : h0.length = n) (ho : ∀ o ∈ h0, okO n o) : HW (List.range' 0 n) (h0 ++ rest) (List.range' 0 n) h0 := by
  have hσ : ∀ i, i < n → (List.range' 0 n).getD i 0 = i := fun i hi => by simp [List.getD_eq_getElem?_getD, hi]
  have key : ∀ (l : List AO) (k : Nat), k + l.length = n → (∀ i, l[i]? = h0[k + i]?) → HW (List.range' 0 n) (h0 ++ rest) (List.range' k l.length) l := by
    intro l
    induction l with
    | nil => intro _ _ _; exact trivial
    | cons o r ih =>
      intro k hk hg
      have h0k := hg 0
      simp at h0k hk
      have hm : o ∈ h0 := List.mem_of_getElem? h0k.symm
      have hget : (h0 ++ rest)[k]? = some o := by rw [List.getElem?_append_left (by omega)]; exact h0k.symm
      refine ⟨by simp; omega, ?_, ih (k + 1) (by omega) fun i => by have := hg (i + 1); simp at this; rw [this]; congr 1; omega⟩
      have hoo := ho o hm
      cases o with
      | dead => trivial
      | row sz es => exact ⟨fun e he => by simpa using hoo e he, by rw [hget, List.map_congr_left (g := id) fun e he => renL_fix hσ e (hoo e he)]; simp⟩
      | mp es => exact ⟨fun e he => by simpa using hoo e he, by rw [hget, List.map_congr_left (g := id) fun e he => by rw [ren_fix hσ e.2 (hoo e he)]; rfl]; simp⟩
      | sit s p => exact hget
  have := key h0 0 (by omega) (fun i => by simp)
  rwa [hn] at this
theorem tw_id {n : Nat} : ∀ {args : List AV}, belowL n args → TW (List.range' 0 n) args args
  | [], _ => trivial
  | v :: r, h => ⟨.inr ⟨by simpa using h.1, ren_fix (fun i hi => by simp [List.getD_eq_getElem?_getD, hi]) v h.1⟩, tw_id h.2⟩
/-- A call over the first objects. -/
theorem AC.pre {f : FuncId} {args : List AV} {h0 : List AO} {R : ARes → List AO → Prop} (H : AC P G f args h0 R) (rest : List AO) (hb : belowL h0.length args) (ho : ∀ o ∈ h0, okO h0.length o)
    (hl : ∀ x h', R x h' → h'.length = h0.length) : AC P G f args (h0 ++ rest) fun x h' => ∃ h1, R x h1 ∧ h' = h1 ++ rest := by
  refine (H.known.frame (List.range' 0 h0.length) List.nodup_range' (tw_id hb) (hw_id rfl ho)).mono fun x h' ⟨x0, h1, ⟨r, hbb, hv, _⟩, _, e1, e2⟩ => ?_
  have hl1 := hl _ _ r
  have hσ : ∀ i, i < h0.length → (List.range' 0 h0.length ++ List.range' (h0 ++ rest).length (h1.length - h0.length)).getD i 0 = i := fun i hi => by
    rw [List.getD_eq_getElem?_getD, List.getElem?_append_left (by simpa using hi)]; simp [hi]
  have hoo : ∀ o ∈ h1, okO h0.length o := fun o ho => by
    obtain ⟨i, hi⟩ := List.getElem?_of_mem ho
    cases o with
    | dead => trivial
    | row sz es => intro e he; have := (hbb.1 i sz es hi e he).2.1; rwa [hl1] at this
    | mp es => intro e he; have := hbb.2 i es hi e he; rwa [hl1] at this
    | sit s p => trivial
  have em : h1.map (renO (List.range' 0 h0.length ++ List.range' (h0 ++ rest).length (h1.length - h0.length))) = h1 := by
    rw [List.map_congr_left (g := id) fun o ho => renO_fix hσ o (hoo o ho)]; simp
  refine ⟨h1, ?_, ?_⟩
  · subst e1
    cases x0 with
    | pan t v => exact r
    | ret v =>
      have := hv v rfl
      rw [hl1] at this
      simp only [renR]
      rw [ren_fix hσ v this]; exact r
  · rw [e2, List.take_of_length_le (by omega), List.drop_of_length_le (by omega), em, List.map_nil, List.append_nil]
    have := mrg_pre h0 h1 rest 0 hl1 [] rfl
    simpa using this
/-- Rows may be known in part: their first elements. -/
def Cuts : List AO → List AO → Prop
  | [], [] => True
  | o :: r, o1 :: r1 => (o1 = o ∨ ∃ sz es k, o = .row sz es ∧ o1 = .row sz (es.take k)) ∧ Cuts r r1
  | _, _ => False
theorem Cuts.get : ∀ {h h1 : List AO}, Cuts h h1 → h.length = h1.length ∧ ∀ (i : Nat) (o1 : AO), h1[i]? = some o1 → ∃ o, h[i]? = some o ∧ (o1 = o ∨ ∃ sz es k, o = .row sz es ∧ o1 = .row sz (es.take k))
  | [], [], _ => ⟨rfl, fun i o e => by simp at e⟩
  | o :: r, o1 :: r1, hc => by
    obtain ⟨c1, c2⟩ := hc
    obtain ⟨g1, g2⟩ := Cuts.get c2
    refine ⟨by simp [g1], fun i u e => ?_⟩
    cases i with
    | zero => simp at e; subst e; exact ⟨o, rfl, c1⟩
    | succ i => simp at e; simpa using g2 i u e
  | [], _ :: _, hc => hc.elim
  | _ :: _, [], hc => hc.elim
end Go.Aw
namespace Go.Proofs.YtbbobekgnclkfaaDoor
open Go Go.Aw
set_option maxRecDepth 100000
set_option maxHeartbeats 4000000
/-- Bytes. -/
def Byt (l : List Int) : Prop := ∀ n ∈ l, 0 ≤ n ∧ n ≤ 255
/-- The reader: its bytes, and how many were read. -/
def rdO (b : List Int) (p : Nat) : AO := .row 2 [[.p (bysL b), .p (.int .i64 p)]]
theorem xor_bound {a b : Int} (ha : 0 ≤ a) (ha2 : a < 4611686018427387904) (hb : 0 ≤ b) (hb2 : b < 4611686018427387904) : ∃ n : Nat, IntKind.i64.wrap ((BitVec.ofInt IntKind.i64.bits a ^^^ BitVec.ofInt IntKind.i64.bits b).toNat : Int) = n := by
  refine ⟨(BitVec.ofInt IntKind.i64.bits a ^^^ BitVec.ofInt IntKind.i64.bits b).toNat, ?_⟩
  obtain ⟨x, rfl⟩ : ∃ x : Nat, a = x := ⟨a.toNat, by omega⟩
  obtain ⟨y, rfl⟩ : ∃ y : Nat, b = y := ⟨b.toNat, by omega⟩
  have h1 : (BitVec.ofInt 64 (x : Int)).toNat = x := by simp; omega
  have h2 : (BitVec.ofInt 64 (y : Int)).toNat = y := by simp; omega
  have h3 : (BitVec.ofInt 64 (x : Int) ^^^ BitVec.ofInt 64 (y : Int)).toNat < 2 ^ 63 := by
    rw [BitVec.toNat_xor, h1, h2]
    exact Nat.xor_lt_two_pow (by omega) (by omega)
  have h4 : (BitVec.ofInt IntKind.i64.bits (x : Int) ^^^ BitVec.ofInt IntKind.i64.bits (y : Int)).toNat < 2 ^ 63 := h3
  exact i64_small (by omega) (by omega)
theorem rem_nat {a : Nat} {n : Int} (hn : 1 ≤ n) : ∃ k : Nat, ((a : Int).tmod n) = k ∧ (k : Int) < n := by
  obtain ⟨m, rfl⟩ : ∃ m : Nat, n = m := ⟨n.toNat, by omega⟩
  refine ⟨a % m, ?_, ?_⟩
  · rfl
  · have : a % m < m := Nat.mod_lt _ (by omega)
    omega
variable (G : Glob)
theorem d_open (l : List Int) : AC Tryd.prog G n_spec_l30Open [.p (bysL l)] [] fun x h => x = .ret (.ptr 0 2 0 0) ∧ h = [rdO (l.take 2000) 0] := by
  refine AC.go k_spec_l30Open ?_
  have hbl : bysL l = .lst 1 (l.map fun n => [.int .u8 n]) := rfl
  simp -implicitDefEqProofs [F_spec_l30Open, hbl]
  refine cndb (fun h => ?_) (fun h => ?_)
  · simp at h
    have : 2000 ≤ l.length := by omega
    simp -implicitDefEqProofs [this, rdO, bysL, List.map_take]
  · simp at h
    have : l.take 2000 = l := List.take_of_length_le (by omega)
    simp -implicitDefEqProofs [rdO, this, bysL]
theorem d_pick (b : List Int) (hb : Byt b) (hl : b.length ≤ 2000) (p : Nat) (hp : p ≤ 1099511627776) (n : Int) : AC Tryd.prog G n_spec_l30Rd_pick [.ptr 0 2 0 0, .p (.int .i64 n)] [rdO b p] fun x h => ∃ k : Nat, x = .ret (.p (.int .i64 k)) ∧ h = [rdO b (p + 1)] ∧ ((k : Int) < n ∨ k = 0) := by
  refine AC.go k_spec_l30Rd_pick ?_
  have hbl : bysL b = .lst 1 (b.map fun n => [.int .u8 n]) := rfl
  have hw : IntKind.i64.wrap ((p : Int) + 1) = ((p + 1 : Nat) : Int) := w1 (by omega)
  by_cases hn : n < 1
  · simp -implicitDefEqProofs [F_spec_l30Rd_pick, rdO, hbl, hw, hn]
    exact ⟨0, rfl, .inr rfl⟩
  by_cases hbn : b = []
  · subst hbn
    have hb0 : bysL [] = .lst 1 [] := rfl
    simp -implicitDefEqProofs [F_spec_l30Rd_pick, rdO, hb0, hw, hn]
    exact ⟨0, rfl, .inr rfl⟩
  have hpos : 0 < b.length := List.length_pos_iff.2 hbn
  have hlb : ¬ b.length = 0 := by omega
  have hn0 : ¬ n = 0 := by omega
  have hw2 : IntKind.i64.wrap (p : Int) = (p : Int) := i64_small (by omega) (by omega)
  have at_ : ∀ q : Nat, ∃ c : Int, b[q % b.length]? = some c ∧ 0 ≤ c ∧ c ≤ 255 := fun q => by
    have h := Nat.mod_lt q hpos
    exact ⟨_, List.getElem?_eq_getElem h, hb _ (List.getElem_mem h)⟩
  simp -implicitDefEqProofs [F_spec_l30Rd_pick, rdO, hbl, hw, hn, hbn, hw2]
  refine cndb (fun h1 => ?_) (fun h1 => ?_)
  · simp at h1
    obtain ⟨c, e1, e2, e3⟩ := at_ p
    rw [Nat.mod_eq_of_lt h1] at e1
    obtain ⟨d, rfl⟩ : ∃ d : Nat, c = d := ⟨c.toNat, by omega⟩
    obtain ⟨k, q1, q2⟩ := rem_nat (a := d) (n := n) (by omega)
    have hw3 : IntKind.i64.wrap (d : Int) = d := i64_small (by omega) (by omega)
    simp -implicitDefEqProofs [e1, hw3, hn0, q1]
    exact ⟨k, rfl, .inl q2⟩
  · simp at h1
    obtain ⟨c1, e1, e2, e3⟩ := at_ p
    obtain ⟨c2, f1, f2, f3⟩ := at_ (p * 7 + 3)
    have hq : p / b.length ≤ p := Nat.div_le_self _ _
    have ht1 : (p : Int).tmod (b.length : Int) = ((p % b.length : Nat) : Int) := rfl
    have ht2 : ((p : Int) * 7 + 3).tmod (b.length : Int) = (((p * 7 + 3) % b.length : Nat) : Int) := rfl
    have ht3 : (p : Int).tdiv (b.length : Int) = ((p / b.length : Nat) : Int) := rfl
    generalize p / b.length = q at hq ht3
    generalize p % b.length = r1 at e1 ht1
    generalize (p * 7 + 3) % b.length = r2 at f1 ht2
    obtain ⟨x1, rfl⟩ : ∃ d : Nat, c1 = d := ⟨c1.toNat, by omega⟩
    obtain ⟨x2, rfl⟩ : ∃ d : Nat, c2 = d := ⟨c2.toNat, by omega⟩
    obtain ⟨m, hx⟩ := xor_bound (a := x1 * 131 + x2 * 1117 + p * 29 + q * 53) (b := (x1 * 131 + x2 * 1117 + p * 29 + q * 53) / 64) (by omega) (by omega) (by omega) (by omega)
    obtain ⟨k, q1, q2⟩ := rem_nat (a := m) (n := n) (by omega)
    have ht4 : ((x1 : Int) * 131 + x2 * 1117 + p * 29 + q * 53).tdiv 64 = ((x1 : Int) * 131 + x2 * 1117 + p * 29 + q * 53) / 64 := Int.tdiv_eq_ediv_of_nonneg (by omega)
    have w1 : IntKind.i64.wrap ((p : Int) * 7) = (p : Int) * 7 := i64_small (by omega) (by omega)
    have w2 : IntKind.i64.wrap ((p : Int) * 7 + 3) = (p : Int) * 7 + 3 := i64_small (by omega) (by omega)
    have w3 : IntKind.i64.wrap ((p : Int) * 29) = (p : Int) * 29 := i64_small (by omega) (by omega)
    have w4 : IntKind.i64.wrap (x1 : Int) = x1 := i64_small (by omega) (by omega)
    have w5 : IntKind.i64.wrap (x2 : Int) = x2 := i64_small (by omega) (by omega)
    have w6 : IntKind.i64.wrap ((x1 : Int) * 131) = (x1 : Int) * 131 := i64_small (by omega) (by omega)
    have w7 : IntKind.i64.wrap ((x2 : Int) * 1117) = (x2 : Int) * 1117 := i64_small (by omega) (by omega)
    have w8 : IntKind.i64.wrap ((x1 : Int) * 131 + x2 * 1117) = (x1 : Int) * 131 + x2 * 1117 := i64_small (by omega) (by omega)
    have w9 : IntKind.i64.wrap ((x1 : Int) * 131 + x2 * 1117 + p * 29) = (x1 : Int) * 131 + x2 * 1117 + p * 29 := i64_small (by omega) (by omega)
    have w10 : IntKind.i64.wrap (q : Int) = q := i64_small (by omega) (by omega)
    have w11 : IntKind.i64.wrap ((q : Int) * 53) = (q : Int) * 53 := i64_small (by omega) (by omega)
    have w12 : IntKind.i64.wrap ((x1 : Int) * 131 + x2 * 1117 + p * 29 + q * 53) = (x1 : Int) * 131 + x2 * 1117 + p * 29 + q * 53 := i64_small (by omega) (by omega)
    have w13 : IntKind.i64.wrap (((x1 : Int) * 131 + x2 * 1117 + p * 29 + q * 53) / 64) = ((x1 : Int) * 131 + x2 * 1117 + p * 29 + q * 53) / 64 := i64_small (by omega) (by omega)
    simp -implicitDefEqProofs [hlb, ht1, ht2, ht3, e1, f1, w1, w2, w3, w4, w5, w6, w7, w8, w9, w10, w11, w12, w13, ht4, hx, hn0, q1]
    simp -implicitDefEqProofs [] at hx
    rw [hx]
    exact ⟨k, q1, .inl q2⟩
theorem rdO_ok (b : List Int) (p n : Nat) : okO n (rdO b p) := by simp [okO, rdO]
theorem d_pickP (b : List Int) (hb : Byt b) (hl : b.length ≤ 2000) (p : Nat) (hp : p ≤ 1099511627776) (n : Int) (rest : List AO) : AC Tryd.prog G n_spec_l30Rd_pick [.ptr 0 2 0 0, .p (.int .i64 n)] (rdO b p :: rest) fun x h => ∃ k : Nat, x = .ret (.p (.int .i64 k)) ∧ h = rdO b (p + 1) :: rest ∧ ((k : Int) < n ∨ k = 0) := by
  refine ((d_pick G b hb hl p hp n).pre rest (by simp [below]) (fun o ho => by rw [List.mem_singleton.1 ho]; exact rdO_ok _ _ _) ?_).mono ?_
  · rintro x h ⟨k, _, rfl, _⟩; rfl
  · rintro x h ⟨h1, ⟨k, e1, rfl, e3⟩, rfl⟩
    exact ⟨k, e1, rfl, e3⟩
/-- Two objects of a heap: the reader, and a list that is only read. -/
theorem d_two {f : FuncId} {args : List AV} {b : List Int} {p : Nat} {o : AO} {R : AV → Nat → Prop} (H : AC Tryd.prog G f (.ptr 0 2 0 0 :: args) [rdO b p, o] fun x h => ∃ v q, x = .ret (.p v) ∧ h = [rdO b q, o] ∧ R (.p v) q) (ho : okO 0 o)
    {h : List AO} {k : Nat} {args' : List AV} (hk : k ≠ 0) (h0 : h[0]? = some (rdO b p)) (h1 : h[k]? = some o) (hT : TW [0, k] args' args) : AC Tryd.prog G f (.ptr 0 2 0 0 :: args') h fun x h' => ∃ v q, x = .ret (.p v) ∧ h' = h.set 0 (rdO b q) ∧ R (.p v) q := by
  have nd : [0, k].Nodup := by simp; omega
  refine (H.frame (args := .ptr 0 2 0 0 :: args') [0, k] nd (by rw [TW_cons]; exact ⟨.inr ⟨by simp [below], rfl⟩, hT⟩) (hw_ok h0 (rdO_ok _ _ _) (hw_ok h1 ho hw_nil))).mono ?_
  rintro x h' ⟨x0, h2, ⟨v, q, rfl, rfl, r⟩, _, rfl, rfl⟩
  refine ⟨v, q, by simp [renR, ren], ?_, r⟩
  have e1 : ∀ σ, renO σ (rdO b q) = rdO b q := fun σ => renO_fix (n := 0) (fun i hi => by omega) _ (rdO_ok _ _ _)
  have e2 : ∀ σ, renO σ o = o := fun σ => renO_fix (n := 0) (fun i hi => by omega) _ ho
  simp only [List.take, List.length_cons, List.length_nil, List.map_cons, List.map_nil, e1, e2, mrg, List.drop, List.append_nil]
  refine List.ext_getElem? fun i => ?_
  rw [List.getElem?_set]
  split
  · rename_i e; subst e
    rw [List.getElem?_set_ne (Ne.symm hk)]
    split
    · exact h1.symm
    · rename_i hl
      have := (List.getElem?_eq_some_iff.1 h1).1
      simp at hl; omega
  · rfl
theorem d_num0 (b : List Int) (hb : Byt b) (hl : b.length ≤ 2000) (p : Nat) (hp : p ≤ 1099511627776) (l : List Int) (hne : l ≠ []) (hll : l.length ≤ 1099511627776) : AC Tryd.prog G n_spec_l30Rd_num [.ptr 0 2 0 0, .sl 1 1 0 l.length] [rdO b p, numO l] fun x h => ∃ v q, x = .ret (.p v) ∧ h = [rdO b q, numO l] ∧ (∃ n, v = .int .i64 n ∧ n ∈ l) ∧ q = p + 1 := by
  refine AC.go k_spec_l30Rd_num ?_
  have hpos : 0 < l.length := List.length_pos_iff.2 hne
  simp -implicitDefEqProofs [F_spec_l30Rd_num]
  refine (d_pickP G b hb hl p hp l.length [numO l]).mono ?_
  rintro r h ⟨k, rfl, rfl, hk⟩
  have hkl : k < l.length := by omega
  have hg := List.getElem?_eq_getElem hkl
  have hn : numO l = .row 1 (l.map fun n => [.p (.int .i64 n)]) := rfl
  simp -implicitDefEqProofs [callR_nxt, hkl, hn, hg]
theorem d_num {b : List Int} (hb : Byt b) (hl : b.length ≤ 2000) {p : Nat} (hp : p ≤ 1099511627776) (l : List Int) {h : List AO} {k : Nat} (hne : l ≠ []) (hll : l.length ≤ 1099511627776) (hk : k ≠ 0) (h0 : h[0]? = some (rdO b p)) (h1 : h[k]? = some (numO l)) :
    AC Tryd.prog G n_spec_l30Rd_num [.ptr 0 2 0 0, .sl k 1 0 l.length] h fun x h' => ∃ n, n ∈ l ∧ x = .ret (.p (.int .i64 n)) ∧ h' = h.set 0 (rdO b (p + 1)) := by
  refine (d_two G (args := [.sl 1 1 0 l.length]) (R := fun v q => (∃ n, v = .p (.int .i64 n) ∧ n ∈ l) ∧ q = p + 1) ((d_num0 G b hb hl p hp l hne hll).mono ?_) (by simp [okO, numO]) (args' := [.sl k 1 0 l.length]) hk h0 h1 (by simp [below, ren])).mono ?_
  · rintro x h ⟨v, q, e1, e2, ⟨n, rfl, e3⟩, e4⟩
    exact ⟨_, q, e1, e2, ⟨n, rfl, e3⟩, e4⟩
  · rintro x h' ⟨v, q, e1, e2, ⟨n, e3, e4⟩, e5⟩
    cases e3; subst e5
    exact ⟨n, e4, e1, e2⟩
/-- What a draw has come to: its value, as pure data. -/
def DP (b : List Int) (Q : AV → Nat → Prop) (x : ARes) (h : List AO) : Prop := ∃ v rest q v1, x = .ret v ∧ h = rdO b q :: rest ∧ Fzs (.dead :: rest) 1 [v] [v1] ∧ Q v1 q
/-- Behind a draw: what was made on the way is frozen, or forgotten. -/
theorem d_close {f : FuncId} {args : List AV} {b : List Int} {p : Nat} {Q : AV → Nat → Prop} (H : AC Tryd.prog G f args [rdO b p] (DP b Q)) : AC Tryd.prog G f args [rdO b p] fun x h => ∃ v q, x = .ret v ∧ h = [rdO b q] ∧ Q v q := by
  refine H.frz 1 (Nat.le_refl _) (fun t v h ⟨_, _, _, _, e, _⟩ => by cases e) ?_
  rintro v h ⟨v0, rest, q, v1, e, rfl, hf, r⟩
  cases e
  exact ⟨v1, [rdO b q], by simp, rfl, hf, .same (rdO_ok _ _ _) (.nil _), v1, q, rfl, rfl, r⟩
end Go.Proofs.YtbbobekgnclkfaaDoor
