/-
  How a machine's function is read from bytes: the program's instruction.
-/
import Derived.Test.YtbbobekgnclkfaaDoorM26
namespace Go.Proofs.YtbbobekgnclkfaaDoor
open Go Go.Aw
set_option maxRecDepth 100000
set_option maxHeartbeats 4000000

def sOf (op : Int) : Int := shpT.getD op.toNat 2
theorem shp_cases {op : Int} (h : inR op 1 22 = true) :
    (sOf op = 0 ∧ jmpO op = false ∧ (op == 1 || inR op 15 18) = true) ∨
    (sOf op = 1 ∧ jmpO op = false ∧ (op == 1 || inR op 15 18) = false ∧ inR op 3 9 = false ∧ (op == 2 || inR op 10 12) = true) ∨
    (sOf op = 2 ∧ jmpO op = false ∧ (op == 1 || inR op 15 18) = false ∧ inR op 3 9 = true) ∨
    (sOf op = 3 ∧ jmpO op = false ∧ (op == 1 || inR op 15 18) = false ∧ inR op 3 9 = false ∧ (op == 2 || inR op 10 12) = false ∧ (op == 14) = false) ∨
    (sOf op = 4 ∧ jmpO op = false ∧ (op == 1 || inR op 15 18) = false ∧ inR op 3 9 = false ∧ (op == 2 || inR op 10 12) = false ∧ (op == 14) = true) ∨
    (sOf op = 5 ∧ jmpO op = true) := by
  rcases op22 h with rfl | rfl | rfl | rfl | rfl | rfl | rfl | rfl | rfl | rfl | rfl | rfl | rfl | rfl | rfl | rfl | rfl | rfl | rfl | rfl | rfl | rfl <;> decide

variable (G : Glob)

theorem i_decoded_1 (n : Int) (h : 0 ≤ n ∧ n ≤ 255) : VF Tryd.prog G n_impl_decoded_1 [.p (.int .u8 n)] (.p (.int .i64 n)) := by
  refine AC.go k_impl_decoded_1 ?_
  simp -implicitDefEqProofs [F_impl_decoded_1, i64_small (x := n) (by omega) (by omega)]

def i64L (l : List Int) : PV := .lst 1 (l.map fun n => [.int .i64 n])
def i64R (l : List Int) : List (List AV) := l.map fun n => [.p (.int .i64 n)]
theorem i64R_pure (l : List Int) : ∀ x ∈ i64R l, belowL 0 x := by
  intro x hx; obtain ⟨m, _, rfl⟩ := List.mem_map.1 hx; simp [belowL, below]

theorem i_mapped (l : List Int) (hb : BytesOk l) (hl : l.length ≤ 1048576) : VF Tryd.prog G n_impl_mapped_int [.p (bysL l), .fn (.func n_impl_decoded_1) []] (.p (i64L l)) := by
  have key : AC Tryd.prog G n_impl_mapped_int [.p (bysL l), .fn (.func n_impl_decoded_1) []] [] fun x h => x = .ret (slE 0 1 (i64R l)) ∧ (l ≠ [] → h[0]? = some (.row 1 (i64R l))) := by
    refine AC.go k_impl_mapped_int ?_
    have hbl : bysL l = .lst 1 (l.map fun n => [.int .u8 n]) := rfl
    simp -implicitDefEqProofs [F_impl_mapped_int, hbl]
    refine loopA (fun i : Nat => tsOf 22 [(1, .fn (.func n_impl_decoded_1) []), (5, slE 0 1 (i64R (l.take i))), (8, .p (bysL l)), (9, .p (.int .i64 l.length)), (10, .p (.int .i64 i))])
      (fun i => if i = 0 then [] else [.row 1 (i64R (l.take i))]) (fun i => i ≤ l.length) (fun i => l.length - i) 0 (by simp) ?_ ?_
    · exact wkt_nil rfl (by simp [below, belowL, bysL, i64R, slE])
    · intro i hi
      simp -implicitDefEqProofs [hbl]
      refine cndb (fun h1 => ?_) (fun h1 => ?_)
      · simp at h1
        have hg := List.getElem?_eq_getElem h1
        have hnb := hb _ (List.getElem_mem h1)
        simp -implicitDefEqProofs [hg]
        refine (i_decoded_1 G _ hnb).use ?_
        have hts : i64R (l.take (i + 1)) = i64R (l.take i) ++ [[.p (.int .i64 l[i])]] := by rw [i64R, take_succ' h1, List.map_append]; rfl
        have hne : ([[.p (.int .i64 l[i])]] : List (List AV)) ≠ [] := by simp
        have hln : (i64R (l.take i)).length = i := by simp [i64R]; omega
        have fin : ∀ (l1 : List (Nat × AV)) (h : List AO) (k : Nat), h[k]? = some (.row 1 (i64R (l.take (i + 1)))) → TWA [k] l1 [(1, .fn (.func n_impl_decoded_1) []), (5, .sl 0 1 0 (i + 1)), (8, .p (bysL l)), (9, .p (.int .i64 l.length)), (10, .p (.int .i64 ((i + 1 : Nat) : Int)))] →
            Wk 0 (tsOf 22 l1) h (tsOf 22 [(1, .fn (.func n_impl_decoded_1) []), (5, slE 0 1 (i64R (l.take (i + 1)))), (8, .p (bysL l)), (9, .p (.int .i64 l.length)), (10, .p (.int .i64 ((i + 1 : Nat) : Int)))]) (if i + 1 = 0 then [] else [.row 1 (i64R (l.take (i + 1)))]) := fun l1 h k hk hl1 => by
          rw [if_neg (by omega), show slE 0 1 (i64R (l.take (i + 1))) = .sl 0 1 0 (i + 1) by rw [hts, slE_app _ hne, hln]; rfl]
          exact wkt_pick [k] rfl (by simp) (hw_row hk (i64R_pure _) hw_nil) hl1
        rcases Nat.eq_zero_or_pos i with h0 | h0
        · subst h0
          have hsl0 : slE 0 1 (i64R ([] : List Int)) = .nils := rfl
          simp -implicitDefEqProofs [hsl0]
          refine ⟨1, h1, by omega, ?_⟩
          refine fin _ _ 1 ?_ ?_
          · rw [hts]; rfl
          · simp [below, belowL, ren, renL, bysL]
            rfl
        · have h0' : ¬ i = 0 := by omega
          have hsl : slE 0 1 (i64R (l.take i)) = .sl 0 1 0 i := by rw [slE_ne (by intro e; rw [e] at hln; simp at hln; omega), hln]
          simp -implicitDefEqProofs [h0', hsl, hln]
          refine ⟨⟨by omega, by omega⟩, i + 1, h1, by omega, fin _ _ 2 (by rw [hts]; simp [List.take_of_length_le, hln]) (by simp [below, belowL, ren, renL, bysL, w1 (i := i) (by omega)])⟩
      · simp at h1
        have hie : i = l.length := by omega
        subst hie
        simp -implicitDefEqProofs [List.take_length]
        intro hne
        simp [hne]
  refine key.freezeR (fun t v h ⟨e, _⟩ => by cases e) fun v h ⟨e1, e2⟩ => ?_
  cases e1
  by_cases hne : l = []
  · subst hne; exact .one (View.nils 1) .nil
  · have hn : i64R l ≠ [] := by simpa [i64R] using hne
    have hm : i64R l = (l.map fun n => [PV.int .i64 n]).map (·.map .p) := by simp [i64R]
    have := view_E (h := h) (id := 0) (sz := 1) (ls := l.map fun n => [PV.int .i64 n]) (by rw [← hm, rowE_ne hn]; exact e2 hne) (by simp)
    rw [← hm] at this
    exact .one this .nil

def zMi : Mins := ⟨0, 0, 0, 0, 0⟩
theorem sub_get {code : List Int} {i n k : Nat} (hk : k < n) (h : i + n ≤ code.length) : ((code.drop i).take n)[k]? = some (byAt code (i + k)) := by
  rw [List.getElem?_take, if_pos hk, List.getElem?_drop, byAt_get (by omega)]

theorem i_shape (op : Int) (h : inR op 1 22 = true) : VF Tryd.prog G n_impl_shapeOf [.p (.int .i64 op)] (.p (.int .i64 (sOf op))) := i_shapeOf G op h

theorem i_decoded (code : List Int) (hb : BytesOk code) (i : Nat) (hi : i < code.length) (hl : code.length ≤ 1048576) :
    VF Tryd.prog G n_impl_decoded [.p (bysL code), .p (.int .i64 i)] (.tup [.agg ((if decGood code i then decI code i else zMi).cs.map .p), .p (.int .i64 (if decGood code i then decSz code i else 0 : Nat))]) := by
  refine AC.go k_impl_decoded ?_
  have hbl : bysL code = .lst 1 (code.map fun n => [.int .u8 n]) := rfl
  have hg0 := byAt_get hi
  have h0 := byAt_ok hb i
  have hcv : IntKind.i64.wrap (byAt code i) = byAt code i := i64_small (by omega) (by omega)
  have hsz : decSz code i = sizeB (bare (opAt code i)) (longAt code i) := rfl
  have hX : decI code i = decX code i (opAt code i) (longAt code i) := rfl
  have hil : (i : Int) ≤ code.length := by omega
  have hdr : List.drop i (List.take code.length (code.map fun n => [PV.int .u8 n])) = (code.drop i).map fun n => [PV.int .u8 n] := by rw [List.take_of_length_le (by simp), List.map_drop]
  simp -implicitDefEqProofs [F_impl_decoded, hbl, hg0, hcv, hil, hdr]
  refine ⟨by omega, ?_⟩
  have hbad : ¬ decOk1 code i = true → ((if decGood code i then decI code i else zMi) = zMi ∧ (if decGood code i then decSz code i else 0) = 0) := fun h => by simp [decGood, h]
  have hnofit : ¬ i + decSz code i ≤ code.length → ((if decGood code i then decI code i else zMi) = zMi ∧ (if decGood code i then decSz code i else 0) = 0) := fun h => by simp [decGood, h]
  have hfine : decOk1 code i = true → i + decSz code i ≤ code.length → decGood code i = true := fun h1 h2 => by simp [decGood, h1, h2]
  have hrest : (((code.drop i).length : Nat) : Int) = (code.length : Int) - i := by simp; omega
  have hmp : ∀ n, VF Tryd.prog G n_impl_mapped_int [.p (.lst 1 (List.take n (List.drop i (code.map fun n => [PV.int .u8 n])))), .fn (.func n_impl_decoded_1) []] (.p (i64L ((code.drop i).take n))) := fun n => by
    have := i_mapped G ((code.drop i).take n) (fun x hx => hb x (List.mem_of_mem_drop (List.mem_of_mem_take hx))) (by simp; omega)
    rw [bysL, List.map_take, List.map_drop] at this; exact this
  have b1 := byAt_ok hb (i + 1)
  have hm : (byAt code (i + 1)).tmod 8 = byAt code (i + 1) % 8 := Int.tmod_eq_emod_of_nonneg b1.1
  have hdd : (byAt code (i + 1)).tdiv 8 = byAt code (i + 1) / 8 := Int.tdiv_eq_ediv_of_nonneg b1.1
  have hdv : IntKind.i64.wrap (byAt code (i + 1) / 8) = byAt code (i + 1) / 8 := i64_small (by omega) (by omega)
  have hs8 : ∀ k, IntKind.i8.wrap (byAt code k) = s8 (byAt code k) := fun k => by
    have := byAt_ok hb k
    simp [IntKind.wrap, IntKind.bits, IntKind.signed, s8]
    split <;> split <;> omega
  have hr8 : ∀ k, -128 ≤ s8 (byAt code k) ∧ s8 (byAt code k) ≤ 127 := fun k => by
    have := byAt_ok hb k
    unfold s8; split <;> omega
  have hr64 : ∀ k, IntKind.i64.wrap (s8 (byAt code k)) = s8 (byAt code k) := fun k => i64_small (by have := hr8 k; omega) (by have := hr8 k; omega)
  have hsum : ∀ n k : Nat, n ≤ 4 → IntKind.i64.wrap (((i + n : Nat) : Int) + s8 (byAt code k)) = ((i + n : Nat) : Int) + s8 (byAt code k) := fun n k hn => i64_small (by have := hr8 k; omega) (by have := hr8 k; omega)
  have hwi : ∀ n : Nat, n ≤ 4 → IntKind.i64.wrap ((i : Int) + n) = ((i + n : Nat) : Int) := fun n hn => i64_nat (by omega) (by omega)
  have hlong : ∀ k l : Nat, IntKind.i64.wrap (byAt code k + IntKind.i64.wrap (256 * byAt code l)) = byAt code k + 256 * byAt code l := fun k l => by
    have := byAt_ok hb k
    have := byAt_ok hb l
    rw [i64_small (x := 256 * _) (by omega) (by omega), i64_small (by omega) (by omega)]
  cases hL : longAt code i with
  | false =>
    have hlt : byAt code i < 128 := by simpa [longAt] using hL
    have hop : opAt code i = byAt code i := by rw [opAt]; omega
    have hng : ¬ 128 ≤ opAt code i := by omega
    rw [hL] at hsz hX
    rw [← hop]
    simp -implicitDefEqProofs [hng]
    refine (i_within G _ _ _).use ?_
    by_cases hr : inR (opAt code i) 1 22 = true
    rotate_left
    · obtain ⟨e1, e2⟩ := hbad (by simp [decOk1, hr])
      simp -implicitDefEqProofs [hr, e1, e2]
      simp [zMi, Mins.cs]
    have hok : decOk1 code i = true := by simp [decOk1, hr, hL]
    simp -implicitDefEqProofs [hr, msetk, keq]
    refine (i_shape G _ hr).use ?_
    rcases shp_cases hr with ⟨hs, hj, c1⟩ | ⟨hs, hj, c1, c2, c3⟩ | ⟨hs, hj, c1, c2⟩ | ⟨hs, hj, c1, c2, c3, c4⟩ | ⟨hs, hj, c1, c2, c3, c4⟩ | ⟨hs, hj⟩
    · have h21 : ¬ opAt code i = 21 := by intro e; simp [jmpO, e] at hj
      have hn : decSz code i = 3 := by rw [hsz, sizeB, if_neg (by simpa [jmp, bare, jmpO] using hj), plainB]; simp only [bare, c1, if_true]; try rfl
      have hXe : decI code i = ⟨opAt code i, byAt code (i + 1), 0, 0, byAt code (i + 2)⟩ := by rw [hX]; simp only [decX, hj, c1, if_true]; try rfl
      simp -implicitDefEqProofs [hs, h21, mgetk, keq]
      refine cndb (fun h1 => ?_) (fun h1 => ?_)
      · obtain ⟨e1, e2⟩ := hnofit (by rw [hn]; simp at h1; omega)
        simp -implicitDefEqProofs [e1, e2]
        simp [zMi, Mins.cs]
      have hfit : i + 3 ≤ code.length := by simp at h1; omega
      have hgd := hfine hok (by rw [hn]; exact hfit)
      have hll : 3 ≤ code.length - i := by omega
      simp -implicitDefEqProofs [hll]
      refine (hmp 3).use ?_
      have g1 := sub_get (code := code) (i := i) (n := 3) (k := 1) (by omega) hfit
      have g2 := sub_get (code := code) (i := i) (n := 3) (k := 2) (by omega) hfit
      generalize ((code.drop i).take 3) = q at g1 g2 ⊢
      simp -implicitDefEqProofs []
      refine (i_shape G _ hr).use ?_
      simp -implicitDefEqProofs [hs, i64L, g1, g2]
      simp [hgd, hn, Mins.cs, hXe]
    · have h21 : ¬ opAt code i = 21 := by intro e; simp [jmpO, e] at hj
      have hn : decSz code i = 2 := by rw [hsz, sizeB, if_neg (by simpa [jmp, bare, jmpO] using hj), plainB]; simp only [bare, c1, c2, c3, if_true, if_false, Bool.false_eq_true]; try rfl
      have hXe : decI code i = ⟨opAt code i, byAt code (i + 1) % 8, byAt code (i + 1) / 8, 0, 0⟩ := by rw [hX]; simp only [decX, hj, c1, c2, c3, if_true, if_false, Bool.false_eq_true]; try rfl
      simp -implicitDefEqProofs [hs, h21, mgetk, keq]
      refine cndb (fun h1 => ?_) (fun h1 => ?_)
      · obtain ⟨e1, e2⟩ := hnofit (by rw [hn]; simp at h1; omega)
        simp -implicitDefEqProofs [e1, e2]
        simp [zMi, Mins.cs]
      have hfit : i + 2 ≤ code.length := by simp at h1; omega
      have hgd := hfine hok (by rw [hn]; exact hfit)
      have hll : 2 ≤ code.length - i := by omega
      simp -implicitDefEqProofs [hll]
      refine (hmp 2).use ?_
      have g1 := sub_get (code := code) (i := i) (n := 2) (k := 1) (by omega) hfit
      generalize ((code.drop i).take 2) = q at g1 ⊢
      simp -implicitDefEqProofs []
      refine (i_shape G _ hr).use ?_
      simp -implicitDefEqProofs [hs, i64L, g1, hm, hdd, hdv]
      simp [hgd, hn, Mins.cs, hXe]
    · have h21 : ¬ opAt code i = 21 := by intro e; simp [jmpO, e] at hj
      have hn : decSz code i = 3 := by rw [hsz, sizeB, if_neg (by simpa [jmp, bare, jmpO] using hj), plainB]; simp only [bare, c1, c2, if_true, if_false, Bool.false_eq_true]; try rfl
      have hXe : decI code i = ⟨opAt code i, byAt code (i + 1) % 8, byAt code (i + 1) / 8, byAt code (i + 2), 0⟩ := by rw [hX]; simp only [decX, hj, c1, c2, if_true, if_false, Bool.false_eq_true]; try rfl
      simp -implicitDefEqProofs [hs, h21, mgetk, keq]
      refine cndb (fun h1 => ?_) (fun h1 => ?_)
      · obtain ⟨e1, e2⟩ := hnofit (by rw [hn]; simp at h1; omega)
        simp -implicitDefEqProofs [e1, e2]
        simp [zMi, Mins.cs]
      have hfit : i + 3 ≤ code.length := by simp at h1; omega
      have hgd := hfine hok (by rw [hn]; exact hfit)
      have hll : 3 ≤ code.length - i := by omega
      simp -implicitDefEqProofs [hll]
      refine (hmp 3).use ?_
      have g1 := sub_get (code := code) (i := i) (n := 3) (k := 1) (by omega) hfit
      have g2 := sub_get (code := code) (i := i) (n := 3) (k := 2) (by omega) hfit
      generalize ((code.drop i).take 3) = q at g1 g2 ⊢
      simp -implicitDefEqProofs []
      refine (i_shape G _ hr).use ?_
      simp -implicitDefEqProofs [hs, i64L, g1, g2, hm, hdd, hdv]
      simp [hgd, hn, Mins.cs, hXe]
    · have h21 : ¬ opAt code i = 21 := by intro e; simp [jmpO, e] at hj
      have hn : decSz code i = 2 := by rw [hsz, sizeB, if_neg (by simpa [jmp, bare, jmpO] using hj), plainB]; simp only [bare, c1, c2, c3, c4, if_true, if_false, Bool.false_eq_true]; try rfl
      have hXe : decI code i = ⟨opAt code i, byAt code (i + 1), 0, 0, 0⟩ := by rw [hX]; simp only [decX, hj, c1, c2, c3, c4, if_true, if_false, Bool.false_eq_true]; try rfl
      simp -implicitDefEqProofs [hs, h21, mgetk, keq]
      refine cndb (fun h1 => ?_) (fun h1 => ?_)
      · obtain ⟨e1, e2⟩ := hnofit (by rw [hn]; simp at h1; omega)
        simp -implicitDefEqProofs [e1, e2]
        simp [zMi, Mins.cs]
      have hfit : i + 2 ≤ code.length := by simp at h1; omega
      have hgd := hfine hok (by rw [hn]; exact hfit)
      have hll : 2 ≤ code.length - i := by omega
      simp -implicitDefEqProofs [hll]
      refine (hmp 2).use ?_
      have g1 := sub_get (code := code) (i := i) (n := 2) (k := 1) (by omega) hfit
      generalize ((code.drop i).take 2) = q at g1 ⊢
      simp -implicitDefEqProofs []
      refine (i_shape G _ hr).use ?_
      simp -implicitDefEqProofs [hs, i64L, g1]
      simp [hgd, hn, Mins.cs, hXe]
    · have h21 : ¬ opAt code i = 21 := by intro e; simp [jmpO, e] at hj
      have hn : decSz code i = 2 := by rw [hsz, sizeB, if_neg (by simpa [jmp, bare, jmpO] using hj), plainB]; simp only [bare, c1, c2, c3, c4, if_true, if_false, Bool.false_eq_true]; try rfl
      have hXe : decI code i = ⟨opAt code i, 0, 0, 0, byAt code (i + 1)⟩ := by rw [hX]; simp only [decX, hj, c1, c2, c3, c4, if_true, if_false, Bool.false_eq_true]; try rfl
      simp -implicitDefEqProofs [hs, h21, mgetk, keq]
      refine cndb (fun h1 => ?_) (fun h1 => ?_)
      · obtain ⟨e1, e2⟩ := hnofit (by rw [hn]; simp at h1; omega)
        simp -implicitDefEqProofs [e1, e2]
        simp [zMi, Mins.cs]
      have hfit : i + 2 ≤ code.length := by simp at h1; omega
      have hgd := hfine hok (by rw [hn]; exact hfit)
      have hll : 2 ≤ code.length - i := by omega
      simp -implicitDefEqProofs [hll]
      refine (hmp 2).use ?_
      have g1 := sub_get (code := code) (i := i) (n := 2) (k := 1) (by omega) hfit
      generalize ((code.drop i).take 2) = q at g1 ⊢
      simp -implicitDefEqProofs []
      refine (i_shape G _ hr).use ?_
      simp -implicitDefEqProofs [hs, i64L, g1]
      simp [hgd, hn, Mins.cs, hXe]
    · have hc : opAt code i = 20 ∨ opAt code i = 21 := by simpa [jmpO] using hj
      rcases hc with e | e
      · skip
        have hn : decSz code i = 2 := by rw [hsz, e]; rfl
        have hXe : decI code i = ⟨20, 0, 0, 0, ((i + 2 : Nat) : Int) + s8 (byAt code (i + 1))⟩ := by rw [hX, e]; rfl
        simp -implicitDefEqProofs [show sOf 20 = 5 from rfl, show sOf 21 = 5 from rfl, e, mgetk, keq, show IntKind.i64.wrap 3 = 3 from rfl, show IntKind.i64.wrap 4 = 4 from rfl]
        refine cndb (fun h1 => ?_) (fun h1 => ?_)
        · obtain ⟨e1, e2⟩ := hnofit (by rw [hn]; simp at h1; omega)
          simp -implicitDefEqProofs [e1, e2]
          simp [zMi, Mins.cs]
        have hfit : i + 2 ≤ code.length := by simp at h1; omega
        have hgd := hfine hok (by rw [hn]; exact hfit)
        have hll : 2 ≤ code.length - i := by omega
        simp -implicitDefEqProofs [hll]
        refine (hmp 2).use ?_
        have gr := byAt_get (code := code) (i := i + 1) (by omega)
        have g0 := sub_get (code := code) (i := i) (n := 2) (k := 0) (by omega) hfit
        generalize ((code.drop i).take 2) = q at g0 ⊢
        simp -implicitDefEqProofs []
        refine (i_shape G 20 rfl).use ?_
        simp -implicitDefEqProofs [show sOf 20 = 5 from rfl, show sOf 21 = 5 from rfl, e, i64L, g0, show IntKind.i64.wrap 1 = 1 from rfl, show IntKind.i64.wrap 2 = 2 from rfl, show IntKind.i64.wrap 3 = 3 from rfl, gr, hs8, hr64]
        simp [hgd, hn, Mins.cs, hXe, hsum]
        have := hr8 (i + 1)
        rw [i64_small (x := (i : Int) + 2) (by omega) (by omega), i64_small (by omega) (by omega)]
      · skip
        have hn : decSz code i = 3 := by rw [hsz, e]; rfl
        have hXe : decI code i = ⟨21, byAt code (i + 1), 0, 0, ((i + 3 : Nat) : Int) + s8 (byAt code (i + 2))⟩ := by rw [hX, e]; rfl
        simp -implicitDefEqProofs [show sOf 20 = 5 from rfl, show sOf 21 = 5 from rfl, e, mgetk, keq, show IntKind.i64.wrap 3 = 3 from rfl, show IntKind.i64.wrap 4 = 4 from rfl]
        refine cndb (fun h1 => ?_) (fun h1 => ?_)
        · obtain ⟨e1, e2⟩ := hnofit (by rw [hn]; simp at h1; omega)
          simp -implicitDefEqProofs [e1, e2]
          simp [zMi, Mins.cs]
        have hfit : i + 3 ≤ code.length := by simp at h1; omega
        have hgd := hfine hok (by rw [hn]; exact hfit)
        have hll : 3 ≤ code.length - i := by omega
        simp -implicitDefEqProofs [hll]
        refine (hmp 3).use ?_
        have g1 := sub_get (code := code) (i := i) (n := 3) (k := 1) (by omega) hfit
        have gr := byAt_get (code := code) (i := i + 2) (by omega)
        generalize ((code.drop i).take 3) = q at g1 ⊢
        simp -implicitDefEqProofs []
        refine (i_shape G 21 rfl).use ?_
        simp -implicitDefEqProofs [show sOf 20 = 5 from rfl, show sOf 21 = 5 from rfl, e, i64L, g1, show IntKind.i64.wrap 1 = 1 from rfl, show IntKind.i64.wrap 2 = 2 from rfl, show IntKind.i64.wrap 3 = 3 from rfl, gr, hs8, hr64]
        simp [hgd, hn, Mins.cs, hXe, hsum]
        have := hr8 (i + 2)
        rw [i64_small (x := (i : Int) + 3) (by omega) (by omega), i64_small (by omega) (by omega)]
  | true =>
    have hge : 128 ≤ byAt code i := by simpa [longAt] using hL
    have hop : opAt code i = byAt code i - 128 := by rw [opAt]; omega
    have hwo : IntKind.i64.wrap (byAt code i - 128) = opAt code i := by rw [i64_small (by omega) (by omega), hop]
    rw [hL] at hsz hX
    simp -implicitDefEqProofs [hge, hwo]
    refine (i_within G _ _ _).use ?_
    by_cases hr : inR (opAt code i) 1 22 = true
    rotate_left
    · obtain ⟨e1, e2⟩ := hbad (by simp [decOk1, hr])
      simp -implicitDefEqProofs [hr, e1, e2]
      simp [zMi, Mins.cs]
    simp -implicitDefEqProofs [hr]
    refine (i_jumpOp G _).use ?_
    have hjo : (opAt code i == 20 || opAt code i == 21) = jmpO (opAt code i) := rfl
    cases hj : jmpO (opAt code i) with
    | false =>
      obtain ⟨e1, e2⟩ := hbad (by simp [decOk1, hL, hj])
      rw [hjo, hj]
      simp -implicitDefEqProofs [e1, e2]
      simp [zMi, Mins.cs]
    | true =>
    rw [hjo, hj]
    have hok : decOk1 code i = true := by simp [decOk1, hr, hL, hj]
    simp -implicitDefEqProofs [msetk, keq]
    refine (i_shape G _ hr).use ?_
    have hc : opAt code i = 20 ∨ opAt code i = 21 := by simpa [jmpO] using hj
    have hs : sOf (opAt code i) = 5 := by rcases hc with e | e <;> rw [e] <;> rfl
    rcases hc with e | e
    · skip
      have hn : decSz code i = 3 := by rw [hsz, e]; rfl
      have hXe : decI code i = ⟨20, 0, 0, 0, byAt code (i + 1) + 256 * byAt code (i + 2)⟩ := by rw [hX, e]; rfl
      simp -implicitDefEqProofs [show sOf 20 = 5 from rfl, show sOf 21 = 5 from rfl, e, mgetk, keq, show IntKind.i64.wrap 3 = 3 from rfl, show IntKind.i64.wrap 4 = 4 from rfl]
      refine cndb (fun h1 => ?_) (fun h1 => ?_)
      · obtain ⟨e1, e2⟩ := hnofit (by rw [hn]; simp at h1; omega)
        simp -implicitDefEqProofs [e1, e2]
        simp [zMi, Mins.cs]
      have hfit : i + 3 ≤ code.length := by simp at h1; omega
      have hgd := hfine hok (by rw [hn]; exact hfit)
      have hll : 3 ≤ code.length - i := by omega
      simp -implicitDefEqProofs [hll]
      refine (hmp 3).use ?_
      have g1 := sub_get (code := code) (i := i) (n := 3) (k := 1) (by omega) hfit
      have g2 := sub_get (code := code) (i := i) (n := 3) (k := 2) (by omega) hfit
      generalize ((code.drop i).take 3) = q at g1 g2 ⊢
      simp -implicitDefEqProofs []
      refine (i_shape G 20 rfl).use ?_
      simp -implicitDefEqProofs [show sOf 20 = 5 from rfl, show sOf 21 = 5 from rfl, e, i64L, g1, g2, show IntKind.i64.wrap 1 = 1 from rfl, show IntKind.i64.wrap 2 = 2 from rfl, show IntKind.i64.wrap 3 = 3 from rfl, hlong]
      simp [hgd, hn, Mins.cs, hXe]
    · skip
      have hn : decSz code i = 4 := by rw [hsz, e]; rfl
      have hXe : decI code i = ⟨21, byAt code (i + 1), 0, 0, byAt code (i + 2) + 256 * byAt code (i + 3)⟩ := by rw [hX, e]; rfl
      simp -implicitDefEqProofs [show sOf 20 = 5 from rfl, show sOf 21 = 5 from rfl, e, mgetk, keq, show IntKind.i64.wrap 3 = 3 from rfl, show IntKind.i64.wrap 4 = 4 from rfl]
      refine cndb (fun h1 => ?_) (fun h1 => ?_)
      · obtain ⟨e1, e2⟩ := hnofit (by rw [hn]; simp at h1; omega)
        simp -implicitDefEqProofs [e1, e2]
        simp [zMi, Mins.cs]
      have hfit : i + 4 ≤ code.length := by simp at h1; omega
      have hgd := hfine hok (by rw [hn]; exact hfit)
      have hll : 4 ≤ code.length - i := by omega
      simp -implicitDefEqProofs [hll]
      refine (hmp 4).use ?_
      have g1 := sub_get (code := code) (i := i) (n := 4) (k := 1) (by omega) hfit
      have g2 := sub_get (code := code) (i := i) (n := 4) (k := 2) (by omega) hfit
      have g3 := sub_get (code := code) (i := i) (n := 4) (k := 3) (by omega) hfit
      generalize ((code.drop i).take 4) = q at g1 g2 g3 ⊢
      simp -implicitDefEqProofs []
      refine (i_shape G 21 rfl).use ?_
      simp -implicitDefEqProofs [show sOf 20 = 5 from rfl, show sOf 21 = 5 from rfl, e, i64L, g1, g2, g3, show IntKind.i64.wrap 1 = 1 from rfl, show IntKind.i64.wrap 2 = 2 from rfl, show IntKind.i64.wrap 3 = 3 from rfl, hlong]
      simp [hgd, hn, Mins.cs, hXe]
end Go.Proofs.YtbbobekgnclkfaaDoor
