/-
  The helpers of the laws over objects: sizes and copies.
-/
import Derived.Test.YtbbobekgnclkfaaDoorM40
import Derived.Test.YtbbobekgnclkfaaDoorM35
namespace Go.Proofs.YtbbobekgnclkfaaDoor
open Go Go.Aw
set_option maxRecDepth 100000
set_option maxHeartbeats 4000000
variable (G : Glob)

theorem t_szByteS (xs : List Int) (left : Nat) (hl : left ≤ 1048576) (hb : xs.length ≤ 9223372036854775807) : VF Tryd.prog G n_laws_szByteS [.p (bysL xs), .p (.int .i64 left)] (.p (.int .i64 (if xs.length ≤ left then ((left - xs.length : Nat) : Int) else -1))) := by
  refine AC.go k_laws_szByteS ?_
  have hw : IntKind.i64.wrap ((left : Int) - xs.length) = (left : Int) - xs.length := i64_small (by omega) (by omega)
  by_cases h : xs.length ≤ left
  · have h1 : ¬ (left : Int) - xs.length < 0 := by omega
    have h2 : (left : Int) - xs.length = ((left - xs.length : Nat) : Int) := by omega
    simp -implicitDefEqProofs [F_laws_szByteS, bysL, hw, h1, h]
    omega
  · have h1 : (left : Int) - xs.length < 0 := by omega
    simp -implicitDefEqProofs [F_laws_szByteS, bysL, hw, h1, h]

theorem t_szIntS (xs : List Int) (left : Nat) (hl : left ≤ 1048576) (hb : xs.length ≤ 9223372036854775807) : VF Tryd.prog G n_laws_szIntS [.p (numL xs), .p (.int .i64 left)] (.p (.int .i64 (if xs.length ≤ left then ((left - xs.length : Nat) : Int) else -1))) := by
  refine AC.go k_laws_szIntS ?_
  have hw : IntKind.i64.wrap ((left : Int) - xs.length) = (left : Int) - xs.length := i64_small (by omega) (by omega)
  by_cases h : xs.length ≤ left
  · have h1 : ¬ (left : Int) - xs.length < 0 := by omega
    have h2 : (left : Int) - xs.length = ((left - xs.length : Nat) : Int) := by omega
    simp -implicitDefEqProofs [F_laws_szIntS, numL, hw, h1, h]
    omega
  · have h1 : (left : Int) - xs.length < 0 := by omega
    simp -implicitDefEqProofs [F_laws_szIntS, numL, hw, h1, h]

def wrdT (xs : List (List UInt8)) (i : Nat) : Nat := ((xs.take i).map List.length).sum
theorem wrdT_succ {xs : List (List UInt8)} {i : Nat} (h : i < xs.length) : wrdT xs (i + 1) = wrdT xs i + xs[i].length := by
  show ((xs.take (i + 1)).map List.length).sum = ((xs.take i).map List.length).sum + xs[i].length
  rw [take_succ' h, List.map_append, List.sum_append]
  rfl
theorem wrdT_all {xs : List (List UInt8)} {i : Nat} (h : xs.length ≤ i) : wrdT xs i = (xs.map List.length).sum := by rw [wrdT, List.take_of_length_le h]
theorem wrdT_le {xs : List (List UInt8)} {i : Nat} : wrdT xs i ≤ (xs.map List.length).sum := by
  conv => rhs; rw [← List.take_append_drop i xs, List.map_append, List.sum_append]
  simp [wrdT]
def szW (xs : List (List UInt8)) : Nat := xs.length + (xs.map List.length).sum
theorem t_szStringS (xs : List (List UInt8)) (left : Nat) (hl : left ≤ 1048576) (hb : xs.length ≤ 9223372036854775807) (hs : ∀ x ∈ xs, x.length ≤ 9223372036854775807) : VF Tryd.prog G n_laws_szStringS [.p (strL xs), .p (.int .i64 left)] (.p (.int .i64 (if szW xs ≤ left then ((left - szW xs : Nat) : Int) else -1))) := by
  refine AC.go k_laws_szStringS ?_
  have hw : IntKind.i64.wrap ((left : Int) - xs.length) = (left : Int) - xs.length := i64_small (by omega) (by omega)
  have hsz : szW xs = xs.length + (xs.map List.length).sum := rfl
  by_cases h : xs.length ≤ left
  case neg =>
    have h1 : (left : Int) - xs.length < 0 := by omega
    have h2 : ¬ szW xs ≤ left := by omega
    simp -implicitDefEqProofs [F_laws_szStringS, strL, hw, h1, h2]
  have h1 : ¬ (left : Int) - xs.length < 0 := by omega
  simp -implicitDefEqProofs [F_laws_szStringS, strL, hw, h1]
  refine loopA (fun i : Nat => tsOf 28 [(0, .p (strL xs)), (1, .p (.int .i64 ((left - xs.length - wrdT xs i : Nat) : Int))), (5, .p (.int .i64 i))]) (fun _ => []) (fun i => i ≤ xs.length ∧ xs.length + wrdT xs i ≤ left) (fun i => xs.length - i) 0 (by simp [wrdT]; omega) ?_ ?_
  · refine wkt_nil rfl ?_
    simp [below, strL, wrdT]
    omega
  · intro i ⟨hi, hx⟩
    simp -implicitDefEqProofs [strL]
    refine cndb (fun h1 => ?_) (fun h1 => ?_)
    · simp at h1
      have hg := List.getElem?_eq_getElem h1
      have hle := hs _ (List.getElem_mem h1)
      have hsu := wrdT_succ h1
      have hsl := wrdT_le (xs := xs) (i := i + 1)
      have hw2 : IntKind.i64.wrap (((left - xs.length - wrdT xs i : Nat) : Int) - (xs[i].length : Int)) = ((left - xs.length - wrdT xs i : Nat) : Int) - (xs[i].length : Int) := i64_small (by omega) (by omega)
      by_cases h2 : xs.length + wrdT xs (i + 1) ≤ left
      · have h3 : ¬ ((left - xs.length - wrdT xs i : Nat) : Int) - (xs[i].length : Int) < 0 := by omega
        have h4 : ((left - xs.length - wrdT xs i : Nat) : Int) - (xs[i].length : Int) = ((left - xs.length - wrdT xs (i + 1) : Nat) : Int) := by omega
        rw [h4] at h3
        replace hw2 := hw2.trans h4
        clear hle hsu hsl
        simp -implicitDefEqProofs [hg, hw2, h3]
        refine ⟨i + 1, ⟨h1, h2⟩, by omega, wkt_nil rfl (by simp [below, strL, w1 (i := i) (by omega)])⟩
      · have h3 : ((left - xs.length - wrdT xs i : Nat) : Int) - (xs[i].length : Int) < 0 := by omega
        have h5 : ¬ szW xs ≤ left := by omega
        clear hle hsu hsl
        simp -implicitDefEqProofs [hg, hw2, h3, h5]
    · simp at h1
      have hta := wrdT_all (xs := xs) h1
      have h5 : szW xs ≤ left := by omega
      have h6 : ((left - xs.length - wrdT xs i : Nat) : Int) = ((left - szW xs : Nat) : Int) := by omega
      simp -implicitDefEqProofs [h5, h6]

def szO (o : Obj) : Nat := o.name.length + o.code.length + o.calls.length + szW o.names
structure ObjSm (o : Obj) : Prop where
  name : o.name.length ≤ 9223372036854775807
  code : o.code.length ≤ 9223372036854775807
  calls : o.calls.length ≤ 9223372036854775807
  names : o.names.length ≤ 9223372036854775807
  words : ∀ x ∈ o.names, x.length ≤ 9223372036854775807
  bytes : BytesOk o.code
theorem t_szObject (o : Obj) (left : Nat) (hl : left ≤ 1048576) (ho : ObjSm o) : VF Tryd.prog G n_laws_szObject [.agg (o.cs.map .p), .p (.int .i64 left)] (.p (.int .i64 (if szO o ≤ left then ((left - szO o : Nat) : Int) else -1))) := by
  refine AC.go k_laws_szObject ?_
  have hn := ho.name
  have hw : IntKind.i64.wrap ((left : Int) - o.name.length) = (left : Int) - o.name.length := i64_small (by omega) (by omega)
  have hsz : szO o = o.name.length + o.code.length + o.calls.length + szW o.names := rfl
  by_cases h1 : o.name.length ≤ left
  case neg =>
    have h2 : (left : Int) - o.name.length < 0 := by omega
    have h3 : ¬ szO o ≤ left := by omega
    simp -implicitDefEqProofs [F_laws_szObject, Obj.cs, hw, h2, h3]
  have h2 : ¬ (left : Int) - o.name.length < 0 := by omega
  have e2 : (left : Int) - o.name.length = ((left - o.name.length : Nat) : Int) := by omega
  rw [e2] at h2
  replace hw := hw.trans e2
  simp -implicitDefEqProofs [F_laws_szObject, Obj.cs, hw, h2]
  refine (t_szByteS G o.code (left - o.name.length) (by omega) ho.code).use ?_
  by_cases h4 : o.code.length ≤ left - o.name.length
  case neg =>
    have h3 : ¬ szO o ≤ left := by omega
    simp -implicitDefEqProofs [h4, h3]
  have n4 : ¬ ((left - o.name.length - o.code.length : Nat) : Int) < 0 := by omega
  simp -implicitDefEqProofs [h4, n4]
  refine (t_szIntS G o.calls (left - o.name.length - o.code.length) (by omega) ho.calls).use ?_
  by_cases h5 : o.calls.length ≤ left - o.name.length - o.code.length
  case neg =>
    have h3 : ¬ szO o ≤ left := by omega
    simp -implicitDefEqProofs [h5, h3]
  have n5 : ¬ ((left - o.name.length - o.code.length - o.calls.length : Nat) : Int) < 0 := by omega
  simp -implicitDefEqProofs [h5, n5]
  refine (t_szStringS G o.names (left - o.name.length - o.code.length - o.calls.length) (by omega) ho.names ho.words).use ?_
  by_cases h6 : szW o.names ≤ left - o.name.length - o.code.length - o.calls.length
  case neg =>
    have h3 : ¬ szO o ≤ left := by omega
    simp -implicitDefEqProofs [h6, h3]
  have n6 : ¬ ((left - o.name.length - o.code.length - o.calls.length - szW o.names : Nat) : Int) < 0 := by omega
  have h3 : szO o ≤ left := by omega
  simp -implicitDefEqProofs [h6, n6, h3]
  omega

def numO (l : List Int) : AO := .row 1 (l.map fun n => [.p (.int .i64 n)])
theorem numO_view {l : List Int} {id : Nat} {h : List AO} (e : h[id]? = some (numO l)) : View h (.sl id 1 0 l.length) (numL l) := by
  have := view_row (h := h) (id := id) (sz := 1) (n := l.length) (ls := l.map fun n => [.int .i64 n]) (by rw [e, numO]; simp) (by simp) (fun x hx => by obtain ⟨b, _, rfl⟩ := List.mem_map.1 hx; rfl)
  exact this
def numAt (l : List Int) (i : Nat) : List Int := l.take i ++ List.replicate (l.length - i) 0
theorem numAt_set {l : List Int} {i : Nat} (h : i < l.length) : (numAt l i).set i l[i] = numAt l (i + 1) := by
  have hl : (l.take i).length = i := by simp; omega
  have e : l.length - i = (l.length - (i + 1)) + 1 := by omega
  show (l.take i ++ List.replicate (l.length - i) 0).set i l[i] = l.take (i + 1) ++ List.replicate (l.length - (i + 1)) 0
  rw [List.set_append_right _ _ (by omega), hl, Nat.sub_self, e, List.replicate_succ, List.set_cons_zero, take_succ' h, List.append_assoc]
  rfl
theorem numAt_get {l : List Int} {i : Nat} (h : i < l.length) : (numAt l i)[i]? = some 0 := by
  have hl : (l.take i).length = i := by simp; omega
  rw [numAt, List.getElem?_append_right (by omega), hl, Nat.sub_self, List.getElem?_replicate, if_pos (by omega)]
theorem numAt_len {l : List Int} {i : Nat} (h : i ≤ l.length) : (numAt l i).length = l.length := by simp [numAt]; omega
theorem o_toIntS (l : List Int) (hb : l.length ≤ 1048576) : AC Tryd.prog G n_laws_toIntS [.p (numL l)] [] fun x h => x = .ret (.sl 0 1 0 l.length) ∧ h = [numO l] := by
  refine AC.go k_laws_toIntS ?_
  have hbl : numL l = .lst 1 (l.map fun n => [.int .i64 n]) := rfl
  simp -implicitDefEqProofs [F_laws_toIntS, hbl]
  refine ⟨by omega, ?_⟩
  refine loopA (fun i : Nat => tsOf 22 [(0, .p (numL l)), (3, .sl 0 1 0 l.length), (4, .p (.int .i64 i))]) (fun i => [numO (numAt l i)]) (fun i => i ≤ l.length) (fun i => l.length - i) 0 (by simp) ?_ ?_
  · refine wkt_pick [0] rfl (by simp) (hw_row (by simp [numAt]) (by simp) hw_nil) ?_
    simp [below, ren, numL]
  · intro i hi
    have hlen := numAt_len hi
    simp -implicitDefEqProofs [hbl]
    refine cndb (fun h1 => ?_) (fun h1 => ?_)
    · simp at h1
      have hg := List.getElem?_eq_getElem h1
      have hg2 := numAt_get h1
      have hset : ((numAt l i).map fun n => [AV.p (.int .i64 n)]).set i [.p (.int .i64 l[i])] = (numAt l (i + 1)).map fun n => [AV.p (.int .i64 n)] := by rw [← numAt_set h1, List.map_set]
      have hbo : numO (numAt l i) = .row 1 ((numAt l i).map fun n => [.p (.int .i64 n)]) := rfl
      clear hlen
      simp -implicitDefEqProofs [hg, hbo, hg2, h1, hset]
      refine ⟨i + 1, h1, by omega, wkt_pick [0] rfl (by simp) (hw_row rfl (by simp) hw_nil) ?_⟩
      simp [below, ren, numL, w1 (i := i) (by omega)]
    · simp at h1
      have : i = l.length := by omega
      subst this
      simp -implicitDefEqProofs [numAt]
theorem t_toIntS (l : List Int) (hb : l.length ≤ 1048576) : VF Tryd.prog G n_laws_toIntS [.p (numL l)] (.p (numL l)) := AC.freeze (o_toIntS G l hb) (.one (numO_view rfl) .nil)

def strO (l : List (List UInt8)) : AO := .row 1 (l.map fun n => [.p (.str n)])
theorem strO_view {l : List (List UInt8)} {id : Nat} {h : List AO} (e : h[id]? = some (strO l)) : View h (.sl id 1 0 l.length) (strL l) := by
  have := view_row (h := h) (id := id) (sz := 1) (n := l.length) (ls := l.map fun n => [.str n]) (by rw [e, strO]; simp) (by simp) (fun x hx => by obtain ⟨b, _, rfl⟩ := List.mem_map.1 hx; rfl)
  exact this
def strAt (l : List (List UInt8)) (i : Nat) : List (List UInt8) := l.take i ++ List.replicate (l.length - i) []
theorem strAt_set {l : List (List UInt8)} {i : Nat} (h : i < l.length) : (strAt l i).set i l[i] = strAt l (i + 1) := by
  have hl : (l.take i).length = i := by simp; omega
  have e : l.length - i = (l.length - (i + 1)) + 1 := by omega
  show (l.take i ++ List.replicate (l.length - i) []).set i l[i] = l.take (i + 1) ++ List.replicate (l.length - (i + 1)) []
  rw [List.set_append_right _ _ (by omega), hl, Nat.sub_self, e, List.replicate_succ, List.set_cons_zero, take_succ' h, List.append_assoc]
  rfl
theorem strAt_get {l : List (List UInt8)} {i : Nat} (h : i < l.length) : (strAt l i)[i]? = some [] := by
  have hl : (l.take i).length = i := by simp; omega
  rw [strAt, List.getElem?_append_right (by omega), hl, Nat.sub_self, List.getElem?_replicate, if_pos (by omega)]
theorem strAt_len {l : List (List UInt8)} {i : Nat} (h : i ≤ l.length) : (strAt l i).length = l.length := by simp [strAt]; omega
theorem o_toStringS (l : List (List UInt8)) (hb : l.length ≤ 1048576) : AC Tryd.prog G n_laws_toStringS [.p (strL l)] [] fun x h => x = .ret (.sl 0 1 0 l.length) ∧ h = [strO l] := by
  refine AC.go k_laws_toStringS ?_
  have hbl : strL l = .lst 1 (l.map fun n => [.str n]) := rfl
  simp -implicitDefEqProofs [F_laws_toStringS, hbl]
  refine ⟨by omega, ?_⟩
  refine loopA (fun i : Nat => tsOf 22 [(0, .p (strL l)), (3, .sl 0 1 0 l.length), (4, .p (.int .i64 i))]) (fun i => [strO (strAt l i)]) (fun i => i ≤ l.length) (fun i => l.length - i) 0 (by simp) ?_ ?_
  · refine wkt_pick [0] rfl (by simp) (hw_row (by simp [strAt]) (by simp) hw_nil) ?_
    simp [below, ren, strL]
  · intro i hi
    have hlen := strAt_len hi
    simp -implicitDefEqProofs [hbl]
    refine cndb (fun h1 => ?_) (fun h1 => ?_)
    · simp at h1
      have hg := List.getElem?_eq_getElem h1
      have hg2 := strAt_get h1
      have hset : ((strAt l i).map fun n => [AV.p (.str n)]).set i [.p (.str l[i])] = (strAt l (i + 1)).map fun n => [AV.p (.str n)] := by rw [← strAt_set h1, List.map_set]
      have hbo : strO (strAt l i) = .row 1 ((strAt l i).map fun n => [.p (.str n)]) := rfl
      clear hlen
      simp -implicitDefEqProofs [hg, hbo, hg2, h1, hset]
      refine ⟨i + 1, h1, by omega, wkt_pick [0] rfl (by simp) (hw_row rfl (by simp) hw_nil) ?_⟩
      simp [below, ren, strL, w1 (i := i) (by omega)]
    · simp at h1
      have : i = l.length := by omega
      subst this
      simp -implicitDefEqProofs [strAt]
theorem t_toStringS (l : List (List UInt8)) (hb : l.length ≤ 1048576) : VF Tryd.prog G n_laws_toStringS [.p (strL l)] (.p (strL l)) := AC.freeze (o_toStringS G l hb) (.one (strO_view rfl) .nil)

theorem t_toObject (o : Obj) (h1 : o.code.length ≤ 1048576) (h2 : o.calls.length ≤ 1048576) (h3 : o.names.length ≤ 1048576) : VF Tryd.prog G n_laws_toObject [.agg (o.cs.map .p)] (.agg (o.cs.map .p)) := by
  refine AC.go k_laws_toObject ?_
  simp -implicitDefEqProofs [F_laws_toObject, Obj.cs]
  refine (t_toByteS G o.code h1).use ?_
  simp -implicitDefEqProofs []
  refine (t_toIntS G o.calls h2).use ?_
  simp -implicitDefEqProofs []
  refine (t_toStringS G o.names h3).use ?_
  simp -implicitDefEqProofs []

end Go.Proofs.YtbbobekgnclkfaaDoor
