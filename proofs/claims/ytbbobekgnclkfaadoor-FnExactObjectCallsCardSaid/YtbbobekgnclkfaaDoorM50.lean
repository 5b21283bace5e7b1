/-
  Marks on an object that is the caller's own: words, the whole; what holds them.
-/
import Derived.Test.YtbbobekgnclkfaaDoorM49
namespace Go.Proofs.YtbbobekgnclkfaaDoor
open Go Go.Aw
set_option maxRecDepth 100000
set_option maxHeartbeats 4000000
variable (G : Glob)

theorem t_markTextI (k i : Nat) (hn : k + i ≤ 1152921504606846976) : VF Tryd.prog G n_laws_markText [.p (.int .i64 ((k : Int) + (i : Int)))] (.p (.str (markW (k + i)))) := by
  have := t_markText G (k + i) hn
  rwa [Int.natCast_add] at this

theorem m_markStringS {h : List AO} {id : Nat} {xs : List (List UInt8)} {k : Nat} (hr : h[id]? = some (strO xs)) (hk : k + xs.length ≤ 1152921504606846976) :
    AC Tryd.prog G n_laws_markStringS [.sl id 1 0 xs.length, .p (.int .i64 k)] h fun x h' => x = .ret (.p (.int .i64 ((k + xs.length : Nat) : Int))) ∧ h' = h.set id (strO (mksW k xs.length)) := by
  refine AC.enterB k_laws_markStringS fun hb => AC.go k_laws_markStringS ?_
  have hid : id < h.length := (List.getElem?_eq_some_iff.1 hr).1
  have hbs : ∀ ys : List (List UInt8), HB (h.set id (strO ys)) := fun ys => hb.set_row fun e he => by
    obtain ⟨x, _, rfl⟩ := List.mem_map.1 he
    simp
  simp -implicitDefEqProofs [F_laws_markStringS]
  have e0 : mksW k 0 ++ xs.drop 0 = xs := by simp [mksW]
  refine loopA (fun a : Nat × List (List UInt8) => tsOf 20 [(0, .sl id 1 0 xs.length), (1, .p (.int .i64 ((k + a.1 : Nat) : Int))), (5, .p (.int .i64 a.1))]) (fun a => h.set id (strO a.2)) (fun a => a.1 ≤ xs.length ∧ a.2 = mksW k a.1 ++ xs.drop a.1) (fun a => xs.length - a.1) (0, xs) ⟨by simp, e0.symm⟩ ?_ ?_
  · have e : h.set id (strO xs) = h := by
      obtain ⟨hi, e⟩ := List.getElem?_eq_some_iff.1 hr
      rw [← e]; simp
    rw [e]
    exact wkt_refl (by simp) hb (by simp -implicitDefEqProofs [below, hid])
  · rintro ⟨i, ys⟩ ⟨hi, hy⟩
    simp only at hi hy
    simp -implicitDefEqProofs []
    refine cndb (fun h1 => ?_) (fun h1 => ?_)
    · simp at h1
      have hyl : ys.length = xs.length := by rw [hy]; simp [mksW]; omega
      have hys : ys.set i (markW (k + i)) = mksW k (i + 1) ++ xs.drop (i + 1) := by
        rw [hy, List.set_append_right _ _ (by simp [mksW])]
        simp only [mksW, List.length_map, List.length_range, Nat.sub_self]
        rw [List.drop_eq_getElem_cons h1, List.set_cons_zero, List.range_succ]
        simp
      have hg : (List.map (fun n => [AV.p (.str n)]) ys)[i]? = some [AV.p (.str (ys[i]'(by omega)))] := by rw [List.getElem?_map, List.getElem?_eq_getElem (by omega)]; rfl
      have hw1 : IntKind.i64.wrap ((k : Int) + (i : Int) + 1) = (k : Int) + (i : Int) + 1 := i64_small (by omega) (by omega)
      simp -implicitDefEqProofs []
      refine (t_markTextI G k i (by omega)).use ?_
      simp -implicitDefEqProofs [strO, hid, h1, hg, hw1]
      refine ⟨i + 1, ys.set i (markW (k + i)), ⟨h1, hys⟩, by omega, ?_⟩
      have e : (List.map (fun n => [AV.p (PV.str n)]) ys).set i [AV.p (PV.str (markW (k + i)))] = List.map (fun n => [AV.p (PV.str n)]) (ys.set i (markW (k + i))) := by
        rw [List.map_set]
      rw [e]
      refine wkt_refl ?_ (hbs (ys.set i (markW (k + i)))) ?_
      · simp
      simp [w1 (i := i) (by omega), below, hid]
      omega
    · simp at h1
      have : i = xs.length := by omega
      subst this
      simp [hy]

theorem t_heldStringS (k n : Nat) (hk : k + n ≤ 1152921504606846976) : VF Tryd.prog G n_laws_heldStringS [.p (strL (mksW k n)), .p (.int .i64 k)] (.p (.int .i64 ((k + n : Nat) : Int))) := by
  refine AC.go k_laws_heldStringS ?_
  have hsl : ∀ l, strL l = .lst 1 (l.map fun w => [.str w]) := fun _ => rfl
  have hl := mksW_len k n
  simp -implicitDefEqProofs [F_laws_heldStringS]
  refine loopA (fun i : Nat => tsOf 22 [(0, .p (strL (mksW k n))), (1, .p (.int .i64 ((k + i : Nat) : Int))), (5, .p (.int .i64 i))]) (fun _ => []) (fun i => i ≤ n) (fun i => n - i) 0 (by simp) ?_ ?_
  · exact wkt_nil rfl (by simp [below, strL])
  intro i hi
  simp -implicitDefEqProofs [hsl, hl]
  refine cndb (fun h1 => ?_) (fun h1 => ?_)
  · simp at h1
    have hg : (mksW k n)[i]? = some (markW (k + i)) := by simp [mksW, h1]
    have hw1 : IntKind.i64.wrap ((k : Int) + (i : Int) + 1) = (k : Int) + (i : Int) + 1 := i64_small (by omega) (by omega)
    clear hl
    simp -implicitDefEqProofs [hg]
    refine (t_markTextI G k i (by omega)).use ?_
    simp -implicitDefEqProofs [hw1]
    refine ⟨i + 1, h1, by omega, wkt_nil rfl ?_⟩
    simp [below, strL, w1 (i := i) (by omega)]
    omega
  · simp at h1
    have : i = n := by omega
    subst this
    simp -implicitDefEqProofs []

/-- An object's cells, the lists owned. -/
def Obj.ov (o : Obj) (a b c : Nat) : List AV := [.p (.str o.name), .p (.int .i64 o.params), .p (.int .i64 o.slots), .sl a 1 0 o.code.length, .sl b 1 0 o.calls.length, .sl c 1 0 o.names.length]
theorem m_markObject {h : List AO} {a b c : Nat} {o : Obj} {k : Nat} (h1 : h[a]? = some (bysO o.code)) (h2 : h[b]? = some (numO o.calls)) (h3 : h[c]? = some (strO o.names)) (hab : a ≠ b) (hac : a ≠ c) (hbc : b ≠ c)
    (hk : k + o.code.length + o.calls.length + o.names.length ≤ 1152921504606846976) :
    AC Tryd.prog G n_laws_markObject [.agg (o.ov a b c), .p (.int .i64 k)] h fun x h' => x = .ret (.p (.int .i64 ((k + o.code.length + o.calls.length + o.names.length : Nat) : Int))) ∧
      ∃ z, h' = ((h.set a (bysO (mks8 k o.code.length))).set b (numO (mksN (k + o.code.length) o.calls.length))).set c (strO (mksW (k + o.code.length + o.calls.length) o.names.length)) ++ [z] := by
  have ha := (List.getElem?_eq_some_iff.1 h1).1
  have hbl := (List.getElem?_eq_some_iff.1 h2).1
  have hcl := (List.getElem?_eq_some_iff.1 h3).1
  refine AC.go k_laws_markObject ?_
  simp -implicitDefEqProofs [F_laws_markObject, Obj.ov]
  refine (m_markByteS G (xs := o.code) (k := k) (by rw [List.getElem?_append_left ha]; exact h1) (by omega)).mono ?_
  rintro x h' ⟨rfl, rfl⟩
  rw [List.set_append_left _ _ ha]
  simp -implicitDefEqProofs [callR_nxt]
  have hb2 : b < (h.set a (bysO (mks8 k o.code.length))).length := by rw [List.length_set]; exact hbl
  have c2 := m_markIntS G (xs := o.calls) (k := k + o.code.length) (h := h.set a (bysO (mks8 k o.code.length)) ++ [.row 6 [o.ov a b c]]) (id := b) (by rw [List.getElem?_append_left hb2, List.getElem?_set_ne hab]; exact h2) (by omega)
  rw [List.set_append_left _ _ hb2, Int.natCast_add] at c2
  refine c2.mono ?_
  rintro x h' ⟨rfl, rfl⟩
  simp -implicitDefEqProofs [callR_nxt, Obj.ov]
  have hc2 : c < ((h.set a (bysO (mks8 k o.code.length))).set b (numO (mksN (k + o.code.length) o.calls.length))).length := by rw [List.length_set, List.length_set]; exact hcl
  have c3 := m_markStringS G (xs := o.names) (k := k + o.code.length + o.calls.length) (h := (h.set a (bysO (mks8 k o.code.length))).set b (numO (mksN (k + o.code.length) o.calls.length)) ++ [.row 6 [o.ov a b c]]) (id := c) (by rw [List.getElem?_append_left hc2, List.getElem?_set_ne hbc, List.getElem?_set_ne hac]; exact h3) (by omega)
  rw [List.set_append_left _ _ hc2, Int.natCast_add, Int.natCast_add] at c3
  refine c3.mono ?_
  rintro x h' ⟨rfl, rfl⟩
  simp -implicitDefEqProofs [callR_nxt]
end Go.Proofs.YtbbobekgnclkfaaDoor
