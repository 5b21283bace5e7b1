/-
  Marks on an object that is the caller's own: numbers, words, the whole; what holds them.
-/
import Derived.Test.YtbbobekgnclkfaaDoorCode4
import Derived.Test.YtbbobekgnclkfaaDoorM47
namespace Go.Proofs.YtbbobekgnclkfaaDoor
open Go Go.Aw
set_option maxRecDepth 100000
set_option maxHeartbeats 4000000

/-! ### The word of a mark -/
def digs (n : Nat) (acc : List UInt8) : List UInt8 := if n = 0 then acc else digs (n / 10) (UInt8.ofNat (48 + n % 10) :: acc)
termination_by n
theorem digs_zero (acc : List UInt8) : digs 0 acc = acc := by rw [digs, if_pos rfl]
theorem digs_step {n : Nat} (h : ¬ n = 0) (acc : List UInt8) : digs n acc = digs (n / 10) (UInt8.ofNat (48 + n % 10) :: acc) := by rw [digs, if_neg h]
def markW (n : Nat) : List UInt8 := if n = 0 then [109, 48] else 109 :: digs n []
structure DG where (n : Nat) (acc : List UInt8)

variable (G : Glob)
theorem t_markText (n : Nat) (hn : n ≤ 1152921504606846976) : VF Tryd.prog G n_laws_markText [.p (.int .i64 n)] (.p (.str (markW n))) := by
  refine AC.go k_laws_markText ?_
  by_cases h0 : n = 0
  · subst h0
    simp -implicitDefEqProofs [F_laws_markText, markW]
  have h1 : ¬ (n : Int) ≤ 0 := by omega
  simp -implicitDefEqProofs [F_laws_markText, h1, h0]
  refine loopA (fun d : DG => tsOf 20 [(0, .p (.int .i64 d.n)), (3, .p (.str d.acc))]) (fun _ => []) (fun d => digs d.n d.acc = digs n [] ∧ d.acc.length + d.n ≤ n) (fun d => d.n) ⟨n, []⟩ (by simp) ?_ ?_
  · exact wkt_nil rfl (by simp [below])
  · rintro ⟨m, acc⟩ ⟨i1, i2⟩
    simp only at i1 i2
    simp -implicitDefEqProofs []
    refine cndb (fun h2 => ?_) (fun h2 => ?_)
    · simp at h2
      have hm0 : ¬ m = 0 := by omega
      have e10 : (m : Int).tmod 10 = (m : Int) % 10 := Int.tmod_eq_emod_of_nonneg (by omega)
      have ew : IntKind.i64.wrap (48 + (m : Int) % 10) = 48 + (m : Int) % 10 := i64_small (by omega) (by omega)
      have e8 : IntKind.u8.wrap (48 + (m : Int) % 10) = 48 + (m : Int) % 10 := by have := u8_eq_mod (48 + (m : Int) % 10); rw [u8] at this; rw [this]; omega
      have et : (48 + (m : Int) % 10).toNat = 48 + m % 10 := by omega
      have ed : IntKind.i64.wrap ((m : Int) / 10) = ((m / 10 : Nat) : Int) := i64_nat (by omega) (by omega)
      simp -implicitDefEqProofs [e10, ew, e8, et, ed]
      refine ⟨by omega, ⟨m / 10, UInt8.ofNat (48 + m % 10) :: acc⟩, ⟨?_, ?_⟩, by simp only; omega, wkt_nil rfl ?_⟩
      · rw [← i1]; exact (digs_step hm0 acc).symm
      · simp only [List.length_cons]; omega
      · simp [below]
    · simp at h2
      have : m = 0 := by omega
      subst this
      rw [digs_zero] at i1
      have hl : 1 + (digs n []).length ≤ 9223372036854775807 := by rw [← i1]; omega
      simp -implicitDefEqProofs [markW, h0, i1]
      exact hl

def mksN (k n : Nat) : List Int := (List.range n).map fun j => ((k + j : Nat) : Int)
def mksW (k n : Nat) : List (List UInt8) := (List.range n).map fun j => markW (k + j)
theorem mksN_len (k n : Nat) : (mksN k n).length = n := by simp [mksN]
theorem mksW_len (k n : Nat) : (mksW k n).length = n := by simp [mksW]

theorem m_markIntS {h : List AO} {id : Nat} {xs : List Int} {k : Nat} (hr : h[id]? = some (numO xs)) (hk : k + xs.length ≤ 1152921504606846976) :
    AC Tryd.prog G n_laws_markIntS [.sl id 1 0 xs.length, .p (.int .i64 k)] h fun x h' => x = .ret (.p (.int .i64 ((k + xs.length : Nat) : Int))) ∧ h' = h.set id (numO (mksN k xs.length)) := by
  refine AC.enterB k_laws_markIntS fun hb => AC.go k_laws_markIntS ?_
  have hid : id < h.length := (List.getElem?_eq_some_iff.1 hr).1
  have hbs : ∀ ys : List Int, HB (h.set id (numO ys)) := fun ys => hb.set_row fun e he => by
    obtain ⟨x, _, rfl⟩ := List.mem_map.1 he
    simp
  simp -implicitDefEqProofs [F_laws_markIntS]
  have e0 : mksN k 0 ++ xs.drop 0 = xs := by simp [mksN]
  refine loopA (fun a : Nat × List Int => tsOf 19 [(0, .sl id 1 0 xs.length), (1, .p (.int .i64 ((k + a.1 : Nat) : Int))), (5, .p (.int .i64 a.1))]) (fun a => h.set id (numO a.2)) (fun a => a.1 ≤ xs.length ∧ a.2 = mksN k a.1 ++ xs.drop a.1) (fun a => xs.length - a.1) (0, xs) ⟨by simp, e0.symm⟩ ?_ ?_
  · have e : h.set id (numO xs) = h := by
      obtain ⟨hi, e⟩ := List.getElem?_eq_some_iff.1 hr
      rw [← e]; simp
    rw [e]
    exact wkt_refl (by simp) hb (by simp -implicitDefEqProofs [below, hid])
  · rintro ⟨i, ys⟩ ⟨hi, hy⟩
    simp only at hi hy
    simp -implicitDefEqProofs []
    refine cndb (fun h1 => ?_) (fun h1 => ?_)
    · simp at h1
      have hyl : ys.length = xs.length := by rw [hy]; simp [mksN]; omega
      have hys : ys.set i ((k + i : Nat) : Int) = mksN k (i + 1) ++ xs.drop (i + 1) := by
        rw [hy, List.set_append_right _ _ (by simp [mksN])]
        simp only [mksN, List.length_map, List.length_range, Nat.sub_self]
        rw [List.drop_eq_getElem_cons h1, List.set_cons_zero, List.range_succ]
        simp
      have hg : (List.map (fun n => [AV.p (.int .i64 n)]) ys)[i]? = some [AV.p (.int .i64 (ys[i]'(by omega)))] := by rw [List.getElem?_map, List.getElem?_eq_getElem (by omega)]; rfl
      have hw1 : IntKind.i64.wrap ((k : Int) + (i : Int) + 1) = (k : Int) + (i : Int) + 1 := i64_small (by omega) (by omega)
      simp -implicitDefEqProofs [numO, hid, h1, hg, hw1]
      refine ⟨i + 1, ys.set i ((k + i : Nat) : Int), ⟨h1, hys⟩, by omega, ?_⟩
      have e : (List.map (fun n => [AV.p (PV.int IntKind.i64 n)]) ys).set i [AV.p (PV.int IntKind.i64 (↑k + ↑i))] = List.map (fun n => [AV.p (PV.int IntKind.i64 n)]) (ys.set i ((k + i : Nat) : Int)) := by
        rw [List.map_set]; simp
      rw [e]
      refine wkt_refl ?_ (hbs (ys.set i ((k + i : Nat) : Int))) ?_
      · simp
      simp [w1 (i := i) (by omega), below, hid]
      omega
    · simp at h1
      have : i = xs.length := by omega
      subst this
      simp [hy]

end Go.Proofs.YtbbobekgnclkfaaDoor
