/-
  A machine's program read from bytes: heaps with three heads and a middle of unknown length.
-/
import Derived.Test.YtbbobekgnclkfaaDoorM31
import Derived.Test.YtbbobekgnclkfaaDoorM20
namespace Go.Proofs.YtbbobekgnclkfaaDoor
open Go Go.Aw
set_option maxRecDepth 100000
set_option maxHeartbeats 4000000

def LZ (a b c : AO) (mid os : List AO) : List AO := a :: b :: c :: (mid ++ os)
section
variable {a b c : AO} {mid os : List AO} {n : Nat}
theorem LZ_len (hm : mid.length = n) : (LZ a b c mid os).length = n + 3 + os.length := by simp [LZ, hm]; omega
theorem LZ_0 : (LZ a b c mid os)[0]? = some a := rfl
theorem LZ_1 : (LZ a b c mid os)[1]? = some b := rfl
theorem LZ_2 : (LZ a b c mid os)[2]? = some c := rfl
theorem LZ_m {i : Nat} (hi : i < mid.length) : (LZ a b c mid os)[3 + i]? = mid[i]? := by
  show (a :: b :: c :: (mid ++ os))[3 + i]? = _
  rw [show 3 + i = i + 1 + 1 + 1 by omega]
  simp only [List.getElem?_cons_succ]
  rw [List.getElem?_append_left hi]
theorem LZ_k (hm : mid.length = n) (k : Nat) : (LZ a b c mid os)[n + 3 + k]? = os[k]? := by
  show (a :: b :: c :: (mid ++ os))[n + 3 + k]? = _
  rw [show n + 3 + k = n + k + 1 + 1 + 1 by omega]
  simp only [List.getElem?_cons_succ]
  rw [List.getElem?_append_right (by omega), hm, show n + k - n = k by omega]
theorem LZ_k0 (hm : mid.length = n) : (LZ a b c mid os)[n + 3]? = os[0]? := LZ_k hm 0
theorem LZ_k1 (hm : mid.length = n) : (LZ a b c mid os)[n + 4]? = os[1]? := LZ_k hm 1
theorem LZ_k2 (hm : mid.length = n) : (LZ a b c mid os)[n + 5]? = os[2]? := LZ_k hm 2
theorem LZ_k3 (hm : mid.length = n) : (LZ a b c mid os)[n + 6]? = os[3]? := LZ_k hm 3
theorem LZ_k4 (hm : mid.length = n) : (LZ a b c mid os)[n + 7]? = os[4]? := LZ_k hm 4
theorem LZ_s0 (o : AO) : (LZ a b c mid os).set 0 o = LZ o b c mid os := rfl
theorem LZ_s1 (o : AO) : (LZ a b c mid os).set 1 o = LZ a o c mid os := rfl
theorem LZ_s2 (o : AO) : (LZ a b c mid os).set 2 o = LZ a b o mid os := rfl
theorem LZ_s (hm : mid.length = n) (k : Nat) (o : AO) : (LZ a b c mid os).set (n + 3 + k) o = LZ a b c mid (os.set k o) := by
  show (a :: b :: c :: (mid ++ os)).set (n + 3 + k) o = _
  rw [show n + 3 + k = n + k + 1 + 1 + 1 by omega]
  simp only [List.set_cons_succ]
  rw [List.set_append_right _ _ (by omega), hm, show n + k - n = k by omega]; rfl
theorem LZ_t0 (hm : mid.length = n) (o : AO) : (LZ a b c mid os).set (n + 3) o = LZ a b c mid (os.set 0 o) := LZ_s hm 0 o
theorem LZ_t1 (hm : mid.length = n) (o : AO) : (LZ a b c mid os).set (n + 4) o = LZ a b c mid (os.set 1 o) := LZ_s hm 1 o
theorem LZ_t2 (hm : mid.length = n) (o : AO) : (LZ a b c mid os).set (n + 5) o = LZ a b c mid (os.set 2 o) := LZ_s hm 2 o
theorem LZ_t3 (hm : mid.length = n) (o : AO) : (LZ a b c mid os).set (n + 6) o = LZ a b c mid (os.set 3 o) := LZ_s hm 3 o
theorem LZ_app (l : List AO) : LZ a b c mid os ++ l = LZ a b c mid (os ++ l) := by simp [LZ]
end
attribute [simp high] LZ_0 LZ_1 LZ_2 LZ_k0 LZ_k1 LZ_k2 LZ_k3 LZ_k4 LZ_s0 LZ_s1 LZ_s2 LZ_t0 LZ_t1 LZ_t2 LZ_t3 LZ_app

theorem hw_mid {ρ : List Nat} {h : List AO} {π : List Nat} {r : List AO} : ∀ (mid : List AO) (s : Nat), (∀ o ∈ mid, okO 0 o) → (∀ i, i < mid.length → h[s + i]? = mid[i]?) → HW ρ h π r → HW ρ h (List.range' s mid.length ++ π) (mid ++ r)
  | [], _, _, _, hr => hr
  | o :: m, s, ho, hm, hr => by
    simp only [List.length_cons, List.range'_succ, List.cons_append]
    refine hw_ok (by have := hm 0 (by simp); simpa using this) (ho o (by simp)) (hw_mid m (s + 1) (fun x hx => ho x (by simp [hx])) (fun i hi => ?_) hr)
    have := hm (i + 1) (by simp; omega)
    rw [show s + (i + 1) = s + 1 + i by omega] at this
    simpa using this

theorem insO_ok (fs : List Mfn) : ∀ o ∈ fs.map (fun f => insO f.ins), okO 0 o := by
  intro o ho
  obtain ⟨f, _, rfl⟩ := List.mem_map.1 ho
  exact av_pure _

def riH (fs : List Mfn) : List AO := LZ (.row 1 [[.nils]]) (.row 1 [[slE 2 3 (fnsR 3 fs)]]) (rowE 3 (fnsR 3 fs)) (fs.map fun f => insO f.ins) []

/-- The renaming behind a round. -/
def riR (n : Nat) : List Nat := 0 :: 1 :: (n + 7) :: (List.range' 3 n ++ [n + 4])
theorem riR_len (n : Nat) : (riR n).length = n + 4 := by simp [riR]
theorem riR_get {n i : Nat} (h : i < n) : (riR n).getD (3 + i) 0 = 3 + i := by
  rw [riR, List.getD_eq_getElem?_getD, show 3 + i = i + 1 + 1 + 1 by omega]
  simp only [List.getElem?_cons_succ]
  rw [List.getElem?_append_left (by simpa using h)]
  simp [h]; omega
theorem riR_last (n : Nat) : (riR n).getD (3 + n) 0 = n + 4 := by
  rw [riR, List.getD_eq_getElem?_getD, show 3 + n = n + 1 + 1 + 1 by omega]
  simp only [List.getElem?_cons_succ]
  rw [List.getElem?_append_right (by simp)]
  simp
theorem riR_nodup (n : Nat) : (riR n).Nodup := by
  simp only [riR, List.nodup_cons, List.mem_cons, List.mem_append, List.mem_singleton, List.mem_range'_1, List.not_mem_nil, or_false, List.nodup_append]
  refine ⟨by omega, by omega, by omega, List.nodup_range', by simp, ?_⟩
  intro x hx y hy
  omega
theorem renL_ov {ρ : List Nat} {m : Mfn} {id : Nat} : renL ρ (m.ov id) = m.ov (ρ.getD id 0) := rfl
theorem riR_row (fs : List Mfn) (f : Mfn) : (fnsR 3 (fs ++ [f])).map (renL (riR fs.length)) = fnsR 3 fs ++ [f.ov (fs.length + 4)] := by
  refine List.ext_getElem? fun i => ?_
  rw [List.getElem?_map, fnsR_get]
  rcases Nat.lt_trichotomy i fs.length with h | h | h
  · rw [List.getElem?_append_left h, List.getElem?_append_left (by rw [fnsR_len]; exact h), fnsR_get, List.getElem?_eq_getElem h]
    simp only [Option.map_some, renL_ov, riR_get h]
  · subst h
    rw [List.getElem?_append_right (Nat.le_refl _), List.getElem?_append_right (by rw [fnsR_len]; exact Nat.le_refl _), fnsR_len, Nat.sub_self]
    simp only [List.getElem?_cons_zero, Option.map_some, renL_ov, riR_last]
  · rw [List.getElem?_eq_none (by simp; omega), List.getElem?_eq_none (by simp [fnsR_len]; omega)]; rfl
theorem fnsR_below (fs : List Mfn) (b : Nat) : ∀ x ∈ fnsR b fs, belowL (b + fs.length) x := by
  intro x hx
  obtain ⟨i, m, h, rfl⟩ := fnsR_mem hx
  have := (List.getElem?_eq_some_iff.1 h).1
  simp [Mfn.ov, belowL, below]; omega
end Go.Proofs.YtbbobekgnclkfaaDoor
