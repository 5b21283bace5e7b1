/-
  How a machine's function is read from bytes: the plain model of the whole, and the reference's answer.
-/
import Derived.Test.YtbbobekgnclkfaaDoorM25
import Derived.Test.YtbbobekgnclkfaaDoorM17
namespace Go.Proofs.YtbbobekgnclkfaaDoor
open Go Go.Aw
set_option maxRecDepth 100000
set_option maxHeartbeats 4000000

/-! ### The plain model -/
/-- Where the instructions begin, from a byte on. -/
def decFrom (code : List Int) (a : Nat) : Option (List Nat) :=
  if a < code.length then (if decGood code a then (decFrom code (a + decSz code a)).map (a :: ·) else none) else some []
termination_by code.length - a
decreasing_by have := (decSz_two code a).1; omega
theorem decFrom_end {code : List Int} {a : Nat} (h : code.length ≤ a) : decFrom code a = some [] := by rw [decFrom, if_neg (by omega)]
theorem decFrom_bad {code : List Int} {a : Nat} (h : a < code.length) (hg : ¬ decGood code a = true) : decFrom code a = none := by rw [decFrom, if_pos h, if_neg hg]
theorem decFrom_step {code : List Int} {a : Nat} (h : a < code.length) (hg : decGood code a = true) : decFrom code a = (decFrom code (a + decSz code a)).map (a :: ·) := by
  conv => lhs; rw [decFrom, if_pos h, if_pos hg]
theorem decGood_le {code : List Int} {a : Nat} (hg : decGood code a = true) : a + decSz code a ≤ code.length := by
  simp only [decGood, Bool.and_eq_true, decide_eq_true_eq] at hg; exact hg.2

def atOf (ps : List Nat) (n : Int) : Int := match ps.findIdx? (fun (p : Nat) => (p : Int) == n) with | some i => i | none => -1
def linkX (ps : List Nat) (x : Mins) : Mins := if jmp x then { x with n := atOf ps x.n } else x
def rawX (code : List Int) (ps : List Nat) : List Mins := ps.map (decI code)
def linked (code : List Int) (ps : List Nat) : List Mins := (rawX code ps).map (linkX ps)
def linkAt (code : List Int) (ps : List Nat) (i : Nat) : List Mins := (linked code ps).take i ++ (rawX code ps).drop i
def decFn (p s : Int) (code : List Int) (ps : List Nat) : Mfn := ⟨p, s, linked code ps⟩
def decOkF (code : List Int) (f : Mfn) : Bool := codeOk f && decide (encB f = code)
/-- The function of bytes. -/
def decF (p s : Int) (code : List Int) : Option Mfn := (decFrom code 0).bind fun ps => if decOkF code (decFn p s code ps) then some (decFn p s code ps) else none

theorem raw_len (code : List Int) (ps : List Nat) : (rawX code ps).length = ps.length := by simp [rawX]
theorem linked_len (code : List Int) (ps : List Nat) : (linked code ps).length = ps.length := by simp [linked, rawX]
theorem linkAt_len {code : List Int} {ps : List Nat} {i : Nat} (h : i ≤ ps.length) : (linkAt code ps i).length = ps.length := by simp [linkAt, linked_len, raw_len]; omega
theorem linkAt_zero (code : List Int) (ps : List Nat) : linkAt code ps 0 = rawX code ps := by simp [linkAt]
theorem linkAt_all (code : List Int) (ps : List Nat) : linkAt code ps ps.length = linked code ps := by
  rw [linkAt, List.take_of_length_le (by rw [linked_len]; omega), List.drop_of_length_le (by rw [raw_len]; omega), List.append_nil]
theorem linkAt_get {code : List Int} {ps : List Nat} {i : Nat} (h : i < ps.length) : (linkAt code ps i)[i]? = some (decI code ps[i]) := by
  rw [linkAt, List.getElem?_append_right (by simp [linked_len]; omega)]
  simp [linked_len, Nat.min_eq_left (Nat.le_of_lt h), rawX, h]
theorem linkAt_set {code : List Int} {ps : List Nat} {i : Nat} (h : i < ps.length) : (linkAt code ps i).set i (linkX ps (decI code ps[i])) = linkAt code ps (i + 1) := by
  have hl : ((linked code ps).take i).length = i := by simp [linked_len]; omega
  rw [linkAt, List.set_append_right _ _ (by omega), hl, Nat.sub_self, List.drop_eq_getElem_cons (by rw [raw_len]; exact h), List.set_cons_zero, linkAt, take_succ' (by rw [linked_len]; exact h)]
  simp [linked, rawX]
theorem linkAt_next {code : List Int} {ps : List Nat} {i : Nat} (h : i < ps.length) (hj : jmp (decI code ps[i]) = false) : linkAt code ps i = linkAt code ps (i + 1) := by
  rw [← linkAt_set h, linkX, hj]
  refine List.ext_getElem? fun j => ?_
  rw [List.getElem?_set]
  split
  · rename_i e; subst e
    rw [linkAt_get h]; simp [linkAt_len (Nat.le_of_lt h), h]
  · rfl

/-! ### Bytes -/
def str8 (l : List Int) : List UInt8 := l.map fun n => UInt8.ofNat n.toNat
theorem bytesA_bys : ∀ l : List Int, bytesA (l.map fun n => [AV.p (.int .u8 n)]) = some (str8 l)
  | [] => rfl
  | n :: r => by simp [bytesA, bytesA_bys r, str8]
theorem str8_inj : ∀ {a b : List Int}, BytesOk a → BytesOk b → (str8 a = str8 b ↔ a = b)
  | [], [], _, _ => by simp [str8]
  | [], _ :: _, _, _ => by simp [str8]
  | _ :: _, [], _, _ => by simp [str8]
  | x :: a, y :: b, ha, hb => by
    have ih := str8_inj (a := a) (b := b) (fun n hn => ha n (by simp [hn])) (fun n hn => hb n (by simp [hn]))
    have h1 := ha x (by simp)
    have h2 := hb y (by simp)
    have hxy : UInt8.ofNat x.toNat = UInt8.ofNat y.toNat ↔ x = y := by
      constructor
      · intro e
        have := congrArg UInt8.toNat e
        simp at this
        omega
      · rintro rfl; rfl
    simp only [str8, List.map_cons, List.cons.injEq] at ih ⊢
    rw [hxy, ih]
theorem u8_ok (n : Int) : 0 ≤ u8 n ∧ u8 n ≤ 255 := by rw [u8_eq_mod]; omega
theorem plainB_ok (x : Mins) : BytesOk (plainB x) := by
  unfold plainB
  intro n hn
  repeat' split at hn
  all_goals
    simp only [List.mem_cons, List.not_mem_nil, or_false] at hn
    rcases hn with rfl | rfl | rfl <;> exact u8_ok _
theorem encI_ok (ins : List Mins) (L : List Bool) (i : Nat) : BytesOk (encI ins L i) := by
  unfold encI
  intro n hn
  split at hn
  · split at hn
    · exact plainB_ok _ n hn
    · simp only [List.mem_append, List.mem_singleton] at hn
      rcases hn with (rfl | hn) | hn
      · exact u8_ok _
      · split at hn <;> simp at hn
        subst hn; exact u8_ok _
      · split at hn <;> simp at hn
        · rcases hn with rfl | rfl <;> exact u8_ok _
        · subst hn; exact u8_ok _
  · simp at hn
theorem encB_ok (f : Mfn) : BytesOk (encB f) := by
  intro n hn
  simp only [encB, encT, List.mem_flatten, List.mem_map] at hn
  obtain ⟨l, ⟨i, _, rfl⟩, h⟩ := hn
  exact encI_ok _ _ _ n h
theorem encI_size {ins : List Mins} {L : List Bool} {i : Nat} (h1 : i < ins.length) (h2 : i < L.length) : (encI ins L i).length = sizeB ins[i] L[i] := by
  simp only [encI, List.getElem?_eq_getElem h1, List.getElem?_eq_getElem h2, sizeB]
  cases jmp ins[i] <;> cases L[i] <;> by_cases e : ins[i].op = 21 <;> simp [e]
theorem encT_size {ins : List Mins} {L : List Bool} (hl : L.length = ins.length) : ∀ i, i ≤ ins.length → (encT ins L i).length = plc ins L i
  | 0, _ => by simp [encT, plc]
  | i + 1, h => by rw [encT_succ, List.length_append, encT_size hl i (by omega), encI_size (by omega) (by omega), plc_succ (by omega) (by omega)]
theorem encB_size {f : Mfn} (h : codeOk f = true) : (encB f).length ≤ 8000 := by
  simp only [codeOk, Bool.and_eq_true, decide_eq_true_eq] at h
  rw [encB, encT_size (longs_len _) _ (Nat.le_refl _)]; exact h.2
theorem codeOk_pos {f : Mfn} (h : codeOk f = true) : 0 < f.ins.length := by
  simp only [codeOk, Bool.and_eq_true] at h
  exact pos_of_alone h.1
theorem decF_big {p s : Int} {code : List Int} (h : ¬ code.length ≤ 8000) : decF p s code = none := by
  unfold decF
  cases decFrom code 0 with
  | none => rfl
  | some ps =>
    simp only [Option.bind_some]
    split
    · rename_i hk
      simp only [decOkF, Bool.and_eq_true, decide_eq_true_eq] at hk
      have := encB_size hk.1
      rw [hk.2] at this
      omega
    · rfl

variable (G : Glob)

theorem atOf_hit {ps : List Nat} {n : Int} {i : Nat} (h : i < ps.length) (hn : ∀ p ∈ ps.take i, (p : Int) ≠ n) (he : (ps[i] : Int) = n) : atOf ps n = i := by
  have : ps.findIdx? (fun (p : Nat) => (p : Int) == n) = some i := by
    rw [List.findIdx?_eq_some_iff_getElem]
    refine ⟨h, by simpa using he, fun j hj => ?_⟩
    have := hn ps[j] (List.mem_take_iff_getElem.2 ⟨j, by omega, rfl⟩)
    simpa using this
  rw [atOf, this]
theorem atOf_miss {ps : List Nat} {n : Int} (hn : ∀ p ∈ ps, (p : Int) ≠ n) : atOf ps n = -1 := by
  have : ps.findIdx? (fun (p : Nat) => (p : Int) == n) = none := by
    rw [List.findIdx?_eq_none_iff]
    intro p hp; simpa using hn p hp
  rw [atOf, this]

theorem s_l10At (ps : List Nat) (n : Int) (hb : ps.length ≤ 1048576) : VF Tryd.prog G n_spec_l10At [.p (intsL ps), .p (.int .i64 n)] (.p (.int .i64 (atOf ps n))) := by
  refine AC.go k_spec_l10At ?_
  have hil : intsL ps = .lst 1 (ps.map fun (n : Nat) => [.int .i64 (n : Int)]) := rfl
  simp -implicitDefEqProofs [F_spec_l10At, hil]
  refine loopA (fun i : Nat => tsOf 19 [(0, .p (intsL ps)), (1, .p (.int .i64 n)), (5, .p (.int .i64 i))]) (fun _ => []) (fun i => i ≤ ps.length ∧ ∀ p ∈ ps.take i, (p : Int) ≠ n) (fun i => ps.length - i) 0 (by simp) ?_ ?_
  · exact wkt_nil rfl (by simp [below, intsL])
  · intro i ⟨hi, hn⟩
    simp -implicitDefEqProofs [hil]
    refine cndb (fun h1 => ?_) (fun h1 => ?_)
    · simp at h1
      have hg := List.getElem?_eq_getElem h1
      by_cases he : (ps[i] : Int) = n
      · simp -implicitDefEqProofs [hg, he, atOf_hit h1 hn he]
      · simp -implicitDefEqProofs [hg, he]
        refine ⟨i + 1, ⟨h1, fun p hp => ?_⟩, by omega, wkt_nil rfl ?_⟩
        · rw [take_succ' h1] at hp
          rcases List.mem_append.1 hp with hp | hp
          · exact hn p hp
          · rw [List.mem_singleton.1 hp]; exact he
        · simp [below, w1 (i := i) (by omega)]
    · simp at h1
      rw [List.take_of_length_le h1] at hn
      simp -implicitDefEqProofs [atOf_miss hn]

theorem insV {h : List AO} {id : Nat} {ins : List Mins} (e : h[id]? = some (rowE 5 (ins.map Mins.av))) : View h (slE id 5 (ins.map Mins.av)) (insL ins) := by
  have hm : ins.map Mins.av = (ins.map Mins.cs).map (·.map .p) := by simp [Mins.av]
  rw [hm] at e ⊢
  exact view_E e (by intro l hl; obtain ⟨m, _, rfl⟩ := List.mem_map.1 hl; rfl)

end Go.Proofs.YtbbobekgnclkfaaDoor
