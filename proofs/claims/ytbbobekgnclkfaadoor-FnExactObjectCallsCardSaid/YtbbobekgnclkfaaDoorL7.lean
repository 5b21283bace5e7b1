/-
  Slots by what is known of them: the latest first. No program.
-/
import Derived.Test.YtbbobekgnclkfaaDoorL6
namespace Go.Aw

def look : List (Nat × AV) → Nat → AV
  | [], _ => .any
  | x :: r, j => if x.1 = j then x.2 else look r j
@[simp] theorem look_nil (j : Nat) : look [] j = .any := rfl
@[simp] theorem look_hit (d : Nat) (v : AV) (r : List (Nat × AV)) : look ((d, v) :: r) d = v := by simp [look]
@[simp] theorem look_miss {d j : Nat} (v : AV) (r : List (Nat × AV)) (h : d ≠ j) : look ((d, v) :: r) j = look r j := by simp [look, h]

/-- n slots. -/
def tsOf (n : Nat) (l : List (Nat × AV)) : List AV := (List.range n).map (look l)

theorem tsOf_get {n i : Nat} {l : List (Nat × AV)} (h : i < n) : (tsOf n l)[i]? = some (look l i) := by simp [tsOf, h]
@[simp] theorem sel_tsOf {n j : Nat} {l : List (Nat × AV)} (h : j < n) : sel (tsOf n l) j = look l j := by
  rw [← sel_eq, List.getD_eq_getElem?_getD, tsOf_get h]; rfl
@[simp] theorem setL_tsOf (n d : Nat) (v : AV) (l : List (Nat × AV)) : setL (tsOf n l) d v = tsOf n ((d, v) :: l) := by
  rw [← setL_eq]
  refine List.ext_getElem? fun i => ?_
  rw [List.getElem?_set]
  by_cases hi : i < n
  · rw [tsOf_get hi, tsOf_get hi]
    by_cases hd : d = i
    · subst hd
      simp [tsOf, hi]
    · simp [hd]
  · simp only [tsOf, List.length_map, List.length_range]
    rw [List.getElem?_eq_none (by simp; omega), List.getElem?_eq_none (by simp; omega)]
    split
    · rw [if_neg (by omega)]
    · rfl

def idxL : Nat → List AV → List (Nat × AV)
  | _, [] => []
  | k, a :: r => (k, a) :: idxL (k + 1) r
@[simp] theorem idxL_nil (k : Nat) : idxL k [] = [] := rfl
@[simp] theorem idxL_cons (k : Nat) (a : AV) (r : List AV) : idxL k (a :: r) = (k, a) :: idxL (k + 1) r := rfl
theorem look_idxL : ∀ (l : List AV) (k i : Nat), look (idxL k l) i = if k ≤ i then (l[i - k]?).getD .any else .any
  | [], k, i => by simp
  | a :: r, k, i => by
    simp only [idxL, look]
    split
    · rename_i h; subst h; simp
    · rename_i h
      rw [look_idxL r (k + 1) i]
      by_cases hk : k ≤ i
      · rw [if_pos (by omega), if_pos hk, show i - k = (i - (k + 1)) + 1 by omega]; simp
      · rw [if_neg (by omega), if_neg hk]

theorem tsOf_args {n : Nat} {args : List AV} (h : args.length ≤ n) : args ++ List.replicate (n - args.length) .any = tsOf n (idxL 0 args) := by
  refine List.ext_getElem? fun i => ?_
  by_cases hi : i < n
  · rw [tsOf_get hi, look_idxL, if_pos (Nat.zero_le _), Nat.sub_zero]
    by_cases ha : i < args.length
    · rw [List.getElem?_append_left ha, List.getElem?_eq_getElem ha]; rfl
    · rw [List.getElem?_append_right (by omega), List.getElem?_replicate, if_pos (by omega), List.getElem?_eq_none (by omega)]; rfl
  · rw [List.getElem?_eq_none (by simp; omega), List.getElem?_eq_none (by simp [tsOf]; omega)]

theorem AC.go {P : Program} {G : Glob} {f : FuncId} {F : FK} (hF : compF P f = some F) {args : List AV} {h : List AO} {R : ARes → List AO → Prop}
    (H : AKW P G h.length F.ak (tsOf F.ntmps (idxL 0 args)) h (endK G F.res R)) (hl : Nat.ble args.length F.ntmps = true := by rfl) : AC P G f args h R :=
  AC.enter hF (by rw [tsOf_args (Nat.le_of_ble_eq_true hl)]; exact H)
/-- The text with cuts. -/
theorem AC.goK {P : Program} {G : Glob} {f : FuncId} {F : FK} (hF : compF P f = some F) {K : AK} (hK : K.whole = F.ak) {args : List AV} {h : List AO} {R : ARes → List AO → Prop}
    (H : AKW P G h.length K (tsOf F.ntmps (idxL 0 args)) h (endK G F.res R)) (hl : Nat.ble args.length F.ntmps = true := by rfl) : AC P G f args h R :=
  AC.enterK hF K (fun _ h => KOk.cuts (hK ▸ h)) (by rw [tsOf_args (Nat.le_of_ble_eq_true hl)]; exact H)
theorem AC.goB {P : Program} {G : Glob} {f : FuncId} {F : FK} (hF : compF P f = some F) {args : List AV} {h : List AO} {R : ARes → List AO → Prop}
    (H : HB h → AKW P G h.length F.ak (tsOf F.ntmps (idxL 0 args)) h (endK G F.res R)) (hl : Nat.ble args.length F.ntmps = true := by rfl) : AC P G f args h R :=
  AC.enterB hF fun hb => AC.go hF (H hb) hl

/-- What is known at a loop's head holds. -/
def FgA (m : Nat) (l : List (Nat × AV)) : List (Nat × AV) → Prop
  | [] => True
  | x :: r => (below m x.2 ∧ look l x.1 = x.2) ∧ FgA m l r
@[simp] theorem FgA_nil (m : Nat) (l : List (Nat × AV)) : FgA m l [] = True := rfl
@[simp] theorem FgA_cons (m : Nat) (l : List (Nat × AV)) (x : Nat × AV) (r : List (Nat × AV)) : FgA m l (x :: r) = ((below m x.2 ∧ look l x.1 = x.2) ∧ FgA m l r) := rfl
def TWA (ρ : List Nat) (l : List (Nat × AV)) : List (Nat × AV) → Prop
  | [] => True
  | x :: r => (below ρ.length x.2 ∧ ren ρ x.2 = look l x.1) ∧ TWA ρ l r
@[simp] theorem TWA_nil (ρ : List Nat) (l : List (Nat × AV)) : TWA ρ l [] = True := rfl
@[simp] theorem TWA_cons (ρ : List Nat) (l : List (Nat × AV)) (x : Nat × AV) (r : List (Nat × AV)) : TWA ρ l (x :: r) = ((below ρ.length x.2 ∧ ren ρ x.2 = look l x.1) ∧ TWA ρ l r) := rfl

theorem look_fg {m : Nat} {l : List (Nat × AV)} : ∀ {l1 : List (Nat × AV)}, FgA m l l1 → ∀ i, look l1 i = .any ∨ (below m (look l1 i) ∧ look l1 i = look l i)
  | [], _, i => .inl rfl
  | x :: r, h, i => by
    simp only [look]
    split
    · rename_i e; subst e; exact .inr ⟨h.1.1, h.1.2.symm⟩
    · exact look_fg h.2 i
theorem look_tw {ρ : List Nat} {l : List (Nat × AV)} : ∀ {l1 : List (Nat × AV)}, TWA ρ l l1 → ∀ i, look l1 i = .any ∨ (below ρ.length (look l1 i) ∧ ren ρ (look l1 i) = look l i)
  | [], _, i => .inl rfl
  | x :: r, h, i => by
    simp only [look]
    split
    · rename_i e; subst e; exact .inr h.1
    · exact look_tw h.2 i
theorem fgt_tsOf {m n : Nat} {l l1 : List (Nat × AV)} (h : FgA m l l1) : Fgt m (tsOf n l) (tsOf n l1) := by
  have key : ∀ r : List Nat, Fgt m (r.map (look l)) (r.map (look l1)) := by
    intro r
    induction r with
    | nil => trivial
    | cons i r ih => exact ⟨look_fg h i, ih⟩
  exact key _
theorem tw_tsOf {ρ : List Nat} {n : Nat} {l l1 : List (Nat × AV)} (h : TWA ρ l l1) : TW ρ (tsOf n l) (tsOf n l1) := by
  have key : ∀ r : List Nat, TW ρ (r.map (look l)) (r.map (look l1)) := by
    intro r
    induction r with
    | nil => trivial
    | cons i r ih => exact ⟨look_tw h i, ih⟩
  exact key _

theorem wkt_nil {k n : Nat} {l l1 : List (Nat × AV)} {h : List AO} (hk : k = 0) (H : FgA 0 l l1) : Wk k (tsOf n l) h (tsOf n l1) [] := wk_nil hk (fgt_tsOf H)
theorem wkt_fst {k n m : Nat} {l l1 : List (Nat × AV)} {h h1 : List AO} (hk : k ≤ m) (HF : Fst m h h1) (H : FgA m l l1) : Wk k (tsOf n l) h (tsOf n l1) h1 := wk_fst hk HF (fgt_tsOf H)
theorem wkt_same {k n : Nat} {l l1 : List (Nat × AV)} {h : List AO} (hk : k ≤ h.length) (ho : ∀ o ∈ h, okO h.length o) (H : FgA h.length l l1) : Wk k (tsOf n l) h (tsOf n l1) h := wk_same hk ho (fgt_tsOf H)
theorem wkt_refl {k n : Nat} {l l1 : List (Nat × AV)} {h : List AO} (hk : k ≤ h.length) (hb : HB h) (H : FgA h.length l l1) : Wk k (tsOf n l) h (tsOf n l1) h := wk_refl hk hb (fgt_tsOf H)
theorem wkt_pick (ρ : List Nat) {k n : Nat} {l l1 : List (Nat × AV)} {h h1 : List AO} (hk : k = 0) (nd : ρ.Nodup) (HH : HW ρ h ρ h1) (H : TWA ρ l l1) : Wk k (tsOf n l) h (tsOf n l1) h1 := wk_pick ρ hk nd HH (tw_tsOf H)

/-! ### Two ways: neither is walked before it is taken -/
/-- Keeps simp's congruence out of A and B. -/
structure Blk (A B : Prop) : Type where
  mk ::
def CndB (b : Bool) (A B : Prop) (_w : Blk A B) : Prop := Cnd b A B
@[simp high] theorem cndV_blk (A B : Prop) (b : Bool) : cndV A B (.p (.bool b)) = CndB b A B ⟨⟩ := rfl
@[simp high] theorem grd_blk_t (A B : Prop) (b : Bool) : grd true A B (.p (.bool b)) = CndB b A B ⟨⟩ := rfl
@[simp high] theorem grd_blk_f (A B : Prop) (b : Bool) : grd false A B (.p (.bool b)) = CndB (!b) A B ⟨⟩ := rfl
@[simp] theorem CndB_true (A B : Prop) (w : Blk A B) : CndB true A B w = A := Cnd_true A B
@[simp] theorem CndB_false (A B : Prop) (w : Blk A B) : CndB false A B w = B := Cnd_false A B
theorem cndb {b : Bool} {A B : Prop} {w : Blk A B} (h1 : b = true → A) (h2 : b = false → B) : CndB b A B w := ⟨h1, h2⟩

/-- An object without references is kept. -/
theorem hw_ok {ρ : List Nat} {h : List AO} {i : Nat} {π : List Nat} {o : AO} {r1 : List AO} (e : h[i]? = some o) (ho : okO 0 o) (hr : HW ρ h π r1) : HW ρ h (i :: π) (o :: r1) := by
  cases o with
  | dead => exact hw_dead (List.getElem?_eq_some_iff.1 e).1 hr
  | row sz es => exact hw_row e ho hr
  | sit s p => exact ⟨(List.getElem?_eq_some_iff.1 e).1, e, hr⟩
  | mp es =>
    refine ⟨(List.getElem?_eq_some_iff.1 e).1, ⟨fun x hx => ?_, ?_⟩, hr⟩
    · have := belowL_mono (Nat.zero_le ρ.length) [x.2] ⟨ho x hx, trivial⟩
      exact this.1
    · have : es.map (fun x => (x.1, ren ρ x.2)) = es := by
        rw [List.map_congr_left (g := id) fun x hx => by
          have := renL_pure ρ [x.2] ⟨ho x hx, trivial⟩
          simp only [renL, List.cons.injEq, and_true] at this
          rw [this]; rfl]
        simp
      rw [this]; exact e

theorem wkt_ren (ρ : List Nat) {k n : Nat} {l l1 : List (Nat × AV)} {h h1 : List AO} (hk : k ≤ ρ.length) (hi : ∀ i, i < k → ρ.getD i 0 = i) (nd : ρ.Nodup) (HH : HW ρ h ρ h1) (H : TWA ρ l l1) : Wk k (tsOf n l) h (tsOf n l1) h1 :=
  Wk.of ρ hk hi nd (tw_tsOf H) HH
/-- Dead ones may be named more than once. -/
theorem wkt_dup (ρ : List Nat) {k n : Nat} {l l1 : List (Nat × AV)} {h h1 : List AO} (hk : k ≤ ρ.length) (hi : ∀ i, i < k → ρ.getD i 0 = i) (nd : (lives ρ h1).Nodup) (HH : HW ρ h ρ h1) (H : TWA ρ l l1) : Wk k (tsOf n l) h (tsOf n l1) h1 :=
  Wk.ofL ρ hk hi nd (tw_tsOf H) HH


attribute [simp] puresOf
end Go.Aw
/-
  A call beside other things. No program.
-/
namespace Go.Aw

mutual
/-- No function within. -/
def nofn : AV → Bool
  | .agg cs => nofnL cs
  | .tup cs => nofnL cs
  | .fn _ _ => false
  | _ => true
def nofnL : List AV → Bool
  | [] => true
  | v :: r => nofn v && nofnL r
end
def nofnO : AO → Bool
  | .row _ es => es.all nofnL
  | .mp es => es.all fun x => nofn x.2
  | .sit .. => true
  | .dead => true
theorem nofnL_get : ∀ {l : List AV}, nofnL l = true → ∀ (j : Nat) (c : AV), l[j]? = some c → nofn c = true
  | v :: r, h, 0, c, e => by simp at e; subst e; simp [nofnL] at h; exact h.1
  | v :: r, h, j + 1, c, e => by simp [nofnL] at h; exact nofnL_get h.2 j c (by simpa using e)
theorem nofn_rel {W : World} {S : Nat → Prop} {φ φ' : Place} {n m : Nat} : ∀ {v : AV} {x : Value}, VRel W S φ' m v x → nofn v = true → VRel W S (both n φ φ') (n + m) (shiftV n v) x := by
  intro v x h
  induction h with
  | p pv x hp => intro _; exact .p _ _ hp
  | agg cs vs hs _ ih =>
    intro hc
    simp only [nofn] at hc
    simp only [shiftV, shiftL_map]
    refine .agg _ vs (by simp [hs]) fun j c y h1 h2 => ?_
    simp only [List.getElem?_map, Option.map_eq_some_iff] at h1
    obtain ⟨c0, h1, rfl⟩ := h1
    exact ih j c0 y h1 h2 (nofnL_get hc j c0 h1)
  | tup cs vs hs _ ih =>
    intro hc
    simp only [nofn] at hc
    simp only [shiftV, shiftL_map]
    refine .tup _ vs (by simp [hs]) fun j c y h1 h2 => ?_
    simp only [List.getElem?_map, Option.map_eq_some_iff] at h1
    obtain ⟨c0, h1, rfl⟩ := h1
    exact ih j c0 y h1 h2 (nofnL_get hc j c0 h1)
  | ptr id esz i off hid =>
    intro _
    have := VRel.ptr (W := W) (S := S) (φ := both n φ φ') (n := n + m) (n + id) esz i off (by omega)
    rw [both_add] at this; exact this
  | sl id esz off len cap ba hid hl hb hc =>
    intro _
    have := VRel.sl (W := W) (S := S) (φ := both n φ φ') (n := n + m) (n + id) esz off len cap ba (by omega) hl (by rw [both_add]; exact hb) (by rw [both_add]; exact hc)
    simpa [shiftV] using this
  | mp id hid =>
    intro _
    have := VRel.mp (W := W) (S := S) (φ := both n φ φ') (n := n + m) (n + id) (by omega)
    rw [both_add] at this; exact this
  | it id hid =>
    intro _
    have := VRel.it (W := W) (S := S) (φ := both n φ φ') (n := n + m) (n + id) (by omega)
    rw [both_add] at this; exact this
  | gp g off => intro _; exact .gp g off
  | nils => intro _; exact .nils
  | nilp => intro _; exact .nilp
  | nilf => intro _; exact .nilf
  | nilm => intro _; exact .nilm
  | nili => intro _; exact .nili
  | any x => intro _; exact .any x
  | eptr e off b o hb hc => intro _; exact .eptr e off b o hb hc
  | fn => intro hc; simp [nofn] at hc
  | ifc t pv x hp => intro _; exact .ifc t pv x hp

/-- A call whose arguments are pure, beside other things. -/
theorem AC.lift {P : Program} {G : Glob} {f : FuncId} {args : List AV} {r : AV} {h1 : List AO} (H : AC P G f args [] fun x h' => x = .ret r ∧ h' = h1) {h : List AO} (hv : belowL 0 args) (hr : nofn r = true) (hh : h1.all nofnO = true) :
    AC P G f args h fun x h' => x = .ret (shiftV h.length r) ∧ h' = h ++ h1.map (shiftO h.length) := by
  refine ⟨H.1, fun W S φ vs hH hA => ?_⟩
  have h0 : HRel G W S φ [] := ⟨fun id sz es e => by simp at e, fun id o e _ => by simp at e, fun id id' e => (live_nil e).elim, fun b hb => ⟨(hH.sep b hb).1, fun id e => (live_nil e).elim⟩, fun id hid => by simp at hid, hH.glob⟩
  refine (H.2 W _ φ vs h0 ⟨hA.1, fun j c v h1 h2 => ?_⟩).mono fun e W' ⟨x, S', φ', h', ⟨k0, k1⟩, k2, k3, k4⟩ => ?_
  · exact below_relS (fun b hb => hb) (belowL_get hv j c h1) (hA.2 j _ v h1 h2)
  subst k0; subst k1
  have hout : ∀ b, b < W.heap.size → W'.heap[b]? = W.heap[b]? := fun b hb => k4.out b hb fun id e => (live_nil e).elim
  have hlt : ∀ {id : Nat} {o : AO}, h[id]? = some o → id < h.length := fun e => (List.getElem?_eq_some_iff.1 e).1
  have himg : ∀ id, Live h' id → W.heap.size ≤ (φ' id).1 := fun id e => by
    rcases k4.img id e with h2 | ⟨id2, h2, _⟩
    · exact h2
    · exact (live_nil h2).elim
  have hφ : ∀ {i}, i < h.length → both h.length φ φ' i = φ i := fun hi => by simp [both, hi]
  have hφ' : ∀ i, both h.length φ φ' (h.length + i) = φ' i := fun i => both_add _ _ _ i
  have hget : ∀ {i o}, (h ++ h'.map (shiftO h.length))[i]? = some o → (i < h.length ∧ h[i]? = some o) ∨ (∃ k o', i = h.length + k ∧ h'[k]? = some o' ∧ o = shiftO h.length o') := fun {i o} e => by
    rcases Nat.lt_or_ge i h.length with hi | hi
    · rw [List.getElem?_append_left hi] at e; exact .inl ⟨hi, e⟩
    · rw [List.getElem?_append_right hi, List.getElem?_map, Option.map_eq_some_iff] at e
      obtain ⟨o, e2, e3⟩ := e
      exact .inr ⟨_, o, by omega, e2, e3.symm⟩
  have hsl : ∀ {o : AO}, (shiftO h.length o).live → o.live := fun {o} l => by cases o <;> exact l
  have hnew : ∀ b, S' b → S b ∨ W.heap.size ≤ b := fun b hb => by
    rcases k4.newS b hb with h2 | h2 | ⟨id, h2, _⟩
    · exact .inl h2
    · exact .inr h2
    · exact (live_nil h2).elim
  have K : Keep W S φ h W' S' (both h.length φ φ') (h ++ h'.map (shiftO h.length)) :=
    { pure := fun b hb => ⟨(k4.pure b hb).1, hout b (hH.sep b hb).1⟩, len := by simp, same := fun _ hid => hφ hid
      blk := fun id hid c t fr e => ⟨c, t, fr, by rw [← hout _ (hH.bnd id hid)]; exact e, rfl⟩
      os := k4.os, tape := k4.tape, output := k4.output, size := k4.size, out := fun b hb _ => hout b hb
      img := fun id ⟨o, e, l⟩ => by
        rcases hget e with ⟨hi, e'⟩ | ⟨k, o', rfl, e', rfl⟩
        · exact .inr ⟨id, ⟨_, e', l⟩, by rw [hφ hi]⟩
        · rw [hφ']; exact .inl (himg _ ⟨_, e', hsl l⟩)
      newS := fun b hb => (hnew b hb).elim .inl fun h2 => .inr (.inl h2) }
  have hlen : (h ++ h'.map (shiftO h.length)).length = h.length + h'.length := by simp
  refine ⟨.ret (shiftV h.length r), S', both h.length φ φ', _, ⟨rfl, rfl⟩, ⟨fun id sz es e => ?_, fun id o1 e lo => ?_, fun id id' ⟨o1, e1, l1⟩ ⟨o2, e2, l2⟩ he => ?_, fun b hb => ⟨(k2.sep b hb).1, fun id ⟨o1, e, l1⟩ he => ?_⟩, fun id hid => ?_, fun g cs hg => ?_⟩, ?_, K⟩
  · rcases hget e with ⟨hi, e'⟩ | ⟨k, o', rfl, e', eo⟩
    · obtain ⟨c, t, fr, a1, a2, a3, a4, a5⟩ := hH.obj id sz es e'
      refine ⟨c, t, fr, by rw [hφ hi, hout _ (hH.bnd id hi)]; exact a1, a2, a3, by rw [hφ hi]; exact a4, fun j u hj => ?_⟩
      obtain ⟨b1, v, b2, b3⟩ := a5 j u hj
      exact ⟨b1, v, by rw [hφ hi]; exact b2, b3.kept K.toKept⟩
    · obtain ⟨es', rfl, rfl⟩ : ∃ es', o' = .row sz es' ∧ es = es'.map (shiftL h.length) := by cases o' <;> cases eo; exact ⟨_, rfl, rfl⟩
      obtain ⟨c, t, fr, a1, a2, a3, a4, a5⟩ := k2.obj k sz es' e'
      refine ⟨c, t, fr, by rw [hφ']; exact a1, a2, fun e he => ?_, by rw [hφ']; simpa using a4, fun j u hj => ?_⟩
      · obtain ⟨e0, he0, rfl⟩ := List.mem_map.1 he
        rw [shiftL_map]; simpa using a3 e0 he0
      · have hfl : (es'.map (shiftL h.length)).flatten = es'.flatten.map (shiftV h.length) := by
          rw [List.map_flatten]; congr 1; exact List.map_congr_left fun l _ => shiftL_map _ l
        rw [hfl, List.getElem?_map, Option.map_eq_some_iff] at hj
        obtain ⟨u0, hj, rfl⟩ := hj
        obtain ⟨b1, v, b2, b3⟩ := a5 j u0 hj
        have hcl : nofn u0 = true := by
          have h3 := List.all_eq_true.1 hh _ (List.mem_of_getElem? e')
          simp only [nofnO] at h3
          obtain ⟨l, hl, hu⟩ := List.mem_flatten.1 (List.mem_of_getElem? hj)
          have h4 := List.all_eq_true.1 h3 l hl
          obtain ⟨q, hq⟩ := List.getElem?_of_mem hu
          exact nofnL_get h4 q u0 hq
        exact ⟨by rw [shift_isCell]; exact b1, v, by rw [hφ']; exact b2, by rw [hlen]; exact nofn_rel b3 hcl⟩
  · rcases hget e with ⟨hi, e'⟩ | ⟨k, o', rfl, e', eo⟩
    · rw [hφ hi, hout _ (hH.bnd id hi)]
      exact (hH.oobj id o1 e' lo).mono fun a v r => r.kept K.toKept
    · subst eo
      rw [hφ']
      have hq := k2.oobj k o' e' (hsl lo)
      cases o' with
      | dead => trivial
      | row sz es => trivial
      | sit t pos => exact hq
      | mp es' =>
        obtain ⟨ents, clock, a1, a2, a3, a4⟩ := hq
        refine ⟨ents, clock, a1, by simpa using a2, fun j k a hj => ?_, a4⟩
        rw [List.getElem?_map, Option.map_eq_some_iff] at hj
        obtain ⟨⟨k0, a0⟩, hj, hk⟩ := hj
        cases hk
        obtain ⟨x, c1, c2, c3⟩ := a3 j _ _ hj
        have hcl : nofn a0 = true := by
          have h3 := List.all_eq_true.1 hh _ (List.mem_of_getElem? e')
          simp only [nofnO] at h3
          exact List.all_eq_true.1 h3 _ (List.mem_of_getElem? hj)
        exact ⟨x, c1, c2, by rw [hlen]; exact nofn_rel c3 hcl⟩
  · rcases hget e1 with ⟨hi, e1'⟩ | ⟨k, _, rfl, e1', rfl⟩ <;> rcases hget e2 with ⟨hi', e2'⟩ | ⟨k', _, rfl, e2', rfl⟩
    · rw [hφ hi, hφ hi'] at he; exact hH.inj _ _ ⟨_, e1', l1⟩ ⟨_, e2', l2⟩ he
    · rw [hφ hi, hφ'] at he
      have := himg _ ⟨_, e2', hsl l2⟩
      have := hH.bnd id hi
      omega
    · rw [hφ hi', hφ'] at he
      have := himg _ ⟨_, e1', hsl l1⟩
      have := hH.bnd id' hi'
      omega
    · rw [hφ', hφ'] at he; rw [k2.inj _ _ ⟨_, e1', hsl l1⟩ ⟨_, e2', hsl l2⟩ he]
  · rcases hget e with ⟨hi, e'⟩ | ⟨k, _, rfl, e', rfl⟩
    · rw [hφ hi] at he
      rcases hnew b hb with h2 | h2
      · exact (hH.sep b h2).2 _ ⟨_, e', l1⟩ he
      · have := hH.bnd id hi
        omega
    · rw [hφ'] at he
      exact (k2.sep b hb).2 _ ⟨_, e', hsl l1⟩ he
  · rcases Nat.lt_or_ge id h.length with hi | hi
    · rw [hφ hi]; exact Nat.lt_of_lt_of_le (hH.bnd id hi) k4.size
    · have hid' : id - h.length < h'.length := by rw [hlen] at hid; omega
      have := hφ' (id - h.length)
      rw [show h.length + (id - h.length) = id by omega] at this
      rw [this]
      exact k2.bnd _ hid'
  · obtain ⟨g1, g2⟩ := hH.glob g cs hg
    refine ⟨(K.pure g g1).1, fun j c hj => ?_⟩
    obtain ⟨v, v1, v2⟩ := g2 j c hj
    exact ⟨v, by rw [cell?_of_heap (K.pure g g1).2]; exact v1, v2.mono K.pure⟩
  · cases k3 with
    | ret _ x hv => rw [hlen]; exact .ret _ _ (nofn_rel hv hr)
end Go.Aw
/-
  What data is of a type: inversion. No program.
-/
namespace Go.Aw
variable {P : Program}
def fieldTs (P : Program) (t : TypeId) : Option (List TypeId) := match P.underlying t with
  | some (.struct fs) => some (fs.toList.map (·.type))
  | _ => none
theorem conf_st {t : TypeId} {vs : List PV} {ts : List TypeId} (h : Conf P t vs) (hu : fieldTs P t = some ts) : ConfS P ts vs := by
  unfold fieldTs at hu
  cases h with
  | st vs e hs => rw [e] at hu; cases hu; exact hs
  | bool b e => rw [e] at hu; cases hu
  | int n e => rw [e] at hu; cases hu
  | str s e => rw [e] at hu; cases hu
  | sl es e => rw [e] at hu; cases hu
  | arr vs e => rw [e] at hu; cases hu
theorem conf_sl {t e : TypeId} {vs : List PV} (h : Conf P t vs) (hu : P.underlying t = some (.slice e)) : ∃ es, vs = [.lst (P.cellsOf e) es] ∧ ∀ x ∈ es, Conf P e x := by
  cases h with
  | sl es e' hl hs => rw [hu] at e'; cases e'; exact ⟨es, rfl, hs⟩
  | bool b e => rw [e] at hu; cases hu
  | int n e => rw [e] at hu; cases hu
  | str s e => rw [e] at hu; cases hu
  | st vs e => rw [e] at hu; cases hu
  | arr vs e => rw [e] at hu; cases hu
theorem conf_int {t : TypeId} {k : IntKind} {vs : List PV} (h : Conf P t vs) (hu : P.underlying t = some (.int k)) : ∃ n, vs = [.int k n] ∧ (Lit.int k n).wf = true := by
  cases h with
  | int n e hw => rw [hu] at e; cases e; exact ⟨n, rfl, hw⟩
  | sl es e => rw [e] at hu; cases hu
  | bool b e => rw [e] at hu; cases hu
  | str s e => rw [e] at hu; cases hu
  | st vs e => rw [e] at hu; cases hu
  | arr vs e => rw [e] at hu; cases hu
theorem conf_str {t : TypeId} {vs : List PV} (h : Conf P t vs) (hu : P.underlying t = some .string) : ∃ s, vs = [.str s] ∧ s.length ≤ maxLen := by
  cases h with
  | str s e hw => exact ⟨s, rfl, hw⟩
  | int n e => rw [e] at hu; cases hu
  | sl es e => rw [e] at hu; cases hu
  | bool b e => rw [e] at hu; cases hu
  | st vs e => rw [e] at hu; cases hu
  | arr vs e => rw [e] at hu; cases hu
theorem confS_cons {t : TypeId} {ts : List TypeId} {vs : List PV} (h : ConfS P (t :: ts) vs) : ∃ a b, vs = a ++ b ∧ Conf P t a ∧ ConfS P ts b := by
  cases h with
  | cons h1 h2 => exact ⟨_, _, rfl, h1, h2⟩
theorem confS_nil {vs : List PV} (h : ConfS P [] vs) : vs = [] := by cases h; rfl
theorem confs_cons {t : TypeId} {ts : List TypeId} {vss : List (List PV)} (h : Confs P (t :: ts) vss) : ∃ vs r, vss = vs :: r ∧ Conf P t vs ∧ Confs P ts r := by
  cases h with
  | cons h1 h2 => exact ⟨_, _, rfl, h1, h2⟩
theorem confs_nil {vss : List (List PV)} (h : Confs P [] vss) : vss = [] := by cases h; rfl
theorem list_of {α β : Type} (g : β → α) : ∀ {es : List α}, (∀ x ∈ es, ∃ m, x = g m) → ∃ ms : List β, es = ms.map g
  | [], _ => ⟨[], rfl⟩
  | e :: r, h => by
    obtain ⟨m, hm⟩ := h e (by simp)
    obtain ⟨ms, hms⟩ := list_of g (es := r) fun x hx => h x (by simp [hx])
    exact ⟨m :: ms, by simp [hm, hms]⟩
end Go.Aw
/-
  Slices that may be nil: one form for both. No program.
-/
namespace Go.Aw

def slE (id sz : Nat) (l : List (List AV)) : AV := if l = [] then .nils else .sl id sz 0 l.length
def rowE (sz : Nat) (l : List (List AV)) : AO := if l = [] then .dead else .row sz l
theorem slE_nil (id sz : Nat) : slE id sz [] = .nils := rfl
theorem rowE_nil (sz : Nat) : rowE sz [] = .dead := rfl
theorem slE_ne {id sz : Nat} {l : List (List AV)} (h : l ≠ []) : slE id sz l = .sl id sz 0 l.length := if_neg h
theorem rowE_ne {sz : Nat} {l : List (List AV)} (h : l ≠ []) : rowE sz l = .row sz l := if_neg h

/-! ### How long a slice is -/
def lenV : AV → Option AV
  | .p (.lst _ es) => some (.p (.int .i64 es.length))
  | .nils => some (.p (.int .i64 0))
  | .sl _ _ _ n => some (.p (.int .i64 n))
  | _ => none
section
variable {P : Program} {G : Glob} {d : Option Nat} {r : List CO} {ts : List AV} {h : List AO} {K : KT} {Qp : QP}
theorem ev_lenV (x : AOp) : ev G ts h (.len false x) = (lenV (x.ev ts)).map (·, h) := by
  show (un (.len false x) (x.ev ts)).map (·, h) = _
  cases x.ev ts <;> try rfl
  rename_i v; cases v <;> rfl
@[simp high] theorem rK_lenV (x : AOp) : rK P G (⟨d, none, .len false x⟩ :: r) ts h K Qp = nxt P G d r ts K Qp ((lenV (x.ev ts)).map (·, h)) := by
  rw [← ev_lenV (G := G)]; exact rK_ev _ rfl
@[simp] theorem lenV_p (sz : Nat) (es : List (List PV)) : lenV (.p (.lst sz es)) = some (.p (.int .i64 es.length)) := rfl
@[simp] theorem lenV_nils : lenV .nils = some (.p (.int .i64 0)) := rfl
@[simp] theorem lenV_sl (a b c n : Nat) : lenV (.sl a b c n) = some (.p (.int .i64 n)) := rfl
@[simp] theorem lenV_E (id sz : Nat) (l : List (List AV)) : lenV (slE id sz l) = some (.p (.int .i64 l.length)) := by
  by_cases e : l = []
  · subst e; rfl
  · rw [slE_ne e]; rfl
end
section
variable {G : Glob} {h : List AO} {id sz : Nat} {l : List (List AV)}

@[simp high] theorem un_len_E (o : AOp) : un (.len false o) (slE id sz l) = some (.p (.int .i64 l.length)) := by
  by_cases e : l = []
  · subst e; rfl
  · rw [slE_ne e]; rfl
@[simp high] theorem lenOf_E : lenOf (slE id sz l) = some l.length := by
  by_cases e : l = []
  · subst e; rfl
  · rw [slE_ne e]; rfl
@[simp high] theorem elems_E (he : h[id]? = some (rowE sz l)) : elems h sz (slE id sz l) = some l := by
  by_cases e : l = []
  · subst e; rfl
  · rw [slE_ne e]; rw [rowE_ne e] at he; simp [he]
@[simp high] theorem appR_E {b : Nat} {xs : List (List AV)} (he : h[id]? = some (rowE sz l)) (hx : xs ≠ []) :
    appR h sz b (some xs) (slE id sz l) = if (l.length + xs.length) * b ≤ 140737488355328 ∧ l.length + xs.length ≤ 140737488355328 then some (.sl h.length sz 0 (l.length + xs.length), h.set id .dead ++ [.row sz (l ++ xs)]) else none := by
  by_cases e : l = []
  · subst e
    have : h.set id .dead = h := by
      refine List.ext_getElem? fun i => ?_
      rw [List.getElem?_set]
      split
      · rename_i hi; subst hi
        split
        · exact he.symm
        · rename_i hl; rw [List.getElem?_eq_none (by omega)]
      · rfl
    rw [slE_nil, appR_nils, this]; simp [hx]
  · rw [slE_ne e, appR_sl]; rw [rowE_ne e] at he; simp [he]
@[simp high] theorem idxR_E (esz : Nat) (k : IntKind) (n : Int) : idxR h esz (slE id sz l) (.p (.int k n)) = if l ≠ [] ∧ sz = esz ∧ 0 ≤ n ∧ n < l.length then some (.ptr id esz n.toNat 0, h) else none := by
  by_cases e : l = []
  · subst e; rfl
  · rw [slE_ne e, idxR_sl]; simp [e]
@[simp high] theorem rdCells_E {esz i off : Nat} (he : h[id]? = some (rowE sz l)) : rdCells G h (.ptr id esz i off) = if sz = esz then (l[i]?).map (·, off) else none := by
  by_cases e : l = []
  · subst e
    simp only [rdCells, he, rowE_nil]; simp
  · rw [rowE_ne e] at he
    simp only [rdCells, he]
@[simp] theorem below_E {m : Nat} (hi : id < m) : below m (slE id sz l) := by
  by_cases e : l = []
  · subst e; trivial
  · rw [slE_ne e]; exact hi
@[simp] theorem ren_E {ρ : List Nat} : ren ρ (slE id sz l) = slE (ρ.getD id 0) sz l := by
  by_cases e : l = []
  · subst e; rfl
  · rw [slE_ne e, slE_ne e]; rfl
@[simp] theorem slE_app (xs : List (List AV)) (hx : xs ≠ []) : slE id sz (l ++ xs) = .sl id sz 0 (l.length + xs.length) := by
  rw [slE_ne (by simp [hx])]; simp
@[simp] theorem rowE_app (xs : List (List AV)) (hx : xs ≠ []) : rowE sz (l ++ xs) = .row sz (l ++ xs) := rowE_ne (by simp [hx])
@[simp high] theorem isCell_E : (slE id sz l).isCell = true := by
  by_cases e : l = []
  · subst e; rfl
  · rw [slE_ne e]; rfl
@[simp high] theorem cells_E : (slE id sz l).cells = [slE id sz l] := by
  by_cases e : l = []
  · subst e; rfl
  · rw [slE_ne e]; rfl
end
attribute [simp ↓] isCell_E cells_E un_len_E lenOf_E elems_E rdCells_E
theorem okO_E {sz : Nat} {l : List (List AV)} (h : ∀ x ∈ l, belowL 0 x) : okO 0 (rowE sz l) := by
  by_cases e : l = []
  · subst e; trivial
  · rw [rowE_ne e]; exact h
theorem hw_rowE {ρ : List Nat} {h : List AO} {i sz : Nat} {l : List (List AV)} {π : List Nat} {r1 : List AO} (e : h[i]? = some (rowE sz l)) (ho : ∀ x ∈ l, belowL 0 x) (hr : HW ρ h π r1) : HW ρ h (i :: π) (rowE sz l :: r1) :=
  hw_ok e (okO_E ho) hr
theorem view_E {h : List AO} {id sz : Nat} {ls : List (List PV)} (e : h[id]? = some (rowE sz (ls.map (·.map .p)))) (hl : ∀ l ∈ ls, l.length = sz) : View h (slE id sz (ls.map (·.map .p))) (.lst sz ls) := by
  by_cases e2 : ls = []
  · subst e2; exact View.nils sz
  · have e3 : ls.map (·.map AV.p) ≠ [] := by simpa using e2
    rw [rowE_ne e3] at e
    rw [slE_ne e3, List.length_map]
    exact view_row e rfl hl
end Go.Aw
