/-
  Lending to a function that hands back what it has made. No program.
-/
import Derived.Test.YtbbobekgnclkfaaDoorL5
namespace Go.Aw

mutual
/-- No reference to what was lent. -/
def clean : AV → Bool
  | .p (.lst _ []) => true
  | .p (.lst _ _) => false
  | .p _ => true
  | .agg cs => cleanL cs
  | .tup cs => cleanL cs
  | .ptr .. => true
  | .sl .. => true
  | .mp .. => true
  | .it .. => true
  | .gp .. => true
  | .nils | .nilp | .nilf | .nilm | .nili => true
  | .any => true
  | _ => false
def cleanL : List AV → Bool
  | [] => true
  | v :: r => clean v && cleanL r
end

mutual
def shiftV (n : Nat) : AV → AV
  | .ptr id g i o => .ptr (n + id) g i o
  | .sl id g o l => .sl (n + id) g o l
  | .mp id => .mp (n + id)
  | .it id => .it (n + id)
  | .agg cs => .agg (shiftL n cs)
  | .tup cs => .tup (shiftL n cs)
  | v => v
def shiftL (n : Nat) : List AV → List AV
  | [] => []
  | v :: r => shiftV n v :: shiftL n r
end
def shiftO (n : Nat) : AO → AO
  | .row sz es => .row sz (es.map (shiftL n))
  | .mp es => .mp (es.map fun x => (x.1, shiftV n x.2))
  | .sit s pos => .sit s pos
  | .dead => .dead

theorem shiftL_map (n : Nat) : ∀ l : List AV, shiftL n l = l.map (shiftV n)
  | [] => rfl
  | v :: r => by simp [shiftL, shiftL_map n r]
theorem cleanL_get : ∀ {l : List AV}, cleanL l = true → ∀ (j : Nat) (c : AV), l[j]? = some c → clean c = true
  | v :: r, h, 0, c, e => by simp at e; subst e; simp [cleanL] at h; exact h.1
  | v :: r, h, j + 1, c, e => by simp [cleanL] at h; exact cleanL_get h.2 j c (by simpa using e)
theorem shift_isCell (n : Nat) (v : AV) : (shiftV n v).isCell = v.isCell := by cases v <;> rfl

def cleanO : AO → Bool
  | .row _ es => es.all cleanL
  | .mp es => es.all fun x => clean x.2
  | .sit .. => true
  | .dead => true

/-- Side by side. -/
def both (n : Nat) (φ φ' : Place) : Place := fun i => if i < n then φ i else φ' (i - n)

theorem both_add (n : Nat) (φ φ' : Place) (i : Nat) : both n φ φ' (n + i) = φ' i := by
  unfold both; rw [if_neg (by omega), Nat.add_sub_cancel_left]

theorem clean_rel {W : World} {S S' : Nat → Prop} {φ φ' : Place} {n m : Nat} : ∀ {v : AV} {x : Value}, VRel W S' φ' m v x → clean v = true → VRel W S (both n φ φ') (n + m) (shiftV n v) x := by
  intro v x h
  induction h with
  | p pv x hp =>
    intro hc
    cases hp with
    | bool b => exact .p _ _ (.bool b)
    | int k n => exact .p _ _ (.int k n)
    | str s => exact .p _ _ (.str s)
    | lst0 sz a cap => exact .p _ _ (.lst0 sz a cap)
    | lst sz es b off cap vs _ _ _ _ _ =>
      cases es with
      | nil => exact .p _ _ (.lst0 _ _ _)
      | cons e r => simp [clean] at hc
  | agg cs vs hs _ ih =>
    intro hc
    simp only [clean] at hc
    simp only [shiftV, shiftL_map]
    refine .agg _ vs (by simp [hs]) fun j c y h1 h2 => ?_
    simp only [List.getElem?_map, Option.map_eq_some_iff] at h1
    obtain ⟨c0, h1, rfl⟩ := h1
    exact ih j c0 y h1 h2 (cleanL_get hc j c0 h1)
  | tup cs vs hs _ ih =>
    intro hc
    simp only [clean] at hc
    simp only [shiftV, shiftL_map]
    refine .tup _ vs (by simp [hs]) fun j c y h1 h2 => ?_
    simp only [List.getElem?_map, Option.map_eq_some_iff] at h1
    obtain ⟨c0, h1, rfl⟩ := h1
    exact ih j c0 y h1 h2 (cleanL_get hc j c0 h1)
  | ptr id esz i off hid =>
    intro _
    have := VRel.ptr (W := W) (S := S) (φ := both n φ φ') (n := n + m) (n + id) esz i off (by omega)
    rw [both_add] at this; exact this
  | sl id esz off len cap ba hid hl hb hc =>
    intro _
    have := VRel.sl (W := W) (S := S) (φ := both n φ φ') (n := n + m) (n + id) esz off len cap ba (by omega) hl (by rw [both_add]; exact hb) (by rw [both_add]; exact hc)
    simpa [shiftV] using this
  | mp id hid =>
    intro _
    have := VRel.mp (W := W) (S := S) (φ := both n φ φ') (n := n + m) (n + id) (by omega)
    rw [both_add] at this; exact this
  | it id hid =>
    intro _
    have := VRel.it (W := W) (S := S) (φ := both n φ φ') (n := n + m) (n + id) (by omega)
    rw [both_add] at this; exact this
  | gp g off => intro _; exact .gp g off
  | nils => intro _; exact .nils
  | nilp => intro _; exact .nilp
  | nilf => intro _; exact .nilf
  | nilm => intro _; exact .nilm
  | nili => intro _; exact .nili
  | any x => intro _; exact .any x
  | eptr => intro hc; simp [clean] at hc
  | fn => intro hc; simp [clean] at hc
  | ifc => intro hc; simp [clean] at hc

/-- LENDING, with a result of the callee's own making. -/
theorem AC.lend {P : Program} {G : Glob} {f : FuncId} {args pargs : List AV} {r : AV} {h1 : List AO} (H : AC P G f pargs [] fun x h' => x = .ret r ∧ h' = h1) {h : List AO} (hv : Views h args pargs) (hr : clean r = true) (hh : h1.all cleanO = true) :
    AC P G f args h fun x h' => x = .ret (shiftV h.length r) ∧ h' = h ++ h1.map (shiftO h.length) := by
  refine ⟨H.1, fun W S φ vs hH hA => ?_⟩
  have h0 : HRel G W (fun b => S b ∨ Owned φ h b) φ [] := ⟨fun id sz es e => by simp at e, fun id o e _ => by simp at e, fun id id' e => (live_nil e).elim, fun b hb => ⟨by
      rcases hb with hb | ⟨id, e, he⟩
      · exact (hH.sep b hb).1
      · rw [← he]; exact hH.bnd id e.lt, fun id e => (live_nil e).elim⟩, fun id hid => by simp at hid, fun g cs hg => by
      obtain ⟨g1, g2⟩ := hH.glob g cs hg
      exact ⟨.inl g1, fun j c hj => by obtain ⟨v, k1, k2⟩ := g2 j c hj; exact ⟨v, k1, k2.mono fun b hb => ⟨.inl hb, rfl⟩⟩⟩⟩
  refine (H.2 W _ φ vs h0 ⟨by rw [hA.1, hv.len], fun j c v h1 h2 => ?_⟩).mono fun e W' ⟨x, S', φ', h', ⟨k0, k1⟩, k2, k3, k4⟩ => ?_
  · have hj : j < vs.size := (Array.getElem?_eq_some_iff.1 h2).1
    have hjl : j < args.length := by rw [← hA.1]; exact hj
    exact hv.rel hH j _ c v (List.getElem?_eq_getElem hjl) h1 (hA.2 j _ v (List.getElem?_eq_getElem hjl) h2)
  subst k0; subst k1
  have hout : ∀ b, b < W.heap.size → W'.heap[b]? = W.heap[b]? := fun b hb => k4.out b hb fun id e => (live_nil e).elim
  have hlt : ∀ {id : Nat} {o : AO}, h[id]? = some o → id < h.length := fun e => (List.getElem?_eq_some_iff.1 e).1
  have himg : ∀ id, Live h' id → W.heap.size ≤ (φ' id).1 := fun id e => by
    rcases k4.img id e with h2 | ⟨id2, h2, _⟩
    · exact h2
    · exact (live_nil h2).elim
  have hφ : ∀ {i}, i < h.length → both h.length φ φ' i = φ i := fun hi => by simp [both, hi]
  have hφ' : ∀ i, both h.length φ φ' (h.length + i) = φ' i := fun i => both_add _ _ _ i
  have hget : ∀ {i o}, (h ++ h'.map (shiftO h.length))[i]? = some o → (i < h.length ∧ h[i]? = some o) ∨ (∃ k o', i = h.length + k ∧ h'[k]? = some o' ∧ o = shiftO h.length o') := fun {i o} e => by
    rcases Nat.lt_or_ge i h.length with hi | hi
    · rw [List.getElem?_append_left hi] at e; exact .inl ⟨hi, e⟩
    · rw [List.getElem?_append_right hi, List.getElem?_map, Option.map_eq_some_iff] at e
      obtain ⟨o, e2, e3⟩ := e
      exact .inr ⟨_, o, by omega, e2, e3.symm⟩
  have hsl : ∀ {o : AO}, (shiftO h.length o).live → o.live := fun {o} l => by cases o <;> exact l
  have K : Keep W S φ h W' S (both h.length φ φ') (h ++ h'.map (shiftO h.length)) :=
    { pure := fun b hb => ⟨hb, hout b (hH.sep b hb).1⟩, len := by simp, same := fun _ hid => hφ hid
      blk := fun id hid c t fr e => ⟨c, t, fr, by rw [← hout _ (hH.bnd id hid)]; exact e, rfl⟩
      os := k4.os, tape := k4.tape, output := k4.output, size := k4.size, out := fun b hb _ => hout b hb
      img := fun id ⟨o, e, l⟩ => by
        rcases hget e with ⟨hi, e'⟩ | ⟨k, o', rfl, e', rfl⟩
        · exact .inr ⟨id, ⟨_, e', l⟩, by rw [hφ hi]⟩
        · rw [hφ']; exact .inl (himg _ ⟨_, e', hsl l⟩)
      newS := fun b hb => .inl hb }
  have hlen : (h ++ h'.map (shiftO h.length)).length = h.length + h'.length := by simp
  refine ⟨.ret (shiftV h.length r), S, both h.length φ φ', _, ⟨rfl, rfl⟩, ⟨fun id sz es e => ?_, fun id o1 e lo => ?_, fun id id' ⟨o1, e1, l1⟩ ⟨o2, e2, l2⟩ he => ?_, fun b hb => ⟨Nat.lt_of_lt_of_le (hH.sep b hb).1 k4.size, fun id ⟨o1, e, l1⟩ he => ?_⟩, fun id hid => ?_, fun g cs hg => ?_⟩, ?_, K⟩
  · rcases hget e with ⟨hi, e'⟩ | ⟨k, o', rfl, e', eo⟩
    · obtain ⟨c, t, fr, a1, a2, a3, a4, a5⟩ := hH.obj id sz es e'
      refine ⟨c, t, fr, by rw [hφ hi, hout _ (hH.bnd id hi)]; exact a1, a2, a3, by rw [hφ hi]; exact a4, fun j u hj => ?_⟩
      obtain ⟨b1, v, b2, b3⟩ := a5 j u hj
      exact ⟨b1, v, by rw [hφ hi]; exact b2, b3.kept K.toKept⟩
    · obtain ⟨es', rfl, rfl⟩ : ∃ es', o' = .row sz es' ∧ es = es'.map (shiftL h.length) := by cases o' <;> cases eo; exact ⟨_, rfl, rfl⟩
      obtain ⟨c, t, fr, a1, a2, a3, a4, a5⟩ := k2.obj k sz es' e'
      refine ⟨c, t, fr, by rw [hφ']; exact a1, a2, fun e he => ?_, by rw [hφ']; simpa using a4, fun j u hj => ?_⟩
      · obtain ⟨e0, he0, rfl⟩ := List.mem_map.1 he
        rw [shiftL_map]; simpa using a3 e0 he0
      · have hfl : (es'.map (shiftL h.length)).flatten = es'.flatten.map (shiftV h.length) := by
          rw [List.map_flatten]; congr 1; exact List.map_congr_left fun l _ => shiftL_map _ l
        rw [hfl, List.getElem?_map, Option.map_eq_some_iff] at hj
        obtain ⟨u0, hj, rfl⟩ := hj
        obtain ⟨b1, v, b2, b3⟩ := a5 j u0 hj
        have hcl : clean u0 = true := by
          have h3 := List.all_eq_true.1 hh _ (List.mem_of_getElem? e')
          simp only [cleanO] at h3
          obtain ⟨l, hl, hu⟩ := List.mem_flatten.1 (List.mem_of_getElem? hj)
          have h4 := List.all_eq_true.1 h3 l hl
          obtain ⟨q, hq⟩ := List.getElem?_of_mem hu
          exact cleanL_get h4 q u0 hq
        exact ⟨by rw [shift_isCell]; exact b1, v, by rw [hφ']; exact b2, by rw [hlen]; exact clean_rel b3 hcl⟩
  · rcases hget e with ⟨hi, e'⟩ | ⟨k, o', rfl, e', eo⟩
    · rw [hφ hi, hout _ (hH.bnd id hi)]
      exact (hH.oobj id o1 e' lo).mono fun a v r => r.kept K.toKept
    · subst eo
      rw [hφ']
      have hq := k2.oobj k o' e' (hsl lo)
      cases o' with
      | dead => trivial
      | row sz es => trivial
      | sit t pos => exact hq
      | mp es' =>
        obtain ⟨ents, clock, a1, a2, a3, a4⟩ := hq
        refine ⟨ents, clock, a1, by simpa using a2, fun j k a hj => ?_, a4⟩
        rw [List.getElem?_map, Option.map_eq_some_iff] at hj
        obtain ⟨⟨k0, a0⟩, hj, hk⟩ := hj
        cases hk
        obtain ⟨x, c1, c2, c3⟩ := a3 j _ _ hj
        have hcl : clean a0 = true := by
          have h3 := List.all_eq_true.1 hh _ (List.mem_of_getElem? e')
          simp only [cleanO] at h3
          exact List.all_eq_true.1 h3 _ (List.mem_of_getElem? hj)
        exact ⟨x, c1, c2, by rw [hlen]; exact clean_rel c3 hcl⟩
  · rcases hget e1 with ⟨hi, e1'⟩ | ⟨k, _, rfl, e1', rfl⟩ <;> rcases hget e2 with ⟨hi', e2'⟩ | ⟨k', _, rfl, e2', rfl⟩
    · rw [hφ hi, hφ hi'] at he; exact hH.inj _ _ ⟨_, e1', l1⟩ ⟨_, e2', l2⟩ he
    · rw [hφ hi, hφ'] at he
      have := himg _ ⟨_, e2', hsl l2⟩
      have := hH.bnd id hi
      omega
    · rw [hφ hi', hφ'] at he
      have := himg _ ⟨_, e1', hsl l1⟩
      have := hH.bnd id' hi'
      omega
    · rw [hφ', hφ'] at he; rw [k2.inj _ _ ⟨_, e1', hsl l1⟩ ⟨_, e2', hsl l2⟩ he]
  · rcases hget e with ⟨hi, e'⟩ | ⟨k, _, rfl, e', rfl⟩
    · rw [hφ hi] at he; exact (hH.sep b hb).2 _ ⟨_, e', l1⟩ he
    · rw [hφ'] at he
      have := himg _ ⟨_, e', hsl l1⟩
      have := (hH.sep b hb).1
      omega
  · rcases Nat.lt_or_ge id h.length with hi | hi
    · rw [hφ hi]; exact Nat.lt_of_lt_of_le (hH.bnd id hi) k4.size
    · have hid' : id - h.length < h'.length := by rw [hlen] at hid; omega
      have := hφ' (id - h.length)
      rw [show h.length + (id - h.length) = id by omega] at this
      rw [this]
      exact k2.bnd _ hid'
  · obtain ⟨g1, g2⟩ := hH.glob g cs hg
    refine ⟨g1, fun j c hj => ?_⟩
    obtain ⟨v, v1, v2⟩ := g2 j c hj
    exact ⟨v, by rw [cell?_of_heap (K.pure g g1).2]; exact v1, v2.mono K.pure⟩
  · cases k3 with
    | ret _ x hv => rw [hlen]; exact .ret _ _ (clean_rel hv hr)
end Go.Aw
/-
  What a function has made, handed back as pure data. No program.
-/
namespace Go.Aw

/-- FREEZING. -/
theorem AC.freeze {P : Program} {G : Glob} {f : FuncId} {args : List AV} {r r' : AV} {h1 : List AO} (H : AC P G f args [] fun x h' => x = .ret r ∧ h' = h1) (hv : Views h1 [r] [r']) : VF P G f args r' := by
  refine ⟨H.1, fun W S φ vs hH hA => ?_⟩
  refine (H.2 W S φ vs hH hA).mono fun e W' ⟨x, S', φ', h', ⟨k0, k1⟩, k2, k3, k4⟩ => ?_
  subst k0; subst k1
  have himg : ∀ b, Owned φ' h' b → W.heap.size ≤ b := fun b ⟨id, e, he⟩ => by
    rcases k4.img id e with h2 | ⟨id2, h2, _⟩
    · omega
    · exact (live_nil h2).elim
  refine ⟨.ret r', (fun b => S' b ∨ Owned φ' h' b), φ', [], rfl, ⟨fun id sz es e => by simp at e, fun id o e _ => by simp at e, fun id id' e => (live_nil e).elim, fun b hb => ⟨by
      rcases hb with hb | ⟨id, e, he⟩
      · exact (k2.sep b hb).1
      · rw [← he]; exact k2.bnd id e.lt, fun id e => (live_nil e).elim⟩, fun id hid => by simp at hid, fun g cs hg => by
      obtain ⟨g1, g2⟩ := k2.glob g cs hg
      exact ⟨.inl g1, fun j c hj => by obtain ⟨v, q1, q2⟩ := g2 j c hj; exact ⟨v, q1, q2.mono fun b hb => ⟨.inl hb, rfl⟩⟩⟩⟩, ?_, ?_⟩
  · cases k3 with
    | ret _ x hx => exact .ret _ _ (hv.rel k2 0 r r' x rfl rfl hx)
  · exact { pure := fun b hb => ⟨.inl (k4.pure b hb).1, (k4.pure b hb).2⟩, len := Nat.le_refl _, same := fun id hid => by simp at hid
            blk := fun id hid => by simp at hid
            os := k4.os, tape := k4.tape, output := k4.output, size := k4.size, out := k4.out
            img := fun id e => (live_nil e).elim
            newS := fun b hb => by
              rcases hb with hb | hb
              · exact k4.newS b hb
              · exact .inr (.inl (himg b hb)) }
end Go.Aw
/-
  At a loop's head: the first n objects are kept as they are. No program.
-/
namespace Go.Aw

theorem ren_range (n : Nat) : ∀ v : AV, below n v → ren (List.range n) v = v := by
  have key : ∀ (m : Nat), (∀ v : AV, SizeOf.sizeOf v < m → below n v → ren (List.range n) v = v) ∧ (∀ l : List AV, SizeOf.sizeOf l < m → belowL n l → renL (List.range n) l = l) := by
    intro m
    induction m with
    | zero => exact ⟨fun v h => by omega, fun l h => by omega⟩
    | succ m ih =>
      refine ⟨fun v hs hb => ?_, fun l hs hb => ?_⟩
      · cases v <;> simp only [ren, below] at hb ⊢ <;> first | rfl | (rw [ih.2 _ (by simp at hs; omega) hb]) | (simp [List.getD_eq_getElem?_getD, hb])
      · cases l with
        | nil => rfl
        | cons v r => simp only [renL]; rw [ih.1 v (by simp at hs; omega) hb.1, ih.2 r (by simp at hs; omega) hb.2]
  exact fun v => (key _).1 v (Nat.lt_succ_self _)
theorem renL_range (n : Nat) : ∀ l : List AV, belowL n l → renL (List.range n) l = l
  | [], _ => rfl
  | v :: r, h => by simp only [renL]; rw [ren_range n v h.1, renL_range n r h.2]

/-- The first n objects are kept. -/
def Fst (n : Nat) (h h1 : List AO) : Prop := h1.length = n ∧ n ≤ h.length ∧ (∀ (i : Nat) (sz : Nat) (es : List (List AV)), h1[i]? = some (.row sz es) → h[i]? = some (.row sz es) ∧ ∀ e ∈ es, belowL n e) ∧
  (∀ (i : Nat) (es : List (PV × AV)), h1[i]? = some (.mp es) → h[i]? = some (.mp es) ∧ ∀ e ∈ es, below n e.2) ∧
  ∀ (i : Nat) (s : List UInt8) (pos : Nat), h1[i]? = some (.sit s pos) → h[i]? = some (.sit s pos)

theorem wk_fst_nd {k n : Nat} {ts ts1 : List AV} {h h1 : List AO} (hk : k ≤ n) (HF : Fst n h h1) (HT : Fgt n ts ts1) : ∃ ρ : List Nat, k ≤ ρ.length ∧ (∀ i, i < k → ρ.getD i 0 = i) ∧ ρ.Nodup ∧ TW ρ ts ts1 ∧ HW ρ h ρ h1 := by
  obtain ⟨f1, f2, f3, f4, f5⟩ := HF
  refine ⟨List.range n, by simpa using hk, fun i hi => by simp [List.getD_eq_getElem?_getD, show i < n by omega], List.nodup_range, ?_, ?_⟩
  · revert HT
    induction ts generalizing ts1 with
    | nil => intro H; cases ts1 <;> first | exact trivial | exact H.elim
    | cons v r ih =>
      intro H
      cases ts1 with
      | nil => exact H.elim
      | cons v1 r1 =>
        refine ⟨?_, ih H.2⟩
        rcases H.1 with h | ⟨h1, h2⟩
        · exact .inl h
        · exact .inr ⟨by simpa using h1, by rw [← h2]; exact ren_range n v1 h1⟩
  · have key : ∀ (m a : Nat) (l : List AO), a + m = n → l.length = m → (∀ i, l[i]? = h1[a + i]?) → HW (List.range n) h (List.range' a m) l := by
      intro m
      induction m with
      | zero => intro a l _ hl _; have : l = [] := List.length_eq_zero_iff.1 hl; subst this; exact trivial
      | succ m ih =>
        intro a l ha hl hg
        match l, hl with
        | o :: r, hl =>
          refine ⟨by omega, ?_, ih (a + 1) r (by omega) (by simpa using hl) (fun i => by have := hg (i + 1); simp at this; rw [this]; congr 1; omega)⟩
          have h0 := hg 0
          simp at h0
          cases o with
          | dead => exact trivial
          | row sz es =>
            obtain ⟨g1, g2⟩ := f3 a sz es h0.symm
            refine ⟨fun e he => by simpa using g2 e he, ?_⟩
            rw [g1]
            congr 2
            symm
            rw [List.map_congr_left (g := id) fun e he => renL_range n e (g2 e he)]
            simp
          | sit t pos => exact f5 a t pos h0.symm
          | mp es =>
            obtain ⟨g1, g2⟩ := f4 a es h0.symm
            refine ⟨fun e he => by simpa using g2 e he, ?_⟩
            rw [g1]
            congr 2
            symm
            rw [List.map_congr_left (g := id) fun e he => by simp [ren_range n e.2 (g2 e he)]]
            simp
    rw [List.range_eq_range']
    have := key n 0 h1 (by omega) f1 (fun i => by simp)
    rwa [List.range_eq_range'] at this
theorem wk_fst {k n : Nat} {ts ts1 : List AV} {h h1 : List AO} (hk : k ≤ n) (HF : Fst n h h1) (HT : Fgt n ts ts1) : Wk k ts h ts1 h1 := by
  obtain ⟨ρ, a, b, c, d, e⟩ := wk_fst_nd hk HF HT
  exact Wk.of ρ a b c d e

/-! ### A row that is filled from the left -/
theorem fill_get {α : Type} {l : List α} {z : α} {i n : Nat} (hn : l.length = n) (h : i < n) : (l.take i ++ List.replicate (n - i) z)[i]? = some z := by
  have : (l.take i).length = i := by simp; omega
  rw [List.getElem?_append_right (by omega), this, Nat.sub_self, List.getElem?_replicate, if_pos (by omega)]
theorem fill_set {α : Type} {l : List α} {z v : α} {i n : Nat} (hn : l.length = n) (h : i < n) (hv : l[i]? = some v) : (l.take i ++ List.replicate (n - i) z).set i v = l.take (i + 1) ++ List.replicate (n - (i + 1)) z := by
  have hl : (l.take i).length = i := by simp; omega
  rw [List.set_append_right _ _ (by omega), hl, Nat.sub_self]
  have e : n - i = (n - (i + 1)) + 1 := by omega
  rw [e, List.replicate_succ, List.set_cons_zero, List.take_add_one, hv]
  simp

/-- One own row, whose cells have no references. -/
theorem fst_row {n sz : Nat} {es es1 : List (List AV)} {h : List AO} (hn : n = 1) (e : es1 = es) (hp : ∀ x ∈ es1, belowL n x) : Fst n (.row sz es :: h) [.row sz es1] := by
  subst hn; subst e
  refine ⟨rfl, by simp, fun i s q hq => ?_, fun i q hq => ?_, fun i t p hq => ?_⟩
  · cases i with
    | zero => simp at hq; obtain ⟨rfl, rfl⟩ := hq; exact ⟨rfl, hp⟩
    | succ i => simp at hq
  · cases i <;> simp at hq
  · cases i <;> simp at hq

/-- A whole row of pure cells, read. -/
theorem view_row {h : List AO} {id sz n : Nat} {ls : List (List PV)} (he : h[id]? = some (.row sz (ls.map (·.map .p)))) (hn : n = ls.length) (hs : ∀ l ∈ ls, l.length = sz) : View h (.sl id sz 0 n) (.lst sz ls) := by
  subst hn
  refine .sl id sz 0 _ ls he (by simp) hs fun i j e q e' a h1 h2 h3 h4 => ?_
  simp only [Nat.zero_add, List.getElem?_map, h1, Option.map_some, Option.some.injEq] at h3
  subst h3
  simp only [List.getElem?_map, h2, Option.map_some, Option.some.injEq] at h4
  subst h4
  exact .p q
end Go.Aw
/-
  What a call leaves: objects forgotten or named anew; what holds of every heap. No program.
-/
namespace Go.Aw
section
variable {P : Program} {G : Glob}

/-- A result and objects, some forgotten, the others named anew. -/
def WkR (k : Nat) (v : AV) (h : List AO) (v1 : AV) (h1 : List AO) : Prop :=
  ∃ ρ : List Nat, k ≤ ρ.length ∧ (∀ i, i < k → ρ.getD i 0 = i) ∧ ρ.Nodup ∧ below ρ.length v1 ∧ ren ρ v1 = v ∧ HW ρ h ρ h1

theorem wk_of_wkr {k : Nat} {v v1 : AV} {h h1 : List AO} (w : WkR k v h v1 h1) : Wk k [v] h [v1] h1 := by
  obtain ⟨ρ, r1, r2, r3, r4, r5, r6⟩ := w
  exact Wk.of ρ r1 r2 r3 ⟨.inr ⟨r4, r5⟩, trivial⟩ r6

theorem AC.gc {f : FuncId} {args : List AV} {h : List AO} {R R' : ARes → List AO → Prop} (H : AC P G f args h R) (hp : ∀ t v h', R (.pan t v) h' → R' (.pan t v) h')
    (hw : ∀ v h', R (.ret v) h' → ∃ v1 h1, WkR h.length v h' v1 h1 ∧ R' (.ret v1) h1) : AC P G f args h R' := by
  refine ⟨H.1, fun W S φ vs hH hA => (H.2 W S φ vs hH hA).mono fun e W' ⟨r, S', φ', h', k1, k2, k3, k4⟩ => ?_⟩
  cases r with
  | pan t v => exact ⟨_, S', φ', h', hp t v h' k1, k2, k3, k4⟩
  | ret v =>
    cases k3 with
    | ret _ x hv =>
      obtain ⟨v1, h1, w, hr⟩ := hw v h' k1
      have s : St G W S φ h W' S' φ' { tmps := #[x], defers := [] } [v] h' := ⟨k2, ⟨rfl, fun i u hi => by
        cases i with
        | zero => simp at hi; subst hi; exact hv
        | succ i => simp at hi⟩, rfl, k4⟩
      obtain ⟨φ1, s1⟩ := s.wk (wk_of_wkr w)
      exact ⟨.ret v1, S', φ1, h1, hr, s1.hrel, .ret _ _ (s1.trel.get 0 v1 rfl), s1.keep⟩

/-- What holds of every heap that is. -/
theorem VRel.isBelow {W : World} {S : Nat → Prop} {φ : Place} {n : Nat} {v : AV} {x : Value} (h : VRel W S φ n v x) : Aw.below n v := by
  induction h with
  | agg cs vs hs hc ih =>
    simp only [Aw.below]
    have : ∀ (l : List AV), (∀ c ∈ l, Aw.below n c) → belowL n l := by
      intro l; induction l with
      | nil => intro _; trivial
      | cons a r ih => intro h; exact ⟨h a (by simp), ih fun c hc => h c (by simp [hc])⟩
    refine this _ fun c hc' => ?_
    obtain ⟨j, hj⟩ := List.getElem?_of_mem hc'
    have hl := (List.getElem?_eq_some_iff.1 hj).1
    exact ih j c _ hj (Array.getElem?_eq_getElem (by omega))
  | tup cs vs hs hc ih =>
    simp only [Aw.below]
    have : ∀ (l : List AV), (∀ c ∈ l, Aw.below n c) → belowL n l := by
      intro l; induction l with
      | nil => intro _; trivial
      | cons a r ih => intro h; exact ⟨h a (by simp), ih fun c hc => h c (by simp [hc])⟩
    refine this _ fun c hc' => ?_
    obtain ⟨j, hj⟩ := List.getElem?_of_mem hc'
    have hl := (List.getElem?_eq_some_iff.1 hj).1
    exact ih j c _ hj (Array.getElem?_eq_getElem (by omega))
  | fn f cs vs hs hc ih =>
    simp only [Aw.below]
    have : ∀ (l : List AV), (∀ c ∈ l, Aw.below n c) → belowL n l := by
      intro l; induction l with
      | nil => intro _; trivial
      | cons a r ih => intro h; exact ⟨h a (by simp), ih fun c hc => h c (by simp [hc])⟩
    refine this _ fun c hc' => ?_
    obtain ⟨j, hj⟩ := List.getElem?_of_mem hc'
    have hl := (List.getElem?_eq_some_iff.1 hj).1
    exact ih j c _ hj (Array.getElem?_eq_getElem (by omega))
  | ptr _ _ _ _ hid => exact hid
  | sl _ _ _ _ _ _ hid => exact hid
  | mp _ hid => exact hid
  | it _ hid => exact hid
  | _ => trivial

/-- Rows that are well formed: elements of one size, single cells, references to objects that are. -/
def HB (h : List AO) : Prop :=
  (∀ (i sz : Nat) (es : List (List AV)), h[i]? = some (.row sz es) → ∀ e ∈ es, e.length = sz ∧ belowL h.length e ∧ e.all AV.isCell = true) ∧
  ∀ (i : Nat) (es : List (PV × AV)), h[i]? = some (.mp es) → ∀ e ∈ es, below h.length e.2

theorem HRel.hb {W : World} {S : Nat → Prop} {φ : Place} {h : List AO} (H : HRel G W S φ h) : HB h := by
  refine ⟨fun i sz es e x hx => ?_, fun i es e x hx => ?_⟩
  · obtain ⟨c, t, fr, a1, a2, a3, a4, a5⟩ := H.obj i sz es e
    have key : ∀ u ∈ x, u.isCell = true ∧ Aw.below h.length u := fun u hu => by
      obtain ⟨j, hj⟩ := List.getElem?_of_mem (List.mem_flatten.2 ⟨x, hx, hu⟩)
      obtain ⟨b1, v, b2, b3⟩ := a5 j u hj
      exact ⟨b1, b3.isBelow⟩
    refine ⟨a3 x hx, ?_, List.all_eq_true.2 fun u hu => (key u hu).1⟩
    have : ∀ (l : List AV), (∀ c ∈ l, Aw.below h.length c) → belowL h.length l := by
      intro l; induction l with
      | nil => intro _; trivial
      | cons a r ih => intro h; exact ⟨h a (by simp), ih fun c hc => h c (by simp [hc])⟩
    exact this x fun u hu => (key u hu).2
  · obtain ⟨ents, clock, a1, a2, a3, a4⟩ := H.oobj i _ e trivial
    obtain ⟨j, hj⟩ := List.getElem?_of_mem hx
    obtain ⟨e0, _, _, h3⟩ := a3 j x.1 x.2 hj
    exact h3.isBelow

theorem AC.hb {f : FuncId} {args : List AV} {h : List AO} {R : ARes → List AO → Prop} (hc : callable P f = true) (H : HB h → AC P G f args h R) : AC P G f args h R :=
  ⟨hc, fun W S φ vs hH hA => (H hH.hb).2 W S φ vs hH hA⟩

/-- The first n objects are kept, the others forgotten. -/
theorem wk_refl {k : Nat} {ts ts1 : List AV} {h : List AO} (hk : k ≤ h.length) (hb : HB h) (HT : Fgt h.length ts ts1) : Wk k ts h ts1 h :=
  wk_fst (n := h.length) hk ⟨rfl, Nat.le_refl _, (fun i sz es e => ⟨e, fun x hx => (hb.1 i sz es e x hx).2.1⟩), (fun i es e => ⟨e, fun x hx => hb.2 i es e x hx⟩), fun i s p e => e⟩ HT

theorem callable_of {f : FuncId} {F : FK} (h : compF P f = some F) : callable P f = true := by
  unfold compF at h
  split at h <;> first | (cases h; done) | skip
  split at h <;> first | (cases h; done) | skip
  split at h <;> first | (cases h; done) | skip
  split at h <;> first | (cases h; done) | skip
  assumption

theorem AC.enterB {f : FuncId} {F : FK} {args : List AV} {h : List AO} {R : ARes → List AO → Prop} (hF : compF P f = some F) (H : HB h → AC P G f args h R) : AC P G f args h R := AC.hb (callable_of hF) H

theorem belowL_mono {n m : Nat} (hnm : n ≤ m) : ∀ (l : List AV), belowL n l → belowL m l := by
  have key : ∀ (s : Nat), (∀ v : AV, SizeOf.sizeOf v < s → below n v → below m v) ∧ (∀ l : List AV, SizeOf.sizeOf l < s → belowL n l → belowL m l) := by
    intro s
    induction s with
    | zero => exact ⟨fun v h => by omega, fun l h => by omega⟩
    | succ s ih =>
      refine ⟨fun v hs hb => ?_, fun l hs hb => ?_⟩
      · cases v <;> simp only [below] at hb ⊢ <;> first | trivial | omega | (exact ih.2 _ (by simp at hs; omega) hb)
      · cases l with
        | nil => trivial
        | cons v r => exact ⟨ih.1 v (by simp at hs; omega) hb.1, ih.2 r (by simp at hs; omega) hb.2⟩
  exact fun l => (key _).2 l (Nat.lt_succ_self _)

theorem HB.set_row {h : List AO} (hb : HB h) {id sz : Nat} {es : List (List AV)} (he : ∀ e ∈ es, e.length = sz ∧ belowL h.length e ∧ e.all AV.isCell = true) : HB (h.set id (.row sz es)) := by
  refine ⟨fun i s es1 e x hx => ?_, fun i es1 e x hx => ?_⟩
  · rw [List.length_set]
    by_cases hi : i = id
    · subst hi
      rw [List.getElem?_set] at e
      split at e
      · split at e
        · cases e; exact he x hx
        · cases e
      · exact hb.1 _ _ _ e x hx
    · rw [List.getElem?_set_ne (Ne.symm hi)] at e
      exact hb.1 _ _ _ e x hx
  · rw [List.length_set]
    by_cases hi : i = id
    · subst hi
      rw [List.getElem?_set] at e
      split at e
      · split at e <;> cases e
      · exact hb.2 _ _ e x hx
    · rw [List.getElem?_set_ne (Ne.symm hi)] at e
      exact hb.2 _ _ e x hx

/-- A heap that is as it should be, by a look. -/
def okO (n : Nat) : AO → Prop
  | .row _ es => ∀ e ∈ es, belowL n e
  | .mp es => ∀ e ∈ es, below n e.2
  | _ => True
theorem wk_same {k : Nat} {ts ts1 : List AV} {h : List AO} (hk : k ≤ h.length) (ho : ∀ o ∈ h, okO h.length o) (HT : Fgt h.length ts ts1) : Wk k ts h ts1 h :=
  wk_fst (n := h.length) hk ⟨rfl, Nat.le_refl _, (fun i sz es e => ⟨e, fun x hx => ho _ (List.mem_of_getElem? e) x hx⟩), (fun i es e => ⟨e, fun x hx => ho _ (List.mem_of_getElem? e) x hx⟩), fun i s p e => e⟩ HT

/-! ### What was shifted, shifted back -/
theorem ren_shift {n m : Nat} : ∀ v : AV, clean v = true → below m v → ren (List.range' n m) v = shiftV n v := by
  have key : ∀ (s : Nat), (∀ v : AV, SizeOf.sizeOf v < s → clean v = true → below m v → ren (List.range' n m) v = shiftV n v) ∧ (∀ l : List AV, SizeOf.sizeOf l < s → cleanL l = true → belowL m l → renL (List.range' n m) l = shiftL n l) := by
    intro s
    induction s with
    | zero => exact ⟨fun v h => by omega, fun l h => by omega⟩
    | succ s ih =>
      refine ⟨fun v hs hc hb => ?_, fun l hs hc hb => ?_⟩
      · cases v <;> simp only [ren, shiftV, clean, below] at hc hb ⊢ <;> first
          | rfl
          | (cases hc; done)
          | (rw [ih.2 _ (by simp at hs; omega) hc hb])
          | (congr 1; simp [List.getD_eq_getElem?_getD, List.getElem?_range', hb])
      · cases l with
        | nil => rfl
        | cons v r =>
          simp only [cleanL, Bool.and_eq_true] at hc
          simp only [renL, shiftL]; rw [ih.1 v (by simp at hs; omega) hc.1 hb.1, ih.2 r (by simp at hs; omega) hc.2 hb.2]
  exact fun v => (key _).1 v (Nat.lt_succ_self _)
theorem renL_shift {n m : Nat} : ∀ l : List AV, cleanL l = true → belowL m l → renL (List.range' n m) l = shiftL n l
  | [], _, _ => rfl
  | v :: r, hc, hb => by
    simp only [cleanL, Bool.and_eq_true] at hc
    simp only [renL, shiftL]; rw [ren_shift v hc.1 hb.1, renL_shift r hc.2 hb.2]

theorem hw_shift {h1 : List AO} {pre : List AO} (hc : h1.all cleanO = true) (hb : ∀ o ∈ h1, okO h1.length o) : HW (List.range' pre.length h1.length) (pre ++ h1.map (shiftO pre.length)) (List.range' pre.length h1.length) h1 := by
  have key : ∀ (a : Nat) (l : List AO), (∀ i, l[i]? = h1[a + i]?) → a + l.length = h1.length → HW (List.range' pre.length h1.length) (pre ++ h1.map (shiftO pre.length)) (List.range' (pre.length + a) l.length) l := by
    intro a l
    induction l generalizing a with
    | nil => intro _ _; exact trivial
    | cons o r ih =>
      intro hg hl
      have h0 := hg 0
      simp at h0 hl
      have hmem : o ∈ h1 := List.mem_of_getElem? h0.symm
      have hget : (pre ++ h1.map (shiftO pre.length))[pre.length + a]? = some (shiftO pre.length o) := by
        rw [List.getElem?_append_right (by omega), Nat.add_sub_cancel_left, List.getElem?_map, ← h0]; rfl
      refine ⟨by simp; omega, ?_, by
        have := ih (a + 1) (fun i => by have := hg (i + 1); simp at this; rw [this]; congr 1; omega) (by omega)
        simpa [Nat.add_assoc] using this⟩
      have hco := List.all_eq_true.1 hc o hmem
      have hbo := hb o hmem
      cases o with
      | dead => trivial
      | row sz es =>
        simp only [cleanO, okO] at hco hbo
        refine ⟨fun e he => by simpa using hbo e he, ?_⟩
        rw [hget]
        simp only [shiftO]
        rw [List.map_congr_left fun e he => renL_shift e (List.all_eq_true.1 hco e he) (hbo e he)]
      | mp es =>
        simp only [cleanO, okO] at hco hbo
        refine ⟨fun e he => by simpa using hbo e he, ?_⟩
        rw [hget]
        simp only [shiftO]
        rw [List.map_congr_left (g := fun x => (x.1, ren (List.range' pre.length h1.length) x.2)) fun e he => by rw [ren_shift e.2 (List.all_eq_true.1 hco e he) (hbo e he)]]
      | sit s p => exact hget
  simpa using key 0 h1 (fun i => by simp) (by simp)

/-- The objects ahead are forgotten. -/
theorem AC.unshift {f : FuncId} {args : List AV} {r r1 : AV} {h' h1 : List AO} (pre : List AO) (H : AC P G f args [] fun x h => x = .ret r ∧ h = h') (hr : r = shiftV pre.length r1) (hh : h' = pre ++ h1.map (shiftO pre.length))
    (hc : h1.all cleanO = true) (hb : ∀ o ∈ h1, okO h1.length o) (hcr : clean r1 = true) (hbr : below h1.length r1) : AC P G f args [] fun x h => x = .ret r1 ∧ h = h1 :=
  H.gc (fun t v h ⟨e, _⟩ => by cases e) fun v h ⟨e1, e2⟩ => by
    cases e1; subst e2; subst hr; subst hh
    exact ⟨r1, h1, ⟨List.range' pre.length h1.length, by simp, fun i hi => by simp at hi, List.nodup_range', by simpa using hbr, by rw [ren_shift r1 hcr hbr], hw_shift hc hb⟩, rfl, rfl⟩

/-- What was made on the way is forgotten. -/
theorem AC.trim {f : FuncId} {args : List AV} {h : List AO} {r : AV} (H : AC P G f args h fun x h' => x = .ret r ∧ ∃ l, h' = h ++ l) (hr : below h.length r) : AC P G f args h fun x h' => x = .ret r ∧ h' = h := by
  refine AC.hb H.1 fun hb => H.gc (fun t v h' ⟨e, _⟩ => by cases e) fun v h' ⟨e, l, e2⟩ => ?_
  cases e; subst e2
  obtain ⟨ρ, r1, r2, r3, r4, r5⟩ := wk_fst_nd (k := h.length) (n := h.length) (ts := [r]) (ts1 := [r]) (h := h ++ l) (h1 := h) (Nat.le_refl _)
    ⟨rfl, by simp, (fun i sz es e => ⟨by rw [List.getElem?_append_left (List.getElem?_eq_some_iff.1 e).1]; exact e, fun x hx => (hb.1 i sz es e x hx).2.1⟩),
      (fun i es e => ⟨by rw [List.getElem?_append_left (List.getElem?_eq_some_iff.1 e).1]; exact e, fun x hx => hb.2 i es e x hx⟩),
      fun i s p e => by rw [List.getElem?_append_left (List.getElem?_eq_some_iff.1 e).1]; exact e⟩ ⟨.inr ⟨hr, rfl⟩, trivial⟩
  rcases r4.1 with h1 | ⟨h1, h2⟩
  · subst h1
    exact ⟨.any, h, ⟨ρ, r1, r2, r3, by simp [below], by simp [ren], r5⟩, rfl, rfl⟩
  · exact ⟨r, h, ⟨ρ, r1, r2, r3, h1, h2, r5⟩, rfl, rfl⟩

/-! ### At a loop's head: some objects are kept, named anew -/
theorem renL_pure (ρ : List Nat) : ∀ l : List AV, belowL 0 l → renL ρ l = l := by
  have key : ∀ (s : Nat), (∀ v : AV, SizeOf.sizeOf v < s → below 0 v → ren ρ v = v) ∧ (∀ l : List AV, SizeOf.sizeOf l < s → belowL 0 l → renL ρ l = l) := by
    intro s
    induction s with
    | zero => exact ⟨fun v h => by omega, fun l h => by omega⟩
    | succ s ih =>
      refine ⟨fun v hs hb => ?_, fun l hs hb => ?_⟩
      · cases v <;> simp only [ren, below] at hb ⊢ <;> first | rfl | omega | (rw [ih.2 _ (by simp at hs; omega) hb])
      · cases l with
        | nil => rfl
        | cons v r => simp only [renL]; rw [ih.1 v (by simp at hs; omega) hb.1, ih.2 r (by simp at hs; omega) hb.2]
  exact fun l => (key _).2 l (Nat.lt_succ_self _)

theorem hw_nil {ρ : List Nat} {h : List AO} : HW ρ h [] [] := trivial
theorem hw_row {ρ : List Nat} {h : List AO} {i : Nat} {π : List Nat} {sz : Nat} {es : List (List AV)} {r1 : List AO} (e : h[i]? = some (.row sz es)) (hp : ∀ x ∈ es, belowL 0 x) (hr : HW ρ h π r1) : HW ρ h (i :: π) (.row sz es :: r1) :=
  ⟨(List.getElem?_eq_some_iff.1 e).1, ⟨fun x hx => belowL_mono (Nat.zero_le _) _ (hp x hx), by rw [List.map_congr_left (g := id) fun x hx => renL_pure ρ x (hp x hx)]; simpa using e⟩, hr⟩
theorem hw_rowr {ρ : List Nat} {h : List AO} {i : Nat} {π : List Nat} {sz : Nat} {es : List (List AV)} {r1 : List AO} (hp : ∀ x ∈ es, belowL ρ.length x) (e : h[i]? = some (.row sz (es.map (renL ρ)))) (hr : HW ρ h π r1) : HW ρ h (i :: π) (.row sz es :: r1) :=
  ⟨(List.getElem?_eq_some_iff.1 e).1, ⟨hp, e⟩, hr⟩
theorem hw_dead {ρ : List Nat} {h : List AO} {i : Nat} {π : List Nat} {r1 : List AO} (e : i < h.length) (hr : HW ρ h π r1) : HW ρ h (i :: π) (.dead :: r1) := ⟨e, trivial, hr⟩
theorem wk_pick (ρ : List Nat) {k : Nat} {ts ts1 : List AV} {h h1 : List AO} (hk : k = 0) (nd : ρ.Nodup) (HH : HW ρ h ρ h1) (HT : TW ρ ts ts1) : Wk k ts h ts1 h1 :=
  Wk.of ρ (by omega) (fun i hi => by omega) nd HT HH
@[simp] theorem TW_nil (ρ : List Nat) : TW ρ [] [] = True := by simp [TW]
@[simp] theorem TW_cons (ρ : List Nat) (v v1 : AV) (r r1 : List AV) : TW ρ (v :: r) (v1 :: r1) = ((v1 = .any ∨ (below ρ.length v1 ∧ ren ρ v1 = v)) ∧ TW ρ r r1) := by simp [TW]

/-- FREEZING, whatever else is there. -/
theorem AC.freezeR {f : FuncId} {args : List AV} {r' : AV} {R : ARes → List AO → Prop} (H : AC P G f args [] R) (hp : ∀ t v h, ¬ R (.pan t v) h) (hv0 : ∀ v h, R (.ret v) h → Views h [v] [r']) : VF P G f args r' := by
  refine ⟨H.1, fun W S φ vs hH hA => ?_⟩
  refine (H.2 W S φ vs hH hA).mono fun e W' ⟨x, S', φ', h', k0, k2, k3, k4⟩ => ?_
  obtain ⟨r, rfl⟩ : ∃ r, x = .ret r := by
    cases x with
    | ret v => exact ⟨v, rfl⟩
    | pan t v => exact (hp _ _ _ k0).elim
  have hv := hv0 _ _ k0
  have himg : ∀ b, Owned φ' h' b → W.heap.size ≤ b := fun b ⟨id, e, he⟩ => by
    rcases k4.img id e with h2 | ⟨id2, h2, _⟩
    · omega
    · exact (live_nil h2).elim
  refine ⟨.ret r', (fun b => S' b ∨ Owned φ' h' b), φ', [], rfl, ⟨fun id sz es e => by simp at e, fun id o e _ => by simp at e, fun id id' e => (live_nil e).elim, fun b hb => ⟨by
      rcases hb with hb | ⟨id, e, he⟩
      · exact (k2.sep b hb).1
      · rw [← he]; exact k2.bnd id e.lt, fun id e => (live_nil e).elim⟩, fun id hid => by simp at hid, fun g cs hg => by
      obtain ⟨g1, g2⟩ := k2.glob g cs hg
      exact ⟨.inl g1, fun j c hj => by obtain ⟨v, q1, q2⟩ := g2 j c hj; exact ⟨v, q1, q2.mono fun b hb => ⟨.inl hb, rfl⟩⟩⟩⟩, ?_, ?_⟩
  · cases k3 with
    | ret _ x hx => exact .ret _ _ (hv.rel k2 0 r r' x rfl rfl hx)
  · exact { pure := fun b hb => ⟨.inl (k4.pure b hb).1, (k4.pure b hb).2⟩, len := Nat.le_refl _, same := fun id hid => by simp at hid
            blk := fun id hid => by simp at hid
            os := k4.os, tape := k4.tape, output := k4.output, size := k4.size, out := k4.out
            img := fun id e => (live_nil e).elim
            newS := fun b hb => by
              rcases hb with hb | hb
              · exact k4.newS b hb
              · exact .inr (.inl (himg b hb)) }
end
end Go.Aw
