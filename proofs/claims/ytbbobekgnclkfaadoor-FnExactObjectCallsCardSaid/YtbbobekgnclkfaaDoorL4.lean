/-
  Code over the abstract state: compiled, walked, entered. No program.
-/
import Derived.Test.YtbbobekgnclkfaaDoorL3
import Derived.LoopN
namespace Go.Aw

inductive AK where
  | skip
  | reg (cs : List CO)
  | seq (a b : AK)
  | cut (a b : AK)
  | cond (c : AOp) (a b : AK)
  | blk (id : Nat) (b : AK)
  | loop (b : AK)
  | exit (id : Nat)
  | ret

/-! ### Renaming, and what may be forgotten -/

mutual
def ren (ρ : List Nat) : AV → AV
  | .agg cs => .agg (renL ρ cs)
  | .tup cs => .tup (renL ρ cs)
  | .ptr id e i o => .ptr (ρ.getD id 0) e i o
  | .sl id e o l => .sl (ρ.getD id 0) e o l
  | .fn f cs => .fn f (renL ρ cs)
  | .mp id => .mp (ρ.getD id 0)
  | .it id => .it (ρ.getD id 0)
  | v => v
def renL (ρ : List Nat) : List AV → List AV
  | [] => []
  | v :: r => ren ρ v :: renL ρ r
end

mutual
/-- All references are to objects before n. -/
def below (n : Nat) : AV → Prop
  | .agg cs => belowL n cs
  | .tup cs => belowL n cs
  | .ptr id _ _ _ => id < n
  | .sl id _ _ _ => id < n
  | .fn _ cs => belowL n cs
  | .mp id => id < n
  | .it id => id < n
  | _ => True
def belowL (n : Nat) : List AV → Prop
  | [] => True
  | v :: r => below n v ∧ belowL n r
end

theorem renL_get {ρ : List Nat} : ∀ {l : List AV} {j : Nat}, (renL ρ l)[j]? = (l[j]?).map (ren ρ)
  | [], j => by simp [renL]
  | v :: r, 0 => by simp [renL]
  | v :: r, j + 1 => by simp [renL, renL_get]

theorem renL_length {ρ : List Nat} : ∀ {l : List AV}, (renL ρ l).length = l.length
  | [] => rfl
  | v :: r => by simp [renL, renL_length]

theorem belowL_get {n : Nat} : ∀ {l : List AV}, belowL n l → ∀ (j : Nat) (v : AV), l[j]? = some v → below n v
  | [], _, j, v, h => by simp at h
  | x :: r, hb, 0, v, h => by simp at h; subst h; exact hb.1
  | x :: r, hb, j + 1, v, h => belowL_get hb.2 j v (by simpa using h)

/-- A value, its references named anew. -/
theorem ren_rel {W : World} {S : Nat → Prop} {φ : Place} {n : Nat} {ρ : List Nat} (v : AV) (hb : below ρ.length v) {x : Value} (h : VRel W S φ n (ren ρ v) x) :
    VRel W S (fun i => φ (ρ.getD i 0)) ρ.length v x := by
  match v, hb with
  | .agg cs, hb =>
    simp only [ren] at h
    cases h with
    | agg _ vs hs hc =>
      exact .agg cs vs (by rw [hs, renL_length]) fun j c y h1 h2 => ren_rel c (belowL_get hb j c h1) (hc j _ y (by rw [renL_get, h1]; rfl) h2)
  | .tup cs, hb =>
    simp only [ren] at h
    cases h with
    | tup _ vs hs hc =>
      exact .tup cs vs (by rw [hs, renL_length]) fun j c y h1 h2 => ren_rel c (belowL_get hb j c h1) (hc j _ y (by rw [renL_get, h1]; rfl) h2)
  | .ptr id e i o, hb =>
    simp only [ren] at h
    cases h with
    | ptr _ _ _ _ hid => exact .ptr id e i o hb
  | .sl id e o l, hb =>
    simp only [ren] at h
    cases h with
    | sl _ _ _ _ cap ba hid hl h1 h2 => exact .sl id e o l cap ba hb hl h1 h2
  | .fn f cs, hb =>
    simp only [ren] at h
    cases h with
    | fn _ _ vs hs hc =>
      exact .fn f cs vs (by rw [hs, renL_length]) fun j c y h1 h2 => ren_rel c (belowL_get hb j c h1) (hc j _ y (by rw [renL_get, h1]; rfl) h2)
  | .mp id, hb =>
    simp only [ren] at h
    cases h with
    | mp _ hid => exact .mp id hb
  | .it id, hb =>
    simp only [ren] at h
    cases h with
    | it _ hid => exact .it id hb
  | .p v, _ => simp only [ren] at h; cases h with | p _ _ hp => exact .p _ _ hp
  | .eptr e o, _ => simp only [ren] at h; cases h with | eptr _ _ b o' h1 h2 => exact .eptr _ _ b o' h1 h2
  | .gp g o, _ => simp only [ren] at h; cases h; exact .gp _ _
  | .nils, _ => simp only [ren] at h; cases h; exact .nils
  | .nilp, _ => simp only [ren] at h; cases h; exact .nilp
  | .nilf, _ => simp only [ren] at h; cases h; exact .nilf
  | .nilm, _ => simp only [ren] at h; cases h; exact .nilm
  | .nili, _ => simp only [ren] at h; cases h; exact .nili
  | .ifc t v, _ => simp only [ren] at h; cases h with | ifc _ _ _ hp => exact .ifc _ _ _ hp
  | .any, _ => exact .any x
termination_by SizeOf.sizeOf v
decreasing_by
  all_goals simp_wf
  all_goals (have := List.sizeOf_lt_of_mem (List.mem_of_getElem? h1); omega)

theorem ren_isCell {ρ : List Nat} (v : AV) : (ren ρ v).isCell = v.isCell := by cases v <;> rfl

theorem renL_append {ρ : List Nat} : ∀ (l l' : List AV), renL ρ (l ++ l') = renL ρ l ++ renL ρ l'
  | [], l' => rfl
  | v :: r, l' => by simp [renL, renL_append r l']

theorem renL_flatten {ρ : List Nat} : ∀ (es : List (List AV)), (es.map (renL ρ)).flatten = renL ρ es.flatten
  | [] => rfl
  | e :: r => by simp [renL_append, renL_flatten r]

theorem belowL_append {n : Nat} : ∀ (l l' : List AV), belowL n l → belowL n l' → belowL n (l ++ l')
  | [], _, _, h => h
  | v :: r, l', h, h' => ⟨h.1, belowL_append r l' h.2 h'⟩

theorem belowL_flatten {n : Nat} : ∀ (es : List (List AV)), (∀ e ∈ es, belowL n e) → belowL n es.flatten
  | [], _ => trivial
  | e :: r, h => by
    rw [List.flatten_cons]
    exact belowL_append _ _ (h e (List.mem_cons_self ..)) (belowL_flatten r fun x hx => h x (List.mem_cons_of_mem _ hx))

/-- The slots, some forgotten, the others named anew. -/
def TW (ρ : List Nat) : List AV → List AV → Prop
  | [], [] => True
  | v :: r, v1 :: r1 => (v1 = .any ∨ (below ρ.length v1 ∧ ren ρ v1 = v)) ∧ TW ρ r r1
  | _, _ => False

/-- The objects that are kept, named anew. -/
def HW (ρ : List Nat) (h : List AO) : List Nat → List AO → Prop
  | [], [] => True
  | i :: π, o1 :: r1 => i < h.length ∧ (match o1 with
      | .dead => True
      | .row sz es1 => (∀ e ∈ es1, belowL ρ.length e) ∧ h[i]? = some (.row sz (es1.map (renL ρ)))
      | .mp es1 => (∀ e ∈ es1, below ρ.length e.2) ∧ h[i]? = some (.mp (es1.map fun x => (x.1, ren ρ x.2)))
      | .sit s pos => h[i]? = some (.sit s pos)) ∧ HW ρ h π r1
  | _, _ => False

def Wk (k : Nat) (ts : List AV) (h : List AO) (ts1 : List AV) (h1 : List AO) : Prop :=
  ∃ ρ : List Nat, k ≤ ρ.length ∧ (∀ i, i < k → ρ.getD i 0 = i) ∧ (∀ i j, Live h1 i → Live h1 j → ρ.getD i 0 = ρ.getD j 0 → i = j) ∧ TW ρ ts ts1 ∧ HW ρ h ρ h1

theorem TW_get {ρ : List Nat} : ∀ {ts ts1 : List AV}, TW ρ ts ts1 → ts.length = ts1.length ∧ ∀ (i : Nat) (v1 : AV), ts1[i]? = some v1 → v1 = .any ∨ (below ρ.length v1 ∧ ts[i]? = some (ren ρ v1))
  | [], [], _ => ⟨rfl, fun i v h => by simp at h⟩
  | v :: r, v1 :: r1, h => by
    obtain ⟨h1, h2⟩ := h
    obtain ⟨k1, k2⟩ := TW_get h2
    refine ⟨by simp [k1], fun i u hu => ?_⟩
    cases i with
    | zero => simp at hu; subst hu; rcases h1 with h1 | ⟨h1, h3⟩; exact .inl h1; exact .inr ⟨h1, by simp [h3]⟩
    | succ i => simp at hu; simpa using k2 i u hu
  | [], _ :: _, h => h.elim
  | _ :: _, [], h => h.elim

theorem HW_get {ρ : List Nat} {h : List AO} : ∀ {π : List Nat} {h1 : List AO}, HW ρ h π h1 → π.length = h1.length ∧ (∀ j, j < π.length → π.getD j 0 < h.length) ∧
    (∀ (j sz : Nat) (es1 : List (List AV)), h1[j]? = some (.row sz es1) → (∀ e ∈ es1, belowL ρ.length e) ∧ h[π.getD j 0]? = some (.row sz (es1.map (renL ρ)))) ∧
    (∀ (j : Nat) (es1 : List (PV × AV)), h1[j]? = some (.mp es1) → (∀ e ∈ es1, below ρ.length e.2) ∧ h[π.getD j 0]? = some (.mp (es1.map fun x => (x.1, ren ρ x.2)))) ∧
    ∀ (j : Nat) (s : List UInt8) (pos : Nat), h1[j]? = some (.sit s pos) → h[π.getD j 0]? = some (.sit s pos)
  | [], [], _ => ⟨rfl, fun j hj => by simp at hj, fun j sz es h => by simp at h, fun j es h => by simp at h, fun j s p h => by simp at h⟩
  | i :: π, o1 :: r1, hh => by
    obtain ⟨h1, h2, h3⟩ := hh
    obtain ⟨k1, k2, k3, k4, k5⟩ := HW_get h3
    refine ⟨by simp [k1], fun j hj => ?_, fun j sz es hj => ?_, fun j es hj => ?_, fun j s p hj => ?_⟩
    · cases j with
      | zero => simpa using h1
      | succ j => simp at hj; simpa using k2 j hj
    · cases j with
      | zero => simp at hj; subst hj; simpa using h2
      | succ j => simp at hj; simpa using k3 j sz es hj
    · cases j with
      | zero => simp at hj; subst hj; simpa using h2
      | succ j => simp at hj; simpa using k4 j es hj
    · cases j with
      | zero => simp at hj; subst hj; simpa using h2
      | succ j => simp at hj; simpa using k5 j s p hj
  | [], _ :: _, h => h.elim
  | _ :: _, [], h => h.elim

theorem Wk.of {k : Nat} {ts ts1 : List AV} {h h1 : List AO} (ρ : List Nat) (hk : k ≤ ρ.length) (hi : ∀ i, i < k → ρ.getD i 0 = i) (nd : ρ.Nodup) (HT : TW ρ ts ts1) (HH : HW ρ h ρ h1) : Wk k ts h ts1 h1 := by
  refine ⟨ρ, hk, hi, fun i j li lj e => ?_, HT, HH⟩
  have hl := (HW_get HH).1
  have hi : i < ρ.length := by rw [hl]; exact li.lt
  have hj : j < ρ.length := by rw [hl]; exact lj.lt
  rw [List.getD_eq_getElem?_getD, List.getD_eq_getElem?_getD, List.getElem?_eq_getElem hi, List.getElem?_eq_getElem hj] at e
  refine (List.getElem?_inj hi nd).1 ?_
  rw [List.getElem?_eq_getElem hi, List.getElem?_eq_getElem hj]
  exact congrArg some (by simpa using e)

/-- Which of the objects are named that may be alive. -/
def lives : List Nat → List AO → List Nat
  | _ :: ρ, .dead :: h => lives ρ h
  | i :: ρ, _ :: h => i :: lives ρ h
  | _, _ => []
theorem lives_mem : ∀ {ρ : List Nat} {h : List AO} {i : Nat}, Live h i → i < ρ.length → ρ.getD i 0 ∈ lives ρ h
  | x :: ρ, o :: h, i, ⟨o1, e, l⟩, hi => by
    cases i with
    | zero =>
      simp at e; subst e
      cases o <;> first | exact l.elim | simp [lives]
    | succ i =>
      have := lives_mem (ρ := ρ) (h := h) (i := i) ⟨o1, by simpa using e, l⟩ (by simpa using hi)
      cases o <;> simp [lives] at this ⊢ <;> first | exact this | exact .inr this
  | [], _, i, _, hi => by simp at hi
  | _ :: _, [], i, ⟨o, e, _⟩, _ => by simp at e
theorem lives_inj : ∀ {ρ : List Nat} {h : List AO}, (lives ρ h).Nodup → ρ.length = h.length → ∀ i j, Live h i → Live h j → ρ.getD i 0 = ρ.getD j 0 → i = j
  | x :: ρ, o :: h, nd, hl, i, j, hi, hj, e => by
    simp at hl
    have dn : ∀ {i : Nat}, Live (o :: h) (i + 1) → Live h i := fun ⟨o1, e, l⟩ => ⟨o1, by simpa using e, l⟩
    have hd : (lives ρ h).Nodup ∧ (Live (o :: h) 0 → x ∉ lives ρ h) := by
      cases o
      case dead => exact ⟨nd, fun ⟨o1, e, l⟩ => by simp at e; subst e; exact l.elim⟩
      all_goals
        simp only [lives, List.nodup_cons] at nd
        exact ⟨nd.2, fun _ => nd.1⟩
    cases i with
    | zero =>
      cases j with
      | zero => rfl
      | succ j =>
        exfalso
        have := lives_mem (ρ := ρ) (dn hj) (by rw [hl]; exact (dn hj).lt)
        simp at e
        simp at this
        rw [← e] at this
        exact hd.2 hi this
    | succ i =>
      cases j with
      | zero =>
        exfalso
        have := lives_mem (ρ := ρ) (dn hi) (by rw [hl]; exact (dn hi).lt)
        simp at e
        simp at this
        rw [e] at this
        exact hd.2 hj this
      | succ j =>
        have := lives_inj hd.1 hl i j (dn hi) (dn hj) (by simpa using e)
        omega
  | [], [], _, _, i, j, hi, _, _ => by exact (live_nil hi).elim
  | [], _ :: _, _, hl, _, _, _, _, _ => by simp at hl
  | _ :: _, [], _, hl, _, _, _, _, _ => by simp at hl
theorem Wk.ofL {k : Nat} {ts ts1 : List AV} {h h1 : List AO} (ρ : List Nat) (hk : k ≤ ρ.length) (hi : ∀ i, i < k → ρ.getD i 0 = i) (nd : (lives ρ h1).Nodup) (HT : TW ρ ts ts1) (HH : HW ρ h ρ h1) : Wk k ts h ts1 h1 :=
  ⟨ρ, hk, hi, lives_inj nd (HW_get HH).1, HT, HH⟩

section
variable {P : Program} {G : Glob} {W0 : World} {S0 : Nat → Prop} {φ0 : Place} {h0 : List AO}

theorem St.wk {W : World} {S : Nat → Prop} {φ : Place} {a : Act} {ts ts1 : List AV} {h h1 : List AO} (s : St G W0 S0 φ0 h0 W S φ a ts h) (w : Wk h0.length ts h ts1 h1) : ∃ φ', St G W0 S0 φ0 h0 W S φ' a ts1 h1 := by
  obtain ⟨ρ, r1, r2, r3, r4, r5⟩ := w
  obtain ⟨t1, t2⟩ := TW_get r4
  obtain ⟨q1, q2, q3, q4, q5⟩ := HW_get r5
  have hlt : ∀ {j : Nat} {o : AO}, h1[j]? = some o → j < ρ.length := fun hj => by rw [q1]; exact (List.getElem?_eq_some_iff.1 hj).1
  have hliv : ∀ {id}, Live h1 id → Live h (ρ.getD id 0) := fun {id} ⟨o, e, l⟩ => by
    cases o with
    | dead => exact l.elim
    | row sz es => exact live_row (q3 _ _ _ e).2
    | mp es => exact live_mp (q4 _ _ e).2
    | sit t pos => exact live_sit (q5 _ _ _ e)
  refine ⟨fun i => φ (ρ.getD i 0), ⟨⟨fun id sz es hid => ?_, fun id o hid lo => ?_, fun id id' e1 e2 he => ?_, fun b hb => ⟨(s.hrel.sep b hb).1, fun id hid he => ?_⟩, fun id hid => ?_, s.hrel.glob⟩, ⟨s.trel.size.trans t1, fun i v hi => ?_⟩, s.defers, ?_⟩⟩
  · obtain ⟨b1, b2⟩ := q3 id sz es hid
    obtain ⟨c, t, fr, a1, a2, a3, a4, a5⟩ := s.hrel.obj _ _ _ b2
    refine ⟨c, t, fr, a1, a2, fun e he => ?_, by simpa using a4, fun j u hj => ?_⟩
    · have := a3 (renL ρ e) (List.mem_map.2 ⟨e, he, rfl⟩)
      rwa [renL_length] at this
    · have hr : (es.map (renL ρ)).flatten[j]? = some (ren ρ u) := by rw [renL_flatten, renL_get, hj]; rfl
      obtain ⟨c1, v, c2, c3⟩ := a5 j _ hr
      rw [ren_isCell] at c1
      exact ⟨c1, v, c2, by rw [← q1]; exact ren_rel u (belowL_get (belowL_flatten _ b1) j u hj) c3⟩
  · cases o with
    | dead => trivial
    | row sz es => trivial
    | sit t pos => exact s.hrel.oobj _ _ (q5 id t pos hid) trivial
    | mp es =>
      obtain ⟨b1, b2⟩ := q4 id es hid
      obtain ⟨ents, clock, a1, a2, a3, a4⟩ := s.hrel.oobj _ _ b2 trivial
      refine ⟨ents, clock, a1, by simpa using a2, fun j k a hj => ?_, a4⟩
      obtain ⟨e, c1, c2, c3⟩ := a3 j k (ren ρ a) (by rw [List.getElem?_map, hj]; rfl)
      exact ⟨e, c1, c2, by rw [← q1]; exact ren_rel a (b1 _ (List.mem_of_getElem? hj)) c3⟩
  · exact r3 _ _ e1 e2 (s.hrel.inj _ _ (hliv e1) (hliv e2) he)
  · exact (s.hrel.sep b hb).2 _ (hliv hid) he
  · exact s.hrel.bnd _ (q2 id (by rw [q1]; exact hid))
  · rcases t2 i v hi with rfl | ⟨b1, b2⟩
    · exact .any _
    · rw [← q1]; exact ren_rel v b1 (s.trel.get i _ b2)
  · have k := s.keep
    exact { pure := k.pure, len := by rw [← q1]; exact r1, same := fun id hid => by rw [r2 id hid]; exact k.same id hid, blk := k.blk, os := k.os, tape := k.tape, output := k.output, size := k.size, out := k.out,
            img := fun id hid => k.img _ (hliv hid), newS := k.newS }

/-! ### Code -/

/-- A loop, so many rounds at most. -/
def loopN (k : Nat) (body : List AV → List AO → (AX → List AV → List AO → Prop) → Prop) : Nat → List AV → List AO → (AX → List AV → List AO → Prop) → Prop
  | 0, _, _, _ => False
  | n + 1, ts, h, Q => ∃ ts1 h1, Wk k ts h ts1 h1 ∧ body ts1 h1 fun x ts2 h2 => match x with
    | .normal => loopN k body n ts2 h2 Q
    | x => Q x ts2 h2

/-- WHAT A PIECE OF CODE DOES. -/
def AKW (P : Program) (G : Glob) (k : Nat) : AK → List AV → List AO → (AX → List AV → List AO → Prop) → Prop
  | .skip, ts, h, Q => Q .normal ts h
  | .reg cs, ts, h, Q => rK P G cs ts h (Q .normal) fun t v h' => ∀ ts', Q (.pan t v) ts' h'
  | .seq a b, ts, h, Q => AKW P G k a ts h fun x ts' h' => match x with
    | .normal => AKW P G k b ts' h' Q
    | x => Q x ts' h'
  | .cut a b, ts, h, Q => ∃ J : List AV → List AO → Prop, (AKW P G k a ts h fun x ts' h' => match x with
    | .normal => ∃ ts1 h1, Wk k ts' h' ts1 h1 ∧ J ts1 h1
    | x => Q x ts' h') ∧ ∀ ts1 h1, J ts1 h1 → AKW P G k b ts1 h1 Q
  | .cond c a b, ts, h, Q => match c.ev ts with
    | .p (.bool v) => Cnd v (AKW P G k a ts h Q) (AKW P G k b ts h Q)
    | _ => False
  | .blk id a, ts, h, Q => AKW P G k a ts h fun x ts' h' => match x with
    | .exit i => if i = id then Q .normal ts' h' else Q (.exit i) ts' h'
    | x => Q x ts' h'
  | .loop a, ts, h, Q => ∃ n, loopN k (AKW P G k a) n ts h Q
  | .exit id, ts, h, Q => Q (.exit id) ts h
  | .ret, ts, h, Q => Q .ret ts h

/-- A compiled piece of code is the model's own. -/
inductive KOk (P : Program) : Code → AK → Prop where
  | skip : KOk P .skip .skip
  | text (id : Nat) (ops : Array Oper) (cs : List CO) : AllOk P ops ops.toList cs → KOk P (.region id ops false) (.reg cs)
  | any (id : Nat) (ops : Array Oper) (cs : List CO) (pd : Nat → List (Nat × Option Nat × Nat × Nat)) (df : Option (Nat × Nat)) (π : List Nat) : P.follows .mixedOrders = true → AllOk P ops ops.toList cs → lateDf ops cs df = true → π.length = ops.size → ordOk (df.map (·.1)) ops cs (befs ops.toList []) pd π (Array.replicate ops.size false) = true →
      KOk P (.region id ops true) (.reg (forget df ++ weave cs pd π))
  | seq (a b : Code) (a' b' : AK) : KOk P a a' → KOk P b b' → KOk P (.seq a b) (.seq a' b')
  | cut (a b : Code) (a' b' : AK) : KOk P a a' → KOk P b b' → KOk P (.seq a b) (.cut a' b')
  | cond (c : Operand) (c' : AOp) (a b : Code) (a' b' : AK) : cop c = some c' → KOk P a a' → KOk P b b' → KOk P (.cond c a b) (.cond c' a' b')
  | blk (id : Nat) (a : Code) (a' : AK) : KOk P a a' → KOk P (.block id a) (.blk id a')
  | loop (a : Code) (a' : AK) : KOk P a a' → KOk P (.loop a) (.loop a')
  | exit (id : Nat) : KOk P (.exit id) (.exit id)
  | ret : KOk P .ret .ret

theorem AKW_sound {c : Code} {k : AK} (hk : KOk P c k) : ∀ {W : World} {S : Nat → Prop} {φ : Place} {a : Act} {ts : List AV} {h : List AO}, St G W0 S0 φ0 h0 W S φ a ts h →
    ∀ {Q : AX → List AV → List AO → Prop}, AKW P G h0.length k ts h Q → c.wp P (Post G W0 S0 φ0 h0 Q) a W := by
  induction hk with
  | skip => intro W S φ a ts h s Q hq; exact wp_skip ⟨.normal, ts, h, S, φ, hq, .normal, s⟩
  | text id ops cs hok => intro W S φ a ts h s Q hq; exact region_text hok s hq
  | any id ops cs pd df π hm hok hd hπ ho => intro W S φ a ts h s Q hq; exact region_any hm hok hd hπ ho s hq
  | seq x y x' y' _ _ ih1 ih2 =>
    intro W S φ a ts h s Q hq
    refine wp_seq (wp_mono (ih1 s hq) fun e a' W' ⟨x, ts', h', S', φ', q1, q2, q3⟩ => ?_)
    cases q2 with
    | normal => exact ih2 q3 q1
    | exit id => exact ⟨_, ts', h', S', φ', q1, .exit id, q3⟩
    | ret => exact ⟨_, ts', h', S', φ', q1, .ret, q3⟩
    | pan t v x hp => exact ⟨_, ts', h', S', φ', q1, .pan t v x hp, q3⟩
  | cut x y x' y' _ _ ih1 ih2 =>
    intro W S φ a ts h s Q ⟨J, hq, hj⟩
    refine wp_seq (wp_mono (ih1 s hq) fun e a' W' ⟨x, ts', h', S', φ', q1, q2, q3⟩ => ?_)
    cases q2 with
    | normal =>
      obtain ⟨ts1, h1, w, j⟩ := q1
      obtain ⟨φ1, s1⟩ := q3.wk w
      exact ih2 s1 (hj _ _ j)
    | exit id => exact ⟨_, ts', h', S', φ', q1, .exit id, q3⟩
    | ret => exact ⟨_, ts', h', S', φ', q1, .ret, q3⟩
    | pan t v x hp => exact ⟨_, ts', h', S', φ', q1, .pan t v x hp, q3⟩
  | cond c c' x y x' y' hc _ _ ih1 ih2 =>
    intro W S φ a ts h s Q hq
    simp only [AKW] at hq
    split at hq
    · rename_i v hv
      have := cop_rel hc s.trel
      rw [hv] at this
      refine wp_cond_split (prel_bool this) (fun e => ih1 s (hq.1 e)) (fun e => ih2 s (hq.2 e))
    · exact hq.elim
  | blk id x x' _ ih =>
    intro W S φ a ts h s Q hq
    refine wp_block (wp_mono (ih s hq) fun e a' W' ⟨x, ts', h', S', φ', q1, q2, q3⟩ => ?_)
    cases q2 with
    | normal => exact ⟨_, ts', h', S', φ', q1, .normal, q3⟩
    | exit i =>
      simp only [Exit.inBlock]
      simp only at q1
      split
      · rename_i he; rw [if_pos he] at q1; exact ⟨_, ts', h', S', φ', q1, .normal, q3⟩
      · rename_i he; rw [if_neg he] at q1; exact ⟨_, ts', h', S', φ', q1, .exit i, q3⟩
    | ret => exact ⟨_, ts', h', S', φ', q1, .ret, q3⟩
    | pan t v x hp => exact ⟨_, ts', h', S', φ', q1, .pan t v x hp, q3⟩
  | loop x x' _ ih =>
    intro W S φ a ts h s Q hq
    obtain ⟨n, hn⟩ := hq
    refine wp_loop_rounds n ?_
    induction n generalizing W S φ a ts h with
    | zero => exact hn.elim
    | succ n ihn =>
      obtain ⟨ts1, h1, w, hb⟩ := hn
      obtain ⟨φ1, s1⟩ := s.wk w
      show Code.wp P x _ a W
      refine wp_mono (ih s1 hb) fun e a' W' ⟨x, ts', h', S', φ', q1, q2, q3⟩ => ?_
      cases q2 with
      | normal => exact ihn q3 q1
      | exit i => exact ⟨_, ts', h', S', φ', q1, .exit i, q3⟩
      | ret => exact ⟨_, ts', h', S', φ', q1, .ret, q3⟩
      | pan t v x hp => exact ⟨_, ts', h', S', φ', q1, .pan t v x hp, q3⟩
  | exit id => intro W S φ a ts h s Q hq; exact wp_exit ⟨_, ts, h, S, φ, hq, .exit id, s⟩
  | ret => intro W S φ a ts h s Q hq; exact wp_ret ⟨_, ts, h, S, φ, hq, .ret, s⟩

end
end Go.Aw
/-
  A function's text, compiled; a call, entered. No program.
-/
namespace Go.Aw

/-- Where a result is. -/
inductive RV where
  | t (n : Nat)
  | c (n : Nat) (sz : Option Nat)

structure FK where
  ntmps : Nat
  res : List RV
  ak : AK

def compO (P : Program) (ops : Array Oper) (o : Oper) : Option CO :=
  if (comp P o).isQ then none else
  match o.guard with
  | none => some ⟨o.dst, none, comp P o⟩
  | some (j, w) => match (ops[j]?).bind (·.dst) with
    | some d => some ⟨o.dst, some (d, w), comp P o⟩
    | none => none

def compOs (P : Program) (ops : Array Oper) : List Oper → Option (List CO)
  | [] => some []
  | o :: r => match compO P ops o, compOs P ops r with
    | some c, some l => some (c :: l)
    | _, _ => none

/-- Which operations' places beside this one are open. -/
def openTo (B : List (List Nat)) (n i : Nat) : List Nat := (List.range n).filter fun j => j != i && !((B.getD j []).contains i) && !((B.getD i []).contains j)

def isCall : AI → Bool
  | .call .. | .callv .. => true
  | _ => false

/-- Literals beside others: pure data. -/
def markL (B : List (List Nat)) (cs : List CO) (i : Nat) (c : CO) : CO :=
  match c.ai with
  | .bsl e z n l => if n != 0 && (openTo B cs.length i).any fun j => (match cs[j]? with | some cj => !cj.ai.silent | none => true) then { c with ai := .bslP e z n l } else c
  | _ => c

/-- An allocation that is put off: its place is open beside others. -/
def chooseDf (ops : Array Oper) (B : List (List Nat)) (cs : List CO) : Option (Nat × Nat) :=
  (List.range cs.length).findSome? fun i => match (cs[i]? : Option CO) with
    | some ⟨some d, none, AI.alloc _⟩ => if ((openTo B cs.length i).any fun j => (match cs[j]? with | some cj => !cj.ai.silent | none => true)) && dfOk ops cs B i d then some (i, d) else none
    | _ => none

/-- A call beside which another operation's place is open has to leave the memory alone. -/
def markC (df : Option (Nat × Nat)) (B : List (List Nat)) (cs : List CO) (i : Nat) (c : CO) : CO :=
  match c.ai with
  | .call f l =>
    if (openTo B cs.length i).any fun j => df.map (·.1) != some j && (match cs[j]? with | some cj => !cj.ai.quiet && !isCall cj.ai | none => true) then { c with ai := .pcall f l }
    else if (openTo B cs.length i).any fun j => df.map (·.1) != some j && (match cs[j]? with | some cj => !cj.ai.silent && (ldOf cj).isNone | none => true) then { c with ai := .qcall f l } else c
  | .callv f l => if (openTo B cs.length i).any fun j => df.map (·.1) != some j && (match cs[j]? with | some cj => !cj.ai.silent && (ldOf cj).isNone | none => true) then { c with ai := .qcallv f l } else c
  | _ => c

def markWith (m : Nat → CO → CO) : Nat → List CO → List CO
  | _, [] => []
  | i, c :: r => m i c :: markWith m (i + 1) r

def markAll (df : Option (Nat × Nat)) (B : List (List Nat)) (cs0 : List CO) : List CO :=
  let cs1 := markWith (markL B cs0) 0 cs0
  markWith (markC df B cs1) 0 cs1

/-- The loads that are done again behind an operation. -/
def pendOf (df : Option (Nat × Nat)) (B : List (List Nat)) (cs : List CO) (j : Nat) : List (Nat × Option Nat × Nat × Nat) :=
  match cs[j]? with
  | some cj => if cj.ai.quiet || df.map (·.1) == some j then [] else (openTo B cs.length j).filterMap fun l => ((cs[l]?).bind ldOf).map (l, ·)
  | none => []

/-- An order: silent operations first, then quiet ones. -/
def pickOrd (df : Option Nat) (B : List (List Nat)) (ops : Array Oper) (cs : List CO) : Nat → Array Bool → List Nat
  | 0, _ => []
  | n + 1, listed =>
    let rs := readyD df ops cs B listed
    let sil := rs.filter fun i => match cs[i]? with | some c => c.ai.silent | none => false
    let qui := rs.filter fun i => match cs[i]? with | some c => c.ai.quiet | none => false
    match sil, qui, rs with
    | i :: _, _, _ => i :: pickOrd df B ops cs n (listed.setIfInBounds i true)
    | [], i :: _, _ => i :: pickOrd df B ops cs n (listed.setIfInBounds i true)
    | [], [], i :: _ => i :: pickOrd df B ops cs n (listed.setIfInBounds i true)
    | [], [], [] => []

def compRegion (P : Program) (ops : Array Oper) : Bool → Option AK
  | false => (compOs P ops ops.toList).map .reg
  | true => match compOs P ops ops.toList with
    | some cs0 =>
      let B := befs ops.toList []
      let df := chooseDf ops B cs0
      let cs := markAll df B cs0
      let π := pickOrd (df.map (·.1)) B ops cs ops.size (Array.replicate ops.size false)
      if P.follows .mixedOrders = true ∧ lateDf ops cs df = true ∧ π.length = ops.size ∧ ordOk (df.map (·.1)) ops cs B (pendOf df B cs) π (Array.replicate ops.size false) = true then some (.reg (forget df ++ weave cs (pendOf df B cs) π)) else none
    | none => none

def compK (P : Program) : Code → Option AK
  | .skip => some .skip
  | .region _ ops draw => compRegion P ops draw
  | .seq a b => match compK P a, compK P b with
    | some a', some b' => some (.seq a' b')
    | _, _ => none
  | .cond c a b => match cop c, compK P a, compK P b with
    | some c', some a', some b' => some (.cond c' a' b')
    | _, _, _ => none
  | .block id a => (compK P a).map (.blk id)
  | .loop a => (compK P a).map .loop
  | .exit id => some (.exit id)
  | .ret => some .ret
  | _ => none

def compR (P : Program) : List ResultVar → Option (List RV)
  | [] => some []
  | .tmp t :: r => (compR P r).map (.t t :: ·)
  | .cell a t :: r => match aggOf P t, compR P r with
    | some sz, some l => some (.c a sz :: l)
    | _, _ => none

def compF (P : Program) (f : FuncId) : Option FK :=
  match P.funcs[f]? with
  | some fn => match fn.body with
    | some c => match compK P c, compR P fn.results.toList with
      | some ak, some rs => if callable P f = true then some ⟨fn.ntmps, rs, ak⟩ else none
      | _, _ => none
    | none => none
  | none => none

section
variable {P : Program} {G : Glob}

theorem comp_or (o : Oper) (hq : (comp P o).isQ = false) : (comp0 P o = some (comp P o) ∧ (comp P o).isQ = false) ∨ compX P o = comp P o := by
  revert hq
  unfold comp
  cases comp0 P o with
  | some ai => exact fun hq => .inl ⟨rfl, hq⟩
  | none => exact fun _ => .inr rfl

theorem compO_ok {ops : Array Oper} {o : Oper} {c : CO} (h : compO P ops o = some c) : coOk P ops o c := by
  unfold compO at h
  split at h <;> first | (cases h; done) | skip
  rename_i hq
  have hor := comp_or (P := P) o (by simpa using hq)
  have key : (comp0 P o = some (comp P o) ∧ (comp P o).isQ = false) ∨ (∃ f l, comp0 P o = some (.call f l) ∧ comp P o = .qcall f l) ∨ (∃ f l, comp0 P o = some (.callv f l) ∧ comp P o = .qcallv f l) ∨
    (∃ f l, comp0 P o = some (.call f l) ∧ comp P o = .pcall f l) ∨ (∃ e z n l, comp0 P o = some (.bsl e z n l) ∧ comp P o = .bslP e z n l) ∨ compX P o = comp P o := by
    rcases hor with h1 | h1
    · exact .inl h1
    · exact .inr (.inr (.inr (.inr (.inr h1))))
  split at h
  · rename_i h2
    cases h
    exact ⟨rfl, by simp [h2], key⟩
  · rename_i j w h2
    split at h <;> first | (cases h; done) | skip
    rename_i d hd
    cases h
    exact ⟨rfl, by simp [h2, hd], key⟩

theorem compOs_ok {ops : Array Oper} : ∀ {l : List Oper} {cs : List CO}, compOs P ops l = some cs → AllOk P ops l cs
  | [], cs, h => by cases h; exact ⟨rfl, fun j o c h => by simp at h⟩
  | o :: r, cs, h => by
    simp only [compOs] at h
    split at h <;> first | (cases h; done) | skip
    rename_i c l h1 h2
    cases h
    obtain ⟨k1, k2⟩ := compOs_ok h2
    refine ⟨by simp [k1], fun j o' c' e1 e2 => ?_⟩
    cases j with
    | zero => simp at e1 e2; subst e1; subst e2; exact compO_ok h1
    | succ j => simp at e1 e2; exact k2 j o' c' e1 e2

theorem markL_ok {B : List (List Nat)} {cs : List CO} {i : Nat} {ops : Array Oper} {o : Oper} {c : CO} (h : coOk P ops o c) : coOk P ops o (markL B cs i c) := by
  unfold markL
  split
  · rename_i e z n l hai
    split
    · obtain ⟨h1, h2, h3⟩ := h
      refine ⟨h1, h2, ?_⟩
      rcases h3 with ⟨h3, hq⟩ | ⟨f, l, h3, e⟩ | ⟨f, l, h3, e⟩ | ⟨f, l, h3, e⟩ | ⟨_, _, _, _, h3, e⟩ | h3
      · rw [hai] at h3
        exact .inr (.inr (.inr (.inr (.inl ⟨_, _, _, _, h3, rfl⟩))))
      all_goals first | (rw [hai] at e; cases e; done) | (exfalso; have := compX_isX P o; rw [h3, hai] at this; cases this)
    · exact h
  · exact h

theorem markC_ok {df : Option (Nat × Nat)} {B : List (List Nat)} {cs : List CO} {i : Nat} {ops : Array Oper} {o : Oper} {c : CO} (h : coOk P ops o c) : coOk P ops o (markC df B cs i c) := by
  unfold markC
  split
  · rename_i f l hai
    have h3' : comp0 P o = some (.call f l) := by
      obtain ⟨h1, h2, h3⟩ := h
      rcases h3 with ⟨h3, hq⟩ | ⟨f, l, h3, e⟩ | ⟨f, l, h3, e⟩ | ⟨f, l, h3, e⟩ | ⟨_, _, _, _, h3, e⟩ | h3
      · rw [hai] at h3; exact h3
      all_goals first | (rw [hai] at e; cases e; done) | (exfalso; have := compX_isX P o; rw [h3, hai] at this; cases this)
    split
    · exact ⟨h.1, h.2.1, .inr (.inr (.inr (.inl ⟨_, _, h3', rfl⟩)))⟩
    · split
      · exact ⟨h.1, h.2.1, .inr (.inl ⟨_, _, h3', rfl⟩)⟩
      · exact h
  · rename_i f l hai
    have h3' : comp0 P o = some (.callv f l) := by
      obtain ⟨h1, h2, h3⟩ := h
      rcases h3 with ⟨h3, hq⟩ | ⟨f, l, h3, e⟩ | ⟨f, l, h3, e⟩ | ⟨f, l, h3, e⟩ | ⟨_, _, _, _, h3, e⟩ | h3
      · rw [hai] at h3; exact h3
      all_goals first | (rw [hai] at e; cases e; done) | (exfalso; have := compX_isX P o; rw [h3, hai] at this; cases this)
    split
    · exact ⟨h.1, h.2.1, .inr (.inr (.inl ⟨_, _, h3', rfl⟩))⟩
    · exact h
  · exact h

theorem markWith_ok {m : Nat → CO → CO} {ops : Array Oper} (hm : ∀ i o c, coOk P ops o c → coOk P ops o (m i c)) : ∀ {l : List Oper} {r : List CO} (i : Nat), AllOk P ops l r → AllOk P ops l (markWith m i r)
  | [], [], _, h => h
  | o :: l, c :: r, i, h => by
    have h' : AllOk P ops l r := ⟨by have := h.1; simpa using this, fun j o c h1 h2 => h.2 (j + 1) o c (by simpa using h1) (by simpa using h2)⟩
    obtain ⟨k1, k2⟩ := markWith_ok hm (i + 1) h'
    refine ⟨by simp [markWith, k1], fun j o' c' e1 e2 => ?_⟩
    cases j with
    | zero => simp [markWith] at e1 e2; subst e1; subst e2; exact hm _ _ _ (h.2 0 o c rfl rfl)
    | succ j => simp [markWith] at e1 e2; exact k2 j o' c' e1 e2
  | [], _ :: _, _, h => by have := h.1; simp at this
  | _ :: _, [], _, h => by have := h.1; simp at this

theorem markAll_ok {df : Option (Nat × Nat)} {B : List (List Nat)} {cs : List CO} {ops : Array Oper} {l : List Oper} (h : AllOk P ops l cs) : AllOk P ops l (markAll df B cs) :=
  markWith_ok (fun _ _ _ => markC_ok) 0 (markWith_ok (fun _ _ _ => markL_ok) 0 h)

theorem compK_ok : ∀ {c : Code} {k : AK}, compK P c = some k → KOk P c k
  | .skip, k, h => by cases h; exact .skip
  | .region id ops false, k, h => by
    simp only [compK, compRegion, Option.map_eq_some_iff] at h
    obtain ⟨cs, h1, rfl⟩ := h
    exact .text id ops cs (compOs_ok h1)
  | .region id ops true, k, h => by
    simp only [compK, compRegion] at h
    split at h <;> first | (cases h; done) | skip
    rename_i cs0 h1
    split at h <;> first | (cases h; done) | skip
    rename_i hc
    cases h
    exact .any id ops _ _ _ _ hc.1 (markAll_ok (compOs_ok h1)) hc.2.1 hc.2.2.1 hc.2.2.2
  | .seq a b, k, h => by
    simp only [compK] at h
    split at h <;> first | (cases h; done) | skip
    rename_i h1 h2
    cases h
    exact .seq _ _ _ _ (compK_ok h1) (compK_ok h2)
  | .cond c a b, k, h => by
    simp only [compK] at h
    split at h <;> first | (cases h; done) | skip
    rename_i h1 h2 h3
    cases h
    exact .cond _ _ _ _ _ _ h1 (compK_ok h2) (compK_ok h3)
  | .block id a, k, h => by
    simp only [compK, Option.map_eq_some_iff] at h
    obtain ⟨a', h1, rfl⟩ := h
    exact .blk id _ _ (compK_ok h1)
  | .loop a, k, h => by
    simp only [compK, Option.map_eq_some_iff] at h
    obtain ⟨a', h1, rfl⟩ := h
    exact .loop _ _ (compK_ok h1)
  | .exit id, k, h => by cases h; exact .exit id
  | .ret, k, h => by cases h; exact .ret
  | .rangeFunc .., k, h => by cases h
  | .scope _, k, h => by cases h
  | .label _, k, h => by cases h
  | .goto _, k, h => by cases h
  | .refuse _, k, h => by cases h

/-- A result. -/
def resV (G : Glob) (ts : List AV) (h : List AO) : RV → Option AV
  | .t n => some (ts.getD n .any)
  | .c n sz => match rdCells G h (ts.getD n .any) with
    | some (cs, off) => partOf cs off sz
    | none => none
def resL (G : Glob) (ts : List AV) (h : List AO) : List RV → Option (List AV)
  | [] => some []
  | r :: l => match resV G ts h r, resL G ts h l with
    | some v, some vs => some (v :: vs)
    | _, _ => none
def tupOf : List AV → AV
  | [v] => v
  | vs => .tup vs

/-- What stands at a function's end. -/
def endK (G : Glob) (res : List RV) (R : ARes → List AO → Prop) (x : AX) (ts : List AV) (h : List AO) : Prop :=
  match x with
  | .normal | .ret => ∃ vs, resL G ts h res = some vs ∧ R (.ret (tupOf vs)) h
  | .pan t v => R (.pan t v) h
  | .exit _ => False

theorem resV_rel {r : ResultVar} {l : List ResultVar} {r' : RV} {l' : List RV} (hc : compR P (r :: l) = some (r' :: l')) {W : World} {S : Nat → Prop} {φ : Place} {h : List AO} (H : HRel G W S φ h) {ts : List AV} {a : Act} (T : TRel W S φ h.length ts a.tmps) {v : AV}
    (he : resV G ts h r' = some v) :
    compR P l = some l' ∧ ∃ x, ((match r with | .tmp t => pure (a.tmps.getD t undef) | .cell d t => do loadVar t (← asAddr (a.tmps.getD d undef)) : Sem Value)).run P W = .ok x W ∧ VRel W S φ h.length v x := by
  cases r with
  | tmp t =>
    simp only [compR, Option.map_eq_some_iff] at hc
    obtain ⟨l2, h1, h2⟩ := hc
    cases h2
    refine ⟨h1, a.tmps.getD t undef, rfl, ?_⟩
    simp only [resV, Option.some.injEq] at he
    subst he
    exact cop_rel (o := .tmp t) rfl T
  | cell d t =>
    simp only [compR] at hc
    split at hc <;> first | (cases hc; done) | skip
    rename_i sz l2 hr hl
    cases hc
    refine ⟨hl, ?_⟩
    simp only [resV] at he
    split at he <;> first | (cases he; done) | skip
    rename_i cs off e1
    have hrx := cop_rel (o := .tmp d) rfl T
    simp only [AOp.ev, Act.eval] at hrx
    generalize hvx : a.tmps.getD d undef = vx at hrx
    obtain ⟨b, o', rfl, hcell⟩ := rd_rel H hrx e1
    obtain ⟨hA, hz⟩ := run_isAgg hr W
    unfold partOf at he
    split at he
    · split at he
      · rename_i c hcc
        split at he
        · cases he
          obtain ⟨y, k1, k2⟩ := hcell off _ hcc
          exact ⟨y, by simp only [hvx, asAddr]; simp [loadVar, hA, load, Sem.run, k1], k2⟩
        · cases he
      · cases he
    · rename_i m
      split at he
      · rename_i hm
        cases he
        obtain ⟨vs, q1, q2, q3⟩ := choose_vals (W := W) (S := S) (φ := φ) (n := h.length) (b := b) (o' := o' + off) (cs := (cs.drop off).take m) fun j c hj => by
          rw [List.getElem?_take] at hj
          split at hj
          · rw [List.getElem?_drop] at hj
            have := hcell (off + j) c hj
            rwa [← Nat.add_assoc] at this
          · cases hj
        have hlen : vs.length = m := by rw [q1]; simp; omega
        refine ⟨.agg vs.toArray, ?_, .agg _ _ (by simp [q1]) fun j c v e1 e2 => q3 j c v e1 (by simpa using e2)⟩
        have hl := run_loadCells_list (P := P) W ⟨b, o' + off, none⟩ vs fun j v hj => by rw [add_off]; exact q2 j v hj
        rw [hlen] at hl
        simp only [hvx, asAddr]
        simp [loadVar, hA, hz m rfl, hl]
      · cases he

theorem resL_rel {W : World} {S : Nat → Prop} {φ : Place} {h : List AO} (H : HRel G W S φ h) {ts : List AV} {a : Act} (T : TRel W S φ h.length ts a.tmps) : ∀ {l : List ResultVar} {l' : List RV} {vs : List AV}, compR P l = some l' → resL G ts h l' = some vs →
    ∃ xs : List Value, (l.mapM fun r => (match r with | .tmp t => pure (a.tmps.getD t undef) | .cell d t => do loadVar t (← asAddr (a.tmps.getD d undef)) : Sem Value)).run P W = .ok xs W ∧ Ptw W S φ h.length vs xs
  | [], l', vs, hc, he => by cases hc; cases he; exact ⟨[], by simp, rfl, fun j c v h => by simp at h⟩
  | r :: l, l', vs, hc, he => by
    have : ∃ r' l2, l' = r' :: l2 := by
      cases r with
      | tmp t => simp only [compR, Option.map_eq_some_iff] at hc; obtain ⟨l2, _, rfl⟩ := hc; exact ⟨_, _, rfl⟩
      | cell d t => simp only [compR] at hc; split at hc <;> first | (cases hc; done) | (cases hc; exact ⟨_, _, rfl⟩)
    obtain ⟨r', l2, rfl⟩ := this
    simp only [resL] at he
    split at he <;> first | (cases he; done) | skip
    rename_i v vs' h1 h2
    cases he
    obtain ⟨k1, x, k2, k3⟩ := resV_rel hc H T h1
    obtain ⟨xs, k4, k5⟩ := resL_rel H T k1 h2
    refine ⟨x :: xs, ?_, by simp [k5.1], fun j c y e1 e2 => ?_⟩
    · rw [List.mapM_cons]
      simp only [Sem.run_bind, k2, Result.andThen, k4]
      rfl
    · cases j with
      | zero => simp at e1 e2; subst e1; subst e2; exact k3
      | succ j => simp at e1 e2; exact k5.2 j c y e1 e2


/-- The text without cuts. -/
def AK.whole : AK → AK
  | .seq a b => .seq a.whole b.whole
  | .cut a b => .seq a.whole b.whole
  | .cond c a b => .cond c a.whole b.whole
  | .blk id a => .blk id a.whole
  | .loop a => .loop a.whole
  | k => k
theorem KOk.cuts : ∀ {k : AK} {c : Code}, KOk P c k.whole → KOk P c k
  | .skip, _, h => h
  | .reg _, _, h => h
  | .exit _, _, h => h
  | .ret, _, h => h
  | .seq a b, _, h => by
    simp only [AK.whole] at h
    cases h with | seq _ _ _ _ h1 h2 => exact .seq _ _ _ _ h1.cuts h2.cuts
  | .cut a b, _, h => by
    simp only [AK.whole] at h
    cases h with | seq _ _ _ _ h1 h2 => exact .cut _ _ _ _ h1.cuts h2.cuts
  | .cond c a b, _, h => by
    simp only [AK.whole] at h
    cases h with | cond _ _ _ _ _ _ hc h1 h2 => exact .cond _ _ _ _ _ _ hc h1.cuts h2.cuts
  | .blk id a, _, h => by
    simp only [AK.whole] at h
    cases h with | blk _ _ _ h1 => exact .blk _ _ _ h1.cuts
  | .loop a, _, h => by
    simp only [AK.whole] at h
    cases h with | loop _ _ h1 => exact .loop _ _ h1.cuts

/-- A CALL, ENTERED. -/
theorem AC.enterK {f : FuncId} {F : FK} (hF : compF P f = some F) (K : AK) (hK : ∀ c, KOk P c F.ak → KOk P c K) {args : List AV} {h : List AO} {R : ARes → List AO → Prop}
    (H : AKW P G h.length K (args ++ List.replicate (F.ntmps - args.length) .any) h (endK G F.res R)) : AC P G f args h R := by
  unfold compF at hF
  split at hF <;> first | (cases hF; done) | skip
  rename_i fn hf
  split at hF <;> first | (cases hF; done) | skip
  rename_i c hb
  split at hF <;> first | (cases hF; done) | skip
  rename_i ak rs hk hr
  split at hF <;> first | (cases hF; done) | skip
  rename_i hcall
  cases hF
  refine ⟨hcall, fun W S φ vs hH hA => ?_⟩
  have s : St G W S φ h W S φ { tmps := vs ++ Array.replicate (fn.ntmps - vs.size) undef, defers := [] } (args ++ List.replicate (fn.ntmps - args.length) .any) h := by
    refine ⟨hH, ⟨by simp [hA.1], fun i v hi => ?_⟩, rfl, Keep.refl hH⟩
    rw [List.getElem?_append] at hi
    split at hi
    · rename_i hl
      have hl' : i < vs.size := by rw [hA.1]; exact hl
      have : (vs ++ Array.replicate (fn.ntmps - vs.size) undef).getD i undef = vs[i] := by
        rw [Array.getD_eq_getD_getElem?, Array.getElem?_append_left hl', Array.getElem?_eq_getElem hl']; rfl
      simp only
      rw [this]
      exact hA.2 i v _ hi (Array.getElem?_eq_getElem hl')
    · have := List.mem_of_getElem? hi
      rw [(List.mem_replicate.1 this).2]
      exact .any _
  refine calls_of_wp hf hb (wp_mono (AKW_sound (hK _ (compK_ok hk)) s H) fun e a' W' ⟨x, ts, h', S', φ', q1, q2, q3⟩ => ?_)
  have fin : (∃ vs, resL G ts h' rs = some vs ∧ R (.ret (tupOf vs)) h') → a'.defers = [] ∧ ∃ v, (results fn a'.tmps).run P W' = .ok v W' ∧ ∃ r S' φ' h', R r h' ∧ HRel G W' S' φ' h' ∧ ERel W' S' φ' h'.length r (.returned v) ∧ Keep W S φ h W' S' φ' h' := fun ⟨vs, e1, e2⟩ => by
    obtain ⟨xs, k1, k2⟩ := resL_rel q3.hrel q3.trel hr e1
    have hm : (fn.results.mapM fun r => (match r with | .tmp t => pure (a'.tmps.getD t undef) | .cell d t => do loadVar t (← asAddr (a'.tmps.getD d undef)) : Sem Value)).run P W' = .ok xs.toArray W' := by
      rw [Array.mapM_eq_mapM_toList, Sem.run_map, k1]; rfl
    refine ⟨q3.defers, if h : xs.toArray.size = 1 then xs.toArray[0] else .tuple xs.toArray, ?_, .ret (tupOf vs), S', φ', h', e2, q3.hrel, .ret _ _ ?_, q3.keep⟩
    · unfold results
      rw [Sem.run_bind]
      refine (congrArg (fun r => Result.andThen r _) hm).trans ?_
      rfl
    · have hl := k2.1
      match vs, xs, hl, k2 with
      | [], [], _, k2 => exact .tup _ _ rfl fun j c v h1 => by simp at h1
      | [v], [x], _, k2 => exact k2.2 0 v x rfl rfl
      | v :: v' :: r, x :: x' :: r', hl, k2 => exact .tup _ _ (by simpa using hl) fun j c y h1 h2 => k2.2 j c y h1 (by simpa using h2)
  cases q2 with
  | normal => exact fin q1
  | ret => exact fin q1
  | exit id => exact q1.elim
  | pan t v x hp => exact ⟨q3.defers, _, S', φ', h', q1, q3.hrel, .pan t v x hp, q3.keep⟩

theorem AC.enter {f : FuncId} {F : FK} (hF : compF P f = some F) {args : List AV} {h : List AO} {R : ARes → List AO → Prop}
    (H : AKW P G h.length F.ak (args ++ List.replicate (F.ntmps - args.length) .any) h (endK G F.res R)) : AC P G f args h R :=
  AC.enterK hF F.ak (fun _ h => h) H

end
end Go.Aw
/-
  How the walk is reckoned: equations for simp, and congruences that keep it out of what comes later. No program.
-/
namespace Go.Aw

def sel : List AV → Nat → AV
  | [], _ => .any
  | v :: _, 0 => v
  | _ :: r, n + 1 => sel r n
def setL : List AV → Nat → AV → List AV
  | [], _, _ => []
  | _ :: r, 0, v => v :: r
  | a :: r, n + 1, v => a :: setL r n v

theorem sel_eq : ∀ (ts : List AV) (n : Nat), ts.getD n .any = sel ts n
  | [], n => by simp [sel]
  | v :: r, 0 => rfl
  | v :: r, n + 1 => by rw [sel, ← sel_eq r n]; simp
theorem setL_eq : ∀ (ts : List AV) (n : Nat) (v : AV), ts.set n v = setL ts n v
  | [], n, v => rfl
  | a :: r, 0, v => rfl
  | a :: r, n + 1, v => by simp [setL, setL_eq r n v]

@[simp] theorem ev_t (n : Nat) (ts : List AV) : (AOp.t n).ev ts = sel ts n := sel_eq ts n
@[simp] theorem ev_c (v : AV) (ts : List AV) : (AOp.c v).ev ts = v := rfl
@[simp] theorem sel_zero (v : AV) (r : List AV) : sel (v :: r) 0 = v := rfl
@[simp] theorem sel_succ (v : AV) (r : List AV) (n : Nat) : sel (v :: r) (n + 1) = sel r n := rfl
@[simp] theorem setL_zero (a v : AV) (r : List AV) : setL (a :: r) 0 v = v :: r := rfl
@[simp] theorem setL_succ (a v : AV) (r : List AV) (n : Nat) : setL (a :: r) (n + 1) v = a :: setL r n v := rfl
@[simp] theorem put_some (d : Nat) (v : AV) (ts : List AV) : put (some d) v ts = setL ts d v := setL_eq ts d v
@[simp] theorem put_none (v : AV) (ts : List AV) : put none v ts = ts := rfl

/-- What comes behind an operation. -/
def nxt (P : Program) (G : Glob) (d : Option Nat) (r : List CO) (ts : List AV) (K : KT) (Qp : QP) : Option (AV × List AO) → Prop
  | some (v, h) => rK P G r (put d v ts) h K Qp
  | none => False
/-- What comes behind a call. -/
def nxtC (P : Program) (G : Glob) (d : Option Nat) (r : List CO) (ts : List AV) (K : KT) (Qp : QP) : ARes → List AO → Prop
  | .ret v, h => rK P G r (put d v ts) h K Qp
  | .pan t v, h => Qp t v h
/-- What comes behind a call that leaves the memory alone. -/
def quietC (P : Program) (G : Glob) (f : FuncId) (args : List AV) (h : List AO) (d : Option Nat) (r : List CO) (ts : List AV) (K : KT) (Qp : QP) : Prop :=
  ∃ v, AC P G f args h (fun x h' => x = .ret v ∧ h' = h) ∧ rK P G r (put d v ts) h K Qp
/-- What comes behind a call of a function of pure data. -/
def pureC (P : Program) (G : Glob) (f : FuncId) (args : List AV) (h : List AO) (d : Option Nat) (r : List CO) (ts : List AV) (K : KT) (Qp : QP) : Prop :=
  ∃ v, (∀ h, AC P G f args h (fun x h' => x = .ret v ∧ h' = h)) ∧ rK P G r (put d v ts) h K Qp
def callV (P : Program) (G : Glob) (g : AV) (args : List AV) (h : List AO) (R : ARes → List AO → Prop) : Prop :=
  match g with
  | .fn (.func f) caps => AC P G f (args ++ caps) h R
  | _ => False
def quietV (P : Program) (G : Glob) (g : AV) (args : List AV) (h : List AO) (d : Option Nat) (r : List CO) (ts : List AV) (K : KT) (Qp : QP) : Prop :=
  match g with
  | .fn (.func f) caps => quietC P G f (args ++ caps) h d r ts K Qp
  | _ => False
def evs (ts : List AV) : List AOp → List AV
  | [] => []
  | x :: r => x.ev ts :: evs ts r
theorem evs_eq (ts : List AV) : ∀ l : List AOp, l.map (·.ev ts) = evs ts l
  | [] => rfl
  | x :: r => by simp [evs, evs_eq ts r]

section
variable {P : Program} {G : Glob} {d : Option Nat} {r : List CO} {ts ts' : List AV} {h h' : List AO} {K : KT} {Qp : QP}

@[simp] theorem nxt_some (v : AV) (h : List AO) : nxt P G d r ts K Qp (some (v, h)) = rK P G r (put d v ts) h K Qp := rfl
@[simp] theorem nxt_none : nxt P G d r ts K Qp none = False := rfl
@[simp] theorem nxt_ite (c : Prop) [Decidable c] (x : Option (AV × List AO)) : nxt P G d r ts K Qp (if c then x else none) = (c ∧ nxt P G d r ts K Qp x) := by
  split
  · rename_i hc; exact propext ⟨fun h => ⟨hc, h⟩, fun h => h.2⟩
  · rename_i hc; exact propext ⟨fun h => h.elim, fun h => (hc h.1).elim⟩
@[simp] theorem nxtC_ret (v : AV) (h : List AO) : nxtC P G d r ts K Qp (.ret v) h = rK P G r (put d v ts) h K Qp := rfl
@[simp] theorem nxtC_pan (t : TypeId) (v : PV) (h : List AO) : nxtC P G d r ts K Qp (.pan t v) h = Qp t v h := rfl
@[simp] theorem callV_fn (f : FuncId) (caps args : List AV) (R : ARes → List AO → Prop) : callV P G (.fn (.func f) caps) args h R = AC P G f (args ++ caps) h R := rfl
@[simp] theorem quietV_fn (f : FuncId) (caps args : List AV) : quietV P G (.fn (.func f) caps) args h d r ts K Qp = quietC P G f (args ++ caps) h d r ts K Qp := rfl
@[simp] theorem evs_nil : evs ts [] = [] := rfl
@[simp] theorem evs_cons (x : AOp) (l : List AOp) : evs ts (x :: l) = x.ev ts :: evs ts l := rfl

theorem okE_nxt (x : Option (AV × List AO)) : okE x (fun v h' => rK P G r (put d v ts) h' K Qp) = nxt P G d r ts K Qp x := by
  cases x with
  | none => exact propext ⟨fun ⟨v, h', e, _⟩ => (by cases e), fun h => h.elim⟩
  | some q => obtain ⟨v, h'⟩ := q; exact propext ⟨fun ⟨v', h2, e, k⟩ => (by cases e; exact k), fun k => ⟨v, h', rfl, k⟩⟩

@[simp] theorem rK_nil : rK P G [] ts h K Qp = K ts h := rfl
theorem rK_ev (ai : AI) (hp : ai.plain = true) : rK P G (⟨d, none, ai⟩ :: r) ts h K Qp = nxt P G d r ts K Qp (ev G ts h ai) := by
  rw [← okE_nxt]
  show oK P G ai ts h _ Qp = _
  unfold oK
  cases ai <;> first | rfl | (simp [AI.plain] at hp)
theorem callR_nxt : callR (fun v h' => rK P G r (put d v ts) h' K Qp) Qp = nxtC P G d r ts K Qp := by funext x h'; cases x <;> rfl
@[simp] theorem rK_call (f : FuncId) (l : List AOp) : rK P G (⟨d, none, .call f l⟩ :: r) ts h K Qp = AC P G f (evs ts l) h (nxtC P G d r ts K Qp) := by
  rw [← evs_eq, ← callR_nxt]; rfl
@[simp] theorem rK_callv (g : AOp) (l : List AOp) : rK P G (⟨d, none, .callv g l⟩ :: r) ts h K Qp = callV P G (g.ev ts) (evs ts l) h (nxtC P G d r ts K Qp) := by
  rw [← evs_eq, ← callR_nxt]; rfl
@[simp] theorem rK_qcall (f : FuncId) (l : List AOp) : rK P G (⟨d, none, .qcall f l⟩ :: r) ts h K Qp = quietC P G f (evs ts l) h d r ts K Qp := by
  rw [← evs_eq]; rfl
@[simp] theorem rK_qcallv (g : AOp) (l : List AOp) : rK P G (⟨d, none, .qcallv g l⟩ :: r) ts h K Qp = quietV P G (g.ev ts) (evs ts l) h d r ts K Qp := by
  rw [← evs_eq]; rfl

/-- A guarded operation. -/
def grd (w : Bool) (A B : Prop) : AV → Prop
  | .p (.bool b) => Cnd (if w then b else !b) A B
  | .tup [] => B
  | _ => False
@[simp] theorem rK_guard (j : Nat) (w : Bool) (ai : AI) : rK P G (⟨d, some (j, w), ai⟩ :: r) ts h K Qp = grd w (rK P G (⟨d, none, ai⟩ :: r) ts h K Qp) (rK P G r (put d (.tup []) ts) h K Qp) (sel ts j) := by
  rw [← sel_eq]; rfl
@[simp] theorem grd_t (A B : Prop) (b : Bool) : grd true A B (.p (.bool b)) = Cnd b A B := rfl
@[simp] theorem grd_und (w : Bool) (A B : Prop) : grd w A B (.tup []) = B := rfl
@[simp] theorem grd_f (A B : Prop) (b : Bool) : grd false A B (.p (.bool b)) = Cnd (!b) A B := rfl
@[simp] theorem Cnd_true (A B : Prop) : Cnd true A B = A := propext ⟨fun h => h.1 rfl, fun h => ⟨fun _ => h, fun e => (by cases e)⟩⟩
@[simp] theorem Cnd_false (A B : Prop) : Cnd false A B = B := propext ⟨fun h => h.2 rfl, fun h => ⟨fun e => (by cases e), fun _ => h⟩⟩

theorem cnd {b : Bool} {A B : Prop} (h1 : b = true → A) (h2 : b = false → B) : Cnd b A B := ⟨h1, h2⟩

/-! ### Code -/
def seqK (P : Program) (G : Glob) (k : Nat) (b : AK) (Q : AX → List AV → List AO → Prop) (x : AX) (ts : List AV) (h : List AO) : Prop :=
  match x with
  | .normal => AKW P G k b ts h Q
  | x => Q x ts h
def blkK (id : Nat) (Q : AX → List AV → List AO → Prop) (x : AX) (ts : List AV) (h : List AO) : Prop :=
  match x with
  | .exit i => if i = id then Q .normal ts h else Q (.exit i) ts h
  | x => Q x ts h
def panK (Q : AX → List AV → List AO → Prop) : QP := fun t v h => ∀ ts, Q (.pan t v) ts h
/-- One of two ways, by a slot. -/
def cndV (A B : Prop) : AV → Prop
  | .p (.bool b) => Cnd b A B
  | _ => False
def norK (Q : AX → List AV → List AO → Prop) : KT := fun ts h => Q .normal ts h

variable {k : Nat} {Q : AX → List AV → List AO → Prop}
@[simp] theorem AKW_skip : AKW P G k .skip ts h Q = Q .normal ts h := rfl
@[simp] theorem AKW_reg (cs : List CO) : AKW P G k (.reg cs) ts h Q = rK P G cs ts h (norK Q) (panK Q) := rfl
@[simp] theorem AKW_seq (a b : AK) : AKW P G k (.seq a b) ts h Q = AKW P G k a ts h (seqK P G k b Q) := rfl
@[simp] theorem AKW_cond (c : AOp) (a b : AK) : AKW P G k (.cond c a b) ts h Q = cndV (AKW P G k a ts h Q) (AKW P G k b ts h Q) (c.ev ts) := rfl
@[simp] theorem AKW_blk (id : Nat) (a : AK) : AKW P G k (.blk id a) ts h Q = AKW P G k a ts h (blkK id Q) := rfl
@[simp] theorem AKW_exit (id : Nat) : AKW P G k (.exit id) ts h Q = Q (.exit id) ts h := rfl
@[simp] theorem AKW_ret : AKW P G k .ret ts h Q = Q .ret ts h := rfl
@[simp] theorem cndV_b (A B : Prop) (b : Bool) : cndV A B (.p (.bool b)) = Cnd b A B := rfl
@[simp] theorem norK_app : norK Q ts h = Q .normal ts h := rfl
@[simp] theorem panK_app (t : TypeId) (v : PV) : panK Q t v h = ∀ ts, Q (.pan t v) ts h := rfl
@[simp] theorem seqK_normal (b : AK) : seqK P G k b Q .normal ts h = AKW P G k b ts h Q := rfl
@[simp] theorem seqK_exit (b : AK) (i : Nat) : seqK P G k b Q (.exit i) ts h = Q (.exit i) ts h := rfl
@[simp] theorem seqK_ret (b : AK) : seqK P G k b Q .ret ts h = Q .ret ts h := rfl
@[simp] theorem seqK_pan (b : AK) (t : TypeId) (v : PV) : seqK P G k b Q (.pan t v) ts h = Q (.pan t v) ts h := rfl
@[simp] theorem blkK_normal (id : Nat) : blkK id Q .normal ts h = Q .normal ts h := rfl
@[simp] theorem blkK_exit (id i : Nat) : blkK id Q (.exit i) ts h = if i = id then Q .normal ts h else Q (.exit i) ts h := rfl
@[simp] theorem blkK_ret (id : Nat) : blkK id Q .ret ts h = Q .ret ts h := rfl
@[simp] theorem blkK_pan (id : Nat) (t : TypeId) (v : PV) : blkK id Q (.pan t v) ts h = Q (.pan t v) ts h := rfl

/-! ### The end of a function -/
def endR (R : ARes → List AO → Prop) (h : List AO) : Option (List AV) → Prop
  | some vs => R (.ret (tupOf vs)) h
  | none => False
@[simp] theorem endR_some (R : ARes → List AO → Prop) (vs : List AV) : endR R h (some vs) = R (.ret (tupOf vs)) h := rfl
@[simp] theorem endK_ret (res : List RV) (R : ARes → List AO → Prop) : endK G res R .ret ts h = endR R h (resL G ts h res) := by
  unfold endK endR
  cases hr : resL G ts h res with
  | none => exact propext ⟨fun ⟨vs, e, _⟩ => (by simp at e), fun h => h.elim⟩
  | some vs => exact propext ⟨fun ⟨vs', e, k⟩ => (by cases e; exact k), fun k => ⟨vs, rfl, k⟩⟩
@[simp] theorem endK_normal (res : List RV) (R : ARes → List AO → Prop) : endK G res R .normal ts h = endR R h (resL G ts h res) := endK_ret res R
@[simp] theorem endK_pan (res : List RV) (R : ARes → List AO → Prop) (t : TypeId) (v : PV) : endK G res R (.pan t v) ts h = R (.pan t v) h := rfl
@[simp] theorem resL_nil : resL G ts h [] = some [] := rfl
@[simp] theorem resL_t (n : Nat) (l : List RV) : resL G ts h (.t n :: l) = (resL G ts h l).map (sel ts n :: ·) := by
  simp only [resL, resV, sel_eq]; cases resL G ts h l <;> rfl
@[simp] theorem tupOf_one (v : AV) : tupOf [v] = v := rfl
@[simp] theorem tupOf_nil : tupOf [] = .tup [] := rfl
@[simp] theorem tupOf_two (v w : AV) (l : List AV) : tupOf (v :: w :: l) = .tup (v :: w :: l) := rfl
/-- A result that lies in a cell. -/
def cellR (sz : Option Nat) : Option (List AV × Nat) → Option AV
  | some (cs, off) => partOf cs off sz
  | none => none
@[simp] theorem cellR_some (sz : Option Nat) (cs : List AV) (off : Nat) : cellR sz (some (cs, off)) = partOf cs off sz := rfl
@[simp] theorem resL_c (n : Nat) (sz : Option Nat) (l : List RV) : resL G ts h (.c n sz :: l) = (cellR sz (rdCells G h (sel ts n))).bind fun v => (resL G ts h l).map (v :: ·) := by
  simp only [resL, resV, sel_eq]
  cases hr : rdCells G h (sel ts n) with
  | none => rfl
  | some q =>
    obtain ⟨cs, off⟩ := q
    simp only [cellR]
    cases partOf cs off sz with
    | none => rfl
    | some v => cases resL G ts h l <;> rfl

/-! ### Congruences: what comes later is left alone -/
@[congr] theorem rK_congr {cs : List CO} (e1 : ts = ts') (e2 : h = h') : rK P G cs ts h K Qp = rK P G cs ts' h' K Qp := by rw [e1, e2]
@[congr] theorem nxt_congr {x x' : Option (AV × List AO)} (e : x = x') : nxt P G d r ts K Qp x = nxt P G d r ts K Qp x' := by rw [e]
@[congr] theorem AC_congr {f : FuncId} {a a' : List AV} {R : ARes → List AO → Prop} (e1 : a = a') (e2 : h = h') : AC P G f a h R = AC P G f a' h' R := by rw [e1, e2]
@[congr] theorem AKW_congr {c : AK} (e1 : ts = ts') (e2 : h = h') : AKW P G k c ts h Q = AKW P G k c ts' h' Q := by rw [e1, e2]
@[congr] theorem Cnd_congr {b b' : Bool} {A B : Prop} (e : b = b') : Cnd b A B = Cnd b' A B := by rw [e]
@[congr] theorem cndV_congr {v v' : AV} {A B : Prop} (e : v = v') : cndV A B v = cndV A B v' := by rw [e]
@[congr] theorem grd_congr {v v' : AV} {w : Bool} {A B : Prop} (e : v = v') : grd w A B v = grd w A B v' := by rw [e]
@[congr] theorem callV_congr {g g' : AV} {a a' : List AV} {R : ARes → List AO → Prop} (e1 : g = g') (e2 : a = a') (e3 : h = h') : callV P G g a h R = callV P G g' a' h' R := by rw [e1, e2, e3]
@[congr] theorem quietV_congr {g g' : AV} {a a' : List AV} (e1 : g = g') (e2 : a = a') (e3 : h = h') : quietV P G g a h d r ts K Qp = quietV P G g' a' h' d r ts K Qp := by rw [e1, e2, e3]
@[congr] theorem quietC_congr {f : FuncId} {a a' : List AV} (e2 : a = a') (e3 : h = h') : quietC P G f a h d r ts K Qp = quietC P G f a' h' d r ts K Qp := by rw [e2, e3]
@[congr] theorem pureC_congr {f : FuncId} {a a' : List AV} (e2 : a = a') (e3 : h = h') : pureC P G f a h d r ts K Qp = pureC P G f a' h' d r ts K Qp := by rw [e2, e3]
@[congr] theorem seqK_congr {b : AK} {x x' : AX} (e : x = x') (e1 : ts = ts') (e2 : h = h') : seqK P G k b Q x ts h = seqK P G k b Q x' ts' h' := by rw [e, e1, e2]
@[congr] theorem nxtC_congr {x x' : ARes} (e : x = x') (e2 : h = h') : nxtC P G d r ts K Qp x h = nxtC P G d r ts K Qp x' h' := by rw [e, e2]
@[congr] theorem endK_congr {res : List RV} {R : ARes → List AO → Prop} {x x' : AX} (e : x = x') (e1 : ts = ts') (e2 : h = h') : endK G res R x ts h = endK G res R x' ts' h' := by rw [e, e1, e2]

end

/-! ### The operations' own equations -/
attribute [simp] ev un rdCells elems lenOf intB shB strB' pairP f_bin f_bins f_beq f_mx f_mn isNil isNilK partOf fillA lo? hi? cutS cutStr chunks bytesOf bytesA kindOf AV.isCell AV.cells splice
section
variable {P : Program} {G : Glob} {d : Option Nat} {r : List CO} {ts : List AV} {h : List AO} {K : KT} {Qp : QP}
@[simp] theorem rK_mov (x : AOp) : rK P G (⟨d, none, .mov x⟩ :: r) ts h K Qp = rK P G r (put d (x.ev ts) ts) h K Qp := rK_ev _ rfl
end
section
variable {P : Program} {G : Glob} {d : Option Nat} {r : List CO} {ts : List AV} {h : List AO} {K : KT} {Qp : QP}
@[simp] theorem rK_nilck (x : AOp) : rK P G (⟨d, none, .nilck x⟩ :: r) ts h K Qp = nxt P G d r ts K Qp (ev G ts h (.nilck x)) := rK_ev _ rfl
@[simp] theorem rK_not (x : AOp) : rK P G (⟨d, none, .not x⟩ :: r) ts h K Qp = nxt P G d r ts K Qp (ev G ts h (.not x)) := rK_ev _ rfl
@[simp] theorem rK_neg (x : AOp) : rK P G (⟨d, none, .neg x⟩ :: r) ts h K Qp = nxt P G d r ts K Qp (ev G ts h (.neg x)) := rK_ev _ rfl
@[simp] theorem rK_bin (op : BinOp) (x y : AOp) : rK P G (⟨d, none, .bin op x y⟩ :: r) ts h K Qp = nxt P G d r ts K Qp (ev G ts h (.bin op x y)) := rK_ev _ rfl
@[simp] theorem rK_bins (op : BinOp) (x y : AOp) : rK P G (⟨d, none, .bins op x y⟩ :: r) ts h K Qp = nxt P G d r ts K Qp (ev G ts h (.bins op x y)) := rK_ev _ rfl
@[simp] theorem rK_beq (ne : Bool) (x y : AOp) : rK P G (⟨d, none, .beq ne x y⟩ :: r) ts h K Qp = nxt P G d r ts K Qp (ev G ts h (.beq ne x y)) := rK_ev _ rfl
@[simp] theorem rK_pnil (kd : Nat) (ne : Bool) (x : AOp) : rK P G (⟨d, none, .pnil kd ne x⟩ :: r) ts h K Qp = nxt P G d r ts K Qp (ev G ts h (.pnil kd ne x)) := rK_ev _ rfl
@[simp] theorem rK_conv (k : IntKind) (x : AOp) : rK P G (⟨d, none, .conv k x⟩ :: r) ts h K Qp = nxt P G d r ts K Qp (ev G ts h (.conv k x)) := rK_ev _ rfl
@[simp] theorem rK_fldv (off : Nat) (sz : Option Nat) (x : AOp) : rK P G (⟨d, none, .fldv off sz x⟩ :: r) ts h K Qp = nxt P G d r ts K Qp (ev G ts h (.fldv off sz x)) := rK_ev _ rfl
@[simp] theorem rK_ext (i : Nat) (x : AOp) : rK P G (⟨d, none, .ext i x⟩ :: r) ts h K Qp = nxt P G d r ts K Qp (ev G ts h (.ext i x)) := rK_ev _ rfl
@[simp] theorem rK_fldA (off : Nat) (x : AOp) : rK P G (⟨d, none, .fldA off x⟩ :: r) ts h K Qp = nxt P G d r ts K Qp (ev G ts h (.fldA off x)) := rK_ev _ rfl
/-- An element's place. -/
def idxR (h : List AO) (esz : Nat) : AV → AV → Option (AV × List AO)
  | .p (.lst sz es), .p (.int _ n) => if sz = esz ∧ 0 ≤ n then (es[n.toNat]?).map fun e => (.eptr e 0, h) else none
  | .sl id sz off len, .p (.int _ n) => if sz = esz ∧ 0 ≤ n ∧ n < len then some (.ptr id esz (off + n.toNat) 0, h) else none
  | _, _ => none
theorem ev_idxS (esz : Nat) (x y : AOp) : ev G ts h (.idxS esz x y) = idxR h esz (x.ev ts) (y.ev ts) := by
  simp only [ev]
  cases x.ev ts <;> try rfl
  all_goals (rename_i a; first | (cases a <;> first | rfl | (cases y.ev ts <;> try rfl); (rename_i b; cases b <;> rfl)) | (cases y.ev ts <;> try rfl); (rename_i b; cases b <;> rfl))
@[simp] theorem idxR_p (esz sz : Nat) (es : List (List PV)) (k : IntKind) (n : Int) : idxR h esz (.p (.lst sz es)) (.p (.int k n)) = if sz = esz ∧ 0 ≤ n then (es[n.toNat]?).map fun e => (.eptr e 0, h) else none := rfl
@[simp] theorem idxR_sl (esz id sz off len : Nat) (k : IntKind) (n : Int) : idxR h esz (.sl id sz off len) (.p (.int k n)) = if sz = esz ∧ 0 ≤ n ∧ n < len then some (.ptr id esz (off + n.toNat) 0, h) else none := rfl
@[simp] theorem rK_idxS (esz : Nat) (x y : AOp) : rK P G (⟨d, none, .idxS esz x y⟩ :: r) ts h K Qp = nxt P G d r ts K Qp (idxR h esz (x.ev ts) (y.ev ts)) := by
  rw [← ev_idxS (G := G)]; exact rK_ev _ rfl
@[simp] theorem rK_idxA (n esz : Nat) (x i : AOp) : rK P G (⟨d, none, .idxA n esz x i⟩ :: r) ts h K Qp = nxt P G d r ts K Qp (ev G ts h (.idxA n esz x i)) := rK_ev _ rfl
@[simp] theorem rK_idxStr (x i : AOp) : rK P G (⟨d, none, .idxStr x i⟩ :: r) ts h K Qp = nxt P G d r ts K Qp (ev G ts h (.idxStr x i)) := rK_ev _ rfl
@[simp] theorem rK_len (s : Bool) (x : AOp) : rK P G (⟨d, none, .len s x⟩ :: r) ts h K Qp = nxt P G d r ts K Qp (ev G ts h (.len s x)) := rK_ev _ rfl
@[simp] theorem rK_mx (x y : AOp) : rK P G (⟨d, none, .mx x y⟩ :: r) ts h K Qp = nxt P G d r ts K Qp (ev G ts h (.mx x y)) := rK_ev _ rfl
@[simp] theorem rK_mn (x y : AOp) : rK P G (⟨d, none, .mn x y⟩ :: r) ts h K Qp = nxt P G d r ts K Qp (ev G ts h (.mn x y)) := rK_ev _ rfl
@[simp] theorem rK_ld (sz : Option Nat) (x : AOp) : rK P G (⟨d, none, .ld sz x⟩ :: r) ts h K Qp = nxt P G d r ts K Qp (ev G ts h (.ld sz x)) := rK_ev _ rfl
@[simp] theorem rK_st (n : Nat) (x y : AOp) : rK P G (⟨d, none, .st n x y⟩ :: r) ts h K Qp = nxt P G d r ts K Qp (ev G ts h (.st n x y)) := rK_ev _ rfl
@[simp] theorem rK_box (n : Nat) (x : AOp) : rK P G (⟨d, none, .box n x⟩ :: r) ts h K Qp = nxt P G d r ts K Qp (ev G ts h (.box n x)) := rK_ev _ rfl
@[simp] theorem rK_alloc (z : List AV) : rK P G (⟨d, none, .alloc z⟩ :: r) ts h K Qp = nxt P G d r ts K Qp (ev G ts h (.alloc z)) := rK_ev _ rfl
@[simp] theorem rK_bld (z : List AV) (ps : List (Nat × Nat × AOp)) : rK P G (⟨d, none, .bld z ps⟩ :: r) ts h K Qp = nxt P G d r ts K Qp (ev G ts h (.bld z ps)) := rK_ev _ rfl
/-- What comes behind a look whether a slice is nil. -/
def nilS (ne : Bool) (h : List AO) (K : AV → List AO → Prop) : AV → Prop
  | .nils => K (.p (.bool (!ne))) h
  | .p (.lst _ []) => K (.p (.bool true)) h ∧ K (.p (.bool false)) h
  | .p (.lst _ (_ :: _)) => K (.p (.bool ne)) h
  | .sl _ _ _ len => 0 < len ∧ K (.p (.bool ne)) h
  | _ => False
@[simp] theorem rK_bad : rK P G (⟨d, none, .bad⟩ :: r) ts h K Qp = False := rfl
@[simp] theorem rK_snil (ne : Bool) (x : AOp) : rK P G (⟨d, none, .snil ne x⟩ :: r) ts h K Qp = nilS ne h (fun v h' => rK P G r (put d v ts) h' K Qp) (x.ev ts) := by
  show oK P G (.snil ne x) ts h (fun v h' => rK P G r (put d v ts) h' K Qp) Qp = _
  simp only [oK]
  generalize x.ev ts = y
  cases y <;> first
    | rfl
    | (rename_i v; cases v <;> first | rfl | (rename_i l; cases l <;> rfl))
@[simp] theorem nilS_nils (ne : Bool) (K1 : AV → List AO → Prop) : nilS ne h K1 .nils = K1 (.p (.bool (!ne))) h := rfl
@[simp] theorem nilS_nil (ne : Bool) (sz : Nat) (K1 : AV → List AO → Prop) : nilS ne h K1 (.p (.lst sz [])) = (K1 (.p (.bool true)) h ∧ K1 (.p (.bool false)) h) := rfl
@[simp] theorem nilS_cons (ne : Bool) (sz : Nat) (x : List PV) (l : List (List PV)) (K1 : AV → List AO → Prop) : nilS ne h K1 (.p (.lst sz (x :: l))) = K1 (.p (.bool ne)) h := rfl
@[simp] theorem nilS_sl (ne : Bool) (id sz off len : Nat) (K1 : AV → List AO → Prop) : nilS ne h K1 (.sl id sz off len) = (0 < len ∧ K1 (.p (.bool ne)) h) := rfl
@[simp] theorem rK_idxV (m esz : Nat) (q : Option Nat) (x y : AOp) : rK P G (⟨d, none, .idxV m esz q x y⟩ :: r) ts h K Qp = nxt P G d r ts K Qp (ev G ts h (.idxV m esz q x y)) := by
  rw [← okE_nxt]; rfl
@[simp] theorem rK_bslP (esz : Nat) (z : List AV) (n : Nat) (ps : List (Nat × Nat × AOp)) : rK P G (⟨d, none, .bslP esz z n ps⟩ :: r) ts h K Qp = nxt P G d r ts K Qp (ev G ts h (.bslP esz z n ps)) := by
  rw [← okE_nxt]; rfl
@[simp] theorem rK_pcall (f : FuncId) (l : List AOp) : rK P G (⟨d, none, .pcall f l⟩ :: r) ts h K Qp = pureC P G f (evs ts l) h d r ts K Qp := by
  rw [← evs_eq]; rfl
@[simp] theorem rK_chk (sz : Option Nat) (n e : Nat) : rK P G (⟨none, none, .chk sz n e⟩ :: r) ts h K Qp = (ev G ts h (.ld sz (.t n)) = some (sel ts e, h) ∧ rK P G r ts h K Qp) := by
  rw [← sel_eq]; rfl
@[simp] theorem rK_bsl (esz : Nat) (z : List AV) (n : Nat) (ps : List (Nat × Nat × AOp)) : rK P G (⟨d, none, .bsl esz z n ps⟩ :: r) ts h K Qp = nxt P G d r ts K Qp (ev G ts h (.bsl esz z n ps)) := rK_ev _ rfl
@[simp] theorem rK_mks (esz b : Nat) (z : List AV) (l c : AOp) : rK P G (⟨d, none, .mks esz b z l c⟩ :: r) ts h K Qp = nxt P G d r ts K Qp (ev G ts h (.mks esz b z l c)) := rK_ev _ rfl
@[simp] theorem rK_slS (esz : Nat) (x : AOp) (l m : Option AOp) : rK P G (⟨d, none, .slS esz x l m⟩ :: r) ts h K Qp = nxt P G d r ts K Qp (ev G ts h (.slS esz x l m)) := rK_ev _ rfl
@[simp] theorem rK_slStr (x : AOp) (l m : Option AOp) : rK P G (⟨d, none, .slStr x l m⟩ :: r) ts h K Qp = nxt P G d r ts K Qp (ev G ts h (.slStr x l m)) := rK_ev _ rfl
@[simp] theorem rK_slA (n esz : Nat) (x : AOp) (l m : Option AOp) : rK P G (⟨d, none, .slA n esz x l m⟩ :: r) ts h K Qp = nxt P G d r ts K Qp (ev G ts h (.slA n esz x l m)) := rK_ev _ rfl
/-- What is added to a slice. -/
def appR (h : List AO) (esz bytes : Nat) : Option (List (List AV)) → AV → Option (AV × List AO)
  | none, _ => none
  | some xs, .nils => if xs.length * bytes ≤ 140737488355328 ∧ xs.length ≤ 140737488355328 then
      if xs = [] then some (.nils, h) else some (.sl h.length esz 0 xs.length, h ++ [.row esz xs]) else none
  | some xs, .sl id sz off len => match h[id]? with
    | some (.row sz' es) => if sz' = esz ∧ sz = esz ∧ off + len ≤ es.length ∧ (len + xs.length) * bytes ≤ 140737488355328 ∧ len + xs.length ≤ 140737488355328 then
        some (.sl h.length esz 0 (len + xs.length), h.set id .dead ++ [.row esz ((es.drop off).take len ++ xs)]) else none
    | _ => none
  | some _, _ => none
theorem ev_app (esz b : Nat) (s x : AOp) : ev G ts h (.app esz b s x) = appR h esz b (elems h esz (x.ev ts)) (s.ev ts) := by
  simp only [ev]
  cases elems h esz (x.ev ts) with
  | none => rfl
  | some xs => cases s.ev ts <;> rfl
@[simp] theorem appR_none (esz b : Nat) (s : AV) : appR h esz b none s = none := rfl
@[simp] theorem appR_nils (esz b : Nat) (xs : List (List AV)) : appR h esz b (some xs) .nils = if xs.length * b ≤ 140737488355328 ∧ xs.length ≤ 140737488355328 then
      if xs = [] then some (.nils, h) else some (.sl h.length esz 0 xs.length, h ++ [.row esz xs]) else none := rfl
@[simp] theorem appR_sl (esz b : Nat) (xs : List (List AV)) (id sz off len : Nat) : appR h esz b (some xs) (.sl id sz off len) = match h[id]? with
    | some (.row sz' es) => if sz' = esz ∧ sz = esz ∧ off + len ≤ es.length ∧ (len + xs.length) * b ≤ 140737488355328 ∧ len + xs.length ≤ 140737488355328 then
        some (.sl h.length esz 0 (len + xs.length), h.set id .dead ++ [.row esz ((es.drop off).take len ++ xs)]) else none
    | _ => none := rfl
@[simp] theorem rK_app (esz b : Nat) (s x : AOp) : rK P G (⟨d, none, .app esz b s x⟩ :: r) ts h K Qp = nxt P G d r ts K Qp (appR h esz b (elems h esz (x.ev ts)) (s.ev ts)) := by
  rw [← ev_app (G := G)]; exact rK_ev _ rfl
@[simp] theorem rK_mkf (f : Fn) (cs : List AOp) : rK P G (⟨d, none, .mkf f cs⟩ :: r) ts h K Qp = nxt P G d r ts K Qp (ev G ts h (.mkf f cs)) := rK_ev _ rfl
@[simp] theorem rK_strB (x : AOp) : rK P G (⟨d, none, .strB x⟩ :: r) ts h K Qp = nxt P G d r ts K Qp (ev G ts h (.strB x)) := rK_ev _ rfl
@[simp] theorem rK_pick (x y z : AOp) : rK P G (⟨d, none, .pick x y z⟩ :: r) ts h K Qp = nxt P G d r ts K Qp (ev G ts h (.pick x y z)) := rK_ev _ rfl
@[simp] theorem rK_copy (esz : Nat) (x y : AOp) : rK P G (⟨d, none, .copy esz x y⟩ :: r) ts h K Qp = nxt P G d r ts K Qp (ev G ts h (.copy esz x y)) := rK_ev _ rfl
@[simp] theorem rK_btos (x : AOp) : rK P G (⟨d, none, .btos x⟩ :: r) ts h K Qp = nxt P G d r ts K Qp (ev G ts h (.btos x)) := rK_ev _ rfl
@[simp] theorem rK_mkm : rK P G (⟨d, none, .mkm⟩ :: r) ts h K Qp = nxt P G d r ts K Qp (ev G ts h .mkm) := rK_ev _ rfl
@[simp] theorem rK_lk (kd : Nat) (z : AV) (c : Bool) (x y : AOp) : rK P G (⟨d, none, .lk kd z c x y⟩ :: r) ts h K Qp = nxt P G d r ts K Qp (ev G ts h (.lk kd z c x y)) := rK_ev _ rfl
@[simp] theorem rK_mup (kd : Nat) (x y z : AOp) : rK P G (⟨d, none, .mup kd x y z⟩ :: r) ts h K Qp = nxt P G d r ts K Qp (ev G ts h (.mup kd x y z)) := rK_ev _ rfl
@[simp] theorem rK_rngS (x : AOp) : rK P G (⟨d, none, .rngS x⟩ :: r) ts h K Qp = nxt P G d r ts K Qp (ev G ts h (.rngS x)) := rK_ev _ rfl
@[simp] theorem rK_nxtS (x : AOp) : rK P G (⟨d, none, .nxtS x⟩ :: r) ts h K Qp = nxt P G d r ts K Qp (ev G ts h (.nxtS x)) := rK_ev _ rfl
@[simp] theorem rK_aeq (ks : List Nat) (ne : Bool) (x y : AOp) : rK P G (⟨d, none, .aeq ks ne x y⟩ :: r) ts h K Qp = nxt P G d r ts K Qp (ev G ts h (.aeq ks ne x y)) := rK_ev _ rfl
end
end Go.Aw
/-
  Loops over the abstract state; calls with pure arguments. No program.
-/
namespace Go.Aw

/-- n slots, some of them known. -/
def slots (n : Nat) (l : List (Nat × AV)) : List AV := l.foldl (fun ts x => setL ts x.1 x.2) (List.replicate n .any)

section
variable {P : Program} {G : Glob} {k : Nat} {Q : AX → List AV → List AO → Prop} {ts : List AV} {h : List AO}

theorem oK_monoP {ai : AI} {ts : List AV} {h : List AO} {K : AV → List AO → Prop} {Qp Qp' : QP} (hp : ∀ t v h, Qp t v h → Qp' t v h) (H : oK P G ai ts h K Qp) : oK P G ai ts h K Qp' := by
  have hc : ∀ r h', callR K Qp r h' → callR K Qp' r h' := fun r h' => by cases r <;> first | exact id | exact hp _ _ _
  cases ai
  case call f args => exact AC.mono H hc
  case callv g args =>
    revert H
    simp only [oK]
    generalize g.ev ts = y
    intro H
    cases y <;> first
      | exact H.elim
      | (rename_i f caps; cases f <;> first | exact H.elim | exact AC.mono H hc)
  all_goals exact H

theorem rK_monoP : ∀ {cs : List CO} {ts : List AV} {h : List AO} {K : KT} {Qp Qp' : QP}, (∀ t v h, Qp t v h → Qp' t v h) → rK P G cs ts h K Qp → rK P G cs ts h K Qp'
  | [], _, _, _, _, _, _, H => H
  | c :: r, ts, h, K, Qp, Qp', hp, H => by
    have H2 : sK P G c ts h (fun ts' h' => rK P G r ts' h' K Qp') Qp := sK_mono (fun ts' h' _ => rK_monoP hp) H
    exact gK_mono (oK_monoP hp) id H2

/-- What a round has to leave. -/
def loopK {α : Type} (k : Nat) (T : α → List AV) (H : α → List AO) (inv : α → Prop) (μ : α → Nat) (a : α) (Q : AX → List AV → List AO → Prop) (x : AX) (ts : List AV) (h : List AO) : Prop :=
  match x with
  | .normal => ∃ a', inv a' ∧ μ a' < μ a ∧ Wk k ts h (T a') (H a')
  | x => Q x ts h
section
variable {α : Type} {T : α → List AV} {H : α → List AO} {inv : α → Prop} {μ : α → Nat} {a : α}
@[simp] theorem loopK_normal : loopK k T H inv μ a Q .normal ts h = ∃ a', inv a' ∧ μ a' < μ a ∧ Wk k ts h (T a') (H a') := rfl
@[simp] theorem loopK_exit (i : Nat) : loopK k T H inv μ a Q (.exit i) ts h = Q (.exit i) ts h := rfl
@[simp] theorem loopK_ret : loopK k T H inv μ a Q .ret ts h = Q .ret ts h := rfl
@[simp] theorem loopK_pan (t : TypeId) (v : PV) : loopK k T H inv μ a Q (.pan t v) ts h = Q (.pan t v) ts h := rfl
end

theorem AKW_mono : ∀ {c : AK} {ts : List AV} {h : List AO} {Q Q' : AX → List AV → List AO → Prop}, (∀ x ts h, Q x ts h → Q' x ts h) → AKW P G k c ts h Q → AKW P G k c ts h Q' := by
  intro c
  induction c with
  | skip => intro ts h Q Q' hq H; exact hq _ _ _ H
  | reg cs =>
    intro ts h Q Q' hq H
    simp only [AKW] at H ⊢
    exact rK_mono (fun ts' h' => hq _ _ _) (rK_monoP (fun t v h' hh ts' => hq _ _ _ (hh ts')) H)
  | seq a b ih1 ih2 =>
    intro ts h Q Q' hq H
    refine ih1 (fun x ts' h' hx => ?_) H
    cases x <;> first | exact ih2 hq hx | exact hq _ _ _ hx
  | cut a b ih1 ih2 =>
    intro ts h Q Q' hq ⟨J, H, HJ⟩
    refine ⟨J, ih1 (fun x ts' h' hx => ?_) H, fun ts1 h1 j => ih2 hq (HJ ts1 h1 j)⟩
    cases x <;> first | exact hx | exact hq _ _ _ hx
  | cond c a b ih1 ih2 =>
    intro ts h Q Q' hq H
    simp only [AKW] at H ⊢
    split at H
    · exact ⟨fun e => ih1 hq (H.1 e), fun e => ih2 hq (H.2 e)⟩
    · exact H.elim
  | blk id a ih =>
    intro ts h Q Q' hq H
    refine ih (fun x ts' h' hx => ?_) H
    cases x <;> first | exact hq _ _ _ hx | skip
    simp only at hx ⊢
    split
    · rename_i e; rw [if_pos e] at hx; exact hq _ _ _ hx
    · rename_i e; rw [if_neg e] at hx; exact hq _ _ _ hx
  | loop a ih =>
    intro ts h Q Q' hq ⟨n, H⟩
    refine ⟨n, ?_⟩
    induction n generalizing ts h with
    | zero => exact H.elim
    | succ n ihn =>
      obtain ⟨ts1, h1, w, hb⟩ := H
      refine ⟨ts1, h1, w, ih (fun x ts' h' hx => ?_) hb⟩
      cases x <;> first | exact ihn hx | exact hq _ _ _ hx
  | exit id => intro ts h Q Q' hq H; exact hq _ _ _ H
  | ret => intro ts h Q Q' hq H; exact hq _ _ _ H

/-- A LOOP, by what holds at each round's head. -/
theorem loopA {α : Type} (T : α → List AV) (H : α → List AO) (inv : α → Prop) (μ : α → Nat) {b : AK} (a0 : α) (i0 : inv a0) (w0 : Wk k ts h (T a0) (H a0))
    (body : ∀ a, inv a → AKW P G k b (T a) (H a) (loopK k T H inv μ a Q)) : AKW P G k (.loop b) ts h Q := by
  have key : ∀ n a, μ a < n → inv a → ∀ ts h, Wk k ts h (T a) (H a) → loopN k (AKW P G k b) n ts h Q := by
    intro n
    induction n with
    | zero => intro a hm; omega
    | succ n ih =>
      intro a hm hi ts h w
      refine ⟨T a, H a, w, AKW_mono (fun x ts' h' hx => ?_) (body a hi)⟩
      cases x <;> first
        | (obtain ⟨a', k1, k2, k3⟩ := hx; exact ih a' (by omega) k1 _ _ k3)
        | exact hx
  exact ⟨μ a0 + 1, key _ a0 (by omega) i0 _ _ w0⟩

/-- What has to be left where ways meet. -/
def cutK {α : Type} (k : Nat) (T : α → List AV) (H : α → List AO) (inv : α → Prop) (Q : AX → List AV → List AO → Prop) (x : AX) (ts : List AV) (h : List AO) : Prop :=
  match x with
  | .normal => ∃ s, inv s ∧ Wk k ts h (T s) (H s)
  | x => Q x ts h
section
variable {α : Type} {T : α → List AV} {H : α → List AO} {inv : α → Prop}
@[simp] theorem cutK_normal : cutK k T H inv Q .normal ts h = ∃ s, inv s ∧ Wk k ts h (T s) (H s) := rfl
@[simp] theorem cutK_exit (i : Nat) : cutK k T H inv Q (.exit i) ts h = Q (.exit i) ts h := rfl
@[simp] theorem cutK_ret : cutK k T H inv Q .ret ts h = Q .ret ts h := rfl
@[simp] theorem cutK_pan (t : TypeId) (v : PV) : cutK k T H inv Q (.pan t v) ts h = Q (.pan t v) ts h := rfl
end
/-- WHERE WAYS MEET. -/
theorem cutA {α : Type} (T : α → List AV) (H : α → List AO) (inv : α → Prop) {a b : AK} (ha : AKW P G k a ts h (cutK k T H inv Q))
    (hb : ∀ s, inv s → AKW P G k b (T s) (H s) Q) : AKW P G k (.cut a b) ts h Q :=
  ⟨fun ts1 h1 => ∃ s, inv s ∧ ts1 = T s ∧ h1 = H s, AKW_mono (fun x ts' h' hx => by
    cases x <;> first
      | (obtain ⟨s, i, w⟩ := hx; exact ⟨_, _, w, s, i, rfl, rfl⟩)
      | exact hx) ha, fun ts1 h1 ⟨s, i, e1, e2⟩ => by subst e1; subst e2; exact hb s i⟩
def cut1K (k : Nat) (T : List AV) (H : List AO) (Q : AX → List AV → List AO → Prop) (x : AX) (ts : List AV) (h : List AO) : Prop :=
  match x with
  | .normal => Wk k ts h T H
  | x => Q x ts h
@[simp] theorem cut1K_normal {T : List AV} {H : List AO} : cut1K k T H Q .normal ts h = Wk k ts h T H := rfl
@[simp] theorem cut1K_exit {T : List AV} {H : List AO} (i : Nat) : cut1K k T H Q (.exit i) ts h = Q (.exit i) ts h := rfl
@[simp] theorem cut1K_ret {T : List AV} {H : List AO} : cut1K k T H Q .ret ts h = Q .ret ts h := rfl
@[simp] theorem cut1K_pan {T : List AV} {H : List AO} (t : TypeId) (v : PV) : cut1K k T H Q (.pan t v) ts h = Q (.pan t v) ts h := rfl
theorem cut1 (T : List AV) (H : List AO) {a b : AK} (ha : AKW P G k a ts h (cut1K k T H Q)) (hb : AKW P G k b T H Q) : AKW P G k (.cut a b) ts h Q :=
  ⟨fun ts1 h1 => ts1 = T ∧ h1 = H, AKW_mono (fun x ts' h' hx => by
    cases x <;> first
      | exact ⟨_, _, hx, rfl, rfl⟩
      | exact hx) ha, fun ts1 h1 ⟨e1, e2⟩ => by subst e1; subst e2; exact hb⟩

/-- Nothing is named anew: what is kept of the slots; n objects, the first ones. -/
def Fgt (n : Nat) : List AV → List AV → Prop
  | [], [] => True
  | v :: r, v1 :: r1 => (v1 = .any ∨ (below n v1 ∧ v1 = v)) ∧ Fgt n r r1
  | _, _ => False

/-- No own objects. -/
theorem wk_nil {k : Nat} {ts ts1 : List AV} {h : List AO} (hk : k = 0) (H : Fgt 0 ts ts1) : Wk k ts h ts1 [] := by
  refine Wk.of [] (by omega) (fun i hi => by omega) List.nodup_nil ?_ trivial
  have ren0 : ∀ v, below 0 v → ren [] v = v := by
    have key : ∀ (m : Nat), (∀ v : AV, SizeOf.sizeOf v < m → below 0 v → ren [] v = v) ∧ (∀ l : List AV, SizeOf.sizeOf l < m → belowL 0 l → renL [] l = l) := by
      intro m
      induction m with
      | zero => exact ⟨fun v h => by omega, fun l h => by omega⟩
      | succ m ih =>
        refine ⟨fun v hs hb => ?_, fun l hs hb => ?_⟩
        · cases v <;> simp only [ren, below] at hb ⊢ <;> first | rfl | omega | (rw [ih.2 _ (by simp at hs; omega) hb])
        · cases l with
          | nil => rfl
          | cons v r => simp only [renL]; rw [ih.1 v (by simp at hs; omega) hb.1, ih.2 r (by simp at hs; omega) hb.2]
    exact fun v => (key _).1 v (Nat.lt_succ_self _)
  revert H
  induction ts generalizing ts1 with
  | nil => intro H; cases ts1 <;> first | exact trivial | exact H.elim
  | cons v r ih =>
    intro H
    cases ts1 with
    | nil => exact H.elim
    | cons v1 r1 =>
      refine ⟨?_, ih H.2⟩
      rcases H.1 with h | ⟨h1, h2⟩
      · exact .inl h
      · exact .inr ⟨h1, by rw [← h2]; exact ren0 v1 h1⟩


/-! ### Calls whose arguments and results have no references -/

theorem below_rel {W : World} {S : Nat → Prop} {φ φ' : Place} {n n' : Nat} (v : AV) (hb : below 0 v) {x : Value} (h : VRel W S φ n v x) : VRel W S φ' n' v x := by
  match v, hb with
  | .agg cs, hb =>
    cases h with
    | agg _ vs hs hc => exact .agg cs vs hs fun j c y h1 h2 => below_rel c (belowL_get hb j c h1) (hc j _ y h1 h2)
  | .tup cs, hb =>
    cases h with
    | tup _ vs hs hc => exact .tup cs vs hs fun j c y h1 h2 => below_rel c (belowL_get hb j c h1) (hc j _ y h1 h2)
  | .ptr id e i o, hb => simp [below] at hb
  | .sl id e o l, hb => simp [below] at hb
  | .fn f cs, hb =>
    cases h with
    | fn _ _ vs hs hc => exact .fn f cs vs hs fun j c y h1 h2 => below_rel c (belowL_get hb j c h1) (hc j _ y h1 h2)
  | .mp id, hb => simp [below] at hb
  | .it id, hb => simp [below] at hb
  | .p v, _ => cases h with | p _ _ hp => exact .p _ _ hp
  | .eptr e o, _ => cases h with | eptr _ _ b o' h1 h2 => exact .eptr _ _ b o' h1 h2
  | .gp g o, _ => cases h; exact .gp _ _
  | .nils, _ => cases h; exact .nils
  | .nilp, _ => cases h; exact .nilp
  | .nilf, _ => cases h; exact .nilf
  | .nilm, _ => cases h; exact .nilm
  | .nili, _ => cases h; exact .nili
  | .ifc t v, _ => cases h with | ifc _ _ _ hp => exact .ifc _ _ _ hp
  | .any, _ => exact .any x
termination_by SizeOf.sizeOf v
decreasing_by
  all_goals simp_wf
  all_goals (have := List.sizeOf_lt_of_mem (List.mem_of_getElem? h1); omega)

/-- A function of pure data. -/
def VF (P : Program) (G : Glob) (f : FuncId) (args : List AV) (r : AV) : Prop := AC P G f args [] fun x _ => x = .ret r

theorem VF.ac {f : FuncId} {args : List AV} {r : AV} (H : VF P G f args r) (ha : belowL 0 args) (hr : below 0 r) (h : List AO) : AC P G f args h fun x h' => x = .ret r ∧ h' = h := by
  refine ⟨H.1, fun W S φ vs hH hA => ?_⟩
  have h0 : HRel G W S φ [] := ⟨fun id sz es e => by simp at e, fun id o e _ => by simp at e, fun id id' e => (live_nil e).elim, fun b hb => ⟨(hH.sep b hb).1, fun id e => (live_nil e).elim⟩, fun id hid => by simp at hid, hH.glob⟩
  refine (H.2 W S φ vs h0 ⟨hA.1, fun j c v h1 h2 => below_rel c (belowL_get ha j c h1) (hA.2 j c v h1 h2)⟩).mono fun e W' ⟨x, S', φ', h', k1, k2, k3, k4⟩ => ?_
  subst k1
  have hnew : ∀ b, S' b → S b ∨ W.heap.size ≤ b := fun b hb => by
    rcases k4.newS b hb with h1 | h1 | ⟨id, h1, _⟩
    · exact .inl h1
    · exact .inr h1
    · exact (live_nil h1).elim
  have hout : ∀ b, b < W.heap.size → W'.heap[b]? = W.heap[b]? := fun b hb => k4.out b hb fun id e => (live_nil e).elim
  have hlt : ∀ {id : Nat} {o : AO}, h[id]? = some o → id < h.length := fun e => (List.getElem?_eq_some_iff.1 e).1
  have K : Keep W S φ h W' S' φ h :=
    { pure := k4.pure, len := Nat.le_refl _, same := fun _ _ => rfl
      blk := fun id hid c t fr e => ⟨c, t, fr, by rw [← hout _ (hH.bnd id hid)]; exact e, rfl⟩
      os := k4.os, tape := k4.tape, output := k4.output, size := k4.size, out := fun b hb _ => hout b hb
      img := fun id e => .inr ⟨id, e, rfl⟩
      newS := fun b hb => by rcases hnew b hb with h1 | h1; exact .inl h1; exact .inr (.inl h1) }
  refine ⟨.ret r, S', φ, h, ⟨rfl, rfl⟩, ⟨fun id sz es e => ?_, fun id o1 e lo => ?_, hH.inj, fun b hb => ⟨(k2.sep b hb).1, fun id e he => ?_⟩, fun id hid => Nat.lt_of_lt_of_le (hH.bnd id hid) k4.size, k2.glob⟩, ?_, K⟩
  · obtain ⟨c, t, fr, a1, a2, a3, a4, a5⟩ := hH.obj id sz es e
    refine ⟨c, t, fr, by rw [hout _ (hH.bnd id (hlt e))]; exact a1, a2, a3, a4, fun j u hj => ?_⟩
    obtain ⟨b1, v, b2, b3⟩ := a5 j u hj
    exact ⟨b1, v, b2, b3.kept K.toKept⟩
  · rw [hout _ (hH.bnd id (hlt e))]
    exact (hH.oobj id o1 e lo).mono fun a v r => r.kept K.toKept
  · rcases hnew b hb with h1 | h1
    · exact (hH.sep b h1).2 id e he
    · have := hH.bnd id e.lt; omega
  · cases k3 with
    | ret _ x hv => exact .ret _ _ (below_rel r hr hv)

theorem VF.use {f : FuncId} {args : List AV} {r : AV} (H : VF P G f args r) {h : List AO} {R : ARes → List AO → Prop} (hk : R (.ret r) h) (ha : belowL 0 args := by simp [belowL, below]) (hr : below 0 r := by simp [belowL, below]) : AC P G f args h R :=
  (H.ac ha hr h).mono fun x h' ⟨e1, e2⟩ => by subst e1; subst e2; exact hk

theorem VF.useQ {f : FuncId} {args : List AV} {r : AV} (H : VF P G f args r) {h : List AO} {d : Option Nat} {cs : List CO} {K : KT} {Qp : QP} (hk : rK P G cs (put d r ts) h K Qp) (ha : belowL 0 args := by simp [belowL, below]) (hr : below 0 r := by simp [belowL, below]) : quietC P G f args h d cs ts K Qp :=
  ⟨r, H.ac ha hr h, hk⟩

theorem VF.useP {f : FuncId} {args : List AV} {r : AV} (H : VF P G f args r) {h : List AO} {d : Option Nat} {cs : List CO} {K : KT} {Qp : QP} (hk : rK P G cs (put d r ts) h K Qp) (ha : belowL 0 args := by simp [belowL, below]) (hr : below 0 r := by simp [belowL, below]) : pureC P G f args h d cs ts K Qp :=
  ⟨r, fun h => H.ac ha hr h, hk⟩

end
end Go.Aw
