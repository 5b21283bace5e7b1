/-
  What the readings of a statement's arguments give: pure data, well formed, that the cells hold. No program.
-/
import Derived.Test.YtbbobekgnclkfaaDoorL4
import Derived.ChangeSame
import Derived.ReadAgain
import Derived.OpenShut
import Derived.Deep.DeepHandedRow
namespace Go.Aw

/-- Types without pointers, maps, interfaces: those of a list. -/
def plainT (P : Program) (L : List TypeId) (t : TypeId) : Bool :=
  match P.underlying t with
  | some .bool | some (.int _) | some .string => P.cellsOf t == 1
  | some (.slice e) => P.cellsOf t == 1 && L.contains e && decide (0 < P.cellsOf e)
  | some (.array n e) => L.contains e && P.cellsOf t == n * P.cellsOf e
  | some (.struct fs) => fs.toList.all (fun f => L.contains f.type) && P.cellsOf t == (fs.toList.map fun f => P.cellsOf f.type).sum &&
      (List.range fs.size).all fun j => match fs.toList[j]? with
        | some f => f.offset == ((fs.toList.take j).map fun f => P.cellsOf f.type).sum
        | none => true
  | _ => false

def Plain (P : Program) (L : List TypeId) : Bool := L.all (plainT P L)

theorem Plain.kids {P : Program} {L : List TypeId} (h : Plain P L = true) : Kids P (· ∈ L) := by
  have k : ∀ t, t ∈ L → plainT P L t = true := fun t ht => List.all_eq_true.1 h t ht
  refine ⟨fun ht hu => ?_, fun ht hu => ?_, fun ht hu => ?_, fun ht hu => ?_, fun ht hu => ?_⟩
  · have := k _ ht; simp [plainT, hu] at this
  · have := k _ ht; simp [plainT, hu] at this; exact this.1.2
  · have := k _ ht; simp [plainT, hu] at this; exact this
  · rename_i t fs
    have := k _ ht
    simp only [plainT, hu, Bool.and_eq_true, List.all_eq_true, beq_iff_eq, List.contains_iff_mem] at this
    refine ⟨fun f hf => this.1.1 f hf, this.1.2, fun j f hj => ?_⟩
    have h2 := this.2 j (by
      have := (List.getElem?_eq_some_iff.1 hj).1
      simpa using this)
    rw [hj] at h2
    simpa using h2
  · have := k _ ht; simp [plainT, hu] at this

theorem Plain.full {P : Program} {L : List TypeId} (h : Plain P L = true) : ∀ t e, t ∈ L → P.underlying t = some (.slice e) → 0 < P.cellsOf e := by
  intro t e ht hu
  have := List.all_eq_true.1 h t ht
  simp [plainT, hu] at this
  exact this.2

mutual
/-- Well-formed data of a type. -/
inductive Conf (P : Program) : TypeId → List PV → Prop
  | bool {t : TypeId} (b : Bool) : P.underlying t = some .bool → Conf P t [.bool b]
  | int {t : TypeId} {k : IntKind} (n : Int) : P.underlying t = some (.int k) → (Lit.int k n).wf = true → Conf P t [.int k n]
  | str {t : TypeId} (s : List UInt8) : P.underlying t = some .string → s.length ≤ maxLen → Conf P t [.str s]
  | sl {t e : TypeId} (es : List (List PV)) : P.underlying t = some (.slice e) → es.length ≤ maxLen → (∀ x, x ∈ es → Conf P e x) → Conf P t [.lst (P.cellsOf e) es]
  | st {t : TypeId} {fs : Array Field} (vs : List PV) : P.underlying t = some (.struct fs) → ConfS P (fs.toList.map (·.type)) vs → Conf P t vs
  | arr {t e : TypeId} {n : Nat} (vs : List PV) : P.underlying t = some (.array n e) → ConfS P (List.replicate n e) vs → Conf P t vs
inductive ConfS (P : Program) : List TypeId → List PV → Prop
  | nil : ConfS P [] []
  | cons {t : TypeId} {ts : List TypeId} {a b : List PV} : Conf P t a → ConfS P ts b → ConfS P (t :: ts) (a ++ b)
end

mutual
def pbulk : PV → Nat
  | .bool _ => 1
  | .int _ _ => 1
  | .str s => s.length + 1
  | .lst _ es => pbulkLL es + 1
def pbulkL : List PV → Nat
  | [] => 0
  | v :: r => pbulk v + pbulkL r
def pbulkLL : List (List PV) → Nat
  | [] => 0
  | v :: r => pbulkL v + pbulkLL r
end

theorem pbulkL_append (a b : List PV) : pbulkL (a ++ b) = pbulkL a + pbulkL b := by
  induction a with
  | nil => simp [pbulkL]
  | cons v r ih => simp [pbulkL, ih]; omega

theorem pbulk_pos (v : PV) : 1 ≤ pbulk v := by cases v <;> simp [pbulk]

theorem pbulkL_len (l : List PV) : l.length ≤ pbulkL l := by
  induction l with
  | nil => simp
  | cons v r ih => simp [pbulkL]; have := pbulk_pos v; omega

theorem pbulkLL_len {l : List (List PV)} (h : ∀ e ∈ l, 0 < e.length) : l.length ≤ pbulkLL l := by
  induction l with
  | nil => simp
  | cons v r ih =>
    simp only [pbulkLL, List.length_cons]
    have := pbulkL_len v
    have h1 := h v (by simp)
    have h2 := ih fun e he => h e (by simp [he])
    omega

/-- The pure datum of a reading. -/
def toPV {H : Type} (P : Program) : Nat → TypeId → DataW H → List PV
  | 0, _, _ => []
  | n + 1, t, d => match P.underlying t, d with
    | some .bool, .lit (.bool b) => [.bool b]
    | some (.int _), .lit (.int k n) => [.int k n]
    | some .string, .lit (.string s) => [.str s]
    | some (.slice e), .slice es _ => [.lst (P.cellsOf e) (es.map (toPV P n e))]
    | some (.slice e), .nil => [.lst (P.cellsOf e) []]
    | some (.struct fs), .agg ps => (List.zipWith (fun t x => toPV P n t x) (fs.toList.map (·.type)) ps).flatten
    | some (.array m e), .agg ps => (List.zipWith (fun t x => toPV P n t x) (List.replicate m e) ps).flatten
    | _, _ => []

/-- A measure of readings. -/
structure BulkOk {H : Type} (ub : DataW H → Nat) : Prop where
  lit : ∀ l, 1 ≤ ub (.lit l)
  str : ∀ s, s.length + 1 ≤ ub (.lit (.string s))
  nil : 1 ≤ ub .nil
  slice : ∀ es sp, (es.map ub).sum + 1 ≤ ub (.slice es sp)
  agg : ∀ ps, (ps.map ub).sum + 1 ≤ ub (.agg ps)

/-- What a reading gives of cells. -/
structure Reads {H : Type} (P : Program) (W : World) (ub : DataW H → Nat) (t : TypeId) (cs : List Value) (d : DataW H) (vs : List PV) : Prop where
  conf : Conf P t vs
  len : vs.length = P.cellsOf t
  clen : cs.length = P.cellsOf t
  rel : ∀ (j : Nat) (c : PV) (v : Value), vs[j]? = some c → cs[j]? = some v → PRel W (· < W.heap.size) c v
  bulk : pbulkL vs ≤ ub d

theorem mapM_get {α β : Type} {f : α → Option β} : ∀ {l : List α} {r : List β}, l.mapM f = some r → r.length = l.length ∧ ∀ (i : Nat) (x : α), l[i]? = some x → ∃ y, f x = some y ∧ r[i]? = some y
  | [], r, h => by simp at h; subst h; simp
  | a :: l, r, h => by
    simp only [List.mapM_cons, Option.bind_eq_bind, Option.bind_eq_some_iff] at h
    obtain ⟨y, hy, r', hr, e⟩ := h
    cases e
    obtain ⟨h1, h2⟩ := mapM_get hr
    refine ⟨by simp [h1], fun i x hi => ?_⟩
    cases i with
    | zero => simp at hi; subst hi; exact ⟨y, hy, rfl⟩
    | succ i => simpa using h2 i x (by simpa using hi)

theorem cell?_spot {w : World} {a : Addr} {v : Value} (h : w.cell? a = some v) : a.spot = none := by
  cases hsp : a.spot with
  | none => rfl
  | some s =>
    simp only [World.cell?] at h
    split at h
    · simp [hsp] at h
    · cases h

theorem add_spot {a : Addr} (h : a.spot = none) (i : Nat) : a.add i = ⟨a.block, a.off + i, none⟩ := by
  unfold Addr.add
  split
  · rename_i h0; subst h0; cases a; simp_all
  · rfl

theorem cells?_get {w : World} {b : Nat} {a : Addr} {n : Nat} {cs : List Value} (h : w.cells? b a n = some cs) :
    cs.length = n ∧ (0 < n → a.spot = none) ∧ ∀ i, i < n → ∃ v, cs[i]? = some v ∧ w.cell? ⟨a.block, a.off + i, none⟩ = some v := by
  unfold World.cells? at h
  split at h
  · obtain ⟨h1, h2⟩ := mapM_get h
    have hs : 0 < n → a.spot = none := fun hn => by
      obtain ⟨y, hy, _⟩ := h2 0 0 (by simp [hn])
      exact cell?_spot hy
    refine ⟨by simpa using h1, hs, fun i hi => ?_⟩
    obtain ⟨y, hy, hr⟩ := h2 i i (by simp [hi])
    rw [add_spot (hs (by omega))] at hy
    exact ⟨y, hr, hy⟩
  · cases h

section
variable {H : Type} {enc : TypeId × Value → H} {P : Program} {W : World} {sp : Nat → Bool} {held : Bool} {L : List TypeId} {ub : DataW H → Nat}

/-- One sequence of fields or elements. -/
theorem reads_seq (r : TypeId → List Value → Option (DataW H × List MemPlace)) (pv : TypeId → DataW H → List PV)
    (hr : ∀ t cs x, t ∈ L → r t cs = some x → Reads P W ub t cs x.1 (pv t x.1)) (cs : List Value) :
    ∀ (ts : List TypeId) (xs : List (DataW H × List MemPlace)) (off : Nat), (∀ t ∈ ts, t ∈ L) → xs.length = ts.length →
      (∀ (j : Nat) t, ts[j]? = some t → ∃ y, xs[j]? = some y ∧ r t ((cs.drop (off + ((ts.take j).map P.cellsOf).sum)).take (P.cellsOf t)) = some y) →
      ConfS P ts (List.zipWith pv ts (xs.map (·.1))).flatten ∧ (List.zipWith pv ts (xs.map (·.1))).flatten.length = (ts.map P.cellsOf).sum ∧
      (∀ (j : Nat) (c : PV) (v : Value), (List.zipWith pv ts (xs.map (·.1))).flatten[j]? = some c → cs[off + j]? = some v → PRel W (· < W.heap.size) c v) ∧
      pbulkL (List.zipWith pv ts (xs.map (·.1))).flatten ≤ ((xs.map (·.1)).map ub).sum
  | [], [], off, _, _, _ => ⟨.nil, rfl, by simp, by simp [pbulkL]⟩
  | t :: ts, x :: xs, off, hL, hl, h => by
    obtain ⟨y, hy, h0⟩ := h 0 t rfl
    simp at hy; subst hy
    have R := hr _ _ _ (hL t (by simp)) h0
    obtain ⟨i1, i2, i3, i4⟩ := reads_seq r pv hr cs ts xs (off + P.cellsOf t) (fun t ht => hL t (by simp [ht])) (by simpa using hl) (fun j t' hj => by
      obtain ⟨y, hy, h1⟩ := h (j + 1) t' (by simpa using hj)
      refine ⟨y, by simpa using hy, ?_⟩
      simpa [Nat.add_assoc] using h1)
    simp only [List.map_cons, List.zipWith_cons_cons, List.flatten_cons]
    refine ⟨.cons R.conf i1, by simp [i2, R.len], fun j c v hc hv => ?_, by rw [pbulkL_append]; have := R.bulk; simp only [List.sum_cons]; omega⟩
    by_cases hj : j < (pv t x.1).length
    · rw [List.getElem?_append_left hj] at hc
      refine R.rel j c v hc ?_
      rw [R.len] at hj
      rw [List.getElem?_take, if_pos hj, List.getElem?_drop]
      simpa using hv
    · rw [List.getElem?_append_right (by omega), R.len] at hc
      rw [R.len] at hj
      exact i3 _ c v hc (by rw [← hv]; congr 1; omega)

theorem reads (hP : Plain P L = true) (hub : BulkOk ub) : ∀ (n : Nat) (t : TypeId) (cs : List Value) (x : DataW H × List MemPlace), t ∈ L →
    DataW.trod enc P W 0 sp held n t cs = some x → Reads P W ub t cs x.1 (toPV P n t x.1) := by
  intro n
  induction n with
  | zero => intro t cs x _ h; simp [DataW.trod] at h
  | succ n ih =>
    intro t cs x hL h
    have hk := List.all_eq_true.1 hP t hL
    have one : ∀ (pv : PV) (v : Value), PRel W (· < W.heap.size) pv v → ∀ (j : Nat) (c : PV) (v' : Value), [pv][j]? = some c → [v][j]? = some v' → PRel W (· < W.heap.size) c v' := by
      intro pv v hp j c v' h1 h2
      cases j with
      | zero => simp at h1 h2; subst h1; subst h2; exact hp
      | succ j => simp at h1
    unfold plainT at hk
    unfold DataW.trod at h
    split at hk
    · rename_i hu
      rw [hu] at h
      split at h <;> simp_all
      subst h
      simp only [toPV, hu]
      exact ⟨.bool _ hu, by simp [hk], by simp [hk], one _ _ (.bool _), by simpa [pbulkL, pbulk] using hub.lit _⟩
    · rename_i hu
      rw [hu] at h
      split at h <;> simp_all
      obtain ⟨⟨rfl, hw⟩, rfl⟩ := h
      simp only [toPV, hu]
      exact ⟨.int _ hu hw, by simp [hk], by simp [hk], one _ _ (.int _ _), by simpa [pbulkL, pbulk] using hub.lit _⟩
    · rename_i hu
      rw [hu] at h
      split at h <;> simp_all
      obtain ⟨hw, rfl⟩ := h
      simp only [toPV, hu]
      exact ⟨.str _ hu (by simpa using hw), by simp [hk], by simp [hk], one _ _ (.str _), by simp only [pbulkL, pbulk, Nat.add_zero]; exact hub.str _⟩
    · rename_i e hu
      rw [hu] at h
      simp at hk
      split at h
      all_goals first | (exfalso; simp only [Option.some.injEq, reduceCtorEq] at *; done) | skip
      · cases h
        simp only [toPV, hu]
        refine ⟨.sl [] hu (by simp) (by simp), by simp [hk], by simp [hk], one _ _ (.lst0 _ _ _), by simpa [pbulkL, pbulk, pbulkLL] using hub.nil⟩
      · rename_i e' a len cap he
        injection he with he
        injection he with he
        subst he
        simp only at h
        split at h
        · rename_i hc
          simp only [Option.bind_eq_some_iff, Option.map_eq_some_iff] at h
          obtain ⟨elems, h1, rest, h2, rfl⟩ := h
          obtain ⟨hl, hg⟩ := mapM_get h1
          simp only [List.length_range] at hl
          have hR : ∀ i, i < len → ∃ cs y, W.cells? 0 (a.add (i * P.cellsOf e)) (P.cellsOf e) = some cs ∧ elems[i]? = some y ∧ Reads P W ub e cs y.1 (toPV P n e y.1) := fun i hi => by
            obtain ⟨y, hy, hy2⟩ := hg i i (by simp [hi])
            simp only [Option.bind_eq_some_iff] at hy
            obtain ⟨cs, hc1, hc2⟩ := hy
            exact ⟨cs, y, hc1, hy2, ih _ _ _ hk.1.2 hc2⟩
          have hlen : ∀ x ∈ (elems.map (·.1)).map (toPV P n e), Conf P e x ∧ x.length = P.cellsOf e := by
            intro x hx
            obtain ⟨i, hi⟩ := List.getElem?_of_mem hx
            have hi' := (List.getElem?_eq_some_iff.1 hi).1
            simp [hl] at hi'
            obtain ⟨cs, y, _, hy, R⟩ := hR i hi'
            simp [hy] at hi
            subst hi
            exact ⟨R.conf, R.len⟩
          have hfl : ∀ (j : Nat) (c : PV), (((elems.map (·.1)).map (toPV P n e)).flatten)[j]? = some c → a.spot = none ∧ a.block < W.heap.size ∧ ∃ v, W.cell? ⟨a.block, a.off + j, none⟩ = some v ∧ PRel W (· < W.heap.size) c v := by
            intro j c hj
            have hpos := hk.2
            have e1 : j = (j / P.cellsOf e) * P.cellsOf e + j % P.cellsOf e := by rw [Nat.mul_comm]; exact (Nat.div_add_mod _ _).symm
            have e2 : j % P.cellsOf e < P.cellsOf e := Nat.mod_lt _ hpos
            rw [e1, flatten_get (fun x hx => (hlen x hx).2) _ _ e2] at hj
            simp only [Option.bind_eq_some_iff] at hj
            obtain ⟨x, hx, hx2⟩ := hj
            have hi' := (List.getElem?_eq_some_iff.1 hx).1
            simp [hl] at hi'
            obtain ⟨cs, y, hcs, hy, R⟩ := hR _ hi'
            simp [hy] at hx
            subst hx
            obtain ⟨g1, g2, g3⟩ := cells?_get hcs
            obtain ⟨v, hv, hv2⟩ := g3 _ e2
            obtain ⟨cs0, y0, hcs0, _, _⟩ := hR 0 (Nat.lt_of_le_of_lt (Nat.zero_le _) hi')
            have hsp := (cells?_get hcs0).2.1 hpos
            simp only [Nat.zero_mul] at hsp
            have hsp' : a.spot = none := by simpa [Addr.add] using hsp
            rw [add_spot hsp'] at hv2
            refine ⟨hsp', ?_, v, ?_, R.rel _ _ _ hx2 hv⟩
            · simp only [World.cell?] at hv2
              split at hv2
              · rename_i h3
                exact (Array.getElem?_eq_some_iff.1 h3).1
              · cases hv2
            · rw [show a.off + j = a.off + (j / P.cellsOf e) * P.cellsOf e + j % P.cellsOf e by omega]
              exact hv2
          simp only [toPV, hu]
          refine ⟨.sl _ hu (by simp; omega) (fun x hx => (hlen x hx).1), by simp [hk], by simp [hk], one _ _ ?_, ?_⟩
          · have hll : ((elems.map (·.1)).map (toPV P n e)).length = len := by simp [hl]
            cases len with
            | zero =>
              have : elems = [] := List.length_eq_zero_iff.1 hl
              subst this
              exact .lst0 _ _ _
            | succ len =>
              have hex : ∃ c, (((elems.map (·.1)).map (toPV P n e)).flatten)[0]? = some c := by
                have : 0 < (((elems.map (·.1)).map (toPV P n e)).flatten).length := by
                  rw [flatten_len (fun x hx => (hlen x hx).2), hll]
                  exact Nat.mul_pos (by omega) hk.2
                exact ⟨_, List.getElem?_eq_getElem this⟩
              obtain ⟨c0, hc0⟩ := hex
              obtain ⟨s1, s2, _⟩ := hfl 0 c0 hc0
              have ea : a = ⟨a.block, a.off, none⟩ := by cases a; simp_all
              have := PRel.lst (W := W) (S := (· < W.heap.size)) (P.cellsOf e) ((elems.map (·.1)).map (toPV P n e)) a.block a.off cap (fun j => (W.cell? ⟨a.block, a.off + j, none⟩).getD default) s2 (fun x hx => (hlen x hx).2) (by rw [hll]; exact hc.2.1)
                (fun j c hj => by obtain ⟨_, _, v, h3, h4⟩ := hfl j c hj; simp [h3]) (fun j c hj => by obtain ⟨_, _, v, h3, h4⟩ := hfl j c hj; simpa [h3] using h4)
              rw [hll, ← ea] at this
              exact this
          · have hb := hub.slice (elems.map (·.1)) (rest.map (·.1))
            have : pbulkLL ((elems.map (·.1)).map (toPV P n e)) ≤ ((elems.map (·.1)).map ub).sum := by
              have key : ∀ l : List (DataW H × List MemPlace), (∀ y ∈ l, pbulkL (toPV P n e y.1) ≤ ub y.1) → pbulkLL ((l.map (·.1)).map (toPV P n e)) ≤ ((l.map (·.1)).map ub).sum := by
                intro l
                induction l with
                | nil => intro _; simp [pbulkLL]
                | cons y r ihl =>
                  intro hy
                  have h1 := hy y (by simp)
                  have h2 := ihl fun z hz => hy z (by simp [hz])
                  simp only [List.map_cons, pbulkLL, List.sum_cons]
                  omega
              refine key elems fun y hy => ?_
              obtain ⟨i, hi⟩ := List.getElem?_of_mem hy
              have hi' := (List.getElem?_eq_some_iff.1 hi).1
              rw [hl] at hi'
              obtain ⟨_, y', _, hy', R⟩ := hR i hi'
              rw [hi] at hy'
              cases hy'
              exact R.bulk
            simp only [pbulkL, pbulk]
            omega
        · cases h
    · rename_i m e hu
      rw [hu] at h
      simp at hk
      dsimp only at h
      split at h
      · rename_i hc
        simp only [Option.map_eq_some_iff] at h
        obtain ⟨xs, h1, rfl⟩ := h
        obtain ⟨hl, hg⟩ := mapM_get h1
        simp only [List.length_range] at hl
        have hsum : ∀ j, j ≤ m → (((List.replicate m e).take j).map P.cellsOf).sum = j * P.cellsOf e := fun j hj => by
          rw [List.take_replicate, List.map_replicate, List.sum_replicate_nat, Nat.min_eq_left hj]
        obtain ⟨i1, i2, i3, i4⟩ := reads_seq (L := L) (P := P) (W := W) (ub := ub) (DataW.trod enc P W 0 sp held n) (toPV P n) (fun t cs x ht hx => ih t cs x ht hx) cs (List.replicate m e) xs 0 (fun t ht => by rw [List.eq_of_mem_replicate ht]; exact hk.1) (by simp [hl]) (fun j t hj => by
          obtain ⟨hj1, hj2⟩ := List.getElem?_eq_some_iff.1 hj
          simp at hj1 hj2
          subst hj2
          obtain ⟨y, hy, hy2⟩ := hg j j (by simp [hj1])
          refine ⟨y, hy2, ?_⟩
          rw [hsum j (by omega), Nat.zero_add]
          exact hy)
        simp only [toPV, hu]
        refine ⟨.arr _ hu i1, ?_, hc, fun j c v h1 h2 => i3 j c v h1 (by simpa using h2), ?_⟩
        · rw [i2, hk.2]
          simp
        · exact Nat.le_trans i4 (Nat.le_trans (Nat.le_succ _) (hub.agg _))
      · cases h
    · rename_i fs hu
      rw [hu] at h
      simp only [Bool.and_eq_true, List.all_eq_true, beq_iff_eq, List.contains_iff_mem] at hk
      dsimp only at h
      split at h
      · rename_i hc
        simp only [Option.map_eq_some_iff] at h
        obtain ⟨xs, h1, rfl⟩ := h
        obtain ⟨hl, hg⟩ := mapM_get h1
        obtain ⟨i1, i2, i3, i4⟩ := reads_seq (L := L) (P := P) (W := W) (ub := ub) (DataW.trod enc P W 0 sp held n) (toPV P n) (fun t cs x ht hx => ih t cs x ht hx) cs (fs.toList.map (·.type)) xs 0 (fun t ht => by
            obtain ⟨f, hf, rfl⟩ := List.mem_map.1 ht
            exact hk.1.1 f hf) (by simp [hl]) (fun j t hj => by
          simp only [List.getElem?_map, Option.map_eq_some_iff] at hj
          obtain ⟨f, hj, rfl⟩ := hj
          obtain ⟨y, hy, hy2⟩ := hg j f hj
          refine ⟨y, hy2, ?_⟩
          have h2 := hk.2 j (by
            have := (List.getElem?_eq_some_iff.1 hj).1
            simpa using this)
          rw [hj] at h2
          simp only [beq_iff_eq] at h2
          rw [h2] at hy
          rw [Nat.zero_add, ← List.map_take, List.map_map]
          exact hy)
        simp only [toPV, hu]
        refine ⟨.st _ hu i1, ?_, hc, fun j c v h1 h2 => i3 j c v h1 (by simpa using h2), ?_⟩
        · rw [i2, hk.1.2, List.map_map]; rfl
        · exact Nat.le_trans i4 (Nat.le_trans (Nat.le_succ _) (hub.agg _))
      · cases h
    · cases hk
end
end Go.Aw
/-
  From the contract of a law over pure data to what its row asks of a call. No program.
-/
namespace Go.Aw
open Go.ChangeShapes Go.WideShapes Go.RowKit

/-- What a parameter's slot holds. -/
def argAV (P : Program) (t : TypeId) (vs : List PV) : AV :=
  match P.underlying t with
  | some (.struct _) | some (.array _ _) => .agg (vs.map .p)
  | _ => .p (vs.headD (.bool false))

section
variable {H : Type} {enc : TypeId × Value → H} {P : Program} {W W' : World} {L : List TypeId} {ub : DataW H → Nat} {φ : Place} {n : Nat}

theorem arg_rel {t : TypeId} {v : Value} {d : DataW H} {vs : List PV} {base : Nat} (hk : plainT P L t = true) (R : Reads P W ub t v.cells.toList d vs) (hv : Value.okWide P W .any base t v) :
    VRel W (· < W.heap.size) φ n (argAV P t vs) v := by
  have agg : ∀ cs : Array Value, v = .agg cs → VRel W (· < W.heap.size) φ n (.agg (vs.map .p)) v := by
    intro cs e
    subst e
    have hl := R.clen
    simp only [Value.cells, Array.length_toList] at hl
    refine .agg _ cs (by simp [R.len, hl]) fun j c x hc hx => ?_
    simp only [List.getElem?_map, Option.map_eq_some_iff] at hc
    obtain ⟨c', hc', rfl⟩ := hc
    exact .p _ _ (R.rel j c' x hc' (by simpa [Value.cells] using hx))
  have one : (v.cells = #[v]) → P.cellsOf t = 1 → VRel W (· < W.heap.size) φ n (.p (vs.headD (.bool false))) v := by
    intro e h1
    have hl := R.len
    rw [h1] at hl
    match vs, hl, R with
    | [c], _, R => exact .p _ _ (R.rel 0 c v rfl (by simp [e]))
  unfold argAV
  unfold plainT at hk
  split at hk
  · rename_i hu
    rw [hu]
    obtain ⟨b, rfl⟩ := okWide_bool hu hv
    exact one rfl (by simpa using hk)
  · rename_i hu
    rw [hu]
    obtain ⟨b, rfl⟩ := okWide_int hu hv
    exact one rfl (by simpa using hk)
  · rename_i hu
    rw [hu]
    obtain ⟨b, rfl⟩ := okWide_string hu hv
    exact one rfl (by simpa using hk)
  · rename_i hu
    rw [hu]
    obtain ⟨a, len, cap, rfl⟩ := okWide_slice hu hv
    simp at hk
    exact one rfl hk.1.1
  · rename_i hu
    rw [hu]
    simp only [Value.okWide, hu] at hv
    obtain ⟨cs, e, _⟩ := hv
    exact agg cs e
  · rename_i hu
    rw [hu]
    obtain ⟨cs, e, _⟩ := okWide_struct hu hv
    exact agg cs e
  · cases hk

/-- The arguments of a call, as pure data. -/
def argsAV (P : Program) (ts : List TypeId) (vss : List (List PV)) : List AV := List.zipWith (argAV P) ts vss

inductive Confs (P : Program) : List TypeId → List (List PV) → Prop
  | nil : Confs P [] []
  | cons {t : TypeId} {ts : List TypeId} {vs : List PV} {vss : List (List PV)} : Conf P t vs → Confs P ts vss → Confs P (t :: ts) (vs :: vss)

theorem args_rel (hP : Plain P L = true) (hub : BulkOk ub) {base : Nat} : ∀ {ts : List TypeId} {vs : List Value} {ds : List (DataW H)} {p : List MemPlace}, (∀ t ∈ ts, t ∈ L) →
    DataW.TrodAll enc P W 0 (fun _ => true) true ts vs ds p → (∀ (j : Nat) t v, ts[j]? = some t → vs[j]? = some v → Value.okWide P W .any base t v) →
    ∃ vss, Confs P ts vss ∧ pbulkLL vss ≤ (ds.map ub).sum ∧ vs.length = (argsAV P ts vss).length ∧ ∀ (j : Nat) c v, (argsAV P ts vss)[j]? = some c → vs[j]? = some v → VRel W (· < W.heap.size) φ n c v
  | [], [], [], _, _, _, _ => ⟨[], .nil, by simp [pbulkLL], rfl, by simp [argsAV]⟩
  | t :: ts, v :: vs, d :: ds, _, hL, ⟨p, q, ⟨fuel, h1⟩, h2, _⟩, hok => by
    obtain ⟨vss, i1, i2, i3, i4⟩ := args_rel hP hub (fun t ht => hL t (by simp [ht])) h2 (fun j t v h3 h4 => hok (j + 1) t v (by simpa using h3) (by simpa using h4))
    have R := reads hP hub fuel t _ _ (hL t (by simp)) h1
    have hk := List.all_eq_true.1 hP t (hL t (by simp))
    refine ⟨_ :: vss, .cons R.conf i1, ?_, by simp [argsAV] at i3 ⊢; exact i3, fun j c x hc hx => ?_⟩
    · have := R.bulk
      simp only [pbulkLL, List.map_cons, List.sum_cons]
      simp only at this
      omega
    · cases j with
      | zero =>
        simp [argsAV] at hc hx
        subst hc; subst hx
        exact arg_rel hk R (hok 0 t v rfl rfl)
      | succ j => exact i4 j c x (by simpa [argsAV] using hc) (by simpa using hx)

/-- All that was there is as it was. -/
def Same (W W' : World) : Prop := W'.os = W.os ∧ W'.output = W.output ∧ ∀ b, b < W.heap.size → W'.heap[b]? = W.heap[b]?

theorem Same.keptBut (h : Same W W') (may : MemPlace → Prop) : W.keptBut W' may := by
  refine ⟨h.1, h.2.1, fun i hi => ?_⟩
  rw [h.2.2 i hi]
  cases W.heap[i]? with
  | none => simp
  | some o => cases o <;> simp

theorem Same.at (h : Same W W') {p : MemPlace} (hp : p.block < W.heap.size) : W.sameAt W' p := by
  cases p with
  | cell b off => exact cell?_of_heap (h.2.2 b hp) off
  | map b => exact h.2.2 b hp

theorem Same.frozen (h : Same W W') {b off : Nat} (hb : b < W.heap.size) : W'.frozen? ⟨b, off, none⟩ = W.frozen? ⟨b, off, none⟩ := by
  simp only [World.frozen?, h.2.2 b hb]

variable {T : TypeId → Prop}

theorem carry_all : ∀ {ts : List TypeId} {vs : List Value} {ds : List (DataW H)} {ps : List MemPlace} {sp : Nat → Bool} {held : Bool}, DataW.TrodAll enc P W 0 sp held ts vs ds ps → (∀ p ∈ ps, W.sameAt W' p) →
    DataW.TrodAll enc P W' 0 sp held ts vs ds ps
  | [], [], [], _, _, _, h, _ => h
  | _ :: _, _ :: _, _ :: _, _, _, _, ⟨p, q, ⟨n, h1⟩, h2, e⟩, hs => ⟨p, q, ⟨n, DataW.trod_carry n _ _ _ h1 fun x hx => hs x (by rw [e]; exact List.mem_append_left _ hx)⟩, carry_all h2 (fun x hx => hs x (by rw [e]; exact List.mem_append_right _ hx)), e⟩

theorem vars_again (K : Kids P T) (hz : ∀ t e, T t → P.underlying t = some (.slice e) → 0 < P.cellsOf e) (hg : ∀ (g : Nat) t, (P.globals[g]?).map (·.type) = some t → T t) (S : Same W W') {sp : Nat → Bool} :
    ∀ {ns : List String} {ds : List (DataW H)} {ps : List MemPlace}, DataW.TrodVars enc P W (fun _ => true) ns ds ps → (∀ p ∈ ps, p.block < W.heap.size ∧ sp p.block = true) → DataW.TrodVars enc P W' sp ns ds ps
  | [], [], _, h, _ => h
  | _ :: _, _ :: _, _, ⟨g, t, cs, fuel, p, q, h1, h2, h3, h4, h5, e⟩, hs => by
    refine ⟨g, t, cs, fuel, p, q, h1, h2, ?_, ?_, vars_again K hz hg S h5 (fun x hx => hs x (by rw [e]; simp [hx])), e⟩
    · rw [← h3]
      simp only [World.var?, h1, Option.bind_some] at h3 ⊢
      have hlt : g < W.heap.size := by
        by_cases hb : g < W.heap.size
        · exact hb
        · rw [Array.getElem?_eq_none (by omega)] at h3; cases h3
      rw [S.2.2 g hlt]
    · exact DataW.trod_respare K hz fuel t _ _ (hg g t h2) (DataW.trod_carry fuel _ _ _ h4 fun x hx => S.at (hs x (by rw [e]; simp [hx])).1) (fun x hx => (hs x (by rw [e]; simp [hx])).2)

theorem args_again (K : Kids P T) (hz : ∀ t e, T t → P.underlying t = some (.slice e) → 0 < P.cellsOf e) (S : Same W W') {sp : Nat → Bool} {ts : List TypeId} {vs : List Value} {ds : List (DataW H)} {ps : List MemPlace} (hT : ∀ t ∈ ts, T t)
    (h : DataW.TrodAll enc P W 0 (fun _ => true) true ts vs ds ps) (hs : ∀ p ∈ ps, p.block < W.heap.size ∧ sp p.block = true) : DataW.TrodAll enc P W' 0 sp true ts vs ds ps :=
  DataW.TrodAll.respare K hz hT (carry_all h fun p hp => S.at (hs p hp).1) fun p hp => (hs p hp).2

/-- THE POST OF A LAW THAT ANSWERS TRUE. -/
theorem post_true {f : Func} {s : ChangeSpec} {fresh handsOn again : Bool} {args : Array Value} {ds gs : List (DataW H)} {before : List MemPlace} {tb : TypeId}
    (K : Kids P T) (hz : ∀ t e, T t → P.underlying t = some (.slice e) → 0 < P.cellsOf e) (hg : ∀ (g : Nat) t, (P.globals[g]?).map (·.type) = some t → T t) (hT : ∀ t ∈ f.params.toList, T t)
    (hr : f.resultTypes = #[tb]) (hb : P.underlying tb = some .bool)
    (hW : DataW.Whole enc P f.params.toList s.vars false W args.toList ds gs before) (S : Same W W')
    (hspec : s.fn H (ds ++ gs) = { results := [.lit (.bool true)], args := ds, vars := gs }) : s.post enc P f false fresh handsOn again W args (.bool true) W' := by
  have hlt := hW.lt
  have hW0 := hW
  obtain ⟨p, q, hA, hV, hbf, hfz, _⟩ := hW
  have hlp : ∀ x ∈ p, x.block < W.heap.size := fun x hx => hlt x (by rw [hbf]; simp [hx])
  have hlq : ∀ x ∈ q, x.block < W.heap.size := fun x hx => hlt x (by rw [hbf]; simp [hx])
  have res : ∀ (b : Nat) (sp : Nat → Bool) (hd : Bool), DataW.TrodAll enc P W' b sp hd f.resultTypes.toList ((Value.bool true).resultList f.resultTypes.size) (s.fn H (ds ++ gs)).results [] := by
    intro b sp hd
    rw [hspec, hr]
    exact trodAll_mk1 ⟨1, by simp [DataW.trod, hb, Value.cells]⟩
  have ar : ∀ sp : Nat → Bool, (∀ b, b < W.heap.size → sp b = true) → DataW.TrodAll enc P W' 0 sp true f.params.toList args.toList (s.fn H (ds ++ gs)).args p := by
    intro sp hsp
    rw [hspec]
    exact args_again K hz S hT hA fun x hx => ⟨hlp x hx, hsp _ (hlp x hx)⟩
  have va : ∀ sp : Nat → Bool, (∀ b, b < W.heap.size → sp b = true) → DataW.TrodVars enc P W' sp s.vars (s.fn H (ds ++ gs)).vars q := by
    intro sp hsp
    rw [hspec]
    exact vars_again K hz hg S hV fun x hx => ⟨hlq x hx, hsp _ (hlq x hx)⟩
  refine ⟨ds, gs, before, [], p, q, hW0, res _ _ _, ar _ (by simp), va _ (by simp), S.keptBut _, fun _ => ⟨?_, ?_⟩⟩
  · exact ok_one hr rfl (okWide_bool_mk hb _)
  · refine ⟨_, _, ([] ++ p) ++ q, ⟨[] ++ p, q, trodAll_append (ar _ (fun _ _ => rfl)) (res _ _ _), va _ (fun _ _ => rfl), rfl, ?_, by simp⟩, ?_⟩
    · intro b off hp
      have hp' : MemPlace.cell b off ∈ before := by rw [hbf]; simpa using hp
      rw [S.frozen (b := b) (off := off) (hlt _ hp')]
      exact hfz b off hp'
    · intro x hx _
      rw [hbf]; simpa using hx

/-- THE LAW's CALL. -/
theorem law_calls {f : FuncId} {fn : Func} {s : ChangeSpec} {fresh handsOn again : Bool} {args : Array Value} {ds gs : List (DataW H)} {before : List MemPlace} {tb : TypeId} {G : Glob} {base : Nat}
    (hP : Plain P L = true) (hub : BulkOk ub) (hL : ∀ t ∈ fn.params.toList, t ∈ L)
    (K : Kids P T) (hz : ∀ t e, T t → P.underlying t = some (.slice e) → 0 < P.cellsOf e) (hg : ∀ (g : Nat) t, (P.globals[g]?).map (·.type) = some t → T t) (hT : ∀ t ∈ fn.params.toList, T t)
    (hr : fn.resultTypes = #[tb]) (hb : P.underlying tb = some .bool)
    (hval : ∀ (j : Nat) t v, fn.params[j]? = some t → args[j]? = some v → Value.okWide P W .any base t v)
    (hW : DataW.Whole enc P fn.params.toList s.vars false W args.toList ds gs before)
    (hspec : s.fn H (ds ++ gs) = { results := [.lit (.bool true)], args := ds, vars := gs })
    (hG : ∀ g cs, G g = some cs → g < W.heap.size ∧ ∀ j c, cs[j]? = some c → ∃ v, W.cell? ⟨g, j, none⟩ = some v ∧ PRel W (· < W.heap.size) c v)
    (walk : ∀ vss, Confs P fn.params.toList vss → pbulkLL vss ≤ (ds.map ub).sum → VF P G f (argsAV P fn.params.toList vss) (.p (.bool true))) :
    Calls P f args W fun e W' => ∃ v, e = .returned v ∧ s.post enc P fn false fresh handsOn again W args v W' := by
  obtain ⟨p, q, hA, hV, hbf, hfz, hn⟩ := hW
  obtain ⟨vss, c1, c2, c3, c4⟩ := args_rel (φ := fun _ => (0, 0)) (n := 0) hP hub hL hA (base := base) (fun j t v h1 h2 => hval j t v (by simpa using h1) (by simpa using h2))
  have H0 : HRel G W (· < W.heap.size) (fun _ => (0, 0)) [] := ⟨fun id sz es e => by simp at e, fun id o e _ => by simp at e, fun id id' e => (live_nil e).elim, fun b hb => ⟨hb, fun id e => (live_nil e).elim⟩, fun id hid => by simp at hid, hG⟩
  refine ((walk vss c1 c2).2 W (· < W.heap.size) (fun _ => (0, 0)) args H0 ⟨by simpa using c3, fun j c v h1 h2 => c4 j c v h1 (by simpa using h2)⟩).mono fun e W' ⟨r, S', φ', h', k1, k2, k3, k4⟩ => ?_
  subst k1
  cases k3 with
  | ret _ x hv =>
    cases hv with
    | p _ _ hp =>
      cases hp
      refine ⟨_, rfl, post_true K hz hg hT hr hb ⟨p, q, hA, hV, hbf, hfz, hn⟩ ⟨k4.os, k4.output, fun b hb => k4.out b hb fun id e => (live_nil e).elim⟩ hspec⟩
end
end Go.Aw
/-
  What a row's list of variables gives: their cells, as pure data. No program.
-/
namespace Go.Aw

theorem laid_mem {P : Program} {W : World} {n : String} {d : DataW Unit} : ∀ {laid : List (String × DataW Unit)} {ps : List MemPlace}, DataW.LaidVars P W laid ps → (n, d) ∈ laid →
    ∃ g t cs fuel p, P.globalNamed n = some g ∧ (P.globals[g]?).map (·.type) = some t ∧ W.var? P n = some cs ∧ DataW.trod (fun _ => ()) P W 0 (fun _ => true) false fuel t cs.toList = some (d, p)
  | [], _, _, hm => by cases hm
  | (n', d') :: r, ps, ⟨g, t, cs, fuel, p, q, h1, h2, h3, h4, h5, _⟩, hm => by
    rcases List.mem_cons.1 hm with e | hm
    · cases e; exact ⟨g, t, cs, fuel, p, h1, h2, h3, h4⟩
    · exact laid_mem h5 hm


mutual
def ubD {H : Type} : DataW H → Nat
  | .lit (.string s) => s.length + 1
  | .lit _ => 1
  | .nil => 1
  | .ptr d => ubD d + 1
  | .slice es sp => ubL es + ubL sp + 1
  | .agg ps => ubL ps + 1
  | .iface _ d => ubD d + 1
  | .map es => ubE es + 1
  | .held _ => 1
def ubL {H : Type} : List (DataW H) → Nat
  | [] => 0
  | d :: r => ubD d + ubL r
def ubE {H : Type} : List (Lit × DataW H) → Nat
  | [] => 0
  | x :: r => ubX x + ubE r
def ubX {H : Type} : Lit × DataW H → Nat
  | (_, d) => ubD d + 1
end

theorem ubL_sum {H : Type} : ∀ l : List (DataW H), ubL l = (l.map ubD).sum
  | [] => rfl
  | d :: r => by simp [ubL, ubL_sum r]

theorem ubD_ok {H : Type} : BulkOk (ubD (H := H)) where
  lit := fun l => by cases l <;> simp [ubD]
  str := fun s => by simp [ubD]
  nil := by simp [ubD]
  slice := fun es sp => by simp only [ubD, ubL_sum]; omega
  agg := fun ps => by simp only [ubD, ubL_sum]; omega

/-- WHAT A LISTED VARIABLE HOLDS. -/
theorem laid_glob {P : Program} {W : World} {L : List TypeId} {laid : List (String × DataW Unit)} (hP : Plain P L = true) (hl : laidMet P laid W) {n : String} {d : DataW Unit} (hm : (n, d) ∈ laid) {g : Nat} {t : TypeId}
    (hg : P.globalNamed n = some g) (ht : (P.globals[g]?).map (·.type) = some t) (htL : t ∈ L) {vs : List PV} (hd : ∀ k, toPV P (k + 10) t d = vs) :
    g < W.heap.size ∧ ∀ (j : Nat) (c : PV), vs[j]? = some c → ∃ v, W.cell? ⟨g, j, none⟩ = some v ∧ PRel W (· < W.heap.size) c v := by
  obtain ⟨ps, hl, _⟩ := hl
  obtain ⟨g', t', cs, fuel, p, h1, h2, h3, h4⟩ := laid_mem hl hm
  rw [hg] at h1; cases h1
  rw [ht] at h2; cases h2
  have R := reads (ub := ubD) hP ubD_ok (fuel + 10) t cs.toList _ htL (DataW.trod_le (Nat.le_add_right _ _) h4)
  simp only [hd] at R
  simp only [World.var?, hg, Option.bind_some] at h3
  split at h3 <;> first | (cases h3; done) | skip
  rename_i c0 t0 fr hb
  cases h3
  refine ⟨(Array.getElem?_eq_some_iff.1 hb).1, fun j c hj => ?_⟩
  have hlt : j < cs.toList.length := by
    have := (List.getElem?_eq_some_iff.1 hj).1
    rw [R.clen, ← R.len]; exact this
  refine ⟨cs.toList[j], ?_, R.rel j c _ hj (List.getElem?_eq_getElem hlt)⟩
  simp at hlt
  simp [World.cell?, hb, hlt]

section
variable {H : Type} {enc : TypeId × Value → H} {P : Program} {W : World}
theorem trodAll_len {b : Nat} {sp : Nat → Bool} {held : Bool} : ∀ {ts : List TypeId} {vs : List Value} {ds : List (DataW H)} {ps : List MemPlace}, DataW.TrodAll enc P W b sp held ts vs ds ps → ds.length = ts.length
  | [], [], [], _, _ => rfl
  | _ :: _, _ :: _, _ :: _, _, ⟨_, _, _, h, _⟩ => by simp [trodAll_len h]
theorem trodVars_len {sp : Nat → Bool} : ∀ {ns : List String} {ds : List (DataW H)} {ps : List MemPlace}, DataW.TrodVars enc P W sp ns ds ps → ds.length = ns.length
  | [], [], _, _ => rfl
  | _ :: _, _ :: _, _, ⟨_, _, _, _, _, _, _, _, _, _, h, _⟩ => by simp [trodVars_len h]
theorem whole_len {ts : List TypeId} {vars : List String} {ap : Bool} {vs : List Value} {ds gs : List (DataW H)} {ps : List MemPlace} (h : DataW.Whole enc P ts vars ap W vs ds gs ps) : ds.length = ts.length ∧ gs.length = vars.length := by
  obtain ⟨p, q, h1, h2, _⟩ := h
  exact ⟨trodAll_len h1, trodVars_len h2⟩
end

theorem globals_in {P : Program} (h : (P.globals.toList.all fun g => decide (g.type < P.types.size)) = true) (g : Nat) (t : TypeId) (e : (P.globals[g]?).map (·.type) = some t) : t < P.types.size := by
  cases hg : P.globals[g]? with
  | none => rw [hg] at e; cases e
  | some x =>
    rw [hg] at e
    cases e
    have := List.all_eq_true.1 h x (List.mem_of_getElem? (by simpa using hg))
    simpa using this

theorem params_in {P : Program} {ts : List TypeId} (h : (ts.all fun t => decide (t < P.types.size)) = true) : ∀ t ∈ ts, t < P.types.size := fun t ht => by
  have := List.all_eq_true.1 h t ht
  simpa using this
end Go.Aw
/-
  Small laws for the walks. No program.
-/
namespace Go.Aw
@[simp] theorem belowL_mapp (n : Nat) : ∀ l : List PV, belowL n (l.map .p) = True
  | [] => by simp [belowL]
  | v :: r => by simp [belowL, below, belowL_mapp n r]
@[simp] theorem below_p (n : Nat) (v : PV) : below n (.p v) = True := by simp [below]
@[simp] theorem below_any (n : Nat) : below n .any = True := by simp [below]
@[simp] theorem below_nils (n : Nat) : below n .nils = True := by simp [below]
@[simp] theorem below_agg (n : Nat) (l : List AV) : below n (.agg l) = belowL n l := by simp [below]
@[simp] theorem below_tup (n : Nat) (l : List AV) : below n (.tup l) = belowL n l := by simp [below]
@[simp] theorem belowL_nil (n : Nat) : belowL n [] = True := by simp [belowL]
@[simp] theorem belowL_cons (n : Nat) (v : AV) (r : List AV) : belowL n (v :: r) = (below n v ∧ belowL n r) := by simp [belowL]
@[simp] theorem Fgt_nil (n : Nat) : Fgt n [] [] = True := by simp [Fgt]
@[simp] theorem Fgt_cons (n : Nat) (v v1 : AV) (r r1 : List AV) : Fgt n (v :: r) (v1 :: r1) = ((v1 = .any ∨ (below n v1 ∧ v1 = v)) ∧ Fgt n r r1) := by simp [Fgt]
@[simp] theorem cast_neg (n : Nat) : ((n : Int) < 0) = False := by simp
theorem i64_small {x : Int} (h0 : -9223372036854775808 ≤ x) (h1 : x ≤ 9223372036854775807) : IntKind.i64.wrap x = x := by
  simp [IntKind.wrap, IntKind.bits, IntKind.signed]
  omega
theorem w1 {i : Nat} (h : i < 9223372036854775807) : IntKind.i64.wrap (↑i + 1) = ((i + 1 : Nat) : Int) := by
  rw [i64_small (by omega) (by omega)]; simp
theorem get_ne {α : Type} {xs ys : List α} {i : Nat} {h1 : i < xs.length} {h2 : i < ys.length} (h : xs[i] ≠ ys[i]) : xs ≠ ys := fun e => by subst e; exact h rfl
theorem take_succ_eq {α : Type} {xs ys : List α} {i : Nat} (h1 : i < xs.length) (h2 : i < ys.length) (h : xs[i] = ys[i]) (ht : xs.take i = ys.take i) : xs.take (i + 1) = ys.take (i + 1) := by
  rw [List.take_add_one, List.take_add_one, ht, List.getElem?_eq_getElem h1, List.getElem?_eq_getElem h2, h]
theorem take_done {α : Type} {xs ys : List α} {i : Nat} (hl : xs.length = ys.length) (h : xs.length ≤ i) (ht : xs.take i = ys.take i) : xs = ys := by
  rwa [List.take_of_length_le h, List.take_of_length_le (by omega)] at ht
end Go.Aw
/-
  Lending: a function of pure data may be handed what the caller owns. No program.
-/
namespace Go.Aw

/-- How what is owned reads, as pure data. -/
inductive View (h : List AO) : AV → PV → Prop where
  | p (v : PV) : View h (.p v) v
  | nils (sz : Nat) : View h .nils (.lst sz [])
  | sl (id sz off : Nat) (es : List (List AV)) (ps : List (List PV)) : h[id]? = some (.row sz es) → off + ps.length ≤ es.length → (∀ e ∈ ps, e.length = sz) →
      (∀ (i j : Nat) (e : List PV) (q : PV) (e' : List AV) (a : AV), ps[i]? = some e → e[j]? = some q → es[off + i]? = some e' → e'[j]? = some a → View h a q) → View h (.sl id sz off ps.length) (.lst sz ps)

/-- The blocks that are owned. -/
def Owned (φ : Place) (h : List AO) (b : Nat) : Prop := ∃ id, Live h id ∧ (φ id).1 = b

theorem View.prel {G : Glob} {W : World} {S : Nat → Prop} {φ : Place} {h : List AO} (H : HRel G W S φ h) {a : AV} {q : PV} (hv : View h a q) : ∀ {x : Value}, VRel W S φ h.length a x → PRel W (fun b => S b ∨ Owned φ h b) q x := by
  induction hv with
  | p v =>
    intro x hx
    cases hx with
    | p _ _ hp => exact hp.mono fun b hb => ⟨.inl hb, rfl⟩
  | nils sz => intro x hx; cases hx; exact .lst0 _ _ _
  | sl id sz off es ps hid hfit hsz hc ih =>
    intro x hx
    cases hx with
    | sl _ _ _ _ cap ba hid' hl hba hb =>
      obtain ⟨c, t, fr, a1, a2, a3, a4, a5⟩ := H.obj id sz es hid
      cases hps : ps with
      | nil => subst hps; exact .lst0 _ _ _
      | cons e0 r0 =>
        rw [← hps]
        have hpos : 0 < cap := by have : 0 < ps.length := by rw [hps]; simp
                                  omega
        have hba' := hba hpos
        subst hba'
        have cell : ∀ (j : Nat) (q : PV), ps.flatten[j]? = some q → ∃ v, W.cell? ⟨(φ id).1, (φ id).2 + off * sz + j, none⟩ = some v ∧ PRel W (fun b => S b ∨ Owned φ h b) q v := by
          intro j q hj
          have hszp : 0 < sz := by
            rcases Nat.eq_zero_or_pos sz with h0 | h0
            · exfalso
              have := (List.getElem?_eq_some_iff.1 hj).1
              rw [flatten_len hsz, h0] at this
              simp at this
            · exact h0
          have e1 : j = (j / sz) * sz + j % sz := by rw [Nat.mul_comm]; exact (Nat.div_add_mod _ _).symm
          have e2 : j % sz < sz := Nat.mod_lt _ hszp
          rw [e1, flatten_get hsz _ _ e2] at hj
          simp only [Option.bind_eq_some_iff] at hj
          obtain ⟨e, he, hq⟩ := hj
          have hi1 : j / sz < ps.length := (List.getElem?_eq_some_iff.1 he).1
          obtain ⟨e', he'⟩ : ∃ e', es[off + j / sz]? = some e' := ⟨_, List.getElem?_eq_getElem (by omega)⟩
          have hle : e'.length = sz := a3 e' (List.mem_of_getElem? he')
          obtain ⟨a, ha⟩ : ∃ a, e'[j % sz]? = some a := ⟨_, List.getElem?_eq_getElem (by omega)⟩
          have hfl : es.flatten[(off + j / sz) * sz + j % sz]? = some a := by
            rw [flatten_get a3 _ _ e2, he']; exact ha
          obtain ⟨_, v, hv1, hv2⟩ := a5 _ a hfl
          refine ⟨v, ?_, ih _ _ e q e' a he hq he' ha hv2⟩
          · simp only [World.cell?, a1]
            rw [show (φ id).2 + off * sz + j = (φ id).2 + ((off + j / sz) * sz + j % sz) by rw [Nat.add_mul]; omega]
            simp [hv1]
        have := PRel.lst (W := W) (S := fun b => S b ∨ Owned φ h b) sz ps (φ id).1 ((φ id).2 + off * sz) cap (fun j => (W.cell? ⟨(φ id).1, (φ id).2 + off * sz + j, none⟩).getD default) (.inr ⟨id, live_row hid, rfl⟩) hsz (by omega)
          (fun j c hj => by obtain ⟨v, h1, h2⟩ := cell j c hj; rw [h1]; rfl) (fun j c hj => by obtain ⟨v, h1, h2⟩ := cell j c hj; rw [h1]; exact h2)
        exact this

/-- Arguments: as they are, and as pure data. -/
inductive Views (h : List AO) : List AV → List AV → Prop where
  | nil : Views h [] []
  | one {a : AV} {q : PV} {l l' : List AV} : View h a q → Views h l l' → Views h (a :: l) (.p q :: l')
  | agg {cs cs' l l' : List AV} : Views h cs cs' → Views h l l' → Views h (.agg cs :: l) (.agg cs' :: l')
  | tup {cs cs' l l' : List AV} : Views h cs cs' → Views h l l' → Views h (.tup cs :: l) (.tup cs' :: l')
  | keep {a : AV} {l l' : List AV} : below 0 a → Views h l l' → Views h (a :: l) (a :: l')

theorem Views.len {h : List AO} : ∀ {l l' : List AV}, Views h l l' → l.length = l'.length
  | _, _, .nil => rfl
  | _, _, .one _ r => by simp [r.len]
  | _, _, .agg _ r => by simp [r.len]
  | _, _, .tup _ r => by simp [r.len]
  | _, _, .keep _ r => by simp [r.len]

theorem below_relS {W : World} {S S' : Nat → Prop} {φ φ' : Place} {n n' : Nat} (hS : ∀ b, S b → S' b) {v : AV} (hb : below 0 v) {x : Value} (h : VRel W S φ n v x) : VRel W S' φ' n' v x := by
  have h1 : VRel W S φ' n' v x := below_rel v hb h
  clear h
  induction h1 with
  | p v x hp => exact .p _ _ (hp.mono fun b hb => ⟨hS b hb, rfl⟩)
  | agg cs vs hs _ ih => exact .agg cs vs hs fun j c y h1 h2 => ih j c y h1 h2 (belowL_get (by simpa [below] using hb) j c h1)
  | tup cs vs hs _ ih => exact .tup cs vs hs fun j c y h1 h2 => ih j c y h1 h2 (belowL_get (by simpa [below] using hb) j c h1)
  | ptr => simp [below] at hb
  | sl => simp [below] at hb
  | mp => simp [below] at hb
  | it => simp [below] at hb
  | eptr e off b o hb' hc =>
    exact .eptr e off b o (hS b hb') fun j c hj => by
      obtain ⟨v, h1, h2⟩ := hc j c hj
      exact ⟨v, h1, h2.mono fun b hb => ⟨hS b hb, rfl⟩⟩
  | gp g off => exact .gp g off
  | fn f caps vs hs _ ih => exact .fn f caps vs hs fun j c y h1 h2 => ih j c y h1 h2 (belowL_get (by simpa [below] using hb) j c h1)
  | nils => exact .nils
  | nilp => exact .nilp
  | nilf => exact .nilf
  | nilm => exact .nilm
  | nili => exact .nili
  | ifc t pv x hp => exact .ifc _ _ _ (hp.mono fun b hb => ⟨hS b hb, rfl⟩)
  | any x => exact .any x

theorem Views.rel {G : Glob} {W : World} {S : Nat → Prop} {φ : Place} {h : List AO} (H : HRel G W S φ h) : ∀ {l l' : List AV}, Views h l l' → ∀ (j : Nat) (c c' : AV) (x : Value), l[j]? = some c → l'[j]? = some c' → VRel W S φ h.length c x → VRel W (fun b => S b ∨ Owned φ h b) φ 0 c' x
  | _, _, .nil, j, c, c', x, h1, _, _ => by simp at h1
  | _, _, .one hv r, j, c, c', x, h1, h2, hx => by
    cases j with
    | zero => simp at h1 h2; subst h1; subst h2; exact .p _ _ (hv.prel H hx)
    | succ j => exact r.rel H j c c' x (by simpa using h1) (by simpa using h2) hx
  | _, _, .agg hv r, j, c, c', x, h1, h2, hx => by
    cases j with
    | zero =>
      simp at h1 h2; subst h1; subst h2
      cases hx with
      | agg cs vs hs hc =>
        refine .agg _ vs (by rw [hs, hv.len]) fun i d y h3 h4 => ?_
        have hi : i < vs.size := (Array.getElem?_eq_some_iff.1 h4).1
        exact hv.rel H i _ d y (List.getElem?_eq_getElem (by omega)) h3 (hc i _ y (List.getElem?_eq_getElem (by omega)) h4)
    | succ j => exact r.rel H j c c' x (by simpa using h1) (by simpa using h2) hx
  | _, _, .tup hv r, j, c, c', x, h1, h2, hx => by
    cases j with
    | zero =>
      simp at h1 h2; subst h1; subst h2
      cases hx with
      | tup cs vs hs hc =>
        refine .tup _ vs (by rw [hs, hv.len]) fun i d y h3 h4 => ?_
        have hi : i < vs.size := (Array.getElem?_eq_some_iff.1 h4).1
        exact hv.rel H i _ d y (List.getElem?_eq_getElem (by omega)) h3 (hc i _ y (List.getElem?_eq_getElem (by omega)) h4)
    | succ j => exact r.rel H j c c' x (by simpa using h1) (by simpa using h2) hx
  | _, _, .keep hb r, j, c, c', x, h1, h2, hx => by
    cases j with
    | zero => simp at h1 h2; subst h1; subst h2; exact below_relS (fun b hb => .inl hb) hb hx
    | succ j => exact r.rel H j c c' x (by simpa using h1) (by simpa using h2) hx

/-- A result without references. -/
def scal : AV → Bool
  | .p (.bool _) | .p (.int ..) | .p (.str _) => true
  | _ => false

/-- LENDING. -/
theorem VF.lend {P : Program} {G : Glob} {f : FuncId} {args pargs : List AV} {r : AV} (H : VF P G f pargs r) {h : List AO} (hv : Views h args pargs) (hr : scal r = true) : AC P G f args h fun x h' => x = .ret r ∧ h' = h := by
  refine ⟨H.1, fun W S φ vs hH hA => ?_⟩
  have h0 : HRel G W (fun b => S b ∨ Owned φ h b) φ [] := ⟨fun id sz es e => by simp at e, fun id o e _ => by simp at e, fun id id' e => (live_nil e).elim, fun b hb => ⟨by
      rcases hb with hb | ⟨id, e, he⟩
      · exact (hH.sep b hb).1
      · rw [← he]; exact hH.bnd id e.lt, fun id e => (live_nil e).elim⟩, fun id hid => by simp at hid, fun g cs hg => by
      obtain ⟨g1, g2⟩ := hH.glob g cs hg
      exact ⟨.inl g1, fun j c hj => by obtain ⟨v, k1, k2⟩ := g2 j c hj; exact ⟨v, k1, k2.mono fun b hb => ⟨.inl hb, rfl⟩⟩⟩⟩
  refine (H.2 W _ φ vs h0 ⟨by rw [hA.1, hv.len], fun j c v h1 h2 => ?_⟩).mono fun e W' ⟨x, S', φ', h', k1, k2, k3, k4⟩ => ?_
  · have hj : j < vs.size := (Array.getElem?_eq_some_iff.1 h2).1
    have hjl : j < args.length := by rw [← hA.1]; exact hj
    exact hv.rel hH j _ c v (List.getElem?_eq_getElem hjl) h1 (hA.2 j _ v (List.getElem?_eq_getElem hjl) h2)
  subst k1
  have hout : ∀ b, b < W.heap.size → W'.heap[b]? = W.heap[b]? := fun b hb => k4.out b hb fun id e => (live_nil e).elim
  have hlt : ∀ {id : Nat} {o : AO}, h[id]? = some o → id < h.length := fun e => (List.getElem?_eq_some_iff.1 e).1
  have K : Keep W S φ h W' S φ h :=
    { pure := fun b hb => ⟨hb, hout b (hH.sep b hb).1⟩, len := Nat.le_refl _, same := fun _ _ => rfl
      blk := fun id hid c t fr e => ⟨c, t, fr, by rw [← hout _ (hH.bnd id hid)]; exact e, rfl⟩
      os := k4.os, tape := k4.tape, output := k4.output, size := k4.size, out := fun b hb _ => hout b hb
      img := fun id e => .inr ⟨id, e, rfl⟩
      newS := fun b hb => .inl hb }
  refine ⟨.ret r, S, φ, h, ⟨rfl, rfl⟩, ⟨fun id sz es e => ?_, fun id o1 e lo => ?_, hH.inj, fun b hb => ⟨Nat.lt_of_lt_of_le (hH.sep b hb).1 k4.size, (hH.sep b hb).2⟩, fun id hid => Nat.lt_of_lt_of_le (hH.bnd id hid) k4.size, fun g cs hg => ?_⟩, ?_, K⟩
  · obtain ⟨c, t, fr, a1, a2, a3, a4, a5⟩ := hH.obj id sz es e
    refine ⟨c, t, fr, by rw [hout _ (hH.bnd id (hlt e))]; exact a1, a2, a3, a4, fun j u hj => ?_⟩
    obtain ⟨b1, v, b2, b3⟩ := a5 j u hj
    exact ⟨b1, v, b2, b3.kept K.toKept⟩
  · rw [hout _ (hH.bnd id (hlt e))]
    exact (hH.oobj id o1 e lo).mono fun a v r => r.kept K.toKept
  · obtain ⟨g1, g2⟩ := hH.glob g cs hg
    refine ⟨g1, fun j c hj => ?_⟩
    obtain ⟨v, v1, v2⟩ := g2 j c hj
    exact ⟨v, by rw [cell?_of_heap (K.pure g g1).2]; exact v1, v2.mono K.pure⟩
  · cases k3 with
    | ret _ x hv =>
      refine .ret _ _ ?_
      cases hv <;> simp [scal] at hr
      rename_i pv hp
      cases hp <;> simp [scal] at hr
      · exact .p _ _ (.bool _)
      · exact .p _ _ (.int _ _)
      · exact .p _ _ (.str _)
end Go.Aw
