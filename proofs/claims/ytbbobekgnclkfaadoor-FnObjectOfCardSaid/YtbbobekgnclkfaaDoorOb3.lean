/-
  Contracts and lemmas that the card needs, part 3.
-/
import Derived.Test.YtbbobekgnclkfaaDoorOb2
import Derived.ChangeSame
import Derived.ReadAgain
import Derived.OpenShut
import Derived.Deep.DeepHandedRow
import Derived.Test.YtbbobekgnclkfaaDoorRows
namespace Go.Aw
/-- Types without pointers, maps, interfaces: those of a list. -/
def plainT (P : Program) (L : List TypeId) (t : TypeId) : Bool :=
  match P.underlying t with
  | some .bool | some (.int _) | some .string => P.cellsOf t == 1
  | some (.slice e) => P.cellsOf t == 1 && L.contains e && decide (0 < P.cellsOf e)
  | some (.array n e) => L.contains e && P.cellsOf t == n * P.cellsOf e
  | some (.struct fs) => fs.toList.all (fun f => L.contains f.type) && P.cellsOf t == (fs.toList.map fun f => P.cellsOf f.type).sum &&
      (List.range fs.size).all fun j => match fs.toList[j]? with
        | some f => f.offset == ((fs.toList.take j).map fun f => P.cellsOf f.type).sum
        | none => true
  | _ => false
def Plain (P : Program) (L : List TypeId) : Bool := L.all (plainT P L)
theorem Plain.kids {P : Program} {L : List TypeId} (h : Plain P L = true) : Kids P (· ∈ L) := by
  have k : ∀ t, t ∈ L → plainT P L t = true := fun t ht => List.all_eq_true.1 h t ht
  refine ⟨fun ht hu => ?_, fun ht hu => ?_, fun ht hu => ?_, fun ht hu => ?_, fun ht hu => ?_⟩
  · have := k _ ht; simp [plainT, hu] at this
  · have := k _ ht; simp [plainT, hu] at this; exact this.1.2
  · have := k _ ht; simp [plainT, hu] at this; exact this
  · rename_i t fs
    have := k _ ht
    simp only [plainT, hu, Bool.and_eq_true, List.all_eq_true, beq_iff_eq, List.contains_iff_mem] at this
    refine ⟨fun f hf => this.1.1 f hf, this.1.2, fun j f hj => ?_⟩
    have h2 := this.2 j (by
      have := (List.getElem?_eq_some_iff.1 hj).1
      simpa using this)
    rw [hj] at h2
    simpa using h2
  · have := k _ ht; simp [plainT, hu] at this
mutual
/-- Well-formed data of a type. -/
inductive Conf (P : Program) : TypeId → List PV → Prop
  | bool {t : TypeId} (b : Bool) : P.underlying t = some .bool → Conf P t [.bool b]
  | int {t : TypeId} {k : IntKind} (n : Int) : P.underlying t = some (.int k) → (Lit.int k n).wf = true → Conf P t [.int k n]
  | str {t : TypeId} (s : List UInt8) : P.underlying t = some .string → s.length ≤ maxLen → Conf P t [.str s]
  | sl {t e : TypeId} (es : List (List PV)) : P.underlying t = some (.slice e) → es.length ≤ maxLen → (∀ x, x ∈ es → Conf P e x) → Conf P t [.lst (P.cellsOf e) es]
  | st {t : TypeId} {fs : Array Field} (vs : List PV) : P.underlying t = some (.struct fs) → ConfS P (fs.toList.map (·.type)) vs → Conf P t vs
  | arr {t e : TypeId} {n : Nat} (vs : List PV) : P.underlying t = some (.array n e) → ConfS P (List.replicate n e) vs → Conf P t vs
inductive ConfS (P : Program) : List TypeId → List PV → Prop
  | nil : ConfS P [] []
  | cons {t : TypeId} {ts : List TypeId} {a b : List PV} : Conf P t a → ConfS P ts b → ConfS P (t :: ts) (a ++ b)
end
mutual
def pbulk : PV → Nat
  | .bool _ => 1
  | .int _ _ => 1
  | .str s => s.length + 1
  | .lst _ es => pbulkLL es + 1
def pbulkL : List PV → Nat
  | [] => 0
  | v :: r => pbulk v + pbulkL r
def pbulkLL : List (List PV) → Nat
  | [] => 0
  | v :: r => pbulkL v + pbulkLL r
end
theorem pbulkL_append (a b : List PV) : pbulkL (a ++ b) = pbulkL a + pbulkL b := by
  induction a with
  | nil => simp [pbulkL]
  | cons v r ih => simp [pbulkL, ih]; omega
/-- The pure datum of a reading. -/
def toPV {H : Type} (P : Program) : Nat → TypeId → DataW H → List PV
  | 0, _, _ => []
  | n + 1, t, d => match P.underlying t, d with
    | some .bool, .lit (.bool b) => [.bool b]
    | some (.int _), .lit (.int k n) => [.int k n]
    | some .string, .lit (.string s) => [.str s]
    | some (.slice e), .slice es _ => [.lst (P.cellsOf e) (es.map (toPV P n e))]
    | some (.slice e), .nil => [.lst (P.cellsOf e) []]
    | some (.struct fs), .agg ps => (List.zipWith (fun t x => toPV P n t x) (fs.toList.map (·.type)) ps).flatten
    | some (.array m e), .agg ps => (List.zipWith (fun t x => toPV P n t x) (List.replicate m e) ps).flatten
    | _, _ => []
/-- A measure of readings. -/
structure BulkOk {H : Type} (ub : DataW H → Nat) : Prop where
  lit : ∀ l, 1 ≤ ub (.lit l)
  str : ∀ s, s.length + 1 ≤ ub (.lit (.string s))
  nil : 1 ≤ ub .nil
  slice : ∀ es sp, (es.map ub).sum + 1 ≤ ub (.slice es sp)
  agg : ∀ ps, (ps.map ub).sum + 1 ≤ ub (.agg ps)
/-- What a reading gives of cells. -/
structure Reads {H : Type} (P : Program) (W : World) (ub : DataW H → Nat) (t : TypeId) (cs : List Value) (d : DataW H) (vs : List PV) : Prop where
  conf : Conf P t vs
  len : vs.length = P.cellsOf t
  clen : cs.length = P.cellsOf t
  rel : ∀ (j : Nat) (c : PV) (v : Value), vs[j]? = some c → cs[j]? = some v → PRel W (· < W.heap.size) c v
  bulk : pbulkL vs ≤ ub d
theorem mapM_get {α β : Type} {f : α → Option β} : ∀ {l : List α} {r : List β}, l.mapM f = some r → r.length = l.length ∧ ∀ (i : Nat) (x : α), l[i]? = some x → ∃ y, f x = some y ∧ r[i]? = some y
  | [], r, h => by simp at h; subst h; simp
  | a :: l, r, h => by
    simp only [List.mapM_cons, Option.bind_eq_bind, Option.bind_eq_some_iff] at h
    obtain ⟨y, hy, r', hr, e⟩ := h
    cases e
    obtain ⟨h1, h2⟩ := mapM_get hr
    refine ⟨by simp [h1], fun i x hi => ?_⟩
    cases i with
    | zero => simp at hi; subst hi; exact ⟨y, hy, rfl⟩
    | succ i => simpa using h2 i x (by simpa using hi)
theorem cell?_spot {w : World} {a : Addr} {v : Value} (h : w.cell? a = some v) : a.spot = none := by
  cases hsp : a.spot with
  | none => rfl
  | some s =>
    simp only [World.cell?] at h
    split at h
    · simp [hsp] at h
    · cases h
theorem add_spot {a : Addr} (h : a.spot = none) (i : Nat) : a.add i = ⟨a.block, a.off + i, none⟩ := by
  unfold Addr.add
  split
  · rename_i h0; subst h0; cases a; simp_all
  · rfl
theorem cells?_get {w : World} {b : Nat} {a : Addr} {n : Nat} {cs : List Value} (h : w.cells? b a n = some cs) :
    cs.length = n ∧ (0 < n → a.spot = none) ∧ ∀ i, i < n → ∃ v, cs[i]? = some v ∧ w.cell? ⟨a.block, a.off + i, none⟩ = some v := by
  unfold World.cells? at h
  split at h
  · obtain ⟨h1, h2⟩ := mapM_get h
    have hs : 0 < n → a.spot = none := fun hn => by
      obtain ⟨y, hy, _⟩ := h2 0 0 (by simp [hn])
      exact cell?_spot hy
    refine ⟨by simpa using h1, hs, fun i hi => ?_⟩
    obtain ⟨y, hy, hr⟩ := h2 i i (by simp [hi])
    rw [add_spot (hs (by omega))] at hy
    exact ⟨y, hr, hy⟩
  · cases h
section
variable {H : Type} {enc : TypeId × Value → H} {P : Program} {W : World} {sp : Nat → Bool} {held : Bool} {L : List TypeId} {ub : DataW H → Nat}
/-- One sequence of fields or elements. -/
theorem reads_seq (r : TypeId → List Value → Option (DataW H × List MemPlace)) (pv : TypeId → DataW H → List PV)
    (hr : ∀ t cs x, t ∈ L → r t cs = some x → Reads P W ub t cs x.1 (pv t x.1)) (cs : List Value) :
    ∀ (ts : List TypeId) (xs : List (DataW H × List MemPlace)) (off : Nat), (∀ t ∈ ts, t ∈ L) → xs.length = ts.length →
      (∀ (j : Nat) t, ts[j]? = some t → ∃ y, xs[j]? = some y ∧ r t ((cs.drop (off + ((ts.take j).map P.cellsOf).sum)).take (P.cellsOf t)) = some y) →
      ConfS P ts (List.zipWith pv ts (xs.map (·.1))).flatten ∧ (List.zipWith pv ts (xs.map (·.1))).flatten.length = (ts.map P.cellsOf).sum ∧
      (∀ (j : Nat) (c : PV) (v : Value), (List.zipWith pv ts (xs.map (·.1))).flatten[j]? = some c → cs[off + j]? = some v → PRel W (· < W.heap.size) c v) ∧
      pbulkL (List.zipWith pv ts (xs.map (·.1))).flatten ≤ ((xs.map (·.1)).map ub).sum
  | [], [], off, _, _, _ => ⟨.nil, rfl, by simp, by simp [pbulkL]⟩
  | t :: ts, x :: xs, off, hL, hl, h => by
    obtain ⟨y, hy, h0⟩ := h 0 t rfl
    simp at hy; subst hy
    have R := hr _ _ _ (hL t (by simp)) h0
    obtain ⟨i1, i2, i3, i4⟩ := reads_seq r pv hr cs ts xs (off + P.cellsOf t) (fun t ht => hL t (by simp [ht])) (by simpa using hl) (fun j t' hj => by
      obtain ⟨y, hy, h1⟩ := h (j + 1) t' (by simpa using hj)
      refine ⟨y, by simpa using hy, ?_⟩
      simpa [Nat.add_assoc] using h1)
    simp only [List.map_cons, List.zipWith_cons_cons, List.flatten_cons]
    refine ⟨.cons R.conf i1, by simp [i2, R.len], fun j c v hc hv => ?_, by rw [pbulkL_append]; have := R.bulk; simp only [List.sum_cons]; omega⟩
    by_cases hj : j < (pv t x.1).length
    · rw [List.getElem?_append_left hj] at hc
      refine R.rel j c v hc ?_
      rw [R.len] at hj
      rw [List.getElem?_take, if_pos hj, List.getElem?_drop]
      simpa using hv
    · rw [List.getElem?_append_right (by omega), R.len] at hc
      rw [R.len] at hj
      exact i3 _ c v hc (by rw [← hv]; congr 1; omega)
theorem reads (hP : Plain P L = true) (hub : BulkOk ub) : ∀ (n : Nat) (t : TypeId) (cs : List Value) (x : DataW H × List MemPlace), t ∈ L →
    DataW.trod enc P W 0 sp held n t cs = some x → Reads P W ub t cs x.1 (toPV P n t x.1) := by
  intro n
  induction n with
  | zero => intro t cs x _ h; simp [DataW.trod] at h
  | succ n ih =>
    intro t cs x hL h
    have hk := List.all_eq_true.1 hP t hL
    have one : ∀ (pv : PV) (v : Value), PRel W (· < W.heap.size) pv v → ∀ (j : Nat) (c : PV) (v' : Value), [pv][j]? = some c → [v][j]? = some v' → PRel W (· < W.heap.size) c v' := by
      intro pv v hp j c v' h1 h2
      cases j with
      | zero => simp at h1 h2; subst h1; subst h2; exact hp
      | succ j => simp at h1
    unfold plainT at hk
    unfold DataW.trod at h
    split at hk
    · rename_i hu
      rw [hu] at h
      split at h <;> simp_all
      subst h
      simp only [toPV, hu]
      exact ⟨.bool _ hu, by simp [hk], by simp [hk], one _ _ (.bool _), by simpa [pbulkL, pbulk] using hub.lit _⟩
    · rename_i hu
      rw [hu] at h
      split at h <;> simp_all
      obtain ⟨⟨rfl, hw⟩, rfl⟩ := h
      simp only [toPV, hu]
      exact ⟨.int _ hu hw, by simp [hk], by simp [hk], one _ _ (.int _ _), by simpa [pbulkL, pbulk] using hub.lit _⟩
    · rename_i hu
      rw [hu] at h
      split at h <;> simp_all
      obtain ⟨hw, rfl⟩ := h
      simp only [toPV, hu]
      exact ⟨.str _ hu (by simpa using hw), by simp [hk], by simp [hk], one _ _ (.str _), by simp only [pbulkL, pbulk, Nat.add_zero]; exact hub.str _⟩
    · rename_i e hu
      rw [hu] at h
      simp at hk
      split at h
      all_goals first | (exfalso; simp only [Option.some.injEq, reduceCtorEq] at *; done) | skip
      · cases h
        simp only [toPV, hu]
        refine ⟨.sl [] hu (by simp) (by simp), by simp [hk], by simp [hk], one _ _ (.lst0 _ _ _), by simpa [pbulkL, pbulk, pbulkLL] using hub.nil⟩
      · rename_i e' a len cap he
        injection he with he
        injection he with he
        subst he
        simp only at h
        split at h
        · rename_i hc
          simp only [Option.bind_eq_some_iff, Option.map_eq_some_iff] at h
          obtain ⟨elems, h1, rest, h2, rfl⟩ := h
          obtain ⟨hl, hg⟩ := mapM_get h1
          simp only [List.length_range] at hl
          have hR : ∀ i, i < len → ∃ cs y, W.cells? 0 (a.add (i * P.cellsOf e)) (P.cellsOf e) = some cs ∧ elems[i]? = some y ∧ Reads P W ub e cs y.1 (toPV P n e y.1) := fun i hi => by
            obtain ⟨y, hy, hy2⟩ := hg i i (by simp [hi])
            simp only [Option.bind_eq_some_iff] at hy
            obtain ⟨cs, hc1, hc2⟩ := hy
            exact ⟨cs, y, hc1, hy2, ih _ _ _ hk.1.2 hc2⟩
          have hlen : ∀ x ∈ (elems.map (·.1)).map (toPV P n e), Conf P e x ∧ x.length = P.cellsOf e := by
            intro x hx
            obtain ⟨i, hi⟩ := List.getElem?_of_mem hx
            have hi' := (List.getElem?_eq_some_iff.1 hi).1
            simp [hl] at hi'
            obtain ⟨cs, y, _, hy, R⟩ := hR i hi'
            simp [hy] at hi
            subst hi
            exact ⟨R.conf, R.len⟩
          have hfl : ∀ (j : Nat) (c : PV), (((elems.map (·.1)).map (toPV P n e)).flatten)[j]? = some c → a.spot = none ∧ a.block < W.heap.size ∧ ∃ v, W.cell? ⟨a.block, a.off + j, none⟩ = some v ∧ PRel W (· < W.heap.size) c v := by
            intro j c hj
            have hpos := hk.2
            have e1 : j = (j / P.cellsOf e) * P.cellsOf e + j % P.cellsOf e := by rw [Nat.mul_comm]; exact (Nat.div_add_mod _ _).symm
            have e2 : j % P.cellsOf e < P.cellsOf e := Nat.mod_lt _ hpos
            rw [e1, flatten_get (fun x hx => (hlen x hx).2) _ _ e2] at hj
            simp only [Option.bind_eq_some_iff] at hj
            obtain ⟨x, hx, hx2⟩ := hj
            have hi' := (List.getElem?_eq_some_iff.1 hx).1
            simp [hl] at hi'
            obtain ⟨cs, y, hcs, hy, R⟩ := hR _ hi'
            simp [hy] at hx
            subst hx
            obtain ⟨g1, g2, g3⟩ := cells?_get hcs
            obtain ⟨v, hv, hv2⟩ := g3 _ e2
            obtain ⟨cs0, y0, hcs0, _, _⟩ := hR 0 (Nat.lt_of_le_of_lt (Nat.zero_le _) hi')
            have hsp := (cells?_get hcs0).2.1 hpos
            simp only [Nat.zero_mul] at hsp
            have hsp' : a.spot = none := by simpa [Addr.add] using hsp
            rw [add_spot hsp'] at hv2
            refine ⟨hsp', ?_, v, ?_, R.rel _ _ _ hx2 hv⟩
            · simp only [World.cell?] at hv2
              split at hv2
              · rename_i h3
                exact (Array.getElem?_eq_some_iff.1 h3).1
              · cases hv2
            · rw [show a.off + j = a.off + (j / P.cellsOf e) * P.cellsOf e + j % P.cellsOf e by omega]
              exact hv2
          simp only [toPV, hu]
          refine ⟨.sl _ hu (by simp; omega) (fun x hx => (hlen x hx).1), by simp [hk], by simp [hk], one _ _ ?_, ?_⟩
          · have hll : ((elems.map (·.1)).map (toPV P n e)).length = len := by simp [hl]
            cases len with
            | zero =>
              have : elems = [] := List.length_eq_zero_iff.1 hl
              subst this
              exact .lst0 _ _ _
            | succ len =>
              have hex : ∃ c, (((elems.map (·.1)).map (toPV P n e)).flatten)[0]? = some c := by
                have : 0 < (((elems.map (·.1)).map (toPV P n e)).flatten).length := by
                  rw [flatten_len (fun x hx => (hlen x hx).2), hll]
                  exact Nat.mul_pos (by omega) hk.2
                exact ⟨_, List.getElem?_eq_getElem this⟩
              obtain ⟨c0, hc0⟩ := hex
              obtain ⟨s1, s2, _⟩ := hfl 0 c0 hc0
              have ea : a = ⟨a.block, a.off, none⟩ := by cases a; simp_all
              have := PRel.lst (W := W) (S := (· < W.heap.size)) (P.cellsOf e) ((elems.map (·.1)).map (toPV P n e)) a.block a.off cap (fun j => (W.cell? ⟨a.block, a.off + j, none⟩).getD default) s2 (fun x hx => (hlen x hx).2) (by rw [hll]; exact hc.2.1)
                (fun j c hj => by obtain ⟨_, _, v, h3, h4⟩ := hfl j c hj; simp [h3]) (fun j c hj => by obtain ⟨_, _, v, h3, h4⟩ := hfl j c hj; simpa [h3] using h4)
              rw [hll, ← ea] at this
              exact this
          · have hb := hub.slice (elems.map (·.1)) (rest.map (·.1))
            have : pbulkLL ((elems.map (·.1)).map (toPV P n e)) ≤ ((elems.map (·.1)).map ub).sum := by
              have key : ∀ l : List (DataW H × List MemPlace), (∀ y ∈ l, pbulkL (toPV P n e y.1) ≤ ub y.1) → pbulkLL ((l.map (·.1)).map (toPV P n e)) ≤ ((l.map (·.1)).map ub).sum := by
                intro l
                induction l with
                | nil => intro _; simp [pbulkLL]
                | cons y r ihl =>
                  intro hy
                  have h1 := hy y (by simp)
                  have h2 := ihl fun z hz => hy z (by simp [hz])
                  simp only [List.map_cons, pbulkLL, List.sum_cons]
                  omega
              refine key elems fun y hy => ?_
              obtain ⟨i, hi⟩ := List.getElem?_of_mem hy
              have hi' := (List.getElem?_eq_some_iff.1 hi).1
              rw [hl] at hi'
              obtain ⟨_, y', _, hy', R⟩ := hR i hi'
              rw [hi] at hy'
              cases hy'
              exact R.bulk
            simp only [pbulkL, pbulk]
            omega
        · cases h
    · rename_i m e hu
      rw [hu] at h
      simp at hk
      dsimp only at h
      split at h
      · rename_i hc
        simp only [Option.map_eq_some_iff] at h
        obtain ⟨xs, h1, rfl⟩ := h
        obtain ⟨hl, hg⟩ := mapM_get h1
        simp only [List.length_range] at hl
        have hsum : ∀ j, j ≤ m → (((List.replicate m e).take j).map P.cellsOf).sum = j * P.cellsOf e := fun j hj => by
          rw [List.take_replicate, List.map_replicate, List.sum_replicate_nat, Nat.min_eq_left hj]
        obtain ⟨i1, i2, i3, i4⟩ := reads_seq (L := L) (P := P) (W := W) (ub := ub) (DataW.trod enc P W 0 sp held n) (toPV P n) (fun t cs x ht hx => ih t cs x ht hx) cs (List.replicate m e) xs 0 (fun t ht => by rw [List.eq_of_mem_replicate ht]; exact hk.1) (by simp [hl]) (fun j t hj => by
          obtain ⟨hj1, hj2⟩ := List.getElem?_eq_some_iff.1 hj
          simp at hj1 hj2
          subst hj2
          obtain ⟨y, hy, hy2⟩ := hg j j (by simp [hj1])
          refine ⟨y, hy2, ?_⟩
          rw [hsum j (by omega), Nat.zero_add]
          exact hy)
        simp only [toPV, hu]
        refine ⟨.arr _ hu i1, ?_, hc, fun j c v h1 h2 => i3 j c v h1 (by simpa using h2), ?_⟩
        · rw [i2, hk.2]
          simp
        · exact Nat.le_trans i4 (Nat.le_trans (Nat.le_succ _) (hub.agg _))
      · cases h
    · rename_i fs hu
      rw [hu] at h
      simp only [Bool.and_eq_true, List.all_eq_true, beq_iff_eq, List.contains_iff_mem] at hk
      dsimp only at h
      split at h
      · rename_i hc
        simp only [Option.map_eq_some_iff] at h
        obtain ⟨xs, h1, rfl⟩ := h
        obtain ⟨hl, hg⟩ := mapM_get h1
        obtain ⟨i1, i2, i3, i4⟩ := reads_seq (L := L) (P := P) (W := W) (ub := ub) (DataW.trod enc P W 0 sp held n) (toPV P n) (fun t cs x ht hx => ih t cs x ht hx) cs (fs.toList.map (·.type)) xs 0 (fun t ht => by
            obtain ⟨f, hf, rfl⟩ := List.mem_map.1 ht
            exact hk.1.1 f hf) (by simp [hl]) (fun j t hj => by
          simp only [List.getElem?_map, Option.map_eq_some_iff] at hj
          obtain ⟨f, hj, rfl⟩ := hj
          obtain ⟨y, hy, hy2⟩ := hg j f hj
          refine ⟨y, hy2, ?_⟩
          have h2 := hk.2 j (by
            have := (List.getElem?_eq_some_iff.1 hj).1
            simpa using this)
          rw [hj] at h2
          simp only [beq_iff_eq] at h2
          rw [h2] at hy
          rw [Nat.zero_add, ← List.map_take, List.map_map]
          exact hy)
        simp only [toPV, hu]
        refine ⟨.st _ hu i1, ?_, hc, fun j c v h1 h2 => i3 j c v h1 (by simpa using h2), ?_⟩
        · rw [i2, hk.1.2, List.map_map]; rfl
        · exact Nat.le_trans i4 (Nat.le_trans (Nat.le_succ _) (hub.agg _))
      · cases h
    · cases hk
end
end Go.Aw
namespace Go.Aw
open Go.ChangeShapes Go.WideShapes Go.RowKit
/-- What a parameter's slot holds. -/
def argAV (P : Program) (t : TypeId) (vs : List PV) : AV :=
  match P.underlying t with
  | some (.struct _) | some (.array _ _) => .agg (vs.map .p)
  | _ => .p (vs.headD (.bool false))
section
variable {H : Type} {enc : TypeId × Value → H} {P : Program} {W W' : World} {L : List TypeId} {ub : DataW H → Nat} {φ : Place} {n : Nat}
theorem arg_rel {t : TypeId} {v : Value} {d : DataW H} {vs : List PV} {base : Nat} (hk : plainT P L t = true) (R : Reads P W ub t v.cells.toList d vs) (hv : Value.okWide P W .any base t v) :
    VRel W (· < W.heap.size) φ n (argAV P t vs) v := by
  have agg : ∀ cs : Array Value, v = .agg cs → VRel W (· < W.heap.size) φ n (.agg (vs.map .p)) v := by
    intro cs e
    subst e
    have hl := R.clen
    simp only [Value.cells, Array.length_toList] at hl
    refine .agg _ cs (by simp [R.len, hl]) fun j c x hc hx => ?_
    simp only [List.getElem?_map, Option.map_eq_some_iff] at hc
    obtain ⟨c', hc', rfl⟩ := hc
    exact .p _ _ (R.rel j c' x hc' (by simpa [Value.cells] using hx))
  have one : (v.cells = #[v]) → P.cellsOf t = 1 → VRel W (· < W.heap.size) φ n (.p (vs.headD (.bool false))) v := by
    intro e h1
    have hl := R.len
    rw [h1] at hl
    match vs, hl, R with
    | [c], _, R => exact .p _ _ (R.rel 0 c v rfl (by simp [e]))
  unfold argAV
  unfold plainT at hk
  split at hk
  · rename_i hu
    rw [hu]
    obtain ⟨b, rfl⟩ := okWide_bool hu hv
    exact one rfl (by simpa using hk)
  · rename_i hu
    rw [hu]
    obtain ⟨b, rfl⟩ := okWide_int hu hv
    exact one rfl (by simpa using hk)
  · rename_i hu
    rw [hu]
    obtain ⟨b, rfl⟩ := okWide_string hu hv
    exact one rfl (by simpa using hk)
  · rename_i hu
    rw [hu]
    obtain ⟨a, len, cap, rfl⟩ := okWide_slice hu hv
    simp at hk
    exact one rfl hk.1.1
  · rename_i hu
    rw [hu]
    simp only [Value.okWide, hu] at hv
    obtain ⟨cs, e, _⟩ := hv
    exact agg cs e
  · rename_i hu
    rw [hu]
    obtain ⟨cs, e, _⟩ := okWide_struct hu hv
    exact agg cs e
  · cases hk
/-- The arguments of a call, as pure data. -/
def argsAV (P : Program) (ts : List TypeId) (vss : List (List PV)) : List AV := List.zipWith (argAV P) ts vss
inductive Confs (P : Program) : List TypeId → List (List PV) → Prop
  | nil : Confs P [] []
  | cons {t : TypeId} {ts : List TypeId} {vs : List PV} {vss : List (List PV)} : Conf P t vs → Confs P ts vss → Confs P (t :: ts) (vs :: vss)
theorem args_rel (hP : Plain P L = true) (hub : BulkOk ub) {base : Nat} : ∀ {ts : List TypeId} {vs : List Value} {ds : List (DataW H)} {p : List MemPlace}, (∀ t ∈ ts, t ∈ L) →
    DataW.TrodAll enc P W 0 (fun _ => true) true ts vs ds p → (∀ (j : Nat) t v, ts[j]? = some t → vs[j]? = some v → Value.okWide P W .any base t v) →
    ∃ vss, Confs P ts vss ∧ pbulkLL vss ≤ (ds.map ub).sum ∧ vs.length = (argsAV P ts vss).length ∧ ∀ (j : Nat) c v, (argsAV P ts vss)[j]? = some c → vs[j]? = some v → VRel W (· < W.heap.size) φ n c v
  | [], [], [], _, _, _, _ => ⟨[], .nil, by simp [pbulkLL], rfl, by simp [argsAV]⟩
  | t :: ts, v :: vs, d :: ds, _, hL, ⟨p, q, ⟨fuel, h1⟩, h2, _⟩, hok => by
    obtain ⟨vss, i1, i2, i3, i4⟩ := args_rel hP hub (fun t ht => hL t (by simp [ht])) h2 (fun j t v h3 h4 => hok (j + 1) t v (by simpa using h3) (by simpa using h4))
    have R := reads hP hub fuel t _ _ (hL t (by simp)) h1
    have hk := List.all_eq_true.1 hP t (hL t (by simp))
    refine ⟨_ :: vss, .cons R.conf i1, ?_, by simp [argsAV] at i3 ⊢; exact i3, fun j c x hc hx => ?_⟩
    · have := R.bulk
      simp only [pbulkLL, List.map_cons, List.sum_cons]
      simp only at this
      omega
    · cases j with
      | zero =>
        simp [argsAV] at hc hx
        subst hc; subst hx
        exact arg_rel hk R (hok 0 t v rfl rfl)
      | succ j => exact i4 j c x (by simpa [argsAV] using hc) (by simpa using hx)
/-- All that was there is as it was. -/
def Same (W W' : World) : Prop := W'.os = W.os ∧ W'.output = W.output ∧ ∀ b, b < W.heap.size → W'.heap[b]? = W.heap[b]?
theorem Same.keptBut (h : Same W W') (may : MemPlace → Prop) : W.keptBut W' may := by
  refine ⟨h.1, h.2.1, fun i hi => ?_⟩
  rw [h.2.2 i hi]
  cases W.heap[i]? with
  | none => simp
  | some o => cases o <;> simp
theorem Same.at (h : Same W W') {p : MemPlace} (hp : p.block < W.heap.size) : W.sameAt W' p := by
  cases p with
  | cell b off => exact cell?_of_heap (h.2.2 b hp) off
  | map b => exact h.2.2 b hp
theorem Same.frozen (h : Same W W') {b off : Nat} (hb : b < W.heap.size) : W'.frozen? ⟨b, off, none⟩ = W.frozen? ⟨b, off, none⟩ := by
  simp only [World.frozen?, h.2.2 b hb]
variable {T : TypeId → Prop}
theorem carry_all : ∀ {ts : List TypeId} {vs : List Value} {ds : List (DataW H)} {ps : List MemPlace} {sp : Nat → Bool} {held : Bool}, DataW.TrodAll enc P W 0 sp held ts vs ds ps → (∀ p ∈ ps, W.sameAt W' p) →
    DataW.TrodAll enc P W' 0 sp held ts vs ds ps
  | [], [], [], _, _, _, h, _ => h
  | _ :: _, _ :: _, _ :: _, _, _, _, ⟨p, q, ⟨n, h1⟩, h2, e⟩, hs => ⟨p, q, ⟨n, DataW.trod_carry n _ _ _ h1 fun x hx => hs x (by rw [e]; exact List.mem_append_left _ hx)⟩, carry_all h2 (fun x hx => hs x (by rw [e]; exact List.mem_append_right _ hx)), e⟩
theorem vars_again (K : Kids P T) (hz : ∀ t e, T t → P.underlying t = some (.slice e) → 0 < P.cellsOf e) (hg : ∀ (g : Nat) t, (P.globals[g]?).map (·.type) = some t → T t) (S : Same W W') {sp : Nat → Bool} :
    ∀ {ns : List String} {ds : List (DataW H)} {ps : List MemPlace}, DataW.TrodVars enc P W (fun _ => true) ns ds ps → (∀ p ∈ ps, p.block < W.heap.size ∧ sp p.block = true) → DataW.TrodVars enc P W' sp ns ds ps
  | [], [], _, h, _ => h
  | _ :: _, _ :: _, _, ⟨g, t, cs, fuel, p, q, h1, h2, h3, h4, h5, e⟩, hs => by
    refine ⟨g, t, cs, fuel, p, q, h1, h2, ?_, ?_, vars_again K hz hg S h5 (fun x hx => hs x (by rw [e]; simp [hx])), e⟩
    · rw [← h3]
      simp only [World.var?, h1, Option.bind_some] at h3 ⊢
      have hlt : g < W.heap.size := by
        by_cases hb : g < W.heap.size
        · exact hb
        · rw [Array.getElem?_eq_none (by omega)] at h3; cases h3
      rw [S.2.2 g hlt]
    · exact DataW.trod_respare K hz fuel t _ _ (hg g t h2) (DataW.trod_carry fuel _ _ _ h4 fun x hx => S.at (hs x (by rw [e]; simp [hx])).1) (fun x hx => (hs x (by rw [e]; simp [hx])).2)
theorem args_again (K : Kids P T) (hz : ∀ t e, T t → P.underlying t = some (.slice e) → 0 < P.cellsOf e) (S : Same W W') {sp : Nat → Bool} {ts : List TypeId} {vs : List Value} {ds : List (DataW H)} {ps : List MemPlace} (hT : ∀ t ∈ ts, T t)
    (h : DataW.TrodAll enc P W 0 (fun _ => true) true ts vs ds ps) (hs : ∀ p ∈ ps, p.block < W.heap.size ∧ sp p.block = true) : DataW.TrodAll enc P W' 0 sp true ts vs ds ps :=
  DataW.TrodAll.respare K hz hT (carry_all h fun p hp => S.at (hs p hp).1) fun p hp => (hs p hp).2
/-- THE POST OF A LAW THAT ANSWERS TRUE. -/
theorem post_true {f : Func} {s : ChangeSpec} {fresh handsOn again : Bool} {args : Array Value} {ds gs : List (DataW H)} {before : List MemPlace} {tb : TypeId}
    (K : Kids P T) (hz : ∀ t e, T t → P.underlying t = some (.slice e) → 0 < P.cellsOf e) (hg : ∀ (g : Nat) t, (P.globals[g]?).map (·.type) = some t → T t) (hT : ∀ t ∈ f.params.toList, T t)
    (hr : f.resultTypes = #[tb]) (hb : P.underlying tb = some .bool)
    (hW : DataW.Whole enc P f.params.toList s.vars false W args.toList ds gs before) (S : Same W W')
    (hspec : s.fn H (ds ++ gs) = { results := [.lit (.bool true)], args := ds, vars := gs }) : s.post enc P f false fresh handsOn again W args (.bool true) W' := by
  have hlt := hW.lt
  have hW0 := hW
  obtain ⟨p, q, hA, hV, hbf, hfz, _⟩ := hW
  have hlp : ∀ x ∈ p, x.block < W.heap.size := fun x hx => hlt x (by rw [hbf]; simp [hx])
  have hlq : ∀ x ∈ q, x.block < W.heap.size := fun x hx => hlt x (by rw [hbf]; simp [hx])
  have res : ∀ (b : Nat) (sp : Nat → Bool) (hd : Bool), DataW.TrodAll enc P W' b sp hd f.resultTypes.toList ((Value.bool true).resultList f.resultTypes.size) (s.fn H (ds ++ gs)).results [] := by
    intro b sp hd
    rw [hspec, hr]
    exact trodAll_mk1 ⟨1, by simp [DataW.trod, hb, Value.cells]⟩
  have ar : ∀ sp : Nat → Bool, (∀ b, b < W.heap.size → sp b = true) → DataW.TrodAll enc P W' 0 sp true f.params.toList args.toList (s.fn H (ds ++ gs)).args p := by
    intro sp hsp
    rw [hspec]
    exact args_again K hz S hT hA fun x hx => ⟨hlp x hx, hsp _ (hlp x hx)⟩
  have va : ∀ sp : Nat → Bool, (∀ b, b < W.heap.size → sp b = true) → DataW.TrodVars enc P W' sp s.vars (s.fn H (ds ++ gs)).vars q := by
    intro sp hsp
    rw [hspec]
    exact vars_again K hz hg S hV fun x hx => ⟨hlq x hx, hsp _ (hlq x hx)⟩
  refine ⟨ds, gs, before, [], p, q, hW0, res _ _ _, ar _ (by simp), va _ (by simp), S.keptBut _, fun _ => ⟨?_, ?_⟩⟩
  · exact ok_one hr rfl (okWide_bool_mk hb _)
  · refine ⟨_, _, ([] ++ p) ++ q, ⟨[] ++ p, q, trodAll_append (ar _ (fun _ _ => rfl)) (res _ _ _), va _ (fun _ _ => rfl), rfl, ?_, by simp⟩, ?_⟩
    · intro b off hp
      have hp' : MemPlace.cell b off ∈ before := by rw [hbf]; simpa using hp
      rw [S.frozen (b := b) (off := off) (hlt _ hp')]
      exact hfz b off hp'
    · intro x hx _
      rw [hbf]; simpa using hx
/-- THE LAW's CALL. -/
theorem law_calls {f : FuncId} {fn : Func} {s : ChangeSpec} {fresh handsOn again : Bool} {args : Array Value} {ds gs : List (DataW H)} {before : List MemPlace} {tb : TypeId} {G : Glob} {base : Nat}
    (hP : Plain P L = true) (hub : BulkOk ub) (hL : ∀ t ∈ fn.params.toList, t ∈ L)
    (K : Kids P T) (hz : ∀ t e, T t → P.underlying t = some (.slice e) → 0 < P.cellsOf e) (hg : ∀ (g : Nat) t, (P.globals[g]?).map (·.type) = some t → T t) (hT : ∀ t ∈ fn.params.toList, T t)
    (hr : fn.resultTypes = #[tb]) (hb : P.underlying tb = some .bool)
    (hval : ∀ (j : Nat) t v, fn.params[j]? = some t → args[j]? = some v → Value.okWide P W .any base t v)
    (hW : DataW.Whole enc P fn.params.toList s.vars false W args.toList ds gs before)
    (hspec : s.fn H (ds ++ gs) = { results := [.lit (.bool true)], args := ds, vars := gs })
    (hG : ∀ g cs, G g = some cs → g < W.heap.size ∧ ∀ j c, cs[j]? = some c → ∃ v, W.cell? ⟨g, j, none⟩ = some v ∧ PRel W (· < W.heap.size) c v)
    (walk : ∀ vss, Confs P fn.params.toList vss → pbulkLL vss ≤ (ds.map ub).sum → VF P G f (argsAV P fn.params.toList vss) (.p (.bool true))) :
    Calls P f args W fun e W' => ∃ v, e = .returned v ∧ s.post enc P fn false fresh handsOn again W args v W' := by
  obtain ⟨p, q, hA, hV, hbf, hfz, hn⟩ := hW
  obtain ⟨vss, c1, c2, c3, c4⟩ := args_rel (φ := fun _ => (0, 0)) (n := 0) hP hub hL hA (base := base) (fun j t v h1 h2 => hval j t v (by simpa using h1) (by simpa using h2))
  have H0 : HRel G W (· < W.heap.size) (fun _ => (0, 0)) [] := ⟨fun id sz es e => by simp at e, fun id o e _ => by simp at e, fun id id' e => (live_nil e).elim, fun b hb => ⟨hb, fun id e => (live_nil e).elim⟩, fun id hid => by simp at hid, hG⟩
  refine ((walk vss c1 c2).2 W (· < W.heap.size) (fun _ => (0, 0)) args H0 ⟨by simpa using c3, fun j c v h1 h2 => c4 j c v h1 (by simpa using h2)⟩).mono fun e W' ⟨r, S', φ', h', k1, k2, k3, k4⟩ => ?_
  subst k1
  cases k3 with
  | ret _ x hv =>
    cases hv with
    | p _ _ hp =>
      cases hp
      refine ⟨_, rfl, post_true K hz hg hT hr hb ⟨p, q, hA, hV, hbf, hfz, hn⟩ ⟨k4.os, k4.output, fun b hb => k4.out b hb fun id e => (live_nil e).elim⟩ hspec⟩
end
end Go.Aw
namespace Go.Aw
theorem laid_mem {P : Program} {W : World} {n : String} {d : DataW Unit} : ∀ {laid : List (String × DataW Unit)} {ps : List MemPlace}, DataW.LaidVars P W laid ps → (n, d) ∈ laid →
    ∃ g t cs fuel p, P.globalNamed n = some g ∧ (P.globals[g]?).map (·.type) = some t ∧ W.var? P n = some cs ∧ DataW.trod (fun _ => ()) P W 0 (fun _ => true) false fuel t cs.toList = some (d, p)
  | [], _, _, hm => by cases hm
  | (n', d') :: r, ps, ⟨g, t, cs, fuel, p, q, h1, h2, h3, h4, h5, _⟩, hm => by
    rcases List.mem_cons.1 hm with e | hm
    · cases e; exact ⟨g, t, cs, fuel, p, h1, h2, h3, h4⟩
    · exact laid_mem h5 hm
mutual
def ubD {H : Type} : DataW H → Nat
  | .lit (.string s) => s.length + 1
  | .lit _ => 1
  | .nil => 1
  | .ptr d => ubD d + 1
  | .slice es sp => ubL es + ubL sp + 1
  | .agg ps => ubL ps + 1
  | .iface _ d => ubD d + 1
  | .map es => ubE es + 1
  | .held _ => 1
def ubL {H : Type} : List (DataW H) → Nat
  | [] => 0
  | d :: r => ubD d + ubL r
def ubE {H : Type} : List (Lit × DataW H) → Nat
  | [] => 0
  | x :: r => ubX x + ubE r
def ubX {H : Type} : Lit × DataW H → Nat
  | (_, d) => ubD d + 1
end
theorem ubL_sum {H : Type} : ∀ l : List (DataW H), ubL l = (l.map ubD).sum
  | [] => rfl
  | d :: r => by simp [ubL, ubL_sum r]
theorem ubD_ok {H : Type} : BulkOk (ubD (H := H)) where
  lit := fun l => by cases l <;> simp [ubD]
  str := fun s => by simp [ubD]
  nil := by simp [ubD]
  slice := fun es sp => by simp only [ubD, ubL_sum]; omega
  agg := fun ps => by simp only [ubD, ubL_sum]; omega
/-- WHAT A LISTED VARIABLE HOLDS. -/
theorem laid_glob {P : Program} {W : World} {L : List TypeId} {laid : List (String × DataW Unit)} (hP : Plain P L = true) (hl : laidMet P laid W) {n : String} {d : DataW Unit} (hm : (n, d) ∈ laid) {g : Nat} {t : TypeId}
    (hg : P.globalNamed n = some g) (ht : (P.globals[g]?).map (·.type) = some t) (htL : t ∈ L) {vs : List PV} (hd : ∀ k, toPV P (k + 10) t d = vs) :
    g < W.heap.size ∧ ∀ (j : Nat) (c : PV), vs[j]? = some c → ∃ v, W.cell? ⟨g, j, none⟩ = some v ∧ PRel W (· < W.heap.size) c v := by
  obtain ⟨ps, hl, _⟩ := hl
  obtain ⟨g', t', cs, fuel, p, h1, h2, h3, h4⟩ := laid_mem hl hm
  rw [hg] at h1; cases h1
  rw [ht] at h2; cases h2
  have R := reads (ub := ubD) hP ubD_ok (fuel + 10) t cs.toList _ htL (DataW.trod_le (Nat.le_add_right _ _) h4)
  simp only [hd] at R
  simp only [World.var?, hg, Option.bind_some] at h3
  split at h3 <;> first | (cases h3; done) | skip
  rename_i c0 t0 fr hb
  cases h3
  refine ⟨(Array.getElem?_eq_some_iff.1 hb).1, fun j c hj => ?_⟩
  have hlt : j < cs.toList.length := by
    have := (List.getElem?_eq_some_iff.1 hj).1
    rw [R.clen, ← R.len]; exact this
  refine ⟨cs.toList[j], ?_, R.rel j c _ hj (List.getElem?_eq_getElem hlt)⟩
  simp at hlt
  simp [World.cell?, hb, hlt]
section
variable {H : Type} {enc : TypeId × Value → H} {P : Program} {W : World}
theorem trodAll_len {b : Nat} {sp : Nat → Bool} {held : Bool} : ∀ {ts : List TypeId} {vs : List Value} {ds : List (DataW H)} {ps : List MemPlace}, DataW.TrodAll enc P W b sp held ts vs ds ps → ds.length = ts.length
  | [], [], [], _, _ => rfl
  | _ :: _, _ :: _, _ :: _, _, ⟨_, _, _, h, _⟩ => by simp [trodAll_len h]
theorem trodVars_len {sp : Nat → Bool} : ∀ {ns : List String} {ds : List (DataW H)} {ps : List MemPlace}, DataW.TrodVars enc P W sp ns ds ps → ds.length = ns.length
  | [], [], _, _ => rfl
  | _ :: _, _ :: _, _, ⟨_, _, _, _, _, _, _, _, _, _, h, _⟩ => by simp [trodVars_len h]
theorem whole_len {ts : List TypeId} {vars : List String} {ap : Bool} {vs : List Value} {ds gs : List (DataW H)} {ps : List MemPlace} (h : DataW.Whole enc P ts vars ap W vs ds gs ps) : ds.length = ts.length ∧ gs.length = vars.length := by
  obtain ⟨p, q, h1, h2, _⟩ := h
  exact ⟨trodAll_len h1, trodVars_len h2⟩
end
theorem globals_in {P : Program} (h : (P.globals.toList.all fun g => decide (g.type < P.types.size)) = true) (g : Nat) (t : TypeId) (e : (P.globals[g]?).map (·.type) = some t) : t < P.types.size := by
  cases hg : P.globals[g]? with
  | none => rw [hg] at e; cases e
  | some x =>
    rw [hg] at e
    cases e
    have := List.all_eq_true.1 h x (List.mem_of_getElem? (by simpa using hg))
    simpa using this
theorem params_in {P : Program} {ts : List TypeId} (h : (ts.all fun t => decide (t < P.types.size)) = true) : ∀ t ∈ ts, t < P.types.size := fun t ht => by
  have := List.all_eq_true.1 h t ht
  simpa using this
end Go.Aw
namespace Go.Aw
@[simp] theorem belowL_mapp (n : Nat) : ∀ l : List PV, belowL n (l.map .p) = True
  | [] => by simp [belowL]
  | v :: r => by simp [belowL, below, belowL_mapp n r]
@[simp] theorem below_p (n : Nat) (v : PV) : below n (.p v) = True := by simp [below]
@[simp] theorem below_any (n : Nat) : below n .any = True := by simp [below]
@[simp] theorem below_nils (n : Nat) : below n .nils = True := by simp [below]
@[simp] theorem below_agg (n : Nat) (l : List AV) : below n (.agg l) = belowL n l := by simp [below]
@[simp] theorem below_tup (n : Nat) (l : List AV) : below n (.tup l) = belowL n l := by simp [below]
@[simp] theorem belowL_nil (n : Nat) : belowL n [] = True := by simp [belowL]
@[simp] theorem belowL_cons (n : Nat) (v : AV) (r : List AV) : belowL n (v :: r) = (below n v ∧ belowL n r) := by simp [belowL]
@[simp] theorem Fgt_nil (n : Nat) : Fgt n [] [] = True := by simp [Fgt]
@[simp] theorem Fgt_cons (n : Nat) (v v1 : AV) (r r1 : List AV) : Fgt n (v :: r) (v1 :: r1) = ((v1 = .any ∨ (below n v1 ∧ v1 = v)) ∧ Fgt n r r1) := by simp [Fgt]
@[simp] theorem cast_neg (n : Nat) : ((n : Int) < 0) = False := by simp
theorem i64_small {x : Int} (h0 : -9223372036854775808 ≤ x) (h1 : x ≤ 9223372036854775807) : IntKind.i64.wrap x = x := by
  simp [IntKind.wrap, IntKind.bits, IntKind.signed]
  omega
theorem w1 {i : Nat} (h : i < 9223372036854775807) : IntKind.i64.wrap (↑i + 1) = ((i + 1 : Nat) : Int) := by
  rw [i64_small (by omega) (by omega)]; simp
theorem take_succ_eq {α : Type} {xs ys : List α} {i : Nat} (h1 : i < xs.length) (h2 : i < ys.length) (h : xs[i] = ys[i]) (ht : xs.take i = ys.take i) : xs.take (i + 1) = ys.take (i + 1) := by
  rw [List.take_add_one, List.take_add_one, ht, List.getElem?_eq_getElem h1, List.getElem?_eq_getElem h2, h]
end Go.Aw
namespace Go.Aw
/-- How what is owned reads, as pure data. -/
inductive View (h : List AO) : AV → PV → Prop where
  | p (v : PV) : View h (.p v) v
  | nils (sz : Nat) : View h .nils (.lst sz [])
  | e (sz sz' : Nat) : View h (.p (.lst sz [])) (.lst sz' [])
  | sl (id sz off : Nat) (es : List (List AV)) (ps : List (List PV)) : h[id]? = some (.row sz es) → off + ps.length ≤ es.length → (∀ e ∈ ps, e.length = sz) →
      (∀ (i j : Nat) (e : List PV) (q : PV) (e' : List AV) (a : AV), ps[i]? = some e → e[j]? = some q → es[off + i]? = some e' → e'[j]? = some a → View h a q) → View h (.sl id sz off ps.length) (.lst sz ps)
/-- The blocks that are owned. -/
def Owned (φ : Place) (h : List AO) (b : Nat) : Prop := ∃ id, Live h id ∧ (φ id).1 = b
theorem View.prel {G : Glob} {W : World} {S : Nat → Prop} {φ : Place} {h : List AO} (H : HRel G W S φ h) {a : AV} {q : PV} (hv : View h a q) : ∀ {x : Value}, VRel W S φ h.length a x → PRel W (fun b => S b ∨ Owned φ h b) q x := by
  induction hv with
  | p v =>
    intro x hx
    cases hx with
    | p _ _ hp => exact hp.mono fun b hb => ⟨.inl hb, rfl⟩
  | nils sz => intro x hx; cases hx; exact .lst0 _ _ _
  | e sz sz' =>
    intro x hx
    cases hx with
    | p _ _ hp => cases hp <;> exact .lst0 _ _ _
  | sl id sz off es ps hid hfit hsz hc ih =>
    intro x hx
    cases hx with
    | sl _ _ _ _ cap ba hid' hl hba hb =>
      obtain ⟨c, t, fr, a1, a2, a3, a4, a5⟩ := H.obj id sz es hid
      cases hps : ps with
      | nil => subst hps; exact .lst0 _ _ _
      | cons e0 r0 =>
        rw [← hps]
        have hpos : 0 < cap := by have : 0 < ps.length := by rw [hps]; simp
                                  omega
        have hba' := hba hpos
        subst hba'
        have cell : ∀ (j : Nat) (q : PV), ps.flatten[j]? = some q → ∃ v, W.cell? ⟨(φ id).1, (φ id).2 + off * sz + j, none⟩ = some v ∧ PRel W (fun b => S b ∨ Owned φ h b) q v := by
          intro j q hj
          have hszp : 0 < sz := by
            rcases Nat.eq_zero_or_pos sz with h0 | h0
            · exfalso
              have := (List.getElem?_eq_some_iff.1 hj).1
              rw [flatten_len hsz, h0] at this
              simp at this
            · exact h0
          have e1 : j = (j / sz) * sz + j % sz := by rw [Nat.mul_comm]; exact (Nat.div_add_mod _ _).symm
          have e2 : j % sz < sz := Nat.mod_lt _ hszp
          rw [e1, flatten_get hsz _ _ e2] at hj
          simp only [Option.bind_eq_some_iff] at hj
          obtain ⟨e, he, hq⟩ := hj
          have hi1 : j / sz < ps.length := (List.getElem?_eq_some_iff.1 he).1
          obtain ⟨e', he'⟩ : ∃ e', es[off + j / sz]? = some e' := ⟨_, List.getElem?_eq_getElem (by omega)⟩
          have hle : e'.length = sz := a3 e' (List.mem_of_getElem? he')
          obtain ⟨a, ha⟩ : ∃ a, e'[j % sz]? = some a := ⟨_, List.getElem?_eq_getElem (by omega)⟩
          have hfl : es.flatten[(off + j / sz) * sz + j % sz]? = some a := by
            rw [flatten_get a3 _ _ e2, he']; exact ha
          obtain ⟨_, v, hv1, hv2⟩ := a5 _ a hfl
          refine ⟨v, ?_, ih _ _ e q e' a he hq he' ha hv2⟩
          · simp only [World.cell?, a1]
            rw [show (φ id).2 + off * sz + j = (φ id).2 + ((off + j / sz) * sz + j % sz) by rw [Nat.add_mul]; omega]
            simp [hv1]
        have := PRel.lst (W := W) (S := fun b => S b ∨ Owned φ h b) sz ps (φ id).1 ((φ id).2 + off * sz) cap (fun j => (W.cell? ⟨(φ id).1, (φ id).2 + off * sz + j, none⟩).getD default) (.inr ⟨id, live_row hid, rfl⟩) hsz (by omega)
          (fun j c hj => by obtain ⟨v, h1, h2⟩ := cell j c hj; rw [h1]; rfl) (fun j c hj => by obtain ⟨v, h1, h2⟩ := cell j c hj; rw [h1]; exact h2)
        exact this
/-- Arguments: as they are, and as pure data. -/
inductive Views (h : List AO) : List AV → List AV → Prop where
  | nil : Views h [] []
  | one {a : AV} {q : PV} {l l' : List AV} : View h a q → Views h l l' → Views h (a :: l) (.p q :: l')
  | agg {cs cs' l l' : List AV} : Views h cs cs' → Views h l l' → Views h (.agg cs :: l) (.agg cs' :: l')
  | tup {cs cs' l l' : List AV} : Views h cs cs' → Views h l l' → Views h (.tup cs :: l) (.tup cs' :: l')
  | keep {a : AV} {l l' : List AV} : below 0 a → Views h l l' → Views h (a :: l) (a :: l')
theorem Views.len {h : List AO} : ∀ {l l' : List AV}, Views h l l' → l.length = l'.length
  | _, _, .nil => rfl
  | _, _, .one _ r => by simp [r.len]
  | _, _, .agg _ r => by simp [r.len]
  | _, _, .tup _ r => by simp [r.len]
  | _, _, .keep _ r => by simp [r.len]
theorem below_relS {W : World} {S S' : Nat → Prop} {φ φ' : Place} {n n' : Nat} (hS : ∀ b, S b → S' b) {v : AV} (hb : below 0 v) {x : Value} (h : VRel W S φ n v x) : VRel W S' φ' n' v x := by
  have h1 : VRel W S φ' n' v x := below_rel v hb h
  clear h
  induction h1 with
  | p v x hp => exact .p _ _ (hp.mono fun b hb => ⟨hS b hb, rfl⟩)
  | agg cs vs hs _ ih => exact .agg cs vs hs fun j c y h1 h2 => ih j c y h1 h2 (belowL_get (by simpa [below] using hb) j c h1)
  | tup cs vs hs _ ih => exact .tup cs vs hs fun j c y h1 h2 => ih j c y h1 h2 (belowL_get (by simpa [below] using hb) j c h1)
  | ptr => simp [below] at hb
  | sl => simp [below] at hb
  | mp => simp [below] at hb
  | it => simp [below] at hb
  | eptr e off b o hb' hc =>
    exact .eptr e off b o (hS b hb') fun j c hj => by
      obtain ⟨v, h1, h2⟩ := hc j c hj
      exact ⟨v, h1, h2.mono fun b hb => ⟨hS b hb, rfl⟩⟩
  | gp g off => exact .gp g off
  | fn f caps vs hs _ ih => exact .fn f caps vs hs fun j c y h1 h2 => ih j c y h1 h2 (belowL_get (by simpa [below] using hb) j c h1)
  | nils => exact .nils
  | nilp => exact .nilp
  | nilf => exact .nilf
  | nilm => exact .nilm
  | nili => exact .nili
  | ifc t pv x hp => exact .ifc _ _ _ (hp.mono fun b hb => ⟨hS b hb, rfl⟩)
  | any x => exact .any x
theorem Views.rel {G : Glob} {W : World} {S : Nat → Prop} {φ : Place} {h : List AO} (H : HRel G W S φ h) : ∀ {l l' : List AV}, Views h l l' → ∀ (j : Nat) (c c' : AV) (x : Value), l[j]? = some c → l'[j]? = some c' → VRel W S φ h.length c x → VRel W (fun b => S b ∨ Owned φ h b) φ 0 c' x
  | _, _, .nil, j, c, c', x, h1, _, _ => by simp at h1
  | _, _, .one hv r, j, c, c', x, h1, h2, hx => by
    cases j with
    | zero => simp at h1 h2; subst h1; subst h2; exact .p _ _ (hv.prel H hx)
    | succ j => exact r.rel H j c c' x (by simpa using h1) (by simpa using h2) hx
  | _, _, .agg hv r, j, c, c', x, h1, h2, hx => by
    cases j with
    | zero =>
      simp at h1 h2; subst h1; subst h2
      cases hx with
      | agg cs vs hs hc =>
        refine .agg _ vs (by rw [hs, hv.len]) fun i d y h3 h4 => ?_
        have hi : i < vs.size := (Array.getElem?_eq_some_iff.1 h4).1
        exact hv.rel H i _ d y (List.getElem?_eq_getElem (by omega)) h3 (hc i _ y (List.getElem?_eq_getElem (by omega)) h4)
    | succ j => exact r.rel H j c c' x (by simpa using h1) (by simpa using h2) hx
  | _, _, .tup hv r, j, c, c', x, h1, h2, hx => by
    cases j with
    | zero =>
      simp at h1 h2; subst h1; subst h2
      cases hx with
      | tup cs vs hs hc =>
        refine .tup _ vs (by rw [hs, hv.len]) fun i d y h3 h4 => ?_
        have hi : i < vs.size := (Array.getElem?_eq_some_iff.1 h4).1
        exact hv.rel H i _ d y (List.getElem?_eq_getElem (by omega)) h3 (hc i _ y (List.getElem?_eq_getElem (by omega)) h4)
    | succ j => exact r.rel H j c c' x (by simpa using h1) (by simpa using h2) hx
  | _, _, .keep hb r, j, c, c', x, h1, h2, hx => by
    cases j with
    | zero => simp at h1 h2; subst h1; subst h2; exact below_relS (fun b hb => .inl hb) hb hx
    | succ j => exact r.rel H j c c' x (by simpa using h1) (by simpa using h2) hx
/-- A result without references. -/
def scal : AV → Bool
  | .p (.bool _) | .p (.int ..) | .p (.str _) => true
  | _ => false
/-- LENDING. -/
theorem VF.lend {P : Program} {G : Glob} {f : FuncId} {args pargs : List AV} {r : AV} (H : VF P G f pargs r) {h : List AO} (hv : Views h args pargs) (hr : scal r = true) : AC P G f args h fun x h' => x = .ret r ∧ h' = h := by
  refine ⟨H.1, fun W S φ vs hH hA => ?_⟩
  have h0 : HRel G W (fun b => S b ∨ Owned φ h b) φ [] := ⟨fun id sz es e => by simp at e, fun id o e _ => by simp at e, fun id id' e => (live_nil e).elim, fun b hb => ⟨by
      rcases hb with hb | ⟨id, e, he⟩
      · exact (hH.sep b hb).1
      · rw [← he]; exact hH.bnd id e.lt, fun id e => (live_nil e).elim⟩, fun id hid => by simp at hid, fun g cs hg => by
      obtain ⟨g1, g2⟩ := hH.glob g cs hg
      exact ⟨.inl g1, fun j c hj => by obtain ⟨v, k1, k2⟩ := g2 j c hj; exact ⟨v, k1, k2.mono fun b hb => ⟨.inl hb, rfl⟩⟩⟩⟩
  refine (H.2 W _ φ vs h0 ⟨by rw [hA.1, hv.len], fun j c v h1 h2 => ?_⟩).mono fun e W' ⟨x, S', φ', h', k1, k2, k3, k4⟩ => ?_
  · have hj : j < vs.size := (Array.getElem?_eq_some_iff.1 h2).1
    have hjl : j < args.length := by rw [← hA.1]; exact hj
    exact hv.rel hH j _ c v (List.getElem?_eq_getElem hjl) h1 (hA.2 j _ v (List.getElem?_eq_getElem hjl) h2)
  subst k1
  have hout : ∀ b, b < W.heap.size → W'.heap[b]? = W.heap[b]? := fun b hb => k4.out b hb fun id e => (live_nil e).elim
  have hlt : ∀ {id : Nat} {o : AO}, h[id]? = some o → id < h.length := fun e => (List.getElem?_eq_some_iff.1 e).1
  have K : Keep W S φ h W' S φ h :=
    { pure := fun b hb => ⟨hb, hout b (hH.sep b hb).1⟩, len := Nat.le_refl _, same := fun _ _ => rfl
      blk := fun id hid c t fr e => ⟨c, t, fr, by rw [← hout _ (hH.bnd id hid)]; exact e, rfl⟩
      os := k4.os, tape := k4.tape, output := k4.output, size := k4.size, out := fun b hb _ => hout b hb
      img := fun id e => .inr ⟨id, e, rfl⟩
      newS := fun b hb => .inl hb }
  refine ⟨.ret r, S, φ, h, ⟨rfl, rfl⟩, ⟨fun id sz es e => ?_, fun id o1 e lo => ?_, hH.inj, fun b hb => ⟨Nat.lt_of_lt_of_le (hH.sep b hb).1 k4.size, (hH.sep b hb).2⟩, fun id hid => Nat.lt_of_lt_of_le (hH.bnd id hid) k4.size, fun g cs hg => ?_⟩, ?_, K⟩
  · obtain ⟨c, t, fr, a1, a2, a3, a4, a5⟩ := hH.obj id sz es e
    refine ⟨c, t, fr, by rw [hout _ (hH.bnd id (hlt e))]; exact a1, a2, a3, a4, fun j u hj => ?_⟩
    obtain ⟨b1, v, b2, b3⟩ := a5 j u hj
    exact ⟨b1, v, b2, b3.kept K.toKept⟩
  · rw [hout _ (hH.bnd id (hlt e))]
    exact (hH.oobj id o1 e lo).mono fun a v r => r.kept K.toKept
  · obtain ⟨g1, g2⟩ := hH.glob g cs hg
    refine ⟨g1, fun j c hj => ?_⟩
    obtain ⟨v, v1, v2⟩ := g2 j c hj
    exact ⟨v, by rw [cell?_of_heap (K.pure g g1).2]; exact v1, v2.mono K.pure⟩
  · cases k3 with
    | ret _ x hv =>
      refine .ret _ _ ?_
      cases hv <;> simp [scal] at hr
      rename_i pv hp
      cases hp <;> simp [scal] at hr
      · exact .p _ _ (.bool _)
      · exact .p _ _ (.int _ _)
      · exact .p _ _ (.str _)
end Go.Aw
namespace Go.Aw
mutual
/-- No reference to what was lent. -/
def clean : AV → Bool
  | .p (.lst _ []) => true
  | .p (.lst _ _) => false
  | .p _ => true
  | .agg cs => cleanL cs
  | .tup cs => cleanL cs
  | .ptr .. => true
  | .sl .. => true
  | .mp .. => true
  | .it .. => true
  | .gp .. => true
  | .nils | .nilp | .nilf | .nilm | .nili => true
  | .any => true
  | _ => false
def cleanL : List AV → Bool
  | [] => true
  | v :: r => clean v && cleanL r
end
mutual
def shiftV (n : Nat) : AV → AV
  | .ptr id g i o => .ptr (n + id) g i o
  | .sl id g o l => .sl (n + id) g o l
  | .mp id => .mp (n + id)
  | .it id => .it (n + id)
  | .agg cs => .agg (shiftL n cs)
  | .tup cs => .tup (shiftL n cs)
  | v => v
def shiftL (n : Nat) : List AV → List AV
  | [] => []
  | v :: r => shiftV n v :: shiftL n r
end
def shiftO (n : Nat) : AO → AO
  | .row sz es => .row sz (es.map (shiftL n))
  | .mp es => .mp (es.map fun x => (x.1, shiftV n x.2))
  | .sit s pos => .sit s pos
  | .dead => .dead
theorem shiftL_map (n : Nat) : ∀ l : List AV, shiftL n l = l.map (shiftV n)
  | [] => rfl
  | v :: r => by simp [shiftL, shiftL_map n r]
theorem cleanL_get : ∀ {l : List AV}, cleanL l = true → ∀ (j : Nat) (c : AV), l[j]? = some c → clean c = true
  | v :: r, h, 0, c, e => by simp at e; subst e; simp [cleanL] at h; exact h.1
  | v :: r, h, j + 1, c, e => by simp [cleanL] at h; exact cleanL_get h.2 j c (by simpa using e)
theorem shift_isCell (n : Nat) (v : AV) : (shiftV n v).isCell = v.isCell := by cases v <;> rfl
def cleanO : AO → Bool
  | .row _ es => es.all cleanL
  | .mp es => es.all fun x => clean x.2
  | .sit .. => true
  | .dead => true
/-- Side by side. -/
def both (n : Nat) (φ φ' : Place) : Place := fun i => if i < n then φ i else φ' (i - n)
theorem both_add (n : Nat) (φ φ' : Place) (i : Nat) : both n φ φ' (n + i) = φ' i := by
  unfold both; rw [if_neg (by omega), Nat.add_sub_cancel_left]
theorem clean_rel {W : World} {S S' : Nat → Prop} {φ φ' : Place} {n m : Nat} : ∀ {v : AV} {x : Value}, VRel W S' φ' m v x → clean v = true → VRel W S (both n φ φ') (n + m) (shiftV n v) x := by
  intro v x h
  induction h with
  | p pv x hp =>
    intro hc
    cases hp with
    | bool b => exact .p _ _ (.bool b)
    | int k n => exact .p _ _ (.int k n)
    | str s => exact .p _ _ (.str s)
    | lst0 sz a cap => exact .p _ _ (.lst0 sz a cap)
    | lst sz es b off cap vs _ _ _ _ _ =>
      cases es with
      | nil => exact .p _ _ (.lst0 _ _ _)
      | cons e r => simp [clean] at hc
  | agg cs vs hs _ ih =>
    intro hc
    simp only [clean] at hc
    simp only [shiftV, shiftL_map]
    refine .agg _ vs (by simp [hs]) fun j c y h1 h2 => ?_
    simp only [List.getElem?_map, Option.map_eq_some_iff] at h1
    obtain ⟨c0, h1, rfl⟩ := h1
    exact ih j c0 y h1 h2 (cleanL_get hc j c0 h1)
  | tup cs vs hs _ ih =>
    intro hc
    simp only [clean] at hc
    simp only [shiftV, shiftL_map]
    refine .tup _ vs (by simp [hs]) fun j c y h1 h2 => ?_
    simp only [List.getElem?_map, Option.map_eq_some_iff] at h1
    obtain ⟨c0, h1, rfl⟩ := h1
    exact ih j c0 y h1 h2 (cleanL_get hc j c0 h1)
  | ptr id esz i off hid =>
    intro _
    have := VRel.ptr (W := W) (S := S) (φ := both n φ φ') (n := n + m) (n + id) esz i off (by omega)
    rw [both_add] at this; exact this
  | sl id esz off len cap ba hid hl hb hc =>
    intro _
    have := VRel.sl (W := W) (S := S) (φ := both n φ φ') (n := n + m) (n + id) esz off len cap ba (by omega) hl (by rw [both_add]; exact hb) (by rw [both_add]; exact hc)
    simpa [shiftV] using this
  | mp id hid =>
    intro _
    have := VRel.mp (W := W) (S := S) (φ := both n φ φ') (n := n + m) (n + id) (by omega)
    rw [both_add] at this; exact this
  | it id hid =>
    intro _
    have := VRel.it (W := W) (S := S) (φ := both n φ φ') (n := n + m) (n + id) (by omega)
    rw [both_add] at this; exact this
  | gp g off => intro _; exact .gp g off
  | nils => intro _; exact .nils
  | nilp => intro _; exact .nilp
  | nilf => intro _; exact .nilf
  | nilm => intro _; exact .nilm
  | nili => intro _; exact .nili
  | any x => intro _; exact .any x
  | eptr => intro hc; simp [clean] at hc
  | fn => intro hc; simp [clean] at hc
  | ifc => intro hc; simp [clean] at hc
/-- LENDING, with a result of the callee's own making. -/
theorem AC.lend {P : Program} {G : Glob} {f : FuncId} {args pargs : List AV} {r : AV} {h1 : List AO} (H : AC P G f pargs [] fun x h' => x = .ret r ∧ h' = h1) {h : List AO} (hv : Views h args pargs) (hr : clean r = true) (hh : h1.all cleanO = true) :
    AC P G f args h fun x h' => x = .ret (shiftV h.length r) ∧ h' = h ++ h1.map (shiftO h.length) := by
  refine ⟨H.1, fun W S φ vs hH hA => ?_⟩
  have h0 : HRel G W (fun b => S b ∨ Owned φ h b) φ [] := ⟨fun id sz es e => by simp at e, fun id o e _ => by simp at e, fun id id' e => (live_nil e).elim, fun b hb => ⟨by
      rcases hb with hb | ⟨id, e, he⟩
      · exact (hH.sep b hb).1
      · rw [← he]; exact hH.bnd id e.lt, fun id e => (live_nil e).elim⟩, fun id hid => by simp at hid, fun g cs hg => by
      obtain ⟨g1, g2⟩ := hH.glob g cs hg
      exact ⟨.inl g1, fun j c hj => by obtain ⟨v, k1, k2⟩ := g2 j c hj; exact ⟨v, k1, k2.mono fun b hb => ⟨.inl hb, rfl⟩⟩⟩⟩
  refine (H.2 W _ φ vs h0 ⟨by rw [hA.1, hv.len], fun j c v h1 h2 => ?_⟩).mono fun e W' ⟨x, S', φ', h', ⟨k0, k1⟩, k2, k3, k4⟩ => ?_
  · have hj : j < vs.size := (Array.getElem?_eq_some_iff.1 h2).1
    have hjl : j < args.length := by rw [← hA.1]; exact hj
    exact hv.rel hH j _ c v (List.getElem?_eq_getElem hjl) h1 (hA.2 j _ v (List.getElem?_eq_getElem hjl) h2)
  subst k0; subst k1
  have hout : ∀ b, b < W.heap.size → W'.heap[b]? = W.heap[b]? := fun b hb => k4.out b hb fun id e => (live_nil e).elim
  have hlt : ∀ {id : Nat} {o : AO}, h[id]? = some o → id < h.length := fun e => (List.getElem?_eq_some_iff.1 e).1
  have himg : ∀ id, Live h' id → W.heap.size ≤ (φ' id).1 := fun id e => by
    rcases k4.img id e with h2 | ⟨id2, h2, _⟩
    · exact h2
    · exact (live_nil h2).elim
  have hφ : ∀ {i}, i < h.length → both h.length φ φ' i = φ i := fun hi => by simp [both, hi]
  have hφ' : ∀ i, both h.length φ φ' (h.length + i) = φ' i := fun i => both_add _ _ _ i
  have hget : ∀ {i o}, (h ++ h'.map (shiftO h.length))[i]? = some o → (i < h.length ∧ h[i]? = some o) ∨ (∃ k o', i = h.length + k ∧ h'[k]? = some o' ∧ o = shiftO h.length o') := fun {i o} e => by
    rcases Nat.lt_or_ge i h.length with hi | hi
    · rw [List.getElem?_append_left hi] at e; exact .inl ⟨hi, e⟩
    · rw [List.getElem?_append_right hi, List.getElem?_map, Option.map_eq_some_iff] at e
      obtain ⟨o, e2, e3⟩ := e
      exact .inr ⟨_, o, by omega, e2, e3.symm⟩
  have hsl : ∀ {o : AO}, (shiftO h.length o).live → o.live := fun {o} l => by cases o <;> exact l
  have K : Keep W S φ h W' S (both h.length φ φ') (h ++ h'.map (shiftO h.length)) :=
    { pure := fun b hb => ⟨hb, hout b (hH.sep b hb).1⟩, len := by simp, same := fun _ hid => hφ hid
      blk := fun id hid c t fr e => ⟨c, t, fr, by rw [← hout _ (hH.bnd id hid)]; exact e, rfl⟩
      os := k4.os, tape := k4.tape, output := k4.output, size := k4.size, out := fun b hb _ => hout b hb
      img := fun id ⟨o, e, l⟩ => by
        rcases hget e with ⟨hi, e'⟩ | ⟨k, o', rfl, e', rfl⟩
        · exact .inr ⟨id, ⟨_, e', l⟩, by rw [hφ hi]⟩
        · rw [hφ']; exact .inl (himg _ ⟨_, e', hsl l⟩)
      newS := fun b hb => .inl hb }
  have hlen : (h ++ h'.map (shiftO h.length)).length = h.length + h'.length := by simp
  refine ⟨.ret (shiftV h.length r), S, both h.length φ φ', _, ⟨rfl, rfl⟩, ⟨fun id sz es e => ?_, fun id o1 e lo => ?_, fun id id' ⟨o1, e1, l1⟩ ⟨o2, e2, l2⟩ he => ?_, fun b hb => ⟨Nat.lt_of_lt_of_le (hH.sep b hb).1 k4.size, fun id ⟨o1, e, l1⟩ he => ?_⟩, fun id hid => ?_, fun g cs hg => ?_⟩, ?_, K⟩
  · rcases hget e with ⟨hi, e'⟩ | ⟨k, o', rfl, e', eo⟩
    · obtain ⟨c, t, fr, a1, a2, a3, a4, a5⟩ := hH.obj id sz es e'
      refine ⟨c, t, fr, by rw [hφ hi, hout _ (hH.bnd id hi)]; exact a1, a2, a3, by rw [hφ hi]; exact a4, fun j u hj => ?_⟩
      obtain ⟨b1, v, b2, b3⟩ := a5 j u hj
      exact ⟨b1, v, by rw [hφ hi]; exact b2, b3.kept K.toKept⟩
    · obtain ⟨es', rfl, rfl⟩ : ∃ es', o' = .row sz es' ∧ es = es'.map (shiftL h.length) := by cases o' <;> cases eo; exact ⟨_, rfl, rfl⟩
      obtain ⟨c, t, fr, a1, a2, a3, a4, a5⟩ := k2.obj k sz es' e'
      refine ⟨c, t, fr, by rw [hφ']; exact a1, a2, fun e he => ?_, by rw [hφ']; simpa using a4, fun j u hj => ?_⟩
      · obtain ⟨e0, he0, rfl⟩ := List.mem_map.1 he
        rw [shiftL_map]; simpa using a3 e0 he0
      · have hfl : (es'.map (shiftL h.length)).flatten = es'.flatten.map (shiftV h.length) := by
          rw [List.map_flatten]; congr 1; exact List.map_congr_left fun l _ => shiftL_map _ l
        rw [hfl, List.getElem?_map, Option.map_eq_some_iff] at hj
        obtain ⟨u0, hj, rfl⟩ := hj
        obtain ⟨b1, v, b2, b3⟩ := a5 j u0 hj
        have hcl : clean u0 = true := by
          have h3 := List.all_eq_true.1 hh _ (List.mem_of_getElem? e')
          simp only [cleanO] at h3
          obtain ⟨l, hl, hu⟩ := List.mem_flatten.1 (List.mem_of_getElem? hj)
          have h4 := List.all_eq_true.1 h3 l hl
          obtain ⟨q, hq⟩ := List.getElem?_of_mem hu
          exact cleanL_get h4 q u0 hq
        exact ⟨by rw [shift_isCell]; exact b1, v, by rw [hφ']; exact b2, by rw [hlen]; exact clean_rel b3 hcl⟩
  · rcases hget e with ⟨hi, e'⟩ | ⟨k, o', rfl, e', eo⟩
    · rw [hφ hi, hout _ (hH.bnd id hi)]
      exact (hH.oobj id o1 e' lo).mono fun a v r => r.kept K.toKept
    · subst eo
      rw [hφ']
      have hq := k2.oobj k o' e' (hsl lo)
      cases o' with
      | dead => trivial
      | row sz es => trivial
      | sit t pos => exact hq
      | mp es' =>
        obtain ⟨ents, clock, a1, a2, a3, a4⟩ := hq
        refine ⟨ents, clock, a1, by simpa using a2, fun j k a hj => ?_, a4⟩
        rw [List.getElem?_map, Option.map_eq_some_iff] at hj
        obtain ⟨⟨k0, a0⟩, hj, hk⟩ := hj
        cases hk
        obtain ⟨x, c1, c2, c3⟩ := a3 j _ _ hj
        have hcl : clean a0 = true := by
          have h3 := List.all_eq_true.1 hh _ (List.mem_of_getElem? e')
          simp only [cleanO] at h3
          exact List.all_eq_true.1 h3 _ (List.mem_of_getElem? hj)
        exact ⟨x, c1, c2, by rw [hlen]; exact clean_rel c3 hcl⟩
  · rcases hget e1 with ⟨hi, e1'⟩ | ⟨k, _, rfl, e1', rfl⟩ <;> rcases hget e2 with ⟨hi', e2'⟩ | ⟨k', _, rfl, e2', rfl⟩
    · rw [hφ hi, hφ hi'] at he; exact hH.inj _ _ ⟨_, e1', l1⟩ ⟨_, e2', l2⟩ he
    · rw [hφ hi, hφ'] at he
      have := himg _ ⟨_, e2', hsl l2⟩
      have := hH.bnd id hi
      omega
    · rw [hφ hi', hφ'] at he
      have := himg _ ⟨_, e1', hsl l1⟩
      have := hH.bnd id' hi'
      omega
    · rw [hφ', hφ'] at he; rw [k2.inj _ _ ⟨_, e1', hsl l1⟩ ⟨_, e2', hsl l2⟩ he]
  · rcases hget e with ⟨hi, e'⟩ | ⟨k, _, rfl, e', rfl⟩
    · rw [hφ hi] at he; exact (hH.sep b hb).2 _ ⟨_, e', l1⟩ he
    · rw [hφ'] at he
      have := himg _ ⟨_, e', hsl l1⟩
      have := (hH.sep b hb).1
      omega
  · rcases Nat.lt_or_ge id h.length with hi | hi
    · rw [hφ hi]; exact Nat.lt_of_lt_of_le (hH.bnd id hi) k4.size
    · have hid' : id - h.length < h'.length := by rw [hlen] at hid; omega
      have := hφ' (id - h.length)
      rw [show h.length + (id - h.length) = id by omega] at this
      rw [this]
      exact k2.bnd _ hid'
  · obtain ⟨g1, g2⟩ := hH.glob g cs hg
    refine ⟨g1, fun j c hj => ?_⟩
    obtain ⟨v, v1, v2⟩ := g2 j c hj
    exact ⟨v, by rw [cell?_of_heap (K.pure g g1).2]; exact v1, v2.mono K.pure⟩
  · cases k3 with
    | ret _ x hv => rw [hlen]; exact .ret _ _ (clean_rel hv hr)
end Go.Aw
namespace Go.Aw
/-- FREEZING. -/
theorem AC.freeze {P : Program} {G : Glob} {f : FuncId} {args : List AV} {r r' : AV} {h1 : List AO} (H : AC P G f args [] fun x h' => x = .ret r ∧ h' = h1) (hv : Views h1 [r] [r']) : VF P G f args r' := by
  refine ⟨H.1, fun W S φ vs hH hA => ?_⟩
  refine (H.2 W S φ vs hH hA).mono fun e W' ⟨x, S', φ', h', ⟨k0, k1⟩, k2, k3, k4⟩ => ?_
  subst k0; subst k1
  have himg : ∀ b, Owned φ' h' b → W.heap.size ≤ b := fun b ⟨id, e, he⟩ => by
    rcases k4.img id e with h2 | ⟨id2, h2, _⟩
    · omega
    · exact (live_nil h2).elim
  refine ⟨.ret r', (fun b => S' b ∨ Owned φ' h' b), φ', [], rfl, ⟨fun id sz es e => by simp at e, fun id o e _ => by simp at e, fun id id' e => (live_nil e).elim, fun b hb => ⟨by
      rcases hb with hb | ⟨id, e, he⟩
      · exact (k2.sep b hb).1
      · rw [← he]; exact k2.bnd id e.lt, fun id e => (live_nil e).elim⟩, fun id hid => by simp at hid, fun g cs hg => by
      obtain ⟨g1, g2⟩ := k2.glob g cs hg
      exact ⟨.inl g1, fun j c hj => by obtain ⟨v, q1, q2⟩ := g2 j c hj; exact ⟨v, q1, q2.mono fun b hb => ⟨.inl hb, rfl⟩⟩⟩⟩, ?_, ?_⟩
  · cases k3 with
    | ret _ x hx => exact .ret _ _ (hv.rel k2 0 r r' x rfl rfl hx)
  · exact { pure := fun b hb => ⟨.inl (k4.pure b hb).1, (k4.pure b hb).2⟩, len := Nat.le_refl _, same := fun id hid => by simp at hid
            blk := fun id hid => by simp at hid
            os := k4.os, tape := k4.tape, output := k4.output, size := k4.size, out := k4.out
            img := fun id e => (live_nil e).elim
            newS := fun b hb => by
              rcases hb with hb | hb
              · exact k4.newS b hb
              · exact .inr (.inl (himg b hb)) }
end Go.Aw
namespace Go.Aw
theorem ren_range (n : Nat) : ∀ v : AV, below n v → ren (List.range n) v = v := by
  have key : ∀ (m : Nat), (∀ v : AV, SizeOf.sizeOf v < m → below n v → ren (List.range n) v = v) ∧ (∀ l : List AV, SizeOf.sizeOf l < m → belowL n l → renL (List.range n) l = l) := by
    intro m
    induction m with
    | zero => exact ⟨fun v h => by omega, fun l h => by omega⟩
    | succ m ih =>
      refine ⟨fun v hs hb => ?_, fun l hs hb => ?_⟩
      · cases v <;> simp only [ren, below] at hb ⊢ <;> first | rfl | (rw [ih.2 _ (by simp at hs; omega) hb]) | (simp [List.getD_eq_getElem?_getD, hb])
      · cases l with
        | nil => rfl
        | cons v r => simp only [renL]; rw [ih.1 v (by simp at hs; omega) hb.1, ih.2 r (by simp at hs; omega) hb.2]
  exact fun v => (key _).1 v (Nat.lt_succ_self _)
theorem renL_range (n : Nat) : ∀ l : List AV, belowL n l → renL (List.range n) l = l
  | [], _ => rfl
  | v :: r, h => by simp only [renL]; rw [ren_range n v h.1, renL_range n r h.2]
/-- The first n objects are kept. -/
def Fst (n : Nat) (h h1 : List AO) : Prop := h1.length = n ∧ n ≤ h.length ∧ (∀ (i : Nat) (sz : Nat) (es : List (List AV)), h1[i]? = some (.row sz es) → h[i]? = some (.row sz es) ∧ ∀ e ∈ es, belowL n e) ∧
  (∀ (i : Nat) (es : List (PV × AV)), h1[i]? = some (.mp es) → h[i]? = some (.mp es) ∧ ∀ e ∈ es, below n e.2) ∧
  ∀ (i : Nat) (s : List UInt8) (pos : Nat), h1[i]? = some (.sit s pos) → h[i]? = some (.sit s pos)
theorem wk_fst_nd {k n : Nat} {ts ts1 : List AV} {h h1 : List AO} (hk : k ≤ n) (HF : Fst n h h1) (HT : Fgt n ts ts1) : ∃ ρ : List Nat, k ≤ ρ.length ∧ (∀ i, i < k → ρ.getD i 0 = i) ∧ ρ.Nodup ∧ TW ρ ts ts1 ∧ HW ρ h ρ h1 := by
  obtain ⟨f1, f2, f3, f4, f5⟩ := HF
  refine ⟨List.range n, by simpa using hk, fun i hi => by simp [List.getD_eq_getElem?_getD, show i < n by omega], List.nodup_range, ?_, ?_⟩
  · revert HT
    induction ts generalizing ts1 with
    | nil => intro H; cases ts1 <;> first | exact trivial | exact H.elim
    | cons v r ih =>
      intro H
      cases ts1 with
      | nil => exact H.elim
      | cons v1 r1 =>
        refine ⟨?_, ih H.2⟩
        rcases H.1 with h | ⟨h1, h2⟩
        · exact .inl h
        · exact .inr ⟨by simpa using h1, by rw [← h2]; exact ren_range n v1 h1⟩
  · have key : ∀ (m a : Nat) (l : List AO), a + m = n → l.length = m → (∀ i, l[i]? = h1[a + i]?) → HW (List.range n) h (List.range' a m) l := by
      intro m
      induction m with
      | zero => intro a l _ hl _; have : l = [] := List.length_eq_zero_iff.1 hl; subst this; exact trivial
      | succ m ih =>
        intro a l ha hl hg
        match l, hl with
        | o :: r, hl =>
          refine ⟨by omega, ?_, ih (a + 1) r (by omega) (by simpa using hl) (fun i => by have := hg (i + 1); simp at this; rw [this]; congr 1; omega)⟩
          have h0 := hg 0
          simp at h0
          cases o with
          | dead => exact trivial
          | row sz es =>
            obtain ⟨g1, g2⟩ := f3 a sz es h0.symm
            refine ⟨fun e he => by simpa using g2 e he, ?_⟩
            rw [g1]
            congr 2
            symm
            rw [List.map_congr_left (g := id) fun e he => renL_range n e (g2 e he)]
            simp
          | sit t pos => exact f5 a t pos h0.symm
          | mp es =>
            obtain ⟨g1, g2⟩ := f4 a es h0.symm
            refine ⟨fun e he => by simpa using g2 e he, ?_⟩
            rw [g1]
            congr 2
            symm
            rw [List.map_congr_left (g := id) fun e he => by simp [ren_range n e.2 (g2 e he)]]
            simp
    rw [List.range_eq_range']
    have := key n 0 h1 (by omega) f1 (fun i => by simp)
    rwa [List.range_eq_range'] at this
theorem wk_fst {k n : Nat} {ts ts1 : List AV} {h h1 : List AO} (hk : k ≤ n) (HF : Fst n h h1) (HT : Fgt n ts ts1) : Wk k ts h ts1 h1 := by
  obtain ⟨ρ, a, b, c, d, e⟩ := wk_fst_nd hk HF HT
  exact Wk.of ρ a b c d e
/-- One own row, whose cells have no references. -/
theorem fst_row {n sz : Nat} {es es1 : List (List AV)} {h : List AO} (hn : n = 1) (e : es1 = es) (hp : ∀ x ∈ es1, belowL n x) : Fst n (.row sz es :: h) [.row sz es1] := by
  subst hn; subst e
  refine ⟨rfl, by simp, fun i s q hq => ?_, fun i q hq => ?_, fun i t p hq => ?_⟩
  · cases i with
    | zero => simp at hq; obtain ⟨rfl, rfl⟩ := hq; exact ⟨rfl, hp⟩
    | succ i => simp at hq
  · cases i <;> simp at hq
  · cases i <;> simp at hq
/-- A whole row of pure cells, read. -/
theorem view_row {h : List AO} {id sz n : Nat} {ls : List (List PV)} (he : h[id]? = some (.row sz (ls.map (·.map .p)))) (hn : n = ls.length) (hs : ∀ l ∈ ls, l.length = sz) : View h (.sl id sz 0 n) (.lst sz ls) := by
  subst hn
  refine .sl id sz 0 _ ls he (by simp) hs fun i j e q e' a h1 h2 h3 h4 => ?_
  simp only [Nat.zero_add, List.getElem?_map, h1, Option.map_some, Option.some.injEq] at h3
  subst h3
  simp only [List.getElem?_map, h2, Option.map_some, Option.some.injEq] at h4
  subst h4
  exact .p q
end Go.Aw
namespace Go.Aw
section
variable {P : Program} {G : Glob}
/-- A result and objects, some forgotten, the others named anew. -/
def WkR (k : Nat) (v : AV) (h : List AO) (v1 : AV) (h1 : List AO) : Prop :=
  ∃ ρ : List Nat, k ≤ ρ.length ∧ (∀ i, i < k → ρ.getD i 0 = i) ∧ ρ.Nodup ∧ below ρ.length v1 ∧ ren ρ v1 = v ∧ HW ρ h ρ h1
theorem wk_of_wkr {k : Nat} {v v1 : AV} {h h1 : List AO} (w : WkR k v h v1 h1) : Wk k [v] h [v1] h1 := by
  obtain ⟨ρ, r1, r2, r3, r4, r5, r6⟩ := w
  exact Wk.of ρ r1 r2 r3 ⟨.inr ⟨r4, r5⟩, trivial⟩ r6
theorem AC.gc {f : FuncId} {args : List AV} {h : List AO} {R R' : ARes → List AO → Prop} (H : AC P G f args h R) (hp : ∀ t v h', R (.pan t v) h' → R' (.pan t v) h')
    (hw : ∀ v h', R (.ret v) h' → ∃ v1 h1, WkR h.length v h' v1 h1 ∧ R' (.ret v1) h1) : AC P G f args h R' := by
  refine ⟨H.1, fun W S φ vs hH hA => (H.2 W S φ vs hH hA).mono fun e W' ⟨r, S', φ', h', k1, k2, k3, k4⟩ => ?_⟩
  cases r with
  | pan t v => exact ⟨_, S', φ', h', hp t v h' k1, k2, k3, k4⟩
  | ret v =>
    cases k3 with
    | ret _ x hv =>
      obtain ⟨v1, h1, w, hr⟩ := hw v h' k1
      have s : St G W S φ h W' S' φ' { tmps := #[x], defers := [] } [v] h' := ⟨k2, ⟨rfl, fun i u hi => by
        cases i with
        | zero => simp at hi; subst hi; exact hv
        | succ i => simp at hi⟩, rfl, k4⟩
      obtain ⟨S1, φ1, s1⟩ := wk_of_wkr w G W S φ h W' S' φ' _ rfl s
      exact ⟨.ret v1, S1, φ1, h1, hr, s1.hrel, .ret _ _ (s1.trel.get 0 v1 rfl), s1.keep⟩
/-- What holds of every heap that is. -/
theorem VRel.isBelow {W : World} {S : Nat → Prop} {φ : Place} {n : Nat} {v : AV} {x : Value} (h : VRel W S φ n v x) : Aw.below n v := by
  induction h with
  | agg cs vs hs hc ih =>
    simp only [Aw.below]
    have : ∀ (l : List AV), (∀ c ∈ l, Aw.below n c) → belowL n l := by
      intro l; induction l with
      | nil => intro _; trivial
      | cons a r ih => intro h; exact ⟨h a (by simp), ih fun c hc => h c (by simp [hc])⟩
    refine this _ fun c hc' => ?_
    obtain ⟨j, hj⟩ := List.getElem?_of_mem hc'
    have hl := (List.getElem?_eq_some_iff.1 hj).1
    exact ih j c _ hj (Array.getElem?_eq_getElem (by omega))
  | tup cs vs hs hc ih =>
    simp only [Aw.below]
    have : ∀ (l : List AV), (∀ c ∈ l, Aw.below n c) → belowL n l := by
      intro l; induction l with
      | nil => intro _; trivial
      | cons a r ih => intro h; exact ⟨h a (by simp), ih fun c hc => h c (by simp [hc])⟩
    refine this _ fun c hc' => ?_
    obtain ⟨j, hj⟩ := List.getElem?_of_mem hc'
    have hl := (List.getElem?_eq_some_iff.1 hj).1
    exact ih j c _ hj (Array.getElem?_eq_getElem (by omega))
  | fn f cs vs hs hc ih =>
    simp only [Aw.below]
    have : ∀ (l : List AV), (∀ c ∈ l, Aw.below n c) → belowL n l := by
      intro l; induction l with
      | nil => intro _; trivial
      | cons a r ih => intro h; exact ⟨h a (by simp), ih fun c hc => h c (by simp [hc])⟩
    refine this _ fun c hc' => ?_
    obtain ⟨j, hj⟩ := List.getElem?_of_mem hc'
    have hl := (List.getElem?_eq_some_iff.1 hj).1
    exact ih j c _ hj (Array.getElem?_eq_getElem (by omega))
  | ptr _ _ _ _ hid => exact hid
  | sl _ _ _ _ _ _ hid => exact hid
  | mp _ hid => exact hid
  | it _ hid => exact hid
  | _ => trivial
/-- Rows that are well formed: elements of one size, single cells, references to objects that are. -/
def HB (h : List AO) : Prop :=
  (∀ (i sz : Nat) (es : List (List AV)), h[i]? = some (.row sz es) → ∀ e ∈ es, e.length = sz ∧ belowL h.length e ∧ e.all AV.isCell = true) ∧
  ∀ (i : Nat) (es : List (PV × AV)), h[i]? = some (.mp es) → ∀ e ∈ es, below h.length e.2
theorem HRel.hb {W : World} {S : Nat → Prop} {φ : Place} {h : List AO} (H : HRel G W S φ h) : HB h := by
  refine ⟨fun i sz es e x hx => ?_, fun i es e x hx => ?_⟩
  · obtain ⟨c, t, fr, a1, a2, a3, a4, a5⟩ := H.obj i sz es e
    have key : ∀ u ∈ x, u.isCell = true ∧ Aw.below h.length u := fun u hu => by
      obtain ⟨j, hj⟩ := List.getElem?_of_mem (List.mem_flatten.2 ⟨x, hx, hu⟩)
      obtain ⟨b1, v, b2, b3⟩ := a5 j u hj
      exact ⟨b1, b3.isBelow⟩
    refine ⟨a3 x hx, ?_, List.all_eq_true.2 fun u hu => (key u hu).1⟩
    have : ∀ (l : List AV), (∀ c ∈ l, Aw.below h.length c) → belowL h.length l := by
      intro l; induction l with
      | nil => intro _; trivial
      | cons a r ih => intro h; exact ⟨h a (by simp), ih fun c hc => h c (by simp [hc])⟩
    exact this x fun u hu => (key u hu).2
  · obtain ⟨ents, clock, a1, a2, a3, a4⟩ := H.oobj i _ e trivial
    obtain ⟨j, hj⟩ := List.getElem?_of_mem hx
    obtain ⟨e0, _, _, h3⟩ := a3 j x.1 x.2 hj
    exact h3.isBelow
theorem AC.hb {f : FuncId} {args : List AV} {h : List AO} {R : ARes → List AO → Prop} (hc : callable P f = true) (H : HB h → AC P G f args h R) : AC P G f args h R :=
  ⟨hc, fun W S φ vs hH hA => (H hH.hb).2 W S φ vs hH hA⟩
/-- The first n objects are kept, the others forgotten. -/
theorem wk_refl {k : Nat} {ts ts1 : List AV} {h : List AO} (hk : k ≤ h.length) (hb : HB h) (HT : Fgt h.length ts ts1) : Wk k ts h ts1 h :=
  wk_fst (n := h.length) hk ⟨rfl, Nat.le_refl _, (fun i sz es e => ⟨e, fun x hx => (hb.1 i sz es e x hx).2.1⟩), (fun i es e => ⟨e, fun x hx => hb.2 i es e x hx⟩), fun i s p e => e⟩ HT
theorem callable_of {f : FuncId} {F : FK} (h : compF P f = some F) : callable P f = true := by
  unfold compF at h
  split at h <;> first | (cases h; done) | skip
  split at h <;> first | (cases h; done) | skip
  split at h <;> first | (cases h; done) | skip
  split at h <;> first | (cases h; done) | skip
  assumption
theorem AC.enterB {f : FuncId} {F : FK} {args : List AV} {h : List AO} {R : ARes → List AO → Prop} (hF : compF P f = some F) (H : HB h → AC P G f args h R) : AC P G f args h R := AC.hb (callable_of hF) H
theorem belowL_mono {n m : Nat} (hnm : n ≤ m) : ∀ (l : List AV), belowL n l → belowL m l := by
  have key : ∀ (s : Nat), (∀ v : AV, SizeOf.sizeOf v < s → below n v → below m v) ∧ (∀ l : List AV, SizeOf.sizeOf l < s → belowL n l → belowL m l) := by
    intro s
    induction s with
    | zero => exact ⟨fun v h => by omega, fun l h => by omega⟩
    | succ s ih =>
      refine ⟨fun v hs hb => ?_, fun l hs hb => ?_⟩
      · cases v <;> simp only [below] at hb ⊢ <;> first | trivial | omega | (exact ih.2 _ (by simp at hs; omega) hb)
      · cases l with
        | nil => trivial
        | cons v r => exact ⟨ih.1 v (by simp at hs; omega) hb.1, ih.2 r (by simp at hs; omega) hb.2⟩
  exact fun l => (key _).2 l (Nat.lt_succ_self _)
/-- A heap that is as it should be, by a look. -/
def okO (n : Nat) : AO → Prop
  | .row _ es => ∀ e ∈ es, belowL n e
  | .mp es => ∀ e ∈ es, below n e.2
  | _ => True
theorem wk_same {k : Nat} {ts ts1 : List AV} {h : List AO} (hk : k ≤ h.length) (ho : ∀ o ∈ h, okO h.length o) (HT : Fgt h.length ts ts1) : Wk k ts h ts1 h :=
  wk_fst (n := h.length) hk ⟨rfl, Nat.le_refl _, (fun i sz es e => ⟨e, fun x hx => ho _ (List.mem_of_getElem? e) x hx⟩), (fun i es e => ⟨e, fun x hx => ho _ (List.mem_of_getElem? e) x hx⟩), fun i s p e => e⟩ HT
/-- What was made on the way is forgotten. -/
theorem AC.trim {f : FuncId} {args : List AV} {h : List AO} {r : AV} (H : AC P G f args h fun x h' => x = .ret r ∧ ∃ l, h' = h ++ l) (hr : below h.length r) : AC P G f args h fun x h' => x = .ret r ∧ h' = h := by
  refine AC.hb H.1 fun hb => H.gc (fun t v h' ⟨e, _⟩ => by cases e) fun v h' ⟨e, l, e2⟩ => ?_
  cases e; subst e2
  obtain ⟨ρ, r1, r2, r3, r4, r5⟩ := wk_fst_nd (k := h.length) (n := h.length) (ts := [r]) (ts1 := [r]) (h := h ++ l) (h1 := h) (Nat.le_refl _)
    ⟨rfl, by simp, (fun i sz es e => ⟨by rw [List.getElem?_append_left (List.getElem?_eq_some_iff.1 e).1]; exact e, fun x hx => (hb.1 i sz es e x hx).2.1⟩),
      (fun i es e => ⟨by rw [List.getElem?_append_left (List.getElem?_eq_some_iff.1 e).1]; exact e, fun x hx => hb.2 i es e x hx⟩),
      fun i s p e => by rw [List.getElem?_append_left (List.getElem?_eq_some_iff.1 e).1]; exact e⟩ ⟨.inr ⟨hr, rfl⟩, trivial⟩
  rcases r4.1 with h1 | ⟨h1, h2⟩
  · subst h1
    exact ⟨.any, h, ⟨ρ, r1, r2, r3, by simp [below], by simp [ren], r5⟩, rfl, rfl⟩
  · exact ⟨r, h, ⟨ρ, r1, r2, r3, h1, h2, r5⟩, rfl, rfl⟩
theorem renL_pure (ρ : List Nat) : ∀ l : List AV, belowL 0 l → renL ρ l = l := by
  have key : ∀ (s : Nat), (∀ v : AV, SizeOf.sizeOf v < s → below 0 v → ren ρ v = v) ∧ (∀ l : List AV, SizeOf.sizeOf l < s → belowL 0 l → renL ρ l = l) := by
    intro s
    induction s with
    | zero => exact ⟨fun v h => by omega, fun l h => by omega⟩
    | succ s ih =>
      refine ⟨fun v hs hb => ?_, fun l hs hb => ?_⟩
      · cases v <;> simp only [ren, below] at hb ⊢ <;> first | rfl | omega | (rw [ih.2 _ (by simp at hs; omega) hb])
      · cases l with
        | nil => rfl
        | cons v r => simp only [renL]; rw [ih.1 v (by simp at hs; omega) hb.1, ih.2 r (by simp at hs; omega) hb.2]
  exact fun l => (key _).2 l (Nat.lt_succ_self _)
theorem hw_nil {ρ : List Nat} {h : List AO} : HW ρ h [] [] := trivial
theorem hw_row {ρ : List Nat} {h : List AO} {i : Nat} {π : List Nat} {sz : Nat} {es : List (List AV)} {r1 : List AO} (e : h[i]? = some (.row sz es)) (hp : ∀ x ∈ es, belowL 0 x) (hr : HW ρ h π r1) : HW ρ h (i :: π) (.row sz es :: r1) :=
  ⟨(List.getElem?_eq_some_iff.1 e).1, ⟨fun x hx => belowL_mono (Nat.zero_le _) _ (hp x hx), by rw [List.map_congr_left (g := id) fun x hx => renL_pure ρ x (hp x hx)]; simpa using e⟩, hr⟩
theorem hw_rowr {ρ : List Nat} {h : List AO} {i : Nat} {π : List Nat} {sz : Nat} {es : List (List AV)} {r1 : List AO} (hp : ∀ x ∈ es, belowL ρ.length x) (e : h[i]? = some (.row sz (es.map (renL ρ)))) (hr : HW ρ h π r1) : HW ρ h (i :: π) (.row sz es :: r1) :=
  ⟨(List.getElem?_eq_some_iff.1 e).1, ⟨hp, e⟩, hr⟩
theorem hw_dead {ρ : List Nat} {h : List AO} {i : Nat} {π : List Nat} {r1 : List AO} (e : i < h.length) (hr : HW ρ h π r1) : HW ρ h (i :: π) (.dead :: r1) := ⟨e, trivial, hr⟩
theorem wk_pick (ρ : List Nat) {k : Nat} {ts ts1 : List AV} {h h1 : List AO} (hk : k = 0) (nd : ρ.Nodup) (HH : HW ρ h ρ h1) (HT : TW ρ ts ts1) : Wk k ts h ts1 h1 :=
  Wk.of ρ (by omega) (fun i hi => by omega) nd HT HH
@[simp] theorem TW_nil (ρ : List Nat) : TW ρ [] [] = True := by simp [TW]
@[simp] theorem TW_cons (ρ : List Nat) (v v1 : AV) (r r1 : List AV) : TW ρ (v :: r) (v1 :: r1) = ((v1 = .any ∨ (below ρ.length v1 ∧ ren ρ v1 = v)) ∧ TW ρ r r1) := by simp [TW]
/-- FREEZING, whatever else is there. -/
theorem AC.freezeR {f : FuncId} {args : List AV} {r' : AV} {R : ARes → List AO → Prop} (H : AC P G f args [] R) (hp : ∀ t v h, ¬ R (.pan t v) h) (hv0 : ∀ v h, R (.ret v) h → Views h [v] [r']) : VF P G f args r' := by
  refine ⟨H.1, fun W S φ vs hH hA => ?_⟩
  refine (H.2 W S φ vs hH hA).mono fun e W' ⟨x, S', φ', h', k0, k2, k3, k4⟩ => ?_
  obtain ⟨r, rfl⟩ : ∃ r, x = .ret r := by
    cases x with
    | ret v => exact ⟨v, rfl⟩
    | pan t v => exact (hp _ _ _ k0).elim
  have hv := hv0 _ _ k0
  have himg : ∀ b, Owned φ' h' b → W.heap.size ≤ b := fun b ⟨id, e, he⟩ => by
    rcases k4.img id e with h2 | ⟨id2, h2, _⟩
    · omega
    · exact (live_nil h2).elim
  refine ⟨.ret r', (fun b => S' b ∨ Owned φ' h' b), φ', [], rfl, ⟨fun id sz es e => by simp at e, fun id o e _ => by simp at e, fun id id' e => (live_nil e).elim, fun b hb => ⟨by
      rcases hb with hb | ⟨id, e, he⟩
      · exact (k2.sep b hb).1
      · rw [← he]; exact k2.bnd id e.lt, fun id e => (live_nil e).elim⟩, fun id hid => by simp at hid, fun g cs hg => by
      obtain ⟨g1, g2⟩ := k2.glob g cs hg
      exact ⟨.inl g1, fun j c hj => by obtain ⟨v, q1, q2⟩ := g2 j c hj; exact ⟨v, q1, q2.mono fun b hb => ⟨.inl hb, rfl⟩⟩⟩⟩, ?_, ?_⟩
  · cases k3 with
    | ret _ x hx => exact .ret _ _ (hv.rel k2 0 r r' x rfl rfl hx)
  · exact { pure := fun b hb => ⟨.inl (k4.pure b hb).1, (k4.pure b hb).2⟩, len := Nat.le_refl _, same := fun id hid => by simp at hid
            blk := fun id hid => by simp at hid
            os := k4.os, tape := k4.tape, output := k4.output, size := k4.size, out := k4.out
            img := fun id e => (live_nil e).elim
            newS := fun b hb => by
              rcases hb with hb | hb
              · exact k4.newS b hb
              · exact .inr (.inl (himg b hb)) }
end
end Go.Aw
namespace Go.Proofs.YtbbobekgnclkfaaDoor
open Go Go.Aw
set_option maxRecDepth 100000
abbrev n_spec_l1In : FuncId := 64
abbrev n_spec_l22Word : FuncId := 119
abbrev n_spec_l22Field : FuncId := 121
abbrev n_spec_l22Rest : FuncId := 120
abbrev n_spec_l22Ins : FuncId := 81
abbrev n_spec_MachValid : FuncId := 41
abbrev n_spec_l25Alone : FuncId := 122
abbrev n_spec_l24Jumps : FuncId := 85
abbrev n_spec_l25Plain : FuncId := 86
abbrev n_spec_l5Truth : FuncId := 87
abbrev n_spec_l25Size : FuncId := 88
abbrev n_spec_l25Places : FuncId := 84
abbrev n_spec_l25Long : FuncId := 83
abbrev n_spec_l25Can : FuncId := 82
abbrev n_spec_EncodeFn : FuncId := 42
abbrev n_impl_within : FuncId := 58
abbrev n_slices_IndexFunc_impl_Mins : FuncId := 124
abbrev n_slices_ContainsFunc_impl_Mins : FuncId := 90
abbrev n_impl_formOf : FuncId := 125
abbrev n_impl_minsOk : FuncId := 92
abbrev n_impl_MachValid_1 : FuncId := 91
abbrev n_impl_MachValid : FuncId := 44
abbrev n_math_bits_Mul32 : FuncId := 140
abbrev n_math_bits_Mul64 : FuncId := 141
abbrev n_math_bits_Mul : FuncId := 132
abbrev n_slices_Repeat_impl_Mfn : FuncId := 107
abbrev n_impl_jumpOp : FuncId := 93
abbrev n_impl_shapeOf : FuncId := 126
abbrev n_impl_encoded : FuncId := 94
abbrev n_impl_layout_settle : FuncId := 108
abbrev n_impl_layout_offset : FuncId := 95
abbrev n_impl_layoutOf : FuncId := 61
abbrev n_impl_EncodeFn : FuncId := 46
def F_spec_l1In : FK := ⟨15, [.t 6],
 .seq (.reg [⟨(some 6), none, .mov (.c (.p (.bool false)))⟩])
 (.seq (.reg [⟨(some 7), none, .mov (.t 0)⟩,
   ⟨(some 8), none, .mov (.t 1)⟩,
   ⟨(some 9), none, .bin .geq (.t 7) (.t 8)⟩,
   ⟨(some 10), none, .mov (.t 9)⟩,
   ⟨(some 11), (some (10, true)), .mov (.t 0)⟩,
   ⟨(some 12), (some (10, true)), .mov (.t 2)⟩,
   ⟨(some 13), (some (10, true)), .bin .leq (.t 11) (.t 12)⟩,
   ⟨(some 14), none, .pick (.t 10) (.t 13) (.c (.p (.bool false)))⟩,
   ⟨(some 6), none, .mov (.t 14)⟩])
 (.ret))⟩
theorem k_spec_l1In : compF Tryd.prog n_spec_l1In = some F_spec_l1In := by kernel_rfl
def F_spec_l22Word : FK := ⟨19, [.t 2, .t 3],
 .seq (.reg [⟨(some 2), none, .mov (.c (.p (.str [])))⟩,
   ⟨(some 3), none, .mov (.c (.p (.str [])))⟩])
 (.seq (.reg [⟨(some 6), none, .bsl 1 [(.p (.str []))] 23 [(0, 1, (.c (.p (.str [])))), (1, 1, (.c (.p (.str [115, 101, 116])))), (2, 1, (.c (.p (.str [109, 111, 118, 101])))), (3, 1, (.c (.p (.str [97, 100, 100])))), (4, 1, (.c (.p (.str [115, 117, 98])))), (5, 1, (.c (.p (.str [109, 117, 108])))), (6, 1, (.c (.p (.str [100, 105, 118])))), (7, 1, (.c (.p (.str [114, 101, 109])))), (8, 1, (.c (.p (.str [108, 101, 115, 115])))), (9, 1, (.c (.p (.str [115, 97, 109, 101])))), (10, 1, (.c (.p (.str [110, 111, 116])))), (11, 1, (.c (.p (.str [108, 111, 97, 100])))), (12, 1, (.c (.p (.str [115, 116, 111, 114, 101])))), (13, 1, (.c (.p (.str [115, 97, 121])))), (14, 1, (.c (.p (.str [99, 97, 108, 108])))), (15, 1, (.c (.p (.str [107, 101, 101, 112])))), (16, 1, (.c (.p (.str [116, 97, 107, 101])))), (17, 1, (.c (.p (.str [103, 105, 118, 101])))), (18, 1, (.c (.p (.str [102, 101, 116, 99, 104])))), (19, 1, (.c (.p (.str [114, 101, 115, 117, 108, 116])))), (20, 1, (.c (.p (.str [106, 117, 109, 112])))), (21, 1, (.c (.p (.str [98, 114, 97, 110, 99, 104])))), (22, 1, (.c (.p (.str [98, 97, 99, 107]))))]⟩,
   ⟨(some 4), none, .mov (.t 6)⟩])
 (.seq (.reg [⟨(some 7), none, .bsl 1 [(.p (.str []))] 23 [(0, 1, (.c (.p (.str [])))), (1, 1, (.c (.p (.str [65, 78])))), (2, 1, (.c (.p (.str [65, 66])))), (3, 1, (.c (.p (.str [65, 66, 67])))), (4, 1, (.c (.p (.str [65, 66, 67])))), (5, 1, (.c (.p (.str [65, 66, 67])))), (6, 1, (.c (.p (.str [65, 66, 67])))), (7, 1, (.c (.p (.str [65, 66, 67])))), (8, 1, (.c (.p (.str [65, 66, 67])))), (9, 1, (.c (.p (.str [65, 66, 67])))), (10, 1, (.c (.p (.str [65, 66])))), (11, 1, (.c (.p (.str [65, 66])))), (12, 1, (.c (.p (.str [65, 66])))), (13, 1, (.c (.p (.str [65])))), (14, 1, (.c (.p (.str [78])))), (15, 1, (.c (.p (.str [65, 78])))), (16, 1, (.c (.p (.str [65, 78])))), (17, 1, (.c (.p (.str [65, 78])))), (18, 1, (.c (.p (.str [65, 78])))), (19, 1, (.c (.p (.str [65])))), (20, 1, (.c (.p (.str [78])))), (21, 1, (.c (.p (.str [65, 78])))), (22, 1, (.c (.p (.str [65]))))]⟩,
   ⟨(some 5), none, .mov (.t 7)⟩])
 (.seq (.seq (.reg [⟨(some 8), none, .mov (.t 0)⟩,
   ⟨(some 9), none, .call n_spec_l1In [(.t 8), (.c (.p (.int .i64 1))), (.c (.p (.int .i64 22)))]⟩,
   ⟨(some 10), none, .not (.t 9)⟩])
 (.cond (.t 10)
  (.seq (.reg [⟨(some 2), none, .mov (.c (.p (.str [])))⟩,
    ⟨(some 3), none, .mov (.c (.p (.str [])))⟩])
  (.ret))
  (.skip)))
 (.seq (.reg [⟨(some 11), none, .mov (.t 4)⟩,
   ⟨(some 12), none, .mov (.t 0)⟩,
   ⟨(some 13), none, .idxS 1 (.t 11) (.t 12)⟩,
   ⟨(some 15), none, .mov (.t 5)⟩,
   ⟨(some 16), none, .mov (.t 0)⟩,
   ⟨(some 17), none, .idxS 1 (.t 15) (.t 16)⟩,
   ⟨(some 14), none, .ld none (.t 13)⟩,
   ⟨(some 2), none, .mov (.t 14)⟩,
   ⟨(some 18), none, .ld none (.t 17)⟩,
   ⟨(some 3), none, .mov (.t 18)⟩])
 (.ret)))))⟩
theorem k_spec_l22Word : compF Tryd.prog n_spec_l22Word = some F_spec_l22Word := by kernel_rfl
def F_spec_l22Field : FK := ⟨20, [.t 4],
 .seq (.reg [⟨(some 2), none, .box 5 (.t 0)⟩,
   ⟨(some 4), none, .mov (.c (.p (.int .i64 0)))⟩])
 (.seq (.seq (.reg [⟨(some 5), none, .mov (.t 1)⟩])
 (.blk 0 (.seq (.reg [⟨(some 7), none, .bin .eql (.t 5) (.c (.p (.int .u8 65)))⟩,
   ⟨(some 6), none, .mov (.t 7)⟩])
 (.cond (.t 6)
  (.seq (.reg [⟨(some 8), none, .fldA 1 (.t 2)⟩,
    ⟨(some 9), none, .ld none (.t 8)⟩,
    ⟨(some 4), none, .mov (.t 9)⟩])
  (.ret))
  (.seq (.reg [⟨(some 11), none, .bin .eql (.t 5) (.c (.p (.int .u8 66)))⟩,
    ⟨(some 10), none, .mov (.t 11)⟩])
  (.cond (.t 10)
   (.seq (.reg [⟨(some 12), none, .fldA 2 (.t 2)⟩,
     ⟨(some 13), none, .ld none (.t 12)⟩,
     ⟨(some 4), none, .mov (.t 13)⟩])
   (.ret))
   (.seq (.reg [⟨(some 15), none, .bin .eql (.t 5) (.c (.p (.int .u8 67)))⟩,
     ⟨(some 14), none, .mov (.t 15)⟩])
   (.cond (.t 14)
    (.seq (.reg [⟨(some 16), none, .fldA 3 (.t 2)⟩,
      ⟨(some 17), none, .ld none (.t 16)⟩,
      ⟨(some 4), none, .mov (.t 17)⟩])
    (.ret))
    (.skip)))))))))
 (.seq (.reg [⟨(some 18), none, .fldA 4 (.t 2)⟩,
   ⟨(some 19), none, .ld none (.t 18)⟩,
   ⟨(some 4), none, .mov (.t 19)⟩])
 (.ret)))⟩
theorem k_spec_l22Field : compF Tryd.prog n_spec_l22Field = some F_spec_l22Field := by kernel_rfl
def F_spec_l22Rest : FK := ⟨37, [.t 4],
 .seq (.reg [⟨(some 2), none, .box 5 (.t 0)⟩,
   ⟨(some 4), none, .mov (.c (.p (.bool false)))⟩])
 (.seq (.seq (.reg [⟨(some 5), none, .mov (.c (.p (.int .i64 0)))⟩])
 (.blk 0 (.loop (.seq (.seq (.reg [⟨(some 9), none, .mov (.t 5)⟩,
   ⟨(some 10), none, .bin .lss (.t 9) (.c (.p (.int .i64 4)))⟩])
 (.cond (.t 10)
  (.skip)
  (.exit 0)))
 (.seq (.blk 1 (.seq (.reg [⟨(some 13), none, .mov (.t 5)⟩,
   ⟨(some 14), none, .idxStr (.c (.p (.str [65, 66, 67, 78]))) (.t 13)⟩,
   ⟨(some 6), none, .mov (.t 14)⟩])
 (.seq (.reg [⟨(some 7), none, .mov (.c (.p (.bool false)))⟩])
 (.seq (.seq (.reg [⟨(some 8), none, .mov (.c (.p (.int .i64 0)))⟩])
 (.blk 2 (.loop (.seq (.seq (.reg [⟨(some 15), none, .mov (.t 8)⟩,
   ⟨(some 16), none, .mov (.t 1)⟩,
   ⟨(some 17), none, .len true (.t 16)⟩,
   ⟨(some 18), none, .bin .lss (.t 15) (.t 17)⟩])
 (.cond (.t 18)
  (.skip)
  (.exit 2)))
 (.seq (.blk 3 (.reg [⟨(some 21), none, .mov (.t 7)⟩,
   ⟨(some 22), none, .mov (.t 21)⟩,
   ⟨(some 23), (some (22, false)), .mov (.t 1)⟩,
   ⟨(some 24), (some (22, false)), .mov (.t 8)⟩,
   ⟨(some 25), (some (22, false)), .idxStr (.t 23) (.t 24)⟩,
   ⟨(some 26), (some (22, false)), .mov (.t 6)⟩,
   ⟨(some 27), (some (22, false)), .bin .eql (.t 25) (.t 26)⟩,
   ⟨(some 28), none, .pick (.t 22) (.c (.p (.bool true))) (.t 27)⟩,
   ⟨(some 7), none, .mov (.t 28)⟩]))
 (.reg [⟨(some 19), none, .mov (.t 8)⟩,
   ⟨(some 20), none, .bin .add (.t 19) (.c (.p (.int .i64 1)))⟩,
   ⟨(some 8), none, .mov (.t 20)⟩]))))))
 (.seq (.reg [⟨(some 29), none, .mov (.t 7)⟩,
   ⟨(some 30), none, .not (.t 29)⟩,
   ⟨(some 31), none, .mov (.t 30)⟩,
   ⟨(some 32), (some (31, true)), .ld (some 5) (.t 2)⟩,
   ⟨(some 33), (some (31, true)), .mov (.t 6)⟩,
   ⟨(some 34), (some (31, true)), .call n_spec_l22Field [(.t 32), (.t 33)]⟩,
   ⟨(some 35), (some (31, true)), .bin .neq (.t 34) (.c (.p (.int .i64 0)))⟩,
   ⟨(some 36), none, .pick (.t 31) (.t 35) (.c (.p (.bool false)))⟩])
 (.cond (.t 36)
  (.seq (.reg [⟨(some 4), none, .mov (.c (.p (.bool false)))⟩])
  (.ret))
  (.skip)))))))
 (.reg [⟨(some 11), none, .mov (.t 5)⟩,
   ⟨(some 12), none, .bin .add (.t 11) (.c (.p (.int .i64 1)))⟩,
   ⟨(some 5), none, .mov (.t 12)⟩]))))))
 (.seq (.reg [⟨(some 4), none, .mov (.c (.p (.bool true)))⟩])
 (.ret)))⟩
theorem k_spec_l22Rest : compF Tryd.prog n_spec_l22Rest = some F_spec_l22Rest := by kernel_rfl
def F_spec_l22Ins : FK := ⟨95, [.t 6],
 .seq (.reg [⟨(some 3), none, .box 1 (.t 0)⟩,
   ⟨(some 5), none, .box 5 (.t 2)⟩,
   ⟨(some 6), none, .mov (.c (.p (.bool false)))⟩])
 (.seq (.reg [⟨(some 11), none, .fldA 0 (.t 3)⟩,
   ⟨(some 12), none, .ld none (.t 11)⟩,
   ⟨(some 13), none, .mov (.t 1)⟩,
   ⟨(some 14), none, .idxS 3 (.t 12) (.t 13)⟩,
   ⟨(some 15), none, .ld (some 3) (.t 14)⟩,
   ⟨(some 7), none, .alloc [(.p (.int .i64 0)), (.p (.int .i64 0)), .nils]⟩,
   ⟨none, none, .st 3 (.t 7) (.t 15)⟩])
 (.seq (.reg [⟨(some 17), none, .fldA 0 (.t 5)⟩,
   ⟨(some 18), none, .ld none (.t 17)⟩,
   ⟨(some 19), none, .call n_spec_l22Word [(.t 18)]⟩,
   ⟨(some 16), none, .mov (.t 19)⟩,
   ⟨(some 20), none, .ext 0 (.t 16)⟩,
   ⟨(some 21), none, .ext 1 (.t 16)⟩,
   ⟨(some 8), none, .mov (.t 20)⟩,
   ⟨(some 9), none, .mov (.t 21)⟩])
 (.seq (.seq (.reg [⟨(some 22), none, .mov (.t 9)⟩,
   ⟨(some 23), none, .bins .eql (.t 22) (.c (.p (.str [])))⟩,
   ⟨(some 24), none, .mov (.t 23)⟩,
   ⟨(some 25), (some (24, false)), .ld (some 5) (.t 5)⟩,
   ⟨(some 26), (some (24, false)), .mov (.t 9)⟩,
   ⟨(some 27), (some (24, false)), .call n_spec_l22Rest [(.t 25), (.t 26)]⟩,
   ⟨(some 28), (some (24, false)), .not (.t 27)⟩,
   ⟨(some 29), none, .pick (.t 24) (.c (.p (.bool true))) (.t 28)⟩])
 (.cond (.t 29)
  (.seq (.reg [⟨(some 6), none, .mov (.c (.p (.bool false)))⟩])
  (.ret))
  (.skip)))
 (.seq (.seq (.reg [⟨(some 10), none, .mov (.c (.p (.int .i64 0)))⟩])
 (.blk 0 (.loop (.seq (.seq (.reg [⟨(some 30), none, .mov (.t 10)⟩,
   ⟨(some 31), none, .mov (.t 9)⟩,
   ⟨(some 32), none, .len true (.t 31)⟩,
   ⟨(some 33), none, .bin .lss (.t 30) (.t 32)⟩])
 (.cond (.t 33)
  (.skip)
  (.exit 0)))
 (.seq (.blk 1 (.seq (.reg [⟨(some 36), none, .mov (.t 9)⟩,
   ⟨(some 37), none, .mov (.t 10)⟩,
   ⟨(some 38), none, .idxStr (.t 36) (.t 37)⟩,
   ⟨(some 39), none, .bin .neq (.t 38) (.c (.p (.int .u8 78)))⟩,
   ⟨(some 40), none, .mov (.t 39)⟩,
   ⟨(some 42), (some (40, true)), .mov (.t 9)⟩,
   ⟨(some 43), (some (40, true)), .mov (.t 10)⟩,
   ⟨(some 44), (some (40, true)), .idxStr (.t 42) (.t 43)⟩,
   ⟨(some 41), (some (40, true)), .ld (some 5) (.t 5)⟩,
   ⟨(some 45), (some (40, true)), .call n_spec_l22Field [(.t 41), (.t 44)]⟩,
   ⟨(some 46), (some (40, true)), .call n_spec_l1In [(.t 45), (.c (.p (.int .i64 0))), (.c (.p (.int .i64 7)))]⟩,
   ⟨(some 47), (some (40, true)), .not (.t 46)⟩,
   ⟨(some 48), none, .pick (.t 40) (.t 47) (.c (.p (.bool false)))⟩])
 (.cond (.t 48)
  (.seq (.reg [⟨(some 6), none, .mov (.c (.p (.bool false)))⟩])
  (.ret))
  (.skip))))
 (.reg [⟨(some 34), none, .mov (.t 10)⟩,
   ⟨(some 35), none, .bin .add (.t 34) (.c (.p (.int .i64 1)))⟩,
   ⟨(some 10), none, .mov (.t 35)⟩]))))))
 (.seq (.seq (.reg [⟨(some 49), none, .fldA 0 (.t 5)⟩,
   ⟨(some 50), none, .ld none (.t 49)⟩])
 (.blk 2 (.seq (.reg [⟨(some 52), none, .bin .eql (.t 50) (.c (.p (.int .i64 1)))⟩,
   ⟨(some 51), none, .mov (.t 52)⟩])
 (.cond (.t 51)
  (.seq (.reg [⟨(some 53), none, .fldA 4 (.t 5)⟩,
    ⟨(some 54), none, .ld none (.t 53)⟩,
    ⟨(some 55), none, .call n_spec_l1In [(.t 54), (.c (.p (.int .i64 0))), (.c (.p (.int .i64 255)))]⟩,
    ⟨(some 6), none, .mov (.t 55)⟩])
  (.ret))
  (.seq (.reg [⟨(some 57), none, .bin .eql (.t 50) (.c (.p (.int .i64 14)))⟩,
    ⟨(some 56), none, .mov (.t 57)⟩])
  (.cond (.t 56)
   (.seq (.reg [⟨(some 58), none, .fldA 4 (.t 5)⟩,
     ⟨(some 59), none, .ld none (.t 58)⟩,
     ⟨(some 60), none, .mov (.t 1)⟩,
     ⟨(some 61), none, .bin .sub (.t 60) (.c (.p (.int .i64 1)))⟩,
     ⟨(some 62), none, .call n_spec_l1In [(.t 59), (.c (.p (.int .i64 0))), (.t 61)]⟩,
     ⟨(some 6), none, .mov (.t 62)⟩])
   (.ret))
   (.seq (.seq (.reg [⟨(some 64), none, .bin .eql (.t 50) (.c (.p (.int .i64 15)))⟩,
     ⟨(some 63), none, .mov (.t 64)⟩])
   (.cond (.t 63)
    (.skip)
    (.reg [⟨(some 65), none, .bin .eql (.t 50) (.c (.p (.int .i64 16)))⟩,
      ⟨(some 63), none, .mov (.t 65)⟩])))
   (.cond (.t 63)
    (.seq (.reg [⟨(some 66), none, .fldA 4 (.t 5)⟩,
      ⟨(some 67), none, .ld none (.t 66)⟩,
      ⟨(some 68), none, .fldA 1 (.t 7)⟩,
      ⟨(some 69), none, .ld none (.t 68)⟩,
      ⟨(some 70), none, .bin .sub (.t 69) (.c (.p (.int .i64 1)))⟩,
      ⟨(some 71), none, .call n_spec_l1In [(.t 67), (.c (.p (.int .i64 0))), (.t 70)]⟩,
      ⟨(some 6), none, .mov (.t 71)⟩])
    (.ret))
    (.seq (.reg [⟨(some 73), none, .bin .eql (.t 50) (.c (.p (.int .i64 17)))⟩,
      ⟨(some 72), none, .mov (.t 73)⟩])
    (.cond (.t 72)
     (.seq (.reg [⟨(some 74), none, .fldA 4 (.t 5)⟩,
       ⟨(some 75), none, .ld none (.t 74)⟩,
       ⟨(some 76), none, .call n_spec_l1In [(.t 75), (.c (.p (.int .i64 0))), (.c (.p (.int .i64 2)))]⟩,
       ⟨(some 6), none, .mov (.t 76)⟩])
     (.ret))
     (.seq (.reg [⟨(some 78), none, .bin .eql (.t 50) (.c (.p (.int .i64 18)))⟩,
       ⟨(some 77), none, .mov (.t 78)⟩])
     (.cond (.t 77)
      (.seq (.reg [⟨(some 79), none, .fldA 4 (.t 5)⟩,
        ⟨(some 80), none, .ld none (.t 79)⟩,
        ⟨(some 81), none, .fldA 0 (.t 7)⟩,
        ⟨(some 82), none, .ld none (.t 81)⟩,
        ⟨(some 83), none, .bin .sub (.t 82) (.c (.p (.int .i64 1)))⟩,
        ⟨(some 84), none, .call n_spec_l1In [(.t 80), (.c (.p (.int .i64 0))), (.t 83)]⟩,
        ⟨(some 6), none, .mov (.t 84)⟩])
      (.ret))
      (.seq (.seq (.reg [⟨(some 86), none, .bin .eql (.t 50) (.c (.p (.int .i64 20)))⟩,
        ⟨(some 85), none, .mov (.t 86)⟩])
      (.cond (.t 85)
       (.skip)
       (.reg [⟨(some 87), none, .bin .eql (.t 50) (.c (.p (.int .i64 21)))⟩,
         ⟨(some 85), none, .mov (.t 87)⟩])))
      (.cond (.t 85)
       (.seq (.reg [⟨(some 88), none, .fldA 4 (.t 5)⟩,
         ⟨(some 89), none, .ld none (.t 88)⟩,
         ⟨(some 90), none, .fldA 2 (.t 7)⟩,
         ⟨(some 91), none, .ld none (.t 90)⟩,
         ⟨(some 92), none, .len false (.t 91)⟩,
         ⟨(some 93), none, .bin .sub (.t 92) (.c (.p (.int .i64 1)))⟩,
         ⟨(some 94), none, .call n_spec_l1In [(.t 89), (.c (.p (.int .i64 0))), (.t 93)]⟩,
         ⟨(some 6), none, .mov (.t 94)⟩])
       (.ret))
       (.skip)))))))))))))))
 (.seq (.reg [⟨(some 6), none, .mov (.c (.p (.bool true)))⟩])
 (.ret)))))))⟩
theorem k_spec_l22Ins : compF Tryd.prog n_spec_l22Ins = some F_spec_l22Ins := by kernel_rfl
def F_spec_MachValid : FK := ⟨81, [.t 2],
 .seq (.reg [⟨(some 1), none, .box 1 (.t 0)⟩,
   ⟨(some 2), none, .mov (.c (.p (.bool false)))⟩])
 (.seq (.seq (.reg [⟨(some 8), none, .fldA 0 (.t 1)⟩,
   ⟨(some 9), none, .ld none (.t 8)⟩,
   ⟨(some 10), none, .len false (.t 9)⟩,
   ⟨(some 11), none, .call n_spec_l1In [(.t 10), (.c (.p (.int .i64 1))), (.c (.p (.int .i64 4)))]⟩,
   ⟨(some 12), none, .not (.t 11)⟩])
 (.cond (.t 12)
  (.seq (.reg [⟨(some 2), none, .mov (.c (.p (.bool false)))⟩])
  (.ret))
  (.skip)))
 (.seq (.reg [⟨(some 3), none, .mov (.c (.p (.int .i64 0)))⟩])
 (.seq (.seq (.reg [⟨(some 4), none, .mov (.c (.p (.int .i64 0)))⟩])
 (.blk 0 (.loop (.seq (.seq (.reg [⟨(some 13), none, .mov (.t 4)⟩,
   ⟨(some 14), none, .fldA 0 (.t 1)⟩,
   ⟨(some 15), none, .ld none (.t 14)⟩,
   ⟨(some 16), none, .len false (.t 15)⟩,
   ⟨(some 17), none, .bin .lss (.t 13) (.t 16)⟩])
 (.cond (.t 17)
  (.skip)
  (.exit 0)))
 (.seq (.blk 1 (.seq (.reg [⟨(some 20), none, .fldA 0 (.t 1)⟩,
   ⟨(some 21), none, .ld none (.t 20)⟩,
   ⟨(some 22), none, .mov (.t 4)⟩,
   ⟨(some 23), none, .idxS 3 (.t 21) (.t 22)⟩,
   ⟨(some 24), none, .ld (some 3) (.t 23)⟩,
   ⟨(some 5), none, .alloc [(.p (.int .i64 0)), (.p (.int .i64 0)), .nils]⟩,
   ⟨none, none, .st 3 (.t 5) (.t 24)⟩])
 (.seq (.reg [⟨(some 25), none, .mov (.t 3)⟩,
   ⟨(some 26), none, .fldA 2 (.t 5)⟩,
   ⟨(some 27), none, .ld none (.t 26)⟩,
   ⟨(some 28), none, .len false (.t 27)⟩,
   ⟨(some 29), none, .bin .add (.t 25) (.t 28)⟩,
   ⟨(some 3), none, .mov (.t 29)⟩])
 (.seq (.seq (.reg [⟨(some 30), none, .fldA 0 (.t 5)⟩,
   ⟨(some 31), none, .ld none (.t 30)⟩,
   ⟨(some 32), none, .call n_spec_l1In [(.t 31), (.c (.p (.int .i64 0))), (.c (.p (.int .i64 3)))]⟩,
   ⟨(some 33), none, .not (.t 32)⟩,
   ⟨(some 34), none, .mov (.t 33)⟩,
   ⟨(some 35), (some (34, false)), .fldA 1 (.t 5)⟩,
   ⟨(some 36), (some (34, false)), .ld none (.t 35)⟩,
   ⟨(some 37), (some (34, false)), .call n_spec_l1In [(.t 36), (.c (.p (.int .i64 0))), (.c (.p (.int .i64 64)))]⟩,
   ⟨(some 38), (some (34, false)), .not (.t 37)⟩,
   ⟨(some 39), none, .pick (.t 34) (.c (.p (.bool true))) (.t 38)⟩,
   ⟨(some 40), none, .mov (.t 39)⟩,
   ⟨(some 41), (some (40, false)), .fldA 2 (.t 5)⟩,
   ⟨(some 42), (some (40, false)), .ld none (.t 41)⟩,
   ⟨(some 43), (some (40, false)), .len false (.t 42)⟩,
   ⟨(some 44), (some (40, false)), .bin .eql (.t 43) (.c (.p (.int .i64 0)))⟩,
   ⟨(some 45), none, .pick (.t 40) (.c (.p (.bool true))) (.t 44)⟩,
   ⟨(some 46), none, .mov (.t 45)⟩,
   ⟨(some 47), (some (46, false)), .mov (.t 3)⟩,
   ⟨(some 48), (some (46, false)), .bin .gtr (.t 47) (.c (.p (.int .i64 2000)))⟩,
   ⟨(some 49), none, .pick (.t 46) (.c (.p (.bool true))) (.t 48)⟩])
 (.cond (.t 49)
  (.seq (.reg [⟨(some 2), none, .mov (.c (.p (.bool false)))⟩])
  (.ret))
  (.skip)))
 (.seq (.seq (.reg [⟨(some 6), none, .mov (.c (.p (.int .i64 0)))⟩])
 (.blk 2 (.loop (.seq (.seq (.reg [⟨(some 50), none, .mov (.t 6)⟩,
   ⟨(some 51), none, .fldA 2 (.t 5)⟩,
   ⟨(some 52), none, .ld none (.t 51)⟩,
   ⟨(some 53), none, .len false (.t 52)⟩,
   ⟨(some 54), none, .bin .lss (.t 50) (.t 53)⟩])
 (.cond (.t 54)
  (.skip)
  (.exit 2)))
 (.seq (.blk 3 (.seq (.reg [⟨(some 58), none, .mov (.t 4)⟩,
   ⟨(some 59), none, .fldA 2 (.t 5)⟩,
   ⟨(some 61), none, .mov (.t 6)⟩,
   ⟨(some 57), none, .ld (some 1) (.t 1)⟩,
   ⟨(some 60), none, .ld none (.t 59)⟩,
   ⟨(some 62), none, .idxS 5 (.t 60) (.t 61)⟩,
   ⟨(some 63), none, .ld (some 5) (.t 62)⟩,
   ⟨(some 64), none, .call n_spec_l22Ins [(.t 57), (.t 58), (.t 63)]⟩,
   ⟨(some 65), none, .not (.t 64)⟩])
 (.cond (.t 65)
  (.seq (.reg [⟨(some 2), none, .mov (.c (.p (.bool false)))⟩])
  (.ret))
  (.skip))))
 (.reg [⟨(some 55), none, .mov (.t 6)⟩,
   ⟨(some 56), none, .bin .add (.t 55) (.c (.p (.int .i64 1)))⟩,
   ⟨(some 6), none, .mov (.t 56)⟩]))))))
 (.seq (.reg [⟨(some 66), none, .fldA 2 (.t 5)⟩,
   ⟨(some 67), none, .ld none (.t 66)⟩,
   ⟨(some 68), none, .fldA 2 (.t 5)⟩,
   ⟨(some 69), none, .ld none (.t 68)⟩,
   ⟨(some 70), none, .len false (.t 69)⟩,
   ⟨(some 71), none, .bin .sub (.t 70) (.c (.p (.int .i64 1)))⟩,
   ⟨(some 72), none, .idxS 5 (.t 67) (.t 71)⟩,
   ⟨(some 73), none, .fldA 0 (.t 72)⟩,
   ⟨(some 74), none, .ld none (.t 73)⟩,
   ⟨(some 7), none, .mov (.t 74)⟩])
 (.seq (.reg [⟨(some 75), none, .mov (.t 7)⟩,
   ⟨(some 76), none, .bin .neq (.t 75) (.c (.p (.int .i64 20)))⟩,
   ⟨(some 77), none, .mov (.t 76)⟩,
   ⟨(some 78), (some (77, true)), .mov (.t 7)⟩,
   ⟨(some 79), (some (77, true)), .bin .neq (.t 78) (.c (.p (.int .i64 22)))⟩,
   ⟨(some 80), none, .pick (.t 77) (.t 79) (.c (.p (.bool false)))⟩])
 (.cond (.t 80)
  (.seq (.reg [⟨(some 2), none, .mov (.c (.p (.bool false)))⟩])
  (.ret))
  (.skip)))))))))
 (.reg [⟨(some 18), none, .mov (.t 4)⟩,
   ⟨(some 19), none, .bin .add (.t 18) (.c (.p (.int .i64 1)))⟩,
   ⟨(some 4), none, .mov (.t 19)⟩]))))))
 (.seq (.reg [⟨(some 2), none, .mov (.c (.p (.bool true)))⟩])
 (.ret)))))⟩
theorem k_spec_MachValid : compF Tryd.prog n_spec_MachValid = some F_spec_MachValid := by kernel_rfl
def F_spec_l25Alone : FK := ⟨68, [.c 2 (some 1)],
 .seq (.reg [⟨(some 1), none, .box 3 (.t 0)⟩,
   ⟨(some 2), none, .alloc [.nils]⟩])
 (.seq (.reg [⟨(some 7), none, .bld [.nils] []⟩,
   ⟨(some 3), none, .alloc [.nils]⟩,
   ⟨none, none, .st 1 (.t 3) (.t 7)⟩])
 (.seq (.reg [⟨(some 4), none, .mov (.c (.p (.int .i64 0)))⟩])
 (.seq (.seq (.reg [⟨(some 5), none, .mov (.c (.p (.int .i64 0)))⟩])
 (.blk 0 (.loop (.seq (.seq (.reg [⟨(some 8), none, .mov (.t 5)⟩,
   ⟨(some 9), none, .fldA 2 (.t 1)⟩,
   ⟨(some 10), none, .ld none (.t 9)⟩,
   ⟨(some 11), none, .len false (.t 10)⟩,
   ⟨(some 12), none, .bin .lss (.t 8) (.t 11)⟩])
 (.cond (.t 12)
  (.skip)
  (.exit 0)))
 (.seq (.blk 1 (.seq (.reg [⟨(some 15), none, .fldA 2 (.t 1)⟩,
   ⟨(some 16), none, .ld none (.t 15)⟩,
   ⟨(some 17), none, .mov (.t 5)⟩,
   ⟨(some 18), none, .idxS 5 (.t 16) (.t 17)⟩,
   ⟨(some 19), none, .fldA 0 (.t 18)⟩,
   ⟨(some 20), none, .ld none (.t 19)⟩,
   ⟨(some 21), none, .bin .eql (.t 20) (.c (.p (.int .i64 14)))⟩,
   ⟨(some 22), none, .mov (.t 21)⟩,
   ⟨(some 23), (some (22, true)), .fldA 2 (.t 1)⟩,
   ⟨(some 24), (some (22, true)), .ld none (.t 23)⟩,
   ⟨(some 25), (some (22, true)), .mov (.t 5)⟩,
   ⟨(some 26), (some (22, true)), .idxS 5 (.t 24) (.t 25)⟩,
   ⟨(some 27), (some (22, true)), .fldA 4 (.t 26)⟩,
   ⟨(some 28), (some (22, true)), .ld none (.t 27)⟩,
   ⟨(some 29), (some (22, true)), .mov (.t 4)⟩,
   ⟨(some 30), (some (22, true)), .bin .geq (.t 28) (.t 29)⟩,
   ⟨(some 31), none, .pick (.t 22) (.t 30) (.c (.p (.bool false)))⟩,
   ⟨(some 32), none, .mov (.t 31)⟩,
   ⟨(some 33), (some (32, true)), .fldA 2 (.t 1)⟩,
   ⟨(some 34), (some (32, true)), .ld none (.t 33)⟩,
   ⟨(some 35), (some (32, true)), .mov (.t 5)⟩,
   ⟨(some 36), (some (32, true)), .idxS 5 (.t 34) (.t 35)⟩,
   ⟨(some 37), (some (32, true)), .fldA 4 (.t 36)⟩,
   ⟨(some 38), (some (32, true)), .ld none (.t 37)⟩,
   ⟨(some 39), (some (32, true)), .bin .lss (.t 38) (.c (.p (.int .i64 4)))⟩,
   ⟨(some 40), none, .pick (.t 32) (.t 39) (.c (.p (.bool false)))⟩])
 (.cond (.t 40)
  (.reg [⟨(some 41), none, .fldA 2 (.t 1)⟩,
    ⟨(some 42), none, .ld none (.t 41)⟩,
    ⟨(some 43), none, .mov (.t 5)⟩,
    ⟨(some 44), none, .idxS 5 (.t 42) (.t 43)⟩,
    ⟨(some 45), none, .fldA 4 (.t 44)⟩,
    ⟨(some 46), none, .ld none (.t 45)⟩,
    ⟨(some 47), none, .bin .add (.t 46) (.c (.p (.int .i64 1)))⟩,
    ⟨(some 4), none, .mov (.t 47)⟩])
  (.skip))))
 (.reg [⟨(some 13), none, .mov (.t 5)⟩,
   ⟨(some 14), none, .bin .add (.t 13) (.c (.p (.int .i64 1)))⟩,
   ⟨(some 5), none, .mov (.t 14)⟩]))))))
 (.seq (.seq (.reg [⟨(some 6), none, .mov (.c (.p (.int .i64 0)))⟩])
 (.blk 2 (.loop (.seq (.seq (.reg [⟨(some 48), none, .mov (.t 6)⟩,
   ⟨(some 49), none, .mov (.t 4)⟩,
   ⟨(some 50), none, .bin .lss (.t 48) (.t 49)⟩])
 (.cond (.t 50)
  (.skip)
  (.exit 2)))
 (.seq (.blk 3 (.reg [⟨(some 53), none, .fldA 0 (.t 3)⟩,
   ⟨(some 54), none, .ld none (.t 53)⟩,
   ⟨(some 55), none, .bld [(.p (.int .i64 0)), (.p (.int .i64 0)), (.p (.int .i64 0)), (.p (.int .i64 0)), (.p (.int .i64 0))] [(0, 1, (.c (.p (.int .i64 22))))]⟩,
   ⟨(some 56), none, .bsl 5 [(.p (.int .i64 0)), (.p (.int .i64 0)), (.p (.int .i64 0)), (.p (.int .i64 0)), (.p (.int .i64 0))] 1 [(0, 5, (.t 55))]⟩,
   ⟨(some 57), none, .bld [(.p (.int .i64 0)), (.p (.int .i64 0)), .nils] [(2, 1, (.t 56))]⟩,
   ⟨(some 58), none, .bsl 3 [(.p (.int .i64 0)), (.p (.int .i64 0)), .nils] 1 [(0, 3, (.t 57))]⟩,
   ⟨(some 59), none, .app 3 40 (.t 54) (.t 58)⟩,
   ⟨(some 60), none, .fldA 0 (.t 3)⟩,
   ⟨none, none, .st 1 (.t 60) (.t 59)⟩]))
 (.reg [⟨(some 51), none, .mov (.t 6)⟩,
   ⟨(some 52), none, .bin .add (.t 51) (.c (.p (.int .i64 1)))⟩,
   ⟨(some 6), none, .mov (.t 52)⟩]))))))
 (.seq (.reg [⟨(some 61), none, .fldA 0 (.t 3)⟩,
   ⟨(some 62), none, .ld none (.t 61)⟩,
   ⟨(some 63), none, .ld (some 3) (.t 1)⟩,
   ⟨(some 64), none, .bsl 3 [(.p (.int .i64 0)), (.p (.int .i64 0)), .nils] 1 [(0, 3, (.t 63))]⟩,
   ⟨(some 65), none, .app 3 40 (.t 62) (.t 64)⟩,
   ⟨(some 66), none, .fldA 0 (.t 3)⟩,
   ⟨none, none, .st 1 (.t 66) (.t 65)⟩])
 (.seq (.reg [⟨(some 67), none, .ld (some 1) (.t 3)⟩,
   ⟨none, none, .st 1 (.t 2) (.t 67)⟩])
 (.ret)))))))⟩
theorem k_spec_l25Alone : compF Tryd.prog n_spec_l25Alone = some F_spec_l25Alone := by kernel_rfl
def F_spec_l24Jumps : FK := ⟨11, [.t 2],
 .seq (.reg [⟨(some 1), none, .box 5 (.t 0)⟩,
   ⟨(some 2), none, .mov (.c (.p (.bool false)))⟩])
 (.seq (.reg [⟨(some 3), none, .fldA 0 (.t 1)⟩,
   ⟨(some 4), none, .ld none (.t 3)⟩,
   ⟨(some 5), none, .bin .eql (.t 4) (.c (.p (.int .i64 20)))⟩,
   ⟨(some 6), none, .mov (.t 5)⟩,
   ⟨(some 7), (some (6, false)), .fldA 0 (.t 1)⟩,
   ⟨(some 8), (some (6, false)), .ld none (.t 7)⟩,
   ⟨(some 9), (some (6, false)), .bin .eql (.t 8) (.c (.p (.int .i64 21)))⟩,
   ⟨(some 10), none, .pick (.t 6) (.c (.p (.bool true))) (.t 9)⟩,
   ⟨(some 2), none, .mov (.t 10)⟩])
 (.ret))⟩
theorem k_spec_l24Jumps : compF Tryd.prog n_spec_l24Jumps = some F_spec_l24Jumps := by kernel_rfl
def F_spec_l25Plain : FK := ⟨78, [.t 2],
 .seq (.reg [⟨(some 1), none, .box 5 (.t 0)⟩,
   ⟨(some 2), none, .mov (.c .nils)⟩])
 (.seq (.blk 0 (.seq (.reg [⟨(some 4), none, .fldA 0 (.t 1)⟩,
   ⟨(some 5), none, .ld none (.t 4)⟩,
   ⟨(some 6), none, .bin .eql (.t 5) (.c (.p (.int .i64 1)))⟩,
   ⟨(some 7), none, .mov (.t 6)⟩,
   ⟨(some 8), (some (7, false)), .fldA 0 (.t 1)⟩,
   ⟨(some 9), (some (7, false)), .ld none (.t 8)⟩,
   ⟨(some 10), (some (7, false)), .call n_spec_l1In [(.t 9), (.c (.p (.int .i64 15))), (.c (.p (.int .i64 18)))]⟩,
   ⟨(some 11), none, .pick (.t 7) (.c (.p (.bool true))) (.t 10)⟩,
   ⟨(some 3), none, .mov (.t 11)⟩])
 (.cond (.t 3)
  (.seq (.reg [⟨(some 12), none, .fldA 0 (.t 1)⟩,
    ⟨(some 13), none, .ld none (.t 12)⟩,
    ⟨(some 14), none, .conv .u8 (.t 13)⟩,
    ⟨(some 15), none, .fldA 1 (.t 1)⟩,
    ⟨(some 16), none, .ld none (.t 15)⟩,
    ⟨(some 17), none, .conv .u8 (.t 16)⟩,
    ⟨(some 18), none, .fldA 4 (.t 1)⟩,
    ⟨(some 19), none, .ld none (.t 18)⟩,
    ⟨(some 20), none, .conv .u8 (.t 19)⟩,
    ⟨(some 21), none, .bsl 1 [(.p (.int .u8 0))] 3 [(0, 1, (.t 14)), (1, 1, (.t 17)), (2, 1, (.t 20))]⟩,
    ⟨(some 2), none, .mov (.t 21)⟩])
  (.ret))
  (.seq (.reg [⟨(some 23), none, .fldA 0 (.t 1)⟩,
    ⟨(some 24), none, .ld none (.t 23)⟩,
    ⟨(some 25), none, .call n_spec_l1In [(.t 24), (.c (.p (.int .i64 3))), (.c (.p (.int .i64 9)))]⟩,
    ⟨(some 22), none, .mov (.t 25)⟩])
  (.cond (.t 22)
   (.seq (.reg [⟨(some 26), none, .fldA 0 (.t 1)⟩,
     ⟨(some 27), none, .ld none (.t 26)⟩,
     ⟨(some 28), none, .conv .u8 (.t 27)⟩,
     ⟨(some 29), none, .fldA 1 (.t 1)⟩,
     ⟨(some 30), none, .ld none (.t 29)⟩,
     ⟨(some 31), none, .fldA 2 (.t 1)⟩,
     ⟨(some 32), none, .ld none (.t 31)⟩,
     ⟨(some 33), none, .bin .mul (.c (.p (.int .i64 8))) (.t 32)⟩,
     ⟨(some 34), none, .bin .add (.t 30) (.t 33)⟩,
     ⟨(some 35), none, .conv .u8 (.t 34)⟩,
     ⟨(some 36), none, .fldA 3 (.t 1)⟩,
     ⟨(some 37), none, .ld none (.t 36)⟩,
     ⟨(some 38), none, .conv .u8 (.t 37)⟩,
     ⟨(some 39), none, .bsl 1 [(.p (.int .u8 0))] 3 [(0, 1, (.t 28)), (1, 1, (.t 35)), (2, 1, (.t 38))]⟩,
     ⟨(some 2), none, .mov (.t 39)⟩])
   (.ret))
   (.seq (.reg [⟨(some 41), none, .fldA 0 (.t 1)⟩,
     ⟨(some 42), none, .ld none (.t 41)⟩,
     ⟨(some 43), none, .bin .eql (.t 42) (.c (.p (.int .i64 2)))⟩,
     ⟨(some 44), none, .mov (.t 43)⟩,
     ⟨(some 45), (some (44, false)), .fldA 0 (.t 1)⟩,
     ⟨(some 46), (some (44, false)), .ld none (.t 45)⟩,
     ⟨(some 47), (some (44, false)), .call n_spec_l1In [(.t 46), (.c (.p (.int .i64 10))), (.c (.p (.int .i64 12)))]⟩,
     ⟨(some 48), none, .pick (.t 44) (.c (.p (.bool true))) (.t 47)⟩,
     ⟨(some 40), none, .mov (.t 48)⟩])
   (.cond (.t 40)
    (.seq (.reg [⟨(some 49), none, .fldA 0 (.t 1)⟩,
      ⟨(some 50), none, .ld none (.t 49)⟩,
      ⟨(some 51), none, .conv .u8 (.t 50)⟩,
      ⟨(some 52), none, .fldA 1 (.t 1)⟩,
      ⟨(some 53), none, .ld none (.t 52)⟩,
      ⟨(some 54), none, .fldA 2 (.t 1)⟩,
      ⟨(some 55), none, .ld none (.t 54)⟩,
      ⟨(some 56), none, .bin .mul (.c (.p (.int .i64 8))) (.t 55)⟩,
      ⟨(some 57), none, .bin .add (.t 53) (.t 56)⟩,
      ⟨(some 58), none, .conv .u8 (.t 57)⟩,
      ⟨(some 59), none, .bsl 1 [(.p (.int .u8 0))] 2 [(0, 1, (.t 51)), (1, 1, (.t 58))]⟩,
      ⟨(some 2), none, .mov (.t 59)⟩])
    (.ret))
    (.seq (.reg [⟨(some 61), none, .fldA 0 (.t 1)⟩,
      ⟨(some 62), none, .ld none (.t 61)⟩,
      ⟨(some 63), none, .bin .eql (.t 62) (.c (.p (.int .i64 14)))⟩,
      ⟨(some 60), none, .mov (.t 63)⟩])
    (.cond (.t 60)
     (.seq (.reg [⟨(some 64), none, .fldA 0 (.t 1)⟩,
       ⟨(some 65), none, .ld none (.t 64)⟩,
       ⟨(some 66), none, .conv .u8 (.t 65)⟩,
       ⟨(some 67), none, .fldA 4 (.t 1)⟩,
       ⟨(some 68), none, .ld none (.t 67)⟩,
       ⟨(some 69), none, .conv .u8 (.t 68)⟩,
       ⟨(some 70), none, .bsl 1 [(.p (.int .u8 0))] 2 [(0, 1, (.t 66)), (1, 1, (.t 69))]⟩,
       ⟨(some 2), none, .mov (.t 70)⟩])
     (.ret))
     (.skip))))))))))
 (.seq (.reg [⟨(some 71), none, .fldA 0 (.t 1)⟩,
   ⟨(some 72), none, .ld none (.t 71)⟩,
   ⟨(some 73), none, .conv .u8 (.t 72)⟩,
   ⟨(some 74), none, .fldA 1 (.t 1)⟩,
   ⟨(some 75), none, .ld none (.t 74)⟩,
   ⟨(some 76), none, .conv .u8 (.t 75)⟩,
   ⟨(some 77), none, .bsl 1 [(.p (.int .u8 0))] 2 [(0, 1, (.t 73)), (1, 1, (.t 76))]⟩,
   ⟨(some 2), none, .mov (.t 77)⟩])
 (.ret)))⟩
theorem k_spec_l25Plain : compF Tryd.prog n_spec_l25Plain = some F_spec_l25Plain := by kernel_rfl
def F_spec_l5Truth : FK := ⟨4, [.t 2],
 .seq (.reg [⟨(some 2), none, .mov (.c (.p (.int .i64 0)))⟩])
 (.seq (.seq (.reg [⟨(some 3), none, .mov (.t 0)⟩])
 (.cond (.t 3)
  (.seq (.reg [⟨(some 2), none, .mov (.c (.p (.int .i64 1)))⟩])
  (.ret))
  (.skip)))
 (.seq (.reg [⟨(some 2), none, .mov (.c (.p (.int .i64 0)))⟩])
 (.ret)))⟩
theorem k_spec_l5Truth : compF Tryd.prog n_spec_l5Truth = some F_spec_l5Truth := by kernel_rfl
def F_spec_l25Size : FK := ⟨19, [.t 4],
 .seq (.reg [⟨(some 2), none, .box 5 (.t 0)⟩,
   ⟨(some 4), none, .mov (.c (.p (.int .i64 0)))⟩])
 (.seq (.seq (.reg [⟨(some 5), none, .ld (some 5) (.t 2)⟩,
   ⟨(some 6), none, .call n_spec_l24Jumps [(.t 5)]⟩,
   ⟨(some 7), none, .not (.t 6)⟩])
 (.cond (.t 7)
  (.seq (.reg [⟨(some 8), none, .ld (some 5) (.t 2)⟩,
    ⟨(some 9), none, .call n_spec_l25Plain [(.t 8)]⟩,
    ⟨(some 10), none, .len false (.t 9)⟩,
    ⟨(some 4), none, .mov (.t 10)⟩])
  (.ret))
  (.skip)))
 (.seq (.reg [⟨(some 11), none, .mov (.t 1)⟩,
   ⟨(some 14), none, .fldA 0 (.t 2)⟩,
   ⟨(some 15), none, .ld none (.t 14)⟩,
   ⟨(some 16), none, .bin .eql (.t 15) (.c (.p (.int .i64 21)))⟩,
   ⟨(some 12), none, .call n_spec_l5Truth [(.t 11)]⟩,
   ⟨none, none, .chk none 14 15⟩,
   ⟨(some 13), none, .bin .add (.c (.p (.int .i64 2))) (.t 12)⟩,
   ⟨(some 17), none, .call n_spec_l5Truth [(.t 16)]⟩,
   ⟨(some 18), none, .bin .add (.t 13) (.t 17)⟩,
   ⟨(some 4), none, .mov (.t 18)⟩])
 (.ret)))⟩
theorem k_spec_l25Size : compF Tryd.prog n_spec_l25Size = some F_spec_l25Size := by kernel_rfl
def F_spec_l25Places : FK := ⟨35, [.t 4, .t 5],
 .seq (.reg [⟨(some 2), none, .box 3 (.t 0)⟩,
   ⟨(some 4), none, .mov (.c .nils)⟩,
   ⟨(some 5), none, .mov (.c (.p (.int .i64 0)))⟩])
 (.seq (.reg [⟨(some 9), none, .bsl 1 [(.p (.int .i64 0))] 0 []⟩,
   ⟨(some 6), none, .mov (.t 9)⟩])
 (.seq (.reg [⟨(some 7), none, .mov (.c (.p (.int .i64 0)))⟩])
 (.seq (.seq (.reg [⟨(some 8), none, .mov (.c (.p (.int .i64 0)))⟩])
 (.blk 0 (.loop (.seq (.seq (.reg [⟨(some 10), none, .mov (.t 8)⟩,
   ⟨(some 11), none, .fldA 2 (.t 2)⟩,
   ⟨(some 12), none, .ld none (.t 11)⟩,
   ⟨(some 13), none, .len false (.t 12)⟩,
   ⟨(some 14), none, .bin .lss (.t 10) (.t 13)⟩])
 (.cond (.t 14)
  (.skip)
  (.exit 0)))
 (.seq (.blk 1 (.seq (.reg [⟨(some 17), none, .mov (.t 6)⟩,
   ⟨(some 18), none, .mov (.t 7)⟩,
   ⟨(some 19), none, .bsl 1 [(.p (.int .i64 0))] 1 [(0, 1, (.t 18))]⟩,
   ⟨(some 20), none, .app 1 8 (.t 17) (.t 19)⟩,
   ⟨(some 6), none, .mov (.t 20)⟩])
 (.reg [⟨(some 21), none, .mov (.t 7)⟩,
   ⟨(some 22), none, .fldA 2 (.t 2)⟩,
   ⟨(some 24), none, .mov (.t 8)⟩,
   ⟨(some 27), none, .mov (.t 1)⟩,
   ⟨(some 28), none, .mov (.t 8)⟩,
   ⟨(some 29), none, .idxS 1 (.t 27) (.t 28)⟩,
   ⟨(some 23), none, .ld none (.t 22)⟩,
   ⟨(some 25), none, .idxS 5 (.t 23) (.t 24)⟩,
   ⟨(some 26), none, .ld (some 5) (.t 25)⟩,
   ⟨(some 30), none, .ld none (.t 29)⟩,
   ⟨(some 31), none, .call n_spec_l25Size [(.t 26), (.t 30)]⟩,
   ⟨(some 32), none, .bin .add (.t 21) (.t 31)⟩,
   ⟨(some 7), none, .mov (.t 32)⟩])))
 (.reg [⟨(some 15), none, .mov (.t 8)⟩,
   ⟨(some 16), none, .bin .add (.t 15) (.c (.p (.int .i64 1)))⟩,
   ⟨(some 8), none, .mov (.t 16)⟩]))))))
 (.seq (.reg [⟨(some 33), none, .mov (.t 6)⟩,
   ⟨(some 34), none, .mov (.t 7)⟩,
   ⟨(some 4), none, .mov (.t 33)⟩,
   ⟨(some 5), none, .mov (.t 34)⟩])
 (.ret)))))⟩
theorem k_spec_l25Places : compF Tryd.prog n_spec_l25Places = some F_spec_l25Places := by kernel_rfl
def F_spec_l25Long : FK := ⟨73, [.t 2],
 .seq (.reg [⟨(some 1), none, .box 3 (.t 0)⟩,
   ⟨(some 2), none, .mov (.c .nils)⟩])
 (.seq (.reg [⟨(some 10), none, .fldA 2 (.t 1)⟩,
   ⟨(some 11), none, .ld none (.t 10)⟩,
   ⟨(some 12), none, .len false (.t 11)⟩,
   ⟨(some 13), none, .mks 1 1 [(.p (.bool false))] (.t 12) (.t 12)⟩,
   ⟨(some 3), none, .mov (.t 13)⟩])
 (.seq (.seq (.reg [⟨(some 4), none, .mov (.c (.p (.bool true)))⟩])
 (.blk 0 (.loop (.seq (.seq (.reg [⟨(some 14), none, .mov (.t 4)⟩])
 (.cond (.t 14)
  (.skip)
  (.exit 0)))
 (.blk 1 (.seq (.reg [⟨(some 4), none, .mov (.c (.p (.bool false)))⟩])
 (.seq (.reg [⟨(some 16), none, .ld (some 3) (.t 1)⟩,
   ⟨(some 17), none, .mov (.t 3)⟩,
   ⟨(some 18), none, .call n_spec_l25Places [(.t 16), (.t 17)]⟩,
   ⟨(some 15), none, .mov (.t 18)⟩,
   ⟨(some 19), none, .ext 0 (.t 15)⟩,
   ⟨(some 20), none, .ext 1 (.t 15)⟩,
   ⟨(some 5), none, .mov (.t 19)⟩,
   ⟨(some 6), none, .mov (.t 20)⟩])
 (.seq (.reg [⟨(some 21), none, .bsl 1 [(.p (.bool false))] 0 []⟩,
   ⟨(some 22), none, .mov (.t 3)⟩,
   ⟨(some 23), none, .app 1 1 (.t 21) (.t 22)⟩,
   ⟨(some 7), none, .mov (.t 23)⟩])
 (.seq (.seq (.reg [⟨(some 8), none, .mov (.c (.p (.int .i64 0)))⟩])
 (.blk 2 (.loop (.seq (.seq (.reg [⟨(some 24), none, .mov (.t 8)⟩,
   ⟨(some 25), none, .fldA 2 (.t 1)⟩,
   ⟨(some 26), none, .ld none (.t 25)⟩,
   ⟨(some 27), none, .len false (.t 26)⟩,
   ⟨(some 28), none, .bin .lss (.t 24) (.t 27)⟩])
 (.cond (.t 28)
  (.skip)
  (.exit 2)))
 (.seq (.blk 3 (.seq (.seq (.reg [⟨(some 31), none, .fldA 2 (.t 1)⟩,
   ⟨(some 32), none, .ld none (.t 31)⟩,
   ⟨(some 33), none, .mov (.t 8)⟩,
   ⟨(some 34), none, .idxS 5 (.t 32) (.t 33)⟩,
   ⟨(some 35), none, .ld (some 5) (.t 34)⟩,
   ⟨(some 36), none, .call n_spec_l24Jumps [(.t 35)]⟩,
   ⟨(some 37), none, .not (.t 36)⟩,
   ⟨(some 38), none, .mov (.t 37)⟩,
   ⟨(some 39), (some (38, false)), .mov (.t 3)⟩,
   ⟨(some 40), (some (38, false)), .mov (.t 8)⟩,
   ⟨(some 41), (some (38, false)), .idxS 1 (.t 39) (.t 40)⟩,
   ⟨(some 42), (some (38, false)), .ld none (.t 41)⟩,
   ⟨(some 43), none, .pick (.t 38) (.c (.p (.bool true))) (.t 42)⟩])
 (.cond (.t 43)
  (.exit 3)
  (.skip)))
 (.seq (.reg [⟨(some 44), none, .mov (.t 5)⟩,
   ⟨(some 45), none, .fldA 2 (.t 1)⟩,
   ⟨(some 47), none, .mov (.t 8)⟩,
   ⟨(some 53), none, .mov (.t 5)⟩,
   ⟨(some 54), none, .mov (.t 8)⟩,
   ⟨(some 55), none, .idxS 1 (.t 53) (.t 54)⟩,
   ⟨(some 58), none, .fldA 2 (.t 1)⟩,
   ⟨(some 60), none, .mov (.t 8)⟩,
   ⟨(some 46), none, .ld none (.t 45)⟩,
   ⟨(some 48), none, .idxS 5 (.t 46) (.t 47)⟩,
   ⟨(some 49), none, .fldA 4 (.t 48)⟩,
   ⟨(some 50), none, .ld none (.t 49)⟩,
   ⟨(some 51), none, .idxS 1 (.t 44) (.t 50)⟩,
   ⟨(some 52), none, .ld none (.t 51)⟩,
   ⟨(some 56), none, .ld none (.t 55)⟩,
   ⟨(some 57), none, .bin .sub (.t 52) (.t 56)⟩,
   ⟨(some 59), none, .ld none (.t 58)⟩,
   ⟨(some 61), none, .idxS 5 (.t 59) (.t 60)⟩,
   ⟨(some 62), none, .ld (some 5) (.t 61)⟩,
   ⟨(some 63), none, .call n_spec_l25Size [(.t 62), (.c (.p (.bool false)))]⟩,
   ⟨none, none, .chk none 45 46⟩,
   ⟨none, none, .chk none 49 50⟩,
   ⟨none, none, .chk none 51 52⟩,
   ⟨none, none, .chk none 55 56⟩,
   ⟨(some 64), none, .bin .sub (.t 57) (.t 63)⟩,
   ⟨(some 9), none, .mov (.t 64)⟩])
 (.seq (.reg [⟨(some 65), none, .mov (.t 9)⟩,
   ⟨(some 66), none, .call n_spec_l1In [(.t 65), (.c (.p (.int .i64 (-128)))), (.c (.p (.int .i64 127)))]⟩,
   ⟨(some 67), none, .not (.t 66)⟩])
 (.cond (.t 67)
  (.seq (.reg [⟨(some 68), none, .mov (.t 7)⟩,
    ⟨(some 69), none, .mov (.t 8)⟩,
    ⟨(some 70), none, .idxS 1 (.t 68) (.t 69)⟩,
    ⟨none, none, .st 1 (.t 70) (.c (.p (.bool true)))⟩])
  (.reg [⟨(some 4), none, .mov (.c (.p (.bool true)))⟩]))
  (.skip))))))
 (.reg [⟨(some 29), none, .mov (.t 8)⟩,
   ⟨(some 30), none, .bin .add (.t 29) (.c (.p (.int .i64 1)))⟩,
   ⟨(some 8), none, .mov (.t 30)⟩]))))))
 (.reg [⟨(some 71), none, .mov (.t 7)⟩,
   ⟨(some 3), none, .mov (.t 71)⟩]))))))))))
 (.seq (.reg [⟨(some 72), none, .mov (.t 3)⟩,
   ⟨(some 2), none, .mov (.t 72)⟩])
 (.ret))))⟩
theorem k_spec_l25Long : compF Tryd.prog n_spec_l25Long = some F_spec_l25Long := by kernel_rfl
def F_spec_l25Can : FK := ⟨18, [.t 2],
 .seq (.reg [⟨(some 1), none, .box 3 (.t 0)⟩,
   ⟨(some 2), none, .mov (.c (.p (.bool false)))⟩])
 (.seq (.seq (.reg [⟨(some 5), none, .ld (some 3) (.t 1)⟩,
   ⟨(some 6), none, .call n_spec_l25Alone [(.t 5)]⟩,
   ⟨(some 7), none, .call n_spec_MachValid [(.t 6)]⟩,
   ⟨(some 8), none, .not (.t 7)⟩])
 (.cond (.t 8)
  (.seq (.reg [⟨(some 2), none, .mov (.c (.p (.bool false)))⟩])
  (.ret))
  (.skip)))
 (.seq (.reg [⟨(some 10), none, .ld (some 3) (.t 1)⟩,
   ⟨(some 11), none, .ld (some 3) (.t 1)⟩,
   ⟨(some 12), none, .call n_spec_l25Long [(.t 11)]⟩,
   ⟨none, none, .chk (some 3) 1 10⟩,
   ⟨(some 13), none, .call n_spec_l25Places [(.t 10), (.t 12)]⟩,
   ⟨(some 9), none, .mov (.t 13)⟩,
   ⟨(some 14), none, .ext 0 (.t 9)⟩,
   ⟨(some 15), none, .ext 1 (.t 9)⟩,
   ⟨(some 3), none, .mov (.t 14)⟩,
   ⟨(some 4), none, .mov (.t 15)⟩])
 (.seq (.reg [⟨(some 16), none, .mov (.t 4)⟩,
   ⟨(some 17), none, .bin .leq (.t 16) (.c (.p (.int .i64 8000)))⟩,
   ⟨(some 2), none, .mov (.t 17)⟩])
 (.ret))))⟩
theorem k_spec_l25Can : compF Tryd.prog n_spec_l25Can = some F_spec_l25Can := by kernel_rfl
def F_spec_EncodeFn : FK := ⟨98, [.t 2, .t 3],
 .seq (.reg [⟨(some 1), none, .box 3 (.t 0)⟩,
   ⟨(some 2), none, .mov (.c .nils)⟩,
   ⟨(some 3), none, .mov (.c (.p (.bool false)))⟩])
 (.seq (.reg [⟨(some 11), none, .bsl 1 [(.p (.int .u8 0))] 0 []⟩,
   ⟨(some 4), none, .mov (.t 11)⟩])
 (.seq (.seq (.reg [⟨(some 12), none, .ld (some 3) (.t 1)⟩,
   ⟨(some 13), none, .call n_spec_l25Can [(.t 12)]⟩,
   ⟨(some 14), none, .not (.t 13)⟩])
 (.cond (.t 14)
  (.seq (.reg [⟨(some 15), none, .mov (.t 4)⟩,
    ⟨(some 2), none, .mov (.t 15)⟩,
    ⟨(some 3), none, .mov (.c (.p (.bool false)))⟩])
  (.ret))
  (.skip)))
 (.seq (.reg [⟨(some 16), none, .ld (some 3) (.t 1)⟩,
   ⟨(some 17), none, .call n_spec_l25Long [(.t 16)]⟩,
   ⟨(some 5), none, .mov (.t 17)⟩])
 (.seq (.reg [⟨(some 19), none, .ld (some 3) (.t 1)⟩,
   ⟨(some 20), none, .mov (.t 5)⟩,
   ⟨(some 21), none, .call n_spec_l25Places [(.t 19), (.t 20)]⟩,
   ⟨(some 18), none, .mov (.t 21)⟩,
   ⟨(some 22), none, .ext 0 (.t 18)⟩,
   ⟨(some 23), none, .ext 1 (.t 18)⟩,
   ⟨(some 6), none, .mov (.t 22)⟩,
   ⟨(some 7), none, .mov (.t 23)⟩])
 (.seq (.seq (.reg [⟨(some 8), none, .mov (.c (.p (.int .i64 0)))⟩])
 (.blk 0 (.loop (.seq (.seq (.reg [⟨(some 24), none, .mov (.t 8)⟩,
   ⟨(some 25), none, .fldA 2 (.t 1)⟩,
   ⟨(some 26), none, .ld none (.t 25)⟩,
   ⟨(some 27), none, .len false (.t 26)⟩,
   ⟨(some 28), none, .bin .lss (.t 24) (.t 27)⟩])
 (.cond (.t 28)
  (.skip)
  (.exit 0)))
 (.seq (.blk 1 (.seq (.reg [⟨(some 31), none, .fldA 2 (.t 1)⟩,
   ⟨(some 32), none, .ld none (.t 31)⟩,
   ⟨(some 33), none, .mov (.t 8)⟩,
   ⟨(some 34), none, .idxS 5 (.t 32) (.t 33)⟩,
   ⟨(some 35), none, .ld (some 5) (.t 34)⟩,
   ⟨(some 9), none, .alloc [(.p (.int .i64 0)), (.p (.int .i64 0)), (.p (.int .i64 0)), (.p (.int .i64 0)), (.p (.int .i64 0))]⟩,
   ⟨none, none, .st 5 (.t 9) (.t 35)⟩])
 (.seq (.seq (.reg [⟨(some 36), none, .ld (some 5) (.t 9)⟩,
   ⟨(some 37), none, .call n_spec_l24Jumps [(.t 36)]⟩,
   ⟨(some 38), none, .not (.t 37)⟩])
 (.cond (.t 38)
  (.seq (.reg [⟨(some 39), none, .mov (.t 4)⟩,
    ⟨(some 40), none, .ld (some 5) (.t 9)⟩,
    ⟨(some 41), none, .call n_spec_l25Plain [(.t 40)]⟩,
    ⟨(some 42), none, .app 1 1 (.t 39) (.t 41)⟩,
    ⟨(some 4), none, .mov (.t 42)⟩])
  (.exit 1))
  (.skip)))
 (.seq (.reg [⟨(some 43), none, .mov (.t 6)⟩,
   ⟨(some 44), none, .fldA 4 (.t 9)⟩,
   ⟨(some 45), none, .ld none (.t 44)⟩,
   ⟨(some 46), none, .idxS 1 (.t 43) (.t 45)⟩,
   ⟨(some 47), none, .ld none (.t 46)⟩,
   ⟨(some 10), none, .mov (.t 47)⟩])
 (.seq (.reg [⟨(some 48), none, .mov (.t 4)⟩,
   ⟨(some 49), none, .fldA 0 (.t 9)⟩,
   ⟨(some 51), none, .mov (.t 5)⟩,
   ⟨(some 52), none, .mov (.t 8)⟩,
   ⟨(some 53), none, .idxS 1 (.t 51) (.t 52)⟩,
   ⟨(some 50), none, .ld none (.t 49)⟩,
   ⟨(some 54), none, .ld none (.t 53)⟩,
   ⟨(some 55), none, .call n_spec_l5Truth [(.t 54)]⟩,
   ⟨none, none, .chk none 49 50⟩,
   ⟨(some 56), none, .bin .mul (.c (.p (.int .i64 128))) (.t 55)⟩,
   ⟨(some 57), none, .bin .add (.t 50) (.t 56)⟩,
   ⟨(some 58), none, .conv .u8 (.t 57)⟩,
   ⟨(some 59), none, .bsl 1 [(.p (.int .u8 0))] 1 [(0, 1, (.t 58))]⟩,
   ⟨(some 60), none, .app 1 1 (.t 48) (.t 59)⟩,
   ⟨(some 4), none, .mov (.t 60)⟩])
 (.seq (.seq (.reg [⟨(some 61), none, .fldA 0 (.t 9)⟩,
   ⟨(some 62), none, .ld none (.t 61)⟩,
   ⟨(some 63), none, .bin .eql (.t 62) (.c (.p (.int .i64 21)))⟩])
 (.cond (.t 63)
  (.reg [⟨(some 64), none, .mov (.t 4)⟩,
    ⟨(some 65), none, .fldA 1 (.t 9)⟩,
    ⟨(some 66), none, .ld none (.t 65)⟩,
    ⟨(some 67), none, .conv .u8 (.t 66)⟩,
    ⟨(some 68), none, .bsl 1 [(.p (.int .u8 0))] 1 [(0, 1, (.t 67))]⟩,
    ⟨(some 69), none, .app 1 1 (.t 64) (.t 68)⟩,
    ⟨(some 4), none, .mov (.t 69)⟩])
  (.skip)))
 (.seq (.reg [⟨(some 70), none, .mov (.t 5)⟩,
   ⟨(some 71), none, .mov (.t 8)⟩,
   ⟨(some 72), none, .idxS 1 (.t 70) (.t 71)⟩,
   ⟨(some 73), none, .ld none (.t 72)⟩])
 (.cond (.t 73)
  (.reg [⟨(some 74), none, .mov (.t 4)⟩,
    ⟨(some 75), none, .mov (.t 10)⟩,
    ⟨(some 76), none, .bin .rem (.t 75) (.c (.p (.int .i64 256)))⟩,
    ⟨(some 77), none, .conv .u8 (.t 76)⟩,
    ⟨(some 78), none, .mov (.t 10)⟩,
    ⟨(some 79), none, .bin .quo (.t 78) (.c (.p (.int .i64 256)))⟩,
    ⟨(some 80), none, .conv .u8 (.t 79)⟩,
    ⟨(some 81), none, .bsl 1 [(.p (.int .u8 0))] 2 [(0, 1, (.t 77)), (1, 1, (.t 80))]⟩,
    ⟨(some 82), none, .app 1 1 (.t 74) (.t 81)⟩,
    ⟨(some 4), none, .mov (.t 82)⟩])
  (.reg [⟨(some 83), none, .mov (.t 4)⟩,
    ⟨(some 84), none, .mov (.t 10)⟩,
    ⟨(some 85), none, .mov (.t 6)⟩,
    ⟨(some 86), none, .mov (.t 8)⟩,
    ⟨(some 87), none, .idxS 1 (.t 85) (.t 86)⟩,
    ⟨(some 88), none, .ld none (.t 87)⟩,
    ⟨(some 89), none, .bin .sub (.t 84) (.t 88)⟩,
    ⟨(some 90), none, .ld (some 5) (.t 9)⟩,
    ⟨(some 91), none, .call n_spec_l25Size [(.t 90), (.c (.p (.bool false)))]⟩,
    ⟨none, none, .chk none 87 88⟩,
    ⟨(some 92), none, .bin .sub (.t 89) (.t 91)⟩,
    ⟨(some 93), none, .bin .add (.t 92) (.c (.p (.int .i64 256)))⟩,
    ⟨(some 94), none, .conv .u8 (.t 93)⟩,
    ⟨(some 95), none, .bsl 1 [(.p (.int .u8 0))] 1 [(0, 1, (.t 94))]⟩,
    ⟨(some 96), none, .app 1 1 (.t 83) (.t 95)⟩,
    ⟨(some 4), none, .mov (.t 96)⟩])))))))))
 (.reg [⟨(some 29), none, .mov (.t 8)⟩,
   ⟨(some 30), none, .bin .add (.t 29) (.c (.p (.int .i64 1)))⟩,
   ⟨(some 8), none, .mov (.t 30)⟩]))))))
 (.seq (.reg [⟨(some 97), none, .mov (.t 4)⟩,
   ⟨(some 2), none, .mov (.t 97)⟩,
   ⟨(some 3), none, .mov (.c (.p (.bool true)))⟩])
 (.ret)))))))⟩
theorem k_spec_EncodeFn : compF Tryd.prog n_spec_EncodeFn = some F_spec_EncodeFn := by kernel_rfl
def F_impl_within : FK := ⟨15, [.t 6],
 .seq (.reg [⟨(some 6), none, .mov (.c (.p (.bool false)))⟩])
 (.seq (.reg [⟨(some 7), none, .mov (.t 1)⟩,
   ⟨(some 8), none, .mov (.t 0)⟩,
   ⟨(some 9), none, .bin .leq (.t 7) (.t 8)⟩,
   ⟨(some 10), none, .mov (.t 9)⟩,
   ⟨(some 11), (some (10, true)), .mov (.t 0)⟩,
   ⟨(some 12), (some (10, true)), .mov (.t 2)⟩,
   ⟨(some 13), (some (10, true)), .bin .leq (.t 11) (.t 12)⟩,
   ⟨(some 14), none, .pick (.t 10) (.t 13) (.c (.p (.bool false)))⟩,
   ⟨(some 6), none, .mov (.t 14)⟩])
 (.ret))⟩
theorem k_impl_within : compF Tryd.prog n_impl_within = some F_impl_within := by kernel_rfl
def F_slices_IndexFunc_impl_Mins : FK := ⟨19, [.t 4],
 .seq (.reg [⟨(some 4), none, .mov (.c (.p (.int .i64 0)))⟩])
 (.seq (.seq (.reg [⟨(some 6), none, .mov (.t 0)⟩,
   ⟨(some 7), none, .len false (.t 6)⟩,
   ⟨(some 8), none, .mov (.c (.p (.int .i64 0)))⟩])
 (.blk 0 (.loop (.seq (.reg [⟨(some 9), none, .bin .lss (.t 8) (.t 7)⟩])
 (.seq (.cond (.t 9)
  (.skip)
  (.exit 0))
 (.seq (.blk 1 (.seq (.reg [⟨(some 10), none, .mov (.t 8)⟩,
   ⟨(some 5), none, .mov (.t 10)⟩])
 (.seq (.reg [⟨(some 11), none, .mov (.t 1)⟩,
   ⟨(some 12), none, .mov (.t 0)⟩,
   ⟨(some 13), none, .mov (.t 5)⟩,
   ⟨(some 14), none, .idxS 5 (.t 12) (.t 13)⟩,
   ⟨(some 15), none, .ld (some 5) (.t 14)⟩,
   ⟨(some 16), none, .callv (.t 11) [(.t 15)]⟩])
 (.cond (.t 16)
  (.seq (.reg [⟨(some 17), none, .mov (.t 5)⟩,
    ⟨(some 4), none, .mov (.t 17)⟩])
  (.ret))
  (.skip)))))
 (.reg [⟨(some 18), none, .bin .add (.t 8) (.c (.p (.int .i64 1)))⟩,
   ⟨(some 8), none, .mov (.t 18)⟩])))))))
 (.seq (.reg [⟨(some 4), none, .mov (.c (.p (.int .i64 (-1))))⟩])
 (.ret)))⟩
theorem k_slices_IndexFunc_impl_Mins : compF Tryd.prog n_slices_IndexFunc_impl_Mins = some F_slices_IndexFunc_impl_Mins := by kernel_rfl
def F_slices_ContainsFunc_impl_Mins : FK := ⟨9, [.t 4],
 .seq (.reg [⟨(some 4), none, .mov (.c (.p (.bool false)))⟩])
 (.seq (.reg [⟨(some 5), none, .mov (.t 0)⟩,
   ⟨(some 6), none, .mov (.t 1)⟩,
   ⟨(some 7), none, .call n_slices_IndexFunc_impl_Mins [(.t 5), (.t 6)]⟩,
   ⟨(some 8), none, .bin .geq (.t 7) (.c (.p (.int .i64 0)))⟩,
   ⟨(some 4), none, .mov (.t 8)⟩])
 (.ret))⟩
theorem k_slices_ContainsFunc_impl_Mins : compF Tryd.prog n_slices_ContainsFunc_impl_Mins = some F_slices_ContainsFunc_impl_Mins := by kernel_rfl
def F_impl_formOf : FK := ⟨42, [.c 2 (some 2), .t 3],
 .seq (.reg [⟨(some 1), none, .box 5 (.t 0)⟩,
   ⟨(some 2), none, .alloc [(.p (.str [])), (.p (.int .i64 0))]⟩,
   ⟨(some 3), none, .mov (.c (.p (.bool false)))⟩])
 (.seq (.seq (.reg [⟨(some 7), none, .fldA 0 (.t 1)⟩,
   ⟨(some 8), none, .ld none (.t 7)⟩,
   ⟨(some 9), none, .call n_impl_within [(.t 8), (.c (.p (.int .i64 1))), (.c (.p (.int .i64 22)))]⟩,
   ⟨(some 10), none, .not (.t 9)⟩])
 (.cond (.t 10)
  (.seq (.reg [⟨(some 11), none, .bld [(.p (.str [])), (.p (.int .i64 0))] []⟩,
    ⟨none, none, .st 2 (.t 2) (.t 11)⟩,
    ⟨(some 3), none, .mov (.c (.p (.bool false)))⟩])
  (.ret))
  (.skip)))
 (.seq (.reg [⟨(some 12), none, .fldA 0 (.t 1)⟩,
   ⟨(some 13), none, .ld none (.t 12)⟩,
   ⟨(some 14), none, .idxA 23 2 (.c (.gp 2 0)) (.t 13)⟩,
   ⟨(some 15), none, .ld (some 2) (.t 14)⟩,
   ⟨(some 4), none, .alloc [(.p (.str [])), (.p (.int .i64 0))]⟩,
   ⟨none, none, .st 2 (.t 4) (.t 15)⟩])
 (.seq (.seq (.reg [⟨(some 16), none, .fldA 1 (.t 1)⟩,
   ⟨(some 17), none, .ld none (.t 16)⟩,
   ⟨(some 18), none, .fldA 2 (.t 1)⟩,
   ⟨(some 19), none, .ld none (.t 18)⟩,
   ⟨(some 20), none, .fldA 3 (.t 1)⟩,
   ⟨(some 21), none, .ld none (.t 20)⟩,
   ⟨(some 22), none, .fldA 4 (.t 1)⟩,
   ⟨(some 23), none, .ld none (.t 22)⟩,
   ⟨(some 24), none, .bld [(.p (.int .i64 0)), (.p (.int .i64 0)), (.p (.int .i64 0)), (.p (.int .i64 0))] [(0, 1, (.t 17)), (1, 1, (.t 19)), (2, 1, (.t 21)), (3, 1, (.t 23))]⟩,
   ⟨(some 25), none, .mov (.c (.p (.int .i64 0)))⟩])
 (.blk 0 (.loop (.seq (.reg [⟨(some 26), none, .bin .lss (.t 25) (.c (.p (.int .i64 4)))⟩])
 (.seq (.cond (.t 26)
  (.skip)
  (.exit 0))
 (.seq (.blk 1 (.seq (.reg [⟨(some 27), none, .mov (.t 25)⟩,
   ⟨(some 28), none, .idxV 4 1 none (.t 24) (.t 25)⟩,
   ⟨(some 5), none, .mov (.t 27)⟩,
   ⟨(some 6), none, .mov (.t 28)⟩])
 (.seq (.reg [⟨(some 29), none, .fldA 1 (.t 4)⟩,
   ⟨(some 31), none, .mov (.t 5)⟩,
   ⟨(some 32), none, .bin .shl (.c (.p (.int .i64 1))) (.t 31)⟩,
   ⟨(some 30), none, .ld none (.t 29)⟩,
   ⟨(some 33), none, .bin .and (.t 30) (.t 32)⟩,
   ⟨(some 34), none, .bin .eql (.t 33) (.c (.p (.int .i64 0)))⟩,
   ⟨(some 35), none, .mov (.t 34)⟩,
   ⟨(some 36), (some (35, true)), .mov (.t 6)⟩,
   ⟨(some 37), (some (35, true)), .bin .neq (.t 36) (.c (.p (.int .i64 0)))⟩,
   ⟨(some 38), none, .pick (.t 35) (.t 37) (.c (.p (.bool false)))⟩])
 (.cond (.t 38)
  (.seq (.reg [⟨(some 39), none, .bld [(.p (.str [])), (.p (.int .i64 0))] []⟩,
    ⟨none, none, .st 2 (.t 2) (.t 39)⟩,
    ⟨(some 3), none, .mov (.c (.p (.bool false)))⟩])
  (.ret))
  (.skip)))))
 (.reg [⟨(some 40), none, .bin .add (.t 25) (.c (.p (.int .i64 1)))⟩,
   ⟨(some 25), none, .mov (.t 40)⟩])))))))
 (.seq (.reg [⟨(some 41), none, .ld (some 2) (.t 4)⟩,
   ⟨none, none, .st 2 (.t 2) (.t 41)⟩,
   ⟨(some 3), none, .mov (.c (.p (.bool true)))⟩])
 (.ret)))))⟩
theorem k_impl_formOf : compF Tryd.prog n_impl_formOf = some F_impl_formOf := by kernel_rfl
def F_impl_minsOk : FK := ⟨83, [.t 6],
 .seq (.reg [⟨(some 3), none, .box 1 (.t 0)⟩,
   ⟨(some 5), none, .box 5 (.t 2)⟩,
   ⟨(some 6), none, .mov (.c (.p (.bool false)))⟩])
 (.seq (.reg [⟨(some 11), none, .ld (some 5) (.t 5)⟩,
   ⟨(some 12), none, .call n_impl_formOf [(.t 11)]⟩,
   ⟨(some 10), none, .mov (.t 12)⟩,
   ⟨(some 13), none, .ext 0 (.t 10)⟩,
   ⟨(some 14), none, .ext 1 (.t 10)⟩,
   ⟨(some 7), none, .alloc [(.p (.str [])), (.p (.int .i64 0))]⟩,
   ⟨none, none, .st 2 (.t 7) (.t 13)⟩,
   ⟨(some 8), none, .mov (.t 14)⟩])
 (.seq (.seq (.reg [⟨(some 15), none, .mov (.t 8)⟩,
   ⟨(some 16), none, .not (.t 15)⟩,
   ⟨(some 17), none, .mov (.t 16)⟩,
   ⟨(some 18), (some (17, false)), .fldA 1 (.t 5)⟩,
   ⟨(some 19), (some (17, false)), .ld none (.t 18)⟩,
   ⟨(some 20), (some (17, false)), .call n_impl_within [(.t 19), (.c (.p (.int .i64 0))), (.c (.p (.int .i64 7)))]⟩,
   ⟨(some 21), (some (17, false)), .not (.t 20)⟩,
   ⟨(some 22), none, .pick (.t 17) (.c (.p (.bool true))) (.t 21)⟩,
   ⟨(some 23), none, .mov (.t 22)⟩,
   ⟨(some 24), (some (23, false)), .fldA 2 (.t 5)⟩,
   ⟨(some 25), (some (23, false)), .ld none (.t 24)⟩,
   ⟨(some 26), (some (23, false)), .call n_impl_within [(.t 25), (.c (.p (.int .i64 0))), (.c (.p (.int .i64 7)))]⟩,
   ⟨(some 27), (some (23, false)), .not (.t 26)⟩,
   ⟨(some 28), none, .pick (.t 23) (.c (.p (.bool true))) (.t 27)⟩,
   ⟨(some 29), none, .mov (.t 28)⟩,
   ⟨(some 30), (some (29, false)), .fldA 3 (.t 5)⟩,
   ⟨(some 31), (some (29, false)), .ld none (.t 30)⟩,
   ⟨(some 32), (some (29, false)), .call n_impl_within [(.t 31), (.c (.p (.int .i64 0))), (.c (.p (.int .i64 7)))]⟩,
   ⟨(some 33), (some (29, false)), .not (.t 32)⟩,
   ⟨(some 34), none, .pick (.t 29) (.c (.p (.bool true))) (.t 33)⟩])
 (.cond (.t 34)
  (.seq (.reg [⟨(some 6), none, .mov (.c (.p (.bool false)))⟩])
  (.ret))
  (.skip)))
 (.seq (.reg [⟨(some 9), none, .mov (.c (.p (.int .i64 255)))⟩])
 (.seq (.seq (.reg [⟨(some 35), none, .fldA 0 (.t 5)⟩,
   ⟨(some 36), none, .ld none (.t 35)⟩])
 (.blk 0 (.seq (.reg [⟨(some 38), none, .bin .eql (.t 36) (.c (.p (.int .i64 14)))⟩,
   ⟨(some 37), none, .mov (.t 38)⟩])
 (.cond (.t 37)
  (.reg [⟨(some 39), none, .mov (.t 1)⟩,
    ⟨(some 40), none, .bin .sub (.t 39) (.c (.p (.int .i64 1)))⟩,
    ⟨(some 9), none, .mov (.t 40)⟩])
  (.seq (.seq (.reg [⟨(some 42), none, .bin .eql (.t 36) (.c (.p (.int .i64 15)))⟩,
    ⟨(some 41), none, .mov (.t 42)⟩])
  (.cond (.t 41)
   (.skip)
   (.reg [⟨(some 43), none, .bin .eql (.t 36) (.c (.p (.int .i64 16)))⟩,
     ⟨(some 41), none, .mov (.t 43)⟩])))
  (.cond (.t 41)
   (.reg [⟨(some 44), none, .fldA 0 (.t 3)⟩,
     ⟨(some 45), none, .ld none (.t 44)⟩,
     ⟨(some 46), none, .mov (.t 1)⟩,
     ⟨(some 47), none, .idxS 3 (.t 45) (.t 46)⟩,
     ⟨(some 48), none, .fldA 1 (.t 47)⟩,
     ⟨(some 49), none, .ld none (.t 48)⟩,
     ⟨(some 50), none, .bin .sub (.t 49) (.c (.p (.int .i64 1)))⟩,
     ⟨(some 9), none, .mov (.t 50)⟩])
   (.seq (.reg [⟨(some 52), none, .bin .eql (.t 36) (.c (.p (.int .i64 17)))⟩,
     ⟨(some 51), none, .mov (.t 52)⟩])
   (.cond (.t 51)
    (.reg [⟨(some 9), none, .mov (.c (.p (.int .i64 2)))⟩])
    (.seq (.reg [⟨(some 54), none, .bin .eql (.t 36) (.c (.p (.int .i64 18)))⟩,
      ⟨(some 53), none, .mov (.t 54)⟩])
    (.cond (.t 53)
     (.reg [⟨(some 55), none, .fldA 0 (.t 3)⟩,
       ⟨(some 56), none, .ld none (.t 55)⟩,
       ⟨(some 57), none, .mov (.t 1)⟩,
       ⟨(some 58), none, .idxS 3 (.t 56) (.t 57)⟩,
       ⟨(some 59), none, .fldA 0 (.t 58)⟩,
       ⟨(some 60), none, .ld none (.t 59)⟩,
       ⟨(some 61), none, .bin .sub (.t 60) (.c (.p (.int .i64 1)))⟩,
       ⟨(some 9), none, .mov (.t 61)⟩])
     (.seq (.seq (.reg [⟨(some 63), none, .bin .eql (.t 36) (.c (.p (.int .i64 20)))⟩,
       ⟨(some 62), none, .mov (.t 63)⟩])
     (.cond (.t 62)
      (.skip)
      (.reg [⟨(some 64), none, .bin .eql (.t 36) (.c (.p (.int .i64 21)))⟩,
        ⟨(some 62), none, .mov (.t 64)⟩])))
     (.cond (.t 62)
      (.reg [⟨(some 65), none, .fldA 0 (.t 3)⟩,
        ⟨(some 66), none, .ld none (.t 65)⟩,
        ⟨(some 67), none, .mov (.t 1)⟩,
        ⟨(some 68), none, .idxS 3 (.t 66) (.t 67)⟩,
        ⟨(some 69), none, .fldA 2 (.t 68)⟩,
        ⟨(some 70), none, .ld none (.t 69)⟩,
        ⟨(some 71), none, .len false (.t 70)⟩,
        ⟨(some 72), none, .bin .sub (.t 71) (.c (.p (.int .i64 1)))⟩,
        ⟨(some 9), none, .mov (.t 72)⟩])
      (.skip)))))))))))))
 (.seq (.reg [⟨(some 73), none, .fldA 1 (.t 7)⟩,
   ⟨(some 74), none, .ld none (.t 73)⟩,
   ⟨(some 75), none, .bin .and (.t 74) (.c (.p (.int .i64 8)))⟩,
   ⟨(some 76), none, .bin .eql (.t 75) (.c (.p (.int .i64 0)))⟩,
   ⟨(some 77), none, .mov (.t 76)⟩,
   ⟨(some 78), (some (77, false)), .fldA 4 (.t 5)⟩,
   ⟨(some 79), (some (77, false)), .ld none (.t 78)⟩,
   ⟨(some 80), (some (77, false)), .mov (.t 9)⟩,
   ⟨(some 81), (some (77, false)), .call n_impl_within [(.t 79), (.c (.p (.int .i64 0))), (.t 80)]⟩,
   ⟨(some 82), none, .pick (.t 77) (.c (.p (.bool true))) (.t 81)⟩,
   ⟨(some 6), none, .mov (.t 82)⟩])
 (.ret))))))⟩
theorem k_impl_minsOk : compF Tryd.prog n_impl_minsOk = some F_impl_minsOk := by kernel_rfl
def F_impl_MachValid_1 : FK := ⟨10, [.t 4],
 .seq (.reg [⟨(some 3), none, .box 5 (.t 0)⟩,
   ⟨(some 4), none, .mov (.c (.p (.bool false)))⟩])
 (.seq (.reg [⟨(some 5), none, .ld (some 1) (.t 1)⟩,
   ⟨(some 6), none, .ld none (.t 2)⟩,
   ⟨(some 7), none, .ld (some 5) (.t 3)⟩,
   ⟨(some 8), none, .call n_impl_minsOk [(.t 5), (.t 6), (.t 7)]⟩,
   ⟨(some 9), none, .not (.t 8)⟩,
   ⟨(some 4), none, .mov (.t 9)⟩])
 (.ret))⟩
theorem k_impl_MachValid_1 : compF Tryd.prog n_impl_MachValid_1 = some F_impl_MachValid_1 := by kernel_rfl
def F_impl_MachValid : FK := ⟨63, [.t 2],
 .seq (.reg [⟨(some 1), none, .box 1 (.t 0)⟩,
   ⟨(some 2), none, .mov (.c (.p (.bool false)))⟩])
 (.seq (.seq (.reg [⟨(some 7), none, .fldA 0 (.t 1)⟩,
   ⟨(some 8), none, .ld none (.t 7)⟩,
   ⟨(some 9), none, .len false (.t 8)⟩,
   ⟨(some 10), none, .call n_impl_within [(.t 9), (.c (.p (.int .i64 1))), (.c (.p (.int .i64 4)))]⟩,
   ⟨(some 11), none, .not (.t 10)⟩])
 (.cond (.t 11)
  (.seq (.reg [⟨(some 2), none, .mov (.c (.p (.bool false)))⟩])
  (.ret))
  (.skip)))
 (.seq (.reg [⟨(some 3), none, .mov (.c (.p (.int .i64 0)))⟩])
 (.seq (.seq (.reg [⟨(some 12), none, .fldA 0 (.t 1)⟩,
   ⟨(some 13), none, .ld none (.t 12)⟩,
   ⟨(some 14), none, .len false (.t 13)⟩,
   ⟨(some 15), none, .mov (.c (.p (.int .i64 0)))⟩])
 (.blk 0 (.loop (.seq (.reg [⟨(some 16), none, .bin .lss (.t 15) (.t 14)⟩])
 (.seq (.cond (.t 16)
  (.skip)
  (.exit 0))
 (.seq (.blk 1 (.seq (.reg [⟨(some 17), none, .mov (.t 15)⟩,
   ⟨(some 18), none, .idxS 3 (.t 13) (.t 15)⟩,
   ⟨(some 19), none, .ld (some 3) (.t 18)⟩,
   ⟨(some 4), none, .alloc [(.p (.int .i64 0))]⟩,
   ⟨(some 5), none, .alloc [(.p (.int .i64 0)), (.p (.int .i64 0)), .nils]⟩,
   ⟨none, none, .st 1 (.t 4) (.t 17)⟩,
   ⟨none, none, .st 3 (.t 5) (.t 19)⟩])
 (.seq (.reg [⟨(some 20), none, .mov (.t 3)⟩,
   ⟨(some 21), none, .fldA 2 (.t 5)⟩,
   ⟨(some 22), none, .ld none (.t 21)⟩,
   ⟨(some 23), none, .len false (.t 22)⟩,
   ⟨(some 24), none, .bin .add (.t 20) (.t 23)⟩,
   ⟨(some 3), none, .mov (.t 24)⟩])
 (.seq (.seq (.reg [⟨(some 25), none, .fldA 0 (.t 5)⟩,
   ⟨(some 26), none, .ld none (.t 25)⟩,
   ⟨(some 27), none, .call n_impl_within [(.t 26), (.c (.p (.int .i64 0))), (.c (.p (.int .i64 3)))]⟩,
   ⟨(some 28), none, .not (.t 27)⟩,
   ⟨(some 29), none, .mov (.t 28)⟩,
   ⟨(some 30), (some (29, false)), .fldA 1 (.t 5)⟩,
   ⟨(some 31), (some (29, false)), .ld none (.t 30)⟩,
   ⟨(some 32), (some (29, false)), .call n_impl_within [(.t 31), (.c (.p (.int .i64 0))), (.c (.p (.int .i64 64)))]⟩,
   ⟨(some 33), (some (29, false)), .not (.t 32)⟩,
   ⟨(some 34), none, .pick (.t 29) (.c (.p (.bool true))) (.t 33)⟩,
   ⟨(some 35), none, .mov (.t 34)⟩,
   ⟨(some 36), (some (35, false)), .fldA 2 (.t 5)⟩,
   ⟨(some 37), (some (35, false)), .ld none (.t 36)⟩,
   ⟨(some 38), (some (35, false)), .len false (.t 37)⟩,
   ⟨(some 39), (some (35, false)), .bin .eql (.t 38) (.c (.p (.int .i64 0)))⟩,
   ⟨(some 40), none, .pick (.t 35) (.c (.p (.bool true))) (.t 39)⟩])
 (.cond (.t 40)
  (.seq (.reg [⟨(some 2), none, .mov (.c (.p (.bool false)))⟩])
  (.ret))
  (.skip)))
 (.seq (.seq (.reg [⟨(some 41), none, .fldA 2 (.t 5)⟩,
   ⟨(some 42), none, .ld none (.t 41)⟩,
   ⟨(some 43), none, .fldA 2 (.t 5)⟩,
   ⟨(some 44), none, .ld none (.t 43)⟩,
   ⟨(some 45), none, .len false (.t 44)⟩,
   ⟨(some 46), none, .bin .sub (.t 45) (.c (.p (.int .i64 1)))⟩,
   ⟨(some 47), none, .idxS 5 (.t 42) (.t 46)⟩,
   ⟨(some 48), none, .fldA 0 (.t 47)⟩,
   ⟨(some 49), none, .ld none (.t 48)⟩,
   ⟨(some 6), none, .mov (.t 49)⟩])
 (.seq (.reg [⟨(some 50), none, .mov (.t 6)⟩,
   ⟨(some 51), none, .bin .neq (.t 50) (.c (.p (.int .i64 20)))⟩,
   ⟨(some 52), none, .mov (.t 51)⟩,
   ⟨(some 53), (some (52, true)), .mov (.t 6)⟩,
   ⟨(some 54), (some (52, true)), .bin .neq (.t 53) (.c (.p (.int .i64 22)))⟩,
   ⟨(some 55), none, .pick (.t 52) (.t 54) (.c (.p (.bool false)))⟩])
 (.cond (.t 55)
  (.seq (.reg [⟨(some 2), none, .mov (.c (.p (.bool false)))⟩])
  (.ret))
  (.skip))))
 (.seq (.reg [⟨(some 56), none, .fldA 2 (.t 5)⟩,
   ⟨(some 57), none, .ld none (.t 56)⟩,
   ⟨(some 58), none, .mkf (.func n_impl_MachValid_1) [(.t 1), (.t 4)]⟩,
   ⟨(some 59), none, .call n_slices_ContainsFunc_impl_Mins [(.t 57), (.t 58)]⟩])
 (.cond (.t 59)
  (.seq (.reg [⟨(some 2), none, .mov (.c (.p (.bool false)))⟩])
  (.ret))
  (.skip))))))))
 (.reg [⟨(some 60), none, .bin .add (.t 15) (.c (.p (.int .i64 1)))⟩,
   ⟨(some 15), none, .mov (.t 60)⟩])))))))
 (.seq (.reg [⟨(some 61), none, .mov (.t 3)⟩,
   ⟨(some 62), none, .bin .leq (.t 61) (.c (.p (.int .i64 2000)))⟩,
   ⟨(some 2), none, .mov (.t 62)⟩])
 (.ret)))))⟩
theorem k_impl_MachValid : compF Tryd.prog n_impl_MachValid = some F_impl_MachValid := by kernel_rfl
def F_math_bits_Mul64 : FK := ⟨51, [.t 4, .t 5],
 .seq (.reg [⟨(some 4), none, .mov (.c (.p (.int .u64 0)))⟩,
   ⟨(some 5), none, .mov (.c (.p (.int .u64 0)))⟩])
 (.seq (.reg [⟨(some 14), none, .mov (.t 0)⟩,
   ⟨(some 15), none, .bin .and (.t 14) (.c (.p (.int .u64 4294967295)))⟩,
   ⟨(some 6), none, .mov (.t 15)⟩])
 (.seq (.reg [⟨(some 16), none, .mov (.t 0)⟩,
   ⟨(some 17), none, .bin .shr (.t 16) (.c (.p (.int .u64 32)))⟩,
   ⟨(some 7), none, .mov (.t 17)⟩])
 (.seq (.reg [⟨(some 18), none, .mov (.t 1)⟩,
   ⟨(some 19), none, .bin .and (.t 18) (.c (.p (.int .u64 4294967295)))⟩,
   ⟨(some 8), none, .mov (.t 19)⟩])
 (.seq (.reg [⟨(some 20), none, .mov (.t 1)⟩,
   ⟨(some 21), none, .bin .shr (.t 20) (.c (.p (.int .u64 32)))⟩,
   ⟨(some 9), none, .mov (.t 21)⟩])
 (.seq (.reg [⟨(some 22), none, .mov (.t 6)⟩,
   ⟨(some 23), none, .mov (.t 8)⟩,
   ⟨(some 24), none, .bin .mul (.t 22) (.t 23)⟩,
   ⟨(some 10), none, .mov (.t 24)⟩])
 (.seq (.reg [⟨(some 25), none, .mov (.t 7)⟩,
   ⟨(some 26), none, .mov (.t 8)⟩,
   ⟨(some 27), none, .bin .mul (.t 25) (.t 26)⟩,
   ⟨(some 28), none, .mov (.t 10)⟩,
   ⟨(some 29), none, .bin .shr (.t 28) (.c (.p (.int .u64 32)))⟩,
   ⟨(some 30), none, .bin .add (.t 27) (.t 29)⟩,
   ⟨(some 11), none, .mov (.t 30)⟩])
 (.seq (.reg [⟨(some 31), none, .mov (.t 11)⟩,
   ⟨(some 32), none, .bin .and (.t 31) (.c (.p (.int .u64 4294967295)))⟩,
   ⟨(some 12), none, .mov (.t 32)⟩])
 (.seq (.reg [⟨(some 33), none, .mov (.t 11)⟩,
   ⟨(some 34), none, .bin .shr (.t 33) (.c (.p (.int .u64 32)))⟩,
   ⟨(some 13), none, .mov (.t 34)⟩])
 (.seq (.reg [⟨(some 35), none, .mov (.t 12)⟩,
   ⟨(some 36), none, .mov (.t 6)⟩,
   ⟨(some 37), none, .mov (.t 9)⟩,
   ⟨(some 38), none, .bin .mul (.t 36) (.t 37)⟩,
   ⟨(some 39), none, .bin .add (.t 35) (.t 38)⟩,
   ⟨(some 12), none, .mov (.t 39)⟩])
 (.seq (.reg [⟨(some 40), none, .mov (.t 7)⟩,
   ⟨(some 41), none, .mov (.t 9)⟩,
   ⟨(some 42), none, .bin .mul (.t 40) (.t 41)⟩,
   ⟨(some 43), none, .mov (.t 13)⟩,
   ⟨(some 44), none, .bin .add (.t 42) (.t 43)⟩,
   ⟨(some 45), none, .mov (.t 12)⟩,
   ⟨(some 46), none, .bin .shr (.t 45) (.c (.p (.int .u64 32)))⟩,
   ⟨(some 47), none, .bin .add (.t 44) (.t 46)⟩,
   ⟨(some 4), none, .mov (.t 47)⟩])
 (.seq (.reg [⟨(some 48), none, .mov (.t 0)⟩,
   ⟨(some 49), none, .mov (.t 1)⟩,
   ⟨(some 50), none, .bin .mul (.t 48) (.t 49)⟩,
   ⟨(some 5), none, .mov (.t 50)⟩])
 (.ret))))))))))))⟩
theorem k_math_bits_Mul64 : compF Tryd.prog n_math_bits_Mul64 = some F_math_bits_Mul64 := by kernel_rfl
def F_math_bits_Mul : FK := ⟨30, [.t 4, .t 5],
 .seq (.reg [⟨(some 4), none, .mov (.c (.p (.int .u64 0)))⟩,
   ⟨(some 5), none, .mov (.c (.p (.int .u64 0)))⟩])
 (.seq (.cond (.c (.p (.bool false)))
  (.seq (.reg [⟨(some 11), none, .mov (.t 0)⟩,
    ⟨(some 12), none, .conv .u32 (.t 11)⟩,
    ⟨(some 13), none, .mov (.t 1)⟩,
    ⟨(some 14), none, .conv .u32 (.t 13)⟩,
    ⟨(some 15), none, .call n_math_bits_Mul32 [(.t 12), (.t 14)]⟩,
    ⟨(some 10), none, .mov (.t 15)⟩,
    ⟨(some 16), none, .ext 0 (.t 10)⟩,
    ⟨(some 17), none, .ext 1 (.t 10)⟩,
    ⟨(some 6), none, .mov (.t 16)⟩,
    ⟨(some 7), none, .mov (.t 17)⟩])
  (.seq (.reg [⟨(some 18), none, .mov (.t 6)⟩,
    ⟨(some 19), none, .conv .u64 (.t 18)⟩,
    ⟨(some 20), none, .mov (.t 7)⟩,
    ⟨(some 21), none, .conv .u64 (.t 20)⟩,
    ⟨(some 4), none, .mov (.t 19)⟩,
    ⟨(some 5), none, .mov (.t 21)⟩])
  (.ret)))
  (.skip))
 (.seq (.reg [⟨(some 23), none, .mov (.t 0)⟩,
   ⟨(some 24), none, .mov (.t 1)⟩,
   ⟨(some 25), none, .call n_math_bits_Mul64 [(.t 23), (.t 24)]⟩,
   ⟨(some 22), none, .mov (.t 25)⟩,
   ⟨(some 26), none, .ext 0 (.t 22)⟩,
   ⟨(some 27), none, .ext 1 (.t 22)⟩,
   ⟨(some 8), none, .mov (.t 26)⟩,
   ⟨(some 9), none, .mov (.t 27)⟩])
 (.seq (.reg [⟨(some 28), none, .mov (.t 8)⟩,
   ⟨(some 29), none, .mov (.t 9)⟩,
   ⟨(some 4), none, .mov (.t 28)⟩,
   ⟨(some 5), none, .mov (.t 29)⟩])
 (.ret))))⟩
theorem k_math_bits_Mul : compF Tryd.prog n_math_bits_Mul = some F_math_bits_Mul := by kernel_rfl
def F_slices_Repeat_impl_Mfn : FK := ⟨48, [.t 4],
 .seq (.reg [⟨(some 4), none, .mov (.c .nils)⟩])
 (.seq (.seq (.reg [⟨(some 9), none, .mov (.t 1)⟩,
   ⟨(some 10), none, .bin .lss (.t 9) (.c (.p (.int .i64 0)))⟩])
 (.cond (.t 10)
  (.reg [⟨(some 11), none, .bad⟩,
    ⟨none, none, .bad⟩])
  (.skip)))
 (.seq (.reg [⟨(some 13), none, .mov (.t 0)⟩,
   ⟨(some 14), none, .len false (.t 13)⟩,
   ⟨(some 15), none, .conv .u64 (.t 14)⟩,
   ⟨(some 16), none, .mov (.t 1)⟩,
   ⟨(some 17), none, .conv .u64 (.t 16)⟩,
   ⟨(some 18), none, .call n_math_bits_Mul [(.t 15), (.t 17)]⟩,
   ⟨(some 12), none, .mov (.t 18)⟩,
   ⟨(some 19), none, .ext 0 (.t 12)⟩,
   ⟨(some 20), none, .ext 1 (.t 12)⟩,
   ⟨(some 5), none, .mov (.t 19)⟩,
   ⟨(some 6), none, .mov (.t 20)⟩])
 (.seq (.seq (.reg [⟨(some 21), none, .mov (.t 5)⟩,
   ⟨(some 22), none, .bin .gtr (.t 21) (.c (.p (.int .u64 0)))⟩,
   ⟨(some 23), none, .mov (.t 22)⟩,
   ⟨(some 24), (some (23, false)), .mov (.t 6)⟩,
   ⟨(some 25), (some (23, false)), .bin .gtr (.t 24) (.c (.p (.int .u64 9223372036854775807)))⟩,
   ⟨(some 26), none, .pick (.t 23) (.c (.p (.bool true))) (.t 25)⟩])
 (.cond (.t 26)
  (.reg [⟨(some 27), none, .bad⟩,
    ⟨none, none, .bad⟩])
  (.skip)))
 (.seq (.reg [⟨(some 28), none, .mov (.t 6)⟩,
   ⟨(some 29), none, .conv .i64 (.t 28)⟩,
   ⟨(some 30), none, .mks 3 40 [(.p (.int .i64 0)), (.p (.int .i64 0)), .nils] (.t 29) (.t 29)⟩,
   ⟨(some 7), none, .mov (.t 30)⟩])
 (.seq (.reg [⟨(some 31), none, .mov (.t 7)⟩,
   ⟨(some 32), none, .mov (.t 0)⟩,
   ⟨(some 33), none, .copy 3 (.t 31) (.t 32)⟩,
   ⟨(some 8), none, .mov (.t 33)⟩])
 (.seq (.blk 0 (.loop (.seq (.seq (.reg [⟨(some 34), none, .mov (.t 8)⟩,
   ⟨(some 35), none, .mov (.t 7)⟩,
   ⟨(some 36), none, .len false (.t 35)⟩,
   ⟨(some 37), none, .bin .lss (.t 34) (.t 36)⟩])
 (.cond (.t 37)
  (.skip)
  (.exit 0)))
 (.blk 1 (.reg [⟨(some 38), none, .mov (.t 8)⟩,
   ⟨(some 39), none, .mov (.t 7)⟩,
   ⟨(some 40), none, .mov (.t 8)⟩,
   ⟨(some 41), none, .slS 3 (.t 39) (some (.t 40)) none⟩,
   ⟨(some 42), none, .mov (.t 7)⟩,
   ⟨(some 43), none, .mov (.t 8)⟩,
   ⟨(some 44), none, .slS 3 (.t 42) none (some (.t 43))⟩,
   ⟨(some 45), none, .copy 3 (.t 41) (.t 44)⟩,
   ⟨(some 46), none, .bin .add (.t 38) (.t 45)⟩,
   ⟨(some 8), none, .mov (.t 46)⟩])))))
 (.seq (.reg [⟨(some 47), none, .mov (.t 7)⟩,
   ⟨(some 4), none, .mov (.t 47)⟩])
 (.ret))))))))⟩
theorem k_slices_Repeat_impl_Mfn : compF Tryd.prog n_slices_Repeat_impl_Mfn = some F_slices_Repeat_impl_Mfn := by kernel_rfl
def F_impl_jumpOp : FK := ⟨9, [.t 2],
 .seq (.reg [⟨(some 2), none, .mov (.c (.p (.bool false)))⟩])
 (.seq (.reg [⟨(some 3), none, .mov (.t 0)⟩,
   ⟨(some 4), none, .bin .eql (.t 3) (.c (.p (.int .i64 20)))⟩,
   ⟨(some 5), none, .mov (.t 4)⟩,
   ⟨(some 6), (some (5, false)), .mov (.t 0)⟩,
   ⟨(some 7), (some (5, false)), .bin .eql (.t 6) (.c (.p (.int .i64 21)))⟩,
   ⟨(some 8), none, .pick (.t 5) (.c (.p (.bool true))) (.t 7)⟩,
   ⟨(some 2), none, .mov (.t 8)⟩])
 (.ret))⟩
theorem k_impl_jumpOp : compF Tryd.prog n_impl_jumpOp = some F_impl_jumpOp := by kernel_rfl
def F_impl_shapeOf : FK := ⟨24, [.t 2],
 .seq (.reg [⟨(some 2), none, .mov (.c (.p (.int .i64 0)))⟩])
 (.seq (.seq (.reg [⟨(some 3), none, .mov (.t 0)⟩])
 (.blk 0 (.seq (.seq (.reg [⟨(some 5), none, .bin .eql (.t 3) (.c (.p (.int .i64 1)))⟩,
   ⟨(some 4), none, .mov (.t 5)⟩])
 (.cond (.t 4)
  (.skip)
  (.seq (.reg [⟨(some 6), none, .bin .eql (.t 3) (.c (.p (.int .i64 15)))⟩,
    ⟨(some 4), none, .mov (.t 6)⟩])
  (.cond (.t 4)
   (.skip)
   (.seq (.reg [⟨(some 7), none, .bin .eql (.t 3) (.c (.p (.int .i64 16)))⟩,
     ⟨(some 4), none, .mov (.t 7)⟩])
   (.cond (.t 4)
    (.skip)
    (.seq (.reg [⟨(some 8), none, .bin .eql (.t 3) (.c (.p (.int .i64 17)))⟩,
      ⟨(some 4), none, .mov (.t 8)⟩])
    (.cond (.t 4)
     (.skip)
     (.reg [⟨(some 9), none, .bin .eql (.t 3) (.c (.p (.int .i64 18)))⟩,
       ⟨(some 4), none, .mov (.t 9)⟩])))))))))
 (.cond (.t 4)
  (.seq (.reg [⟨(some 2), none, .mov (.c (.p (.int .i64 0)))⟩])
  (.ret))
  (.seq (.seq (.reg [⟨(some 11), none, .bin .eql (.t 3) (.c (.p (.int .i64 2)))⟩,
    ⟨(some 10), none, .mov (.t 11)⟩])
  (.cond (.t 10)
   (.skip)
   (.seq (.reg [⟨(some 12), none, .bin .eql (.t 3) (.c (.p (.int .i64 10)))⟩,
     ⟨(some 10), none, .mov (.t 12)⟩])
   (.cond (.t 10)
    (.skip)
    (.seq (.reg [⟨(some 13), none, .bin .eql (.t 3) (.c (.p (.int .i64 11)))⟩,
      ⟨(some 10), none, .mov (.t 13)⟩])
    (.cond (.t 10)
     (.skip)
     (.reg [⟨(some 14), none, .bin .eql (.t 3) (.c (.p (.int .i64 12)))⟩,
       ⟨(some 10), none, .mov (.t 14)⟩])))))))
  (.cond (.t 10)
   (.seq (.reg [⟨(some 2), none, .mov (.c (.p (.int .i64 1)))⟩])
   (.ret))
   (.seq (.seq (.reg [⟨(some 16), none, .bin .eql (.t 3) (.c (.p (.int .i64 13)))⟩,
     ⟨(some 15), none, .mov (.t 16)⟩])
   (.cond (.t 15)
    (.skip)
    (.seq (.reg [⟨(some 17), none, .bin .eql (.t 3) (.c (.p (.int .i64 19)))⟩,
      ⟨(some 15), none, .mov (.t 17)⟩])
    (.cond (.t 15)
     (.skip)
     (.reg [⟨(some 18), none, .bin .eql (.t 3) (.c (.p (.int .i64 22)))⟩,
       ⟨(some 15), none, .mov (.t 18)⟩])))))
   (.cond (.t 15)
    (.seq (.reg [⟨(some 2), none, .mov (.c (.p (.int .i64 3)))⟩])
    (.ret))
    (.seq (.reg [⟨(some 20), none, .bin .eql (.t 3) (.c (.p (.int .i64 14)))⟩,
      ⟨(some 19), none, .mov (.t 20)⟩])
    (.cond (.t 19)
     (.seq (.reg [⟨(some 2), none, .mov (.c (.p (.int .i64 4)))⟩])
     (.ret))
     (.seq (.seq (.reg [⟨(some 22), none, .bin .eql (.t 3) (.c (.p (.int .i64 20)))⟩,
       ⟨(some 21), none, .mov (.t 22)⟩])
     (.cond (.t 21)
      (.skip)
      (.reg [⟨(some 23), none, .bin .eql (.t 3) (.c (.p (.int .i64 21)))⟩,
        ⟨(some 21), none, .mov (.t 23)⟩])))
     (.cond (.t 21)
      (.seq (.reg [⟨(some 2), none, .mov (.c (.p (.int .i64 5)))⟩])
      (.ret))
      (.skip)))))))))))))
 (.seq (.reg [⟨(some 2), none, .mov (.c (.p (.int .i64 2)))⟩])
 (.ret)))⟩
theorem k_impl_shapeOf : compF Tryd.prog n_impl_shapeOf = some F_impl_shapeOf := by kernel_rfl
def F_impl_encoded : FK := ⟨55, [.t 2],
 .seq (.reg [⟨(some 1), none, .box 5 (.t 0)⟩,
   ⟨(some 2), none, .mov (.c .nils)⟩])
 (.seq (.reg [⟨(some 5), none, .fldA 0 (.t 1)⟩,
   ⟨(some 8), none, .fldA 1 (.t 1)⟩,
   ⟨(some 6), none, .ld none (.t 5)⟩,
   ⟨(some 7), none, .conv .u8 (.t 6)⟩,
   ⟨(some 3), none, .mov (.t 7)⟩,
   ⟨(some 9), none, .ld none (.t 8)⟩,
   ⟨(some 10), none, .conv .u8 (.t 9)⟩,
   ⟨(some 4), none, .mov (.t 10)⟩])
 (.seq (.seq (.reg [⟨(some 11), none, .fldA 0 (.t 1)⟩,
   ⟨(some 12), none, .ld none (.t 11)⟩,
   ⟨(some 13), none, .call n_impl_shapeOf [(.t 12)]⟩])
 (.blk 0 (.seq (.reg [⟨(some 15), none, .bin .eql (.t 13) (.c (.p (.int .i64 0)))⟩,
   ⟨(some 14), none, .mov (.t 15)⟩])
 (.cond (.t 14)
  (.seq (.reg [⟨(some 16), none, .mov (.t 3)⟩,
    ⟨(some 17), none, .mov (.t 4)⟩,
    ⟨(some 18), none, .fldA 4 (.t 1)⟩,
    ⟨(some 19), none, .ld none (.t 18)⟩,
    ⟨(some 20), none, .conv .u8 (.t 19)⟩,
    ⟨(some 21), none, .bsl 1 [(.p (.int .u8 0))] 3 [(0, 1, (.t 16)), (1, 1, (.t 17)), (2, 1, (.t 20))]⟩,
    ⟨(some 2), none, .mov (.t 21)⟩])
  (.ret))
  (.seq (.reg [⟨(some 23), none, .bin .eql (.t 13) (.c (.p (.int .i64 1)))⟩,
    ⟨(some 22), none, .mov (.t 23)⟩])
  (.cond (.t 22)
   (.seq (.reg [⟨(some 24), none, .mov (.t 3)⟩,
     ⟨(some 25), none, .mov (.t 4)⟩,
     ⟨(some 26), none, .fldA 2 (.t 1)⟩,
     ⟨(some 27), none, .ld none (.t 26)⟩,
     ⟨(some 28), none, .conv .u8 (.t 27)⟩,
     ⟨(some 29), none, .bin .mul (.c (.p (.int .u8 8))) (.t 28)⟩,
     ⟨(some 30), none, .bin .add (.t 25) (.t 29)⟩,
     ⟨(some 31), none, .bsl 1 [(.p (.int .u8 0))] 2 [(0, 1, (.t 24)), (1, 1, (.t 30))]⟩,
     ⟨(some 2), none, .mov (.t 31)⟩])
   (.ret))
   (.seq (.reg [⟨(some 33), none, .bin .eql (.t 13) (.c (.p (.int .i64 2)))⟩,
     ⟨(some 32), none, .mov (.t 33)⟩])
   (.cond (.t 32)
    (.seq (.reg [⟨(some 34), none, .mov (.t 3)⟩,
      ⟨(some 35), none, .mov (.t 4)⟩,
      ⟨(some 36), none, .fldA 2 (.t 1)⟩,
      ⟨(some 37), none, .ld none (.t 36)⟩,
      ⟨(some 38), none, .conv .u8 (.t 37)⟩,
      ⟨(some 39), none, .bin .mul (.c (.p (.int .u8 8))) (.t 38)⟩,
      ⟨(some 40), none, .bin .add (.t 35) (.t 39)⟩,
      ⟨(some 41), none, .fldA 3 (.t 1)⟩,
      ⟨(some 42), none, .ld none (.t 41)⟩,
      ⟨(some 43), none, .conv .u8 (.t 42)⟩,
      ⟨(some 44), none, .bsl 1 [(.p (.int .u8 0))] 3 [(0, 1, (.t 34)), (1, 1, (.t 40)), (2, 1, (.t 43))]⟩,
      ⟨(some 2), none, .mov (.t 44)⟩])
    (.ret))
    (.seq (.reg [⟨(some 46), none, .bin .eql (.t 13) (.c (.p (.int .i64 4)))⟩,
      ⟨(some 45), none, .mov (.t 46)⟩])
    (.cond (.t 45)
     (.seq (.reg [⟨(some 47), none, .mov (.t 3)⟩,
       ⟨(some 48), none, .fldA 4 (.t 1)⟩,
       ⟨(some 49), none, .ld none (.t 48)⟩,
       ⟨(some 50), none, .conv .u8 (.t 49)⟩,
       ⟨(some 51), none, .bsl 1 [(.p (.int .u8 0))] 2 [(0, 1, (.t 47)), (1, 1, (.t 50))]⟩,
       ⟨(some 2), none, .mov (.t 51)⟩])
     (.ret))
     (.skip)))))))))))
 (.seq (.reg [⟨(some 52), none, .mov (.t 3)⟩,
   ⟨(some 53), none, .mov (.t 4)⟩,
   ⟨(some 54), none, .bsl 1 [(.p (.int .u8 0))] 2 [(0, 1, (.t 52)), (1, 1, (.t 53))]⟩,
   ⟨(some 2), none, .mov (.t 54)⟩])
 (.ret))))⟩
theorem k_impl_encoded : compF Tryd.prog n_impl_encoded = some F_impl_encoded := by kernel_rfl
def F_impl_layout_settle : FK := ⟨78, [],
 .seq (.reg [⟨(some 5), none, .mov (.t 0)⟩,
   ⟨(some 6), none, .mov (.t 0)⟩,
   ⟨(some 7), none, .mov (.t 0)⟩,
   ⟨(some 8), none, .nilck (.t 5)⟩,
   ⟨(some 9), none, .fldA 4 (.t 8)⟩,
   ⟨none, none, .st 1 (.t 9) (.c .nils)⟩,
   ⟨(some 10), none, .nilck (.t 6)⟩,
   ⟨(some 11), none, .fldA 5 (.t 10)⟩,
   ⟨none, none, .st 1 (.t 11) (.c .nils)⟩,
   ⟨(some 12), none, .nilck (.t 7)⟩,
   ⟨(some 13), none, .fldA 6 (.t 12)⟩,
   ⟨none, none, .st 1 (.t 13) (.c (.p (.int .i64 0)))⟩])
 (.seq (.reg [⟨(some 14), none, .mov (.t 0)⟩,
   ⟨(some 15), none, .nilck (.t 14)⟩,
   ⟨(some 16), none, .fldA 0 (.t 15)⟩,
   ⟨(some 17), none, .fldA 2 (.t 16)⟩,
   ⟨(some 18), none, .ld none (.t 17)⟩,
   ⟨(some 19), none, .len false (.t 18)⟩,
   ⟨(some 20), none, .mov (.c (.p (.int .i64 0)))⟩])
 (.blk 0 (.loop (.seq (.reg [⟨(some 21), none, .bin .lss (.t 20) (.t 19)⟩])
 (.seq (.cond (.t 21)
  (.skip)
  (.exit 0))
 (.seq (.blk 1 (.seq (.reg [⟨(some 22), none, .mov (.t 20)⟩,
   ⟨(some 23), none, .idxS 5 (.t 18) (.t 20)⟩,
   ⟨(some 24), none, .ld (some 5) (.t 23)⟩,
   ⟨(some 3), none, .alloc [(.p (.int .i64 0)), (.p (.int .i64 0)), (.p (.int .i64 0)), (.p (.int .i64 0)), (.p (.int .i64 0))]⟩,
   ⟨(some 2), none, .mov (.t 22)⟩,
   ⟨none, none, .st 5 (.t 3) (.t 24)⟩])
 (.seq (.reg [⟨(some 4), none, .mov (.c (.p (.int .i64 2)))⟩])
 (.seq (.seq (.reg [⟨(some 25), none, .fldA 0 (.t 3)⟩,
   ⟨(some 26), none, .ld none (.t 25)⟩,
   ⟨(some 27), none, .call n_impl_jumpOp [(.t 26)]⟩,
   ⟨(some 28), none, .not (.t 27)⟩])
 (.cond (.t 28)
  (.reg [⟨(some 29), none, .ld (some 5) (.t 3)⟩,
    ⟨(some 30), none, .call n_impl_encoded [(.t 29)]⟩,
    ⟨(some 31), none, .len false (.t 30)⟩,
    ⟨(some 4), none, .mov (.t 31)⟩])
  (.seq (.seq (.reg [⟨(some 32), none, .fldA 0 (.t 3)⟩,
    ⟨(some 33), none, .ld none (.t 32)⟩,
    ⟨(some 34), none, .bin .eql (.t 33) (.c (.p (.int .i64 21)))⟩])
  (.cond (.t 34)
   (.reg [⟨(some 35), none, .mov (.t 4)⟩,
     ⟨(some 36), none, .bin .add (.t 35) (.c (.p (.int .i64 1)))⟩,
     ⟨(some 4), none, .mov (.t 36)⟩])
   (.skip)))
  (.seq (.reg [⟨(some 37), none, .mov (.t 0)⟩,
    ⟨(some 38), none, .nilck (.t 37)⟩,
    ⟨(some 39), none, .fldA 3 (.t 38)⟩,
    ⟨(some 40), none, .ld none (.t 39)⟩,
    ⟨(some 41), none, .mov (.t 2)⟩,
    ⟨(some 42), none, .idxS 1 (.t 40) (.t 41)⟩,
    ⟨(some 43), none, .ld none (.t 42)⟩])
  (.cond (.t 43)
   (.reg [⟨(some 44), none, .mov (.t 4)⟩,
     ⟨(some 45), none, .bin .add (.t 44) (.c (.p (.int .i64 1)))⟩,
     ⟨(some 4), none, .mov (.t 45)⟩])
   (.skip))))))
 (.seq (.reg [⟨(some 46), none, .mov (.t 0)⟩,
   ⟨(some 47), none, .mov (.t 0)⟩,
   ⟨(some 48), none, .mov (.t 0)⟩,
   ⟨(some 49), none, .nilck (.t 48)⟩,
   ⟨(some 50), none, .fldA 4 (.t 49)⟩,
   ⟨(some 52), none, .mov (.t 4)⟩,
   ⟨(some 53), none, .bslP 1 [(.p (.int .i64 0))] 1 [(0, 1, (.t 52))]⟩,
   ⟨(some 55), none, .mov (.t 0)⟩,
   ⟨(some 56), none, .nilck (.t 55)⟩,
   ⟨(some 57), none, .fldA 5 (.t 56)⟩,
   ⟨(some 59), none, .mov (.t 0)⟩,
   ⟨(some 60), none, .nilck (.t 59)⟩,
   ⟨(some 61), none, .fldA 6 (.t 60)⟩,
   ⟨(some 51), none, .ld none (.t 50)⟩,
   ⟨(some 58), none, .ld none (.t 57)⟩,
   ⟨(some 62), none, .ld none (.t 61)⟩,
   ⟨(some 63), none, .bslP 1 [(.p (.int .i64 0))] 1 [(0, 1, (.t 62))]⟩,
   ⟨(some 54), none, .app 1 8 (.t 51) (.t 53)⟩,
   ⟨none, none, .chk none 57 58⟩,
   ⟨none, none, .chk none 61 62⟩,
   ⟨(some 64), none, .app 1 8 (.t 58) (.t 63)⟩,
   ⟨(some 65), none, .nilck (.t 46)⟩,
   ⟨(some 66), none, .fldA 4 (.t 65)⟩,
   ⟨none, none, .st 1 (.t 66) (.t 54)⟩,
   ⟨(some 67), none, .nilck (.t 47)⟩,
   ⟨(some 68), none, .fldA 5 (.t 67)⟩,
   ⟨none, none, .st 1 (.t 68) (.t 64)⟩])
 (.reg [⟨(some 69), none, .mov (.t 0)⟩,
   ⟨(some 70), none, .nilck (.t 69)⟩,
   ⟨(some 71), none, .fldA 6 (.t 70)⟩,
   ⟨(some 72), none, .ld none (.t 71)⟩,
   ⟨(some 73), none, .mov (.t 4)⟩,
   ⟨(some 74), none, .bin .add (.t 72) (.t 73)⟩,
   ⟨(some 75), none, .nilck (.t 69)⟩,
   ⟨(some 76), none, .fldA 6 (.t 75)⟩,
   ⟨none, none, .st 1 (.t 76) (.t 74)⟩]))))))
 (.reg [⟨(some 77), none, .bin .add (.t 20) (.c (.p (.int .i64 1)))⟩,
   ⟨(some 20), none, .mov (.t 77)⟩])))))))⟩
theorem k_impl_layout_settle : compF Tryd.prog n_impl_layout_settle = some F_impl_layout_settle := by kernel_rfl
def F_impl_layout_offset : FK := ⟨36, [.t 4],
 .seq (.reg [⟨(some 4), none, .mov (.c (.p (.int .i64 0)))⟩])
 (.seq (.reg [⟨(some 5), none, .mov (.t 0)⟩,
   ⟨(some 6), none, .nilck (.t 5)⟩,
   ⟨(some 7), none, .fldA 5 (.t 6)⟩,
   ⟨(some 9), none, .mov (.t 0)⟩,
   ⟨(some 10), none, .nilck (.t 9)⟩,
   ⟨(some 11), none, .fldA 0 (.t 10)⟩,
   ⟨(some 12), none, .fldA 2 (.t 11)⟩,
   ⟨(some 14), none, .mov (.t 1)⟩,
   ⟨(some 20), none, .mov (.t 0)⟩,
   ⟨(some 21), none, .nilck (.t 20)⟩,
   ⟨(some 22), none, .fldA 5 (.t 21)⟩,
   ⟨(some 24), none, .mov (.t 1)⟩,
   ⟨(some 28), none, .mov (.t 0)⟩,
   ⟨(some 29), none, .nilck (.t 28)⟩,
   ⟨(some 30), none, .fldA 4 (.t 29)⟩,
   ⟨(some 32), none, .mov (.t 1)⟩,
   ⟨(some 8), none, .ld none (.t 7)⟩,
   ⟨(some 13), none, .ld none (.t 12)⟩,
   ⟨(some 15), none, .idxS 5 (.t 13) (.t 14)⟩,
   ⟨(some 16), none, .fldA 4 (.t 15)⟩,
   ⟨(some 17), none, .ld none (.t 16)⟩,
   ⟨(some 18), none, .idxS 1 (.t 8) (.t 17)⟩,
   ⟨(some 19), none, .ld none (.t 18)⟩,
   ⟨(some 23), none, .ld none (.t 22)⟩,
   ⟨(some 25), none, .idxS 1 (.t 23) (.t 24)⟩,
   ⟨(some 26), none, .ld none (.t 25)⟩,
   ⟨(some 27), none, .bin .sub (.t 19) (.t 26)⟩,
   ⟨(some 31), none, .ld none (.t 30)⟩,
   ⟨(some 33), none, .idxS 1 (.t 31) (.t 32)⟩,
   ⟨(some 34), none, .ld none (.t 33)⟩,
   ⟨(some 35), none, .bin .sub (.t 27) (.t 34)⟩,
   ⟨(some 4), none, .mov (.t 35)⟩])
 (.ret))⟩
theorem k_impl_layout_offset : compF Tryd.prog n_impl_layout_offset = some F_impl_layout_offset := by kernel_rfl
def F_impl_layoutOf : FK := ⟨92, [.t 2],
 .seq (.reg [⟨(some 1), none, .box 3 (.t 0)⟩,
   ⟨(some 2), none, .mov (.c .nilp)⟩])
 (.seq (.reg [⟨(some 3), none, .mov (.c (.p (.int .i64 0)))⟩])
 (.seq (.seq (.reg [⟨(some 11), none, .fldA 2 (.t 1)⟩,
   ⟨(some 12), none, .ld none (.t 11)⟩,
   ⟨(some 13), none, .len false (.t 12)⟩,
   ⟨(some 14), none, .mov (.c (.p (.int .i64 0)))⟩])
 (.blk 0 (.loop (.seq (.reg [⟨(some 15), none, .bin .lss (.t 14) (.t 13)⟩])
 (.seq (.cond (.t 15)
  (.skip)
  (.exit 0))
 (.seq (.blk 1 (.seq (.reg [⟨(some 16), none, .idxS 5 (.t 12) (.t 14)⟩,
   ⟨(some 17), none, .ld (some 5) (.t 16)⟩,
   ⟨(some 5), none, .alloc [(.p (.int .i64 0)), (.p (.int .i64 0)), (.p (.int .i64 0)), (.p (.int .i64 0)), (.p (.int .i64 0))]⟩,
   ⟨none, none, .st 5 (.t 5) (.t 17)⟩])
 (.seq (.reg [⟨(some 18), none, .fldA 0 (.t 5)⟩,
   ⟨(some 19), none, .ld none (.t 18)⟩,
   ⟨(some 20), none, .bin .eql (.t 19) (.c (.p (.int .i64 14)))⟩])
 (.cond (.t 20)
  (.reg [⟨(some 21), none, .mov (.t 3)⟩,
    ⟨(some 22), none, .fldA 4 (.t 5)⟩,
    ⟨(some 23), none, .ld none (.t 22)⟩,
    ⟨(some 24), none, .mn (.t 23) (.c (.p (.int .i64 4)))⟩,
    ⟨(some 25), none, .bin .add (.t 24) (.c (.p (.int .i64 1)))⟩,
    ⟨(some 26), none, .mx (.t 21) (.t 25)⟩,
    ⟨(some 3), none, .mov (.t 26)⟩])
  (.skip)))))
 (.reg [⟨(some 27), none, .bin .add (.t 14) (.c (.p (.int .i64 1)))⟩,
   ⟨(some 14), none, .mov (.t 27)⟩])))))))
 (.seq (.reg [⟨(some 6), none, .mov (.c .any)⟩,
   ⟨(some 28), none, .bld [(.p (.int .i64 0)), (.p (.int .i64 0)), (.p (.int .i64 0)), (.p (.int .i64 0)), (.p (.int .i64 0))] [(0, 1, (.c (.p (.int .i64 22))))]⟩,
   ⟨(some 29), none, .bslP 5 [(.p (.int .i64 0)), (.p (.int .i64 0)), (.p (.int .i64 0)), (.p (.int .i64 0)), (.p (.int .i64 0))] 1 [(0, 5, (.t 28))]⟩,
   ⟨(some 30), none, .bld [(.p (.int .i64 0)), (.p (.int .i64 0)), .nils] [(2, 1, (.t 29))]⟩,
   ⟨(some 31), none, .bslP 3 [(.p (.int .i64 0)), (.p (.int .i64 0)), .nils] 1 [(0, 3, (.t 30))]⟩,
   ⟨(some 32), none, .mov (.t 3)⟩,
   ⟨(some 34), none, .ld (some 3) (.t 1)⟩,
   ⟨(some 35), none, .bslP 3 [(.p (.int .i64 0)), (.p (.int .i64 0)), .nils] 1 [(0, 3, (.t 34))]⟩,
   ⟨(some 33), none, .call n_slices_Repeat_impl_Mfn [(.t 31), (.t 32)]⟩,
   ⟨none, none, .chk (some 3) 1 34⟩,
   ⟨(some 36), none, .app 3 40 (.t 33) (.t 35)⟩,
   ⟨(some 37), none, .bld [.nils] [(0, 1, (.t 36))]⟩,
   ⟨(some 6), none, .alloc [.nils]⟩,
   ⟨none, none, .st 1 (.t 6) (.t 37)⟩])
 (.seq (.seq (.reg [⟨(some 38), none, .ld (some 1) (.t 6)⟩,
   ⟨(some 39), none, .call n_impl_MachValid [(.t 38)]⟩,
   ⟨(some 40), none, .not (.t 39)⟩])
 (.cond (.t 40)
  (.seq (.reg [⟨(some 2), none, .mov (.c .nilp)⟩])
  (.ret))
  (.skip)))
 (.seq (.reg [⟨(some 42), none, .fldA 2 (.t 1)⟩,
   ⟨(some 41), none, .ld (some 3) (.t 1)⟩,
   ⟨(some 43), none, .ld none (.t 42)⟩,
   ⟨(some 44), none, .len false (.t 43)⟩,
   ⟨(some 45), none, .mks 1 1 [(.p (.bool false))] (.t 44) (.t 44)⟩,
   ⟨none, none, .chk (some 3) 1 41⟩,
   ⟨(some 46), none, .bld [(.p (.int .i64 0)), (.p (.int .i64 0)), .nils, .nils, .nils, .nils, (.p (.int .i64 0))] [(0, 3, (.t 41)), (3, 1, (.t 45))]⟩,
   ⟨(some 47), none, .box 7 (.t 46)⟩,
   ⟨(some 7), none, .mov (.t 47)⟩])
 (.seq (.seq (.reg [⟨(some 8), none, .mov (.c (.p (.bool true)))⟩])
 (.blk 2 (.loop (.seq (.seq (.reg [⟨(some 48), none, .mov (.t 8)⟩])
 (.cond (.t 48)
  (.skip)
  (.exit 2)))
 (.blk 3 (.seq (.reg [⟨(some 8), none, .mov (.c (.p (.bool false)))⟩])
 (.seq (.reg [⟨(some 49), none, .mov (.t 7)⟩,
   ⟨(some 50), none, .call n_impl_layout_settle [(.t 49)]⟩])
 (.seq (.reg [⟨(some 51), none, .fldA 2 (.t 1)⟩,
   ⟨(some 52), none, .ld none (.t 51)⟩,
   ⟨(some 53), none, .len false (.t 52)⟩,
   ⟨(some 54), none, .mov (.c (.p (.int .i64 0)))⟩])
 (.blk 4 (.loop (.seq (.reg [⟨(some 55), none, .bin .lss (.t 54) (.t 53)⟩])
 (.seq (.cond (.t 55)
  (.skip)
  (.exit 4))
 (.seq (.blk 5 (.seq (.reg [⟨(some 56), none, .mov (.t 54)⟩,
   ⟨(some 57), none, .idxS 5 (.t 52) (.t 54)⟩,
   ⟨(some 58), none, .ld (some 5) (.t 57)⟩,
   ⟨(some 10), none, .alloc [(.p (.int .i64 0)), (.p (.int .i64 0)), (.p (.int .i64 0)), (.p (.int .i64 0)), (.p (.int .i64 0))]⟩,
   ⟨(some 9), none, .mov (.t 56)⟩,
   ⟨none, none, .st 5 (.t 10) (.t 58)⟩])
 (.seq (.reg [⟨(some 59), none, .fldA 0 (.t 10)⟩,
   ⟨(some 60), none, .ld none (.t 59)⟩,
   ⟨(some 61), none, .call n_impl_jumpOp [(.t 60)]⟩,
   ⟨(some 62), none, .mov (.t 61)⟩,
   ⟨(some 63), (some (62, true)), .mov (.t 7)⟩,
   ⟨(some 64), (some (62, true)), .nilck (.t 63)⟩,
   ⟨(some 65), (some (62, true)), .fldA 3 (.t 64)⟩,
   ⟨(some 66), (some (62, true)), .ld none (.t 65)⟩,
   ⟨(some 67), (some (62, true)), .mov (.t 9)⟩,
   ⟨(some 68), (some (62, true)), .idxS 1 (.t 66) (.t 67)⟩,
   ⟨(some 69), (some (62, true)), .ld none (.t 68)⟩,
   ⟨(some 70), (some (62, true)), .not (.t 69)⟩,
   ⟨(some 71), none, .pick (.t 62) (.t 70) (.c (.p (.bool false)))⟩,
   ⟨(some 72), none, .mov (.t 71)⟩,
   ⟨(some 73), (some (72, true)), .mov (.t 7)⟩,
   ⟨(some 74), (some (72, true)), .mov (.t 9)⟩,
   ⟨(some 75), (some (72, true)), .call n_impl_layout_offset [(.t 73), (.t 74)]⟩,
   ⟨(some 76), (some (72, true)), .call n_impl_within [(.t 75), (.c (.p (.int .i64 (-128)))), (.c (.p (.int .i64 127)))]⟩,
   ⟨(some 77), (some (72, true)), .not (.t 76)⟩,
   ⟨(some 78), none, .pick (.t 72) (.t 77) (.c (.p (.bool false)))⟩])
 (.cond (.t 78)
  (.reg [⟨(some 79), none, .mov (.t 7)⟩,
    ⟨(some 80), none, .nilck (.t 79)⟩,
    ⟨(some 81), none, .fldA 3 (.t 80)⟩,
    ⟨(some 82), none, .ld none (.t 81)⟩,
    ⟨(some 83), none, .mov (.t 9)⟩,
    ⟨(some 84), none, .idxS 1 (.t 82) (.t 83)⟩,
    ⟨none, none, .st 1 (.t 84) (.c (.p (.bool true)))⟩,
    ⟨(some 8), none, .mov (.c (.p (.bool true)))⟩])
  (.skip)))))
 (.reg [⟨(some 85), none, .bin .add (.t 54) (.c (.p (.int .i64 1)))⟩,
   ⟨(some 54), none, .mov (.t 85)⟩]))))))))))))))
 (.seq (.seq (.reg [⟨(some 86), none, .mov (.t 7)⟩,
   ⟨(some 87), none, .nilck (.t 86)⟩,
   ⟨(some 88), none, .fldA 6 (.t 87)⟩,
   ⟨(some 89), none, .ld none (.t 88)⟩,
   ⟨(some 90), none, .bin .gtr (.t 89) (.c (.p (.int .i64 8000)))⟩])
 (.cond (.t 90)
  (.seq (.reg [⟨(some 2), none, .mov (.c .nilp)⟩])
  (.ret))
  (.skip)))
 (.seq (.reg [⟨(some 91), none, .mov (.t 7)⟩,
   ⟨(some 2), none, .mov (.t 91)⟩])
 (.ret)))))))))⟩
theorem k_impl_layoutOf : compF Tryd.prog n_impl_layoutOf = some F_impl_layoutOf := by kernel_rfl
def F_impl_EncodeFn : FK := ⟨88, [.t 2, .t 3],
 .seq (.reg [⟨(some 1), none, .box 3 (.t 0)⟩,
   ⟨(some 2), none, .mov (.c .nils)⟩,
   ⟨(some 3), none, .mov (.c (.p (.bool false)))⟩])
 (.seq (.reg [⟨(some 10), none, .ld (some 3) (.t 1)⟩,
   ⟨(some 11), none, .call n_impl_layoutOf [(.t 10)]⟩,
   ⟨(some 4), none, .mov (.t 11)⟩])
 (.seq (.seq (.reg [⟨(some 12), none, .mov (.t 4)⟩,
   ⟨(some 13), none, .pnil 0 false (.t 12)⟩])
 (.cond (.t 13)
  (.seq (.reg [⟨(some 2), none, .mov (.c .nils)⟩,
    ⟨(some 3), none, .mov (.c (.p (.bool false)))⟩])
  (.ret))
  (.skip)))
 (.seq (.reg [⟨(some 5), none, .mov (.c .nils)⟩])
 (.seq (.seq (.reg [⟨(some 14), none, .fldA 2 (.t 1)⟩,
   ⟨(some 15), none, .ld none (.t 14)⟩,
   ⟨(some 16), none, .len false (.t 15)⟩,
   ⟨(some 17), none, .mov (.c (.p (.int .i64 0)))⟩])
 (.blk 0 (.loop (.seq (.reg [⟨(some 18), none, .bin .lss (.t 17) (.t 16)⟩])
 (.seq (.cond (.t 18)
  (.skip)
  (.exit 0))
 (.seq (.blk 1 (.seq (.reg [⟨(some 19), none, .mov (.t 17)⟩,
   ⟨(some 20), none, .idxS 5 (.t 15) (.t 17)⟩,
   ⟨(some 21), none, .ld (some 5) (.t 20)⟩,
   ⟨(some 7), none, .alloc [(.p (.int .i64 0)), (.p (.int .i64 0)), (.p (.int .i64 0)), (.p (.int .i64 0)), (.p (.int .i64 0))]⟩,
   ⟨(some 6), none, .mov (.t 19)⟩,
   ⟨none, none, .st 5 (.t 7) (.t 21)⟩])
 (.seq (.seq (.reg [⟨(some 22), none, .fldA 0 (.t 7)⟩,
   ⟨(some 23), none, .ld none (.t 22)⟩,
   ⟨(some 24), none, .call n_impl_jumpOp [(.t 23)]⟩,
   ⟨(some 25), none, .not (.t 24)⟩])
 (.cond (.t 25)
  (.seq (.reg [⟨(some 26), none, .mov (.t 5)⟩,
    ⟨(some 27), none, .ld (some 5) (.t 7)⟩,
    ⟨(some 28), none, .call n_impl_encoded [(.t 27)]⟩,
    ⟨(some 29), none, .app 1 1 (.t 26) (.t 28)⟩,
    ⟨(some 5), none, .mov (.t 29)⟩])
  (.exit 1))
  (.skip)))
 (.seq (.reg [⟨(some 30), none, .fldA 0 (.t 7)⟩,
   ⟨(some 31), none, .ld none (.t 30)⟩,
   ⟨(some 32), none, .conv .u8 (.t 31)⟩,
   ⟨(some 8), none, .mov (.t 32)⟩])
 (.seq (.seq (.reg [⟨(some 33), none, .mov (.t 4)⟩,
   ⟨(some 34), none, .nilck (.t 33)⟩,
   ⟨(some 35), none, .fldA 3 (.t 34)⟩,
   ⟨(some 36), none, .ld none (.t 35)⟩,
   ⟨(some 37), none, .mov (.t 6)⟩,
   ⟨(some 38), none, .idxS 1 (.t 36) (.t 37)⟩,
   ⟨(some 39), none, .ld none (.t 38)⟩])
 (.cond (.t 39)
  (.reg [⟨(some 40), none, .mov (.t 8)⟩,
    ⟨(some 41), none, .bin .add (.t 40) (.c (.p (.int .u8 128)))⟩,
    ⟨(some 8), none, .mov (.t 41)⟩])
  (.skip)))
 (.seq (.reg [⟨(some 42), none, .mov (.t 5)⟩,
   ⟨(some 43), none, .mov (.t 8)⟩,
   ⟨(some 44), none, .bsl 1 [(.p (.int .u8 0))] 1 [(0, 1, (.t 43))]⟩,
   ⟨(some 45), none, .app 1 1 (.t 42) (.t 44)⟩,
   ⟨(some 5), none, .mov (.t 45)⟩])
 (.seq (.seq (.reg [⟨(some 46), none, .fldA 0 (.t 7)⟩,
   ⟨(some 47), none, .ld none (.t 46)⟩,
   ⟨(some 48), none, .bin .eql (.t 47) (.c (.p (.int .i64 21)))⟩])
 (.cond (.t 48)
  (.reg [⟨(some 49), none, .mov (.t 5)⟩,
    ⟨(some 50), none, .fldA 1 (.t 7)⟩,
    ⟨(some 51), none, .ld none (.t 50)⟩,
    ⟨(some 52), none, .conv .u8 (.t 51)⟩,
    ⟨(some 53), none, .bsl 1 [(.p (.int .u8 0))] 1 [(0, 1, (.t 52))]⟩,
    ⟨(some 54), none, .app 1 1 (.t 49) (.t 53)⟩,
    ⟨(some 5), none, .mov (.t 54)⟩])
  (.skip)))
 (.seq (.reg [⟨(some 55), none, .mov (.t 4)⟩,
   ⟨(some 56), none, .nilck (.t 55)⟩,
   ⟨(some 57), none, .fldA 5 (.t 56)⟩,
   ⟨(some 59), none, .fldA 4 (.t 7)⟩,
   ⟨(some 58), none, .ld none (.t 57)⟩,
   ⟨(some 60), none, .ld none (.t 59)⟩,
   ⟨(some 61), none, .idxS 1 (.t 58) (.t 60)⟩,
   ⟨(some 62), none, .ld none (.t 61)⟩,
   ⟨(some 9), none, .mov (.t 62)⟩])
 (.seq (.reg [⟨(some 63), none, .mov (.t 4)⟩,
   ⟨(some 64), none, .nilck (.t 63)⟩,
   ⟨(some 65), none, .fldA 3 (.t 64)⟩,
   ⟨(some 66), none, .ld none (.t 65)⟩,
   ⟨(some 67), none, .mov (.t 6)⟩,
   ⟨(some 68), none, .idxS 1 (.t 66) (.t 67)⟩,
   ⟨(some 69), none, .ld none (.t 68)⟩])
 (.cond (.t 69)
  (.reg [⟨(some 70), none, .mov (.t 5)⟩,
    ⟨(some 71), none, .mov (.t 9)⟩,
    ⟨(some 72), none, .bin .rem (.t 71) (.c (.p (.int .i64 256)))⟩,
    ⟨(some 73), none, .conv .u8 (.t 72)⟩,
    ⟨(some 74), none, .mov (.t 9)⟩,
    ⟨(some 75), none, .bin .quo (.t 74) (.c (.p (.int .i64 256)))⟩,
    ⟨(some 76), none, .conv .u8 (.t 75)⟩,
    ⟨(some 77), none, .bsl 1 [(.p (.int .u8 0))] 2 [(0, 1, (.t 73)), (1, 1, (.t 76))]⟩,
    ⟨(some 78), none, .app 1 1 (.t 70) (.t 77)⟩,
    ⟨(some 5), none, .mov (.t 78)⟩])
  (.reg [⟨(some 79), none, .mov (.t 5)⟩,
    ⟨(some 80), none, .mov (.t 4)⟩,
    ⟨(some 81), none, .mov (.t 6)⟩,
    ⟨(some 82), none, .call n_impl_layout_offset [(.t 80), (.t 81)]⟩,
    ⟨(some 83), none, .conv .u8 (.t 82)⟩,
    ⟨(some 84), none, .bsl 1 [(.p (.int .u8 0))] 1 [(0, 1, (.t 83))]⟩,
    ⟨(some 85), none, .app 1 1 (.t 79) (.t 84)⟩,
    ⟨(some 5), none, .mov (.t 85)⟩])))))))))))
 (.reg [⟨(some 86), none, .bin .add (.t 17) (.c (.p (.int .i64 1)))⟩,
   ⟨(some 17), none, .mov (.t 86)⟩])))))))
 (.seq (.reg [⟨(some 87), none, .mov (.t 5)⟩,
   ⟨(some 2), none, .mov (.t 87)⟩,
   ⟨(some 3), none, .mov (.c (.p (.bool true)))⟩])
 (.ret))))))⟩
theorem k_impl_EncodeFn : compF Tryd.prog n_impl_EncodeFn = some F_impl_EncodeFn := by kernel_rfl
end Go.Proofs.YtbbobekgnclkfaaDoor
namespace Go.Proofs.YtbbobekgnclkfaaDoor
open Go Go.Aw
set_option maxRecDepth 100000
abbrev n_bytes_Equal : FuncId := 52
abbrev n_impl_mapped_int : FuncId := 128
abbrev n_impl_decoded_1 : FuncId := 129
abbrev n_impl_decoded : FuncId := 101
abbrev n_impl_DecodeFn : FuncId := 51
def F_bytes_Equal : FK := ⟨10, [.t 4],
 .seq (.reg [⟨(some 4), none, .mov (.c (.p (.bool false)))⟩])
 (.seq (.reg [⟨(some 5), none, .mov (.t 0)⟩,
   ⟨(some 6), none, .btos (.t 5)⟩,
   ⟨(some 7), none, .mov (.t 1)⟩,
   ⟨(some 8), none, .btos (.t 7)⟩,
   ⟨(some 9), none, .bins .eql (.t 6) (.t 8)⟩,
   ⟨(some 4), none, .mov (.t 9)⟩])
 (.ret))⟩
theorem k_bytes_Equal : compF Tryd.prog n_bytes_Equal = some F_bytes_Equal := by kernel_rfl
def F_impl_mapped_int : FK := ⟨22, [.t 4],
 .seq (.reg [⟨(some 4), none, .mov (.c .nils)⟩])
 (.seq (.reg [⟨(some 5), none, .mov (.c .nils)⟩])
 (.seq (.seq (.reg [⟨(some 8), none, .mov (.t 0)⟩,
   ⟨(some 9), none, .len false (.t 8)⟩,
   ⟨(some 10), none, .mov (.c (.p (.int .i64 0)))⟩])
 (.blk 0 (.loop (.seq (.reg [⟨(some 11), none, .bin .lss (.t 10) (.t 9)⟩])
 (.seq (.cond (.t 11)
  (.skip)
  (.exit 0))
 (.seq (.blk 1 (.seq (.reg [⟨(some 12), none, .idxS 1 (.t 8) (.t 10)⟩,
   ⟨(some 13), none, .ld none (.t 12)⟩,
   ⟨(some 7), none, .mov (.t 13)⟩])
 (.reg [⟨(some 14), none, .mov (.t 5)⟩,
   ⟨(some 15), none, .mov (.t 1)⟩,
   ⟨(some 16), none, .mov (.t 7)⟩,
   ⟨(some 17), none, .callv (.t 15) [(.t 16)]⟩,
   ⟨(some 18), none, .bsl 1 [(.p (.int .i64 0))] 1 [(0, 1, (.t 17))]⟩,
   ⟨(some 19), none, .app 1 8 (.t 14) (.t 18)⟩,
   ⟨(some 5), none, .mov (.t 19)⟩])))
 (.reg [⟨(some 20), none, .bin .add (.t 10) (.c (.p (.int .i64 1)))⟩,
   ⟨(some 10), none, .mov (.t 20)⟩])))))))
 (.seq (.reg [⟨(some 21), none, .mov (.t 5)⟩,
   ⟨(some 4), none, .mov (.t 21)⟩])
 (.ret))))⟩
theorem k_impl_mapped_int : compF Tryd.prog n_impl_mapped_int = some F_impl_mapped_int := by kernel_rfl
def F_impl_decoded_1 : FK := ⟨5, [.t 2],
 .seq (.reg [⟨(some 2), none, .mov (.c (.p (.int .i64 0)))⟩])
 (.seq (.reg [⟨(some 3), none, .mov (.t 0)⟩,
   ⟨(some 4), none, .conv .i64 (.t 3)⟩,
   ⟨(some 2), none, .mov (.t 4)⟩])
 (.ret))⟩
theorem k_impl_decoded_1 : compF Tryd.prog n_impl_decoded_1 = some F_impl_decoded_1 := by kernel_rfl
def F_impl_decoded : FK := ⟨145, [.c 4 (some 5), .t 5],
 .seq (.reg [⟨(some 4), none, .alloc [(.p (.int .i64 0)), (.p (.int .i64 0)), (.p (.int .i64 0)), (.p (.int .i64 0)), (.p (.int .i64 0))]⟩,
   ⟨(some 5), none, .mov (.c (.p (.int .i64 0)))⟩])
 (.seq (.reg [⟨(some 12), none, .mov (.t 0)⟩,
   ⟨(some 13), none, .mov (.t 1)⟩,
   ⟨(some 14), none, .slS 1 (.t 12) (some (.t 13)) none⟩,
   ⟨(some 6), none, .mov (.t 14)⟩])
 (.seq (.reg [⟨(some 15), none, .mov (.t 6)⟩,
   ⟨(some 16), none, .idxS 1 (.t 15) (.c (.p (.int .i64 0)))⟩,
   ⟨(some 17), none, .ld none (.t 16)⟩,
   ⟨(some 18), none, .conv .i64 (.t 17)⟩,
   ⟨(some 7), none, .mov (.t 18)⟩])
 (.seq (.reg [⟨(some 19), none, .mov (.t 7)⟩,
   ⟨(some 20), none, .bin .geq (.t 19) (.c (.p (.int .i64 128)))⟩,
   ⟨(some 8), none, .mov (.t 20)⟩])
 (.seq (.seq (.reg [⟨(some 21), none, .mov (.t 8)⟩])
 (.cond (.t 21)
  (.reg [⟨(some 22), none, .mov (.t 7)⟩,
    ⟨(some 23), none, .bin .sub (.t 22) (.c (.p (.int .i64 128)))⟩,
    ⟨(some 7), none, .mov (.t 23)⟩])
  (.skip)))
 (.seq (.seq (.reg [⟨(some 24), none, .mov (.t 7)⟩,
   ⟨(some 25), none, .call n_impl_within [(.t 24), (.c (.p (.int .i64 1))), (.c (.p (.int .i64 22)))]⟩,
   ⟨(some 26), none, .not (.t 25)⟩,
   ⟨(some 27), none, .mov (.t 26)⟩,
   ⟨(some 28), (some (27, false)), .mov (.t 8)⟩,
   ⟨(some 29), (some (27, false)), .mov (.t 28)⟩,
   ⟨(some 30), (some (29, true)), .mov (.t 7)⟩,
   ⟨(some 31), (some (29, true)), .call n_impl_jumpOp [(.t 30)]⟩,
   ⟨(some 32), (some (29, true)), .not (.t 31)⟩,
   ⟨(some 33), (some (27, false)), .pick (.t 29) (.t 32) (.c (.p (.bool false)))⟩,
   ⟨(some 34), none, .pick (.t 27) (.c (.p (.bool true))) (.t 33)⟩])
 (.cond (.t 34)
  (.seq (.reg [⟨(some 35), none, .bld [(.p (.int .i64 0)), (.p (.int .i64 0)), (.p (.int .i64 0)), (.p (.int .i64 0)), (.p (.int .i64 0))] []⟩,
    ⟨none, none, .st 5 (.t 4) (.t 35)⟩,
    ⟨(some 5), none, .mov (.c (.p (.int .i64 0)))⟩])
  (.ret))
  (.skip)))
 (.seq (.reg [⟨(some 36), none, .mov (.t 7)⟩,
   ⟨(some 37), none, .bld [(.p (.int .i64 0)), (.p (.int .i64 0)), (.p (.int .i64 0)), (.p (.int .i64 0)), (.p (.int .i64 0))] [(0, 1, (.t 36))]⟩,
   ⟨(some 9), none, .alloc [(.p (.int .i64 0)), (.p (.int .i64 0)), (.p (.int .i64 0)), (.p (.int .i64 0)), (.p (.int .i64 0))]⟩,
   ⟨none, none, .st 5 (.t 9) (.t 37)⟩])
 (.seq (.reg [⟨(some 38), none, .mkm⟩,
   ⟨none, none, .mup 0 (.t 38) (.c (.p (.int .i64 0))) (.c (.p (.int .i64 3)))⟩,
   ⟨none, none, .mup 0 (.t 38) (.c (.p (.int .i64 1))) (.c (.p (.int .i64 2)))⟩,
   ⟨none, none, .mup 0 (.t 38) (.c (.p (.int .i64 2))) (.c (.p (.int .i64 3)))⟩,
   ⟨none, none, .mup 0 (.t 38) (.c (.p (.int .i64 3))) (.c (.p (.int .i64 2)))⟩,
   ⟨none, none, .mup 0 (.t 38) (.c (.p (.int .i64 4))) (.c (.p (.int .i64 2)))⟩,
   ⟨none, none, .mup 0 (.t 38) (.c (.p (.int .i64 5))) (.c (.p (.int .i64 2)))⟩,
   ⟨(some 39), none, .mov (.t 38)⟩,
   ⟨(some 40), none, .mov (.t 7)⟩,
   ⟨(some 41), none, .call n_impl_shapeOf [(.t 40)]⟩,
   ⟨(some 42), none, .lk 0 (.p (.int .i64 0)) false (.t 39) (.t 41)⟩,
   ⟨(some 10), none, .mov (.t 42)⟩])
 (.seq (.seq (.reg [⟨(some 43), none, .mov (.t 7)⟩,
   ⟨(some 44), none, .bin .eql (.t 43) (.c (.p (.int .i64 21)))⟩])
 (.cond (.t 44)
  (.reg [⟨(some 45), none, .mov (.t 10)⟩,
    ⟨(some 46), none, .bin .add (.t 45) (.c (.p (.int .i64 1)))⟩,
    ⟨(some 10), none, .mov (.t 46)⟩])
  (.skip)))
 (.seq (.seq (.reg [⟨(some 47), none, .mov (.t 8)⟩])
 (.cond (.t 47)
  (.reg [⟨(some 48), none, .mov (.t 10)⟩,
    ⟨(some 49), none, .bin .add (.t 48) (.c (.p (.int .i64 1)))⟩,
    ⟨(some 10), none, .mov (.t 49)⟩])
  (.skip)))
 (.seq (.seq (.reg [⟨(some 50), none, .mov (.t 6)⟩,
   ⟨(some 51), none, .len false (.t 50)⟩,
   ⟨(some 52), none, .mov (.t 10)⟩,
   ⟨(some 53), none, .bin .lss (.t 51) (.t 52)⟩])
 (.cond (.t 53)
  (.seq (.reg [⟨(some 54), none, .bld [(.p (.int .i64 0)), (.p (.int .i64 0)), (.p (.int .i64 0)), (.p (.int .i64 0)), (.p (.int .i64 0))] []⟩,
    ⟨none, none, .st 5 (.t 4) (.t 54)⟩,
    ⟨(some 5), none, .mov (.c (.p (.int .i64 0)))⟩])
  (.ret))
  (.skip)))
 (.seq (.reg [⟨(some 55), none, .mov (.t 6)⟩,
   ⟨(some 56), none, .mov (.t 10)⟩,
   ⟨(some 57), none, .slS 1 (.t 55) none (some (.t 56))⟩,
   ⟨(some 58), none, .call n_impl_mapped_int [(.t 57), (.c (.fn (.func n_impl_decoded_1) []))]⟩,
   ⟨(some 11), none, .mov (.t 58)⟩])
 (.seq (.seq (.reg [⟨(some 59), none, .mov (.t 7)⟩,
   ⟨(some 60), none, .call n_impl_shapeOf [(.t 59)]⟩])
 (.blk 0 (.seq (.reg [⟨(some 94), none, .bin .eql (.t 60) (.c (.p (.int .i64 0)))⟩,
   ⟨(some 93), none, .mov (.t 94)⟩])
 (.cond (.t 93)
  (.reg [⟨(some 95), none, .mov (.t 11)⟩,
    ⟨(some 96), none, .idxS 1 (.t 95) (.c (.p (.int .i64 1)))⟩,
    ⟨(some 98), none, .mov (.t 11)⟩,
    ⟨(some 99), none, .idxS 1 (.t 98) (.c (.p (.int .i64 2)))⟩,
    ⟨(some 97), none, .ld none (.t 96)⟩,
    ⟨(some 101), none, .fldA 1 (.t 9)⟩,
    ⟨(some 100), none, .ld none (.t 99)⟩,
    ⟨none, none, .st 1 (.t 101) (.t 97)⟩,
    ⟨none, none, .chk none 99 100⟩,
    ⟨(some 102), none, .fldA 4 (.t 9)⟩,
    ⟨none, none, .st 1 (.t 102) (.t 100)⟩])
  (.seq (.reg [⟨(some 104), none, .bin .eql (.t 60) (.c (.p (.int .i64 1)))⟩,
    ⟨(some 103), none, .mov (.t 104)⟩])
  (.cond (.t 103)
   (.reg [⟨(some 105), none, .mov (.t 11)⟩,
     ⟨(some 106), none, .idxS 1 (.t 105) (.c (.p (.int .i64 1)))⟩,
     ⟨(some 109), none, .mov (.t 11)⟩,
     ⟨(some 110), none, .idxS 1 (.t 109) (.c (.p (.int .i64 1)))⟩,
     ⟨(some 107), none, .ld none (.t 106)⟩,
     ⟨(some 108), none, .bin .rem (.t 107) (.c (.p (.int .i64 8)))⟩,
     ⟨(some 113), none, .fldA 1 (.t 9)⟩,
     ⟨(some 111), none, .ld none (.t 110)⟩,
     ⟨(some 112), none, .bin .quo (.t 111) (.c (.p (.int .i64 8)))⟩,
     ⟨none, none, .st 1 (.t 113) (.t 108)⟩,
     ⟨none, none, .chk none 110 111⟩,
     ⟨(some 114), none, .fldA 2 (.t 9)⟩,
     ⟨none, none, .st 1 (.t 114) (.t 112)⟩])
   (.seq (.reg [⟨(some 116), none, .bin .eql (.t 60) (.c (.p (.int .i64 2)))⟩,
     ⟨(some 115), none, .mov (.t 116)⟩])
   (.cond (.t 115)
    (.reg [⟨(some 117), none, .mov (.t 11)⟩,
      ⟨(some 118), none, .idxS 1 (.t 117) (.c (.p (.int .i64 1)))⟩,
      ⟨(some 121), none, .mov (.t 11)⟩,
      ⟨(some 122), none, .idxS 1 (.t 121) (.c (.p (.int .i64 1)))⟩,
      ⟨(some 125), none, .mov (.t 11)⟩,
      ⟨(some 126), none, .idxS 1 (.t 125) (.c (.p (.int .i64 2)))⟩,
      ⟨(some 119), none, .ld none (.t 118)⟩,
      ⟨(some 120), none, .bin .rem (.t 119) (.c (.p (.int .i64 8)))⟩,
      ⟨(some 128), none, .fldA 1 (.t 9)⟩,
      ⟨(some 123), none, .ld none (.t 122)⟩,
      ⟨(some 124), none, .bin .quo (.t 123) (.c (.p (.int .i64 8)))⟩,
      ⟨(some 127), none, .ld none (.t 126)⟩,
      ⟨none, none, .st 1 (.t 128) (.t 120)⟩,
      ⟨none, none, .chk none 122 123⟩,
      ⟨none, none, .chk none 126 127⟩,
      ⟨(some 129), none, .fldA 2 (.t 9)⟩,
      ⟨none, none, .st 1 (.t 129) (.t 124)⟩,
      ⟨none, none, .chk none 126 127⟩,
      ⟨(some 130), none, .fldA 3 (.t 9)⟩,
      ⟨none, none, .st 1 (.t 130) (.t 127)⟩])
    (.seq (.reg [⟨(some 132), none, .bin .eql (.t 60) (.c (.p (.int .i64 3)))⟩,
      ⟨(some 131), none, .mov (.t 132)⟩])
    (.cond (.t 131)
     (.reg [⟨(some 133), none, .mov (.t 11)⟩,
       ⟨(some 134), none, .idxS 1 (.t 133) (.c (.p (.int .i64 1)))⟩,
       ⟨(some 135), none, .ld none (.t 134)⟩,
       ⟨(some 136), none, .fldA 1 (.t 9)⟩,
       ⟨none, none, .st 1 (.t 136) (.t 135)⟩])
     (.seq (.reg [⟨(some 138), none, .bin .eql (.t 60) (.c (.p (.int .i64 4)))⟩,
       ⟨(some 137), none, .mov (.t 138)⟩])
     (.cond (.t 137)
      (.reg [⟨(some 139), none, .mov (.t 11)⟩,
        ⟨(some 140), none, .idxS 1 (.t 139) (.c (.p (.int .i64 1)))⟩,
        ⟨(some 141), none, .ld none (.t 140)⟩,
        ⟨(some 142), none, .fldA 4 (.t 9)⟩,
        ⟨none, none, .st 1 (.t 142) (.t 141)⟩])
      (.seq (.seq (.reg [⟨(some 61), none, .mov (.t 7)⟩,
        ⟨(some 62), none, .bin .eql (.t 61) (.c (.p (.int .i64 21)))⟩])
      (.cond (.t 62)
       (.reg [⟨(some 63), none, .mov (.t 11)⟩,
         ⟨(some 64), none, .idxS 1 (.t 63) (.c (.p (.int .i64 1)))⟩,
         ⟨(some 65), none, .ld none (.t 64)⟩,
         ⟨(some 66), none, .fldA 1 (.t 9)⟩,
         ⟨none, none, .st 1 (.t 66) (.t 65)⟩])
       (.skip)))
      (.seq (.reg [⟨(some 67), none, .mov (.t 8)⟩])
      (.cond (.t 67)
       (.reg [⟨(some 68), none, .mov (.t 11)⟩,
         ⟨(some 69), none, .mov (.t 10)⟩,
         ⟨(some 70), none, .bin .sub (.t 69) (.c (.p (.int .i64 2)))⟩,
         ⟨(some 71), none, .idxS 1 (.t 68) (.t 70)⟩,
         ⟨(some 73), none, .mov (.t 11)⟩,
         ⟨(some 74), none, .mov (.t 10)⟩,
         ⟨(some 75), none, .bin .sub (.t 74) (.c (.p (.int .i64 1)))⟩,
         ⟨(some 76), none, .idxS 1 (.t 73) (.t 75)⟩,
         ⟨(some 72), none, .ld none (.t 71)⟩,
         ⟨(some 77), none, .ld none (.t 76)⟩,
         ⟨(some 78), none, .bin .mul (.c (.p (.int .i64 256))) (.t 77)⟩,
         ⟨(some 79), none, .bin .add (.t 72) (.t 78)⟩,
         ⟨(some 80), none, .fldA 4 (.t 9)⟩,
         ⟨none, none, .st 1 (.t 80) (.t 79)⟩])
       (.reg [⟨(some 81), none, .mov (.t 1)⟩,
         ⟨(some 82), none, .mov (.t 10)⟩,
         ⟨(some 83), none, .bin .add (.t 81) (.t 82)⟩,
         ⟨(some 84), none, .mov (.t 6)⟩,
         ⟨(some 85), none, .mov (.t 10)⟩,
         ⟨(some 86), none, .bin .sub (.t 85) (.c (.p (.int .i64 1)))⟩,
         ⟨(some 87), none, .idxS 1 (.t 84) (.t 86)⟩,
         ⟨(some 88), none, .ld none (.t 87)⟩,
         ⟨(some 89), none, .conv .i8 (.t 88)⟩,
         ⟨(some 90), none, .conv .i64 (.t 89)⟩,
         ⟨(some 91), none, .bin .add (.t 83) (.t 90)⟩,
         ⟨(some 92), none, .fldA 4 (.t 9)⟩,
         ⟨none, none, .st 1 (.t 92) (.t 91)⟩]))))))))))))))))
 (.seq (.reg [⟨(some 143), none, .ld (some 5) (.t 9)⟩,
   ⟨(some 144), none, .mov (.t 10)⟩,
   ⟨none, none, .st 5 (.t 4) (.t 143)⟩,
   ⟨(some 5), none, .mov (.t 144)⟩])
 (.ret))))))))))))))⟩
theorem k_impl_decoded : compF Tryd.prog n_impl_decoded = some F_impl_decoded := by kernel_rfl
def F_impl_DecodeFn : FK := ⟨93, [.c 6 (some 3), .t 7],
 .seq (.reg [⟨(some 6), none, .alloc [(.p (.int .i64 0)), (.p (.int .i64 0)), .nils]⟩,
   ⟨(some 7), none, .mov (.c (.p (.bool false)))⟩])
 (.seq (.reg [⟨(some 19), none, .mov (.t 0)⟩,
   ⟨(some 20), none, .mov (.t 1)⟩,
   ⟨(some 21), none, .bld [(.p (.int .i64 0)), (.p (.int .i64 0)), .nils] [(0, 1, (.t 19)), (1, 1, (.t 20))]⟩,
   ⟨(some 8), none, .alloc [(.p (.int .i64 0)), (.p (.int .i64 0)), .nils]⟩,
   ⟨none, none, .st 3 (.t 8) (.t 21)⟩])
 (.seq (.reg [⟨(some 22), none, .mkm⟩,
   ⟨(some 9), none, .mov (.t 22)⟩])
 (.seq (.seq (.reg [⟨(some 10), none, .mov (.c (.p (.int .i64 0)))⟩])
 (.blk 0 (.loop (.seq (.seq (.reg [⟨(some 23), none, .mov (.t 10)⟩,
   ⟨(some 24), none, .mov (.t 2)⟩,
   ⟨(some 25), none, .len false (.t 24)⟩,
   ⟨(some 26), none, .bin .lss (.t 23) (.t 25)⟩])
 (.cond (.t 26)
  (.skip)
  (.exit 0)))
 (.blk 1 (.seq (.reg [⟨(some 28), none, .mov (.t 2)⟩,
   ⟨(some 29), none, .mov (.t 10)⟩,
   ⟨(some 30), none, .call n_impl_decoded [(.t 28), (.t 29)]⟩,
   ⟨(some 27), none, .mov (.t 30)⟩,
   ⟨(some 31), none, .ext 0 (.t 27)⟩,
   ⟨(some 32), none, .ext 1 (.t 27)⟩,
   ⟨(some 11), none, .alloc [(.p (.int .i64 0)), (.p (.int .i64 0)), (.p (.int .i64 0)), (.p (.int .i64 0)), (.p (.int .i64 0))]⟩,
   ⟨none, none, .st 5 (.t 11) (.t 31)⟩,
   ⟨(some 12), none, .mov (.t 32)⟩])
 (.seq (.seq (.reg [⟨(some 33), none, .mov (.t 12)⟩,
   ⟨(some 34), none, .bin .eql (.t 33) (.c (.p (.int .i64 0)))⟩])
 (.cond (.t 34)
  (.seq (.reg [⟨(some 35), none, .bld [(.p (.int .i64 0)), (.p (.int .i64 0)), .nils] []⟩,
    ⟨none, none, .st 3 (.t 6) (.t 35)⟩,
    ⟨(some 7), none, .mov (.c (.p (.bool false)))⟩])
  (.ret))
  (.skip)))
 (.seq (.reg [⟨(some 36), none, .mov (.t 9)⟩,
   ⟨(some 37), none, .mov (.t 10)⟩,
   ⟨(some 38), none, .fldA 2 (.t 8)⟩,
   ⟨(some 39), none, .ld none (.t 38)⟩,
   ⟨(some 40), none, .len false (.t 39)⟩,
   ⟨none, none, .mup 0 (.t 36) (.t 37) (.t 40)⟩])
 (.seq (.reg [⟨(some 41), none, .fldA 2 (.t 8)⟩,
   ⟨(some 42), none, .ld none (.t 41)⟩,
   ⟨(some 43), none, .ld (some 5) (.t 11)⟩,
   ⟨(some 44), none, .bsl 5 [(.p (.int .i64 0)), (.p (.int .i64 0)), (.p (.int .i64 0)), (.p (.int .i64 0)), (.p (.int .i64 0))] 1 [(0, 5, (.t 43))]⟩,
   ⟨(some 45), none, .app 5 40 (.t 42) (.t 44)⟩,
   ⟨(some 46), none, .fldA 2 (.t 8)⟩,
   ⟨none, none, .st 1 (.t 46) (.t 45)⟩])
 (.reg [⟨(some 47), none, .mov (.t 10)⟩,
   ⟨(some 48), none, .mov (.t 12)⟩,
   ⟨(some 49), none, .bin .add (.t 47) (.t 48)⟩,
   ⟨(some 10), none, .mov (.t 49)⟩]))))))))))
 (.seq (.seq (.reg [⟨(some 50), none, .fldA 2 (.t 8)⟩,
   ⟨(some 51), none, .ld none (.t 50)⟩,
   ⟨(some 52), none, .len false (.t 51)⟩,
   ⟨(some 53), none, .mov (.c (.p (.int .i64 0)))⟩])
 (.blk 2 (.loop (.seq (.reg [⟨(some 54), none, .bin .lss (.t 53) (.t 52)⟩])
 (.seq (.cond (.t 54)
  (.skip)
  (.exit 2))
 (.seq (.blk 3 (.seq (.reg [⟨(some 55), none, .mov (.t 53)⟩,
   ⟨(some 56), none, .idxS 5 (.t 51) (.t 53)⟩,
   ⟨(some 57), none, .ld (some 5) (.t 56)⟩,
   ⟨(some 14), none, .alloc [(.p (.int .i64 0)), (.p (.int .i64 0)), (.p (.int .i64 0)), (.p (.int .i64 0)), (.p (.int .i64 0))]⟩,
   ⟨(some 13), none, .mov (.t 55)⟩,
   ⟨none, none, .st 5 (.t 14) (.t 57)⟩])
 (.seq (.reg [⟨(some 58), none, .fldA 0 (.t 14)⟩,
   ⟨(some 59), none, .ld none (.t 58)⟩,
   ⟨(some 60), none, .call n_impl_jumpOp [(.t 59)]⟩])
 (.cond (.t 60)
  (.seq (.reg [⟨(some 62), none, .mov (.t 9)⟩,
    ⟨(some 63), none, .fldA 4 (.t 14)⟩,
    ⟨(some 64), none, .ld none (.t 63)⟩,
    ⟨(some 65), none, .lk 0 (.p (.int .i64 0)) true (.t 62) (.t 64)⟩,
    ⟨(some 61), none, .mov (.t 65)⟩,
    ⟨(some 66), none, .ext 0 (.t 61)⟩,
    ⟨(some 67), none, .ext 1 (.t 61)⟩,
    ⟨(some 15), none, .mov (.t 66)⟩,
    ⟨(some 16), none, .mov (.t 67)⟩])
  (.seq (.seq (.reg [⟨(some 68), none, .mov (.t 16)⟩,
    ⟨(some 69), none, .not (.t 68)⟩])
  (.cond (.t 69)
   (.seq (.reg [⟨(some 70), none, .bld [(.p (.int .i64 0)), (.p (.int .i64 0)), .nils] []⟩,
     ⟨none, none, .st 3 (.t 6) (.t 70)⟩,
     ⟨(some 7), none, .mov (.c (.p (.bool false)))⟩])
   (.ret))
   (.skip)))
  (.reg [⟨(some 71), none, .fldA 2 (.t 8)⟩,
    ⟨(some 72), none, .ld none (.t 71)⟩,
    ⟨(some 73), none, .mov (.t 13)⟩,
    ⟨(some 74), none, .mov (.t 15)⟩,
    ⟨(some 75), none, .idxS 5 (.t 72) (.t 73)⟩,
    ⟨(some 76), none, .fldA 4 (.t 75)⟩,
    ⟨none, none, .st 1 (.t 76) (.t 74)⟩])))
  (.skip)))))
 (.reg [⟨(some 77), none, .bin .add (.t 53) (.c (.p (.int .i64 1)))⟩,
   ⟨(some 53), none, .mov (.t 77)⟩])))))))
 (.seq (.seq (.reg [⟨(some 79), none, .ld (some 3) (.t 8)⟩,
   ⟨(some 80), none, .call n_impl_EncodeFn [(.t 79)]⟩,
   ⟨(some 78), none, .mov (.t 80)⟩,
   ⟨(some 81), none, .ext 0 (.t 78)⟩,
   ⟨(some 82), none, .ext 1 (.t 78)⟩,
   ⟨(some 17), none, .mov (.t 81)⟩,
   ⟨(some 18), none, .mov (.t 82)⟩])
 (.seq (.reg [⟨(some 83), none, .mov (.t 18)⟩,
   ⟨(some 84), none, .not (.t 83)⟩,
   ⟨(some 85), none, .mov (.t 84)⟩,
   ⟨(some 86), (some (85, false)), .mov (.t 17)⟩,
   ⟨(some 87), (some (85, false)), .mov (.t 2)⟩,
   ⟨(some 88), (some (85, false)), .call n_bytes_Equal [(.t 86), (.t 87)]⟩,
   ⟨(some 89), (some (85, false)), .not (.t 88)⟩,
   ⟨(some 90), none, .pick (.t 85) (.c (.p (.bool true))) (.t 89)⟩])
 (.cond (.t 90)
  (.seq (.reg [⟨(some 91), none, .bld [(.p (.int .i64 0)), (.p (.int .i64 0)), .nils] []⟩,
    ⟨none, none, .st 3 (.t 6) (.t 91)⟩,
    ⟨(some 7), none, .mov (.c (.p (.bool false)))⟩])
  (.ret))
  (.skip))))
 (.seq (.reg [⟨(some 92), none, .ld (some 3) (.t 8)⟩,
   ⟨none, none, .st 3 (.t 6) (.t 92)⟩,
   ⟨(some 7), none, .mov (.c (.p (.bool true)))⟩])
 (.ret)))))))⟩
theorem k_impl_DecodeFn : compF Tryd.prog n_impl_DecodeFn = some F_impl_DecodeFn := by kernel_rfl
end Go.Proofs.YtbbobekgnclkfaaDoor
namespace Go.Proofs.YtbbobekgnclkfaaDoor
open Go Go.Aw
set_option maxRecDepth 100000
abbrev n_spec_l30Find : FuncId := 142
abbrev n_spec_l1Class : FuncId := 136
abbrev n_spec_l1All : FuncId := 116
abbrev n_spec_KeyWords : FuncId := 137
abbrev n_spec_l1Key : FuncId := 117
abbrev n_spec_IsName : FuncId := 71
abbrev n_spec_MinsPlaces : FuncId := 111
abbrev n_spec_l26Calls : FuncId := 67
abbrev n_strings_indexFunc : FuncId := 131
abbrev n_strings_IndexFunc : FuncId := 104
abbrev n_slices_Index_string : FuncId := 106
abbrev n_slices_Contains_string : FuncId := 60
abbrev n_impl_IsName_1 : FuncId := 105
abbrev n_impl_IsName : FuncId := 59
abbrev n_slices_Clone_impl_Mins : FuncId := 133
abbrev n_impl_cloneMfn : FuncId := 109
abbrev n_impl_blank : FuncId := 62
abbrev n_slices_Equal_impl_Mins : FuncId := 134
abbrev n_impl_sameMfn : FuncId := 112
abbrev n_impl_MinsPlaces : FuncId := 110
abbrev n_impl_callBytes : FuncId := 63
abbrev n_slices_Equal_int : FuncId := 113
abbrev n_slices_IndexFunc_string : FuncId := 135
abbrev n_slices_ContainsFunc_string : FuncId := 114
abbrev n_impl_fnOf_1 : FuncId := 115
abbrev n_impl_fnOf : FuncId := 68
abbrev n_impl_ObjectValid : FuncId := 26
abbrev n_laws_eqIntS : FuncId := 74
def F_spec_l30Find : FK := ⟨18, [.t 4],
 .seq (.reg [⟨(some 4), none, .mov (.c (.p (.int .i64 0)))⟩])
 (.seq (.seq (.reg [⟨(some 5), none, .mov (.c (.p (.int .i64 0)))⟩])
 (.blk 0 (.loop (.seq (.seq (.reg [⟨(some 6), none, .mov (.t 5)⟩,
   ⟨(some 7), none, .mov (.t 0)⟩,
   ⟨(some 8), none, .len true (.t 7)⟩,
   ⟨(some 9), none, .bin .lss (.t 6) (.t 8)⟩])
 (.cond (.t 9)
  (.skip)
  (.exit 0)))
 (.seq (.blk 1 (.seq (.reg [⟨(some 12), none, .mov (.t 0)⟩,
   ⟨(some 13), none, .mov (.t 5)⟩,
   ⟨(some 14), none, .idxStr (.t 12) (.t 13)⟩,
   ⟨(some 15), none, .mov (.t 1)⟩,
   ⟨(some 16), none, .bin .eql (.t 14) (.t 15)⟩])
 (.cond (.t 16)
  (.seq (.reg [⟨(some 17), none, .mov (.t 5)⟩,
    ⟨(some 4), none, .mov (.t 17)⟩])
  (.ret))
  (.skip))))
 (.reg [⟨(some 10), none, .mov (.t 5)⟩,
   ⟨(some 11), none, .bin .add (.t 10) (.c (.p (.int .i64 1)))⟩,
   ⟨(some 5), none, .mov (.t 11)⟩]))))))
 (.seq (.reg [⟨(some 4), none, .mov (.c (.p (.int .i64 (-1))))⟩])
 (.ret)))⟩
theorem k_spec_l30Find : compF Tryd.prog n_spec_l30Find = some F_spec_l30Find := by kernel_rfl
def F_spec_l1Class : FK := ⟨28, [.t 2],
 .seq (.reg [⟨(some 2), none, .mov (.c (.p (.int .i64 0)))⟩])
 (.seq (.blk 0 (.seq (.reg [⟨(some 4), none, .mov (.t 0)⟩,
   ⟨(some 5), none, .bin .geq (.t 4) (.c (.p (.int .u8 97)))⟩,
   ⟨(some 6), none, .mov (.t 5)⟩,
   ⟨(some 7), (some (6, true)), .mov (.t 0)⟩,
   ⟨(some 8), (some (6, true)), .bin .leq (.t 7) (.c (.p (.int .u8 122)))⟩,
   ⟨(some 9), none, .pick (.t 6) (.t 8) (.c (.p (.bool false)))⟩,
   ⟨(some 3), none, .mov (.t 9)⟩])
 (.cond (.t 3)
  (.seq (.reg [⟨(some 2), none, .mov (.c (.p (.int .i64 1)))⟩])
  (.ret))
  (.seq (.reg [⟨(some 11), none, .mov (.t 0)⟩,
    ⟨(some 12), none, .bin .geq (.t 11) (.c (.p (.int .u8 48)))⟩,
    ⟨(some 13), none, .mov (.t 12)⟩,
    ⟨(some 14), (some (13, true)), .mov (.t 0)⟩,
    ⟨(some 15), (some (13, true)), .bin .leq (.t 14) (.c (.p (.int .u8 57)))⟩,
    ⟨(some 16), none, .pick (.t 13) (.t 15) (.c (.p (.bool false)))⟩,
    ⟨(some 10), none, .mov (.t 16)⟩])
  (.cond (.t 10)
   (.seq (.reg [⟨(some 2), none, .mov (.c (.p (.int .i64 2)))⟩])
   (.ret))
   (.seq (.reg [⟨(some 18), none, .mov (.t 0)⟩,
     ⟨(some 19), none, .call n_spec_l30Find [(.c (.p (.str [40, 41, 123, 125, 59, 44, 43, 45, 42, 47, 37, 60, 61, 38, 33, 64]))), (.t 18)]⟩,
     ⟨(some 20), none, .bin .geq (.t 19) (.c (.p (.int .i64 0)))⟩,
     ⟨(some 17), none, .mov (.t 20)⟩])
   (.cond (.t 17)
    (.seq (.reg [⟨(some 2), none, .mov (.c (.p (.int .i64 3)))⟩])
    (.ret))
    (.seq (.reg [⟨(some 22), none, .mov (.t 0)⟩,
      ⟨(some 23), none, .bin .eql (.t 22) (.c (.p (.int .u8 32)))⟩,
      ⟨(some 24), none, .mov (.t 23)⟩,
      ⟨(some 25), (some (24, false)), .mov (.t 0)⟩,
      ⟨(some 26), (some (24, false)), .bin .eql (.t 25) (.c (.p (.int .u8 10)))⟩,
      ⟨(some 27), none, .pick (.t 24) (.c (.p (.bool true))) (.t 26)⟩,
      ⟨(some 21), none, .mov (.t 27)⟩])
    (.cond (.t 21)
     (.seq (.reg [⟨(some 2), none, .mov (.c (.p (.int .i64 4)))⟩])
     (.ret))
     (.skip))))))))))
 (.seq (.reg [⟨(some 2), none, .mov (.c (.p (.int .i64 0)))⟩])
 (.ret)))⟩
theorem k_spec_l1Class : compF Tryd.prog n_spec_l1Class = some F_spec_l1Class := by kernel_rfl
def F_spec_l1All : FK := ⟨21, [.t 4],
 .seq (.reg [⟨(some 4), none, .mov (.c (.p (.bool false)))⟩])
 (.seq (.seq (.reg [⟨(some 5), none, .mov (.c (.p (.int .i64 0)))⟩])
 (.blk 0 (.loop (.seq (.seq (.reg [⟨(some 6), none, .mov (.t 5)⟩,
   ⟨(some 7), none, .mov (.t 0)⟩,
   ⟨(some 8), none, .len true (.t 7)⟩,
   ⟨(some 9), none, .bin .lss (.t 6) (.t 8)⟩])
 (.cond (.t 9)
  (.skip)
  (.exit 0)))
 (.seq (.blk 1 (.seq (.reg [⟨(some 12), none, .mov (.t 0)⟩,
   ⟨(some 13), none, .mov (.t 5)⟩,
   ⟨(some 14), none, .idxStr (.t 12) (.t 13)⟩,
   ⟨(some 15), none, .call n_spec_l1Class [(.t 14)]⟩,
   ⟨(some 16), none, .mov (.t 1)⟩,
   ⟨(some 17), none, .bin .neq (.t 15) (.t 16)⟩])
 (.cond (.t 17)
  (.seq (.reg [⟨(some 4), none, .mov (.c (.p (.bool false)))⟩])
  (.ret))
  (.skip))))
 (.reg [⟨(some 10), none, .mov (.t 5)⟩,
   ⟨(some 11), none, .bin .add (.t 10) (.c (.p (.int .i64 1)))⟩,
   ⟨(some 5), none, .mov (.t 11)⟩]))))))
 (.seq (.reg [⟨(some 18), none, .mov (.t 0)⟩,
   ⟨(some 19), none, .len true (.t 18)⟩,
   ⟨(some 20), none, .bin .gtr (.t 19) (.c (.p (.int .i64 0)))⟩,
   ⟨(some 4), none, .mov (.t 20)⟩])
 (.ret)))⟩
theorem k_spec_l1All : compF Tryd.prog n_spec_l1All = some F_spec_l1All := by kernel_rfl
def F_spec_KeyWords : FK := ⟨2, [.t 0],
 .seq (.reg [⟨(some 0), none, .mov (.c .nils)⟩])
 (.seq (.reg [⟨(some 1), none, .bsl 1 [(.p (.str []))] 9 [(0, 1, (.c (.p (.str [102, 110])))), (1, 1, (.c (.p (.str [108, 101, 116])))), (2, 1, (.c (.p (.str [115, 97, 121])))), (3, 1, (.c (.p (.str [112, 117, 116])))), (4, 1, (.c (.p (.str [105, 102])))), (5, 1, (.c (.p (.str [101, 108, 115, 101])))), (6, 1, (.c (.p (.str [108, 111, 111, 112])))), (7, 1, (.c (.p (.str [98, 97, 99, 107])))), (8, 1, (.c (.p (.str [100, 111]))))]⟩,
   ⟨(some 0), none, .mov (.t 1)⟩])
 (.ret))⟩
theorem k_spec_KeyWords : compF Tryd.prog n_spec_KeyWords = some F_spec_KeyWords := by kernel_rfl
def F_spec_l1Key : FK := ⟨18, [.t 2],
 .seq (.reg [⟨(some 2), none, .mov (.c (.p (.bool false)))⟩])
 (.seq (.reg [⟨(some 5), none, .call n_spec_KeyWords []⟩,
   ⟨(some 3), none, .mov (.t 5)⟩])
 (.seq (.seq (.reg [⟨(some 4), none, .mov (.c (.p (.int .i64 0)))⟩])
 (.blk 0 (.loop (.seq (.seq (.reg [⟨(some 6), none, .mov (.t 4)⟩,
   ⟨(some 7), none, .mov (.t 3)⟩,
   ⟨(some 8), none, .len false (.t 7)⟩,
   ⟨(some 9), none, .bin .lss (.t 6) (.t 8)⟩])
 (.cond (.t 9)
  (.skip)
  (.exit 0)))
 (.seq (.blk 1 (.seq (.reg [⟨(some 12), none, .mov (.t 3)⟩,
   ⟨(some 13), none, .mov (.t 4)⟩,
   ⟨(some 14), none, .idxS 1 (.t 12) (.t 13)⟩,
   ⟨(some 15), none, .ld none (.t 14)⟩,
   ⟨(some 16), none, .mov (.t 0)⟩,
   ⟨(some 17), none, .bins .eql (.t 15) (.t 16)⟩])
 (.cond (.t 17)
  (.seq (.reg [⟨(some 2), none, .mov (.c (.p (.bool true)))⟩])
  (.ret))
  (.skip))))
 (.reg [⟨(some 10), none, .mov (.t 4)⟩,
   ⟨(some 11), none, .bin .add (.t 10) (.c (.p (.int .i64 1)))⟩,
   ⟨(some 4), none, .mov (.t 11)⟩]))))))
 (.seq (.reg [⟨(some 2), none, .mov (.c (.p (.bool false)))⟩])
 (.ret))))⟩
theorem k_spec_l1Key : compF Tryd.prog n_spec_l1Key = some F_spec_l1Key := by kernel_rfl
def F_spec_IsName : FK := ⟨15, [.t 2],
 .seq (.reg [⟨(some 2), none, .mov (.c (.p (.bool false)))⟩])
 (.seq (.reg [⟨(some 3), none, .mov (.t 0)⟩,
   ⟨(some 4), none, .call n_spec_l1All [(.t 3), (.c (.p (.int .i64 1)))]⟩,
   ⟨(some 5), none, .mov (.t 4)⟩,
   ⟨(some 6), (some (5, true)), .mov (.t 0)⟩,
   ⟨(some 7), (some (5, true)), .len true (.t 6)⟩,
   ⟨(some 8), (some (5, true)), .bin .leq (.t 7) (.c (.p (.int .i64 4)))⟩,
   ⟨(some 9), none, .pick (.t 5) (.t 8) (.c (.p (.bool false)))⟩,
   ⟨(some 10), none, .mov (.t 9)⟩,
   ⟨(some 11), (some (10, true)), .mov (.t 0)⟩,
   ⟨(some 12), (some (10, true)), .call n_spec_l1Key [(.t 11)]⟩,
   ⟨(some 13), (some (10, true)), .not (.t 12)⟩,
   ⟨(some 14), none, .pick (.t 10) (.t 13) (.c (.p (.bool false)))⟩,
   ⟨(some 2), none, .mov (.t 14)⟩])
 (.ret))⟩
theorem k_spec_IsName : compF Tryd.prog n_spec_IsName = some F_spec_IsName := by kernel_rfl
def F_spec_MinsPlaces : FK := ⟨17, [.t 2],
 .seq (.reg [⟨(some 1), none, .box 3 (.t 0)⟩,
   ⟨(some 2), none, .mov (.c .nils)⟩])
 (.seq (.seq (.reg [⟨(some 5), none, .ld (some 3) (.t 1)⟩,
   ⟨(some 6), none, .call n_spec_l25Can [(.t 5)]⟩,
   ⟨(some 7), none, .not (.t 6)⟩])
 (.cond (.t 7)
  (.seq (.reg [⟨(some 8), none, .bsl 1 [(.p (.int .i64 0))] 0 []⟩,
    ⟨(some 2), none, .mov (.t 8)⟩])
  (.ret))
  (.skip)))
 (.seq (.reg [⟨(some 10), none, .ld (some 3) (.t 1)⟩,
   ⟨(some 11), none, .ld (some 3) (.t 1)⟩,
   ⟨(some 12), none, .call n_spec_l25Long [(.t 11)]⟩,
   ⟨none, none, .chk (some 3) 1 10⟩,
   ⟨(some 13), none, .call n_spec_l25Places [(.t 10), (.t 12)]⟩,
   ⟨(some 9), none, .mov (.t 13)⟩,
   ⟨(some 14), none, .ext 0 (.t 9)⟩,
   ⟨(some 15), none, .ext 1 (.t 9)⟩,
   ⟨(some 3), none, .mov (.t 14)⟩,
   ⟨(some 4), none, .mov (.t 15)⟩])
 (.seq (.reg [⟨(some 16), none, .mov (.t 3)⟩,
   ⟨(some 2), none, .mov (.t 16)⟩])
 (.ret))))⟩
theorem k_spec_MinsPlaces : compF Tryd.prog n_spec_MinsPlaces = some F_spec_MinsPlaces := by kernel_rfl
def F_spec_l26Calls : FK := ⟨31, [.t 2],
 .seq (.reg [⟨(some 1), none, .box 3 (.t 0)⟩,
   ⟨(some 2), none, .mov (.c .nils)⟩])
 (.seq (.reg [⟨(some 6), none, .bsl 1 [(.p (.int .i64 0))] 0 []⟩,
   ⟨(some 3), none, .mov (.t 6)⟩])
 (.seq (.reg [⟨(some 7), none, .ld (some 3) (.t 1)⟩,
   ⟨(some 8), none, .call n_spec_MinsPlaces [(.t 7)]⟩,
   ⟨(some 4), none, .mov (.t 8)⟩])
 (.seq (.seq (.reg [⟨(some 5), none, .mov (.c (.p (.int .i64 0)))⟩])
 (.blk 0 (.loop (.seq (.seq (.reg [⟨(some 9), none, .mov (.t 5)⟩,
   ⟨(some 10), none, .mov (.t 4)⟩,
   ⟨(some 11), none, .len false (.t 10)⟩,
   ⟨(some 12), none, .bin .lss (.t 9) (.t 11)⟩])
 (.cond (.t 12)
  (.skip)
  (.exit 0)))
 (.seq (.blk 1 (.seq (.reg [⟨(some 15), none, .fldA 2 (.t 1)⟩,
   ⟨(some 16), none, .ld none (.t 15)⟩,
   ⟨(some 17), none, .mov (.t 5)⟩,
   ⟨(some 18), none, .idxS 5 (.t 16) (.t 17)⟩,
   ⟨(some 19), none, .fldA 0 (.t 18)⟩,
   ⟨(some 20), none, .ld none (.t 19)⟩,
   ⟨(some 21), none, .bin .eql (.t 20) (.c (.p (.int .i64 14)))⟩])
 (.cond (.t 21)
  (.reg [⟨(some 22), none, .mov (.t 3)⟩,
    ⟨(some 23), none, .mov (.t 4)⟩,
    ⟨(some 24), none, .mov (.t 5)⟩,
    ⟨(some 25), none, .idxS 1 (.t 23) (.t 24)⟩,
    ⟨(some 26), none, .ld none (.t 25)⟩,
    ⟨(some 27), none, .bin .add (.t 26) (.c (.p (.int .i64 1)))⟩,
    ⟨(some 28), none, .bsl 1 [(.p (.int .i64 0))] 1 [(0, 1, (.t 27))]⟩,
    ⟨(some 29), none, .app 1 8 (.t 22) (.t 28)⟩,
    ⟨(some 3), none, .mov (.t 29)⟩])
  (.skip))))
 (.reg [⟨(some 13), none, .mov (.t 5)⟩,
   ⟨(some 14), none, .bin .add (.t 13) (.c (.p (.int .i64 1)))⟩,
   ⟨(some 5), none, .mov (.t 14)⟩]))))))
 (.seq (.reg [⟨(some 30), none, .mov (.t 3)⟩,
   ⟨(some 2), none, .mov (.t 30)⟩])
 (.ret)))))⟩
theorem k_spec_l26Calls : compF Tryd.prog n_spec_l26Calls = some F_spec_l26Calls := by kernel_rfl
def F_strings_indexFunc : FK := ⟨21, [.t 6],
 .seq (.reg [⟨(some 6), none, .mov (.c (.p (.int .i64 0)))⟩])
 (.seq (.seq (.reg [⟨(some 9), none, .mov (.t 0)⟩,
   ⟨(some 10), none, .rngS (.t 9)⟩])
 (.blk 0 (.loop (.seq (.reg [⟨(some 11), none, .nxtS (.t 10)⟩,
   ⟨(some 12), none, .ext 0 (.t 11)⟩])
 (.seq (.cond (.t 12)
  (.skip)
  (.exit 0))
 (.blk 1 (.seq (.reg [⟨(some 13), none, .ext 1 (.t 11)⟩,
   ⟨(some 14), none, .ext 2 (.t 11)⟩,
   ⟨(some 7), none, .mov (.t 13)⟩,
   ⟨(some 8), none, .mov (.t 14)⟩])
 (.seq (.reg [⟨(some 15), none, .mov (.t 1)⟩,
   ⟨(some 16), none, .mov (.t 8)⟩,
   ⟨(some 17), none, .callv (.t 15) [(.t 16)]⟩,
   ⟨(some 18), none, .mov (.t 2)⟩,
   ⟨(some 19), none, .beq false (.t 17) (.t 18)⟩])
 (.cond (.t 19)
  (.seq (.reg [⟨(some 20), none, .mov (.t 7)⟩,
    ⟨(some 6), none, .mov (.t 20)⟩])
  (.ret))
  (.skip))))))))))
 (.seq (.reg [⟨(some 6), none, .mov (.c (.p (.int .i64 (-1))))⟩])
 (.ret)))⟩
theorem k_strings_indexFunc : compF Tryd.prog n_strings_indexFunc = some F_strings_indexFunc := by kernel_rfl
def F_strings_IndexFunc : FK := ⟨8, [.t 4],
 .seq (.reg [⟨(some 4), none, .mov (.c (.p (.int .i64 0)))⟩])
 (.seq (.reg [⟨(some 5), none, .mov (.t 0)⟩,
   ⟨(some 6), none, .mov (.t 1)⟩,
   ⟨(some 7), none, .call n_strings_indexFunc [(.t 5), (.t 6), (.c (.p (.bool true)))]⟩,
   ⟨(some 4), none, .mov (.t 7)⟩])
 (.ret))⟩
theorem k_strings_IndexFunc : compF Tryd.prog n_strings_IndexFunc = some F_strings_IndexFunc := by kernel_rfl
def F_slices_Index_string : FK := ⟨19, [.t 4],
 .seq (.reg [⟨(some 4), none, .mov (.c (.p (.int .i64 0)))⟩])
 (.seq (.seq (.reg [⟨(some 6), none, .mov (.t 0)⟩,
   ⟨(some 7), none, .len false (.t 6)⟩,
   ⟨(some 8), none, .mov (.c (.p (.int .i64 0)))⟩])
 (.blk 0 (.loop (.seq (.reg [⟨(some 9), none, .bin .lss (.t 8) (.t 7)⟩])
 (.seq (.cond (.t 9)
  (.skip)
  (.exit 0))
 (.seq (.blk 1 (.seq (.reg [⟨(some 10), none, .mov (.t 8)⟩,
   ⟨(some 5), none, .mov (.t 10)⟩])
 (.seq (.reg [⟨(some 11), none, .mov (.t 1)⟩,
   ⟨(some 12), none, .mov (.t 0)⟩,
   ⟨(some 13), none, .mov (.t 5)⟩,
   ⟨(some 14), none, .idxS 1 (.t 12) (.t 13)⟩,
   ⟨(some 15), none, .ld none (.t 14)⟩,
   ⟨(some 16), none, .bins .eql (.t 11) (.t 15)⟩])
 (.cond (.t 16)
  (.seq (.reg [⟨(some 17), none, .mov (.t 5)⟩,
    ⟨(some 4), none, .mov (.t 17)⟩])
  (.ret))
  (.skip)))))
 (.reg [⟨(some 18), none, .bin .add (.t 8) (.c (.p (.int .i64 1)))⟩,
   ⟨(some 8), none, .mov (.t 18)⟩])))))))
 (.seq (.reg [⟨(some 4), none, .mov (.c (.p (.int .i64 (-1))))⟩])
 (.ret)))⟩
theorem k_slices_Index_string : compF Tryd.prog n_slices_Index_string = some F_slices_Index_string := by kernel_rfl
def F_slices_Contains_string : FK := ⟨9, [.t 4],
 .seq (.reg [⟨(some 4), none, .mov (.c (.p (.bool false)))⟩])
 (.seq (.reg [⟨(some 5), none, .mov (.t 0)⟩,
   ⟨(some 6), none, .mov (.t 1)⟩,
   ⟨(some 7), none, .call n_slices_Index_string [(.t 5), (.t 6)]⟩,
   ⟨(some 8), none, .bin .geq (.t 7) (.c (.p (.int .i64 0)))⟩,
   ⟨(some 4), none, .mov (.t 8)⟩])
 (.ret))⟩
theorem k_slices_Contains_string : compF Tryd.prog n_slices_Contains_string = some F_slices_Contains_string := by kernel_rfl
def F_impl_IsName_1 : FK := ⟨9, [.t 2],
 .seq (.reg [⟨(some 2), none, .mov (.c (.p (.bool false)))⟩])
 (.seq (.reg [⟨(some 3), none, .mov (.t 0)⟩,
   ⟨(some 4), none, .bin .lss (.t 3) (.c (.p (.int .i32 97)))⟩,
   ⟨(some 5), none, .mov (.t 4)⟩,
   ⟨(some 6), (some (5, false)), .mov (.t 0)⟩,
   ⟨(some 7), (some (5, false)), .bin .gtr (.t 6) (.c (.p (.int .i32 122)))⟩,
   ⟨(some 8), none, .pick (.t 5) (.c (.p (.bool true))) (.t 7)⟩,
   ⟨(some 2), none, .mov (.t 8)⟩])
 (.ret))⟩
theorem k_impl_IsName_1 : compF Tryd.prog n_impl_IsName_1 = some F_impl_IsName_1 := by kernel_rfl
def F_impl_IsName : FK := ⟨17, [.t 2],
 .seq (.reg [⟨(some 2), none, .mov (.c (.p (.bool false)))⟩])
 (.seq (.reg [⟨(some 3), none, .mov (.t 0)⟩,
   ⟨(some 4), none, .len true (.t 3)⟩,
   ⟨(some 5), none, .call n_impl_within [(.t 4), (.c (.p (.int .i64 1))), (.c (.p (.int .i64 4)))]⟩,
   ⟨(some 6), none, .mov (.t 5)⟩,
   ⟨(some 7), (some (6, true)), .mov (.t 0)⟩,
   ⟨(some 8), (some (6, true)), .call n_strings_IndexFunc [(.t 7), (.c (.fn (.func n_impl_IsName_1) []))]⟩,
   ⟨(some 9), (some (6, true)), .bin .lss (.t 8) (.c (.p (.int .i64 0)))⟩,
   ⟨(some 10), none, .pick (.t 6) (.t 9) (.c (.p (.bool false)))⟩,
   ⟨(some 11), none, .mov (.t 10)⟩,
   ⟨(some 12), (some (11, true)), .slA 9 1 (.c (.gp 1 0)) none none⟩,
   ⟨(some 13), (some (11, true)), .mov (.t 0)⟩,
   ⟨(some 14), (some (11, true)), .call n_slices_Contains_string [(.t 12), (.t 13)]⟩,
   ⟨(some 15), (some (11, true)), .not (.t 14)⟩,
   ⟨(some 16), none, .pick (.t 11) (.t 15) (.c (.p (.bool false)))⟩,
   ⟨(some 2), none, .mov (.t 16)⟩])
 (.ret))⟩
theorem k_impl_IsName : compF Tryd.prog n_impl_IsName = some F_impl_IsName := by kernel_rfl
def F_slices_Clone_impl_Mins : FK := ⟨8, [.t 2],
 .seq (.reg [⟨(some 2), none, .mov (.c .nils)⟩])
 (.seq (.seq (.reg [⟨(some 3), none, .mov (.t 0)⟩,
   ⟨(some 4), none, .snil false (.t 3)⟩])
 (.cond (.t 4)
  (.seq (.reg [⟨(some 2), none, .mov (.c .nils)⟩])
  (.ret))
  (.skip)))
 (.seq (.reg [⟨(some 5), none, .bsl 5 [(.p (.int .i64 0)), (.p (.int .i64 0)), (.p (.int .i64 0)), (.p (.int .i64 0)), (.p (.int .i64 0))] 0 []⟩,
   ⟨(some 6), none, .mov (.t 0)⟩,
   ⟨(some 7), none, .app 5 40 (.t 5) (.t 6)⟩,
   ⟨(some 2), none, .mov (.t 7)⟩])
 (.ret)))⟩
theorem k_slices_Clone_impl_Mins : compF Tryd.prog n_slices_Clone_impl_Mins = some F_slices_Clone_impl_Mins := by kernel_rfl
def F_impl_cloneMfn : FK := ⟨8, [.c 2 (some 3)],
 .seq (.reg [⟨(some 1), none, .box 3 (.t 0)⟩,
   ⟨(some 2), none, .alloc [(.p (.int .i64 0)), (.p (.int .i64 0)), .nils]⟩])
 (.seq (.reg [⟨(some 3), none, .fldA 2 (.t 1)⟩,
   ⟨(some 4), none, .ld none (.t 3)⟩,
   ⟨(some 5), none, .call n_slices_Clone_impl_Mins [(.t 4)]⟩,
   ⟨(some 6), none, .fldA 2 (.t 1)⟩,
   ⟨none, none, .st 1 (.t 6) (.t 5)⟩])
 (.seq (.reg [⟨(some 7), none, .ld (some 3) (.t 1)⟩,
   ⟨none, none, .st 3 (.t 2) (.t 7)⟩])
 (.ret)))⟩
theorem k_impl_cloneMfn : compF Tryd.prog n_impl_cloneMfn = some F_impl_cloneMfn := by kernel_rfl
def F_impl_blank : FK := ⟨26, [.c 2 (some 3)],
 .seq (.reg [⟨(some 1), none, .box 3 (.t 0)⟩,
   ⟨(some 2), none, .alloc [(.p (.int .i64 0)), (.p (.int .i64 0)), .nils]⟩])
 (.seq (.reg [⟨(some 4), none, .ld (some 3) (.t 1)⟩,
   ⟨(some 5), none, .call n_impl_cloneMfn [(.t 4)]⟩,
   ⟨none, none, .st 3 (.t 1) (.t 5)⟩])
 (.seq (.seq (.reg [⟨(some 6), none, .fldA 2 (.t 1)⟩,
   ⟨(some 7), none, .ld none (.t 6)⟩,
   ⟨(some 8), none, .len false (.t 7)⟩,
   ⟨(some 9), none, .mov (.c (.p (.int .i64 0)))⟩])
 (.blk 0 (.loop (.seq (.reg [⟨(some 10), none, .bin .lss (.t 9) (.t 8)⟩])
 (.seq (.cond (.t 10)
  (.skip)
  (.exit 0))
 (.seq (.blk 1 (.seq (.reg [⟨(some 11), none, .mov (.t 9)⟩,
   ⟨(some 3), none, .mov (.t 11)⟩])
 (.seq (.reg [⟨(some 12), none, .fldA 2 (.t 1)⟩,
   ⟨(some 13), none, .ld none (.t 12)⟩,
   ⟨(some 14), none, .mov (.t 3)⟩,
   ⟨(some 15), none, .idxS 5 (.t 13) (.t 14)⟩,
   ⟨(some 16), none, .fldA 0 (.t 15)⟩,
   ⟨(some 17), none, .ld none (.t 16)⟩,
   ⟨(some 18), none, .bin .eql (.t 17) (.c (.p (.int .i64 14)))⟩])
 (.cond (.t 18)
  (.reg [⟨(some 19), none, .fldA 2 (.t 1)⟩,
    ⟨(some 20), none, .ld none (.t 19)⟩,
    ⟨(some 21), none, .mov (.t 3)⟩,
    ⟨(some 22), none, .idxS 5 (.t 20) (.t 21)⟩,
    ⟨(some 23), none, .fldA 4 (.t 22)⟩,
    ⟨none, none, .st 1 (.t 23) (.c (.p (.int .i64 0)))⟩])
  (.skip)))))
 (.reg [⟨(some 24), none, .bin .add (.t 9) (.c (.p (.int .i64 1)))⟩,
   ⟨(some 9), none, .mov (.t 24)⟩])))))))
 (.seq (.reg [⟨(some 25), none, .ld (some 3) (.t 1)⟩,
   ⟨none, none, .st 3 (.t 2) (.t 25)⟩])
 (.ret))))⟩
theorem k_impl_blank : compF Tryd.prog n_impl_blank = some F_impl_blank := by kernel_rfl
def F_slices_Equal_impl_Mins : FK := ⟨26, [.t 4],
 .seq (.reg [⟨(some 4), none, .mov (.c (.p (.bool false)))⟩])
 (.seq (.seq (.reg [⟨(some 6), none, .mov (.t 0)⟩,
   ⟨(some 7), none, .len false (.t 6)⟩,
   ⟨(some 8), none, .mov (.t 1)⟩,
   ⟨(some 9), none, .len false (.t 8)⟩,
   ⟨(some 10), none, .bin .neq (.t 7) (.t 9)⟩])
 (.cond (.t 10)
  (.seq (.reg [⟨(some 4), none, .mov (.c (.p (.bool false)))⟩])
  (.ret))
  (.skip)))
 (.seq (.seq (.reg [⟨(some 11), none, .mov (.t 0)⟩,
   ⟨(some 12), none, .len false (.t 11)⟩,
   ⟨(some 13), none, .mov (.c (.p (.int .i64 0)))⟩])
 (.blk 0 (.loop (.seq (.reg [⟨(some 14), none, .bin .lss (.t 13) (.t 12)⟩])
 (.seq (.cond (.t 14)
  (.skip)
  (.exit 0))
 (.seq (.blk 1 (.seq (.reg [⟨(some 15), none, .mov (.t 13)⟩,
   ⟨(some 5), none, .mov (.t 15)⟩])
 (.seq (.reg [⟨(some 16), none, .mov (.t 0)⟩,
   ⟨(some 17), none, .mov (.t 5)⟩,
   ⟨(some 18), none, .idxS 5 (.t 16) (.t 17)⟩,
   ⟨(some 20), none, .mov (.t 1)⟩,
   ⟨(some 21), none, .mov (.t 5)⟩,
   ⟨(some 22), none, .idxS 5 (.t 20) (.t 21)⟩,
   ⟨(some 19), none, .ld (some 5) (.t 18)⟩,
   ⟨(some 23), none, .ld (some 5) (.t 22)⟩,
   ⟨(some 24), none, .aeq [0, 0, 0, 0, 0] true (.t 19) (.t 23)⟩])
 (.cond (.t 24)
  (.seq (.reg [⟨(some 4), none, .mov (.c (.p (.bool false)))⟩])
  (.ret))
  (.skip)))))
 (.reg [⟨(some 25), none, .bin .add (.t 13) (.c (.p (.int .i64 1)))⟩,
   ⟨(some 13), none, .mov (.t 25)⟩])))))))
 (.seq (.reg [⟨(some 4), none, .mov (.c (.p (.bool true)))⟩])
 (.ret))))⟩
theorem k_slices_Equal_impl_Mins : compF Tryd.prog n_slices_Equal_impl_Mins = some F_slices_Equal_impl_Mins := by kernel_rfl
def F_impl_sameMfn : FK := ⟨24, [.t 4],
 .seq (.reg [⟨(some 2), none, .box 3 (.t 0)⟩,
   ⟨(some 3), none, .box 3 (.t 1)⟩,
   ⟨(some 4), none, .mov (.c (.p (.bool false)))⟩])
 (.seq (.reg [⟨(some 5), none, .fldA 0 (.t 2)⟩,
   ⟨(some 6), none, .ld none (.t 5)⟩,
   ⟨(some 7), none, .fldA 0 (.t 3)⟩,
   ⟨(some 8), none, .ld none (.t 7)⟩,
   ⟨(some 9), none, .bin .eql (.t 6) (.t 8)⟩,
   ⟨(some 10), none, .mov (.t 9)⟩,
   ⟨(some 11), (some (10, true)), .fldA 1 (.t 2)⟩,
   ⟨(some 12), (some (10, true)), .ld none (.t 11)⟩,
   ⟨(some 13), (some (10, true)), .fldA 1 (.t 3)⟩,
   ⟨(some 14), (some (10, true)), .ld none (.t 13)⟩,
   ⟨(some 15), (some (10, true)), .bin .eql (.t 12) (.t 14)⟩,
   ⟨(some 16), none, .pick (.t 10) (.t 15) (.c (.p (.bool false)))⟩,
   ⟨(some 17), none, .mov (.t 16)⟩,
   ⟨(some 18), (some (17, true)), .fldA 2 (.t 2)⟩,
   ⟨(some 19), (some (17, true)), .ld none (.t 18)⟩,
   ⟨(some 20), (some (17, true)), .fldA 2 (.t 3)⟩,
   ⟨(some 21), (some (17, true)), .ld none (.t 20)⟩,
   ⟨(some 22), (some (17, true)), .call n_slices_Equal_impl_Mins [(.t 19), (.t 21)]⟩,
   ⟨(some 23), none, .pick (.t 17) (.t 22) (.c (.p (.bool false)))⟩,
   ⟨(some 4), none, .mov (.t 23)⟩])
 (.ret))⟩
theorem k_impl_sameMfn : compF Tryd.prog n_impl_sameMfn = some F_impl_sameMfn := by kernel_rfl
def F_impl_MinsPlaces : FK := ⟨12, [.t 2],
 .seq (.reg [⟨(some 1), none, .box 3 (.t 0)⟩,
   ⟨(some 2), none, .mov (.c .nils)⟩])
 (.seq (.seq (.reg [⟨(some 4), none, .ld (some 3) (.t 1)⟩,
   ⟨(some 5), none, .call n_impl_layoutOf [(.t 4)]⟩,
   ⟨(some 3), none, .mov (.t 5)⟩])
 (.seq (.reg [⟨(some 6), none, .mov (.t 3)⟩,
   ⟨(some 7), none, .pnil 0 true (.t 6)⟩])
 (.cond (.t 7)
  (.seq (.reg [⟨(some 8), none, .mov (.t 3)⟩,
    ⟨(some 9), none, .nilck (.t 8)⟩,
    ⟨(some 10), none, .fldA 5 (.t 9)⟩,
    ⟨(some 11), none, .ld none (.t 10)⟩,
    ⟨(some 2), none, .mov (.t 11)⟩])
  (.ret))
  (.skip))))
 (.seq (.reg [⟨(some 2), none, .mov (.c .nils)⟩])
 (.ret)))⟩
theorem k_impl_MinsPlaces : compF Tryd.prog n_impl_MinsPlaces = some F_impl_MinsPlaces := by kernel_rfl
def F_impl_callBytes : FK := ⟨28, [.t 2],
 .seq (.reg [⟨(some 1), none, .box 3 (.t 0)⟩,
   ⟨(some 2), none, .mov (.c .nils)⟩])
 (.seq (.reg [⟨(some 3), none, .mov (.c .nils)⟩])
 (.seq (.seq (.reg [⟨(some 6), none, .ld (some 3) (.t 1)⟩,
   ⟨(some 7), none, .call n_impl_MinsPlaces [(.t 6)]⟩,
   ⟨(some 8), none, .len false (.t 7)⟩,
   ⟨(some 9), none, .mov (.c (.p (.int .i64 0)))⟩])
 (.blk 0 (.loop (.seq (.reg [⟨(some 10), none, .bin .lss (.t 9) (.t 8)⟩])
 (.seq (.cond (.t 10)
  (.skip)
  (.exit 0))
 (.seq (.blk 1 (.seq (.reg [⟨(some 11), none, .mov (.t 9)⟩,
   ⟨(some 12), none, .idxS 1 (.t 7) (.t 9)⟩,
   ⟨(some 13), none, .ld none (.t 12)⟩,
   ⟨(some 4), none, .mov (.t 11)⟩,
   ⟨(some 5), none, .mov (.t 13)⟩])
 (.seq (.reg [⟨(some 14), none, .fldA 2 (.t 1)⟩,
   ⟨(some 15), none, .ld none (.t 14)⟩,
   ⟨(some 16), none, .mov (.t 4)⟩,
   ⟨(some 17), none, .idxS 5 (.t 15) (.t 16)⟩,
   ⟨(some 18), none, .fldA 0 (.t 17)⟩,
   ⟨(some 19), none, .ld none (.t 18)⟩,
   ⟨(some 20), none, .bin .eql (.t 19) (.c (.p (.int .i64 14)))⟩])
 (.cond (.t 20)
  (.reg [⟨(some 21), none, .mov (.t 3)⟩,
    ⟨(some 22), none, .mov (.t 5)⟩,
    ⟨(some 23), none, .bin .add (.t 22) (.c (.p (.int .i64 1)))⟩,
    ⟨(some 24), none, .bsl 1 [(.p (.int .i64 0))] 1 [(0, 1, (.t 23))]⟩,
    ⟨(some 25), none, .app 1 8 (.t 21) (.t 24)⟩,
    ⟨(some 3), none, .mov (.t 25)⟩])
  (.skip)))))
 (.reg [⟨(some 26), none, .bin .add (.t 9) (.c (.p (.int .i64 1)))⟩,
   ⟨(some 9), none, .mov (.t 26)⟩])))))))
 (.seq (.reg [⟨(some 27), none, .mov (.t 3)⟩,
   ⟨(some 2), none, .mov (.t 27)⟩])
 (.ret))))⟩
theorem k_impl_callBytes : compF Tryd.prog n_impl_callBytes = some F_impl_callBytes := by kernel_rfl
def F_slices_Equal_int : FK := ⟨26, [.t 4],
 .seq (.reg [⟨(some 4), none, .mov (.c (.p (.bool false)))⟩])
 (.seq (.seq (.reg [⟨(some 6), none, .mov (.t 0)⟩,
   ⟨(some 7), none, .len false (.t 6)⟩,
   ⟨(some 8), none, .mov (.t 1)⟩,
   ⟨(some 9), none, .len false (.t 8)⟩,
   ⟨(some 10), none, .bin .neq (.t 7) (.t 9)⟩])
 (.cond (.t 10)
  (.seq (.reg [⟨(some 4), none, .mov (.c (.p (.bool false)))⟩])
  (.ret))
  (.skip)))
 (.seq (.seq (.reg [⟨(some 11), none, .mov (.t 0)⟩,
   ⟨(some 12), none, .len false (.t 11)⟩,
   ⟨(some 13), none, .mov (.c (.p (.int .i64 0)))⟩])
 (.blk 0 (.loop (.seq (.reg [⟨(some 14), none, .bin .lss (.t 13) (.t 12)⟩])
 (.seq (.cond (.t 14)
  (.skip)
  (.exit 0))
 (.seq (.blk 1 (.seq (.reg [⟨(some 15), none, .mov (.t 13)⟩,
   ⟨(some 5), none, .mov (.t 15)⟩])
 (.seq (.reg [⟨(some 16), none, .mov (.t 0)⟩,
   ⟨(some 17), none, .mov (.t 5)⟩,
   ⟨(some 18), none, .idxS 1 (.t 16) (.t 17)⟩,
   ⟨(some 20), none, .mov (.t 1)⟩,
   ⟨(some 21), none, .mov (.t 5)⟩,
   ⟨(some 22), none, .idxS 1 (.t 20) (.t 21)⟩,
   ⟨(some 19), none, .ld none (.t 18)⟩,
   ⟨(some 23), none, .ld none (.t 22)⟩,
   ⟨(some 24), none, .bin .neq (.t 19) (.t 23)⟩])
 (.cond (.t 24)
  (.seq (.reg [⟨(some 4), none, .mov (.c (.p (.bool false)))⟩])
  (.ret))
  (.skip)))))
 (.reg [⟨(some 25), none, .bin .add (.t 13) (.c (.p (.int .i64 1)))⟩,
   ⟨(some 13), none, .mov (.t 25)⟩])))))))
 (.seq (.reg [⟨(some 4), none, .mov (.c (.p (.bool true)))⟩])
 (.ret))))⟩
theorem k_slices_Equal_int : compF Tryd.prog n_slices_Equal_int = some F_slices_Equal_int := by kernel_rfl
def F_slices_IndexFunc_string : FK := ⟨19, [.t 4],
 .seq (.reg [⟨(some 4), none, .mov (.c (.p (.int .i64 0)))⟩])
 (.seq (.seq (.reg [⟨(some 6), none, .mov (.t 0)⟩,
   ⟨(some 7), none, .len false (.t 6)⟩,
   ⟨(some 8), none, .mov (.c (.p (.int .i64 0)))⟩])
 (.blk 0 (.loop (.seq (.reg [⟨(some 9), none, .bin .lss (.t 8) (.t 7)⟩])
 (.seq (.cond (.t 9)
  (.skip)
  (.exit 0))
 (.seq (.blk 1 (.seq (.reg [⟨(some 10), none, .mov (.t 8)⟩,
   ⟨(some 5), none, .mov (.t 10)⟩])
 (.seq (.reg [⟨(some 11), none, .mov (.t 1)⟩,
   ⟨(some 12), none, .mov (.t 0)⟩,
   ⟨(some 13), none, .mov (.t 5)⟩,
   ⟨(some 14), none, .idxS 1 (.t 12) (.t 13)⟩,
   ⟨(some 15), none, .ld none (.t 14)⟩,
   ⟨(some 16), none, .callv (.t 11) [(.t 15)]⟩])
 (.cond (.t 16)
  (.seq (.reg [⟨(some 17), none, .mov (.t 5)⟩,
    ⟨(some 4), none, .mov (.t 17)⟩])
  (.ret))
  (.skip)))))
 (.reg [⟨(some 18), none, .bin .add (.t 8) (.c (.p (.int .i64 1)))⟩,
   ⟨(some 8), none, .mov (.t 18)⟩])))))))
 (.seq (.reg [⟨(some 4), none, .mov (.c (.p (.int .i64 (-1))))⟩])
 (.ret)))⟩
theorem k_slices_IndexFunc_string : compF Tryd.prog n_slices_IndexFunc_string = some F_slices_IndexFunc_string := by kernel_rfl
def F_slices_ContainsFunc_string : FK := ⟨9, [.t 4],
 .seq (.reg [⟨(some 4), none, .mov (.c (.p (.bool false)))⟩])
 (.seq (.reg [⟨(some 5), none, .mov (.t 0)⟩,
   ⟨(some 6), none, .mov (.t 1)⟩,
   ⟨(some 7), none, .call n_slices_IndexFunc_string [(.t 5), (.t 6)]⟩,
   ⟨(some 8), none, .bin .geq (.t 7) (.c (.p (.int .i64 0)))⟩,
   ⟨(some 4), none, .mov (.t 8)⟩])
 (.ret))⟩
theorem k_slices_ContainsFunc_string : compF Tryd.prog n_slices_ContainsFunc_string = some F_slices_ContainsFunc_string := by kernel_rfl
def F_impl_fnOf_1 : FK := ⟨6, [.t 2],
 .seq (.reg [⟨(some 2), none, .mov (.c (.p (.bool false)))⟩])
 (.seq (.reg [⟨(some 3), none, .mov (.t 0)⟩,
   ⟨(some 4), none, .call n_impl_IsName [(.t 3)]⟩,
   ⟨(some 5), none, .not (.t 4)⟩,
   ⟨(some 2), none, .mov (.t 5)⟩])
 (.ret))⟩
theorem k_impl_fnOf_1 : compF Tryd.prog n_impl_fnOf_1 = some F_impl_fnOf_1 := by kernel_rfl
def F_impl_fnOf : FK := ⟨52, [.c 2 (some 3), .t 3],
 .seq (.reg [⟨(some 1), none, .box 6 (.t 0)⟩,
   ⟨(some 2), none, .alloc [(.p (.int .i64 0)), (.p (.int .i64 0)), .nils]⟩,
   ⟨(some 3), none, .mov (.c (.p (.bool false)))⟩])
 (.seq (.reg [⟨(some 7), none, .fldA 1 (.t 1)⟩,
   ⟨(some 8), none, .ld none (.t 7)⟩,
   ⟨(some 9), none, .fldA 2 (.t 1)⟩,
   ⟨(some 10), none, .ld none (.t 9)⟩,
   ⟨(some 11), none, .fldA 3 (.t 1)⟩,
   ⟨(some 12), none, .ld none (.t 11)⟩,
   ⟨(some 13), none, .call n_impl_DecodeFn [(.t 8), (.t 10), (.t 12)]⟩,
   ⟨(some 6), none, .mov (.t 13)⟩,
   ⟨(some 14), none, .ext 0 (.t 6)⟩,
   ⟨(some 15), none, .ext 1 (.t 6)⟩,
   ⟨(some 4), none, .alloc [(.p (.int .i64 0)), (.p (.int .i64 0)), .nils]⟩,
   ⟨none, none, .st 3 (.t 4) (.t 14)⟩,
   ⟨(some 5), none, .mov (.t 15)⟩])
 (.seq (.reg [⟨(some 16), none, .mov (.t 5)⟩,
   ⟨(some 17), none, .mov (.t 16)⟩,
   ⟨(some 18), (some (17, true)), .fldA 0 (.t 1)⟩,
   ⟨(some 19), (some (17, true)), .ld none (.t 18)⟩,
   ⟨(some 20), (some (17, true)), .call n_impl_IsName [(.t 19)]⟩,
   ⟨(some 21), none, .pick (.t 17) (.t 20) (.c (.p (.bool false)))⟩,
   ⟨(some 22), none, .mov (.t 21)⟩,
   ⟨(some 23), (some (22, true)), .ld (some 3) (.t 4)⟩,
   ⟨(some 24), (some (22, true)), .ld (some 3) (.t 4)⟩,
   ⟨(some 25), (some (22, true)), .qcall n_impl_blank [(.t 24)]⟩,
   ⟨(some 26), (some (22, true)), .call n_impl_sameMfn [(.t 23), (.t 25)]⟩,
   ⟨(some 27), none, .pick (.t 22) (.t 26) (.c (.p (.bool false)))⟩,
   ⟨(some 28), none, .mov (.t 27)⟩,
   ⟨(some 31), (some (28, true)), .fldA 4 (.t 1)⟩,
   ⟨(some 29), (some (28, true)), .ld (some 3) (.t 4)⟩,
   ⟨(some 30), (some (28, true)), .qcall n_impl_callBytes [(.t 29)]⟩,
   ⟨(some 32), (some (28, true)), .ld none (.t 31)⟩,
   ⟨(some 33), (some (28, true)), .call n_slices_Equal_int [(.t 30), (.t 32)]⟩,
   ⟨(some 34), none, .pick (.t 28) (.t 33) (.c (.p (.bool false)))⟩,
   ⟨(some 35), none, .mov (.t 34)⟩,
   ⟨(some 36), (some (35, true)), .fldA 5 (.t 1)⟩,
   ⟨(some 39), (some (35, true)), .fldA 4 (.t 1)⟩,
   ⟨(some 37), (some (35, true)), .ld none (.t 36)⟩,
   ⟨(some 38), (some (35, true)), .len false (.t 37)⟩,
   ⟨(some 40), (some (35, true)), .ld none (.t 39)⟩,
   ⟨(some 41), (some (35, true)), .len false (.t 40)⟩,
   ⟨(some 42), (some (35, true)), .bin .eql (.t 38) (.t 41)⟩,
   ⟨(some 43), none, .pick (.t 35) (.t 42) (.c (.p (.bool false)))⟩,
   ⟨(some 5), none, .mov (.t 43)⟩])
 (.seq (.reg [⟨(some 45), none, .mov (.t 5)⟩,
   ⟨(some 46), none, .mov (.t 45)⟩,
   ⟨(some 47), (some (46, true)), .fldA 5 (.t 1)⟩,
   ⟨(some 44), none, .ld (some 3) (.t 4)⟩,
   ⟨(some 48), (some (46, true)), .ld none (.t 47)⟩,
   ⟨(some 49), (some (46, true)), .call n_slices_ContainsFunc_string [(.t 48), (.c (.fn (.func n_impl_fnOf_1) []))]⟩,
   ⟨none, none, .chk (some 3) 4 44⟩,
   ⟨(some 50), (some (46, true)), .not (.t 49)⟩,
   ⟨(some 51), none, .pick (.t 46) (.t 50) (.c (.p (.bool false)))⟩,
   ⟨none, none, .st 3 (.t 2) (.t 44)⟩,
   ⟨(some 3), none, .mov (.t 51)⟩])
 (.ret))))⟩
theorem k_impl_fnOf : compF Tryd.prog n_impl_fnOf = some F_impl_fnOf := by kernel_rfl
def F_impl_ObjectValid : FK := ⟨11, [.t 2],
 .seq (.reg [⟨(some 1), none, .box 6 (.t 0)⟩,
   ⟨(some 2), none, .mov (.c (.p (.bool false)))⟩])
 (.seq (.reg [⟨(some 6), none, .ld (some 6) (.t 1)⟩,
   ⟨(some 7), none, .call n_impl_fnOf [(.t 6)]⟩,
   ⟨(some 5), none, .mov (.t 7)⟩,
   ⟨(some 8), none, .ext 0 (.t 5)⟩,
   ⟨(some 9), none, .ext 1 (.t 5)⟩,
   ⟨(some 3), none, .alloc [(.p (.int .i64 0)), (.p (.int .i64 0)), .nils]⟩,
   ⟨none, none, .st 3 (.t 3) (.t 8)⟩,
   ⟨(some 4), none, .mov (.t 9)⟩])
 (.seq (.reg [⟨(some 10), none, .mov (.t 4)⟩,
   ⟨(some 2), none, .mov (.t 10)⟩])
 (.ret)))⟩
theorem k_impl_ObjectValid : compF Tryd.prog n_impl_ObjectValid = some F_impl_ObjectValid := by kernel_rfl
def F_laws_eqIntS : FK := ⟨26, [.t 4],
 .seq (.reg [⟨(some 4), none, .mov (.c (.p (.bool false)))⟩])
 (.seq (.seq (.reg [⟨(some 6), none, .mov (.t 0)⟩,
   ⟨(some 7), none, .len false (.t 6)⟩,
   ⟨(some 8), none, .mov (.t 1)⟩,
   ⟨(some 9), none, .len false (.t 8)⟩,
   ⟨(some 10), none, .bin .neq (.t 7) (.t 9)⟩])
 (.cond (.t 10)
  (.seq (.reg [⟨(some 4), none, .mov (.c (.p (.bool false)))⟩])
  (.ret))
  (.skip)))
 (.seq (.seq (.reg [⟨(some 5), none, .mov (.c (.p (.int .i64 0)))⟩])
 (.blk 0 (.loop (.seq (.seq (.reg [⟨(some 11), none, .mov (.t 5)⟩,
   ⟨(some 12), none, .mov (.t 0)⟩,
   ⟨(some 13), none, .len false (.t 12)⟩,
   ⟨(some 14), none, .bin .lss (.t 11) (.t 13)⟩])
 (.cond (.t 14)
  (.skip)
  (.exit 0)))
 (.seq (.blk 1 (.seq (.reg [⟨(some 17), none, .mov (.t 0)⟩,
   ⟨(some 18), none, .mov (.t 5)⟩,
   ⟨(some 19), none, .idxS 1 (.t 17) (.t 18)⟩,
   ⟨(some 21), none, .mov (.t 1)⟩,
   ⟨(some 22), none, .mov (.t 5)⟩,
   ⟨(some 23), none, .idxS 1 (.t 21) (.t 22)⟩,
   ⟨(some 20), none, .ld none (.t 19)⟩,
   ⟨(some 24), none, .ld none (.t 23)⟩,
   ⟨(some 25), none, .bin .neq (.t 20) (.t 24)⟩])
 (.cond (.t 25)
  (.seq (.reg [⟨(some 4), none, .mov (.c (.p (.bool false)))⟩])
  (.ret))
  (.skip))))
 (.reg [⟨(some 15), none, .mov (.t 5)⟩,
   ⟨(some 16), none, .bin .add (.t 15) (.c (.p (.int .i64 1)))⟩,
   ⟨(some 5), none, .mov (.t 16)⟩]))))))
 (.seq (.reg [⟨(some 4), none, .mov (.c (.p (.bool true)))⟩])
 (.ret))))⟩
theorem k_laws_eqIntS : compF Tryd.prog n_laws_eqIntS = some F_laws_eqIntS := by kernel_rfl
end Go.Proofs.YtbbobekgnclkfaaDoor
namespace Go.Proofs.YtbbobekgnclkfaaDoor
open Go Go.Aw
set_option maxRecDepth 100000
abbrev n_spec_l2Has : FuncId := 78
def F_spec_l2Has : FK := ⟨18, [.t 4],
 .seq (.reg [⟨(some 4), none, .mov (.c (.p (.bool false)))⟩])
 (.seq (.seq (.reg [⟨(some 5), none, .mov (.c (.p (.int .i64 0)))⟩])
 (.blk 0 (.loop (.seq (.seq (.reg [⟨(some 6), none, .mov (.t 5)⟩,
   ⟨(some 7), none, .mov (.t 0)⟩,
   ⟨(some 8), none, .len false (.t 7)⟩,
   ⟨(some 9), none, .bin .lss (.t 6) (.t 8)⟩])
 (.cond (.t 9)
  (.skip)
  (.exit 0)))
 (.seq (.blk 1 (.seq (.reg [⟨(some 12), none, .mov (.t 0)⟩,
   ⟨(some 13), none, .mov (.t 5)⟩,
   ⟨(some 14), none, .idxS 1 (.t 12) (.t 13)⟩,
   ⟨(some 15), none, .ld none (.t 14)⟩,
   ⟨(some 16), none, .mov (.t 1)⟩,
   ⟨(some 17), none, .bins .eql (.t 15) (.t 16)⟩])
 (.cond (.t 17)
  (.seq (.reg [⟨(some 4), none, .mov (.c (.p (.bool true)))⟩])
  (.ret))
  (.skip))))
 (.reg [⟨(some 10), none, .mov (.t 5)⟩,
   ⟨(some 11), none, .bin .add (.t 10) (.c (.p (.int .i64 1)))⟩,
   ⟨(some 5), none, .mov (.t 11)⟩]))))))
 (.seq (.reg [⟨(some 4), none, .mov (.c (.p (.bool false)))⟩])
 (.ret)))⟩
theorem k_spec_l2Has : compF Tryd.prog n_spec_l2Has = some F_spec_l2Has := by kernel_rfl
end Go.Proofs.YtbbobekgnclkfaaDoor
