/-
  The model's operations compute what the abstract ones say: aggregates, boxes, stores, rows. No program.
-/
import Derived.Test.YtbbobekgnclkfaaDoorL1
import Derived.Laws.AppendOwn
import Derived.Laws.BytesString
import Derived.Laws.StructEq
import Derived.Carry
namespace Go.Aw

/-- Cell by cell. -/
def Ptw (W : World) (S : Nat → Prop) (φ : Place) (n : Nat) (cs : List AV) (vs : List Value) : Prop :=
  vs.length = cs.length ∧ ∀ (j : Nat) (c : AV) (v : Value), cs[j]? = some c → vs[j]? = some v → VRel W S φ n c v

section
variable {W : World} {S : Nat → Prop} {φ : Place} {n : Nat}

theorem cells_ptw {av : AV} {x : Value} (h : VRel W S φ n av x) (hc : av.cells.all AV.isCell = true) : Ptw W S φ n av.cells x.cells.toList ∧ ∀ v ∈ x.cells.toList, v.oneC = true := by
  by_cases ha : av.isCell = true
  · have h1 := h.oneCell ha
    have e1 : x.cells = #[x] := by cases x <;> first | rfl | (simp [Value.oneC] at h1)
    have e2 : av.cells = [av] := by cases av <;> first | rfl | (simp [AV.isCell] at ha)
    rw [e1, e2]
    refine ⟨⟨rfl, fun j c v h3 h4 => ?_⟩, fun v hv => ?_⟩
    · cases j with
      | zero => simp at h3 h4; subst h3; subst h4; exact h
      | succ j => simp at h3
    · simp at hv; subst hv; exact h1
  · cases h with
    | agg cs vs hs hr =>
      refine ⟨⟨by simpa [Value.cells, AV.cells] using hs, fun j c v h1 h2 => hr j c v h1 (by simpa [Value.cells] using h2)⟩, fun v hv => ?_⟩
      simp only [Value.cells] at hv
      obtain ⟨j, hj⟩ := List.getElem?_of_mem hv
      have hl : j < cs.length := by rw [← hs]; simpa using (List.getElem?_eq_some_iff.1 hj).1
      have hcj := List.getElem?_eq_getElem hl
      exact (hr j _ v hcj (by simpa using hj)).oneCell (List.all_eq_true.1 hc _ (List.mem_of_getElem? hcj))
    | _ => first | (simp [AV.cells, AV.isCell] at hc; done) | (simp [AV.isCell] at ha; done)

theorem splice_len {e ys : List AV} {off : Nat} (h : off + ys.length ≤ e.length) : (splice e off ys).length = e.length := by simp [splice]; omega

theorem splice_get {e ys : List AV} {off : Nat} (h : off + ys.length ≤ e.length) (j : Nat) : (splice e off ys)[j]? = if off ≤ j ∧ j < off + ys.length then ys[j - off]? else e[j]? := by
  have ho : (e.take off).length = off := by rw [List.length_take]; omega
  unfold splice
  rw [List.append_assoc, List.getElem?_append, List.getElem?_append, ho]
  split
  · rw [List.getElem?_take, if_pos (by assumption), if_neg (by omega)]
  · split
    · rw [if_pos (by omega)]
    · rw [if_neg (by omega), List.getElem?_drop]
      congr 1; omega

theorem splice_ptw {cs ys : List AV} {c : Array Value} {l : List Value} {off : Nat} (h : off + ys.length ≤ cs.length) (hc : Ptw W S φ n cs c.toList) (hy : Ptw W S φ n ys l) :
    Ptw W S φ n (splice cs off ys) (wr c off l).toList := by
  have e1 : c.size = cs.length := by simpa using hc.1
  have e2 : l.length = ys.length := hy.1
  refine ⟨by rw [splice_len h]; simpa [wr_size] using e1, fun j a v h1 h2 => ?_⟩
  rw [splice_get h] at h1
  have h2' : (wr c off l)[j]? = some v := by simpa using h2
  rw [wr_get _ _ _ (by omega)] at h2'
  split at h1
  · rw [if_pos (by omega)] at h2'; exact hy.2 _ _ _ h1 h2'
  · rw [if_neg (by omega)] at h2'; exact hc.2 _ _ _ h1 (by simpa using h2')

theorem foldl_wr (l : List Value) : ∀ (c : Array Value) (off k : Nat), (l.zipIdx k).foldl (fun cs (x : Value × Nat) => cs.setIfInBounds (off + x.2) x.1) c = wr c (off + k) l := by
  induction l with
  | nil => intro c off k; rfl
  | cons v r ih => intro c off k; simp only [List.zipIdx_cons, List.foldl_cons, wr]; rw [ih]; rfl

theorem fill_fold (v : Value) (c : Array Value) (off : Nat) : v.cells.zipIdx.foldl (fun cs (c, j) => cs.setIfInBounds (off + j) c) c = wr c off v.cells.toList := by
  have := foldl_wr v.cells.toList c off 0
  rw [Nat.add_zero] at this
  rw [← this, ← Array.foldl_toList, Array.toList_zipIdx]

/-- Which parts go where: the compiled list and the model's. -/
def PartsOk (place : Nat → Option (Nat × Nat)) : List (Nat × Operand) → List (Nat × Nat × AOp) → Prop
  | [], [] => True
  | (i, x) :: r, (off, sz, y) :: r' => place i = some (off, sz) ∧ cop x = some y ∧ PartsOk place r r'
  | _, _ => False

theorem fill_rel {ts : List AV} {a : Act} (T : TRel W S φ n ts a.tmps) (place : Nat → Option (Nat × Nat)) : ∀ (l : List (Nat × Operand)) (l' : List (Nat × Nat × AOp)) (cs cs' : List AV) (c : Array Value),
    PartsOk place l l' → Ptw W S φ n cs c.toList → (∀ v ∈ c.toList, v.oneC = true) → fillA ts cs l' = some cs' →
    ∃ c', Instr.fill place c (l.map fun (i, x) => (i, a.eval x)) = some c' ∧ Ptw W S φ n cs' c'.toList ∧ (∀ v ∈ c'.toList, v.oneC = true) ∧ cs'.length = cs.length
  | [], [], cs, cs', c, _, hp, h1, he => by cases he; exact ⟨c, rfl, hp, h1, rfl⟩
  | (i, x) :: r, (off, sz, y) :: r', cs, cs', c, hk, hp, h1, he => by
    obtain ⟨k1, k2, k3⟩ := hk
    simp only [fillA] at he
    split at he <;> first | (cases he; done) | skip
    rename_i hc
    obtain ⟨c1, c2, c3⟩ := hc
    have hr := cop_rel k2 T
    obtain ⟨q1, q2⟩ := cells_ptw hr c2
    have e1 : (a.eval x).cells.size = sz := by have := q1.1; simp at this; omega
    have e2 : c.size = cs.length := by simpa using hp.1
    have hsp := splice_ptw (off := off) (by omega) hp q1
    obtain ⟨c', f1, f2, f3, f4⟩ := fill_rel T place r r' _ cs' (wr c off (a.eval x).cells.toList) k3 hsp (fun v hv => by
      obtain ⟨j, hj⟩ := List.getElem?_of_mem hv
      have hj' : (wr c off (a.eval x).cells.toList)[j]? = some v := by simpa using hj
      rw [wr_get _ _ _ (by simp; omega)] at hj'
      split at hj'
      · exact q2 v (List.mem_of_getElem? hj')
      · exact h1 v (List.mem_of_getElem? (by simpa using hj'))) he
    refine ⟨c', ?_, f2, f3, by rw [f4, splice_len (by omega)]⟩
    simp only [List.map_cons, Instr.fill, k1]
    rw [if_neg (by simp; omega), fill_fold]
    exact f1
  | [], _ :: _, _, _, _, hk, _, _, _ => hk.elim
  | _ :: _, [], _, _, _, hk, _, _, _ => hk.elim

end
end Go.Aw
/-
  The model's operations compute what the abstract ones say: aggregates, boxes, stores, new rows. No program.
-/
namespace Go.Aw

/-- A type's zero, cell by cell. -/
def zeroOf (P : Program) (t : TypeId) : Option (List AV) :=
  match P.info? t with
  | some i => match i.zero with
    | some z => match cv z with
      | some a => if a.cells.all AV.isCell = true ∧ a.cells.length = i.size then some a.cells else none
      | none => none
    | none => none
  | none => none

section
variable {P : Program} {G : Glob} {o : Oper} {ts : List AV} {h h' : List AO} {av : AV}

theorem zeroOf_rel {t : TypeId} {z : List AV} (hz : zeroOf P t = some z) (W : World) (S : Nat → Prop) (φ : Place) (n : Nat) :
    ∃ zv, (zeroValue t).run P W = .ok zv W ∧ Ptw W S φ n z zv.cells.toList ∧ (∀ v ∈ zv.cells.toList, v.oneC = true) ∧ (∃ i, P.info? t = some i ∧ i.size = z.length) ∧ z.all AV.isCell = true := by
  unfold zeroOf at hz
  split at hz <;> first | (cases hz; done) | skip
  rename_i i hi
  split at hz <;> first | (cases hz; done) | skip
  rename_i zv hzv
  split at hz <;> first | (cases hz; done) | skip
  rename_i a ha
  split at hz <;> first | (cases hz; done) | skip
  rename_i hc
  cases hz
  obtain ⟨k1, k2⟩ := cells_ptw (cv_rel (W := W) (S := S) (φ := φ) (n := n) ha) hc.1
  exact ⟨zv, by simp [zeroValue, typeInfo, hi, hzv], k1, k2, ⟨i, hi, hc.2.symm⟩, hc.1⟩

theorem alloc_rel {W : World} {S : Nat → Prop} {φ : Place} (H : HRel G W S φ h) {es : List (List AV)} {sz : Nat} {c : Array Value} {t : TypeId} {l : List Value} (hsz : ∀ e ∈ es, e.length = sz)
    (hcell : es.flatten.all AV.isCell = true) (hp : Ptw W S φ h.length es.flatten l) (hl : ∃ r, c.toList = l ++ r) (W' : World) (hW : W'.heap = (W.alloc (.cells c t)).heap) (h1 : W'.os = W.os) (h2 : W'.tape = W.tape) (h3 : W'.output = W.output) :
    HRel G W' S (upd φ h.length (W.heap.size, 0)) (h ++ [.row sz es]) ∧ Keep W S φ h W' S (upd φ h.length (W.heap.size, 0)) (h ++ [.row sz es]) := by
  obtain ⟨r, hr⟩ := hl
  have hlen := flatten_len hsz
  refine H.push (d := none) (B := (W.heap.size, 0)) (c := c) (t := t) (fr := (0, 0)) (sz := sz) (es := es) (.inl (Nat.le_refl _)) (by rw [hW]; show (W.heap.push _)[W.heap.size]? = _; simp) (fun b hb _ => by rw [hW]; show (W.heap.push _)[b]? = _; rw [Array.getElem?_push, if_neg (by omega)]) (by rw [hW]; simp)
    h1 h2 h3 (by omega) hsz ?_ (fun j a hj => ?_) rfl
  · have e1 := hp.1
    have : c.size = l.length + r.length := by rw [← Array.length_toList, hr, List.length_append]
    simp only [Nat.zero_add]
    omega
  · have hjl : j < l.length := by have := (List.getElem?_eq_some_iff.1 hj).1; rw [hp.1]; exact this
    have hv : c[j]? = some l[j] := by
      rw [← Array.getElem?_toList, hr, List.getElem?_append_left hjl, List.getElem?_eq_getElem hjl]
    exact ⟨List.all_eq_true.1 hcell a (List.mem_of_getElem? hj), l[j], by simpa using hv, hp.2 j a _ hj (List.getElem?_eq_getElem hjl)⟩

theorem yld_box {t : TypeId} {x : Operand} {x' : AOp} {m : Nat} (ho : o.op = .box t x) (hx : cop x = some x') (he : ev G ts h (.box m x') = some (av, h')) : Yld P G o ts h av h' := by
  simp only [ev] at he
  split at he <;> first | (cases he; done) | skip
  rename_i hc
  cases he
  intro W S φ a H T
  have hr := cop_rel hx T
  obtain ⟨k1, k2⟩ := cells_ptw hr hc.2
  obtain ⟨A, B⟩ := alloc_rel H (es := [(x'.ev ts).cells]) (sz := m) (c := (a.eval x).cells) (t := t) (l := (a.eval x).cells.toList) (by simp [hc.1]) (by simpa using hc.2) (by simpa using k1) ⟨[], by simp⟩ (W.alloc (.cells (a.eval x).cells t)) rfl rfl rfl rfl
  refine ⟨.value (.pointer (some ⟨W.heap.size, 0, none⟩)), _, _, S, _, ?_, .value _, ?_, A, B⟩
  · simp [execOp, ho, Instr.box, newVar, newRow]
  · have := VRel.ptr (W := W.alloc (.cells (a.eval x).cells t)) (S := S) (φ := upd φ h.length (W.heap.size, 0)) (n := (h ++ [AO.row m [(x'.ev ts).cells]]).length) h.length m 0 0 (by simp)
    simpa [upd] using this

theorem yld_alloc {t : TypeId} {z : List AV} (ho : o.op = .alloc t) (hz : zeroOf P t = some z) (he : ev G ts h (.alloc z) = some (av, h')) : Yld P G o ts h av h' := by
  simp only [ev, Option.some.injEq, Prod.mk.injEq] at he
  obtain ⟨rfl, rfl⟩ := he
  intro W S φ a H T
  obtain ⟨zv, r1, r2, r3, ⟨i, hi, his⟩, hcell⟩ := zeroOf_rel hz W S φ h.length
  obtain ⟨A, B⟩ := alloc_rel H (es := [z]) (sz := z.length) (c := zv.cells) (t := t) (l := zv.cells.toList) (by simp) (by simpa using hcell) (by simpa using r2) ⟨[], by simp⟩ (W.alloc (.cells zv.cells t)) rfl rfl rfl rfl
  refine ⟨.value (.pointer (some ⟨W.heap.size, 0, none⟩)), _, _, S, _, ?_, .value _, ?_, A, B⟩
  · simp [execOp, ho, Instr.alloc, newVar, newRow, r1]
  · have := VRel.ptr (W := W.alloc (.cells zv.cells t)) (S := S) (φ := upd φ h.length (W.heap.size, 0)) (n := (h ++ [AO.row z.length [z]]).length) h.length z.length 0 0 (by simp)
    simpa [upd] using this

theorem yld_bldS {t : TypeId} {fs : Array Field} {parts : Array (Nat × Operand)} {parts' : List (Nat × Nat × AOp)} {z : List AV} {places : Array (Nat × Nat)} (ho : o.op = .build t parts) (ht : P.underlying t = some (.struct fs)) (hz : zeroOf P t = some z)
    (hpl : fs.toList.mapM (fun f => (P.info? f.type).map fun i => (f.offset, i.size)) = some places.toList) (hp : PartsOk (places[·]?) parts.toList parts')
    (he : ev G ts h (.bld z parts') = some (av, h')) : Yld P G o ts h av h' := by
  simp only [ev, Option.map_eq_some_iff, Prod.mk.injEq] at he
  obtain ⟨cs, h1, rfl, rfl⟩ := he
  refine Yld.of_same fun W S φ a H T => ?_
  obtain ⟨zv, r1, r2, r3, ⟨i, hi, his⟩, hcell⟩ := zeroOf_rel hz W S φ h.length
  obtain ⟨c', f1, f2, f3, f4⟩ := fill_rel T _ _ _ _ _ _ hp r2 r3 h1
  have hm : (fs.mapM fun f => (do pure (f.offset, ← sizeOf f.type) : Sem (Nat × Nat))).run P W = .ok places W := by
    rw [Array.mapM_eq_mapM_toList]
    have key : ∀ (l : List Field) (r : List (Nat × Nat)), l.mapM (fun f => (P.info? f.type).map fun i => (f.offset, i.size)) = some r → (l.mapM fun f => (do pure (f.offset, ← sizeOf f.type) : Sem (Nat × Nat))).run P W = .ok r W := by
      intro l
      induction l with
      | nil => intro r e; simp at e; subst e; simp
      | cons f l ih =>
        intro r e
        simp only [List.mapM_cons] at e ⊢
        cases hf : P.info? f.type with
        | none => rw [hf] at e; cases e
        | some fi =>
          rw [hf] at e
          cases hl : l.mapM (fun f => (P.info? f.type).map fun i => (f.offset, i.size)) with
          | none => rw [hl] at e; cases e
          | some r' =>
            rw [hl] at e
            cases e
            have := ih r' hl
            simp [sizeOf, typeInfo, hf] at this ⊢
            simp [this]
    have := key _ _ hpl
    simp at this ⊢
    simp [this]
  refine ⟨.agg c', ?_, .agg _ _ (by simpa using f2.1) fun j c v e1 e2 => f2.2 j c v e1 (by simpa using e2)⟩
  have hm' : (fs.mapM fun f => (Prod.mk f.offset <$> sizeOf f.type : Sem (Nat × Nat))).run P W = .ok places W := by simpa using hm
  have f1' : Instr.fill (fun x => places[x]?) zv.cells (parts.toList.map fun x => (x.1, a.eval x.2)) = some c' := f1
  simp [execOp, ho, Instr.build, run_underlying ht, r1, hm', f1']


theorem yld_bldA {t e : TypeId} {m : Nat} {parts : Array (Nat × Operand)} {parts' : List (Nat × Nat × AOp)} {z : List AV} {ei : TypeInfo} (ho : o.op = .build t parts) (ht : P.underlying t = some (.array m e)) (hz : zeroOf P t = some z)
    (hei : P.info? e = some ei) (hp : PartsOk (fun i => some (i * ei.size, ei.size)) parts.toList parts')
    (he : ev G ts h (.bld z parts') = some (av, h')) : Yld P G o ts h av h' := by
  simp only [ev, Option.map_eq_some_iff, Prod.mk.injEq] at he
  obtain ⟨cs, h1, rfl, rfl⟩ := he
  refine Yld.of_same fun W S φ a H T => ?_
  obtain ⟨zv, r1, r2, r3, ⟨i, hi, his⟩, hcell⟩ := zeroOf_rel hz W S φ h.length
  obtain ⟨c', f1, f2, f3, f4⟩ := fill_rel T _ _ _ _ _ _ hp r2 r3 h1
  refine ⟨.agg c', ?_, .agg _ _ (by simpa using f2.1) fun j c v e1 e2 => f2.2 j c v e1 (by simpa using e2)⟩
  have f1' : Instr.fill (fun i => some (i * ei.size, ei.size)) zv.cells (parts.toList.map fun x => (x.1, a.eval x.2)) = some c' := f1
  simp [execOp, ho, Instr.build, run_underlying ht, r1, sizeOf, typeInfo, hei, f1']

theorem oneC_cells {v : Value} (hv : v.oneC = true) : v.cells = #[v] := by cases v <;> first | rfl | (simp [Value.oneC] at hv)

theorem yld_st {t : TypeId} {x y : Operand} {x' y' : AOp} {i : TypeInfo} (ho : o.op = .store t x y) (hi : P.info? t = some i) (hx : cop x = some x') (hy : cop y = some y')
    (he : ev G ts h (.st i.size x' y') = some (av, h')) : Yld P G o ts h av h' := by
  simp only [ev] at he
  split at he <;> first | (cases he; done) | skip
  rename_i id esz ix off e1
  split at he <;> first | (cases he; done) | skip
  rename_i sz es hrow
  split at he <;> first | (cases he; done) | skip
  rename_i e hee
  split at he <;> first | (cases he; done) | skip
  rename_i hc
  cases he
  obtain ⟨rfl, c1, c2, c3⟩ := hc
  intro W S φ a H T
  have hrx := cop_rel hx T
  have hry := cop_rel hy T
  rw [e1] at hrx
  generalize hvx : a.eval x = vx at hrx
  obtain ⟨k1, k2⟩ := cells_ptw hry c2
  obtain ⟨c, t0, fr, o1, o2, o3, o4, o5⟩ := H.obj id sz es hrow
  cases hrx with
  | ptr _ _ _ _ hid =>
    have hle : ix < es.length := (List.getElem?_eq_some_iff.1 hee).1
    have hel : e.length = sz := o3 e (List.mem_of_getElem? hee)
    have hys : (a.eval y).cells.size = i.size := by have := k1.1; simp at this; omega
    have hfit : (φ id).2 + (ix * sz + off) + i.size ≤ c.size := by
      have : (ix + 1) * sz ≤ es.length * sz := Nat.mul_le_mul_right _ hle
      rw [Nat.add_mul] at this
      omega
    obtain ⟨W', hrun, hB⟩ := run_storeCells (P := P) (a.eval y).cells.toList W (φ id).1 ((φ id).2 + (ix * sz + off)) 0 c t0 fr o1 o2 (by simp; omega) k2
    have hsz' : ∀ e' ∈ es.set ix (splice e off (y'.ev ts).cells), e'.length = sz := fun e' he' => by
      rcases List.mem_or_eq_of_mem_set he' with h' | h'
      · exact o3 e' h'
      · rw [h', splice_len (by omega)]; exact hel
    obtain ⟨A, B⟩ := H.update (W' := W') (es' := es.set ix (splice e off (y'.ev ts).cells)) hrow o1 (by rw [wr_size]) hB (by rw [wr_size]; exact o2) hsz' (by rw [wr_size]; simpa using o4) (fun j u hj => by
      have hjs : j < es.length * sz := by
        have := (List.getElem?_eq_some_iff.1 hj).1
        rw [flatten_len hsz'] at this
        simpa using this
      have hsp : 0 < sz := Nat.pos_of_ne_zero fun h0 => by subst h0; simp at hjs
      have hdm := Nat.div_add_mod j sz
      have hml := Nat.mod_lt j hsp
      have hjeq : j = j / sz * sz + j % sz := by rw [Nat.mul_comm]; exact hdm.symm
      rw [hjeq, flatten_get hsz' _ _ hml] at hj
      rw [wr_get _ _ _ (by simp; omega)]
      by_cases hq : j / sz = ix
      · rw [hq, List.getElem?_set_self hle] at hj
        simp only [Option.bind_some] at hj
        rw [splice_get (by omega)] at hj
        have hj2 : j = ix * sz + j % sz := by rw [← hq]; exact hjeq
        split at hj
        · rename_i hrange
          rw [if_pos (by simp; omega)]
          have hlt : j % sz - off < (a.eval y).cells.toList.length := by simp; omega
          have hv := List.getElem?_eq_getElem hlt
          refine ⟨List.all_eq_true.1 c2 u (List.mem_of_getElem? hj), _, ?_, k1.2 _ _ _ hj hv⟩
          rw [← hv]; congr 1; omega
        · rename_i hrange
          rw [if_neg (by simp; omega)]
          have := o5 j u (by rw [hjeq, flatten_get o3 _ _ hml, hq, hee]; exact hj)
          exact this
      · rw [List.getElem?_set_ne (Ne.symm hq)] at hj
        have hne : ¬ ((φ id).2 + (ix * sz + off) + 0 ≤ (φ id).2 + j ∧ (φ id).2 + j < (φ id).2 + (ix * sz + off) + 0 + (a.eval y).cells.toList.length) := by
          simp only [Array.length_toList, hys]
          intro ⟨g1, g2⟩
          have g3 : ix * sz ≤ j := by omega
          have g4 : j < (ix + 1) * sz := by rw [Nat.add_mul]; omega
          exact hq (Nat.div_eq_of_lt_le g3 g4)
        rw [if_neg hne]
        exact o5 j u (by rw [hjeq, flatten_get o3 _ _ hml]; exact hj))
    refine ⟨.skip, undef, W', S, φ, ?_, .skip, .any _, A, B⟩
    simp [execOp, ho, hvx, Instr.storeAt, Instr.sureAddr, storeVar, hys, sizeOf, typeInfo, hi, hrun]

end
end Go.Aw
/-
  The model's operations compute what the abstract ones say: rows made, appends, arrays cut. No program.
-/
namespace Go.Aw

section
variable {P : Program} {G : Glob} {o : Oper} {ts : List AV} {h h' : List AO} {av : AV}

theorem chunks_len {α : Type} (esz : Nat) (cs : List α) : ∀ (n off : Nat), (chunks esz cs off n).length = n
  | 0, _ => rfl
  | n + 1, off => by simp [chunks, chunks_len esz cs n]

theorem chunks_each {α : Type} (esz : Nat) (cs : List α) : ∀ (n off : Nat), off + n * esz ≤ cs.length → ∀ e ∈ chunks esz cs off n, e.length = esz
  | 0, _, _, e, he => by simp [chunks] at he
  | n + 1, off, hl, e, he => by
    rw [Nat.add_mul] at hl
    simp only [chunks, List.mem_cons] at he
    rcases he with rfl | he
    · simp; omega
    · exact chunks_each esz cs n (off + esz) (by omega) e he

theorem chunks_flat {α : Type} (esz : Nat) (cs : List α) : ∀ (n off : Nat), off + n * esz ≤ cs.length → (chunks esz cs off n).flatten = (cs.drop off).take (n * esz)
  | 0, _, _ => by simp [chunks]
  | n + 1, off, hl => by
    rw [Nat.add_mul] at hl
    rw [chunks, List.flatten_cons, chunks_flat esz cs n (off + esz) (by omega), Nat.add_mul, Nat.one_mul, Nat.add_comm (n * esz) esz, List.take_add, List.drop_drop]

theorem repl_ptw {W : World} {S : Nat → Prop} {φ : Place} {n m s : Nat} {z : List AV} {zv : Array Value} (hz : Ptw W S φ n z zv.toList) (hs : s = z.length) (hp : m = 0 ∨ 0 < s) :
    Ptw W S φ n (List.replicate m z).flatten (((Array.range (m * s)).map fun i => zv[i % zv.size]!).toList) := by
  subst hs
  have e1 : zv.size = z.length := by simpa using hz.1
  have hall : ∀ e ∈ List.replicate m z, e.length = z.length := fun e he => by rw [(List.mem_replicate.1 he).2]
  refine ⟨by rw [flatten_len hall]; simp, fun j c v h1 h2 => ?_⟩
  have hj : j < m * z.length := by have := (List.getElem?_eq_some_iff.1 h1).1; rw [flatten_len hall] at this; simpa using this
  have hsp : 0 < z.length := by
    rcases hp with rfl | hp
    · simp at hj
    · exact hp
  have hml := Nat.mod_lt j hsp
  have hjeq : j = j / z.length * z.length + j % z.length := by rw [Nat.mul_comm]; exact (Nat.div_add_mod j _).symm
  rw [hjeq, flatten_get hall _ _ hml] at h1
  have hdiv : j / z.length < m := Nat.div_lt_of_lt_mul (by rw [Nat.mul_comm]; exact hj)
  rw [List.getElem?_replicate, if_pos hdiv] at h1
  simp only [Option.bind_some] at h1
  have h2' : zv[j % zv.size]! = v := by
    have : ((Array.range (m * z.length)).map fun i => zv[i % zv.size]!)[j]? = some (zv[j % zv.size]!) := by simp [hj]
    rw [Array.getElem?_toList, this] at h2
    cases h2; rfl
  rw [e1] at h2'
  have hlt : j % z.length < zv.size := by omega
  rw [getElem!_pos zv _ hlt] at h2'
  exact hz.2 _ c v h1 (by rw [Array.getElem?_toList, Array.getElem?_eq_getElem hlt, h2'])

theorem yld_bsl {t e : TypeId} {len : Nat} {parts : Array (Nat × Operand)} {parts' : List (Nat × Nat × AOp)} {z : List AV} {ei : TypeInfo} (ho : o.op = .buildSlice t len parts) (ht : P.underlying t = some (.slice e)) (hz : zeroOf P e = some z)
    (hei : P.info? e = some ei) (hsmall : len * ei.size ≤ 2 ^ 24) (hsp : 0 < ei.size) (hp : PartsOk (fun i => some (i * ei.size, ei.size)) parts.toList parts')
    (he : ev G ts h (.bsl ei.size z len parts') = some (av, h')) : Yld P G o ts h av h' := by
  simp only [ev, Option.map_eq_some_iff, Prod.mk.injEq] at he
  obtain ⟨cs, h1, rfl, rfl⟩ := he
  intro W S φ a H T
  obtain ⟨zv, r1, r2, r3, ⟨i, hi, his⟩, hcell⟩ := zeroOf_rel hz W S φ h.length
  rw [hei] at hi; cases hi
  have hrep := repl_ptw (m := len) (s := ei.size) r2 his (.inr hsp)
  have honeC : ∀ v ∈ ((Array.range (len * ei.size)).map fun i => zv.cells[i % zv.cells.size]!).toList, v.oneC = true := fun v hv => by
    simp at hv
    obtain ⟨q, hq, rfl⟩ := hv
    have : 0 < zv.cells.size := by have := r2.1; simp at this; omega
    have hlt := Nat.mod_lt q this
    rw [getElem!_pos zv.cells _ hlt]
    exact r3 _ (by simp)
  obtain ⟨c', f1, f2, f3, f4⟩ := fill_rel T _ _ _ _ _ _ hp hrep honeC h1
  have hlen : cs.length = len * ei.size := by rw [f4, flatten_len (sz := z.length) (fun e he => by rw [(List.mem_replicate.1 he).2])]; simp [his]
  have hflat : (chunks ei.size cs 0 len).flatten = cs := by rw [chunks_flat _ _ _ _ (by omega)]; simp [← hlen]
  have hallc : cs.all AV.isCell = true := by
    have key : ∀ (l : List (Nat × Nat × AOp)) (x y : List AV), x.all AV.isCell = true → fillA ts x l = some y → y.all AV.isCell = true := by
      intro l
      induction l with
      | nil => intro x y hx hy; cases hy; exact hx
      | cons q r ih =>
        intro x y hx hy
        obtain ⟨off, sz, yo⟩ := q
        simp only [fillA] at hy
        split at hy <;> first | (cases hy; done) | skip
        rename_i hc
        refine ih _ _ ?_ hy
        rw [List.all_eq_true]
        intro u hu
        simp only [splice, List.mem_append] at hu
        rcases hu with (hu | hu) | hu
        · exact List.all_eq_true.1 hx u (List.mem_of_mem_take hu)
        · exact List.all_eq_true.1 hc.2.1 u hu
        · exact List.all_eq_true.1 hx u (List.mem_of_mem_drop hu)
    refine key _ _ _ ?_ h1
    rw [List.all_eq_true]
    intro u hu
    obtain ⟨l, hl, hu⟩ := List.mem_flatten.1 hu
    rw [(List.mem_replicate.1 hl).2] at hu
    exact List.all_eq_true.1 hcell u hu
  obtain ⟨A, B⟩ := alloc_rel H (es := chunks ei.size cs 0 len) (sz := ei.size) (c := c') (t := e) (l := c'.toList) (chunks_each _ _ _ _ (by omega)) (by rw [hflat]; exact hallc) (by rw [hflat]; exact f2) ⟨[], by simp⟩ (W.alloc (.cells c' e)) rfl rfl rfl rfl
  refine ⟨.value (.slice (some ⟨W.heap.size, 0, none⟩) len len), _, _, S, _, ?_, .value _, ?_, A, B⟩
  · have hf : Instr.fill (fun i => some (i * ei.size, ei.size)) ((Array.range (len * ei.size)).map fun i => zv.cells[i % zv.cells.size]!) (parts.toList.map fun x => (x.1, a.eval x.2)) = some c' := f1
    have hb : ¬ (16777216 < len * ei.size) := by omega
    by_cases h0 : len = 0
    · subst h0
      have hr0 : Array.range 0 = #[] := rfl
      simp [hr0] at hf
      simp [hr0, execOp, ho, Instr.buildSlice, run_underlying ht, sizeOf, typeInfo, hei, hf, newRow]
    · have h0' : ¬ (ei.size = 0) := by omega
      have hne : len * ei.size ≠ 0 := Nat.mul_ne_zero h0 h0'
      simp [execOp, ho, Instr.buildSlice, run_underlying ht, sizeOf, typeInfo, hei, hb, h0, h0', r1, hf, newRow]
      first | done | exact fun hc => absurd hc hne
  · have hc' : c'.size = len * ei.size := by have := f2.1; simp at this; omega
    have := VRel.sl (W := W.alloc (.cells c' e)) (S := S) (φ := upd φ h.length (W.heap.size, 0)) (n := (h ++ [AO.row ei.size (chunks ei.size cs 0 len)]).length) h.length ei.size 0 len len (some ⟨W.heap.size, 0, none⟩) (by simp) (Nat.le_refl _)
      (fun _ => by simp [upd]) (fun c t fr hc => by
        have : (W.alloc (.cells c' e)).heap[W.heap.size]? = some (.cells c' e) := by show (W.heap.push _)[W.heap.size]? = _; simp
        simp only [upd, if_true] at hc ⊢
        rw [this] at hc; cases hc; simp [hc'])
    exact this

/-- A block that is nobody's. -/
theorem alloc_idle {W : World} {S : Nat → Prop} {φ : Place} (H : HRel G W S φ h) (o : Obj) : HRel G (W.alloc o) S φ h ∧ Keep W S φ h (W.alloc o) S φ h := by
  have hold : ∀ b, b < W.heap.size → (W.alloc o).heap[b]? = W.heap[b]? := fun b hb => by
    show (W.heap.push _)[b]? = _
    rw [Array.getElem?_push, if_neg (by omega)]
  have hs : W.heap.size ≤ (W.alloc o).heap.size := by show _ ≤ (W.heap.push _).size; simp
  have hlt : ∀ {id : Nat} {o : AO}, h[id]? = some o → id < h.length := fun e => (List.getElem?_eq_some_iff.1 e).1
  have K : Kept W S φ h.length (W.alloc o) S φ h.length :=
    { pure := fun b hb => ⟨hb, hold b (H.sep b hb).1⟩
      len := Nat.le_refl _
      same := fun _ _ => rfl
      blk := fun i hi c t fr e => ⟨c, t, fr, by rw [← hold _ (H.bnd i hi)]; exact e, rfl⟩ }
  refine ⟨⟨fun id sz es e => ?_, fun id o1 e lo => ?_, H.inj, fun b hb => ⟨Nat.lt_of_lt_of_le (H.sep b hb).1 hs, (H.sep b hb).2⟩, fun id hid => Nat.lt_of_lt_of_le (H.bnd id hid) hs, fun g cs hg => ?_⟩, { K with os := rfl, tape := rfl, output := rfl, size := hs, out := fun b hb _ => hold b hb, img := fun id e => .inr ⟨id, e, rfl⟩, newS := fun b hb => .inl hb }⟩
  · obtain ⟨c, t, fr, a1, a2, a3, a4, a5⟩ := H.obj id sz es e
    refine ⟨c, t, fr, by rw [hold _ (H.bnd id (hlt e))]; exact a1, a2, a3, a4, fun j u hj => ?_⟩
    obtain ⟨b1, v, b2, b3⟩ := a5 j u hj
    exact ⟨b1, v, b2, b3.kept K⟩
  · rw [hold _ (H.bnd id (hlt e))]
    exact (H.oobj id o1 e lo).mono fun a v r => r.kept K
  · obtain ⟨g1, g2⟩ := H.glob g cs hg
    refine ⟨g1, fun j c hj => ?_⟩
    obtain ⟨v, k1, k2⟩ := g2 j c hj
    exact ⟨v, by rw [cell?_of_heap (hold g (H.sep g g1).1)]; exact k1, k2.mono K.pure⟩

/-- A block that nobody owns. -/
theorem alloc_pure {W : World} {S : Nat → Prop} {φ : Place} (H : HRel G W S φ h) (o : Obj) :
    HRel G (W.alloc o) (fun b => S b ∨ b = W.heap.size) φ h ∧ Keep W S φ h (W.alloc o) (fun b => S b ∨ b = W.heap.size) φ h := by
  have hold : ∀ b, b < W.heap.size → (W.alloc o).heap[b]? = W.heap[b]? := fun b hb => by
    show (W.heap.push _)[b]? = _
    rw [Array.getElem?_push, if_neg (by omega)]
  have hs : W.heap.size ≤ (W.alloc o).heap.size := by show _ ≤ (W.heap.push _).size; simp
  have hlt : ∀ {id : Nat} {o : AO}, h[id]? = some o → id < h.length := fun e => (List.getElem?_eq_some_iff.1 e).1
  have K : Kept W S φ h.length (W.alloc o) (fun b => S b ∨ b = W.heap.size) φ h.length :=
    { pure := fun b hb => ⟨.inl hb, hold b (H.sep b hb).1⟩
      len := Nat.le_refl _
      same := fun _ _ => rfl
      blk := fun i hi c t fr e => ⟨c, t, fr, by rw [← hold _ (H.bnd i hi)]; exact e, rfl⟩ }
  refine ⟨⟨fun id sz es e => ?_, fun id o1 e lo => ?_, H.inj, fun b hb => ?_, fun id hid => Nat.lt_of_lt_of_le (H.bnd id hid) hs, fun g cs hg => ?_⟩, { K with os := rfl, tape := rfl, output := rfl, size := hs, out := fun b hb _ => hold b hb, img := fun id e => .inr ⟨id, e, rfl⟩, newS := fun b hb => by rcases hb with hb | hb; exact .inl hb; exact .inr (.inl (by omega)) }⟩
  · obtain ⟨c, t, fr, a1, a2, a3, a4, a5⟩ := H.obj id sz es e
    refine ⟨c, t, fr, by rw [hold _ (H.bnd id (hlt e))]; exact a1, a2, a3, a4, fun j u hj => ?_⟩
    obtain ⟨b1, v, b2, b3⟩ := a5 j u hj
    exact ⟨b1, v, b2, b3.kept K⟩
  · rw [hold _ (H.bnd id (hlt e))]
    exact (H.oobj id o1 e lo).mono fun a v r => r.kept K
  · rcases hb with hb | rfl
    · exact ⟨Nat.lt_of_lt_of_le (H.sep b hb).1 hs, (H.sep b hb).2⟩
    · refine ⟨by show _ < (W.heap.push _).size; simp, fun id e he => ?_⟩
      have := H.bnd id e.lt
      omega
  · obtain ⟨g1, g2⟩ := H.glob g cs hg
    refine ⟨.inl g1, fun j c hj => ?_⟩
    obtain ⟨v, k1, k2⟩ := g2 j c hj
    exact ⟨v, by rw [cell?_of_heap (hold g (H.sep g g1).1)]; exact k1, k2.mono K.pure⟩

theorem yld_bslP {t e : TypeId} {len : Nat} {parts : Array (Nat × Operand)} {parts' : List (Nat × Nat × AOp)} {z : List AV} {ei : TypeInfo} (ho : o.op = .buildSlice t len parts) (ht : P.underlying t = some (.slice e)) (hz : zeroOf P e = some z)
    (hei : P.info? e = some ei) (hsmall : len * ei.size ≤ 2 ^ 24) (hsp : 0 < ei.size) (hp : PartsOk (fun i => some (i * ei.size, ei.size)) parts.toList parts')
    (he : ev G ts h (.bslP ei.size z len parts') = some (av, h')) : Yld P G o ts h av h' := by
  simp only [ev, Option.map_eq_some_iff, Option.bind_eq_some_iff, Prod.mk.injEq] at he
  obtain ⟨pvs, ⟨cs, h1, hpv⟩, rfl, rfl⟩ := he
  have hcs := puresOf_spec hpv
  intro W S φ a H T
  obtain ⟨zv, r1, r2, r3, ⟨i, hi, his⟩, hcell⟩ := zeroOf_rel hz W S φ h.length
  rw [hei] at hi; cases hi
  have hrep := repl_ptw (m := len) (s := ei.size) r2 his (.inr hsp)
  have honeC : ∀ v ∈ ((Array.range (len * ei.size)).map fun i => zv.cells[i % zv.cells.size]!).toList, v.oneC = true := fun v hv => by
    simp at hv
    obtain ⟨q, hq, rfl⟩ := hv
    have : 0 < zv.cells.size := by have := r2.1; simp at this; omega
    have hlt := Nat.mod_lt q this
    rw [getElem!_pos zv.cells _ hlt]
    exact r3 _ (by simp)
  obtain ⟨c', f1, f2, f3, f4⟩ := fill_rel T _ _ _ _ _ _ hp hrep honeC h1
  have hlen : cs.length = len * ei.size := by rw [f4, flatten_len (sz := z.length) (fun e he => by rw [(List.mem_replicate.1 he).2])]; simp [his]
  obtain ⟨A, B⟩ := alloc_pure H (.cells c' e)
  have hpl : pvs.length = len * ei.size := by have := hlen; rw [hcs, List.length_map] at this; exact this
  have hchl : (chunks ei.size pvs 0 len).length = len := chunks_len _ _ _ _
  have hchf : (chunks ei.size pvs 0 len).flatten = pvs := by rw [chunks_flat _ _ _ _ (by omega)]; simp [← hpl]
  refine ⟨.value (.slice (some ⟨W.heap.size, 0, none⟩) len len), _, _, _, _, ?_, .value _, ?_, A, B⟩
  · have hf : Instr.fill (fun i => some (i * ei.size, ei.size)) ((Array.range (len * ei.size)).map fun i => zv.cells[i % zv.cells.size]!) (parts.toList.map fun x => (x.1, a.eval x.2)) = some c' := f1
    have hb : ¬ (16777216 < len * ei.size) := by omega
    by_cases h0 : len = 0
    · subst h0
      have hr0 : Array.range 0 = #[] := rfl
      simp [hr0] at hf
      simp [hr0, execOp, ho, Instr.buildSlice, run_underlying ht, sizeOf, typeInfo, hei, hf, newRow]
    · have h0' : ¬ (ei.size = 0) := by omega
      have hne : len * ei.size ≠ 0 := Nat.mul_ne_zero h0 h0'
      simp [execOp, ho, Instr.buildSlice, run_underlying ht, sizeOf, typeInfo, hei, hb, h0, h0', r1, hf, newRow]
      first | done | exact fun hc => absurd hc hne
  · have hat : (W.alloc (.cells c' e)).heap[W.heap.size]? = some (.cells c' e) := by show (W.heap.push _)[W.heap.size]? = _; simp
    have hcell' : ∀ (j : Nat) (c : PV), pvs[j]? = some c → ∃ v, (W.alloc (.cells c' e)).cell? ⟨W.heap.size, 0 + j, none⟩ = some v ∧ PRel W S c v := fun j c hj => by
      have hj2 : cs[j]? = some (.p c) := by rw [hcs, List.getElem?_map, hj]; rfl
      have hlt : j < c'.toList.length := by
        have := (List.getElem?_eq_some_iff.1 hj2).1
        rw [f2.1]; exact this
      have := f2.2 j _ _ hj2 (List.getElem?_eq_getElem hlt)
      refine ⟨c'.toList[j], ?_, ?_⟩
      · simp only [World.cell?, hat, Nat.zero_add]
        simp at hlt
        simp [hlt]
      · cases this with | p _ _ hp => exact hp
    cases len with
    | zero => exact .p _ _ (.lst0 _ _ _)
    | succ len =>
      have := PRel.lst (W := W.alloc (.cells c' e)) (S := fun b => S b ∨ b = W.heap.size) ei.size (chunks ei.size pvs 0 (len + 1)) W.heap.size 0 (len + 1) (fun j => ((W.alloc (.cells c' e)).cell? ⟨W.heap.size, 0 + j, none⟩).getD default) (.inr rfl) (chunks_each _ _ _ _ (by omega)) (by omega)
        (fun j c hj => by rw [hchf] at hj; obtain ⟨v, h3, h4⟩ := hcell' j c hj; rw [h3]; rfl) (fun j c hj => by rw [hchf] at hj; obtain ⟨v, h3, h4⟩ := hcell' j c hj; rw [h3]; exact h4.mono B.toKept.pure)
      rw [hchl] at this
      exact .p _ _ this

theorem run_askRoom (n : Nat) (W : World) : (askRoom n).run P W = .ok () W := by
  unfold askRoom
  split <;> simp [mark, Sem.run]

theorem yld_mks {t e : TypeId} {l c : Operand} {l' c' : AOp} {z : List AV} {ei : TypeInfo} (ho : o.op = .makeSlice t l c) (ht : P.underlying t = some (.slice e)) (hz : zeroOf P e = some z)
    (hei : P.info? e = some ei) (hsp : 0 < ei.size) (hl : cop l = some l') (hc : cop c = some c')
    (he : ev G ts h (.mks ei.size ei.bytes z l' c') = some (av, h')) : Yld P G o ts h av h' := by
  simp only [ev] at he
  split at he <;> first | (cases he; done) | skip
  rename_i k n k2 m e1 e2
  split at he <;> first | (cases he; done) | skip
  rename_i hb
  cases he
  obtain ⟨b1, b2, b3, b4⟩ := hb
  intro W S φ a H T
  have hrl := cop_rel hl T
  have hrc := cop_rel hc T
  rw [e1] at hrl
  rw [e2] at hrc
  obtain ⟨zv, r1, r2, r3, ⟨i, hi, his⟩, hcell⟩ := zeroOf_rel hz W S φ h.length
  rw [hei] at hi; cases hi
  have hrep := repl_ptw (m := n.toNat) (s := ei.size) r2 his (.inr hsp)
  have hrepc := repl_ptw (m := m.toNat) (s := ei.size) r2 his (.inr hsp)
  have hall : ∀ x ∈ List.replicate n.toNat z, x.length = ei.size := fun x hx => by rw [(List.mem_replicate.1 hx).2]; exact his.symm
  have hle : n.toNat * ei.size ≤ m.toNat * ei.size := Nat.mul_le_mul_right _ (by omega)
  let C := (Array.range (m.toNat * ei.size)).map fun i => zv.cells[i % zv.cells.size]!
  let L := (Array.range (n.toNat * ei.size)).map fun i => zv.cells[i % zv.cells.size]!
  have hCL : C.toList = L.toList ++ C.toList.drop (n.toNat * ei.size) := by
    have : L.toList = C.toList.take (n.toNat * ei.size) := by
      apply List.ext_getElem?
      intro j
      rw [List.getElem?_take]
      simp only [C, L, Array.getElem?_toList, Array.getElem?_map, Array.getElem?_range]
      split
      · rw [if_pos (by omega)]
      · rfl
    rw [this, List.take_append_drop]
  obtain ⟨A, B⟩ := alloc_rel H (es := List.replicate n.toNat z) (sz := ei.size) (c := C) (t := e) (l := L.toList) hall (by
      rw [List.all_eq_true]
      intro u hu
      obtain ⟨l, hl, hu⟩ := List.mem_flatten.1 hu
      rw [(List.mem_replicate.1 hl).2] at hu
      exact List.all_eq_true.1 hcell u hu) hrep ⟨_, hCL⟩ (W.alloc (.cells C e)) rfl rfl rfl rfl
  refine ⟨.value (.slice (some ⟨W.heap.size, 0, none⟩) n.toNat m.toNat), _, _, S, _, ?_, .value _, ?_, A, B⟩
  · have w1 : IntKind.i64.wrap n = n := IntWalk.i64_in n (by omega)
    have w2 : IntKind.i64.wrap m = m := IntWalk.i64_in m (by omega)
    have q1 : ¬ (m < 0) := by omega
    have q2 : ¬ (281474976710656 < (ei.bytes : Int) * m) := by omega
    have q3 : ¬ (n < 0) := by omega
    have q4 : ¬ (m < n) := by omega
    have hz' : ¬ (ei.size = 0) := by omega
    by_cases hm0 : m = 0
    · have : C = #[] := by simp [C, hm0]
      subst hm0
      simp [execOp, ho, Instr.makeSlice, run_underlying ht, asInt, asIntOf, prel_int hrl, prel_int hrc, w1, w2, typeInfo, hei, q1, q2, q3, q4, run_askRoom, sizeOf, newRow, this, show Array.range 0 = #[] from rfl]
    · have hm1 : ¬ (m ≤ 0) := by omega
      simp [execOp, ho, Instr.makeSlice, run_underlying ht, asInt, asIntOf, prel_int hrl, prel_int hrc, w1, w2, typeInfo, hei, q1, q2, q3, q4, run_askRoom, sizeOf, hz', hm1, r1, newRow, C]
      exact fun hc => absurd hc (Nat.mul_ne_zero (by omega) hz')
  · have hC : C.size = m.toNat * ei.size := by simp [C]
    exact VRel.sl (W := W.alloc (.cells C e)) (S := S) (φ := upd φ h.length (W.heap.size, 0)) (n := (h ++ [AO.row ei.size (List.replicate n.toNat z)]).length) h.length ei.size 0 n.toNat m.toNat (some ⟨W.heap.size, 0, none⟩) (by simp) (by omega)
      (fun _ => by simp [upd]) (fun c t fr hc => by
        have : (W.alloc (.cells C e)).heap[W.heap.size]? = some (.cells C e) := by show (W.heap.push _)[W.heap.size]? = _; simp
        simp only [upd, if_true] at hc ⊢
        rw [this] at hc; cases hc; simp [hC])

end
end Go.Aw
/-
  The model's operations compute what the abstract ones say: appends, arrays cut, bytes to text. No program.
-/
namespace Go.Aw

section
variable {P : Program} {G : Glob} {o : Oper} {ts : List AV} {h h' : List AO} {av : AV}

theorem range_map_get {α : Type} (f : Nat → α) {m j : Nat} (hj : j < m) : ((List.range m).map f)[j]? = some (f j) := by simp [hj]

/-- The elements of a slice, where they lie. -/
theorem elems_rel {W : World} {S : Nat → Prop} {φ : Place} (H : HRel G W S φ h) {esz : Nat} {ax : AV} {x : Value} {xs : List (List AV)} (hr : VRel W S φ h.length ax x) (he : elems h esz ax = some xs) :
    ∃ ad cap news, x = .slice ad xs.length cap ∧ (xs.length = 0 ∨ ∃ b off, ad = some ⟨b, off, none⟩ ∧ ∀ (j : Nat) (v : Value), news[j]? = some v → W.cell? ⟨b, off + j, none⟩ = some v) ∧
      Ptw W S φ h.length xs.flatten news ∧ (∀ e ∈ xs, e.length = esz) ∧ xs.flatten.all AV.isCell = true ∧ ∀ v ∈ news, v.oneC = true := by
  unfold elems at he
  split at he <;> first | (cases he; done) | skip
  · rename_i sz es
    split at he <;> first | (cases he; done) | skip
    rename_i hs
    subst hs
    cases he
    cases prel_p hr with
    | lst0 _ a cap => exact ⟨a, cap, [], rfl, .inl rfl, ⟨rfl, fun j c v h1 => by simp at h1⟩, fun e he => by simp at he, rfl, fun v hv => by simp at hv⟩
    | lst _ _ b off cap vs hb hsz hcap hc hp =>
      have hfl : (es.map (·.map AV.p)).flatten = es.flatten.map AV.p := by rw [List.map_flatten]
      refine ⟨_, cap, (List.range es.flatten.length).map vs, by simp, .inr ⟨b, off, rfl, fun j v hj => ?_⟩, ⟨by rw [hfl, List.length_map, List.length_map, List.length_range], fun j c v h1 h2 => ?_⟩, fun e he => ?_, ?_, fun v hv => ?_⟩
      · have hl : j < es.flatten.length := by have := (List.getElem?_eq_some_iff.1 hj).1; rwa [List.length_map, List.length_range] at this
        have : vs j = v := by rw [range_map_get vs hl] at hj; exact Option.some.inj hj
        rw [← this]; exact hc j _ (List.getElem?_eq_getElem hl)
      · rw [hfl, List.getElem?_map, Option.map_eq_some_iff] at h1
        obtain ⟨c', h1, rfl⟩ := h1
        have hl := (List.getElem?_eq_some_iff.1 h1).1
        have : vs j = v := by rw [range_map_get vs hl] at h2; exact Option.some.inj h2
        rw [← this]; exact .p _ _ (hp j c' h1)
      · obtain ⟨e', he', rfl⟩ := List.mem_map.1 he
        simpa using hsz e' he'
      · rw [hfl, List.all_eq_true]
        intro u hu
        obtain ⟨q, _, rfl⟩ := List.mem_map.1 hu
        rfl
      · obtain ⟨j, hj⟩ := List.getElem?_of_mem hv
        have hl : j < es.flatten.length := by have := (List.getElem?_eq_some_iff.1 hj).1; rwa [List.length_map, List.length_range] at this
        have : vs j = v := by rw [range_map_get vs hl] at hj; exact Option.some.inj hj
        rw [← this]; exact (hp j _ (List.getElem?_eq_getElem hl)).oneCell
  · cases he
    cases hr
    exact ⟨none, 0, [], rfl, .inl rfl, ⟨rfl, fun j c v h1 => by simp at h1⟩, fun e he => by simp at he, rfl, fun v hv => by simp at hv⟩
  · rename_i id sz off len
    split at he <;> first | (cases he; done) | skip
    rename_i sz' es hrow
    split at he <;> first | (cases he; done) | skip
    rename_i hs
    cases he
    obtain ⟨rfl, rfl, hle⟩ := hs
    obtain ⟨c, t, fr, o1, o2, o3, o4, o5⟩ := H.obj id sz es hrow
    cases hr with
    | sl _ _ _ _ cap ba hid hl hb hc =>
      have hall : ∀ e ∈ (es.drop off).take len, e.length = sz := fun e he => o3 e (List.mem_of_mem_drop (List.mem_of_mem_take he))
      have hlen : ((es.drop off).take len).length = len := by simp; omega
      have hfl : ((es.drop off).take len).flatten = (es.flatten.drop (off * sz)).take (len * sz) := by
        rw [flatten_take (fun e he => o3 e (List.mem_of_mem_drop he)), flatten_drop o3]
      have key : ∀ (j : Nat) (a : AV), ((es.drop off).take len).flatten[j]? = some a → es.flatten[off * sz + j]? = some a ∧ j < len * sz := fun j a hj => by
        rw [hfl, List.getElem?_take] at hj
        split at hj
        · rw [List.getElem?_drop] at hj; exact ⟨hj, by assumption⟩
        · cases hj
      rw [hlen]
      have hbnd : (φ id).2 + (off + len) * sz ≤ c.size := by
        have : (off + len) * sz ≤ es.length * sz := Nat.mul_le_mul_right _ hle
        omega
      rw [Nat.add_mul] at hbnd
      refine ⟨ba, cap, (c.toList.drop ((φ id).2 + off * sz)).take (len * sz), rfl, ?_, ⟨?_, fun j a v h1 h2 => ?_⟩, hall, ?_, fun v hv => ?_⟩
      · rcases Nat.eq_zero_or_pos len with h0 | h0
        · exact .inl h0
        · refine .inr ⟨_, _, hb (by omega), fun j v hj => ?_⟩
          rw [List.getElem?_take] at hj
          split at hj
          · rw [List.getElem?_drop] at hj
            simp only [World.cell?, o1]
            simpa using hj
          · cases hj
      · rw [hfl, List.length_take, List.length_take, List.length_drop, List.length_drop, flatten_len o3, Array.length_toList]
        have : off * sz + len * sz ≤ es.length * sz := by rw [← Nat.add_mul]; exact Nat.mul_le_mul_right _ hle
        omega
      · obtain ⟨k1, k2⟩ := key j a h1
        obtain ⟨_, v', v1, v2⟩ := o5 _ _ k1
        rw [List.getElem?_take, if_pos k2, List.getElem?_drop] at h2
        have : c[(φ id).2 + (off * sz + j)]? = some v := by rw [← Nat.add_assoc]; simpa using h2
        rw [v1] at this; cases this; exact v2
      · rw [List.all_eq_true]
        intro u hu
        obtain ⟨j, hj⟩ := List.getElem?_of_mem hu
        exact (o5 _ _ (key j u hj).1).1
      · obtain ⟨j, hj⟩ := List.getElem?_of_mem hv
        rw [List.getElem?_take] at hj
        split at hj
        · rename_i hlt
          rw [List.getElem?_drop] at hj
          have hl : j < ((es.drop off).take len).flatten.length := by
            rw [flatten_len hall, hlen]; exact hlt
          obtain ⟨k1, _⟩ := key j _ (List.getElem?_eq_getElem hl)
          obtain ⟨q1, v', v1, v2⟩ := o5 _ _ k1
          have : c[(φ id).2 + (off * sz + j)]? = some v := by rw [← Nat.add_assoc]; simpa using hj
          rw [v1] at this; cases this
          exact v2.oneCell q1
        · cases hj

theorem run_first {W : World} {size : Nat} {ad : Option Addr} {n cap : Nat} {news : List Value} (hl : news.length = n * size)
    (hc : n = 0 ∨ ∃ b off, ad = some ⟨b, off, none⟩ ∧ ∀ (j : Nat) (v : Value), news[j]? = some v → W.cell? ⟨b, off + j, none⟩ = some v) :
    (Builtin.firstCells size n (.slice ad n cap)).run P W = .ok news.toArray W := by
  rcases hc with rfl | ⟨b, off, rfl, hc⟩
  · have : news = [] := List.eq_nil_of_length_eq_zero (by simpa using hl)
    subst this
    cases ad with
    | none => simp [Builtin.firstCells]
    | some a => simp [Builtin.firstCells, loadCells, loadCellsFrom]
  · exact run_firstCells_some W size n _ n cap news hl fun j v hj => by rw [add_off]; exact hc j v hj

theorem yld_app {c : Call} {t e : TypeId} {s x : Operand} {s' x' : AOp} {ei : TypeInfo} {z : List AV} (ho : o.op = .call c) (hc : c.callee = .builtin .append) (ha : c.args = #[s, x]) (hat : c.argTypes = #[t, t])
    (ht : P.underlying t = some (.slice e)) (hei : P.info? e = some ei) (hz : zeroOf P e = some z) (hs : cop s = some s') (hx : cop x = some x')
    (he : ev G ts h (.app ei.size ei.bytes s' x') = some (av, h')) : Yld P G o ts h av h' := by
  simp only [ev] at he
  split at he <;> first | (cases he; done) | skip
  rename_i xs hxs
  intro W S φ a H T
  have hrs := cop_rel hs T
  have hrx := cop_rel hx T
  obtain ⟨zv, z1, z2, z3, ⟨i, hi, his⟩, hcell⟩ := zeroOf_rel hz W S φ h.length
  rw [hei] at hi; cases hi
  generalize hvs : a.eval s = vs at hrs
  generalize hvx : a.eval x = vx at hrx
  obtain ⟨ad, cap, news, rfl, n1, n2, n3, n4, n5⟩ := elems_rel H hrx hxs
  have hnl : news.length = xs.length * ei.size := by rw [n2.1, flatten_len n3]
  have hzr : ei.zero = some zv := by
    cases hz0 : ei.zero with
    | none => simp [zeroValue, typeInfo, hei, hz0, unsupported, Sem.run] at z1
    | some q => simp [zeroValue, typeInfo, hei, hz0] at z1; rw [z1]
  split at he <;> first | (cases he; done) | skip
  · rename_i e1
    rw [e1] at hrs
    cases hrs
    split at he <;> first | (cases he; done) | skip
    rename_i hb
    split at he
    · rename_i hnil
      cases he
      subst hnil
      refine ⟨.value (.slice none 0 0), _, W, S, φ, ?_, .value _, .nils, H, Keep.refl H⟩
      have hf := run_first (P := P) (W := W) (cap := cap) hnl n1
      simp only [List.length_nil] at hf hvx
      simp [execOp, ho, hc, ha, hat, hvs, hvx, resolve, invoke, builtin, Builtin.append_, run_underlying ht, sizeOf, typeInfo, hei, Builtin.lenOf, hf]
    · rename_i hnil
      cases he
      have hpos : 0 < xs.length := Nat.pos_of_ne_zero fun h0 => hnil (List.eq_nil_of_length_eq_zero h0)
      rcases n1 with h0 | ⟨b, off, rfl, n1⟩
      · omega
      have hrun := run_append_nil (P := P) W t o.type e ei zv ht hei hzr ⟨b, off, none⟩ xs.length cap news hnl (fun j v hj => by rw [add_off]; exact n1 j v hj) hpos (by omega) (by omega)
      obtain ⟨A, B⟩ := alloc_rel H (es := xs) (sz := ei.size) (c := news.toArray ++ Builtin.zeroCells zv.cells (grownCap W xs.length 0 e - xs.length)) (t := e) (l := news) n3 n4 n2 ⟨_, by simp; rfl⟩
        (W.drew.alloc (.cells (news.toArray ++ Builtin.zeroCells zv.cells (grownCap W xs.length 0 e - xs.length)) e)) rfl rfl rfl rfl
      refine ⟨.value (.slice (some ⟨W.heap.size, 0, none⟩) xs.length (grownCap W xs.length 0 e)), _, _, S, _, ?_, .value _, ?_, A, B⟩
      · simp [execOp, ho, hc, ha, hat, hvs, hvx, resolve, invoke, builtin, hrun]
      · have hcap := grownCap_ge W xs.length 0 e
        exact VRel.sl (φ := upd φ h.length (W.heap.size, 0)) h.length ei.size 0 xs.length (grownCap W xs.length 0 e) (some ⟨W.heap.size, 0, none⟩) (by simp) hcap
          (fun _ => by simp [upd]) (fun c t fr hcc => by
            simp only [upd, if_true] at hcc ⊢
            have : (W.drew.alloc (.cells (news.toArray ++ Builtin.zeroCells zv.cells (grownCap W xs.length 0 e - xs.length)) e)).heap[W.heap.size]? = some (.cells (news.toArray ++ Builtin.zeroCells zv.cells (grownCap W xs.length 0 e - xs.length)) e) := by
              show (W.heap.push _)[W.heap.size]? = _; simp
            rw [this] at hcc; cases hcc
            have hzs : zv.cells.size = ei.size := by have := z2.1; simp at this; omega
            simp only [Array.size_append, List.size_toArray, hnl, Builtin.zeroCells, Array.size_map, Array.size_range, hzs, Nat.zero_add]
            rw [← Nat.add_mul]
            exact Nat.mul_le_mul_right _ (by omega))
  · rename_i id sz off len e1
    rw [e1] at hrs
    split at he <;> first | (cases he; done) | skip
    rename_i sz' es hrow
    split at he <;> first | (cases he; done) | skip
    rename_i hb
    cases he
    obtain ⟨rfl, rfl, hle, hb1, hb2⟩ := hb
    obtain ⟨c0, t0, fr0, o1, o2, o3, o4, o5⟩ := H.obj id ei.size es hrow
    have hres : elems h ei.size (.sl id ei.size off len) = some ((es.drop off).take len) := by simp [elems, hrow, hle]
    obtain ⟨ado, capo, olds, q0, q1, q2, q3, q4, q5⟩ := elems_rel H hrs hres
    have hlen : ((es.drop off).take len).length = len := by simp; omega
    rw [hlen] at q0 q1
    have hol : olds.length = len * ei.size := by rw [q2.1, flatten_len q3, hlen]
    cases hrs with
    | sl _ _ _ _ cap' ba hid hl hb hcc =>
      cases q0
      have hall : ∀ e ∈ (es.drop off).take len ++ xs, e.length = ei.size := fun e he => by
        rcases List.mem_append.1 he with he | he
        · exact q3 e he
        · exact n3 e he
      have hcl : ((es.drop off).take len ++ xs).flatten.all AV.isCell = true := by rw [List.flatten_append, List.all_append, q4, n4]; rfl
      have hptw : Ptw W S φ h.length ((es.drop off).take len ++ xs).flatten (olds ++ news) := by
        refine ⟨by rw [List.flatten_append, List.length_append, List.length_append, q2.1, n2.1], fun j c v h1 h2 => ?_⟩
        rw [List.flatten_append, List.getElem?_append] at h1
        rw [List.getElem?_append] at h2
        split at h1
        · rename_i hj
          rw [if_pos (by rw [q2.1]; exact hj)] at h2
          exact q2.2 _ _ _ h1 h2
        · rename_i hj
          rw [if_neg (by rw [q2.1]; exact hj), q2.1] at h2
          exact n2.2 _ _ _ h1 h2
      by_cases hfit : len + xs.length ≤ capo
      · -- in place
        have hroom := hcc c0 t0 fr0 o1
        have hnfit : (φ id).2 + off * ei.size + (len + xs.length) * ei.size ≤ c0.size := by
          have : (off + (len + xs.length)) * ei.size ≤ (off + capo) * ei.size := Nat.mul_le_mul_right _ (by omega)
          rw [Nat.add_mul] at this
          omega
        have hnfit' : (φ id).2 + off * ei.size + len * ei.size + xs.length * ei.size ≤ c0.size := by rw [Nat.add_mul] at hnfit; omega
        obtain ⟨W', hrun, hB⟩ := run_storeCells (P := P) news W (φ id).1 ((φ id).2 + off * ei.size + len * ei.size) 0 c0 t0 fr0 o1 o2 (by rw [hnl]; omega) n5
        obtain ⟨A, B⟩ := H.push (W' := W') (d := some id) (B := ((φ id).1, (φ id).2 + off * ei.size)) (sz := ei.size) (es := (es.drop off).take len ++ xs) (c := wr c0 ((φ id).2 + off * ei.size + len * ei.size + 0) news) (t := t0) (fr := fr0)
          (.inr ⟨id, ei.size, es, c0, t0, fr0, rfl, hrow, rfl, o1, by rw [wr_size]⟩) hB.at_b (fun b _ hne => hB.other b hne) (by rw [hB.size]; exact Nat.le_refl _) hB.os hB.tape hB.output (by rw [wr_size]; exact o2) hall
          (by rw [wr_size, List.length_append, hlen]; exact hnfit) (fun j u hj => by
            have hjl := (List.getElem?_eq_some_iff.1 hj).1
            rw [flatten_len hall, List.length_append, hlen] at hjl
            rw [wr_get _ _ _ (by rw [hnl]; omega)]
            refine ⟨List.all_eq_true.1 hcl u (List.mem_of_getElem? hj), ?_⟩
            have hjo : j < (olds ++ news).length := by rw [List.length_append, hol, hnl, ← Nat.add_mul]; exact hjl
            have hv := List.getElem?_eq_getElem hjo
            refine ⟨_, ?_, hptw.2 _ _ _ hj hv⟩
            rw [← hv]
            have hjl' := hjl
            rw [Nat.add_mul] at hjl'
            by_cases hw : j < len * ei.size
            · have hjol : j < olds.length := by rw [hol]; exact hw
              rw [List.getElem?_append_left hjol, if_neg (by omega)]
              rcases q1 with h0 | ⟨b, off', k1, k2⟩
              · subst h0; simp at hw
              · have := k2 j _ (List.getElem?_eq_getElem hjol)
                have hlp : 0 < len := Nat.pos_of_ne_zero fun h0 => by subst h0; simp at hw
                rw [hb (by omega)] at k1
                cases k1
                simp only [World.cell?, o1] at this
                rw [List.getElem?_eq_getElem hjol]
                simpa using this
            · rw [List.getElem?_append_right (by omega), if_pos (by omega), hol]; congr 1; omega) rfl
        refine ⟨.value (.slice ado (len + xs.length) capo), _, W', S, _, ?_, .value _, ?_, A, B⟩
        · have hf := run_first (P := P) (W := W) (cap := cap) hnl n1
          rcases Nat.eq_zero_or_pos capo with h0 | h0
          · have hx0 : xs.length = 0 := by omega
            have hl0 : len = 0 := by omega
            have hn0 : news = [] := List.eq_nil_of_length_eq_zero (by rw [hnl, hx0]; simp)
            subst hn0
            have hW : W' = W := by simpa [storeCells, Sem.run] using hrun.symm
            rw [hW]
            cases ado with
            | none => simp [execOp, ho, hc, ha, hat, hvs, hvx, resolve, invoke, builtin, Builtin.append_, run_underlying ht, sizeOf, typeInfo, hei, Builtin.lenOf, hf, hfit]
            | some bb => simp [execOp, ho, hc, ha, hat, hvs, hvx, resolve, invoke, builtin, Builtin.append_, run_underlying ht, sizeOf, typeInfo, hei, Builtin.lenOf, hf, hfit, storeCells]
          · rw [hb h0] at hvs ⊢
            simp [execOp, ho, hc, ha, hat, hvs, hvx, resolve, invoke, builtin, Builtin.append_, run_underlying ht, sizeOf, typeInfo, hei, Builtin.lenOf, hf, hfit, add_off, hrun]
        · refine VRel.sl h.length ei.size 0 (len + xs.length) capo ado (by simp) hfit (fun hp => by rw [hb hp]; simp [upd]) (fun c t fr hc' => ?_)
          simp only [upd, if_true] at hc' ⊢
          rw [hB.at_b] at hc'; cases hc'
          rw [wr_size, Nat.zero_add]
          rw [Nat.add_mul] at hroom
          omega
      · -- a new block
        have hpos : 0 < xs.length := by omega
        rcases n1 with h0 | ⟨b, offx, rfl, n1⟩
        · omega
        have h63 : ((len + xs.length : Nat) : Int) ≤ 9223372036854775807 := by omega
        have hcap := grownCap_ge W (len + xs.length) capo e
        have hfits : Builtin.nextslicecap (len + xs.length) capo * ei.bytes ≤ 281474976710656 := growslice_fits (by omega) (by omega)
        have hf := run_first (P := P) (W := W.drew) (cap := cap) hnl (.inr ⟨b, offx, rfl, n1⟩)
        have hfo := run_first (P := P) (W := W.drew) (size := ei.size) (ad := ado) (n := len) (cap := capo) (news := olds) hol q1
        have hn : ¬ (len + xs.length ≤ capo) := hfit
        have h63' : ¬ (9223372036854775807 < ((len : Int) + (xs.length : Int))) := by omega
        have h48' : ¬ (281474976710656 < Builtin.nextslicecap (len + xs.length) capo * ei.bytes) := by omega
        obtain ⟨A, B⟩ := H.push (W' := W.drew.alloc (.cells (olds.toArray ++ (news.toArray ++ Builtin.zeroCells zv.cells (grownCap W (len + xs.length) capo e - (len + xs.length)))) e)) (d := some id) (B := (W.heap.size, 0)) (sz := ei.size) (es := (es.drop off).take len ++ xs)
          (c := olds.toArray ++ (news.toArray ++ Builtin.zeroCells zv.cells (grownCap W (len + xs.length) capo e - (len + xs.length)))) (t := e) (fr := (0, 0)) (.inl (Nat.le_refl _)) (by show (W.heap.push _)[W.heap.size]? = _; simp)
          (fun b' hb' _ => by show (W.heap.push _)[b']? = _; rw [Array.getElem?_push, if_neg (by omega)]) (by simp) rfl rfl rfl (by omega) hall
          (by simp only [Nat.zero_add, List.length_append, hlen, Array.size_append, List.size_toArray, hol, hnl, Nat.add_mul]; omega) (fun j u hj => by
            have hjl := (List.getElem?_eq_some_iff.1 hj).1
            rw [flatten_len hall, List.length_append, hlen] at hjl
            refine ⟨List.all_eq_true.1 hcl u (List.mem_of_getElem? hj), ?_⟩
            have hjo : j < (olds ++ news).length := by rw [List.length_append, hol, hnl, ← Nat.add_mul]; exact hjl
            have hv := List.getElem?_eq_getElem hjo
            refine ⟨_, ?_, hptw.2 _ _ _ hj hv⟩
            rw [← hv, Nat.zero_add, ← Array.append_assoc, Array.getElem?_append_left (by simpa using hjo)]
            simp) rfl
        refine ⟨.value (.slice (some ⟨W.heap.size, 0, none⟩) (len + xs.length) (grownCap W (len + xs.length) capo e)), _, _, S, _, ?_, .value _, ?_, A, B⟩
        · simp [execOp, ho, hc, ha, hat, hvs, hvx, resolve, invoke, builtin, Builtin.append_, run_underlying ht, sizeOf, typeInfo, zeroValue, hei, hzr, Builtin.lenOf, hn, h63', h48', Question.forced, hf, hfo, newRow, grownCap, run_askRoom]
        · refine VRel.sl h.length ei.size 0 (len + xs.length) (grownCap W (len + xs.length) capo e) _ (by simp) hcap (fun hp => by simp [upd]) (fun c t fr hc' => ?_)
          simp only [upd, if_true] at hc' ⊢
          have : (W.drew.alloc (.cells (olds.toArray ++ (news.toArray ++ Builtin.zeroCells zv.cells (grownCap W (len + xs.length) capo e - (len + xs.length)))) e)).heap[W.heap.size]? = some (.cells (olds.toArray ++ (news.toArray ++ Builtin.zeroCells zv.cells (grownCap W (len + xs.length) capo e - (len + xs.length)))) e) := by
            show (W.heap.push _)[W.heap.size]? = _; simp
          rw [this] at hc'; cases hc'
          have hzs : zv.cells.size = ei.size := by have := z2.1; simp at this; omega
          simp only [Array.size_append, List.size_toArray, hol, hnl, Builtin.zeroCells, Array.size_map, Array.size_range, hzs, Nat.zero_add, ← Nat.add_mul]
          exact Nat.mul_le_mul_right _ (by omega)

end
end Go.Aw
/-
  The model's operations compute what the abstract ones say: copies, bytes to text, maps, ranges over text, structs compared. No program.
-/
namespace Go.Aw

section
variable {P : Program} {G : Glob} {o : Oper} {ts : List AV} {h h' : List AO} {av : AV}

theorem run_firstM {W : World} {size : Nat} {ad : Option Addr} {m n cap : Nat} {news : List Value} (hl : news.length = m * size)
    (hc : m = 0 ∨ ∃ b off, ad = some ⟨b, off, none⟩ ∧ ∀ (j : Nat) (v : Value), news[j]? = some v → W.cell? ⟨b, off + j, none⟩ = some v) :
    (Builtin.firstCells size m (.slice ad n cap)).run P W = .ok news.toArray W := by
  rcases hc with rfl | ⟨b, off, rfl, hc⟩
  · have : news = [] := List.eq_nil_of_length_eq_zero (by simpa using hl)
    subst this
    cases ad with
    | none => simp [Builtin.firstCells]
    | some a => simp [Builtin.firstCells, loadCells, loadCellsFrom]
  · have := run_firstCells_some (P := P) W size m ⟨b, off, none⟩ m cap news hl fun j v hj => by rw [add_off]; exact hc j v hj
    simpa [Builtin.firstCells] using this

theorem yld_copy {c : Call} {t u e : TypeId} {d x : Operand} {d' x' : AOp} {ei : TypeInfo} (ho : o.op = .call c) (hc : c.callee = .builtin .copy) (ha : c.args = #[d, x]) (hat : c.argTypes = #[t, u])
    (ht : P.underlying t = some (.slice e)) (hei : P.info? e = some ei) (hd : cop d = some d') (hx : cop x = some x')
    (he : ev G ts h (.copy ei.size d' x') = some (av, h')) : Yld P G o ts h av h' := by
  simp only [ev] at he
  split at he <;> first | (cases he; done) | skip
  rename_i xs hxs
  intro W S φ a H T
  have hrd := cop_rel hd T
  have hrx := cop_rel hx T
  generalize hvd : a.eval d = vd at hrd
  generalize hvx : a.eval x = vx at hrx
  obtain ⟨ad, cap, news, rfl, n1, n2, n3, n4, n5⟩ := elems_rel H hrx hxs
  have hnl : news.length = xs.length * ei.size := by rw [n2.1, flatten_len n3]
  have run0 : ∀ (ba : Option Addr) (len cap' m : Nat), vd = .slice ba len cap' → min xs.length len = 0 → (execOp a.eval o).run P W = .ok (.value (.int .i64 0)) W := fun ba len cap' m hv hm => by
    have hf : (Builtin.firstCells ei.size 0 (.slice ad xs.length cap)).run P W = .ok #[] W := run_firstM (news := []) (by simp) (.inl rfl)
    subst hv
    have hm' : Nat.min xs.length len = 0 := hm
    cases ba with
    | none => simp [execOp, ho, hc, ha, hat, hvd, hvx, resolve, invoke, builtin, Builtin.copy_, run_underlying ht, sizeOf, typeInfo, hei, Builtin.lenOf, hm', hf, goInt]
    | some b => simp [execOp, ho, hc, ha, hat, hvd, hvx, resolve, invoke, builtin, Builtin.copy_, run_underlying ht, sizeOf, typeInfo, hei, Builtin.lenOf, hm', hf, goInt, storeCells]
  split at he <;> first | (cases he; done) | skip
  · rename_i e1
    rw [e1] at hrd
    cases hrd
    cases he
    exact ⟨_, _, W, S, φ, run0 none 0 0 0 rfl (by simp), .value _, .p _ _ (.int _ _), H, Keep.refl H⟩
  · rename_i id sz off len e1
    rw [e1] at hrd
    split at he <;> first | (cases he; done) | skip
    rename_i sz' es hrow
    split at he <;> first | (cases he; done) | skip
    rename_i hb
    cases he
    obtain ⟨rfl, rfl, hle⟩ := hb
    obtain ⟨c0, t0, fr0, o1, o2, o3, o4, o5⟩ := H.obj id ei.size es hrow
    cases hrd with
    | sl _ _ _ _ cap' ba hid hl hba hcc =>
      by_cases hm : min xs.length len = 0
      · have e0 : es.take off ++ xs.take len ++ es.drop (off + min xs.length len) = es := by
          have : xs.take len = [] := List.eq_nil_of_length_eq_zero (by rw [List.length_take]; omega)
          rw [this, hm]; simp
        rw [e0, show h.set id (.row ei.size es) = h from by
          obtain ⟨hi, e⟩ := List.getElem?_eq_some_iff.1 hrow
          rw [← e]; simp]
        exact ⟨_, _, W, S, φ, run0 ba len cap' 0 rfl hm, .value _, by rw [hm]; exact .p _ _ (.int _ _), H, Keep.refl H⟩
      · generalize hM : min xs.length len = M at *
        have hMl : M ≤ len := by omega
        have hXl : (xs.take len).length = M := by rw [List.length_take]; omega
        have hX3 : ∀ e ∈ xs.take len, e.length = ei.size := fun e he => n3 e (List.mem_of_mem_take he)
        have hXf : (xs.take len).flatten = xs.flatten.take (len * ei.size) := flatten_take n3 len
        have hNl : (news.take (len * ei.size)).length = M * ei.size := by
          rw [List.length_take, hnl, ← hM]
          rcases Nat.le_total len xs.length with hq | hq
          · rw [Nat.min_eq_left (Nat.mul_le_mul_right _ hq), Nat.min_eq_right hq]
          · rw [Nat.min_eq_right (Nat.mul_le_mul_right _ hq), Nat.min_eq_left hq]
        rw [hba (by omega)] at hvd
        have hoM : off * ei.size + M * ei.size ≤ es.length * ei.size := by rw [← Nat.add_mul]; exact Nat.mul_le_mul_right _ (by omega)
        obtain ⟨W', hrun, hB⟩ := run_storeCells (P := P) (news.take (len * ei.size)) W (φ id).1 ((φ id).2 + off * ei.size) 0 c0 t0 fr0 o1 o2 (by rw [hNl]; omega) (fun v hv => n5 v (List.mem_of_mem_take hv))
        have hf := run_firstM (P := P) (W := W) (size := ei.size) (ad := ad) (m := M) (n := xs.length) (cap := cap) (news := news.take (len * ei.size)) hNl (by
          rcases n1 with h0 | ⟨b, of', k1, k2⟩
          · omega
          · exact .inr ⟨b, of', k1, fun j v hj => by
              rw [List.getElem?_take] at hj
              split at hj
              · exact k2 j v hj
              · cases hj⟩)
        have hall : ∀ e ∈ es.take off ++ xs.take len ++ es.drop (off + M), e.length = ei.size := fun e he => by
          rcases List.mem_append.1 he with he | he
          · rcases List.mem_append.1 he with he | he
            · exact o3 e (List.mem_of_mem_take he)
            · exact hX3 e he
          · exact o3 e (List.mem_of_mem_drop he)
        have hlen : (es.take off ++ xs.take len ++ es.drop (off + M)).length = es.length := by simp [hXl]; omega
        have hfl : (es.take off ++ xs.take len ++ es.drop (off + M)).flatten = es.flatten.take (off * ei.size) ++ (xs.take len).flatten ++ es.flatten.drop ((off + M) * ei.size) := by
          rw [List.flatten_append, List.flatten_append, flatten_take o3, flatten_drop o3]
        have hesl := flatten_len o3
        obtain ⟨A, B⟩ := H.update (W' := W') (es' := es.take off ++ xs.take len ++ es.drop (off + M)) hrow o1 (by rw [wr_size]) hB (by rw [wr_size]; exact o2) hall (by rw [wr_size, hlen]; exact o4) (fun j u hj => by
          rw [wr_get _ _ _ (by rw [hNl]; omega), hNl]
          rw [hfl, List.append_assoc, List.getElem?_append] at hj
          have htk : (es.flatten.take (off * ei.size)).length = off * ei.size := by rw [List.length_take, hesl]; omega
          have hXfl : (xs.take len).flatten.length = M * ei.size := by rw [flatten_len hX3, hXl]
          rw [htk] at hj
          split at hj
          · rename_i hjl
            rw [List.getElem?_take, if_pos hjl] at hj
            rw [if_neg (by omega)]
            exact o5 j u hj
          · rename_i hjl
            rw [List.getElem?_append, hXfl] at hj
            split at hj
            · rename_i hj2
              rw [if_pos (by omega)]
              rw [hXf, List.getElem?_take] at hj
              split at hj
              · rename_i hj3
                have hlt : j - off * ei.size < news.length := by
                  have := (List.getElem?_eq_some_iff.1 hj).1
                  rw [n2.1]; exact this
                refine ⟨List.all_eq_true.1 n4 u (List.mem_of_getElem? hj), news[j - off * ei.size], ?_, n2.2 _ _ _ hj (List.getElem?_eq_getElem hlt)⟩
                rw [List.getElem?_take, if_pos (by omega), ← List.getElem?_eq_getElem hlt]
                congr 1; omega
              · cases hj
            · rename_i hj2
              rw [if_neg (by omega)]
              rw [List.getElem?_drop, Nat.add_mul, show off * ei.size + M * ei.size + (j - off * ei.size - M * ei.size) = j by omega] at hj
              exact o5 j u hj)
        refine ⟨.value (.int .i64 M), _, W', S, φ, ?_, .value _, .p _ _ (.int _ _), A, B⟩
        have hM' : Nat.min xs.length len = M := hM
        rw [Nat.add_zero] at *
        simp [execOp, ho, hc, ha, hat, hvd, hvx, resolve, invoke, builtin, Builtin.copy_, run_underlying ht, sizeOf, typeInfo, hei, Builtin.lenOf, hM', hf, goInt, hrun]

/-! ### Bytes to text -/
theorem bytesA_spec : ∀ {xs : List (List AV)} {l : List UInt8}, bytesA xs = some l → ∃ ns : List Int, xs = ns.map (fun n => [AV.p (.int .u8 n)]) ∧ l = ns.map fun n => UInt8.ofNat n.toNat
  | [], l, h => by cases h; exact ⟨[], rfl, rfl⟩
  | x :: r, l, h => by
    unfold bytesA at h
    split at h <;> first | (cases h; done) | skip
    · rename_i e; cases e
    · rename_i n r' e
      cases e
      rw [Option.map_eq_some_iff] at h
      obtain ⟨l', h1, rfl⟩ := h
      obtain ⟨ns, rfl, rfl⟩ := bytesA_spec h1
      exact ⟨n :: ns, rfl, rfl⟩

theorem foldl_push (ns : List Int) : ∀ s : ByteArray, ns.foldl (fun r n => r.push (UInt8.ofNat n.toNat)) s = ⟨s.data ++ (ns.map fun n => UInt8.ofNat n.toNat).toArray⟩ := by
  induction ns with
  | nil => intro s; simp
  | cons n r ih => intro s; rw [List.foldl_cons, ih]; simp [ByteArray.push]

theorem ones_flatten : ∀ ns : List Int, (ns.map (fun n => [AV.p (.int .u8 n)])).flatten = ns.map fun n => AV.p (.int .u8 n)
  | [] => rfl
  | n :: r => by simp [← ones_flatten r]

theorem yld_btos {x : Operand} {x' : AOp} {s d e : TypeId} (ho : o.op = .convert s d x) (hs : P.underlying s = some (.slice e)) (hee : P.underlying e = some (.int .u8)) (hd : P.underlying d = some .string) (hx : cop x = some x')
    (he : ev G ts h (.btos x') = some (av, h')) : Yld P G o ts h av h' := by
  simp only [ev] at he
  split at he <;> first | (cases he; done) | skip
  rename_i xs hxs
  rw [Option.map_eq_some_iff] at he
  obtain ⟨l, hl, he⟩ := he
  cases he
  refine .of_same fun W S φ a H T => ?_
  have hrx := cop_rel hx T
  generalize hvx : a.eval x = vx at hrx
  obtain ⟨ad, cap, news, rfl, n1, n2, n3, n4, n5⟩ := elems_rel H hrx hxs
  obtain ⟨ns, rfl, rfl⟩ := bytesA_spec hl
  rw [ones_flatten] at n2
  have hnews : news = ns.map (Value.int .u8) := by
    refine List.ext_getElem? fun j => ?_
    have hlen := n2.1
    simp only [List.length_map] at hlen
    rw [List.getElem?_map]
    cases hj : ns[j]? with
    | none => rw [List.getElem?_eq_none_iff] at hj; simp; omega
    | some n =>
      have hjl := (List.getElem?_eq_some_iff.1 hj).1
      have := n2.2 j (.p (.int .u8 n)) _ (by rw [List.getElem?_map, hj]; rfl) (List.getElem?_eq_getElem (by omega : j < news.length))
      rw [List.getElem?_eq_getElem (by omega), prel_int this]; rfl
  have hconv := run_convert_bytes_string (P := P) W s d e ad (ns.map fun n => [AV.p (.int .u8 n)]).length cap hs hee hd
  cases ad with
  | none =>
    have : ns = [] := by
      rcases n1 with h0 | ⟨b, off, k, _⟩
      · simpa using h0
      · cases k
    subst this
    refine ⟨.string ⟨⟨[]⟩⟩, ?_, .p _ _ (.str _)⟩
    simp only [execOp, ho, hvx]
    simp only [Sem.run_map, Sem.run_bind, hconv, Conv.bytesToString] 
    rfl
  | some b =>
    have hlc : (loadCells b (ns.map fun n => [AV.p (.int .u8 n)]).length).run P W = .ok (ns.map (Value.int .u8)).toArray W := by
      rw [← hnews]
      have := run_firstM (P := P) (W := W) (size := 1) (ad := some b) (m := (ns.map fun n => [AV.p (.int .u8 n)]).length) (n := 0) (cap := 0) (news := news) (by rw [hnews]; simp) n1
      simpa [Builtin.firstCells] using this
    have h2 := run_bytesToString (P := P) W b (ns.map fun n => [AV.p (.int .u8 n)]).length cap ns hlc
    refine ⟨.string ⟨⟨ns.map fun n => UInt8.ofNat n.toNat⟩⟩, ?_, .p _ _ (.str _)⟩
    rw [foldl_push] at h2
    simp only [execOp, ho, hvx]
    simp only [Sem.run_map, Sem.run_bind, hconv, h2]
    rw [show (ByteArray.empty).data ++ (ns.map fun n => UInt8.ofNat n.toNat).toArray = ⟨ns.map fun n => UInt8.ofNat n.toNat⟩ from by simp [ByteArray.empty, ByteArray.emptyWithCapacity]; rfl]
    rfl

/-! ### Objects that are no rows -/
theorem alloc_obj {W : World} {S : Nat → Prop} {φ : Place} (H : HRel G W S φ h) {ob : Obj} {ao : AO} (hr : ∀ sz es, ao ≠ .row sz es) (hc : ∀ c t fr, ob ≠ .cells c t fr) (ho : ∀ R, ORel R ao (some ob)) :
    HRel G (W.alloc ob) S (upd φ h.length (W.heap.size, 0)) (h ++ [ao]) ∧ Keep W S φ h (W.alloc ob) S (upd φ h.length (W.heap.size, 0)) (h ++ [ao]) := by
  have hold : ∀ b, b < W.heap.size → (W.alloc ob).heap[b]? = W.heap[b]? := fun b hb => by
    show (W.heap.push _)[b]? = _
    rw [Array.getElem?_push, if_neg (by omega)]
  have hnew : (W.alloc ob).heap[W.heap.size]? = some ob := by show (W.heap.push _)[W.heap.size]? = _; simp
  have hs : W.heap.size < (W.alloc ob).heap.size := by show _ < (W.heap.push _).size; simp
  have hφ : ∀ {i}, i < h.length → upd φ h.length (W.heap.size, 0) i = φ i := fun hi => by simp only [upd]; rw [if_neg (by omega)]
  have hφn : upd φ h.length (W.heap.size, 0) h.length = (W.heap.size, 0) := by simp [upd]
  have hget : ∀ {i o}, (h ++ [ao])[i]? = some o → (i = h.length ∧ o = ao) ∨ (i < h.length ∧ h[i]? = some o) := fun {i o} e => by
    rcases Nat.lt_trichotomy i h.length with hi | hi | hi
    · rw [List.getElem?_append_left hi] at e; exact .inr ⟨hi, e⟩
    · subst hi; simp at e; exact .inl ⟨rfl, e.symm⟩
    · rw [List.getElem?_eq_none (by simp; omega)] at e; cases e
  have K : Kept W S φ h.length (W.alloc ob) S (upd φ h.length (W.heap.size, 0)) (h ++ [ao]).length :=
    { pure := fun b hb => ⟨hb, hold b (H.sep b hb).1⟩
      len := by simp
      same := fun id hid => hφ hid
      blk := fun i hi c t fr e => ⟨c, t, fr, by rw [← hold _ (H.bnd i hi)]; exact e, rfl⟩ }
  refine ⟨⟨fun id sz es e => ?_, fun id o e lo => ?_, fun id id' ⟨o1, e1, l1⟩ ⟨o2, e2, l2⟩ he => ?_, fun b hb => ⟨Nat.lt_of_lt_of_le (H.sep b hb).1 (Nat.le_of_lt hs), fun id ⟨o, e, l⟩ he => ?_⟩, fun id hid => ?_, fun g cs hg => ?_⟩,
    { K with os := rfl, tape := rfl, output := rfl, size := Nat.le_of_lt hs, out := fun b hb _ => hold b hb, img := fun id ⟨o, e, l⟩ => ?_, newS := fun b hb => .inl hb }⟩
  · rcases hget e with ⟨rfl, e'⟩ | ⟨hi, e'⟩
    · exact (hr _ _ e'.symm).elim
    · obtain ⟨c, t, fr, a1, a2, a3, a4, a5⟩ := H.obj id sz es e'
      refine ⟨c, t, fr, by rw [hφ hi, hold _ (H.bnd id hi)]; exact a1, a2, a3, by rw [hφ hi]; exact a4, fun j u hj => ?_⟩
      obtain ⟨b1, v, b2, b3⟩ := a5 j u hj
      exact ⟨b1, v, by rw [hφ hi]; exact b2, b3.kept K⟩
  · rcases hget e with ⟨rfl, rfl⟩ | ⟨hi, e'⟩
    · rw [hφn, hnew]; exact ho _
    · rw [hφ hi, hold _ (H.bnd id hi)]
      exact (H.oobj id o e' lo).mono fun a v r => r.kept K
  · rcases hget e1 with ⟨rfl, _⟩ | ⟨hi, e1'⟩ <;> rcases hget e2 with ⟨rfl, _⟩ | ⟨hi', e2'⟩
    · rfl
    · rw [hφn, hφ hi'] at he; have := H.bnd _ hi'; simp only at he; omega
    · rw [hφn, hφ hi] at he; have := H.bnd _ hi; simp only at he; omega
    · rw [hφ hi, hφ hi'] at he; exact H.inj _ _ ⟨_, e1', l1⟩ ⟨_, e2', l2⟩ he
  · rcases hget e with ⟨rfl, _⟩ | ⟨hi, e'⟩
    · rw [hφn] at he; have := (H.sep b hb).1; simp only at he; omega
    · rw [hφ hi] at he; exact (H.sep b hb).2 _ ⟨_, e', l⟩ he
  · rcases Nat.lt_or_ge id h.length with hi | hi
    · rw [hφ hi]; exact Nat.lt_trans (H.bnd _ hi) hs
    · have : id = h.length := by simp at hid; omega
      subst this
      rw [hφn]; exact hs
  · obtain ⟨g1, g2⟩ := H.glob g cs hg
    refine ⟨g1, fun j c hj => ?_⟩
    obtain ⟨v, k1, k2⟩ := g2 j c hj
    exact ⟨v, by rw [cell?_of_heap (K.pure g g1).2]; exact k1, k2.mono K.pure⟩
  · rcases hget e with ⟨rfl, _⟩ | ⟨hi, e'⟩
    · rw [hφn]; exact .inl (Nat.le_refl _)
    · rw [hφ hi]; exact .inr ⟨id, ⟨_, e', l⟩, rfl⟩

/-- An object set anew. -/
def World.withObj (W : World) (b : Nat) (ob : Obj) : World := { W with heap := W.heap.setIfInBounds b ob }

theorem set_obj {W : World} {S : Nat → Prop} {φ : Place} (H : HRel G W S φ h) {id : Nat} {ob : Obj} {ao ao' : AO} (hid : h[id]? = some ao) (lo : ao.live) (hr : ∀ sz es, ao' ≠ .row sz es) (lo' : ao'.live) (hc : ∀ c t fr, ob ≠ .cells c t fr)
    (ho : ORel (VRel W S φ h.length) ao' (some ob)) :
    HRel G (World.withObj W (φ id).1 ob) S φ (h.set id ao') ∧ Keep W S φ h (World.withObj W (φ id).1 ob) S φ (h.set id ao') := by
  have hidl : id < h.length := H.lt hid
  have hlv : Live h id := ⟨_, hid, lo⟩
  have hb := H.bnd id hidl
  have hat : (World.withObj W (φ id).1 ob).heap[(φ id).1]? = some ob := by simp [World.withObj, hb]
  have hoth : ∀ b, b ≠ (φ id).1 → (World.withObj W (φ id).1 ob).heap[b]? = W.heap[b]? := fun b hb => by simp [World.withObj, Array.getElem?_setIfInBounds_ne (Ne.symm hb)]
  have hsz : (World.withObj W (φ id).1 ob).heap.size = W.heap.size := by simp [World.withObj]
  have hget : ∀ {i o}, (h.set id ao')[i]? = some o → (i = id ∧ o = ao') ∨ (i ≠ id ∧ h[i]? = some o) := fun {i o} e => by
    by_cases hi : i = id
    · subst hi; rw [List.getElem?_set_self hidl] at e; cases e; exact .inl ⟨rfl, rfl⟩
    · rw [List.getElem?_set_ne (Ne.symm hi)] at e; exact .inr ⟨hi, e⟩
  have hlive : ∀ {i}, Live (h.set id ao') i → Live h i := fun ⟨o, e, l⟩ => by
    rcases hget e with ⟨rfl, _⟩ | ⟨_, e'⟩
    · exact hlv
    · exact ⟨_, e', l⟩
  have K : Kept W S φ h.length (World.withObj W (φ id).1 ob) S φ (h.set id ao').length :=
    { pure := fun b hb' => ⟨hb', hoth b fun e => (H.sep b hb').2 _ hlv e.symm⟩
      len := by simp
      same := fun _ _ => rfl
      blk := fun i hi c' t' fr' e => by
        by_cases hb : (φ i).1 = (φ id).1
        · rw [hb, hat] at e; cases e; exact (hc _ _ _ rfl).elim
        · rw [hoth _ hb] at e; exact ⟨c', t', fr', e, rfl⟩ }
  refine ⟨⟨fun i s es1 e => ?_, fun i o1 e l1 => ?_, fun i i' e1 e2 he => H.inj _ _ (hlive e1) (hlive e2) he, fun b hb' => ⟨by have := (H.sep b hb').1; rw [hsz]; exact this, fun i e he => (H.sep b hb').2 _ (hlive e) he⟩, fun i hi => by rw [hsz]; exact H.bnd i (by simpa using hi), fun g cs hg => ?_⟩,
    { K with os := rfl, tape := rfl, output := rfl, size := by rw [hsz]; exact Nat.le_refl _, out := fun b hb' hn => hoth b (fun e => hn id hlv e.symm), img := fun i e => .inr ⟨i, hlive e, rfl⟩, newS := fun b hb' => .inl hb' }⟩
  · rcases hget e with ⟨rfl, e'⟩ | ⟨hi, e'⟩
    · exact (hr _ _ e'.symm).elim
    · obtain ⟨c1, t1, fr1, a1, a2, a3, a4, a5⟩ := H.obj i s es1 e'
      refine ⟨c1, t1, fr1, by rw [hoth _ (fun he => hi (H.inj _ _ (live_row e') hlv he))]; exact a1, a2, a3, a4, fun j a hj => ?_⟩
      obtain ⟨b1, v, b2, b3⟩ := a5 j a hj
      exact ⟨b1, v, b2, b3.kept K⟩
  · rcases hget e with ⟨rfl, rfl⟩ | ⟨hi, e'⟩
    · rw [hat]; exact ho.mono fun a v r => r.kept K
    · rw [hoth _ (fun he => hi (H.inj _ _ ⟨_, e', l1⟩ hlv he))]
      exact (H.oobj i o1 e' l1).mono fun a v r => r.kept K
  · obtain ⟨g1, g2⟩ := H.glob g cs hg
    refine ⟨g1, fun j c' hj => ?_⟩
    obtain ⟨v, k1, k2⟩ := g2 j c' hj
    exact ⟨v, by rw [cell?_of_heap (K.pure g g1).2]; exact k1, k2.mono K.pure⟩

/-! ### Maps -/
theorem yld_mkm {t : TypeId} (ho : o.op = .makeMap t none) (he : ev G ts h .mkm = some (av, h')) : Yld P G o ts h av h' := by
  cases he
  intro W S φ a H T
  obtain ⟨A, B⟩ := alloc_obj H (ob := .map #[] 0) (ao := .mp []) (fun _ _ e => by cases e) (fun _ _ _ e => by cases e) (fun R => ⟨#[], 0, rfl, rfl, fun j k a e => by simp at e, fun j e h => by simp at h, fun i j e e' h => by simp at h⟩)
  refine ⟨.value (.map (some W.heap.size)), _, _, S, _, ?_, .value _, ?_, A, B⟩
  · simp [execOp, ho, Instr.makeMap]
  · have := VRel.mp (W := W.alloc (.map #[] 0)) (S := S) (φ := upd φ h.length (W.heap.size, 0)) (n := (h ++ [AO.mp []]).length) h.length (by simp)
    simpa [upd] using this

def kindK : TypeDesc → Option Nat
  | .int _ => some 0
  | .string => some 1
  | .bool => some 2
  | _ => none

theorem keq_sameNow {kind : TypeDesc} {kv k' : PV} {b : Bool} {v v' : Value} (hk : kindK kind = some (kindOf kv)) (h : keq kv k' = some b) (hv : keyV kv = some v) (hv' : keyV k' = some v') : Instr.sameNow kind v v' = some b ∧ (b = true → v = v') := by
  cases kv <;> cases k' <;> simp only [keq] at h <;> first | (cases h; done) | skip
  · cases hv; cases hv'; cases h
    cases kind <;> simp [kindK, kindOf] at hk
    refine ⟨?_, fun h => by simp at h; rw [h]⟩
    simp only [Instr.sameNow]
    exact congrArg some (beq_dec _ _)
  · rename_i k1 n1 k2 n2
    split at h <;> first | (cases h; done) | skip
    rename_i e
    cases hv; cases hv'; cases h; subst e
    cases kind <;> simp [kindK, kindOf] at hk
    refine ⟨by simp [Instr.sameNow, beq_dec], fun h => by simp at h; rw [h]⟩
  · rename_i s1 s2
    cases hv; cases hv'; cases h
    cases kind <;> simp [kindK, kindOf] at hk
    refine ⟨?_, fun h => by simp at h; rw [h]⟩
    simp only [Instr.sameNow]
    congr 1
    rw [Bool.eq_iff_iff, beq_toListBytes, ByteArray.toList_eq, ByteArray.toList_eq]
    simp

/-- The search for a key. -/
theorem find_rel {kind : TypeDesc} {kv : PV} {v : Value} (hk : kindK kind = some (kindOf kv)) (hv : keyV kv = some v) {R : AV → Value → Prop} : ∀ (es : List (PV × AV)) (el : List MapEntry) (i : Nat), el.length = es.length →
    (∀ (j : Nat) (k : PV) (a : AV), es[j]? = some (k, a) → ∃ e, el[j]? = some e ∧ keyV k = some e.key ∧ R a e.val) →
    (∀ r, mgetk kv es = some r → (r = none ∧ Instr.findNow kind v el i = some none ∧ ∀ w, msetk kv w es = some (es ++ [(kv, w)])) ∨
      ∃ j k a e, r = some a ∧ es[j]? = some (k, a) ∧ el[j]? = some e ∧ e.key = v ∧ R a e.val ∧ Instr.findNow kind v el i = some (some (i + j, e.val)) ∧ ∀ w, msetk kv w es = some (es.set j (k, w))) ∧
    (mgetk kv es = none → ∀ w, msetk kv w es = none)
  | [], el, i, hl, _ => by
    have : el = [] := List.eq_nil_of_length_eq_zero hl
    subst this
    exact ⟨fun r h => by cases h; exact .inl ⟨rfl, rfl, fun w => rfl⟩, fun h => by cases h⟩
  | (k', a') :: es, el, i, hl, hr => by
    match el, hl with
    | e :: el, hl =>
      obtain ⟨e0, h1, h2, h3⟩ := hr 0 k' a' rfl
      cases h1
      cases hq : keq kv k' with
      | none => exact ⟨fun r h => by simp [mgetk, hq] at h, fun _ w => by simp [msetk, hq]⟩
      | some b =>
        obtain ⟨q1, q2⟩ := keq_sameNow hk hq hv h2
        cases b with
        | true =>
          refine ⟨fun r h => .inr ⟨0, k', a', e, ?_, rfl, rfl, (q2 rfl).symm, h3, by simp [Instr.findNow, q1], fun w => by simp [msetk, hq]⟩, fun h => by simp [mgetk, hq] at h⟩
          simp [mgetk, hq] at h; exact h.symm
        | false =>
          obtain ⟨ih1, ih2⟩ := find_rel hk hv es el (i + 1) (by simpa using hl) (fun j k a h => hr (j + 1) k a h)
          refine ⟨fun r h => ?_, fun h w => by simp only [mgetk, hq] at h; simp [msetk, hq, ih2 h w]⟩
          simp only [mgetk, hq] at h
          rcases ih1 r h with ⟨g1, g2, g3⟩ | ⟨j, k, a, e1, g1, g2, g3, g4, g5, g6, g7⟩
          · exact .inl ⟨g1, by simp [Instr.findNow, q1, g2], fun w => by simp [msetk, hq, g3]⟩
          · exact .inr ⟨j + 1, k, a, e1, g1, g2, g3, g4, g5, by simp [Instr.findNow, q1, g6]; omega, fun w => by simp [msetk, hq, g7]⟩

theorem check_key {W : World} {kt : TypeId} {kind : TypeDesc} {kd : Nat} (hu : P.underlying kt = some kind) (hk : kindK kind = some kd) (b : Bool) (v : Value) : (Instr.checkKey b 10000 kt v).run P W = .ok () W := by
  have key : ∀ n, (Instr.checkKey b (n + 1) kt v).run P W = .ok () W := fun n => by
    cases kind <;> simp [kindK] at hk <;> simp [Instr.checkKey, run_underlying hu]
  exact key 9999

theorem keyV_rel {W : World} {S : Nat → Prop} {φ : Place} {n : Nat} {kv : PV} {x : Value} {kind : TypeDesc} (hk : kindK kind = some (kindOf kv)) (h : VRel W S φ n (.p kv) x) : keyV kv = some x := by
  cases prel_p h with
  | bool b => rfl
  | int k n => rfl
  | str s => rfl
  | lst0 sz a c => cases kind <;> simp [kindK, kindOf] at hk
  | lst sz es b off cap vs _ _ _ _ _ => cases kind <;> simp [kindK, kindOf] at hk

/-- A type's zero, as a value. -/
def zeroAV (P : Program) (t : TypeId) : Option AV :=
  match P.info? t with
  | some i => i.zero.bind cv
  | none => none

theorem zeroAV_rel {t : TypeId} {z : AV} (hz : zeroAV P t = some z) (W : World) (S : Nat → Prop) (φ : Place) (n : Nat) : ∃ zv, (zeroValue t).run P W = .ok zv W ∧ VRel W S φ n z zv := by
  unfold zeroAV at hz
  split at hz <;> first | (cases hz; done) | skip
  rename_i i hi
  rw [Option.bind_eq_some_iff] at hz
  obtain ⟨zv, h1, h2⟩ := hz
  exact ⟨zv, by simp [zeroValue, typeInfo, hi, h1], cv_rel h2⟩

theorem keyOfFound {el : List MapEntry} {j : Nat} {e : MapEntry} (h : el[j]? = some e) (d : Value) : ((el.toArray[j]?).map (·.key)).getD d = e.key := by simp [h]

theorem yld_lk {t kt et : TypeId} {kind : TypeDesc} {kd : Nat} {z : AV} {m k : Operand} {m' k' : AOp} {comma : Bool} (ho : o.op = .lookup t m k comma) (ht : P.underlying t = some (.map kt et)) (hkt : P.underlying kt = some kind) (hkd : kindK kind = some kd)
    (hz : zeroAV P et = some z) (hm : cop m = some m') (hk : cop k = some k') (he : ev G ts h (.lk kd z comma m' k') = some (av, h')) : Yld P G o ts h av h' := by
  simp only [ev] at he
  split at he <;> first | (cases he; done) | skip
  rename_i kv ek
  split at he <;> first | (cases he; done) | skip
  rename_i hkk
  subst hkk
  suffices hs : ∀ (W : World) (S : Nat → Prop) (φ : Place) (a : Act), HRel G W S φ h → TRel W S φ h.length ts a.tmps → ∃ v b r, (Instr.lookup t (a.eval m) (a.eval k) comma).run P W = .ok (if comma then .tuple #[v, .bool b] else v) W ∧ h' = h ∧
      VRel W S φ h.length r v ∧ av = (if comma then .tup [r, .p (.bool b)] else r) by
    intro W S φ a H T
    obtain ⟨v, b, r, h1, rfl, h3, rfl⟩ := hs W S φ a H T
    refine ⟨.value (if comma then .tuple #[v, .bool b] else v), _, W, S, φ, ?_, .value _, ?_, H, Keep.refl H⟩
    · simp [execOp, ho, h1]
    · cases comma with
      | false => exact h3
      | true =>
        refine .tup _ _ rfl fun j c x e1 e2 => ?_
        match j, e1, e2 with
        | 0, e1, e2 => cases e1; cases e2; exact h3
        | 1, e1, e2 => cases e1; cases e2; exact .p _ _ (.bool _)
        | j + 2, e1, e2 => simp at e1
  intro W S φ a H T
  have hrk := cop_rel hk T
  have hrm := cop_rel hm T
  rw [ek] at hrk
  have hkey := keyV_rel hkd hrk
  obtain ⟨zv, z1, z2⟩ := zeroAV_rel hz W S φ h.length
  generalize a.eval k = vk at *
  generalize a.eval m = vm at *
  split at he <;> first | (cases he; done) | skip
  · rename_i id em
    rw [em] at hrm
    split at he <;> first | (cases he; done) | skip
    rename_i es hes
    rw [Option.map_eq_some_iff] at he
    obtain ⟨r, hr, he⟩ := he
    cases he
    obtain ⟨ents, clock, a1, a2⟩ := H.oobj id _ hes trivial
    cases hrm with
    | mp _ hid =>
      have hg : (getObj (φ id).1).run P W = .ok (.map ents clock) W := MapKept.run_getObj_map a1
      have hck := check_key (P := P) (W := W) hkt hkd
      rcases (find_rel hkd hkey es ents.toList 0 (by simpa using a2.1) (fun j k a e => by simpa using a2.2.1 j k a e)).1 r hr with ⟨rfl, g2, _⟩ | ⟨j, k0, a0, e0, rfl, g2, g3, g4, g5, g6, _⟩
      · refine ⟨zv, false, z, ?_, rfl, z2, by cases comma <;> rfl⟩
        cases comma <;> simp [Instr.lookup, run_underlying ht, hg, hck, Instr.findKey, run_underlying hkt, g2, z1]
      · refine ⟨e0.val, true, a0, ?_, rfl, g5, by cases comma <;> rfl⟩
        cases comma <;> simp [Instr.lookup, run_underlying ht, hg, hck, Instr.findKey, run_underlying hkt, g6]
  · rename_i em
    rw [em] at hrm
    cases hrm
    cases he
    have hck := check_key (P := P) (W := W) hkt hkd
    refine ⟨zv, false, z, ?_, rfl, z2, by cases comma <;> rfl⟩
    cases comma <;> simp [Instr.lookup, run_underlying ht, hck, Instr.findKey, run_underlying hkt, Instr.findNow, z1]

theorem sameBits_key {kv : PV} {v : Value} (h : keyV kv = some v) (n : Nat) : Instr.sameBits (n + 1) v v = true := by
  cases kv <;> simp [keyV] at h <;> subst h <;> simp only [Instr.sameBits]
  · simp
  · simp
  · rw [beq_toListBytes]; simp

theorem yld_mup {t kt et : TypeId} {kind : TypeDesc} {kd : Nat} {m k x : Operand} {m' k' x' : AOp} (ho : o.op = .mapUpdate t m k x ∨ o.op = .insert t m k x) (ht : P.underlying t = some (.map kt et)) (hkt : P.underlying kt = some kind) (hkd : kindK kind = some kd)
    (hm : cop m = some m') (hk : cop k = some k') (hx : cop x = some x') (he : ev G ts h (.mup kd m' k' x') = some (av, h')) : Yld P G o ts h av h' := by
  simp only [ev] at he
  split at he <;> first | (cases he; done) | skip
  rename_i kv ek
  split at he <;> first | (cases he; done) | skip
  rename_i hkk
  subst hkk
  split at he <;> first | (cases he; done) | skip
  rename_i id em
  split at he <;> first | (cases he; done) | skip
  rename_i es hes
  rw [Option.map_eq_some_iff] at he
  obtain ⟨es', hes', he⟩ := he
  cases he
  intro W S φ a H T
  have hrk := cop_rel hk T
  have hrm := cop_rel hm T
  have hrx := cop_rel hx T
  rw [ek] at hrk
  rw [em] at hrm
  have hkey := keyV_rel hkd hrk
  have hrun : ∀ W', (Instr.mapUpdate t (a.eval m) (a.eval k) (a.eval x)).run P W = .ok () W' → (execOp a.eval o).run P W = .ok .skip W' := fun W' e => by
    rcases ho with ho | ho <;> simp [execOp, ho, e]
  generalize a.eval k = vk at *
  generalize a.eval m = vm at *
  generalize a.eval x = vx at *
  obtain ⟨ents, clock, a1, a2, a3, a4, a5⟩ := H.oobj id _ hes trivial
  cases hrm with
  | mp _ hid =>
    have hg : (getObj (φ id).1).run P W = .ok (.map ents clock) W := MapKept.run_getObj_map a1
    have hck := check_key (P := P) (W := W) hkt hkd
    have hset : ∀ ob, (setObj (φ id).1 ob).run P W = .ok () (World.withObj W (φ id).1 ob) := fun ob => by simp [setObj, Sem.run, a1, World.withObj]
    obtain ⟨f1, f2⟩ := find_rel hkd hkey es ents.toList 0 (by simpa using a2) (fun j k a e => by simpa using a3 j k a e)
    cases hq : mgetk kv es with
    | none => rw [f2 hq] at hes'; cases hes'
    | some r =>
      rcases f1 r hq with ⟨rfl, g2, g3⟩ | ⟨j, k0, a0, e0, rfl, g2, g3, g4, g5, g6, g7⟩
      · rw [g3] at hes'
        cases hes'
        obtain ⟨A, B⟩ := set_obj H (ob := .map (ents.push { key := vk, val := vx, born := clock }) (clock + 1)) (ao' := .mp (es ++ [(kv, x'.ev ts)])) hes trivial (fun _ _ e => by cases e) trivial (fun _ _ _ e => by cases e)
          ⟨_, _, rfl, by simp [a2], (fun j k a e => by
            rcases Nat.lt_trichotomy j es.length with hj | hj | hj
            · rw [List.getElem?_append_left hj] at e
              obtain ⟨e1, h1, h2, h3⟩ := a3 j k a e
              exact ⟨e1, by rw [Array.getElem?_push, if_neg (by omega)]; exact h1, h2, h3⟩
            · subst hj
              simp at e
              obtain ⟨rfl, rfl⟩ := e
              exact ⟨{ key := vk, val := vx, born := clock }, by rw [Array.getElem?_push, if_pos a2.symm], hkey, hrx⟩
            · rw [List.getElem?_eq_none (by simp; omega)] at e; cases e), (fun j e h1 => by
            rw [Array.getElem?_push] at h1
            split at h1
            · cases h1; simp
            · have := a4 j e h1; omega), (fun i j e e' h1 h2 hb => by
            rw [Array.getElem?_push] at h1 h2
            split at h1 <;> split at h2
            · omega
            · cases h1; have := a4 j e' h2; simp at hb; omega
            · cases h2; have := a4 i e h1; simp at hb; omega
            · exact a5 i j e e' h1 h2 hb)⟩
        refine ⟨_, _, _, S, φ, hrun _ ?_, .skip, .any _, A, B⟩
        simp [Instr.mapUpdate, run_underlying ht, hg, hck, Instr.findKey, run_underlying hkt, g2, hset]
      · rw [g7] at hes'
        cases hes'
        have hjl : j < es.length := (List.getElem?_eq_some_iff.1 g2).1
        have g3' : ents[j]? = some e0 := by simpa using g3
        obtain ⟨A, B⟩ := set_obj H (ob := .map (ents.modify j fun e => { e with key := vk, val := vx }) clock) (ao' := .mp (es.set j (k0, x'.ev ts))) hes trivial (fun _ _ e => by cases e) trivial (fun _ _ _ e => by cases e)
          ⟨_, _, rfl, by simp [a2], (fun i k a e => by
            by_cases hi : i = j
            · subst hi
              rw [List.getElem?_set_self hjl] at e
              cases e
              refine ⟨{ e0 with key := vk, val := vx }, by simp [Array.getElem?_modify, g3'], ?_, hrx⟩
              obtain ⟨e1, h1, h2, h3⟩ := a3 i _ _ g2
              rw [g3'] at h1; cases h1
              rw [h2, g4]
            · rw [List.getElem?_set_ne (Ne.symm hi)] at e
              obtain ⟨e1, h1, h2, h3⟩ := a3 i k a e
              exact ⟨e1, by rw [Array.getElem?_modify, if_neg (Ne.symm hi)]; exact h1, h2, h3⟩), (fun i e h1 => by
            rw [Array.getElem?_modify] at h1
            split at h1
            · rw [Option.map_eq_some_iff] at h1
              obtain ⟨e1, h1, rfl⟩ := h1
              exact a4 i e1 h1
            · exact a4 i e h1), (fun i i' e e' h1 h2 hb => by
            rw [Array.getElem?_modify] at h1 h2
            have q1 : ∃ d, ents[i]? = some d ∧ d.born = e.born := by
              split at h1
              · rw [Option.map_eq_some_iff] at h1; obtain ⟨d, h1, rfl⟩ := h1; exact ⟨d, h1, rfl⟩
              · exact ⟨e, h1, rfl⟩
            have q2 : ∃ d, ents[i']? = some d ∧ d.born = e'.born := by
              split at h2
              · rw [Option.map_eq_some_iff] at h2; obtain ⟨d, h2, rfl⟩ := h2; exact ⟨d, h2, rfl⟩
              · exact ⟨e', h2, rfl⟩
            obtain ⟨d1, c1, c2⟩ := q1
            obtain ⟨d2, c3, c4⟩ := q2
            exact a5 i i' d1 d2 c1 c3 (by rw [c2, c4, hb]))⟩
        refine ⟨_, _, _, S, φ, hrun _ ?_, .skip, .any _, A, B⟩
        have hsb : Instr.sameBits 10000 vk vk = true := sameBits_key hkey 9999
        simp [Instr.mapUpdate, run_underlying ht, hg, hck, Instr.findKey, run_underlying hkt, g6, g3', Instr.keyThatStays, g4, hsb, hset]

/-! ### Ranges over text -/
theorem yld_rngS {t : TypeId} {x : Operand} {x' : AOp} (ho : o.op = .range t x) (ht : P.underlying t = some .string) (hx : cop x = some x') (he : ev G ts h (.rngS x') = some (av, h')) : Yld P G o ts h av h' := by
  simp only [ev] at he
  split at he <;> first | (cases he; done) | skip
  rename_i s e1
  cases he
  intro W S φ a H T
  have hrx := cop_rel hx T
  rw [e1] at hrx
  have hv := prel_str hrx
  obtain ⟨A, B⟩ := alloc_obj H (ob := .stringIter ⟨⟨s⟩⟩ 0) (ao := .sit s 0) (fun _ _ e => by cases e) (fun _ _ _ e => by cases e) (fun R => rfl)
  refine ⟨.value (.pointer (some ⟨W.heap.size, 0, none⟩)), _, _, S, _, ?_, .value _, ?_, A, B⟩
  · simp [execOp, ho, hv, Instr.range, run_underlying ht]
  · have := VRel.it (W := W.alloc (.stringIter ⟨⟨s⟩⟩ 0)) (S := S) (φ := upd φ h.length (W.heap.size, 0)) (n := (h ++ [AO.sit s 0]).length) h.length (by simp)
    simpa [upd] using this

theorem yld_nxtS {x : Operand} {x' : AOp} (ho : o.op = .next x true) (hx : cop x = some x') (he : ev G ts h (.nxtS x') = some (av, h')) : Yld P G o ts h av h' := by
  simp only [ev] at he
  split at he <;> first | (cases he; done) | skip
  rename_i id e1
  split at he <;> first | (cases he; done) | skip
  rename_i s pos hs
  intro W S φ a H T
  have hrx := cop_rel hx T
  rw [e1] at hrx
  have ho1 : W.heap[(φ id).1]? = some (.stringIter ⟨⟨s⟩⟩ pos) := H.oobj id _ hs trivial
  have hsz : (⟨⟨s⟩⟩ : ByteArray).size = s.length := rfl
  have hg : (getObj (φ id).1).run P W = .ok (.stringIter ⟨⟨s⟩⟩ pos) W := by simp [getObj, Sem.run, ho1]
  have hset : ∀ ob, (setObj (φ id).1 ob).run P W = .ok () (World.withObj W (φ id).1 ob) := fun ob => by simp [setObj, Sem.run, ho1, World.withObj]
  generalize hvx : a.eval x = vx at hrx
  cases hrx with
  | it _ hid =>
    split at he
    · rename_i hp
      cases he
      obtain ⟨A, B⟩ := set_obj H (ob := .stringIter ⟨⟨s⟩⟩ (pos + (Utf8.decode ⟨⟨s⟩⟩ pos).2)) (ao' := .sit s (pos + (Utf8.decode ⟨⟨s⟩⟩ pos).2)) hs trivial (fun _ _ e => by cases e) trivial (fun _ _ _ e => by cases e) rfl
      refine ⟨.value (.tuple #[.bool true, goInt pos, .int .i32 (Utf8.decode ⟨⟨s⟩⟩ pos).1]), _, _, S, φ, ?_, .value _, ?_, A, B⟩
      · have hp' : pos < (⟨⟨s⟩⟩ : ByteArray).size := by rw [hsz]; exact hp
        simp [execOp, ho, hvx, Instr.next, hg, hp', hset]
      · refine .tup _ _ rfl fun j c x e1 e2 => ?_
        match j, e1, e2 with
        | 0, e1, e2 => cases e1; cases e2; exact .p _ _ (.bool _)
        | 1, e1, e2 => cases e1; cases e2; exact .p _ _ (.int _ _)
        | 2, e1, e2 => cases e1; cases e2; exact .p _ _ (.int _ _)
        | j + 3, e1, e2 => simp at e1
    · rename_i hp
      cases he
      refine ⟨.value (.tuple #[.bool false]), _, W, S, φ, ?_, .value _, ?_, H, Keep.refl H⟩
      · have hp' : ¬ pos < (⟨⟨s⟩⟩ : ByteArray).size := by rw [hsz]; exact hp
        simp [execOp, ho, hvx, Instr.next, hg, hp']
      · refine .tup _ _ rfl fun j c x e1 e2 => ?_
        match j, e1, e2 with
        | 0, e1, e2 => cases e1; cases e2; exact .p _ _ (.bool _)
        | j + 1, e1, e2 => simp at e1

end
end Go.Aw
