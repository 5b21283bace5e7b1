/-
  The law of ObjectOf: the program makes the object of a machine's function as the reference does; the object's lists are the caller's own. Conditions: the two listed variables hold what the program's text lays.
-/
import Derived.Test.YtbbobekgnclkfaaDoorOa5
import Derived.Test.YtbbobekgnclkfaaDoorCards
import Derived.Test.YtbbobekgnclkfaaDoorTie
import Derived.WalkKit
import Derived.ProofKit
import Derived.Deep.DeepWitnessRowRef
namespace Go.Proofs.YtbbobekgnclkfaaDoor
open Go Go.Aw Go.ChangeShapes Go.WideShapes Go.ChangeAt Go.RowKit
set_option maxRecDepth 100000
abbrev LAW : Nat := 7
theorem kids0 : Kids Tryd.prog (· < Tryd.prog.types.size) := kids_rows (by kernel_rfl) (by kernel_rfl)
theorem full0 : ∀ t e, t < Tryd.prog.types.size → Tryd.prog.underlying t = some (.slice e) → 0 < Tryd.prog.cellsOf e := slices_full_of Tryd.prog (by kernel_rfl)
def plains : List TypeId := [24, 22, 101, 99, 164, 9, 3, 42, 131, 165, 145, 4]
theorem plain0 : Plain Tryd.prog plains = true := by kernel_rfl
theorem own0 : ownKnob Tryd.prog.godebug = none := by kernel_rfl
def G0 : Glob := fun g => if g = 1 then some pvKeys else if g = 2 then some pvForms else none
theorem toKeys : ∀ k, toPV Tryd.prog (k + 10) 131 (Rows.laid_loop_example_wholeway_impl_keys (H := Unit)) = pvKeys := fun k => by kernel_rfl
theorem toForms : ∀ k, toPV Tryd.prog (k + 10) 165 (Rows.laid_loop_example_wholeway_impl_forms (H := Unit)) = pvForms := fun k => by kernel_rfl
theorem hG0 {W : World} (hL : laidMetH Tryd.prog Rows.fnExactObjectOfRow.laid W) : ∀ g cs, G0 g = some cs → g < W.heap.size ∧ ∀ (j : Nat) (c : PV), cs[j]? = some c → ∃ v, W.cell? ⟨g, j, none⟩ = some v ∧ PRel W (· < W.heap.size) c v := by
  intro g cs h
  have hL' : laidMet Tryd.prog Rows.fnExactObjectOfRow.laid W := hL
  unfold G0 at h
  split at h
  · rename_i e; subst e; cases h
    exact laid_glob plain0 hL' (n := "loop.example/wholeway/impl.keys") (d := Rows.laid_loop_example_wholeway_impl_keys) (t := 131) (by simp [Rows.fnExactObjectOfRow]) (by kernel_rfl) (by kernel_rfl) (by decide) toKeys
  · split at h
    · rename_i e; subst e; cases h
      exact laid_glob plain0 hL' (n := "loop.example/wholeway/impl.forms") (d := Rows.laid_loop_example_wholeway_impl_forms) (t := 165) (by simp [Rows.fnExactObjectOfRow]) (by kernel_rfl) (by kernel_rfl) (by decide) toForms
    · cases h
theorem bulk_sum {H : Type} : ∀ l : List (DataW H), Rows.uptoBulkAll l = (l.map Rows.uptoBulk).sum
  | [] => by simp [Rows.uptoBulkAll]
  | d :: r => by simp [Rows.uptoBulkAll, bulk_sum r]
theorem bulk_ok {H : Type} : BulkOk (Rows.uptoBulk (H := H)) where
  lit := fun l => by cases l <;> simp [Rows.uptoBulk]
  str := fun s => by simp [Rows.uptoBulk]
  nil := by simp [Rows.uptoBulk]
  slice := fun es sp => by simp only [Rows.uptoBulk, bulk_sum]; omega
  agg := fun ps => by simp only [Rows.uptoBulk, bulk_sum]; omega
theorem conf_slN {t e : TypeId} {vs : List PV} (h : Conf Tryd.prog t vs) (hu : Tryd.prog.underlying t = some (.slice e)) : ∃ es, vs = [.lst (Tryd.prog.cellsOf e) es] ∧ es.length ≤ 9223372036854775807 ∧ ∀ x ∈ es, Conf Tryd.prog e x := by
  cases h with
  | sl es e' hl hs => rw [hu] at e'; cases e'; exact ⟨es, rfl, hl, hs⟩
  | bool b e => rw [e] at hu; cases hu
  | int n e => rw [e] at hu; cases hu
  | str s e => rw [e] at hu; cases hu
  | st vs e => rw [e] at hu; cases hu
  | arr vs e => rw [e] at hu; cases hu
theorem conf_strs {vs : List PV} (h : Conf Tryd.prog 42 vs) : ∃ l : List (List UInt8), vs = [strL l] ∧ l.length ≤ 9223372036854775807 ∧ ∀ x ∈ l, x.length ≤ 9223372036854775807 := by
  obtain ⟨es, rfl, hl, h4⟩ := conf_slN h (e := 9) (by kernel_rfl)
  have hk : ∀ x ∈ es, ∃ s : List UInt8, x = [PV.str s] ∧ s.length ≤ maxLen := fun x hx => conf_str (h4 x hx) (by kernel_rfl)
  obtain ⟨l, rfl⟩ := list_of (fun s : List UInt8 => [PV.str s]) (fun x hx => by obtain ⟨n, e, _⟩ := hk x hx; exact ⟨n, e⟩)
  rw [show Tryd.prog.cellsOf 9 = 1 by kernel_rfl]
  refine ⟨l, rfl, by rwa [List.length_map] at hl, fun s hs => ?_⟩
  obtain ⟨m, e, hw⟩ := hk [PV.str s] (List.mem_map.2 ⟨s, hs, rfl⟩)
  cases e
  exact hw
theorem conf_mfnN {vs : List PV} (h : Conf Tryd.prog 101 vs) : ∃ f : Mfn, vs = f.cs ∧ f.ins.length ≤ 9223372036854775807 := by
  have h := conf_st (ts := [3, 3, 99]) h (by kernel_rfl)
  obtain ⟨a, r, rfl, h1, h⟩ := confS_cons h
  obtain ⟨b, r, rfl, h2, h⟩ := confS_cons h
  obtain ⟨c, r, rfl, h3, h⟩ := confS_cons h
  cases confS_nil h
  obtain ⟨n1, rfl, _⟩ := conf_int h1 u3
  obtain ⟨n2, rfl, _⟩ := conf_int h2 u3
  obtain ⟨es, rfl, hl, h4⟩ := conf_slN h3 (e := 164) (by kernel_rfl)
  obtain ⟨ms, rfl⟩ := list_of Mins.cs fun x hx => conf_mins (h4 x hx)
  rw [show Tryd.prog.cellsOf 164 = 5 by kernel_rfl]
  exact ⟨⟨n1, n2, ms⟩, rfl, by rwa [List.length_map] at hl⟩
theorem conf_machN {vs : List PV} (h : Conf Tryd.prog 24 vs) : ∃ fs : List Mfn, vs = [fnsL fs] ∧ fs.length ≤ 9223372036854775807 ∧ ∀ f ∈ fs, f.ins.length ≤ 9223372036854775807 := by
  have h := conf_st (ts := [22]) h (by kernel_rfl)
  obtain ⟨a, r, rfl, h1, h⟩ := confS_cons h
  cases confS_nil h
  obtain ⟨es, rfl, hl, h4⟩ := conf_slN h1 (e := 101) (by kernel_rfl)
  obtain ⟨fs, rfl⟩ := list_of Mfn.cs fun x hx => by obtain ⟨f, e, _⟩ := conf_mfnN (h4 x hx); exact ⟨f, e⟩
  rw [show Tryd.prog.cellsOf 101 = 3 by kernel_rfl]
  refine ⟨fs, rfl, by rwa [List.length_map] at hl, fun f hf => ?_⟩
  obtain ⟨g, e, hg⟩ := conf_mfnN (h4 _ (List.mem_map.2 ⟨f, hf, rfl⟩))
  have : f.ins.length = g.ins.length := by
    simp only [Mfn.cs, List.cons.injEq, insL, PV.lst.injEq] at e
    have := congrArg List.length e.2.2.1.2
    simpa using this
  omega
theorem walk : ∀ vss, Confs Tryd.prog Tryd.f7.params.toList vss → VF Tryd.prog G0 LAW (argsAV Tryd.prog Tryd.f7.params.toList vss) (.p (.bool true)) := by
  intro vss h
  rw [Tryd.params7] at h ⊢
  obtain ⟨v1, r, rfl, h1, h⟩ := confs_cons h
  obtain ⟨v2, r, rfl, h2, h⟩ := confs_cons h
  obtain ⟨v3, r, rfl, h3, h⟩ := confs_cons h
  cases confs_nil h
  obtain ⟨fs, rfl, l1, l2⟩ := conf_machN h1
  obtain ⟨i, rfl, _⟩ := conf_int h2 u3
  obtain ⟨ns, rfl, l3, l4⟩ := conf_strs h3
  have e : argsAV Tryd.prog [24, 3, 42] [[fnsL fs], [.int .i64 i], [strL ns]] = [.agg [.p (fnsL fs)], .p (.int .i64 i), .p (strL ns)] := by
    have : Tryd.prog.underlying 24 = some (.struct ((match Tryd.prog.underlying 24 with | some (.struct fs) => fs | _ => #[]))) := by kernel_rfl
    have h42 : Tryd.prog.underlying 42 = some (.slice 9) := by kernel_rfl
    simp only [argsAV, List.zipWith, argAV]
    rw [this, u3, h42]
    rfl
  exact e ▸ law_ObjectOf G0 rfl rfl fs i ns l1 l2 l3 l4
theorem contract (H : Type) (enc : TypeId × Value → H) (W : World) (base : Nat) (args : Array Value) (ds gs : List (DataW H)) (before : List MemPlace)
    (hval : ∀ (j : Nat) t v, Tryd.f7.params[j]? = some t → args[j]? = some v → Value.okWide Tryd.prog W .any base t v)
    (hW : DataW.Whole enc Tryd.prog Tryd.f7.params.toList Rows.fnExactObjectOfSpec.vars false W args.toList ds gs before) (hL : laidMetH Tryd.prog Rows.fnExactObjectOfRow.laid W) :
    Calls Tryd.prog LAW args W fun e W' => ∃ v, e = .returned v ∧ Rows.fnExactObjectOfSpec.post enc Tryd.prog Tryd.f7 false true false false W args v W' := by
  obtain ⟨l1, l2⟩ := whole_len hW
  have hspec : Rows.fnExactObjectOfSpec.fn H (ds ++ gs) = { results := [.lit (.bool true)], args := ds, vars := gs } := by
    rw [Tryd.params7] at l1
    match ds, gs, l1, l2 with
    | [d1, d2, d3], [g1, g2], _, _ => rfl
  refine law_calls (L := plains) (ub := Rows.uptoBulk) (T := (· < Tryd.prog.types.size)) (tb := 4) (G := G0) plain0 bulk_ok (by rw [Tryd.params7]; decide) kids0 full0 (globals_in (by kernel_rfl)) (params_in (by kernel_rfl)) (by kernel_rfl) Tryd.underlying4 hval hW hspec (hG0 hL) ?_
  intro vss h1 _
  exact walk vss h1
noncomputable def low : Nat := (World.holding Tryd.prog default ⟨#[], #[], []⟩).heap.size
noncomputable def cellsOfPV : List PV → Array Value := fun l => (l.map fun | .bool b => Value.bool b | .int k n => .int k n | .str s => .string ⟨⟨s⟩⟩ | .lst _ _ => .slice none 0 0).toArray
noncomputable def laidWorld (os : Os) : World :=
  let w0 := World.holding Tryd.prog os ⟨#[], #[], []⟩
  { w0 with heap := (w0.heap.modify 1 fun
      | .cells _ t frozen => .cells (cellsOfPV pvKeys) t frozen
      | o => o).modify 2 fun
      | .cells _ t frozen => .cells (cellsOfPV pvForms) t frozen
      | o => o }
abbrev wargs : Array Value := #[.agg #[.slice none 0 0], .int .i64 0, .slice none 0 0]
theorem laid_met (os : Os) : laidMet Tryd.prog Rows.fnExactObjectOfRow.laid ((laidWorld os).forCall (fun _ _ => 0) ⟨#[], wargs, []⟩).memory :=
  laidMet_of_run' 8 (by kernel_rfl) (by kernel_rfl)
theorem reads0 (os : Os) {H : Type} (enc : TypeId × Value → H) : ∃ places, DataW.whole enc Tryd.prog ((laidWorld os).forCall (fun _ _ => 0) ⟨#[], wargs, []⟩).memory Tryd.f7.params.toList Rows.fnExactObjectOfSpec.vars false wargs.toList 8 = some ([.agg [.nil], .lit (.int .i64 0), .nil], [Rows.laid_loop_example_wholeway_impl_forms, Rows.laid_loop_example_wholeway_impl_keys], places) := by
  have h : (DataW.whole enc Tryd.prog ((laidWorld os).forCall (fun _ _ => 0) ⟨#[], wargs, []⟩).memory Tryd.f7.params.toList Rows.fnExactObjectOfSpec.vars false wargs.toList 8).map (fun x => (x.1, x.2.1)) = some ([.agg [.nil], .lit (.int .i64 0), .nil], [Rows.laid_loop_example_wholeway_impl_forms, Rows.laid_loop_example_wholeway_impl_keys]) := by kernel_rfl
  rw [Option.map_eq_some_iff] at h
  obtain ⟨⟨x1, x2, x3⟩, e1, e2⟩ := h
  simp only [Prod.mk.injEq] at e2
  obtain ⟨rfl, rfl⟩ := e2
  exact ⟨x3, e1⟩
theorem lifted (os : Os) (started : os.Started) (H : Type) (enc : TypeId × Value → H) (F : Stop.Interp) :
    ReturnsInHanded {} Tryd.checked os LAW .any ((OpenSpec.ofChange Rows.fnExactObjectOfSpec).preRow enc Tryd.prog Tryd.f7 Rows.fnExactObjectOfRow.domain false Rows.fnExactObjectOfRow.laid) (((OpenSpec.ofChange Rows.fnExactObjectOfSpec).at F).post enc Tryd.prog Tryd.f7 false true false false) := by
  obtain ⟨places, hx⟩ := reads0 os enc
  refine returnsInHanded_of_row (C := Tryd.checked) (s := OpenSpec.ofChange Rows.fnExactObjectOfSpec) own0 started (by kernel_rfl) Tryd.func7
    (witness_row_atRef (enc := enc) (C := Tryd.checked) false (laidWorld os) wargs rfl (by kernel_rfl) (by kernel_rfl) (by kernel_rfl)
      (OpenSpec.preRow_of_cond 8 hx (by kernel_rfl) (fun k hk => by cases hk) (by kernel_rfl) (laid_met os))) ?_
  intro W base args ds gs before hval hW _ _ _ hL _ _
  exact contract H enc W base args ds gs before hval hW hL
theorem said : Rows.FnExactObjectOfSaid :=
  OpenClaim.holds_of_cond 7 Tryd.f7 rfl rfl rfl rfl rfl rfl rfl ⟨rfl, rfl, rfl, rfl, rfl⟩ rfl rfl rfl rfl rfl (by kernel_rfl) Tryd.func7 (by kernel_rfl)
    (of_decide_eq_true (by kernel_rfl)) (by unfold Func.isWrapper; first | (rw [if_pos (by decide +kernel)]; kernel_rfl) | (rw [if_neg (by decide +kernel)]; exact ⟨rfl, rfl⟩))
    (fun os started H enc _ F => by rw [OpenClaim.pre_eq_preRow]; exact lifted os started H enc F)
theorem plainSeat (f : FuncId) (fn : Func) (hf : Tryd.pinned.checked.prog.funcNamed "loop.example/wholeway/laws.FnExactObjectOf" = some f) (hfn : Tryd.pinned.checked.prog.funcs[f]? = some fn) :
    false = Tryd.pinned.checked.prog.looks [] ∧ ∀ (j : Nat) t, fn.params[j]? = some t → Tryd.pinned.checked.prog.wantsStandIn t = false := by
  obtain rfl : f = 7 := Option.some.inj ((show Tryd.prog.funcNamed "loop.example/wholeway/laws.FnExactObjectOf" = some 7 by kernel_rfl).symm.trans hf) |>.symm
  obtain rfl : fn = Tryd.f7 := (Option.some.inj (Tryd.func7.symm.trans hfn)).symm
  refine ⟨by kernel_rfl, fun j t ht => ?_⟩
  rw [Tryd.params7] at ht
  have : t = 24 ∨ t = 3 ∨ t = 42 := by simpa using Array.mem_of_getElem? ht
  rcases this with rfl | rfl | rfl
  · exact (show Tryd.prog.wantsStandIn 24 = false by kernel_rfl)
  · exact (show Tryd.prog.wantsStandIn 3 = false by kernel_rfl)
  · exact (show Tryd.prog.wantsStandIn 42 = false by kernel_rfl)
theorem card : Rows.FnExactObjectOfCardSaid :=
  Claim7.holds_tied_plain_at .later [] _ _ _ _ said (fun _ h => by cases h) (by kernel_rfl) (fun _ h => by cases h) fnExactObjectOf_row_tie rfl ⟨rfl, rfl⟩ (by kernel_rfl) rfl plainSeat (by kernel_rfl)
end Go.Proofs.YtbbobekgnclkfaaDoor
