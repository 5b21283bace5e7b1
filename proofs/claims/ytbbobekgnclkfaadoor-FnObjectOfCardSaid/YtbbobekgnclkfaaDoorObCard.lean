/-
  The law of ObjectOf at drawn arguments: the program makes the object that the reference makes, its calls told by names. Conditions: the two listed variables hold what the program's text lays.
-/
import Derived.Test.YtbbobekgnclkfaaDoorOb6
import Derived.Test.YtbbobekgnclkfaaDoorCards
import Derived.Test.YtbbobekgnclkfaaDoorTie
import Derived.WalkKit
import Derived.ProofKit
import Derived.Deep.DeepWitnessRowRef
namespace Go.Proofs.YtbbobekgnclkfaaDoor
open Go Go.Aw Go.ChangeShapes Go.WideShapes Go.ChangeAt Go.RowKit
set_option maxRecDepth 100000
abbrev LAW : Nat := 5
theorem kids0 : Kids Tryd.prog (· < Tryd.prog.types.size) := kids_rows (by kernel_rfl) (by kernel_rfl)
theorem full0 : ∀ t e, t < Tryd.prog.types.size → Tryd.prog.underlying t = some (.slice e) → 0 < Tryd.prog.cellsOf e := slices_full_of Tryd.prog (by kernel_rfl)
def plains : List TypeId := [26, 5, 9, 3, 131, 165, 145, 4]
theorem plain0 : Plain Tryd.prog plains = true := by kernel_rfl
theorem own0 : ownKnob Tryd.prog.godebug = none := by kernel_rfl
def G0 : Glob := fun g => if g = 1 then some pvKeys else if g = 2 then some pvForms else none
theorem toKeys : ∀ k, toPV Tryd.prog (k + 10) 131 (Rows.laid_loop_example_wholeway_impl_keys (H := Unit)) = pvKeys := fun k => by kernel_rfl
theorem toForms : ∀ k, toPV Tryd.prog (k + 10) 165 (Rows.laid_loop_example_wholeway_impl_forms (H := Unit)) = pvForms := fun k => by kernel_rfl
theorem hG0 {W : World} (hL : laidMetH Tryd.prog Rows.fnObjectOfRow.laid W) : ∀ g cs, G0 g = some cs → g < W.heap.size ∧ ∀ (j : Nat) (c : PV), cs[j]? = some c → ∃ v, W.cell? ⟨g, j, none⟩ = some v ∧ PRel W (· < W.heap.size) c v := by
  intro g cs h
  have hL' : laidMet Tryd.prog Rows.fnObjectOfRow.laid W := hL
  unfold G0 at h
  split at h
  · rename_i e; subst e; cases h
    exact laid_glob plain0 hL' (n := "loop.example/wholeway/impl.keys") (d := Rows.laid_loop_example_wholeway_impl_keys) (t := 131) (by simp [Rows.fnObjectOfRow]) (by kernel_rfl) (by kernel_rfl) (by decide) toKeys
  · split at h
    · rename_i e; subst e; cases h
      exact laid_glob plain0 hL' (n := "loop.example/wholeway/impl.forms") (d := Rows.laid_loop_example_wholeway_impl_forms) (t := 165) (by simp [Rows.fnObjectOfRow]) (by kernel_rfl) (by kernel_rfl) (by decide) toForms
    · cases h
theorem bulk_sum {H : Type} : ∀ l : List (DataW H), Rows.uptoBulkAll l = (l.map Rows.uptoBulk).sum
  | [] => by simp [Rows.uptoBulkAll]
  | d :: r => by simp [Rows.uptoBulkAll, bulk_sum r]
theorem bulk_ok {H : Type} : BulkOk (Rows.uptoBulk (H := H)) where
  lit := fun l => by cases l <;> simp [Rows.uptoBulk]
  str := fun s => by simp [Rows.uptoBulk]
  nil := by simp [Rows.uptoBulk]
  slice := fun es sp => by simp only [Rows.uptoBulk, bulk_sum]; omega
  agg := fun ps => by simp only [Rows.uptoBulk, bulk_sum]; omega
theorem conf_bytes {vs : List PV} (h : Conf Tryd.prog 26 vs) : ∃ l : List Int, vs = [bysL l] ∧ BytesOk l := by
  obtain ⟨es, rfl, h4⟩ := conf_sl h (e := 5) (by kernel_rfl)
  have hk : ∀ x ∈ es, ∃ n : Int, x = [PV.int .u8 n] ∧ (Lit.int .u8 n).wf = true := fun x hx => conf_int (h4 x hx) (by kernel_rfl)
  obtain ⟨l, rfl⟩ := list_of (fun n : Int => [PV.int .u8 n]) (fun x hx => by obtain ⟨n, e, _⟩ := hk x hx; exact ⟨n, e⟩)
  rw [show Tryd.prog.cellsOf 5 = 1 by kernel_rfl]
  refine ⟨l, rfl, fun n hn => ?_⟩
  obtain ⟨m, e, hw⟩ := hk [PV.int .u8 n] (List.mem_map.2 ⟨n, hn, rfl⟩)
  cases e
  simp [Lit.wf, IntKind.min, IntKind.max, IntKind.bits, IntKind.signed] at hw
  omega
theorem walk : ∀ vss, Confs Tryd.prog Tryd.f5.params.toList vss → VF Tryd.prog G0 LAW (argsAV Tryd.prog Tryd.f5.params.toList vss) (.p (.bool true)) := by
  intro vss h
  rw [Tryd.params5] at h ⊢
  obtain ⟨vs, r, rfl, h1, h2⟩ := confs_cons h
  cases confs_nil h2
  obtain ⟨l, rfl, hl⟩ := conf_bytes h1
  have e : argsAV Tryd.prog [26] [[bysL l]] = [.p (bysL l)] := by
    have : Tryd.prog.underlying 26 = some (.slice 5) := by kernel_rfl
    simp only [argsAV, List.zipWith, argAV]
    rw [this]; rfl
  exact e ▸ law_FnObjectOf G0 rfl rfl l hl
theorem contract (H : Type) (enc : TypeId × Value → H) (W : World) (base : Nat) (args : Array Value) (ds gs : List (DataW H)) (before : List MemPlace)
    (hval : ∀ (j : Nat) t v, Tryd.f5.params[j]? = some t → args[j]? = some v → Value.okWide Tryd.prog W .any base t v)
    (hW : DataW.Whole enc Tryd.prog Tryd.f5.params.toList Rows.fnObjectOfSpec.vars false W args.toList ds gs before) (hL : laidMetH Tryd.prog Rows.fnObjectOfRow.laid W) :
    Calls Tryd.prog LAW args W fun e W' => ∃ v, e = .returned v ∧ Rows.fnObjectOfSpec.post enc Tryd.prog Tryd.f5 false true false false W args v W' := by
  obtain ⟨l1, l2⟩ := whole_len hW
  have hspec : Rows.fnObjectOfSpec.fn H (ds ++ gs) = { results := [.lit (.bool true)], args := ds, vars := gs } := by
    rw [Tryd.params5] at l1
    match ds, gs, l1, l2 with
    | [d], [g1, g2], _, _ => rfl
  refine law_calls (L := plains) (ub := Rows.uptoBulk) (T := (· < Tryd.prog.types.size)) (tb := 4) (G := G0) plain0 bulk_ok (by rw [Tryd.params5]; decide) kids0 full0 (globals_in (by kernel_rfl)) (params_in (by kernel_rfl)) (by kernel_rfl) Tryd.underlying4 hval hW hspec (hG0 hL) ?_
  intro vss h1 _
  exact walk vss h1
noncomputable def low : Nat := (World.holding Tryd.prog default ⟨#[], #[], []⟩).heap.size
noncomputable def cellsOfPV : List PV → Array Value := fun l => (l.map fun | .bool b => Value.bool b | .int k n => .int k n | .str s => .string ⟨⟨s⟩⟩ | .lst _ _ => .slice none 0 0).toArray
noncomputable def laidWorld (os : Os) : World :=
  let w0 := World.holding Tryd.prog os ⟨#[], #[], []⟩
  { w0 with heap := (w0.heap.modify 1 fun
      | .cells _ t frozen => .cells (cellsOfPV pvKeys) t frozen
      | o => o).modify 2 fun
      | .cells _ t frozen => .cells (cellsOfPV pvForms) t frozen
      | o => o }
abbrev wargs : Array Value := #[.slice none 0 0]
theorem laid_met (os : Os) : laidMet Tryd.prog Rows.fnObjectOfRow.laid ((laidWorld os).forCall (fun _ _ => 0) ⟨#[], wargs, []⟩).memory :=
  laidMet_of_run' 8 (by kernel_rfl) (by kernel_rfl)
theorem reads0 (os : Os) {H : Type} (enc : TypeId × Value → H) : ∃ places, DataW.whole enc Tryd.prog ((laidWorld os).forCall (fun _ _ => 0) ⟨#[], wargs, []⟩).memory Tryd.f5.params.toList Rows.fnObjectOfSpec.vars false wargs.toList 8 = some ([.nil], [Rows.laid_loop_example_wholeway_impl_forms, Rows.laid_loop_example_wholeway_impl_keys], places) := by
  have h : (DataW.whole enc Tryd.prog ((laidWorld os).forCall (fun _ _ => 0) ⟨#[], wargs, []⟩).memory Tryd.f5.params.toList Rows.fnObjectOfSpec.vars false wargs.toList 8).map (fun x => (x.1, x.2.1)) = some ([.nil], [Rows.laid_loop_example_wholeway_impl_forms, Rows.laid_loop_example_wholeway_impl_keys]) := by kernel_rfl
  rw [Option.map_eq_some_iff] at h
  obtain ⟨⟨x1, x2, x3⟩, e1, e2⟩ := h
  simp only [Prod.mk.injEq] at e2
  obtain ⟨rfl, rfl⟩ := e2
  exact ⟨x3, e1⟩
theorem lifted (os : Os) (started : os.Started) (H : Type) (enc : TypeId × Value → H) (F : Stop.Interp) :
    ReturnsInHanded {} Tryd.checked os LAW .any ((OpenSpec.ofChange Rows.fnObjectOfSpec).preRow enc Tryd.prog Tryd.f5 Rows.fnObjectOfRow.domain false Rows.fnObjectOfRow.laid) (((OpenSpec.ofChange Rows.fnObjectOfSpec).at F).post enc Tryd.prog Tryd.f5 false true false false) := by
  obtain ⟨places, hx⟩ := reads0 os enc
  refine returnsInHanded_of_row (C := Tryd.checked) (s := OpenSpec.ofChange Rows.fnObjectOfSpec) own0 started (by kernel_rfl) Tryd.func5
    (witness_row_atRef (enc := enc) (C := Tryd.checked) false (laidWorld os) wargs rfl (by kernel_rfl) (by kernel_rfl) (by kernel_rfl)
      (OpenSpec.preRow_of_cond 8 hx (by kernel_rfl) (fun k hk => by cases hk) (by kernel_rfl) (laid_met os))) ?_
  intro W base args ds gs before hval hW _ _ _ hL _ _
  exact contract H enc W base args ds gs before hval hW hL
theorem said : Rows.FnObjectOfSaid :=
  OpenClaim.holds_of_cond 5 Tryd.f5 rfl rfl rfl rfl rfl rfl rfl ⟨rfl, rfl, rfl, rfl, rfl⟩ rfl rfl rfl rfl rfl (by kernel_rfl) Tryd.func5 (by kernel_rfl)
    (of_decide_eq_true (by kernel_rfl)) (by unfold Func.isWrapper; first | (rw [if_pos (by decide +kernel)]; kernel_rfl) | (rw [if_neg (by decide +kernel)]; exact ⟨rfl, rfl⟩))
    (fun os started H enc _ F => by rw [OpenClaim.pre_eq_preRow]; exact lifted os started H enc F)
theorem plainSeat (f : FuncId) (fn : Func) (hf : Tryd.pinned.checked.prog.funcNamed "loop.example/wholeway/laws.FnObjectOf" = some f) (hfn : Tryd.pinned.checked.prog.funcs[f]? = some fn) :
    false = Tryd.pinned.checked.prog.looks [] ∧ ∀ (j : Nat) t, fn.params[j]? = some t → Tryd.pinned.checked.prog.wantsStandIn t = false := by
  obtain rfl : f = 5 := Option.some.inj ((show Tryd.prog.funcNamed "loop.example/wholeway/laws.FnObjectOf" = some 5 by kernel_rfl).symm.trans hf) |>.symm
  obtain rfl : fn = Tryd.f5 := (Option.some.inj (Tryd.func5.symm.trans hfn)).symm
  refine ⟨by kernel_rfl, fun j t ht => ?_⟩
  rw [Tryd.params5] at ht
  obtain rfl : t = 26 := by simpa using Array.mem_of_getElem? ht
  exact (show Tryd.prog.wantsStandIn 26 = false by kernel_rfl)
theorem card : Rows.FnObjectOfCardSaid :=
  Claim7.holds_tied_plain_at .later [] _ _ _ _ said (fun _ h => by cases h) (by kernel_rfl) (fun _ h => by cases h) fnObjectOf_row_tie rfl ⟨rfl, rfl⟩ (by kernel_rfl) rfl plainSeat (by kernel_rfl)
end Go.Proofs.YtbbobekgnclkfaaDoor
