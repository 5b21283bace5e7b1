/-
  The law of CountVars: the program counts in each function of each program the variables that the reference counts, and leaves its arguments as they were. Conditions: the two listed variables hold what the program's text lays.
-/
import Derived.Test.YtiojgfhdcpppcaaDoorCv6
import Derived.Test.YtiojgfhdcpppcaaDoorCards
import Derived.Test.YtiojgfhdcpppcaaDoorTie
import Derived.WalkKit
import Derived.ProofKit
import Derived.LaidMore
import Derived.Deep.DeepWitnessRowRef
namespace Go.Proofs.YtiojgfhdcpppcaaDoor
open Go Go.Aw Go.ChangeShapes Go.WideShapes Go.ChangeAt Go.RowKit
set_option maxRecDepth 100000
abbrev LAW : Nat := 5
theorem walk : ∀ vss, Confs Tryd.prog Tryd.f5.params.toList vss → VF Tryd.prog G0 LAW (argsAV Tryd.prog Tryd.f5.params.toList vss) (.p (.bool true)) := by
  intro vss h
  rw [Tryd.params5] at h ⊢
  obtain ⟨vs, r, rfl, h1, h2⟩ := confs_cons h
  obtain ⟨vs2, r, rfl, h3, h4⟩ := confs_cons h2
  cases confs_nil h4
  obtain ⟨l, rfl, ho⟩ := conf_prog h1
  obtain ⟨n, rfl, _⟩ := conf_int h3 (k := .i64) (by kernel_rfl)
  have e : argsAV Tryd.prog [24, 3] [[fdL l], [.int .i64 n]] = [.agg [.p (fdL l)], .p (.int .i64 n)] := by
    have h24 : Tryd.prog.underlying 24 = some (.struct ((match Tryd.prog.underlying 24 with | some (.struct fs) => fs | _ => #[]))) := by kernel_rfl
    have h3 : Tryd.prog.underlying 3 = some (.int .i64) := by kernel_rfl
    simp only [argsAV, List.zipWith, argAV]
    rw [h24, h3]; rfl
  exact e ▸ law_CountVars G0 rfl rfl l ho n
theorem contract (H : Type) (enc : TypeId × Value → H) (W : World) (base : Nat) (args : Array Value) (ds gs : List (DataW H)) (before : List MemPlace)
    (hval : ∀ (j : Nat) t v, Tryd.f5.params[j]? = some t → args[j]? = some v → Value.okWide Tryd.prog W .any base t v)
    (hW : DataW.Whole enc Tryd.prog Tryd.f5.params.toList Rows.fnExactCountVarsSpec.vars false W args.toList ds gs before) (hL : laidMetH Tryd.prog Rows.fnExactCountVarsRow.laid W) :
    Calls Tryd.prog LAW args W fun e W' => ∃ v, e = .returned v ∧ Rows.fnExactCountVarsSpec.post enc Tryd.prog Tryd.f5 false true false false W args v W' := by
  obtain ⟨l1, l2⟩ := whole_len hW
  have hspec : Rows.fnExactCountVarsSpec.fn H (ds ++ gs) = { results := [.lit (.bool true)], args := ds, vars := gs } := by
    rw [Tryd.params5] at l1
    match ds, gs, l1, l2 with
    | [d, d2], [g1, g2], _, _ => rfl
  have hL' : laidMet Tryd.prog Rows.fnExactCountVarsRow.laid W := hL
  refine law_calls (L := plains) (ub := Rows.uptoBulk) (T := (· < Tryd.prog.types.size)) (tb := 4) (G := G0) plain0 bulk_ok (by rw [Tryd.params5]; decide) kids0 full0 (globals_in (by kernel_rfl)) (params_in (by kernel_rfl)) (by kernel_rfl) Tryd.underlying4 hval hW hspec (hG0L hL' (by simp [Rows.fnExactCountVarsRow]) (by simp [Rows.fnExactCountVarsRow])) ?_
  intro vss h1 _
  exact walk vss h1
abbrev wargs : Array Value := #[.agg #[.slice none 0 0], .int .i64 0]
theorem laid_met (os : Os) : laidMet Tryd.prog Rows.fnExactCountVarsRow.laid ((World.doorLaid Tryd.prog 400 os).forCall (fun _ _ => 0) ⟨#[], wargs, []⟩).memory :=
  laidMet_of_run' 8 (by kernel_rfl) (by kernel_rfl)
theorem reads0 (os : Os) {H : Type} (enc : TypeId × Value → H) : ∃ places, DataW.whole enc Tryd.prog ((World.doorLaid Tryd.prog 400 os).forCall (fun _ _ => 0) ⟨#[], wargs, []⟩).memory Tryd.f5.params.toList Rows.fnExactCountVarsSpec.vars false wargs.toList 8 = some ([.agg [.nil], .lit (.int .i64 0)], [Rows.laid_loop_example_wholeway_impl_keys, Rows.laid_loop_example_wholeway_impl_opSign], places) := by
  have h : (DataW.whole enc Tryd.prog ((World.doorLaid Tryd.prog 400 os).forCall (fun _ _ => 0) ⟨#[], wargs, []⟩).memory Tryd.f5.params.toList Rows.fnExactCountVarsSpec.vars false wargs.toList 8).map (fun x => (x.1, x.2.1)) = some ([.agg [.nil], .lit (.int .i64 0)], [Rows.laid_loop_example_wholeway_impl_keys, Rows.laid_loop_example_wholeway_impl_opSign]) := by kernel_rfl
  rw [Option.map_eq_some_iff] at h
  obtain ⟨⟨x1, x2, x3⟩, e1, e2⟩ := h
  simp only [Prod.mk.injEq] at e2
  obtain ⟨rfl, rfl⟩ := e2
  exact ⟨x3, e1⟩
theorem lifted (os : Os) (started : os.Started) (H : Type) (enc : TypeId × Value → H) (F : Stop.Interp) :
    ReturnsInHanded {} Tryd.checked os LAW .any ((OpenSpec.ofChange Rows.fnExactCountVarsSpec).preRow enc Tryd.prog Tryd.f5 Rows.fnExactCountVarsRow.domain false Rows.fnExactCountVarsRow.laid) (((OpenSpec.ofChange Rows.fnExactCountVarsSpec).at F).post enc Tryd.prog Tryd.f5 false true false false) := by
  obtain ⟨places, hx⟩ := reads0 os enc
  refine returnsInHanded_of_row (C := Tryd.checked) (s := OpenSpec.ofChange Rows.fnExactCountVarsSpec) own0 started (by kernel_rfl) Tryd.func5
    (witness_row_atRef (enc := enc) (C := Tryd.checked) false (World.doorLaid Tryd.prog 400 os) wargs rfl (by kernel_rfl) (by kernel_rfl) (by kernel_rfl)
      (OpenSpec.preRow_of_cond 8 hx (by kernel_rfl) (fun k hk => by cases hk) (by kernel_rfl) (laid_met os))) ?_
  intro W base args ds gs before hval hW _ _ _ hL _ _
  exact contract H enc W base args ds gs before hval hW hL
theorem said : Rows.FnExactCountVarsSaid :=
  OpenClaim.holds_of_cond 5 Tryd.f5 rfl rfl rfl rfl rfl rfl rfl ⟨rfl, rfl, rfl, rfl, rfl⟩ rfl rfl rfl rfl rfl (by kernel_rfl) Tryd.func5 (by kernel_rfl)
    (of_decide_eq_true (by kernel_rfl)) (by unfold Func.isWrapper; first | (rw [if_pos (by decide +kernel)]; kernel_rfl) | (rw [if_neg (by decide +kernel)]; exact ⟨rfl, rfl⟩))
    (fun os started H enc _ F => by rw [OpenClaim.pre_eq_preRow]; exact lifted os started H enc F)
theorem plainSeat (f : FuncId) (fn : Func) (hf : Tryd.pinned.checked.prog.funcNamed "loop.example/wholeway/laws.FnExactCountVars" = some f) (hfn : Tryd.pinned.checked.prog.funcs[f]? = some fn) :
    false = Tryd.pinned.checked.prog.looks [] ∧ ∀ (j : Nat) t, fn.params[j]? = some t → Tryd.pinned.checked.prog.wantsStandIn t = false := by
  obtain rfl : f = 5 := Option.some.inj ((show Tryd.prog.funcNamed "loop.example/wholeway/laws.FnExactCountVars" = some 5 by kernel_rfl).symm.trans hf) |>.symm
  obtain rfl : fn = Tryd.f5 := (Option.some.inj (Tryd.func5.symm.trans hfn)).symm
  refine ⟨by kernel_rfl, fun j t ht => ?_⟩
  rw [Tryd.params5] at ht
  have hm := Array.mem_of_getElem? ht
  simp only [List.mem_toArray, List.mem_cons, List.not_mem_nil, or_false] at hm
  rcases hm with rfl | rfl
  · exact (show Tryd.prog.wantsStandIn 24 = false by kernel_rfl)
  · exact (show Tryd.prog.wantsStandIn 3 = false by kernel_rfl)
theorem card : Rows.FnExactCountVarsCardSaid :=
  Claim7.holds_tied_plain_at .later [] _ _ _ _ said (fun _ h => by cases h) (by kernel_rfl) (fun _ h => by cases h) fnExactCountVars_row_tie rfl ⟨rfl, rfl⟩ (by kernel_rfl) rfl plainSeat (by kernel_rfl)
end Go.Proofs.YtiojgfhdcpppcaaDoor
