/-
  The law of ImageOf: the program's bytes of a machine are the reference's, they are the caller's own, and the machine stays as it was. Conditions: what the call reads holds at most 1048576 values and letters, and the two listed variables hold what the program's text lays.
-/
import Derived.Test.YtbbobekgnclkfaaDoorCards
import Derived.Test.YtbbobekgnclkfaaDoorTie
import Derived.Test.YtbbobekgnclkfaaDoorM22
import Derived.WalkKit
import Derived.ProofKit
import Derived.Deep.DeepWitnessRowRef
namespace Go.Proofs.YtbbobekgnclkfaaDoor
open Go Go.Aw Go.ChangeShapes Go.WideShapes Go.ChangeAt Go.RowKit
set_option maxRecDepth 100000

abbrev LAW : Nat := 3
theorem kids0 : Kids Tryd.prog (· < Tryd.prog.types.size) := kids_rows (by kernel_rfl) (by kernel_rfl)
theorem full0 : ∀ t e, t < Tryd.prog.types.size → Tryd.prog.underlying t = some (.slice e) → 0 < Tryd.prog.cellsOf e := slices_full_of Tryd.prog (by kernel_rfl)
def plains : List TypeId := [24, 22, 101, 3, 99, 164, 26, 5, 165, 145, 9, 4]
theorem plain0 : Plain Tryd.prog plains = true := by kernel_rfl
theorem own0 : ownKnob Tryd.prog.godebug = none := by kernel_rfl

/- the variables -/
def G0 : Glob := fun g => if g = 0 then some pvMagic else if g = 2 then some pvForms else none
theorem toMagic : ∀ k, toPV Tryd.prog (k + 10) 26 (Rows.laid_loop_example_wholeway_impl_magic (H := Unit)) = pvMagic := fun k => by kernel_rfl
theorem toForms : ∀ k, toPV Tryd.prog (k + 10) 165 (Rows.laid_loop_example_wholeway_impl_forms (H := Unit)) = pvForms := fun k => by kernel_rfl

theorem hG0 {W : World} (hL : laidMetH Tryd.prog Rows.fnExactImageOfRow.laid W) : ∀ g cs, G0 g = some cs → g < W.heap.size ∧ ∀ (j : Nat) (c : PV), cs[j]? = some c → ∃ v, W.cell? ⟨g, j, none⟩ = some v ∧ PRel W (· < W.heap.size) c v := by
  intro g cs h
  have hL' : laidMet Tryd.prog Rows.fnExactImageOfRow.laid W := hL
  unfold G0 at h
  split at h
  · rename_i e; subst e; cases h
    exact laid_glob plain0 hL' (n := "loop.example/wholeway/impl.magic") (d := Rows.laid_loop_example_wholeway_impl_magic) (t := 26) (by simp [Rows.fnExactImageOfRow]) (by kernel_rfl) (by kernel_rfl) (by decide) toMagic
  · split at h
    · rename_i e; subst e; cases h
      exact laid_glob plain0 hL' (n := "loop.example/wholeway/impl.forms") (d := Rows.laid_loop_example_wholeway_impl_forms) (t := 165) (by simp [Rows.fnExactImageOfRow]) (by kernel_rfl) (by kernel_rfl) (by decide) toForms
    · cases h

/- the measure -/
theorem bulk_sum {H : Type} : ∀ l : List (DataW H), Rows.uptoBulkAll l = (l.map Rows.uptoBulk).sum
  | [] => by simp [Rows.uptoBulkAll]
  | d :: r => by simp [Rows.uptoBulkAll, bulk_sum r]
theorem bulk_ok {H : Type} : BulkOk (Rows.uptoBulk (H := H)) where
  lit := fun l => by cases l <;> simp [Rows.uptoBulk]
  str := fun s => by simp [Rows.uptoBulk]
  nil := by simp [Rows.uptoBulk]
  slice := fun es sp => by simp only [Rows.uptoBulk, bulk_sum]; omega
  agg := fun ps => by simp only [Rows.uptoBulk, bulk_sum]; omega

theorem walk : ∀ vss, Confs Tryd.prog Tryd.f3.params.toList vss → pbulkLL vss ≤ 1048576 → VF Tryd.prog G0 LAW (argsAV Tryd.prog Tryd.f3.params.toList vss) (.p (.bool true)) := by
  intro vss h hb
  rw [Tryd.params3] at h ⊢
  obtain ⟨vs, r, rfl, h1, h2⟩ := confs_cons h
  cases confs_nil h2
  obtain ⟨fs, rfl⟩ := conf_mach h1
  have := bulk_mach fs
  simp only [pbulkLL] at hb
  have e : argsAV Tryd.prog [24] [[fnsL fs]] = [.agg [.p (fnsL fs)]] := by
    have : Tryd.prog.underlying 24 = some (.struct ((match Tryd.prog.underlying 24 with | some (.struct fs) => fs | _ => #[]))) := by kernel_rfl
    simp only [argsAV, List.zipWith, argAV]
    rw [this]; rfl
  exact e ▸ law_ImageOf G0 rfl rfl fs (by omega)

theorem contract (H : Type) (enc : TypeId × Value → H) (W : World) (base : Nat) (args : Array Value) (ds gs : List (DataW H)) (before : List MemPlace)
    (hval : ∀ (j : Nat) t v, Tryd.f3.params[j]? = some t → args[j]? = some v → Value.okWide Tryd.prog W .any base t v)
    (hW : DataW.Whole enc Tryd.prog Tryd.f3.params.toList Rows.fnExactImageOfSpec.vars false W args.toList ds gs before) (hL : laidMetH Tryd.prog Rows.fnExactImageOfRow.laid W)
    (hc : Rows.uptoSmall H (ds ++ gs) = true) :
    Calls Tryd.prog LAW args W fun e W' => ∃ v, e = .returned v ∧ Rows.fnExactImageOfSpec.post enc Tryd.prog Tryd.f3 false true false false W args v W' := by
  obtain ⟨l1, l2⟩ := whole_len hW
  have hspec : Rows.fnExactImageOfSpec.fn H (ds ++ gs) = { results := [.lit (.bool true)], args := ds, vars := gs } := by
    rw [Tryd.params3] at l1
    match ds, gs, l1, l2 with
    | [d], [g1, g2], _, _ => rfl
  refine law_calls (L := plains) (ub := Rows.uptoBulk) (T := (· < Tryd.prog.types.size)) (tb := 4) (G := G0) plain0 bulk_ok (by rw [Tryd.params3]; decide) kids0 full0 (globals_in (by kernel_rfl)) (params_in (by kernel_rfl)) (by kernel_rfl) Tryd.underlying4 hval hW hspec (hG0 hL) ?_
  intro vss h1 h2
  refine walk vss h1 (Nat.le_trans h2 ?_)
  have := of_decide_eq_true hc
  rw [bulk_sum] at this
  simp at this
  omega

/- a world for the witness -/
noncomputable def low : Nat := (World.holding Tryd.prog default ⟨#[], #[], []⟩).heap.size
noncomputable def cellsOfPV : List PV → Array Value := fun l => (l.map fun | .bool b => Value.bool b | .int k n => .int k n | .str s => .string ⟨⟨s⟩⟩ | .lst _ _ => .slice none 0 0).toArray
noncomputable def laidWorld (os : Os) : World :=
  let w0 := World.holding Tryd.prog os ⟨#[.cells #[.int .u8 87, .int .u8 119] 5], #[], []⟩
  { w0 with heap := (w0.heap.modify 0 fun
      | .cells _ t frozen => .cells #[.slice (some ⟨low, 0, none⟩) 2 2] t frozen
      | o => o).modify 2 fun
      | .cells _ t frozen => .cells (cellsOfPV pvForms) t frozen
      | o => o }
abbrev wargs : Array Value := #[.agg #[.slice none 0 0]]
theorem laid_met (os : Os) : laidMet Tryd.prog Rows.fnExactImageOfRow.laid ((laidWorld os).forCall (fun _ _ => 0) ⟨#[], wargs, []⟩).memory :=
  laidMet_of_run' 8 (by kernel_rfl) (by kernel_rfl)
theorem reads0 (os : Os) {H : Type} (enc : TypeId × Value → H) : ∃ places, DataW.whole enc Tryd.prog ((laidWorld os).forCall (fun _ _ => 0) ⟨#[], wargs, []⟩).memory Tryd.f3.params.toList Rows.fnExactImageOfSpec.vars false wargs.toList 8 = some ([.agg [.nil]], [Rows.laid_loop_example_wholeway_impl_magic, Rows.laid_loop_example_wholeway_impl_forms], places) := by
  have h : (DataW.whole enc Tryd.prog ((laidWorld os).forCall (fun _ _ => 0) ⟨#[], wargs, []⟩).memory Tryd.f3.params.toList Rows.fnExactImageOfSpec.vars false wargs.toList 8).map (fun x => (x.1, x.2.1)) = some ([.agg [.nil]], [Rows.laid_loop_example_wholeway_impl_magic, Rows.laid_loop_example_wholeway_impl_forms]) := by kernel_rfl
  rw [Option.map_eq_some_iff] at h
  obtain ⟨⟨x1, x2, x3⟩, e1, e2⟩ := h
  simp only [Prod.mk.injEq] at e2
  obtain ⟨rfl, rfl⟩ := e2
  exact ⟨x3, e1⟩

theorem liftedUpto (os : Os) (started : os.Started) (H : Type) (enc : TypeId × Value → H) (F : Stop.Interp) :
    ReturnsInHanded {} Tryd.checked os LAW .any ((Rows.OpenSpec.upto Rows.fnExactImageOfSpec).preRow enc Tryd.prog Tryd.f3 Rows.fnExactImageOfUptoRow.domain false Rows.fnExactImageOfUptoRow.laid) (((Rows.OpenSpec.upto Rows.fnExactImageOfSpec).at F).post enc Tryd.prog Tryd.f3 false true false false) := by
  obtain ⟨places, hx⟩ := reads0 os enc
  refine returnsInHanded_of_row (C := Tryd.checked) (s := Rows.OpenSpec.upto Rows.fnExactImageOfSpec) own0 started (by kernel_rfl) Tryd.func3
    (witness_row_atRef (enc := enc) (C := Tryd.checked) false (laidWorld os) wargs rfl (by kernel_rfl) (by kernel_rfl) (by kernel_rfl)
      (OpenSpec.preRow_of_cond 8 hx (by kernel_rfl) (fun k hk => by cases hk; kernel_rfl) (by kernel_rfl) (laid_met os))) ?_
  intro W base args ds gs before hval hW _ hcond _ hL _ _
  exact contract H enc W base args ds gs before hval hW hL (hcond _ rfl)

theorem saidUpto : Rows.FnExactImageOfUptoSaid :=
  OpenClaim.holds_of_cond 3 Tryd.f3 rfl rfl rfl rfl rfl rfl rfl ⟨rfl, rfl, rfl, rfl, rfl⟩ rfl rfl rfl rfl rfl (by kernel_rfl) Tryd.func3 (by kernel_rfl)
    (of_decide_eq_true (by kernel_rfl)) (by unfold Func.isWrapper; first | (rw [if_pos (by decide +kernel)]; kernel_rfl) | (rw [if_neg (by decide +kernel)]; exact ⟨rfl, rfl⟩))
    (fun os started H enc _ F => by rw [OpenClaim.pre_eq_preRow]; exact liftedUpto os started H enc F)

theorem plainSeat (f : FuncId) (fn : Func) (hf : Tryd.pinned.checked.prog.funcNamed "loop.example/wholeway/laws.FnExactImageOf" = some f) (hfn : Tryd.pinned.checked.prog.funcs[f]? = some fn) :
    false = Tryd.pinned.checked.prog.looks [] ∧ ∀ (j : Nat) t, fn.params[j]? = some t → Tryd.pinned.checked.prog.wantsStandIn t = false := by
  obtain rfl : f = 3 := Option.some.inj ((show Tryd.prog.funcNamed "loop.example/wholeway/laws.FnExactImageOf" = some 3 by kernel_rfl).symm.trans hf) |>.symm
  obtain rfl : fn = Tryd.f3 := (Option.some.inj (Tryd.func3.symm.trans hfn)).symm
  refine ⟨by kernel_rfl, fun j t ht => ?_⟩
  rw [Tryd.params3] at ht
  obtain rfl : t = 24 := by simpa using Array.mem_of_getElem? ht
  exact (show Tryd.prog.wantsStandIn 24 = false by kernel_rfl)

theorem cardUpto : Rows.FnExactImageOfUptoCardSaid :=
  Claim7.holds_tied_plain_at .later [] _ _ _ _ saidUpto (fun _ h => by cases h) (by kernel_rfl) (fun _ h => by cases h) fnExactImageOfUpto_row_tie rfl ⟨rfl, rfl⟩ (by kernel_rfl) rfl plainSeat (by kernel_rfl)
end Go.Proofs.YtbbobekgnclkfaaDoor
