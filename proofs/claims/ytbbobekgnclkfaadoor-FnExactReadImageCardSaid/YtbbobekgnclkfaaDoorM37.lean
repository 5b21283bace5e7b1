/-
  The law of ReadImage: the machine that the program reads from bytes is the reference's, it is the caller's own, and the bytes stay as they were. Conditions: the two listed variables hold what the program's text lays.
-/
import Derived.Test.YtbbobekgnclkfaaDoorCards
import Derived.Test.YtbbobekgnclkfaaDoorTie
import Derived.Test.YtbbobekgnclkfaaDoorM36
import Derived.Test.YtbbobekgnclkfaaDoorM22
import Derived.WalkKit
import Derived.ProofKit
import Derived.Deep.DeepWitnessRowRef
namespace Go.Proofs.YtbbobekgnclkfaaDoor
open Go Go.Aw Go.ChangeShapes Go.WideShapes Go.ChangeAt Go.RowKit
set_option maxRecDepth 100000

abbrev LAW : Nat := 4
theorem kids0 : Kids Tryd.prog (· < Tryd.prog.types.size) := kids_rows (by kernel_rfl) (by kernel_rfl)
theorem full0 : ∀ t e, t < Tryd.prog.types.size → Tryd.prog.underlying t = some (.slice e) → 0 < Tryd.prog.cellsOf e := slices_full_of Tryd.prog (by kernel_rfl)
def plains : List TypeId := [24, 22, 101, 3, 99, 164, 26, 5, 165, 145, 9, 4]
theorem plain0 : Plain Tryd.prog plains = true := by kernel_rfl
theorem own0 : ownKnob Tryd.prog.godebug = none := by kernel_rfl

/- the variables -/
def G0 : Glob := fun g => if g = 0 then some pvMagic else if g = 2 then some pvForms else none
theorem toMagic : ∀ k, toPV Tryd.prog (k + 10) 26 (Rows.laid_loop_example_wholeway_impl_magic (H := Unit)) = pvMagic := fun k => by kernel_rfl
theorem toForms : ∀ k, toPV Tryd.prog (k + 10) 165 (Rows.laid_loop_example_wholeway_impl_forms (H := Unit)) = pvForms := fun k => by kernel_rfl

theorem hG0 {W : World} (hL : laidMetH Tryd.prog Rows.fnExactReadImageRow.laid W) : ∀ g cs, G0 g = some cs → g < W.heap.size ∧ ∀ (j : Nat) (c : PV), cs[j]? = some c → ∃ v, W.cell? ⟨g, j, none⟩ = some v ∧ PRel W (· < W.heap.size) c v := by
  intro g cs h
  have hL' : laidMet Tryd.prog Rows.fnExactReadImageRow.laid W := hL
  unfold G0 at h
  split at h
  · rename_i e; subst e; cases h
    exact laid_glob plain0 hL' (n := "loop.example/wholeway/impl.magic") (d := Rows.laid_loop_example_wholeway_impl_magic) (t := 26) (by simp [Rows.fnExactReadImageRow]) (by kernel_rfl) (by kernel_rfl) (by decide) toMagic
  · split at h
    · rename_i e; subst e; cases h
      exact laid_glob plain0 hL' (n := "loop.example/wholeway/impl.forms") (d := Rows.laid_loop_example_wholeway_impl_forms) (t := 165) (by simp [Rows.fnExactReadImageRow]) (by kernel_rfl) (by kernel_rfl) (by decide) toForms
    · cases h

/- the measure -/
theorem bulk_sum {H : Type} : ∀ l : List (DataW H), Rows.uptoBulkAll l = (l.map Rows.uptoBulk).sum
  | [] => by simp [Rows.uptoBulkAll]
  | d :: r => by simp [Rows.uptoBulkAll, bulk_sum r]
theorem bulk_ok {H : Type} : BulkOk (Rows.uptoBulk (H := H)) where
  lit := fun l => by cases l <;> simp [Rows.uptoBulk]
  str := fun s => by simp [Rows.uptoBulk]
  nil := by simp [Rows.uptoBulk]
  slice := fun es sp => by simp only [Rows.uptoBulk, bulk_sum]; omega
  agg := fun ps => by simp only [Rows.uptoBulk, bulk_sum]; omega

theorem conf_bytes {vs : List PV} (h : Conf Tryd.prog 26 vs) : ∃ l : List Int, vs = [bysL l] ∧ BytesOk l := by
  obtain ⟨es, rfl, h4⟩ := conf_sl h (e := 5) (by kernel_rfl)
  have hk : ∀ x ∈ es, ∃ n : Int, x = [PV.int .u8 n] ∧ (Lit.int .u8 n).wf = true := fun x hx => conf_int (h4 x hx) (by kernel_rfl)
  obtain ⟨l, rfl⟩ := list_of (fun n : Int => [PV.int .u8 n]) (fun x hx => by obtain ⟨n, e, _⟩ := hk x hx; exact ⟨n, e⟩)
  rw [show Tryd.prog.cellsOf 5 = 1 by kernel_rfl]
  refine ⟨l, rfl, fun n hn => ?_⟩
  obtain ⟨m, e, hw⟩ := hk [PV.int .u8 n] (List.mem_map.2 ⟨n, hn, rfl⟩)
  cases e
  simp [Lit.wf, IntKind.min, IntKind.max, IntKind.bits, IntKind.signed] at hw
  omega
theorem walk : ∀ vss, Confs Tryd.prog Tryd.f4.params.toList vss → VF Tryd.prog G0 LAW (argsAV Tryd.prog Tryd.f4.params.toList vss) (.p (.bool true)) := by
  intro vss h
  rw [Tryd.params4] at h ⊢
  obtain ⟨vs, r, rfl, h1, h2⟩ := confs_cons h
  cases confs_nil h2
  obtain ⟨l, rfl, hl⟩ := conf_bytes h1
  have e : argsAV Tryd.prog [26] [[bysL l]] = [.p (bysL l)] := by
    have : Tryd.prog.underlying 26 = some (.slice 5) := by kernel_rfl
    simp only [argsAV, List.zipWith, argAV]
    rw [this]; rfl
  exact e ▸ law_ReadImage G0 rfl rfl l hl

theorem contract (H : Type) (enc : TypeId × Value → H) (W : World) (base : Nat) (args : Array Value) (ds gs : List (DataW H)) (before : List MemPlace)
    (hval : ∀ (j : Nat) t v, Tryd.f4.params[j]? = some t → args[j]? = some v → Value.okWide Tryd.prog W .any base t v)
    (hW : DataW.Whole enc Tryd.prog Tryd.f4.params.toList Rows.fnExactReadImageSpec.vars false W args.toList ds gs before) (hL : laidMetH Tryd.prog Rows.fnExactReadImageRow.laid W) :
    Calls Tryd.prog LAW args W fun e W' => ∃ v, e = .returned v ∧ Rows.fnExactReadImageSpec.post enc Tryd.prog Tryd.f4 false true false false W args v W' := by
  obtain ⟨l1, l2⟩ := whole_len hW
  have hspec : Rows.fnExactReadImageSpec.fn H (ds ++ gs) = { results := [.lit (.bool true)], args := ds, vars := gs } := by
    rw [Tryd.params4] at l1
    match ds, gs, l1, l2 with
    | [d], [g1, g2], _, _ => rfl
  refine law_calls (L := plains) (ub := Rows.uptoBulk) (T := (· < Tryd.prog.types.size)) (tb := 4) (G := G0) plain0 bulk_ok (by rw [Tryd.params4]; decide) kids0 full0 (globals_in (by kernel_rfl)) (params_in (by kernel_rfl)) (by kernel_rfl) Tryd.underlying4 hval hW hspec (hG0 hL) ?_
  intro vss h1 _
  exact walk vss h1

/- a world for the witness -/
noncomputable def low : Nat := (World.holding Tryd.prog default ⟨#[], #[], []⟩).heap.size
noncomputable def cellsOfPV : List PV → Array Value := fun l => (l.map fun | .bool b => Value.bool b | .int k n => .int k n | .str s => .string ⟨⟨s⟩⟩ | .lst _ _ => .slice none 0 0).toArray
noncomputable def laidWorld (os : Os) : World :=
  let w0 := World.holding Tryd.prog os ⟨#[.cells #[.int .u8 87, .int .u8 119] 5], #[], []⟩
  { w0 with heap := (w0.heap.modify 0 fun
      | .cells _ t frozen => .cells #[.slice (some ⟨low, 0, none⟩) 2 2] t frozen
      | o => o).modify 2 fun
      | .cells _ t frozen => .cells (cellsOfPV pvForms) t frozen
      | o => o }
abbrev wargs : Array Value := #[.slice none 0 0]
theorem laid_met (os : Os) : laidMet Tryd.prog Rows.fnExactReadImageRow.laid ((laidWorld os).forCall (fun _ _ => 0) ⟨#[], wargs, []⟩).memory :=
  laidMet_of_run' 8 (by kernel_rfl) (by kernel_rfl)
theorem reads0 (os : Os) {H : Type} (enc : TypeId × Value → H) : ∃ places, DataW.whole enc Tryd.prog ((laidWorld os).forCall (fun _ _ => 0) ⟨#[], wargs, []⟩).memory Tryd.f4.params.toList Rows.fnExactReadImageSpec.vars false wargs.toList 8 = some ([.nil], [Rows.laid_loop_example_wholeway_impl_magic, Rows.laid_loop_example_wholeway_impl_forms], places) := by
  have h : (DataW.whole enc Tryd.prog ((laidWorld os).forCall (fun _ _ => 0) ⟨#[], wargs, []⟩).memory Tryd.f4.params.toList Rows.fnExactReadImageSpec.vars false wargs.toList 8).map (fun x => (x.1, x.2.1)) = some ([.nil], [Rows.laid_loop_example_wholeway_impl_magic, Rows.laid_loop_example_wholeway_impl_forms]) := by kernel_rfl
  rw [Option.map_eq_some_iff] at h
  obtain ⟨⟨x1, x2, x3⟩, e1, e2⟩ := h
  simp only [Prod.mk.injEq] at e2
  obtain ⟨rfl, rfl⟩ := e2
  exact ⟨x3, e1⟩

theorem lifted (os : Os) (started : os.Started) (H : Type) (enc : TypeId × Value → H) (F : Stop.Interp) :
    ReturnsInHanded {} Tryd.checked os LAW .any ((OpenSpec.ofChange Rows.fnExactReadImageSpec).preRow enc Tryd.prog Tryd.f4 Rows.fnExactReadImageRow.domain false Rows.fnExactReadImageRow.laid) (((OpenSpec.ofChange Rows.fnExactReadImageSpec).at F).post enc Tryd.prog Tryd.f4 false true false false) := by
  obtain ⟨places, hx⟩ := reads0 os enc
  refine returnsInHanded_of_row (C := Tryd.checked) (s := OpenSpec.ofChange Rows.fnExactReadImageSpec) own0 started (by kernel_rfl) Tryd.func4
    (witness_row_atRef (enc := enc) (C := Tryd.checked) false (laidWorld os) wargs rfl (by kernel_rfl) (by kernel_rfl) (by kernel_rfl)
      (OpenSpec.preRow_of_cond 8 hx (by kernel_rfl) (fun k hk => by cases hk) (by kernel_rfl) (laid_met os))) ?_
  intro W base args ds gs before hval hW _ _ _ hL _ _
  exact contract H enc W base args ds gs before hval hW hL

theorem said : Rows.FnExactReadImageSaid :=
  OpenClaim.holds_of_cond 4 Tryd.f4 rfl rfl rfl rfl rfl rfl rfl ⟨rfl, rfl, rfl, rfl, rfl⟩ rfl rfl rfl rfl rfl (by kernel_rfl) Tryd.func4 (by kernel_rfl)
    (of_decide_eq_true (by kernel_rfl)) (by unfold Func.isWrapper; first | (rw [if_pos (by decide +kernel)]; kernel_rfl) | (rw [if_neg (by decide +kernel)]; exact ⟨rfl, rfl⟩))
    (fun os started H enc _ F => by rw [OpenClaim.pre_eq_preRow]; exact lifted os started H enc F)

theorem plainSeat (f : FuncId) (fn : Func) (hf : Tryd.pinned.checked.prog.funcNamed "loop.example/wholeway/laws.FnExactReadImage" = some f) (hfn : Tryd.pinned.checked.prog.funcs[f]? = some fn) :
    false = Tryd.pinned.checked.prog.looks [] ∧ ∀ (j : Nat) t, fn.params[j]? = some t → Tryd.pinned.checked.prog.wantsStandIn t = false := by
  obtain rfl : f = 4 := Option.some.inj ((show Tryd.prog.funcNamed "loop.example/wholeway/laws.FnExactReadImage" = some 4 by kernel_rfl).symm.trans hf) |>.symm
  obtain rfl : fn = Tryd.f4 := (Option.some.inj (Tryd.func4.symm.trans hfn)).symm
  refine ⟨by kernel_rfl, fun j t ht => ?_⟩
  rw [Tryd.params4] at ht
  obtain rfl : t = 26 := by simpa using Array.mem_of_getElem? ht
  exact (show Tryd.prog.wantsStandIn 26 = false by kernel_rfl)

theorem card : Rows.FnExactReadImageCardSaid :=
  Claim7.holds_tied_plain_at .later [] _ _ _ _ said (fun _ h => by cases h) (by kernel_rfl) (fun _ h => by cases h) fnExactReadImage_row_tie rfl ⟨rfl, rfl⟩ (by kernel_rfl) rfl plainSeat (by kernel_rfl)
end Go.Proofs.YtbbobekgnclkfaaDoor
