/-
  DERIVED. GIVEN WITH THE SEED: THE PROGRAM's TIES (one call each: nine closed facts by the kernel) AND EACH ROW's TIE, after the 31st guide's Derived/Test/Toyas{Tie, Card}.lean. No idea stands in it: it is a product of the set-up. Laid BY PROGRAM, IN A SANDBOX (cutbox-door.mjs). By AI agents, Wed Nov 11 2026. No macro, syntax, notation, axiom, sorry.
-/
import Derived.Test.YtokiapglmedipaaGreatDoorRows
import Derived.LaidByTextLater
import Derived.SevenTiedAt
import Derived.LaidSub
import Derived.LaidOnce
namespace Go.Proofs.YtokiapglmedipaaGreatDoor
open Go
set_option maxRecDepth 100000
theorem seatTie1 : Tryz.prog.laidByTextLater [("loop.example/wholeway/impl.keys", Rows.laid_loop_example_wholeway_impl_keys), ("loop.example/wholeway/impl.opSign", Rows.laid_loop_example_wholeway_impl_opSign), ("loop.example/wholeway/impl.tries", Rows.laid_loop_example_wholeway_impl_tries)] [.widerDeep, .mapped, .data] true :=
  Program.laidByTextLater_by_one 75 8 10 (by kernel_rfl) (by kernel_rfl) (by kernel_rfl) (by kernel_rfl) (by kernel_rfl) (by kernel_rfl) (fun _ _ => by kernel_rfl)
theorem noOwnUnsafe : Tryz.pinned.checked.prog.headLifts.contains "ownunsafe" = false := by kernel_rfl
theorem tie : Tryz.prog.laidByTextLater [("loop.example/wholeway/impl.keys", Rows.laid_loop_example_wholeway_impl_keys), ("loop.example/wholeway/impl.opSign", Rows.laid_loop_example_wholeway_impl_opSign)] [.widerDeep, .mapped] true :=
  Program.laidByTextLater.sub seatTie1 ["loop.example/wholeway/impl.keys", "loop.example/wholeway/impl.opSign"] (by kernel_rfl) (by kernel_rfl)
theorem fnExactFuelOf_row_tie : Rows.fnExactFuelOfRow.laidByTextAt .later Tryz.pinned [.widerDeep, .mapped] true :=
  OpenClaim.laidByTextAt_later rfl rfl tie noOwnUnsafe
theorem fnExactRunProgram_row_tie : Rows.fnExactRunProgramRow.laidByTextAt .later Tryz.pinned [.widerDeep, .mapped] true :=
  OpenClaim.laidByTextAt_later rfl rfl tie noOwnUnsafe
theorem fnFuel_row_tie : Rows.fnFuelRow.laidByTextAt .later Tryz.pinned [.widerDeep, .mapped] true :=
  OpenClaim.laidByTextAt_later rfl rfl tie noOwnUnsafe
theorem fnMoreFuel_row_tie : Rows.fnMoreFuelRow.laidByTextAt .later Tryz.pinned [.widerDeep, .mapped] true :=
  OpenClaim.laidByTextAt_later rfl rfl tie noOwnUnsafe
theorem fnSayFirst_row_tie : Rows.fnSayFirstRow.laidByTextAt .later Tryz.pinned [.widerDeep, .mapped] true :=
  OpenClaim.laidByTextAt_later rfl rfl tie noOwnUnsafe
theorem fnWrapped_row_tie : Rows.fnWrappedRow.laidByTextAt .later Tryz.pinned [.widerDeep, .mapped] true :=
  OpenClaim.laidByTextAt_later rfl rfl tie noOwnUnsafe
theorem fnRenameRuns_row_tie : Rows.fnRenameRunsRow.laidByTextAt .later Tryz.pinned [.widerDeep, .mapped] true :=
  OpenClaim.laidByTextAt_later rfl rfl tie noOwnUnsafe
theorem tie2 : Tryz.prog.laidByTextLater [("loop.example/wholeway/impl.keys", Rows.laid_loop_example_wholeway_impl_keys), ("loop.example/wholeway/impl.opSign", Rows.laid_loop_example_wholeway_impl_opSign), ("loop.example/wholeway/impl.tries", Rows.laid_loop_example_wholeway_impl_tries)] [.widerDeep, .mapped, .data] true :=
  Program.laidByTextLater.sub seatTie1 ["loop.example/wholeway/impl.keys", "loop.example/wholeway/impl.opSign", "loop.example/wholeway/impl.tries"] (by kernel_rfl) (by kernel_rfl)
theorem fnInputs_row_tie : Rows.fnInputsRow.laidByTextAt .later Tryz.pinned [.widerDeep, .mapped, .data] true :=
  OpenClaim.laidByTextAt_later rfl rfl tie2 noOwnUnsafe
theorem fnCutRuns_row_tie : Rows.fnCutRunsRow.laidByTextAt .later Tryz.pinned [.widerDeep, .mapped, .data] true :=
  OpenClaim.laidByTextAt_later rfl rfl tie2 noOwnUnsafe
theorem fnFoldRuns_row_tie : Rows.fnFoldRunsRow.laidByTextAt .later Tryz.pinned [.widerDeep, .mapped, .data] true :=
  OpenClaim.laidByTextAt_later rfl rfl tie2 noOwnUnsafe
theorem fnExactFuelOfUpto_row_tie : Rows.fnExactFuelOfUptoRow.laidByTextAt .later Tryz.pinned [.widerDeep, .mapped] true :=
  OpenClaim.laidByTextAt_later rfl rfl tie noOwnUnsafe
theorem fnExactRunProgramUpto_row_tie : Rows.fnExactRunProgramUptoRow.laidByTextAt .later Tryz.pinned [.widerDeep, .mapped] true :=
  OpenClaim.laidByTextAt_later rfl rfl tie noOwnUnsafe
theorem fnFuelUpto_row_tie : Rows.fnFuelUptoRow.laidByTextAt .later Tryz.pinned [.widerDeep, .mapped] true :=
  OpenClaim.laidByTextAt_later rfl rfl tie noOwnUnsafe
theorem fnMoreFuelUpto_row_tie : Rows.fnMoreFuelUptoRow.laidByTextAt .later Tryz.pinned [.widerDeep, .mapped] true :=
  OpenClaim.laidByTextAt_later rfl rfl tie noOwnUnsafe
theorem fnInputsUpto_row_tie : Rows.fnInputsUptoRow.laidByTextAt .later Tryz.pinned [.widerDeep, .mapped, .data] true :=
  OpenClaim.laidByTextAt_later rfl rfl tie2 noOwnUnsafe
theorem fnSayFirstUpto_row_tie : Rows.fnSayFirstUptoRow.laidByTextAt .later Tryz.pinned [.widerDeep, .mapped] true :=
  OpenClaim.laidByTextAt_later rfl rfl tie noOwnUnsafe
theorem fnWrappedUpto_row_tie : Rows.fnWrappedUptoRow.laidByTextAt .later Tryz.pinned [.widerDeep, .mapped] true :=
  OpenClaim.laidByTextAt_later rfl rfl tie noOwnUnsafe
theorem fnRenameRunsUpto_row_tie : Rows.fnRenameRunsUptoRow.laidByTextAt .later Tryz.pinned [.widerDeep, .mapped] true :=
  OpenClaim.laidByTextAt_later rfl rfl tie noOwnUnsafe
theorem fnCutRunsUpto_row_tie : Rows.fnCutRunsUptoRow.laidByTextAt .later Tryz.pinned [.widerDeep, .mapped, .data] true :=
  OpenClaim.laidByTextAt_later rfl rfl tie2 noOwnUnsafe
theorem fnFoldRunsUpto_row_tie : Rows.fnFoldRunsUptoRow.laidByTextAt .later Tryz.pinned [.widerDeep, .mapped, .data] true :=
  OpenClaim.laidByTextAt_later rfl rfl tie2 noOwnUnsafe
end Go.Proofs.YtokiapglmedipaaGreatDoor
