/-
  DERIVED. GIVEN WITH THE SEED: THE PROGRAM's TIES (one call each: nine closed facts by the kernel) AND EACH ROW's TIE, after the 31st guide's Derived/Test/Toyas{Tie, Card}.lean. No idea stands in it: it is a product of the set-up. Laid BY PROGRAM, IN A SANDBOX (cutbox-door.mjs). By AI agents, Wed Nov 11 2026. No macro, syntax, notation, axiom, sorry.
-/
import Derived.Test.YtghpabfdmbdpfaaGreatDoorRows
import Derived.LaidByTextLater
import Derived.SevenTiedAt
import Derived.LaidSub
import Derived.LaidOnce
namespace Go.Proofs.YtghpabfdmbdpfaaGreatDoor
open Go
set_option maxRecDepth 100000
theorem seatTie1 : Tryz.prog.laidByTextLater [("loop.example/wholeway/impl.keys", Rows.laid_loop_example_wholeway_impl_keys), ("loop.example/wholeway/impl.opSign", Rows.laid_loop_example_wholeway_impl_opSign)] [.widerDeep, .mapped] true :=
  Program.laidByTextLater_by_one 67 8 10 (by kernel_rfl) (by kernel_rfl) (by kernel_rfl) (by kernel_rfl) (by kernel_rfl) (by kernel_rfl) (fun _ _ => by kernel_rfl)
theorem noOwnUnsafe : Tryz.pinned.checked.prog.headLifts.contains "ownunsafe" = false := by kernel_rfl
theorem tie : Tryz.prog.laidByTextLater [("loop.example/wholeway/impl.keys", Rows.laid_loop_example_wholeway_impl_keys), ("loop.example/wholeway/impl.opSign", Rows.laid_loop_example_wholeway_impl_opSign)] [.widerDeep, .mapped] true :=
  Program.laidByTextLater.sub seatTie1 ["loop.example/wholeway/impl.keys", "loop.example/wholeway/impl.opSign"] (by kernel_rfl) (by kernel_rfl)
theorem fnLowerBlocks_row_tie : Rows.fnLowerBlocksRow.laidByTextAt .later Tryz.pinned [.widerDeep, .mapped] true :=
  OpenClaim.laidByTextAt_later rfl rfl tie noOwnUnsafe
theorem fnExactLowerBlocks_row_tie : Rows.fnExactLowerBlocksRow.laidByTextAt .later Tryz.pinned [.widerDeep, .mapped] true :=
  OpenClaim.laidByTextAt_later rfl rfl tie noOwnUnsafe
theorem fnExactLowerSize_row_tie : Rows.fnExactLowerSizeRow.laidByTextAt .later Tryz.pinned [.widerDeep, .mapped] true :=
  OpenClaim.laidByTextAt_later rfl rfl tie noOwnUnsafe
theorem fnLowerSize_row_tie : Rows.fnLowerSizeRow.laidByTextAt .later Tryz.pinned [.widerDeep, .mapped] true :=
  OpenClaim.laidByTextAt_later rfl rfl tie noOwnUnsafe
theorem fnExactVarReg_row_tie : Rows.fnExactVarRegRow.laidByTextAt .later Tryz.pinned [.widerDeep, .mapped] true :=
  OpenClaim.laidByTextAt_later rfl rfl tie noOwnUnsafe
theorem fnVarReg_row_tie : Rows.fnVarRegRow.laidByTextAt .later Tryz.pinned [.widerDeep, .mapped] true :=
  OpenClaim.laidByTextAt_later rfl rfl tie noOwnUnsafe
theorem fnLowerBlocksUpto_row_tie : Rows.fnLowerBlocksUptoRow.laidByTextAt .later Tryz.pinned [.widerDeep, .mapped] true :=
  OpenClaim.laidByTextAt_later rfl rfl tie noOwnUnsafe
theorem fnExactLowerBlocksUpto_row_tie : Rows.fnExactLowerBlocksUptoRow.laidByTextAt .later Tryz.pinned [.widerDeep, .mapped] true :=
  OpenClaim.laidByTextAt_later rfl rfl tie noOwnUnsafe
theorem fnExactLowerSizeUpto_row_tie : Rows.fnExactLowerSizeUptoRow.laidByTextAt .later Tryz.pinned [.widerDeep, .mapped] true :=
  OpenClaim.laidByTextAt_later rfl rfl tie noOwnUnsafe
theorem fnLowerSizeUpto_row_tie : Rows.fnLowerSizeUptoRow.laidByTextAt .later Tryz.pinned [.widerDeep, .mapped] true :=
  OpenClaim.laidByTextAt_later rfl rfl tie noOwnUnsafe
theorem fnExactVarRegUpto_row_tie : Rows.fnExactVarRegUptoRow.laidByTextAt .later Tryz.pinned [.widerDeep, .mapped] true :=
  OpenClaim.laidByTextAt_later rfl rfl tie noOwnUnsafe
theorem fnVarRegUpto_row_tie : Rows.fnVarRegUptoRow.laidByTextAt .later Tryz.pinned [.widerDeep, .mapped] true :=
  OpenClaim.laidByTextAt_later rfl rfl tie noOwnUnsafe
end Go.Proofs.YtghpabfdmbdpfaaGreatDoor
