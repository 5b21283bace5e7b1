/-
  DERIVED. GIVEN WITH THE SEED: THE PROGRAM's TIES (one call each: nine closed facts by the kernel) AND EACH ROW's TIE, after the 31st guide's Derived/Test/Toyas{Tie, Card}.lean. No idea stands in it: it is a product of the set-up. Laid BY PROGRAM, IN A SANDBOX (cutbox-door.mjs). By AI agents, Wed Nov 11 2026. No macro, syntax, notation, axiom, sorry.
-/
import Derived.Test.YtnjbhgpbgmpkcaaGreatDoorRows
import Derived.LaidByTextLater
import Derived.SevenTiedAt
import Derived.LaidSub
import Derived.LaidOnce
namespace Go.Proofs.YtnjbhgpbgmpkcaaGreatDoor
open Go
set_option maxRecDepth 100000
theorem seatTie1 : Tryz.prog.laidByTextLater [("loop.example/wholeway/impl.keys", Rows.laid_loop_example_wholeway_impl_keys), ("loop.example/wholeway/impl.opSign", Rows.laid_loop_example_wholeway_impl_opSign), ("loop.example/wholeway/impl.tries", Rows.laid_loop_example_wholeway_impl_tries)] [.widerDeep, .mapped, .data] true :=
  Program.laidByTextLater_by_one 75 8 10 (by kernel_rfl) (by kernel_rfl) (by kernel_rfl) (by kernel_rfl) (by kernel_rfl) (by kernel_rfl) (fun _ _ => by kernel_rfl)
theorem noOwnUnsafe : Tryz.pinned.checked.prog.headLifts.contains "ownunsafe" = false := by kernel_rfl
theorem tie : Tryz.prog.laidByTextLater [("loop.example/wholeway/impl.keys", Rows.laid_loop_example_wholeway_impl_keys), ("loop.example/wholeway/impl.opSign", Rows.laid_loop_example_wholeway_impl_opSign), ("loop.example/wholeway/impl.tries", Rows.laid_loop_example_wholeway_impl_tries)] [.widerDeep, .mapped, .data] true :=
  Program.laidByTextLater.sub seatTie1 ["loop.example/wholeway/impl.keys", "loop.example/wholeway/impl.opSign", "loop.example/wholeway/impl.tries"] (by kernel_rfl) (by kernel_rfl)
theorem fnExactInputsFor_row_tie : Rows.fnExactInputsForRow.laidByTextAt .later Tryz.pinned [.widerDeep, .mapped, .data] true :=
  OpenClaim.laidByTextAt_later rfl rfl tie noOwnUnsafe
theorem tie2 : Tryz.prog.laidByTextLater [("loop.example/wholeway/impl.keys", Rows.laid_loop_example_wholeway_impl_keys), ("loop.example/wholeway/impl.opSign", Rows.laid_loop_example_wholeway_impl_opSign)] [.widerDeep, .mapped] true :=
  Program.laidByTextLater.sub seatTie1 ["loop.example/wholeway/impl.keys", "loop.example/wholeway/impl.opSign"] (by kernel_rfl) (by kernel_rfl)
theorem fnExactIsRenamed_row_tie : Rows.fnExactIsRenamedRow.laidByTextAt .later Tryz.pinned [.widerDeep, .mapped] true :=
  OpenClaim.laidByTextAt_later rfl rfl tie2 noOwnUnsafe
theorem fnIsRenamed_row_tie : Rows.fnIsRenamedRow.laidByTextAt .later Tryz.pinned [.widerDeep, .mapped] true :=
  OpenClaim.laidByTextAt_later rfl rfl tie2 noOwnUnsafe
theorem fnExactRenameProgram_row_tie : Rows.fnExactRenameProgramRow.laidByTextAt .later Tryz.pinned [.widerDeep, .mapped] true :=
  OpenClaim.laidByTextAt_later rfl rfl tie2 noOwnUnsafe
theorem fnCalled_row_tie : Rows.fnCalledRow.laidByTextAt .later Tryz.pinned [.widerDeep, .mapped] true :=
  OpenClaim.laidByTextAt_later rfl rfl tie2 noOwnUnsafe
theorem fnNeeded_row_tie : Rows.fnNeededRow.laidByTextAt .later Tryz.pinned [.widerDeep, .mapped] true :=
  OpenClaim.laidByTextAt_later rfl rfl tie2 noOwnUnsafe
theorem fnExactCalledBy_row_tie : Rows.fnExactCalledByRow.laidByTextAt .later Tryz.pinned [.widerDeep, .mapped] true :=
  OpenClaim.laidByTextAt_later rfl rfl tie2 noOwnUnsafe
theorem fnExactNeededIn_row_tie : Rows.fnExactNeededInRow.laidByTextAt .later Tryz.pinned [.widerDeep, .mapped] true :=
  OpenClaim.laidByTextAt_later rfl rfl tie2 noOwnUnsafe
theorem fnRenamed_row_tie : Rows.fnRenamedRow.laidByTextAt .later Tryz.pinned [.widerDeep, .mapped] true :=
  OpenClaim.laidByTextAt_later rfl rfl tie2 noOwnUnsafe
theorem fnExactInputsForUpto_row_tie : Rows.fnExactInputsForUptoRow.laidByTextAt .later Tryz.pinned [.widerDeep, .mapped, .data] true :=
  OpenClaim.laidByTextAt_later rfl rfl tie noOwnUnsafe
theorem fnExactIsRenamedUpto_row_tie : Rows.fnExactIsRenamedUptoRow.laidByTextAt .later Tryz.pinned [.widerDeep, .mapped] true :=
  OpenClaim.laidByTextAt_later rfl rfl tie2 noOwnUnsafe
theorem fnIsRenamedUpto_row_tie : Rows.fnIsRenamedUptoRow.laidByTextAt .later Tryz.pinned [.widerDeep, .mapped] true :=
  OpenClaim.laidByTextAt_later rfl rfl tie2 noOwnUnsafe
theorem fnExactRenameProgramUpto_row_tie : Rows.fnExactRenameProgramUptoRow.laidByTextAt .later Tryz.pinned [.widerDeep, .mapped] true :=
  OpenClaim.laidByTextAt_later rfl rfl tie2 noOwnUnsafe
theorem fnCalledUpto_row_tie : Rows.fnCalledUptoRow.laidByTextAt .later Tryz.pinned [.widerDeep, .mapped] true :=
  OpenClaim.laidByTextAt_later rfl rfl tie2 noOwnUnsafe
theorem fnNeededUpto_row_tie : Rows.fnNeededUptoRow.laidByTextAt .later Tryz.pinned [.widerDeep, .mapped] true :=
  OpenClaim.laidByTextAt_later rfl rfl tie2 noOwnUnsafe
theorem fnExactCalledByUpto_row_tie : Rows.fnExactCalledByUptoRow.laidByTextAt .later Tryz.pinned [.widerDeep, .mapped] true :=
  OpenClaim.laidByTextAt_later rfl rfl tie2 noOwnUnsafe
theorem fnExactNeededInUpto_row_tie : Rows.fnExactNeededInUptoRow.laidByTextAt .later Tryz.pinned [.widerDeep, .mapped] true :=
  OpenClaim.laidByTextAt_later rfl rfl tie2 noOwnUnsafe
theorem fnRenamedUpto_row_tie : Rows.fnRenamedUptoRow.laidByTextAt .later Tryz.pinned [.widerDeep, .mapped] true :=
  OpenClaim.laidByTextAt_later rfl rfl tie2 noOwnUnsafe
end Go.Proofs.YtnjbhgpbgmpkcaaGreatDoor
