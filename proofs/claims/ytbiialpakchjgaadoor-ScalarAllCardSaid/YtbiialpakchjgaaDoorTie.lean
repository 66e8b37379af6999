/-
  DERIVED. GIVEN WITH THE SEED: THE PROGRAM's TIES (one call each: nine closed facts by the kernel) AND EACH ROW's TIE, after the 31st guide's Derived/Test/Toyas{Tie, Card}.lean. No idea stands in it: it is a product of the set-up. Laid BY PROGRAM, IN A SANDBOX (cutbox-door.mjs). By AI agents, Wed Nov 11 2026. No macro, syntax, notation, axiom, sorry.
-/
import Derived.Test.YtbiialpakchjgaaDoorRows
import Derived.LaidByTextLater
import Derived.SevenTiedAt
import Derived.LaidSub
import Derived.LaidOnce
namespace Go.Proofs.YtbiialpakchjgaaDoor
open Go
set_option maxRecDepth 100000
theorem seatTie1 : Tryd.prog.laidByTextLater [("ledger/ledgerref03.order", Rows.laid_ledger_ledgerref03_order), ("ledger/scalar.multiples", Rows.laid_ledger_scalar_multiples), ("ledger/scalar.order", Rows.laid_ledger_scalar_order)] [.data, .wider, .data] true :=
  Program.laidByTextLater_by_one 41 8 86 (by kernel_rfl) (by kernel_rfl) (by kernel_rfl) (by kernel_rfl) (by kernel_rfl) (by kernel_rfl) (fun _ _ => by kernel_rfl)
theorem noOwnUnsafe : Tryd.pinned.checked.prog.headLifts.contains "ownunsafe" = false := by kernel_rfl
theorem tie : Tryd.prog.laidByTextLater [("ledger/ledgerref03.order", Rows.laid_ledger_ledgerref03_order), ("ledger/scalar.multiples", Rows.laid_ledger_scalar_multiples), ("ledger/scalar.order", Rows.laid_ledger_scalar_order)] [.data, .wider, .data] true :=
  Program.laidByTextLater.sub seatTie1 ["ledger/ledgerref03.order", "ledger/scalar.multiples", "ledger/scalar.order"] (by kernel_rfl) (by kernel_rfl)
theorem scalarAll_row_tie : Rows.scalarAllRow.laidByTextAt .later Tryd.pinned [.data, .wider, .data] true :=
  OpenClaim.laidByTextAt_later rfl rfl tie noOwnUnsafe
theorem scalarAllUpto_row_tie : Rows.scalarAllUptoRow.laidByTextAt .later Tryd.pinned [.data, .wider, .data] true :=
  OpenClaim.laidByTextAt_later rfl rfl tie noOwnUnsafe
end Go.Proofs.YtbiialpakchjgaaDoor
