/-
  DERIVED. GIVEN WITH THE SEED: THE PROGRAM's TIES (one call each: nine closed facts by the kernel) AND EACH ROW's TIE, after the 31st guide's Derived/Test/Toyas{Tie, Card}.lean. No idea stands in it: it is a product of the set-up. Laid BY PROGRAM, IN A SANDBOX (cutbox-door.mjs). By AI agents, Wed Nov 11 2026. No macro, syntax, notation, axiom, sorry.
-/
import Derived.Test.YtnfbjfbndnmhmaaDoorRows
import Derived.LaidByTextLater
import Derived.SevenTiedAt
import Derived.LaidSub
import Derived.LaidOnce
namespace Go.Proofs.YtnfbjfbndnmhmaaDoor
open Go
set_option maxRecDepth 100000
theorem seatTie1 : Tryd.prog.laidByTextLater [("ledger/ledgerref02.prime", Rows.laid_ledger_ledgerref02_prime), ("ledger/field.lessTwo", Rows.laid_ledger_field_lessTwo), ("ledger/field.eighth", Rows.laid_ledger_field_eighth), ("ledger/field.half", Rows.laid_ledger_field_half), ("ledger/field.rootOne", Rows.laid_ledger_field_rootOne), ("ledger/field.twice", Rows.laid_ledger_field_twice)] [.data, .data, .data, .data, .data, .data] true :=
  Program.laidByTextLater_by_one 39 8 33 (by kernel_rfl) (by kernel_rfl) (by kernel_rfl) (by kernel_rfl) (by kernel_rfl) (by kernel_rfl) (fun _ _ => by kernel_rfl)
theorem noOwnUnsafe : Tryd.pinned.checked.prog.headLifts.contains "ownunsafe" = false := by kernel_rfl
theorem tie : Tryd.prog.laidByTextLater [("ledger/ledgerref02.prime", Rows.laid_ledger_ledgerref02_prime), ("ledger/field.lessTwo", Rows.laid_ledger_field_lessTwo)] [.data, .data] true :=
  Program.laidByTextLater.sub seatTie1 ["ledger/ledgerref02.prime", "ledger/field.lessTwo"] (by kernel_rfl) (by kernel_rfl)
theorem fieldPows_row_tie : Rows.fieldPowsRow.laidByTextAt .later Tryd.pinned [.data, .data] true :=
  OpenClaim.laidByTextAt_later rfl rfl tie noOwnUnsafe
theorem fieldKeeps_row_tie : Rows.fieldKeepsRow.laidByTextAt .later Tryd.pinned [.data, .data] true :=
  OpenClaim.laidByTextAt_later rfl rfl tie noOwnUnsafe
theorem tie2 : Tryd.prog.laidByTextLater [("ledger/ledgerref02.prime", Rows.laid_ledger_ledgerref02_prime), ("ledger/field.twice", Rows.laid_ledger_field_twice)] [.data, .data] true :=
  Program.laidByTextLater.sub seatTie1 ["ledger/ledgerref02.prime", "ledger/field.twice"] (by kernel_rfl) (by kernel_rfl)
theorem fieldProducts_row_tie : Rows.fieldProductsRow.laidByTextAt .later Tryd.pinned [.data, .data] true :=
  OpenClaim.laidByTextAt_later rfl rfl tie2 noOwnUnsafe
theorem tie3 : Tryd.prog.laidByTextLater [("ledger/field.lessTwo", Rows.laid_ledger_field_lessTwo)] [.data] true :=
  Program.laidByTextLater.sub seatTie1 ["ledger/field.lessTwo"] (by kernel_rfl) (by kernel_rfl)
theorem fieldInverts_row_tie : Rows.fieldInvertsRow.laidByTextAt .later Tryd.pinned [.data] true :=
  OpenClaim.laidByTextAt_later rfl rfl tie3 noOwnUnsafe
theorem fieldBatches_row_tie : Rows.fieldBatchesRow.laidByTextAt .later Tryd.pinned [.data] true :=
  OpenClaim.laidByTextAt_later rfl rfl tie3 noOwnUnsafe
theorem tie4 : Tryd.prog.laidByTextLater [("ledger/field.twice", Rows.laid_ledger_field_twice)] [.data] true :=
  Program.laidByTextLater.sub seatTie1 ["ledger/field.twice"] (by kernel_rfl) (by kernel_rfl)
theorem fieldRing_row_tie : Rows.fieldRingRow.laidByTextAt .later Tryd.pinned [.data] true :=
  OpenClaim.laidByTextAt_later rfl rfl tie4 noOwnUnsafe
theorem tie5 : Tryd.prog.laidByTextLater [("ledger/field.lessTwo", Rows.laid_ledger_field_lessTwo), ("ledger/field.half", Rows.laid_ledger_field_half), ("ledger/field.twice", Rows.laid_ledger_field_twice)] [.data, .data, .data] true :=
  Program.laidByTextLater.sub seatTie1 ["ledger/field.lessTwo", "ledger/field.half", "ledger/field.twice"] (by kernel_rfl) (by kernel_rfl)
theorem fieldFermat_row_tie : Rows.fieldFermatRow.laidByTextAt .later Tryd.pinned [.data, .data, .data] true :=
  OpenClaim.laidByTextAt_later rfl rfl tie5 noOwnUnsafe
theorem tie6 : Tryd.prog.laidByTextLater [("ledger/field.half", Rows.laid_ledger_field_half), ("ledger/field.twice", Rows.laid_ledger_field_twice)] [.data, .data] true :=
  Program.laidByTextLater.sub seatTie1 ["ledger/field.half", "ledger/field.twice"] (by kernel_rfl) (by kernel_rfl)
theorem fieldSymbols_row_tie : Rows.fieldSymbolsRow.laidByTextAt .later Tryd.pinned [.data, .data] true :=
  OpenClaim.laidByTextAt_later rfl rfl tie6 noOwnUnsafe
theorem tie7 : Tryd.prog.laidByTextLater [("ledger/ledgerref02.prime", Rows.laid_ledger_ledgerref02_prime), ("ledger/field.eighth", Rows.laid_ledger_field_eighth), ("ledger/field.half", Rows.laid_ledger_field_half), ("ledger/field.rootOne", Rows.laid_ledger_field_rootOne), ("ledger/field.twice", Rows.laid_ledger_field_twice)] [.data, .data, .data, .data, .data] true :=
  Program.laidByTextLater.sub seatTie1 ["ledger/ledgerref02.prime", "ledger/field.eighth", "ledger/field.half", "ledger/field.rootOne", "ledger/field.twice"] (by kernel_rfl) (by kernel_rfl)
theorem fieldRatios_row_tie : Rows.fieldRatiosRow.laidByTextAt .later Tryd.pinned [.data, .data, .data, .data, .data] true :=
  OpenClaim.laidByTextAt_later rfl rfl tie7 noOwnUnsafe
theorem tie8 : Tryd.prog.laidByTextLater [("ledger/field.eighth", Rows.laid_ledger_field_eighth), ("ledger/field.half", Rows.laid_ledger_field_half), ("ledger/field.rootOne", Rows.laid_ledger_field_rootOne), ("ledger/field.twice", Rows.laid_ledger_field_twice)] [.data, .data, .data, .data] true :=
  Program.laidByTextLater.sub seatTie1 ["ledger/field.eighth", "ledger/field.half", "ledger/field.rootOne", "ledger/field.twice"] (by kernel_rfl) (by kernel_rfl)
theorem fieldRoots_row_tie : Rows.fieldRootsRow.laidByTextAt .later Tryd.pinned [.data, .data, .data, .data] true :=
  OpenClaim.laidByTextAt_later rfl rfl tie8 noOwnUnsafe
theorem tie9 : Tryd.prog.laidByTextLater [("ledger/ledgerref02.prime", Rows.laid_ledger_ledgerref02_prime), ("ledger/field.lessTwo", Rows.laid_ledger_field_lessTwo), ("ledger/field.eighth", Rows.laid_ledger_field_eighth), ("ledger/field.half", Rows.laid_ledger_field_half), ("ledger/field.rootOne", Rows.laid_ledger_field_rootOne), ("ledger/field.twice", Rows.laid_ledger_field_twice)] [.data, .data, .data, .data, .data, .data] true :=
  Program.laidByTextLater.sub seatTie1 ["ledger/ledgerref02.prime", "ledger/field.lessTwo", "ledger/field.eighth", "ledger/field.half", "ledger/field.rootOne", "ledger/field.twice"] (by kernel_rfl) (by kernel_rfl)
theorem fieldAll_row_tie : Rows.fieldAllRow.laidByTextAt .later Tryd.pinned [.data, .data, .data, .data, .data, .data] true :=
  OpenClaim.laidByTextAt_later rfl rfl tie9 noOwnUnsafe
theorem fieldPowsUpto_row_tie : Rows.fieldPowsUptoRow.laidByTextAt .later Tryd.pinned [.data, .data] true :=
  OpenClaim.laidByTextAt_later rfl rfl tie noOwnUnsafe
theorem fieldProductsUpto_row_tie : Rows.fieldProductsUptoRow.laidByTextAt .later Tryd.pinned [.data, .data] true :=
  OpenClaim.laidByTextAt_later rfl rfl tie2 noOwnUnsafe
theorem fieldInvertsUpto_row_tie : Rows.fieldInvertsUptoRow.laidByTextAt .later Tryd.pinned [.data] true :=
  OpenClaim.laidByTextAt_later rfl rfl tie3 noOwnUnsafe
theorem fieldRingUpto_row_tie : Rows.fieldRingUptoRow.laidByTextAt .later Tryd.pinned [.data] true :=
  OpenClaim.laidByTextAt_later rfl rfl tie4 noOwnUnsafe
theorem fieldFermatUpto_row_tie : Rows.fieldFermatUptoRow.laidByTextAt .later Tryd.pinned [.data, .data, .data] true :=
  OpenClaim.laidByTextAt_later rfl rfl tie5 noOwnUnsafe
theorem fieldSymbolsUpto_row_tie : Rows.fieldSymbolsUptoRow.laidByTextAt .later Tryd.pinned [.data, .data] true :=
  OpenClaim.laidByTextAt_later rfl rfl tie6 noOwnUnsafe
theorem fieldKeepsUpto_row_tie : Rows.fieldKeepsUptoRow.laidByTextAt .later Tryd.pinned [.data, .data] true :=
  OpenClaim.laidByTextAt_later rfl rfl tie noOwnUnsafe
theorem fieldBatchesUpto_row_tie : Rows.fieldBatchesUptoRow.laidByTextAt .later Tryd.pinned [.data] true :=
  OpenClaim.laidByTextAt_later rfl rfl tie3 noOwnUnsafe
theorem fieldRatiosUpto_row_tie : Rows.fieldRatiosUptoRow.laidByTextAt .later Tryd.pinned [.data, .data, .data, .data, .data] true :=
  OpenClaim.laidByTextAt_later rfl rfl tie7 noOwnUnsafe
theorem fieldRootsUpto_row_tie : Rows.fieldRootsUptoRow.laidByTextAt .later Tryd.pinned [.data, .data, .data, .data] true :=
  OpenClaim.laidByTextAt_later rfl rfl tie8 noOwnUnsafe
theorem fieldAllUpto_row_tie : Rows.fieldAllUptoRow.laidByTextAt .later Tryd.pinned [.data, .data, .data, .data, .data, .data] true :=
  OpenClaim.laidByTextAt_later rfl rfl tie9 noOwnUnsafe
end Go.Proofs.YtnfbjfbndnmhmaaDoor
