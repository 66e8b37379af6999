/-
  DERIVED. GIVEN WITH THE SEED: THE PROGRAM's TIES (one call each: nine closed facts by the kernel) AND EACH ROW's TIE, after the 31st guide's Derived/Test/Toyas{Tie, Card}.lean. No idea stands in it: it is a product of the set-up. Laid BY PROGRAM, IN A SANDBOX (cutbox-door.mjs). By AI agents, Wed Nov 11 2026. No macro, syntax, notation, axiom, sorry.
-/
import Derived.Test.YtjbimeigkklcmaaDoorRows
import Derived.LaidByTextLater
import Derived.SevenTiedAt
import Derived.LaidSub
import Derived.LaidOnce
namespace Go.Proofs.YtjbimeigkklcmaaDoor
open Go
set_option maxRecDepth 100000
theorem seatTie1 : Tryd.prog.laidByTextLater [("ledger/field.lessTwo", Rows.laid_ledger_field_lessTwo), ("ledger/field.eighth", Rows.laid_ledger_field_eighth), ("ledger/field.rootOne", Rows.laid_ledger_field_rootOne), ("ledger/field.twice", Rows.laid_ledger_field_twice), ("ledger/scalar.multiples", Rows.laid_ledger_scalar_multiples), ("ledger/point.zero", Rows.laid_ledger_point_zero), ("ledger/point.one", Rows.laid_ledger_point_one), ("ledger/point.curve", Rows.laid_ledger_point_curve), ("ledger/point.base", Rows.laid_ledger_point_base), ("ledger/sha.turns256", Rows.laid_ledger_sha_turns256), ("ledger/sha.turns512", Rows.laid_ledger_sha_turns512), ("ledger/sha.starts", Rows.laid_ledger_sha_starts), ("ledger/sha.rounds256", Rows.laid_ledger_sha_rounds256), ("ledger/sha.rounds512", Rows.laid_ledger_sha_rounds512)] [.data, .data, .data, .data, .wider, .data, .data, .data, .data, .data, .data, .data, .widerDeep, .widerDeep] true :=
  Program.laidByTextLater_by_one 106 8 86 (by kernel_rfl) (by kernel_rfl) (by kernel_rfl) (by kernel_rfl) (by kernel_rfl) (by kernel_rfl) (fun _ _ => by kernel_rfl)
theorem noOwnUnsafe : Tryd.pinned.checked.prog.headLifts.contains "ownunsafe" = false := by kernel_rfl
theorem tie : Tryd.prog.laidByTextLater [("ledger/field.lessTwo", Rows.laid_ledger_field_lessTwo), ("ledger/field.eighth", Rows.laid_ledger_field_eighth), ("ledger/field.rootOne", Rows.laid_ledger_field_rootOne), ("ledger/field.twice", Rows.laid_ledger_field_twice), ("ledger/scalar.multiples", Rows.laid_ledger_scalar_multiples), ("ledger/point.zero", Rows.laid_ledger_point_zero), ("ledger/point.one", Rows.laid_ledger_point_one), ("ledger/point.curve", Rows.laid_ledger_point_curve), ("ledger/point.base", Rows.laid_ledger_point_base), ("ledger/sha.turns256", Rows.laid_ledger_sha_turns256), ("ledger/sha.turns512", Rows.laid_ledger_sha_turns512), ("ledger/sha.starts", Rows.laid_ledger_sha_starts), ("ledger/sha.rounds256", Rows.laid_ledger_sha_rounds256), ("ledger/sha.rounds512", Rows.laid_ledger_sha_rounds512)] [.data, .data, .data, .data, .wider, .data, .data, .data, .data, .data, .data, .data, .widerDeep, .widerDeep] true :=
  Program.laidByTextLater.sub seatTie1 ["ledger/field.lessTwo", "ledger/field.eighth", "ledger/field.rootOne", "ledger/field.twice", "ledger/scalar.multiples", "ledger/point.zero", "ledger/point.one", "ledger/point.curve", "ledger/point.base", "ledger/sha.turns256", "ledger/sha.turns512", "ledger/sha.starts", "ledger/sha.rounds256", "ledger/sha.rounds512"] (by kernel_rfl) (by kernel_rfl)
theorem signOthers_row_tie : Rows.signOthersRow.laidByTextAt .later Tryd.pinned [.data, .data, .data, .data, .wider, .data, .data, .data, .data, .data, .data, .data, .widerDeep, .widerDeep] true :=
  OpenClaim.laidByTextAt_later rfl rfl tie noOwnUnsafe
theorem signKeys_row_tie : Rows.signKeysRow.laidByTextAt .later Tryd.pinned [.data, .data, .data, .data, .wider, .data, .data, .data, .data, .data, .data, .data, .widerDeep, .widerDeep] true :=
  OpenClaim.laidByTextAt_later rfl rfl tie noOwnUnsafe
theorem signEquation_row_tie : Rows.signEquationRow.laidByTextAt .later Tryd.pinned [.data, .data, .data, .data, .wider, .data, .data, .data, .data, .data, .data, .data, .widerDeep, .widerDeep] true :=
  OpenClaim.laidByTextAt_later rfl rfl tie noOwnUnsafe
theorem signOthersUpto_row_tie : Rows.signOthersUptoRow.laidByTextAt .later Tryd.pinned [.data, .data, .data, .data, .wider, .data, .data, .data, .data, .data, .data, .data, .widerDeep, .widerDeep] true :=
  OpenClaim.laidByTextAt_later rfl rfl tie noOwnUnsafe
theorem signKeysUpto_row_tie : Rows.signKeysUptoRow.laidByTextAt .later Tryd.pinned [.data, .data, .data, .data, .wider, .data, .data, .data, .data, .data, .data, .data, .widerDeep, .widerDeep] true :=
  OpenClaim.laidByTextAt_later rfl rfl tie noOwnUnsafe
theorem signEquationUpto_row_tie : Rows.signEquationUptoRow.laidByTextAt .later Tryd.pinned [.data, .data, .data, .data, .wider, .data, .data, .data, .data, .data, .data, .data, .widerDeep, .widerDeep] true :=
  OpenClaim.laidByTextAt_later rfl rfl tie noOwnUnsafe
end Go.Proofs.YtjbimeigkklcmaaDoor
