/-
  DERIVED. GIVEN WITH THE SEED: THE PROGRAM's TIES (one call each: nine closed facts by the kernel) AND EACH ROW's TIE, after the 31st guide's Derived/Test/Toyas{Tie, Card}.lean. No idea stands in it: it is a product of the set-up. Laid BY PROGRAM, IN A SANDBOX (cutbox-door.mjs). By AI agents, Wed Nov 11 2026. No macro, syntax, notation, axiom, sorry.
-/
import Derived.Test.YtnbjbamoddmbhaaDoorRows
import Derived.LaidByTextLater
import Derived.SevenTiedAt
import Derived.LaidSub
import Derived.LaidOnce
namespace Go.Proofs.YtnbjbamoddmbhaaDoor
open Go
set_option maxRecDepth 100000
theorem seatTie1 : Tryd.prog.laidByTextLater [("ledger/ledgerref04.dBytes", Rows.laid_ledger_ledgerref04_dBytes), ("ledger/field.lessTwo", Rows.laid_ledger_field_lessTwo), ("ledger/field.eighth", Rows.laid_ledger_field_eighth), ("ledger/field.half", Rows.laid_ledger_field_half), ("ledger/field.rootOne", Rows.laid_ledger_field_rootOne), ("ledger/field.twice", Rows.laid_ledger_field_twice), ("ledger/point.zero", Rows.laid_ledger_point_zero), ("ledger/point.one", Rows.laid_ledger_point_one), ("ledger/point.curve", Rows.laid_ledger_point_curve), ("ledger/point.base", Rows.laid_ledger_point_base)] [.data, .data, .data, .data, .data, .data, .data, .data, .data, .data] true :=
  Program.laidByTextLater_by_one 101 8 257 (by kernel_rfl) (by kernel_rfl) (by kernel_rfl) (by kernel_rfl) (by kernel_rfl) (by kernel_rfl) (fun _ _ => by kernel_rfl)
theorem seatTie2 : Tryd.prog.laidByTextLater [("ledger/field.lessTwo", Rows.laid_ledger_field_lessTwo), ("ledger/field.eighth", Rows.laid_ledger_field_eighth), ("ledger/field.rootOne", Rows.laid_ledger_field_rootOne), ("ledger/field.twice", Rows.laid_ledger_field_twice), ("ledger/point.zero", Rows.laid_ledger_point_zero), ("ledger/point.one", Rows.laid_ledger_point_one), ("ledger/point.curve", Rows.laid_ledger_point_curve), ("ledger/point.base", Rows.laid_ledger_point_base), ("ledger/ledgerlaw04.smallForms", Rows.laid_ledger_ledgerlaw04_smallForms)] [.data, .data, .data, .data, .data, .data, .data, .data, .data] true :=
  Program.laidByTextLater_by_one 101 8 257 (by kernel_rfl) (by kernel_rfl) (by kernel_rfl) (by kernel_rfl) (by kernel_rfl) (by kernel_rfl) (fun _ _ => by kernel_rfl)
theorem seatTie3 : Tryd.prog.laidByTextLater [("ledger/field.lessTwo", Rows.laid_ledger_field_lessTwo), ("ledger/field.eighth", Rows.laid_ledger_field_eighth), ("ledger/field.rootOne", Rows.laid_ledger_field_rootOne), ("ledger/field.twice", Rows.laid_ledger_field_twice), ("ledger/scalar.multiples", Rows.laid_ledger_scalar_multiples), ("ledger/scalar.order", Rows.laid_ledger_scalar_order), ("ledger/point.zero", Rows.laid_ledger_point_zero), ("ledger/point.one", Rows.laid_ledger_point_one), ("ledger/point.curve", Rows.laid_ledger_point_curve), ("ledger/point.base", Rows.laid_ledger_point_base), ("ledger/ledgerlaw04.smallForms", Rows.laid_ledger_ledgerlaw04_smallForms)] [.data, .data, .data, .data, .wider, .data, .data, .data, .data, .data, .data] true :=
  Program.laidByTextLater_by_one 101 8 257 (by kernel_rfl) (by kernel_rfl) (by kernel_rfl) (by kernel_rfl) (by kernel_rfl) (by kernel_rfl) (fun _ _ => by kernel_rfl)
theorem noOwnUnsafe : Tryd.pinned.checked.prog.headLifts.contains "ownunsafe" = false := by kernel_rfl
theorem tie : Tryd.prog.laidByTextLater [("ledger/ledgerref04.dBytes", Rows.laid_ledger_ledgerref04_dBytes), ("ledger/point.zero", Rows.laid_ledger_point_zero), ("ledger/point.one", Rows.laid_ledger_point_one), ("ledger/point.base", Rows.laid_ledger_point_base)] [.data, .data, .data, .data] true :=
  Program.laidByTextLater.sub seatTie1 ["ledger/ledgerref04.dBytes", "ledger/point.zero", "ledger/point.one", "ledger/point.base"] (by kernel_rfl) (by kernel_rfl)
theorem pointFirst_row_tie : Rows.pointFirstRow.laidByTextAt .later Tryd.pinned [.data, .data, .data, .data] true :=
  OpenClaim.laidByTextAt_later rfl rfl tie noOwnUnsafe
theorem tie2 : Tryd.prog.laidByTextLater [("ledger/ledgerref04.dBytes", Rows.laid_ledger_ledgerref04_dBytes), ("ledger/field.eighth", Rows.laid_ledger_field_eighth), ("ledger/field.rootOne", Rows.laid_ledger_field_rootOne), ("ledger/field.twice", Rows.laid_ledger_field_twice), ("ledger/point.zero", Rows.laid_ledger_point_zero), ("ledger/point.one", Rows.laid_ledger_point_one), ("ledger/point.curve", Rows.laid_ledger_point_curve)] [.data, .data, .data, .data, .data, .data, .data] true :=
  Program.laidByTextLater.sub seatTie1 ["ledger/ledgerref04.dBytes", "ledger/field.eighth", "ledger/field.rootOne", "ledger/field.twice", "ledger/point.zero", "ledger/point.one", "ledger/point.curve"] (by kernel_rfl) (by kernel_rfl)
theorem pointDecodes_row_tie : Rows.pointDecodesRow.laidByTextAt .later Tryd.pinned [.data, .data, .data, .data, .data, .data, .data] true :=
  OpenClaim.laidByTextAt_later rfl rfl tie2 noOwnUnsafe
theorem tie3 : Tryd.prog.laidByTextLater [("ledger/ledgerref04.dBytes", Rows.laid_ledger_ledgerref04_dBytes), ("ledger/field.lessTwo", Rows.laid_ledger_field_lessTwo), ("ledger/field.twice", Rows.laid_ledger_field_twice), ("ledger/point.zero", Rows.laid_ledger_point_zero), ("ledger/point.one", Rows.laid_ledger_point_one), ("ledger/point.curve", Rows.laid_ledger_point_curve)] [.data, .data, .data, .data, .data, .data] true :=
  Program.laidByTextLater.sub seatTie1 ["ledger/ledgerref04.dBytes", "ledger/field.lessTwo", "ledger/field.twice", "ledger/point.zero", "ledger/point.one", "ledger/point.curve"] (by kernel_rfl) (by kernel_rfl)
theorem pointPairs_row_tie : Rows.pointPairsRow.laidByTextAt .later Tryd.pinned [.data, .data, .data, .data, .data, .data] true :=
  OpenClaim.laidByTextAt_later rfl rfl tie3 noOwnUnsafe
theorem tie4 : Tryd.prog.laidByTextLater [("ledger/field.lessTwo", Rows.laid_ledger_field_lessTwo), ("ledger/field.eighth", Rows.laid_ledger_field_eighth), ("ledger/field.half", Rows.laid_ledger_field_half), ("ledger/field.rootOne", Rows.laid_ledger_field_rootOne), ("ledger/field.twice", Rows.laid_ledger_field_twice), ("ledger/point.zero", Rows.laid_ledger_point_zero), ("ledger/point.one", Rows.laid_ledger_point_one), ("ledger/point.curve", Rows.laid_ledger_point_curve), ("ledger/point.base", Rows.laid_ledger_point_base)] [.data, .data, .data, .data, .data, .data, .data, .data, .data] true :=
  Program.laidByTextLater.sub seatTie1 ["ledger/field.lessTwo", "ledger/field.eighth", "ledger/field.half", "ledger/field.rootOne", "ledger/field.twice", "ledger/point.zero", "ledger/point.one", "ledger/point.curve", "ledger/point.base"] (by kernel_rfl) (by kernel_rfl)
theorem pointForms_row_tie : Rows.pointFormsRow.laidByTextAt .later Tryd.pinned [.data, .data, .data, .data, .data, .data, .data, .data, .data] true :=
  OpenClaim.laidByTextAt_later rfl rfl tie4 noOwnUnsafe
theorem tie5 : Tryd.prog.laidByTextLater [("ledger/field.lessTwo", Rows.laid_ledger_field_lessTwo), ("ledger/field.eighth", Rows.laid_ledger_field_eighth), ("ledger/field.rootOne", Rows.laid_ledger_field_rootOne), ("ledger/field.twice", Rows.laid_ledger_field_twice), ("ledger/point.zero", Rows.laid_ledger_point_zero), ("ledger/point.one", Rows.laid_ledger_point_one), ("ledger/point.curve", Rows.laid_ledger_point_curve), ("ledger/point.base", Rows.laid_ledger_point_base), ("ledger/ledgerlaw04.smallForms", Rows.laid_ledger_ledgerlaw04_smallForms)] [.data, .data, .data, .data, .data, .data, .data, .data, .data] true :=
  Program.laidByTextLater.sub seatTie2 ["ledger/field.lessTwo", "ledger/field.eighth", "ledger/field.rootOne", "ledger/field.twice", "ledger/point.zero", "ledger/point.one", "ledger/point.curve", "ledger/point.base", "ledger/ledgerlaw04.smallForms"] (by kernel_rfl) (by kernel_rfl)
theorem pointGroup_row_tie : Rows.pointGroupRow.laidByTextAt .later Tryd.pinned [.data, .data, .data, .data, .data, .data, .data, .data, .data] true :=
  OpenClaim.laidByTextAt_later rfl rfl tie5 noOwnUnsafe
theorem pointBack_row_tie : Rows.pointBackRow.laidByTextAt .later Tryd.pinned [.data, .data, .data, .data, .data, .data, .data, .data, .data] true :=
  OpenClaim.laidByTextAt_later rfl rfl tie5 noOwnUnsafe
theorem pointLinear_row_tie : Rows.pointLinearRow.laidByTextAt .later Tryd.pinned [.data, .data, .data, .data, .data, .data, .data, .data, .data] true :=
  OpenClaim.laidByTextAt_later rfl rfl tie5 noOwnUnsafe
theorem pointSteps_row_tie : Rows.pointStepsRow.laidByTextAt .later Tryd.pinned [.data, .data, .data, .data, .data, .data, .data, .data, .data] true :=
  OpenClaim.laidByTextAt_later rfl rfl tie5 noOwnUnsafe
theorem pointBoth_row_tie : Rows.pointBothRow.laidByTextAt .later Tryd.pinned [.data, .data, .data, .data, .data, .data, .data, .data, .data] true :=
  OpenClaim.laidByTextAt_later rfl rfl tie5 noOwnUnsafe
theorem pointSmall_row_tie : Rows.pointSmallRow.laidByTextAt .later Tryd.pinned [.data, .data, .data, .data, .data, .data, .data, .data, .data] true :=
  OpenClaim.laidByTextAt_later rfl rfl tie5 noOwnUnsafe
theorem tie6 : Tryd.prog.laidByTextLater [("ledger/ledgerref04.dBytes", Rows.laid_ledger_ledgerref04_dBytes), ("ledger/field.lessTwo", Rows.laid_ledger_field_lessTwo), ("ledger/field.twice", Rows.laid_ledger_field_twice), ("ledger/point.zero", Rows.laid_ledger_point_zero), ("ledger/point.one", Rows.laid_ledger_point_one), ("ledger/point.curve", Rows.laid_ledger_point_curve), ("ledger/point.base", Rows.laid_ledger_point_base)] [.data, .data, .data, .data, .data, .data, .data] true :=
  Program.laidByTextLater.sub seatTie1 ["ledger/ledgerref04.dBytes", "ledger/field.lessTwo", "ledger/field.twice", "ledger/point.zero", "ledger/point.one", "ledger/point.curve", "ledger/point.base"] (by kernel_rfl) (by kernel_rfl)
theorem pointTimes_row_tie : Rows.pointTimesRow.laidByTextAt .later Tryd.pinned [.data, .data, .data, .data, .data, .data, .data] true :=
  OpenClaim.laidByTextAt_later rfl rfl tie6 noOwnUnsafe
theorem tie7 : Tryd.prog.laidByTextLater [("ledger/field.lessTwo", Rows.laid_ledger_field_lessTwo), ("ledger/field.twice", Rows.laid_ledger_field_twice), ("ledger/point.zero", Rows.laid_ledger_point_zero), ("ledger/point.one", Rows.laid_ledger_point_one), ("ledger/point.curve", Rows.laid_ledger_point_curve), ("ledger/point.base", Rows.laid_ledger_point_base)] [.data, .data, .data, .data, .data, .data] true :=
  Program.laidByTextLater.sub seatTie1 ["ledger/field.lessTwo", "ledger/field.twice", "ledger/point.zero", "ledger/point.one", "ledger/point.curve", "ledger/point.base"] (by kernel_rfl) (by kernel_rfl)
theorem pointEquation_row_tie : Rows.pointEquationRow.laidByTextAt .later Tryd.pinned [.data, .data, .data, .data, .data, .data] true :=
  OpenClaim.laidByTextAt_later rfl rfl tie7 noOwnUnsafe
theorem tie8 : Tryd.prog.laidByTextLater [("ledger/field.lessTwo", Rows.laid_ledger_field_lessTwo), ("ledger/field.eighth", Rows.laid_ledger_field_eighth), ("ledger/field.rootOne", Rows.laid_ledger_field_rootOne), ("ledger/field.twice", Rows.laid_ledger_field_twice), ("ledger/scalar.multiples", Rows.laid_ledger_scalar_multiples), ("ledger/scalar.order", Rows.laid_ledger_scalar_order), ("ledger/point.zero", Rows.laid_ledger_point_zero), ("ledger/point.one", Rows.laid_ledger_point_one), ("ledger/point.curve", Rows.laid_ledger_point_curve), ("ledger/point.base", Rows.laid_ledger_point_base), ("ledger/ledgerlaw04.smallForms", Rows.laid_ledger_ledgerlaw04_smallForms)] [.data, .data, .data, .data, .wider, .data, .data, .data, .data, .data, .data] true :=
  Program.laidByTextLater.sub seatTie3 ["ledger/field.lessTwo", "ledger/field.eighth", "ledger/field.rootOne", "ledger/field.twice", "ledger/scalar.multiples", "ledger/scalar.order", "ledger/point.zero", "ledger/point.one", "ledger/point.curve", "ledger/point.base", "ledger/ledgerlaw04.smallForms"] (by kernel_rfl) (by kernel_rfl)
theorem pointOrder_row_tie : Rows.pointOrderRow.laidByTextAt .later Tryd.pinned [.data, .data, .data, .data, .wider, .data, .data, .data, .data, .data, .data] true :=
  OpenClaim.laidByTextAt_later rfl rfl tie8 noOwnUnsafe
theorem pointFirstUpto_row_tie : Rows.pointFirstUptoRow.laidByTextAt .later Tryd.pinned [.data, .data, .data, .data] true :=
  OpenClaim.laidByTextAt_later rfl rfl tie noOwnUnsafe
theorem pointDecodesUpto_row_tie : Rows.pointDecodesUptoRow.laidByTextAt .later Tryd.pinned [.data, .data, .data, .data, .data, .data, .data] true :=
  OpenClaim.laidByTextAt_later rfl rfl tie2 noOwnUnsafe
theorem pointPairsUpto_row_tie : Rows.pointPairsUptoRow.laidByTextAt .later Tryd.pinned [.data, .data, .data, .data, .data, .data] true :=
  OpenClaim.laidByTextAt_later rfl rfl tie3 noOwnUnsafe
theorem pointFormsUpto_row_tie : Rows.pointFormsUptoRow.laidByTextAt .later Tryd.pinned [.data, .data, .data, .data, .data, .data, .data, .data, .data] true :=
  OpenClaim.laidByTextAt_later rfl rfl tie4 noOwnUnsafe
theorem pointGroupUpto_row_tie : Rows.pointGroupUptoRow.laidByTextAt .later Tryd.pinned [.data, .data, .data, .data, .data, .data, .data, .data, .data] true :=
  OpenClaim.laidByTextAt_later rfl rfl tie5 noOwnUnsafe
theorem pointBackUpto_row_tie : Rows.pointBackUptoRow.laidByTextAt .later Tryd.pinned [.data, .data, .data, .data, .data, .data, .data, .data, .data] true :=
  OpenClaim.laidByTextAt_later rfl rfl tie5 noOwnUnsafe
theorem pointTimesUpto_row_tie : Rows.pointTimesUptoRow.laidByTextAt .later Tryd.pinned [.data, .data, .data, .data, .data, .data, .data] true :=
  OpenClaim.laidByTextAt_later rfl rfl tie6 noOwnUnsafe
theorem pointEquationUpto_row_tie : Rows.pointEquationUptoRow.laidByTextAt .later Tryd.pinned [.data, .data, .data, .data, .data, .data] true :=
  OpenClaim.laidByTextAt_later rfl rfl tie7 noOwnUnsafe
theorem pointLinearUpto_row_tie : Rows.pointLinearUptoRow.laidByTextAt .later Tryd.pinned [.data, .data, .data, .data, .data, .data, .data, .data, .data] true :=
  OpenClaim.laidByTextAt_later rfl rfl tie5 noOwnUnsafe
theorem pointStepsUpto_row_tie : Rows.pointStepsUptoRow.laidByTextAt .later Tryd.pinned [.data, .data, .data, .data, .data, .data, .data, .data, .data] true :=
  OpenClaim.laidByTextAt_later rfl rfl tie5 noOwnUnsafe
theorem pointBothUpto_row_tie : Rows.pointBothUptoRow.laidByTextAt .later Tryd.pinned [.data, .data, .data, .data, .data, .data, .data, .data, .data] true :=
  OpenClaim.laidByTextAt_later rfl rfl tie5 noOwnUnsafe
theorem pointSmallUpto_row_tie : Rows.pointSmallUptoRow.laidByTextAt .later Tryd.pinned [.data, .data, .data, .data, .data, .data, .data, .data, .data] true :=
  OpenClaim.laidByTextAt_later rfl rfl tie5 noOwnUnsafe
theorem pointOrderUpto_row_tie : Rows.pointOrderUptoRow.laidByTextAt .later Tryd.pinned [.data, .data, .data, .data, .wider, .data, .data, .data, .data, .data, .data] true :=
  OpenClaim.laidByTextAt_later rfl rfl tie8 noOwnUnsafe
end Go.Proofs.YtnbjbamoddmbhaaDoor
