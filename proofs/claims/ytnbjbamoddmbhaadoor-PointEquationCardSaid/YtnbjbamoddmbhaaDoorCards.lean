/-
  DERIVED. GIVEN WITH THE SEED: THE CARDS: each row of YtnbjbamoddmbhaaDoorRows.lean that lists a variable, with what it lists TIED to the program's text (the seventh form; the later family's looks); each row that meets fmt, with fmt's text TOLD by the authors' own Lean function (tested against real Go, not proved from fmt's source: count such statements apart). THE CARD IS WHAT COUNTS. Prove the row's statement (the work); the ties are given (YtnbjbamoddmbhaaDoorTie.lean); close each card by the builder's one call (the guide's Derived/Test/ToyasCard.lean, 'card_holds'). Laid BY PROGRAM, IN A SANDBOX (cutbox-door.mjs). By AI agents, Wed Nov 11 2026. No macro, syntax, notation, axiom, sorry.
-/
import Derived.Test.YtnbjbamoddmbhaaDoorRows
import GoSem.ClaimSeven
namespace Go.Proofs.YtnbjbamoddmbhaaDoor
namespace Rows

/-- THE TIED CARD OF 'ledgerlaw04.PointFirst'. -/
def pointFirstCard : Claim7 := { stood := { row := pointFirstRow, standIns := [], harness := (true, "802248cd11a290af1c4c2369bf5423f2c7fa003a871a5038731ec33fbdda7c9d"), looks := false }, kinds := [], alts := [], laidByText := true, laidKinds := [.data, .data, .data, .data], laidTests := true, laidLooks := .later }
def PointFirstCardSaid : Prop := Claim7.holds Tryd.pinned (.plain (OpenSpec.ofChange pointFirstSpec)) pointFirstCard

/-- THE TIED CARD OF 'ledgerlaw04.PointDecodes'. -/
def pointDecodesCard : Claim7 := { stood := { row := pointDecodesRow, standIns := [], harness := (true, "802248cd11a290af1c4c2369bf5423f2c7fa003a871a5038731ec33fbdda7c9d"), looks := false }, kinds := [], alts := [], laidByText := true, laidKinds := [.data, .data, .data, .data, .data, .data, .data], laidTests := true, laidLooks := .later }
def PointDecodesCardSaid : Prop := Claim7.holds Tryd.pinned (.plain (OpenSpec.ofChange pointDecodesSpec)) pointDecodesCard

/-- THE TIED CARD OF 'ledgerlaw04.PointPairs'. -/
def pointPairsCard : Claim7 := { stood := { row := pointPairsRow, standIns := [], harness := (true, "802248cd11a290af1c4c2369bf5423f2c7fa003a871a5038731ec33fbdda7c9d"), looks := false }, kinds := [], alts := [], laidByText := true, laidKinds := [.data, .data, .data, .data, .data, .data], laidTests := true, laidLooks := .later }
def PointPairsCardSaid : Prop := Claim7.holds Tryd.pinned (.plain (OpenSpec.ofChange pointPairsSpec)) pointPairsCard

/-- THE TIED CARD OF 'ledgerlaw04.PointForms'. -/
def pointFormsCard : Claim7 := { stood := { row := pointFormsRow, standIns := [], harness := (true, "802248cd11a290af1c4c2369bf5423f2c7fa003a871a5038731ec33fbdda7c9d"), looks := false }, kinds := [], alts := [], laidByText := true, laidKinds := [.data, .data, .data, .data, .data, .data, .data, .data, .data], laidTests := true, laidLooks := .later }
def PointFormsCardSaid : Prop := Claim7.holds Tryd.pinned (.plain (OpenSpec.ofChange pointFormsSpec)) pointFormsCard

/-- THE TIED CARD OF 'ledgerlaw04.PointGroup'. -/
def pointGroupCard : Claim7 := { stood := { row := pointGroupRow, standIns := [], harness := (true, "802248cd11a290af1c4c2369bf5423f2c7fa003a871a5038731ec33fbdda7c9d"), looks := false }, kinds := [], alts := [], laidByText := true, laidKinds := [.data, .data, .data, .data, .data, .data, .data, .data, .data], laidTests := true, laidLooks := .later }
def PointGroupCardSaid : Prop := Claim7.holds Tryd.pinned (.plain (OpenSpec.ofChange pointGroupSpec)) pointGroupCard

/-- THE TIED CARD OF 'ledgerlaw04.PointBack'. -/
def pointBackCard : Claim7 := { stood := { row := pointBackRow, standIns := [], harness := (true, "802248cd11a290af1c4c2369bf5423f2c7fa003a871a5038731ec33fbdda7c9d"), looks := false }, kinds := [], alts := [], laidByText := true, laidKinds := [.data, .data, .data, .data, .data, .data, .data, .data, .data], laidTests := true, laidLooks := .later }
def PointBackCardSaid : Prop := Claim7.holds Tryd.pinned (.plain (OpenSpec.ofChange pointBackSpec)) pointBackCard

/-- THE TIED CARD OF 'ledgerlaw04.PointTimes'. -/
def pointTimesCard : Claim7 := { stood := { row := pointTimesRow, standIns := [], harness := (true, "802248cd11a290af1c4c2369bf5423f2c7fa003a871a5038731ec33fbdda7c9d"), looks := false }, kinds := [], alts := [], laidByText := true, laidKinds := [.data, .data, .data, .data, .data, .data, .data], laidTests := true, laidLooks := .later }
def PointTimesCardSaid : Prop := Claim7.holds Tryd.pinned (.plain (OpenSpec.ofChange pointTimesSpec)) pointTimesCard

/-- THE TIED CARD OF 'ledgerlaw04.PointEquation'. -/
def pointEquationCard : Claim7 := { stood := { row := pointEquationRow, standIns := [], harness := (true, "802248cd11a290af1c4c2369bf5423f2c7fa003a871a5038731ec33fbdda7c9d"), looks := false }, kinds := [], alts := [], laidByText := true, laidKinds := [.data, .data, .data, .data, .data, .data], laidTests := true, laidLooks := .later }
def PointEquationCardSaid : Prop := Claim7.holds Tryd.pinned (.plain (OpenSpec.ofChange pointEquationSpec)) pointEquationCard

/-- THE TIED CARD OF 'ledgerlaw04.PointLinear'. -/
def pointLinearCard : Claim7 := { stood := { row := pointLinearRow, standIns := [], harness := (true, "802248cd11a290af1c4c2369bf5423f2c7fa003a871a5038731ec33fbdda7c9d"), looks := false }, kinds := [], alts := [], laidByText := true, laidKinds := [.data, .data, .data, .data, .data, .data, .data, .data, .data], laidTests := true, laidLooks := .later }
def PointLinearCardSaid : Prop := Claim7.holds Tryd.pinned (.plain (OpenSpec.ofChange pointLinearSpec)) pointLinearCard

/-- THE TIED CARD OF 'ledgerlaw04.PointSteps'. -/
def pointStepsCard : Claim7 := { stood := { row := pointStepsRow, standIns := [], harness := (true, "802248cd11a290af1c4c2369bf5423f2c7fa003a871a5038731ec33fbdda7c9d"), looks := false }, kinds := [], alts := [], laidByText := true, laidKinds := [.data, .data, .data, .data, .data, .data, .data, .data, .data], laidTests := true, laidLooks := .later }
def PointStepsCardSaid : Prop := Claim7.holds Tryd.pinned (.plain (OpenSpec.ofChange pointStepsSpec)) pointStepsCard

/-- THE TIED CARD OF 'ledgerlaw04.PointBoth'. -/
def pointBothCard : Claim7 := { stood := { row := pointBothRow, standIns := [], harness := (true, "802248cd11a290af1c4c2369bf5423f2c7fa003a871a5038731ec33fbdda7c9d"), looks := false }, kinds := [], alts := [], laidByText := true, laidKinds := [.data, .data, .data, .data, .data, .data, .data, .data, .data], laidTests := true, laidLooks := .later }
def PointBothCardSaid : Prop := Claim7.holds Tryd.pinned (.plain (OpenSpec.ofChange pointBothSpec)) pointBothCard

/-- THE TIED CARD OF 'ledgerlaw04.PointSmall'. -/
def pointSmallCard : Claim7 := { stood := { row := pointSmallRow, standIns := [], harness := (true, "802248cd11a290af1c4c2369bf5423f2c7fa003a871a5038731ec33fbdda7c9d"), looks := false }, kinds := [], alts := [], laidByText := true, laidKinds := [.data, .data, .data, .data, .data, .data, .data, .data, .data], laidTests := true, laidLooks := .later }
def PointSmallCardSaid : Prop := Claim7.holds Tryd.pinned (.plain (OpenSpec.ofChange pointSmallSpec)) pointSmallCard

/-- THE TIED CARD OF 'ledgerlaw04.PointOrder'. -/
def pointOrderCard : Claim7 := { stood := { row := pointOrderRow, standIns := [], harness := (true, "802248cd11a290af1c4c2369bf5423f2c7fa003a871a5038731ec33fbdda7c9d"), looks := false }, kinds := [], alts := [], laidByText := true, laidKinds := [.data, .data, .data, .data, .wider, .data, .data, .data, .data, .data, .data], laidTests := true, laidLooks := .later }
def PointOrderCardSaid : Prop := Claim7.holds Tryd.pinned (.plain (OpenSpec.ofChange pointOrderSpec)) pointOrderCard

/-- THE SECOND FORM's CARD OF 'ledgerlaw04.PointFirst'. -/
def pointFirstUptoCard : Claim7 := { stood := { row := pointFirstUptoRow, standIns := [], harness := (true, "802248cd11a290af1c4c2369bf5423f2c7fa003a871a5038731ec33fbdda7c9d"), looks := false }, kinds := [], alts := [], laidByText := true, laidKinds := [.data, .data, .data, .data], laidTests := true, laidLooks := .later }
def PointFirstUptoCardSaid : Prop := Claim7.holds Tryd.pinned (.plain (OpenSpec.upto pointFirstSpec)) pointFirstUptoCard

/-- THE SECOND FORM's CARD OF 'ledgerlaw04.PointDecodes'. -/
def pointDecodesUptoCard : Claim7 := { stood := { row := pointDecodesUptoRow, standIns := [], harness := (true, "802248cd11a290af1c4c2369bf5423f2c7fa003a871a5038731ec33fbdda7c9d"), looks := false }, kinds := [], alts := [], laidByText := true, laidKinds := [.data, .data, .data, .data, .data, .data, .data], laidTests := true, laidLooks := .later }
def PointDecodesUptoCardSaid : Prop := Claim7.holds Tryd.pinned (.plain (OpenSpec.upto pointDecodesSpec)) pointDecodesUptoCard

/-- THE SECOND FORM's CARD OF 'ledgerlaw04.PointPairs'. -/
def pointPairsUptoCard : Claim7 := { stood := { row := pointPairsUptoRow, standIns := [], harness := (true, "802248cd11a290af1c4c2369bf5423f2c7fa003a871a5038731ec33fbdda7c9d"), looks := false }, kinds := [], alts := [], laidByText := true, laidKinds := [.data, .data, .data, .data, .data, .data], laidTests := true, laidLooks := .later }
def PointPairsUptoCardSaid : Prop := Claim7.holds Tryd.pinned (.plain (OpenSpec.upto pointPairsSpec)) pointPairsUptoCard

/-- THE SECOND FORM's CARD OF 'ledgerlaw04.PointForms'. -/
def pointFormsUptoCard : Claim7 := { stood := { row := pointFormsUptoRow, standIns := [], harness := (true, "802248cd11a290af1c4c2369bf5423f2c7fa003a871a5038731ec33fbdda7c9d"), looks := false }, kinds := [], alts := [], laidByText := true, laidKinds := [.data, .data, .data, .data, .data, .data, .data, .data, .data], laidTests := true, laidLooks := .later }
def PointFormsUptoCardSaid : Prop := Claim7.holds Tryd.pinned (.plain (OpenSpec.upto pointFormsSpec)) pointFormsUptoCard

/-- THE SECOND FORM's CARD OF 'ledgerlaw04.PointGroup'. -/
def pointGroupUptoCard : Claim7 := { stood := { row := pointGroupUptoRow, standIns := [], harness := (true, "802248cd11a290af1c4c2369bf5423f2c7fa003a871a5038731ec33fbdda7c9d"), looks := false }, kinds := [], alts := [], laidByText := true, laidKinds := [.data, .data, .data, .data, .data, .data, .data, .data, .data], laidTests := true, laidLooks := .later }
def PointGroupUptoCardSaid : Prop := Claim7.holds Tryd.pinned (.plain (OpenSpec.upto pointGroupSpec)) pointGroupUptoCard

/-- THE SECOND FORM's CARD OF 'ledgerlaw04.PointBack'. -/
def pointBackUptoCard : Claim7 := { stood := { row := pointBackUptoRow, standIns := [], harness := (true, "802248cd11a290af1c4c2369bf5423f2c7fa003a871a5038731ec33fbdda7c9d"), looks := false }, kinds := [], alts := [], laidByText := true, laidKinds := [.data, .data, .data, .data, .data, .data, .data, .data, .data], laidTests := true, laidLooks := .later }
def PointBackUptoCardSaid : Prop := Claim7.holds Tryd.pinned (.plain (OpenSpec.upto pointBackSpec)) pointBackUptoCard

/-- THE SECOND FORM's CARD OF 'ledgerlaw04.PointTimes'. -/
def pointTimesUptoCard : Claim7 := { stood := { row := pointTimesUptoRow, standIns := [], harness := (true, "802248cd11a290af1c4c2369bf5423f2c7fa003a871a5038731ec33fbdda7c9d"), looks := false }, kinds := [], alts := [], laidByText := true, laidKinds := [.data, .data, .data, .data, .data, .data, .data], laidTests := true, laidLooks := .later }
def PointTimesUptoCardSaid : Prop := Claim7.holds Tryd.pinned (.plain (OpenSpec.upto pointTimesSpec)) pointTimesUptoCard

/-- THE SECOND FORM's CARD OF 'ledgerlaw04.PointEquation'. -/
def pointEquationUptoCard : Claim7 := { stood := { row := pointEquationUptoRow, standIns := [], harness := (true, "802248cd11a290af1c4c2369bf5423f2c7fa003a871a5038731ec33fbdda7c9d"), looks := false }, kinds := [], alts := [], laidByText := true, laidKinds := [.data, .data, .data, .data, .data, .data], laidTests := true, laidLooks := .later }
def PointEquationUptoCardSaid : Prop := Claim7.holds Tryd.pinned (.plain (OpenSpec.upto pointEquationSpec)) pointEquationUptoCard

/-- THE SECOND FORM's CARD OF 'ledgerlaw04.PointLinear'. -/
def pointLinearUptoCard : Claim7 := { stood := { row := pointLinearUptoRow, standIns := [], harness := (true, "802248cd11a290af1c4c2369bf5423f2c7fa003a871a5038731ec33fbdda7c9d"), looks := false }, kinds := [], alts := [], laidByText := true, laidKinds := [.data, .data, .data, .data, .data, .data, .data, .data, .data], laidTests := true, laidLooks := .later }
def PointLinearUptoCardSaid : Prop := Claim7.holds Tryd.pinned (.plain (OpenSpec.upto pointLinearSpec)) pointLinearUptoCard

/-- THE SECOND FORM's CARD OF 'ledgerlaw04.PointSteps'. -/
def pointStepsUptoCard : Claim7 := { stood := { row := pointStepsUptoRow, standIns := [], harness := (true, "802248cd11a290af1c4c2369bf5423f2c7fa003a871a5038731ec33fbdda7c9d"), looks := false }, kinds := [], alts := [], laidByText := true, laidKinds := [.data, .data, .data, .data, .data, .data, .data, .data, .data], laidTests := true, laidLooks := .later }
def PointStepsUptoCardSaid : Prop := Claim7.holds Tryd.pinned (.plain (OpenSpec.upto pointStepsSpec)) pointStepsUptoCard

/-- THE SECOND FORM's CARD OF 'ledgerlaw04.PointBoth'. -/
def pointBothUptoCard : Claim7 := { stood := { row := pointBothUptoRow, standIns := [], harness := (true, "802248cd11a290af1c4c2369bf5423f2c7fa003a871a5038731ec33fbdda7c9d"), looks := false }, kinds := [], alts := [], laidByText := true, laidKinds := [.data, .data, .data, .data, .data, .data, .data, .data, .data], laidTests := true, laidLooks := .later }
def PointBothUptoCardSaid : Prop := Claim7.holds Tryd.pinned (.plain (OpenSpec.upto pointBothSpec)) pointBothUptoCard

/-- THE SECOND FORM's CARD OF 'ledgerlaw04.PointSmall'. -/
def pointSmallUptoCard : Claim7 := { stood := { row := pointSmallUptoRow, standIns := [], harness := (true, "802248cd11a290af1c4c2369bf5423f2c7fa003a871a5038731ec33fbdda7c9d"), looks := false }, kinds := [], alts := [], laidByText := true, laidKinds := [.data, .data, .data, .data, .data, .data, .data, .data, .data], laidTests := true, laidLooks := .later }
def PointSmallUptoCardSaid : Prop := Claim7.holds Tryd.pinned (.plain (OpenSpec.upto pointSmallSpec)) pointSmallUptoCard

/-- THE SECOND FORM's CARD OF 'ledgerlaw04.PointOrder'. -/
def pointOrderUptoCard : Claim7 := { stood := { row := pointOrderUptoRow, standIns := [], harness := (true, "802248cd11a290af1c4c2369bf5423f2c7fa003a871a5038731ec33fbdda7c9d"), looks := false }, kinds := [], alts := [], laidByText := true, laidKinds := [.data, .data, .data, .data, .wider, .data, .data, .data, .data, .data, .data], laidTests := true, laidLooks := .later }
def PointOrderUptoCardSaid : Prop := Claim7.holds Tryd.pinned (.plain (OpenSpec.upto pointOrderSpec)) pointOrderUptoCard
end Rows
end Go.Proofs.YtnbjbamoddmbhaaDoor
