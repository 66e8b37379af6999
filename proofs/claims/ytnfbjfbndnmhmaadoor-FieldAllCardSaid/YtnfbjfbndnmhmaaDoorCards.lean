/-
  DERIVED. GIVEN WITH THE SEED: THE CARDS: each row of YtnfbjfbndnmhmaaDoorRows.lean that lists a variable, with what it lists TIED to the program's text (the seventh form; the later family's looks); each row that meets fmt, with fmt's text TOLD by the authors' own Lean function (tested against real Go, not proved from fmt's source: count such statements apart). THE CARD IS WHAT COUNTS. Prove the row's statement (the work); the ties are given (YtnfbjfbndnmhmaaDoorTie.lean); close each card by the builder's one call (the guide's Derived/Test/ToyasCard.lean, 'card_holds'). Laid BY PROGRAM, IN A SANDBOX (cutbox-door.mjs). By AI agents, Wed Nov 11 2026. No macro, syntax, notation, axiom, sorry.
-/
import Derived.Test.YtnfbjfbndnmhmaaDoorRows
import GoSem.ClaimSeven
namespace Go.Proofs.YtnfbjfbndnmhmaaDoor
namespace Rows

/-- THE TIED CARD OF 'ledgerlaw02.FieldPows'. -/
def fieldPowsCard : Claim7 := { stood := { row := fieldPowsRow, standIns := [], harness := (true, "b2e7db00d49c7c546cc36c11bbb0a4357a08ba1313e715b9c89bbdb17ae9bb2d"), looks := false }, kinds := [], alts := [], laidByText := true, laidKinds := [.data, .data], laidTests := true, laidLooks := .later }
def FieldPowsCardSaid : Prop := Claim7.holds Tryd.pinned (.plain (OpenSpec.ofChange fieldPowsSpec)) fieldPowsCard

/-- THE TIED CARD OF 'ledgerlaw02.FieldProducts'. -/
def fieldProductsCard : Claim7 := { stood := { row := fieldProductsRow, standIns := [], harness := (true, "b2e7db00d49c7c546cc36c11bbb0a4357a08ba1313e715b9c89bbdb17ae9bb2d"), looks := false }, kinds := [], alts := [], laidByText := true, laidKinds := [.data, .data], laidTests := true, laidLooks := .later }
def FieldProductsCardSaid : Prop := Claim7.holds Tryd.pinned (.plain (OpenSpec.ofChange fieldProductsSpec)) fieldProductsCard

/-- THE TIED CARD OF 'ledgerlaw02.FieldInverts'. -/
def fieldInvertsCard : Claim7 := { stood := { row := fieldInvertsRow, standIns := [], harness := (true, "b2e7db00d49c7c546cc36c11bbb0a4357a08ba1313e715b9c89bbdb17ae9bb2d"), looks := false }, kinds := [], alts := [], laidByText := true, laidKinds := [.data], laidTests := true, laidLooks := .later }
def FieldInvertsCardSaid : Prop := Claim7.holds Tryd.pinned (.plain (OpenSpec.ofChange fieldInvertsSpec)) fieldInvertsCard

/-- THE TIED CARD OF 'ledgerlaw02.FieldRing'. -/
def fieldRingCard : Claim7 := { stood := { row := fieldRingRow, standIns := [], harness := (true, "b2e7db00d49c7c546cc36c11bbb0a4357a08ba1313e715b9c89bbdb17ae9bb2d"), looks := false }, kinds := [], alts := [], laidByText := true, laidKinds := [.data], laidTests := true, laidLooks := .later }
def FieldRingCardSaid : Prop := Claim7.holds Tryd.pinned (.plain (OpenSpec.ofChange fieldRingSpec)) fieldRingCard

/-- THE TIED CARD OF 'ledgerlaw02.FieldFermat'. -/
def fieldFermatCard : Claim7 := { stood := { row := fieldFermatRow, standIns := [], harness := (true, "b2e7db00d49c7c546cc36c11bbb0a4357a08ba1313e715b9c89bbdb17ae9bb2d"), looks := false }, kinds := [], alts := [], laidByText := true, laidKinds := [.data, .data, .data], laidTests := true, laidLooks := .later }
def FieldFermatCardSaid : Prop := Claim7.holds Tryd.pinned (.plain (OpenSpec.ofChange fieldFermatSpec)) fieldFermatCard

/-- THE TIED CARD OF 'ledgerlaw02.FieldSymbols'. -/
def fieldSymbolsCard : Claim7 := { stood := { row := fieldSymbolsRow, standIns := [], harness := (true, "b2e7db00d49c7c546cc36c11bbb0a4357a08ba1313e715b9c89bbdb17ae9bb2d"), looks := false }, kinds := [], alts := [], laidByText := true, laidKinds := [.data, .data], laidTests := true, laidLooks := .later }
def FieldSymbolsCardSaid : Prop := Claim7.holds Tryd.pinned (.plain (OpenSpec.ofChange fieldSymbolsSpec)) fieldSymbolsCard

/-- THE TIED CARD OF 'ledgerlaw02.FieldKeeps'. -/
def fieldKeepsCard : Claim7 := { stood := { row := fieldKeepsRow, standIns := [], harness := (true, "b2e7db00d49c7c546cc36c11bbb0a4357a08ba1313e715b9c89bbdb17ae9bb2d"), looks := false }, kinds := [], alts := [], laidByText := true, laidKinds := [.data, .data], laidTests := true, laidLooks := .later }
def FieldKeepsCardSaid : Prop := Claim7.holds Tryd.pinned (.plain (OpenSpec.ofChange fieldKeepsSpec)) fieldKeepsCard

/-- THE TIED CARD OF 'ledgerlaw02.FieldBatches'. -/
def fieldBatchesCard : Claim7 := { stood := { row := fieldBatchesRow, standIns := [], harness := (true, "b2e7db00d49c7c546cc36c11bbb0a4357a08ba1313e715b9c89bbdb17ae9bb2d"), looks := false }, kinds := [], alts := [], laidByText := true, laidKinds := [.data], laidTests := true, laidLooks := .later }
def FieldBatchesCardSaid : Prop := Claim7.holds Tryd.pinned (.plain (OpenSpec.ofChange fieldBatchesSpec)) fieldBatchesCard

/-- THE TIED CARD OF 'ledgerlaw02.FieldRatios'. -/
def fieldRatiosCard : Claim7 := { stood := { row := fieldRatiosRow, standIns := [], harness := (true, "b2e7db00d49c7c546cc36c11bbb0a4357a08ba1313e715b9c89bbdb17ae9bb2d"), looks := false }, kinds := [], alts := [], laidByText := true, laidKinds := [.data, .data, .data, .data, .data], laidTests := true, laidLooks := .later }
def FieldRatiosCardSaid : Prop := Claim7.holds Tryd.pinned (.plain (OpenSpec.ofChange fieldRatiosSpec)) fieldRatiosCard

/-- THE TIED CARD OF 'ledgerlaw02.FieldRoots'. -/
def fieldRootsCard : Claim7 := { stood := { row := fieldRootsRow, standIns := [], harness := (true, "b2e7db00d49c7c546cc36c11bbb0a4357a08ba1313e715b9c89bbdb17ae9bb2d"), looks := false }, kinds := [], alts := [], laidByText := true, laidKinds := [.data, .data, .data, .data], laidTests := true, laidLooks := .later }
def FieldRootsCardSaid : Prop := Claim7.holds Tryd.pinned (.plain (OpenSpec.ofChange fieldRootsSpec)) fieldRootsCard

/-- THE TIED CARD OF 'ledgerlaw02.FieldAll'. -/
def fieldAllCard : Claim7 := { stood := { row := fieldAllRow, standIns := [], harness := (true, "b2e7db00d49c7c546cc36c11bbb0a4357a08ba1313e715b9c89bbdb17ae9bb2d"), looks := false }, kinds := [], alts := [], laidByText := true, laidKinds := [.data, .data, .data, .data, .data, .data], laidTests := true, laidLooks := .later }
def FieldAllCardSaid : Prop := Claim7.holds Tryd.pinned (.plain (OpenSpec.ofChange fieldAllSpec)) fieldAllCard

/-- THE SECOND FORM's CARD OF 'ledgerlaw02.FieldPows'. -/
def fieldPowsUptoCard : Claim7 := { stood := { row := fieldPowsUptoRow, standIns := [], harness := (true, "b2e7db00d49c7c546cc36c11bbb0a4357a08ba1313e715b9c89bbdb17ae9bb2d"), looks := false }, kinds := [], alts := [], laidByText := true, laidKinds := [.data, .data], laidTests := true, laidLooks := .later }
def FieldPowsUptoCardSaid : Prop := Claim7.holds Tryd.pinned (.plain (OpenSpec.upto fieldPowsSpec)) fieldPowsUptoCard

/-- THE SECOND FORM's CARD OF 'ledgerlaw02.FieldProducts'. -/
def fieldProductsUptoCard : Claim7 := { stood := { row := fieldProductsUptoRow, standIns := [], harness := (true, "b2e7db00d49c7c546cc36c11bbb0a4357a08ba1313e715b9c89bbdb17ae9bb2d"), looks := false }, kinds := [], alts := [], laidByText := true, laidKinds := [.data, .data], laidTests := true, laidLooks := .later }
def FieldProductsUptoCardSaid : Prop := Claim7.holds Tryd.pinned (.plain (OpenSpec.upto fieldProductsSpec)) fieldProductsUptoCard

/-- THE SECOND FORM's CARD OF 'ledgerlaw02.FieldInverts'. -/
def fieldInvertsUptoCard : Claim7 := { stood := { row := fieldInvertsUptoRow, standIns := [], harness := (true, "b2e7db00d49c7c546cc36c11bbb0a4357a08ba1313e715b9c89bbdb17ae9bb2d"), looks := false }, kinds := [], alts := [], laidByText := true, laidKinds := [.data], laidTests := true, laidLooks := .later }
def FieldInvertsUptoCardSaid : Prop := Claim7.holds Tryd.pinned (.plain (OpenSpec.upto fieldInvertsSpec)) fieldInvertsUptoCard

/-- THE SECOND FORM's CARD OF 'ledgerlaw02.FieldRing'. -/
def fieldRingUptoCard : Claim7 := { stood := { row := fieldRingUptoRow, standIns := [], harness := (true, "b2e7db00d49c7c546cc36c11bbb0a4357a08ba1313e715b9c89bbdb17ae9bb2d"), looks := false }, kinds := [], alts := [], laidByText := true, laidKinds := [.data], laidTests := true, laidLooks := .later }
def FieldRingUptoCardSaid : Prop := Claim7.holds Tryd.pinned (.plain (OpenSpec.upto fieldRingSpec)) fieldRingUptoCard

/-- THE SECOND FORM's CARD OF 'ledgerlaw02.FieldFermat'. -/
def fieldFermatUptoCard : Claim7 := { stood := { row := fieldFermatUptoRow, standIns := [], harness := (true, "b2e7db00d49c7c546cc36c11bbb0a4357a08ba1313e715b9c89bbdb17ae9bb2d"), looks := false }, kinds := [], alts := [], laidByText := true, laidKinds := [.data, .data, .data], laidTests := true, laidLooks := .later }
def FieldFermatUptoCardSaid : Prop := Claim7.holds Tryd.pinned (.plain (OpenSpec.upto fieldFermatSpec)) fieldFermatUptoCard

/-- THE SECOND FORM's CARD OF 'ledgerlaw02.FieldSymbols'. -/
def fieldSymbolsUptoCard : Claim7 := { stood := { row := fieldSymbolsUptoRow, standIns := [], harness := (true, "b2e7db00d49c7c546cc36c11bbb0a4357a08ba1313e715b9c89bbdb17ae9bb2d"), looks := false }, kinds := [], alts := [], laidByText := true, laidKinds := [.data, .data], laidTests := true, laidLooks := .later }
def FieldSymbolsUptoCardSaid : Prop := Claim7.holds Tryd.pinned (.plain (OpenSpec.upto fieldSymbolsSpec)) fieldSymbolsUptoCard

/-- THE SECOND FORM's CARD OF 'ledgerlaw02.FieldKeeps'. -/
def fieldKeepsUptoCard : Claim7 := { stood := { row := fieldKeepsUptoRow, standIns := [], harness := (true, "b2e7db00d49c7c546cc36c11bbb0a4357a08ba1313e715b9c89bbdb17ae9bb2d"), looks := false }, kinds := [], alts := [], laidByText := true, laidKinds := [.data, .data], laidTests := true, laidLooks := .later }
def FieldKeepsUptoCardSaid : Prop := Claim7.holds Tryd.pinned (.plain (OpenSpec.upto fieldKeepsSpec)) fieldKeepsUptoCard

/-- THE SECOND FORM's CARD OF 'ledgerlaw02.FieldBatches'. -/
def fieldBatchesUptoCard : Claim7 := { stood := { row := fieldBatchesUptoRow, standIns := [], harness := (true, "b2e7db00d49c7c546cc36c11bbb0a4357a08ba1313e715b9c89bbdb17ae9bb2d"), looks := false }, kinds := [], alts := [], laidByText := true, laidKinds := [.data], laidTests := true, laidLooks := .later }
def FieldBatchesUptoCardSaid : Prop := Claim7.holds Tryd.pinned (.plain (OpenSpec.upto fieldBatchesSpec)) fieldBatchesUptoCard

/-- THE SECOND FORM's CARD OF 'ledgerlaw02.FieldRatios'. -/
def fieldRatiosUptoCard : Claim7 := { stood := { row := fieldRatiosUptoRow, standIns := [], harness := (true, "b2e7db00d49c7c546cc36c11bbb0a4357a08ba1313e715b9c89bbdb17ae9bb2d"), looks := false }, kinds := [], alts := [], laidByText := true, laidKinds := [.data, .data, .data, .data, .data], laidTests := true, laidLooks := .later }
def FieldRatiosUptoCardSaid : Prop := Claim7.holds Tryd.pinned (.plain (OpenSpec.upto fieldRatiosSpec)) fieldRatiosUptoCard

/-- THE SECOND FORM's CARD OF 'ledgerlaw02.FieldRoots'. -/
def fieldRootsUptoCard : Claim7 := { stood := { row := fieldRootsUptoRow, standIns := [], harness := (true, "b2e7db00d49c7c546cc36c11bbb0a4357a08ba1313e715b9c89bbdb17ae9bb2d"), looks := false }, kinds := [], alts := [], laidByText := true, laidKinds := [.data, .data, .data, .data], laidTests := true, laidLooks := .later }
def FieldRootsUptoCardSaid : Prop := Claim7.holds Tryd.pinned (.plain (OpenSpec.upto fieldRootsSpec)) fieldRootsUptoCard

/-- THE SECOND FORM's CARD OF 'ledgerlaw02.FieldAll'. -/
def fieldAllUptoCard : Claim7 := { stood := { row := fieldAllUptoRow, standIns := [], harness := (true, "b2e7db00d49c7c546cc36c11bbb0a4357a08ba1313e715b9c89bbdb17ae9bb2d"), looks := false }, kinds := [], alts := [], laidByText := true, laidKinds := [.data, .data, .data, .data, .data, .data], laidTests := true, laidLooks := .later }
def FieldAllUptoCardSaid : Prop := Claim7.holds Tryd.pinned (.plain (OpenSpec.upto fieldAllSpec)) fieldAllUptoCard
end Rows
end Go.Proofs.YtnfbjfbndnmhmaaDoor
