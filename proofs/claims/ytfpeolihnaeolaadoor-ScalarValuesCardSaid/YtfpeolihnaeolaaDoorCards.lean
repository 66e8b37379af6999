/-
  DERIVED. GIVEN WITH THE SEED: THE CARDS: each row of YtfpeolihnaeolaaDoorRows.lean that lists a variable, with what it lists TIED to the program's text (the seventh form; the later family's looks); each row that meets fmt, with fmt's text TOLD by the authors' own Lean function (tested against real Go, not proved from fmt's source: count such statements apart). THE CARD IS WHAT COUNTS. Prove the row's statement (the work); the ties are given (YtfpeolihnaeolaaDoorTie.lean); close each card by the builder's one call (the guide's Derived/Test/ToyasCard.lean, 'card_holds'). Laid BY PROGRAM, IN A SANDBOX (cutbox-door.mjs). By AI agents, Wed Nov 11 2026. No macro, syntax, notation, axiom, sorry.
-/
import Derived.Test.YtfpeolihnaeolaaDoorRows
import GoSem.ClaimSeven
namespace Go.Proofs.YtfpeolihnaeolaaDoor
namespace Rows

/-- THE TIED CARD OF 'ledgerlaw03.ScalarValues'. -/
def scalarValuesCard : Claim7 := { stood := { row := scalarValuesRow, standIns := [], harness := (true, "6ed7826b6e4df2d6c1523f78e136c6b481c5382c22bafc299b0fa00192b8c9ea"), looks := false }, kinds := [], alts := [], laidByText := true, laidKinds := [.data, .wider], laidTests := true, laidLooks := .later }
def ScalarValuesCardSaid : Prop := Claim7.holds Tryd.pinned (.plain (OpenSpec.ofChange scalarValuesSpec)) scalarValuesCard

/-- THE TIED CARD OF 'ledgerlaw03.ScalarReduces'. -/
def scalarReducesCard : Claim7 := { stood := { row := scalarReducesRow, standIns := [], harness := (true, "6ed7826b6e4df2d6c1523f78e136c6b481c5382c22bafc299b0fa00192b8c9ea"), looks := false }, kinds := [], alts := [], laidByText := true, laidKinds := [.data, .wider], laidTests := true, laidLooks := .later }
def ScalarReducesCardSaid : Prop := Claim7.holds Tryd.pinned (.plain (OpenSpec.ofChange scalarReducesSpec)) scalarReducesCard

/-- THE TIED CARD OF 'ledgerlaw03.ScalarKeeps'. -/
def scalarKeepsCard : Claim7 := { stood := { row := scalarKeepsRow, standIns := [], harness := (true, "6ed7826b6e4df2d6c1523f78e136c6b481c5382c22bafc299b0fa00192b8c9ea"), looks := false }, kinds := [], alts := [], laidByText := true, laidKinds := [.data, .wider], laidTests := true, laidLooks := .later }
def ScalarKeepsCardSaid : Prop := Claim7.holds Tryd.pinned (.plain (OpenSpec.ofChange scalarKeepsSpec)) scalarKeepsCard

/-- THE TIED CARD OF 'ledgerlaw03.ScalarFermat'. -/
def scalarFermatCard : Claim7 := { stood := { row := scalarFermatRow, standIns := [], harness := (true, "6ed7826b6e4df2d6c1523f78e136c6b481c5382c22bafc299b0fa00192b8c9ea"), looks := false }, kinds := [], alts := [], laidByText := true, laidKinds := [.wider, .data], laidTests := true, laidLooks := .later }
def ScalarFermatCardSaid : Prop := Claim7.holds Tryd.pinned (.plain (OpenSpec.ofChange scalarFermatSpec)) scalarFermatCard

/-- THE TIED CARD OF 'ledgerlaw03.ScalarSplits'. -/
def scalarSplitsCard : Claim7 := { stood := { row := scalarSplitsRow, standIns := [], harness := (true, "6ed7826b6e4df2d6c1523f78e136c6b481c5382c22bafc299b0fa00192b8c9ea"), looks := false }, kinds := [], alts := [], laidByText := true, laidKinds := [.wider], laidTests := true, laidLooks := .later }
def ScalarSplitsCardSaid : Prop := Claim7.holds Tryd.pinned (.plain (OpenSpec.ofChange scalarSplitsSpec)) scalarSplitsCard

/-- THE TIED CARD OF 'ledgerlaw03.ScalarCanon'. -/
def scalarCanonCard : Claim7 := { stood := { row := scalarCanonRow, standIns := [], harness := (true, "6ed7826b6e4df2d6c1523f78e136c6b481c5382c22bafc299b0fa00192b8c9ea"), looks := false }, kinds := [], alts := [], laidByText := true, laidKinds := [.wider, .data], laidTests := true, laidLooks := .later }
def ScalarCanonCardSaid : Prop := Claim7.holds Tryd.pinned (.plain (OpenSpec.ofChange scalarCanonSpec)) scalarCanonCard

/-- THE TIED CARD OF 'ledgerlaw03.ScalarMultiplies'. -/
def scalarMultipliesCard : Claim7 := { stood := { row := scalarMultipliesRow, standIns := [], harness := (true, "6ed7826b6e4df2d6c1523f78e136c6b481c5382c22bafc299b0fa00192b8c9ea"), looks := false }, kinds := [], alts := [], laidByText := true, laidKinds := [.data, .wider], laidTests := true, laidLooks := .later }
def ScalarMultipliesCardSaid : Prop := Claim7.holds Tryd.pinned (.plain (OpenSpec.ofChange scalarMultipliesSpec)) scalarMultipliesCard

/-- THE TIED CARD OF 'ledgerlaw03.ScalarRing'. -/
def scalarRingCard : Claim7 := { stood := { row := scalarRingRow, standIns := [], harness := (true, "6ed7826b6e4df2d6c1523f78e136c6b481c5382c22bafc299b0fa00192b8c9ea"), looks := false }, kinds := [], alts := [], laidByText := true, laidKinds := [.wider], laidTests := true, laidLooks := .later }
def ScalarRingCardSaid : Prop := Claim7.holds Tryd.pinned (.plain (OpenSpec.ofChange scalarRingSpec)) scalarRingCard

/-- THE TIED CARD OF 'ledgerlaw03.ScalarInverts'. -/
def scalarInvertsCard : Claim7 := { stood := { row := scalarInvertsRow, standIns := [], harness := (true, "6ed7826b6e4df2d6c1523f78e136c6b481c5382c22bafc299b0fa00192b8c9ea"), looks := false }, kinds := [], alts := [], laidByText := true, laidKinds := [.wider, .data], laidTests := true, laidLooks := .later }
def ScalarInvertsCardSaid : Prop := Claim7.holds Tryd.pinned (.plain (OpenSpec.ofChange scalarInvertsSpec)) scalarInvertsCard

/-- THE TIED CARD OF 'ledgerlaw03.ScalarLinear'. -/
def scalarLinearCard : Claim7 := { stood := { row := scalarLinearRow, standIns := [], harness := (true, "6ed7826b6e4df2d6c1523f78e136c6b481c5382c22bafc299b0fa00192b8c9ea"), looks := false }, kinds := [], alts := [], laidByText := true, laidKinds := [.wider], laidTests := true, laidLooks := .later }
def ScalarLinearCardSaid : Prop := Claim7.holds Tryd.pinned (.plain (OpenSpec.ofChange scalarLinearSpec)) scalarLinearCard

/-- THE TIED CARD OF 'ledgerlaw03.ScalarWorth'. -/
def scalarWorthCard : Claim7 := { stood := { row := scalarWorthRow, standIns := [], harness := (true, "6ed7826b6e4df2d6c1523f78e136c6b481c5382c22bafc299b0fa00192b8c9ea"), looks := false }, kinds := [], alts := [], laidByText := true, laidKinds := [.wider], laidTests := true, laidLooks := .later }
def ScalarWorthCardSaid : Prop := Claim7.holds Tryd.pinned (.plain (OpenSpec.ofChange scalarWorthSpec)) scalarWorthCard

/-- THE SECOND FORM's CARD OF 'ledgerlaw03.ScalarValues'. -/
def scalarValuesUptoCard : Claim7 := { stood := { row := scalarValuesUptoRow, standIns := [], harness := (true, "6ed7826b6e4df2d6c1523f78e136c6b481c5382c22bafc299b0fa00192b8c9ea"), looks := false }, kinds := [], alts := [], laidByText := true, laidKinds := [.data, .wider], laidTests := true, laidLooks := .later }
def ScalarValuesUptoCardSaid : Prop := Claim7.holds Tryd.pinned (.plain (OpenSpec.upto scalarValuesSpec)) scalarValuesUptoCard

/-- THE SECOND FORM's CARD OF 'ledgerlaw03.ScalarReduces'. -/
def scalarReducesUptoCard : Claim7 := { stood := { row := scalarReducesUptoRow, standIns := [], harness := (true, "6ed7826b6e4df2d6c1523f78e136c6b481c5382c22bafc299b0fa00192b8c9ea"), looks := false }, kinds := [], alts := [], laidByText := true, laidKinds := [.data, .wider], laidTests := true, laidLooks := .later }
def ScalarReducesUptoCardSaid : Prop := Claim7.holds Tryd.pinned (.plain (OpenSpec.upto scalarReducesSpec)) scalarReducesUptoCard

/-- THE SECOND FORM's CARD OF 'ledgerlaw03.ScalarKeeps'. -/
def scalarKeepsUptoCard : Claim7 := { stood := { row := scalarKeepsUptoRow, standIns := [], harness := (true, "6ed7826b6e4df2d6c1523f78e136c6b481c5382c22bafc299b0fa00192b8c9ea"), looks := false }, kinds := [], alts := [], laidByText := true, laidKinds := [.data, .wider], laidTests := true, laidLooks := .later }
def ScalarKeepsUptoCardSaid : Prop := Claim7.holds Tryd.pinned (.plain (OpenSpec.upto scalarKeepsSpec)) scalarKeepsUptoCard

/-- THE SECOND FORM's CARD OF 'ledgerlaw03.ScalarFermat'. -/
def scalarFermatUptoCard : Claim7 := { stood := { row := scalarFermatUptoRow, standIns := [], harness := (true, "6ed7826b6e4df2d6c1523f78e136c6b481c5382c22bafc299b0fa00192b8c9ea"), looks := false }, kinds := [], alts := [], laidByText := true, laidKinds := [.wider, .data], laidTests := true, laidLooks := .later }
def ScalarFermatUptoCardSaid : Prop := Claim7.holds Tryd.pinned (.plain (OpenSpec.upto scalarFermatSpec)) scalarFermatUptoCard

/-- THE SECOND FORM's CARD OF 'ledgerlaw03.ScalarSplits'. -/
def scalarSplitsUptoCard : Claim7 := { stood := { row := scalarSplitsUptoRow, standIns := [], harness := (true, "6ed7826b6e4df2d6c1523f78e136c6b481c5382c22bafc299b0fa00192b8c9ea"), looks := false }, kinds := [], alts := [], laidByText := true, laidKinds := [.wider], laidTests := true, laidLooks := .later }
def ScalarSplitsUptoCardSaid : Prop := Claim7.holds Tryd.pinned (.plain (OpenSpec.upto scalarSplitsSpec)) scalarSplitsUptoCard

/-- THE SECOND FORM's CARD OF 'ledgerlaw03.ScalarCanon'. -/
def scalarCanonUptoCard : Claim7 := { stood := { row := scalarCanonUptoRow, standIns := [], harness := (true, "6ed7826b6e4df2d6c1523f78e136c6b481c5382c22bafc299b0fa00192b8c9ea"), looks := false }, kinds := [], alts := [], laidByText := true, laidKinds := [.wider, .data], laidTests := true, laidLooks := .later }
def ScalarCanonUptoCardSaid : Prop := Claim7.holds Tryd.pinned (.plain (OpenSpec.upto scalarCanonSpec)) scalarCanonUptoCard

/-- THE SECOND FORM's CARD OF 'ledgerlaw03.ScalarMultiplies'. -/
def scalarMultipliesUptoCard : Claim7 := { stood := { row := scalarMultipliesUptoRow, standIns := [], harness := (true, "6ed7826b6e4df2d6c1523f78e136c6b481c5382c22bafc299b0fa00192b8c9ea"), looks := false }, kinds := [], alts := [], laidByText := true, laidKinds := [.data, .wider], laidTests := true, laidLooks := .later }
def ScalarMultipliesUptoCardSaid : Prop := Claim7.holds Tryd.pinned (.plain (OpenSpec.upto scalarMultipliesSpec)) scalarMultipliesUptoCard

/-- THE SECOND FORM's CARD OF 'ledgerlaw03.ScalarRing'. -/
def scalarRingUptoCard : Claim7 := { stood := { row := scalarRingUptoRow, standIns := [], harness := (true, "6ed7826b6e4df2d6c1523f78e136c6b481c5382c22bafc299b0fa00192b8c9ea"), looks := false }, kinds := [], alts := [], laidByText := true, laidKinds := [.wider], laidTests := true, laidLooks := .later }
def ScalarRingUptoCardSaid : Prop := Claim7.holds Tryd.pinned (.plain (OpenSpec.upto scalarRingSpec)) scalarRingUptoCard

/-- THE SECOND FORM's CARD OF 'ledgerlaw03.ScalarInverts'. -/
def scalarInvertsUptoCard : Claim7 := { stood := { row := scalarInvertsUptoRow, standIns := [], harness := (true, "6ed7826b6e4df2d6c1523f78e136c6b481c5382c22bafc299b0fa00192b8c9ea"), looks := false }, kinds := [], alts := [], laidByText := true, laidKinds := [.wider, .data], laidTests := true, laidLooks := .later }
def ScalarInvertsUptoCardSaid : Prop := Claim7.holds Tryd.pinned (.plain (OpenSpec.upto scalarInvertsSpec)) scalarInvertsUptoCard

/-- THE SECOND FORM's CARD OF 'ledgerlaw03.ScalarLinear'. -/
def scalarLinearUptoCard : Claim7 := { stood := { row := scalarLinearUptoRow, standIns := [], harness := (true, "6ed7826b6e4df2d6c1523f78e136c6b481c5382c22bafc299b0fa00192b8c9ea"), looks := false }, kinds := [], alts := [], laidByText := true, laidKinds := [.wider], laidTests := true, laidLooks := .later }
def ScalarLinearUptoCardSaid : Prop := Claim7.holds Tryd.pinned (.plain (OpenSpec.upto scalarLinearSpec)) scalarLinearUptoCard

/-- THE SECOND FORM's CARD OF 'ledgerlaw03.ScalarWorth'. -/
def scalarWorthUptoCard : Claim7 := { stood := { row := scalarWorthUptoRow, standIns := [], harness := (true, "6ed7826b6e4df2d6c1523f78e136c6b481c5382c22bafc299b0fa00192b8c9ea"), looks := false }, kinds := [], alts := [], laidByText := true, laidKinds := [.wider], laidTests := true, laidLooks := .later }
def ScalarWorthUptoCardSaid : Prop := Claim7.holds Tryd.pinned (.plain (OpenSpec.upto scalarWorthSpec)) scalarWorthUptoCard
end Rows
end Go.Proofs.YtfpeolihnaeolaaDoor
