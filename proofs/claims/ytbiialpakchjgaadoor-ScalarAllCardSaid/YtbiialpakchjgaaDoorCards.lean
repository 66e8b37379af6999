/-
  DERIVED. GIVEN WITH THE SEED: THE CARDS: each row of YtbiialpakchjgaaDoorRows.lean that lists a variable, with what it lists TIED to the program's text (the seventh form; the later family's looks); each row that meets fmt, with fmt's text TOLD by the authors' own Lean function (tested against real Go, not proved from fmt's source: count such statements apart). THE CARD IS WHAT COUNTS. Prove the row's statement (the work); the ties are given (YtbiialpakchjgaaDoorTie.lean); close each card by the builder's one call (the guide's Derived/Test/ToyasCard.lean, 'card_holds'). Laid BY PROGRAM, IN A SANDBOX (cutbox-door.mjs). By AI agents, Wed Nov 11 2026. No macro, syntax, notation, axiom, sorry.
-/
import Derived.Test.YtbiialpakchjgaaDoorRows
import GoSem.ClaimSeven
namespace Go.Proofs.YtbiialpakchjgaaDoor
namespace Rows

/-- THE TIED CARD OF 'ledgerlaw03.ScalarAll'. -/
def scalarAllCard : Claim7 := { stood := { row := scalarAllRow, standIns := [], harness := (true, "c4ab5d82a81f9142971f090e02b7d29555130742137b7957fbe3908a01179ed9"), looks := false }, kinds := [], alts := [], laidByText := true, laidKinds := [.data, .wider, .data], laidTests := true, laidLooks := .later }
def ScalarAllCardSaid : Prop := Claim7.holds Tryd.pinned (.plain (OpenSpec.ofChange scalarAllSpec)) scalarAllCard

/-- THE SECOND FORM's CARD OF 'ledgerlaw03.ScalarAll'. -/
def scalarAllUptoCard : Claim7 := { stood := { row := scalarAllUptoRow, standIns := [], harness := (true, "c4ab5d82a81f9142971f090e02b7d29555130742137b7957fbe3908a01179ed9"), looks := false }, kinds := [], alts := [], laidByText := true, laidKinds := [.data, .wider, .data], laidTests := true, laidLooks := .later }
def ScalarAllUptoCardSaid : Prop := Claim7.holds Tryd.pinned (.plain (OpenSpec.upto scalarAllSpec)) scalarAllUptoCard
end Rows
end Go.Proofs.YtbiialpakchjgaaDoor
