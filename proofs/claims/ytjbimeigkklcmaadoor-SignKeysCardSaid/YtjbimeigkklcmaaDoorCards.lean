/-
  DERIVED. GIVEN WITH THE SEED: THE CARDS: each row of YtjbimeigkklcmaaDoorRows.lean that lists a variable, with what it lists TIED to the program's text (the seventh form; the later family's looks); each row that meets fmt, with fmt's text TOLD by the authors' own Lean function (tested against real Go, not proved from fmt's source: count such statements apart). THE CARD IS WHAT COUNTS. Prove the row's statement (the work); the ties are given (YtjbimeigkklcmaaDoorTie.lean); close each card by the builder's one call (the guide's Derived/Test/ToyasCard.lean, 'card_holds'). Laid BY PROGRAM, IN A SANDBOX (cutbox-door.mjs). By AI agents, Wed Nov 11 2026. No macro, syntax, notation, axiom, sorry.
-/
import Derived.Test.YtjbimeigkklcmaaDoorRows
import GoSem.ClaimSeven
namespace Go.Proofs.YtjbimeigkklcmaaDoor
namespace Rows

/-- THE TIED CARD OF 'ledgerlaw05.SignOthers'. -/
def signOthersCard : Claim7 := { stood := { row := signOthersRow, standIns := [], harness := (true, "26bcfd9fe1c3167af5b9c99ad676de06427f147c67ddadd785b1684f8641c4f4"), looks := false }, kinds := [], alts := [], laidByText := true, laidKinds := [.data, .data, .data, .data, .wider, .data, .data, .data, .data, .data, .data, .data, .widerDeep, .widerDeep], laidTests := true, laidLooks := .later }
def SignOthersCardSaid : Prop := Claim7.holds Tryd.pinned (.plain (OpenSpec.ofChange signOthersSpec)) signOthersCard

/-- THE TIED CARD OF 'ledgerlaw05.SignKeys'. -/
def signKeysCard : Claim7 := { stood := { row := signKeysRow, standIns := [], harness := (true, "26bcfd9fe1c3167af5b9c99ad676de06427f147c67ddadd785b1684f8641c4f4"), looks := false }, kinds := [], alts := [], laidByText := true, laidKinds := [.data, .data, .data, .data, .wider, .data, .data, .data, .data, .data, .data, .data, .widerDeep, .widerDeep], laidTests := true, laidLooks := .later }
def SignKeysCardSaid : Prop := Claim7.holds Tryd.pinned (.plain (OpenSpec.ofChange signKeysSpec)) signKeysCard

/-- THE TIED CARD OF 'ledgerlaw05.SignEquation'. -/
def signEquationCard : Claim7 := { stood := { row := signEquationRow, standIns := [], harness := (true, "26bcfd9fe1c3167af5b9c99ad676de06427f147c67ddadd785b1684f8641c4f4"), looks := false }, kinds := [], alts := [], laidByText := true, laidKinds := [.data, .data, .data, .data, .wider, .data, .data, .data, .data, .data, .data, .data, .widerDeep, .widerDeep], laidTests := true, laidLooks := .later }
def SignEquationCardSaid : Prop := Claim7.holds Tryd.pinned (.plain (OpenSpec.ofChange signEquationSpec)) signEquationCard

/-- THE SECOND FORM's CARD OF 'ledgerlaw05.SignOthers'. -/
def signOthersUptoCard : Claim7 := { stood := { row := signOthersUptoRow, standIns := [], harness := (true, "26bcfd9fe1c3167af5b9c99ad676de06427f147c67ddadd785b1684f8641c4f4"), looks := false }, kinds := [], alts := [], laidByText := true, laidKinds := [.data, .data, .data, .data, .wider, .data, .data, .data, .data, .data, .data, .data, .widerDeep, .widerDeep], laidTests := true, laidLooks := .later }
def SignOthersUptoCardSaid : Prop := Claim7.holds Tryd.pinned (.plain (OpenSpec.upto signOthersSpec)) signOthersUptoCard

/-- THE SECOND FORM's CARD OF 'ledgerlaw05.SignKeys'. -/
def signKeysUptoCard : Claim7 := { stood := { row := signKeysUptoRow, standIns := [], harness := (true, "26bcfd9fe1c3167af5b9c99ad676de06427f147c67ddadd785b1684f8641c4f4"), looks := false }, kinds := [], alts := [], laidByText := true, laidKinds := [.data, .data, .data, .data, .wider, .data, .data, .data, .data, .data, .data, .data, .widerDeep, .widerDeep], laidTests := true, laidLooks := .later }
def SignKeysUptoCardSaid : Prop := Claim7.holds Tryd.pinned (.plain (OpenSpec.upto signKeysSpec)) signKeysUptoCard

/-- THE SECOND FORM's CARD OF 'ledgerlaw05.SignEquation'. -/
def signEquationUptoCard : Claim7 := { stood := { row := signEquationUptoRow, standIns := [], harness := (true, "26bcfd9fe1c3167af5b9c99ad676de06427f147c67ddadd785b1684f8641c4f4"), looks := false }, kinds := [], alts := [], laidByText := true, laidKinds := [.data, .data, .data, .data, .wider, .data, .data, .data, .data, .data, .data, .data, .widerDeep, .widerDeep], laidTests := true, laidLooks := .later }
def SignEquationUptoCardSaid : Prop := Claim7.holds Tryd.pinned (.plain (OpenSpec.upto signEquationSpec)) signEquationUptoCard
end Rows
end Go.Proofs.YtjbimeigkklcmaaDoor
