/-
  DERIVED. GIVEN WITH THE SEED: THE CARDS: each row of YtncmblldbnlbmaaDoorRows.lean that lists a variable, with what it lists TIED to the program's text (the seventh form; the later family's looks); each row that meets fmt, with fmt's text TOLD by the authors' own Lean function (tested against real Go, not proved from fmt's source: count such statements apart). THE CARD IS WHAT COUNTS. Prove the row's statement (the work); the ties are given (YtncmblldbnlbmaaDoorTie.lean); close each card by the builder's one call (the guide's Derived/Test/ToyasCard.lean, 'card_holds'). Laid BY PROGRAM, IN A SANDBOX (cutbox-door.mjs). By AI agents, Wed Nov 11 2026. No macro, syntax, notation, axiom, sorry.
-/
import Derived.Test.YtncmblldbnlbmaaDoorRows
import GoSem.ClaimSeven
namespace Go.Proofs.YtncmblldbnlbmaaDoor
namespace Rows

/-- THE TIED CARD OF 'ledgerlaw05.SignNobody'. -/
def signNobodyCard : Claim7 := { stood := { row := signNobodyRow, standIns := [], harness := (true, "1fe3f728198167beab0034e361fb8cfc139648fd9cbbc08ad0b54d972a545ab0"), looks := false }, kinds := [], alts := [], laidByText := true, laidKinds := [.data, .data, .data, .data, .wider, .data, .data, .data, .data, .data, .data, .data, .widerDeep, .widerDeep], laidTests := true, laidLooks := .later }
def SignNobodyCardSaid : Prop := Claim7.holds Tryd.pinned (.plain (OpenSpec.ofChange signNobodySpec)) signNobodyCard

/-- THE TIED CARD OF 'ledgerlaw05.SignStrict'. -/
def signStrictCard : Claim7 := { stood := { row := signStrictRow, standIns := [], harness := (true, "1fe3f728198167beab0034e361fb8cfc139648fd9cbbc08ad0b54d972a545ab0"), looks := false }, kinds := [], alts := [], laidByText := true, laidKinds := [.data, .data, .data, .data, .wider, .data, .data, .data, .data, .data, .data, .data, .widerDeep, .widerDeep], laidTests := true, laidLooks := .later }
def SignStrictCardSaid : Prop := Claim7.holds Tryd.pinned (.plain (OpenSpec.ofChange signStrictSpec)) signStrictCard

/-- THE SECOND FORM's CARD OF 'ledgerlaw05.SignNobody'. -/
def signNobodyUptoCard : Claim7 := { stood := { row := signNobodyUptoRow, standIns := [], harness := (true, "1fe3f728198167beab0034e361fb8cfc139648fd9cbbc08ad0b54d972a545ab0"), looks := false }, kinds := [], alts := [], laidByText := true, laidKinds := [.data, .data, .data, .data, .wider, .data, .data, .data, .data, .data, .data, .data, .widerDeep, .widerDeep], laidTests := true, laidLooks := .later }
def SignNobodyUptoCardSaid : Prop := Claim7.holds Tryd.pinned (.plain (OpenSpec.upto signNobodySpec)) signNobodyUptoCard

/-- THE SECOND FORM's CARD OF 'ledgerlaw05.SignStrict'. -/
def signStrictUptoCard : Claim7 := { stood := { row := signStrictUptoRow, standIns := [], harness := (true, "1fe3f728198167beab0034e361fb8cfc139648fd9cbbc08ad0b54d972a545ab0"), looks := false }, kinds := [], alts := [], laidByText := true, laidKinds := [.data, .data, .data, .data, .wider, .data, .data, .data, .data, .data, .data, .data, .widerDeep, .widerDeep], laidTests := true, laidLooks := .later }
def SignStrictUptoCardSaid : Prop := Claim7.holds Tryd.pinned (.plain (OpenSpec.upto signStrictSpec)) signStrictUptoCard
end Rows
end Go.Proofs.YtncmblldbnlbmaaDoor
