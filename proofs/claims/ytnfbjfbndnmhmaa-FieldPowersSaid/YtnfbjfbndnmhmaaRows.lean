/-
  No cell of these rows narrows 'for every input' (looked for: loops, veiled, ifaces, maps, wideKeys, modest, calm, conditions, laid).
  DERIVED. THE GIVEN ROWS OF THIS SEAT. 3 by the template 'for every input the law returns true; each argument reads behind the call as it read before'; 0 by the template 'total and deterministic' (their statements: YtnfbjfbndnmhmaaTotals.lean).
  GIVEN WITH THE SEED: the statements are not yours to turn. If you find one false, say at which input.
  Laid BY PROGRAM, IN A SANDBOX (cutbox-rows.mjs): the forced cells as the released guide's own fill.sh prints them over the translation 20d6c191dbb06347… (all of the seat's roots in one cut). By AI agents, Wed Nov 11 2026. No macro, syntax, notation, axiom, sorry.
-/
import Derived.Test.YtnfbjfbndnmhmaaChecked
import GoSem.Claim
import GoSem.ClaimJoined
import GoSem.ClaimMapViews
import Derived.JoinedTies
import Derived.KernelRfl
namespace Go.Proofs.Ytnfbjfbndnmhmaa
/- THE CELL 'sum', in the pinned program and in every row, IS THE sha256 OF THE DUMP (.gsa) THAT YtnfbjfbndnmhmaaProg.lean LOADS. Nothing in Lean hashes anything: it is a label: what it is worth is what the hold of that sum in a sandbox is worth. -/
noncomputable def Try.pinned : Pinned := { name := "ytnfbjfbndnmhmaa", sum := "20d6c191dbb0634783ea1e2d665cda029f51b281f68c4abdc1d343517f962665", checked := Try.checked }
namespace Rows
def none {H : Type} : Left H := { results := [], args := [] }

/-- 'ledgerlaw02.FieldCanon': WHATEVER THE INPUT: true; the input reads as it did. -/
def fieldCanonSpec : ChangeSpec := { name := "fieldCanon", fn := fun _ => fun
  | [d] => { results := [.lit (.bool true)], args := [d] }
  | _ => none }
def fieldCanonRow : OpenClaim := { program := "ytnfbjfbndnmhmaa", sum := "20d6c191dbb0634783ea1e2d665cda029f51b281f68c4abdc1d343517f962665", func := "ledger/ledgerlaw02.FieldCanon", spec := "fieldCanon", apart := false }
def FieldCanonSaid : Prop := fieldCanonRow.holds Try.pinned (OpenSpec.ofChange fieldCanonSpec)

/-- ITS FALSE NEIGHBOUR: 'it returns false'. Refute it at one input. -/
def fieldCanonWrong : ChangeSpec := { name := "fieldCanon", fn := fun _ => fun
  | [d] => { results := [.lit (.bool false)], args := [d] }
  | _ => none }
def FieldCanonWrongFalsely : Prop := fieldCanonRow.holds Try.pinned (OpenSpec.ofChange fieldCanonWrong)

/-- 'ledgerlaw02.FieldDigits': WHATEVER THE INPUT: true; the input reads as it did. -/
def fieldDigitsSpec : ChangeSpec := { name := "fieldDigits", fn := fun _ => fun
  | [d] => { results := [.lit (.bool true)], args := [d] }
  | _ => none }
def fieldDigitsRow : OpenClaim := { program := "ytnfbjfbndnmhmaa", sum := "20d6c191dbb0634783ea1e2d665cda029f51b281f68c4abdc1d343517f962665", func := "ledger/ledgerlaw02.FieldDigits", spec := "fieldDigits", inPlace := ["math/bits.Add64"], apart := false }
def FieldDigitsSaid : Prop := fieldDigitsRow.holds Try.pinned (OpenSpec.ofChange fieldDigitsSpec)

/-- ITS FALSE NEIGHBOUR: 'it returns false'. Refute it at one input. -/
def fieldDigitsWrong : ChangeSpec := { name := "fieldDigits", fn := fun _ => fun
  | [d] => { results := [.lit (.bool false)], args := [d] }
  | _ => none }
def FieldDigitsWrongFalsely : Prop := fieldDigitsRow.holds Try.pinned (OpenSpec.ofChange fieldDigitsWrong)

/-- 'ledgerlaw02.FieldPowers': WHATEVER THE INPUT: true; the input reads as it did. -/
def fieldPowersSpec : ChangeSpec := { name := "fieldPowers", fn := fun _ => fun
  | [d1, d2] => { results := [.lit (.bool true)], args := [d1, d2] }
  | _ => none }
def fieldPowersRow : OpenClaim := { program := "ytnfbjfbndnmhmaa", sum := "20d6c191dbb0634783ea1e2d665cda029f51b281f68c4abdc1d343517f962665", func := "ledger/ledgerlaw02.FieldPowers", spec := "fieldPowers", inPlace := ["math/bits.Add64"], apart := false }
def FieldPowersSaid : Prop := fieldPowersRow.holds Try.pinned (OpenSpec.ofChange fieldPowersSpec)

/-- ITS FALSE NEIGHBOUR: 'it returns false'. Refute it at one input. -/
def fieldPowersWrong : ChangeSpec := { name := "fieldPowers", fn := fun _ => fun
  | [d1, d2] => { results := [.lit (.bool false)], args := [d1, d2] }
  | _ => none }
def FieldPowersWrongFalsely : Prop := fieldPowersRow.holds Try.pinned (OpenSpec.ofChange fieldPowersWrong)

/- THE SECOND FORM. 'bulk': how many values and letters a reading holds, each counted each time it is reached (what is shared counts as often as it is met; a slice's spare places count too). A statement '..UptoSaid' is the law's where the arguments, and the package variables that the reading takes, are together of bulk at most 1048576: NARROWER than '..Said'. Prove '..Said' where nothing that the law and all that it calls make is longer than what came in: it says more and counts as full. Else prove '..UptoSaid'. A law counts once. -/
mutual
def uptoBulk {H : Type} : DataW H → Nat
  | .lit (.string bytes) => bytes.length + 1
  | .lit _ => 1
  | .nil => 1
  | .ptr d => uptoBulk d + 1
  | .slice elems spare => uptoBulkAll elems + uptoBulkAll spare + 1
  | .agg parts => uptoBulkAll parts + 1
  | .iface _ d => uptoBulk d + 1
  | .map entries => uptoBulkEntries entries + 1
  | .held _ => 1
def uptoBulkAll {H : Type} : List (DataW H) → Nat
  | [] => 0
  | d :: r => uptoBulk d + uptoBulkAll r
def uptoBulkEntries {H : Type} : List (Lit × DataW H) → Nat
  | [] => 0
  | x :: r => uptoBulkEntry x + uptoBulkEntries r
def uptoBulkEntry {H : Type} : Lit × DataW H → Nat
  | (.string bytes, d) => bytes.length + uptoBulk d + 1
  | (_, d) => uptoBulk d + 1
 end
def uptoSmall : (H : Type) → List (DataW H) → Bool := fun _ ds => decide (uptoBulkAll ds ≤ 1048576)
def OpenSpec.upto (s : _root_.Go.ChangeSpec) : _root_.Go.OpenSpec := { _root_.Go.OpenSpec.ofChange s with cond := some uptoSmall }

/-- 'ledgerlaw02.FieldCanon', WHERE WHAT IT READS IS OF BULK AT MOST 1048576: true; the input reads as it did. -/
def fieldCanonUptoRow : OpenClaim := { program := "ytnfbjfbndnmhmaa", sum := "20d6c191dbb0634783ea1e2d665cda029f51b281f68c4abdc1d343517f962665", func := "ledger/ledgerlaw02.FieldCanon", spec := "fieldCanon", apart := false, narrowed := true }
def FieldCanonUptoSaid : Prop := fieldCanonUptoRow.holds Try.pinned (OpenSpec.upto fieldCanonSpec)

/-- 'ledgerlaw02.FieldDigits', WHERE WHAT IT READS IS OF BULK AT MOST 1048576: true; the input reads as it did. -/
def fieldDigitsUptoRow : OpenClaim := { program := "ytnfbjfbndnmhmaa", sum := "20d6c191dbb0634783ea1e2d665cda029f51b281f68c4abdc1d343517f962665", func := "ledger/ledgerlaw02.FieldDigits", spec := "fieldDigits", inPlace := ["math/bits.Add64"], apart := false, narrowed := true }
def FieldDigitsUptoSaid : Prop := fieldDigitsUptoRow.holds Try.pinned (OpenSpec.upto fieldDigitsSpec)

/-- 'ledgerlaw02.FieldPowers', WHERE WHAT IT READS IS OF BULK AT MOST 1048576: true; the input reads as it did. -/
def fieldPowersUptoRow : OpenClaim := { program := "ytnfbjfbndnmhmaa", sum := "20d6c191dbb0634783ea1e2d665cda029f51b281f68c4abdc1d343517f962665", func := "ledger/ledgerlaw02.FieldPowers", spec := "fieldPowers", inPlace := ["math/bits.Add64"], apart := false, narrowed := true }
def FieldPowersUptoSaid : Prop := fieldPowersUptoRow.holds Try.pinned (OpenSpec.upto fieldPowersSpec)

end Rows
end Go.Proofs.Ytnfbjfbndnmhmaa
