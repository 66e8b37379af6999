/-
  No cell of these rows narrows 'for every input' (looked for: loops, veiled, ifaces, maps, wideKeys, modest, calm, conditions, laid).
  DERIVED. THE GIVEN ROWS OF THIS SEAT. 3 by the template 'for every input the law returns true; each argument reads behind the call as it read before'; 0 by the template 'total and deterministic' (their statements: YtfpeolihnaeolaaTotals.lean).
  GIVEN WITH THE SEED: the statements are not yours to turn. If you find one false, say at which input.
  Laid BY PROGRAM, IN A SANDBOX (cutbox-rows.mjs): the forced cells as the released guide's own fill.sh prints them over the translation b0445d5f035b634f… (all of the seat's roots in one cut). By AI agents, Wed Nov 11 2026. No macro, syntax, notation, axiom, sorry.
-/
import Derived.Test.YtfpeolihnaeolaaChecked
import GoSem.Claim
import GoSem.ClaimJoined
import GoSem.ClaimMapViews
import Derived.JoinedTies
import Derived.KernelRfl
namespace Go.Proofs.Ytfpeolihnaeolaa
/- THE CELL 'sum', in the pinned program and in every row, IS THE sha256 OF THE DUMP (.gsa) THAT YtfpeolihnaeolaaProg.lean LOADS. Nothing in Lean hashes anything: it is a label: what it is worth is what the hold of that sum in a sandbox is worth. -/
noncomputable def Try.pinned : Pinned := { name := "ytfpeolihnaeolaa", sum := "b0445d5f035b634fb2600a0c6a0a4f0fa1e7af8037e0e60a068aecbe7a207d3b", checked := Try.checked }
namespace Rows
def none {H : Type} : Left H := { results := [], args := [] }

/-- 'ledgerlaw03.ScalarClamps': WHATEVER THE INPUT: true; the input reads as it did. -/
def scalarClampsSpec : ChangeSpec := { name := "scalarClamps", fn := fun _ => fun
  | [d] => { results := [.lit (.bool true)], args := [d] }
  | _ => none }
def scalarClampsRow : OpenClaim := { program := "ytfpeolihnaeolaa", sum := "b0445d5f035b634fb2600a0c6a0a4f0fa1e7af8037e0e60a068aecbe7a207d3b", func := "ledger/ledgerlaw03.ScalarClamps", spec := "scalarClamps", apart := false }
def ScalarClampsSaid : Prop := scalarClampsRow.holds Try.pinned (OpenSpec.ofChange scalarClampsSpec)

/-- ITS FALSE NEIGHBOUR: 'it returns false'. Refute it at one input. -/
def scalarClampsWrong : ChangeSpec := { name := "scalarClamps", fn := fun _ => fun
  | [d] => { results := [.lit (.bool false)], args := [d] }
  | _ => none }
def ScalarClampsWrongFalsely : Prop := scalarClampsRow.holds Try.pinned (OpenSpec.ofChange scalarClampsWrong)

/-- 'ledgerlaw03.ScalarDigits': WHATEVER THE INPUT: true; the input reads as it did. -/
def scalarDigitsSpec : ChangeSpec := { name := "scalarDigits", fn := fun _ => fun
  | [d1, d2] => { results := [.lit (.bool true)], args := [d1, d2] }
  | _ => none }
def scalarDigitsRow : OpenClaim := { program := "ytfpeolihnaeolaa", sum := "b0445d5f035b634fb2600a0c6a0a4f0fa1e7af8037e0e60a068aecbe7a207d3b", func := "ledger/ledgerlaw03.ScalarDigits", spec := "scalarDigits", inPlace := ["math/bits.Add64", "math/bits.Sub64"], apart := false }
def ScalarDigitsSaid : Prop := scalarDigitsRow.holds Try.pinned (OpenSpec.ofChange scalarDigitsSpec)

/-- ITS FALSE NEIGHBOUR: 'it returns false'. Refute it at one input. -/
def scalarDigitsWrong : ChangeSpec := { name := "scalarDigits", fn := fun _ => fun
  | [d1, d2] => { results := [.lit (.bool false)], args := [d1, d2] }
  | _ => none }
def ScalarDigitsWrongFalsely : Prop := scalarDigitsRow.holds Try.pinned (OpenSpec.ofChange scalarDigitsWrong)

/-- 'ledgerlaw03.ScalarForm': WHATEVER THE INPUT: true; the input reads as it did. -/
def scalarFormSpec : ChangeSpec := { name := "scalarForm", fn := fun _ => fun
  | [d1, d2] => { results := [.lit (.bool true)], args := [d1, d2] }
  | _ => none }
def scalarFormRow : OpenClaim := { program := "ytfpeolihnaeolaa", sum := "b0445d5f035b634fb2600a0c6a0a4f0fa1e7af8037e0e60a068aecbe7a207d3b", func := "ledger/ledgerlaw03.ScalarForm", spec := "scalarForm", inPlace := ["math/bits.Add64", "math/bits.Sub64"], apart := false }
def ScalarFormSaid : Prop := scalarFormRow.holds Try.pinned (OpenSpec.ofChange scalarFormSpec)

/-- ITS FALSE NEIGHBOUR: 'it returns false'. Refute it at one input. -/
def scalarFormWrong : ChangeSpec := { name := "scalarForm", fn := fun _ => fun
  | [d1, d2] => { results := [.lit (.bool false)], args := [d1, d2] }
  | _ => none }
def ScalarFormWrongFalsely : Prop := scalarFormRow.holds Try.pinned (OpenSpec.ofChange scalarFormWrong)

/- THE SECOND FORM. 'bulk': how many values and letters a reading holds, each counted each time it is reached (what is shared counts as often as it is met; a slice's spare places count too). A statement '..UptoSaid' is the law's where the arguments, and the package variables that the reading takes, are together of bulk at most 1048576: NARROWER than '..Said'. Prove '..Said' where nothing that the law and all that it calls make is longer than what came in: it says more and counts as full. Else prove '..UptoSaid'. A law counts once. -/
mutual
def uptoBulk {H : Type} : DataW H → Nat
  | .lit (.string bytes) => bytes.length + 1
  | .lit _ => 1
  | .nil => 1
  | .ptr d => uptoBulk d + 1
  | .slice elems spare => uptoBulkAll elems + uptoBulkAll spare + 1
  | .agg parts => uptoBulkAll parts + 1
  | .iface _ d => uptoBulk d + 1
  | .map entries => uptoBulkEntries entries + 1
  | .held _ => 1
def uptoBulkAll {H : Type} : List (DataW H) → Nat
  | [] => 0
  | d :: r => uptoBulk d + uptoBulkAll r
def uptoBulkEntries {H : Type} : List (Lit × DataW H) → Nat
  | [] => 0
  | x :: r => uptoBulkEntry x + uptoBulkEntries r
def uptoBulkEntry {H : Type} : Lit × DataW H → Nat
  | (.string bytes, d) => bytes.length + uptoBulk d + 1
  | (_, d) => uptoBulk d + 1
 end
def uptoSmall : (H : Type) → List (DataW H) → Bool := fun _ ds => decide (uptoBulkAll ds ≤ 1048576)
def OpenSpec.upto (s : _root_.Go.ChangeSpec) : _root_.Go.OpenSpec := { _root_.Go.OpenSpec.ofChange s with cond := some uptoSmall }

/-- 'ledgerlaw03.ScalarClamps', WHERE WHAT IT READS IS OF BULK AT MOST 1048576: true; the input reads as it did. -/
def scalarClampsUptoRow : OpenClaim := { program := "ytfpeolihnaeolaa", sum := "b0445d5f035b634fb2600a0c6a0a4f0fa1e7af8037e0e60a068aecbe7a207d3b", func := "ledger/ledgerlaw03.ScalarClamps", spec := "scalarClamps", apart := false, narrowed := true }
def ScalarClampsUptoSaid : Prop := scalarClampsUptoRow.holds Try.pinned (OpenSpec.upto scalarClampsSpec)

/-- 'ledgerlaw03.ScalarDigits', WHERE WHAT IT READS IS OF BULK AT MOST 1048576: true; the input reads as it did. -/
def scalarDigitsUptoRow : OpenClaim := { program := "ytfpeolihnaeolaa", sum := "b0445d5f035b634fb2600a0c6a0a4f0fa1e7af8037e0e60a068aecbe7a207d3b", func := "ledger/ledgerlaw03.ScalarDigits", spec := "scalarDigits", inPlace := ["math/bits.Add64", "math/bits.Sub64"], apart := false, narrowed := true }
def ScalarDigitsUptoSaid : Prop := scalarDigitsUptoRow.holds Try.pinned (OpenSpec.upto scalarDigitsSpec)

/-- 'ledgerlaw03.ScalarForm', WHERE WHAT IT READS IS OF BULK AT MOST 1048576: true; the input reads as it did. -/
def scalarFormUptoRow : OpenClaim := { program := "ytfpeolihnaeolaa", sum := "b0445d5f035b634fb2600a0c6a0a4f0fa1e7af8037e0e60a068aecbe7a207d3b", func := "ledger/ledgerlaw03.ScalarForm", spec := "scalarForm", inPlace := ["math/bits.Add64", "math/bits.Sub64"], apart := false, narrowed := true }
def ScalarFormUptoSaid : Prop := scalarFormUptoRow.holds Try.pinned (OpenSpec.upto scalarFormSpec)

end Rows
end Go.Proofs.Ytfpeolihnaeolaa
