/-
  NARROWER THAN 'FOR EVERY INPUT', by the rows' own cells (each row's printed sentence says how): ScalarAll: laid.
  DERIVED. THE GIVEN ROWS OF THIS SEAT. 1 by the template 'for every input the law returns true; each argument reads behind the call as it read before'; 0 by the template 'total and deterministic' (their statements: YtbiialpakchjgaaDoorTotals.lean).
  GIVEN WITH THE SEED: the statements are not yours to turn. If you find one false, say at which input.
  Laid BY PROGRAM, IN A SANDBOX (cutbox-rows.mjs): the forced cells as the released guide's own fill.sh prints them over the translation a4c72dc2f4aa5c5c… (all of the seat's roots in one cut). By AI agents, Wed Nov 11 2026. No macro, syntax, notation, axiom, sorry.
-/
import Derived.Test.YtbiialpakchjgaaDoorChecked
import GoSem.Claim
import GoSem.ClaimJoined
import GoSem.ClaimMapViews
import Derived.JoinedTies
import Derived.KernelRfl
namespace Go.Proofs.YtbiialpakchjgaaDoor
/- THE CELL 'sum', in the pinned program and in every row, IS THE sha256 OF THE DUMP (.gsa) THAT YtbiialpakchjgaaDoorProg.lean LOADS. Nothing in Lean hashes anything: it is a label: what it is worth is what the hold of that sum in a sandbox is worth. -/
noncomputable def Tryd.pinned : Pinned := { name := "ytbiialpakchjgaadoor", sum := "a4c72dc2f4aa5c5c995675ae5cddaf470c252eaab693de8854933fe5a2c91490", checked := Tryd.checked }
namespace Rows
def none {H : Type} : Left H := { results := [], args := [] }

/- WHAT THE LISTED PACKAGE-LEVEL VARIABLES READ AS WHEN THE CALL BEGINS. Each datum BY PROGRAM (the guide's laid-datum.mjs) off the statement by which the dump's own 'gosem.cut.vars' lays the variable. In a bare row this is a premise. The card (YtbiialpakchjgaaDoorCards.lean) ties it to the program's text. -/
def laid_ledger_ledgerref03_order {H : Type} : DataW H := .agg [.lit (.int .u8 237), .lit (.int .u8 211), .lit (.int .u8 245), .lit (.int .u8 92), .lit (.int .u8 26), .lit (.int .u8 99), .lit (.int .u8 18), .lit (.int .u8 88), .lit (.int .u8 214), .lit (.int .u8 156), .lit (.int .u8 247), .lit (.int .u8 162), .lit (.int .u8 222), .lit (.int .u8 249), .lit (.int .u8 222), .lit (.int .u8 20), .lit (.int .u8 0), .lit (.int .u8 0), .lit (.int .u8 0), .lit (.int .u8 0), .lit (.int .u8 0), .lit (.int .u8 0), .lit (.int .u8 0), .lit (.int .u8 0), .lit (.int .u8 0), .lit (.int .u8 0), .lit (.int .u8 0), .lit (.int .u8 0), .lit (.int .u8 0), .lit (.int .u8 0), .lit (.int .u8 0), .lit (.int .u8 16)]
def laid_ledger_scalar_multiples {H : Type} : DataW H := .agg [.agg [.lit (.int .u64 0), .lit (.int .u64 0), .lit (.int .u64 0), .lit (.int .u64 0), .lit (.int .u64 0)], .agg [.lit (.int .u64 6346243789798364141), .lit (.int .u64 1503914060200516822), .lit (.int .u64 0), .lit (.int .u64 1152921504606846976), .lit (.int .u64 0)], .agg [.lit (.int .u64 12692487579596728282), .lit (.int .u64 3007828120401033644), .lit (.int .u64 0), .lit (.int .u64 2305843009213693952), .lit (.int .u64 0)], .agg [.lit (.int .u64 591987295685540807), .lit (.int .u64 4511742180601550467), .lit (.int .u64 0), .lit (.int .u64 3458764513820540928), .lit (.int .u64 0)], .agg [.lit (.int .u64 6938231085483904948), .lit (.int .u64 6015656240802067289), .lit (.int .u64 0), .lit (.int .u64 4611686018427387904), .lit (.int .u64 0)], .agg [.lit (.int .u64 13284474875282269089), .lit (.int .u64 7519570301002584111), .lit (.int .u64 0), .lit (.int .u64 5764607523034234880), .lit (.int .u64 0)], .agg [.lit (.int .u64 1183974591371081614), .lit (.int .u64 9023484361203100934), .lit (.int .u64 0), .lit (.int .u64 6917529027641081856), .lit (.int .u64 0)], .agg [.lit (.int .u64 7530218381169445755), .lit (.int .u64 10527398421403617756), .lit (.int .u64 0), .lit (.int .u64 8070450532247928832), .lit (.int .u64 0)], .agg [.lit (.int .u64 13876462170967809896), .lit (.int .u64 12031312481604134578), .lit (.int .u64 0), .lit (.int .u64 9223372036854775808), .lit (.int .u64 0)], .agg [.lit (.int .u64 1775961887056622421), .lit (.int .u64 13535226541804651401), .lit (.int .u64 0), .lit (.int .u64 10376293541461622784), .lit (.int .u64 0)], .agg [.lit (.int .u64 8122205676854986562), .lit (.int .u64 15039140602005168223), .lit (.int .u64 0), .lit (.int .u64 11529215046068469760), .lit (.int .u64 0)], .agg [.lit (.int .u64 14468449466653350703), .lit (.int .u64 16543054662205685045), .lit (.int .u64 0), .lit (.int .u64 12682136550675316736), .lit (.int .u64 0)], .agg [.lit (.int .u64 2367949182742163228), .lit (.int .u64 18046968722406201868), .lit (.int .u64 0), .lit (.int .u64 13835058055282163712), .lit (.int .u64 0)], .agg [.lit (.int .u64 8714192972540527369), .lit (.int .u64 1104138708897167074), .lit (.int .u64 1), .lit (.int .u64 14987979559889010688), .lit (.int .u64 0)], .agg [.lit (.int .u64 15060436762338891510), .lit (.int .u64 2608052769097683896), .lit (.int .u64 1), .lit (.int .u64 16140901064495857664), .lit (.int .u64 0)], .agg [.lit (.int .u64 2959936478427704035), .lit (.int .u64 4111966829298200719), .lit (.int .u64 1), .lit (.int .u64 17293822569102704640), .lit (.int .u64 0)], .agg [.lit (.int .u64 9306180268226068176), .lit (.int .u64 5615880889498717541), .lit (.int .u64 1), .lit (.int .u64 0), .lit (.int .u64 1)]]
def laid_ledger_scalar_order {H : Type} : DataW H := .agg [.lit (.int .u8 237), .lit (.int .u8 211), .lit (.int .u8 245), .lit (.int .u8 92), .lit (.int .u8 26), .lit (.int .u8 99), .lit (.int .u8 18), .lit (.int .u8 88), .lit (.int .u8 214), .lit (.int .u8 156), .lit (.int .u8 247), .lit (.int .u8 162), .lit (.int .u8 222), .lit (.int .u8 249), .lit (.int .u8 222), .lit (.int .u8 20), .lit (.int .u8 0), .lit (.int .u8 0), .lit (.int .u8 0), .lit (.int .u8 0), .lit (.int .u8 0), .lit (.int .u8 0), .lit (.int .u8 0), .lit (.int .u8 0), .lit (.int .u8 0), .lit (.int .u8 0), .lit (.int .u8 0), .lit (.int .u8 0), .lit (.int .u8 0), .lit (.int .u8 0), .lit (.int .u8 0), .lit (.int .u8 16)]

/-- 'ledgerlaw03.ScalarAll': WHATEVER THE INPUT: true; the input reads as it did. -/
def scalarAllSpec : ChangeSpec := { name := "scalarAll", fn := fun _ => fun
  | [d] => { results := [.lit (.bool true)], args := [d] }
  | _ => none }
def scalarAllRow : OpenClaim := { program := "ytbiialpakchjgaadoor", sum := "a4c72dc2f4aa5c5c995675ae5cddaf470c252eaab693de8854933fe5a2c91490", func := "ledger/ledgerlaw03.ScalarAll", spec := "scalarAll", inPlace := ["math/bits.Sub64", "math/bits.Add64"], named := ["ledger/scalar.order", "ledger/ledgerref03.order", "ledger/scalar.multiples"], apart := false, laid := [("ledger/ledgerref03.order", laid_ledger_ledgerref03_order), ("ledger/scalar.multiples", laid_ledger_scalar_multiples), ("ledger/scalar.order", laid_ledger_scalar_order)] }
def ScalarAllSaid : Prop := scalarAllRow.holds Tryd.pinned (OpenSpec.ofChange scalarAllSpec)

/-- ITS FALSE NEIGHBOUR: 'it returns false'. Refute it at one input. -/
def scalarAllWrong : ChangeSpec := { name := "scalarAll", fn := fun _ => fun
  | [d] => { results := [.lit (.bool false)], args := [d] }
  | _ => none }
def ScalarAllWrongFalsely : Prop := scalarAllRow.holds Tryd.pinned (OpenSpec.ofChange scalarAllWrong)

/- THE SECOND FORM. 'bulk': how many values and letters a reading holds, each counted each time it is reached (what is shared counts as often as it is met; a slice's spare places count too). A statement '..UptoSaid' is the law's where the arguments, and the package variables that the reading takes, are together of bulk at most 1048576: NARROWER than '..Said'. Prove '..Said' where nothing that the law and all that it calls make is longer than what came in: it says more and counts as full. Else prove '..UptoSaid'. A law counts once. -/
mutual
def uptoBulk {H : Type} : DataW H → Nat
  | .lit (.string bytes) => bytes.length + 1
  | .lit _ => 1
  | .nil => 1
  | .ptr d => uptoBulk d + 1
  | .slice elems spare => uptoBulkAll elems + uptoBulkAll spare + 1
  | .agg parts => uptoBulkAll parts + 1
  | .iface _ d => uptoBulk d + 1
  | .map entries => uptoBulkEntries entries + 1
  | .held _ => 1
def uptoBulkAll {H : Type} : List (DataW H) → Nat
  | [] => 0
  | d :: r => uptoBulk d + uptoBulkAll r
def uptoBulkEntries {H : Type} : List (Lit × DataW H) → Nat
  | [] => 0
  | x :: r => uptoBulkEntry x + uptoBulkEntries r
def uptoBulkEntry {H : Type} : Lit × DataW H → Nat
  | (.string bytes, d) => bytes.length + uptoBulk d + 1
  | (_, d) => uptoBulk d + 1
 end
def uptoSmall : (H : Type) → List (DataW H) → Bool := fun _ ds => decide (uptoBulkAll ds ≤ 1048576)
def OpenSpec.upto (s : _root_.Go.ChangeSpec) : _root_.Go.OpenSpec := { _root_.Go.OpenSpec.ofChange s with cond := some uptoSmall }

/-- 'ledgerlaw03.ScalarAll', WHERE WHAT IT READS IS OF BULK AT MOST 1048576: true; the input reads as it did. -/
def scalarAllUptoRow : OpenClaim := { program := "ytbiialpakchjgaadoor", sum := "a4c72dc2f4aa5c5c995675ae5cddaf470c252eaab693de8854933fe5a2c91490", func := "ledger/ledgerlaw03.ScalarAll", spec := "scalarAll", inPlace := ["math/bits.Sub64", "math/bits.Add64"], named := ["ledger/scalar.order", "ledger/ledgerref03.order", "ledger/scalar.multiples"], apart := false, laid := [("ledger/ledgerref03.order", laid_ledger_ledgerref03_order), ("ledger/scalar.multiples", laid_ledger_scalar_multiples), ("ledger/scalar.order", laid_ledger_scalar_order)], narrowed := true }
def ScalarAllUptoSaid : Prop := scalarAllUptoRow.holds Tryd.pinned (OpenSpec.upto scalarAllSpec)

end Rows
end Go.Proofs.YtbiialpakchjgaaDoor
