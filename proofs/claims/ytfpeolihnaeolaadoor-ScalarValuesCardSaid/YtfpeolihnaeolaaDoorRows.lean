/-
  NARROWER THAN 'FOR EVERY INPUT', by the rows' own cells (each row's printed sentence says how): ScalarValues: laid · ScalarReduces: laid · ScalarKeeps: laid · ScalarFermat: laid · ScalarSplits: laid · ScalarCanon: laid · ScalarMultiplies: laid · ScalarRing: laid · ScalarInverts: laid · ScalarLinear: laid · ScalarWorth: laid.
  DERIVED. THE GIVEN ROWS OF THIS SEAT. 11 by the template 'for every input the law returns true; each argument reads behind the call as it read before'; 0 by the template 'total and deterministic' (their statements: YtfpeolihnaeolaaDoorTotals.lean).
  GIVEN WITH THE SEED: the statements are not yours to turn. If you find one false, say at which input.
  Laid BY PROGRAM, IN A SANDBOX (cutbox-rows.mjs): the forced cells as the released guide's own fill.sh prints them over the translation 1f0de1ae97f2263b… (all of the seat's roots in one cut). By AI agents, Wed Nov 11 2026. No macro, syntax, notation, axiom, sorry.
-/
import Derived.Test.YtfpeolihnaeolaaDoorChecked
import GoSem.Claim
import GoSem.ClaimJoined
import GoSem.ClaimMapViews
import Derived.JoinedTies
import Derived.KernelRfl
namespace Go.Proofs.YtfpeolihnaeolaaDoor
/- THE CELL 'sum', in the pinned program and in every row, IS THE sha256 OF THE DUMP (.gsa) THAT YtfpeolihnaeolaaDoorProg.lean LOADS. Nothing in Lean hashes anything: it is a label: what it is worth is what the hold of that sum in a sandbox is worth. -/
noncomputable def Tryd.pinned : Pinned := { name := "ytfpeolihnaeolaadoor", sum := "1f0de1ae97f2263b1917d4a9e9f75bc37b4cbe543aa7fba39037d89086c90226", checked := Tryd.checked }
namespace Rows
def none {H : Type} : Left H := { results := [], args := [] }

/- WHAT THE LISTED PACKAGE-LEVEL VARIABLES READ AS WHEN THE CALL BEGINS. Each datum BY PROGRAM (the guide's laid-datum.mjs) off the statement by which the dump's own 'gosem.cut.vars' lays the variable. In a bare row this is a premise. The card (YtfpeolihnaeolaaDoorCards.lean) ties it to the program's text. -/
def laid_ledger_ledgerref03_order {H : Type} : DataW H := .agg [.lit (.int .u8 237), .lit (.int .u8 211), .lit (.int .u8 245), .lit (.int .u8 92), .lit (.int .u8 26), .lit (.int .u8 99), .lit (.int .u8 18), .lit (.int .u8 88), .lit (.int .u8 214), .lit (.int .u8 156), .lit (.int .u8 247), .lit (.int .u8 162), .lit (.int .u8 222), .lit (.int .u8 249), .lit (.int .u8 222), .lit (.int .u8 20), .lit (.int .u8 0), .lit (.int .u8 0), .lit (.int .u8 0), .lit (.int .u8 0), .lit (.int .u8 0), .lit (.int .u8 0), .lit (.int .u8 0), .lit (.int .u8 0), .lit (.int .u8 0), .lit (.int .u8 0), .lit (.int .u8 0), .lit (.int .u8 0), .lit (.int .u8 0), .lit (.int .u8 0), .lit (.int .u8 0), .lit (.int .u8 16)]
def laid_ledger_scalar_multiples {H : Type} : DataW H := .agg [.agg [.lit (.int .u64 0), .lit (.int .u64 0), .lit (.int .u64 0), .lit (.int .u64 0), .lit (.int .u64 0)], .agg [.lit (.int .u64 6346243789798364141), .lit (.int .u64 1503914060200516822), .lit (.int .u64 0), .lit (.int .u64 1152921504606846976), .lit (.int .u64 0)], .agg [.lit (.int .u64 12692487579596728282), .lit (.int .u64 3007828120401033644), .lit (.int .u64 0), .lit (.int .u64 2305843009213693952), .lit (.int .u64 0)], .agg [.lit (.int .u64 591987295685540807), .lit (.int .u64 4511742180601550467), .lit (.int .u64 0), .lit (.int .u64 3458764513820540928), .lit (.int .u64 0)], .agg [.lit (.int .u64 6938231085483904948), .lit (.int .u64 6015656240802067289), .lit (.int .u64 0), .lit (.int .u64 4611686018427387904), .lit (.int .u64 0)], .agg [.lit (.int .u64 13284474875282269089), .lit (.int .u64 7519570301002584111), .lit (.int .u64 0), .lit (.int .u64 5764607523034234880), .lit (.int .u64 0)], .agg [.lit (.int .u64 1183974591371081614), .lit (.int .u64 9023484361203100934), .lit (.int .u64 0), .lit (.int .u64 6917529027641081856), .lit (.int .u64 0)], .agg [.lit (.int .u64 7530218381169445755), .lit (.int .u64 10527398421403617756), .lit (.int .u64 0), .lit (.int .u64 8070450532247928832), .lit (.int .u64 0)], .agg [.lit (.int .u64 13876462170967809896), .lit (.int .u64 12031312481604134578), .lit (.int .u64 0), .lit (.int .u64 9223372036854775808), .lit (.int .u64 0)], .agg [.lit (.int .u64 1775961887056622421), .lit (.int .u64 13535226541804651401), .lit (.int .u64 0), .lit (.int .u64 10376293541461622784), .lit (.int .u64 0)], .agg [.lit (.int .u64 8122205676854986562), .lit (.int .u64 15039140602005168223), .lit (.int .u64 0), .lit (.int .u64 11529215046068469760), .lit (.int .u64 0)], .agg [.lit (.int .u64 14468449466653350703), .lit (.int .u64 16543054662205685045), .lit (.int .u64 0), .lit (.int .u64 12682136550675316736), .lit (.int .u64 0)], .agg [.lit (.int .u64 2367949182742163228), .lit (.int .u64 18046968722406201868), .lit (.int .u64 0), .lit (.int .u64 13835058055282163712), .lit (.int .u64 0)], .agg [.lit (.int .u64 8714192972540527369), .lit (.int .u64 1104138708897167074), .lit (.int .u64 1), .lit (.int .u64 14987979559889010688), .lit (.int .u64 0)], .agg [.lit (.int .u64 15060436762338891510), .lit (.int .u64 2608052769097683896), .lit (.int .u64 1), .lit (.int .u64 16140901064495857664), .lit (.int .u64 0)], .agg [.lit (.int .u64 2959936478427704035), .lit (.int .u64 4111966829298200719), .lit (.int .u64 1), .lit (.int .u64 17293822569102704640), .lit (.int .u64 0)], .agg [.lit (.int .u64 9306180268226068176), .lit (.int .u64 5615880889498717541), .lit (.int .u64 1), .lit (.int .u64 0), .lit (.int .u64 1)]]
def laid_ledger_scalar_order {H : Type} : DataW H := .agg [.lit (.int .u8 237), .lit (.int .u8 211), .lit (.int .u8 245), .lit (.int .u8 92), .lit (.int .u8 26), .lit (.int .u8 99), .lit (.int .u8 18), .lit (.int .u8 88), .lit (.int .u8 214), .lit (.int .u8 156), .lit (.int .u8 247), .lit (.int .u8 162), .lit (.int .u8 222), .lit (.int .u8 249), .lit (.int .u8 222), .lit (.int .u8 20), .lit (.int .u8 0), .lit (.int .u8 0), .lit (.int .u8 0), .lit (.int .u8 0), .lit (.int .u8 0), .lit (.int .u8 0), .lit (.int .u8 0), .lit (.int .u8 0), .lit (.int .u8 0), .lit (.int .u8 0), .lit (.int .u8 0), .lit (.int .u8 0), .lit (.int .u8 0), .lit (.int .u8 0), .lit (.int .u8 0), .lit (.int .u8 16)]

/-- 'ledgerlaw03.ScalarValues': WHATEVER THE INPUT: true; the input reads as it did. -/
def scalarValuesSpec : ChangeSpec := { name := "scalarValues", fn := fun _ => fun
  | [d] => { results := [.lit (.bool true)], args := [d] }
  | _ => none }
def scalarValuesRow : OpenClaim := { program := "ytfpeolihnaeolaadoor", sum := "1f0de1ae97f2263b1917d4a9e9f75bc37b4cbe543aa7fba39037d89086c90226", func := "ledger/ledgerlaw03.ScalarValues", spec := "scalarValues", inPlace := ["math/bits.Add64", "math/bits.Sub64"], named := ["ledger/ledgerref03.order", "ledger/scalar.multiples"], apart := false, laid := [("ledger/ledgerref03.order", laid_ledger_ledgerref03_order), ("ledger/scalar.multiples", laid_ledger_scalar_multiples)] }
def ScalarValuesSaid : Prop := scalarValuesRow.holds Tryd.pinned (OpenSpec.ofChange scalarValuesSpec)

/-- ITS FALSE NEIGHBOUR: 'it returns false'. Refute it at one input. -/
def scalarValuesWrong : ChangeSpec := { name := "scalarValues", fn := fun _ => fun
  | [d] => { results := [.lit (.bool false)], args := [d] }
  | _ => none }
def ScalarValuesWrongFalsely : Prop := scalarValuesRow.holds Tryd.pinned (OpenSpec.ofChange scalarValuesWrong)

/-- 'ledgerlaw03.ScalarReduces': WHATEVER THE INPUT: true; the input reads as it did. -/
def scalarReducesSpec : ChangeSpec := { name := "scalarReduces", fn := fun _ => fun
  | [d] => { results := [.lit (.bool true)], args := [d] }
  | _ => none }
def scalarReducesRow : OpenClaim := { program := "ytfpeolihnaeolaadoor", sum := "1f0de1ae97f2263b1917d4a9e9f75bc37b4cbe543aa7fba39037d89086c90226", func := "ledger/ledgerlaw03.ScalarReduces", spec := "scalarReduces", inPlace := ["math/bits.Sub64", "math/bits.Add64"], named := ["ledger/scalar.multiples", "ledger/ledgerref03.order"], apart := false, laid := [("ledger/ledgerref03.order", laid_ledger_ledgerref03_order), ("ledger/scalar.multiples", laid_ledger_scalar_multiples)] }
def ScalarReducesSaid : Prop := scalarReducesRow.holds Tryd.pinned (OpenSpec.ofChange scalarReducesSpec)

/-- ITS FALSE NEIGHBOUR: 'it returns false'. Refute it at one input. -/
def scalarReducesWrong : ChangeSpec := { name := "scalarReduces", fn := fun _ => fun
  | [d] => { results := [.lit (.bool false)], args := [d] }
  | _ => none }
def ScalarReducesWrongFalsely : Prop := scalarReducesRow.holds Tryd.pinned (OpenSpec.ofChange scalarReducesWrong)

/-- 'ledgerlaw03.ScalarKeeps': WHATEVER THE INPUT: true; the input reads as it did. -/
def scalarKeepsSpec : ChangeSpec := { name := "scalarKeeps", fn := fun _ => fun
  | [d] => { results := [.lit (.bool true)], args := [d] }
  | _ => none }
def scalarKeepsRow : OpenClaim := { program := "ytfpeolihnaeolaadoor", sum := "1f0de1ae97f2263b1917d4a9e9f75bc37b4cbe543aa7fba39037d89086c90226", func := "ledger/ledgerlaw03.ScalarKeeps", spec := "scalarKeeps", inPlace := ["math/bits.Add64", "math/bits.Sub64"], named := ["ledger/ledgerref03.order", "ledger/scalar.multiples"], apart := false, laid := [("ledger/ledgerref03.order", laid_ledger_ledgerref03_order), ("ledger/scalar.multiples", laid_ledger_scalar_multiples)] }
def ScalarKeepsSaid : Prop := scalarKeepsRow.holds Tryd.pinned (OpenSpec.ofChange scalarKeepsSpec)

/-- ITS FALSE NEIGHBOUR: 'it returns false'. Refute it at one input. -/
def scalarKeepsWrong : ChangeSpec := { name := "scalarKeeps", fn := fun _ => fun
  | [d] => { results := [.lit (.bool false)], args := [d] }
  | _ => none }
def ScalarKeepsWrongFalsely : Prop := scalarKeepsRow.holds Tryd.pinned (OpenSpec.ofChange scalarKeepsWrong)

/-- 'ledgerlaw03.ScalarFermat': WHATEVER THE INPUT: true; the input reads as it did. -/
def scalarFermatSpec : ChangeSpec := { name := "scalarFermat", fn := fun _ => fun
  | [d] => { results := [.lit (.bool true)], args := [d] }
  | _ => none }
def scalarFermatRow : OpenClaim := { program := "ytfpeolihnaeolaadoor", sum := "1f0de1ae97f2263b1917d4a9e9f75bc37b4cbe543aa7fba39037d89086c90226", func := "ledger/ledgerlaw03.ScalarFermat", spec := "scalarFermat", inPlace := ["math/bits.Add64", "math/bits.Sub64"], named := ["ledger/scalar.order", "ledger/scalar.multiples"], apart := false, laid := [("ledger/scalar.multiples", laid_ledger_scalar_multiples), ("ledger/scalar.order", laid_ledger_scalar_order)] }
def ScalarFermatSaid : Prop := scalarFermatRow.holds Tryd.pinned (OpenSpec.ofChange scalarFermatSpec)

/-- ITS FALSE NEIGHBOUR: 'it returns false'. Refute it at one input. -/
def scalarFermatWrong : ChangeSpec := { name := "scalarFermat", fn := fun _ => fun
  | [d] => { results := [.lit (.bool false)], args := [d] }
  | _ => none }
def ScalarFermatWrongFalsely : Prop := scalarFermatRow.holds Tryd.pinned (OpenSpec.ofChange scalarFermatWrong)

/-- 'ledgerlaw03.ScalarSplits': WHATEVER THE INPUT: true; the input reads as it did. -/
def scalarSplitsSpec : ChangeSpec := { name := "scalarSplits", fn := fun _ => fun
  | [d] => { results := [.lit (.bool true)], args := [d] }
  | _ => none }
def scalarSplitsRow : OpenClaim := { program := "ytfpeolihnaeolaadoor", sum := "1f0de1ae97f2263b1917d4a9e9f75bc37b4cbe543aa7fba39037d89086c90226", func := "ledger/ledgerlaw03.ScalarSplits", spec := "scalarSplits", inPlace := ["math/bits.Sub64", "math/bits.Add64"], named := ["ledger/scalar.multiples"], apart := false, laid := [("ledger/scalar.multiples", laid_ledger_scalar_multiples)] }
def ScalarSplitsSaid : Prop := scalarSplitsRow.holds Tryd.pinned (OpenSpec.ofChange scalarSplitsSpec)

/-- ITS FALSE NEIGHBOUR: 'it returns false'. Refute it at one input. -/
def scalarSplitsWrong : ChangeSpec := { name := "scalarSplits", fn := fun _ => fun
  | [d] => { results := [.lit (.bool false)], args := [d] }
  | _ => none }
def ScalarSplitsWrongFalsely : Prop := scalarSplitsRow.holds Tryd.pinned (OpenSpec.ofChange scalarSplitsWrong)

/-- 'ledgerlaw03.ScalarCanon': WHATEVER THE INPUT: true; the input reads as it did. -/
def scalarCanonSpec : ChangeSpec := { name := "scalarCanon", fn := fun _ => fun
  | [d] => { results := [.lit (.bool true)], args := [d] }
  | _ => none }
def scalarCanonRow : OpenClaim := { program := "ytfpeolihnaeolaadoor", sum := "1f0de1ae97f2263b1917d4a9e9f75bc37b4cbe543aa7fba39037d89086c90226", func := "ledger/ledgerlaw03.ScalarCanon", spec := "scalarCanon", inPlace := ["math/bits.Add64", "math/bits.Sub64"], named := ["ledger/scalar.order", "ledger/scalar.multiples"], apart := false, laid := [("ledger/scalar.multiples", laid_ledger_scalar_multiples), ("ledger/scalar.order", laid_ledger_scalar_order)] }
def ScalarCanonSaid : Prop := scalarCanonRow.holds Tryd.pinned (OpenSpec.ofChange scalarCanonSpec)

/-- ITS FALSE NEIGHBOUR: 'it returns false'. Refute it at one input. -/
def scalarCanonWrong : ChangeSpec := { name := "scalarCanon", fn := fun _ => fun
  | [d] => { results := [.lit (.bool false)], args := [d] }
  | _ => none }
def ScalarCanonWrongFalsely : Prop := scalarCanonRow.holds Tryd.pinned (OpenSpec.ofChange scalarCanonWrong)

/-- 'ledgerlaw03.ScalarMultiplies': WHATEVER THE INPUT: true; the input reads as it did. -/
def scalarMultipliesSpec : ChangeSpec := { name := "scalarMultiplies", fn := fun _ => fun
  | [d1, d2, d3] => { results := [.lit (.bool true)], args := [d1, d2, d3] }
  | _ => none }
def scalarMultipliesRow : OpenClaim := { program := "ytfpeolihnaeolaadoor", sum := "1f0de1ae97f2263b1917d4a9e9f75bc37b4cbe543aa7fba39037d89086c90226", func := "ledger/ledgerlaw03.ScalarMultiplies", spec := "scalarMultiplies", inPlace := ["math/bits.Add64", "math/bits.Sub64"], named := ["ledger/scalar.multiples", "ledger/ledgerref03.order"], apart := false, laid := [("ledger/ledgerref03.order", laid_ledger_ledgerref03_order), ("ledger/scalar.multiples", laid_ledger_scalar_multiples)] }
def ScalarMultipliesSaid : Prop := scalarMultipliesRow.holds Tryd.pinned (OpenSpec.ofChange scalarMultipliesSpec)

/-- ITS FALSE NEIGHBOUR: 'it returns false'. Refute it at one input. -/
def scalarMultipliesWrong : ChangeSpec := { name := "scalarMultiplies", fn := fun _ => fun
  | [d1, d2, d3] => { results := [.lit (.bool false)], args := [d1, d2, d3] }
  | _ => none }
def ScalarMultipliesWrongFalsely : Prop := scalarMultipliesRow.holds Tryd.pinned (OpenSpec.ofChange scalarMultipliesWrong)

/-- 'ledgerlaw03.ScalarRing': WHATEVER THE INPUT: true; the input reads as it did. -/
def scalarRingSpec : ChangeSpec := { name := "scalarRing", fn := fun _ => fun
  | [d1, d2, d3] => { results := [.lit (.bool true)], args := [d1, d2, d3] }
  | _ => none }
def scalarRingRow : OpenClaim := { program := "ytfpeolihnaeolaadoor", sum := "1f0de1ae97f2263b1917d4a9e9f75bc37b4cbe543aa7fba39037d89086c90226", func := "ledger/ledgerlaw03.ScalarRing", spec := "scalarRing", inPlace := ["math/bits.Add64", "math/bits.Sub64"], named := ["ledger/scalar.multiples"], apart := false, laid := [("ledger/scalar.multiples", laid_ledger_scalar_multiples)] }
def ScalarRingSaid : Prop := scalarRingRow.holds Tryd.pinned (OpenSpec.ofChange scalarRingSpec)

/-- ITS FALSE NEIGHBOUR: 'it returns false'. Refute it at one input. -/
def scalarRingWrong : ChangeSpec := { name := "scalarRing", fn := fun _ => fun
  | [d1, d2, d3] => { results := [.lit (.bool false)], args := [d1, d2, d3] }
  | _ => none }
def ScalarRingWrongFalsely : Prop := scalarRingRow.holds Tryd.pinned (OpenSpec.ofChange scalarRingWrong)

/-- 'ledgerlaw03.ScalarInverts': WHATEVER THE INPUT: true; the input reads as it did. -/
def scalarInvertsSpec : ChangeSpec := { name := "scalarInverts", fn := fun _ => fun
  | [d] => { results := [.lit (.bool true)], args := [d] }
  | _ => none }
def scalarInvertsRow : OpenClaim := { program := "ytfpeolihnaeolaadoor", sum := "1f0de1ae97f2263b1917d4a9e9f75bc37b4cbe543aa7fba39037d89086c90226", func := "ledger/ledgerlaw03.ScalarInverts", spec := "scalarInverts", inPlace := ["math/bits.Add64", "math/bits.Sub64"], named := ["ledger/scalar.order", "ledger/scalar.multiples"], apart := false, laid := [("ledger/scalar.multiples", laid_ledger_scalar_multiples), ("ledger/scalar.order", laid_ledger_scalar_order)] }
def ScalarInvertsSaid : Prop := scalarInvertsRow.holds Tryd.pinned (OpenSpec.ofChange scalarInvertsSpec)

/-- ITS FALSE NEIGHBOUR: 'it returns false'. Refute it at one input. -/
def scalarInvertsWrong : ChangeSpec := { name := "scalarInverts", fn := fun _ => fun
  | [d] => { results := [.lit (.bool false)], args := [d] }
  | _ => none }
def ScalarInvertsWrongFalsely : Prop := scalarInvertsRow.holds Tryd.pinned (OpenSpec.ofChange scalarInvertsWrong)

/-- 'ledgerlaw03.ScalarLinear': WHATEVER THE INPUT: true; the input reads as it did. -/
def scalarLinearSpec : ChangeSpec := { name := "scalarLinear", fn := fun _ => fun
  | [d1, d2] => { results := [.lit (.bool true)], args := [d1, d2] }
  | _ => none }
def scalarLinearRow : OpenClaim := { program := "ytfpeolihnaeolaadoor", sum := "1f0de1ae97f2263b1917d4a9e9f75bc37b4cbe543aa7fba39037d89086c90226", func := "ledger/ledgerlaw03.ScalarLinear", spec := "scalarLinear", inPlace := ["math/bits.Add64", "math/bits.Sub64"], named := ["ledger/scalar.multiples"], apart := false, laid := [("ledger/scalar.multiples", laid_ledger_scalar_multiples)] }
def ScalarLinearSaid : Prop := scalarLinearRow.holds Tryd.pinned (OpenSpec.ofChange scalarLinearSpec)

/-- ITS FALSE NEIGHBOUR: 'it returns false'. Refute it at one input. -/
def scalarLinearWrong : ChangeSpec := { name := "scalarLinear", fn := fun _ => fun
  | [d1, d2] => { results := [.lit (.bool false)], args := [d1, d2] }
  | _ => none }
def ScalarLinearWrongFalsely : Prop := scalarLinearRow.holds Tryd.pinned (OpenSpec.ofChange scalarLinearWrong)

/-- 'ledgerlaw03.ScalarWorth': WHATEVER THE INPUT: true; the input reads as it did. -/
def scalarWorthSpec : ChangeSpec := { name := "scalarWorth", fn := fun _ => fun
  | [d1, d2] => { results := [.lit (.bool true)], args := [d1, d2] }
  | _ => none }
def scalarWorthRow : OpenClaim := { program := "ytfpeolihnaeolaadoor", sum := "1f0de1ae97f2263b1917d4a9e9f75bc37b4cbe543aa7fba39037d89086c90226", func := "ledger/ledgerlaw03.ScalarWorth", spec := "scalarWorth", inPlace := ["math/bits.Add64", "math/bits.Sub64"], named := ["ledger/scalar.multiples"], apart := false, laid := [("ledger/scalar.multiples", laid_ledger_scalar_multiples)] }
def ScalarWorthSaid : Prop := scalarWorthRow.holds Tryd.pinned (OpenSpec.ofChange scalarWorthSpec)

/-- ITS FALSE NEIGHBOUR: 'it returns false'. Refute it at one input. -/
def scalarWorthWrong : ChangeSpec := { name := "scalarWorth", fn := fun _ => fun
  | [d1, d2] => { results := [.lit (.bool false)], args := [d1, d2] }
  | _ => none }
def ScalarWorthWrongFalsely : Prop := scalarWorthRow.holds Tryd.pinned (OpenSpec.ofChange scalarWorthWrong)

/- THE SECOND FORM. 'bulk': how many values and letters a reading holds, each counted each time it is reached (what is shared counts as often as it is met; a slice's spare places count too). A statement '..UptoSaid' is the law's where the arguments, and the package variables that the reading takes, are together of bulk at most 1048576: NARROWER than '..Said'. Prove '..Said' where nothing that the law and all that it calls make is longer than what came in: it says more and counts as full. Else prove '..UptoSaid'. A law counts once. -/
mutual
def uptoBulk {H : Type} : DataW H → Nat
  | .lit (.string bytes) => bytes.length + 1
  | .lit _ => 1
  | .nil => 1
  | .ptr d => uptoBulk d + 1
  | .slice elems spare => uptoBulkAll elems + uptoBulkAll spare + 1
  | .agg parts => uptoBulkAll parts + 1
  | .iface _ d => uptoBulk d + 1
  | .map entries => uptoBulkEntries entries + 1
  | .held _ => 1
def uptoBulkAll {H : Type} : List (DataW H) → Nat
  | [] => 0
  | d :: r => uptoBulk d + uptoBulkAll r
def uptoBulkEntries {H : Type} : List (Lit × DataW H) → Nat
  | [] => 0
  | x :: r => uptoBulkEntry x + uptoBulkEntries r
def uptoBulkEntry {H : Type} : Lit × DataW H → Nat
  | (.string bytes, d) => bytes.length + uptoBulk d + 1
  | (_, d) => uptoBulk d + 1
 end
def uptoSmall : (H : Type) → List (DataW H) → Bool := fun _ ds => decide (uptoBulkAll ds ≤ 1048576)
def OpenSpec.upto (s : _root_.Go.ChangeSpec) : _root_.Go.OpenSpec := { _root_.Go.OpenSpec.ofChange s with cond := some uptoSmall }

/-- 'ledgerlaw03.ScalarValues', WHERE WHAT IT READS IS OF BULK AT MOST 1048576: true; the input reads as it did. -/
def scalarValuesUptoRow : OpenClaim := { program := "ytfpeolihnaeolaadoor", sum := "1f0de1ae97f2263b1917d4a9e9f75bc37b4cbe543aa7fba39037d89086c90226", func := "ledger/ledgerlaw03.ScalarValues", spec := "scalarValues", inPlace := ["math/bits.Add64", "math/bits.Sub64"], named := ["ledger/ledgerref03.order", "ledger/scalar.multiples"], apart := false, laid := [("ledger/ledgerref03.order", laid_ledger_ledgerref03_order), ("ledger/scalar.multiples", laid_ledger_scalar_multiples)], narrowed := true }
def ScalarValuesUptoSaid : Prop := scalarValuesUptoRow.holds Tryd.pinned (OpenSpec.upto scalarValuesSpec)

/-- 'ledgerlaw03.ScalarReduces', WHERE WHAT IT READS IS OF BULK AT MOST 1048576: true; the input reads as it did. -/
def scalarReducesUptoRow : OpenClaim := { program := "ytfpeolihnaeolaadoor", sum := "1f0de1ae97f2263b1917d4a9e9f75bc37b4cbe543aa7fba39037d89086c90226", func := "ledger/ledgerlaw03.ScalarReduces", spec := "scalarReduces", inPlace := ["math/bits.Sub64", "math/bits.Add64"], named := ["ledger/scalar.multiples", "ledger/ledgerref03.order"], apart := false, laid := [("ledger/ledgerref03.order", laid_ledger_ledgerref03_order), ("ledger/scalar.multiples", laid_ledger_scalar_multiples)], narrowed := true }
def ScalarReducesUptoSaid : Prop := scalarReducesUptoRow.holds Tryd.pinned (OpenSpec.upto scalarReducesSpec)

/-- 'ledgerlaw03.ScalarKeeps', WHERE WHAT IT READS IS OF BULK AT MOST 1048576: true; the input reads as it did. -/
def scalarKeepsUptoRow : OpenClaim := { program := "ytfpeolihnaeolaadoor", sum := "1f0de1ae97f2263b1917d4a9e9f75bc37b4cbe543aa7fba39037d89086c90226", func := "ledger/ledgerlaw03.ScalarKeeps", spec := "scalarKeeps", inPlace := ["math/bits.Add64", "math/bits.Sub64"], named := ["ledger/ledgerref03.order", "ledger/scalar.multiples"], apart := false, laid := [("ledger/ledgerref03.order", laid_ledger_ledgerref03_order), ("ledger/scalar.multiples", laid_ledger_scalar_multiples)], narrowed := true }
def ScalarKeepsUptoSaid : Prop := scalarKeepsUptoRow.holds Tryd.pinned (OpenSpec.upto scalarKeepsSpec)

/-- 'ledgerlaw03.ScalarFermat', WHERE WHAT IT READS IS OF BULK AT MOST 1048576: true; the input reads as it did. -/
def scalarFermatUptoRow : OpenClaim := { program := "ytfpeolihnaeolaadoor", sum := "1f0de1ae97f2263b1917d4a9e9f75bc37b4cbe543aa7fba39037d89086c90226", func := "ledger/ledgerlaw03.ScalarFermat", spec := "scalarFermat", inPlace := ["math/bits.Add64", "math/bits.Sub64"], named := ["ledger/scalar.order", "ledger/scalar.multiples"], apart := false, laid := [("ledger/scalar.multiples", laid_ledger_scalar_multiples), ("ledger/scalar.order", laid_ledger_scalar_order)], narrowed := true }
def ScalarFermatUptoSaid : Prop := scalarFermatUptoRow.holds Tryd.pinned (OpenSpec.upto scalarFermatSpec)

/-- 'ledgerlaw03.ScalarSplits', WHERE WHAT IT READS IS OF BULK AT MOST 1048576: true; the input reads as it did. -/
def scalarSplitsUptoRow : OpenClaim := { program := "ytfpeolihnaeolaadoor", sum := "1f0de1ae97f2263b1917d4a9e9f75bc37b4cbe543aa7fba39037d89086c90226", func := "ledger/ledgerlaw03.ScalarSplits", spec := "scalarSplits", inPlace := ["math/bits.Sub64", "math/bits.Add64"], named := ["ledger/scalar.multiples"], apart := false, laid := [("ledger/scalar.multiples", laid_ledger_scalar_multiples)], narrowed := true }
def ScalarSplitsUptoSaid : Prop := scalarSplitsUptoRow.holds Tryd.pinned (OpenSpec.upto scalarSplitsSpec)

/-- 'ledgerlaw03.ScalarCanon', WHERE WHAT IT READS IS OF BULK AT MOST 1048576: true; the input reads as it did. -/
def scalarCanonUptoRow : OpenClaim := { program := "ytfpeolihnaeolaadoor", sum := "1f0de1ae97f2263b1917d4a9e9f75bc37b4cbe543aa7fba39037d89086c90226", func := "ledger/ledgerlaw03.ScalarCanon", spec := "scalarCanon", inPlace := ["math/bits.Add64", "math/bits.Sub64"], named := ["ledger/scalar.order", "ledger/scalar.multiples"], apart := false, laid := [("ledger/scalar.multiples", laid_ledger_scalar_multiples), ("ledger/scalar.order", laid_ledger_scalar_order)], narrowed := true }
def ScalarCanonUptoSaid : Prop := scalarCanonUptoRow.holds Tryd.pinned (OpenSpec.upto scalarCanonSpec)

/-- 'ledgerlaw03.ScalarMultiplies', WHERE WHAT IT READS IS OF BULK AT MOST 1048576: true; the input reads as it did. -/
def scalarMultipliesUptoRow : OpenClaim := { program := "ytfpeolihnaeolaadoor", sum := "1f0de1ae97f2263b1917d4a9e9f75bc37b4cbe543aa7fba39037d89086c90226", func := "ledger/ledgerlaw03.ScalarMultiplies", spec := "scalarMultiplies", inPlace := ["math/bits.Add64", "math/bits.Sub64"], named := ["ledger/scalar.multiples", "ledger/ledgerref03.order"], apart := false, laid := [("ledger/ledgerref03.order", laid_ledger_ledgerref03_order), ("ledger/scalar.multiples", laid_ledger_scalar_multiples)], narrowed := true }
def ScalarMultipliesUptoSaid : Prop := scalarMultipliesUptoRow.holds Tryd.pinned (OpenSpec.upto scalarMultipliesSpec)

/-- 'ledgerlaw03.ScalarRing', WHERE WHAT IT READS IS OF BULK AT MOST 1048576: true; the input reads as it did. -/
def scalarRingUptoRow : OpenClaim := { program := "ytfpeolihnaeolaadoor", sum := "1f0de1ae97f2263b1917d4a9e9f75bc37b4cbe543aa7fba39037d89086c90226", func := "ledger/ledgerlaw03.ScalarRing", spec := "scalarRing", inPlace := ["math/bits.Add64", "math/bits.Sub64"], named := ["ledger/scalar.multiples"], apart := false, laid := [("ledger/scalar.multiples", laid_ledger_scalar_multiples)], narrowed := true }
def ScalarRingUptoSaid : Prop := scalarRingUptoRow.holds Tryd.pinned (OpenSpec.upto scalarRingSpec)

/-- 'ledgerlaw03.ScalarInverts', WHERE WHAT IT READS IS OF BULK AT MOST 1048576: true; the input reads as it did. -/
def scalarInvertsUptoRow : OpenClaim := { program := "ytfpeolihnaeolaadoor", sum := "1f0de1ae97f2263b1917d4a9e9f75bc37b4cbe543aa7fba39037d89086c90226", func := "ledger/ledgerlaw03.ScalarInverts", spec := "scalarInverts", inPlace := ["math/bits.Add64", "math/bits.Sub64"], named := ["ledger/scalar.order", "ledger/scalar.multiples"], apart := false, laid := [("ledger/scalar.multiples", laid_ledger_scalar_multiples), ("ledger/scalar.order", laid_ledger_scalar_order)], narrowed := true }
def ScalarInvertsUptoSaid : Prop := scalarInvertsUptoRow.holds Tryd.pinned (OpenSpec.upto scalarInvertsSpec)

/-- 'ledgerlaw03.ScalarLinear', WHERE WHAT IT READS IS OF BULK AT MOST 1048576: true; the input reads as it did. -/
def scalarLinearUptoRow : OpenClaim := { program := "ytfpeolihnaeolaadoor", sum := "1f0de1ae97f2263b1917d4a9e9f75bc37b4cbe543aa7fba39037d89086c90226", func := "ledger/ledgerlaw03.ScalarLinear", spec := "scalarLinear", inPlace := ["math/bits.Add64", "math/bits.Sub64"], named := ["ledger/scalar.multiples"], apart := false, laid := [("ledger/scalar.multiples", laid_ledger_scalar_multiples)], narrowed := true }
def ScalarLinearUptoSaid : Prop := scalarLinearUptoRow.holds Tryd.pinned (OpenSpec.upto scalarLinearSpec)

/-- 'ledgerlaw03.ScalarWorth', WHERE WHAT IT READS IS OF BULK AT MOST 1048576: true; the input reads as it did. -/
def scalarWorthUptoRow : OpenClaim := { program := "ytfpeolihnaeolaadoor", sum := "1f0de1ae97f2263b1917d4a9e9f75bc37b4cbe543aa7fba39037d89086c90226", func := "ledger/ledgerlaw03.ScalarWorth", spec := "scalarWorth", inPlace := ["math/bits.Add64", "math/bits.Sub64"], named := ["ledger/scalar.multiples"], apart := false, laid := [("ledger/scalar.multiples", laid_ledger_scalar_multiples)], narrowed := true }
def ScalarWorthUptoSaid : Prop := scalarWorthUptoRow.holds Tryd.pinned (OpenSpec.upto scalarWorthSpec)

end Rows
end Go.Proofs.YtfpeolihnaeolaaDoor
