/-
  NARROWER THAN 'FOR EVERY INPUT', by the rows' own cells (each row's printed sentence says how): FieldPows: laid · FieldProducts: laid · FieldInverts: laid · FieldRing: laid · FieldFermat: laid · FieldSymbols: laid · FieldKeeps: laid · FieldBatches: laid · FieldRatios: laid · FieldRoots: laid · FieldAll: laid.
  DERIVED. THE GIVEN ROWS OF THIS SEAT. 11 by the template 'for every input the law returns true; each argument reads behind the call as it read before'; 0 by the template 'total and deterministic' (their statements: YtnfbjfbndnmhmaaDoorTotals.lean).
  GIVEN WITH THE SEED: the statements are not yours to turn. If you find one false, say at which input.
  Laid BY PROGRAM, IN A SANDBOX (cutbox-rows.mjs): the forced cells as the released guide's own fill.sh prints them over the translation 638b52550c97586b… (all of the seat's roots in one cut). By AI agents, Wed Nov 11 2026. No macro, syntax, notation, axiom, sorry.
-/
import Derived.Test.YtnfbjfbndnmhmaaDoorChecked
import GoSem.Claim
import GoSem.ClaimJoined
import GoSem.ClaimMapViews
import Derived.JoinedTies
import Derived.KernelRfl
namespace Go.Proofs.YtnfbjfbndnmhmaaDoor
/- THE CELL 'sum', in the pinned program and in every row, IS THE sha256 OF THE DUMP (.gsa) THAT YtnfbjfbndnmhmaaDoorProg.lean LOADS. Nothing in Lean hashes anything: it is a label: what it is worth is what the hold of that sum in a sandbox is worth. -/
noncomputable def Tryd.pinned : Pinned := { name := "ytnfbjfbndnmhmaadoor", sum := "638b52550c97586bba4f04f875dff894e2f0c9708a5f8b9cea53f0936739d407", checked := Tryd.checked }
namespace Rows
def none {H : Type} : Left H := { results := [], args := [] }

/- WHAT THE LISTED PACKAGE-LEVEL VARIABLES READ AS WHEN THE CALL BEGINS. Each datum BY PROGRAM (the guide's laid-datum.mjs) off the statement by which the dump's own 'gosem.cut.vars' lays the variable. In a bare row this is a premise. The card (YtnfbjfbndnmhmaaDoorCards.lean) ties it to the program's text. -/
def laid_ledger_ledgerref02_prime {H : Type} : DataW H := .agg [.lit (.int .i64 65517), .lit (.int .i64 65535), .lit (.int .i64 65535), .lit (.int .i64 65535), .lit (.int .i64 65535), .lit (.int .i64 65535), .lit (.int .i64 65535), .lit (.int .i64 65535), .lit (.int .i64 65535), .lit (.int .i64 65535), .lit (.int .i64 65535), .lit (.int .i64 65535), .lit (.int .i64 65535), .lit (.int .i64 65535), .lit (.int .i64 65535), .lit (.int .i64 32767)]
def laid_ledger_field_lessTwo {H : Type} : DataW H := .agg [.lit (.int .u8 235), .lit (.int .u8 255), .lit (.int .u8 255), .lit (.int .u8 255), .lit (.int .u8 255), .lit (.int .u8 255), .lit (.int .u8 255), .lit (.int .u8 255), .lit (.int .u8 255), .lit (.int .u8 255), .lit (.int .u8 255), .lit (.int .u8 255), .lit (.int .u8 255), .lit (.int .u8 255), .lit (.int .u8 255), .lit (.int .u8 255), .lit (.int .u8 255), .lit (.int .u8 255), .lit (.int .u8 255), .lit (.int .u8 255), .lit (.int .u8 255), .lit (.int .u8 255), .lit (.int .u8 255), .lit (.int .u8 255), .lit (.int .u8 255), .lit (.int .u8 255), .lit (.int .u8 255), .lit (.int .u8 255), .lit (.int .u8 255), .lit (.int .u8 255), .lit (.int .u8 255), .lit (.int .u8 127)]
def laid_ledger_field_twice {H : Type} : DataW H := .agg [.lit (.int .u64 4503599627370458), .lit (.int .u64 4503599627370494), .lit (.int .u64 4503599627370494), .lit (.int .u64 4503599627370494), .lit (.int .u64 4503599627370494)]
def laid_ledger_field_half {H : Type} : DataW H := .agg [.lit (.int .u8 246), .lit (.int .u8 255), .lit (.int .u8 255), .lit (.int .u8 255), .lit (.int .u8 255), .lit (.int .u8 255), .lit (.int .u8 255), .lit (.int .u8 255), .lit (.int .u8 255), .lit (.int .u8 255), .lit (.int .u8 255), .lit (.int .u8 255), .lit (.int .u8 255), .lit (.int .u8 255), .lit (.int .u8 255), .lit (.int .u8 255), .lit (.int .u8 255), .lit (.int .u8 255), .lit (.int .u8 255), .lit (.int .u8 255), .lit (.int .u8 255), .lit (.int .u8 255), .lit (.int .u8 255), .lit (.int .u8 255), .lit (.int .u8 255), .lit (.int .u8 255), .lit (.int .u8 255), .lit (.int .u8 255), .lit (.int .u8 255), .lit (.int .u8 255), .lit (.int .u8 255), .lit (.int .u8 63)]
def laid_ledger_field_eighth {H : Type} : DataW H := .agg [.lit (.int .u8 253), .lit (.int .u8 255), .lit (.int .u8 255), .lit (.int .u8 255), .lit (.int .u8 255), .lit (.int .u8 255), .lit (.int .u8 255), .lit (.int .u8 255), .lit (.int .u8 255), .lit (.int .u8 255), .lit (.int .u8 255), .lit (.int .u8 255), .lit (.int .u8 255), .lit (.int .u8 255), .lit (.int .u8 255), .lit (.int .u8 255), .lit (.int .u8 255), .lit (.int .u8 255), .lit (.int .u8 255), .lit (.int .u8 255), .lit (.int .u8 255), .lit (.int .u8 255), .lit (.int .u8 255), .lit (.int .u8 255), .lit (.int .u8 255), .lit (.int .u8 255), .lit (.int .u8 255), .lit (.int .u8 255), .lit (.int .u8 255), .lit (.int .u8 255), .lit (.int .u8 255), .lit (.int .u8 15)]
def laid_ledger_field_rootOne {H : Type} : DataW H := .agg [.lit (.int .u8 176), .lit (.int .u8 160), .lit (.int .u8 14), .lit (.int .u8 74), .lit (.int .u8 39), .lit (.int .u8 27), .lit (.int .u8 238), .lit (.int .u8 196), .lit (.int .u8 120), .lit (.int .u8 228), .lit (.int .u8 47), .lit (.int .u8 173), .lit (.int .u8 6), .lit (.int .u8 24), .lit (.int .u8 67), .lit (.int .u8 47), .lit (.int .u8 167), .lit (.int .u8 215), .lit (.int .u8 251), .lit (.int .u8 61), .lit (.int .u8 153), .lit (.int .u8 0), .lit (.int .u8 77), .lit (.int .u8 43), .lit (.int .u8 11), .lit (.int .u8 223), .lit (.int .u8 193), .lit (.int .u8 79), .lit (.int .u8 128), .lit (.int .u8 36), .lit (.int .u8 131), .lit (.int .u8 43)]

/-- 'ledgerlaw02.FieldPows': WHATEVER THE INPUT: true; the input reads as it did. -/
def fieldPowsSpec : ChangeSpec := { name := "fieldPows", fn := fun _ => fun
  | [d1, d2] => { results := [.lit (.bool true)], args := [d1, d2] }
  | _ => none }
def fieldPowsRow : OpenClaim := { program := "ytnfbjfbndnmhmaadoor", sum := "638b52550c97586bba4f04f875dff894e2f0c9708a5f8b9cea53f0936739d407", func := "ledger/ledgerlaw02.FieldPows", spec := "fieldPows", inPlace := ["math/bits.Add64"], named := ["ledger/ledgerref02.prime", "ledger/field.lessTwo"], apart := false, laid := [("ledger/ledgerref02.prime", laid_ledger_ledgerref02_prime), ("ledger/field.lessTwo", laid_ledger_field_lessTwo)] }
def FieldPowsSaid : Prop := fieldPowsRow.holds Tryd.pinned (OpenSpec.ofChange fieldPowsSpec)

/-- ITS FALSE NEIGHBOUR: 'it returns false'. Refute it at one input. -/
def fieldPowsWrong : ChangeSpec := { name := "fieldPows", fn := fun _ => fun
  | [d1, d2] => { results := [.lit (.bool false)], args := [d1, d2] }
  | _ => none }
def FieldPowsWrongFalsely : Prop := fieldPowsRow.holds Tryd.pinned (OpenSpec.ofChange fieldPowsWrong)

/-- 'ledgerlaw02.FieldProducts': WHATEVER THE INPUT: true; the input reads as it did. -/
def fieldProductsSpec : ChangeSpec := { name := "fieldProducts", fn := fun _ => fun
  | [d1, d2] => { results := [.lit (.bool true)], args := [d1, d2] }
  | _ => none }
def fieldProductsRow : OpenClaim := { program := "ytnfbjfbndnmhmaadoor", sum := "638b52550c97586bba4f04f875dff894e2f0c9708a5f8b9cea53f0936739d407", func := "ledger/ledgerlaw02.FieldProducts", spec := "fieldProducts", inPlace := ["math/bits.Add64"], named := ["ledger/ledgerref02.prime", "ledger/field.twice"], apart := false, laid := [("ledger/ledgerref02.prime", laid_ledger_ledgerref02_prime), ("ledger/field.twice", laid_ledger_field_twice)] }
def FieldProductsSaid : Prop := fieldProductsRow.holds Tryd.pinned (OpenSpec.ofChange fieldProductsSpec)

/-- ITS FALSE NEIGHBOUR: 'it returns false'. Refute it at one input. -/
def fieldProductsWrong : ChangeSpec := { name := "fieldProducts", fn := fun _ => fun
  | [d1, d2] => { results := [.lit (.bool false)], args := [d1, d2] }
  | _ => none }
def FieldProductsWrongFalsely : Prop := fieldProductsRow.holds Tryd.pinned (OpenSpec.ofChange fieldProductsWrong)

/-- 'ledgerlaw02.FieldInverts': WHATEVER THE INPUT: true; the input reads as it did. -/
def fieldInvertsSpec : ChangeSpec := { name := "fieldInverts", fn := fun _ => fun
  | [d1, d2] => { results := [.lit (.bool true)], args := [d1, d2] }
  | _ => none }
def fieldInvertsRow : OpenClaim := { program := "ytnfbjfbndnmhmaadoor", sum := "638b52550c97586bba4f04f875dff894e2f0c9708a5f8b9cea53f0936739d407", func := "ledger/ledgerlaw02.FieldInverts", spec := "fieldInverts", inPlace := ["math/bits.Add64"], named := ["ledger/field.lessTwo"], apart := false, laid := [("ledger/field.lessTwo", laid_ledger_field_lessTwo)] }
def FieldInvertsSaid : Prop := fieldInvertsRow.holds Tryd.pinned (OpenSpec.ofChange fieldInvertsSpec)

/-- ITS FALSE NEIGHBOUR: 'it returns false'. Refute it at one input. -/
def fieldInvertsWrong : ChangeSpec := { name := "fieldInverts", fn := fun _ => fun
  | [d1, d2] => { results := [.lit (.bool false)], args := [d1, d2] }
  | _ => none }
def FieldInvertsWrongFalsely : Prop := fieldInvertsRow.holds Tryd.pinned (OpenSpec.ofChange fieldInvertsWrong)

/-- 'ledgerlaw02.FieldRing': WHATEVER THE INPUT: true; the input reads as it did. -/
def fieldRingSpec : ChangeSpec := { name := "fieldRing", fn := fun _ => fun
  | [d1, d2, d3] => { results := [.lit (.bool true)], args := [d1, d2, d3] }
  | _ => none }
def fieldRingRow : OpenClaim := { program := "ytnfbjfbndnmhmaadoor", sum := "638b52550c97586bba4f04f875dff894e2f0c9708a5f8b9cea53f0936739d407", func := "ledger/ledgerlaw02.FieldRing", spec := "fieldRing", inPlace := ["math/bits.Add64"], named := ["ledger/field.twice"], apart := false, laid := [("ledger/field.twice", laid_ledger_field_twice)] }
def FieldRingSaid : Prop := fieldRingRow.holds Tryd.pinned (OpenSpec.ofChange fieldRingSpec)

/-- ITS FALSE NEIGHBOUR: 'it returns false'. Refute it at one input. -/
def fieldRingWrong : ChangeSpec := { name := "fieldRing", fn := fun _ => fun
  | [d1, d2, d3] => { results := [.lit (.bool false)], args := [d1, d2, d3] }
  | _ => none }
def FieldRingWrongFalsely : Prop := fieldRingRow.holds Tryd.pinned (OpenSpec.ofChange fieldRingWrong)

/-- 'ledgerlaw02.FieldFermat': WHATEVER THE INPUT: true; the input reads as it did. -/
def fieldFermatSpec : ChangeSpec := { name := "fieldFermat", fn := fun _ => fun
  | [d] => { results := [.lit (.bool true)], args := [d] }
  | _ => none }
def fieldFermatRow : OpenClaim := { program := "ytnfbjfbndnmhmaadoor", sum := "638b52550c97586bba4f04f875dff894e2f0c9708a5f8b9cea53f0936739d407", func := "ledger/ledgerlaw02.FieldFermat", spec := "fieldFermat", inPlace := ["math/bits.Add64"], named := ["ledger/field.lessTwo", "ledger/field.half", "ledger/field.twice"], apart := false, laid := [("ledger/field.lessTwo", laid_ledger_field_lessTwo), ("ledger/field.half", laid_ledger_field_half), ("ledger/field.twice", laid_ledger_field_twice)] }
def FieldFermatSaid : Prop := fieldFermatRow.holds Tryd.pinned (OpenSpec.ofChange fieldFermatSpec)

/-- ITS FALSE NEIGHBOUR: 'it returns false'. Refute it at one input. -/
def fieldFermatWrong : ChangeSpec := { name := "fieldFermat", fn := fun _ => fun
  | [d] => { results := [.lit (.bool false)], args := [d] }
  | _ => none }
def FieldFermatWrongFalsely : Prop := fieldFermatRow.holds Tryd.pinned (OpenSpec.ofChange fieldFermatWrong)

/-- 'ledgerlaw02.FieldSymbols': WHATEVER THE INPUT: true; the input reads as it did. -/
def fieldSymbolsSpec : ChangeSpec := { name := "fieldSymbols", fn := fun _ => fun
  | [d1, d2] => { results := [.lit (.bool true)], args := [d1, d2] }
  | _ => none }
def fieldSymbolsRow : OpenClaim := { program := "ytnfbjfbndnmhmaadoor", sum := "638b52550c97586bba4f04f875dff894e2f0c9708a5f8b9cea53f0936739d407", func := "ledger/ledgerlaw02.FieldSymbols", spec := "fieldSymbols", inPlace := ["math/bits.Add64"], named := ["ledger/field.half", "ledger/field.twice"], apart := false, laid := [("ledger/field.half", laid_ledger_field_half), ("ledger/field.twice", laid_ledger_field_twice)] }
def FieldSymbolsSaid : Prop := fieldSymbolsRow.holds Tryd.pinned (OpenSpec.ofChange fieldSymbolsSpec)

/-- ITS FALSE NEIGHBOUR: 'it returns false'. Refute it at one input. -/
def fieldSymbolsWrong : ChangeSpec := { name := "fieldSymbols", fn := fun _ => fun
  | [d1, d2] => { results := [.lit (.bool false)], args := [d1, d2] }
  | _ => none }
def FieldSymbolsWrongFalsely : Prop := fieldSymbolsRow.holds Tryd.pinned (OpenSpec.ofChange fieldSymbolsWrong)

/-- 'ledgerlaw02.FieldKeeps': WHATEVER THE INPUT: true; the input reads as it did. -/
def fieldKeepsSpec : ChangeSpec := { name := "fieldKeeps", fn := fun _ => fun
  | [d] => { results := [.lit (.bool true)], args := [d] }
  | _ => none }
def fieldKeepsRow : OpenClaim := { program := "ytnfbjfbndnmhmaadoor", sum := "638b52550c97586bba4f04f875dff894e2f0c9708a5f8b9cea53f0936739d407", func := "ledger/ledgerlaw02.FieldKeeps", spec := "fieldKeeps", inPlace := ["math/bits.Add64"], named := ["ledger/ledgerref02.prime", "ledger/field.lessTwo"], apart := false, laid := [("ledger/ledgerref02.prime", laid_ledger_ledgerref02_prime), ("ledger/field.lessTwo", laid_ledger_field_lessTwo)] }
def FieldKeepsSaid : Prop := fieldKeepsRow.holds Tryd.pinned (OpenSpec.ofChange fieldKeepsSpec)

/-- ITS FALSE NEIGHBOUR: 'it returns false'. Refute it at one input. -/
def fieldKeepsWrong : ChangeSpec := { name := "fieldKeeps", fn := fun _ => fun
  | [d] => { results := [.lit (.bool false)], args := [d] }
  | _ => none }
def FieldKeepsWrongFalsely : Prop := fieldKeepsRow.holds Tryd.pinned (OpenSpec.ofChange fieldKeepsWrong)

/-- 'ledgerlaw02.FieldBatches': WHATEVER THE INPUT: true; the input reads as it did. -/
def fieldBatchesSpec : ChangeSpec := { name := "fieldBatches", fn := fun _ => fun
  | [d] => { results := [.lit (.bool true)], args := [d] }
  | _ => none }
def fieldBatchesRow : OpenClaim := { program := "ytnfbjfbndnmhmaadoor", sum := "638b52550c97586bba4f04f875dff894e2f0c9708a5f8b9cea53f0936739d407", func := "ledger/ledgerlaw02.FieldBatches", spec := "fieldBatches", inPlace := ["math/bits.Add64"], named := ["ledger/field.lessTwo"], apart := false, laid := [("ledger/field.lessTwo", laid_ledger_field_lessTwo)] }
def FieldBatchesSaid : Prop := fieldBatchesRow.holds Tryd.pinned (OpenSpec.ofChange fieldBatchesSpec)

/-- ITS FALSE NEIGHBOUR: 'it returns false'. Refute it at one input. -/
def fieldBatchesWrong : ChangeSpec := { name := "fieldBatches", fn := fun _ => fun
  | [d] => { results := [.lit (.bool false)], args := [d] }
  | _ => none }
def FieldBatchesWrongFalsely : Prop := fieldBatchesRow.holds Tryd.pinned (OpenSpec.ofChange fieldBatchesWrong)

/-- 'ledgerlaw02.FieldRatios': WHATEVER THE INPUT: true; the input reads as it did. -/
def fieldRatiosSpec : ChangeSpec := { name := "fieldRatios", fn := fun _ => fun
  | [d1, d2] => { results := [.lit (.bool true)], args := [d1, d2] }
  | _ => none }
def fieldRatiosRow : OpenClaim := { program := "ytnfbjfbndnmhmaadoor", sum := "638b52550c97586bba4f04f875dff894e2f0c9708a5f8b9cea53f0936739d407", func := "ledger/ledgerlaw02.FieldRatios", spec := "fieldRatios", inPlace := ["math/bits.Add64"], named := ["ledger/ledgerref02.prime", "ledger/field.eighth", "ledger/field.rootOne", "ledger/field.twice", "ledger/field.half"], apart := false, laid := [("ledger/ledgerref02.prime", laid_ledger_ledgerref02_prime), ("ledger/field.eighth", laid_ledger_field_eighth), ("ledger/field.half", laid_ledger_field_half), ("ledger/field.rootOne", laid_ledger_field_rootOne), ("ledger/field.twice", laid_ledger_field_twice)] }
def FieldRatiosSaid : Prop := fieldRatiosRow.holds Tryd.pinned (OpenSpec.ofChange fieldRatiosSpec)

/-- ITS FALSE NEIGHBOUR: 'it returns false'. Refute it at one input. -/
def fieldRatiosWrong : ChangeSpec := { name := "fieldRatios", fn := fun _ => fun
  | [d1, d2] => { results := [.lit (.bool false)], args := [d1, d2] }
  | _ => none }
def FieldRatiosWrongFalsely : Prop := fieldRatiosRow.holds Tryd.pinned (OpenSpec.ofChange fieldRatiosWrong)

/-- 'ledgerlaw02.FieldRoots': WHATEVER THE INPUT: true; the input reads as it did. -/
def fieldRootsSpec : ChangeSpec := { name := "fieldRoots", fn := fun _ => fun
  | [d1, d2] => { results := [.lit (.bool true)], args := [d1, d2] }
  | _ => none }
def fieldRootsRow : OpenClaim := { program := "ytnfbjfbndnmhmaadoor", sum := "638b52550c97586bba4f04f875dff894e2f0c9708a5f8b9cea53f0936739d407", func := "ledger/ledgerlaw02.FieldRoots", spec := "fieldRoots", inPlace := ["math/bits.Add64"], named := ["ledger/field.eighth", "ledger/field.rootOne", "ledger/field.twice", "ledger/field.half"], apart := false, laid := [("ledger/field.eighth", laid_ledger_field_eighth), ("ledger/field.half", laid_ledger_field_half), ("ledger/field.rootOne", laid_ledger_field_rootOne), ("ledger/field.twice", laid_ledger_field_twice)] }
def FieldRootsSaid : Prop := fieldRootsRow.holds Tryd.pinned (OpenSpec.ofChange fieldRootsSpec)

/-- ITS FALSE NEIGHBOUR: 'it returns false'. Refute it at one input. -/
def fieldRootsWrong : ChangeSpec := { name := "fieldRoots", fn := fun _ => fun
  | [d1, d2] => { results := [.lit (.bool false)], args := [d1, d2] }
  | _ => none }
def FieldRootsWrongFalsely : Prop := fieldRootsRow.holds Tryd.pinned (OpenSpec.ofChange fieldRootsWrong)

/-- 'ledgerlaw02.FieldAll': WHATEVER THE INPUT: true; the input reads as it did. -/
def fieldAllSpec : ChangeSpec := { name := "fieldAll", fn := fun _ => fun
  | [d] => { results := [.lit (.bool true)], args := [d] }
  | _ => none }
def fieldAllRow : OpenClaim := { program := "ytnfbjfbndnmhmaadoor", sum := "638b52550c97586bba4f04f875dff894e2f0c9708a5f8b9cea53f0936739d407", func := "ledger/ledgerlaw02.FieldAll", spec := "fieldAll", inPlace := ["math/bits.Add64"], named := ["ledger/ledgerref02.prime", "ledger/field.half", "ledger/field.twice", "ledger/field.lessTwo", "ledger/field.eighth", "ledger/field.rootOne"], apart := false, laid := [("ledger/ledgerref02.prime", laid_ledger_ledgerref02_prime), ("ledger/field.lessTwo", laid_ledger_field_lessTwo), ("ledger/field.eighth", laid_ledger_field_eighth), ("ledger/field.half", laid_ledger_field_half), ("ledger/field.rootOne", laid_ledger_field_rootOne), ("ledger/field.twice", laid_ledger_field_twice)] }
def FieldAllSaid : Prop := fieldAllRow.holds Tryd.pinned (OpenSpec.ofChange fieldAllSpec)

/-- ITS FALSE NEIGHBOUR: 'it returns false'. Refute it at one input. -/
def fieldAllWrong : ChangeSpec := { name := "fieldAll", fn := fun _ => fun
  | [d] => { results := [.lit (.bool false)], args := [d] }
  | _ => none }
def FieldAllWrongFalsely : Prop := fieldAllRow.holds Tryd.pinned (OpenSpec.ofChange fieldAllWrong)

/- THE SECOND FORM. 'bulk': how many values and letters a reading holds, each counted each time it is reached (what is shared counts as often as it is met; a slice's spare places count too). A statement '..UptoSaid' is the law's where the arguments, and the package variables that the reading takes, are together of bulk at most 1048576: NARROWER than '..Said'. Prove '..Said' where nothing that the law and all that it calls make is longer than what came in: it says more and counts as full. Else prove '..UptoSaid'. A law counts once. -/
mutual
def uptoBulk {H : Type} : DataW H → Nat
  | .lit (.string bytes) => bytes.length + 1
  | .lit _ => 1
  | .nil => 1
  | .ptr d => uptoBulk d + 1
  | .slice elems spare => uptoBulkAll elems + uptoBulkAll spare + 1
  | .agg parts => uptoBulkAll parts + 1
  | .iface _ d => uptoBulk d + 1
  | .map entries => uptoBulkEntries entries + 1
  | .held _ => 1
def uptoBulkAll {H : Type} : List (DataW H) → Nat
  | [] => 0
  | d :: r => uptoBulk d + uptoBulkAll r
def uptoBulkEntries {H : Type} : List (Lit × DataW H) → Nat
  | [] => 0
  | x :: r => uptoBulkEntry x + uptoBulkEntries r
def uptoBulkEntry {H : Type} : Lit × DataW H → Nat
  | (.string bytes, d) => bytes.length + uptoBulk d + 1
  | (_, d) => uptoBulk d + 1
 end
def uptoSmall : (H : Type) → List (DataW H) → Bool := fun _ ds => decide (uptoBulkAll ds ≤ 1048576)
def OpenSpec.upto (s : _root_.Go.ChangeSpec) : _root_.Go.OpenSpec := { _root_.Go.OpenSpec.ofChange s with cond := some uptoSmall }

/-- 'ledgerlaw02.FieldPows', WHERE WHAT IT READS IS OF BULK AT MOST 1048576: true; the input reads as it did. -/
def fieldPowsUptoRow : OpenClaim := { program := "ytnfbjfbndnmhmaadoor", sum := "638b52550c97586bba4f04f875dff894e2f0c9708a5f8b9cea53f0936739d407", func := "ledger/ledgerlaw02.FieldPows", spec := "fieldPows", inPlace := ["math/bits.Add64"], named := ["ledger/ledgerref02.prime", "ledger/field.lessTwo"], apart := false, laid := [("ledger/ledgerref02.prime", laid_ledger_ledgerref02_prime), ("ledger/field.lessTwo", laid_ledger_field_lessTwo)], narrowed := true }
def FieldPowsUptoSaid : Prop := fieldPowsUptoRow.holds Tryd.pinned (OpenSpec.upto fieldPowsSpec)

/-- 'ledgerlaw02.FieldProducts', WHERE WHAT IT READS IS OF BULK AT MOST 1048576: true; the input reads as it did. -/
def fieldProductsUptoRow : OpenClaim := { program := "ytnfbjfbndnmhmaadoor", sum := "638b52550c97586bba4f04f875dff894e2f0c9708a5f8b9cea53f0936739d407", func := "ledger/ledgerlaw02.FieldProducts", spec := "fieldProducts", inPlace := ["math/bits.Add64"], named := ["ledger/ledgerref02.prime", "ledger/field.twice"], apart := false, laid := [("ledger/ledgerref02.prime", laid_ledger_ledgerref02_prime), ("ledger/field.twice", laid_ledger_field_twice)], narrowed := true }
def FieldProductsUptoSaid : Prop := fieldProductsUptoRow.holds Tryd.pinned (OpenSpec.upto fieldProductsSpec)

/-- 'ledgerlaw02.FieldInverts', WHERE WHAT IT READS IS OF BULK AT MOST 1048576: true; the input reads as it did. -/
def fieldInvertsUptoRow : OpenClaim := { program := "ytnfbjfbndnmhmaadoor", sum := "638b52550c97586bba4f04f875dff894e2f0c9708a5f8b9cea53f0936739d407", func := "ledger/ledgerlaw02.FieldInverts", spec := "fieldInverts", inPlace := ["math/bits.Add64"], named := ["ledger/field.lessTwo"], apart := false, laid := [("ledger/field.lessTwo", laid_ledger_field_lessTwo)], narrowed := true }
def FieldInvertsUptoSaid : Prop := fieldInvertsUptoRow.holds Tryd.pinned (OpenSpec.upto fieldInvertsSpec)

/-- 'ledgerlaw02.FieldRing', WHERE WHAT IT READS IS OF BULK AT MOST 1048576: true; the input reads as it did. -/
def fieldRingUptoRow : OpenClaim := { program := "ytnfbjfbndnmhmaadoor", sum := "638b52550c97586bba4f04f875dff894e2f0c9708a5f8b9cea53f0936739d407", func := "ledger/ledgerlaw02.FieldRing", spec := "fieldRing", inPlace := ["math/bits.Add64"], named := ["ledger/field.twice"], apart := false, laid := [("ledger/field.twice", laid_ledger_field_twice)], narrowed := true }
def FieldRingUptoSaid : Prop := fieldRingUptoRow.holds Tryd.pinned (OpenSpec.upto fieldRingSpec)

/-- 'ledgerlaw02.FieldFermat', WHERE WHAT IT READS IS OF BULK AT MOST 1048576: true; the input reads as it did. -/
def fieldFermatUptoRow : OpenClaim := { program := "ytnfbjfbndnmhmaadoor", sum := "638b52550c97586bba4f04f875dff894e2f0c9708a5f8b9cea53f0936739d407", func := "ledger/ledgerlaw02.FieldFermat", spec := "fieldFermat", inPlace := ["math/bits.Add64"], named := ["ledger/field.lessTwo", "ledger/field.half", "ledger/field.twice"], apart := false, laid := [("ledger/field.lessTwo", laid_ledger_field_lessTwo), ("ledger/field.half", laid_ledger_field_half), ("ledger/field.twice", laid_ledger_field_twice)], narrowed := true }
def FieldFermatUptoSaid : Prop := fieldFermatUptoRow.holds Tryd.pinned (OpenSpec.upto fieldFermatSpec)

/-- 'ledgerlaw02.FieldSymbols', WHERE WHAT IT READS IS OF BULK AT MOST 1048576: true; the input reads as it did. -/
def fieldSymbolsUptoRow : OpenClaim := { program := "ytnfbjfbndnmhmaadoor", sum := "638b52550c97586bba4f04f875dff894e2f0c9708a5f8b9cea53f0936739d407", func := "ledger/ledgerlaw02.FieldSymbols", spec := "fieldSymbols", inPlace := ["math/bits.Add64"], named := ["ledger/field.half", "ledger/field.twice"], apart := false, laid := [("ledger/field.half", laid_ledger_field_half), ("ledger/field.twice", laid_ledger_field_twice)], narrowed := true }
def FieldSymbolsUptoSaid : Prop := fieldSymbolsUptoRow.holds Tryd.pinned (OpenSpec.upto fieldSymbolsSpec)

/-- 'ledgerlaw02.FieldKeeps', WHERE WHAT IT READS IS OF BULK AT MOST 1048576: true; the input reads as it did. -/
def fieldKeepsUptoRow : OpenClaim := { program := "ytnfbjfbndnmhmaadoor", sum := "638b52550c97586bba4f04f875dff894e2f0c9708a5f8b9cea53f0936739d407", func := "ledger/ledgerlaw02.FieldKeeps", spec := "fieldKeeps", inPlace := ["math/bits.Add64"], named := ["ledger/ledgerref02.prime", "ledger/field.lessTwo"], apart := false, laid := [("ledger/ledgerref02.prime", laid_ledger_ledgerref02_prime), ("ledger/field.lessTwo", laid_ledger_field_lessTwo)], narrowed := true }
def FieldKeepsUptoSaid : Prop := fieldKeepsUptoRow.holds Tryd.pinned (OpenSpec.upto fieldKeepsSpec)

/-- 'ledgerlaw02.FieldBatches', WHERE WHAT IT READS IS OF BULK AT MOST 1048576: true; the input reads as it did. -/
def fieldBatchesUptoRow : OpenClaim := { program := "ytnfbjfbndnmhmaadoor", sum := "638b52550c97586bba4f04f875dff894e2f0c9708a5f8b9cea53f0936739d407", func := "ledger/ledgerlaw02.FieldBatches", spec := "fieldBatches", inPlace := ["math/bits.Add64"], named := ["ledger/field.lessTwo"], apart := false, laid := [("ledger/field.lessTwo", laid_ledger_field_lessTwo)], narrowed := true }
def FieldBatchesUptoSaid : Prop := fieldBatchesUptoRow.holds Tryd.pinned (OpenSpec.upto fieldBatchesSpec)

/-- 'ledgerlaw02.FieldRatios', WHERE WHAT IT READS IS OF BULK AT MOST 1048576: true; the input reads as it did. -/
def fieldRatiosUptoRow : OpenClaim := { program := "ytnfbjfbndnmhmaadoor", sum := "638b52550c97586bba4f04f875dff894e2f0c9708a5f8b9cea53f0936739d407", func := "ledger/ledgerlaw02.FieldRatios", spec := "fieldRatios", inPlace := ["math/bits.Add64"], named := ["ledger/ledgerref02.prime", "ledger/field.eighth", "ledger/field.rootOne", "ledger/field.twice", "ledger/field.half"], apart := false, laid := [("ledger/ledgerref02.prime", laid_ledger_ledgerref02_prime), ("ledger/field.eighth", laid_ledger_field_eighth), ("ledger/field.half", laid_ledger_field_half), ("ledger/field.rootOne", laid_ledger_field_rootOne), ("ledger/field.twice", laid_ledger_field_twice)], narrowed := true }
def FieldRatiosUptoSaid : Prop := fieldRatiosUptoRow.holds Tryd.pinned (OpenSpec.upto fieldRatiosSpec)

/-- 'ledgerlaw02.FieldRoots', WHERE WHAT IT READS IS OF BULK AT MOST 1048576: true; the input reads as it did. -/
def fieldRootsUptoRow : OpenClaim := { program := "ytnfbjfbndnmhmaadoor", sum := "638b52550c97586bba4f04f875dff894e2f0c9708a5f8b9cea53f0936739d407", func := "ledger/ledgerlaw02.FieldRoots", spec := "fieldRoots", inPlace := ["math/bits.Add64"], named := ["ledger/field.eighth", "ledger/field.rootOne", "ledger/field.twice", "ledger/field.half"], apart := false, laid := [("ledger/field.eighth", laid_ledger_field_eighth), ("ledger/field.half", laid_ledger_field_half), ("ledger/field.rootOne", laid_ledger_field_rootOne), ("ledger/field.twice", laid_ledger_field_twice)], narrowed := true }
def FieldRootsUptoSaid : Prop := fieldRootsUptoRow.holds Tryd.pinned (OpenSpec.upto fieldRootsSpec)

/-- 'ledgerlaw02.FieldAll', WHERE WHAT IT READS IS OF BULK AT MOST 1048576: true; the input reads as it did. -/
def fieldAllUptoRow : OpenClaim := { program := "ytnfbjfbndnmhmaadoor", sum := "638b52550c97586bba4f04f875dff894e2f0c9708a5f8b9cea53f0936739d407", func := "ledger/ledgerlaw02.FieldAll", spec := "fieldAll", inPlace := ["math/bits.Add64"], named := ["ledger/ledgerref02.prime", "ledger/field.half", "ledger/field.twice", "ledger/field.lessTwo", "ledger/field.eighth", "ledger/field.rootOne"], apart := false, laid := [("ledger/ledgerref02.prime", laid_ledger_ledgerref02_prime), ("ledger/field.lessTwo", laid_ledger_field_lessTwo), ("ledger/field.eighth", laid_ledger_field_eighth), ("ledger/field.half", laid_ledger_field_half), ("ledger/field.rootOne", laid_ledger_field_rootOne), ("ledger/field.twice", laid_ledger_field_twice)], narrowed := true }
def FieldAllUptoSaid : Prop := fieldAllUptoRow.holds Tryd.pinned (OpenSpec.upto fieldAllSpec)

end Rows
end Go.Proofs.YtnfbjfbndnmhmaaDoor
