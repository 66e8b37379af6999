/-
  NARROWER THAN 'FOR EVERY INPUT', by the rows' own cells (each row's printed sentence says how): PointFirst: laid · PointDecodes: laid · PointPairs: laid · PointForms: laid · PointGroup: laid · PointBack: laid · PointTimes: laid · PointEquation: laid · PointLinear: laid · PointSteps: laid · PointBoth: laid · PointSmall: laid · PointOrder: laid.
  DERIVED. THE GIVEN ROWS OF THIS SEAT. 13 by the template 'for every input the law returns true; each argument reads behind the call as it read before'; 0 by the template 'total and deterministic' (their statements: YtnbjbamoddmbhaaDoorTotals.lean).
  GIVEN WITH THE SEED: the statements are not yours to turn. If you find one false, say at which input.
  Laid BY PROGRAM, IN A SANDBOX (cutbox-rows.mjs): the forced cells as the released guide's own fill.sh prints them over the translation dcc917d0fc4a617a… (all of the seat's roots in one cut). By AI agents, Wed Nov 11 2026. No macro, syntax, notation, axiom, sorry.
-/
import Derived.Test.YtnbjbamoddmbhaaDoorChecked
import GoSem.Claim
import GoSem.ClaimJoined
import GoSem.ClaimMapViews
import Derived.JoinedTies
import Derived.KernelRfl
namespace Go.Proofs.YtnbjbamoddmbhaaDoor
/- THE CELL 'sum', in the pinned program and in every row, IS THE sha256 OF THE DUMP (.gsa) THAT YtnbjbamoddmbhaaDoorProg.lean LOADS. Nothing in Lean hashes anything: it is a label: what it is worth is what the hold of that sum in a sandbox is worth. -/
noncomputable def Tryd.pinned : Pinned := { name := "ytnbjbamoddmbhaadoor", sum := "dcc917d0fc4a617a3d045dc099d951f6091b372fd592d84daa5703babc34180b", checked := Tryd.checked }
namespace Rows
def none {H : Type} : Left H := { results := [], args := [] }

/- WHAT THE LISTED PACKAGE-LEVEL VARIABLES READ AS WHEN THE CALL BEGINS. Each datum BY PROGRAM (the guide's laid-datum.mjs) off the statement by which the dump's own 'gosem.cut.vars' lays the variable. In a bare row this is a premise. The card (YtnbjbamoddmbhaaDoorCards.lean) ties it to the program's text. -/
def laid_ledger_ledgerref04_dBytes {H : Type} : DataW H := .agg [.lit (.int .u8 163), .lit (.int .u8 120), .lit (.int .u8 89), .lit (.int .u8 19), .lit (.int .u8 202), .lit (.int .u8 77), .lit (.int .u8 235), .lit (.int .u8 117), .lit (.int .u8 171), .lit (.int .u8 216), .lit (.int .u8 65), .lit (.int .u8 65), .lit (.int .u8 77), .lit (.int .u8 10), .lit (.int .u8 112), .lit (.int .u8 0), .lit (.int .u8 152), .lit (.int .u8 232), .lit (.int .u8 121), .lit (.int .u8 119), .lit (.int .u8 121), .lit (.int .u8 64), .lit (.int .u8 199), .lit (.int .u8 140), .lit (.int .u8 115), .lit (.int .u8 254), .lit (.int .u8 111), .lit (.int .u8 43), .lit (.int .u8 238), .lit (.int .u8 108), .lit (.int .u8 3), .lit (.int .u8 82)]
def laid_ledger_point_zero {H : Type} : DataW H := .agg [.lit (.int .u8 0), .lit (.int .u8 0), .lit (.int .u8 0), .lit (.int .u8 0), .lit (.int .u8 0), .lit (.int .u8 0), .lit (.int .u8 0), .lit (.int .u8 0), .lit (.int .u8 0), .lit (.int .u8 0), .lit (.int .u8 0), .lit (.int .u8 0), .lit (.int .u8 0), .lit (.int .u8 0), .lit (.int .u8 0), .lit (.int .u8 0), .lit (.int .u8 0), .lit (.int .u8 0), .lit (.int .u8 0), .lit (.int .u8 0), .lit (.int .u8 0), .lit (.int .u8 0), .lit (.int .u8 0), .lit (.int .u8 0), .lit (.int .u8 0), .lit (.int .u8 0), .lit (.int .u8 0), .lit (.int .u8 0), .lit (.int .u8 0), .lit (.int .u8 0), .lit (.int .u8 0), .lit (.int .u8 0)]
def laid_ledger_point_one {H : Type} : DataW H := .agg [.lit (.int .u8 1), .lit (.int .u8 0), .lit (.int .u8 0), .lit (.int .u8 0), .lit (.int .u8 0), .lit (.int .u8 0), .lit (.int .u8 0), .lit (.int .u8 0), .lit (.int .u8 0), .lit (.int .u8 0), .lit (.int .u8 0), .lit (.int .u8 0), .lit (.int .u8 0), .lit (.int .u8 0), .lit (.int .u8 0), .lit (.int .u8 0), .lit (.int .u8 0), .lit (.int .u8 0), .lit (.int .u8 0), .lit (.int .u8 0), .lit (.int .u8 0), .lit (.int .u8 0), .lit (.int .u8 0), .lit (.int .u8 0), .lit (.int .u8 0), .lit (.int .u8 0), .lit (.int .u8 0), .lit (.int .u8 0), .lit (.int .u8 0), .lit (.int .u8 0), .lit (.int .u8 0), .lit (.int .u8 0)]
def laid_ledger_point_base {H : Type} : DataW H := .agg [.agg [.lit (.int .u8 26), .lit (.int .u8 213), .lit (.int .u8 37), .lit (.int .u8 143), .lit (.int .u8 96), .lit (.int .u8 45), .lit (.int .u8 86), .lit (.int .u8 201), .lit (.int .u8 178), .lit (.int .u8 167), .lit (.int .u8 37), .lit (.int .u8 149), .lit (.int .u8 96), .lit (.int .u8 199), .lit (.int .u8 44), .lit (.int .u8 105), .lit (.int .u8 92), .lit (.int .u8 220), .lit (.int .u8 214), .lit (.int .u8 253), .lit (.int .u8 49), .lit (.int .u8 226), .lit (.int .u8 164), .lit (.int .u8 192), .lit (.int .u8 254), .lit (.int .u8 83), .lit (.int .u8 110), .lit (.int .u8 205), .lit (.int .u8 211), .lit (.int .u8 54), .lit (.int .u8 105), .lit (.int .u8 33)], .agg [.lit (.int .u8 88), .lit (.int .u8 102), .lit (.int .u8 102), .lit (.int .u8 102), .lit (.int .u8 102), .lit (.int .u8 102), .lit (.int .u8 102), .lit (.int .u8 102), .lit (.int .u8 102), .lit (.int .u8 102), .lit (.int .u8 102), .lit (.int .u8 102), .lit (.int .u8 102), .lit (.int .u8 102), .lit (.int .u8 102), .lit (.int .u8 102), .lit (.int .u8 102), .lit (.int .u8 102), .lit (.int .u8 102), .lit (.int .u8 102), .lit (.int .u8 102), .lit (.int .u8 102), .lit (.int .u8 102), .lit (.int .u8 102), .lit (.int .u8 102), .lit (.int .u8 102), .lit (.int .u8 102), .lit (.int .u8 102), .lit (.int .u8 102), .lit (.int .u8 102), .lit (.int .u8 102), .lit (.int .u8 102)]]
def laid_ledger_field_eighth {H : Type} : DataW H := .agg [.lit (.int .u8 253), .lit (.int .u8 255), .lit (.int .u8 255), .lit (.int .u8 255), .lit (.int .u8 255), .lit (.int .u8 255), .lit (.int .u8 255), .lit (.int .u8 255), .lit (.int .u8 255), .lit (.int .u8 255), .lit (.int .u8 255), .lit (.int .u8 255), .lit (.int .u8 255), .lit (.int .u8 255), .lit (.int .u8 255), .lit (.int .u8 255), .lit (.int .u8 255), .lit (.int .u8 255), .lit (.int .u8 255), .lit (.int .u8 255), .lit (.int .u8 255), .lit (.int .u8 255), .lit (.int .u8 255), .lit (.int .u8 255), .lit (.int .u8 255), .lit (.int .u8 255), .lit (.int .u8 255), .lit (.int .u8 255), .lit (.int .u8 255), .lit (.int .u8 255), .lit (.int .u8 255), .lit (.int .u8 15)]
def laid_ledger_field_rootOne {H : Type} : DataW H := .agg [.lit (.int .u8 176), .lit (.int .u8 160), .lit (.int .u8 14), .lit (.int .u8 74), .lit (.int .u8 39), .lit (.int .u8 27), .lit (.int .u8 238), .lit (.int .u8 196), .lit (.int .u8 120), .lit (.int .u8 228), .lit (.int .u8 47), .lit (.int .u8 173), .lit (.int .u8 6), .lit (.int .u8 24), .lit (.int .u8 67), .lit (.int .u8 47), .lit (.int .u8 167), .lit (.int .u8 215), .lit (.int .u8 251), .lit (.int .u8 61), .lit (.int .u8 153), .lit (.int .u8 0), .lit (.int .u8 77), .lit (.int .u8 43), .lit (.int .u8 11), .lit (.int .u8 223), .lit (.int .u8 193), .lit (.int .u8 79), .lit (.int .u8 128), .lit (.int .u8 36), .lit (.int .u8 131), .lit (.int .u8 43)]
def laid_ledger_field_twice {H : Type} : DataW H := .agg [.lit (.int .u64 4503599627370458), .lit (.int .u64 4503599627370494), .lit (.int .u64 4503599627370494), .lit (.int .u64 4503599627370494), .lit (.int .u64 4503599627370494)]
def laid_ledger_point_curve {H : Type} : DataW H := .agg [.lit (.int .u8 163), .lit (.int .u8 120), .lit (.int .u8 89), .lit (.int .u8 19), .lit (.int .u8 202), .lit (.int .u8 77), .lit (.int .u8 235), .lit (.int .u8 117), .lit (.int .u8 171), .lit (.int .u8 216), .lit (.int .u8 65), .lit (.int .u8 65), .lit (.int .u8 77), .lit (.int .u8 10), .lit (.int .u8 112), .lit (.int .u8 0), .lit (.int .u8 152), .lit (.int .u8 232), .lit (.int .u8 121), .lit (.int .u8 119), .lit (.int .u8 121), .lit (.int .u8 64), .lit (.int .u8 199), .lit (.int .u8 140), .lit (.int .u8 115), .lit (.int .u8 254), .lit (.int .u8 111), .lit (.int .u8 43), .lit (.int .u8 238), .lit (.int .u8 108), .lit (.int .u8 3), .lit (.int .u8 82)]
def laid_ledger_field_lessTwo {H : Type} : DataW H := .agg [.lit (.int .u8 235), .lit (.int .u8 255), .lit (.int .u8 255), .lit (.int .u8 255), .lit (.int .u8 255), .lit (.int .u8 255), .lit (.int .u8 255), .lit (.int .u8 255), .lit (.int .u8 255), .lit (.int .u8 255), .lit (.int .u8 255), .lit (.int .u8 255), .lit (.int .u8 255), .lit (.int .u8 255), .lit (.int .u8 255), .lit (.int .u8 255), .lit (.int .u8 255), .lit (.int .u8 255), .lit (.int .u8 255), .lit (.int .u8 255), .lit (.int .u8 255), .lit (.int .u8 255), .lit (.int .u8 255), .lit (.int .u8 255), .lit (.int .u8 255), .lit (.int .u8 255), .lit (.int .u8 255), .lit (.int .u8 255), .lit (.int .u8 255), .lit (.int .u8 255), .lit (.int .u8 255), .lit (.int .u8 127)]
def laid_ledger_field_half {H : Type} : DataW H := .agg [.lit (.int .u8 246), .lit (.int .u8 255), .lit (.int .u8 255), .lit (.int .u8 255), .lit (.int .u8 255), .lit (.int .u8 255), .lit (.int .u8 255), .lit (.int .u8 255), .lit (.int .u8 255), .lit (.int .u8 255), .lit (.int .u8 255), .lit (.int .u8 255), .lit (.int .u8 255), .lit (.int .u8 255), .lit (.int .u8 255), .lit (.int .u8 255), .lit (.int .u8 255), .lit (.int .u8 255), .lit (.int .u8 255), .lit (.int .u8 255), .lit (.int .u8 255), .lit (.int .u8 255), .lit (.int .u8 255), .lit (.int .u8 255), .lit (.int .u8 255), .lit (.int .u8 255), .lit (.int .u8 255), .lit (.int .u8 255), .lit (.int .u8 255), .lit (.int .u8 255), .lit (.int .u8 255), .lit (.int .u8 63)]
def laid_ledger_ledgerlaw04_smallForms {H : Type} : DataW H := .agg [.agg [.lit (.int .u8 1), .lit (.int .u8 0), .lit (.int .u8 0), .lit (.int .u8 0), .lit (.int .u8 0), .lit (.int .u8 0), .lit (.int .u8 0), .lit (.int .u8 0), .lit (.int .u8 0), .lit (.int .u8 0), .lit (.int .u8 0), .lit (.int .u8 0), .lit (.int .u8 0), .lit (.int .u8 0), .lit (.int .u8 0), .lit (.int .u8 0), .lit (.int .u8 0), .lit (.int .u8 0), .lit (.int .u8 0), .lit (.int .u8 0), .lit (.int .u8 0), .lit (.int .u8 0), .lit (.int .u8 0), .lit (.int .u8 0), .lit (.int .u8 0), .lit (.int .u8 0), .lit (.int .u8 0), .lit (.int .u8 0), .lit (.int .u8 0), .lit (.int .u8 0), .lit (.int .u8 0), .lit (.int .u8 0)], .agg [.lit (.int .u8 199), .lit (.int .u8 23), .lit (.int .u8 106), .lit (.int .u8 112), .lit (.int .u8 61), .lit (.int .u8 77), .lit (.int .u8 216), .lit (.int .u8 79), .lit (.int .u8 186), .lit (.int .u8 60), .lit (.int .u8 11), .lit (.int .u8 118), .lit (.int .u8 13), .lit (.int .u8 16), .lit (.int .u8 103), .lit (.int .u8 15), .lit (.int .u8 42), .lit (.int .u8 32), .lit (.int .u8 83), .lit (.int .u8 250), .lit (.int .u8 44), .lit (.int .u8 57), .lit (.int .u8 204), .lit (.int .u8 198), .lit (.int .u8 78), .lit (.int .u8 199), .lit (.int .u8 253), .lit (.int .u8 119), .lit (.int .u8 146), .lit (.int .u8 172), .lit (.int .u8 3), .lit (.int .u8 122)], .agg [.lit (.int .u8 0), .lit (.int .u8 0), .lit (.int .u8 0), .lit (.int .u8 0), .lit (.int .u8 0), .lit (.int .u8 0), .lit (.int .u8 0), .lit (.int .u8 0), .lit (.int .u8 0), .lit (.int .u8 0), .lit (.int .u8 0), .lit (.int .u8 0), .lit (.int .u8 0), .lit (.int .u8 0), .lit (.int .u8 0), .lit (.int .u8 0), .lit (.int .u8 0), .lit (.int .u8 0), .lit (.int .u8 0), .lit (.int .u8 0), .lit (.int .u8 0), .lit (.int .u8 0), .lit (.int .u8 0), .lit (.int .u8 0), .lit (.int .u8 0), .lit (.int .u8 0), .lit (.int .u8 0), .lit (.int .u8 0), .lit (.int .u8 0), .lit (.int .u8 0), .lit (.int .u8 0), .lit (.int .u8 128)], .agg [.lit (.int .u8 38), .lit (.int .u8 232), .lit (.int .u8 149), .lit (.int .u8 143), .lit (.int .u8 194), .lit (.int .u8 178), .lit (.int .u8 39), .lit (.int .u8 176), .lit (.int .u8 69), .lit (.int .u8 195), .lit (.int .u8 244), .lit (.int .u8 137), .lit (.int .u8 242), .lit (.int .u8 239), .lit (.int .u8 152), .lit (.int .u8 240), .lit (.int .u8 213), .lit (.int .u8 223), .lit (.int .u8 172), .lit (.int .u8 5), .lit (.int .u8 211), .lit (.int .u8 198), .lit (.int .u8 51), .lit (.int .u8 57), .lit (.int .u8 177), .lit (.int .u8 56), .lit (.int .u8 2), .lit (.int .u8 136), .lit (.int .u8 109), .lit (.int .u8 83), .lit (.int .u8 252), .lit (.int .u8 5)], .agg [.lit (.int .u8 236), .lit (.int .u8 255), .lit (.int .u8 255), .lit (.int .u8 255), .lit (.int .u8 255), .lit (.int .u8 255), .lit (.int .u8 255), .lit (.int .u8 255), .lit (.int .u8 255), .lit (.int .u8 255), .lit (.int .u8 255), .lit (.int .u8 255), .lit (.int .u8 255), .lit (.int .u8 255), .lit (.int .u8 255), .lit (.int .u8 255), .lit (.int .u8 255), .lit (.int .u8 255), .lit (.int .u8 255), .lit (.int .u8 255), .lit (.int .u8 255), .lit (.int .u8 255), .lit (.int .u8 255), .lit (.int .u8 255), .lit (.int .u8 255), .lit (.int .u8 255), .lit (.int .u8 255), .lit (.int .u8 255), .lit (.int .u8 255), .lit (.int .u8 255), .lit (.int .u8 255), .lit (.int .u8 127)], .agg [.lit (.int .u8 38), .lit (.int .u8 232), .lit (.int .u8 149), .lit (.int .u8 143), .lit (.int .u8 194), .lit (.int .u8 178), .lit (.int .u8 39), .lit (.int .u8 176), .lit (.int .u8 69), .lit (.int .u8 195), .lit (.int .u8 244), .lit (.int .u8 137), .lit (.int .u8 242), .lit (.int .u8 239), .lit (.int .u8 152), .lit (.int .u8 240), .lit (.int .u8 213), .lit (.int .u8 223), .lit (.int .u8 172), .lit (.int .u8 5), .lit (.int .u8 211), .lit (.int .u8 198), .lit (.int .u8 51), .lit (.int .u8 57), .lit (.int .u8 177), .lit (.int .u8 56), .lit (.int .u8 2), .lit (.int .u8 136), .lit (.int .u8 109), .lit (.int .u8 83), .lit (.int .u8 252), .lit (.int .u8 133)], .agg [.lit (.int .u8 0), .lit (.int .u8 0), .lit (.int .u8 0), .lit (.int .u8 0), .lit (.int .u8 0), .lit (.int .u8 0), .lit (.int .u8 0), .lit (.int .u8 0), .lit (.int .u8 0), .lit (.int .u8 0), .lit (.int .u8 0), .lit (.int .u8 0), .lit (.int .u8 0), .lit (.int .u8 0), .lit (.int .u8 0), .lit (.int .u8 0), .lit (.int .u8 0), .lit (.int .u8 0), .lit (.int .u8 0), .lit (.int .u8 0), .lit (.int .u8 0), .lit (.int .u8 0), .lit (.int .u8 0), .lit (.int .u8 0), .lit (.int .u8 0), .lit (.int .u8 0), .lit (.int .u8 0), .lit (.int .u8 0), .lit (.int .u8 0), .lit (.int .u8 0), .lit (.int .u8 0), .lit (.int .u8 0)], .agg [.lit (.int .u8 199), .lit (.int .u8 23), .lit (.int .u8 106), .lit (.int .u8 112), .lit (.int .u8 61), .lit (.int .u8 77), .lit (.int .u8 216), .lit (.int .u8 79), .lit (.int .u8 186), .lit (.int .u8 60), .lit (.int .u8 11), .lit (.int .u8 118), .lit (.int .u8 13), .lit (.int .u8 16), .lit (.int .u8 103), .lit (.int .u8 15), .lit (.int .u8 42), .lit (.int .u8 32), .lit (.int .u8 83), .lit (.int .u8 250), .lit (.int .u8 44), .lit (.int .u8 57), .lit (.int .u8 204), .lit (.int .u8 198), .lit (.int .u8 78), .lit (.int .u8 199), .lit (.int .u8 253), .lit (.int .u8 119), .lit (.int .u8 146), .lit (.int .u8 172), .lit (.int .u8 3), .lit (.int .u8 250)]]
def laid_ledger_scalar_multiples {H : Type} : DataW H := .agg [.agg [.lit (.int .u64 0), .lit (.int .u64 0), .lit (.int .u64 0), .lit (.int .u64 0), .lit (.int .u64 0)], .agg [.lit (.int .u64 6346243789798364141), .lit (.int .u64 1503914060200516822), .lit (.int .u64 0), .lit (.int .u64 1152921504606846976), .lit (.int .u64 0)], .agg [.lit (.int .u64 12692487579596728282), .lit (.int .u64 3007828120401033644), .lit (.int .u64 0), .lit (.int .u64 2305843009213693952), .lit (.int .u64 0)], .agg [.lit (.int .u64 591987295685540807), .lit (.int .u64 4511742180601550467), .lit (.int .u64 0), .lit (.int .u64 3458764513820540928), .lit (.int .u64 0)], .agg [.lit (.int .u64 6938231085483904948), .lit (.int .u64 6015656240802067289), .lit (.int .u64 0), .lit (.int .u64 4611686018427387904), .lit (.int .u64 0)], .agg [.lit (.int .u64 13284474875282269089), .lit (.int .u64 7519570301002584111), .lit (.int .u64 0), .lit (.int .u64 5764607523034234880), .lit (.int .u64 0)], .agg [.lit (.int .u64 1183974591371081614), .lit (.int .u64 9023484361203100934), .lit (.int .u64 0), .lit (.int .u64 6917529027641081856), .lit (.int .u64 0)], .agg [.lit (.int .u64 7530218381169445755), .lit (.int .u64 10527398421403617756), .lit (.int .u64 0), .lit (.int .u64 8070450532247928832), .lit (.int .u64 0)], .agg [.lit (.int .u64 13876462170967809896), .lit (.int .u64 12031312481604134578), .lit (.int .u64 0), .lit (.int .u64 9223372036854775808), .lit (.int .u64 0)], .agg [.lit (.int .u64 1775961887056622421), .lit (.int .u64 13535226541804651401), .lit (.int .u64 0), .lit (.int .u64 10376293541461622784), .lit (.int .u64 0)], .agg [.lit (.int .u64 8122205676854986562), .lit (.int .u64 15039140602005168223), .lit (.int .u64 0), .lit (.int .u64 11529215046068469760), .lit (.int .u64 0)], .agg [.lit (.int .u64 14468449466653350703), .lit (.int .u64 16543054662205685045), .lit (.int .u64 0), .lit (.int .u64 12682136550675316736), .lit (.int .u64 0)], .agg [.lit (.int .u64 2367949182742163228), .lit (.int .u64 18046968722406201868), .lit (.int .u64 0), .lit (.int .u64 13835058055282163712), .lit (.int .u64 0)], .agg [.lit (.int .u64 8714192972540527369), .lit (.int .u64 1104138708897167074), .lit (.int .u64 1), .lit (.int .u64 14987979559889010688), .lit (.int .u64 0)], .agg [.lit (.int .u64 15060436762338891510), .lit (.int .u64 2608052769097683896), .lit (.int .u64 1), .lit (.int .u64 16140901064495857664), .lit (.int .u64 0)], .agg [.lit (.int .u64 2959936478427704035), .lit (.int .u64 4111966829298200719), .lit (.int .u64 1), .lit (.int .u64 17293822569102704640), .lit (.int .u64 0)], .agg [.lit (.int .u64 9306180268226068176), .lit (.int .u64 5615880889498717541), .lit (.int .u64 1), .lit (.int .u64 0), .lit (.int .u64 1)]]
def laid_ledger_scalar_order {H : Type} : DataW H := .agg [.lit (.int .u8 237), .lit (.int .u8 211), .lit (.int .u8 245), .lit (.int .u8 92), .lit (.int .u8 26), .lit (.int .u8 99), .lit (.int .u8 18), .lit (.int .u8 88), .lit (.int .u8 214), .lit (.int .u8 156), .lit (.int .u8 247), .lit (.int .u8 162), .lit (.int .u8 222), .lit (.int .u8 249), .lit (.int .u8 222), .lit (.int .u8 20), .lit (.int .u8 0), .lit (.int .u8 0), .lit (.int .u8 0), .lit (.int .u8 0), .lit (.int .u8 0), .lit (.int .u8 0), .lit (.int .u8 0), .lit (.int .u8 0), .lit (.int .u8 0), .lit (.int .u8 0), .lit (.int .u8 0), .lit (.int .u8 0), .lit (.int .u8 0), .lit (.int .u8 0), .lit (.int .u8 0), .lit (.int .u8 16)]

/-- 'ledgerlaw04.PointFirst': WHATEVER THE INPUT: true; the input reads as it did. -/
def pointFirstSpec : ChangeSpec := { name := "pointFirst", fn := fun _ => fun
  | [] => { results := [.lit (.bool true)], args := [] }
  | _ => none }
def pointFirstRow : OpenClaim := { program := "ytnbjbamoddmbhaadoor", sum := "dcc917d0fc4a617a3d045dc099d951f6091b372fd592d84daa5703babc34180b", func := "ledger/ledgerlaw04.PointFirst", spec := "pointFirst", named := ["ledger/point.zero", "ledger/point.one", "ledger/point.base", "ledger/ledgerref04.dBytes"], apart := false, laid := [("ledger/ledgerref04.dBytes", laid_ledger_ledgerref04_dBytes), ("ledger/point.zero", laid_ledger_point_zero), ("ledger/point.one", laid_ledger_point_one), ("ledger/point.base", laid_ledger_point_base)] }
def PointFirstSaid : Prop := pointFirstRow.holds Tryd.pinned (OpenSpec.ofChange pointFirstSpec)

/-- ITS FALSE NEIGHBOUR: 'it returns false'. Refute it at one input. -/
def pointFirstWrong : ChangeSpec := { name := "pointFirst", fn := fun _ => fun
  | [] => { results := [.lit (.bool false)], args := [] }
  | _ => none }
def PointFirstWrongFalsely : Prop := pointFirstRow.holds Tryd.pinned (OpenSpec.ofChange pointFirstWrong)

/-- 'ledgerlaw04.PointDecodes': WHATEVER THE INPUT: true; the input reads as it did. -/
def pointDecodesSpec : ChangeSpec := { name := "pointDecodes", fn := fun _ => fun
  | [d] => { results := [.lit (.bool true)], args := [d] }
  | _ => none }
def pointDecodesRow : OpenClaim := { program := "ytnbjbamoddmbhaadoor", sum := "dcc917d0fc4a617a3d045dc099d951f6091b372fd592d84daa5703babc34180b", func := "ledger/ledgerlaw04.PointDecodes", spec := "pointDecodes", inPlace := ["math/bits.Add64"], named := ["ledger/point.one", "ledger/point.curve", "ledger/point.zero", "ledger/field.twice", "ledger/field.eighth", "ledger/field.rootOne", "ledger/ledgerref04.dBytes"], apart := false, laid := [("ledger/ledgerref04.dBytes", laid_ledger_ledgerref04_dBytes), ("ledger/field.eighth", laid_ledger_field_eighth), ("ledger/field.rootOne", laid_ledger_field_rootOne), ("ledger/field.twice", laid_ledger_field_twice), ("ledger/point.zero", laid_ledger_point_zero), ("ledger/point.one", laid_ledger_point_one), ("ledger/point.curve", laid_ledger_point_curve)] }
def PointDecodesSaid : Prop := pointDecodesRow.holds Tryd.pinned (OpenSpec.ofChange pointDecodesSpec)

/-- ITS FALSE NEIGHBOUR: 'it returns false'. Refute it at one input. -/
def pointDecodesWrong : ChangeSpec := { name := "pointDecodes", fn := fun _ => fun
  | [d] => { results := [.lit (.bool false)], args := [d] }
  | _ => none }
def PointDecodesWrongFalsely : Prop := pointDecodesRow.holds Tryd.pinned (OpenSpec.ofChange pointDecodesWrong)

/-- 'ledgerlaw04.PointPairs': WHATEVER THE INPUT: true; the input reads as it did. -/
def pointPairsSpec : ChangeSpec := { name := "pointPairs", fn := fun _ => fun
  | [d1, d2] => { results := [.lit (.bool true)], args := [d1, d2] }
  | _ => none }
def pointPairsRow : OpenClaim := { program := "ytnbjbamoddmbhaadoor", sum := "dcc917d0fc4a617a3d045dc099d951f6091b372fd592d84daa5703babc34180b", func := "ledger/ledgerlaw04.PointPairs", spec := "pointPairs", inPlace := ["math/bits.Add64"], named := ["ledger/point.one", "ledger/point.curve", "ledger/field.twice", "ledger/ledgerref04.dBytes", "ledger/field.lessTwo", "ledger/point.zero"], apart := false, laid := [("ledger/ledgerref04.dBytes", laid_ledger_ledgerref04_dBytes), ("ledger/field.lessTwo", laid_ledger_field_lessTwo), ("ledger/field.twice", laid_ledger_field_twice), ("ledger/point.zero", laid_ledger_point_zero), ("ledger/point.one", laid_ledger_point_one), ("ledger/point.curve", laid_ledger_point_curve)] }
def PointPairsSaid : Prop := pointPairsRow.holds Tryd.pinned (OpenSpec.ofChange pointPairsSpec)

/-- ITS FALSE NEIGHBOUR: 'it returns false'. Refute it at one input. -/
def pointPairsWrong : ChangeSpec := { name := "pointPairs", fn := fun _ => fun
  | [d1, d2] => { results := [.lit (.bool false)], args := [d1, d2] }
  | _ => none }
def PointPairsWrongFalsely : Prop := pointPairsRow.holds Tryd.pinned (OpenSpec.ofChange pointPairsWrong)

/-- 'ledgerlaw04.PointForms': WHATEVER THE INPUT: true; the input reads as it did. -/
def pointFormsSpec : ChangeSpec := { name := "pointForms", fn := fun _ => fun
  | [d] => { results := [.lit (.bool true)], args := [d] }
  | _ => none }
def pointFormsRow : OpenClaim := { program := "ytnbjbamoddmbhaadoor", sum := "dcc917d0fc4a617a3d045dc099d951f6091b372fd592d84daa5703babc34180b", func := "ledger/ledgerlaw04.PointForms", spec := "pointForms", inPlace := ["math/bits.Add64"], named := ["ledger/point.base", "ledger/point.one", "ledger/point.curve", "ledger/field.twice", "ledger/field.lessTwo", "ledger/point.zero", "ledger/field.eighth", "ledger/field.rootOne", "ledger/field.half"], apart := false, laid := [("ledger/field.lessTwo", laid_ledger_field_lessTwo), ("ledger/field.eighth", laid_ledger_field_eighth), ("ledger/field.half", laid_ledger_field_half), ("ledger/field.rootOne", laid_ledger_field_rootOne), ("ledger/field.twice", laid_ledger_field_twice), ("ledger/point.zero", laid_ledger_point_zero), ("ledger/point.one", laid_ledger_point_one), ("ledger/point.curve", laid_ledger_point_curve), ("ledger/point.base", laid_ledger_point_base)] }
def PointFormsSaid : Prop := pointFormsRow.holds Tryd.pinned (OpenSpec.ofChange pointFormsSpec)

/-- ITS FALSE NEIGHBOUR: 'it returns false'. Refute it at one input. -/
def pointFormsWrong : ChangeSpec := { name := "pointForms", fn := fun _ => fun
  | [d] => { results := [.lit (.bool false)], args := [d] }
  | _ => none }
def PointFormsWrongFalsely : Prop := pointFormsRow.holds Tryd.pinned (OpenSpec.ofChange pointFormsWrong)

/-- 'ledgerlaw04.PointGroup': WHATEVER THE INPUT: true; the input reads as it did. -/
def pointGroupSpec : ChangeSpec := { name := "pointGroup", fn := fun _ => fun
  | [d1, d2, d3] => { results := [.lit (.bool true)], args := [d1, d2, d3] }
  | _ => none }
def pointGroupRow : OpenClaim := { program := "ytnbjbamoddmbhaadoor", sum := "dcc917d0fc4a617a3d045dc099d951f6091b372fd592d84daa5703babc34180b", func := "ledger/ledgerlaw04.PointGroup", spec := "pointGroup", inPlace := ["math/bits.Add64"], named := ["ledger/point.base", "ledger/point.one", "ledger/point.curve", "ledger/field.twice", "ledger/field.lessTwo", "ledger/ledgerlaw04.smallForms", "ledger/point.zero", "ledger/field.eighth", "ledger/field.rootOne"], apart := false, laid := [("ledger/field.lessTwo", laid_ledger_field_lessTwo), ("ledger/field.eighth", laid_ledger_field_eighth), ("ledger/field.rootOne", laid_ledger_field_rootOne), ("ledger/field.twice", laid_ledger_field_twice), ("ledger/point.zero", laid_ledger_point_zero), ("ledger/point.one", laid_ledger_point_one), ("ledger/point.curve", laid_ledger_point_curve), ("ledger/point.base", laid_ledger_point_base), ("ledger/ledgerlaw04.smallForms", laid_ledger_ledgerlaw04_smallForms)] }
def PointGroupSaid : Prop := pointGroupRow.holds Tryd.pinned (OpenSpec.ofChange pointGroupSpec)

/-- ITS FALSE NEIGHBOUR: 'it returns false'. Refute it at one input. -/
def pointGroupWrong : ChangeSpec := { name := "pointGroup", fn := fun _ => fun
  | [d1, d2, d3] => { results := [.lit (.bool false)], args := [d1, d2, d3] }
  | _ => none }
def PointGroupWrongFalsely : Prop := pointGroupRow.holds Tryd.pinned (OpenSpec.ofChange pointGroupWrong)

/-- 'ledgerlaw04.PointBack': WHATEVER THE INPUT: true; the input reads as it did. -/
def pointBackSpec : ChangeSpec := { name := "pointBack", fn := fun _ => fun
  | [d1, d2] => { results := [.lit (.bool true)], args := [d1, d2] }
  | _ => none }
def pointBackRow : OpenClaim := { program := "ytnbjbamoddmbhaadoor", sum := "dcc917d0fc4a617a3d045dc099d951f6091b372fd592d84daa5703babc34180b", func := "ledger/ledgerlaw04.PointBack", spec := "pointBack", inPlace := ["math/bits.Add64"], named := ["ledger/point.base", "ledger/point.one", "ledger/point.curve", "ledger/field.twice", "ledger/field.lessTwo", "ledger/ledgerlaw04.smallForms", "ledger/point.zero", "ledger/field.eighth", "ledger/field.rootOne"], apart := false, laid := [("ledger/field.lessTwo", laid_ledger_field_lessTwo), ("ledger/field.eighth", laid_ledger_field_eighth), ("ledger/field.rootOne", laid_ledger_field_rootOne), ("ledger/field.twice", laid_ledger_field_twice), ("ledger/point.zero", laid_ledger_point_zero), ("ledger/point.one", laid_ledger_point_one), ("ledger/point.curve", laid_ledger_point_curve), ("ledger/point.base", laid_ledger_point_base), ("ledger/ledgerlaw04.smallForms", laid_ledger_ledgerlaw04_smallForms)] }
def PointBackSaid : Prop := pointBackRow.holds Tryd.pinned (OpenSpec.ofChange pointBackSpec)

/-- ITS FALSE NEIGHBOUR: 'it returns false'. Refute it at one input. -/
def pointBackWrong : ChangeSpec := { name := "pointBack", fn := fun _ => fun
  | [d1, d2] => { results := [.lit (.bool false)], args := [d1, d2] }
  | _ => none }
def PointBackWrongFalsely : Prop := pointBackRow.holds Tryd.pinned (OpenSpec.ofChange pointBackWrong)

/-- 'ledgerlaw04.PointTimes': WHATEVER THE INPUT: true; the input reads as it did. -/
def pointTimesSpec : ChangeSpec := { name := "pointTimes", fn := fun _ => fun
  | [d1, d2, d3] => { results := [.lit (.bool true)], args := [d1, d2, d3] }
  | _ => none }
def pointTimesRow : OpenClaim := { program := "ytnbjbamoddmbhaadoor", sum := "dcc917d0fc4a617a3d045dc099d951f6091b372fd592d84daa5703babc34180b", func := "ledger/ledgerlaw04.PointTimes", spec := "pointTimes", inPlace := ["math/bits.Add64", "math/bits.Sub64"], named := ["ledger/point.one", "ledger/point.curve", "ledger/field.twice", "ledger/point.zero", "ledger/field.lessTwo", "ledger/ledgerref04.dBytes", "ledger/point.base"], apart := false, laid := [("ledger/ledgerref04.dBytes", laid_ledger_ledgerref04_dBytes), ("ledger/field.lessTwo", laid_ledger_field_lessTwo), ("ledger/field.twice", laid_ledger_field_twice), ("ledger/point.zero", laid_ledger_point_zero), ("ledger/point.one", laid_ledger_point_one), ("ledger/point.curve", laid_ledger_point_curve), ("ledger/point.base", laid_ledger_point_base)] }
def PointTimesSaid : Prop := pointTimesRow.holds Tryd.pinned (OpenSpec.ofChange pointTimesSpec)

/-- ITS FALSE NEIGHBOUR: 'it returns false'. Refute it at one input. -/
def pointTimesWrong : ChangeSpec := { name := "pointTimes", fn := fun _ => fun
  | [d1, d2, d3] => { results := [.lit (.bool false)], args := [d1, d2, d3] }
  | _ => none }
def PointTimesWrongFalsely : Prop := pointTimesRow.holds Tryd.pinned (OpenSpec.ofChange pointTimesWrong)

/-- 'ledgerlaw04.PointEquation': WHATEVER THE INPUT: true; the input reads as it did. -/
def pointEquationSpec : ChangeSpec := { name := "pointEquation", fn := fun _ => fun
  | [d] => { results := [.lit (.bool true)], args := [d] }
  | _ => none }
def pointEquationRow : OpenClaim := { program := "ytnbjbamoddmbhaadoor", sum := "dcc917d0fc4a617a3d045dc099d951f6091b372fd592d84daa5703babc34180b", func := "ledger/ledgerlaw04.PointEquation", spec := "pointEquation", inPlace := ["math/bits.Add64", "math/bits.Sub64"], named := ["ledger/point.base", "ledger/point.one", "ledger/point.curve", "ledger/field.twice", "ledger/field.lessTwo", "ledger/point.zero"], apart := false, laid := [("ledger/field.lessTwo", laid_ledger_field_lessTwo), ("ledger/field.twice", laid_ledger_field_twice), ("ledger/point.zero", laid_ledger_point_zero), ("ledger/point.one", laid_ledger_point_one), ("ledger/point.curve", laid_ledger_point_curve), ("ledger/point.base", laid_ledger_point_base)] }
def PointEquationSaid : Prop := pointEquationRow.holds Tryd.pinned (OpenSpec.ofChange pointEquationSpec)

/-- ITS FALSE NEIGHBOUR: 'it returns false'. Refute it at one input. -/
def pointEquationWrong : ChangeSpec := { name := "pointEquation", fn := fun _ => fun
  | [d] => { results := [.lit (.bool false)], args := [d] }
  | _ => none }
def PointEquationWrongFalsely : Prop := pointEquationRow.holds Tryd.pinned (OpenSpec.ofChange pointEquationWrong)

/-- 'ledgerlaw04.PointLinear': WHATEVER THE INPUT: true; the input reads as it did. -/
def pointLinearSpec : ChangeSpec := { name := "pointLinear", fn := fun _ => fun
  | [d1, d2, d3] => { results := [.lit (.bool true)], args := [d1, d2, d3] }
  | _ => none }
def pointLinearRow : OpenClaim := { program := "ytnbjbamoddmbhaadoor", sum := "dcc917d0fc4a617a3d045dc099d951f6091b372fd592d84daa5703babc34180b", func := "ledger/ledgerlaw04.PointLinear", spec := "pointLinear", inPlace := ["math/bits.Add64", "math/bits.Sub64"], named := ["ledger/point.base", "ledger/point.one", "ledger/point.curve", "ledger/field.twice", "ledger/field.lessTwo", "ledger/ledgerlaw04.smallForms", "ledger/point.zero", "ledger/field.eighth", "ledger/field.rootOne"], apart := false, laid := [("ledger/field.lessTwo", laid_ledger_field_lessTwo), ("ledger/field.eighth", laid_ledger_field_eighth), ("ledger/field.rootOne", laid_ledger_field_rootOne), ("ledger/field.twice", laid_ledger_field_twice), ("ledger/point.zero", laid_ledger_point_zero), ("ledger/point.one", laid_ledger_point_one), ("ledger/point.curve", laid_ledger_point_curve), ("ledger/point.base", laid_ledger_point_base), ("ledger/ledgerlaw04.smallForms", laid_ledger_ledgerlaw04_smallForms)] }
def PointLinearSaid : Prop := pointLinearRow.holds Tryd.pinned (OpenSpec.ofChange pointLinearSpec)

/-- ITS FALSE NEIGHBOUR: 'it returns false'. Refute it at one input. -/
def pointLinearWrong : ChangeSpec := { name := "pointLinear", fn := fun _ => fun
  | [d1, d2, d3] => { results := [.lit (.bool false)], args := [d1, d2, d3] }
  | _ => none }
def PointLinearWrongFalsely : Prop := pointLinearRow.holds Tryd.pinned (OpenSpec.ofChange pointLinearWrong)

/-- 'ledgerlaw04.PointSteps': WHATEVER THE INPUT: true; the input reads as it did. -/
def pointStepsSpec : ChangeSpec := { name := "pointSteps", fn := fun _ => fun
  | [d1, d2, d3] => { results := [.lit (.bool true)], args := [d1, d2, d3] }
  | _ => none }
def pointStepsRow : OpenClaim := { program := "ytnbjbamoddmbhaadoor", sum := "dcc917d0fc4a617a3d045dc099d951f6091b372fd592d84daa5703babc34180b", func := "ledger/ledgerlaw04.PointSteps", spec := "pointSteps", inPlace := ["math/bits.Add64", "math/bits.Sub64"], named := ["ledger/point.base", "ledger/point.one", "ledger/point.curve", "ledger/field.twice", "ledger/field.lessTwo", "ledger/ledgerlaw04.smallForms", "ledger/point.zero", "ledger/field.eighth", "ledger/field.rootOne"], apart := false, laid := [("ledger/field.lessTwo", laid_ledger_field_lessTwo), ("ledger/field.eighth", laid_ledger_field_eighth), ("ledger/field.rootOne", laid_ledger_field_rootOne), ("ledger/field.twice", laid_ledger_field_twice), ("ledger/point.zero", laid_ledger_point_zero), ("ledger/point.one", laid_ledger_point_one), ("ledger/point.curve", laid_ledger_point_curve), ("ledger/point.base", laid_ledger_point_base), ("ledger/ledgerlaw04.smallForms", laid_ledger_ledgerlaw04_smallForms)] }
def PointStepsSaid : Prop := pointStepsRow.holds Tryd.pinned (OpenSpec.ofChange pointStepsSpec)

/-- ITS FALSE NEIGHBOUR: 'it returns false'. Refute it at one input. -/
def pointStepsWrong : ChangeSpec := { name := "pointSteps", fn := fun _ => fun
  | [d1, d2, d3] => { results := [.lit (.bool false)], args := [d1, d2, d3] }
  | _ => none }
def PointStepsWrongFalsely : Prop := pointStepsRow.holds Tryd.pinned (OpenSpec.ofChange pointStepsWrong)

/-- 'ledgerlaw04.PointBoth': WHATEVER THE INPUT: true; the input reads as it did. -/
def pointBothSpec : ChangeSpec := { name := "pointBoth", fn := fun _ => fun
  | [d1, d2, d3] => { results := [.lit (.bool true)], args := [d1, d2, d3] }
  | _ => none }
def pointBothRow : OpenClaim := { program := "ytnbjbamoddmbhaadoor", sum := "dcc917d0fc4a617a3d045dc099d951f6091b372fd592d84daa5703babc34180b", func := "ledger/ledgerlaw04.PointBoth", spec := "pointBoth", inPlace := ["math/bits.Add64", "math/bits.Sub64"], named := ["ledger/point.base", "ledger/point.one", "ledger/point.curve", "ledger/field.twice", "ledger/field.lessTwo", "ledger/ledgerlaw04.smallForms", "ledger/point.zero", "ledger/field.eighth", "ledger/field.rootOne"], apart := false, laid := [("ledger/field.lessTwo", laid_ledger_field_lessTwo), ("ledger/field.eighth", laid_ledger_field_eighth), ("ledger/field.rootOne", laid_ledger_field_rootOne), ("ledger/field.twice", laid_ledger_field_twice), ("ledger/point.zero", laid_ledger_point_zero), ("ledger/point.one", laid_ledger_point_one), ("ledger/point.curve", laid_ledger_point_curve), ("ledger/point.base", laid_ledger_point_base), ("ledger/ledgerlaw04.smallForms", laid_ledger_ledgerlaw04_smallForms)] }
def PointBothSaid : Prop := pointBothRow.holds Tryd.pinned (OpenSpec.ofChange pointBothSpec)

/-- ITS FALSE NEIGHBOUR: 'it returns false'. Refute it at one input. -/
def pointBothWrong : ChangeSpec := { name := "pointBoth", fn := fun _ => fun
  | [d1, d2, d3] => { results := [.lit (.bool false)], args := [d1, d2, d3] }
  | _ => none }
def PointBothWrongFalsely : Prop := pointBothRow.holds Tryd.pinned (OpenSpec.ofChange pointBothWrong)

/-- 'ledgerlaw04.PointSmall': WHATEVER THE INPUT: true; the input reads as it did. -/
def pointSmallSpec : ChangeSpec := { name := "pointSmall", fn := fun _ => fun
  | [d1, d2] => { results := [.lit (.bool true)], args := [d1, d2] }
  | _ => none }
def pointSmallRow : OpenClaim := { program := "ytnbjbamoddmbhaadoor", sum := "dcc917d0fc4a617a3d045dc099d951f6091b372fd592d84daa5703babc34180b", func := "ledger/ledgerlaw04.PointSmall", spec := "pointSmall", inPlace := ["math/bits.Add64", "math/bits.Sub64"], named := ["ledger/ledgerlaw04.smallForms", "ledger/point.base", "ledger/point.one", "ledger/point.curve", "ledger/field.twice", "ledger/field.lessTwo", "ledger/point.zero", "ledger/field.eighth", "ledger/field.rootOne"], apart := false, laid := [("ledger/field.lessTwo", laid_ledger_field_lessTwo), ("ledger/field.eighth", laid_ledger_field_eighth), ("ledger/field.rootOne", laid_ledger_field_rootOne), ("ledger/field.twice", laid_ledger_field_twice), ("ledger/point.zero", laid_ledger_point_zero), ("ledger/point.one", laid_ledger_point_one), ("ledger/point.curve", laid_ledger_point_curve), ("ledger/point.base", laid_ledger_point_base), ("ledger/ledgerlaw04.smallForms", laid_ledger_ledgerlaw04_smallForms)] }
def PointSmallSaid : Prop := pointSmallRow.holds Tryd.pinned (OpenSpec.ofChange pointSmallSpec)

/-- ITS FALSE NEIGHBOUR: 'it returns false'. Refute it at one input. -/
def pointSmallWrong : ChangeSpec := { name := "pointSmall", fn := fun _ => fun
  | [d1, d2] => { results := [.lit (.bool false)], args := [d1, d2] }
  | _ => none }
def PointSmallWrongFalsely : Prop := pointSmallRow.holds Tryd.pinned (OpenSpec.ofChange pointSmallWrong)

/-- 'ledgerlaw04.PointOrder': WHATEVER THE INPUT: true; the input reads as it did. -/
def pointOrderSpec : ChangeSpec := { name := "pointOrder", fn := fun _ => fun
  | [d1, d2, d3] => { results := [.lit (.bool true)], args := [d1, d2, d3] }
  | _ => none }
def pointOrderRow : OpenClaim := { program := "ytnbjbamoddmbhaadoor", sum := "dcc917d0fc4a617a3d045dc099d951f6091b372fd592d84daa5703babc34180b", func := "ledger/ledgerlaw04.PointOrder", spec := "pointOrder", inPlace := ["math/bits.Add64", "math/bits.Sub64"], named := ["ledger/point.base", "ledger/point.one", "ledger/point.curve", "ledger/field.twice", "ledger/field.lessTwo", "ledger/scalar.order", "ledger/point.zero", "ledger/ledgerlaw04.smallForms", "ledger/field.eighth", "ledger/field.rootOne", "ledger/scalar.multiples"], apart := false, laid := [("ledger/field.lessTwo", laid_ledger_field_lessTwo), ("ledger/field.eighth", laid_ledger_field_eighth), ("ledger/field.rootOne", laid_ledger_field_rootOne), ("ledger/field.twice", laid_ledger_field_twice), ("ledger/scalar.multiples", laid_ledger_scalar_multiples), ("ledger/scalar.order", laid_ledger_scalar_order), ("ledger/point.zero", laid_ledger_point_zero), ("ledger/point.one", laid_ledger_point_one), ("ledger/point.curve", laid_ledger_point_curve), ("ledger/point.base", laid_ledger_point_base), ("ledger/ledgerlaw04.smallForms", laid_ledger_ledgerlaw04_smallForms)] }
def PointOrderSaid : Prop := pointOrderRow.holds Tryd.pinned (OpenSpec.ofChange pointOrderSpec)

/-- ITS FALSE NEIGHBOUR: 'it returns false'. Refute it at one input. -/
def pointOrderWrong : ChangeSpec := { name := "pointOrder", fn := fun _ => fun
  | [d1, d2, d3] => { results := [.lit (.bool false)], args := [d1, d2, d3] }
  | _ => none }
def PointOrderWrongFalsely : Prop := pointOrderRow.holds Tryd.pinned (OpenSpec.ofChange pointOrderWrong)

/- THE SECOND FORM. 'bulk': how many values and letters a reading holds, each counted each time it is reached (what is shared counts as often as it is met; a slice's spare places count too). A statement '..UptoSaid' is the law's where the arguments, and the package variables that the reading takes, are together of bulk at most 1048576: NARROWER than '..Said'. Prove '..Said' where nothing that the law and all that it calls make is longer than what came in: it says more and counts as full. Else prove '..UptoSaid'. A law counts once. -/
mutual
def uptoBulk {H : Type} : DataW H → Nat
  | .lit (.string bytes) => bytes.length + 1
  | .lit _ => 1
  | .nil => 1
  | .ptr d => uptoBulk d + 1
  | .slice elems spare => uptoBulkAll elems + uptoBulkAll spare + 1
  | .agg parts => uptoBulkAll parts + 1
  | .iface _ d => uptoBulk d + 1
  | .map entries => uptoBulkEntries entries + 1
  | .held _ => 1
def uptoBulkAll {H : Type} : List (DataW H) → Nat
  | [] => 0
  | d :: r => uptoBulk d + uptoBulkAll r
def uptoBulkEntries {H : Type} : List (Lit × DataW H) → Nat
  | [] => 0
  | x :: r => uptoBulkEntry x + uptoBulkEntries r
def uptoBulkEntry {H : Type} : Lit × DataW H → Nat
  | (.string bytes, d) => bytes.length + uptoBulk d + 1
  | (_, d) => uptoBulk d + 1
 end
def uptoSmall : (H : Type) → List (DataW H) → Bool := fun _ ds => decide (uptoBulkAll ds ≤ 1048576)
def OpenSpec.upto (s : _root_.Go.ChangeSpec) : _root_.Go.OpenSpec := { _root_.Go.OpenSpec.ofChange s with cond := some uptoSmall }

/-- 'ledgerlaw04.PointFirst', WHERE WHAT IT READS IS OF BULK AT MOST 1048576: true; the input reads as it did. -/
def pointFirstUptoRow : OpenClaim := { program := "ytnbjbamoddmbhaadoor", sum := "dcc917d0fc4a617a3d045dc099d951f6091b372fd592d84daa5703babc34180b", func := "ledger/ledgerlaw04.PointFirst", spec := "pointFirst", named := ["ledger/point.zero", "ledger/point.one", "ledger/point.base", "ledger/ledgerref04.dBytes"], apart := false, laid := [("ledger/ledgerref04.dBytes", laid_ledger_ledgerref04_dBytes), ("ledger/point.zero", laid_ledger_point_zero), ("ledger/point.one", laid_ledger_point_one), ("ledger/point.base", laid_ledger_point_base)], narrowed := true }
def PointFirstUptoSaid : Prop := pointFirstUptoRow.holds Tryd.pinned (OpenSpec.upto pointFirstSpec)

/-- 'ledgerlaw04.PointDecodes', WHERE WHAT IT READS IS OF BULK AT MOST 1048576: true; the input reads as it did. -/
def pointDecodesUptoRow : OpenClaim := { program := "ytnbjbamoddmbhaadoor", sum := "dcc917d0fc4a617a3d045dc099d951f6091b372fd592d84daa5703babc34180b", func := "ledger/ledgerlaw04.PointDecodes", spec := "pointDecodes", inPlace := ["math/bits.Add64"], named := ["ledger/point.one", "ledger/point.curve", "ledger/point.zero", "ledger/field.twice", "ledger/field.eighth", "ledger/field.rootOne", "ledger/ledgerref04.dBytes"], apart := false, laid := [("ledger/ledgerref04.dBytes", laid_ledger_ledgerref04_dBytes), ("ledger/field.eighth", laid_ledger_field_eighth), ("ledger/field.rootOne", laid_ledger_field_rootOne), ("ledger/field.twice", laid_ledger_field_twice), ("ledger/point.zero", laid_ledger_point_zero), ("ledger/point.one", laid_ledger_point_one), ("ledger/point.curve", laid_ledger_point_curve)], narrowed := true }
def PointDecodesUptoSaid : Prop := pointDecodesUptoRow.holds Tryd.pinned (OpenSpec.upto pointDecodesSpec)

/-- 'ledgerlaw04.PointPairs', WHERE WHAT IT READS IS OF BULK AT MOST 1048576: true; the input reads as it did. -/
def pointPairsUptoRow : OpenClaim := { program := "ytnbjbamoddmbhaadoor", sum := "dcc917d0fc4a617a3d045dc099d951f6091b372fd592d84daa5703babc34180b", func := "ledger/ledgerlaw04.PointPairs", spec := "pointPairs", inPlace := ["math/bits.Add64"], named := ["ledger/point.one", "ledger/point.curve", "ledger/field.twice", "ledger/ledgerref04.dBytes", "ledger/field.lessTwo", "ledger/point.zero"], apart := false, laid := [("ledger/ledgerref04.dBytes", laid_ledger_ledgerref04_dBytes), ("ledger/field.lessTwo", laid_ledger_field_lessTwo), ("ledger/field.twice", laid_ledger_field_twice), ("ledger/point.zero", laid_ledger_point_zero), ("ledger/point.one", laid_ledger_point_one), ("ledger/point.curve", laid_ledger_point_curve)], narrowed := true }
def PointPairsUptoSaid : Prop := pointPairsUptoRow.holds Tryd.pinned (OpenSpec.upto pointPairsSpec)

/-- 'ledgerlaw04.PointForms', WHERE WHAT IT READS IS OF BULK AT MOST 1048576: true; the input reads as it did. -/
def pointFormsUptoRow : OpenClaim := { program := "ytnbjbamoddmbhaadoor", sum := "dcc917d0fc4a617a3d045dc099d951f6091b372fd592d84daa5703babc34180b", func := "ledger/ledgerlaw04.PointForms", spec := "pointForms", inPlace := ["math/bits.Add64"], named := ["ledger/point.base", "ledger/point.one", "ledger/point.curve", "ledger/field.twice", "ledger/field.lessTwo", "ledger/point.zero", "ledger/field.eighth", "ledger/field.rootOne", "ledger/field.half"], apart := false, laid := [("ledger/field.lessTwo", laid_ledger_field_lessTwo), ("ledger/field.eighth", laid_ledger_field_eighth), ("ledger/field.half", laid_ledger_field_half), ("ledger/field.rootOne", laid_ledger_field_rootOne), ("ledger/field.twice", laid_ledger_field_twice), ("ledger/point.zero", laid_ledger_point_zero), ("ledger/point.one", laid_ledger_point_one), ("ledger/point.curve", laid_ledger_point_curve), ("ledger/point.base", laid_ledger_point_base)], narrowed := true }
def PointFormsUptoSaid : Prop := pointFormsUptoRow.holds Tryd.pinned (OpenSpec.upto pointFormsSpec)

/-- 'ledgerlaw04.PointGroup', WHERE WHAT IT READS IS OF BULK AT MOST 1048576: true; the input reads as it did. -/
def pointGroupUptoRow : OpenClaim := { program := "ytnbjbamoddmbhaadoor", sum := "dcc917d0fc4a617a3d045dc099d951f6091b372fd592d84daa5703babc34180b", func := "ledger/ledgerlaw04.PointGroup", spec := "pointGroup", inPlace := ["math/bits.Add64"], named := ["ledger/point.base", "ledger/point.one", "ledger/point.curve", "ledger/field.twice", "ledger/field.lessTwo", "ledger/ledgerlaw04.smallForms", "ledger/point.zero", "ledger/field.eighth", "ledger/field.rootOne"], apart := false, laid := [("ledger/field.lessTwo", laid_ledger_field_lessTwo), ("ledger/field.eighth", laid_ledger_field_eighth), ("ledger/field.rootOne", laid_ledger_field_rootOne), ("ledger/field.twice", laid_ledger_field_twice), ("ledger/point.zero", laid_ledger_point_zero), ("ledger/point.one", laid_ledger_point_one), ("ledger/point.curve", laid_ledger_point_curve), ("ledger/point.base", laid_ledger_point_base), ("ledger/ledgerlaw04.smallForms", laid_ledger_ledgerlaw04_smallForms)], narrowed := true }
def PointGroupUptoSaid : Prop := pointGroupUptoRow.holds Tryd.pinned (OpenSpec.upto pointGroupSpec)

/-- 'ledgerlaw04.PointBack', WHERE WHAT IT READS IS OF BULK AT MOST 1048576: true; the input reads as it did. -/
def pointBackUptoRow : OpenClaim := { program := "ytnbjbamoddmbhaadoor", sum := "dcc917d0fc4a617a3d045dc099d951f6091b372fd592d84daa5703babc34180b", func := "ledger/ledgerlaw04.PointBack", spec := "pointBack", inPlace := ["math/bits.Add64"], named := ["ledger/point.base", "ledger/point.one", "ledger/point.curve", "ledger/field.twice", "ledger/field.lessTwo", "ledger/ledgerlaw04.smallForms", "ledger/point.zero", "ledger/field.eighth", "ledger/field.rootOne"], apart := false, laid := [("ledger/field.lessTwo", laid_ledger_field_lessTwo), ("ledger/field.eighth", laid_ledger_field_eighth), ("ledger/field.rootOne", laid_ledger_field_rootOne), ("ledger/field.twice", laid_ledger_field_twice), ("ledger/point.zero", laid_ledger_point_zero), ("ledger/point.one", laid_ledger_point_one), ("ledger/point.curve", laid_ledger_point_curve), ("ledger/point.base", laid_ledger_point_base), ("ledger/ledgerlaw04.smallForms", laid_ledger_ledgerlaw04_smallForms)], narrowed := true }
def PointBackUptoSaid : Prop := pointBackUptoRow.holds Tryd.pinned (OpenSpec.upto pointBackSpec)

/-- 'ledgerlaw04.PointTimes', WHERE WHAT IT READS IS OF BULK AT MOST 1048576: true; the input reads as it did. -/
def pointTimesUptoRow : OpenClaim := { program := "ytnbjbamoddmbhaadoor", sum := "dcc917d0fc4a617a3d045dc099d951f6091b372fd592d84daa5703babc34180b", func := "ledger/ledgerlaw04.PointTimes", spec := "pointTimes", inPlace := ["math/bits.Add64", "math/bits.Sub64"], named := ["ledger/point.one", "ledger/point.curve", "ledger/field.twice", "ledger/point.zero", "ledger/field.lessTwo", "ledger/ledgerref04.dBytes", "ledger/point.base"], apart := false, laid := [("ledger/ledgerref04.dBytes", laid_ledger_ledgerref04_dBytes), ("ledger/field.lessTwo", laid_ledger_field_lessTwo), ("ledger/field.twice", laid_ledger_field_twice), ("ledger/point.zero", laid_ledger_point_zero), ("ledger/point.one", laid_ledger_point_one), ("ledger/point.curve", laid_ledger_point_curve), ("ledger/point.base", laid_ledger_point_base)], narrowed := true }
def PointTimesUptoSaid : Prop := pointTimesUptoRow.holds Tryd.pinned (OpenSpec.upto pointTimesSpec)

/-- 'ledgerlaw04.PointEquation', WHERE WHAT IT READS IS OF BULK AT MOST 1048576: true; the input reads as it did. -/
def pointEquationUptoRow : OpenClaim := { program := "ytnbjbamoddmbhaadoor", sum := "dcc917d0fc4a617a3d045dc099d951f6091b372fd592d84daa5703babc34180b", func := "ledger/ledgerlaw04.PointEquation", spec := "pointEquation", inPlace := ["math/bits.Add64", "math/bits.Sub64"], named := ["ledger/point.base", "ledger/point.one", "ledger/point.curve", "ledger/field.twice", "ledger/field.lessTwo", "ledger/point.zero"], apart := false, laid := [("ledger/field.lessTwo", laid_ledger_field_lessTwo), ("ledger/field.twice", laid_ledger_field_twice), ("ledger/point.zero", laid_ledger_point_zero), ("ledger/point.one", laid_ledger_point_one), ("ledger/point.curve", laid_ledger_point_curve), ("ledger/point.base", laid_ledger_point_base)], narrowed := true }
def PointEquationUptoSaid : Prop := pointEquationUptoRow.holds Tryd.pinned (OpenSpec.upto pointEquationSpec)

/-- 'ledgerlaw04.PointLinear', WHERE WHAT IT READS IS OF BULK AT MOST 1048576: true; the input reads as it did. -/
def pointLinearUptoRow : OpenClaim := { program := "ytnbjbamoddmbhaadoor", sum := "dcc917d0fc4a617a3d045dc099d951f6091b372fd592d84daa5703babc34180b", func := "ledger/ledgerlaw04.PointLinear", spec := "pointLinear", inPlace := ["math/bits.Add64", "math/bits.Sub64"], named := ["ledger/point.base", "ledger/point.one", "ledger/point.curve", "ledger/field.twice", "ledger/field.lessTwo", "ledger/ledgerlaw04.smallForms", "ledger/point.zero", "ledger/field.eighth", "ledger/field.rootOne"], apart := false, laid := [("ledger/field.lessTwo", laid_ledger_field_lessTwo), ("ledger/field.eighth", laid_ledger_field_eighth), ("ledger/field.rootOne", laid_ledger_field_rootOne), ("ledger/field.twice", laid_ledger_field_twice), ("ledger/point.zero", laid_ledger_point_zero), ("ledger/point.one", laid_ledger_point_one), ("ledger/point.curve", laid_ledger_point_curve), ("ledger/point.base", laid_ledger_point_base), ("ledger/ledgerlaw04.smallForms", laid_ledger_ledgerlaw04_smallForms)], narrowed := true }
def PointLinearUptoSaid : Prop := pointLinearUptoRow.holds Tryd.pinned (OpenSpec.upto pointLinearSpec)

/-- 'ledgerlaw04.PointSteps', WHERE WHAT IT READS IS OF BULK AT MOST 1048576: true; the input reads as it did. -/
def pointStepsUptoRow : OpenClaim := { program := "ytnbjbamoddmbhaadoor", sum := "dcc917d0fc4a617a3d045dc099d951f6091b372fd592d84daa5703babc34180b", func := "ledger/ledgerlaw04.PointSteps", spec := "pointSteps", inPlace := ["math/bits.Add64", "math/bits.Sub64"], named := ["ledger/point.base", "ledger/point.one", "ledger/point.curve", "ledger/field.twice", "ledger/field.lessTwo", "ledger/ledgerlaw04.smallForms", "ledger/point.zero", "ledger/field.eighth", "ledger/field.rootOne"], apart := false, laid := [("ledger/field.lessTwo", laid_ledger_field_lessTwo), ("ledger/field.eighth", laid_ledger_field_eighth), ("ledger/field.rootOne", laid_ledger_field_rootOne), ("ledger/field.twice", laid_ledger_field_twice), ("ledger/point.zero", laid_ledger_point_zero), ("ledger/point.one", laid_ledger_point_one), ("ledger/point.curve", laid_ledger_point_curve), ("ledger/point.base", laid_ledger_point_base), ("ledger/ledgerlaw04.smallForms", laid_ledger_ledgerlaw04_smallForms)], narrowed := true }
def PointStepsUptoSaid : Prop := pointStepsUptoRow.holds Tryd.pinned (OpenSpec.upto pointStepsSpec)

/-- 'ledgerlaw04.PointBoth', WHERE WHAT IT READS IS OF BULK AT MOST 1048576: true; the input reads as it did. -/
def pointBothUptoRow : OpenClaim := { program := "ytnbjbamoddmbhaadoor", sum := "dcc917d0fc4a617a3d045dc099d951f6091b372fd592d84daa5703babc34180b", func := "ledger/ledgerlaw04.PointBoth", spec := "pointBoth", inPlace := ["math/bits.Add64", "math/bits.Sub64"], named := ["ledger/point.base", "ledger/point.one", "ledger/point.curve", "ledger/field.twice", "ledger/field.lessTwo", "ledger/ledgerlaw04.smallForms", "ledger/point.zero", "ledger/field.eighth", "ledger/field.rootOne"], apart := false, laid := [("ledger/field.lessTwo", laid_ledger_field_lessTwo), ("ledger/field.eighth", laid_ledger_field_eighth), ("ledger/field.rootOne", laid_ledger_field_rootOne), ("ledger/field.twice", laid_ledger_field_twice), ("ledger/point.zero", laid_ledger_point_zero), ("ledger/point.one", laid_ledger_point_one), ("ledger/point.curve", laid_ledger_point_curve), ("ledger/point.base", laid_ledger_point_base), ("ledger/ledgerlaw04.smallForms", laid_ledger_ledgerlaw04_smallForms)], narrowed := true }
def PointBothUptoSaid : Prop := pointBothUptoRow.holds Tryd.pinned (OpenSpec.upto pointBothSpec)

/-- 'ledgerlaw04.PointSmall', WHERE WHAT IT READS IS OF BULK AT MOST 1048576: true; the input reads as it did. -/
def pointSmallUptoRow : OpenClaim := { program := "ytnbjbamoddmbhaadoor", sum := "dcc917d0fc4a617a3d045dc099d951f6091b372fd592d84daa5703babc34180b", func := "ledger/ledgerlaw04.PointSmall", spec := "pointSmall", inPlace := ["math/bits.Add64", "math/bits.Sub64"], named := ["ledger/ledgerlaw04.smallForms", "ledger/point.base", "ledger/point.one", "ledger/point.curve", "ledger/field.twice", "ledger/field.lessTwo", "ledger/point.zero", "ledger/field.eighth", "ledger/field.rootOne"], apart := false, laid := [("ledger/field.lessTwo", laid_ledger_field_lessTwo), ("ledger/field.eighth", laid_ledger_field_eighth), ("ledger/field.rootOne", laid_ledger_field_rootOne), ("ledger/field.twice", laid_ledger_field_twice), ("ledger/point.zero", laid_ledger_point_zero), ("ledger/point.one", laid_ledger_point_one), ("ledger/point.curve", laid_ledger_point_curve), ("ledger/point.base", laid_ledger_point_base), ("ledger/ledgerlaw04.smallForms", laid_ledger_ledgerlaw04_smallForms)], narrowed := true }
def PointSmallUptoSaid : Prop := pointSmallUptoRow.holds Tryd.pinned (OpenSpec.upto pointSmallSpec)

/-- 'ledgerlaw04.PointOrder', WHERE WHAT IT READS IS OF BULK AT MOST 1048576: true; the input reads as it did. -/
def pointOrderUptoRow : OpenClaim := { program := "ytnbjbamoddmbhaadoor", sum := "dcc917d0fc4a617a3d045dc099d951f6091b372fd592d84daa5703babc34180b", func := "ledger/ledgerlaw04.PointOrder", spec := "pointOrder", inPlace := ["math/bits.Add64", "math/bits.Sub64"], named := ["ledger/point.base", "ledger/point.one", "ledger/point.curve", "ledger/field.twice", "ledger/field.lessTwo", "ledger/scalar.order", "ledger/point.zero", "ledger/ledgerlaw04.smallForms", "ledger/field.eighth", "ledger/field.rootOne", "ledger/scalar.multiples"], apart := false, laid := [("ledger/field.lessTwo", laid_ledger_field_lessTwo), ("ledger/field.eighth", laid_ledger_field_eighth), ("ledger/field.rootOne", laid_ledger_field_rootOne), ("ledger/field.twice", laid_ledger_field_twice), ("ledger/scalar.multiples", laid_ledger_scalar_multiples), ("ledger/scalar.order", laid_ledger_scalar_order), ("ledger/point.zero", laid_ledger_point_zero), ("ledger/point.one", laid_ledger_point_one), ("ledger/point.curve", laid_ledger_point_curve), ("ledger/point.base", laid_ledger_point_base), ("ledger/ledgerlaw04.smallForms", laid_ledger_ledgerlaw04_smallForms)], narrowed := true }
def PointOrderUptoSaid : Prop := pointOrderUptoRow.holds Tryd.pinned (OpenSpec.upto pointOrderSpec)

end Rows
end Go.Proofs.YtnbjbamoddmbhaaDoor
