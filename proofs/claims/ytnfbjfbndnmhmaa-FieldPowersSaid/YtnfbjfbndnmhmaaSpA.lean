/-
  Contracts of package field's inner functions, over names for what they reckon.
-/
import Derived.Test.YtnfbjfbndnmhmaaSxP
import Derived.Test.YtnfbjfbndnmhmaaMaF
namespace Sx
open Go

def wordC (W : (Nat → Int) → Int) : Contract := fun vs => match vs with
  | [.xsl .u8 1 (.lit 8) _ f] => some ([], .int .u64 (.sym (W f)))
  | _ => none
/-- Five digits in, five out. -/
def limC (S : (Nat → Int) → Nat → Int) : Contract := fun vs => match vs with
  | [.arr .u64 5 l] => some ([], .arr .u64 5 (S l))
  | _ => none
def lim2C (T : (Nat → Int) → (Nat → Int) → Nat → Int) : Contract := fun vs => match vs with
  | [.arr .u64 5 l, .arr .u64 5 m] => some ([], .arr .u64 5 (T l m))
  | _ => none
def loadC (L : (Nat → Int) → Nat → Int) : Contract := fun vs => match vs with
  | [.arr .u8 32 f] => some ([], .arr .u64 5 (L f))
  | _ => none
def bytesC (B : (Nat → Int) → Nat → Int) : Contract := fun vs => match vs with
  | [.arr .u64 5 l] => some ([], .arr .u8 32 (B l))
  | _ => none
def addC (K : Int → Prop) (S C : Int → Int → Int → Int) : Contract := fun vs => match vs with
  | [.int .u64 x, .int .u64 y, .int .u64 c] => some ([K c.val], .tup [.int .u64 (.sym (S x.val y.val c.val)), .int .u64 (.sym (C x.val y.val c.val))])
  | _ => none
def mulC (H L : Int → Int → Int) : Contract := fun vs => match vs with
  | [.int .u64 x, .int .u64 y] => some ([], .tup [.int .u64 (.sym (H x.val y.val)), .int .u64 (.sym (L x.val y.val))])
  | _ => none
def wideC (V : Int → Int → Int → Int → Nat → Int) : Contract := fun vs => match vs with
  | [.arr .u64 2 w, .int .u64 a, .int .u64 b] => some ([], .arr .u64 2 (V (w 0) (w 1) a.val b.val))
  | _ => none

theorem wordF_congr {f g : Nat → Int} (h : ∀ i, i < 8 → f i = g i) : wordF f = wordF g := by
  unfold wordF
  rw [h 0 (by omega), h 1 (by omega), h 2 (by omega), h 3 (by omega), h 4 (by omega), h 5 (by omega), h 6 (by omega), h 7 (by omega)]
theorem rnd_congr {l m : Nat → Int} (h : ∀ i, i < 5 → l i = m i) : rnd l = rnd m := by
  unfold rnd
  rw [h 0 (by omega), h 1 (by omega), h 2 (by omega), h 3 (by omega), h 4 (by omega)]
theorem settle_congr {l m : Nat → Int} (h : ∀ i, i < 5 → l i = m i) : settleF l = settleF m := by
  unfold settleF
  rw [rnd_congr h]
theorem each4 {q : Nat → Prop} (h0 : q 0) (h1 : q 1) (h2 : q 2) (h3 : q 3) : ∀ i, i < 4 → q i := fun i hi =>
  match i, hi with
  | 0, _ => h0
  | 1, _ => h1
  | 2, _ => h2
  | 3, _ => h3
theorem each2 {q : Nat → Prop} (h0 : q 0) (h1 : q 1) : ∀ i, i < 2 → q i := fun i hi =>
  match i, hi with
  | 0, _ => h0
  | 1, _ => h1
theorem each10 {q : Nat → Prop} (h0 : q 0) (h1 : q 1) (h2 : q 2) (h3 : q 3) (h4 : q 4) (h5 : q 5) (h6 : q 6) (h7 : q 7) (h8 : q 8) (h9 : q 9) : ∀ i, i < 10 → q i := fun i hi =>
  match i, hi with
  | 0, _ => h0
  | 1, _ => h1
  | 2, _ => h2
  | 3, _ => h3
  | 4, _ => h4
  | 5, _ => h5
  | 6, _ => h6
  | 7, _ => h7
  | 8, _ => h8
  | 9, _ => h9
end Sx
