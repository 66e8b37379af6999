/-
  Sums and differences of 64 bits with what is carried: the library's own entries as contracts.
-/
import Derived.Test.YtnfbjfbndnmhmaaSpA
import Derived.Laws.Externs
namespace Sx
open Go Go.RowKit

def sub64Entry : Array Value → Sem Value := fun args => do
  let (x, y, b) ← Extern.MathBitsCarry.three "Sub64" args
  pure (Extern.MathBitsCarry.pair ((x + Extern.MathBitsCarry.m64 - y - b) % Extern.MathBitsCarry.m64) (if x < y + b then 1 else 0))

theorem run_sub64 {P : Program} (x y c : Int) (hx : 0 ≤ x ∧ x < 18446744073709551616) (hy : 0 ≤ y ∧ y < 18446744073709551616) (hc0 : 0 ≤ c) (hc : c ≤ 1) (w : World) :
    (sub64Entry #[.int .u64 x, .int .u64 y, .int .u64 c]).run P w = .ok (.tuple #[.int .u64 (sbbS x y c), .int .u64 (sbbC x y c)]) w := by
  have key : ∀ k : Nat, k ≤ 1 → (sub64Entry #[.int .u64 x, .int .u64 y, .int .u64 (k : Int)]).run P w =
      .ok (Extern.MathBitsCarry.pair ((x.toNat + Extern.MathBitsCarry.m64 - y.toNat - k) % Extern.MathBitsCarry.m64) (if x.toNat < y.toNat + k then 1 else 0)) w := by
    intro k hk
    have : k = 0 ∨ k = 1 := by omega
    rcases this with rfl | rfl <;> rfl
  obtain ⟨k, rfl⟩ := Int.eq_ofNat_of_zero_le hc0
  rw [key k (by omega)]
  obtain ⟨X, rfl⟩ := Int.eq_ofNat_of_zero_le hx.1
  obtain ⟨Y, rfl⟩ := Int.eq_ofNat_of_zero_le hy.1
  have hX : X < 18446744073709551616 := by omega
  have hY : Y < 18446744073709551616 := by omega
  simp only [Extern.MathBitsCarry.pair, Extern.MathBitsCarry.m64, Int.toNat_natCast, sbbS, sbbC]
  have e1 : Int.ofNat ((X + 2 ^ 64 - Y - k) % 2 ^ 64) = ((X : Int) - Y - k) % 18446744073709551616 := by
    simp only [Nat.reducePow, Int.ofNat_eq_natCast]
    omega
  have e2 : Int.ofNat (if X < Y + k then 1 else 0) = if (X : Int) < Y + k then 1 else 0 := by
    split <;> split <;> first | rfl | omega
  rw [e1, e2]

theorem args3 {w : World} {x y c : SI} {args : List Value} (h : All2 (ArgR w) [.int .u64 x, .int .u64 y, .int .u64 c] args) : args = [.int .u64 x.val, .int .u64 y.val, .int .u64 c.val] := by
  match args, h with
  | [a, b, d], ⟨h1, h2, h3, _⟩ =>
    simp only [ArgR] at h1 h2 h3
    rw [h1, h2, h3]

theorem ok_add64 {P : Program} {f : FuncId} {fn : Func} (hf : P.funcs[f]? = some fn) (hname : (fn.name == "runtime.NumGoroutine") = false) (hb : fn.body.isNone = true) (hn : Extern.findNext fn = none) (he : Extern.find fn = some add64Entry) (G : Nat → AV) :
    Sound P G f (addC Bit01 adcS adcC) := by
  intro vs cs r h hcs hwf w _ args hargs
  unfold addC at h
  split at h
  · rename_i x y c
    cases h
    have hx := inR_u64.1 (hwf (.int .u64 x) (by simp))
    have hy := inR_u64.1 (hwf (.int .u64 y) (by simp))
    have hc : Bit01 c.val := hcs _ (by simp)
    have ha := args3 hargs
    subst ha
    first | refine .inr ⟨.tuple #[.int .u64 (adcS x.val y.val c.val), .int .u64 (adcC x.val y.val c.val)], ⟨rfl, rfl, ?_⟩, ?_⟩ | refine .inr ⟨.tuple #[.int .u64 (adcS x.val y.val c.val), .int .u64 (adcC x.val y.val c.val)], rfl, ⟨rfl, rfl, ?_⟩, ?_⟩
    · intro z hz
      simp only [List.mem_cons, List.not_mem_nil, or_false] at hz
      rcases hz with rfl | rfl
      · exact inR_u64.2 (by show 0 ≤ adcS _ _ _ ∧ adcS _ _ _ < _; unfold adcS; omega)
      · refine inR_u64.2 ?_
        rcases bit01_adc x.val y.val c.val with e | e <;> (show 0 ≤ adcC _ _ _ ∧ adcC _ _ _ < _; rw [e]; decide)
    · rw [run_callFunc_extern hf hname hb hn he]
      show ((add64Entry #[.int .u64 x.val, .int .u64 y.val, .int .u64 c.val]).run P w).andThen _ = _
      rw [run_add64 _ _ _ hx.1 hy.1 (by rcases hc with e | e <;> omega) (by rcases hc with e | e <;> omega)]
      have e1 : (x.val + y.val + c.val) / 18446744073709551616 = adcC x.val y.val c.val := by
        unfold adcC
        rcases hc with e | e <;> split <;> omega
      rw [e1]
      rfl
  · cases h

theorem ok_sub64 {P : Program} {f : FuncId} {fn : Func} (hf : P.funcs[f]? = some fn) (hname : (fn.name == "runtime.NumGoroutine") = false) (hb : fn.body.isNone = true) (hn : Extern.findNext fn = none) (he : Extern.find fn = some sub64Entry) (G : Nat → AV) :
    Sound P G f (addC Bit01 sbbS sbbC) := by
  intro vs cs r h hcs hwf w _ args hargs
  unfold addC at h
  split at h
  · rename_i x y c
    cases h
    have hx := inR_u64.1 (hwf (.int .u64 x) (by simp))
    have hy := inR_u64.1 (hwf (.int .u64 y) (by simp))
    have hc : Bit01 c.val := hcs _ (by simp)
    have ha := args3 hargs
    subst ha
    first | refine .inr ⟨.tuple #[.int .u64 (sbbS x.val y.val c.val), .int .u64 (sbbC x.val y.val c.val)], ⟨rfl, rfl, ?_⟩, ?_⟩ | refine .inr ⟨.tuple #[.int .u64 (sbbS x.val y.val c.val), .int .u64 (sbbC x.val y.val c.val)], rfl, ⟨rfl, rfl, ?_⟩, ?_⟩
    · intro z hz
      simp only [List.mem_cons, List.not_mem_nil, or_false] at hz
      rcases hz with rfl | rfl
      · exact inR_u64.2 (by show 0 ≤ sbbS _ _ _ ∧ sbbS _ _ _ < _; unfold sbbS; omega)
      · refine inR_u64.2 ?_
        rcases bit01_sbb x.val y.val c.val with e | e <;> (show 0 ≤ sbbC _ _ _ ∧ sbbC _ _ _ < _; rw [e]; decide)
    · rw [run_callFunc_extern hf hname hb hn he]
      show ((sub64Entry #[.int .u64 x.val, .int .u64 y.val, .int .u64 c.val]).run P w).andThen _ = _
      rw [run_sub64 _ _ _ hx hy (by rcases hc with e | e <;> omega) (by rcases hc with e | e <;> omega)]
      rfl
  · cases h
end Sx
