/-
  Package field: sums, differences, products of five digits.
-/
import Derived.Test.YtnfbjfbndnmhmaaFieldA
import Derived.Test.YtnfbjfbndnmhmaaSpB
namespace Go.Proofs.Ytnfbjfbndnmhmaa
open Go Go.Proofs Sx
set_option maxRecDepth 100000
set_option maxHeartbeats 4000000
set_option linter.unusedVariables false

def sc_plus : { c : SC // strip (body Try.f20) = c } := ⟨_, by cbv⟩
theorem walk_plus (A : Ops) (hA : A = realOps) (G : Nat → AV) (l m : Nat → Int) (S) (hS : S = settleF) (T) (hT : T = fun l m => settleF (addP l m)) :
    Walk (mkEnv A tab.1 G [(24, limC S)] []) sc_plus.1 20 [.cell 4 34] [.arr .u64 5 l, .arr .u64 5 m] (.arr .u64 5 (T l m)) := by
  refine ⟨?_⟩
  cbv
  subst hA hS hT
  exact fun i _ => congrFun (settle_congr (each5 rfl rfl rfl rfl rfl)) i
theorem ok_plus (G : Nat → AV) : Sound Try.prog G 20 (lim2C fun l m => settleF (addP l m)) := by
  refine sound_by (n := 20) (rs := [.cell 4 34]) (sc := sc_plus.1) (E := mkEnv realOps tab.1 G [(24, limC settleF)] []) (envOK tabOK (.cons (ok_settle G) .nil)) mixed Try.func20 rfl rfl rfl rfl sc_plus.2 ?_
  intro vs cs r h
  unfold lim2C at h
  split at h
  · rename_i l m
    cases h
    exact ⟨by simp, fun hcs hwf => walk_plus realOps rfl G l m _ rfl _ rfl⟩
  · cases h

theorem ok_add (G : Nat → AV) : Sound Try.prog G 26 (addC Bit01 adcS adcC) := ok_add64 Try.func26 rfl rfl rfl rfl G

def sc_mul64 : { c : SC // strip (body Try.f27) = c } := ⟨_, by cbv⟩
theorem walk_mul64 (A : Ops) (hA : A = realOps) (G : Nat → AV) (x y : Int) (H) (hH : H = mulH) (L : Int → Int → Int) (hL : L = fun a b => umul a b) :
    Walk (mkEnv A tab.1 G [] []) sc_mul64.1 51 [.tmp 4, .tmp 5] [.int .u64 (.sym x), .int .u64 (.sym y)] (.tup [.int .u64 (.sym (H x y)), .int .u64 (.sym (L x y))]) := by
  refine ⟨?_⟩
  cbv
  subst hA hH hL
  exact ⟨rfl, rfl, trivial⟩
theorem ok_mul64 (G : Nat → AV) : Sound Try.prog G 27 (mulC mulH fun a b => umul a b) := by
  refine sound_sym (n := 51) (rs := [.tmp 4, .tmp 5]) (sc := sc_mul64.1) mixed Try.func27 rfl rfl rfl rfl sc_mul64.2 ?_
  intro vs cs r h
  unfold mulC at h
  split at h
  · rename_i x y
    cases h
    exact ⟨by simp, fun hcs hwf => ⟨_, envOK tabOK .nil, rfl, walk_mul64 realOps rfl G x.val y.val _ rfl _ rfl⟩⟩
  · cases h

def sc_wide : { c : SC // strip (body Try.f25) = c } := ⟨_, by cbv⟩
theorem walk_wide (A : Ops) (hA : A = realOps) (G : Nat → AV) (w : Nat → Int) (a b : Int) (H) (hH : H = mulH) (L : Int → Int → Int) (hL : L = fun a b => umul a b) (K) (hK : K = Bit01) (S) (hS : S = adcS) (C) (hC : C = adcC) (V) (hV : V = wideR) :
    Walk (mkEnv A tab.1 G [(27, mulC H L), (26, addC K S C)] []) sc_wide.1 37 [.cell 6 42] [.arr .u64 2 w, .int .u64 (.sym a), .int .u64 (.sym b)] (.arr .u64 2 (V (w 0) (w 1) a b)) := by
  refine ⟨?_⟩
  cbv
  subst hA hH hL hK hS hC hV
  exact ⟨bit01_0, bit01_adc _ _ _, each2 rfl rfl⟩
theorem ok_wide (G : Nat → AV) : Sound Try.prog G 25 (wideC wideR) := by
  refine sound_sym (n := 37) (rs := [.cell 6 42]) (sc := sc_wide.1) mixed Try.func25 rfl rfl rfl rfl sc_wide.2 ?_
  intro vs cs r h
  unfold wideC at h
  split at h
  · rename_i w a b
    cases h
    exact ⟨by simp, fun hcs hwf => ⟨_, envOK tabOK (.cons (ok_mul64 G) (.cons (ok_add G) .nil)), rfl, walk_wide realOps rfl G w a.val b.val _ rfl _ rfl _ rfl _ rfl _ rfl _ rfl⟩⟩
  · cases h

def sc_times : { c : SC // strip (body Try.f21) = c } := ⟨_, by cbv⟩
def inv_times (l m : Nat → Int) (W : Nat → Nat → Int) (i : Nat) : St :=
  slots 96 [(2, .own (.arr .u64 5 l)), (3, .own (.arr .u64 5 m)), (4, .own (.arr .u64 5 fun _ => 0)), (5, .own (.arr .u64 10 (W i))), (15, .int .i64 (.lit i))]
theorem walk_times (A : Ops) (hA : A = realOps) (G : Nat → AV) (l m : Nat → Int) (K) (hK : K = Bit01) (S) (hS : S = adcS) (C) (hC : C = adcC) (V) (hV : V = wideR) (F) (hF : F = settleF) (T) (hT : T = timesF) (W) (hW : W = sumsT l m) (I : { i : Nat // i ≤ 5 } → St) (hI : I = fun i => inv_times l m W i.1) :
    Walk (mkEnv A tab.1 G [(25, wideC V), (26, addC K S C), (24, limC F)] [(3, .inv { i : Nat // i ≤ 5 } I fun i => 5 - i.1)]) sc_times.1 96 [.cell 4 34] [.arr .u64 5 l, .arr .u64 5 m] (.arr .u64 5 (T l m)) := by
  refine ⟨?_⟩
  cbv
  refine ⟨⟨⟨0, by decide⟩, ?_⟩, fun i _ => ?_⟩
  · subst hI
    cbv
    subst hW
    exact ⟨fun _ _ => rfl, fun _ _ => rfl, fun _ _ => rfl, each10 rfl rfl rfl rfl rfl rfl rfl rfl rfl rfl, rfl, trivial⟩
  · subst hI
    obtain ⟨i, hi⟩ := i
    have h6 : i = 0 ∨ i = 1 ∨ i = 2 ∨ i = 3 ∨ i = 4 ∨ i = 5 := by omega
    rcases h6 with rfl | rfl | rfl | rfl | rfl | rfl
    · cbv
      refine ⟨⟨1, by decide⟩, ?_, show (5 - 1 : Nat) < 5 - 0 by decide⟩
      cbv
      subst hA hV hW
      exact ⟨fun _ _ => rfl, fun _ _ => rfl, fun _ _ => rfl, each10 rfl rfl rfl rfl rfl rfl rfl rfl rfl rfl, trivial⟩
    · cbv
      refine ⟨⟨2, by decide⟩, ?_, show (5 - 2 : Nat) < 5 - 1 by decide⟩
      cbv
      subst hA hV hW
      exact ⟨fun _ _ => rfl, fun _ _ => rfl, fun _ _ => rfl, each10 rfl rfl rfl rfl rfl rfl rfl rfl rfl rfl, trivial⟩
    · cbv
      refine ⟨⟨3, by decide⟩, ?_, show (5 - 3 : Nat) < 5 - 2 by decide⟩
      cbv
      subst hA hV hW
      exact ⟨fun _ _ => rfl, fun _ _ => rfl, fun _ _ => rfl, each10 rfl rfl rfl rfl rfl rfl rfl rfl rfl rfl, trivial⟩
    · cbv
      refine ⟨⟨4, by decide⟩, ?_, show (5 - 4 : Nat) < 5 - 3 by decide⟩
      cbv
      subst hA hV hW
      exact ⟨fun _ _ => rfl, fun _ _ => rfl, fun _ _ => rfl, each10 rfl rfl rfl rfl rfl rfl rfl rfl rfl rfl, trivial⟩
    · cbv
      refine ⟨⟨5, by decide⟩, ?_, show (5 - 5 : Nat) < 5 - 4 by decide⟩
      cbv
      subst hA hV hW
      exact ⟨fun _ _ => rfl, fun _ _ => rfl, fun _ _ => rfl, each10 rfl rfl rfl rfl rfl rfl rfl rfl rfl rfl, trivial⟩
    · cbv
      generalize hs : W 5 = s
      rw [show T l m = settleF (carT s) from by rw [hT, ← hs, hW]; show settleF (timesP l m) = _; rw [timesP_rows]]
      subst hA hK hS hC hF
      exact ⟨bit01_0, bit01_0, bit01_0, bit01_0, bit01_0, fun i _ => congrFun (settle_congr (each5 rfl rfl rfl rfl rfl)) i⟩
theorem ok_times (G : Nat → AV) : Sound Try.prog G 21 (lim2C timesF) := by
  refine sound_each (n := 96) (rs := [.cell 4 34]) (sc := sc_times.1) mixed Try.func21 rfl rfl rfl rfl sc_times.2 ?_
  intro vs cs r h
  unfold lim2C at h
  split at h
  · rename_i l m
    cases h
    exact ⟨by simp, fun hcs hwf => ⟨_, envOK tabOK (.cons (ok_wide G) (.cons (ok_add G) (.cons (ok_settle G) .nil))), rfl, walk_times realOps rfl G l m _ rfl _ rfl _ rfl _ rfl _ rfl _ rfl _ rfl _ rfl⟩⟩
  · cases h
end Go.Proofs.Ytnfbjfbndnmhmaa
