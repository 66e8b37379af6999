/-
  The field laws' own helpers.
-/
import Derived.Test.YtnfbjfbndnmhmaaFieldC
import Derived.Test.YtnfbjfbndnmhmaaSpD
namespace Go.Proofs.Ytnfbjfbndnmhmaa
open Go Go.Proofs Sx
set_option maxRecDepth 100000
set_option maxHeartbeats 4000000
set_option linter.unusedVariables false

def sc_number : { c : SC // strip (body Try.f12) = c } := ⟨_, by cbv⟩
theorem walk_number (A : Ops) (hA : A = realOps) (G : Nat → AV) (x : Int) (hx : 0 ≤ x ∧ x < 256) (N) (hN : N = byt) :
    Walk (mkEnv A tab.1 G [] []) sc_number.1 5 [.cell 2 22] [.int .u8 (.sym x)] (.arr .u8 32 (N x)) := by
  refine ⟨?_⟩
  cbv
  subst hN
  exact number_bytes hx
theorem ok_number (G : Nat → AV) : Sound Try.prog G 12 (numberC byt) := by
  refine sound_sym (n := 5) (rs := [.cell 2 22]) (sc := sc_number.1) mixed Try.func12 rfl rfl rfl rfl sc_number.2 ?_
  intro vs cs r h
  unfold numberC at h
  split at h
  · rename_i x
    cases h
    exact ⟨by simp, fun hcs hwf => ⟨_, envOK tabOK .nil, rfl, walk_number realOps rfl G x.val (inR_u8.1 (hwf (.int .u8 x) (by simp))) _ rfl⟩⟩
  · cases h

def sc_prime : { c : SC // strip (body Try.f6) = c } := ⟨_, by cbv⟩
theorem walk_prime (A : Ops) (hA : A = realOps) (G : Nat → AV) (N) (hN : N = byt p25) :
    Walk (mkEnv A tab.1 G [] []) sc_prime.1 12 [.cell 0 22] [] (.arr .u8 32 N) := by
  refine ⟨?_⟩
  cbv
  subst hN
  decide
theorem ok_prime (G : Nat → AV) : Sound Try.prog G 6 (primeC (byt p25)) := by
  refine sound_sym (n := 12) (rs := [.cell 0 22]) (sc := sc_prime.1) mixed Try.func6 rfl rfl rfl rfl sc_prime.2 ?_
  intro vs cs r h
  unfold primeC at h
  split at h
  · cases h
    exact ⟨by simp, fun hcs hwf => ⟨_, envOK tabOK .nil, rfl, walk_prime realOps rfl G _ rfl⟩⟩
  · cases h

def sc_lless : { c : SC // strip (body Try.f8) = c } := ⟨_, by cbv⟩
theorem walk_lless (A : Ops) (hA : A = realOps) (G : Nat → AV) (f g : Nat → Int) (hf : IsBytes 32 f) (hg : IsBytes 32 g) (R) (hR : R = ltB) (I : LessAt f g → St)
    (hI : I = fun a => slots 24 [(2, .own (.arr .u8 32 f)), (3, .own (.arr .u8 32 g)), (5, .int .i64 (.sym a.1))]) :
    Walk (mkEnv A tab.1 G [] [(2, .inv (LessAt f g) I fun a => (a.1 + 1).toNat)]) sc_lless.1 24 [.tmp 4] [.arr .u8 32 f, .arr .u8 32 g] (.bool (.sym (R f g))) := by
  refine ⟨?_⟩
  cbv
  refine ⟨⟨⟨31, by omega, by omega, fun j _ _ => by omega⟩, ?_⟩, fun a _ => ?_⟩
  · subst hI
    cbv
    exact ⟨fun _ _ => rfl, fun _ _ => rfl, trivial⟩
  · subst hI
    cbv
    obtain ⟨x, h1, h2, h3⟩ := a
    refine ⟨fun h => ?_, fun h => ?_⟩
    · cbv
      have hx : 0 ≤ x := by rw [hA] at h; exact of_decide_eq_true h
      have hk : x.toNat < 32 := by omega
      refine ⟨⟨by omega⟩, ⟨by rw [hA]; show x.toNat + 1 ≤ 32; omega⟩, ⟨by omega⟩, ⟨by rw [hA]; show x.toNat + 1 ≤ 32; omega⟩, fun hn => ?_, fun he => ?_⟩
      · cbv
        have hne : f x.toNat ≠ g x.toNat := by rw [hA] at hn; exact bne_iff_ne.1 hn
        rw [hA, hR]
        refine ⟨⟨by omega⟩, ⟨by show x.toNat + 1 ≤ 32; omega⟩, ⟨by omega⟩, ⟨by show x.toNat + 1 ≤ 32; omega⟩, ?_⟩
        exact lt_at hf hg hk (fun j (hj1 : x.toNat < j) hj2 => h3 j (by omega) hj2) hne
      · cbv
        have heq : f x.toNat = g x.toNat := by
          rw [hA] at he
          by_cases hh : f x.toNat = g x.toNat
          · exact hh
          · have := bne_iff_ne.2 hh
            exact absurd (this.symm.trans he) (by decide)
        obtain ⟨y, hy⟩ : ∃ y : Int, y = x - 1 := ⟨_, rfl⟩
        refine ⟨⟨y, by omega, by omega, fun j hj1 hj2 => ?_⟩, ?_, ?_⟩
        · by_cases hjk : j = x.toNat
          · subst hjk; exact heq
          · exact h3 j (by omega) hj2
        · cbv
          rw [hA]
          refine ⟨fun _ _ => rfl, fun _ _ => rfl, ?_, trivial⟩
          rw [hy]
          exact sub_i64 (by omega)
        · show (y + 1).toNat < (x + 1).toNat
          omega
    · cbv
      have hx : x = -1 := by
        rw [hA] at h
        have h4 : ¬ (0 ≤ x) := of_decide_eq_false h
        omega
      rw [hR, lt_none (fun j hj => h3 j (by omega) hj)]
theorem ok_lless (G : Nat → AV) : Sound Try.prog G 8 (bool232C ltB) := by
  refine sound_each (n := 24) (rs := [.tmp 4]) (sc := sc_lless.1) mixed Try.func8 rfl rfl rfl rfl sc_lless.2 ?_
  intro vs cs r h
  unfold bool232C at h
  split at h
  · rename_i f g
    cases h
    exact ⟨by simp, fun hcs hwf => ⟨_, envOK tabOK .nil, rfl, walk_lless realOps rfl G f g (isB (hwf _ (by simp))) (isB (hwf _ (by simp))) _ rfl _ rfl⟩⟩
  · cases h
def sc_lplus : { c : SC // strip (body Try.f10) = c } := ⟨_, by cbv⟩
theorem walk_lplus (A : Ops) (hA : A = realOps) (G : Nat → AV) (f g : Nat → Int) (hf : IsBytes 32 f) (hg : IsBytes 32 g) (W) (hW : W = byt (sumN f g)) (C : Nat → Int) (hC : C = sumC f g)
    (R) (hR : R = fun f g => byt (sumN f g)) (D) (hD : D = fun f g => sumC f g 32) (I : { i : Nat // i ≤ 32 } → St)
    (hI : I = fun i => slots 33 [(2, .own (.arr .u8 32 f)), (3, .own (.arr .u8 32 g)), (4, .own (.arr .u8 32 fun _ => 0)), (6, .own (.arr .u8 32 fun j => if j < i.1 then W j else 0)), (7, .int .i64 (.sym (C i.1))), (8, .int .i64 (.sym (i.1 : Int)))]) :
    Walk (mkEnv A tab.1 G [] [(4, .inv { i : Nat // i ≤ 32 } I fun i => 32 - i.1)]) sc_lplus.1 33 [.cell 4 22, .tmp 5] [.arr .u8 32 f, .arr .u8 32 g] (.tup [.arr .u8 32 (R f g), .int .i64 (.sym (D f g))]) := by
  refine ⟨?_⟩
  cbv
  refine ⟨⟨⟨0, by decide⟩, ?_⟩, fun i _ => ?_⟩
  · subst hI
    cbv
    refine ⟨fun _ _ => rfl, fun _ _ => rfl, fun _ _ => rfl, fun _ _ => rfl, ?_, rfl, trivial⟩
    rw [hC]
    rfl
  · subst hI
    cbv
    obtain ⟨i, hi⟩ := i
    refine ⟨fun h => ?_, fun h => ?_⟩
    · cbv
      have hlt : i < 32 := by
        rw [hA] at h
        exact Int.ofNat_lt.1 (of_decide_eq_true h)
      have hb1 := hf i hlt
      have hb2 := hg i hlt
      have hc := carry_bounds (k := i) (fun j hj => hf j (by omega)) (fun j hj => hg j (by omega))
      have hCi : C i = (num i f + num i g) / 256 ^ i := by rw [hC]; rfl
      have hCn : C (i + 1) = (C i + f i + g i) / 256 := by rw [hCi, hC]; exact sum_step f g i
      have hWi : W i = (C i + f i + g i) % 256 := by rw [hCi, hW]; exact sum_byte hlt
      rw [← hCi] at hc
      have e1 : realBin .add .i64 (realBin .add .i64 (C i) (IntKind.wrap .i64 (f i))) (IntKind.wrap .i64 (g i)) = C i + f i + g i := by
        have e0 : realBin .add .i64 (C i) (f i) = C i + f i := add_i64 (by omega)
        rw [wrap_i64 (n := f i) (by omega), wrap_i64 (n := g i) (by omega), e0, add_i64 (by omega)]
      have e2 : realBin .quo .i64 (C i + f i + g i) 256 = (C i + f i + g i) / 256 := quo_i64 (by omega) (by decide)
      have e3 : IntKind.wrap .u8 (realBin .rem .i64 (C i + f i + g i) 256) = (C i + f i + g i) % 256 := by rw [rem_i64 (by omega), wrap_u8]; omega
      have e4 : realBin .add .i64 (Int.ofNat i) 1 = Int.ofNat (i + 1) := by rw [add_i64 (by simp only [Int.ofNat_eq_natCast]; omega)]; rfl
      refine ⟨⟨by simp only [Int.ofNat_eq_natCast]; omega⟩, ⟨by rw [hA]; show i + 1 ≤ 32; omega⟩, ⟨by simp only [Int.ofNat_eq_natCast]; omega⟩, ⟨by rw [hA]; show i + 1 ≤ 32; omega⟩, ⟨by simp only [Int.ofNat_eq_natCast]; omega⟩, ⟨by rw [hA]; show i + 1 ≤ 32; omega⟩, ⟨i + 1, by omega⟩, ?_, ?_⟩
      · cbv
        subst hA
        refine ⟨fun _ _ => rfl, fun _ _ => rfl, fun _ _ => rfl, fun j hj => ?_, ?_, ?_, trivial⟩
        · show (if j = i then IntKind.wrap .u8 (realBin .rem .i64 (realBin .add .i64 (realBin .add .i64 (C i) (IntKind.wrap .i64 (f i))) (IntKind.wrap .i64 (g i))) 256) else if j < i then W j else 0) = if j < i + 1 then W j else 0
          rw [e1, e3, ← hWi]
          by_cases hji : j = i
          · subst hji; rw [if_pos rfl, if_pos (by omega)]
          · rw [if_neg hji]
            by_cases h2 : j < i
            · rw [if_pos h2, if_pos (by omega)]
            · rw [if_neg h2, if_neg (by omega)]
        · show realBin .quo .i64 (realBin .add .i64 (realBin .add .i64 (C i) (IntKind.wrap .i64 (f i))) (IntKind.wrap .i64 (g i))) 256 = C (i + 1)
          rw [e1, e2, hCn]
        · exact e4
      · show 32 - (i + 1) < 32 - i
        omega
    · cbv
      have hlt : i = 32 := by
        rw [hA] at h
        have h3 : ¬ (i < 32) := fun hh => of_decide_eq_false h (Int.ofNat_lt.2 hh)
        omega
      subst hlt
      refine ⟨fun j hj => ?_, ?_, trivial⟩
      · rw [hR, hW]
        exact if_pos hj
      · rw [hD, hC]
theorem ok_lplus (G : Nat → AV) : Sound Try.prog G 10 (lplusC (fun f g => byt (sumN f g)) (fun f g => sumC f g 32)) := by
  refine sound_each (n := 33) (rs := [.cell 4 22, .tmp 5]) (sc := sc_lplus.1) mixed Try.func10 rfl rfl rfl rfl sc_lplus.2 ?_
  intro vs cs r h
  unfold lplusC at h
  split at h
  · rename_i f g
    cases h
    exact ⟨by simp, fun hcs hwf => ⟨_, envOK tabOK .nil, rfl, walk_lplus realOps rfl G f g (isB (hwf _ (by simp))) (isB (hwf _ (by simp))) _ rfl _ rfl _ rfl _ rfl _ rfl⟩⟩
  · cases h
end Go.Proofs.Ytnfbjfbndnmhmaa
