/-
  The field laws' own helpers.
-/
import Derived.Test.YtnfbjfbndnmhmaaDoorZFieldC
import Derived.Test.YtnfbjfbndnmhmaaDoorZMA
namespace Go.Proofs.YtnfbjfbndnmhmaaDoor
open Go Go.Proofs Sx
set_option maxRecDepth 100000
set_option maxHeartbeats 4000000
set_option linter.unusedVariables false

def sc_number : { c : SC // strip (body Tryd.f26) = c } := ⟨_, by cbv⟩
theorem walk_number (A : Ops) (hA : A = realOps) (G : Nat → AV) (x : Int) (hx : 0 ≤ x ∧ x < 256) (N) (hN : N = byt) :
    Walk (mkEnv A tab.1 G [] []) sc_number.1 5 [.cell 2 22] [.int .u8 (.sym x)] (.arr .u8 32 (N x)) := by
  refine ⟨?_⟩
  cbv
  subst hN
  exact number_bytes hx
theorem ok_number (G : Nat → AV) : Sound Tryd.prog G 26 (numberC byt) := by
  refine sound_sym (n := 5) (rs := [.cell 2 22]) (sc := sc_number.1) mixed Tryd.func26 rfl rfl rfl rfl sc_number.2 ?_
  intro vs cs r h
  unfold numberC at h
  split at h
  · rename_i x
    cases h
    exact ⟨by simp, fun hcs hwf => ⟨_, envOK tabOK .nil, rfl, walk_number realOps rfl G x.val (inR_u8.1 (hwf (.int .u8 x) (by simp))) _ rfl⟩⟩
  · cases h

def sc_prime : { c : SC // strip (body Tryd.f28) = c } := ⟨_, by cbv⟩
theorem walk_prime (A : Ops) (hA : A = realOps) (G : Nat → AV) (N) (hN : N = byt p25) :
    Walk (mkEnv A tab.1 G [] []) sc_prime.1 12 [.cell 0 22] [] (.arr .u8 32 N) := by
  refine ⟨?_⟩
  cbv
  subst hN
  decide
theorem ok_prime (G : Nat → AV) : Sound Tryd.prog G 28 (primeC (byt p25)) := by
  refine sound_sym (n := 12) (rs := [.cell 0 22]) (sc := sc_prime.1) mixed Tryd.func28 rfl rfl rfl rfl sc_prime.2 ?_
  intro vs cs r h
  unfold primeC at h
  split at h
  · cases h
    exact ⟨by simp, fun hcs hwf => ⟨_, envOK tabOK .nil, rfl, walk_prime realOps rfl G _ rfl⟩⟩
  · cases h

def sc_lless : { c : SC // strip (body Tryd.f27) = c } := ⟨_, by cbv⟩
theorem walk_lless (A : Ops) (hA : A = realOps) (G : Nat → AV) (f g : Nat → Int) (hf : IsBytes 32 f) (hg : IsBytes 32 g) (R) (hR : R = ltB) (I : LessAt f g → St)
    (hI : I = fun a => slots 24 [(2, .own (.arr .u8 32 f)), (3, .own (.arr .u8 32 g)), (5, .int .i64 (.sym a.1))]) :
    Walk (mkEnv A tab.1 G [] [(2, .inv (LessAt f g) I fun a => (a.1 + 1).toNat)]) sc_lless.1 24 [.tmp 4] [.arr .u8 32 f, .arr .u8 32 g] (.bool (.sym (R f g))) := by
  refine ⟨?_⟩
  cbv
  refine ⟨⟨⟨31, by omega, by omega, fun j _ _ => by omega⟩, ?_⟩, fun a _ => ?_⟩
  · subst hI
    cbv
    exact ⟨fun _ _ => rfl, fun _ _ => rfl, trivial⟩
  · subst hI
    cbv
    obtain ⟨x, h1, h2, h3⟩ := a
    refine ⟨fun h => ?_, fun h => ?_⟩
    · cbv
      have hx : 0 ≤ x := by rw [hA] at h; exact of_decide_eq_true h
      have hk : x.toNat < 32 := by omega
      refine ⟨⟨by omega⟩, ⟨by rw [hA]; show x.toNat + 1 ≤ 32; omega⟩, ⟨by omega⟩, ⟨by rw [hA]; show x.toNat + 1 ≤ 32; omega⟩, fun hn => ?_, fun he => ?_⟩
      · cbv
        have hne : f x.toNat ≠ g x.toNat := by rw [hA] at hn; exact bne_iff_ne.1 hn
        rw [hA, hR]
        refine ⟨⟨by omega⟩, ⟨by show x.toNat + 1 ≤ 32; omega⟩, ⟨by omega⟩, ⟨by show x.toNat + 1 ≤ 32; omega⟩, ?_⟩
        exact lt_at hf hg hk (fun j (hj1 : x.toNat < j) hj2 => h3 j (by omega) hj2) hne
      · cbv
        have heq : f x.toNat = g x.toNat := by
          rw [hA] at he
          by_cases hh : f x.toNat = g x.toNat
          · exact hh
          · have := bne_iff_ne.2 hh
            exact absurd (this.symm.trans he) (by decide)
        obtain ⟨y, hy⟩ : ∃ y : Int, y = x - 1 := ⟨_, rfl⟩
        refine ⟨⟨y, by omega, by omega, fun j hj1 hj2 => ?_⟩, ?_, ?_⟩
        · by_cases hjk : j = x.toNat
          · subst hjk; exact heq
          · exact h3 j (by omega) hj2
        · cbv
          rw [hA]
          refine ⟨fun _ _ => rfl, fun _ _ => rfl, ?_, trivial⟩
          rw [hy]
          exact sub_i64 (by omega)
        · show (y + 1).toNat < (x + 1).toNat
          omega
    · cbv
      have hx : x = -1 := by
        rw [hA] at h
        have h4 : ¬ (0 ≤ x) := of_decide_eq_false h
        omega
      rw [hR, lt_none (fun j hj => h3 j (by omega) hj)]
theorem ok_lless (G : Nat → AV) : Sound Tryd.prog G 27 (bool232C ltB) := by
  refine sound_each (n := 24) (rs := [.tmp 4]) (sc := sc_lless.1) mixed Tryd.func27 rfl rfl rfl rfl sc_lless.2 ?_
  intro vs cs r h
  unfold bool232C at h
  split at h
  · rename_i f g
    cases h
    exact ⟨by simp, fun hcs hwf => ⟨_, envOK tabOK .nil, rfl, walk_lless realOps rfl G f g (isB (hwf _ (by simp))) (isB (hwf _ (by simp))) _ rfl _ rfl⟩⟩
  · cases h
end Go.Proofs.YtnfbjfbndnmhmaaDoor
