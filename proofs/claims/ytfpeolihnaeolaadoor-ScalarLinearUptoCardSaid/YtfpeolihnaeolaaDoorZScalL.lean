/-
  The scalar laws' small numbers, comparing, cutting down.
-/
import Derived.Test.YtfpeolihnaeolaaDoorZScalC
import Derived.Test.YtfpeolihnaeolaaDoorZMA
namespace Go.Proofs.YtfpeolihnaeolaaDoor
open Go Go.Proofs Sx
set_option maxRecDepth 100000
set_option maxHeartbeats 4000000
set_option linter.unusedVariables false
set_option linter.unusedSimpArgs false

def sc_numberS : { c : SC // strip (body Tryd.f24) = c } := ⟨_, by cbv⟩
theorem walk_numberS (A : Ops) (hA : A = realOps) (G : Nat → AV) (x : Int) (hx : 0 ≤ x ∧ x < 256) (N : Int → Nat → Int) (hN : N = fun x => sb (zi lN x))  :
    Walk (mkEnv A tab.1 G [] []) sc_numberS.1 5 [.cell 2 23] [.int .u8 (.sym x)] (.arr .u8 32 (N x)) := by
  refine ⟨?_⟩
  cbv
  subst hN
  intro i hi
  show upd (fun _ => 0) 0 x i = sb (zi lN x) i
  rw [number_bytes hx i hi, byt_smallS hx.1 (by have := hx.2; simp only [lI]; omega)]

theorem ok_numberS (G : Nat → AV) : Sound Tryd.prog G 24 (numberC (fun x => sb (zi lN x))) := by
  refine sound_sym (n := 5) (rs := [.cell 2 23]) (sc := sc_numberS.1) mixed Tryd.func24 rfl rfl rfl rfl sc_numberS.2 ?_
  intro vs cs r h
  unfold numberC at h
  split at h
  · rename_i x
    cases h
    exact ⟨by simp, fun hcs hwf => ⟨_, envOK tabOK ( .nil), rfl, walk_numberS realOps rfl G x.val (inR_u8.1 (hwf (.int .u8 x) (by simp))) _ rfl ⟩⟩
  · cases h
def sc_llessS : { c : SC // strip (body Tryd.f29) = c } := ⟨_, by cbv⟩
theorem walk_llessS (A : Ops) (hA : A = realOps) (G : Nat → AV) (f g : Nat → Int) (hf : IsBytes 32 f) (hg : IsBytes 32 g) (R) (hR : R = ltB) (I : LessAt f g → St)
    (hI : I = fun a => slots 24 [(2, .own (.arr .u8 32 f)), (3, .own (.arr .u8 32 g)), (5, .int .i64 (.sym a.1))]) :
    Walk (mkEnv A tab.1 G [] [(2, .inv (LessAt f g) I fun a => (a.1 + 1).toNat)]) sc_llessS.1 24 [.tmp 4] [.arr .u8 32 f, .arr .u8 32 g] (.bool (.sym (R f g))) := by
  refine ⟨?_⟩
  cbv
  refine ⟨⟨⟨31, by omega, by omega, fun j _ _ => by omega⟩, ?_⟩, fun a _ => ?_⟩
  · subst hI
    cbv
    exact ⟨fun _ _ => rfl, fun _ _ => rfl, trivial⟩
  · subst hI
    cbv
    obtain ⟨x, h1, h2, h3⟩ := a
    refine ⟨fun h => ?_, fun h => ?_⟩
    · cbv
      have hx : 0 ≤ x := by rw [hA] at h; exact of_decide_eq_true h
      have hk : x.toNat < 32 := by omega
      refine ⟨⟨by omega⟩, ⟨by rw [hA]; show x.toNat + 1 ≤ 32; omega⟩, ⟨by omega⟩, ⟨by rw [hA]; show x.toNat + 1 ≤ 32; omega⟩, fun hn => ?_, fun he => ?_⟩
      · cbv
        have hne : f x.toNat ≠ g x.toNat := by rw [hA] at hn; exact bne_iff_ne.1 hn
        rw [hA, hR]
        refine ⟨⟨by omega⟩, ⟨by show x.toNat + 1 ≤ 32; omega⟩, ⟨by omega⟩, ⟨by show x.toNat + 1 ≤ 32; omega⟩, ?_⟩
        exact lt_at hf hg hk (fun j (hj1 : x.toNat < j) hj2 => h3 j (by omega) hj2) hne
      · cbv
        have heq : f x.toNat = g x.toNat := by
          rw [hA] at he
          by_cases hh : f x.toNat = g x.toNat
          · exact hh
          · have := bne_iff_ne.2 hh
            exact absurd (this.symm.trans he) (by decide)
        obtain ⟨y, hy⟩ : ∃ y : Int, y = x - 1 := ⟨_, rfl⟩
        refine ⟨⟨y, by omega, by omega, fun j hj1 hj2 => ?_⟩, ?_, ?_⟩
        · by_cases hjk : j = x.toNat
          · subst hjk; exact heq
          · exact h3 j (by omega) hj2
        · cbv
          rw [hA]
          refine ⟨fun _ _ => rfl, fun _ _ => rfl, ?_, trivial⟩
          rw [hy]
          exact sub_i64 (by omega)
        · show (y + 1).toNat < (x + 1).toNat
          omega
    · cbv
      have hx : x = -1 := by
        rw [hA] at h
        have h4 : ¬ (0 ≤ x) := of_decide_eq_false h
        omega
      rw [hR, lt_none (fun j hj => h3 j (by omega) hj)]
theorem ok_llessS (G : Nat → AV) : Sound Tryd.prog G 29 (bool232C ltB) := by
  refine sound_each (n := 24) (rs := [.tmp 4]) (sc := sc_llessS.1) mixed Tryd.func29 rfl rfl rfl rfl sc_llessS.2 ?_
  intro vs cs r h
  unfold bool232C at h
  split at h
  · rename_i f g
    cases h
    exact ⟨by simp, fun hcs hwf => ⟨_, envOK tabOK .nil, rfl, walk_llessS realOps rfl G f g (isB (hwf _ (by simp))) (isB (hwf _ (by simp))) _ rfl _ rfl⟩⟩
  · cases h
def sc_cut : { c : SC // strip (body Tryd.f27) = c } := ⟨_, by cbv⟩
theorem walk_cut (A : Ops) (hA : A = realOps) (a : Nat → Int)  (MA : (Nat → Int) → (Nat → Int) → (Nat → Int) → Nat → Int) (hMA : MA = fun a b c => sb (se a * se b + se c)) (NU : Int → Nat → Int) (hNU : NU = fun x => sb (zi lN x)) (R : (Nat → Int) → Nat → Int) (hR : R = fun f => sb (se f))  :
    Walk (mkEnv A tab.1 Gmul [(26, tri32C MA), (24, numberC NU)] []) sc_cut.1 7 [.cell 2 23] [.arr .u8 32 a] (.arr .u8 32 (R a)) := by
  refine ⟨?_⟩
  cbv
  subst hA hMA hNU hR
  intro i _
  show sb (se a * se (sb (zi lN 1)) + se (sb (zi lN 0))) i = sb (se a) i
  rw [se_sb, se_sb, zi_zero, zi_one]
  have e : se a * 1 + 0 = se a := by grind
  rw [e]

theorem ok_cut : Sound Tryd.prog Gmul 27 (un32C (fun f => sb (se f))) := by
  refine sound_each (n := 7) (rs := [.cell 2 23]) (sc := sc_cut.1) mixed Tryd.func27 rfl rfl rfl rfl sc_cut.2 ?_
  intro vs cs r h
  unfold un32C at h
  split at h
  · rename_i a
    cases h
    exact ⟨by simp, fun hcs hwf => ⟨_, envOK tabOK ((.cons (ok_muladd) (.cons (ok_numberS Gmul) .nil))), rfl, walk_cut realOps rfl a  _ rfl _ rfl _ rfl ⟩⟩
  · cases h
end Go.Proofs.YtfpeolihnaeolaaDoor
