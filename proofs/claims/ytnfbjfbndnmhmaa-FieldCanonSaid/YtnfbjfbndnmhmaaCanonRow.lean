/- What a number is modulo p: FieldCanon answers true for every input, and the input reads as it did. -/
import Derived.Test.YtnfbjfbndnmhmaaFieldCanon
namespace Go.Proofs.Ytnfbjfbndnmhmaa
open Go.ChangeShapes Go.WideShapes Go.ChangeAt Go.RowKit

def wit32 : Value := .agg (Array.replicate 32 (.int .u8 0))
noncomputable def world0 (os : Os) : World := World.holding Try.prog os ⟨#[], #[], []⟩
theorem laid_none (os : Os) (i : Input) : laidMet Try.prog [] ((world0 os).forCall (fun _ _ => 0) i).memory := ⟨[], rfl, List.nodup_nil, fun _ _ h => by cases h⟩
set_option maxRecDepth 100000
theorem reads_canon (os : Os) {H : Type} (enc : TypeId × Value → H) : ∃ places, DataW.whole enc Try.prog ((world0 os).forCall (fun _ _ => 0) ⟨#[], #[wit32], []⟩).memory Try.f3.params.toList Rows.fieldCanonSpec.vars false #[wit32].toList 8 =
    some ([.agg (List.replicate 32 (.lit (.int .u8 0)))], [], places) := ⟨[], by kernel_rfl⟩
theorem lifted_canon (os : Os) (started : os.Started) (H : Type) (enc : TypeId × Value → H) (F : Stop.Interp) :
    ReturnsInHanded {} Try.checked os 3 .any ((OpenSpec.ofChange Rows.fieldCanonSpec).preRow enc Try.prog Try.f3 Rows.fieldCanonRow.domain false Rows.fieldCanonRow.laid) (((OpenSpec.ofChange Rows.fieldCanonSpec).at F).post enc Try.prog Try.f3 false true false false) := by
  obtain ⟨places, hx⟩ := reads_canon os enc
  refine returnsInHanded_of_row (C := Try.checked) (s := OpenSpec.ofChange Rows.fieldCanonSpec) own started (by kernel_rfl) Try.func3
    (witness_row_at (enc := enc) (C := Try.checked) false (world0 os) #[wit32] rfl (by kernel_rfl) (by kernel_rfl) (by kernel_rfl)
      (OpenSpec.preRow_of_cond 8 hx (by kernel_rfl) (fun k hk => by cases hk) (by kernel_rfl) (laid_none os _))) ?_
  intro W base args ds gs before hval hW _ _ _ hL _ _
  exact contract_canon H enc W base args ds gs before hval hW hL
theorem said_canon : Rows.FieldCanonSaid :=
  OpenClaim.holds_of_cond 3 Try.f3 rfl rfl rfl rfl rfl rfl rfl ⟨rfl, rfl, rfl, rfl, rfl⟩ rfl rfl rfl rfl rfl (by kernel_rfl) Try.func3 (by kernel_rfl)
    (of_decide_eq_true (by kernel_rfl)) (by unfold Func.isWrapper; first | (rw [if_pos (by decide +kernel)]; kernel_rfl) | (rw [if_neg (by decide +kernel)]; exact ⟨rfl, rfl⟩))
    (fun os started H enc _ F => by rw [OpenClaim.pre_eq_preRow]; exact lifted_canon os started H enc F)
end Go.Proofs.Ytnfbjfbndnmhmaa
