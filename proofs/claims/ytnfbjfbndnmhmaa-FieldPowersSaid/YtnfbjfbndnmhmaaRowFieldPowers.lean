/- FieldPowers holds for every a and e, whatever the package's variables hold: the row. -/
import Derived.Test.YtnfbjfbndnmhmaaLawFieldPowers
import Derived.Test.YtnfbjfbndnmhmaaSxQ
import Derived.Test.YtnfbjfbndnmhmaaRows
namespace Go.Proofs.Ytnfbjfbndnmhmaa.lawFieldPowers
open Go Go.Proofs Sx
open Go.ChangeShapes Go.WideShapes Go.ChangeAt Go.RowKit
set_option maxRecDepth 100000

theorem own : ownKnob Try.prog.godebug = none := by kernel_rfl
theorem contract (H : Type) (enc : TypeId × Value → H) (W : World) (base : Nat) (args : Array Value) (ds gs : List (DataW H)) (before : List MemPlace)
    (hval : ∀ (j : Nat) t v, Try.f5.params[j]? = some t → args[j]? = some v → Value.okWide Try.prog W .any base t v)
    (hW : DataW.Whole enc Try.prog Try.f5.params.toList Rows.fieldPowersSpec.vars false W args.toList ds gs before) (hL : laidMet Try.prog [] W) :
    Calls Try.prog 5 args W fun e W' => ∃ v, e = .returned v ∧ Rows.fieldPowersSpec.post enc Try.prog Try.f5 false true false false W args v W' :=
  law32 (n := 2) (t := 22) (tb := 4) (by kernel_rfl) rfl (by kernel_rfl) (by kernel_rfl) rfl (by kernel_rfl) rfl (fun ds h => match ds, h with | [_, _], _ => rfl) ok_law_powers Try.func5 rfl rfl (fun fs h => match fs, h with | [_, _], _ => rfl)
    (globOK_of hL rfl) hval hW

def wit32 : Value := .agg (Array.replicate 32 (.int .u8 0))
noncomputable def world0 (os : Os) : World := World.holding Try.prog os ⟨#[], #[], []⟩
theorem laid_none (os : Os) (i : Input) : laidMet Try.prog [] ((world0 os).forCall (fun _ _ => 0) i).memory := ⟨[], rfl, List.nodup_nil, fun _ _ h => by cases h⟩
theorem reads (os : Os) {H : Type} (enc : TypeId × Value → H) : ∃ places, DataW.whole enc Try.prog ((world0 os).forCall (fun _ _ => 0) ⟨#[], #[wit32, wit32], []⟩).memory Try.f5.params.toList Rows.fieldPowersSpec.vars false #[wit32, wit32].toList 8 =
    some ([.agg (List.replicate 32 (.lit (.int .u8 0))), .agg (List.replicate 32 (.lit (.int .u8 0)))], [], places) := ⟨[], by kernel_rfl⟩
theorem lifted (os : Os) (started : os.Started) (H : Type) (enc : TypeId × Value → H) (F : Stop.Interp) :
    ReturnsInHanded {} Try.checked os 5 .any ((OpenSpec.ofChange Rows.fieldPowersSpec).preRow enc Try.prog Try.f5 Rows.fieldPowersRow.domain false Rows.fieldPowersRow.laid) (((OpenSpec.ofChange Rows.fieldPowersSpec).at F).post enc Try.prog Try.f5 false true false false) := by
  obtain ⟨places, hx⟩ := reads os enc
  refine returnsInHanded_of_row (C := Try.checked) (s := OpenSpec.ofChange Rows.fieldPowersSpec) own started (by kernel_rfl) Try.func5
    (witness_row_at (enc := enc) (C := Try.checked) false (world0 os) #[wit32, wit32] rfl (by kernel_rfl) (by kernel_rfl) (by kernel_rfl)
      (OpenSpec.preRow_of_cond 8 hx (by kernel_rfl) (fun k hk => by cases hk) (by kernel_rfl) (laid_none os _))) ?_
  intro W base args ds gs before hval hW _ _ _ hL _ _
  exact contract H enc W base args ds gs before hval hW hL
theorem said : Rows.FieldPowersSaid :=
  OpenClaim.holds_of_cond 5 Try.f5 rfl rfl rfl rfl rfl rfl rfl ⟨rfl, rfl, rfl, rfl, rfl⟩ rfl rfl rfl rfl rfl (by kernel_rfl) Try.func5 (by kernel_rfl)
    (of_decide_eq_true (by kernel_rfl)) (by unfold Func.isWrapper; first | (rw [if_pos (by decide +kernel)]; kernel_rfl) | (rw [if_neg (by decide +kernel)]; exact ⟨rfl, rfl⟩))
    (fun os started H enc _ F => by rw [OpenClaim.pre_eq_preRow]; exact lifted os started H enc F)
end Go.Proofs.Ytnfbjfbndnmhmaa.lawFieldPowers
