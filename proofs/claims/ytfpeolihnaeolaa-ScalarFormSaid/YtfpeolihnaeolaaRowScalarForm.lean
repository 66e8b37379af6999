/- The form of the digits, of which there is just one, and their sum: ScalarForm answers true for every number of 32 bytes and every width. -/
import Derived.Test.YtfpeolihnaeolaaLawScalarForm
import Derived.Test.YtfpeolihnaeolaaSxR
import Derived.Test.YtfpeolihnaeolaaSxT
import Derived.Test.YtfpeolihnaeolaaRows
namespace Go.Proofs.Ytfpeolihnaeolaa.lawScalarForm
open Go Go.Proofs Sx
open Go.ChangeShapes Go.WideShapes Go.ChangeAt Go.RowKit
set_option maxRecDepth 100000

theorem own : ownKnob Try.prog.godebug = none := by kernel_rfl
theorem contract (H : Type) (enc : TypeId × Value → H) (W : World) (base : Nat) (args : Array Value) (ds gs : List (DataW H)) (before : List MemPlace)
    (hval : ∀ (j : Nat) t v, Try.f5.params[j]? = some t → args[j]? = some v → Value.okWide Try.prog W .any base t v)
    (hW : DataW.Whole enc Try.prog Try.f5.params.toList Rows.scalarFormSpec.vars false W args.toList ds gs before) (hL : laidMet Try.prog [] W) :
    Calls Try.prog 5 args W fun e W' => ∃ v, e = .returned v ∧ Rows.scalarFormSpec.post enc Try.prog Try.f5 false true false false W args v W' :=
  lawG (pks := [.arr 32 .u8, .int .i64]) (n := 2) (tb := 4) (by kernel_rfl) (by kernel_rfl) rfl (by kernel_rfl) rfl (by kernel_rfl) rfl (fun ds h => match ds, h with | [_, _], _ => rfl) ok_law_sform Try.func5 rfl rfl (by
    intro xs h hw
    rcases xs with _ | ⟨x0, _ | ⟨x1, _ | ⟨y, ys⟩⟩⟩
    · exact h.elim
    · exact h.2.elim
    · obtain ⟨⟨f0, rfl⟩, ⟨f1, rfl⟩, _⟩ := h
      exact ⟨_, rfl, fun p hp => by simp at hp⟩
    · exact h.2.2.elim)
    (globOK_of hL rfl) hval hW

def wit : Array Value := #[.agg (Array.replicate 32 (.int .u8 0)), .int .i64 0]
noncomputable def world0 (os : Os) : World := World.holding Try.prog os ⟨#[], #[], []⟩
theorem laid_met (os : Os) : laidMet Try.prog [] ((world0 os).forCall (fun _ _ => 0) ⟨#[], wit, []⟩).memory := ⟨[], rfl, List.nodup_nil, fun _ _ h => by cases h⟩
theorem reads (os : Os) {H : Type} (enc : TypeId × Value → H) : ∃ places, DataW.whole enc Try.prog ((world0 os).forCall (fun _ _ => 0) ⟨#[], wit, []⟩).memory Try.f5.params.toList Rows.scalarFormSpec.vars false wit.toList 8 =
    some ([.agg (List.replicate 32 (.lit (.int .u8 0))), .lit (.int .i64 0)], [], places) := ⟨[], by kernel_rfl⟩
theorem lifted (os : Os) (started : os.Started) (H : Type) (enc : TypeId × Value → H) (F : Stop.Interp) :
    ReturnsInHanded {} Try.checked os 5 .any ((OpenSpec.ofChange Rows.scalarFormSpec).preRow enc Try.prog Try.f5 Rows.scalarFormRow.domain false Rows.scalarFormRow.laid) (((OpenSpec.ofChange Rows.scalarFormSpec).at F).post enc Try.prog Try.f5 false true false false) := by
  obtain ⟨places, hx⟩ := reads os enc
  refine returnsInHanded_of_row (C := Try.checked) (s := OpenSpec.ofChange Rows.scalarFormSpec) own started (by kernel_rfl) Try.func5
    (witness_row_at (enc := enc) (C := Try.checked) false (world0 os) wit rfl (by kernel_rfl) (by kernel_rfl) (by kernel_rfl)
      (OpenSpec.preRow_of_cond 8 hx (by kernel_rfl) (fun k hk => by cases hk) (by kernel_rfl) (laid_met os))) ?_
  intro W base args ds gs before hval hW _ _ _ hL _ _
  exact contract H enc W base args ds gs before hval hW hL
theorem said : Rows.ScalarFormSaid :=
  OpenClaim.holds_of_cond 5 Try.f5 rfl rfl rfl rfl rfl rfl rfl ⟨rfl, rfl, rfl, rfl, rfl⟩ rfl rfl rfl rfl rfl (by kernel_rfl) Try.func5 (by kernel_rfl)
    (of_decide_eq_true (by kernel_rfl)) (by unfold Func.isWrapper; first | (rw [if_pos (by decide +kernel)]; kernel_rfl) | (rw [if_neg (by decide +kernel)]; exact ⟨rfl, rfl⟩))
    (fun os started H enc _ F => by rw [OpenClaim.pre_eq_preRow]; exact lifted os started H enc F)
end Go.Proofs.Ytfpeolihnaeolaa.lawScalarForm
