/- Two lists of digits behind one another: ScalarLinear answers true for every two lists that read with a bulk of at most 1048576, and they read as they did. -/
import Derived.Test.YtfpeolihnaeolaaDoorZLawScalarLinear
import Derived.Test.YtfpeolihnaeolaaDoorZEB
import Derived.Test.YtfpeolihnaeolaaDoorCards
import Derived.Test.YtfpeolihnaeolaaDoorTie
namespace Go.Proofs.YtfpeolihnaeolaaDoor.lawScalarLinear
open Go Go.Proofs Sx
open Go.ChangeShapes Go.WideShapes Go.ChangeAt Go.RowKit
set_option maxRecDepth 100000

theorem bulk_pos {H : Type} (d : DataW H) : 1 ≤ Rows.uptoBulk d := by
  cases d with
  | lit x => cases x <;> simp [Rows.uptoBulk]
  | _ => simp [Rows.uptoBulk]
theorem bulk_all {H : Type} : ∀ l : List (DataW H), l.length ≤ Rows.uptoBulkAll l
  | [] => Nat.zero_le _
  | d :: l => by
    have h1 := bulk_pos d
    have h2 := bulk_all l
    simp only [Rows.uptoBulkAll, List.length_cons]
    omega
theorem bulk_mem {H : Type} {d : DataW H} : ∀ {l : List (DataW H)}, d ∈ l → Rows.uptoBulk d ≤ Rows.uptoBulkAll l
  | [], h => by simp at h
  | e :: l, h => by
    simp only [Rows.uptoBulkAll]
    rcases List.mem_cons.1 h with rfl | h
    · omega
    · have := bulk_mem h
      omega
theorem bulk_len {H : Type} {x : AV} {k : IntKind} {es : Nat} {len cap : SO} {f : Nat → Int} {d : DataW H} (hx : x = .xsl k es len cap f) (h : Lens x d) {l : List (DataW H)} (hm : d ∈ l) (hb : Rows.uptoSmall H l = true) : Mild len.val := by
  subst hx
  have hs : Rows.uptoBulkAll l ≤ 1048576 := of_decide_eq_true hb
  rcases h with h | ⟨el, sp, rfl, h⟩
  · exact ⟨by rw [h]; omega⟩
  · have h1 := bulk_mem hm
    have h2 := bulk_all el
    simp only [Rows.uptoBulk] at h1
    exact ⟨by omega⟩

theorem own : ownKnob Tryd.prog.godebug = none := by kernel_rfl
theorem contract (H : Type) (enc : TypeId × Value → H) (W : World) (base : Nat) (args : Array Value) (ds gs : List (DataW H)) (before : List MemPlace)
    (hval : ∀ (j : Nat) t v, Tryd.f12.params[j]? = some t → args[j]? = some v → Value.okWide Tryd.prog W .any base t v)
    (hW : DataW.Whole enc Tryd.prog Tryd.f12.params.toList Rows.scalarLinearSpec.vars false W args.toList ds gs before) (hk : Rows.uptoSmall H (ds ++ gs) = true) (hL : laidMet Tryd.prog Rows.scalarLinearUptoRow.laid W) :
    Calls Tryd.prog 12 args W fun e W' => ∃ v, e = .returned v ∧ Rows.scalarLinearSpec.post enc Tryd.prog Tryd.f12 false true false false W args v W' :=
  lawU (pks := [.sl .i8, .sl .i8]) (n := 2) (tb := 4) (by kernel_rfl) (by kernel_rfl) rfl (by kernel_rfl) rfl (by kernel_rfl) rfl (fun ds h => match ds, h with | [_, _], _ => rfl) ok_law_slinear Tryd.func12 rfl rfl (by
    intro xs h hw hl
    rcases xs with _ | ⟨x0, _ | ⟨x1, _ | ⟨y, ys⟩⟩⟩
    · exact h.elim
    · exact h.2.elim
    · obtain ⟨⟨l0, c0, f0, rfl⟩, ⟨l1, c1, f1, rfl⟩, _⟩ := h
      rcases ds with _ | ⟨d0, _ | ⟨d1, _ | ⟨e, es⟩⟩⟩
      · exact hl.elim
      · exact hl.2.elim
      · refine ⟨_, rfl, fun p hp => ?_⟩
        simp only [List.mem_cons, List.not_mem_nil, or_false] at hp
        rcases hp with rfl | rfl
        · exact bulk_len rfl hl.1 (by simp) hk
        · exact bulk_len rfl hl.2.1 (by simp) hk
      · exact hl.2.2.elim
    · exact h.2.2.elim)
    (globOK_of (l := gl_slinear) hL (by kernel_rfl)) hval hW

def wit : Array Value := #[.slice none 0 0, .slice none 0 0]
noncomputable def world0 (os : Os) : World := { World.holding Tryd.prog os ⟨#[], #[], []⟩ with heap := laidHeap gl_slinear (World.holding Tryd.prog os ⟨#[], #[], []⟩).heap }
theorem laid_met (os : Os) : laidMet Tryd.prog Rows.scalarLinearUptoRow.laid ((world0 os).forCall (fun _ _ => 0) ⟨#[], wit, []⟩).memory := laidMet_of_run' 8 (by kernel_rfl) (by kernel_rfl)
theorem reads (os : Os) {H : Type} (enc : TypeId × Value → H) : ∃ places, DataW.whole enc Tryd.prog ((world0 os).forCall (fun _ _ => 0) ⟨#[], wit, []⟩).memory Tryd.f12.params.toList Rows.scalarLinearSpec.vars false wit.toList 8 =
    some ([.nil, .nil], [], places) := ⟨[], by kernel_rfl⟩
theorem lifted (os : Os) (started : os.Started) (H : Type) (enc : TypeId × Value → H) (F : Stop.Interp) :
    ReturnsInHanded {} Tryd.checked os 12 .any ((Rows.OpenSpec.upto Rows.scalarLinearSpec).preRow enc Tryd.prog Tryd.f12 Rows.scalarLinearUptoRow.domain false Rows.scalarLinearUptoRow.laid) (((Rows.OpenSpec.upto Rows.scalarLinearSpec).at F).post enc Tryd.prog Tryd.f12 false true false false) := by
  obtain ⟨places, hx⟩ := reads os enc
  refine returnsInHanded_of_row (C := Tryd.checked) (s := Rows.OpenSpec.upto Rows.scalarLinearSpec) own started (by kernel_rfl) Tryd.func12
    (witness_row_at (enc := enc) (C := Tryd.checked) false (world0 os) wit rfl (by kernel_rfl) (by kernel_rfl) (by kernel_rfl)
      (OpenSpec.preRow_of_cond 8 hx (by kernel_rfl) (fun k hk => by cases hk; rfl) (by kernel_rfl) (laid_met os))) ?_
  intro W base args ds gs before hval hW _ hk _ hL _ _
  exact contract H enc W base args ds gs before hval hW (hk _ rfl) hL
theorem said : Rows.ScalarLinearUptoSaid :=
  OpenClaim.holds_of_cond 12 Tryd.f12 rfl rfl rfl rfl rfl rfl rfl ⟨rfl, rfl, rfl, rfl, rfl⟩ rfl rfl rfl rfl rfl (by kernel_rfl) Tryd.func12 (by kernel_rfl)
    (of_decide_eq_true (by kernel_rfl)) (by unfold Func.isWrapper; first | (rw [if_pos (by decide +kernel)]; kernel_rfl) | (rw [if_neg (by decide +kernel)]; exact ⟨rfl, rfl⟩))
    (fun os started H enc _ F => by rw [OpenClaim.pre_eq_preRow]; exact lifted os started H enc F)

/-- No parameter wants a stand-in; the program's own looks are off. -/
theorem plain (f : FuncId) (fn : Func) (hf : Tryd.pinned.checked.prog.funcNamed "ledger/ledgerlaw03.ScalarLinear" = some f) (hfn : Tryd.pinned.checked.prog.funcs[f]? = some fn) :
    false = Tryd.pinned.checked.prog.looks [] ∧ ∀ (j : Nat) t, fn.params[j]? = some t → Tryd.pinned.checked.prog.wantsStandIn t = false := by
  obtain rfl : f = 12 := Option.some.inj ((show Tryd.prog.funcNamed "ledger/ledgerlaw03.ScalarLinear" = some 12 by kernel_rfl).symm.trans hf) |>.symm
  obtain rfl : fn = Tryd.f12 := (Option.some.inj (Tryd.func12.symm.trans hfn)).symm
  refine ⟨by kernel_rfl, fun j t ht => ?_⟩
  have hall : (Tryd.f12.params.toList.all fun t => Tryd.pinned.checked.prog.wantsStandIn t == false) = true := by kernel_rfl
  rw [List.all_eq_true] at hall
  exact eq_of_beq (hall t (by simpa using Array.mem_of_getElem? ht))

/-- The card. -/
theorem card : Rows.ScalarLinearUptoCardSaid :=
  Claim7.holds_tied_plain_at .later [] _ _ _ _ said (fun _ h => by cases h) (by kernel_rfl) (fun _ h => by cases h) scalarLinearUpto_row_tie rfl ⟨rfl, rfl⟩ (by kernel_rfl) rfl plain (by kernel_rfl)
end Go.Proofs.YtfpeolihnaeolaaDoor.lawScalarLinear
