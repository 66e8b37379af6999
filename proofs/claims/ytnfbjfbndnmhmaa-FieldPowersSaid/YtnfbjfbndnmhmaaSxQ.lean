/-
  From a law's contract to its row, for laws over numbers of 32 bytes.
-/
import Derived.Test.YtnfbjfbndnmhmaaSxP
namespace Sx
open Go Go.ChangeShapes Go.WideShapes Go.ChangeAt Go.RowKit

section
variable {P : Program}

theorem calls_of_sound {glob : Nat → AV} {f : FuncId} {c : Contract} (h : Sound P glob f c) {fn : Func} (hf : P.funcs[f]? = some fn) (hb : fn.body.isNone = false) (hname : (fn.name == "runtime.NumGoroutine") = false)
    {vs : List AV} {cs : List Prop} {r : AV} (hc : c vs = some (cs, r)) (hcs : ∀ p ∈ cs, p) (hwf : ∀ x ∈ vs, wfV x) {w : World} (hG : GlobOK glob w) {args : Array Value} (ha : All2 (ArgR w) vs args.toList) :
    Calls P f args w fun e w' => ∃ v, e = .returned v ∧ ResR r v ∧ Below w.heap.size w w' := by
  rcases h vs cs r hc hcs hwf w hG args.toList ha with ⟨_, _, _, _, hC⟩ | ⟨v, _, hrun⟩
  · simpa using hC
  · exfalso
    have h1 : fn.name ≠ "runtime.NumGoroutine" := by simpa using hname
    have h2 : ∃ b, fn.body = some b := by
      cases hbd : fn.body with
      | none => rw [hbd] at hb; cases hb
      | some b => exact ⟨b, rfl⟩
    obtain ⟨b, hbd⟩ := h2
    simp [callFunc, hf, h1, hbd, Sem.run, program] at hrun

theorem open_all {t : TypeId} {n : Nat} {k : IntKind} (harr : arrChk P t n k = true) {W : World} {r : Reach} {b : Nat} : ∀ (vs : List Value), (∀ v ∈ vs, Value.okWide P W r b t v) →
    ∃ fs : List (Nat → Int), fs.length = vs.length ∧ vs = fs.map (fun f => .agg (cellsA k n f)) ∧ ∀ f ∈ fs, ∀ i, i < n → inR k (f i)
  | [], _ => ⟨[], rfl, rfl, fun f hf => by simp at hf⟩
  | v :: vs, h => by
    obtain ⟨f, rfl, hf⟩ := open_arr harr (h v (by simp))
    obtain ⟨fs, h1, h2, h3⟩ := open_all harr vs (fun x hx => h x (by simp [hx]))
    refine ⟨f :: fs, by simp [h1], by simp [h2], fun g hg => ?_⟩
    rcases List.mem_cons.1 hg with rfl | hg
    · exact hf
    · exact h3 g hg

theorem args_all {w : World} {k : IntKind} {n : Nat} : ∀ (fs : List (Nat → Int)), All2 (ArgR w) (fs.map fun f => AV.arr k n f) (fs.map fun f => Value.agg (cellsA k n f))
  | [] => trivial
  | _ :: fs => ⟨rfl, args_all fs⟩

variable {H : Type} {enc : TypeId × Value → H}

theorem law32 (hl : laidOutB P = true) {f : FuncId} {fn : Func} {s : ChangeSpec} {fresh handsOn again apart : Bool} {n : Nat} {t tb : TypeId} (hpar : fn.params.toList = List.replicate n t) (harr : arrChk P t 32 .u8 = true)
    (hread : (P.readableRec t && decide (t < P.types.size)) = true) (hres : fn.resultTypes = #[tb]) (htb : P.underlying tb = some .bool) (hv : s.vars = [])
    (hs : ∀ ds : List (DataW H), ds.length = n → s.fn H ds = { results := [.lit (.bool true)], args := ds })
    {glob : Nat → AV} {c : Contract} (hS : Sound P glob f c) (hf : P.funcs[f]? = some fn) (hb : fn.body.isNone = false) (hname : (fn.name == "runtime.NumGoroutine") = false)
    (hc : ∀ fs : List (Nat → Int), fs.length = n → c (fs.map fun f => AV.arr .u8 32 f) = some ([], .bool (.sym true)))
    {W : World} {base : Nat} {args : Array Value} {ds gs : List (DataW H)} {before : List MemPlace} (hG : GlobOK glob W)
    (hval : ∀ (j : Nat) t v, fn.params[j]? = some t → args[j]? = some v → Value.okWide P W .any base t v)
    (hW : DataW.Whole enc P fn.params.toList s.vars apart W args.toList ds gs before) :
    Calls P f args W fun e W' => ∃ v, e = .returned v ∧ s.post enc P fn apart fresh handsOn again W args v W' := by
  have hA : ∃ p, DataW.TrodAll enc P W 0 (fun _ => true) true fn.params.toList args.toList ds p := by
    obtain ⟨p, _, h, _⟩ := hW
    exact ⟨p, h⟩
  obtain ⟨p, hA⟩ := hA
  have hlen := (trodAll_len hA).1
  have hall : ∀ v ∈ args.toList, Value.okWide P W .any base t v := by
    intro v hv
    obtain ⟨j, hj, e⟩ := List.getElem_of_mem hv
    have hj2 : j < fn.params.toList.length := by omega
    refine hval j t v ?_ ?_
    · have : fn.params.toList[j]? = some t := by
        rw [hpar] at hj2 ⊢
        rw [List.getElem?_replicate, if_pos (by simpa using hj2)]
      simpa using this
    · rw [← Array.getElem?_toList, List.getElem?_eq_getElem hj, e]
  obtain ⟨fs, h1, h2, h3⟩ := open_all harr args.toList hall
  have hn : fs.length = n := by rw [h1, hlen, hpar]; simp
  refine law_post hl (by rw [hpar, List.all_replicate]; split <;> first | rfl | exact hread) hres htb hv (fun ds hd => hs ds (by rw [hd, hpar]; simp)) hW ?_
  refine (calls_of_sound hS hf hb hname (hc fs hn) (fun p hp => by simp at hp) (fun x hx => ?_) hG (by rw [h2]; exact args_all fs)).mono ?_
  · obtain ⟨g, hg, rfl⟩ := List.mem_map.1 hx
    exact h3 g hg
  · rintro e w' ⟨v, he, hr, hbel⟩
    exact ⟨v, he, hr.2.2, hbel⟩
end
end Sx
