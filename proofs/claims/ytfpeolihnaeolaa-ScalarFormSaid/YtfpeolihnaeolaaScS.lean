/-
  A function's contract, where of a slice that came in nothing but its length's value is known.
-/
import Derived.Test.YtfpeolihnaeolaaSxN
namespace Sx
open Go Go.RowKit

section
variable {P : Program}
def symX : AV → AV
  | .int k n => .int k (.sym n.val)
  | .bool b => .bool (.sym b.val)
  | .xsl k es len cap f => .xsl k es (.sym len.val) cap f
  | x => x
theorem symX_arg {w : World} {x : AV} {v : Value} (h : ArgR w x v) : ArgR w (symX x) v := by
  cases x <;> exact h
theorem symX_wf {x : AV} (h : wfV x) : wfV (symX x) := by
  cases x <;> exact h
theorem symX_all {w : World} : ∀ {vs : List AV} {args : List Value}, All2 (ArgR w) vs args → All2 (ArgR w) (vs.map symX) args
  | [], [], _ => trivial
  | _ :: _, _ :: _, h => ⟨symX_arg h.1, symX_all h.2⟩
  | [], _ :: _, h => h.elim
  | _ :: _, [], h => h.elim
theorem sound_symx {G : Nat → AV} (hmix : P.follows .mixedOrders = true) {f : FuncId} {fn : Func} (hf : P.funcs[f]? = some fn) {n : Nat} {rs : List ResultVar} {sc : SC} (hn : fn.ntmps = n) (hrs : fn.results.toList = rs) (hb : fn.body.isNone = false)
    (hname : (fn.name == "runtime.NumGoroutine") = false) (hsc : strip (body fn) = sc) {c : Contract}
    (h : ∀ vs cs r, c vs = some (cs, r) → vs.length ≤ n ∧ ((∀ p ∈ cs, p) → (∀ x ∈ vs, wfV x) → ∃ E : Env, EnvOK P E ∧ E.glob = G ∧ Walk E sc n rs (vs.map symX) r)) : Sound P G f c := by
  intro vs cs r hc hcs hwf w hG args hargs
  obtain ⟨hl, hw⟩ := h vs cs r hc
  obtain ⟨E, hE, hg, hW⟩ := hw hcs hwf
  subst hg
  subst hn; subst hrs; subst hsc
  classical
  have key : Sound P E.glob f (fun vs' => if vs' = vs.map symX then some (cs, r) else none) := by
    refine sound_of hE hmix hf hb hname (fun vs' cs' r' hc' => ?_) (fun vs' cs' r' hc' _ _ => ?_)
    · split at hc'
      · rename_i e; subst e; simpa using hl
      · cases hc'
    · split at hc'
      · rename_i e; subst e; cases hc'; exact hW.run
      · cases hc'
  refine key (vs.map symX) cs r (if_pos rfl) hcs (fun x hx => ?_) w hG args (symX_all hargs)
  obtain ⟨y, hy, rfl⟩ := List.mem_map.1 hx
  exact symX_wf (hwf y hy)
end
end Sx
