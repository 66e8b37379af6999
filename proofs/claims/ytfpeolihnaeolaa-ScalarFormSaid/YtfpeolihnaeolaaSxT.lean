/-
  From a law's contract to its row, whatever its parameters: arrays, numbers, lists of numbers.
-/
import Derived.Test.YtfpeolihnaeolaaSxQ
import Derived.ChangeSlices
namespace Sx
open Go Go.ChangeShapes Go.WideShapes Go.ChangeAt Go.RowKit

/-- What a parameter is. -/
inductive PK where
  | arr (n : Nat) (k : IntKind)
  | int (k : IntKind)
  | sl (k : IntKind)

def pkChk (P : Program) (p : PK) (t : TypeId) : Bool :=
  match p with
  | .arr n k => arrChk P t n k
  | .int k => (match P.underlying t with | some (.int k') => decide (k = k') | _ => false)
  | .sl k => (match P.underlying t with | some (.slice e) => (match P.underlying e with | some (.int k') => decide (k = k') | _ => false) && P.cellsOf e == 1 | _ => false)
def pkAll (P : Program) : List PK → List TypeId → Bool
  | [], [] => true
  | p :: ps, t :: ts => pkChk P p t && pkAll P ps ts
  | _, _ => false
/-- An argument of such a parameter. -/
def Fits : PK → AV → Prop
  | .arr n k, v => ∃ f, v = .arr k n f
  | .int k, v => ∃ n, v = .int k (.sym n)
  | .sl k, v => ∃ len cap f, v = .xsl k 1 (.sym len) (.sym cap) f

section
variable {P : Program} {H : Type} {enc : TypeId × Value → H}

theorem wf_inR {k : IntKind} {n : Int} (h : (Lit.int k n).wf = true) : inR k n := by
  simpa [Lit.wf, inR] using h

theorem open_one {p : PK} {t : TypeId} (hc : pkChk P p t = true) {W : World} {r : Reach} {b : Nat} {v : Value} (hv : Value.okWide P W r b t v) {sp : Nat → Bool} {hd : Bool} {d : DataW H} {ps : List MemPlace} (hT : DataW.Trod enc P W 0 sp hd t v d ps) :
    ∃ x, Fits p x ∧ ArgR W x v ∧ wfV x := by
  cases p with
  | arr n k =>
    obtain ⟨f, rfl, hf⟩ := open_arr hc hv
    exact ⟨.arr k n f, ⟨f, rfl⟩, rfl, hf⟩
  | int k =>
    simp only [pkChk] at hc
    split at hc
    · rename_i k' hu
      have := of_decide_eq_true hc
      subst this
      have h2 : Cell.okWide P W r b t v := by simpa [Value.okWide, hu] using hv
      obtain ⟨n, rfl, hn⟩ := cell_int hu h2
      exact ⟨.int k (.sym n), ⟨n, rfl⟩, rfl, hn⟩
    · cases hc
  | sl k =>
    simp only [pkChk] at hc
    split at hc
    · rename_i e hu
      simp only [Bool.and_eq_true, beq_iff_eq] at hc
      obtain ⟨hc1, hc2⟩ := hc
      split at hc1
      · rename_i k' he
        have := of_decide_eq_true hc1
        subst this
        obtain ⟨a0, len0, cap0, rfl⟩ := okWide_slice hu hv
        obtain ⟨fuel, hf⟩ := hT
        rcases open_ints hu he hc2 hf with ⟨hcs, _⟩ | ⟨a, len, cap, zs, hcs, _, hl, hm, hz, _, hcell, hwz⟩
        · have e0 : Value.slice a0 len0 cap0 = .slice none 0 0 := by simpa [Value.cells] using hcs
          rw [e0]
          exact ⟨.xsl k 1 (.sym 0) (.sym 0) (fun _ => 0), ⟨0, 0, _, rfl⟩, ⟨none, 0, rfl, fun h => absurd h (by decide), Nat.le_refl _, by decide⟩, fun i hi => absurd hi (by simp [SO.val])⟩
        · have e0 : Value.slice a0 len0 cap0 = .slice (some a) len cap := by simpa [Value.cells] using hcs
          rw [e0]
          have hlz : len ≤ zs.length := by rw [hz]; split <;> omega
          refine ⟨.xsl k 1 (.sym len) (.sym cap) (fun i => zs.getD i 0), ⟨len, cap, _, rfl⟩, ⟨some a, cap, rfl, fun h => ?_, hl, hm⟩, fun i hi => ?_⟩
          · have h0 : 0 < len := h
            obtain ⟨blk, off, spot⟩ := a
            have hspot : spot = none := by simpa [Addr.add] using World.cell?_spot (hcell 0 (by omega))
            subst hspot
            refine ⟨blk, off, rfl, fun j hj => ?_⟩
            have hj2 : j < len := by simpa [SO.val] using hj
            have := hcell j (by omega)
            rw [Go.WideShapes.add_plain] at this
            exact this
          · have hi2 : i < zs.length := by
              have : i < len := by simpa [SO.val] using hi
              omega
            refine wf_inR (hwz _ ?_)
            show zs.getD i 0 ∈ zs
            rw [List.getD_eq_getElem?_getD, List.getElem?_eq_getElem hi2]
            exact List.getElem_mem hi2
      · cases hc1
    · cases hc

theorem open_alls {W : World} {r : Reach} {b : Nat} {sp : Nat → Bool} {hd : Bool} : ∀ {pks : List PK} {ts : List TypeId} {vs : List Value} {ds : List (DataW H)} {ps : List MemPlace}, pkAll P pks ts = true →
    (∀ (j : Nat) t v, ts[j]? = some t → vs[j]? = some v → Value.okWide P W r b t v) → DataW.TrodAll enc P W 0 sp hd ts vs ds ps → ∃ xs, All2 Fits pks xs ∧ All2 (ArgR W) xs vs ∧ ∀ x ∈ xs, wfV x
  | [], [], [], _, _, _, _, _ => ⟨[], trivial, trivial, fun x hx => by simp at hx⟩
  | p :: pks, t :: ts, v :: vs, d :: ds, _, hc, hv, ⟨p1, q1, h1, h2, _⟩ => by
    simp only [pkAll, Bool.and_eq_true] at hc
    obtain ⟨x, hx1, hx2, hx3⟩ := open_one hc.1 (hv 0 t v rfl rfl) h1
    obtain ⟨xs, h3, h4, h5⟩ := open_alls hc.2 (fun j t' v' ht hv' => hv (j + 1) t' v' (by simpa using ht) (by simpa using hv')) h2
    exact ⟨x :: xs, ⟨hx1, h3⟩, ⟨hx2, h4⟩, fun y hy => by
      rcases List.mem_cons.1 hy with rfl | hy
      · exact hx3
      · exact h5 y hy⟩
  | [], [], _ :: _, ds, _, _, _, h => by cases ds <;> exact h.elim
  | p :: _, t :: _, [], ds, _, _, _, h => by cases ds <;> exact h.elim
  | p :: _, t :: _, _ :: _, [], _, _, _, h => h.elim
  | [], _ :: _, _, _, _, hc, _, _ => by cases hc
  | _ :: _, [], _, _, _, hc, _, _ => by cases hc

theorem lawG (hl : laidOutB P = true) {f : FuncId} {fn : Func} {s : ChangeSpec} {fresh handsOn again apart : Bool} {pks : List PK} {tb : TypeId} (hpk : pkAll P pks fn.params.toList = true)
    {n : Nat} (hlen : fn.params.toList.length = n) (hread : (fn.params.toList.all fun t => P.readableRec t && decide (t < P.types.size)) = true) (hres : fn.resultTypes = #[tb]) (htb : P.underlying tb = some .bool) (hv : s.vars = [])
    (hs : ∀ ds : List (DataW H), ds.length = n → s.fn H ds = { results := [.lit (.bool true)], args := ds })
    {glob : Nat → AV} {c : Contract} (hS : Sound P glob f c) (hf : P.funcs[f]? = some fn) (hb : fn.body.isNone = false) (hname : (fn.name == "runtime.NumGoroutine") = false)
    (hc : ∀ xs, All2 Fits pks xs → (∀ x ∈ xs, wfV x) → ∃ cs, c xs = some (cs, .bool (.sym true)) ∧ ∀ p ∈ cs, p)
    {W : World} {base : Nat} {args : Array Value} {ds gs : List (DataW H)} {before : List MemPlace} (hG : GlobOK glob W)
    (hval : ∀ (j : Nat) t v, fn.params[j]? = some t → args[j]? = some v → Value.okWide P W .any base t v)
    (hW : DataW.Whole enc P fn.params.toList s.vars apart W args.toList ds gs before) :
    Calls P f args W fun e W' => ∃ v, e = .returned v ∧ s.post enc P fn apart fresh handsOn again W args v W' := by
  have hA : ∃ p, DataW.TrodAll enc P W 0 (fun _ => true) true fn.params.toList args.toList ds p := by
    obtain ⟨p, _, h, _⟩ := hW
    exact ⟨p, h⟩
  obtain ⟨p, hA⟩ := hA
  obtain ⟨xs, h1, h2, h3⟩ := open_alls hpk (fun j t v ht hv => hval j t v (by simpa using ht) (by simpa using hv)) hA
  obtain ⟨cs, hcx, hcs⟩ := hc xs h1 h3
  refine law_post hl hread hres htb hv (fun ds hd => hs ds (hd.trans hlen)) hW ?_
  refine (calls_of_sound hS hf hb hname hcx hcs h3 hG h2).mono ?_
  rintro e w' ⟨v, he, hr, hbel⟩
  exact ⟨v, he, hr.2.2, hbel⟩
end
end Sx
