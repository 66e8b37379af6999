/-
  Calls, and every operation at once.
-/
import Derived.Test.YtnfbjfbndnmhmaaSxF
namespace Sx
open Go Go.RowKit

section
variable {P : Program} {E : Env} {w0 : World} {m : M} {S : St} {a : Act} {w : World} {gd : Gd}

theorem argOf_ok (R : Rel w0 m S a w) (hg : GdOK S gd) {rd : List Nat} {x : Operand} (hk : constOk x = true) {cs : List Prop} {v : AV} (h : argOf rd gd S x = some (cs, v)) (hc : ∀ p ∈ cs, p) :
    ArgR w v (a.eval x) ∧ wfV v := by
  obtain ⟨hv, hw⟩ := opg_ok R hg x hk
  unfold argOf at h
  split at h
  · rename_i hx; cases h; rw [hx] at hv hw; exact ⟨hv, hw⟩
  · rename_i hx; cases h; rw [hx] at hv hw; exact ⟨hv, hw⟩
  · rename_i hx; cases h; rw [hx] at hv hw; exact ⟨hv, hw⟩
  · rename_i s es off len cap hx
    rw [hx] at hv
    obtain ⟨aa, h1, h2, h3⟩ := hv
    split at h
    · split at h
      · rename_i k n f hs
        split at h
        · rename_i cs1 hle
          cases h
          have hle' := leq_ok hle hc
          rw [add_val, mul_val, lit_val] at hle'
          obtain ⟨h0, ⟨T, hb⟩, _, hwf⟩ := own_block R hs
          refine ⟨⟨aa, h1, fun hp => ⟨(m s).1, off.val, by rw [h2 hp, h0, Nat.zero_add], fun j hj => ?_⟩, h3⟩, fun i hi => hwf _ (by omega)⟩
          rw [cell_of_row w _ _ _ T (0, 0) hb]
          exact cellsA_get _ _ _ _ (by omega)
        · cases h
      · rename_i k es' len' cap' f hs
        split at h
        · rename_i cs1 hle
          cases h
          have hle' := leq_ok hle hc
          rw [add_val, mul_val, mul_val] at hle'
          have hwx := vals_get R s
          rw [hs] at hwx
          refine ⟨⟨aa, h1, fun hp => ⟨(m s).1, (m s).2 + off.val, h2 hp, fun j hj => ?_⟩, h3⟩, fun i hi => hwx.2 _ (by omega)⟩
          have := R.xsls s k es' len' cap' f hs (off.val + j) (by omega)
          rw [Nat.add_assoc, R.below.cell (World.block_lt_of_cell? w0 _ this)]
          exact this
        · cases h
      · cases h
    · cases h
  · cases h

theorem argsOf_ok (R : Rel w0 m S a w) (hg : GdOK S gd) {rd : List Nat} : ∀ (xs : List Operand) (cs : List Prop) (vs : List AV), (∀ x ∈ xs, constOk x = true) → argsOf rd gd S xs = some (cs, vs) → (∀ p ∈ cs, p) →
    All2 (ArgR w) vs (xs.map a.eval) ∧ ∀ v ∈ vs, wfV v
  | [], cs, vs, _, h, _ => by
    simp only [argsOf] at h
    cases h
    exact ⟨trivial, fun v hv => by simp at hv⟩
  | x :: xs, cs, vs, hk, h, hc => by
    simp only [argsOf] at h
    split at h
    · rename_i c1 v h1
      split at h
      · rename_i c2 vs' h2
        cases h
        obtain ⟨a1, a2⟩ := argOf_ok R hg (hk x (by simp)) h1 (fun p hp => hc p (List.mem_append_left _ hp))
        obtain ⟨b1, b2⟩ := argsOf_ok R hg xs c2 vs' (fun y hy => hk y (by simp [hy])) h2 (fun p hp => hc p (List.mem_append_right _ hp))
        refine ⟨⟨a1, b1⟩, fun u hu => ?_⟩
        rcases List.mem_cons.1 hu with rfl | hu
        · exact a2
        · exact b2 u hu
      · cases h
    · cases h

theorem ResR_ok {m : M} {r : AV} {v : Value} (h : ResR r v) : free r = true ∧ VR m 0 r v ∧ wfV r := by
  unfold ResR at h
  split at h
  · exact ⟨rfl, ⟨h.1, h.2.1⟩, h.2.2⟩
  · obtain ⟨h1, h2, h3⟩ := h
    subst h3
    exact ⟨plain_free h1, VR_pv h1, wfP_wfV h1 h2⟩

theorem call_ok (hP : EnvOK P E) (G : GlobOK E.glob w0) (R : Rel w0 m S a w) (hg : GdOK S gd) {rd : List Nat} {o : Oper} {c : Go.Call} (ho : o.op = .call c) (hk : ∀ x ∈ c.args.toList, constOk x = true) {cs : List Prop} {us : List (Nat × AV)}
    (h : effCall E rd gd S o.dst c = some (cs, us)) (hc : ∀ p ∈ cs, p) (hn : ∀ d ∈ us.map Prod.fst, noWhen d S) : Does P o a w (Led w0 S us) := by
  unfold effCall at h
  split at h
  · rename_i f hcal
    split at h
    · rename_i c1 vs hargs
      split at h
      · rename_i c2 r hcon
        split at h
        case isFalse => cases h
        have := ret1_cs h
        subst this
        obtain ⟨ha, hwf⟩ := argsOf_ok R hg _ _ _ hk hargs (fun p hp => hc p (List.mem_append_left _ hp))
        have hs := hP.call f vs c2 r hcon (fun p hp => hc p (List.mem_append_right _ hp)) hwf w (G.later R.below) _ ha
        have hex : execOp a.eval o = (do let d ← resolve a.eval c o.type; invoke d.target d.args) := by simp only [execOp, ho]
        have hres : (resolve a.eval c o.type).run P w = .ok { target := .fn (.func f) #[], args := c.args.map a.eval } w := by
          simp only [resolve, hcal, Act.eval, Deferred.ofValue]
          simp
        have hrun : (execOp a.eval o).run P w = (callFunc f (c.args.map a.eval)).run P w := by
          rw [hex, Sem.run_bind, hres]
          simp [invoke]
        have hto : (c.args.toList.map a.eval).toArray = c.args.map a.eval := by
          apply Array.ext'
          simp
        rw [hto] at hs
        rcases hs with ⟨fn, hf, hbody, hname, hcalls⟩ | ⟨v, hr, hdir⟩
        · refine does_call (f := f) (args := c.args.map a.eval) (w' := w) ?_ hcalls ?_
          · rw [hrun]
            simp only [callFunc, Sem.run_bind, run_program, Result.andThen_ok, hf, hname, hbody, Bool.false_eq_true, if_false, Sem.run_pure]
          · intro e w'' ⟨v, he, hr, hb⟩
            refine ⟨v, he, m, ?_⟩
            obtain ⟨q1, q2, q3⟩ := ResR_ok (m := m) hr
            exact ret1_ok (R.later hb) h q1 q2 q3 hn
        · obtain ⟨q1, q2, q3⟩ := ResR_ok (m := m) hr
          exact led_value (i := 0) R rfl (by rw [hrun]; exact hdir) h q1 q2 q3 hn
      · cases h
    · cases h
  · rename_i hcal
    split at h
    · rename_i x t hargs htys
      split at h
      · rename_i e hd
        have hT := slice_ty hP hd
        obtain ⟨hv, hw⟩ := opg_ok R hg x (hk x (by rw [hargs]; simp))
        have hlen : ∀ (aa : Option Addr) (l cp : Nat), a.eval x = .slice aa l cp → (execOp a.eval o).run P w = .ok (.value (.int .i64 l)) w := by
          intro aa l cp hev
          have h1 : c.args = #[x] := Array.toList_inj.1 (by simp [hargs])
          have h2 : c.argTypes = #[t] := Array.toList_inj.1 (by simp [htys])
          simp only [execOp, ho, Sem.run_bind, resolve, hcal, h1, h2, Sem.run_pure, Result.andThen_ok, invoke, builtin, Builtin.len_, List.map_toArray, List.map_cons, List.map_nil, hev]
          simp only [List.getElem?_toArray, List.getElem?_cons_zero, Sem.run_bind, run_underlying hT, Result.andThen_ok, Sem.run_pure, goInt]
        have fin : ∀ (l : SO) (cp : Nat) (aa : Option Addr), a.eval x = .slice aa l.val cp → ret1 o.dst [] (.int .i64 (lenSI l)) = some (cs, us) → l.val ≤ 9223372036854775807 → Does P o a w (Led w0 S us) := by
          intro l cp aa hev hret hle
          refine led_value (i := 0) R rfl (hlen _ _ _ hev) hret rfl ?_ ?_ hn
          · cases l <;> rfl
          · show inR _ _
            cases l <;> simp [lenSI, SI.val, inR, IntKind.min, IntKind.max, IntKind.signed, IntKind.bits, SO.val] at hle ⊢ <;> omega
        split at h
        · rename_i hx
          rw [hx] at hv
          obtain ⟨aa, h1, h2, h3, h4⟩ := hv
          unfold capMax at h4
          exact fin _ _ _ h1 h (by omega)
        · rename_i hx
          rw [hx] at hv
          obtain ⟨aa, h1, h2, h3, h4⟩ := hv
          unfold capMax at h4
          exact fin _ _ _ h1 h (by omega)
        · cases h
      · cases h
    · cases h
  · cases h
end
end Sx
