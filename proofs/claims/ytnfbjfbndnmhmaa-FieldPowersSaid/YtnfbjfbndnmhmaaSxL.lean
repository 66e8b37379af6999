/-
  The code round the statements, and a whole function.
-/
import Derived.Test.YtnfbjfbndnmhmaaSxK
import Derived.LoopN
import Derived.Deep.LoopGhost
namespace Sx
open Go Go.RowKit

section
variable {P : Program} {E : Env} {w0 : World}

/-- What the walk shows of an end. -/
def Lift (w0 : World) (Q : Ex → St → Prop) : Exit → Act → World → Prop
  | .normal, a, w => ∃ S m, Q .normal S ∧ Rel w0 m S a w
  | .exit id, a, w => ∃ S m, Q (.exit id) S ∧ Rel w0 m S a w
  | .ret, a, w => ∃ S m, Q .ret S ∧ Rel w0 m S a w
  | _, _, _ => False

theorem Lift.mono {Q Q' : Ex → St → Prop} (h : ∀ e S, Q e S → Q' e S) : ∀ e a w, Lift w0 Q e a w → Lift w0 Q' e a w
  | .normal, _, _, ⟨S, m, h1, h2⟩ => ⟨S, m, h _ _ h1, h2⟩
  | .exit _, _, _, ⟨S, m, h1, h2⟩ => ⟨S, m, h _ _ h1, h2⟩
  | .ret, _, _, ⟨S, m, h1, h2⟩ => ⟨S, m, h _ _ h1, h2⟩
  | .goto _, _, _, h => h.elim
  | .panic _, _, _, h => h.elim
  | .outgrown, _, _, h => h.elim

theorem andAll_iff : ∀ (cs : List Prop) (p : Prop), andAll cs p → (∀ c ∈ cs, c) ∧ p
  | [], p, h => ⟨fun c hc => by simp at hc, h⟩
  | c :: cs, p, h => by
    obtain ⟨h1, h2⟩ := h
    obtain ⟨h3, h4⟩ := andAll_iff cs p h2
    refine ⟨fun d hd => ?_, h4⟩
    rcases List.mem_cons.1 hd with rfl | hd
    · exact h1
    · exact h3 d hd

theorem leAV_ok {m : M} {i : Nat} {x y : AV} {v : Value} (h : leAV x y) (hv : VR m i x v) (hw : wfV x) (hx : bare x = true) : VR m i y v ∧ wfV y := by
  unfold leAV at h
  split at h
  · exact ⟨trivial, trivial⟩
  · rename_i k n k' n'
    obtain ⟨rfl, hn⟩ := h
    refine ⟨?_, ?_⟩
    · have : v = .int k n.val := hv
      rw [hn] at this
      exact this
    · have : inR k n.val := hw
      rw [hn] at this
      exact this
  · rename_i b b'
    have : v = .bool b.val := hv
    rw [h] at this
    exact ⟨this, trivial⟩
  · rename_i k n f k' n' g
    obtain ⟨rfl, rfl, hfg⟩ := h
    have : v = .agg (cellsA k n f) := hv
    rw [cellsA_congr hfg] at this
    exact ⟨this, fun j hj => by rw [← hfg j hj]; exact hw j hj⟩
  · rename_i k n f k' n' g
    obtain ⟨rfl, rfl, hfg⟩ := h
    exact ⟨⟨hv.1, rfl⟩, fun j hj => by rw [← hfg j hj]; exact hw j hj⟩
  · rename_i k n k' n'
    obtain ⟨rfl, hn⟩ := h
    exact ⟨⟨hv.1, rfl⟩, by have : inR k n.val := hw; rw [hn] at this; exact this⟩
  · exact ⟨⟨hv.1, rfl⟩, trivial⟩
  · rename_i k es len cap f k' es' len' cap' g
    obtain ⟨rfl, rfl, hl, hc, hfg⟩ := h
    obtain ⟨aa, h1, h2, h3⟩ := hv
    refine ⟨⟨aa, by rw [h1, hl, hc], by rw [← hl]; exact h2, by rw [← hl, ← hc]; exact h3⟩, fun j hj => ?_⟩
    rw [← hl] at hj
    rw [← hfg j hj]
    exact hw j hj
  · subst h
    exact ⟨hv, trivial⟩
  · exact h.elim

theorem leAV_bare {x y : AV} (h : leAV x y) (hy : y ≠ .junk) : bare x = true ∧ bare y = true := by
  unfold leAV at h
  split at h
  · exact absurd rfl hy
  all_goals first | exact ⟨rfl, rfl⟩ | exact h.elim

theorem leSt_get : ∀ {S T : St}, leSt S T → S.length = T.length ∧ ∀ i, leAV (get S i) (get T i)
  | [], [], _ => ⟨rfl, fun i => by simp [get, leAV]⟩
  | x :: S, y :: T, h => by
    obtain ⟨h1, h2⟩ := h
    obtain ⟨h3, h4⟩ := leSt_get h2
    refine ⟨by simp [h3], fun i => ?_⟩
    cases i with
    | zero => simpa [get] using h1
    | succ i => simpa [get] using h4 i
  | [], _ :: _, h => h.elim
  | _ :: _, [], h => h.elim

theorem leAV_own {x y : AV} (h : leAV x (.own y)) : ∃ x', x = .own x' ∧ cellsOf x' = cellsOf y := by
  unfold leAV at h
  split at h
  all_goals try (rename_i he; cases he; done)
  all_goals try (rename_i he1 he2; cases he2; done)
  · rename_i he; cases he
    obtain ⟨rfl, rfl, hfg⟩ := h
    exact ⟨_, rfl, cellsA_congr hfg⟩
  · rename_i he; cases he
    obtain ⟨rfl, hn⟩ := h
    exact ⟨_, rfl, by simp [cellsOf, hn]⟩
  · rename_i he; cases he
    exact ⟨_, rfl, by simp [cellsOf, h]⟩
  · exact h.elim

theorem leAV_xsl {x : AV} {k : IntKind} {es : Nat} {len cap : SO} {g : Nat → Int} (h : leAV x (.xsl k es len cap g)) : ∃ len' cap' f, x = .xsl k es len' cap' f ∧ len'.val = len.val ∧ ∀ i, i < len'.val * es → f i = g i := by
  unfold leAV at h
  split at h
  all_goals try (rename_i he; cases he; done)
  all_goals try (rename_i he1 he2; cases he2; done)
  · rename_i he; cases he
    obtain ⟨rfl, rfl, hl, hc, hfg⟩ := h
    exact ⟨_, _, _, rfl, hl, hfg⟩
  · exact h.elim

/-- What the slots' descriptions say, said more weakly. -/
theorem Rel.le {m : M} {S T : St} {a : Act} {w : World} (R : Rel w0 m S a w) (h : leSt S T) : Rel w0 m T a w := by
  obtain ⟨hlen, hle⟩ := leSt_get h
  refine ⟨R.defers, by rw [R.size, hlen], R.below, ?_, ?_, ?_, ?_⟩
  · intro i hi
    by_cases hj : get T i = .junk
    · rw [hj]; exact ⟨trivial, trivial⟩
    · obtain ⟨b1, b2⟩ := leAV_bare (hle i) hj
      have h0 := R.vals i (by rw [hlen]; exact hi)
      unfold OKV at h0
      split at h0
      · rename_i g b y he; rw [he] at b1; cases b1
      · obtain ⟨c1, c2⟩ := leAV_ok (hle i) h0.1 h0.2 b1
        unfold OKV
        split
        · rename_i g b y he; rw [he] at b2; cases b2
        · exact ⟨c1, c2⟩
  · intro i y hi
    have h1 := hle i
    rw [hi] at h1
    obtain ⟨x', hx, hc⟩ := leAV_own h1
    obtain ⟨b1, b2, T', b3⟩ := R.blks i x' hx
    exact ⟨b1, b2, T', by rw [← hc]; exact b3⟩
  · intro i j y z hi hj
    have h1 := hle i
    rw [hi] at h1
    obtain ⟨x', hx, _⟩ := leAV_own h1
    have h2 := hle j
    rw [hj] at h2
    obtain ⟨z', hz, _⟩ := leAV_own h2
    exact R.inj i j x' z' hx hz
  · intro i k es len cap g hi j hj
    have h1 := hle i
    rw [hi] at h1
    obtain ⟨len', cap', f, hx, hl, hfg⟩ := leAV_xsl h1
    rw [← hl] at hj
    rw [← hfg j hj]
    exact R.xsls i k es len' cap' f hx j hj

theorem wfSt_of {m : M} {S : St} {a : Act} {w : World} (R : Rel w0 m S a w) : wfSt S := by
  have h : ∀ (S : St), (∀ i, i < S.length → match get S i with | .when .. => True | x => wfV x) → wfSt S := by
    intro S
    induction S with
    | nil => intro _; trivial
    | cons x S ih =>
      intro h
      refine ⟨?_, ih fun i hi => ?_⟩
      · have h0 := h 0 (by simp)
        simp only [get, List.getD_cons_zero] at h0
        cases x <;> first | trivial | exact h0 | skip
        rename_i y
        cases y <;> first | trivial | exact h0
      · have := h (i + 1) (by simp; omega)
        simpa [get] using this
  refine h S fun i hi => ?_
  have h0 := R.vals i hi
  unfold OKV at h0
  split at h0
  · rename_i g b y he; rw [he]; trivial
  · rename_i hne
    revert h0
    split
    · intro _; trivial
    · intro h0; exact h0.2

/-- A condition of the code. -/
theorem opv_ok {m : M} {S : St} {a : Act} {w : World} (R : Rel w0 m S a w) {c : Operand} {b : SB} (h : opv S c = .bool b) : a.eval c = .bool b.val := by
  unfold opv at h
  split at h
  · rename_i t
    have := vals_get R t
    rw [h] at this
    exact this.1
  · cases h
  · cases h; rfl
  · cases h
  · cases h
  · cases h

theorem wpS_ok (hP : EnvOK P E) (hmix : P.follows .mixedOrders = true) (G : GlobOK E.glob w0) : ∀ (c : Code) (S : St) (Q : Ex → St → Prop) (m : M) (a : Act) (w : World), wpS E (strip c) S Q → Rel w0 m S a w → c.wp P (Lift w0 Q) a w := by
  intro c
  induction c with
  | skip => intro S Q m a w h R; exact wp_skip ⟨S, m, h, R⟩
  | label l => intro S Q m a w h R; exact wp_label ⟨S, m, h, R⟩
  | region id ops draw =>
    intro S Q m a w h R
    simp only [strip] at h
    split at h
    · rename_i l hl
      simp only [wpS] at h
      split at h
      · rename_i cs S' hrun
        obtain ⟨hc, hq⟩ := andAll_iff cs _ h
        exact region_ok hP hmix G R hl hrun hc (fun m' a' w' R' => ⟨S', m', hq, R'⟩)
      · exact h.elim
    · exact h.elim
  | seq x y ihx ihy =>
    intro S Q m a w h R
    simp only [strip, wpS] at h
    refine wp_seq (wp_mono (ihx S _ m a w h R) ?_)
    intro e a' w' hl
    cases e with
    | normal => obtain ⟨S', m', h1, h2⟩ := hl; exact ihy S' Q m' a' w' h1 h2
    | exit id => obtain ⟨S', m', h1, h2⟩ := hl; exact ⟨S', m', h1, h2⟩
    | ret => obtain ⟨S', m', h1, h2⟩ := hl; exact ⟨S', m', h1, h2⟩
    | goto l => exact hl.elim
    | panic ch => exact hl.elim
    | outgrown => exact hl.elim
  | cond c x y ihx ihy =>
    intro S Q m a w h R
    simp only [strip, wpS] at h
    split at h
    · rename_i hb
      exact wp_cond_true (opv_ok R hb) (ihx S Q m a w h R)
    · rename_i hb
      exact wp_cond_false (opv_ok R hb) (ihy S Q m a w h R)
    · rename_i p hb
      exact wp_cond_split (t := p) (opv_ok R hb) (fun hp => ihx S Q m a w (h.1 hp) R) (fun hp => ihy S Q m a w (h.2 hp) R)
    · exact h.elim
  | block id c ih =>
    intro S Q m a w h R
    simp only [strip, wpS] at h
    refine wp_block (wp_mono (ih S _ m a w h R) ?_)
    intro e a' w' hl
    cases e with
    | normal => exact hl
    | exit id' =>
      obtain ⟨S', m', h1, h2⟩ := hl
      simp only at h1
      simp only [Exit.inBlock]
      by_cases hid : id' = id
      · rw [if_pos hid] at h1 ⊢
        exact ⟨S', m', h1, h2⟩
      · rw [if_neg hid] at h1 ⊢
        exact ⟨S', m', h1, h2⟩
    | ret => exact hl
    | goto l => exact hl.elim
    | panic ch => exact hl.elim
    | outgrown => exact hl.elim
  | loop c ih =>
    intro S Q m a w h R
    simp only [strip, wpS] at h
    split at h
    · rename_i n hn
      refine wp_loop_rounds n ?_
      clear hn
      induction n generalizing S m a w with
      | zero => exact h.elim
      | succ n ihn =>
        simp only [rounds] at h
        refine wp_mono (ih S _ m a w h R) ?_
        intro e a' w' hl
        cases e with
        | normal => obtain ⟨S', m', h1, h2⟩ := hl; exact ihn S' m' a' w' h2 h1
        | exit id => exact hl
        | ret => exact hl
        | goto l => exact hl.elim
        | panic ch => exact hl.elim
        | outgrown => exact hl.elim
    · rename_i n hn
      refine wp_loop_rounds n ?_
      clear hn
      replace h := h.run
      induction n generalizing S m a w with
      | zero => exact h.elim
      | succ n ihn =>
        simp only [roundsL] at h
        refine wp_mono (ih S _ m a w h R) ?_
        intro e a' w' hl
        cases e with
        | normal => obtain ⟨S', m', h1, h2⟩ := hl; exact ihn S' m' a' w' h2 h1.run
        | exit id => exact hl
        | ret => exact hl
        | goto l => exact hl.elim
        | panic ch => exact hl.elim
        | outgrown => exact hl.elim
    · rename_i α st μ hn
      obtain ⟨⟨x0, hx0⟩, hround⟩ := h
      refine wp_loop_ghost (fun n a w => ∃ x m, μ x = n ∧ Rel w0 m (st x) a w) (μ x0) ⟨x0, m, rfl, R.le hx0⟩ ?_
      rintro n a w ⟨x, m, rfl, Rx⟩
      refine wp_mono (ih (st x) _ m a w (hround x (wfSt_of Rx)) Rx) ?_
      intro e a' w' hl
      cases e with
      | normal =>
        obtain ⟨S', m', ⟨y, hy1, hy2⟩, h2⟩ := hl
        exact ⟨μ y, hy2, y, m', rfl, h2.le hy1⟩
      | exit id => exact hl
      | ret => exact hl
      | goto l => exact hl.elim
      | panic ch => exact hl.elim
      | outgrown => exact hl.elim
  | exit id => intro S Q m a w h R; exact wp_exit ⟨S, m, h, R⟩
  | ret => intro S Q m a w h R; exact wp_ret ⟨S, m, h, R⟩
  | rangeFunc f ps x y => intro S Q m a w h R; exact h.elim
  | scope c => intro S Q m a w h R; exact h.elim
  | goto l => intro S Q m a w h R; exact h.elim
  | refuse s => intro S Q m a w h R; exact h.elim
end
end Sx
