/-
  The code round the statements, and a whole function.
-/
import Derived.Test.YtfpeolihnaeolaaSxK
import Derived.LoopN
import Derived.Deep.LoopGhost
namespace Sx
open Go Go.RowKit

section
variable {P : Program} {E : Env} {w0 : World}

/-- What the walk shows of an end. -/
def Lift (w0 : World) (Q : Ex → St → Prop) : Exit → Act → World → Prop
  | .normal, a, w => ∃ S m, Q .normal S ∧ Rel w0 m S a w
  | .exit id, a, w => ∃ S m, Q (.exit id) S ∧ Rel w0 m S a w
  | .ret, a, w => ∃ S m, Q .ret S ∧ Rel w0 m S a w
  | _, _, _ => False

theorem Lift.mono {Q Q' : Ex → St → Prop} (h : ∀ e S, Q e S → Q' e S) : ∀ e a w, Lift w0 Q e a w → Lift w0 Q' e a w
  | .normal, _, _, ⟨S, m, h1, h2⟩ => ⟨S, m, h _ _ h1, h2⟩
  | .exit _, _, _, ⟨S, m, h1, h2⟩ => ⟨S, m, h _ _ h1, h2⟩
  | .ret, _, _, ⟨S, m, h1, h2⟩ => ⟨S, m, h _ _ h1, h2⟩
  | .goto _, _, _, h => h.elim
  | .panic _, _, _, h => h.elim
  | .outgrown, _, _, h => h.elim

theorem andAll_iff : ∀ (cs : List Prop) (p : Prop), andAll cs p → (∀ c ∈ cs, c) ∧ p
  | [], p, h => ⟨fun c hc => by simp at hc, h⟩
  | c :: cs, p, h => by
    obtain ⟨h1, h2⟩ := h
    obtain ⟨h3, h4⟩ := andAll_iff cs p h2
    refine ⟨fun d hd => ?_, h4⟩
    rcases List.mem_cons.1 hd with rfl | hd
    · exact h1
    · exact h3 d hd

theorem leAV_ok {m : M} {i : Nat} {x y : AV} {v : Value} (h : leAV x y) (hv : VR m i x v) (hw : wfV x) (hx : bare x = true) : VR m i y v ∧ wfV y := by
  unfold leAV at h
  split at h
  · exact ⟨trivial, trivial⟩
  · rename_i k n k' n'
    obtain ⟨rfl, hn⟩ := h
    refine ⟨?_, ?_⟩
    · have : v = .int k n.val := hv
      rw [hn] at this
      exact this
    · have : inR k n.val := hw
      rw [hn] at this
      exact this
  · rename_i b b'
    have : v = .bool b.val := hv
    rw [h] at this
    exact ⟨this, trivial⟩
  · rename_i k n f k' n' g
    obtain ⟨rfl, rfl, hfg⟩ := h
    have : v = .agg (cellsA k n f) := hv
    rw [cellsA_congr hfg] at this
    exact ⟨this, fun j hj => by rw [← hfg j hj]; exact hw j hj⟩
  · rename_i k n f k' n' g
    obtain ⟨rfl, rfl, hfg⟩ := h
    exact ⟨⟨hv.1, rfl⟩, fun j hj => by rw [← hfg j hj]; exact hw j hj⟩
  · rename_i k n k' n'
    obtain ⟨rfl, hn⟩ := h
    exact ⟨⟨hv.1, rfl⟩, by have : inR k n.val := hw; rw [hn] at this; exact this⟩
  · exact ⟨⟨hv.1, rfl⟩, trivial⟩
  · rename_i k es len cap f k' es' len' cap' g
    obtain ⟨rfl, rfl, hl, hc, hfg⟩ := h
    obtain ⟨aa, cc, h1, h2, h3⟩ := hv
    refine ⟨⟨aa, cc, by rw [h1, hl], by rw [← hl]; exact h2, by rw [← hl]; exact h3⟩, fun j hj => ?_⟩
    rw [← hl] at hj
    rw [← hfg j hj]
    exact hw j hj
  · subst h
    exact ⟨hv, trivial⟩
  · rename_i k es len f k' es' len' g
    obtain ⟨rfl, rfl, hl, hfg⟩ := h
    obtain ⟨aa, cc, h1, h2⟩ := hv
    refine ⟨⟨aa, cc, by rw [h1, hl], by rw [← hl]; exact h2⟩, fun j hj => ?_⟩
    rw [← hl] at hj
    rw [← hfg j hj]
    exact hw j hj
  · rename_i u k' es' len' g
    obtain ⟨hu, hl⟩ := h
    have hv' : v = u := hv
    refine ⟨⟨none, 0, by rw [hv', hu, hl], by rw [hl]; exact ⟨(fun _ h => by cases h), fun _ => rfl, Nat.le_refl _, by decide⟩⟩, fun j hj => ?_⟩
    rw [hl] at hj
    simp at hj
  · rename_i s es off len cap s' es' off' len' cap'
    obtain ⟨rfl, rfl, ho, hl⟩ := h
    obtain ⟨aa, cc, h1, h2, h3⟩ := hv
    exact ⟨⟨aa, cc, by rw [h1, hl], by rw [← hl, ← ho]; exact h2, by rw [← hl]; exact h3⟩, trivial⟩
  · rename_i k es len f ps k' es' len' g ps'
    obtain ⟨rfl, rfl, hl, hfg, rfl⟩ := h
    obtain ⟨aa, cc, h1, h2, h3⟩ := hv
    refine ⟨⟨aa, cc, by rw [h1, hl], by rw [← hl]; exact h2, h3⟩, fun j hj => ?_, hw.2⟩
    rw [← hl] at hj
    rw [← hfg j hj]
    exact hw.1 j hj
  · exact h.elim

theorem leAV_bare {x y : AV} (h : leAV x y) (hy : y ≠ .junk) : bare x = true ∧ bare y = true := by
  unfold leAV at h
  split at h
  · exact absurd rfl hy
  all_goals first | exact ⟨rfl, rfl⟩ | exact h.elim

theorem leSt_get : ∀ {S T : St}, leSt S T → S.length = T.length ∧ ∀ i, leAV (get S i) (get T i)
  | [], [], _ => ⟨rfl, fun i => by simp [get, leAV]⟩
  | x :: S, y :: T, h => by
    obtain ⟨h1, h2⟩ := h
    obtain ⟨h3, h4⟩ := leSt_get h2
    refine ⟨by simp [h3], fun i => ?_⟩
    cases i with
    | zero => simpa [get] using h1
    | succ i => simpa [get] using h4 i
  | [], _ :: _, h => h.elim
  | _ :: _, [], h => h.elim

theorem leAV_own {x y : AV} (h : leAV x (.own y)) : ∃ x', x = .own x' ∧ cellsOf x' = cellsOf y := by
  unfold leAV at h
  split at h
  all_goals try (rename_i he; cases he; done)
  all_goals try (rename_i he1 he2; cases he2; done)
  · rename_i he; cases he
    obtain ⟨rfl, rfl, hfg⟩ := h
    exact ⟨_, rfl, cellsA_congr hfg⟩
  · rename_i he; cases he
    obtain ⟨rfl, hn⟩ := h
    exact ⟨_, rfl, by simp [cellsOf, hn]⟩
  · rename_i he; cases he
    exact ⟨_, rfl, by simp [cellsOf, h]⟩
  · exact h.elim

/-- What stands where a list is named. -/
theorem leAV_lst {x y : AV} {k : IntKind} {es : Nat} {len : SO} {g : Nat → Int} (h : leAV x y) (hy : lst? y = some (k, es, len, g)) :
    (∃ len' f, lst? x = some (k, es, len', f) ∧ len'.val = len.val ∧ ∀ i, i < len'.val * es → f i = g i) ∨ (x = .val (.slice none 0 0) ∧ len.val = 0) := by
  cases y <;> simp only [lst?, Option.some.injEq, Prod.mk.injEq, reduceCtorEq] at hy
  · obtain ⟨rfl, rfl, rfl, rfl⟩ := hy
    unfold leAV at h
    split at h
    all_goals try (rename_i he; cases he; done)
    all_goals try (rename_i he1 he2; cases he2; done)
    · rename_i he; cases he
      obtain ⟨rfl, rfl, hl, hfg⟩ := h
      exact .inl ⟨_, _, rfl, hl, hfg⟩
    · rename_i he; cases he
      exact .inr ⟨by rw [h.1], h.2⟩
    · exact h.elim
  · obtain ⟨rfl, rfl, rfl, rfl⟩ := hy
    unfold leAV at h
    split at h
    all_goals try (rename_i he; cases he; done)
    all_goals try (rename_i he1 he2; cases he2; done)
    · rename_i he; cases he
      obtain ⟨rfl, rfl, hl, hfg, _⟩ := h
      exact .inl ⟨_, _, rfl, hl, hfg⟩
    · exact h.elim

theorem lcells_congr {k : IntKind} {n : Nat} {f g : Nat → Int} (h : ∀ i, i < n → f i = g i) : lcells k n f = lcells k n g := by
  unfold lcells
  refine List.map_congr_left fun j hj => ?_
  rw [h j (List.mem_range.1 hj)]

theorem leAV_xsl {x : AV} {k : IntKind} {es : Nat} {len cap : SO} {g : Nat → Int} (h : leAV x (.xsl k es len cap g)) : ∃ len' cap' f, x = .xsl k es len' cap' f ∧ len'.val = len.val ∧ ∀ i, i < len'.val * es → f i = g i := by
  unfold leAV at h
  split at h
  all_goals try (rename_i he; cases he; done)
  all_goals try (rename_i he1 he2; cases he2; done)
  · rename_i he; cases he
    obtain ⟨rfl, rfl, hl, hc, hfg⟩ := h
    exact ⟨_, _, _, rfl, hl, hfg⟩
  · exact h.elim

/-- What the slots' descriptions say, said more weakly. -/
theorem Rel.le {m : M} {S T : St} {a : Act} {w : World} (R : Rel w0 m S a w) (h : leSt S T) : Rel w0 m T a w := by
  obtain ⟨hlen, hle⟩ := leSt_get h
  have nil : ∀ i, get S i = .val (.slice none 0 0) → lv (a.tmps.getD i undef) = .slice none 0 0 := by
    intro i hi
    have h0 := R.vals i (get_lt (by rw [hi]; simp))
    rw [hi] at h0
    have : a.tmps.getD i undef = .slice none 0 0 := h0.1
    rw [this]; rfl
  refine ⟨R.defers, by rw [R.size, hlen], R.below, ?_, ?_, ?_, ?_, ?_, ?_, ?_⟩
  · intro i hi
    by_cases hj : get T i = .junk
    · rw [hj]; exact ⟨trivial, trivial⟩
    · obtain ⟨b1, b2⟩ := leAV_bare (hle i) hj
      have h0 := R.vals i (by rw [hlen]; exact hi)
      unfold OKV at h0
      split at h0
      · rename_i g b y he; rw [he] at b1; cases b1
      · obtain ⟨c1, c2⟩ := leAV_ok (hle i) h0.1 h0.2 b1
        unfold OKV
        split
        · rename_i g b y he; rw [he] at b2; cases b2
        · exact ⟨c1, c2⟩
  · intro i y hi
    have h1 := hle i
    rw [hi] at h1
    obtain ⟨x', hx, hc⟩ := leAV_own h1
    obtain ⟨b1, b2, T', b3⟩ := R.blks i x' hx
    exact ⟨b1, b2, T', by rw [← hc]; exact b3⟩
  · intro i j y z hi hj
    have h1 := hle i
    rw [hi] at h1
    obtain ⟨x', hx, _⟩ := leAV_own h1
    have h2 := hle j
    rw [hj] at h2
    obtain ⟨z', hz, _⟩ := leAV_own h2
    exact R.inj i j x' z' hx hz
  · intro i k es len cap g hi j hj
    have h1 := hle i
    rw [hi] at h1
    obtain ⟨len', cap', f, hx, hl, hfg⟩ := leAV_xsl h1
    rw [← hl] at hj
    rw [← hfg j hj]
    exact R.xsls i k es len' cap' f hx j hj
  · intro i k es len g hi
    rcases leAV_lst (hle i) hi with ⟨len', f, hx, hl, hfg⟩ | ⟨hx, hl⟩
    · obtain ⟨e, he⟩ := R.lsts i k es len' f hx
      rw [lcells_congr hfg, hl] at he
      exact ⟨e, he⟩
    · rw [nil i hx, hl]
      exact ⟨0, by simpa [lcells] using World.ownsRow_nil w w0.heap.size 0 es⟩
  · intro i j y z b hi hj hb
    have h1 := hle i
    rw [hi] at h1
    obtain ⟨x', hx, _⟩ := leAV_own h1
    obtain ⟨k, es, len, g⟩ := z
    rcases leAV_lst (hle j) hj with ⟨len', f, hx', _, _⟩ | ⟨hx', _⟩
    · exact R.inj1 i j x' (k, es, len', f) b hx hx' hb
    · rw [nil j hx'] at hb; cases hb
  · intro i j x y b hij hi hj hb
    obtain ⟨k, es, len, g⟩ := x
    obtain ⟨k2, es2, len2, g2⟩ := y
    rcases leAV_lst (hle i) hi with ⟨len', f, hx, _, _⟩ | ⟨hx, _⟩
    · rcases leAV_lst (hle j) hj with ⟨len'', f', hx', _, _⟩ | ⟨hx', _⟩
      · exact R.inj2 i j (k, es, len', f) (k2, es2, len'', f') b hij hx hx' hb
      · rw [nil j hx']; intro h; cases h
    · rw [nil i hx] at hb; cases hb

theorem wfSt_of {m : M} {S : St} {a : Act} {w : World} (R : Rel w0 m S a w) : wfSt S := by
  have h : ∀ (S : St), (∀ i, i < S.length → match get S i with | .when .. => True | x => wfV x) → wfSt S := by
    intro S
    induction S with
    | nil => intro _; trivial
    | cons x S ih =>
      intro h
      refine ⟨?_, ih fun i hi => ?_⟩
      · have h0 := h 0 (by simp)
        simp only [get, List.getD_cons_zero] at h0
        cases x <;> first | trivial | exact h0 | exact h0.1 | skip
        rename_i y
        cases y <;> first | trivial | exact h0
      · have := h (i + 1) (by simp; omega)
        simpa [get] using this
  refine h S fun i hi => ?_
  have h0 := R.vals i hi
  unfold OKV at h0
  split at h0
  · rename_i g b y he; rw [he]; trivial
  · rename_i hne
    revert h0
    split
    · intro _; trivial
    · intro h0; exact h0.2

/-- A condition of the code. -/
theorem opv_ok {m : M} {S : St} {a : Act} {w : World} (R : Rel w0 m S a w) {c : Operand} {b : SB} (h : opv S c = .bool b) : a.eval c = .bool b.val := by
  unfold opv at h
  split at h
  · rename_i t
    have := vals_get R t
    rw [h] at this
    exact this.1
  · cases h
  · cases h; rfl
  · cases h
  · cases h
  · cases h

/-- A condition whose answer is known. -/
theorem Rel.split {m : M} {S : St} {a : Act} {w : World} (R : Rel w0 m S a w) {t : Nat} {p : Bool} (h : get S t = .bool (.sym p)) {b : Bool} (hp : p = b) : Rel w0 m (S.set t (.bool (.lit b))) a w := by
  have ht : t < S.length := get_lt (by rw [h]; simp)
  have same : get (S.set t (.bool (.lit b))) t = .bool (.lit b) := get_set_same ht
  have other : ∀ i, t ≠ i → get (S.set t (.bool (.lit b))) i = get S i := fun i hi => get_set_ne hi
  have back : ∀ i x, get (S.set t (.bool (.lit b))) i = x → (∀ c, x ≠ .bool c) → get S i = x := by
    intro i x hi hx
    by_cases e : t = i
    · subst e; rw [same] at hi; exact absurd hi.symm (hx _)
    · rw [other i e] at hi; exact hi
  have backL : ∀ i y, lst? (get (S.set t (.bool (.lit b))) i) = some y → lst? (get S i) = some y := by
    intro i y hi
    by_cases e : t = i
    · subst e; rw [same] at hi; cases hi
    · rw [other i e] at hi; exact hi
  refine ⟨R.defers, by rw [R.size, List.length_set], R.below, ?_, fun i x hi => R.blks i x (back i _ hi (by simp)), fun i j x y hi hj => R.inj i j x y (back i _ hi (by simp)) (back j _ hj (by simp)), fun i k es len cap f hi => R.xsls i k es len cap f (back i _ hi (by simp)),
    fun i k es len f hi => R.lsts i k es len f (backL i _ hi), fun i j x y c hi hj => R.inj1 i j x y c (back i _ hi (by simp)) (backL j _ hj), fun i j x y c hij hi hj => R.inj2 i j x y c hij (backL i _ hi) (backL j _ hj)⟩
  intro i hi
  rw [List.length_set] at hi
  have h0 := R.vals i hi
  by_cases e : t = i
  · subst e
    rw [same]
    rw [h] at h0
    refine ⟨?_, trivial⟩
    have h1 : a.tmps.getD t undef = .bool p := h0.1
    rw [h1, hp]
    rfl
  · rw [other i e]
    unfold OKV at h0 ⊢
    split
    · rename_i g b' y hx
      rw [hx] at h0
      intro c hc hcb
      by_cases e2 : t = g
      · subst e2
        rw [same] at hc
        cases hc
        exact h0 _ h (by show p = b'; rw [hp]; exact hcb)
      · rw [other g e2] at hc
        exact h0 c hc hcb
    · rename_i hne
      revert h0
      split
      · rename_i g b' y hx
        exact absurd hx (by simpa using hne g b' y)
      · exact id

theorem wpS_okR (rm : RM) (hP : EnvOK P E) (hmix : P.follows .mixedOrders = true) (G : GlobOK E.glob w0) : ∀ (c : Code) (S : St) (Q : Ex → St → Prop) (m : M) (a : Act) (w : World), wpS E (stripR rm c) S Q → Rel w0 m S a w → c.wp P (Lift w0 Q) a w := by
  intro c
  induction c with
  | skip => intro S Q m a w h R; exact wp_skip ⟨S, m, h, R⟩
  | label l => intro S Q m a w h R; exact wp_label ⟨S, m, h, R⟩
  | region id ops draw =>
    intro S Q m a w h R
    simp only [stripR] at h
    split at h
    · rename_i l hl
      have one : ∀ {S : St} {Q : Ex → St → Prop}, Rel w0 m S a w → regS E (madeIn l) l S Q → (Code.region id ops draw).wp P (Lift w0 Q) a w := by
        intro S Q R h
        unfold regS at h
        split at h
        · rename_i cs S' hrun
          obtain ⟨hc, hq⟩ := andAll_iff cs _ h
          exact region_ok hP hmix G R hl hrun hc (fun m' a' w' R' => ⟨S', m', hq, R'⟩)
        · exact h.elim
      simp only [wpS] at h
      unfold regW at h
      split at h
      · split at h
        · rename_i t _ p hp
          cases hb : p with
          | true => exact one (R.split hp hb) (h.1 hb)
          | false => exact one (R.split hp hb) (h.2 hb)
        · exact one R h
      · exact one R h
    · exact h.elim
  | seq x y ihx ihy =>
    intro S Q m a w h R
    simp only [stripR, wpS] at h
    refine wp_seq (wp_mono (ihx S _ m a w h R) ?_)
    intro e a' w' hl
    cases e with
    | normal => obtain ⟨S', m', h1, h2⟩ := hl; exact ihy S' Q m' a' w' h1 h2
    | exit id => obtain ⟨S', m', h1, h2⟩ := hl; exact ⟨S', m', h1, h2⟩
    | ret => obtain ⟨S', m', h1, h2⟩ := hl; exact ⟨S', m', h1, h2⟩
    | goto l => exact hl.elim
    | panic ch => exact hl.elim
    | outgrown => exact hl.elim
  | cond c x y ihx ihy =>
    intro S Q m a w h R
    simp only [stripR, wpS] at h
    split at h
    · rename_i hb
      exact wp_cond_true (opv_ok R hb) (ihx S Q m a w h R)
    · rename_i hb
      exact wp_cond_false (opv_ok R hb) (ihy S Q m a w h R)
    · rename_i p hb
      exact wp_cond_split (t := p) (opv_ok R hb) (fun hp => ihx S Q m a w (h.1 hp) R) (fun hp => ihy S Q m a w (h.2 hp) R)
    · exact h.elim
  | block id c ih =>
    intro S Q m a w h R
    simp only [stripR, wpS] at h
    refine wp_block (wp_mono (ih S _ m a w h R) ?_)
    intro e a' w' hl
    cases e with
    | normal => exact hl
    | exit id' =>
      obtain ⟨S', m', h1, h2⟩ := hl
      simp only at h1
      simp only [Exit.inBlock]
      by_cases hid : id' = id
      · rw [if_pos hid] at h1 ⊢
        exact ⟨S', m', h1, h2⟩
      · rw [if_neg hid] at h1 ⊢
        exact ⟨S', m', h1, h2⟩
    | ret => exact hl
    | goto l => exact hl.elim
    | panic ch => exact hl.elim
    | outgrown => exact hl.elim
  | loop c ih =>
    intro S Q m a w h R
    simp only [stripR, wpS] at h
    split at h
    · rename_i n hn
      refine wp_loop_rounds n ?_
      clear hn
      induction n generalizing S m a w with
      | zero => exact h.elim
      | succ n ihn =>
        simp only [rounds] at h
        refine wp_mono (ih S _ m a w h R) ?_
        intro e a' w' hl
        cases e with
        | normal => obtain ⟨S', m', h1, h2⟩ := hl; exact ihn S' m' a' w' h2 h1
        | exit id => exact hl
        | ret => exact hl
        | goto l => exact hl.elim
        | panic ch => exact hl.elim
        | outgrown => exact hl.elim
    · rename_i n hn
      refine wp_loop_rounds n ?_
      clear hn
      replace h := h.run
      induction n generalizing S m a w with
      | zero => exact h.elim
      | succ n ihn =>
        simp only [roundsL] at h
        refine wp_mono (ih S _ m a w h R) ?_
        intro e a' w' hl
        cases e with
        | normal => obtain ⟨S', m', h1, h2⟩ := hl; exact ihn S' m' a' w' h2 h1.run
        | exit id => exact hl
        | ret => exact hl
        | goto l => exact hl.elim
        | panic ch => exact hl.elim
        | outgrown => exact hl.elim
    · rename_i α st μ hn
      obtain ⟨⟨x0, hx0⟩, hround⟩ := h
      refine wp_loop_ghost (fun n a w => ∃ x m, μ x = n ∧ Rel w0 m (st x) a w) (μ x0) ⟨x0, m, rfl, R.le hx0⟩ ?_
      rintro n a w ⟨x, m, rfl, Rx⟩
      refine wp_mono (ih (st x) _ m a w (hround x (wfSt_of Rx)) Rx) ?_
      intro e a' w' hl
      cases e with
      | normal =>
        obtain ⟨S', m', ⟨y, hy1, hy2⟩, h2⟩ := hl
        exact ⟨μ y, hy2, y, m', rfl, h2.le hy1⟩
      | exit id => exact hl
      | ret => exact hl
      | goto l => exact hl.elim
      | panic ch => exact hl.elim
      | outgrown => exact hl.elim
    · rename_i α st μ hn
      obtain ⟨⟨x0, hx0⟩, hround⟩ := h
      refine wp_loop_ghost (fun n a w => ∃ x m, μ x = n ∧ Rel w0 m (st S x) a w) (μ x0) ⟨x0, m, rfl, R.le hx0⟩ ?_
      rintro n a w ⟨x, m, rfl, Rx⟩
      refine wp_mono (ih (st S x) _ m a w (hround x (wfSt_of Rx)) Rx) ?_
      intro e a' w' hl
      cases e with
      | normal =>
        obtain ⟨S', m', ⟨y, hy1, hy2⟩, h2⟩ := hl
        exact ⟨μ y, hy2, y, m', rfl, h2.le hy1⟩
      | exit id => exact hl
      | ret => exact hl
      | goto l => exact hl.elim
      | panic ch => exact hl.elim
      | outgrown => exact hl.elim
  | exit id => intro S Q m a w h R; exact wp_exit ⟨S, m, h, R⟩
  | ret => intro S Q m a w h R; exact wp_ret ⟨S, m, h, R⟩
  | rangeFunc f ps x y => intro S Q m a w h R; exact h.elim
  | scope c => intro S Q m a w h R; exact h.elim
  | goto l => intro S Q m a w h R; exact h.elim
  | refuse s => intro S Q m a w h R; exact h.elim
theorem wpS_ok (hP : EnvOK P E) (hmix : P.follows .mixedOrders = true) (G : GlobOK E.glob w0) (c : Code) (S : St) (Q : Ex → St → Prop) (m : M) (a : Act) (w : World) (h : wpS E (strip c) S Q) (R : Rel w0 m S a w) : c.wp P (Lift w0 Q) a w :=
  wpS_okR (aliasOf c) hP hmix G c S Q m a w h R
end
end Sx
