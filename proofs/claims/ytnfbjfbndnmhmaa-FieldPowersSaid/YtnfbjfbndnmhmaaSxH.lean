/-
  One operation, whatever it is, behind its guard.
-/
import Derived.Test.YtnfbjfbndnmhmaaSxG
import Derived.Orders
namespace Sx
open Go Go.RowKit

section
variable {P : Program} {E : Env} {w0 : World} {m : M} {S : St} {a : Act} {w : World} {gd : Gd}

theorem eff_ok (hP : EnvOK P E) (G : GlobOK E.glob w0) (R : Rel w0 m S a w) (hg : GdOK S gd) {o : Oper} {so : SOp} (hop : so.op = o.op) (hdst : so.dst = o.dst) (hk : ∀ x ∈ o.op.operands.toList, constOk x = true)
    {cs : List Prop} {us : List (Nat × AV)} (h : eff E gd S so = some (cs, us)) (hc : ∀ p ∈ cs, p) (hn : ∀ d ∈ us.map Prod.fst, noWhen d S) (hr : makes o.op = true → ∀ d ∈ us.map Prod.fst, noRef d S) :
    Does P o a w (Led w0 S us) := by
  unfold eff at h
  rw [hop, hdst] at h
  cases ho : o.op <;> rw [ho] at h hk hr <;> simp only at h <;> (try (cases h; done))
  case move x => exact move_ok R hg (.inl ho) (hk x (by simp [Op.operands])) h hn
  case assign x => exact move_ok R hg (.inr ho) (hk x (by simp [Op.operands])) h hn
  case pick c x y => exact pick_ok R ho (hk x (by simp [Op.operands])) (hk y (by simp [Op.operands])) h hn
  case alloc T =>
    split at h
    · rename_i v hz
      exact alloc_ok hP R ho hz h hn (hr rfl)
    · cases h
  case box T x =>
    split at h
    · rename_i hb
      exact box_ok R hg ho (hk x (by simp [Op.operands])) hb h hn (hr rfl)
    · cases h
  case build T ps =>
    refine build_ok hP R hg ho (fun p hp => hk p.2 ?_) h hn
    simp only [Op.operands]
    exact List.mem_map.2 ⟨p, hp, rfl⟩
  case load T x => exact load_ok hP G R hg ho (hk x (by simp [Op.operands])) h hc hn
  case store T x y => exact store_ok hP R hg ho (hk x (by simp [Op.operands])) (hk y (by simp [Op.operands])) h hc
  case indexAddr T x i => exact indexAddr_ok hP R hg ho (hk x (by simp [Op.operands])) (hk i (by simp [Op.operands])) h hc hn
  case fieldAddr T x fi => exact fieldAddr_ok hP R hg ho (hk x (by simp [Op.operands])) h hn
  case field T x fi => exact field_ok hP R hg ho (hk x (by simp [Op.operands])) h hc hn
  case index T x i => exact index_ok hP R hg ho (hk x (by simp [Op.operands])) (hk i (by simp [Op.operands])) h hc hn
  case slice T x lo hi mx =>
    refine slice_ok hP R hg ho (hk x (by simp [Op.operands])) (fun y hy => hk y ?_) (fun y hy => hk y ?_) h hc hn
    · subst hy; simp [Op.operands]
    · subst hy; simp [Op.operands]
  case convert s d x => exact convert_ok hP R hg ho (hk x (by simp [Op.operands])) h hn
  case unOp op t x => exact un_ok hP R hg ho (hk x (by simp [Op.operands])) h hn
  case binOp op t x y t2 =>
    split at h
    · rename_i c r hb
      exact binop_ok hP R hg ho (hk x (by simp [Op.operands])) (hk y (by simp [Op.operands])) hb h hc hn
    · cases h
  case extract x i =>
    split at h
    · rename_i ps hx
      split at h
      · rename_i v hv
        split at h
        · exact extract_ok R hg ho (hk x (by simp [Op.operands])) hx hv h hn
        · cases h
      · cases h
    · cases h
  case call c =>
    refine call_ok hP G R hg ho (fun x hx => hk x ?_) h hc hn
    simp only [Op.operands, Call.operands, Array.toList_append, List.mem_append]
    exact .inr hx

/-- What is laid behind a guard says less than what is laid plainly. -/
theorem Rel.when {d g : Nat} {b : Bool} {v : AV} (R : Rel w0 m (S.set d v) a w) (hl : light v = true) (hgd : g ≠ d) (hw : noWhen d S) : Rel w0 m (S.set d (.when g b v)) a w := by
  have hg1 : ∀ i, i ≠ d → get (S.set d (.when g b v)) i = get (S.set d v) i := by
    intro i hi
    rw [get_set_ne (fun e => hi e.symm), get_set_ne (fun e => hi e.symm)]
  refine ⟨R.defers, by simpa using R.size, R.below, ?_, ?_, ?_, ?_⟩
  · intro i hi
    simp only [List.length_set] at hi
    have h0 := R.vals i (by simpa using hi)
    by_cases h : i = d
    · subst h
      rw [get_set_same hi] at h0 ⊢
      intro c _ _
      have : free v = true := by cases v <;> simp [light] at hl <;> rfl
      unfold OKV at h0
      split at h0
      · simp [light] at hl
      · exact ⟨h0.1, h0.2, hl⟩
    · rw [hg1 i h]
      unfold OKV at h0 ⊢
      split
      · rename_i g' b' y he
        rw [he] at h0
        intro c hc
        have hg' : g' ≠ d := by
          rw [get_set_ne (fun e => h e.symm)] at he
          exact hw i g' b' y he
        rw [hg1 g' hg'] at hc
        exact h0 c hc
      · rename_i hne
        revert h0
        split
        · rename_i g' b' y he; exact absurd he (hne g' b' y)
        · exact id
  · intro i x hi
    by_cases h : i = d
    · subst h
      have hlt : i < S.length := by have := get_lt (S := S.set i (.when g b v)) (i := i) (by rw [hi]; simp); simpa using this
      rw [get_set_same hlt] at hi
      cases hi
    · rw [hg1 i h] at hi
      exact R.blks i x hi
  · intro i j x y hi hj
    have key : ∀ i x, get (S.set d (.when g b v)) i = .own x → get (S.set d v) i = .own x := by
      intro i x hi
      by_cases h : i = d
      · subst h
        have hlt : i < S.length := by have := get_lt (S := S.set i (.when g b v)) (i := i) (by rw [hi]; simp); simpa using this
        rw [get_set_same hlt] at hi
        cases hi
      · rw [hg1 i h] at hi; exact hi
    exact R.inj i j x y (key i x hi) (key j y hj)
  · intro i k es len cap f hi
    by_cases h : i = d
    · subst h
      have hlt : i < S.length := by have := get_lt (S := S.set i (.when g b v)) (i := i) (by rw [hi]; simp); simpa using this
      rw [get_set_same hlt] at hi
      cases hi
    · rw [hg1 i h] at hi
      exact R.xsls i k es len cap f hi

/-- A guard that says no: the operation is passed by. -/
theorem Rel.passed {d g : Nat} {b : Bool} {v : AV} {c : SB} (R : Rel w0 m S a w) (hgd : g ≠ d) (hc : get S g = .bool c) (hb : c.val ≠ b) (hw : noWhen d S) : Rel w0 m (S.set d (.when g b v)) (a.put (some d) undef) w := by
  have hg1 : ∀ i, i ≠ d → get (S.set d (.when g b v)) i = get S i := fun i hi => get_set_ne (fun e => hi e.symm)
  have own : ∀ i (x : AV), (∀ g' b' v', x ≠ .when g' b' v') → x ≠ .junk → get (S.set d (.when g b v)) i = x → get S i = x := by
    intro i x hx hj hi
    by_cases h : i = d
    · subst h
      have hlt : i < S.length := by have := get_lt (S := S.set i (.when g b v)) (i := i) (by rw [hi]; exact hj); simpa using this
      rw [get_set_same hlt] at hi
      exact absurd hi.symm (hx _ _ _)
    · rw [hg1 i h] at hi; exact hi
  refine ⟨R.defers, by simpa [Act.put] using R.size, R.below, ?_, ?_, ?_, ?_⟩
  · intro i hi
    simp only [List.length_set] at hi
    rw [tmps_put, R.size]
    by_cases h : i = d
    · subst h
      rw [get_set_same hi]
      intro c' hc' hb'
      rw [hg1 g hgd, hc] at hc'
      cases hc'
      exact absurd hb' hb
    · rw [hg1 i h, if_neg (fun e => h e.1)]
      have h0 := R.vals i hi
      unfold OKV at h0 ⊢
      split
      · rename_i g' b' y he
        rw [he] at h0
        intro c hc
        have hg' : g' ≠ d := hw i g' b' y he
        rw [hg1 g' hg'] at hc
        exact h0 c hc
      · rename_i hne
        revert h0
        split
        · rename_i g' b' y he; exact absurd he (hne g' b' y)
        · exact id
  · exact fun i x hi => R.blks i x (own i _ (by simp) (by simp) hi)
  · exact fun i j x y hi hj => R.inj i j x y (own i _ (by simp) (by simp) hi) (own j _ (by simp) (by simp) hj)
  · exact fun i k es len cap f hi => R.xsls i k es len cap f (own i _ (by simp) (by simp) hi)

theorem tmps_of_getD {t : Array Value} {g : Nat} {v : Value} (h : t.getD g undef = v) (hlt : g < t.size) : t[g]? = some v := by
  rw [Array.getD_eq_getD_getElem?] at h
  rw [Array.getElem?_eq_getElem hlt] at h ⊢
  simpa using h

/-- One operation of a statement comes up. -/
theorem exec_ok (hP : EnvOK P E) (G : GlobOK E.glob w0) (R : Rel w0 m S a w) {ops : Array Oper} {i : Nat} {o : Oper} {so : SOp} (ho : ops[i]? = some o) (hop : so.op = o.op) (hdst : so.dst = o.dst) (hgs : gslot ops.toList o = some so.gd)
    (hk : ∀ x ∈ o.op.operands.toList, constOk x = true) {cs : List Prop} {us : List (Nat × AV)} (h : exec E S so = some (cs, us)) (hc : ∀ p ∈ cs, p) (hn : ∀ d ∈ us.map Prod.fst, noWhen d S)
    (hr : makes o.op = true → ∀ d ∈ us.map Prod.fst, noRef d S) (hgk : ∀ g ∈ gslots so.gd, g ∉ us.map Prod.fst) (Q : Exit → Act → World → Prop) (K : Act → World → Prop) (hK : ∀ a' w', Led w0 S us a' w' → K a' w') :
    wpOp P ops Q i K a w := by
  unfold wpOp
  rw [ho]
  simp only
  unfold gslot at hgs
  unfold exec at h
  split at hgs
  · rename_i hng
    simp only [Option.some.injEq] at hgs
    rw [← hgs] at h
    simp only at h
    have hw : Region.wanted o (yielded ops a.tmps) = true := by unfold Region.wanted; rw [hng]
    rw [if_pos hw]
    exact .inl (eff_ok hP G R (gd := none) trivial hop hdst hk h hc hn hr K Q hK)
  · rename_i j want hng
    split at hgs
    · rename_i g hslot
      simp only [Option.some.injEq] at hgs
      rw [← hgs] at h
      simp only at h
      have hslot' : (ops[j]?).bind (·.dst) = some g := by simpa using hslot
      have hy : ∀ c, get S g = .bool c → Region.wanted o (yielded ops a.tmps) = (c.val == want) := by
        intro c hcc
        have hlt : g < S.length := get_lt (by rw [hcc]; simp)
        have h1 := R.vals g hlt
        rw [hcc] at h1
        have h2 := tmps_of_getD h1.1 (by rw [R.size]; exact hlt)
        unfold Region.wanted
        rw [hng]
        simp only [yielded, hslot', Option.bind_some, h2]
        cases c.val <;> cases want <;> rfl
      split at h
      · rename_i b hb
        have hw := hy _ hb
        simp only [SB.val] at hw
        split at h
        · rename_i hbw
          subst hbw
          rw [hw, if_pos (by simp)]
          exact .inl (eff_ok hP G R (gd := none) trivial hop hdst hk h hc hn hr K Q hK)
        · rename_i hbw
          have hne : (b == want) = false := by simpa using hbw
          rw [hw, hne, if_neg (by simp)]
          apply hK
          rw [hdst] at h
          split at h
          · rename_i d hd
            cases h
            rw [hd]
            refine ⟨m, R.put d (.val undef) undef (by simp) (by simp) (fun _ => ⟨rfl, trivial⟩) (hn d (by simp))⟩
          · rename_i hd
            cases h
            rw [hd]
            exact ⟨m, R⟩
      · rename_i p hb
        have hw := hy _ hb
        simp only [SB.val] at hw
        split at h
        · rename_i d cs1 x v hd he
          split at h
          · rename_i hl
            simp only [Bool.and_eq_true, beq_iff_eq] at hl
            obtain ⟨hl, rfl⟩ := hl
            simp only [Option.some.injEq, Prod.mk.injEq] at h
            obtain ⟨rfl, rfl⟩ := h
            have hgd : g ≠ x := by
              intro e
              subst e
              exact hgk g (by rw [← hgs]; simp [gslots]) (by simp)
            have hnx : noWhen x S := hn x (by simp)
            by_cases hpw : p = want
            · subst hpw
              rw [hw, if_pos (by simp)]
              refine .inl (eff_ok hP G R (gd := some (g, p)) ⟨_, hb, rfl⟩ hop hdst hk he (fun q hq => hc _ (List.mem_map.2 ⟨q, hq, rfl⟩) rfl) (by simpa using hn) (by simpa using hr) K Q ?_)
              intro a' w' ⟨m', R'⟩
              exact hK a' w' ⟨m', Rel.when R' hl hgd hnx⟩
            · have hne : (p == want) = false := by simpa using hpw
              rw [hw, hne, if_neg (by simp)]
              apply hK
              rw [← hdst, hd]
              exact ⟨m, R.passed hgd hb hpw hnx⟩
          · cases h
        · cases h
      · cases h
    · cases hgs
end
end Sx
