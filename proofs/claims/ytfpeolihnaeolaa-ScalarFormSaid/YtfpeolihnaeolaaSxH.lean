/-
  One operation, whatever it is, behind its guard.
-/
import Derived.Test.YtfpeolihnaeolaaSxG
import Derived.Orders
namespace Sx
open Go Go.RowKit

section
variable {P : Program} {E : Env} {w0 : World} {m : M} {S : St} {a : Act} {w : World} {gd : Gd}

theorem eff_ok (hP : EnvOK P E) (G : GlobOK E.glob w0) (R : Rel w0 m S a w) (hg : GdOK S gd) {o : Oper} {so : SOp} (hop : so.op = o.op) (hdst : so.dst = o.dst) (hk : ∀ x ∈ o.op.operands.toList, constOk x = true)
    {cs : List Prop} {us : List (Nat × AV)} (h : eff E gd S so = some (cs, us)) (hc : ∀ p ∈ cs, p) (hn : ∀ d ∈ us.map Prod.fst, noWhen d S) (hnw : so.nw = mksOf so.mv o) (hr : ∀ d ∈ so.nw, noRef d S) :
    Does P o a w (Led w0 S us) := by
  rw [hnw] at hr
  have hall : (∀ T, o.op = .alloc T → ∀ d, o.dst = some d → noRef d S) ∧ (∀ T x, o.op = .box T x → ∀ d, o.dst = some d → noRef d S) ∧ (∀ T l c, o.op = .makeSlice T l c → ∀ d, o.dst = some d → noRef d S) ∧
      (∀ T n ps, o.op = .buildSlice T n ps → ∀ d, o.dst = some d → noRef d S) ∧ (∀ c, o.op = .call c → ∀ d, o.dst = some d → noRef d S) ∧ (∀ x, o.op = .move x ∨ o.op = .assign x → so.mv = true → ∀ d, o.dst = some d → noRef d S) := by
    refine ⟨fun T ho d hd => ?_, fun T x ho d hd => ?_, fun T l c ho d hd => ?_, fun T n ps ho d hd => ?_, fun c ho d hd => ?_, fun x ho hmv d hd => ?_⟩
    · exact hr d (by simp [mksOf, ho, hd])
    · exact hr d (by simp [mksOf, ho, hd])
    · exact hr d (by simp [mksOf, ho, hd])
    · exact hr d (by simp [mksOf, ho, hd])
    · exact hr d (by simp [mksOf, ho, hd])
    · rcases ho with ho | ho
      · exact hr d (by simp [mksOf, ho, hd, hmv])
      · exact hr d (by simp [mksOf, ho, hd, hmv])
  obtain ⟨q1, q2, q3, q4, q5, q6⟩ := hall
  have keys : ∀ {cs cs' : List Prop} {v : AV} {us : List (Nat × AV)}, ret1 o.dst cs v = some (cs', us) → ∀ d ∈ us.map Prod.fst, o.dst = some d := by
    intro cs cs' v us h d hd
    unfold ret1 at h
    split at h
    · rename_i d' hd'
      cases h
      simp at hd
      rw [hd', hd]
    · cases h
      simp at hd
  unfold eff at h
  rw [hop, hdst] at h
  cases ho : o.op <;> rw [ho] at h hk <;> simp only at h <;> (try (cases h; done))
  case move x => exact move_ok R hg (.inl ho) (hk x (by simp [Op.operands])) h hn (fun hm => q6 x (.inl ho) (by cases hh : so.mv with | true => rfl | false => rw [hh] at hm; exact absurd rfl hm))
  case assign x => exact move_ok R hg (.inr ho) (hk x (by simp [Op.operands])) h hn (fun hm => q6 x (.inr ho) (by cases hh : so.mv with | true => rfl | false => rw [hh] at hm; exact absurd rfl hm))
  case makeSlice T l c => exact make_ok hP R hg ho (hk l (by simp [Op.operands])) (hk c (by simp [Op.operands])) h hc hn (q3 T l c ho)
  case buildSlice T n ps =>
    refine buildSlice_ok hP R hg ho (fun p hp => hk p.2 ?_) h hn (q4 T n ps ho)
    simp only [Op.operands]
    exact List.mem_map.2 ⟨p, hp, rfl⟩
  case pick c x y => exact pick_ok R ho (hk x (by simp [Op.operands])) (hk y (by simp [Op.operands])) h hn
  case alloc T =>
    split at h
    · rename_i v hz
      exact alloc_ok hP R ho hz h hn (fun d hd => q1 T ho d (keys h d hd))
    · cases h
  case box T x =>
    split at h
    · rename_i hb
      exact box_ok R hg ho (hk x (by simp [Op.operands])) hb h hn (fun d hd => q2 T x ho d (keys h d hd))
    · cases h
  case build T ps =>
    refine build_ok hP R hg ho (fun p hp => hk p.2 ?_) h hn
    simp only [Op.operands]
    exact List.mem_map.2 ⟨p, hp, rfl⟩
  case load T x => exact load_ok hP G R hg ho (hk x (by simp [Op.operands])) h hc hn
  case store T x y => exact store_ok hP R hg ho (hk x (by simp [Op.operands])) (hk y (by simp [Op.operands])) h hc
  case indexAddr T x i => exact indexAddr_ok hP R hg ho (hk x (by simp [Op.operands])) (hk i (by simp [Op.operands])) h hc hn
  case fieldAddr T x fi => exact fieldAddr_ok hP R hg ho (hk x (by simp [Op.operands])) h hn
  case field T x fi => exact field_ok hP R hg ho (hk x (by simp [Op.operands])) h hc hn
  case index T x i => exact index_ok hP R hg ho (hk x (by simp [Op.operands])) (hk i (by simp [Op.operands])) h hc hn
  case slice T x lo hi mx =>
    refine slice_ok hP R hg ho (hk x (by simp [Op.operands])) (fun y hy => hk y ?_) (fun y hy => hk y ?_) h hc hn
    · subst hy; simp [Op.operands]
    · subst hy; simp [Op.operands]
  case convert s d x => exact convert_ok hP R hg ho (hk x (by simp [Op.operands])) h hn
  case unOp op t x => exact un_ok hP R hg ho (hk x (by simp [Op.operands])) h hn
  case binOp op t x y t2 =>
    split at h
    · rename_i c r hb
      exact binop_ok hP R hg ho (hk x (by simp [Op.operands])) (hk y (by simp [Op.operands])) hb h hc hn
    · cases h
  case extract x i => exact extract_all R hg ho (hk x (by simp [Op.operands])) h hn
  case call c =>
    refine call_ok hP G R hg ho (fun x hx => hk x ?_) h hc hn (q5 c ho)
    simp only [Op.operands, Call.operands, Array.toList_append, List.mem_append]
    exact .inr hx

/-- What is laid behind a guard says less than what is laid plainly. -/
theorem Rel.when {d g : Nat} {b : Bool} {v : AV} (R : Rel w0 m (S.set d v) a w) (hl : light v = true) (hgd : g ≠ d) (hw : noWhen d S) : Rel w0 m (S.set d (.when g b v)) a w := by
  have hg1 : ∀ i, i ≠ d → get (S.set d (.when g b v)) i = get (S.set d v) i := by
    intro i hi
    rw [get_set_ne (fun e => hi e.symm), get_set_ne (fun e => hi e.symm)]
  have hlw : ∀ i y, lst? (get (S.set d (.when g b v)) i) = some y → lst? (get (S.set d v) i) = some y := by
    intro i y hi
    by_cases h : i = d
    · subst h
      have hlt : i < S.length := by have := get_lt (S := S.set i (.when g b v)) (i := i) (by intro e; rw [e] at hi; cases hi); simpa using this
      rw [get_set_same hlt] at hi
      cases hi
    · rw [hg1 i h] at hi; exact hi
  have how : ∀ i x, get (S.set d (.when g b v)) i = .own x → get (S.set d v) i = .own x := by
    intro i x hi
    by_cases h : i = d
    · subst h
      have hlt : i < S.length := by have := get_lt (S := S.set i (.when g b v)) (i := i) (by rw [hi]; simp); simpa using this
      rw [get_set_same hlt] at hi
      cases hi
    · rw [hg1 i h] at hi; exact hi
  refine ⟨R.defers, by simpa using R.size, R.below, ?_, ?_, ?_, ?_, fun i k es len f hi => R.lsts i k es len f (hlw i _ hi), fun i j x y b hi hj hb => R.inj1 i j x y b (how i x hi) (hlw j y hj) hb, fun i j x y b hij hi hj hb => R.inj2 i j x y b hij (hlw i x hi) (hlw j y hj) hb⟩
  · intro i hi
    simp only [List.length_set] at hi
    have h0 := R.vals i (by simpa using hi)
    by_cases h : i = d
    · subst h
      rw [get_set_same hi] at h0 ⊢
      intro c _ _
      have : free v = true := by cases v <;> simp [light] at hl <;> rfl
      unfold OKV at h0
      split at h0
      · simp [light] at hl
      · exact ⟨h0.1, h0.2, hl⟩
    · rw [hg1 i h]
      unfold OKV at h0 ⊢
      split
      · rename_i g' b' y he
        rw [he] at h0
        intro c hc
        have hg' : g' ≠ d := by
          rw [get_set_ne (fun e => h e.symm)] at he
          exact hw i g' b' y he
        rw [hg1 g' hg'] at hc
        exact h0 c hc
      · rename_i hne
        revert h0
        split
        · rename_i g' b' y he; exact absurd he (hne g' b' y)
        · exact id
  · intro i x hi
    by_cases h : i = d
    · subst h
      have hlt : i < S.length := by have := get_lt (S := S.set i (.when g b v)) (i := i) (by rw [hi]; simp); simpa using this
      rw [get_set_same hlt] at hi
      cases hi
    · rw [hg1 i h] at hi
      exact R.blks i x hi
  · intro i j x y hi hj
    have key : ∀ i x, get (S.set d (.when g b v)) i = .own x → get (S.set d v) i = .own x := by
      intro i x hi
      by_cases h : i = d
      · subst h
        have hlt : i < S.length := by have := get_lt (S := S.set i (.when g b v)) (i := i) (by rw [hi]; simp); simpa using this
        rw [get_set_same hlt] at hi
        cases hi
      · rw [hg1 i h] at hi; exact hi
    exact R.inj i j x y (key i x hi) (key j y hj)
  · intro i k es len cap f hi
    by_cases h : i = d
    · subst h
      have hlt : i < S.length := by have := get_lt (S := S.set i (.when g b v)) (i := i) (by rw [hi]; simp); simpa using this
      rw [get_set_same hlt] at hi
      cases hi
    · rw [hg1 i h] at hi
      exact R.xsls i k es len cap f hi

/-- A guard that says no: the operation is passed by. -/
theorem Rel.passed {d g : Nat} {b : Bool} {v : AV} {c : SB} (R : Rel w0 m S a w) (hgd : g ≠ d) (hc : get S g = .bool c) (hb : c.val ≠ b) (hw : noWhen d S) : Rel w0 m (S.set d (.when g b v)) (a.put (some d) undef) w := by
  have hg1 : ∀ i, i ≠ d → get (S.set d (.when g b v)) i = get S i := fun i hi => get_set_ne (fun e => hi e.symm)
  have own : ∀ i (x : AV), (∀ g' b' v', x ≠ .when g' b' v') → x ≠ .junk → get (S.set d (.when g b v)) i = x → get S i = x := by
    intro i x hx hj hi
    by_cases h : i = d
    · subst h
      have hlt : i < S.length := by have := get_lt (S := S.set i (.when g b v)) (i := i) (by rw [hi]; exact hj); simpa using this
      rw [get_set_same hlt] at hi
      exact absurd hi.symm (hx _ _ _)
    · rw [hg1 i h] at hi; exact hi
  have hlw : ∀ i y, lst? (get (S.set d (.when g b v)) i) = some y → lst? (get S i) = some y ∧ (a.put (some d) undef).tmps.getD i undef = a.tmps.getD i undef := by
    intro i y hi
    by_cases h : i = d
    · subst h
      have hlt : i < S.length := by have := get_lt (S := S.set i (.when g b v)) (i := i) (by intro e; rw [e] at hi; cases hi); simpa using this
      rw [get_set_same hlt] at hi
      cases hi
    · rw [hg1 i h] at hi; exact ⟨hi, by rw [tmps_put, if_neg (fun e => h e.1)]⟩
  refine ⟨R.defers, by simpa [Act.put] using R.size, R.below, ?_, ?_, ?_, ?_, ?_, ?_, ?_⟩
  · intro i hi
    simp only [List.length_set] at hi
    rw [tmps_put, R.size]
    by_cases h : i = d
    · subst h
      rw [get_set_same hi]
      intro c' hc' hb'
      rw [hg1 g hgd, hc] at hc'
      cases hc'
      exact absurd hb' hb
    · rw [hg1 i h, if_neg (fun e => h e.1)]
      have h0 := R.vals i hi
      unfold OKV at h0 ⊢
      split
      · rename_i g' b' y he
        rw [he] at h0
        intro c hc
        have hg' : g' ≠ d := hw i g' b' y he
        rw [hg1 g' hg'] at hc
        exact h0 c hc
      · rename_i hne
        revert h0
        split
        · rename_i g' b' y he; exact absurd he (hne g' b' y)
        · exact id
  · exact fun i x hi => R.blks i x (own i _ (by simp) (by simp) hi)
  · exact fun i j x y hi hj => R.inj i j x y (own i _ (by simp) (by simp) hi) (own j _ (by simp) (by simp) hj)
  · exact fun i k es len cap f hi => R.xsls i k es len cap f (own i _ (by simp) (by simp) hi)
  · intro i k es len f hi
    obtain ⟨h1, h2⟩ := hlw i _ hi
    rw [h2]
    exact R.lsts i k es len f h1
  · intro i j x y b hi hj hb
    obtain ⟨h1, h2⟩ := hlw j _ hj
    rw [h2] at hb
    exact R.inj1 i j x y b (own i _ (by simp) (by simp) hi) h1 hb
  · intro i j x y b hij hi hj hb
    obtain ⟨h1, h2⟩ := hlw i _ hi
    obtain ⟨h3, h4⟩ := hlw j _ hj
    rw [h2] at hb
    rw [h4]
    exact R.inj2 i j x y b hij h1 h3 hb

theorem tmps_of_getD {t : Array Value} {g : Nat} {v : Value} (h : t.getD g undef = v) (hlt : g < t.size) : t[g]? = some v := by
  rw [Array.getD_eq_getD_getElem?] at h
  rw [Array.getElem?_eq_getElem hlt] at h ⊢
  simpa using h

/-- One operation of a statement comes up. -/
theorem exec_ok (hP : EnvOK P E) (G : GlobOK E.glob w0) (R : Rel w0 m S a w) {ops : Array Oper} {i : Nat} {o : Oper} {so : SOp} (ho : ops[i]? = some o) (hop : so.op = o.op) (hdst : so.dst = o.dst) (hgs : gslot ops.toList o = some so.gd)
    (hk : ∀ x ∈ o.op.operands.toList, constOk x = true) {cs : List Prop} {us : List (Nat × AV)} (h : exec E S so = some (cs, us)) (hc : ∀ p ∈ cs, p) (hn : ∀ d ∈ us.map Prod.fst, noWhen d S)
    (hnw : so.nw = mksOf so.mv o) (hr : ∀ d ∈ so.nw, noRef d S) (hgk : ∀ g ∈ gslots so.gd, g ∉ us.map Prod.fst) (Q : Exit → Act → World → Prop) (K : Act → World → Prop) (hK : ∀ a' w', Led w0 S us a' w' → K a' w') :
    wpOp P ops Q i K a w := by
  unfold wpOp
  rw [ho]
  simp only
  unfold gslot at hgs
  unfold exec at h
  split at hgs
  · rename_i hng
    simp only [Option.some.injEq] at hgs
    rw [← hgs] at h
    simp only at h
    have hw : Region.wanted o (yielded ops a.tmps) = true := by unfold Region.wanted; rw [hng]
    rw [if_pos hw]
    exact .inl (eff_ok hP G R (gd := none) trivial hop hdst hk h hc hn hnw hr K Q hK)
  · rename_i j want hng
    split at hgs
    · rename_i g hslot
      simp only [Option.some.injEq] at hgs
      rw [← hgs] at h
      simp only at h
      have hslot' : (ops[j]?).bind (·.dst) = some g := by simpa using hslot
      have hy : ∀ c, get S g = .bool c → Region.wanted o (yielded ops a.tmps) = (c.val == want) := by
        intro c hcc
        have hlt : g < S.length := get_lt (by rw [hcc]; simp)
        have h1 := R.vals g hlt
        rw [hcc] at h1
        have h2 := tmps_of_getD h1.1 (by rw [R.size]; exact hlt)
        unfold Region.wanted
        rw [hng]
        simp only [yielded, hslot', Option.bind_some, h2]
        cases c.val <;> cases want <;> rfl
      split at h
      · rename_i b hb
        have hw := hy _ hb
        simp only [SB.val] at hw
        split at h
        · rename_i hbw
          subst hbw
          rw [hw, if_pos (by simp)]
          exact .inl (eff_ok hP G R (gd := none) trivial hop hdst hk h hc hn hnw hr K Q hK)
        · rename_i hbw
          have hne : (b == want) = false := by simpa using hbw
          rw [hw, hne, if_neg (by simp)]
          apply hK
          rw [hdst] at h
          split at h
          · rename_i d hd
            cases h
            rw [hd]
            refine ⟨m, R.put d (.val undef) undef (by simp) (by simp) rfl (fun _ => ⟨rfl, trivial⟩) (hn d (by simp))⟩
          · rename_i hd
            cases h
            rw [hd]
            exact ⟨m, R⟩
      · rename_i l hb
        have hw : Region.wanted o (yielded ops a.tmps) = false := by
          have hlt : g < S.length := get_lt (by rw [hb]; simp)
          have h1 := R.vals g hlt
          rw [hb] at h1
          have h2 := tmps_of_getD h1.1 (by rw [R.size]; exact hlt)
          unfold Region.wanted
          rw [hng]
          simp only [yielded, hslot', Option.bind_some, h2]
          rfl
        rw [hw, if_neg (by simp)]
        apply hK
        rw [hdst] at h
        split at h
        · rename_i d hd
          cases h
          rw [hd]
          exact ⟨m, R.put d (.val undef) undef (by simp) (by simp) rfl (fun _ => ⟨rfl, trivial⟩) (hn d (by simp))⟩
        · rename_i hd
          cases h
          rw [hd]
          exact ⟨m, R⟩
      · rename_i p hb
        have hw := hy _ hb
        simp only [SB.val] at hw
        split at h
        · rename_i d cs1 x v hd he
          split at h
          · rename_i hl
            simp only [Bool.and_eq_true, beq_iff_eq] at hl
            obtain ⟨hl, rfl⟩ := hl
            simp only [Option.some.injEq, Prod.mk.injEq] at h
            obtain ⟨rfl, rfl⟩ := h
            have hgd : g ≠ x := by
              intro e
              subst e
              exact hgk g (by rw [← hgs]; simp [gslots]) (by simp)
            have hnx : noWhen x S := hn x (by simp)
            by_cases hpw : p = want
            · subst hpw
              rw [hw, if_pos (by simp)]
              refine .inl (eff_ok hP G R (gd := some (g, p)) ⟨_, hb, rfl⟩ hop hdst hk he (fun q hq => hc _ (List.mem_map.2 ⟨q, hq, rfl⟩) rfl) (by simpa using hn) hnw hr K Q ?_)
              intro a' w' ⟨m', R'⟩
              exact hK a' w' ⟨m', Rel.when R' hl hgd hnx⟩
            · have hne : (p == want) = false := by simpa using hpw
              rw [hw, hne, if_neg (by simp)]
              apply hK
              rw [← hdst, hd]
              exact ⟨m, R.passed hgd hb hpw hnx⟩
          · cases h
        · cases h
      · cases h
    · cases hgs
end
end Sx
