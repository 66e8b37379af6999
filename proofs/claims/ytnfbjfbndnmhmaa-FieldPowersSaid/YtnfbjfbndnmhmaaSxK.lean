/-
  A statement, whatever order is drawn; and the code round it.
-/
import Derived.Test.YtnfbjfbndnmhmaaSxJ
namespace Sx
open Go Go.RowKit

section
variable {P : Program} {E : Env} {w0 : World} {m : M} {S : St} {a : Act} {w : World}

/-- In the order of the text. -/
theorem seq_ok (hP : EnvOK P E) (G : GlobOK E.glob w0) {ops : Array Oper} {l : List SOp} (hr : Ready ops l) {Q : Exit → Act → World → Prop} {Sf : St} (hQ : ∀ m' a' w', Rel w0 m' Sf a' w' → Q .normal a' w') :
    ∀ (L : List Nat) (S : St) (m : M) (a : Act) (w : World) (cs : List Prop), Rel w0 m S a w → runI E l L S = some (cs, Sf) → (∀ p ∈ cs, p) → Inv l L S → (∀ i ∈ L, i < ops.size) → L.Pairwise (· < ·) → wpOps P ops Q L a w
  | [], S, m, a, w, cs, R, h, _, _, _, _ => by
    simp only [runI] at h
    cases h
    exact hQ m a w R
  | i :: L, S, m, a, w, cs, R, h, hc, I, hlt, hs => by
    obtain ⟨so, c, us, c', hi, he, hrun, rfl⟩ := runI_cons h
    obtain ⟨o, ho⟩ : ∃ o, ops[i]? = some o := ⟨_, Array.getElem?_eq_getElem (hlt i (by simp))⟩
    obtain ⟨g1, g2, g3, g4⟩ := hr.get i o so ho hi
    have hk := exec_keys (hr.fit i so hi) he
    rw [wpOps_cons]
    refine exec_ok hP G R ho g1 g2 g3 g4 he (fun p hp => hc p (List.mem_append_left _ hp)) (fun d hd => ?_) (fun hm d hd => ?_) (fun g hg hm => ?_) Q _ ?_
    · obtain ⟨p, hp, rfl⟩ := List.mem_map.1 hd
      exact I.when i (by simp) so hi _ (hk p hp)
    · obtain ⟨p, hp, rfl⟩ := List.mem_map.1 hd
      exact I.ref i (by simp) so hi (by rw [g1]; exact hm) _ (hk p hp)
    · obtain ⟨p, hp, rfl⟩ := List.mem_map.1 hm
      exact freshOk_own hr.fresh i so hi _ hg (hk p hp)
    · intro a' w' ⟨m', R'⟩
      refine seq_ok hP G hr hQ L _ m' a' w' c' R' hrun (fun p hp => hc p (List.mem_append_right _ hp)) ?_ (fun j hj => hlt j (by simp [hj])) (List.Pairwise.of_cons hs)
      refine I.step hr.fresh hi (hr.fit i so hi) (fun j hj => ⟨by simp [hj], ?_⟩) (fun j hj hji => ?_) he
      · have := List.rel_of_pairwise_cons hs hj
        omega
      · have := List.rel_of_pairwise_cons hs hj
        omega

/-- In whatever order the edges allow. -/
theorem any_ok (hP : EnvOK P E) (G : GlobOK E.glob w0) {ops : Array Oper} {l : List SOp} (hr : Ready ops l) (hd : drawOk ops.toList (closure [] ops.toList) l 0 l = true) {Q : Exit → Act → World → Prop} {Sf : St} (hQ : ∀ m' a' w', Rel w0 m' Sf a' w' → Q .normal a' w') :
    ∀ (fuel : Nat) (L : List Nat) (listed : Array Bool) (S : St) (m : M) (a : Act) (w : World) (cs : List Prop), L.length = fuel → Rel w0 m S a w → runI E l L S = some (cs, Sf) → (∀ p ∈ cs, p) → Inv l L S →
      (∀ i ∈ L, i < ops.size) → L.Pairwise (· < ·) → (∀ i, i < ops.size → (listed.getD i true = false ↔ i ∈ L)) → listed.size = ops.size → (∀ i ∉ L, i < ops.size → ∀ k, ((closure [] ops.toList).getD i 0).testBit k = true → k ∉ L) →
      wpAny P .any ops Q fuel listed a w := by
  have ready_iff : ∀ (listed : Array Bool) (L : List Nat), listed.size = ops.size → (∀ i, i < ops.size → (listed.getD i true = false ↔ i ∈ L)) → ∀ i, i ∈ Region.ready .any ops listed ↔ i < ops.size ∧ i ∈ L ∧ ∀ o, ops[i]? = some o → ∀ e ∈ o.after, Region.binds .any e = true → listed.getD e.on false = true := by
    intro listed L hsz hL i
    simp only [Region.ready, List.mem_filter, List.mem_range, Bool.and_eq_true, Bool.not_eq_true']
    constructor
    · rintro ⟨h1, h2, h3⟩
      refine ⟨h1, (hL i h1).1 h2, fun o ho e he hb => ?_⟩
      rw [ho] at h3
      simp only [Option.map_some, Option.getD_some, Array.all_eq_true', Bool.or_eq_true, Bool.not_eq_true'] at h3
      rcases h3 e he with h | h
      · rw [hb] at h; cases h
      · exact h
    · rintro ⟨h1, h2, h3⟩
      refine ⟨h1, (hL i h1).2 h2, ?_⟩
      obtain ⟨o, ho⟩ : ∃ o, ops[i]? = some o := ⟨_, Array.getElem?_eq_getElem h1⟩
      rw [ho]
      simp only [Option.map_some, Option.getD_some, Array.all_eq_true', Bool.or_eq_true, Bool.not_eq_true']
      intro e he
      cases hb : Region.binds .any e
      · exact .inl rfl
      · exact .inr (h3 o ho e he hb)
  have preds_iff : ∀ (o : Oper) (j : Nat), j ∈ preds o ↔ ∃ e ∈ o.after, Region.binds .any e = true ∧ e.on = j := by
    intro o j
    unfold preds
    rw [List.mem_filterMap]
    constructor
    · rintro ⟨e, he, h⟩
      split at h
      · rename_i hb; cases h; exact ⟨e, by simpa using he, hb, rfl⟩
      · cases h
    · rintro ⟨e, he, hb, rfl⟩
      exact ⟨e, by simpa using he, by rw [if_pos hb]⟩
  -- the least of those that are left is ready
  have progress : ∀ (listed : Array Bool) (L : List Nat), listed.size = ops.size → (∀ i, i < ops.size → (listed.getD i true = false ↔ i ∈ L)) → (∀ i ∈ L, i < ops.size) → L.Pairwise (· < ·) → Region.ready .any ops listed = [] → L = [] := by
    intro listed L hsz hL hlt hs hnil
    cases L with
    | nil => rfl
    | cons i L =>
      exfalso
      have hi := hlt i (by simp)
      have : i ∈ Region.ready .any ops listed := by
        rw [ready_iff listed _ hsz hL]
        refine ⟨hi, by simp, fun o ho e he hb => ?_⟩
        have hlen : i < l.length := by rw [hr.len]; exact hi
        have hp := (drawOk_get ops.toList _ l l 0 hd i l[i] (by simp)).2
        have hgo : ops.toList.getD i default = o := by simp [List.getD_eq_getElem?_getD, ho]
        rw [Nat.zero_add, hgo] at hp
        have hlt2 := hp e.on ((preds_iff o e.on).2 ⟨e, he, hb, rfl⟩)
        have hns : e.on < ops.size := by omega
        cases hh : listed.getD e.on true
        · have := (hL e.on hns).1 hh
          rcases List.mem_cons.1 this with h | h
          · omega
          · have := List.rel_of_pairwise_cons hs h; omega
        · have hl2 : e.on < listed.size := by rw [hsz]; exact hns
          simp only [Array.getD_eq_getD_getElem?, Array.getElem?_eq_getElem hl2, Option.getD_some] at hh ⊢
          exact hh
      rw [hnil] at this
      cases this
  intro fuel
  induction fuel with
  | zero =>
    intro L listed S m a w cs hlen R hrun hc I hlt hs hL hsz hdc
    have : L = [] := List.eq_nil_of_length_eq_zero hlen
    subst this
    simp only [runI] at hrun
    cases hrun
    refine ⟨?_, hQ m a w R⟩
    apply List.eq_nil_iff_forall_not_mem.2
    intro i hi
    have := (ready_iff listed _ hsz hL i).1 hi
    simp at this
  | succ fuel ih =>
    intro L listed S m a w cs hlen R hrun hc I hlt hs hL hsz hdc
    refine ⟨fun hnil => ?_, fun i hi => ?_⟩
    · have := progress listed L hsz hL hlt hs hnil
      subst this
      simp at hlen
    · obtain ⟨hi1, hi2, hi3⟩ := (ready_iff listed L hsz hL i).1 hi
      obtain ⟨o, ho⟩ : ∃ o, ops[i]? = some o := ⟨_, Array.getElem?_eq_getElem hi1⟩
      obtain ⟨so, hso⟩ : ∃ so, l[i]? = some so := ⟨_, List.getElem?_eq_getElem (by rw [hr.len]; exact hi1)⟩
      obtain ⟨g1, g2, g3, g4⟩ := hr.get i o so ho hso
      -- what comes ahead of i has come
      have hahead : ∀ k, ((closure [] ops.toList).getD i 0).testBit k = true → k ∉ L := by
        intro k hk
        obtain ⟨j, hj, hor⟩ := closure_get ops.toList [] i (by simp) (by simpa using hi1) k hk
        have hgo : ops.toList.getD (i - ([] : List Nat).length) default = o := by simp [List.getD_eq_getElem?_getD, ho]
        rw [hgo] at hj
        obtain ⟨e, he, hb, rfl⟩ := (preds_iff o j).1 hj
        have hl := hi3 o ho e he hb
        have hns : e.on < ops.size := by
          rcases Nat.lt_or_ge e.on ops.size with h | h
          · exact h
          · simp [Array.getD_eq_getD_getElem?, Array.getElem?_eq_none (by rw [hsz]; exact h)] at hl
        have hnL : e.on ∉ L := by
          intro hm
          have := (hL e.on hns).2 hm
          have hl2 : e.on < listed.size := by rw [hsz]; exact hns
          simp only [Array.getD_eq_getD_getElem?, Array.getElem?_eq_getElem hl2, Option.getD_some] at this hl
          rw [this] at hl
          cases hl
        rcases hor with rfl | ⟨hb2, _⟩
        · exact hnL
        · exact hdc e.on hnL hns k hb2
      have hapart : ∀ j ∈ L, j < i → ∀ (oj : SOp), l[j]? = some oj → apart oj so = true := by
        intro j hj hji oj hoj
        have := (drawOk_get ops.toList _ l l 0 hd i so hso).1 j oj hoj (by omega)
        rw [Nat.zero_add] at this
        rcases this with h | h
        · exact absurd hj (hahead j h)
        · exact h
      obtain ⟨L1, L2, hsplit⟩ := List.append_of_mem hi2
      have hL1 : ∀ j ∈ L1, j < i := by
        intro j hj
        rw [hsplit] at hs
        exact (List.pairwise_append.1 hs).2.2 j hj i (by simp)
      have hL2 : ∀ j ∈ L2, i < j := by
        intro j hj
        rw [hsplit] at hs
        exact List.rel_of_pairwise_cons (List.pairwise_append.1 hs).2.1 hj
      rw [hsplit] at hrun
      obtain ⟨cs', hrun', hcs'⟩ := pull hr.fit L1 S cs Sf (fun j hj oj oi hoj hoi => by
        rw [hso] at hoi
        cases hoi
        exact hapart j (by rw [hsplit]; simp [hj]) (hL1 j hj) oj hoj) hrun
      obtain ⟨so', c, us, c', hi', he, hrest, hcc⟩ := runI_cons hrun'
      rw [hso] at hi'
      cases hi'
      subst hcc
      have hc' : ∀ p ∈ c ++ c', p := fun p hp => hc p ((hcs' p).1 hp)
      have hk := exec_keys (hr.fit i so hso) he
      refine exec_ok hP G R ho g1 g2 g3 g4 he (fun p hp => hc' p (List.mem_append_left _ hp)) (fun d hd => ?_) (fun hm d hd => ?_) (fun g hg hm => ?_) Q _ ?_
      · obtain ⟨p, hp, rfl⟩ := List.mem_map.1 hd
        exact I.when i hi2 so hso _ (hk p hp)
      · obtain ⟨p, hp, rfl⟩ := List.mem_map.1 hd
        exact I.ref i hi2 so hso (by rw [g1]; exact hm) _ (hk p hp)
      · obtain ⟨p, hp, rfl⟩ := List.mem_map.1 hm
        exact freshOk_own hr.fresh i so hso _ hg (hk p hp)
      · intro a' w' ⟨m', R'⟩
        have hmem : ∀ j, j ∈ L1 ++ L2 ↔ j ∈ L ∧ j ≠ i := by
          intro j
          rw [hsplit]
          simp only [List.mem_append, List.mem_cons]
          constructor
          · rintro (h | h)
            · exact ⟨.inl h, Nat.ne_of_lt (hL1 j h)⟩
            · exact ⟨.inr (.inr h), Nat.ne_of_gt (hL2 j h)⟩
          · rintro ⟨h | h | h, hne⟩
            · exact .inl h
            · exact absurd h hne
            · exact .inr h
        refine ih (L1 ++ L2) (listed.setIfInBounds i true) _ m' a' w' c' ?_ R' hrest (fun p hp => hc' p (List.mem_append_right _ hp)) ?_ ?_ ?_ ?_ (by simpa using hsz) ?_
        · rw [hsplit] at hlen
          simp at hlen ⊢
          omega
        · exact I.step hr.fresh hso (hr.fit i so hso) (fun j hj => (hmem j).1 hj) (fun j hj hji oj hoj => hapart j ((hmem j).1 hj).1 hji oj hoj) he
        · exact fun j hj => hlt j ((hmem j).1 hj).1
        · rw [hsplit] at hs
          obtain ⟨p1, p2, p3⟩ := List.pairwise_append.1 hs
          exact List.pairwise_append.2 ⟨p1, p2.of_cons, fun x hx y hy => p3 x hx y (by simp [hy])⟩
        · intro j hj
          rw [hmem]
          have hsl : i < listed.size := by rw [hsz]; exact hi1
          by_cases hji : j = i
          · subst hji
            simp [Array.getD_eq_getD_getElem?, hsl]
          · have : (listed.setIfInBounds i true).getD j true = listed.getD j true := by
              simp [Array.getD_eq_getD_getElem?, Array.getElem?_setIfInBounds_ne (fun e => hji e.symm)]
            rw [this, hL j hj]
            simp [hji]
        · intro j hj hjs k hk hkm
          obtain ⟨hk1, hk2⟩ := (hmem k).1 hkm
          by_cases hji : j = i
          · subst hji
            exact hahead k hk hk1
          · have : j ∉ L := fun h => hj ((hmem j).2 ⟨h, hji⟩)
            exact hdc j this hjs k hk hk1

theorem Rel.drew (R : Rel w0 m S a w) : Rel w0 m S a { w with drawn := w.drawn + 1 } := by
  have h : Below w.heap.size w { w with drawn := w.drawn + 1 } := ⟨rfl, rfl, rfl, Nat.le_refl _, fun _ _ => rfl⟩
  exact R.later h

/-- A statement. -/
theorem region_ok (hP : EnvOK P E) (hmix : P.follows .mixedOrders = true) (G : GlobOK E.glob w0) (R : Rel w0 m S a w) {id : Nat} {ops : Array Oper} {draw : Bool} {l : List SOp} (hl : regOf ops.toList draw = some l)
    {cs : List Prop} {Sf : St} (hrun : run E l (kill (madeIn l) S) = some (cs, Sf)) (hc : ∀ p ∈ cs, p) {Q : Exit → Act → World → Prop} (hQ : ∀ m' a' w', Rel w0 m' Sf a' w' → Q .normal a' w') :
    (Code.region id ops draw).wp P Q a w := by
  obtain ⟨hr, hd⟩ := regOf_ready hl
  have hrun' : runI E l (List.range l.length) (kill (madeIn l) S) = some (cs, Sf) := by
    have := run_runI (E := E) l 0 (kill (madeIn l) S) (Nat.zero_le _)
    simp only [List.drop_zero] at this
    rw [← this]
    exact hrun
  have hI : Inv l (List.range l.length) (kill (madeIn l) S) := by
    refine ⟨fun j _ o ho hm d hdk => ?_, fun j _ o _ d _ => kill_noWhen⟩
    refine kill_noRef ?_
    unfold madeIn
    rw [List.mem_flatMap]
    refine ⟨o, List.mem_of_getElem? ho, ?_⟩
    rw [if_pos hm]
    exact hdk
  have hlt : ∀ i ∈ List.range l.length, i < ops.size := by
    intro i hi
    rw [← hr.len]
    exact List.mem_range.1 hi
  cases draw with
  | false =>
    refine wp_region ?_
    rw [← hr.len]
    exact seq_ok hP G hr hQ _ _ m a w cs (R.kill _) hrun' hc hI hlt List.pairwise_lt_range
  | true =>
    refine wp_region_any hmix ?_
    refine any_ok hP G hr (hd rfl) hQ ops.size (List.range l.length) _ _ m a _ cs (by simp [hr.len]) (R.kill _).drew hrun' hc hI hlt List.pairwise_lt_range ?_ (by simp) ?_
    · intro i hi
      simp [hr.len, hi]
    · intro i hi his
      exact absurd (List.mem_range.2 (by rw [hr.len]; exact his)) hi
end
end Sx
