/-
  What an operation looks at, what it writes, and where its answers lead.
-/
import Derived.Test.YtnfbjfbndnmhmaaSxH
namespace Sx
open Go Go.RowKit

section
variable {E : Env} {S S' : St} {gd : Gd} {rd ks : List Nat} {dst : Option Tmp}

theorem getG_local {t : Nat} (h : get S t = get S' t) : getG gd S t = getG gd S' t := by
  unfold getG
  rw [h]

def Sees (rd : List Nat) (x : Operand) : Prop := ∀ t, x = .tmp t → t ∈ rd

theorem opg_local (H : ∀ x ∈ rd, get S x = get S' x) {x : Operand} (hx : Sees rd x) : opg gd S x = opg gd S' x := by
  cases x with
  | tmp t => exact getG_local (H t (hx t rfl))
  | const v => cases v <;> rfl
  | global g => rfl
  | func f => rfl

theorem move_local (H : ∀ x ∈ rd, get S x = get S' x) {x : Operand} (hx : Sees rd x) : effMove gd S dst x = effMove gd S' dst x := by
  unfold effMove
  rw [opg_local H hx]

theorem pick_local (H : ∀ x ∈ rd, get S x = get S' x) {c x y : Operand} (hc : Sees rd c) (hx : Sees rd x) (hy : Sees rd y) : effPick S dst c x y = effPick S' dst c x y := by
  unfold effPick
  cases c with
  | tmp t =>
    simp only [H t (hc t rfl), fun g => move_local (gd := g) (dst := dst) H hx, fun g => move_local (gd := g) (dst := dst) H hy, fun g => opg_local (gd := g) H hx, fun g => opg_local (gd := g) H hy]
  | _ => rfl

theorem load_local (H : ∀ x ∈ rd, get S x = get S' x) {T : TypeId} {x : Operand} (hx : Sees rd x) : effLoad E rd gd S dst T x = effLoad E rd gd S' dst T x := by
  unfold effLoad
  rw [opg_local H hx]
  split
  · rfl
  · split
    · rename_i hc
      rw [H _ (by simpa using hc)]
    · rfl
  · rfl
  · split
    · rename_i hc
      rw [H _ (by simpa using hc)]
    · rfl
  · rfl

theorem store_local (H : ∀ x ∈ rd, get S x = get S' x) {T : TypeId} {x y : Operand} (hx : Sees rd x) (hy : Sees rd y) : effStore E rd ks gd S dst T x y = effStore E rd ks gd S' dst T x y := by
  unfold effStore
  rw [opg_local H hx, opg_local H hy]
  split
  · rfl
  · split
    · rfl
    · split
      · rename_i hc
        simp only [Bool.and_eq_true] at hc
        rw [H _ (by simpa using hc.1)]
      · rfl
    · rfl

theorem indexAddr_local (H : ∀ x ∈ rd, get S x = get S' x) {T : TypeId} {x y : Operand} (hx : Sees rd x) (hy : Sees rd y) : effIndexAddr E rd gd S dst T x y = effIndexAddr E rd gd S' dst T x y := by
  unfold effIndexAddr
  rw [opg_local H hx, opg_local H hy]
  split
  · split
    · rfl
    · split
      · split
        · rename_i hc
          rw [H _ (by simpa using hc.2.1)]
        · rfl
      · rfl
      · rfl
    · rfl
  · rfl

theorem argOf_local (H : ∀ x ∈ rd, get S x = get S' x) {x : Operand} (hx : Sees rd x) : argOf rd gd S x = argOf rd gd S' x := by
  unfold argOf
  rw [opg_local H hx]
  split
  · rfl
  · rfl
  · rfl
  · split
    · rename_i hc
      rw [H _ (by simpa using hc)]
    · rfl
  · rfl

theorem argsOf_local (H : ∀ x ∈ rd, get S x = get S' x) : ∀ xs : List Operand, (∀ x ∈ xs, Sees rd x) → argsOf rd gd S xs = argsOf rd gd S' xs
  | [], _ => rfl
  | x :: xs, hx => by
    simp only [argsOf]
    rw [argOf_local H (hx x (by simp)), argsOf_local H xs (fun y hy => hx y (by simp [hy]))]

theorem lay_local (H : ∀ x ∈ rd, get S x = get S' x) {place : Nat → Option (Nat × TypeId)} : ∀ (ps : List (Nat × Operand)) (x : AV), (∀ p ∈ ps, Sees rd p.2) → lay E gd S place x ps = lay E gd S' place x ps
  | [], _, _ => rfl
  | (i, o) :: ps, x, hp => by
    simp only [lay, opg_local H (hp (i, o) (by simp)), fun z => lay_local H (place := place) ps z (fun q hq => hp q (by simp [hq]))]

theorem bound_local (H : ∀ x ∈ rd, get S x = get S' x) {x : Option Operand} (hx : ∀ y, x = some y → Sees rd y) : bound gd S x = bound gd S' x := by
  unfold bound
  cases x with
  | none => rfl
  | some y => simp only [opg_local H (hx y rfl)]

theorem eff_local {o : SOp} (H : ∀ x ∈ o.rd, get S x = get S' x) (hs : ∀ x ∈ o.op.operands.toList, Sees o.rd x) : eff E gd S o = eff E gd S' o := by
  unfold eff
  cases ho : o.op <;> rw [ho] at hs <;> simp only
  case move x => exact move_local H (hs x (by simp [Op.operands]))
  case assign x => exact move_local H (hs x (by simp [Op.operands]))
  case pick c x y => exact pick_local H (hs c (by simp [Op.operands])) (hs x (by simp [Op.operands])) (hs y (by simp [Op.operands]))
  case box T x => rw [opg_local H (hs x (by simp [Op.operands]))]
  case build T ps =>
    have hp : ∀ p ∈ ps.toList, Sees o.rd p.2 := by
      intro p hp
      refine hs p.2 ?_
      simp only [Op.operands]
      exact List.mem_map.2 ⟨p, hp, rfl⟩
    unfold effBuild
    simp only [fun pl z => lay_local (E := E) (gd := gd) (place := pl) H ps.toList z hp]
  case load T x => exact load_local H (hs x (by simp [Op.operands]))
  case store T x y => exact store_local H (hs x (by simp [Op.operands])) (hs y (by simp [Op.operands]))
  case indexAddr T x y => exact indexAddr_local H (hs x (by simp [Op.operands])) (hs y (by simp [Op.operands]))
  case fieldAddr T x f => unfold effFieldAddr; rw [opg_local H (hs x (by simp [Op.operands]))]
  case field T x f => unfold effField; rw [opg_local H (hs x (by simp [Op.operands]))]
  case index T x y => unfold effIndex; rw [opg_local H (hs x (by simp [Op.operands])), opg_local H (hs y (by simp [Op.operands]))]
  case slice T x lo hi mx =>
    unfold effSlice
    rw [opg_local H (hs x (by simp [Op.operands])), bound_local H (fun y hy => hs y (by subst hy; simp [Op.operands])), bound_local H (fun y hy => hs y (by subst hy; simp [Op.operands]))]
  case convert s d x => unfold effConvert; rw [opg_local H (hs x (by simp [Op.operands]))]
  case unOp op t x => unfold effUn; rw [opg_local H (hs x (by simp [Op.operands]))]
  case binOp op t x y t2 => rw [opg_local H (hs x (by simp [Op.operands])), opg_local H (hs y (by simp [Op.operands]))]
  case extract x i => rw [opg_local H (hs x (by simp [Op.operands]))]
  case call c =>
    have ha : ∀ x ∈ c.args.toList, Sees o.rd x := by
      intro x hx
      refine hs x ?_
      simp only [Op.operands, Call.operands, Array.toList_append, List.mem_append]
      exact .inr hx
    unfold effCall
    rw [argsOf_local H _ ha]
    split
    · rfl
    · split
      · rename_i x t hargs _
        rw [opg_local H (ha x (by rw [hargs]; simp))]
      · rfl
    · rfl

theorem exec_local {o : SOp} (H : ∀ x ∈ o.rd, get S x = get S' x) (hs : ∀ x ∈ o.op.operands.toList, Sees o.rd x) (hg : ∀ g ∈ gslots o.gd, g ∈ o.rd) : exec E S o = exec E S' o := by
  unfold exec
  split
  · exact eff_local H hs
  · rename_i g want he
    rw [H g (hg g (by rw [he]; simp [gslots]))]
    split
    · split
      · exact eff_local H hs
      · rfl
    · rw [eff_local H hs]
    · rfl

/-! What it writes. -/

theorem ret1_keys {cs cs' : List Prop} {v : AV} {us : List (Nat × AV)} (h : ret1 dst cs v = some (cs', us)) : ∀ p ∈ us, dst = some p.1 ∧ p.2 = v := by
  unfold ret1 at h
  split at h
  · cases h; intro p hp; simp at hp; subst hp; exact ⟨rfl, rfl⟩
  · cases h; intro p hp; simp at hp

/-! Where its answers lead. -/

theorem plain_nr {d : Nat} {v : AV} (h : plain v = true) : nr d v := by
  cases v <;> simp [plain] at h <;> trivial

theorem getG_nr {d t : Nat} (h : noRef d S) : nr d (getG gd S t) := by
  have h0 := h t
  unfold getG
  split
  · rename_i g b v he
    rw [he] at h0
    split
    · split
      · exact h0
      · trivial
    · trivial
  · exact h0

theorem opg_nr {d : Nat} (h : noRef d S) (x : Operand) : nr d (opg gd S x) := by
  cases x with
  | tmp t => exact getG_nr h
  | const v => cases v <;> trivial
  | global g => trivial
  | func f => trivial

theorem sub_plain {T : TypeId} {x : AV} {off : SO} {cs : List Prop} {r : AV} (h : sub E T x off = some (cs, r)) : plain r = true := by
  unfold sub at h
  repeat' split at h
  all_goals first | (cases h; done) | (cases h; rfl)

theorem ret1_nr {d : Nat} {cs cs' : List Prop} {v : AV} {us : List (Nat × AV)} (h : ret1 dst cs v = some (cs', us)) (hv : nr d v) : ∀ p ∈ us, nr d p.2 := by
  intro p hp
  rw [(ret1_keys h p hp).2]
  exact hv

theorem move_nr {d : Nat} (H : noRef d S) (hd : d ∉ rd) {x : Operand} (hx : Sees rd x) {cs : List Prop} {us : List (Nat × AV)} (h : effMove gd S dst x = some (cs, us)) : ∀ p ∈ us, nr d p.2 := by
  have h0 := opg_nr (gd := gd) H x
  unfold effMove at h
  split at h
  all_goals try (cases h; done)
  all_goals try (rename_i he; rw [he] at h0; exact ret1_nr h h0)
  · cases x with
    | tmp t =>
      simp only at h
      refine ret1_nr h ?_
      intro e
      subst e
      exact hd (hx t rfl)
    | const v => cases h
    | global g => cases h
    | func f => cases h

theorem eff_nr {d : Nat} {o : SOp} (H : noRef d S) (hd : d ∉ o.rd) (hs : ∀ x ∈ o.op.operands.toList, Sees o.rd x) {cs : List Prop} {us : List (Nat × AV)} 
    (h : eff E gd S o = some (cs, us)) : ∀ p ∈ us, nr d p.2 := by
  unfold eff at h
  cases ho : o.op <;> rw [ho] at hs h <;> simp only at h <;> (try (cases h; done))
  case move x => exact move_nr H hd (hs x (by simp [Op.operands])) h
  case assign x => exact move_nr H hd (hs x (by simp [Op.operands])) h
  case pick c x y =>
    unfold effPick at h
    split at h
    · split at h
      · exact move_nr H hd (hs x (by simp [Op.operands])) h
      · exact move_nr H hd (hs y (by simp [Op.operands])) h
      · split at h
        · exact ret1_nr h trivial
        · split at h
          · exact ret1_nr h trivial
          · cases h
        · cases h
      · cases h
    · cases h
  case alloc T => split at h <;> first | (cases h; done) | exact ret1_nr h trivial
  case box T x => split at h <;> first | (cases h; done) | exact ret1_nr h trivial
  case build T ps =>
    have key : ∀ z v pl l, lay E gd S pl z l = some v → (∃ k n f, z = .arr k n f) → nr d v := by
      intro z v pl l hl hz
      obtain ⟨k, n, f, rfl⟩ := lay_arr l z v hl hz
      trivial
    have hz : ∀ z, isA (E.ty T).d = true → zero E T = some z → ∃ k n f, z = .arr k n f := by
      intro z ha hz
      unfold zero at hz
      split at hz
      · rename_i hd; rw [hd] at ha; cases ha
      · rename_i hd; rw [hd] at ha; cases ha
      · cases hz; exact ⟨_, _, _, rfl⟩
      · cases hz; exact ⟨_, _, _, rfl⟩
      · cases hz
    unfold effBuild at h
    split at h
    · rename_i hd1
      split at h
      · split at h
        · rename_i z hz1
          split at h
          · rename_i v hl
            exact ret1_nr h (key _ _ _ _ hl (hz z (by rw [hd1]; rfl) hz1))
          · cases h
        · cases h
      · cases h
    · rename_i hd1
      split at h
      · split at h
        · rename_i z hz1
          split at h
          · rename_i v hl
            exact ret1_nr h (key _ _ _ _ hl (hz z (by rw [hd1]; rfl) hz1))
          · cases h
        · cases h
      · cases h
    · cases h
  case load T x =>
    unfold effLoad at h
    repeat' split at h
    all_goals try (cases h; done)
    all_goals first | exact ret1_nr h (plain_nr (sub_plain (by assumption))) | exact ret1_nr h trivial
  case store T x y =>
    unfold effStore at h
    repeat' split at h
    all_goals try (cases h; done)
    all_goals (cases h; intro p hp; simp at hp; subst hp; trivial)
  case indexAddr T x y =>
    have h0 := opg_nr (gd := gd) H x
    have hx := hs x (by simp [Op.operands])
    have tm : ∀ t, tmpOf x = some t → t ≠ d := by
      intro t ht e
      subst e
      cases x <;> simp [tmpOf] at ht
      subst ht
      exact hd (hx _ rfl)
    unfold effIndexAddr at h
    split at h
    · split at h
      · split at h
        · split at h
          · split at h
            · split at h
              · exact ret1_nr h (tm _ (by assumption))
              · cases h
            · rename_i he
              rw [he] at h0
              exact ret1_nr h h0
            · exact ret1_nr h trivial
            · cases h
          · cases h
        · cases h
      · split at h
        · rename_i he
          rw [he] at h0
          split at h
          · split at h
            · split at h
              · exact ret1_nr h h0
              · exact ret1_nr h h0
              · cases h
            · cases h
          · cases h
        · split at h
          · split at h
            · exact ret1_nr h (tm _ (by assumption))
            · cases h
          · cases h
        · cases h
      · cases h
    · cases h
  case fieldAddr T x f =>
    have h0 := opg_nr (gd := gd) H x
    have hx := hs x (by simp [Op.operands])
    have tm : ∀ t, tmpOf x = some t → t ≠ d := by
      intro t ht e
      subst e
      cases x <;> simp [tmpOf] at ht
      subst ht
      exact hd (hx _ rfl)
    unfold effFieldAddr at h
    repeat' split at h
    all_goals try (cases h; done)
    all_goals first | exact ret1_nr h trivial | exact ret1_nr h (tm _ (by assumption)) | (rename_i he; rw [he] at h0; exact ret1_nr h h0)
  case field T x f =>
    unfold effField at h
    repeat' split at h
    all_goals first | (cases h; done) | exact ret1_nr h (plain_nr (sub_plain (by assumption)))
  case index T x y =>
    unfold effIndex at h
    repeat' split at h
    all_goals first | (cases h; done) | exact ret1_nr h (plain_nr (sub_plain (by assumption)))
  case slice T x lo hi mx =>
    have h0 := opg_nr (gd := gd) H x
    have hx := hs x (by simp [Op.operands])
    have tm : ∀ t, tmpOf x = some t → t ≠ d := by
      intro t ht e
      subst e
      cases x <;> simp [tmpOf] at ht
      subst ht
      exact hd (hx _ rfl)
    unfold effSlice at h
    split at h
    · cases h
    · split at h
      · split at h
        · split at h
          · split at h
            · exact ret1_nr h (tm _ (by assumption))
            · cases h
          · cases h
        · split at h
          · rename_i he
            rw [he] at h0
            split at h
            · split at h
              · exact ret1_nr h h0
              · cases h
            · cases h
          · cases h
        · cases h
      · cases h
  case convert s d x =>
    unfold effConvert at h
    split at h <;> first | (cases h; done) | exact ret1_nr h trivial
  case unOp op t x =>
    unfold effUn at h
    split at h <;> first | (cases h; done) | exact ret1_nr h trivial
  case binOp op t x y t2 =>
    split at h
    · rename_i c r hb
      refine ret1_nr h ?_
      unfold binEff at hb
      repeat' split at hb
      all_goals first | (cases hb; done) | (cases hb; trivial)
    · cases h
  case extract x i =>
    repeat' split at h
    all_goals first | (cases h; done) | exact ret1_nr h (plain_nr (by assumption))
  case call c =>
    unfold effCall at h
    repeat' split at h
    all_goals try (cases h; done)
    · rename_i r _ ha
      refine ret1_nr h ?_
      cases r <;> simp [answer] at ha <;> trivial
    all_goals exact ret1_nr h trivial

/-- No answer is laid behind a guard by itself. -/
def bare : AV → Bool
  | .when .. => false
  | _ => true

theorem ret1_bare {cs cs' : List Prop} {v : AV} {us : List (Nat × AV)} (h : ret1 dst cs v = some (cs', us)) (hv : bare v = true) : ∀ p ∈ us, bare p.2 = true := by
  intro p hp
  rw [(ret1_keys h p hp).2]
  exact hv
theorem plain_bare {v : AV} (h : plain v = true) : bare v = true := by
  cases v <;> simp [plain] at h <;> rfl

theorem move_bare {x : Operand} {cs : List Prop} {us : List (Nat × AV)} (h : effMove gd S dst x = some (cs, us)) : ∀ p ∈ us, bare p.2 = true := by
  unfold effMove at h
  split at h
  all_goals try (cases h; done)
  all_goals try exact ret1_bare h rfl
  · split at h
    · exact ret1_bare h rfl
    · cases h

theorem eff_bare {o : SOp} {cs : List Prop} {us : List (Nat × AV)} (h : eff E gd S o = some (cs, us)) : ∀ p ∈ us, bare p.2 = true := by
  unfold eff at h
  cases ho : o.op <;> rw [ho] at h <;> simp only at h <;> (try (cases h; done))
  case move x => exact move_bare h
  case assign x => exact move_bare h
  case pick c x y =>
    unfold effPick at h
    repeat' split at h
    all_goals first | (cases h; done) | exact move_bare h | exact ret1_bare h rfl
  case alloc T => split at h <;> first | (cases h; done) | exact ret1_bare h rfl
  case box T x => split at h <;> first | (cases h; done) | exact ret1_bare h rfl
  case build T ps =>
    unfold effBuild at h
    have key : ∀ z v pl l, lay E gd S pl z l = some v → (∃ k n f, z = .arr k n f) → bare v = true := by
      intro z v pl l hl hz
      obtain ⟨k, n, f, rfl⟩ := lay_arr l z v hl hz
      rfl
    have hz : ∀ z, isA (E.ty T).d = true → zero E T = some z → ∃ k n f, z = .arr k n f := by
      intro z ha hz
      unfold zero at hz
      split at hz
      · rename_i hd; rw [hd] at ha; cases ha
      · rename_i hd; rw [hd] at ha; cases ha
      · cases hz; exact ⟨_, _, _, rfl⟩
      · cases hz; exact ⟨_, _, _, rfl⟩
      · cases hz
    split at h
    · rename_i hd1
      split at h
      · split at h
        · rename_i z hz1
          split at h
          · rename_i v hl
            exact ret1_bare h (key _ _ _ _ hl (hz z (by rw [hd1]; rfl) hz1))
          · cases h
        · cases h
      · cases h
    · rename_i hd1
      split at h
      · split at h
        · rename_i z hz1
          split at h
          · rename_i v hl
            exact ret1_bare h (key _ _ _ _ hl (hz z (by rw [hd1]; rfl) hz1))
          · cases h
        · cases h
      · cases h
    · cases h
  case load T x =>
    unfold effLoad at h
    repeat' split at h
    all_goals try (cases h; done)
    all_goals first | exact ret1_bare h (plain_bare (sub_plain (by assumption))) | exact ret1_bare h rfl
  case store T x y =>
    unfold effStore at h
    repeat' split at h
    all_goals try (cases h; done)
    all_goals (cases h; intro p hp; simp at hp; subst hp; rfl)
  case indexAddr T x y =>
    unfold effIndexAddr at h
    repeat' split at h
    all_goals first | (cases h; done) | exact ret1_bare h rfl
  case fieldAddr T x f =>
    unfold effFieldAddr at h
    repeat' split at h
    all_goals first | (cases h; done) | exact ret1_bare h rfl
  case field T x f =>
    unfold effField at h
    repeat' split at h
    all_goals first | (cases h; done) | exact ret1_bare h (plain_bare (sub_plain (by assumption)))
  case index T x y =>
    unfold effIndex at h
    repeat' split at h
    all_goals first | (cases h; done) | exact ret1_bare h (plain_bare (sub_plain (by assumption)))
  case slice T x lo hi mx =>
    unfold effSlice at h
    repeat' split at h
    all_goals first | (cases h; done) | exact ret1_bare h rfl
  case convert s d x =>
    unfold effConvert at h
    split at h <;> first | (cases h; done) | exact ret1_bare h rfl
  case unOp op t x =>
    unfold effUn at h
    split at h <;> first | (cases h; done) | exact ret1_bare h rfl
  case binOp op t x y t2 =>
    split at h
    · rename_i c r hb
      refine ret1_bare h ?_
      unfold binEff at hb
      repeat' split at hb
      all_goals first | (cases hb; done) | (cases hb; rfl)
    · cases h
  case extract x i =>
    repeat' split at h
    all_goals first | (cases h; done) | exact ret1_bare h (plain_bare (by assumption))
  case call c =>
    unfold effCall at h
    repeat' split at h
    all_goals try (cases h; done)
    · rename_i r _ ha
      refine ret1_bare h ?_
      cases r <;> simp [answer] at ha <;> rfl
    all_goals exact ret1_bare h rfl

theorem eff_keys {o : SOp} (hd : ∀ d, o.dst = some d → d ∈ o.ks) {cs : List Prop} {us : List (Nat × AV)} (h : eff E gd S o = some (cs, us)) : ∀ p ∈ us, p.1 ∈ o.ks := by
  have key : ∀ {cs cs' : List Prop} {v : AV} {us : List (Nat × AV)}, ret1 o.dst cs v = some (cs', us) → ∀ p ∈ us, p.1 ∈ o.ks := by
    intro cs cs' v us h p hp
    exact hd _ (ret1_keys h p hp).1
  have mv : ∀ {x : Operand} {cs : List Prop} {us : List (Nat × AV)} {gd : Gd}, effMove gd S o.dst x = some (cs, us) → ∀ p ∈ us, p.1 ∈ o.ks := by
    intro x cs us gd h
    unfold effMove at h
    split at h
    all_goals try (cases h; done)
    all_goals try exact key h
    · split at h
      · exact key h
      · cases h
  unfold eff at h
  cases ho : o.op <;> rw [ho] at h <;> simp only at h <;> (try (cases h; done))
  case move x => exact mv h
  case assign x => exact mv h
  case pick c x y =>
    unfold effPick at h
    repeat' split at h
    all_goals first | (cases h; done) | exact mv h | exact key h
  case store T x y =>
    unfold effStore at h
    split at h
    · cases h
    · split at h
      · split at h
        · split at h
          · rename_i hk
            split at h
            · cases h; intro p hp; simp at hp; subst hp; simpa using hk
            · cases h
          · cases h
        · cases h
      · split at h
        · rename_i hk
          simp only [Bool.and_eq_true] at hk
          split at h
          · split at h
            · cases h; intro p hp; simp at hp; subst hp; simpa using hk.2
            · cases h
          · cases h
        · cases h
      · cases h
  case build T ps => unfold effBuild at h; (repeat' split at h) <;> first | (cases h; done) | exact key h
  case load T x => unfold effLoad at h; (repeat' split at h) <;> first | (cases h; done) | exact key h
  case indexAddr T x y => unfold effIndexAddr at h; (repeat' split at h) <;> first | (cases h; done) | exact key h
  case fieldAddr T x f => unfold effFieldAddr at h; (repeat' split at h) <;> first | (cases h; done) | exact key h
  case field T x f => unfold effField at h; (repeat' split at h) <;> first | (cases h; done) | exact key h
  case index T x y => unfold effIndex at h; (repeat' split at h) <;> first | (cases h; done) | exact key h
  case slice T x lo hi mx => unfold effSlice at h; (repeat' split at h) <;> first | (cases h; done) | exact key h
  case convert s d x => unfold effConvert at h; (repeat' split at h) <;> first | (cases h; done) | exact key h
  case unOp op t x => unfold effUn at h; (repeat' split at h) <;> first | (cases h; done) | exact key h
  case call c => unfold effCall at h; (repeat' split at h) <;> first | (cases h; done) | exact key h
  case alloc T => (repeat' split at h) <;> first | (cases h; done) | exact key h
  case box T x => (repeat' split at h) <;> first | (cases h; done) | exact key h
  case binOp op t x y t2 => (repeat' split at h) <;> first | (cases h; done) | exact key h
  case extract x i => (repeat' split at h) <;> first | (cases h; done) | exact key h
end
end Sx
