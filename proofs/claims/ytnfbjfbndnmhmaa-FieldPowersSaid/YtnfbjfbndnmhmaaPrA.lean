/-
  Prime numbers: Fermat's little theorem, and Pocklington's test.
-/
namespace Sx

/-- A prime number. -/
structure Pr (p : Nat) : Prop where
  two : 2 ≤ p
  only : ∀ m, m ∣ p → m = 1 ∨ m = p

theorem Pr.cop {p a : Nat} (hp : Pr p) (h : ¬ p ∣ a) : Nat.gcd p a = 1 := by
  rcases hp.only _ (Nat.gcd_dvd_left p a) with e | e
  · exact e
  · exact absurd (by have := Nat.gcd_dvd_right p a; rwa [e] at this) h

theorem Pr.dvd_mul {p a b : Nat} (hp : Pr p) (h : p ∣ a * b) : p ∣ a ∨ p ∣ b := by
  by_cases ha : p ∣ a
  · exact .inl ha
  · exact .inr (Nat.Coprime.dvd_of_dvd_mul_left (hp.cop ha) h)

theorem exists_prime : ∀ n, 2 ≤ n → ∃ q, Pr q ∧ q ∣ n := by
  intro n
  induction n using Nat.strongRecOn with
  | ind n ih =>
    intro h2
    by_cases h : ∀ m, m ∣ n → m = 1 ∨ m = n
    · exact ⟨n, ⟨h2, h⟩, Nat.dvd_refl n⟩
    · obtain ⟨m, hm⟩ := Classical.not_forall.1 h
      obtain ⟨hd, hne⟩ := Classical.not_imp.1 hm
      have h1 : m ≠ 1 := fun e => hne (.inl e)
      have h3 : m ≠ n := fun e => hne (.inr e)
      have hle := Nat.le_of_dvd (by omega) hd
      have h0 : m ≠ 0 := fun e => by subst e; have := Nat.eq_zero_of_zero_dvd hd; omega
      obtain ⟨q, hq, hqm⟩ := ih m (by omega) (by omega)
      exact ⟨q, hq, Nat.dvd_trans hqm hd⟩

/-! Lists without a repeat. -/

theorem perm_of_sub {α : Type} [DecidableEq α] : ∀ (l l' : List α), l.Nodup → l'.Nodup → (∀ x ∈ l, x ∈ l') → l.length = l'.length → l.Perm l'
  | [], l', _, _, _, hl => by
    have : l' = [] := List.eq_nil_of_length_eq_zero (by simpa using hl.symm)
    rw [this]
  | a :: l, l', hn, hn', hs, hl => by
    have ha : a ∈ l' := hs a (by simp)
    have hp := List.perm_cons_erase ha
    have hn2 := List.nodup_cons.1 hn
    have ih := perm_of_sub l (l'.erase a) hn2.2 (hn'.erase a) (fun x hx => by
      have h1 : x ∈ l' := hs x (by simp [hx])
      have h2 : x ≠ a := fun e => hn2.1 (e ▸ hx)
      exact (List.mem_erase_of_ne h2).2 h1) (by
      rw [List.length_erase_of_mem ha]
      simp only [List.length_cons] at hl
      omega)
    exact (ih.cons a).trans hp.symm

def prodL : List Nat → Nat
  | [] => 1
  | a :: l => a * prodL l

theorem prodL_perm {l l' : List Nat} (h : l.Perm l') : prodL l = prodL l' := by
  induction h with
  | nil => rfl
  | cons a _ ih => simp [prodL, ih]
  | swap a b l => simp only [prodL]; rw [Nat.mul_left_comm]
  | trans _ _ h1 h2 => exact h1.trans h2

theorem nodup_map_on {α β : Type} {f : α → β} : ∀ {l : List α}, l.Nodup → (∀ x ∈ l, ∀ y ∈ l, f x = f y → x = y) → (l.map f).Nodup
  | [], _, _ => List.nodup_nil
  | a :: l, hn, hf => by
    have h := List.nodup_cons.1 hn
    rw [List.map_cons, List.nodup_cons]
    refine ⟨fun hm => ?_, nodup_map_on h.2 fun x hx y hy => hf x (by simp [hx]) y (by simp [hy])⟩
    obtain ⟨y, hy, e⟩ := List.mem_map.1 hm
    have := hf y (by simp [hy]) a (by simp) e
    exact h.1 (this ▸ hy)

/-- A map of a list into itself that keeps unlikes apart puts it in another order. -/
theorem perm_map {α : Type} [DecidableEq α] {f : α → α} {l : List α} (hn : l.Nodup) (hf : ∀ x ∈ l, ∀ y ∈ l, f x = f y → x = y) (hm : ∀ x ∈ l, f x ∈ l) : (l.map f).Perm l :=
  perm_of_sub _ _ (nodup_map_on hn hf) hn (fun x hx => by obtain ⟨y, hy, rfl⟩ := List.mem_map.1 hx; exact hm y hy) (by simp)

/-- 1, 2, .. n. -/
def upTo (n : Nat) : List Nat := List.range' 1 n
theorem mem_upTo {n i : Nat} : i ∈ upTo n ↔ 1 ≤ i ∧ i ≤ n := by
  unfold upTo
  rw [List.mem_range'_1]
  omega
theorem nodup_upTo (n : Nat) : (upTo n).Nodup := List.nodup_range' (s := 1) (n := n) (step := 1) (by decide)

theorem mod_dvd_sub {p x y : Nat} (h : x % p = y % p) (hle : y ≤ x) : p ∣ x - y := by
  have h1 := Nat.div_add_mod x p
  have h2 := Nat.div_add_mod y p
  refine ⟨x / p - y / p, ?_⟩
  rw [Nat.mul_sub]
  omega
theorem mod_of_dvd_sub {p x y : Nat} (hle : y ≤ x) (h : p ∣ x - y) : x % p = y % p := by
  obtain ⟨c, hc⟩ := h
  have e : x = y + p * c := by omega
  rw [e, Nat.add_mul_mod_self_left]

theorem mul_mod_inj {p a : Nat} (hc : Nat.gcd p a = 1) {x y : Nat} (hx : x < p) (hy : y < p) (h : a * x % p = a * y % p) : x = y := by
  have key : ∀ {x y : Nat}, x < p → y < p → y ≤ x → a * x % p = a * y % p → x = y := by
    intro x y hx hy hle h
    have h1 := mod_dvd_sub h (Nat.mul_le_mul_left a hle)
    rw [← Nat.mul_sub] at h1
    have h2 := Nat.Coprime.dvd_of_dvd_mul_left hc h1
    rcases Nat.eq_zero_or_pos (x - y) with h3 | h3
    · omega
    · have := Nat.le_of_dvd h3 h2
      omega
  rcases Nat.le_total y x with hle | hle
  · exact key hx hy hle h
  · exact (key hy hx hle h.symm).symm

theorem prod_map_mul (p a : Nat) : ∀ l : List Nat, prodL (l.map fun i => a * i % p) % p = a ^ l.length * prodL l % p
  | [] => by simp [prodL]
  | i :: l => by
    simp only [List.map_cons, prodL, List.length_cons]
    rw [Nat.mul_mod, Nat.mod_mod, prod_map_mul p a l, ← Nat.mul_mod, Nat.pow_succ]
    congr 1
    grind

theorem prod_cop {p : Nat} (hp : Pr p) : ∀ l : List Nat, (∀ i ∈ l, ¬ p ∣ i) → ¬ p ∣ prodL l
  | [], _ => fun h => by have := Nat.le_of_dvd (by decide) h; have := hp.two; simp [prodL] at *; omega
  | a :: l, h => fun hd => by
    rcases hp.dvd_mul hd with h1 | h1
    · exact h a (by simp) h1
    · exact prod_cop hp l (fun i hi => h i (by simp [hi])) h1

/-- Fermat's little theorem. -/
theorem fermat {p a : Nat} (hp : Pr p) (ha : ¬ p ∣ a) : a ^ (p - 1) % p = 1 := by
  have h2 := hp.two
  have hc := hp.cop ha
  have hperm : ((upTo (p - 1)).map fun i => a * i % p).Perm (upTo (p - 1)) := by
    refine perm_map (nodup_upTo _) (fun x hx y hy h => ?_) (fun x hx => ?_)
    · rw [mem_upTo] at hx hy
      exact mul_mod_inj hc (by omega) (by omega) h
    · rw [mem_upTo] at hx ⊢
      have h3 := Nat.mod_lt (a * x) (show 0 < p by omega)
      have h4 : a * x % p ≠ 0 := fun h => by
        have hd := Nat.dvd_of_mod_eq_zero h
        rcases hp.dvd_mul hd with h5 | h5
        · exact ha h5
        · have := Nat.le_of_dvd (by omega) h5; omega
      omega
  have h5 := prod_map_mul p a (upTo (p - 1))
  rw [prodL_perm hperm] at h5
  have hlen : (upTo (p - 1)).length = p - 1 := by simp [upTo]
  rw [hlen] at h5
  have h6 : ¬ p ∣ prodL (upTo (p - 1)) := prod_cop hp _ fun i hi h => by
    rw [mem_upTo] at hi
    have := Nat.le_of_dvd (by omega) h
    omega
  generalize prodL (upTo (p - 1)) = Q at h5 h6
  have hpos : 0 < a := by
    rcases Nat.eq_zero_or_pos a with h | h
    · subst h; exact absurd (Nat.dvd_zero p) ha
    · exact h
  have h7 := mod_dvd_sub (p := p) (x := a ^ (p - 1) * Q) (y := Q) h5.symm (Nat.le_mul_of_pos_left _ (Nat.pow_pos hpos))
  have h8 : a ^ (p - 1) * Q - Q = (a ^ (p - 1) - 1) * Q := by rw [Nat.sub_mul, Nat.one_mul]
  rw [h8] at h7
  rcases hp.dvd_mul h7 with h9 | h9
  · have hge : 1 ≤ a ^ (p - 1) := Nat.pow_pos hpos
    rw [mod_of_dvd_sub hge h9, Nat.mod_eq_of_lt (by omega)]
  · exact absurd h9 h6

/-! Powers. -/

/-- a to the power e modulo m, by squares. -/
def pm (m : Nat) : Nat → Nat → Nat → Nat
  | 0, _, _ => 1 % m
  | f + 1, a, e => if e = 0 then 1 % m else if e % 2 = 1 then a * pm m f (a * a % m) (e / 2) % m else pm m f (a * a % m) (e / 2)

theorem pm_eq (m : Nat) : ∀ (f a e : Nat), e < 2 ^ f → pm m f a e = a ^ e % m
  | 0, a, e, h => by
    have : e = 0 := by simpa using h
    subst this; simp [pm]
  | f + 1, a, e, h => by
    have hh : e / 2 < 2 ^ f := by rw [Nat.pow_succ] at h; omega
    have key : ∀ k, (a * a % m) ^ k % m = a ^ (2 * k) % m := fun k => by
      rw [← Nat.pow_mod, Nat.pow_mul, Nat.pow_two]
    simp only [pm]
    split
    · rename_i h0; subst h0; simp
    · split
      · rename_i h1
        rw [pm_eq m f _ _ hh, key, Nat.mul_mod, Nat.mod_mod, ← Nat.mul_mod, ← Nat.pow_succ']
        congr 2
        omega
      · rw [pm_eq m f _ _ hh, key]
        congr 2
        omega

theorem pow_gcd {p b : Nat} (hp : Pr p) : ∀ m n : Nat, b ^ m % p = 1 → b ^ n % p = 1 → b ^ (Nat.gcd m n) % p = 1 := by
  intro m n
  induction m, n using Nat.gcd.induction with
  | H0 n => intro _ h; rw [Nat.gcd_zero_left]; exact h
  | H1 m n hm ih =>
    intro h1 h2
    rw [Nat.gcd_rec]
    refine ih ?_ h1
    have e : n = m * (n / m) + n % m := (Nat.div_add_mod n m).symm
    rw [e, Nat.pow_add, Nat.pow_mul, Nat.mul_mod, Nat.pow_mod, h1, Nat.one_pow, Nat.mod_eq_of_lt (a := 1) (by have := hp.two; omega), Nat.one_mul, Nat.mod_mod] at h2
    exact h2

/-- A prime factor f of N - 1 under Pocklington's conditions goes into q - 1 for every prime factor q of N. -/
theorem pock_step {N f r a b : Nat} (hf : Pr f) (hN : N = f * r + 1) (h1 : a ^ (f * r) % N = 1) (hb : a ^ r % N = b) (hg : Nat.gcd (b + (N - 1)) N = 1) {q : Nat} (hq : Pr q) (hqN : q ∣ N) : f ∣ q - 1 := by
  have q2 := hq.two
  have hpos : 0 < N := by omega
  have hN1 : 1 < N := by
    have := Nat.le_of_dvd hpos hqN
    omega
  have h2 : a ^ (f * r) % q = 1 := by
    have := congrArg (· % q) h1
    simp only [Nat.mod_mod_of_dvd _ hqN] at this
    rw [this, Nat.mod_eq_of_lt (by omega)]
  have hqa : ¬ q ∣ a := fun h => by
    have h0 : f * r ≠ 0 := by omega
    have : q ∣ a ^ (f * r) := Nat.dvd_trans h ⟨a ^ (f * r - 1), by rw [← Nat.pow_succ']; congr 1; omega⟩
    have := Nat.mod_eq_zero_of_dvd this
    omega
  have h3 : (a ^ r) ^ f % q = 1 := by rw [← Nat.pow_mul, Nat.mul_comm r f]; exact h2
  have h4 : (a ^ r) ^ (q - 1) % q = 1 := by
    rw [← Nat.pow_mul, Nat.mul_comm r, Nat.pow_mul, Nat.pow_mod, fermat hq hqa, Nat.one_pow, Nat.mod_eq_of_lt (by omega)]
  by_cases hd : f ∣ q - 1
  · exact hd
  · exfalso
    have h5 := pow_gcd hq f (q - 1) h3 h4
    rw [hf.cop hd, Nat.pow_one] at h5
    have h6 : b % q = 1 := by rw [← hb, Nat.mod_mod_of_dvd _ hqN, h5]
    have h7 : q ∣ b + (N - 1) := by
      apply Nat.dvd_of_mod_eq_zero
      obtain ⟨k, hk⟩ := hqN
      have h8 := Nat.div_add_mod b q
      rw [h6] at h8
      have hk0 : k ≠ 0 := fun e => by subst e; simp at hk; omega
      have h9 : b + (N - 1) = q * (b / q + k) := by rw [Nat.mul_add, ← hk]; omega
      rw [h9, Nat.mul_mod_right]
    have h8 : q ∣ Nat.gcd (b + (N - 1)) N := Nat.dvd_gcd h7 hqN
    rw [hg] at h8
    have := Nat.le_of_dvd (by decide) h8
    omega

/-- No prime factor below the root: a prime. -/
theorem prime_of_big {N F : Nat} (h2 : 2 ≤ N) (hF : N < (F + 1) * (F + 1)) (h : ∀ q, Pr q → q ∣ N → F ∣ q - 1) : Pr N := by
  refine ⟨h2, fun m hm => ?_⟩
  by_cases h1 : m = 1
  · exact .inl h1
  by_cases h3 : m = N
  · exact .inr h3
  exfalso
  obtain ⟨k, hk⟩ := hm
  have hm0 : m ≠ 0 := fun e => by subst e; simp at hk; omega
  have hk0 : k ≠ 0 := fun e => by subst e; simp at hk; omega
  have hk1 : k ≠ 1 := fun e => by subst e; simp at hk; omega
  have big : ∀ x, 2 ≤ x → x ∣ N → F + 1 ≤ x := by
    intro x hx hd
    obtain ⟨q, hq, hqx⟩ := exists_prime x hx
    have := h q hq (Nat.dvd_trans hqx hd)
    have q2 := hq.two
    have h4 := Nat.le_of_dvd (by omega) this
    have h5 := Nat.le_of_dvd (by omega) hqx
    omega
  have a1 := big m (by omega) ⟨k, hk⟩
  have a2 := big k (by omega) ⟨m, by rw [hk, Nat.mul_comm]⟩
  have := Nat.mul_le_mul a1 a2
  omega

/-- One factor. -/
theorem pock1 {N f r b : Nat} (hf : Pr f) (hN : N = f * r + 1) (hbig : N < (f + 1) * (f + 1)) (fu : Nat) (h0 : f * r < 2 ^ fu) (h1 : pm N fu 2 (f * r) = 1) (hr : r < 2 ^ fu) (hb : pm N fu 2 r = b) (hg : Nat.gcd (b + (N - 1)) N = 1) : Pr N := by
  rw [pm_eq _ _ _ _ h0] at h1
  rw [pm_eq _ _ _ _ hr] at hb
  refine prime_of_big ?_ hbig fun q hq hd => pock_step hf hN h1 hb hg hq hd
  have : f * r ≠ 0 := fun e => by rw [e] at h1 hN; subst hN; simp at h1
  omega

/-- Two factors. -/
theorem pock2 {N f f' r r' b b' : Nat} (hf : Pr f) (hf' : Pr f') (hne : Nat.gcd f f' = 1) (hN : N = f * r + 1) (hN' : N = f' * r' + 1) (hbig : N < (f * f' + 1) * (f * f' + 1)) (fu : Nat) (h0 : f * r < 2 ^ fu) (h1 : pm N fu 2 (f * r) = 1)
    (hr : r < 2 ^ fu) (hb : pm N fu 2 r = b) (hg : Nat.gcd (b + (N - 1)) N = 1) (hr' : r' < 2 ^ fu) (hb' : pm N fu 2 r' = b') (hg' : Nat.gcd (b' + (N - 1)) N = 1) : Pr N := by
  rw [pm_eq _ _ _ _ h0] at h1
  rw [pm_eq _ _ _ _ hr] at hb
  rw [pm_eq _ _ _ _ hr'] at hb'
  have h1' : 2 ^ (f' * r') % N = 1 := by
    have : f' * r' = f * r := by omega
    rw [this]; exact h1
  refine prime_of_big ?_ hbig fun q hq hd => Nat.Coprime.mul_dvd_of_dvd_of_dvd hne (pock_step hf hN h1 hb hg hq hd) (pock_step hf' hN' h1' hb' hg' hq hd)
  have : f * r ≠ 0 := fun e => by rw [e] at h1 hN; subst hN; simp at h1
  omega

/-- A small prime, by dividing. -/
theorem small_prime {n : Nat} (k : Nat) (h2 : 2 ≤ n) (hk : n < (k + 2) * (k + 2)) (h : (List.range k).all (fun i => n % (i + 2) != 0) = true) : Pr n := by
  rw [List.all_eq_true] at h
  have no : ∀ x, 2 ≤ x → x < k + 2 → ¬ x ∣ n := fun x hx hlt hd => by
    have := h (x - 2) (List.mem_range.2 (by omega))
    have e : x - 2 + 2 = x := by omega
    rw [e] at this
    have h0 := Nat.mod_eq_zero_of_dvd hd
    rw [h0] at this
    simp at this
  refine ⟨h2, fun m hm => ?_⟩
  by_cases h1 : m = 1
  · exact .inl h1
  by_cases h3 : m = n
  · exact .inr h3
  exfalso
  have hm' := hm
  obtain ⟨c, hc⟩ := hm
  have hm0 : m ≠ 0 := fun e => by subst e; simp at hc; omega
  have hc0 : c ≠ 0 := fun e => by subst e; simp at hc; omega
  have hc1 : c ≠ 1 := fun e => by subst e; simp at hc; omega
  have a1 : k + 2 ≤ m := by
    rcases Nat.lt_or_ge m (k + 2) with h | h
    · exact absurd hm' (no m (by omega) h)
    · exact h
  have a2 : k + 2 ≤ c := by
    rcases Nat.lt_or_ge c (k + 2) with h | h
    · exact absurd ⟨m, by rw [hc, Nat.mul_comm]⟩ (no c (by omega) h)
    · exact h
  have := Nat.mul_le_mul a1 a2
  omega
end Sx
