/- Plain number theory: Fermat's little theorem and the primality of Q = 2305843009213688669, by Pocklington's criterion. No program. -/
namespace Go.Proofs.Ytanheijppjpbjaa.Num

/-- A prime number. -/
def IsPrime (p : Nat) : Prop := 2 ≤ p ∧ ∀ d, d ∣ p → d = 1 ∨ d = p

theorem gcd_of {p a : Nat} (hp : IsPrime p) (h : ¬ p ∣ a) : Nat.gcd p a = 1 := by
  rcases hp.2 (Nat.gcd p a) (Nat.gcd_dvd_left p a) with h1 | h1
  · exact h1
  · exact absurd (h1 ▸ Nat.gcd_dvd_right p a) h

theorem euclid {p a b : Nat} (hp : IsPrime p) (h : p ∣ a * b) : p ∣ a ∨ p ∣ b := by
  by_cases ha : p ∣ a
  · exact .inl ha
  · exact .inr (Nat.Coprime.dvd_of_dvd_mul_left (gcd_of hp ha) h)

theorem not_dvd_one {p : Nat} (hp : IsPrime p) : ¬ p ∣ 1 := fun h => by
  have := Nat.le_of_dvd (by omega) h
  have := hp.1
  omega

theorem dvd_of_pow {p a : Nat} (hp : IsPrime p) : ∀ n, p ∣ a ^ n → p ∣ a
  | 0, h => absurd h (not_dvd_one hp)
  | n + 1, h => by
    rw [Nat.pow_succ] at h
    rcases euclid hp h with h | h
    · exact dvd_of_pow hp n h
    · exact h

/-- Binomial coefficients. -/
def ch : Nat → Nat → Nat
  | _, 0 => 1
  | 0, _ + 1 => 0
  | n + 1, k + 1 => ch n k + ch n (k + 1)

theorem ch_zero (n : Nat) : ch n 0 = 1 := by cases n <;> rfl

theorem ch_succ (n k : Nat) : ch (n + 1) (k + 1) = ch n k + ch n (k + 1) := rfl

theorem ch_big : ∀ n k, n < k → ch n k = 0
  | _, 0, h => by omega
  | 0, _ + 1, _ => rfl
  | n + 1, k + 1, h => by rw [ch_succ, ch_big n k (by omega), ch_big n (k + 1) (by omega)]

theorem ch_self : ∀ n, ch n n = 1
  | 0 => rfl
  | n + 1 => by rw [ch_succ, ch_self n, ch_big n (n + 1) (by omega)]

theorem ch_absorb : ∀ n k, (k + 1) * ch (n + 1) (k + 1) = (n + 1) * ch n k
  | 0, 0 => rfl
  | 0, k + 1 => by rw [ch_big (0 + 1) (k + 1 + 1) (by omega), ch_big 0 (k + 1) (by omega)]; simp
  | n + 1, 0 => by
    have h := ch_absorb n 0
    rw [ch_zero] at h
    rw [ch_succ, ch_zero]
    omega
  | n + 1, k + 1 => by
    have h1 := ch_absorb n (k + 1)
    have h2 := ch_absorb n k
    have e : ch (n + 1) (k + 1) = ch n k + ch n (k + 1) := rfl
    rw [ch_succ, Nat.mul_add, h1, Nat.add_mul (k + 1) 1, h2, Nat.one_mul]
    have e2 : (n + 1 + 1) * ch (n + 1) (k + 1) = (n + 1) * ch (n + 1) (k + 1) + ch (n + 1) (k + 1) := by rw [Nat.add_mul (n + 1) 1, Nat.one_mul]
    have e3 : (n + 1) * ch (n + 1) (k + 1) = (n + 1) * ch n k + (n + 1) * ch n (k + 1) := by rw [e, Nat.mul_add]
    omega

theorem dvd_ch {p : Nat} (hp : IsPrime p) {k : Nat} (h0 : 0 < k) (h : k < p) : p ∣ ch p k := by
  obtain ⟨j, rfl⟩ : ∃ j, k = j + 1 := ⟨k - 1, by omega⟩
  obtain ⟨q, rfl⟩ : ∃ q, p = q + 1 := ⟨p - 1, by omega⟩
  have e := ch_absorb q j
  have hd : q + 1 ∣ (j + 1) * ch (q + 1) (j + 1) := by rw [e]; exact Nat.dvd_mul_right _ _
  rcases euclid hp hd with hd | hd
  · have := Nat.le_of_dvd (by omega) hd
    omega
  · exact hd

/-- The sum of the first m terms of (a + 1)^n. -/
def bs (a n : Nat) : Nat → Nat
  | 0 => 0
  | m + 1 => bs a n m + ch n m * a ^ m

theorem bs_succ (a n m : Nat) : bs a n (m + 1) = bs a n m + ch n m * a ^ m := rfl

theorem bs_step (a n : Nat) : ∀ m, bs a (n + 1) (m + 1) = a * bs a n m + bs a n (m + 1)
  | 0 => by simp [bs, ch_zero]
  | m + 1 => by
    rw [bs_succ a (n + 1) (m + 1), bs_step a n m, bs_succ a n (m + 1), bs_succ a n m, ch_succ, Nat.mul_add, Nat.add_mul]
    have e : a * (ch n m * a ^ m) = ch n m * a ^ (m + 1) := by rw [Nat.pow_succ, Nat.mul_left_comm, Nat.mul_comm a]
    omega

theorem binomial (a : Nat) : ∀ n, (a + 1) ^ n = bs a n (n + 1)
  | 0 => by simp [bs, ch]
  | n + 1 => by
    have e : bs a n (n + 1 + 1) = bs a n (n + 1) := by rw [bs_succ, ch_big n (n + 1) (by omega)]; simp
    rw [bs_step, e, Nat.pow_succ, binomial a n, Nat.mul_add, Nat.mul_one, Nat.mul_comm]

theorem bs_mod {p : Nat} (hp : IsPrime p) (a : Nat) : ∀ m, m + 1 ≤ p → bs a p (m + 1) % p = 1 % p
  | 0, _ => by simp [bs, ch_zero]
  | m + 1, h => by
    obtain ⟨c, hc⟩ := dvd_ch hp (k := m + 1) (by omega) (by omega)
    rw [bs_succ, hc, Nat.mul_assoc, Nat.add_mul_mod_self_left]
    exact bs_mod hp a m (by omega)

theorem fermat {p : Nat} (hp : IsPrime p) : ∀ a, a ^ p % p = a % p
  | 0 => by rw [Nat.zero_pow (by have := hp.1; omega)]
  | a + 1 => by
    have h := bs_mod hp a (p - 1) (by have := hp.1; omega)
    rw [Nat.sub_add_cancel (by have := hp.1; omega)] at h
    rw [binomial, bs_succ, ch_self, Nat.one_mul, Nat.add_mod, h, fermat hp a, ← Nat.add_mod, Nat.add_comm]

theorem mod_cancel {p a x y : Nat} (hp : IsPrime p) (ha : ¬ p ∣ a) (h : a * x % p = a * y % p) : x % p = y % p := by
  rcases Nat.le_total y x with hxy | hxy
  · have h1 := Nat.sub_mod_eq_zero_of_mod_eq h
    rw [← Nat.mul_sub] at h1
    rcases euclid hp (Nat.dvd_of_mod_eq_zero h1) with h2 | h2
    · exact absurd h2 ha
    · obtain ⟨c, hc⟩ := h2
      have : x = y + p * c := by omega
      rw [this, Nat.add_mul_mod_self_left]
  · have h1 := Nat.sub_mod_eq_zero_of_mod_eq h.symm
    rw [← Nat.mul_sub] at h1
    rcases euclid hp (Nat.dvd_of_mod_eq_zero h1) with h2 | h2
    · exact absurd h2 ha
    · obtain ⟨c, hc⟩ := h2
      have : y = x + p * c := by omega
      rw [this, Nat.add_mul_mod_self_left]

theorem fermat_one {p a : Nat} (hp : IsPrime p) (ha : ¬ p ∣ a) : a ^ (p - 1) % p = 1 % p := by
  refine mod_cancel hp ha ?_
  have e : a * a ^ (p - 1) = a ^ p := by
    rw [Nat.mul_comm, ← Nat.pow_succ]
    congr 1
    have := hp.1
    omega
  rw [e, Nat.mul_one]
  exact fermat hp a

theorem pow_mod_one {p a m : Nat} (h : a ^ m % p = 1 % p) (k : Nat) : a ^ (m * k) % p = 1 % p := by
  rw [Nat.pow_mul, Nat.pow_mod, h, ← Nat.pow_mod, Nat.one_pow]

/-- Where two powers are 1, so is the power at the greatest common divisor. -/
theorem gcd_pow {p a : Nat} (hp : IsPrime p) (ha : ¬ p ∣ a) (m n : Nat) : a ^ m % p = 1 % p → a ^ n % p = 1 % p → a ^ Nat.gcd m n % p = 1 % p := by
  induction m, n using Nat.gcd.induction with
  | H0 n => intro _ h; rw [Nat.gcd_zero_left]; exact h
  | H1 m n hm ih =>
    intro h1 h2
    rw [Nat.gcd_rec]
    refine ih ?_ h1
    have h3 := pow_mod_one h1 (n / m)
    refine mod_cancel hp (a := a ^ (m * (n / m))) (fun h => ha (dvd_of_pow hp _ h)) ?_
    rw [← Nat.pow_add, Nat.div_add_mod, h2, Nat.mul_one, h3]

theorem exists_prime : ∀ (f n : Nat), n < f → 2 ≤ n → ∃ q, IsPrime q ∧ q ∣ n
  | 0, _, h, _ => by omega
  | f + 1, n, h, h2 => by
    by_cases hp : IsPrime n
    · exact ⟨n, hp, Nat.dvd_refl n⟩
    · have : ∃ d, d ∣ n ∧ d ≠ 1 ∧ d ≠ n := by
        refine Classical.byContradiction fun hn => hp ⟨h2, fun d hd => ?_⟩
        by_cases h1 : d = 1
        · exact .inl h1
        · exact .inr (Classical.byContradiction fun h3 => hn ⟨d, hd, h1, h3⟩)
      obtain ⟨d, hd, h1, h3⟩ := this
      have hle := Nat.le_of_dvd (by omega) hd
      have h0 : d ≠ 0 := fun e => by subst e; rw [Nat.zero_dvd] at hd; omega
      obtain ⟨q, hq, hqd⟩ := exists_prime f d (by omega) (by omega)
      exact ⟨q, hq, Nat.dvd_trans hqd hd⟩

theorem small_prime {n : Nat} (h2 : 2 ≤ n) (hn : ¬ IsPrime n) : ∃ q, IsPrime q ∧ q ∣ n ∧ q * q ≤ n := by
  have : ∃ d, d ∣ n ∧ d ≠ 1 ∧ d ≠ n := by
    refine Classical.byContradiction fun hh => hn ⟨h2, fun d hd => ?_⟩
    by_cases h1 : d = 1
    · exact .inl h1
    · exact .inr (Classical.byContradiction fun h3 => hh ⟨d, hd, h1, h3⟩)
  obtain ⟨d, ⟨e, he⟩, h1, h3⟩ := this
  have d0 : d ≠ 0 := fun h => by subst h; omega
  have e0 : e ≠ 0 := fun h => by subst h; omega
  have e1 : e ≠ 1 := fun h => by subst h; omega
  rcases Nat.le_total d e with hde | hde
  · obtain ⟨q, hq, hqd⟩ := exists_prime (d + 1) d (by omega) (by omega)
    refine ⟨q, hq, Nat.dvd_trans hqd ⟨e, he⟩, ?_⟩
    have := Nat.le_of_dvd (by omega) hqd
    rw [he]
    exact Nat.mul_le_mul this (by omega)
  · obtain ⟨q, hq, hqd⟩ := exists_prime (e + 1) e (by omega) (by omega)
    refine ⟨q, hq, Nat.dvd_trans hqd ⟨d, by rw [he, Nat.mul_comm]⟩, ?_⟩
    have := Nat.le_of_dvd (by omega) hqd
    rw [he]
    exact Nat.mul_le_mul (by omega) this

/-- Pocklington's criterion with one great prime divisor p of n - 1 = p * c. -/
theorem pocklington {n p c a : Nat} (h2 : 2 ≤ n) (hp : IsPrime p) (hn : n - 1 = p * c) (hbig : n < p * p) (h1 : a ^ (p * c) % n = 1) (hg : Nat.gcd (a ^ c % n + (n - 1)) n = 1) : IsPrime n := by
  refine Classical.byContradiction fun hnp => ?_
  obtain ⟨q, hq, hqn, hqq⟩ := small_prime h2 hnp
  have hqp : q < p := by
    rcases Nat.lt_or_ge q p with h | h
    · exact h
    · have := Nat.mul_le_mul h h
      omega
  have hred : ∀ x, x % n % q = x % q := fun x => Nat.mod_mod_of_dvd x hqn
  have hone : a ^ (p * c) % q = 1 % q := by rw [← hred, h1]
  have hqa : ¬ q ∣ a := by
    intro h
    have h0 : a ^ (p * c) % q = 0 := by
      refine Nat.mod_eq_zero_of_dvd (Nat.dvd_trans h ?_)
      refine Nat.dvd_trans ?_ (Nat.pow_dvd_pow a (show 1 ≤ p * c by omega))
      rw [Nat.pow_one]
      exact Nat.dvd_refl a
    rw [h0, Nat.mod_eq_of_lt (by have := hq.1; omega)] at hone
    omega
  have hqb : ¬ q ∣ a ^ c := fun h => hqa (dvd_of_pow hq _ h)
  have hb1 : (a ^ c) ^ p % q = 1 % q := by rw [← Nat.pow_mul, Nat.mul_comm]; exact hone
  have hb2 : (a ^ c) ^ (q - 1) % q = 1 % q := fermat_one hq hqb
  have hgcd : Nat.gcd p (q - 1) = 1 := by
    refine gcd_of hp fun h => ?_
    have := Nat.le_of_dvd (by have := hq.1; omega) h
    omega
  have hb := gcd_pow hq hqb p (q - 1) hb1 hb2
  rw [hgcd, Nat.pow_one] at hb
  have hd : q ∣ a ^ c % n + (n - 1) := by
    refine Nat.dvd_of_mod_eq_zero ?_
    obtain ⟨m, hm⟩ := hqn
    rw [Nat.add_mod, hred, hb, ← Nat.add_mod, show 1 + (n - 1) = q * m by omega, Nat.mul_mod_right]
  have := Nat.dvd_gcd hd hqn
  rw [hg] at this
  exact not_dvd_one hq this

/-- A power modulo n, by squaring. -/
def pm (n : Nat) : Nat → Nat → Nat → Nat
  | 0, _, _ => 1 % n
  | f + 1, a, e => if e % 2 = 1 then a * pm n f (a * a % n) (e / 2) % n else pm n f (a * a % n) (e / 2) % n

theorem pm_eq (n : Nat) : ∀ f a e, e < 2 ^ f → pm n f a e = a ^ e % n
  | 0, a, e, h => by
    have : e = 0 := by simpa using h
    subst this
    rfl
  | f + 1, a, e, h => by
    have h' : e / 2 < 2 ^ f := by rw [Nat.pow_succ] at h; omega
    have hh : (a * a % n) ^ (e / 2) % n = a ^ (2 * (e / 2)) % n := by rw [← Nat.pow_mod, Nat.pow_mul, Nat.pow_two]
    unfold pm
    rw [pm_eq n f _ _ h', hh, Nat.mod_mod]
    split
    · have : e = 2 * (e / 2) + 1 := by omega
      conv => rhs; rw [this, Nat.pow_succ, Nat.mul_comm]
      rw [Nat.mul_mod a (_ % n), Nat.mod_mod, ← Nat.mul_mod]
    · have : e = 2 * (e / 2) := by omega
      conv => rhs; rw [this]

theorem prime_by {n p c a f : Nat} (hp : IsPrime p) (h2 : 2 ≤ n) (hn : n - 1 = p * c) (hbig : n < p * p) (hf : p * c < 2 ^ f) (hc : c < 2 ^ f) (h1 : pm n f a (p * c) = 1) (hg : Nat.gcd (pm n f a c + (n - 1)) n = 1) : IsPrime n := by
  refine pocklington h2 hp hn hbig ?_ ?_ (a := a)
  · rw [← pm_eq n f a _ hf]; exact h1
  · rw [← pm_eq n f a _ hc]; exact hg

theorem small_by {n : Nat} (h2 : 2 ≤ n) (h : ∀ d, d < n + 1 → n % d = 0 → d = 1 ∨ d = n) : IsPrime n :=
  ⟨h2, fun d hd => h d (by have := Nat.le_of_dvd (by omega) hd; omega) (Nat.mod_eq_zero_of_dvd hd)⟩

theorem p821 : IsPrime 821 := small_by (by decide) (by decide +kernel)
theorem p172411 : IsPrime 172411 := prime_by p821 (c := 210) (a := 2) (f := 62) (by decide) (by decide) (by decide) (by decide) (by decide) (by decide +kernel) (by decide +kernel)
theorem p7930907 : IsPrime 7930907 := prime_by p172411 (c := 46) (a := 2) (f := 62) (by decide) (by decide) (by decide) (by decide) (by decide) (by decide +kernel) (by decide +kernel)
theorem p11864636873 : IsPrime 11864636873 := prime_by p7930907 (c := 1496) (a := 2) (f := 62) (by decide) (by decide) (by decide) (by decide) (by decide) (by decide +kernel) (by decide +kernel)
theorem p1732236983459 : IsPrime 1732236983459 := prime_by p11864636873 (c := 146) (a := 2) (f := 62) (by decide) (by decide) (by decide) (by decide) (by decide) (by decide +kernel) (by decide +kernel)
theorem p249442125618097 : IsPrime 249442125618097 := prime_by p1732236983459 (c := 144) (a := 2) (f := 62) (by decide) (by decide) (by decide) (by decide) (by decide) (by decide +kernel) (by decide +kernel)
theorem prime_q : IsPrime 2305843009213688669 := prime_by p249442125618097 (c := 9244) (a := 2) (f := 62) (by decide) (by decide) (by decide) (by decide) (by decide) (by decide +kernel) (by decide +kernel)

/-- Fermat's little theorem below a prime number. -/
theorem fermat_q {a q : Nat} (hq : IsPrime q) (h0 : 0 < a) (h : a < q) : a ^ (q - 1) % q = 1 := by
  have h1 := fermat_one hq (a := a) fun hd => by
    have := Nat.le_of_dvd h0 hd
    omega
  rw [h1, Nat.mod_eq_of_lt (by have := hq.1; omega)]

end Go.Proofs.Ytanheijppjpbjaa.Num
