/- Plain number theory, with no program in sight: primes, Fermat's little theorem, Pocklington's test, and that 2^255 - 19 is a prime. No condition. -/
import Derived.RowKit
namespace Go.Proofs.YtemkpihfenokmaaDoor
namespace Nt

/-- A prime. -/
def Pr (p : Nat) : Prop := 2 ≤ p ∧ ∀ d, d ∣ p → d = 1 ∨ d = p

theorem Pr.cop {p a : Nat} (h : Pr p) (ha : ¬ p ∣ a) : Nat.Coprime p a := by
  rcases h.2 _ (Nat.gcd_dvd_left p a) with e | e
  · exact e
  · exact absurd (e ▸ Nat.gcd_dvd_right p a) ha

theorem Pr.dvd_mul {p a b : Nat} (h : Pr p) (hd : p ∣ a * b) : p ∣ a ∨ p ∣ b := by
  by_cases ha : p ∣ a
  · exact Or.inl ha
  · exact Or.inr (Nat.Coprime.dvd_of_dvd_mul_left (h.cop ha) hd)

theorem Pr.dvd_pow {p a : Nat} (h : Pr p) : ∀ n, p ∣ a ^ n → p ∣ a
  | 0, hd => by
    rw [Nat.pow_zero] at hd
    have := Nat.le_of_dvd (by omega) hd
    have := h.1
    omega
  | n + 1, hd => by
    rw [Nat.pow_succ] at hd
    rcases h.dvd_mul hd with e | e
    · exact h.dvd_pow n e
    · exact e

theorem least_factor (n : Nat) (hn : 2 ≤ n) : ∀ k, (∃ d, 2 ≤ d ∧ d ≤ k ∧ d ∣ n) → ∃ r, 2 ≤ r ∧ r ∣ n ∧ ∀ d, 2 ≤ d → d ∣ n → r ≤ d
  | 0, h => by obtain ⟨d, h1, h2, _⟩ := h; omega
  | k + 1, h => by
    by_cases hk : ∃ d, 2 ≤ d ∧ d ≤ k ∧ d ∣ n
    · exact least_factor n hn k hk
    · obtain ⟨d, h1, h2, h3⟩ := h
      refine ⟨d, h1, h3, fun e he1 he2 => ?_⟩
      rcases Nat.lt_or_ge e d with hlt | hge
      · exact absurd ⟨e, he1, by omega, he2⟩ hk
      · exact hge

theorem factor_prime {n r : Nat} (h1 : 2 ≤ r) (h2 : r ∣ n) (h3 : ∀ d, 2 ≤ d → d ∣ n → r ≤ d) : Pr r := by
  refine ⟨h1, fun d hd => ?_⟩
  have hpos : 0 < d := Nat.pos_of_dvd_of_pos hd (by omega)
  have hle := Nat.le_of_dvd (by omega) hd
  by_cases hd1 : d = 1
  · exact Or.inl hd1
  · exact Or.inr (Nat.le_antisymm hle (h3 d (by omega) (Nat.dvd_trans hd h2)))

/-- A number that is no prime has a prime factor whose square is not above it. -/
theorem small_factor {n : Nat} (hn : 2 ≤ n) (h : ¬ Pr n) : ∃ r, Pr r ∧ r ∣ n ∧ r * r ≤ n := by
  obtain ⟨r, h1, h2, h3⟩ := least_factor n hn n ⟨n, hn, Nat.le_refl _, Nat.dvd_refl _⟩
  have hp := factor_prime h1 h2 h3
  refine ⟨r, hp, h2, ?_⟩
  obtain ⟨c, hc⟩ := h2
  have hc2 : 2 ≤ c := by
    rcases Nat.lt_or_ge c 2 with hlt | hge
    · have : c = 0 ∨ c = 1 := by omega
      rcases this with rfl | rfl
      · omega
      · rw [Nat.mul_one] at hc; subst hc; exact absurd hp h
    · exact hge
  have := h3 c hc2 ⟨r, by rw [hc, Nat.mul_comm]⟩
  calc r * r ≤ r * c := Nat.mul_le_mul_left r this
    _ = n := hc.symm

/-! ### Binomials, Fermat -/
def ch : Nat → Nat → Nat
  | _, 0 => 1
  | 0, _ + 1 => 0
  | n + 1, k + 1 => ch n k + ch n (k + 1)

theorem ch_zero (n : Nat) : ch n 0 = 1 := by cases n <;> rfl
theorem ch_succ (n k : Nat) : ch (n + 1) (k + 1) = ch n k + ch n (k + 1) := rfl

theorem ch_above : ∀ n k, n < k → ch n k = 0
  | _, 0, h => by omega
  | 0, k + 1, _ => rfl
  | n + 1, k + 1, h => by rw [ch_succ, ch_above n k (by omega), ch_above n (k + 1) (by omega)]

theorem ch_self : ∀ n, ch n n = 1
  | 0 => rfl
  | n + 1 => by rw [ch_succ, ch_self n, ch_above n (n + 1) (by omega)]

theorem ch_absorb : ∀ n k, (k + 1) * ch (n + 1) (k + 1) = (n + 1) * ch n k
  | 0, 0 => rfl
  | 0, k + 1 => by simp [ch]
  | n + 1, 0 => by
    have := ch_absorb n 0
    rw [ch_zero] at this
    rw [ch_succ, ch_zero]
    simp at *; omega
  | n + 1, k + 1 => by
    have h1 := ch_absorb n k
    have h2 := ch_absorb n (k + 1)
    have h3 : ch (n + 1) (k + 1) = ch n k + ch n (k + 1) := rfl
    rw [ch_succ (n + 1) (k + 1)]
    grind

def bs (a n : Nat) : Nat → Nat
  | 0 => 0
  | m + 1 => bs a n m + ch n m * a ^ m

theorem bs_succ (a n : Nat) : ∀ m, bs a (n + 1) (m + 1) = bs a n (m + 1) + a * bs a n m
  | 0 => by simp [bs, ch_zero]
  | m + 1 => by
    have h := bs_succ a n m
    have e1 : bs a (n + 1) (m + 1 + 1) = bs a (n + 1) (m + 1) + ch (n + 1) (m + 1) * a ^ (m + 1) := rfl
    have e2 : bs a n (m + 1 + 1) = bs a n (m + 1) + ch n (m + 1) * a ^ (m + 1) := rfl
    have e3 : bs a n (m + 1) = bs a n m + ch n m * a ^ m := rfl
    have e4 : a * (ch n m * a ^ m) = ch n m * a ^ (m + 1) := by rw [Nat.pow_succ]; grind
    rw [e1, e2, h, ch_succ, Nat.add_mul]
    have e5 : a * bs a n (m + 1) = a * bs a n m + ch n m * a ^ (m + 1) := by rw [e3, Nat.mul_add, e4]
    omega

theorem binom (a : Nat) : ∀ n, (a + 1) ^ n = bs a n (n + 1)
  | 0 => by simp [bs, ch]
  | n + 1 => by
    rw [Nat.pow_succ, binom a n, bs_succ]
    have e : bs a n (n + 1 + 1) = bs a n (n + 1) := by
      show bs a n (n + 1) + ch n (n + 1) * _ = _
      rw [ch_above n (n + 1) (by omega)]; simp
    rw [e]; grind

theorem ch_dvd {p : Nat} (h : Pr p) (k : Nat) (h1 : 1 ≤ k) (h2 : k < p) : p ∣ ch p k := by
  obtain ⟨n, rfl⟩ : ∃ n, p = n + 1 := ⟨p - 1, by have := h.1; omega⟩
  obtain ⟨j, rfl⟩ : ∃ j, k = j + 1 := ⟨k - 1, by omega⟩
  have e := ch_absorb n j
  have hd : n + 1 ∣ (j + 1) * ch (n + 1) (j + 1) := ⟨ch n j, e⟩
  rcases h.dvd_mul hd with h3 | h3
  · have := Nat.le_of_dvd (by omega) h3; omega
  · exact h3

theorem bs_mod {p : Nat} (h : Pr p) (a : Nat) : ∀ m, m + 1 ≤ p → bs a p (m + 1) % p = 1 % p
  | 0, _ => by simp [bs, ch_zero]
  | m + 1, hm => by
    show (bs a p (m + 1) + ch p (m + 1) * a ^ (m + 1)) % p = _
    obtain ⟨c, hc⟩ := ch_dvd h (m + 1) (by omega) (by omega)
    rw [hc, Nat.mul_assoc, Nat.add_mul_mod_self_left]
    exact bs_mod h a m (by omega)

/-- Fermat's little theorem. -/
theorem fermat {p : Nat} (h : Pr p) : ∀ a, a ^ p % p = a % p
  | 0 => by rw [Nat.zero_pow (by have := h.1; omega)]
  | a + 1 => by
    have hp := h.1
    have e1 : (a + 1) ^ p = bs a p p + a ^ p := by
      rw [binom a p]
      show bs a p p + ch p p * a ^ p = _
      rw [ch_self, Nat.one_mul]
    have e2 : bs a p p % p = 1 % p := by
      obtain ⟨m, rfl⟩ : ∃ m, p = m + 1 := ⟨p - 1, by omega⟩
      exact bs_mod h a m (Nat.le_refl _)
    rw [e1, Nat.add_mod, e2, fermat h a, ← Nat.add_mod, Nat.add_comm]

theorem mul_cancel {p : Nat} (h : Pr p) {b x y : Nat} (hb : ¬ p ∣ b) (he : b * x % p = b * y % p) : x % p = y % p := by
  have key : ∀ x y : Nat, x ≤ y → b * x % p = b * y % p → x % p = y % p := by
    intro x y hxy he
    have hd : p ∣ b * y - b * x := Nat.dvd_of_mod_eq_zero (Nat.sub_mod_eq_zero_of_mod_eq he.symm)
    rw [← Nat.mul_sub] at hd
    rcases h.dvd_mul hd with h1 | h1
    · exact absurd h1 hb
    · obtain ⟨c, hc⟩ := h1
      have : y = x + p * c := by omega
      rw [this, Nat.add_mul_mod_self_left]
  rcases Nat.le_total x y with hxy | hxy
  · exact key x y hxy he
  · exact (key y x hxy he.symm).symm

theorem fermat' {p : Nat} (h : Pr p) {a : Nat} (ha : ¬ p ∣ a) : a ^ (p - 1) % p = 1 % p := by
  have h1 := fermat h a
  have e : a ^ p = a * a ^ (p - 1) := by
    obtain ⟨m, rfl⟩ : ∃ m, p = m + 1 := ⟨p - 1, by have := h.1; omega⟩
    rw [Nat.pow_succ, Nat.mul_comm]; rfl
  rw [e] at h1
  exact mul_cancel h ha (by rw [h1, Nat.mul_one])

/-! ### Powers that are 1 -/
theorem pow_mod_one {r b m : Nat} (h : b ^ m % r = 1 % r) (k : Nat) : b ^ (m * k) % r = 1 % r := by
  rw [Nat.pow_mul, Nat.pow_mod, h, ← Nat.pow_mod, Nat.one_pow]

theorem pow_gcd {r b : Nat} (m n : Nat) : b ^ m % r = 1 % r → b ^ n % r = 1 % r → b ^ (Nat.gcd m n) % r = 1 % r := by
  induction m, n using Nat.gcd.induction with
  | H0 n => intro _ h; rw [Nat.gcd_zero_left]; exact h
  | H1 m n hm ih =>
    intro h1 h2
    rw [Nat.gcd_rec]
    refine ih ?_ h1
    have e : b ^ n = b ^ (m * (n / m)) * b ^ (n % m) := by rw [← Nat.pow_add, Nat.div_add_mod]
    rw [e, Nat.mul_mod, pow_mod_one h1, ← Nat.mul_mod, Nat.one_mul] at h2
    exact h2

/-- Pocklington's step: a prime factor r of n is 1 modulo q. -/
theorem pock (n q R a r : Nat) (hq : Pr q) (hn : n = q * R + 1) (h1 : a ^ (n - 1) % n = 1) (hg : Nat.gcd (a ^ R % n + (n - 1)) n = 1) (hr : Pr r) (hd : r ∣ n) : q ∣ r - 1 := by
  have hr2 := hr.1
  have hmod : ∀ x, x % n % r = x % r := fun x => Nat.mod_mod_of_dvd x hd
  have hn2 : 2 ≤ n := Nat.le_trans hr2 (Nat.le_of_dvd (by omega) hd)
  have hbq : (a ^ R) ^ q % r = 1 % r := by
    rw [← Nat.pow_mul, Nat.mul_comm R q]
    have : q * R = n - 1 := by omega
    rw [this, ← hmod, h1]
  have hb1 : ¬ a ^ R % r = 1 % r := by
    intro he
    have : r ∣ a ^ R % n + (n - 1) := by
      apply Nat.dvd_of_mod_eq_zero
      rw [Nat.add_mod, hmod, he, ← Nat.add_mod]
      have : 1 + (n - 1) = n := by omega
      rw [this]; exact Nat.mod_eq_zero_of_dvd hd
    have := Nat.dvd_gcd this hd
    rw [hg] at this
    have := Nat.le_of_dvd (by omega) this
    omega
  have hrb : ¬ r ∣ a ^ R := by
    intro he
    have hq2 := hq.1
    have : r ∣ (a ^ R) ^ q := Nat.dvd_trans he (by have := Nat.pow_dvd_pow (a ^ R) (show 1 ≤ q by omega); rwa [Nat.pow_one] at this)
    have e := Nat.mod_eq_zero_of_dvd this
    rw [hbq, Nat.mod_eq_of_lt (by omega)] at e
    omega
  have hf := fermat' hr hrb
  by_cases hqr : q ∣ r - 1
  · exact hqr
  · have hc : Nat.gcd q (r - 1) = 1 := hq.cop hqr
    have := pow_gcd q (r - 1) hbq hf
    rw [hc, Nat.pow_one] at this
    exact absurd this hb1

/-- The power modulo n, by squaring. -/
def pm : Nat → Nat → Nat → Nat → Nat
  | 0, _, _, n => 1 % n
  | f + 1, a, e, n => if e % 2 = 1 then pm f (a * a % n) (e / 2) n * a % n else pm f (a * a % n) (e / 2) n

theorem pm_eq (n : Nat) : ∀ f a e, e < 2 ^ f → pm f a e n = a ^ e % n
  | 0, a, e, h => by
    have : e = 0 := by simpa using h
    subst this; rfl
  | f + 1, a, e, h => by
    have h2 : e / 2 < 2 ^ f := by rw [Nat.pow_succ] at h; omega
    have ih := pm_eq n f (a * a % n) (e / 2) h2
    have e1 : (a * a % n) ^ (e / 2) % n = a ^ (2 * (e / 2)) % n := by
      rw [← Nat.pow_mod, Nat.pow_mul, Nat.pow_two]
    simp only [pm]
    split
    · rename_i ho
      rw [ih, e1, Nat.mod_mul_mod, ← Nat.pow_succ]
      have : 2 * (e / 2) + 1 = e := by omega
      show a ^ (2 * (e / 2) + 1) % n = _
      rw [this]
    · rename_i ho
      rw [ih, e1]
      have : 2 * (e / 2) = e := by omega
      rw [this]

/-- No divisor from k on, f numbers. -/
def noDiv (n : Nat) : Nat → Nat → Bool
  | 0, _ => true
  | f + 1, k => n % k != 0 && noDiv n f (k + 1)

theorem noDiv_spec (n : Nat) : ∀ f k, noDiv n f k = true → ∀ d, k ≤ d → d < k + f → ¬ d ∣ n
  | 0, _, _, d, h1, h2 => by omega
  | f + 1, k, h, d, h1, h2 => by
    simp only [noDiv, Bool.and_eq_true, bne_iff_ne] at h
    by_cases e : d = k
    · subst e; exact fun hd => h.1 (Nat.mod_eq_zero_of_dvd hd)
    · exact noDiv_spec n f (k + 1) h.2 d (by omega) (by omega)

/-- A small prime, by trial. -/
theorem trial (n s : Nat) (hn : 2 ≤ n) (hs : n < (s + 2) * (s + 2)) (h : noDiv n s 2 = true) : Pr n := by
  refine Classical.byContradiction fun hp => ?_
  obtain ⟨r, h1, h2, h3⟩ := small_factor hn hp
  have hr : r < s + 2 := by
    rcases Nat.lt_or_ge r (s + 2) with hlt | hge
    · exact hlt
    · have := Nat.mul_le_mul hge hge; omega
  exact noDiv_spec n s 2 h r h1.1 (by omega) h2

/-- Pocklington with one prime beyond the root. -/
theorem pock1 (n q R a f : Nat) (hq : Pr q) (hn : n = q * R + 1) (h2 : 2 ≤ n) (hs : n < q * q) (hf : n < 2 ^ f) (h1 : pm f a (n - 1) n = 1) (hg : Nat.gcd (pm f a R n + (n - 1)) n = 1) : Pr n := by
  have hR : R < 2 ^ f := by
    have := Nat.mul_le_mul_right R (show 1 ≤ q by have := hq.1; omega)
    omega
  rw [pm_eq _ _ _ _ (by omega)] at h1
  rw [pm_eq _ _ _ _ hR] at hg
  refine Classical.byContradiction fun hp => ?_
  obtain ⟨r, hr, hd, hs'⟩ := small_factor h2 hp
  have hd1 := pock n q R a r hq hn h1 hg hr hd
  have := hr.1
  have hle := Nat.le_of_dvd (by omega) hd1
  have := Nat.mul_le_mul (by omega : q ≤ r) (by omega : q ≤ r)
  omega

/-- Pocklington with two primes. -/
theorem pock2 (n q R q' R' a f : Nat) (hq : Pr q) (hq' : Pr q') (hne : q ≠ q') (hn : n = q * R + 1) (hn' : n = q' * R' + 1) (h2 : 2 ≤ n) (hs : n < (q * q') * (q * q')) (hf : n < 2 ^ f) (h1 : pm f a (n - 1) n = 1)
    (hg : Nat.gcd (pm f a R n + (n - 1)) n = 1) (hg' : Nat.gcd (pm f a R' n + (n - 1)) n = 1) : Pr n := by
  have hR : R < 2 ^ f := by
    have := Nat.mul_le_mul_right R (show 1 ≤ q by have := hq.1; omega)
    omega
  have hR' : R' < 2 ^ f := by
    have := Nat.mul_le_mul_right R' (show 1 ≤ q' by have := hq'.1; omega)
    omega
  rw [pm_eq _ _ _ _ (by omega)] at h1
  rw [pm_eq _ _ _ _ hR] at hg
  rw [pm_eq _ _ _ _ hR'] at hg'
  refine Classical.byContradiction fun hp => ?_
  obtain ⟨r, hr, hd, hs'⟩ := small_factor h2 hp
  have hd1 := pock n q R a r hq hn h1 hg hr hd
  have hd2 := pock n q' R' a r hq' hn' h1 hg' hr hd
  have hc : Nat.Coprime q q' := hq.cop (fun h => by
    rcases hq'.2 _ h with e | e
    · have := hq.1; omega
    · exact hne e)
  have hd3 := Nat.Coprime.mul_dvd_of_dvd_of_dvd hc hd1 hd2
  have := hr.1
  have hle := Nat.le_of_dvd (by omega) hd3
  have := Nat.mul_le_mul (by omega : q * q' ≤ r) (by omega : q * q' ≤ r)
  omega

end Nt
end Go.Proofs.YtemkpihfenokmaaDoor
