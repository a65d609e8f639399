/- Plain number theory: 2^255 - 19 is a prime; the field of that many numbers: Fermat, inverses, no divisors of 0. No condition. -/
import Derived.Test.YtemkpihfenokmaaDoorNt
namespace Go.Proofs.YtemkpihfenokmaaDoor
namespace Nt
set_option maxRecDepth 20000
set_option exponentiation.threshold 2000

theorem pr8574133 : Pr 8574133 := trial 8574133 2928 (by decide) (by decide) (by decide +kernel)
theorem pr7 : Pr 7 := trial 7 2 (by decide) (by decide) (by decide +kernel)
theorem pr1919519569386763 : Pr 1919519569386763 :=
  pock2 1919519569386763 8574133 223873314 7 274217081340966 2 51 pr8574133 pr7 (by decide) (by decide) (by decide) (by decide) (by decide) (by decide) (by decide +kernel) (by decide +kernel) (by decide +kernel)
theorem pr75707 : Pr 75707 := trial 75707 275 (by decide) (by decide) (by decide +kernel)
theorem pr75445702479781427272750846543864801 : Pr 75445702479781427272750846543864801 :=
  pock2 75445702479781427272750846543864801 1919519569386763 39304471641247389600 75707 996548568557483816196003626400 2 116 pr1919519569386763 pr75707 (by decide) (by decide) (by decide) (by decide) (by decide) (by decide) (by decide +kernel) (by decide +kernel) (by decide +kernel)
theorem pr353 : Pr 353 := trial 353 18 (by decide) (by decide) (by decide +kernel)
theorem pr74058212732561358302231226437062788676166966415465897661863160754340907 : Pr 74058212732561358302231226437062788676166966415465897661863160754340907 :=
  pock2 74058212732561358302231226437062788676166966415465897661863160754340907 75445702479781427272750846543864801 981609426360740691344999861639072106 353 209796636636151156663544550813209033076960244803019540118592523383402 2 236 pr75445702479781427272750846543864801 pr353 (by decide) (by decide) (by decide) (by decide) (by decide) (by decide) (by decide +kernel) (by decide +kernel) (by decide +kernel)
theorem pr57896044618658097711785492504343953926634992332820282019728792003956564819949 : Pr 57896044618658097711785492504343953926634992332820282019728792003956564819949 :=
  pock1 57896044618658097711785492504343953926634992332820282019728792003956564819949 74058212732561358302231226437062788676166966415465897661863160754340907 781764 2 255 pr74058212732561358302231226437062788676166966415465897661863160754340907 (by decide) (by decide) (by decide) (by decide) (by decide +kernel) (by decide +kernel)

/-- 2^255 - 19. -/
def P : Nat := 57896044618658097711785492504343953926634992332820282019728792003956564819949
theorem P_eq : P = 2 ^ 255 - 19 := by decide
theorem P_prime : Pr P := pr57896044618658097711785492504343953926634992332820282019728792003956564819949
theorem P_pos : 0 < P := by decide
instance : NeZero P := ⟨by decide⟩

/-- The numbers modulo 2^255 - 19. -/
abbrev F := Fin P

theorem F.ext {a b : F} (h : a.val = b.val) : a = b := Fin.ext h
theorem val_add (a b : F) : (a + b).val = (a.val + b.val) % P := Fin.val_add a b
theorem val_mul (a b : F) : (a * b).val = (a.val * b.val) % P := Fin.val_mul a b
theorem val_one : (1 : F).val = 1 := by decide
theorem val_zero : (0 : F).val = 0 := rfl
theorem val_lt (a : F) : a.val < P := a.isLt
theorem pow_succ (a : F) (n : Nat) : a ^ (n + 1) = a ^ n * a := by grind
theorem pow_zero (a : F) : a ^ 0 = 1 := by grind

theorem val_pow (a : F) : ∀ n, (a ^ n).val = a.val ^ n % P
  | 0 => by rw [pow_zero, val_one, Nat.pow_zero]; decide
  | n + 1 => by rw [pow_succ, val_mul, val_pow a n, Nat.pow_succ, Nat.mod_mul_mod]

theorem frob (a : F) : a ^ P = a := F.ext (by rw [val_pow, fermat P_prime, Nat.mod_eq_of_lt a.isLt])

theorem val_ne_zero {a : F} (h : a ≠ 0) : ¬ P ∣ a.val := fun hd => by
  have := Nat.mod_eq_zero_of_dvd hd
  rw [Nat.mod_eq_of_lt a.isLt] at this
  exact h (F.ext this)

theorem mul_eq_zero {a b : F} (h : a * b = 0) : a = 0 ∨ b = 0 := by
  have h1 : P ∣ a.val * b.val := Nat.dvd_of_mod_eq_zero (by rw [← val_mul, h]; rfl)
  by_cases ha : a = 0
  · exact Or.inl ha
  · by_cases hb : b = 0
    · exact Or.inr hb
    · rcases P_prime.dvd_mul h1 with h2 | h2
      · exact absurd h2 (val_ne_zero ha)
      · exact absurd h2 (val_ne_zero hb)

/-- 1 over a; 0 of 0. -/
def inv (a : F) : F := a ^ (P - 2)

theorem inv_zero : inv 0 = 0 := F.ext (by
  rw [inv, val_pow, val_zero, Nat.zero_pow (by decide)]; rfl)

theorem mul_inv {a : F} (h : a ≠ 0) : a * inv a = 1 := F.ext (by
  rw [val_mul, inv, val_pow, Nat.mul_mod_mod, Nat.mul_comm, ← Nat.pow_succ]
  have : (P - 2).succ = P - 1 := by decide
  rw [this, fermat' P_prime (val_ne_zero h), val_one]; decide)

theorem inv_mul {a : F} (h : a ≠ 0) : inv a * a = 1 := by have := mul_inv h; grind

theorem one_ne_zero : (1 : F) ≠ 0 := by decide

theorem inv_ne_zero {a : F} (h : a ≠ 0) : inv a ≠ 0 := fun e => by
  have := mul_inv h
  rw [e] at this
  exact one_ne_zero (by grind)

theorem mul_left_cancel {a b c : F} (ha : a ≠ 0) (h : a * b = a * c) : b = c := by
  have h1 : a * (b - c) = 0 := by grind
  rcases mul_eq_zero h1 with e | e
  · exact absurd e ha
  · grind

theorem inv_of_mul {a b : F} (h : a * b = 1) : inv a = b := by
  have ha : a ≠ 0 := fun e => by subst e; exact one_ne_zero (by grind)
  exact mul_left_cancel ha (by rw [mul_inv ha, h])

theorem inv_inv (a : F) : inv (inv a) = a := by
  by_cases h : a = 0
  · subst h; rw [inv_zero, inv_zero]
  · exact inv_of_mul (inv_mul h)

theorem inv_mul_distrib (a b : F) : inv (a * b) = inv a * inv b := by
  by_cases ha : a = 0
  · subst ha; rw [inv_zero]; have : (0 : F) * b = 0 := by grind
    rw [this, inv_zero]; grind
  · by_cases hb : b = 0
    · subst hb; rw [inv_zero]; have : a * (0 : F) = 0 := by grind
      rw [this, inv_zero]; grind
    · have h1 := mul_inv ha
      have h2 := mul_inv hb
      exact inv_of_mul (by grind)

end Nt
end Go.Proofs.YtemkpihfenokmaaDoor
