/- Powers of numbers by their bits: the plain laws. -/
import Derived.Test.YtciakfhjjnmeeaaDig
namespace Go.Proofs.Ytciakfhjjnmeeaa
open Go.RowKit Nt

theorem fpow_add (a : F) (m : Nat) : ∀ n : Nat, a ^ (m + n) = a ^ m * a ^ n
  | 0 => by rw [Nat.add_zero, pow_zero]; grind
  | n + 1 => by rw [← Nat.add_assoc, pow_succ, pow_succ, fpow_add a m n]; grind
theorem fpow_one (a : F) : a ^ 1 = a := by rw [pow_succ, pow_zero]; grind
theorem fpow_mul (a : F) (m : Nat) : ∀ n : Nat, a ^ (m * n) = (a ^ m) ^ n
  | 0 => by rw [Nat.mul_zero, pow_zero, pow_zero]
  | n + 1 => by rw [Nat.mul_succ, fpow_add, pow_succ, fpow_mul a m n]
theorem mul_fpow (a b : F) : ∀ n : Nat, (a * b) ^ n = a ^ n * b ^ n
  | 0 => by rw [pow_zero, pow_zero, pow_zero]; grind
  | n + 1 => by rw [pow_succ, pow_succ, pow_succ, mul_fpow a b n]; grind
theorem one_fpow : ∀ n : Nat, (1 : F) ^ n = 1
  | 0 => pow_zero 1
  | n + 1 => by rw [pow_succ, one_fpow n]; grind

theorem pow_bit (x : F) (V k : Nat) : x ^ (V / 2 ^ k) = if V / 2 ^ k % 2 = 1 then x ^ (V / 2 ^ (k + 1)) * x ^ (V / 2 ^ (k + 1)) * x else x ^ (V / 2 ^ (k + 1)) * x ^ (V / 2 ^ (k + 1)) := by
  have h : V / 2 ^ (k + 1) = V / 2 ^ k / 2 := by rw [Nat.pow_succ, Nat.div_div_eq_div_mul]
  rw [h]
  generalize V / 2 ^ k = e
  split
  · rename_i h1
    have : e = e / 2 + e / 2 + 1 := by omega
    conv => lhs; rw [this, pow_succ, fpow_add]
  · have : e = e / 2 + e / 2 := by omega
    conv => lhs; rw [this, fpow_add]

theorem pow_top (x : F) (V : Nat) (h : V < 2 ^ 256) : x ^ (V / 2 ^ 256) = 1 := by
  rw [Nat.div_eq_of_lt h, pow_zero]

theorem nat_bit (V k : Nat) : byteOf V (k / 8) / 2 ^ (k % 8) % 2 = V / 2 ^ k % 2 := by
  have h1 := byteOf_testBit V (k / 8) (k % 8)
  have e : 8 * (k / 8) + k % 8 = k := by omega
  rw [e, Nat.testBit_eq_decide_div_mod_eq, Nat.testBit_eq_decide_div_mod_eq] at h1
  have h8 : k % 8 < 8 := Nat.mod_lt _ (by decide)
  simp only [h8, decide_true, Bool.true_and, decide_eq_decide] at h1
  have a := Nat.mod_two_eq_zero_or_one (byteOf V (k / 8) / 2 ^ (k % 8))
  have b := Nat.mod_two_eq_zero_or_one (V / 2 ^ k)
  rcases a with a | a <;> rcases b with b | b <;> simp_all

theorem byteOf_lt (V j : Nat) : byteOf V j < 256 := Nat.mod_lt _ (by decide)

/-- The bytes of 32 bytes' number are these bytes. -/
theorem bytesN_num (l : List Int) (hl : l.length = 32) (hb : Byt l) : l = bytesN (num l).toNat ∧ (num l).toNat < 2 ^ 256 := by
  have h := num_bound l hb
  rw [hl] at h
  refine ⟨bytes_of_num l hl hb _ (by omega), ?_⟩
  have : (256 : Int) ^ 32 = 2 ^ 256 := by decide
  omega
end Go.Proofs.Ytciakfhjjnmeeaa
