/- Products and sums of rows of digits, modulo the prime: the plain laws. -/
import Derived.Test.YtciakfhjjnmeeaaDig
import Derived.Test.YtciakfhjjnmeeaaElem3
namespace Go.Proofs.Ytciakfhjjnmeeaa
open Go.RowKit Nt

/-- After i rounds and k steps of the next one, the digits l hold so much of x times y. -/
structure Conv (x y : List Int) (i k : Nat) (l : List Int) : Prop where
  len : l.length = 16
  low : ∀ j, 0 ≤ nth l j
  high : ∀ j, nth l j ≤ (16 * (i : Int) + k) * 163203776550
  sum : ∃ q : Int, dnum l = dnum (x.take i) * dnum y + 65536 ^ i * nth x i * dnum (y.take k) + q * PI

theorem digit_prod {x y : List Int} (hx : Norm x) (hy : Norm y) (i k : Nat) : 0 ≤ nth x i * nth y k ∧ nth x i * nth y k ≤ 4294836225 := by
  have a := hx.nth i
  have b := hy.nth k
  refine ⟨Int.mul_nonneg a.1 b.1, ?_⟩
  have := Int.mul_le_mul (show nth x i ≤ 65535 by omega) (show nth y k ≤ 65535 by omega) b.1 (by decide)
  omega

theorem p256 : (65536 : Int) ^ 16 = 38 + 2 * PI := by decide

theorem nth_zeros (j : Nat) : nth (List.replicate 16 (0 : Int)) j = 0 := by
  unfold nth; rw [List.getD_eq_getElem?_getD, List.getElem?_replicate]; split <;> rfl

theorem Conv.start (x y : List Int) : Conv x y 0 0 (List.replicate 16 0) where
  len := rfl
  low j := by
    have : nth (List.replicate 16 (0 : Int)) j = 0 := nth_zeros j
    omega
  high j := by
    have : nth (List.replicate 16 (0 : Int)) j = 0 := nth_zeros j
    omega
  sum := ⟨0, by
    have : dnum (List.replicate 16 0) = 0 := by decide
    rw [this]; simp [dnum]⟩

theorem Conv.next {x y l : List Int} {i : Nat} (hx : x.length = 16) (hy : y.length = 16) (hi : i < 16) (h : Conv x y i 16 l) : Conv x y (i + 1) 0 l where
  len := h.len
  low := h.low
  high j := by have := h.high j; push_cast at *; omega
  sum := by
    obtain ⟨q, hq⟩ := h.sum
    refine ⟨q, ?_⟩
    rw [hq, dnum_take x i (by omega), List.take_of_length_le (by omega : y.length ≤ 16)]
    simp only [List.take_zero, dnum]
    generalize dnum (x.take i) = a
    generalize dnum y = b
    generalize (65536 : Int) ^ i = c
    grind

theorem Conv.near {x y l : List Int} {i k : Nat} (hx : Norm x) (hy : Norm y) (hk : k < 16) (hik : i + k < 16) (h : Conv x y i k l) :
    Conv x y i (k + 1) (l.set (i + k) (nth l (i + k) + nth x i * nth y k)) where
  len := by rw [List.length_set]; exact h.len
  low j := by
    have p := digit_prod hx hy i k
    rw [nth_set _ _ _ _ (by rw [h.len]; omega)]
    have := h.low (i + k); have := h.low j
    split <;> omega
  high j := by
    have p := digit_prod hx hy i k
    rw [nth_set _ _ _ _ (by rw [h.len]; omega)]
    have := h.high (i + k); have := h.high j
    push_cast
    split <;> omega
  sum := by
    obtain ⟨q, hq⟩ := h.sum
    refine ⟨q, ?_⟩
    rw [dnum_set _ _ _ (by rw [h.len]; omega), hq, dnum_take y k (by rw [hy.1]; omega), Int.pow_add]
    generalize dnum (x.take i) = a
    generalize dnum y = b
    generalize (65536 : Int) ^ i = c
    generalize (65536 : Int) ^ k = d
    generalize dnum (y.take k) = e
    generalize nth x i = xi
    generalize nth y k = yk
    grind

theorem Conv.far {x y l : List Int} {i k : Nat} (hx : Norm x) (hy : Norm y) (hk : k < 16) (hi : i < 16) (hik : 16 ≤ i + k) (h : Conv x y i k l) :
    Conv x y i (k + 1) (l.set (i + k - 16) (nth l (i + k - 16) + 38 * nth x i * nth y k)) where
  len := by rw [List.length_set]; exact h.len
  low j := by
    have p := digit_prod hx hy i k
    have e : 38 * nth x i * nth y k = 38 * (nth x i * nth y k) := Int.mul_assoc ..
    rw [nth_set _ _ _ _ (by rw [h.len]; omega), e]
    have := h.low (i + k - 16); have := h.low j
    split <;> omega
  high j := by
    have p := digit_prod hx hy i k
    have e : 38 * nth x i * nth y k = 38 * (nth x i * nth y k) := Int.mul_assoc ..
    rw [nth_set _ _ _ _ (by rw [h.len]; omega), e]
    have := h.high (i + k - 16); have := h.high j
    push_cast
    split <;> omega
  sum := by
    obtain ⟨q, hq⟩ := h.sum
    refine ⟨q - 2 * 65536 ^ (i + k - 16) * nth x i * nth y k, ?_⟩
    have e2 : (65536 : Int) ^ i * 65536 ^ k = 65536 ^ (i + k - 16) * (38 + 2 * PI) := by
      rw [← Int.pow_add, ← p256, ← Int.pow_add]; congr 1; omega
    rw [dnum_set _ _ _ (by rw [h.len]; omega), hq, dnum_take y k (by rw [hy.1]; omega)]
    generalize dnum (x.take i) = a
    generalize dnum y = b
    generalize (65536 : Int) ^ i = c at *
    generalize (65536 : Int) ^ k = d at *
    generalize (65536 : Int) ^ (i + k - 16) = f at *
    generalize dnum (y.take k) = e
    generalize nth x i = xi
    generalize nth y k = yk
    generalize PI = p at *
    have e3 : c * d * xi * yk = f * (38 + 2 * p) * xi * yk := by rw [e2]
    grind

theorem Conv.done {x y l : List Int} {n m : F} (hx : Norm x) (hn : dnum x = (n.val : Int)) (hm : dnum y = (m.val : Int)) (h : Conv x y 16 0 l) :
    (∀ a ∈ l, 0 ≤ a ∧ a < 1125899906842624) ∧ dnum l % 57896044618658097711785492504343953926634992332820282019728792003956564819949 = ((n * m : F).val : Int) := by
  constructor
  · intro a ha
    obtain ⟨j, hj, rfl⟩ := List.getElem_of_mem ha
    have h1 := h.low j
    have h2 := h.high j
    rw [nth_get hj] at h1 h2
    omega
  · obtain ⟨q, hq⟩ := h.sum
    rw [hq, List.take_of_length_le (by rw [hx.1]; omega), hn, hm, val_mul_int]
    simp only [List.take_zero, dnum, Int.mul_zero, Int.add_zero]
    exact Int.add_mul_emod_self_right _ _ _

/-- Sums of digits, one by one. -/
theorem dnum_sum (x y : List Int) (hy : y.length = 16) (k : Nat) (hk : k < 16) (l : List Int) (hl : l.length = 16) (h : dnum l = dnum x + dnum (y.take k)) :
    dnum (l.set k (nth l k + nth y k)) = dnum x + dnum (y.take (k + 1)) := by
  rw [dnum_set _ _ _ (by omega), dnum_take y k (by omega), h]
  grind
end Go.Proofs.Ytciakfhjjnmeeaa
