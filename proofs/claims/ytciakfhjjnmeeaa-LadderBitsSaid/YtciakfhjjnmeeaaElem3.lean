/- Plain arithmetic: sums, differences and products of limbs. No condition. -/
import Derived.Test.YtciakfhjjnmeeaaElem2
namespace Go.Proofs.Ytciakfhjjnmeeaa
open Nt

theorem val_int (a : F) : 0 ≤ (a.val : Int) ∧ (a.val : Int) < 57896044618658097711785492504343953926634992332820282019728792003956564819949 := by
  have h := a.isLt
  have hP : ((P : Nat) : Int) = 57896044618658097711785492504343953926634992332820282019728792003956564819949 := PI_eq
  omega

theorem val_add_int (a b : F) : ((a + b).val : Int) = ((a.val : Int) + b.val) % 57896044618658097711785492504343953926634992332820282019728792003956564819949 := by
  rw [val_add, Int.natCast_emod, Int.natCast_add, PI_eq]

theorem val_mul_int (a b : F) : ((a * b).val : Int) = ((a.val : Int) * b.val) % 57896044618658097711785492504343953926634992332820282019728792003956564819949 := by
  rw [val_mul, Int.natCast_emod, Int.natCast_mul, PI_eq]

theorem val_sub_int (a b : F) : ((a - b).val : Int) = ((a.val : Int) - b.val) % 57896044618658097711785492504343953926634992332820282019728792003956564819949 := by
  have h : (a - b).val = ((P - b.val) + a.val) % P := rfl
  have hb := b.isLt
  have hP : ((P : Nat) : Int) = 57896044618658097711785492504343953926634992332820282019728792003956564819949 := PI_eq
  rw [h, Int.natCast_emod, hP]
  have e : (((P - b.val) + a.val : Nat) : Int) = ((a.val : Int) - b.val) + 57896044618658097711785492504343953926634992332820282019728792003956564819949 * 1 := by omega
  rw [e, Int.add_mul_emod_self_left]

theorem add_wd {x0 x1 x2 x3 x4 y0 y1 y2 y3 y4 : Int} {n m : F} (hx : El x0 x1 x2 x3 x4 n) (hy : El y0 y1 y2 y3 y4 m) : Wd (x0 + y0) (x1 + y1) (x2 + y2) (x3 + y3) (x4 + y4) (n + m) := by
  obtain ⟨a0, a1, a2, a3, a4, hs⟩ := hx
  obtain ⟨b0, b1, b2, b3, b4, ht⟩ := hy
  refine ⟨by omega, by omega, by omega, by omega, by omega, ?_⟩
  rw [val_add_int, ← hs, ← ht, ← Int.add_emod]
  congr 1
  omega

theorem sub_wd {x0 x1 x2 x3 x4 y0 y1 y2 y3 y4 : Int} {n m : F} (hx : El x0 x1 x2 x3 x4 n) (hy : El y0 y1 y2 y3 y4 m) :
    Wd (x0 + 9007199254740916 - y0) (x1 + 9007199254740988 - y1) (x2 + 9007199254740988 - y2) (x3 + 9007199254740988 - y3) (x4 + 9007199254740988 - y4) (n - m) := by
  obtain ⟨a0, a1, a2, a3, a4, hs⟩ := hx
  obtain ⟨b0, b1, b2, b3, b4, ht⟩ := hy
  refine ⟨by omega, by omega, by omega, by omega, by omega, ?_⟩
  rw [val_sub_int, ← hs, ← ht, ← Int.sub_emod]
  have e : x0 + 9007199254740916 - y0 + 2251799813685248 * (x1 + 9007199254740988 - y1) + 5070602400912917605986812821504 * (x2 + 9007199254740988 - y2) + 11417981541647679048466287755595961091061972992 * (x3 + 9007199254740988 - y3) + 25711008708143844408671393477458601640355247900524685364822016 * (x4 + 9007199254740988 - y4)
      = (x0 + 2251799813685248 * x1 + 5070602400912917605986812821504 * x2 + 11417981541647679048466287755595961091061972992 * x3 + 25711008708143844408671393477458601640355247900524685364822016 * x4 - (y0 + 2251799813685248 * y1 + 5070602400912917605986812821504 * y2 + 11417981541647679048466287755595961091061972992 * y3 + 25711008708143844408671393477458601640355247900524685364822016 * y4)) + 57896044618658097711785492504343953926634992332820282019728792003956564819949 * 4 := by omega
  rw [e, Int.add_mul_emod_self_left]

/-! ### 128 bits -/
/-- Two words that are one number. -/
def Wide (hi lo V : Int) : Prop := (0 ≤ hi ∧ hi < 18446744073709551616) ∧ (0 ≤ lo ∧ lo < 18446744073709551616) ∧ 18446744073709551616 * hi + lo = V

/-- A sum of a product: what the two words become. -/
theorem wide_add {hi lo V q : Int} (h : Wide hi lo V) (hq : 0 ≤ q) (hlt : V + q < 340282366920938463463374607431768211456) :
    Wide (((hi + q / 18446744073709551616) + (lo + q % 18446744073709551616) / 18446744073709551616) % 18446744073709551616) ((lo + q % 18446744073709551616) % 18446744073709551616) (V + q) := by
  obtain ⟨h1, h2, h3⟩ := h
  have e := Int.mul_ediv_add_emod q 18446744073709551616
  have hr := Int.emod_nonneg q (show (18446744073709551616 : Int) ≠ 0 by omega)
  have hr2 := Int.emod_lt_of_pos q (show (0 : Int) < 18446744073709551616 by omega)
  have hd : 0 ≤ q / 18446744073709551616 := Int.ediv_nonneg hq (by omega)
  generalize q / 18446744073709551616 = d at *
  generalize q % 18446744073709551616 = r at *
  have e2 : ((hi + d) + (lo + r) / 18446744073709551616) % 18446744073709551616 = (hi + d) + (lo + r) / 18446744073709551616 := Int.emod_eq_of_lt (by omega) (by omega)
  rw [e2]
  exact ⟨by omega, by omega, by omega⟩

theorem wide_zero : Wide 0 0 0 := ⟨by omega, by omega, by omega⟩

theorem wide_low {hi lo V : Int} (h : Wide hi lo V) : bits .and .u64 lo 2251799813685247 = V % 2251799813685248 := by
  obtain ⟨h1, h2, h3⟩ := h
  rw [and51 _ h2.1 h2.2]; omega

theorem or13 (x y : Int) (hx : 0 ≤ x) (hx' : x < 2251799813685248) (hy : 0 ≤ y) (hy' : y < 8192) : bits .or .u64 (x * 8192) y = x * 8192 + y := by go_bits2

theorem wide_over {hi lo V : Int} (h : Wide hi lo V) (hV : V < 41538374868278621028243970633760768) : bits .or .u64 (hi * 8192) (lo / 2251799813685248) = V / 2251799813685248 := by
  obtain ⟨h1, h2, h3⟩ := h
  rw [or13 _ _ (by omega) (by omega) (by omega) (by omega)]; omega
end Go.Proofs.Ytciakfhjjnmeeaa
