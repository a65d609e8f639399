/- Plain arithmetic: sums of products with their bounds; the product of limbs. No condition. -/
import Derived.Test.YtciakfhjjnmeeaaElem3
namespace Go.Proofs.Ytciakfhjjnmeeaa
open Nt

/-- A sum of k products at most. -/
def WB (hi lo V k : Int) : Prop := Wide hi lo V ∧ 0 ≤ V ∧ V ≤ k * 649037107316853453566312041152512

theorem wb_zero : WB 0 0 0 0 := ⟨wide_zero, by omega, by omega⟩

theorem prod_le {x y : Int} (hx : 0 ≤ x ∧ x < 4503599627370496) (hy : 0 ≤ y ∧ y < 144115188075855872) : 0 ≤ x * y ∧ x * y ≤ 649037107316853453566312041152512 := by
  refine ⟨Int.mul_nonneg hx.1 hy.1, ?_⟩
  have h := Int.mul_le_mul (Int.le_of_lt hx.2) (Int.le_of_lt hy.2) hy.1 (by omega)
  omega

theorem wb_lt {hi lo V k x y : Int} (hw : WB hi lo V k) (hk : k ≤ 24) (hx : 0 ≤ x ∧ x < 4503599627370496) (hy : 0 ≤ y ∧ y < 144115188075855872) : V + x * y < 340282366920938463463374607431768211456 := by
  have h := prod_le hx hy
  obtain ⟨_, _, h2⟩ := hw
  omega

theorem wb_step {hi lo hi' lo' V k x y : Int} (hw : WB hi lo V k) (hk : k ≤ 24) (hx : 0 ≤ x ∧ x < 4503599627370496) (hy : 0 ≤ y ∧ y < 144115188075855872) (h' : Wide hi' lo' (V + x * y)) : WB hi' lo' (V + x * y) (k + 1) := by
  have h := prod_le hx hy
  obtain ⟨_, h1, h2⟩ := hw
  exact ⟨h', by omega, by omega⟩

/-- A sum and what comes over from the one below: the limb that stays, what goes up. -/
structure Limb (hi lo S o t q : Int) : Prop where
  low : bits .and .u64 lo 2251799813685247 = t
  over : bits .or .u64 (hi * 8192) (lo / 2251799813685248) = q
  hi0 : 0 ≤ hi
  hi1 : hi < 1125899906842624
  lo0 : 0 ≤ lo
  lo1 : lo < 18446744073709551616
  t0 : 0 ≤ t
  t1 : t < 2251799813685248
  q0 : 0 ≤ q
  q1 : q < 9223372036854775808
  sum : S + o = 2251799813685248 * q + t

theorem limb_of {hi lo S o : Int} (h : Wide hi lo (S + o)) (h0 : 0 ≤ S + o) (hlt : S + o < 20769187434139310514121985316880384) : Limb hi lo S o ((S + o) % 2251799813685248) ((S + o) / 2251799813685248) := by
  have h2 := wide_low h
  have h3 := wide_over h (by omega)
  obtain ⟨⟨a, b⟩, ⟨c, d⟩, e⟩ := h
  exact ⟨h2, h3, a, by omega, c, d, by omega, by omega, by omega, by omega, by omega⟩

/-- What is over of all, 19 times, and the lowest limb. -/
theorem last_limb (q t : Int) (hq0 : 0 ≤ q) (hq1 : q < 9223372036854775808) (ht0 : 0 ≤ t) (ht1 : t < 2251799813685248) :
    Limb (q * 19 / 18446744073709551616 + (q * 19 % 18446744073709551616 + t) / 18446744073709551616) ((q * 19 % 18446744073709551616 + t) % 18446744073709551616) (q * 19) t ((q * 19 + t) % 2251799813685248) ((q * 19 + t) / 2251799813685248) :=
  limb_of ⟨by omega, by omega, by omega⟩ (by omega) (by omega)

theorem prod_ring (x0 x1 x2 x3 x4 y0 y1 y2 y3 y4 : Int) :
    (x0 + 2251799813685248 * x1 + 5070602400912917605986812821504 * x2 + 11417981541647679048466287755595961091061972992 * x3 + 25711008708143844408671393477458601640355247900524685364822016 * x4) *
    (y0 + 2251799813685248 * y1 + 5070602400912917605986812821504 * y2 + 11417981541647679048466287755595961091061972992 * y3 + 25711008708143844408671393477458601640355247900524685364822016 * y4) =
    (x0 * y0 + 19 * (x1 * y4 + x2 * y3 + x3 * y2 + x4 * y1)) + 2251799813685248 * (x0 * y1 + x1 * y0 + 19 * (x2 * y4 + x3 * y3 + x4 * y2)) + 5070602400912917605986812821504 * (x0 * y2 + x1 * y1 + x2 * y0 + 19 * (x3 * y4 + x4 * y3)) +
      11417981541647679048466287755595961091061972992 * (x0 * y3 + x1 * y2 + x2 * y1 + x3 * y0 + 19 * (x4 * y4)) + 25711008708143844408671393477458601640355247900524685364822016 * (x0 * y4 + x1 * y3 + x2 * y2 + x3 * y1 + x4 * y0) +
      57896044618658097711785492504343953926634992332820282019728792003956564819949 * ((x1 * y4 + x2 * y3 + x3 * y2 + x4 * y1) + 2251799813685248 * (x2 * y4 + x3 * y3 + x4 * y2) + 5070602400912917605986812821504 * (x3 * y4 + x4 * y3) + 11417981541647679048466287755595961091061972992 * (x4 * y4)) := by
  grind

theorem mul_wd {x0 x1 x2 x3 x4 y0 y1 y2 y3 y4 S0 S1 S2 S3 S4 t0 t1 t2 t3 t4 q0 q1 q2 q3 q4 t q : Int} {n m : F} (hx : El x0 x1 x2 x3 x4 n) (hy : El y0 y1 y2 y3 y4 m)
    (e0 : S0 = x0 * y0 + 19 * (x1 * y4 + x2 * y3 + x3 * y2 + x4 * y1)) (e1 : S1 = x0 * y1 + x1 * y0 + 19 * (x2 * y4 + x3 * y3 + x4 * y2)) (e2 : S2 = x0 * y2 + x1 * y1 + x2 * y0 + 19 * (x3 * y4 + x4 * y3))
    (e3 : S3 = x0 * y3 + x1 * y2 + x2 * y1 + x3 * y0 + 19 * (x4 * y4)) (e4 : S4 = x0 * y4 + x1 * y3 + x2 * y2 + x3 * y1 + x4 * y0)
    (f0 : S0 + 0 = 2251799813685248 * q0 + t0) (f1 : S1 + q0 = 2251799813685248 * q1 + t1) (f2 : S2 + q1 = 2251799813685248 * q2 + t2) (f3 : S3 + q2 = 2251799813685248 * q3 + t3) (f4 : S4 + q3 = 2251799813685248 * q4 + t4)
    (f5 : q4 * 19 + t0 = 2251799813685248 * q + t) (hb : (0 ≤ t ∧ t < 2251799813685248) ∧ (0 ≤ t1 ∧ t1 < 2251799813685248) ∧ (0 ≤ t2 ∧ t2 < 2251799813685248) ∧ (0 ≤ t3 ∧ t3 < 2251799813685248) ∧ (0 ≤ t4 ∧ t4 < 2251799813685248) ∧ (0 ≤ q ∧ q < 9223372036854775808)) :
    Wd t (t1 + q) t2 t3 t4 (n * m) := by
  obtain ⟨_, _, _, _, _, hs⟩ := hx
  obtain ⟨_, _, _, _, _, ht⟩ := hy
  refine ⟨by omega, by omega, by omega, by omega, by omega, ?_⟩
  rw [val_mul_int, ← hs, ← ht, ← Int.mul_emod, prod_ring, ← e0, ← e1, ← e2, ← e3, ← e4, Int.add_mul_emod_self_left]
  have e : S0 + 2251799813685248 * S1 + 5070602400912917605986812821504 * S2 + 11417981541647679048466287755595961091061972992 * S3 + 25711008708143844408671393477458601640355247900524685364822016 * S4
      = (t + 2251799813685248 * (t1 + q) + 5070602400912917605986812821504 * t2 + 11417981541647679048466287755595961091061972992 * t3 + 25711008708143844408671393477458601640355247900524685364822016 * t4) + 57896044618658097711785492504343953926634992332820282019728792003956564819949 * q4 := by
    clear hs ht e0 e1 e2 e3 e4 hb
    omega
  rw [e, Int.add_mul_emod_self_left]
end Go.Proofs.Ytciakfhjjnmeeaa
