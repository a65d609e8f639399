/- Plain arithmetic of limbs: five words of 51 bits as a number modulo 2^255 - 19; bytes as a number. No program in sight. No condition. -/
import Derived.Test.YtemkpihfenokmaaDoorPrime
import Derived.WalkKit
namespace Go.Proofs.YtemkpihfenokmaaDoor
open Nt

/-- 2^255 - 19, as an integer. -/
abbrev PI : Int := 57896044618658097711785492504343953926634992332820282019728792003956564819949
theorem PI_eq : ((P : Nat) : Int) = PI := by decide

/-- Five words: each a word, their sum the number n. -/
def Wd (l0 l1 l2 l3 l4 : Int) (n : F) : Prop :=
  (0 ≤ l0 ∧ l0 < 18446744073709551616) ∧ (0 ≤ l1 ∧ l1 < 18446744073709551616) ∧ (0 ≤ l2 ∧ l2 < 18446744073709551616) ∧ (0 ≤ l3 ∧ l3 < 18446744073709551616) ∧ (0 ≤ l4 ∧ l4 < 18446744073709551616) ∧
  (l0 + 2251799813685248 * l1 + 5070602400912917605986812821504 * l2 + 11417981541647679048466287755595961091061972992 * l3 + 25711008708143844408671393477458601640355247900524685364822016 * l4) % PI = (n.val : Int)

/-- Five limbs below 2^52. -/
def El (l0 l1 l2 l3 l4 : Int) (n : F) : Prop :=
  (0 ≤ l0 ∧ l0 < 4503599627370496) ∧ (0 ≤ l1 ∧ l1 < 4503599627370496) ∧ (0 ≤ l2 ∧ l2 < 4503599627370496) ∧ (0 ≤ l3 ∧ l3 < 4503599627370496) ∧ (0 ≤ l4 ∧ l4 < 4503599627370496) ∧
  (l0 + 2251799813685248 * l1 + 5070602400912917605986812821504 * l2 + 11417981541647679048466287755595961091061972992 * l3 + 25711008708143844408671393477458601640355247900524685364822016 * l4) % PI = (n.val : Int)

theorem El.wd {a b c d e : Int} {n : F} (h : El a b c d e n) : Wd a b c d e n := by
  obtain ⟨h0, h1, h2, h3, h4, h5⟩ := h
  exact ⟨by omega, by omega, by omega, by omega, by omega, h5⟩

theorem and51 (x : Int) (h0 : 0 ≤ x) (h1 : x < 18446744073709551616) : bits .and .u64 x 2251799813685247 = x % 2251799813685248 := by go_bits2

theorem wrap_small (x : Int) (h0 : 0 ≤ x) (h1 : x < 18446744073709551616) : IntKind.u64.wrap x = x := by rw [IntKind.wrap_u64]; omega

theorem carry_el {l0 l1 l2 l3 l4 : Int} {n : F} (h : Wd l0 l1 l2 l3 l4 n) :
    El (IntKind.u64.wrap (bits .and .u64 l0 2251799813685247 + 19 * (l4 / 2251799813685248))) (IntKind.u64.wrap (bits .and .u64 l1 2251799813685247 + l0 / 2251799813685248))
      (IntKind.u64.wrap (bits .and .u64 l2 2251799813685247 + l1 / 2251799813685248)) (IntKind.u64.wrap (bits .and .u64 l3 2251799813685247 + l2 / 2251799813685248))
      (IntKind.u64.wrap (bits .and .u64 l4 2251799813685247 + l3 / 2251799813685248)) n := by
  obtain ⟨⟨a0, b0⟩, ⟨a1, b1⟩, ⟨a2, b2⟩, ⟨a3, b3⟩, ⟨a4, b4⟩, hs⟩ := h
  rw [and51 l0 a0 b0, and51 l1 a1 b1, and51 l2 a2 b2, and51 l3 a3 b3, and51 l4 a4 b4]
  rw [wrap_small _ (by omega) (by omega), wrap_small _ (by omega) (by omega), wrap_small _ (by omega) (by omega), wrap_small _ (by omega) (by omega), wrap_small _ (by omega) (by omega)]
  refine ⟨by omega, by omega, by omega, by omega, by omega, ?_⟩
  rw [← hs]
  have key : (l0 % 2251799813685248 + 19 * (l4 / 2251799813685248)) + 2251799813685248 * (l1 % 2251799813685248 + l0 / 2251799813685248) + 5070602400912917605986812821504 * (l2 % 2251799813685248 + l1 / 2251799813685248) + 11417981541647679048466287755595961091061972992 * (l3 % 2251799813685248 + l2 / 2251799813685248) + 25711008708143844408671393477458601640355247900524685364822016 * (l4 % 2251799813685248 + l3 / 2251799813685248)
      = (l0 + 2251799813685248 * l1 + 5070602400912917605986812821504 * l2 + 11417981541647679048466287755595961091061972992 * l3 + 25711008708143844408671393477458601640355247900524685364822016 * l4) + 57896044618658097711785492504343953926634992332820282019728792003956564819949 * (-(l4 / 2251799813685248)) := by
    have e0 := Int.mul_ediv_add_emod l0 2251799813685248
    have e1 := Int.mul_ediv_add_emod l1 2251799813685248
    have e2 := Int.mul_ediv_add_emod l2 2251799813685248
    have e3 := Int.mul_ediv_add_emod l3 2251799813685248
    have e4 := Int.mul_ediv_add_emod l4 2251799813685248
    omega
  rw [key, Int.add_mul_emod_self_left]

/-- Limbs that were carried once out of limbs below 2^52. -/
def Tight (l0 l1 l2 l3 l4 : Int) (n : F) : Prop :=
  El l0 l1 l2 l3 l4 n ∧ l0 < 2251799813685286 ∧ l1 < 2251799813685250 ∧ l2 < 2251799813685250 ∧ l3 < 2251799813685250 ∧ l4 < 2251799813685250

theorem carry_tight {l0 l1 l2 l3 l4 : Int} {n : F} (h : El l0 l1 l2 l3 l4 n) :
    Tight (IntKind.u64.wrap (bits .and .u64 l0 2251799813685247 + 19 * (l4 / 2251799813685248))) (IntKind.u64.wrap (bits .and .u64 l1 2251799813685247 + l0 / 2251799813685248))
      (IntKind.u64.wrap (bits .and .u64 l2 2251799813685247 + l1 / 2251799813685248)) (IntKind.u64.wrap (bits .and .u64 l3 2251799813685247 + l2 / 2251799813685248))
      (IntKind.u64.wrap (bits .and .u64 l4 2251799813685247 + l3 / 2251799813685248)) n := by
  refine ⟨carry_el h.wd, ?_⟩
  obtain ⟨⟨a0, b0⟩, ⟨a1, b1⟩, ⟨a2, b2⟩, ⟨a3, b3⟩, ⟨a4, b4⟩, hs⟩ := h
  rw [and51 l0 a0 (by omega), and51 l1 a1 (by omega), and51 l2 a2 (by omega), and51 l3 a3 (by omega), and51 l4 a4 (by omega)]
  rw [wrap_small _ (by omega) (by omega), wrap_small _ (by omega) (by omega), wrap_small _ (by omega) (by omega), wrap_small _ (by omega) (by omega), wrap_small _ (by omega) (by omega)]
  omega

/-- Five limbs of 51 bits that are the number n, and not only modulo 2^255 - 19. -/
def Can (l0 l1 l2 l3 l4 : Int) (n : F) : Prop :=
  (0 ≤ l0 ∧ l0 < 2251799813685248) ∧ (0 ≤ l1 ∧ l1 < 2251799813685248) ∧ (0 ≤ l2 ∧ l2 < 2251799813685248) ∧ (0 ≤ l3 ∧ l3 < 2251799813685248) ∧ (0 ≤ l4 ∧ l4 < 2251799813685248) ∧
  l0 + 2251799813685248 * l1 + 5070602400912917605986812821504 * l2 + 11417981541647679048466287755595961091061972992 * l3 + 25711008708143844408671393477458601640355247900524685364822016 * l4 = (n.val : Int)

theorem least_fin {V S R q c n : Int} (hs : V % 57896044618658097711785492504343953926634992332820282019728792003956564819949 = n) (hV : 0 ≤ V ∧ V < 115792089237316195423570985008687907853269984665640564039457584007913129639868)
    (hS : V + 19 = S + 57896044618658097711785492504343953926634992332820282019728792003956564819968 * q) (hS' : 0 ≤ S ∧ S < 57896044618658097711785492504343953926634992332820282019728792003956564819968)
    (hR : V + 19 * q = R + 57896044618658097711785492504343953926634992332820282019728792003956564819968 * c) (hR' : 0 ≤ R ∧ R < 57896044618658097711785492504343953926634992332820282019728792003956564819968)
    (hq : q = 0 ∨ q = 1) : R = n := by
  rcases hq with rfl | rfl
  · have : c = 0 := by omega
    subst this
    omega
  · have : c = 1 := by omega
    subst this
    omega

/-- A step of a carry: what stays, what goes up. -/
theorem part51 (x : Int) : ∃ r, x = 2251799813685248 * (x / 2251799813685248) + r ∧ x % 2251799813685248 = r ∧ 0 ≤ r ∧ r < 2251799813685248 :=
  ⟨x % 2251799813685248, by omega, rfl, by omega, by omega⟩

theorem digits_bound {r0 r1 r2 r3 r4 : Int} (h0 : 0 ≤ r0 ∧ r0 < 2251799813685248) (h1 : 0 ≤ r1 ∧ r1 < 2251799813685248) (h2 : 0 ≤ r2 ∧ r2 < 2251799813685248) (h3 : 0 ≤ r3 ∧ r3 < 2251799813685248) (h4 : 0 ≤ r4 ∧ r4 < 2251799813685248) :
    0 ≤ r0 + 2251799813685248 * r1 + 5070602400912917605986812821504 * r2 + 11417981541647679048466287755595961091061972992 * r3 + 25711008708143844408671393477458601640355247900524685364822016 * r4 ∧
    r0 + 2251799813685248 * r1 + 5070602400912917605986812821504 * r2 + 11417981541647679048466287755595961091061972992 * r3 + 25711008708143844408671393477458601640355247900524685364822016 * r4 < 57896044618658097711785492504343953926634992332820282019728792003956564819968 := by
  omega

theorem chain51 {a m0 m1 m2 m3 m4 c0 c1 c2 c3 c4 r0 r1 r2 r3 r4 : Int} (e0 : m0 + a = 2251799813685248 * c0 + r0) (e1 : m1 + c0 = 2251799813685248 * c1 + r1) (e2 : m2 + c1 = 2251799813685248 * c2 + r2)
    (e3 : m3 + c2 = 2251799813685248 * c3 + r3) (e4 : m4 + c3 = 2251799813685248 * c4 + r4) :
    (m0 + 2251799813685248 * m1 + 5070602400912917605986812821504 * m2 + 11417981541647679048466287755595961091061972992 * m3 + 25711008708143844408671393477458601640355247900524685364822016 * m4) + a =
    (r0 + 2251799813685248 * r1 + 5070602400912917605986812821504 * r2 + 11417981541647679048466287755595961091061972992 * r3 + 25711008708143844408671393477458601640355247900524685364822016 * r4) + 57896044618658097711785492504343953926634992332820282019728792003956564819968 * c4 := by
  have f0 : r0 = m0 + a - 2251799813685248 * c0 := by omega
  have f1 : r1 = m1 + c0 - 2251799813685248 * c1 := by omega
  have f2 : r2 = m2 + c1 - 2251799813685248 * c2 := by omega
  have f3 : r3 = m3 + c2 - 2251799813685248 * c3 := by omega
  have f4 : r4 = m4 + c3 - 2251799813685248 * c4 := by omega
  clear e0 e1 e2 e3 e4
  subst f0 f1 f2 f3 f4
  omega

theorem least_can {m0 m1 m2 m3 m4 q : Int} {n : F} (h : Tight m0 m1 m2 m3 m4 n)
    (hq : ((((((19 + m0) / 2251799813685248 + m1) / 2251799813685248 + m2) / 2251799813685248 + m3) / 2251799813685248 + m4) / 2251799813685248) = q) :
    Can (bits .and .u64 (m0 + 19 * q) 2251799813685247) (bits .and .u64 (m1 + (m0 + 19 * q) / 2251799813685248) 2251799813685247)
      (bits .and .u64 (m2 + (m1 + (m0 + 19 * q) / 2251799813685248) / 2251799813685248) 2251799813685247)
      (bits .and .u64 (m3 + (m2 + (m1 + (m0 + 19 * q) / 2251799813685248) / 2251799813685248) / 2251799813685248) 2251799813685247)
      (bits .and .u64 (m4 + (m3 + (m2 + (m1 + (m0 + 19 * q) / 2251799813685248) / 2251799813685248) / 2251799813685248) / 2251799813685248) 2251799813685247) n := by
  obtain ⟨⟨⟨a0, b0⟩, ⟨a1, b1⟩, ⟨a2, b2⟩, ⟨a3, b3⟩, ⟨a4, b4⟩, hs⟩, t0, t1, t2, t3, t4⟩ := h
  simp only [PI] at hs
  have k0 : 0 ≤ (19 + m0) / 2251799813685248 ∧ (19 + m0) / 2251799813685248 ≤ 1 := by omega
  generalize hd0 : (19 + m0) / 2251799813685248 = d0 at *
  have k1 : 0 ≤ (d0 + m1) / 2251799813685248 ∧ (d0 + m1) / 2251799813685248 ≤ 1 := by omega
  generalize hd1 : (d0 + m1) / 2251799813685248 = d1 at *
  have k2 : 0 ≤ (d1 + m2) / 2251799813685248 ∧ (d1 + m2) / 2251799813685248 ≤ 1 := by omega
  generalize hd2 : (d1 + m2) / 2251799813685248 = d2 at *
  have k3 : 0 ≤ (d2 + m3) / 2251799813685248 ∧ (d2 + m3) / 2251799813685248 ≤ 1 := by omega
  generalize hd3 : (d2 + m3) / 2251799813685248 = d3 at *
  have k4 : 0 ≤ q ∧ q ≤ 1 := by omega
  have l0 : 0 ≤ (m0 + 19 * q) / 2251799813685248 ∧ (m0 + 19 * q) / 2251799813685248 ≤ 1 := by omega
  have and0 := and51 (m0 + 19 * q) (by omega) (by omega)
  generalize hc0 : (m0 + 19 * q) / 2251799813685248 = c0 at *
  have l1 : 0 ≤ (m1 + c0) / 2251799813685248 ∧ (m1 + c0) / 2251799813685248 ≤ 1 := by omega
  have and1 := and51 (m1 + c0) (by omega) (by omega)
  generalize hc1 : (m1 + c0) / 2251799813685248 = c1 at *
  have l2 : 0 ≤ (m2 + c1) / 2251799813685248 ∧ (m2 + c1) / 2251799813685248 ≤ 1 := by omega
  have and2 := and51 (m2 + c1) (by omega) (by omega)
  generalize hc2 : (m2 + c1) / 2251799813685248 = c2 at *
  have l3 : 0 ≤ (m3 + c2) / 2251799813685248 ∧ (m3 + c2) / 2251799813685248 ≤ 1 := by omega
  have and3 := and51 (m3 + c2) (by omega) (by omega)
  generalize hc3 : (m3 + c2) / 2251799813685248 = c3 at *
  have and4 := and51 (m4 + c3) (by omega) (by omega)
  rw [and0, and1, and2, and3, and4]
  clear and0 and1 and2 and3 and4
  obtain ⟨s0, x0, _, y0⟩ := part51 (19 + m0)
  obtain ⟨s1, x1, _, y1⟩ := part51 (d0 + m1)
  obtain ⟨s2, x2, _, y2⟩ := part51 (d1 + m2)
  obtain ⟨s3, x3, _, y3⟩ := part51 (d2 + m3)
  obtain ⟨s4, x4, _, y4⟩ := part51 (d3 + m4)
  obtain ⟨r0, u0, w0, z0⟩ := part51 (m0 + 19 * q)
  obtain ⟨r1, u1, w1, z1⟩ := part51 (m1 + c0)
  obtain ⟨r2, u2, w2, z2⟩ := part51 (m2 + c1)
  obtain ⟨r3, u3, w3, z3⟩ := part51 (m3 + c2)
  obtain ⟨r4, u4, w4, z4⟩ := part51 (m4 + c3)
  rw [w0, w1, w2, w3, w4]
  rw [hd0] at x0
  rw [hd1] at x1
  rw [hd2] at x2
  rw [hd3] at x3
  rw [hq] at x4
  rw [hc0] at u0
  rw [hc1] at u1
  rw [hc2] at u2
  rw [hc3] at u3
  have hS := chain51 (a := 19) (by omega : m0 + 19 = 2251799813685248 * d0 + s0) (by omega : m1 + d0 = 2251799813685248 * d1 + s1) (by omega : m2 + d1 = 2251799813685248 * d2 + s2) (by omega : m3 + d2 = 2251799813685248 * d3 + s3) (by omega : m4 + d3 = 2251799813685248 * q + s4)
  have hR := chain51 (a := 19 * q) u0 u1 u2 u3 u4
  refine ⟨z0, z1, z2, z3, z4, ?_⟩
  have hV := digits_bound (r0 := m0 - 38) (r1 := m1 - 2) (r2 := m2 - 2) (r3 := m3 - 2) (r4 := m4 - 2)
  exact least_fin hs (by clear hs hS hR hV; omega) hS (digits_bound y0 y1 y2 y3 y4) hR (digits_bound z0 z1 z2 z3 z4) (by omega)

/-! ### Bytes -/
/-- The number of bytes, the lowest first. -/
def num : List Int → Int
  | [] => 0
  | b :: r => b + 256 * num r

/-- Bytes. -/
def Byt (l : List Int) : Prop := ∀ x ∈ l, 0 ≤ x ∧ x < 256

theorem num_bound : ∀ l : List Int, Byt l → 0 ≤ num l ∧ num l < 256 ^ l.length
  | [], _ => by simp [num]
  | b :: r, h => by
    have hb := h b (by simp)
    have hr := num_bound r (fun x hx => h x (by simp [hx]))
    simp only [num, List.length_cons, Int.pow_succ]
    omega

theorem num_append (a b : List Int) : num (a ++ b) = num a + 256 ^ a.length * num b := by
  induction a with
  | nil => simp [num]
  | cons x r ih => simp only [List.cons_append, num, ih, List.length_cons, Int.pow_succ]; grind

/-- The element at a place. -/
def nth (l : List Int) (j : Nat) : Int := l.getD j 0

theorem nth_get {l : List Int} {j : Nat} (h : j < l.length) : nth l j = l[j] := by simp [nth, h]

theorem Byt.nth {l : List Int} (h : Byt l) (j : Nat) : 0 ≤ nth l j ∧ nth l j < 256 := by
  by_cases hj : j < l.length
  · rw [nth_get hj]; exact h _ (List.getElem_mem hj)
  · simp [Go.Proofs.YtemkpihfenokmaaDoor.nth, List.getElem?_eq_none (by omega : l.length ≤ j)]

theorem Byt.drop {l : List Int} (h : Byt l) (k : Nat) : Byt (l.drop k) := fun x hx => h x (List.mem_of_mem_drop hx)
theorem Byt.take {l : List Int} (h : Byt l) (k : Nat) : Byt (l.take k) := fun x hx => h x (List.mem_of_mem_take hx)

theorem num_drop (l : List Int) (k : Nat) (h : k < l.length) : num (l.drop k) = nth l k + 256 * num (l.drop (k + 1)) := by
  rw [List.drop_eq_getElem_cons h, nth_get h]
  rfl

theorem num_drop_bound {l : List Int} (h : Byt l) (k n : Nat) (hn : l.length ≤ k + n) : 0 ≤ num (l.drop k) ∧ num (l.drop k) < 256 ^ n := by
  have h1 := num_bound _ (h.drop k)
  have h2 : (256 : Int) ^ (l.drop k).length ≤ 256 ^ n := by
    have : (256 : Nat) ^ (l.drop k).length ≤ 256 ^ n := Nat.pow_le_pow_right (by omega) (by rw [List.length_drop]; omega)
    have h3 : ((256 ^ (l.drop k).length : Nat) : Int) ≤ ((256 ^ n : Nat) : Int) := Int.ofNat_le.2 this
    rwa [Int.natCast_pow, Int.natCast_pow] at h3
  omega

/-- The values of bytes. -/
def vals (l : List Int) : Array Value := (l.map (Value.int .u8)).toArray

theorem num_mid (l : List Int) (o n : Nat) (ho : o + n ≤ l.length) (h : Byt l) : num ((l.drop o).take n) = num l / 256 ^ o % 256 ^ n := by
  have e1 : l = l.take o ++ ((l.drop o).take n ++ l.drop (o + n)) := by
    rw [← List.drop_drop, List.take_append_drop, List.take_append_drop]
  have e2 : num l = num (l.take o) + 256 ^ o * (num ((l.drop o).take n) + 256 ^ n * num (l.drop (o + n))) := by
    conv => lhs; rw [e1]
    rw [num_append, num_append, List.length_take, List.length_take, List.length_drop]
    have a1 : min o l.length = o := by omega
    have a2 : min n (l.length - o) = n := by omega
    rw [a1, a2]
  have b1 := num_bound _ (h.take o)
  have b2 := num_bound _ ((h.drop o).take n)
  have c1 : (l.take o).length = o := by rw [List.length_take]; omega
  have c2 : ((l.drop o).take n).length = n := by rw [List.length_take, List.length_drop]; omega
  rw [c1] at b1
  rw [c2] at b2
  have p1 : (0 : Int) < 256 ^ o := Int.pow_pos (by omega)
  rw [e2, Int.add_mul_ediv_left _ _ (by omega), Int.ediv_eq_zero_of_lt b1.1 b1.2, Int.zero_add, Int.add_mul_emod_self_left, Int.emod_eq_of_lt b2.1 b2.2]

/-- The five limbs of 32 bytes. -/
theorem limbs_wd (N : Int) (h0 : 0 ≤ N) (h1 : N < 115792089237316195423570985008687907853269984665640564039457584007913129639936) :
    Wd (N / 256 ^ 0 % 256 ^ 8 % 2251799813685248) (N / 256 ^ 6 % 256 ^ 8 / 8 % 2251799813685248) (N / 256 ^ 12 % 256 ^ 8 / 64 % 2251799813685248) (N / 256 ^ 19 % 256 ^ 8 / 2 % 2251799813685248) (N / 256 ^ 24 % 256 ^ 8 / 4096 % 2251799813685248)
      (Fin.ofNat P (N % 57896044618658097711785492504343953926634992332820282019728792003956564819968).toNat) := by
  refine ⟨by omega, by omega, by omega, by omega, by omega, ?_⟩
  have key : N / 256 ^ 0 % 256 ^ 8 % 2251799813685248 + 2251799813685248 * (N / 256 ^ 6 % 256 ^ 8 / 8 % 2251799813685248) + 5070602400912917605986812821504 * (N / 256 ^ 12 % 256 ^ 8 / 64 % 2251799813685248) + 11417981541647679048466287755595961091061972992 * (N / 256 ^ 19 % 256 ^ 8 / 2 % 2251799813685248) + 25711008708143844408671393477458601640355247900524685364822016 * (N / 256 ^ 24 % 256 ^ 8 / 4096 % 2251799813685248)
      = N % 57896044618658097711785492504343953926634992332820282019728792003956564819968 := by
    omega
  rw [key]
  show _ = (((N % 57896044618658097711785492504343953926634992332820282019728792003956564819968).toNat % P : Nat) : Int)
  rw [Int.natCast_emod, PI_eq, Int.toNat_of_nonneg (by omega)]

/-- Byte j of a number. -/
def byteOf (V j : Nat) : Nat := V / 256 ^ j % 256
/-- The 32 lowest bytes of a number. -/
def bytesN (V : Nat) : List Int := (List.range 32).map fun j => (byteOf V j : Int)

theorem bytesN_len (V : Nat) : (bytesN V).length = 32 := by simp [bytesN]
theorem bytesN_byt (V : Nat) : Byt (bytesN V) := fun x hx => by
  simp only [bytesN, List.mem_map] at hx
  obtain ⟨j, _, rfl⟩ := hx
  simp only [byteOf]; omega
theorem nth_bytesN (V j : Nat) (h : j < 32) : nth (bytesN V) j = (byteOf V j : Int) := by
  rw [nth_get (by rw [bytesN_len]; exact h)]; simp [bytesN]

theorem byteOf_testBit (V j i : Nat) : (byteOf V j).testBit i = (decide (i < 8) && V.testBit (8 * j + i)) := by
  have e : (256 : Nat) ^ j = 2 ^ (8 * j) := by rw [Nat.pow_mul]
  have e2 : (256 : Nat) = 2 ^ 8 := rfl
  rw [byteOf, e]
  conv => lhs; rw [e2]
  rw [Nat.testBit_mod_two_pow, Nat.testBit_div_two_pow, Nat.add_comm]

/-- One bit more. -/
theorem byte_step (V k j : Nat) : byteOf (V % 2 ^ (k + 1)) j = if j = k / 8 then byteOf (V % 2 ^ k) j ||| (V / 2 ^ k % 2) * 2 ^ (k % 8) else byteOf (V % 2 ^ k) j := by
  apply Nat.eq_of_testBit_eq
  intro i
  have hbit : ∀ i, (V / 2 ^ k % 2 * 2 ^ (k % 8)).testBit i = (decide (i = k % 8) && V.testBit k) := by
    intro i
    rw [Nat.mul_comm, Nat.testBit_two_pow_mul]
    have e : V / 2 ^ k % 2 = V / 2 ^ k % 2 ^ 1 := rfl
    rw [e, Nat.testBit_mod_two_pow, Nat.testBit_div_two_pow]
    by_cases h1 : i = k % 8
    · subst h1; simp
    · by_cases h2 : k % 8 ≤ i
      · have : ¬ (i - k % 8 < 1) := by omega
        simp [h1, this]
      · simp [h1, h2]
  split
  · rename_i hj
    rw [Nat.testBit_or, byteOf_testBit, byteOf_testBit, Nat.testBit_mod_two_pow, Nat.testBit_mod_two_pow, hbit]
    by_cases h8 : i < 8
    · by_cases h1 : i = k % 8
      · subst h1
        have e : 8 * j + k % 8 = k := by omega
        simp [e, h8]
      · have e : (8 * j + i < k + 1) = (8 * j + i < k) := by
          apply propext; constructor <;> intro _ <;> omega
        simp [h1, e]
    · have h1 : ¬ i = k % 8 := by omega
      simp [h8, h1]
  · rename_i hj
    rw [byteOf_testBit, byteOf_testBit, Nat.testBit_mod_two_pow, Nat.testBit_mod_two_pow]
    by_cases h8 : i < 8
    · have e : (8 * j + i < k + 1) = (8 * j + i < k) := by
        apply propext; constructor <;> intro _ <;> omega
      simp [e]
    · simp [h8]

theorem bytesN_step (V k : Nat) : bytesN (V % 2 ^ (k + 1)) = (bytesN (V % 2 ^ k)).set (k / 8) ((byteOf (V % 2 ^ k) (k / 8) ||| (V / 2 ^ k % 2) * 2 ^ (k % 8) : Nat) : Int) := by
  apply List.ext_getElem
  · simp [bytesN]
  · intro j h1 h2
    rw [List.getElem_set]
    simp only [bytesN, List.getElem_map, List.getElem_range, byte_step V k j]
    by_cases hj : j = k / 8
    · rw [if_pos hj, if_pos hj.symm, hj]
    · rw [if_neg hj, if_neg (fun e => hj e.symm)]

/-- The number of 32 bytes, without the highest bit. -/
def numF (l : List Int) : F := Fin.ofNat P (num l % 57896044618658097711785492504343953926634992332820282019728792003956564819968).toNat

theorem of_limbs (l : List Int) (hl : l.length = 32) (hb : Byt l) :
    Wd (bits .and .u64 (num (l.take 8)) 2251799813685247) (bits .and .u64 (num ((l.drop 6).take 8) / 8) 2251799813685247) (bits .and .u64 (num ((l.drop 12).take 8) / 64) 2251799813685247)
      (bits .and .u64 (num ((l.drop 19).take 8) / 2) 2251799813685247) (bits .and .u64 (num ((l.drop 24).take 8) / 4096) 2251799813685247) (numF l) := by
  have e0 := num_mid l 0 8 (by omega) hb
  have e1 := num_mid l 6 8 (by omega) hb
  have e2 := num_mid l 12 8 (by omega) hb
  have e3 := num_mid l 19 8 (by omega) hb
  have e4 := num_mid l 24 8 (by omega) hb
  rw [List.drop_zero] at e0
  have hN := num_bound l hb
  rw [hl] at hN
  rw [e0, e1, e2, e3, e4]
  rw [and51 _ (by omega) (by omega), and51 _ (by omega) (by omega), and51 _ (by omega) (by omega), and51 _ (by omega) (by omega), and51 _ (by omega) (by omega)]
  exact limbs_wd _ hN.1 hN.2

theorem small_el (n : Int) (h0 : 0 ≤ n) (h1 : n < 18446744073709551616) : El (bits .and .u64 n 2251799813685247) (n / 2251799813685248) 0 0 0 (Fin.ofNat P n.toNat) := by
  rw [and51 n h0 h1]
  refine ⟨by omega, by omega, by omega, by omega, by omega, ?_⟩
  show _ = ((n.toNat % P : Nat) : Int)
  rw [Int.natCast_emod, PI_eq, Int.toNat_of_nonneg (by omega)]
  congr 1
  omega

theorem vals_size (l : List Int) : (vals l).size = l.length := by simp [vals]
theorem vals_get {l : List Int} {j : Nat} (h : j < l.length) : (vals l)[j]? = some (.int .u8 (nth l j)) := by
  rw [nth_get h]; simp [vals]

theorem nth_drop_take (l : List Int) (o n j : Nat) (hj : j < n) : nth ((l.drop o).take n) j = nth l (o + j) := by
  simp [nth, hj]

end Go.Proofs.YtemkpihfenokmaaDoor
