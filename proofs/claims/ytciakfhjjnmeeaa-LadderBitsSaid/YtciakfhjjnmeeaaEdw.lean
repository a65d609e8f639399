/- The group law of an Edwards curve whose d is no square, over the field of 2^255 - 19 elements. No program in sight. No condition but d no square and the points on the curve. -/
import Derived.Test.YtciakfhjjnmeeaaPrime
namespace Go.Proofs.Ytciakfhjjnmeeaa
namespace Edw
open Nt

/-- The curve. -/
def On (d x y : F) : Prop := x * x + y * y = 1 + d * (x * x) * (y * y)
/-- No square. -/
def NonSq (d : F) : Prop := ∀ s : F, s * s ≠ d

theorem zz (a z : F) (h : z = 0) : a * z = 0 := by grind
theorem z1 (a : F) : a * 0 = 0 := zz a 0 rfl
theorem z2 (a b : F) : a * 0 + b * 0 = 0 := by rw [z1, z1]; exact Fin.add_zero 0
theorem z3 (a b c : F) : a * 0 + b * 0 + c * 0 = 0 := by rw [z2, z1]; exact Fin.add_zero 0
theorem one_r (a o : F) (h : o = 1) : a * o = a := by grind
theorem zero_r (a z : F) (h : z = 0) : a + z = a := by grind
theorem two_ne : (2 : F) ≠ 0 := by decide
theorem mul_ne {a b : F} (ha : a ≠ 0) (hb : b ≠ 0) : a * b ≠ 0 := fun h => (mul_eq_zero h).elim ha hb
theorem ne_of_mul_l {a b : F} (h : a * b ≠ 0) : a ≠ 0 := fun e => h (by rw [e]; grind)
theorem ne_of_mul_r {a b : F} (h : a * b ≠ 0) : b ≠ 0 := fun e => h (by rw [e]; grind)
theorem sub_ne {a b : F} (h : a ≠ b) : a - b ≠ 0 := fun e => h (by grind)
theorem eq_of_sub {a b : F} (h : a - b = 0) : a = b := by grind
/-- a / b. -/
theorem div_eq {a b c e : F} (hb : b ≠ 0) (he : e ≠ 0) (h : a * e = c * b) : a * inv b = c * inv e := by
  have h1 := mul_inv hb
  have h2 := mul_inv he
  have : a * inv b = a * (e * inv e) * inv b := by rw [h2]; grind
  rw [this]
  have h3 : a * (e * inv e) * inv b = (a * e) * inv e * inv b := by grind
  rw [h3, h]
  have h4 : c * b * inv e * inv b = c * inv e * (b * inv b) := by grind
  rw [h4, h1]; grind
theorem div_scale {a b c : F} (hc : c ≠ 0) : a * inv b = (a * c) * inv (b * c) := by
  rw [inv_mul_distrib]
  have := mul_inv hc
  have h : a * c * (inv b * inv c) = a * inv b * (c * inv c) := by grind
  rw [h, this]; grind
theorem div_self_mul {a b : F} (hb : b ≠ 0) : a * inv b * b = a := by
  have := inv_mul hb
  have h : a * inv b * b = a * (inv b * b) := by grind
  rw [h, this]; grind

section
variable {d : F}

theorem complete (hd : NonSq d) {x1 y1 x2 y2 e : F} (h1 : On d x1 y1) (h2 : On d x2 y2) (he : e * e = 1) : d * x1 * x2 * y1 * y2 ≠ e := by
  intro hde
  unfold On at h1 h2
  have hne : d * x1 * x2 * y1 * y2 ≠ 0 := by
    rw [hde]; intro h; rw [h] at he; exact one_ne_zero (by grind)
  have hx1 : x1 ≠ 0 := fun h => hne (by rw [h]; grind)
  have hy1 : y1 ≠ 0 := fun h => hne (by rw [h]; grind)
  have hx2 : x2 ≠ 0 := fun h => hne (by rw [h]; grind)
  have key : d * (x1 * y1) * (x1 * y1) * (x2 * x2 + y2 * y2) = x1 * x1 + y1 * y1 := by
    rw [h2]
    have : d * (x1 * y1) * (x1 * y1) * (1 + d * (x2 * x2) * (y2 * y2)) = d * (x1 * x1) * (y1 * y1) + (d * x1 * x2 * y1 * y2) * (d * x1 * x2 * y1 * y2) := by grind
    rw [this, hde, he]; grind
  have sq : ∀ s : F, (s = x2 + y2 ∨ s = x2 - y2) → s = 0 := by
    intro s hs
    false_or_by_contra
    rename_i hs0
    obtain ⟨t, ht⟩ : ∃ t : F, t * t = d * (x1 * y1 * s) * (x1 * y1 * s) := by
      rcases hs with rfl | rfl
      · refine ⟨x1 + e * y1, ?_⟩
        have a : (x1 + e * y1) * (x1 + e * y1) = x1 * x1 + (e * e) * (y1 * y1) + 2 * x1 * y1 * e := by grind
        rw [a, he, ← hde]
        have b : x1 * x1 + 1 * (y1 * y1) + 2 * x1 * y1 * (d * x1 * x2 * y1 * y2) = (x1 * x1 + y1 * y1) + 2 * x1 * y1 * (d * x1 * x2 * y1 * y2) := by grind
        rw [b, ← key]; grind
      · refine ⟨x1 - e * y1, ?_⟩
        have a : (x1 - e * y1) * (x1 - e * y1) = x1 * x1 + (e * e) * (y1 * y1) - 2 * x1 * y1 * e := by grind
        rw [a, he, ← hde]
        have b : x1 * x1 + 1 * (y1 * y1) - 2 * x1 * y1 * (d * x1 * x2 * y1 * y2) = (x1 * x1 + y1 * y1) - 2 * x1 * y1 * (d * x1 * x2 * y1 * y2) := by grind
        rw [b, ← key]; grind
    have hm : x1 * y1 * s ≠ 0 := mul_ne (mul_ne hx1 hy1) hs0
    have hi := mul_inv hm
    refine hd (t * inv (x1 * y1 * s)) ?_
    have a : t * inv (x1 * y1 * s) * (t * inv (x1 * y1 * s)) = (t * t) * (inv (x1 * y1 * s) * inv (x1 * y1 * s)) := by grind
    rw [a, ht]
    have b : d * (x1 * y1 * s) * (x1 * y1 * s) * (inv (x1 * y1 * s) * inv (x1 * y1 * s)) = d * ((x1 * y1 * s) * inv (x1 * y1 * s)) * ((x1 * y1 * s) * inv (x1 * y1 * s)) := by grind
    rw [b, hi]; grind
  have p1 := sq _ (Or.inl rfl)
  have p2 := sq _ (Or.inr rfl)
  have : 2 * x2 = 0 := by grind
  rcases mul_eq_zero this with h | h
  · exact two_ne h
  · exact hx2 h

/-- The sum's denominators are not 0. -/
theorem dens (hd : NonSq d) {x1 y1 x2 y2 : F} (h1 : On d x1 y1) (h2 : On d x2 y2) : 1 + d * x1 * x2 * y1 * y2 ≠ 0 ∧ 1 - d * x1 * x2 * y1 * y2 ≠ 0 := by
  have a := complete hd h1 h2 (e := 1) (by grind)
  have b := complete hd h1 h2 (e := -1) (by grind)
  exact ⟨fun h => b (by grind), fun h => a (by grind)⟩

def add (d : F) (p q : F × F) : F × F :=
  ((p.1 * q.2 + p.2 * q.1) * inv (1 + d * p.1 * q.1 * p.2 * q.2), (p.2 * q.2 - p.1 * q.1) * inv (1 - d * p.1 * q.1 * p.2 * q.2))
def neg (p : F × F) : F × F := (-p.1, p.2)
def zero : F × F := (0, 1)

theorem zero_on : On d zero.1 zero.2 := by simp only [On, zero]; grind
theorem neg_on {p : F × F} (h : On d p.1 p.2) : On d (neg p).1 (neg p).2 := by simp only [On, neg] at *; grind
theorem inv_one : inv (1 : F) = 1 := inv_of_mul (by grind)
theorem add_zero_at (x y z o : F) (hz : z = 0) (ho : o = 1) : 1 + d * x * z * y * o = 1 ∧ 1 - d * x * z * y * o = 1 ∧ (x * o + y * z) * o = x ∧ (y * o - x * z) * o = y := by
  have h : d * x * z * y * o = 0 := by grind
  rw [h]
  exact ⟨zero_r 1 0 rfl, (fun z (hz : z = 0) => (by grind : (1 : F) - z = 1)) 0 rfl, by grind, by grind⟩
theorem add_zero {p : F × F} : add d p zero = p := by
  obtain ⟨x, y⟩ := p
  obtain ⟨a, b, c, e⟩ := add_zero_at (d := d) x y 0 1 rfl rfl
  simp only [add, zero]
  rw [a, b, inv_one]
  exact Prod.ext c e
theorem add_comm (p q : F × F) : add d p q = add d q p := by
  obtain ⟨x, y⟩ := p
  obtain ⟨z, t⟩ := q
  simp only [add]
  have a : d * x * z * y * t = d * z * x * t * y := by grind
  rw [a]
  exact Prod.ext (by show (x * t + y * z) * _ = (z * y + t * x) * _; grind) (by show (y * t - x * z) * _ = (t * y - z * x) * _; grind)

theorem close_id {x1 y1 x2 y2 : F} (h1 : x1 * x1 + y1 * y1 - 1 - d * (x1 * x1) * (y1 * y1) = 0) (h2 : x2 * x2 + y2 * y2 - 1 - d * (x2 * x2) * (y2 * y2) = 0) :
    ((x1 * y2 + y1 * x2) * (1 - d * x1 * x2 * y1 * y2)) * ((x1 * y2 + y1 * x2) * (1 - d * x1 * x2 * y1 * y2)) + ((y1 * y2 - x1 * x2) * (1 + d * x1 * x2 * y1 * y2)) * ((y1 * y2 - x1 * x2) * (1 + d * x1 * x2 * y1 * y2))
      = ((1 + d * x1 * x2 * y1 * y2) * (1 - d * x1 * x2 * y1 * y2)) * ((1 + d * x1 * x2 * y1 * y2) * (1 - d * x1 * x2 * y1 * y2)) + d * ((x1 * y2 + y1 * x2) * (y1 * y2 - x1 * x2)) * ((x1 * y2 + y1 * x2) * (y1 * y2 - x1 * x2)) := by
  refine eq_of_sub ?_
  have key : ((x1 * y2 + y1 * x2) * (1 - d * x1 * x2 * y1 * y2)) * ((x1 * y2 + y1 * x2) * (1 - d * x1 * x2 * y1 * y2)) + ((y1 * y2 - x1 * x2) * (1 + d * x1 * x2 * y1 * y2)) * ((y1 * y2 - x1 * x2) * (1 + d * x1 * x2 * y1 * y2))
      - (((1 + d * x1 * x2 * y1 * y2) * (1 - d * x1 * x2 * y1 * y2)) * ((1 + d * x1 * x2 * y1 * y2) * (1 - d * x1 * x2 * y1 * y2)) + d * ((x1 * y2 + y1 * x2) * (y1 * y2 - x1 * x2)) * ((x1 * y2 + y1 * x2) * (y1 * y2 - x1 * x2)))
      = (0 + x1 * x1 * y1 * y1 * x2 * x2 * x2 * x2 * y2 * y2 * y2 * y2 * d * d * d + x1 * x1 * x2 * x2 * x2 * x2 * y2 * y2 * y2 * y2 * d * d - x1 * x1 * x2 * x2 * x2 * x2 * y2 * y2 * d - x1 * x1 * x2 * x2 * y2 * y2 * y2 * y2 * d + y1 * y1 * x2 * x2 * x2 * x2 * y2 * y2 * y2 * y2 * d * d - y1 * y1 * x2 * x2 * x2 * x2 * y2 * y2 * d - y1 * y1 * x2 * x2 * y2 * y2 * y2 * y2 * d - x2 * x2 * x2 * x2 * y2 * y2 * y2 * y2 * d * d + 2 * x2 * x2 * x2 * x2 * y2 * y2 * y2 * y2 * d - 2 * x2 * x2 * x2 * x2 * y2 * y2 + x2 * x2 * x2 * x2 - 2 * x2 * x2 * y2 * y2 * y2 * y2 - 2 * x2 * x2 * y2 * y2 * d + 4 * x2 * x2 * y2 * y2 + y2 * y2 * y2 * y2) * (x1 * x1 + y1 * y1 - 1 - d * (x1 * x1) * (y1 * y1)) + (0 + x1 * x1 * x1 * x1 * x2 * x2 * y2 * y2 * d - 2 * x1 * x1 * x2 * x2 * y2 * y2 * d + 2 * x1 * x1 * x2 * x2 * y2 * y2 - x1 * x1 * x2 * x2 - x1 * x1 * y2 * y2 + y1 * y1 * y1 * y1 * x2 * x2 * y2 * y2 * d - 2 * y1 * y1 * x2 * x2 * y2 * y2 * d + 2 * y1 * y1 * x2 * x2 * y2 * y2 - y1 * y1 * x2 * x2 - y1 * y1 * y2 * y2 + x2 * x2 * y2 * y2 * d - 2 * x2 * x2 * y2 * y2 + x2 * x2 + y2 * y2 + 1) * (x2 * x2 + y2 * y2 - 1 - d * (x2 * x2) * (y2 * y2)) := by clear h1 h2; grind
  rw [key, h1, h2]; exact z2 _ _

theorem on_sub {x y : F} (h : On d x y) : x * x + y * y - 1 - d * (x * x) * (y * y) = 0 := by unfold On at h; grind

theorem add_on (hd : NonSq d) {p q : F × F} (hp : On d p.1 p.2) (hq : On d q.1 q.2) : On d (add d p q).1 (add d p q).2 := by
  obtain ⟨x1, y1⟩ := p
  obtain ⟨x2, y2⟩ := q
  obtain ⟨hA, hB⟩ := dens hd hp hq
  have h := close_id (on_sub hp) (on_sub hq)
  simp only [add, On]
  simp only [] at hA hB
  generalize x1 * y2 + y1 * x2 = X at *
  generalize y1 * y2 - x1 * x2 = Y at *
  generalize 1 + d * x1 * x2 * y1 * y2 = A at *
  generalize 1 - d * x1 * x2 * y1 * y2 = B at *
  have ia := mul_inv hA
  have ib := mul_inv hB
  generalize inv A = a at *
  generalize inv B = b at *
  have e : X * a * (X * a) + Y * b * (Y * b) = (X * B * (X * B) + Y * A * (Y * A)) * (a * a * (b * b)) := by
    have : (X * B * (X * B) + Y * A * (Y * A)) * (a * a * (b * b)) = X * a * (X * a) * ((B * b) * (B * b)) + Y * b * (Y * b) * ((A * a) * (A * a)) := by grind
    rw [this, ia, ib]; grind
  rw [e, h]
  have : (A * B * (A * B) + d * (X * Y) * (X * Y)) * (a * a * (b * b)) = ((A * a) * (A * a)) * ((B * b) * (B * b)) + d * (X * a * (X * a)) * (Y * b * (Y * b)) := by grind
  rw [this, ia, ib]; grind

theorem assoc_x {x1 y1 x2 y2 x3 y3 : F} (h1 : x1 * x1 + y1 * y1 - 1 - d * (x1 * x1) * (y1 * y1) = 0) (h2 : x2 * x2 + y2 * y2 - 1 - d * (x2 * x2) * (y2 * y2) = 0) (h3 : x3 * x3 + y3 * y3 - 1 - d * (x3 * x3) * (y3 * y3) = 0) :
    ((x1 * y2 + y1 * x2) * (1 - d * x1 * x2 * y1 * y2) * y3 + (y1 * y2 - x1 * x2) * (1 + d * x1 * x2 * y1 * y2) * x3) * ((1 + d * x2 * x3 * y2 * y3) * (1 - d * x2 * x3 * y2 * y3) + d * (x2 * y3 + y2 * x3) * (y2 * y3 - x2 * x3) * x1 * y1) = ((x2 * y3 + y2 * x3) * (1 - d * x2 * x3 * y2 * y3) * y1 + (y2 * y3 - x2 * x3) * (1 + d * x2 * x3 * y2 * y3) * x1) * ((1 + d * x1 * x2 * y1 * y2) * (1 - d * x1 * x2 * y1 * y2) + d * (x1 * y2 + y1 * x2) * (y1 * y2 - x1 * x2) * x3 * y3) := by
  refine eq_of_sub ?_
  have key : ((x1 * y2 + y1 * x2) * (1 - d * x1 * x2 * y1 * y2) * y3 + (y1 * y2 - x1 * x2) * (1 + d * x1 * x2 * y1 * y2) * x3) * ((1 + d * x2 * x3 * y2 * y3) * (1 - d * x2 * x3 * y2 * y3) + d * (x2 * y3 + y2 * x3) * (y2 * y3 - x2 * x3) * x1 * y1) - ((x2 * y3 + y2 * x3) * (1 - d * x2 * x3 * y2 * y3) * y1 + (y2 * y3 - x2 * x3) * (1 + d * x2 * x3 * y2 * y3) * x1) * ((1 + d * x1 * x2 * y1 * y2) * (1 - d * x1 * x2 * y1 * y2) + d * (x1 * y2 + y1 * x2) * (y1 * y2 - x1 * x2) * x3 * y3)
      = (0 + x1 * x2 * x2 * x2 * x2 * y2 * y2 * y2 * x3 * x3 * y3 * d * d - x1 * x2 * x2 * x2 * x2 * y2 * x3 * x3 * y3 * d - x1 * x2 * x2 * x2 * y2 * y2 * y2 * y2 * x3 * y3 * y3 * d * d - x1 * x2 * x2 * x2 * y2 * y2 * x3 * x3 * x3 * d + x1 * x2 * x2 * x2 * y2 * y2 * x3 * d + x1 * x2 * x2 * y2 * y2 * y2 * y3 * y3 * y3 * d - x1 * x2 * x2 * y2 * y2 * y2 * y3 * d + x1 * x2 * y2 * y2 * y2 * y2 * x3 * y3 * y3 * d + y1 * x2 * x2 * x2 * x2 * y2 * y2 * y2 * x3 * y3 * y3 * d * d - y1 * x2 * x2 * x2 * x2 * y2 * x3 * y3 * y3 * d + y1 * x2 * x2 * x2 * y2 * y2 * y2 * y2 * x3 * x3 * y3 * d * d + y1 * x2 * x2 * x2 * y2 * y2 * y3 * y3 * y3 * d - y1 * x2 * x2 * x2 * y2 * y2 * y3 * d + y1 * x2 * x2 * y2 * y2 * y2 * x3 * x3 * x3 * d - y1 * x2 * x2 * y2 * y2 * y2 * x3 * d - y1 * x2 * y2 * y2 * y2 * y2 * x3 * x3 * y3 * d) * (x1 * x1 + y1 * y1 - 1 - d * (x1 * x1) * (y1 * y1)) + (0 + x1 * x1 * x1 * x2 * x2 * y2 * x3 * x3 * y3 * d - x1 * x1 * x1 * x2 * y2 * y2 * x3 * y3 * y3 * d + x1 * x1 * x1 * x2 * x3 * x3 * x3 * y3 * y3 * d - x1 * x1 * x1 * x2 * x3 * x3 * x3 - x1 * x1 * x1 * x2 * x3 * y3 * y3 + x1 * x1 * x1 * x2 * x3 - x1 * x1 * x1 * y2 * x3 * x3 * y3 * y3 * y3 * d + x1 * x1 * x1 * y2 * x3 * x3 * y3 + x1 * x1 * x1 * y2 * y3 * y3 * y3 - x1 * x1 * x1 * y2 * y3 - x1 * x1 * y1 * x2 * x2 * y2 * x3 * x3 * x3 * y3 * y3 * d * d + x1 * x1 * y1 * x2 * x2 * y2 * x3 * y3 * y3 * d - x1 * x1 * y1 * x2 * y2 * y2 * x3 * x3 * y3 * y3 * y3 * d * d + x1 * x1 * y1 * x2 * y2 * y2 * x3 * x3 * y3 * d - x1 * x1 * y1 * x2 * x3 * x3 * y3 * y3 * y3 * d + x1 * x1 * y1 * x2 * x3 * x3 * y3 + x1 * x1 * y1 * x2 * y3 * y3 * y3 - x1 * x1 * y1 * x2 * y3 - x1 * x1 * y1 * y2 * x3 * x3 * x3 * y3 * y3 * d + x1 * x1 * y1 * y2 * x3 * x3 * x3 + x1 * x1 * y1 * y2 * x3 * y3 * y3 - x1 * x1 * y1 * y2 * x3 - x1 * y1 * y1 * x2 * x2 * y2 * x3 * x3 * y3 * y3 * y3 * d * d + x1 * y1 * y1 * x2 * x2 * y2 * x3 * x3 * y3 * d + x1 * y1 * y1 * x2 * y2 * y2 * x3 * x3 * x3 * y3 * y3 * d * d - x1 * y1 * y1 * x2 * y2 * y2 * x3 * y3 * y3 * d + x1 * y1 * y1 * x2 * x3 * x3 * x3 * y3 * y3 * d - x1 * y1 * y1 * x2 * x3 * x3 * x3 - x1 * y1 * y1 * x2 * x3 * y3 * y3 + x1 * y1 * y1 * x2 * x3 - x1 * y1 * y1 * y2 * x3 * x3 * y3 * y3 * y3 * d + x1 * y1 * y1 * y2 * x3 * x3 * y3 + x1 * y1 * y1 * y2 * y3 * y3 * y3 - x1 * y1 * y1 * y2 * y3 - x1 * x2 * x2 * y2 * x3 * x3 * y3 * d + x1 * x2 * y2 * y2 * x3 * y3 * y3 * d - x1 * x2 * x3 * x3 * x3 * y3 * y3 * d + x1 * x2 * x3 * x3 * x3 + x1 * x2 * x3 * y3 * y3 - x1 * x2 * x3 + x1 * y2 * x3 * x3 * y3 * y3 * y3 * d - x1 * y2 * x3 * x3 * y3 - x1 * y2 * y3 * y3 * y3 + x1 * y2 * y3 + y1 * y1 * y1 * x2 * x2 * y2 * x3 * y3 * y3 * d + y1 * y1 * y1 * x2 * y2 * y2 * x3 * x3 * y3 * d - y1 * y1 * y1 * x2 * x3 * x3 * y3 * y3 * y3 * d + y1 * y1 * y1 * x2 * x3 * x3 * y3 + y1 * y1 * y1 * x2 * y3 * y3 * y3 - y1 * y1 * y1 * x2 * y3 - y1 * y1 * y1 * y2 * x3 * x3 * x3 * y3 * y3 * d + y1 * y1 * y1 * y2 * x3 * x3 * x3 + y1 * y1 * y1 * y2 * x3 * y3 * y3 - y1 * y1 * y1 * y2 * x3 - y1 * x2 * x2 * y2 * x3 * y3 * y3 * d - y1 * x2 * y2 * y2 * x3 * x3 * y3 * d + y1 * x2 * x3 * x3 * y3 * y3 * y3 * d - y1 * x2 * x3 * x3 * y3 - y1 * x2 * y3 * y3 * y3 + y1 * x2 * y3 + y1 * y2 * x3 * x3 * x3 * y3 * y3 * d - y1 * y2 * x3 * x3 * x3 - y1 * y2 * x3 * y3 * y3 + y1 * y2 * x3) * (x2 * x2 + y2 * y2 - 1 - d * (x2 * x2) * (y2 * y2)) + (0 + x1 * x1 * x1 * x2 * x2 * x2 * x3 - x1 * x1 * x1 * x2 * x2 * y2 * y3 + x1 * x1 * x1 * x2 * y2 * y2 * x3 - x1 * x1 * x1 * x2 * x3 - x1 * x1 * x1 * y2 * y2 * y2 * y3 + x1 * x1 * x1 * y2 * y3 - x1 * x1 * y1 * x2 * x2 * x2 * y3 + x1 * x1 * y1 * x2 * x2 * y2 * x3 * d - x1 * x1 * y1 * x2 * x2 * y2 * x3 + x1 * x1 * y1 * x2 * y2 * y2 * y3 * d - x1 * x1 * y1 * x2 * y2 * y2 * y3 + x1 * x1 * y1 * x2 * y3 - x1 * x1 * y1 * y2 * y2 * y2 * x3 + x1 * x1 * y1 * y2 * x3 + x1 * y1 * y1 * x2 * x2 * x2 * x3 + x1 * y1 * y1 * x2 * x2 * y2 * y3 * d - x1 * y1 * y1 * x2 * x2 * y2 * y3 - x1 * y1 * y1 * x2 * y2 * y2 * x3 * d + x1 * y1 * y1 * x2 * y2 * y2 * x3 - x1 * y1 * y1 * x2 * x3 - x1 * y1 * y1 * y2 * y2 * y2 * y3 + x1 * y1 * y1 * y2 * y3 - x1 * x2 * x2 * x2 * x3 + x1 * x2 * x2 * y2 * y3 - x1 * x2 * y2 * y2 * x3 + x1 * x2 * x3 + x1 * y2 * y2 * y2 * y3 - x1 * y2 * y3 - y1 * y1 * y1 * x2 * x2 * x2 * y3 - y1 * y1 * y1 * x2 * x2 * y2 * x3 - y1 * y1 * y1 * x2 * y2 * y2 * y3 + y1 * y1 * y1 * x2 * y3 - y1 * y1 * y1 * y2 * y2 * y2 * x3 + y1 * y1 * y1 * y2 * x3 + y1 * x2 * x2 * x2 * y3 + y1 * x2 * x2 * y2 * x3 + y1 * x2 * y2 * y2 * y3 - y1 * x2 * y3 + y1 * y2 * y2 * y2 * x3 - y1 * y2 * x3) * (x3 * x3 + y3 * y3 - 1 - d * (x3 * x3) * (y3 * y3)) := by clear h1 h2 h3; grind
  rw [key, h1, h2, h3]; exact z3 _ _ _
theorem assoc_y {x1 y1 x2 y2 x3 y3 : F} (h1 : x1 * x1 + y1 * y1 - 1 - d * (x1 * x1) * (y1 * y1) = 0) (h2 : x2 * x2 + y2 * y2 - 1 - d * (x2 * x2) * (y2 * y2) = 0) (h3 : x3 * x3 + y3 * y3 - 1 - d * (x3 * x3) * (y3 * y3) = 0) :
    ((y1 * y2 - x1 * x2) * (1 + d * x1 * x2 * y1 * y2) * y3 - (x1 * y2 + y1 * x2) * (1 - d * x1 * x2 * y1 * y2) * x3) * ((1 + d * x2 * x3 * y2 * y3) * (1 - d * x2 * x3 * y2 * y3) - d * (x2 * y3 + y2 * x3) * (y2 * y3 - x2 * x3) * x1 * y1) = ((y2 * y3 - x2 * x3) * (1 + d * x2 * x3 * y2 * y3) * y1 - (x2 * y3 + y2 * x3) * (1 - d * x2 * x3 * y2 * y3) * x1) * ((1 + d * x1 * x2 * y1 * y2) * (1 - d * x1 * x2 * y1 * y2) - d * (x1 * y2 + y1 * x2) * (y1 * y2 - x1 * x2) * x3 * y3) := by
  refine eq_of_sub ?_
  have key : ((y1 * y2 - x1 * x2) * (1 + d * x1 * x2 * y1 * y2) * y3 - (x1 * y2 + y1 * x2) * (1 - d * x1 * x2 * y1 * y2) * x3) * ((1 + d * x2 * x3 * y2 * y3) * (1 - d * x2 * x3 * y2 * y3) - d * (x2 * y3 + y2 * x3) * (y2 * y3 - x2 * x3) * x1 * y1) - ((y2 * y3 - x2 * x3) * (1 + d * x2 * x3 * y2 * y3) * y1 - (x2 * y3 + y2 * x3) * (1 - d * x2 * x3 * y2 * y3) * x1) * ((1 + d * x1 * x2 * y1 * y2) * (1 - d * x1 * x2 * y1 * y2) - d * (x1 * y2 + y1 * x2) * (y1 * y2 - x1 * x2) * x3 * y3)
      = (0 - x1 * x2 * x2 * x2 * x2 * y2 * y2 * y2 * x3 * y3 * y3 * d * d + x1 * x2 * x2 * x2 * x2 * y2 * x3 * y3 * y3 * d - x1 * x2 * x2 * x2 * y2 * y2 * y2 * y2 * x3 * x3 * y3 * d * d - x1 * x2 * x2 * x2 * y2 * y2 * y3 * y3 * y3 * d + x1 * x2 * x2 * x2 * y2 * y2 * y3 * d - x1 * x2 * x2 * y2 * y2 * y2 * x3 * x3 * x3 * d + x1 * x2 * x2 * y2 * y2 * y2 * x3 * d + x1 * x2 * y2 * y2 * y2 * y2 * x3 * x3 * y3 * d + y1 * x2 * x2 * x2 * x2 * y2 * y2 * y2 * x3 * x3 * y3 * d * d - y1 * x2 * x2 * x2 * x2 * y2 * x3 * x3 * y3 * d - y1 * x2 * x2 * x2 * y2 * y2 * y2 * y2 * x3 * y3 * y3 * d * d - y1 * x2 * x2 * x2 * y2 * y2 * x3 * x3 * x3 * d + y1 * x2 * x2 * x2 * y2 * y2 * x3 * d + y1 * x2 * x2 * y2 * y2 * y2 * y3 * y3 * y3 * d - y1 * x2 * x2 * y2 * y2 * y2 * y3 * d + y1 * x2 * y2 * y2 * y2 * y2 * x3 * y3 * y3 * d) * (x1 * x1 + y1 * y1 - 1 - d * (x1 * x1) * (y1 * y1)) + (0 - x1 * x1 * x1 * x2 * x2 * y2 * x3 * y3 * y3 * d - x1 * x1 * x1 * x2 * y2 * y2 * x3 * x3 * y3 * d + x1 * x1 * x1 * x2 * x3 * x3 * y3 * y3 * y3 * d - x1 * x1 * x1 * x2 * x3 * x3 * y3 - x1 * x1 * x1 * x2 * y3 * y3 * y3 + x1 * x1 * x1 * x2 * y3 + x1 * x1 * x1 * y2 * x3 * x3 * x3 * y3 * y3 * d - x1 * x1 * x1 * y2 * x3 * x3 * x3 - x1 * x1 * x1 * y2 * x3 * y3 * y3 + x1 * x1 * x1 * y2 * x3 - x1 * x1 * y1 * x2 * x2 * y2 * x3 * x3 * y3 * y3 * y3 * d * d + x1 * x1 * y1 * x2 * x2 * y2 * x3 * x3 * y3 * d + x1 * x1 * y1 * x2 * y2 * y2 * x3 * x3 * x3 * y3 * y3 * d * d - x1 * x1 * y1 * x2 * y2 * y2 * x3 * y3 * y3 * d + x1 * x1 * y1 * x2 * x3 * x3 * x3 * y3 * y3 * d - x1 * x1 * y1 * x2 * x3 * x3 * x3 - x1 * x1 * y1 * x2 * x3 * y3 * y3 + x1 * x1 * y1 * x2 * x3 - x1 * x1 * y1 * y2 * x3 * x3 * y3 * y3 * y3 * d + x1 * x1 * y1 * y2 * x3 * x3 * y3 + x1 * x1 * y1 * y2 * y3 * y3 * y3 - x1 * x1 * y1 * y2 * y3 + x1 * y1 * y1 * x2 * x2 * y2 * x3 * x3 * x3 * y3 * y3 * d * d - x1 * y1 * y1 * x2 * x2 * y2 * x3 * y3 * y3 * d + x1 * y1 * y1 * x2 * y2 * y2 * x3 * x3 * y3 * y3 * y3 * d * d - x1 * y1 * y1 * x2 * y2 * y2 * x3 * x3 * y3 * d + x1 * y1 * y1 * x2 * x3 * x3 * y3 * y3 * y3 * d - x1 * y1 * y1 * x2 * x3 * x3 * y3 - x1 * y1 * y1 * x2 * y3 * y3 * y3 + x1 * y1 * y1 * x2 * y3 + x1 * y1 * y1 * y2 * x3 * x3 * x3 * y3 * y3 * d - x1 * y1 * y1 * y2 * x3 * x3 * x3 - x1 * y1 * y1 * y2 * x3 * y3 * y3 + x1 * y1 * y1 * y2 * x3 + x1 * x2 * x2 * y2 * x3 * y3 * y3 * d + x1 * x2 * y2 * y2 * x3 * x3 * y3 * d - x1 * x2 * x3 * x3 * y3 * y3 * y3 * d + x1 * x2 * x3 * x3 * y3 + x1 * x2 * y3 * y3 * y3 - x1 * x2 * y3 - x1 * y2 * x3 * x3 * x3 * y3 * y3 * d + x1 * y2 * x3 * x3 * x3 + x1 * y2 * x3 * y3 * y3 - x1 * y2 * x3 + y1 * y1 * y1 * x2 * x2 * y2 * x3 * x3 * y3 * d - y1 * y1 * y1 * x2 * y2 * y2 * x3 * y3 * y3 * d + y1 * y1 * y1 * x2 * x3 * x3 * x3 * y3 * y3 * d - y1 * y1 * y1 * x2 * x3 * x3 * x3 - y1 * y1 * y1 * x2 * x3 * y3 * y3 + y1 * y1 * y1 * x2 * x3 - y1 * y1 * y1 * y2 * x3 * x3 * y3 * y3 * y3 * d + y1 * y1 * y1 * y2 * x3 * x3 * y3 + y1 * y1 * y1 * y2 * y3 * y3 * y3 - y1 * y1 * y1 * y2 * y3 - y1 * x2 * x2 * y2 * x3 * x3 * y3 * d + y1 * x2 * y2 * y2 * x3 * y3 * y3 * d - y1 * x2 * x3 * x3 * x3 * y3 * y3 * d + y1 * x2 * x3 * x3 * x3 + y1 * x2 * x3 * y3 * y3 - y1 * x2 * x3 + y1 * y2 * x3 * x3 * y3 * y3 * y3 * d - y1 * y2 * x3 * x3 * y3 - y1 * y2 * y3 * y3 * y3 + y1 * y2 * y3) * (x2 * x2 + y2 * y2 - 1 - d * (x2 * x2) * (y2 * y2)) + (0 + x1 * x1 * x1 * x2 * x2 * x2 * y3 + x1 * x1 * x1 * x2 * x2 * y2 * x3 + x1 * x1 * x1 * x2 * y2 * y2 * y3 - x1 * x1 * x1 * x2 * y3 + x1 * x1 * x1 * y2 * y2 * y2 * x3 - x1 * x1 * x1 * y2 * x3 + x1 * x1 * y1 * x2 * x2 * x2 * x3 + x1 * x1 * y1 * x2 * x2 * y2 * y3 * d - x1 * x1 * y1 * x2 * x2 * y2 * y3 - x1 * x1 * y1 * x2 * y2 * y2 * x3 * d + x1 * x1 * y1 * x2 * y2 * y2 * x3 - x1 * x1 * y1 * x2 * x3 - x1 * x1 * y1 * y2 * y2 * y2 * y3 + x1 * x1 * y1 * y2 * y3 + x1 * y1 * y1 * x2 * x2 * x2 * y3 - x1 * y1 * y1 * x2 * x2 * y2 * x3 * d + x1 * y1 * y1 * x2 * x2 * y2 * x3 - x1 * y1 * y1 * x2 * y2 * y2 * y3 * d + x1 * y1 * y1 * x2 * y2 * y2 * y3 - x1 * y1 * y1 * x2 * y3 + x1 * y1 * y1 * y2 * y2 * y2 * x3 - x1 * y1 * y1 * y2 * x3 - x1 * x2 * x2 * x2 * y3 - x1 * x2 * x2 * y2 * x3 - x1 * x2 * y2 * y2 * y3 + x1 * x2 * y3 - x1 * y2 * y2 * y2 * x3 + x1 * y2 * x3 + y1 * y1 * y1 * x2 * x2 * x2 * x3 - y1 * y1 * y1 * x2 * x2 * y2 * y3 + y1 * y1 * y1 * x2 * y2 * y2 * x3 - y1 * y1 * y1 * x2 * x3 - y1 * y1 * y1 * y2 * y2 * y2 * y3 + y1 * y1 * y1 * y2 * y3 - y1 * x2 * x2 * x2 * x3 + y1 * x2 * x2 * y2 * y3 - y1 * x2 * y2 * y2 * x3 + y1 * x2 * x3 + y1 * y2 * y2 * y2 * y3 - y1 * y2 * y3) * (x3 * x3 + y3 * y3 - 1 - d * (x3 * x3) * (y3 * y3)) := by clear h1 h2 h3; grind
  rw [key, h1, h2, h3]; exact z3 _ _ _

/-- A sum of a sum as one fraction. -/
theorem left_form {X A Y B x3 y3 : F} (hA : A ≠ 0) (hB : B ≠ 0) :
    add d (X * inv A, Y * inv B) (x3, y3) = ((X * B * y3 + Y * A * x3) * inv (A * B + d * X * Y * x3 * y3), (Y * A * y3 - X * B * x3) * inv (A * B - d * X * Y * x3 * y3)) := by
  have ia := mul_inv hA
  have ib := mul_inv hB
  simp only [add]
  have hAB := mul_ne hA hB
  refine Prod.ext ?_ ?_
  · show (X * inv A * y3 + Y * inv B * x3) * inv (1 + d * (X * inv A) * x3 * (Y * inv B) * y3) = _
    rw [div_scale hAB]
    have e1 : (X * inv A * y3 + Y * inv B * x3) * (A * B) = X * (A * inv A) * B * y3 + Y * (B * inv B) * A * x3 := by grind
    have e2 : (1 + d * (X * inv A) * x3 * (Y * inv B) * y3) * (A * B) = A * B + d * X * (A * inv A) * Y * (B * inv B) * x3 * y3 := by grind
    rw [e1, e2, ia, ib]
    have e3 : X * 1 * B * y3 + Y * 1 * A * x3 = X * B * y3 + Y * A * x3 := by grind
    have e4 : A * B + d * X * 1 * Y * 1 * x3 * y3 = A * B + d * X * Y * x3 * y3 := by grind
    rw [e3, e4]
  · show (Y * inv B * y3 - X * inv A * x3) * inv (1 - d * (X * inv A) * x3 * (Y * inv B) * y3) = _
    rw [div_scale hAB]
    have e1 : (Y * inv B * y3 - X * inv A * x3) * (A * B) = Y * (B * inv B) * A * y3 - X * (A * inv A) * B * x3 := by grind
    have e2 : (1 - d * (X * inv A) * x3 * (Y * inv B) * y3) * (A * B) = A * B - d * X * (A * inv A) * Y * (B * inv B) * x3 * y3 := by grind
    rw [e1, e2, ia, ib]
    have e3 : Y * 1 * A * y3 - X * 1 * B * x3 = Y * A * y3 - X * B * x3 := by grind
    have e4 : A * B - d * X * 1 * Y * 1 * x3 * y3 = A * B - d * X * Y * x3 * y3 := by grind
    rw [e3, e4]

/-- The denominators of a sum of a sum. -/
theorem left_dens (hd : NonSq d) {X A Y B x3 y3 : F} (hA : A ≠ 0) (hB : B ≠ 0) (h : On d (X * inv A) (Y * inv B)) (h3 : On d x3 y3) : A * B + d * X * Y * x3 * y3 ≠ 0 ∧ A * B - d * X * Y * x3 * y3 ≠ 0 := by
  obtain ⟨a, b⟩ := dens hd h h3
  have hAB := mul_ne hA hB
  have ia := mul_inv hA
  have ib := mul_inv hB
  have e2 : (1 + d * (X * inv A) * x3 * (Y * inv B) * y3) * (A * B) = A * B + d * X * (A * inv A) * Y * (B * inv B) * x3 * y3 := by grind
  have e2' : (1 - d * (X * inv A) * x3 * (Y * inv B) * y3) * (A * B) = A * B - d * X * (A * inv A) * Y * (B * inv B) * x3 * y3 := by grind
  have f := mul_ne a hAB
  have g := mul_ne b hAB
  rw [e2, ia, ib] at f
  rw [e2', ia, ib] at g
  exact ⟨fun h => f (by grind), fun h => g (by grind)⟩

theorem add_assoc (hd : NonSq d) {p q r : F × F} (hp : On d p.1 p.2) (hq : On d q.1 q.2) (hr : On d r.1 r.2) : add d (add d p q) r = add d p (add d q r) := by
  rw [add_comm p (add d q r)]
  have o1 := add_on hd hp hq
  have o2 := add_on hd hq hr
  obtain ⟨x1, y1⟩ := p
  obtain ⟨x2, y2⟩ := q
  obtain ⟨x3, y3⟩ := r
  obtain ⟨a1, b1⟩ := dens hd hp hq
  obtain ⟨a2, b2⟩ := dens hd hq hr
  obtain ⟨c1, c2⟩ := left_dens hd a1 b1 o1 hr
  obtain ⟨c3, c4⟩ := left_dens hd a2 b2 o2 hp
  have l1 := left_form (d := d) (X := x1 * y2 + y1 * x2) (Y := y1 * y2 - x1 * x2) (x3 := x3) (y3 := y3) a1 b1
  have l2 := left_form (d := d) (X := x2 * y3 + y2 * x3) (Y := y2 * y3 - x2 * x3) (x3 := x1) (y3 := y1) a2 b2
  refine l1.trans (Eq.trans ?_ l2.symm)
  have s1 := on_sub hp
  have s2 := on_sub hq
  have s3 := on_sub hr
  exact Prod.ext (div_eq c1 c3 (assoc_x s1 s2 s3)) (div_eq c2 c4 (assoc_y s1 s2 s3))

theorem neg_add (hd : NonSq d) {p : F × F} (hp : On d p.1 p.2) : add d (neg p) p = zero := by
  obtain ⟨x, y⟩ := p
  obtain ⟨a, b⟩ := dens hd (neg_on hp) hp
  simp only [neg] at a b
  simp only [add, neg, zero]
  refine Prod.ext ?_ ?_
  · show (-x * y + y * x) * _ = 0
    have : -x * y + y * x = 0 := by grind
    rw [this]; grind
  · show (y * y - -x * x) * inv (1 - d * -x * x * y * y) = 1
    have : y * y - -x * x = 1 - d * -x * x * y * y := by
      have := on_sub hp
      simp only [] at this
      grind
    rw [this]; exact mul_inv b

/-- n times a point. -/
def mul (d : F) (p : F × F) : Nat → F × F
  | 0 => zero
  | n + 1 => add d (mul d p n) p

theorem mul_on (hd : NonSq d) {p : F × F} (hp : On d p.1 p.2) : ∀ n, On d (mul d p n).1 (mul d p n).2
  | 0 => zero_on
  | n + 1 => add_on hd (mul_on hd hp n) hp
theorem mul_one (p : F × F) : mul d p 1 = p := by
  show add d zero p = p
  rw [add_comm, add_zero]
theorem mul_add (hd : NonSq d) {p : F × F} (hp : On d p.1 p.2) (m : Nat) : ∀ n, mul d p (m + n) = add d (mul d p m) (mul d p n)
  | 0 => by rw [Nat.add_zero]; exact add_zero.symm
  | n + 1 => by
    rw [← Nat.add_assoc]
    show add d (mul d p (m + n)) p = add d (mul d p m) (add d (mul d p n) p)
    rw [mul_add hd hp m n, add_assoc hd (mul_on hd hp m) (mul_on hd hp n) hp]
theorem mul_mul (hd : NonSq d) {p : F × F} (hp : On d p.1 p.2) (m : Nat) : ∀ n, mul d (mul d p m) n = mul d p (m * n)
  | 0 => rfl
  | n + 1 => by
    show add d (mul d (mul d p m) n) (mul d p m) = _
    rw [mul_mul hd hp m n, ← mul_add hd hp, Nat.mul_succ]
theorem mul_swap (hd : NonSq d) {p : F × F} (hp : On d p.1 p.2) (m n : Nat) : mul d (mul d p m) n = mul d (mul d p n) m := by
  rw [mul_mul hd hp, mul_mul hd hp, Nat.mul_comm]
theorem mul_zero_pt : ∀ n, mul d zero n = zero
  | 0 => rfl
  | n + 1 => by show add d (mul d zero n) zero = zero; rw [add_zero, mul_zero_pt n]
end
end Edw
end Go.Proofs.Ytciakfhjjnmeeaa
