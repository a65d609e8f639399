/- The plain ladder: its steps as doublings and sums of points of an Edwards curve. No program in sight. -/
import Derived.Test.YtciakfhjjnmeeaaEdw
namespace Go.Proofs.Ytciakfhjjnmeeaa
namespace Edw
open Nt

/-- Doubling of x/z. -/
def dbl (p : F × F) : F × F :=
  let aa := (p.1 + p.2) * (p.1 + p.2)
  let bb := (p.1 - p.2) * (p.1 - p.2)
  (aa * bb, (aa - bb) * (aa + (aa - bb) * 121665))
/-- The sum of two whose difference is x1. -/
def dad (x1 : F) (p q : F × F) : F × F :=
  let da := (q.1 - q.2) * (p.1 + p.2)
  let cb := (q.1 + q.2) * (p.1 - p.2)
  ((da + cb) * (da + cb), x1 * ((da - cb) * (da - cb)))
/-- A step. -/
def stp (x1 : F) (b : Bool) (s : (F × F) × (F × F)) : (F × F) × (F × F) := if b then (dad x1 s.1 s.2, dbl s.2) else (dbl s.1, dad x1 s.1 s.2)
/-- The bits of V from t - 1 down to 0. -/
def lad (x1 : F) (V : Nat) : Nat → (F × F) × (F × F) → (F × F) × (F × F)
  | 0, s => s
  | t + 1, s => lad x1 V t (stp x1 (decide (V / 2 ^ t % 2 = 1)) s)
/-- The product. -/
def prod (V : Nat) (x1 : F) : F := let s := lad x1 V 255 ((1, 0), (x1, 1)); s.1.1 * inv s.1.2

/-- (X : Z) stands for a point, by (1 + y) : g (1 - y). -/
def Rep (g : F) (s p : F × F) : Prop := ∃ l, l ≠ 0 ∧ s.1 = l * (1 + p.2) ∧ s.2 = l * (g * (1 - p.2))

theorem Rep.mk {g : F} (hg : g * g = 1) {s p : F × F} (h0 : ¬ (s.1 = 0 ∧ s.2 = 0)) (h : s.1 * (g * (1 - p.2)) = s.2 * (1 + p.2)) : Rep g s p := by
  obtain ⟨X, Z⟩ := s
  obtain ⟨x, y⟩ := p
  simp only [] at *
  by_cases hy : 1 + y = 0
  · have h2 : X * (g * 2) = 0 := by
      have : g * (1 - y) = g * 2 := by grind
      rw [this, hy] at h; rw [h]; grind
    have hX : X = 0 := by
      have : X * (g * 2) * g = 2 * X * (g * g) := by grind
      rw [h2, hg] at this
      have h3 : 2 * X = 0 := by grind
      exact (mul_eq_zero h3).resolve_left two_ne
    have hi := mul_inv two_ne
    refine ⟨Z * g * inv 2, fun e => h0 ⟨hX, ?_⟩, by show X = _ * (1 + y); rw [hX, hy]; grind, ?_⟩
    · have : Z * g * inv 2 * 2 * g = Z * (g * g) * (2 * inv 2) := by grind
      rw [e, hg, hi] at this; grind
    · show Z = Z * g * inv 2 * (g * (1 - y))
      have : Z * g * inv 2 * (g * (1 - y)) = Z * (g * g) * (2 * inv 2) := by
        have e2 : 1 - y = 2 := by grind
        rw [e2]; grind
      rw [this, hg, hi]; grind
  · have hi := mul_inv hy
    have e1 : X = X * inv (1 + y) * (1 + y) := by
      have : X * inv (1 + y) * (1 + y) = X * ((1 + y) * inv (1 + y)) := by grind
      rw [this, hi]; grind
    refine ⟨X * inv (1 + y), fun e => ?_, e1, ?_⟩
    · rw [e] at e1
      have hX : X = 0 := by grind
      rw [hX] at h
      have h1 : Z * (1 + y) = 0 := by grind
      exact h0 ⟨hX, (mul_eq_zero h1).resolve_right hy⟩
    · show Z = X * inv (1 + y) * (g * (1 - y))
      have : X * inv (1 + y) * (g * (1 - y)) = X * (g * (1 - y)) * inv (1 + y) := by grind
      rw [this, h]
      have : Z * (1 + y) * inv (1 + y) = Z * ((1 + y) * inv (1 + y)) := by grind
      rw [this, hi]; grind

/-- The affine number of a point, 0 for the neutral one. -/
def uo (g : F) (p : F × F) : F := (1 + p.2) * inv (g * (1 - p.2))
theorem Rep.out {g : F} {s p : F × F} (h : Rep g s p) : s.1 * inv s.2 = uo g p := by
  obtain ⟨l, hl, h1, h2⟩ := h
  have := mul_inv hl
  rw [h1, h2, inv_mul_distrib, uo]
  have e : l * (1 + p.2) * (inv l * inv (g * (1 - p.2))) = (l * inv l) * ((1 + p.2) * inv (g * (1 - p.2))) := by grind
  rw [e, this]; grind

/-- Which curve: the sign, and what d is. -/
def Kind (g d : F) : Prop := g = 1 ∧ 121666 * d = 121665 ∨ g = -1 ∧ 121665 * d = 121666
theorem Kind.sq {g d : F} (h : Kind g d) : g * g = 1 := by rcases h with ⟨rfl, _⟩ | ⟨rfl, _⟩ <;> grind
theorem n121666 : (121666 : F) ≠ 0 := by decide
theorem n121665 : (121665 : F) ≠ 0 := by decide
theorem n16 : (16 : F) ≠ 0 := by decide

section
variable {g d : F}

theorem dbl_rep (hk : Kind g d) (hd : NonSq d) {s p : F × F} (hp : On d p.1 p.2) (h : Rep g s p) : Rep g (dbl s) (add d p p) := by
  obtain ⟨l, hl, h1, h2⟩ := h
  obtain ⟨X, Z⟩ := s
  obtain ⟨x, y⟩ := p
  obtain ⟨dA, dB⟩ := dens hd hp hp
  have on := on_sub hp
  simp only [] at h1 h2 dA dB on
  have hy' : (add d (x, y) (x, y)).2 * (1 - d * x * x * y * y) = y * y - x * x := div_self_mul dB
  have hB : 1 - d * x * x * y * y = 2 - x * x - y * y := by
    have : 1 - d * x * x * y * y = 2 - x * x - y * y + (x * x + y * y - 1 - d * (x * x) * (y * y)) := by grind
    rw [this, on]; grind
  rw [hB] at hy' dB
  subst h1 h2
  have l4 : 16 * (l * l * l * l) ≠ 0 := mul_ne n16 (mul_ne (mul_ne (mul_ne hl hl) hl) hl)
  rcases hk with ⟨rfl, hk⟩ | ⟨rfl, hk⟩
  · have hK : y * y - (121666 - 121665 * (y * y)) * (1 - x * x) = 0 := by
      have : y * y - (121666 - 121665 * (y * y)) * (1 - x * x) = 121666 * (x * x + y * y - 1 - d * (x * x) * (y * y)) + (121666 * d - 121665) * ((x * x) * (y * y)) := by clear hy' on; grind
      rw [this, on, hk]; grind
    have e : dbl (l * (1 + y), l * (1 * (1 - y))) = (16 * (l * l * l * l) * (y * y), 16 * (l * l * l * l) * ((1 - y * y) * (1 + (1 - y * y) * 121665))) := Prod.ext (by simp only [dbl]; clear hy' on hK; grind) (by simp only [dbl]; clear hy' on hK; grind)
    rw [e]
    refine Rep.mk (by grind) ?_ ?_
    · rintro ⟨a, b⟩
      simp only [] at a b
      have hy := (mul_eq_zero a).resolve_left l4
      rw [hy] at b
      have : 16 * (l * l * l * l) * ((1 - 0) * (1 + (1 - 0) * 121665)) = 16 * (l * l * l * l) * 121666 := by clear hy' on hK; grind
      rw [this] at b
      exact mul_ne l4 n121666 b
    · generalize (add d (x, y) (x, y)).2 = y' at *
      simp only []
      refine eq_of_sub ((mul_eq_zero (b := 2 - x * x - y * y) ?_).resolve_right dB)
      have e2 : (16 * (l * l * l * l) * (y * y) * (1 * (1 - y')) - 16 * (l * l * l * l) * ((1 - y * y) * (1 + (1 - y * y) * 121665)) * (1 + y')) * (2 - x * x - y * y)
        = 16 * (l * l * l * l) * ((y * y) * ((2 - x * x - y * y) - y' * (2 - x * x - y * y)) - ((1 - y * y) * (1 + (1 - y * y) * 121665)) * ((2 - x * x - y * y) + y' * (2 - x * x - y * y))) := by clear hy' on hK; grind
      rw [e2, hy']
      have e3 : (y * y) * ((2 - x * x - y * y) - (y * y - x * x)) - ((1 - y * y) * (1 + (1 - y * y) * 121665)) * ((2 - x * x - y * y) + (y * y - x * x)) = 2 * (1 - y * y) * (y * y - (121666 - 121665 * (y * y)) * (1 - x * x)) := by clear hy' on hK; grind
      rw [e3, hK]; clear hy' on hK; grind
  · have hK : y * y - (121666 * (y * y) - 121665) * (1 - x * x) = 0 := by
      have : y * y - (121666 * (y * y) - 121665) * (1 - x * x) = -(121665 * (x * x + y * y - 1 - d * (x * x) * (y * y))) + (121666 - 121665 * d) * ((x * x) * (y * y)) := by clear hy' on; grind
      rw [this, on, hk]; grind
    have e : dbl (l * (1 + y), l * (-1 * (1 - y))) = (16 * (l * l * l * l) * (y * y), 16 * (l * l * l * l) * ((y * y - 1) * (y * y + (y * y - 1) * 121665))) := Prod.ext (by simp only [dbl]; clear hy' on hK; grind) (by simp only [dbl]; clear hy' on hK; grind)
    rw [e]
    refine Rep.mk (by grind) ?_ ?_
    · rintro ⟨a, b⟩
      simp only [] at a b
      have hy := (mul_eq_zero a).resolve_left l4
      rw [hy] at b
      have : 16 * (l * l * l * l) * ((0 - 1) * (0 + (0 - 1) * 121665)) = 16 * (l * l * l * l) * 121665 := by clear hy' on hK; grind
      rw [this] at b
      exact mul_ne l4 n121665 b
    · generalize (add d (x, y) (x, y)).2 = y' at *
      simp only []
      refine eq_of_sub ((mul_eq_zero (b := 2 - x * x - y * y) ?_).resolve_right dB)
      have e2 : (16 * (l * l * l * l) * (y * y) * (-1 * (1 - y')) - 16 * (l * l * l * l) * ((y * y - 1) * (y * y + (y * y - 1) * 121665)) * (1 + y')) * (2 - x * x - y * y)
        = 16 * (l * l * l * l) * (-(y * y) * ((2 - x * x - y * y) - y' * (2 - x * x - y * y)) - ((y * y - 1) * (y * y + (y * y - 1) * 121665)) * ((2 - x * x - y * y) + y' * (2 - x * x - y * y))) := by clear hy' on hK; grind
      rw [e2, hy']
      have e3 : -(y * y) * ((2 - x * x - y * y) - (y * y - x * x)) - ((y * y - 1) * (y * y + (y * y - 1) * 121665)) * ((2 - x * x - y * y) + (y * y - x * x)) = 2 * (y * y - 1) * (y * y - (121666 * (y * y) - 121665) * (1 - x * x)) := by clear hy' on hK; grind
      rw [e3, hK]; clear hy' on hK; grind

theorem dad_id {x1 y1 x2 y2 : F} (h1 : x1 * x1 + y1 * y1 - 1 - d * (x1 * x1) * (y1 * y1) = 0) (h2 : x2 * x2 + y2 * y2 - 1 - d * (x2 * x2) * (y2 * y2) = 0) :
    (y1 + y2) * (y1 + y2) * ((1 - d * x1 * x2 * y1 * y2 - (y1 * y2 - x1 * x2)) * (1 + d * x1 * x2 * y1 * y2 - (y1 * y2 + x1 * x2))) =
    (y1 - y2) * (y1 - y2) * ((1 - d * x1 * x2 * y1 * y2 + (y1 * y2 - x1 * x2)) * (1 + d * x1 * x2 * y1 * y2 + (y1 * y2 + x1 * x2))) := by
  refine eq_of_sub ?_
  have key : (y1 + y2) * (y1 + y2) * ((1 - d * x1 * x2 * y1 * y2 - (y1 * y2 - x1 * x2)) * (1 + d * x1 * x2 * y1 * y2 - (y1 * y2 + x1 * x2))) -
    (y1 - y2) * (y1 - y2) * ((1 - d * x1 * x2 * y1 * y2 + (y1 * y2 - x1 * x2)) * (1 + d * x1 * x2 * y1 * y2 + (y1 * y2 + x1 * x2)))
      = (0 + 4 * y1 * x2 * x2 * y2 * y2 * y2 * d - 4 * y1 * x2 * x2 * y2) * (x1 * x1 + y1 * y1 - 1 - d * (x1 * x1) * (y1 * y1)) + (0 + 4 * y1 * y1 * y1 * y2 - 4 * y1 * y2) * (x2 * x2 + y2 * y2 - 1 - d * (x2 * x2) * (y2 * y2)) := by clear h1 h2; grind
  rw [key, h1, h2]; exact z2 _ _

theorem dad_val {g : F} (hg : g = 1 ∨ g = -1) (x1 l m y2 y3 : F) : dad x1 (l * (1 + y2), l * (g * (1 - y2))) (m * (1 + y3), m * (g * (1 - y3))) = (16 * (l * l * (m * m)) * ((y2 + y3) * (y2 + y3)), x1 * (16 * (l * l * (m * m)) * ((y2 - y3) * (y2 - y3)))) := by
  rcases hg with rfl | rfl
  · exact Prod.ext (by simp only [dad]; grind) (by simp only [dad]; grind)
  · exact Prod.ext (by simp only [dad]; grind) (by simp only [dad]; grind)

theorem dad_rep (hk : Kind g d) (hd : NonSq d) {x1 : F} {s t p q p0 : F × F} (hp : On d p.1 p.2) (h0 : On d p0.1 p0.2) (hq : q = add d p p0) (r0 : Rep g (x1, 1) p0) (hx : x1 ≠ 0) (hs : Rep g s p) (ht : Rep g t q) :
    Rep g (dad x1 s t) (add d p q) := by
  have hqo : On d q.1 q.2 := by rw [hq]; exact add_on hd hp h0
  have hp0 : p0 = add d (neg p) q := by rw [hq, ← add_assoc hd (neg_on hp) hp h0, neg_add hd hp, add_comm, add_zero]
  have hg := hk.sq
  obtain ⟨l, hl, h1, h2⟩ := hs
  obtain ⟨m, hm, h3, h4⟩ := ht
  obtain ⟨v, hv, h5, h6⟩ := r0
  have hy0 : p0.2 = (add d (neg p) q).2 := by rw [← hp0]
  generalize p0.2 = y0 at *
  obtain ⟨a, b⟩ := s
  obtain ⟨a', b'⟩ := t
  obtain ⟨x2, y2⟩ := p
  obtain ⟨x3, y3⟩ := q
  obtain ⟨dA, dB⟩ := dens hd hp hqo
  have on2 := on_sub hp
  have on3 := on_sub hqo
  clear hq hp0
  simp only [] at h1 h2 h3 h4 h5 h6 dA dB on2 on3
  have hyp : (add d (x2, y2) (x3, y3)).2 * (1 - d * x2 * x3 * y2 * y3) = y2 * y3 - x2 * x3 := div_self_mul dB
  have hy0' : y0 * (1 + d * x2 * x3 * y2 * y3) = y2 * y3 + x2 * x3 := by
    have e : (1 : F) - d * -x2 * x3 * y2 * y3 = 1 + d * x2 * x3 * y2 * y3 := by grind
    have : (add d (neg (x2, y2)) (x3, y3)).2 = (y2 * y3 + x2 * x3) * inv (1 + d * x2 * x3 * y2 * y3) := by
      simp only [add, neg]
      rw [e]
      have e' : y2 * y3 - -x2 * x3 = y2 * y3 + x2 * x3 := by grind
      rw [e']
    rw [hy0, this]; exact div_self_mul dA
  clear hy0
  subst h1 h2 h3 h4
  have hgo : g = 1 ∨ g = -1 := by rcases hk with ⟨h, _⟩ | ⟨h, _⟩ <;> simp [h]
  rw [dad_val hgo]
  have n0 : g * (1 - y0) ≠ 0 := fun e => by rw [e] at h6; exact one_ne_zero (by grind)
  have n0' : 1 - y0 ≠ 0 := ne_of_mul_r n0
  have hxy : x1 * (g * (1 - y0)) = 1 + y0 := by
    rw [h5]
    have : v * (1 + y0) * (g * (1 - y0)) = (1 + y0) * (v * (g * (1 - y0))) := by grind
    rw [this, ← h6]; grind
  have K0 : 16 * (l * l * (m * m)) ≠ 0 := mul_ne n16 (mul_ne (mul_ne hl hl) (mul_ne hm hm))
  generalize 16 * (l * l * (m * m)) = K at *
  refine Rep.mk hg ?_ ?_
  · rintro ⟨e1, e2⟩
    simp only [] at e1 e2
    have s1 := (mul_eq_zero e1).resolve_left K0
    have s2 := (mul_eq_zero ((mul_eq_zero e2).resolve_left hx)).resolve_left K0
    have t1 : y2 + y3 = 0 := (mul_eq_zero s1).elim id id
    have t2 : y2 - y3 = 0 := (mul_eq_zero s2).elim id id
    have z2 : y2 = 0 := by
      have : 2 * y2 = 0 := by grind
      exact (mul_eq_zero this).resolve_left two_ne
    have z3 : y3 = 0 := by grind
    clear e1 e2 s1 s2 t1 t2 hyp
    have u2 : x2 * x2 = 1 := by grind
    have u3 : x3 * x3 = 1 := by grind
    have u0 : y0 = x2 * x3 := by grind
    have w0 : y0 * y0 = 1 := by
      have : y0 * y0 = (x2 * x2) * (x3 * x3) := by rw [u0]; grind
      rw [this, u2, u3]; exact one_r 1 1 rfl
    have : (1 - y0) * (1 + y0) = 0 := by grind
    have w := (mul_eq_zero this).resolve_left n0'
    have : x1 = 0 := by rw [h5, w]; exact z1 _
    exact hx this
  · generalize (add d (x2, y2) (x3, y3)).2 = yp at *
    simp only []
    have id := dad_id on2 on3
    clear on2 on3 h5 h6 hp h0 hqo hk
    generalize hD : d * x2 * x3 * y2 * y3 = D at *
    refine eq_of_sub ((mul_eq_zero (b := (g * (1 - y0)) * ((1 - D) * (1 + D))) ?_).resolve_right (mul_ne n0 (mul_ne dB dA)))
    have e1 : (K * ((y2 + y3) * (y2 + y3)) * (g * (1 - yp)) - x1 * (K * ((y2 - y3) * (y2 - y3))) * (1 + yp)) * ((g * (1 - y0)) * ((1 - D) * (1 + D)))
      = K * ((g * g) * ((y2 + y3) * (y2 + y3)) * (((1 - D) - yp * (1 - D)) * ((1 + D) - y0 * (1 + D))) - (x1 * (g * (1 - y0))) * ((y2 - y3) * (y2 - y3)) * ((1 - D) + yp * (1 - D)) * (1 + D)) := by clear hyp hy0' hxy id; grind
    rw [e1, hyp, hy0', hg, hxy]
    have e2 : K * (1 * ((y2 + y3) * (y2 + y3)) * (((1 - D) - (y2 * y3 - x2 * x3)) * ((1 + D) - (y2 * y3 + x2 * x3))) - (1 + y0) * ((y2 - y3) * (y2 - y3)) * ((1 - D) + (y2 * y3 - x2 * x3)) * (1 + D))
      = K * ((y2 + y3) * (y2 + y3) * ((1 - D - (y2 * y3 - x2 * x3)) * (1 + D - (y2 * y3 + x2 * x3))) - (y2 - y3) * (y2 - y3) * ((1 - D + (y2 * y3 - x2 * x3)) * (1 + D + y0 * (1 + D)))) := by clear hyp hy0' hxy id; grind
    rw [e2, hy0', id]; clear hyp hy0' hxy id; grind

/-- The ladder goes up the multiples of a point. -/
theorem lad_rep (hk : Kind g d) (hd : NonSq d) {x1 : F} {p0 : F × F} (h0 : On d p0.1 p0.2) (r0 : Rep g (x1, 1) p0) (hx : x1 ≠ 0) (V : Nat) : ∀ (t : Nat) (s : (F × F) × (F × F)),
    Rep g s.1 (mul d p0 (V / 2 ^ t)) → Rep g s.2 (mul d p0 (V / 2 ^ t + 1)) → Rep g (lad x1 V t s).1 (mul d p0 V) ∧ Rep g (lad x1 V t s).2 (mul d p0 (V + 1))
  | 0, s, h1, h2 => by simpa [lad] using And.intro h1 h2
  | t + 1, s, h1, h2 => by
    have e : V / 2 ^ (t + 1) = V / 2 ^ t / 2 := by rw [Nat.pow_succ, Nat.div_div_eq_div_mul]
    rw [e] at h1 h2
    show Rep g (lad x1 V t (stp x1 (decide (V / 2 ^ t % 2 = 1)) s)).1 _ ∧ _
    have on1 := mul_on hd h0 (V / 2 ^ t / 2)
    have on2 := mul_on hd h0 (V / 2 ^ t / 2 + 1)
    have hm := dad_rep hk hd on1 h0 (rfl : mul d p0 (V / 2 ^ t / 2 + 1) = _) r0 hx h1 h2
    rw [← mul_add hd h0] at hm
    by_cases hb : V / 2 ^ t % 2 = 1
    · have hd2 := dbl_rep hk hd on2 h2
      rw [← mul_add hd h0] at hd2
      refine lad_rep hk hd h0 r0 hx V t _ ?_ ?_
      · rw [decide_eq_true hb]
        show Rep g (dad x1 s.1 s.2) _
        have : V / 2 ^ t = V / 2 ^ t / 2 + (V / 2 ^ t / 2 + 1) := by omega
        rw [this]; exact hm
      · rw [decide_eq_true hb]
        show Rep g (dbl s.2) _
        have : V / 2 ^ t + 1 = V / 2 ^ t / 2 + 1 + (V / 2 ^ t / 2 + 1) := by omega
        rw [this]; exact hd2
    · have hd2 := dbl_rep hk hd on1 h1
      rw [← mul_add hd h0] at hd2
      refine lad_rep hk hd h0 r0 hx V t _ ?_ ?_
      · rw [decide_eq_false hb]
        show Rep g (dbl s.1) _
        have : V / 2 ^ t = V / 2 ^ t / 2 + (V / 2 ^ t / 2) := by omega
        rw [this]; exact hd2
      · rw [decide_eq_false hb]
        show Rep g (dad x1 s.1 s.2) _
        have : V / 2 ^ t + 1 = V / 2 ^ t / 2 + (V / 2 ^ t / 2 + 1) := by omega
        rw [this]; exact hm

/-- The product by a number is that of the point. -/
theorem prod_pt (hk : Kind g d) (hd : NonSq d) {x1 : F} {p0 : F × F} (h0 : On d p0.1 p0.2) (r0 : Rep g (x1, 1) p0) (hx : x1 ≠ 0) (V : Nat) (hV : V < 2 ^ 255) : prod V x1 = uo g (mul d p0 V) := by
  have e : V / 2 ^ 255 = 0 := Nat.div_eq_of_lt hV
  have := (lad_rep hk hd h0 r0 hx V 255 ((1, 0), (x1, 1)) (by
    rw [e]
    exact Rep.mk hk.sq (by rintro ⟨a, _⟩; exact one_ne_zero a) ((fun (z o : F) (hz : z = 0) (ho : o = 1) => (by grind : o * (g * (1 - o)) = z * (1 + o))) 0 1 rfl rfl)) (by
    rw [e]
    show Rep g (x1, 1) (mul d p0 1)
    rw [mul_one]; exact r0)).1
  exact this.out
end
end Edw
end Go.Proofs.Ytciakfhjjnmeeaa
