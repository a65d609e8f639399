/- Texts of this proof's own, one behind the other: plain laws and walks of the packages field and ladder. No condition. -/
import Derived.Test.YtciakfhjjnmeeaaBa0
import Derived.Test.YtciakfhjjnmeeaaBa1
import Derived.Test.YtciakfhjjnmeeaaBa2
import Derived.Test.YtciakfhjjnmeeaaBa3
import Derived.Deep.QuietTactic
import Derived.BigQuiet
namespace Go.Proofs.Ytciakfhjjnmeeaa
namespace Edw
open Nt

/-- Doubling of x/z. -/
def dbl (p : F × F) : F × F :=
  let aa := (p.1 + p.2) * (p.1 + p.2)
  let bb := (p.1 - p.2) * (p.1 - p.2)
  (aa * bb, (aa - bb) * (aa + (aa - bb) * 121665))
/-- The sum of two whose difference is x1. -/
def dad (x1 : F) (p q : F × F) : F × F :=
  let da := (q.1 - q.2) * (p.1 + p.2)
  let cb := (q.1 + q.2) * (p.1 - p.2)
  ((da + cb) * (da + cb), x1 * ((da - cb) * (da - cb)))
/-- A step. -/
def stp (x1 : F) (b : Bool) (s : (F × F) × (F × F)) : (F × F) × (F × F) := if b then (dad x1 s.1 s.2, dbl s.2) else (dbl s.1, dad x1 s.1 s.2)
/-- The bits of V from t - 1 down to 0. -/
def lad (x1 : F) (V : Nat) : Nat → (F × F) × (F × F) → (F × F) × (F × F)
  | 0, s => s
  | t + 1, s => lad x1 V t (stp x1 (decide (V / 2 ^ t % 2 = 1)) s)
/-- The product. -/
def prod (V : Nat) (x1 : F) : F := let s := lad x1 V 255 ((1, 0), (x1, 1)); s.1.1 * inv s.1.2

/-- (X : Z) stands for a point, by (1 + y) : g (1 - y). -/
def Rep (g : F) (s p : F × F) : Prop := ∃ l, l ≠ 0 ∧ s.1 = l * (1 + p.2) ∧ s.2 = l * (g * (1 - p.2))

theorem Rep.mk {g : F} (hg : g * g = 1) {s p : F × F} (h0 : ¬ (s.1 = 0 ∧ s.2 = 0)) (h : s.1 * (g * (1 - p.2)) = s.2 * (1 + p.2)) : Rep g s p := by
  obtain ⟨X, Z⟩ := s
  obtain ⟨x, y⟩ := p
  simp only [] at *
  by_cases hy : 1 + y = 0
  · have h2 : X * (g * 2) = 0 := by
      have : g * (1 - y) = g * 2 := by grind
      rw [this, hy] at h; rw [h]; grind
    have hX : X = 0 := by
      have : X * (g * 2) * g = 2 * X * (g * g) := by grind
      rw [h2, hg] at this
      have h3 : 2 * X = 0 := by grind
      exact (mul_eq_zero h3).resolve_left two_ne
    have hi := mul_inv two_ne
    refine ⟨Z * g * inv 2, fun e => h0 ⟨hX, ?_⟩, by show X = _ * (1 + y); rw [hX, hy]; grind, ?_⟩
    · have : Z * g * inv 2 * 2 * g = Z * (g * g) * (2 * inv 2) := by grind
      rw [e, hg, hi] at this; grind
    · show Z = Z * g * inv 2 * (g * (1 - y))
      have : Z * g * inv 2 * (g * (1 - y)) = Z * (g * g) * (2 * inv 2) := by
        have e2 : 1 - y = 2 := by grind
        rw [e2]; grind
      rw [this, hg, hi]; grind
  · have hi := mul_inv hy
    have e1 : X = X * inv (1 + y) * (1 + y) := by
      have : X * inv (1 + y) * (1 + y) = X * ((1 + y) * inv (1 + y)) := by grind
      rw [this, hi]; grind
    refine ⟨X * inv (1 + y), fun e => ?_, e1, ?_⟩
    · rw [e] at e1
      have hX : X = 0 := by grind
      rw [hX] at h
      have h1 : Z * (1 + y) = 0 := by grind
      exact h0 ⟨hX, (mul_eq_zero h1).resolve_right hy⟩
    · show Z = X * inv (1 + y) * (g * (1 - y))
      have : X * inv (1 + y) * (g * (1 - y)) = X * (g * (1 - y)) * inv (1 + y) := by grind
      rw [this, h]
      have : Z * (1 + y) * inv (1 + y) = Z * ((1 + y) * inv (1 + y)) := by grind
      rw [this, hi]; grind

/-- The affine number of a point, 0 for the neutral one. -/
def uo (g : F) (p : F × F) : F := (1 + p.2) * inv (g * (1 - p.2))
theorem Rep.out {g : F} {s p : F × F} (h : Rep g s p) : s.1 * inv s.2 = uo g p := by
  obtain ⟨l, hl, h1, h2⟩ := h
  have := mul_inv hl
  rw [h1, h2, inv_mul_distrib, uo]
  have e : l * (1 + p.2) * (inv l * inv (g * (1 - p.2))) = (l * inv l) * ((1 + p.2) * inv (g * (1 - p.2))) := by grind
  rw [e, this]; grind

/-- Which curve: the sign, and what d is. -/
def Kind (g d : F) : Prop := g = 1 ∧ 121666 * d = 121665 ∨ g = -1 ∧ 121665 * d = 121666
theorem Kind.sq {g d : F} (h : Kind g d) : g * g = 1 := by rcases h with ⟨rfl, _⟩ | ⟨rfl, _⟩ <;> grind
theorem n121666 : (121666 : F) ≠ 0 := by decide
theorem n121665 : (121665 : F) ≠ 0 := by decide
theorem n16 : (16 : F) ≠ 0 := by decide

section
variable {g d : F}

theorem dbl_rep (hk : Kind g d) (hd : NonSq d) {s p : F × F} (hp : On d p.1 p.2) (h : Rep g s p) : Rep g (dbl s) (add d p p) := by
  obtain ⟨l, hl, h1, h2⟩ := h
  obtain ⟨X, Z⟩ := s
  obtain ⟨x, y⟩ := p
  obtain ⟨dA, dB⟩ := dens hd hp hp
  have on := on_sub hp
  simp only [] at h1 h2 dA dB on
  have hy' : (add d (x, y) (x, y)).2 * (1 - d * x * x * y * y) = y * y - x * x := div_self_mul dB
  have hB : 1 - d * x * x * y * y = 2 - x * x - y * y := by
    have : 1 - d * x * x * y * y = 2 - x * x - y * y + (x * x + y * y - 1 - d * (x * x) * (y * y)) := by grind
    rw [this, on]; grind
  rw [hB] at hy' dB
  subst h1 h2
  have l4 : 16 * (l * l * l * l) ≠ 0 := mul_ne n16 (mul_ne (mul_ne (mul_ne hl hl) hl) hl)
  rcases hk with ⟨rfl, hk⟩ | ⟨rfl, hk⟩
  · have hK : y * y - (121666 - 121665 * (y * y)) * (1 - x * x) = 0 := by
      have : y * y - (121666 - 121665 * (y * y)) * (1 - x * x) = 121666 * (x * x + y * y - 1 - d * (x * x) * (y * y)) + (121666 * d - 121665) * ((x * x) * (y * y)) := by clear hy' on; grind
      rw [this, on, hk]; grind
    have e : dbl (l * (1 + y), l * (1 * (1 - y))) = (16 * (l * l * l * l) * (y * y), 16 * (l * l * l * l) * ((1 - y * y) * (1 + (1 - y * y) * 121665))) := Prod.ext (by simp only [dbl]; clear hy' on hK; grind) (by simp only [dbl]; clear hy' on hK; grind)
    rw [e]
    refine Rep.mk (by grind) ?_ ?_
    · rintro ⟨a, b⟩
      simp only [] at a b
      have hy := (mul_eq_zero a).resolve_left l4
      rw [hy] at b
      have : 16 * (l * l * l * l) * ((1 - 0) * (1 + (1 - 0) * 121665)) = 16 * (l * l * l * l) * 121666 := by clear hy' on hK; grind
      rw [this] at b
      exact mul_ne l4 n121666 b
    · generalize (add d (x, y) (x, y)).2 = y' at *
      simp only []
      refine eq_of_sub ((mul_eq_zero (b := 2 - x * x - y * y) ?_).resolve_right dB)
      have e2 : (16 * (l * l * l * l) * (y * y) * (1 * (1 - y')) - 16 * (l * l * l * l) * ((1 - y * y) * (1 + (1 - y * y) * 121665)) * (1 + y')) * (2 - x * x - y * y)
        = 16 * (l * l * l * l) * ((y * y) * ((2 - x * x - y * y) - y' * (2 - x * x - y * y)) - ((1 - y * y) * (1 + (1 - y * y) * 121665)) * ((2 - x * x - y * y) + y' * (2 - x * x - y * y))) := by clear hy' on hK; grind
      rw [e2, hy']
      have e3 : (y * y) * ((2 - x * x - y * y) - (y * y - x * x)) - ((1 - y * y) * (1 + (1 - y * y) * 121665)) * ((2 - x * x - y * y) + (y * y - x * x)) = 2 * (1 - y * y) * (y * y - (121666 - 121665 * (y * y)) * (1 - x * x)) := by clear hy' on hK; grind
      rw [e3, hK]; clear hy' on hK; grind
  · have hK : y * y - (121666 * (y * y) - 121665) * (1 - x * x) = 0 := by
      have : y * y - (121666 * (y * y) - 121665) * (1 - x * x) = -(121665 * (x * x + y * y - 1 - d * (x * x) * (y * y))) + (121666 - 121665 * d) * ((x * x) * (y * y)) := by clear hy' on; grind
      rw [this, on, hk]; grind
    have e : dbl (l * (1 + y), l * (-1 * (1 - y))) = (16 * (l * l * l * l) * (y * y), 16 * (l * l * l * l) * ((y * y - 1) * (y * y + (y * y - 1) * 121665))) := Prod.ext (by simp only [dbl]; clear hy' on hK; grind) (by simp only [dbl]; clear hy' on hK; grind)
    rw [e]
    refine Rep.mk (by grind) ?_ ?_
    · rintro ⟨a, b⟩
      simp only [] at a b
      have hy := (mul_eq_zero a).resolve_left l4
      rw [hy] at b
      have : 16 * (l * l * l * l) * ((0 - 1) * (0 + (0 - 1) * 121665)) = 16 * (l * l * l * l) * 121665 := by clear hy' on hK; grind
      rw [this] at b
      exact mul_ne l4 n121665 b
    · generalize (add d (x, y) (x, y)).2 = y' at *
      simp only []
      refine eq_of_sub ((mul_eq_zero (b := 2 - x * x - y * y) ?_).resolve_right dB)
      have e2 : (16 * (l * l * l * l) * (y * y) * (-1 * (1 - y')) - 16 * (l * l * l * l) * ((y * y - 1) * (y * y + (y * y - 1) * 121665)) * (1 + y')) * (2 - x * x - y * y)
        = 16 * (l * l * l * l) * (-(y * y) * ((2 - x * x - y * y) - y' * (2 - x * x - y * y)) - ((y * y - 1) * (y * y + (y * y - 1) * 121665)) * ((2 - x * x - y * y) + y' * (2 - x * x - y * y))) := by clear hy' on hK; grind
      rw [e2, hy']
      have e3 : -(y * y) * ((2 - x * x - y * y) - (y * y - x * x)) - ((y * y - 1) * (y * y + (y * y - 1) * 121665)) * ((2 - x * x - y * y) + (y * y - x * x)) = 2 * (y * y - 1) * (y * y - (121666 * (y * y) - 121665) * (1 - x * x)) := by clear hy' on hK; grind
      rw [e3, hK]; clear hy' on hK; grind

theorem dad_id {x1 y1 x2 y2 : F} (h1 : x1 * x1 + y1 * y1 - 1 - d * (x1 * x1) * (y1 * y1) = 0) (h2 : x2 * x2 + y2 * y2 - 1 - d * (x2 * x2) * (y2 * y2) = 0) :
    (y1 + y2) * (y1 + y2) * ((1 - d * x1 * x2 * y1 * y2 - (y1 * y2 - x1 * x2)) * (1 + d * x1 * x2 * y1 * y2 - (y1 * y2 + x1 * x2))) =
    (y1 - y2) * (y1 - y2) * ((1 - d * x1 * x2 * y1 * y2 + (y1 * y2 - x1 * x2)) * (1 + d * x1 * x2 * y1 * y2 + (y1 * y2 + x1 * x2))) := by
  refine eq_of_sub ?_
  have key : (y1 + y2) * (y1 + y2) * ((1 - d * x1 * x2 * y1 * y2 - (y1 * y2 - x1 * x2)) * (1 + d * x1 * x2 * y1 * y2 - (y1 * y2 + x1 * x2))) -
    (y1 - y2) * (y1 - y2) * ((1 - d * x1 * x2 * y1 * y2 + (y1 * y2 - x1 * x2)) * (1 + d * x1 * x2 * y1 * y2 + (y1 * y2 + x1 * x2)))
      = (0 + 4 * y1 * x2 * x2 * y2 * y2 * y2 * d - 4 * y1 * x2 * x2 * y2) * (x1 * x1 + y1 * y1 - 1 - d * (x1 * x1) * (y1 * y1)) + (0 + 4 * y1 * y1 * y1 * y2 - 4 * y1 * y2) * (x2 * x2 + y2 * y2 - 1 - d * (x2 * x2) * (y2 * y2)) := by clear h1 h2; grind
  rw [key, h1, h2]; exact z2 _ _

theorem dad_val {g : F} (hg : g = 1 ∨ g = -1) (x1 l m y2 y3 : F) : dad x1 (l * (1 + y2), l * (g * (1 - y2))) (m * (1 + y3), m * (g * (1 - y3))) = (16 * (l * l * (m * m)) * ((y2 + y3) * (y2 + y3)), x1 * (16 * (l * l * (m * m)) * ((y2 - y3) * (y2 - y3)))) := by
  rcases hg with rfl | rfl
  · exact Prod.ext (by simp only [dad]; grind) (by simp only [dad]; grind)
  · exact Prod.ext (by simp only [dad]; grind) (by simp only [dad]; grind)

theorem dad_rep (hk : Kind g d) (hd : NonSq d) {x1 : F} {s t p q p0 : F × F} (hp : On d p.1 p.2) (h0 : On d p0.1 p0.2) (hq : q = add d p p0) (r0 : Rep g (x1, 1) p0) (hx : x1 ≠ 0) (hs : Rep g s p) (ht : Rep g t q) :
    Rep g (dad x1 s t) (add d p q) := by
  have hqo : On d q.1 q.2 := by rw [hq]; exact add_on hd hp h0
  have hp0 : p0 = add d (neg p) q := by rw [hq, ← add_assoc hd (neg_on hp) hp h0, neg_add hd hp, add_comm, add_zero]
  have hg := hk.sq
  obtain ⟨l, hl, h1, h2⟩ := hs
  obtain ⟨m, hm, h3, h4⟩ := ht
  obtain ⟨v, hv, h5, h6⟩ := r0
  have hy0 : p0.2 = (add d (neg p) q).2 := by rw [← hp0]
  generalize p0.2 = y0 at *
  obtain ⟨a, b⟩ := s
  obtain ⟨a', b'⟩ := t
  obtain ⟨x2, y2⟩ := p
  obtain ⟨x3, y3⟩ := q
  obtain ⟨dA, dB⟩ := dens hd hp hqo
  have on2 := on_sub hp
  have on3 := on_sub hqo
  clear hq hp0
  simp only [] at h1 h2 h3 h4 h5 h6 dA dB on2 on3
  have hyp : (add d (x2, y2) (x3, y3)).2 * (1 - d * x2 * x3 * y2 * y3) = y2 * y3 - x2 * x3 := div_self_mul dB
  have hy0' : y0 * (1 + d * x2 * x3 * y2 * y3) = y2 * y3 + x2 * x3 := by
    have e : (1 : F) - d * -x2 * x3 * y2 * y3 = 1 + d * x2 * x3 * y2 * y3 := by grind
    have : (add d (neg (x2, y2)) (x3, y3)).2 = (y2 * y3 + x2 * x3) * inv (1 + d * x2 * x3 * y2 * y3) := by
      simp only [add, neg]
      rw [e]
      have e' : y2 * y3 - -x2 * x3 = y2 * y3 + x2 * x3 := by grind
      rw [e']
    rw [hy0, this]; exact div_self_mul dA
  clear hy0
  subst h1 h2 h3 h4
  have hgo : g = 1 ∨ g = -1 := by rcases hk with ⟨h, _⟩ | ⟨h, _⟩ <;> simp [h]
  rw [dad_val hgo]
  have n0 : g * (1 - y0) ≠ 0 := fun e => by rw [e] at h6; exact one_ne_zero (by grind)
  have n0' : 1 - y0 ≠ 0 := ne_of_mul_r n0
  have hxy : x1 * (g * (1 - y0)) = 1 + y0 := by
    rw [h5]
    have : v * (1 + y0) * (g * (1 - y0)) = (1 + y0) * (v * (g * (1 - y0))) := by grind
    rw [this, ← h6]; grind
  have K0 : 16 * (l * l * (m * m)) ≠ 0 := mul_ne n16 (mul_ne (mul_ne hl hl) (mul_ne hm hm))
  generalize 16 * (l * l * (m * m)) = K at *
  refine Rep.mk hg ?_ ?_
  · rintro ⟨e1, e2⟩
    simp only [] at e1 e2
    have s1 := (mul_eq_zero e1).resolve_left K0
    have s2 := (mul_eq_zero ((mul_eq_zero e2).resolve_left hx)).resolve_left K0
    have t1 : y2 + y3 = 0 := (mul_eq_zero s1).elim id id
    have t2 : y2 - y3 = 0 := (mul_eq_zero s2).elim id id
    have z2 : y2 = 0 := by
      have : 2 * y2 = 0 := by grind
      exact (mul_eq_zero this).resolve_left two_ne
    have z3 : y3 = 0 := by grind
    clear e1 e2 s1 s2 t1 t2 hyp
    have u2 : x2 * x2 = 1 := by grind
    have u3 : x3 * x3 = 1 := by grind
    have u0 : y0 = x2 * x3 := by grind
    have w0 : y0 * y0 = 1 := by
      have : y0 * y0 = (x2 * x2) * (x3 * x3) := by rw [u0]; grind
      rw [this, u2, u3]; exact one_r 1 1 rfl
    have : (1 - y0) * (1 + y0) = 0 := by grind
    have w := (mul_eq_zero this).resolve_left n0'
    have : x1 = 0 := by rw [h5, w]; exact z1 _
    exact hx this
  · generalize (add d (x2, y2) (x3, y3)).2 = yp at *
    simp only []
    have id := dad_id on2 on3
    clear on2 on3 h5 h6 hp h0 hqo hk
    generalize hD : d * x2 * x3 * y2 * y3 = D at *
    refine eq_of_sub ((mul_eq_zero (b := (g * (1 - y0)) * ((1 - D) * (1 + D))) ?_).resolve_right (mul_ne n0 (mul_ne dB dA)))
    have e1 : (K * ((y2 + y3) * (y2 + y3)) * (g * (1 - yp)) - x1 * (K * ((y2 - y3) * (y2 - y3))) * (1 + yp)) * ((g * (1 - y0)) * ((1 - D) * (1 + D)))
      = K * ((g * g) * ((y2 + y3) * (y2 + y3)) * (((1 - D) - yp * (1 - D)) * ((1 + D) - y0 * (1 + D))) - (x1 * (g * (1 - y0))) * ((y2 - y3) * (y2 - y3)) * ((1 - D) + yp * (1 - D)) * (1 + D)) := by clear hyp hy0' hxy id; grind
    rw [e1, hyp, hy0', hg, hxy]
    have e2 : K * (1 * ((y2 + y3) * (y2 + y3)) * (((1 - D) - (y2 * y3 - x2 * x3)) * ((1 + D) - (y2 * y3 + x2 * x3))) - (1 + y0) * ((y2 - y3) * (y2 - y3)) * ((1 - D) + (y2 * y3 - x2 * x3)) * (1 + D))
      = K * ((y2 + y3) * (y2 + y3) * ((1 - D - (y2 * y3 - x2 * x3)) * (1 + D - (y2 * y3 + x2 * x3))) - (y2 - y3) * (y2 - y3) * ((1 - D + (y2 * y3 - x2 * x3)) * (1 + D + y0 * (1 + D)))) := by clear hyp hy0' hxy id; grind
    rw [e2, hy0', id]; clear hyp hy0' hxy id; grind

/-- The ladder goes up the multiples of a point. -/
theorem lad_rep (hk : Kind g d) (hd : NonSq d) {x1 : F} {p0 : F × F} (h0 : On d p0.1 p0.2) (r0 : Rep g (x1, 1) p0) (hx : x1 ≠ 0) (V : Nat) : ∀ (t : Nat) (s : (F × F) × (F × F)),
    Rep g s.1 (mul d p0 (V / 2 ^ t)) → Rep g s.2 (mul d p0 (V / 2 ^ t + 1)) → Rep g (lad x1 V t s).1 (mul d p0 V) ∧ Rep g (lad x1 V t s).2 (mul d p0 (V + 1))
  | 0, s, h1, h2 => by simpa [lad] using And.intro h1 h2
  | t + 1, s, h1, h2 => by
    have e : V / 2 ^ (t + 1) = V / 2 ^ t / 2 := by rw [Nat.pow_succ, Nat.div_div_eq_div_mul]
    rw [e] at h1 h2
    show Rep g (lad x1 V t (stp x1 (decide (V / 2 ^ t % 2 = 1)) s)).1 _ ∧ _
    have on1 := mul_on hd h0 (V / 2 ^ t / 2)
    have on2 := mul_on hd h0 (V / 2 ^ t / 2 + 1)
    have hm := dad_rep hk hd on1 h0 (rfl : mul d p0 (V / 2 ^ t / 2 + 1) = _) r0 hx h1 h2
    rw [← mul_add hd h0] at hm
    by_cases hb : V / 2 ^ t % 2 = 1
    · have hd2 := dbl_rep hk hd on2 h2
      rw [← mul_add hd h0] at hd2
      refine lad_rep hk hd h0 r0 hx V t _ ?_ ?_
      · rw [decide_eq_true hb]
        show Rep g (dad x1 s.1 s.2) _
        have : V / 2 ^ t = V / 2 ^ t / 2 + (V / 2 ^ t / 2 + 1) := by omega
        rw [this]; exact hm
      · rw [decide_eq_true hb]
        show Rep g (dbl s.2) _
        have : V / 2 ^ t + 1 = V / 2 ^ t / 2 + 1 + (V / 2 ^ t / 2 + 1) := by omega
        rw [this]; exact hd2
    · have hd2 := dbl_rep hk hd on1 h1
      rw [← mul_add hd h0] at hd2
      refine lad_rep hk hd h0 r0 hx V t _ ?_ ?_
      · rw [decide_eq_false hb]
        show Rep g (dbl s.1) _
        have : V / 2 ^ t = V / 2 ^ t / 2 + (V / 2 ^ t / 2) := by omega
        rw [this]; exact hd2
      · rw [decide_eq_false hb]
        show Rep g (dad x1 s.1 s.2) _
        have : V / 2 ^ t + 1 = V / 2 ^ t / 2 + (V / 2 ^ t / 2 + 1) := by omega
        rw [this]; exact hm

/-- The product by a number is that of the point. -/
theorem prod_pt (hk : Kind g d) (hd : NonSq d) {x1 : F} {p0 : F × F} (h0 : On d p0.1 p0.2) (r0 : Rep g (x1, 1) p0) (hx : x1 ≠ 0) (V : Nat) (hV : V < 2 ^ 255) : prod V x1 = uo g (mul d p0 V) := by
  have e : V / 2 ^ 255 = 0 := Nat.div_eq_of_lt hV
  have := (lad_rep hk hd h0 r0 hx V 255 ((1, 0), (x1, 1)) (by
    rw [e]
    exact Rep.mk hk.sq (by rintro ⟨a, _⟩; exact one_ne_zero a) ((fun (z o : F) (hz : z = 0) (ho : o = 1) => (by grind : o * (g * (1 - o)) = z * (1 + o))) 0 1 rfl rfl)) (by
    rw [e]
    show Rep g (x1, 1) (mul d p0 1)
    rw [mul_one]; exact r0)).1
  exact this.out
end
end Edw
end Go.Proofs.Ytciakfhjjnmeeaa

namespace Go.Proofs.Ytciakfhjjnmeeaa
namespace Nt
set_option maxRecDepth 20000
set_option exponentiation.threshold 2000
theorem pr1224481 : Pr 1224481 := trial 1224481 1106 (by decide) (by decide) (by decide +kernel)
theorem pr531581 : Pr 531581 := trial 531581 729 (by decide) (by decide) (by decide +kernel)
theorem pr1257559732178653 : Pr 1257559732178653 :=
  pock2 1257559732178653 1224481 1027014492 531581 2365697292 2 51 pr1224481 pr531581 (by decide) (by decide) (by decide) (by decide) (by decide) (by decide) (by decide +kernel) (by decide +kernel) (by decide +kernel)
theorem pr4434155615661930479 : Pr 4434155615661930479 :=
  pock1 4434155615661930479 1257559732178653 3526 2 62 pr1257559732178653 (by decide) (by decide) (by decide) (by decide) (by decide +kernel) (by decide +kernel)
theorem pr172054593956031949258510691 : Pr 172054593956031949258510691 :=
  pock1 172054593956031949258510691 4434155615661930479 38802110 2 88 pr4434155615661930479 (by decide) (by decide) (by decide) (by decide) (by decide +kernel) (by decide +kernel)
theorem pr19757330305831588566944191468367130476339 : Pr 19757330305831588566944191468367130476339 :=
  pock1 19757330305831588566944191468367130476339 172054593956031949258510691 114831751082918 2 134 pr172054593956031949258510691 (by decide) (by decide) (by decide) (by decide) (by decide +kernel) (by decide +kernel)
theorem pr276602624281642239937218680557139826668747 : Pr 276602624281642239937218680557139826668747 :=
  pock1 276602624281642239937218680557139826668747 19757330305831588566944191468367130476339 14 2 138 pr19757330305831588566944191468367130476339 (by decide) (by decide) (by decide) (by decide) (by decide +kernel) (by decide +kernel)
theorem pr7237005577332262213973186563042994240857116359379907606001950938285454250989 : Pr 7237005577332262213973186563042994240857116359379907606001950938285454250989 :=
  pock1 7237005577332262213973186563042994240857116359379907606001950938285454250989 276602624281642239937218680557139826668747 26163907866482859529727157400808004 2 253 pr276602624281642239937218680557139826668747 (by decide) (by decide) (by decide) (by decide) (by decide +kernel) (by decide +kernel)

end Nt
namespace Edw
open Nt

def D1 : F := 20800338683988658368647408995589388737092878452977063003340006470870624536394
def D2 : F := 28692721048178265397853269683490922171210976843790175684556505508326675974058
def SI : F := 19681161376707505956807079304988542015446066515923890162744021073123829784752
def LO : Nat := 7237005577332262213973186563042994240857116359379907606001950938285454250989
theorem LO_prime : Pr LO := pr7237005577332262213973186563042994240857116359379907606001950938285454250989
theorem D12 : D1 * D2 = 1 := by decide +kernel
theorem D1_kind : Kind 1 D1 := Or.inl ⟨rfl, by decide +kernel⟩
theorem D2_kind : Kind (-1) D2 := Or.inr ⟨rfl, by decide +kernel⟩
theorem SI_sq : SI * SI = -1 := by decide +kernel
def HP : Nat := 28948022309329048855892746252171976963317496166410141009864396001978282409974
def EP : Nat := 7237005577332262213973186563042994240829374041602535252466099000494570602494
theorem HP_eq : HP + HP + 1 = P := by decide
theorem EP_eq : EP + EP + (EP + EP) = HP + 2 := by decide
theorem D1_chi : D1 ^ HP = -1 := F.ext (by rw [val_pow, ← pm_eq P 255 _ _ (by decide)]; decide +kernel)
theorem D2_chi : D2 ^ HP = -1 := F.ext (by rw [val_pow, ← pm_eq P 255 _ _ (by decide)]; decide +kernel)

theorem pow_P1 {a : F} (h : a ≠ 0) : a ^ (HP + HP) = 1 := by
  have : a ^ (HP + HP + 1) = a := (congrArg (a ^ ·) HP_eq).trans (frob a)
  rw [pow_succ] at this
  exact mul_left_cancel (a := a) h (by have h2 : a * a ^ (HP + HP) = a ^ (HP + HP) * a := by grind
                                       rw [h2, this, one_r a 1 rfl])
theorem neg_one_ne : (-1 : F) ≠ 1 := by decide +kernel
theorem nonsq {d : F} (h : d ^ HP = -1) : NonSq d := by
  intro s hs
  have hd : d ≠ 0 := by
    intro e
    rw [e] at h
    have h0 : (0 : F) ^ HP = 0 := by
      rw [show HP = (HP - 1) + 1 by decide, pow_succ]; exact z1 _
    rw [h0] at h
    exact absurd h (by decide +kernel)
  have hs0 : s ≠ 0 := fun e => hd (by rw [← hs, e]; exact z1 _)
  have h1 := pow_P1 hs0
  rw [fpow_add, ← mul_fpow, hs, h] at h1
  exact neg_one_ne h1
theorem D1_non : NonSq D1 := nonsq D1_chi
theorem D2_non : NonSq D2 := nonsq D2_chi

theorem sqrt_of {r : F} (h : r ^ HP = 1) : ∃ s : F, s * s = r := by
  have h4 : (r ^ EP * r ^ EP) * (r ^ EP * r ^ EP) = r * r := by
    rw [← fpow_add, ← fpow_add, EP_eq, fpow_add, h]
    have h2 : r ^ 2 = r * r := by rw [pow_succ, fpow_one]
    rw [h2]; grind
  generalize r ^ EP = t at h4
  have : (t * t - r) * (t * t + r) = 0 := by
    have e : (t * t - r) * (t * t + r) = t * t * (t * t) - r * r := by grind
    rw [e, h4]; grind
  rcases mul_eq_zero this with e | e
  · exact ⟨t, by grind⟩
  · refine ⟨SI * t, ?_⟩
    have e2 : SI * t * (SI * t) = (SI * SI) * (t * t) := by grind
    rw [e2, SI_sq]; grind

theorem sqrt_or {r : F} (hr : r ≠ 0) : (∃ s : F, s * s = r) ∨ ∃ s : F, s * s = D1 * r := by
  have h := pow_P1 hr
  rw [fpow_add] at h
  have : (r ^ HP - 1) * (r ^ HP + 1) = 0 := by
    have e : (r ^ HP - 1) * (r ^ HP + 1) = r ^ HP * r ^ HP - 1 := by generalize r ^ HP = c; grind
    rw [e, h]; exact Fin.sub_self
  rcases mul_eq_zero this with e | e
  · exact Or.inl (sqrt_of (eq_of_sub e))
  · refine Or.inr (sqrt_of ?_)
    rw [mul_fpow, D1_chi]
    generalize r ^ HP = c at e
    grind

/-- A number that is not 0 belongs to a point of one curve or the other. -/
theorem pt_of {x1 : F} (hx : x1 ≠ 0) : ∃ g d p0, Kind g d ∧ NonSq d ∧ On d p0.1 p0.2 ∧ Rep g (x1, 1) p0 := by
  have nz : ∀ p : F × F, ¬ (((x1, 1) : F × F).1 = 0 ∧ ((x1, 1) : F × F).2 = 0) := fun _ h => hx h.1
  by_cases h1 : x1 + 1 = 0
  · refine ⟨-1, D2, (1, 0), D2_kind, D2_non, ?_, Rep.mk (by grind) (nz (1, 0)) ?_⟩
    · exact (fun (z o : F) (hz : z = 0) (ho : o = 1) => (by show o * o + z * z = 1 + D2 * (o * o) * (z * z); grind : On D2 o z)) 0 1 rfl rfl
    · exact (fun (z o : F) (hz : z = 0) (ho : o = 1) => (by grind : x1 * (-1 * (1 - z)) = o * (1 + z))) 0 1 rfl rfl
  · by_cases h2 : x1 - 1 = 0
    · refine ⟨1, D1, (1, 0), D1_kind, D1_non, ?_, Rep.mk (by grind) (nz (1, 0)) ?_⟩
      · exact (fun (z o : F) (hz : z = 0) (ho : o = 1) => (by show o * o + z * z = 1 + D1 * (o * o) * (z * z); grind : On D1 o z)) 0 1 rfl rfl
      · exact (fun (z o : F) (hz : z = 0) (ho : o = 1) => (by grind : x1 * (1 * (1 - z)) = o * (1 + z))) 0 1 rfl rfl
    · obtain ⟨y, hy⟩ : ∃ y, y = (x1 - 1) * inv (x1 + 1) := ⟨_, rfl⟩
      have hyx : y * (x1 + 1) = x1 - 1 := by rw [hy]; exact div_self_mul h1
      have y0 : y ≠ 0 := by intro e; rw [e] at hyx; exact h2 (by rw [← hyx]; exact (fun (z : F) (hz : z = 0) => (by grind : z * (x1 + 1) = 0)) 0 rfl)
      have q0 : 1 - D1 * (y * y) ≠ 0 := by
        intro e
        have hi := mul_inv y0
        refine D1_non (inv y) ?_
        have e2 : inv y * inv y = (D1 * (y * y)) * (inv y * inv y) := by
          have : D1 * (y * y) = 1 := by grind
          rw [this]; grind
        rw [e2]
        have e3 : D1 * (y * y) * (inv y * inv y) = D1 * ((y * inv y) * (y * inv y)) := by grind
        rw [e3, hi]; exact (fun (o : F) (ho : o = 1) => (by grind : D1 * (o * o) = D1)) 1 rfl
      have r0 : 1 - y * y ≠ 0 := by
        intro e
        have : (1 - y * y) * ((x1 + 1) * (x1 + 1)) = 4 * x1 := by
          have : (1 - y * y) * ((x1 + 1) * (x1 + 1)) = (x1 + 1) * (x1 + 1) - (y * (x1 + 1)) * (y * (x1 + 1)) := by grind
          rw [this, hyx]; grind
        rw [e] at this
        have h4 : 4 * x1 = 0 := by rw [← this]; exact (fun (z : F) (hz : z = 0) => (by grind : z * ((x1 + 1) * (x1 + 1)) = 0)) 0 rfl
        rcases mul_eq_zero h4 with e | e
        · exact absurd e (by decide +kernel)
        · exact hx e
      obtain ⟨r, hr⟩ : ∃ r, r = (1 - y * y) * inv (1 - D1 * (y * y)) := ⟨_, rfl⟩
      have hrq : r * (1 - D1 * (y * y)) = 1 - y * y := by rw [hr]; exact div_self_mul q0
      have rn : r ≠ 0 := by rw [hr]; exact mul_ne r0 (inv_ne_zero q0)
      rcases sqrt_or rn with ⟨s, hs⟩ | ⟨s, hs⟩
      · refine ⟨1, D1, (s, y), D1_kind, D1_non, ?_, Rep.mk (by grind) (nz (s, y)) ?_⟩
        · show s * s + y * y = 1 + D1 * (s * s) * (y * y)
          rw [hs]; grind
        · show x1 * (1 * (1 - y)) = 1 * (1 + y)
          grind
      · obtain ⟨y', hy'⟩ : ∃ y, y = (x1 + 1) * inv (x1 - 1) := ⟨_, rfl⟩
        have hyx' : y' * (x1 - 1) = x1 + 1 := by rw [hy']; exact div_self_mul h2
        have yy : y' * y = 1 := by
          have : (y' * y) * ((x1 + 1) * (x1 - 1)) = 1 * ((x1 + 1) * (x1 - 1)) := by
            have : (y' * y) * ((x1 + 1) * (x1 - 1)) = (y' * (x1 - 1)) * (y * (x1 + 1)) := by grind
            rw [this, hyx, hyx']; grind
          have c := mul_ne h1 h2
          refine mul_left_cancel c ?_
          grind
        refine ⟨-1, D2, (s, y'), D2_kind, D2_non, ?_, Rep.mk (by grind) (nz (s, y')) ?_⟩
        · show s * s + y' * y' = 1 + D2 * (s * s) * (y' * y')
          have D := D12
          generalize D1 = a at *
          generalize D2 = b at *
          have k1 : s * s * (b - y * y) = 1 - y * y := by
            rw [hs]
            have : a * r * (b - y * y) = r * ((a * b) - a * (y * y)) := by grind
            rw [this, D]; exact hrq
          have k2 : s * s * (b - y * y) * (y' * y') = (1 - y * y) * (y' * y') := by rw [k1]
          have k3 : s * s * (b - y * y) * (y' * y') = s * s * (b * (y' * y') - (y' * y) * (y' * y)) := by grind
          have k4 : (1 - y * y) * (y' * y') = y' * y' - (y' * y) * (y' * y) := by grind
          rw [k3, k4, yy] at k2
          grind
        · show x1 * (-1 * (1 - y')) = 1 * (1 + y')
          grind

/-! ### The number 0 -/
theorem stp_zero {s : (F × F) × (F × F)} (b : Bool) (h1 : s.1.1 * s.1.2 = 0) (h2 : s.2.1 * s.2.2 = 0) : (stp 0 b s).1.1 * (stp 0 b s).1.2 = 0 ∧ (stp 0 b s).2.1 * (stp 0 b s).2.2 = 0 := by
  have hd : ∀ p : F × F, p.1 * p.2 = 0 → (dbl p).2 = 0 := by
    intro p hp
    show ((p.1 + p.2) * (p.1 + p.2) - (p.1 - p.2) * (p.1 - p.2)) * _ = 0
    have : (p.1 + p.2) * (p.1 + p.2) - (p.1 - p.2) * (p.1 - p.2) = 4 * (p.1 * p.2) := by grind
    rw [this, hp]
    exact (fun (z c : F) (hz : z = 0) => (by grind : 4 * z * c = 0)) 0 _ rfl
  have ha : ∀ p q : F × F, (dad 0 p q).2 = 0 := by
    intro p q
    exact (fun (z c : F) (hz : z = 0) => (by grind : z * c = 0)) 0 _ rfl
  cases b
  · show (dbl s.1).1 * (dbl s.1).2 = 0 ∧ (dad 0 s.1 s.2).1 * (dad 0 s.1 s.2).2 = 0
    rw [hd _ h1, ha]; exact ⟨z1 _, z1 _⟩
  · show (dad 0 s.1 s.2).1 * (dad 0 s.1 s.2).2 = 0 ∧ (dbl s.2).1 * (dbl s.2).2 = 0
    rw [hd _ h2, ha]; exact ⟨z1 _, z1 _⟩
theorem lad_zero (V : Nat) (hV : V % 2 = 0) : ∀ (t : Nat) (s : (F × F) × (F × F)), s.1.1 * s.1.2 = 0 → s.2.1 * s.2.2 = 0 → (lad 0 V (t + 1) s).1.2 = 0
  | 0, s, h1, h2 => by
    show (stp 0 (decide (V / 1 % 2 = 1)) s).1.2 = 0
    rw [Nat.div_one, decide_eq_false (by omega)]
    show ((s.1.1 + s.1.2) * (s.1.1 + s.1.2) - (s.1.1 - s.1.2) * (s.1.1 - s.1.2)) * _ = 0
    have : (s.1.1 + s.1.2) * (s.1.1 + s.1.2) - (s.1.1 - s.1.2) * (s.1.1 - s.1.2) = 4 * (s.1.1 * s.1.2) := by grind
    rw [this, h1]
    exact (fun (z c : F) (hz : z = 0) => (by grind : 4 * z * c = 0)) 0 _ rfl
  | t + 1, s, h1, h2 => by
    obtain ⟨a, b⟩ := stp_zero (decide (V / 2 ^ (t + 1) % 2 = 1)) h1 h2
    exact lad_zero V hV t _ a b
theorem prod_zero (V : Nat) (hV : V % 2 = 0) : prod V 0 = 0 := by
  have := lad_zero V hV 254 ((1, 0), (0, 1)) (z1 _) (one_r 0 1 rfl)
  show (lad 0 V 255 ((1, 0), (0, 1))).1.1 * inv (lad 0 V 255 ((1, 0), (0, 1))).1.2 = 0
  rw [this, inv_zero]; exact z1 _

/-! ### Points whose number is 0 -/
section
variable {g d : F}
theorem d_ne_one (hd : NonSq d) : 1 - d ≠ 0 := fun e => hd 1 (by have : d = 1 := by grind
                                                                 rw [this]; exact one_r 1 1 rfl)
theorem y_one (hd : NonSq d) {p : F × F} (h : On d p.1 p.2) (hy : p.2 = 1) : p = zero := by
  obtain ⟨x, y⟩ := p
  simp only [] at hy
  have on := on_sub h
  simp only [] at on
  have : (1 - d) * (x * x) = 0 := by grind
  have hx := (mul_eq_zero this).resolve_left (d_ne_one hd)
  have hx0 : x = 0 := (mul_eq_zero hx).elim id id
  rw [hx0, hy]; rfl
theorem uo_zero : uo g zero = 0 := by
  show (1 + 1) * inv (g * (1 - 1)) = 0
  have : ∀ o : F, o = 1 → g * (1 - o) = 0 := by intro o ho; grind
  rw [this 1 rfl, inv_zero]; exact z1 _
theorem y_neg (hd : NonSq d) {p : F × F} (h : On d p.1 p.2) (hy : p.2 = -1) : mul d p 2 = zero := by
  refine y_one hd (mul_on hd h 2) ?_
  show (add d (add d zero p) p).2 = 1
  rw [show add d zero p = p from mul_one p]
  obtain ⟨x, y⟩ := p
  simp only [] at hy
  have on := on_sub h
  obtain ⟨a, b⟩ := dens hd h h
  simp only [] at on a b
  have e : (add d (x, y) (x, y)).2 * (1 - d * x * x * y * y) = y * y - x * x := div_self_mul b
  have e2 : (1 - d) * (x * x) = 0 := by grind
  have hx := (mul_eq_zero e2).resolve_left (d_ne_one hd)
  have e3 : 1 - d * x * x * y * y = 1 := by grind
  rw [e3, one_r _ 1 rfl] at e
  rw [e]; grind
theorem uo_neg {p : F × F} (hy : p.2 = -1) : uo g p = 0 := by
  have : 1 + p.2 = 0 := by grind
  show (1 + p.2) * _ = 0
  rw [this]
  exact (fun (z c : F) (hz : z = 0) => (by grind : z * c = 0)) 0 _ rfl
theorem mul_even (hd : NonSq d) {p : F × F} (h : On d p.1 p.2) (h2 : mul d p 2 = zero) (V : Nat) (hV : V % 2 = 0) : mul d p V = zero := by
  have : V = 2 * (V / 2) := by omega
  rw [this, ← mul_mul hd h, h2, mul_zero_pt]
/-- When a point's number is 0. -/
theorem uo_ne (hk : Kind g d) {p : F × F} (h1 : p.2 ≠ 1) (h2 : p.2 ≠ -1) : uo g p ≠ 0 := by
  have hg := hk.sq
  have a : 1 + p.2 ≠ 0 := fun e => h2 (by grind)
  have g0 : g ≠ 0 := fun e => one_ne_zero (by rw [← hg, e]; exact z1 _)
  have b : 1 - p.2 ≠ 0 := fun e => h1 (by grind)
  exact mul_ne a (inv_ne_zero (mul_ne g0 b))
theorem rep_uo (hk : Kind g d) {p : F × F} (h1 : p.2 ≠ 1) : Rep g (uo g p, 1) p := by
  have hg := hk.sq
  have g0 : g ≠ 0 := fun e => one_ne_zero (by rw [← hg, e]; exact z1 _)
  have b : 1 - p.2 ≠ 0 := fun e => h1 (by grind)
  have c := mul_ne g0 b
  refine ⟨inv (g * (1 - p.2)), inv_ne_zero c, ?_, ?_⟩
  · show (1 + p.2) * inv (g * (1 - p.2)) = _
    generalize inv (g * (1 - p.2)) = k; grind
  · show 1 = _
    have := mul_inv c
    generalize inv (g * (1 - p.2)) = k at *; grind

/-- The product of a point's number is the number of the point's product. -/
theorem prod_uo (hk : Kind g d) (hd : NonSq d) {q : F × F} (hq : On d q.1 q.2) (V : Nat) (hV : V < 2 ^ 255) (h2 : V % 2 = 0) : prod V (uo g q) = uo g (mul d q V) := by
  by_cases a : q.2 = 1
  · have := y_one hd hq a
    rw [this, uo_zero, prod_zero V h2, mul_zero_pt, uo_zero]
  · by_cases b : q.2 = -1
    · rw [uo_neg b, prod_zero V h2, mul_even hd hq (y_neg hd hq b) V h2, uo_zero]
    · exact prod_pt hk hd hq (rep_uo hk a) (uo_ne hk a b) V hV
end

/-- They meet. -/
theorem prod_comm (a b : Nat) (u : F) (ha : a < 2 ^ 255) (ha2 : a % 2 = 0) (hb : b < 2 ^ 255) (hb2 : b % 2 = 0) : prod a (prod b u) = prod b (prod a u) := by
  by_cases hu : u = 0
  · rw [hu, prod_zero a ha2, prod_zero b hb2, prod_zero a ha2]
  · obtain ⟨g, d, p0, hk, hd, h0, r0⟩ := pt_of hu
    rw [prod_pt hk hd h0 r0 hu a ha, prod_pt hk hd h0 r0 hu b hb, prod_uo hk hd (mul_on hd h0 b) a ha ha2, prod_uo hk hd (mul_on hd h0 a) b hb hb2, mul_swap hd h0]
end Edw
end Go.Proofs.Ytciakfhjjnmeeaa

namespace Go.Proofs.Ytciakfhjjnmeeaa
open Go.RowKit Nt

/-- A key clamped. -/
def clampL (L : List Int) : List Int := (L.set 0 (nth L 0 / 8 * 8)).set 31 (nth L 31 % 64 + 64)
/-- A clamped key's number. -/
def cl (L : List Int) : Nat := (num (clampL L)).toNat

theorem and248 (x : Int) (h0 : 0 ≤ x) (h1 : x < 256) : bits .and .u8 x 248 = x / 8 * 8 := by
  obtain ⟨n, rfl⟩ := Int.eq_ofNat_of_zero_le h0
  have h : ∀ n : Fin 256, bits .and .u8 (n.val : Int) 248 = (n.val : Int) / 8 * 8 := by decide +kernel
  exact h ⟨n, by omega⟩
theorem and127_or64 (x : Int) (h0 : 0 ≤ x) (h1 : x < 256) : bits .or .u8 (bits .and .u8 x 127) 64 = x % 64 + 64 := by
  obtain ⟨n, rfl⟩ := Int.eq_ofNat_of_zero_le h0
  have h : ∀ n : Fin 256, bits .or .u8 (bits .and .u8 (n.val : Int) 127) 64 = (n.val : Int) % 64 + 64 := by decide +kernel
  exact h ⟨n, by omega⟩

theorem clampL_len (L : List Int) : (clampL L).length = L.length := by simp [clampL]
theorem clampL_byt {L : List Int} (hb : Byt L) : Byt (clampL L) := by
  have h0 := hb.nth 0
  have h31 := hb.nth 31
  intro x hx
  rcases List.mem_or_eq_of_mem_set hx with h | rfl
  · rcases List.mem_or_eq_of_mem_set h with h | rfl
    · exact hb x h
    · omega
  · omega
theorem clampL_eq {L : List Int} (hl : L.length = 32) (hb : Byt L) : clampL L = bytesN (cl L) := (bytesN_num _ (by rw [clampL_len, hl]) (clampL_byt hb)).1
theorem num_set0 (L : List Int) (hl : L.length = 32) : num L = nth L 0 + 256 * num (L.drop 1) := by
  have := num_drop L 0 (by omega)
  simpa using this
theorem cl_val {L : List Int} (hl : L.length = 32) (hb : Byt L) : ∃ r : Nat, (cl L : Nat) = 8 * r + 2 ^ 248 * ((nth L 31).toNat % 64 + 64) ∧ 8 * r < 2 ^ 248 := by
  have hcb := clampL_byt hb
  have hcl : (clampL L).length = 32 := by rw [clampL_len, hl]
  have h31 := hb.nth 31
  have e1 : (clampL L).drop 31 = [nth L 31 % 64 + 64] := by
    rw [List.drop_eq_getElem_cons (by omega), List.drop_of_length_le (by omega)]
    simp [clampL]
  have e2 : clampL L = (clampL L).take 31 ++ (clampL L).drop 31 := (List.take_append_drop _ _).symm
  have hn := num_bound _ hcb
  have e3 : num (clampL L) = num ((clampL L).take 31) + 256 ^ 31 * (nth L 31 % 64 + 64) := by
    conv => lhs; rw [e2, num_append, e1]
    rw [List.length_take, hcl]
    simp [num]
  have hb2 := num_bound _ (hcb.take 31)
  rw [List.length_take, hcl] at hb2
  have e4 : num ((clampL L).take 31) = nth L 0 / 8 * 8 + 256 * num (((clampL L).take 31).drop 1) := by
    have h := num_drop ((clampL L).take 31) 0 (by rw [List.length_take, hcl]; omega)
    rw [List.drop_zero] at h
    rw [h]
    have : nth ((clampL L).take 31) 0 = nth L 0 / 8 * 8 := by
      rw [nth_get (by rw [List.length_take, hcl]; omega)]
      simp [clampL]
    rw [this]
  have p1 : (256 : Int) ^ 31 = 2 ^ 248 := by decide
  have p2 : (256 : Int) ^ (min 31 32) = 2 ^ 248 := by decide
  rw [p2] at hb2
  rw [p1] at e3
  have h0 := hb.nth 0
  generalize num (((clampL L).take 31).drop 1) = q at e4
  generalize num ((clampL L).take 31) = p at *
  refine ⟨(p / 8).toNat, ?_, ?_⟩
  · rw [cl, e3]
    omega
  · omega
theorem cl_lt {L : List Int} (hl : L.length = 32) (hb : Byt L) : cl L < 2 ^ 255 := by
  obtain ⟨r, h1, h2⟩ := cl_val hl hb; omega
theorem cl_pos {L : List Int} (hl : L.length = 32) (hb : Byt L) : 0 < cl L := by
  obtain ⟨r, h1, h2⟩ := cl_val hl hb; omega
theorem cl_eight {L : List Int} (hl : L.length = 32) (hb : Byt L) : cl L % 8 = 0 := by
  obtain ⟨r, h1, h2⟩ := cl_val hl hb; omega

set_option maxHeartbeats 1000000 in
set_option maxRecDepth 100000 in
theorem clamp_any (L : List Int) (w : World) (hl : L.length = 32) (hb : Byt L) : Calls Try.prog 48 #[.agg (vals L)] w (Gives (· = .agg (vals (clampL L))) w) := by
  have hcl := Lib.hid ((clampL_len L).trans hl)
  have b0 := hb.nth 0
  have b31 := hb.nth 31
  have a0 := and248 (nth L 0) b0.1 b0.2
  have a31 := and127_or64 (nth L 31) b31.1 b31.2
  have v0 : (vals L)[0]? = some (.int .u8 (nth L 0)) := vals_get (by omega)
  have s0 : (vals L).setIfInBounds 0 (.int .u8 (nth L 0 / 8 * 8)) = vals (L.set 0 (nth L 0 / 8 * 8)) := vals_set _ _ _
  have v31 : (vals (L.set 0 (nth L 0 / 8 * 8)))[31]? = some (.int .u8 (nth L 31)) := by
    rw [vals_get (by rw [List.length_set]; omega)]
    simp [nth]
  have s31 : (vals (L.set 0 (nth L 0 / 8 * 8))).setIfInBounds 31 (.int .u8 (nth L 31 % 64 + 64)) = vals (clampL L) := vals_set _ _ _
  clear hl hb
  generalize L.set 0 (nth L 0 / 8 * 8) = L1 at *
  generalize nth L 0 = x0 at *
  generalize nth L 31 = x31 at *
  generalize clampL L = L2 at *
  go_enter Try.func48, Try.ntmps48
  go_wp2_with (first | (refine ld_row rfl 68 (.tmp 1) rfl _ (by rfl) _ _ (new2_0 ..) 32 tKey (by rw [vals_size, hcl.out]) ?_) | (refine st_row rfl 68 (.tmp 2) _ rfl _ _ (by rfl) (by rfl) _ _ (new2_1 ..) 32 tKey (by rw [vals_size, hcl.out]) (by rfl) (vals_one _) ?_))
  refine ret_row rfl _ _ _ rfl (row_put (new2_1 ..)) 32 tKey (by rw [vals_size, hcl.out]) rfl ?_
  exact ⟨_, rfl, rfl, below_setRow (by go_grown) (by omega) _⟩
end Go.Proofs.Ytciakfhjjnmeeaa

namespace Go.Proofs.Ytciakfhjjnmeeaa
open Go.RowKit Nt

theorem byte_up (V j : Nat) : V / 256 ^ j = 256 * (V / 256 ^ (j + 1)) + byteOf V j := by
  unfold byteOf
  rw [Nat.pow_succ, ← Nat.div_div_eq_div_mul]
  omega

theorem byte_less {V W j : Nat} (h : V < W) (hd : V / 256 ^ (j + 1) = W / 256 ^ (j + 1)) (hne : byteOf V j ≠ byteOf W j) : byteOf V j < byteOf W j := by
  have h1 := byte_up V j
  have h2 := byte_up W j
  have h3 : V / 256 ^ j ≤ W / 256 ^ j := Nat.div_le_div_right (Nat.le_of_lt h)
  omega

theorem pb0_bytes : pb 0 = bytesN P := bytes_of_num _ (pb_len _) (pb_byt _ (by omega) (by omega)) _ (by rw [pb_num]; decide)

set_option maxHeartbeats 1000000 in
set_option maxRecDepth 100000 in
theorem below_any (V : Nat) (w : World) (hV : V < P) :
    Calls Try.prog 26 #[.agg (vals (bytesN V))] w fun e w' => e = .returned (.bool true) ∧ Below w.heap.size w w' := by
  have hP : P < 256 ^ 32 := by decide
  have HP0 := Lib.hid pb0_bytes
  have HV := Lib.hid hV
  have HT : V / 256 ^ 32 = P / 256 ^ 32 := by rw [Nat.div_eq_of_lt hP, Nat.div_eq_of_lt (Nat.lt_trans hV hP)]
  clear hP
  have R0 := row_new (w := w) (x := .cells (vals (bytesN V)) 22)
  have B0 : Below w.heap.size w (w.alloc (.cells (vals (bytesN V)) 22)) := by go_grown
  go_enter Try.func26, Try.ntmps26
  go_wp2_with fail
  generalize w.alloc (.cells (vals (bytesN V)) 22) = W at *
  refine (prime_any 0 _ (by omega) (by omega)).mono ?_
  rintro e w1 ⟨rfl, b1⟩
  rw [HP0.out]
  replace R0 := row_call b1 R0
  have B1 := below_call b1 B0
  clear b1 B0 W
  have L1 := row_lt R0
  replace R0 := row_alloc (x := .cells (vals (bytesN P)) 22) R0
  have R1 := row_new (w := w1) (x := .cells (vals (bytesN P)) 22)
  have B2 := B1.alloc B1.size (.cells (vals (bytesN P)) 22)
  have HB32 := Lib.hid (show (vals (bytesN P)).size = 32 by rw [vals_size, bytesN_len])
  have HO := Lib.hid (vals_one (bytesN P))
  generalize P = N at *
  go_wp2_with ((with_reducible refine guard_list ?_); refine st_new rfl 22 (.tmp 3) _ rfl _ _ _ (by rfl) (by rfl) 32 tBytes HB32.out (by rfl) HO.out ?_)
  generalize w1.alloc (.cells (vals (bytesN N)) 22) = W at *
  generalize w1.heap.size = g at *
  clear B1 w1
  go_loopw [4] (fun i wr => ∃ k : Nat, k ≤ 32 ∧ i = .int .i64 ((k : Int) - 1) ∧ V / 256 ^ k = N / 256 ^ k ∧ wr.heap[w.heap.size]? = some (.cells (vals (bytesN V)) 22 (0, 0)) ∧ wr.heap[g]? = some (.cells (vals (bytesN N)) 22 (0, 0)) ∧ Below w.heap.size w wr) (fun i _ => (intOf i + 1).toNat)
  case atStart => exact ⟨32, by omega, rfl, HT, R0, R1, B2⟩
  case round =>
    obtain ⟨k, hk, rfl, hd, Ra, Rb, Bk⟩ := hrel
    clear R0 R1 B2 HT
    by_cases h0 : k = 0
    · subst h0
      exact absurd hd (by simp; have := HV.out; omega)
    · obtain ⟨m, rfl⟩ : ∃ m, k = m + 1 := ⟨k - 1, by omega⟩
      have ca : wr.cell? ⟨w.heap.size, m, none⟩ = some (.int .u8 (byteOf V m)) := (row_cell Ra m).trans (by rw [vals_get (by rw [bytesN_len]; omega), nth_bytesN _ _ (by omega)])
      have cb : wr.cell? ⟨g, m, none⟩ = some (.int .u8 (byteOf N m)) := (row_cell Rb m).trans (by rw [vals_get (by rw [bytesN_len]; omega), nth_bytesN _ _ (by omega)])
      have HRa := Lib.hid Ra
      have HRb := Lib.hid Rb
      have HDr := Lib.hid hd
      clear Ra Rb hd
      by_cases he : byteOf V m = byteOf N m
      · have hbe : (((byteOf V m : Nat) : Int) != (byteOf N m : Nat)) = false := by simp [he]
        have HE := Lib.hid he
        clear he
        go_wp2
        go_quiet (fail)
        go_wp2
        go_roundw
        case rel =>
          refine ⟨m, by omega, by go_num, ?_, HRa.out, HRb.out, below_drewN Bk _⟩
          rw [byte_up V m, byte_up N m, HDr.out, HE.out]
        case measure => simp [intOf]
      · have hbe : (((byteOf V m : Nat) : Int) != (byteOf N m : Nat)) = true := by simp; omega
        have hX := byte_less HV.out HDr.out he
        have HX := Lib.hid (decide_eq_true hX)
        clear he hX
        go_wp2
        go_quiet (fail)
        go_wp2
        go_quiet (fail)
        go_wp2
        go_returns
        exact ⟨by rw [← HX.out]; rfl, below_drewN (below_drewN Bk _) _⟩
theorem below_ev (V : Nat) (hV : V < P) (w : World) : Calls Try.prog 26 #[.agg (vals (bytesN V))] w (Gives (· = .bool true) w) :=
  (below_any V w hV).mono fun _ _ ⟨e1, e2⟩ => ⟨_, e1, rfl, e2⟩
end Go.Proofs.Ytciakfhjjnmeeaa

namespace Go.Proofs.Ytciakfhjjnmeeaa
open Go.RowKit Nt

theorem xor128 (x : Int) (h0 : 0 ≤ x) (h1 : x < 256) : bits .xor .u8 x 128 = if x < 128 then x + 128 else x - 128 := by
  obtain ⟨n, rfl⟩ := Int.eq_ofNat_of_zero_le h0
  have : ∀ n : Fin 256, bits .xor .u8 ((n.val : Nat) : Int) 128 = if ((n.val : Nat) : Int) < 128 then ((n.val : Nat) : Int) + 128 else ((n.val : Nat) : Int) - 128 := by decide +kernel
  exact this ⟨n, by omega⟩

theorem val_numF (l : List Int) (hb : Byt l) : ((numF l).val : Int) = num l % 57896044618658097711785492504343953926634992332820282019728792003956564819968 % 57896044618658097711785492504343953926634992332820282019728792003956564819949 := by
  have h := num_bound l hb
  show (((num l % 57896044618658097711785492504343953926634992332820282019728792003956564819968).toNat % P : Nat) : Int) = _
  rw [Int.natCast_emod, PI_eq, Int.toNat_of_nonneg (by omega)]

theorem numF_bytes (n : F) (V : Nat) (h : n.val = V) : numF (bytesN V) = n := by
  subst h
  apply Fin.ext
  have h1 := val_numF (bytesN n.val) (bytesN_byt _)
  have h2 : n.val < P := n.isLt
  have h3 : (P : Int) = 57896044618658097711785492504343953926634992332820282019728792003956564819949 := by decide
  rw [num_bytesN _ (Nat.lt_trans n.isLt (by decide))] at h1
  omega

theorem num_top (l : List Int) (hl : l.length = 32) (v : Int) : num (l.set 31 v) = num l + 256 ^ 31 * (v - nth l 31) := by
  have e1 : l = l.take 31 ++ [nth l 31] := by
    have := drop_nth l 31 (by omega)
    rw [List.drop_of_length_le (show l.length ≤ 31 + 1 by omega)] at this
    rw [← this, List.take_append_drop]
  have hlt : (l.take 31).length = 31 := by rw [List.length_take]; omega
  have e2 : l.set 31 v = l.take 31 ++ [v] := by
    conv => lhs; rw [e1]
    rw [List.set_append_right _ _ (by omega), hlt]
    rfl
  have e3 : num l = num (l.take 31) + 256 ^ 31 * nth l 31 := by
    conv => lhs; rw [e1]
    rw [num_append, hlt]; simp [num]
  rw [e2, num_append, hlt, e3]
  simp only [num]
  generalize (256 : Int) ^ 31 = c
  grind

/-- The highest bit does not count. -/
theorem high_same (l : List Int) (hl : l.length = 32) (hb : Byt l) : numF (l.set 31 (bits .xor .u8 (nth l 31) 128)) = numF l ∧ Byt (l.set 31 (bits .xor .u8 (nth l 31) 128)) := by
  have h31 := hb.nth 31
  have hx := xor128 _ h31.1 h31.2
  rw [hx]
  have hbyt : Byt (l.set 31 (if nth l 31 < 128 then nth l 31 + 128 else nth l 31 - 128)) := by
    intro x hx'
    rcases List.mem_or_eq_of_mem_set hx' with h | h
    · exact hb x h
    · subst h; split <;> omega
  have hv : (if nth l 31 < 128 then nth l 31 + 128 else nth l 31 - 128) = nth l 31 + 128 ∨ (if nth l 31 < 128 then nth l 31 + 128 else nth l 31 - 128) = nth l 31 - 128 := by split <;> simp
  generalize (if nth l 31 < 128 then nth l 31 + 128 else nth l 31 - 128) = v at *
  refine ⟨?_, hbyt⟩
  apply Fin.ext
  have h1 := val_numF l hb
  have h2 := val_numF _ hbyt
  rw [num_top l hl] at h2
  have e : (256 : Int) ^ 31 = 452312848583266388373324160190187140051835877600158453279131187530910662656 := by decide
  rw [e] at h2
  generalize num l = n at *
  rcases hv with hv | hv <;> rw [hv] at h2 ⊢ <;> rw [hv] at hbyt <;> omega

theorem c_num : ∀ k : Fin 19, numF (f32.set 0 (255 - (k.val : Int))) = Fin.ofNat P (18 - k.val) := by decide +kernel
theorem c_num19 : numF (f32.set 0 236) = 0 - (1 : F) := by decide +kernel
theorem c_byt (k : Nat) (h : k < 256) : Byt (f32.set 0 (255 - (k : Int))) := by
  intro x hx
  rcases List.mem_or_eq_of_mem_set hx with h' | h'
  · have : ∀ y ∈ f32, 0 ≤ y ∧ y < 256 := by decide
    exact this x h'
  · subst h'; omega

theorem equal_el_yes {x y : Value} {n m : F} (hx : IsEl n x) (hy : IsEl m y) (h : n = m) (w : World) : Calls Try.prog 25 #[x, y] w (Gives (· = .int .u64 18446744073709551615) w) := by
  have := equal_el hx hy w
  rw [decide_eq_true h] at this; exact this
theorem equal_el_no {x y : Value} {n m : F} (hx : IsEl n x) (hy : IsEl m y) (h : ¬ n = m) (w : World) : Calls Try.prog 25 #[x, y] w (Gives (· = .int .u64 0) w) := by
  have := equal_el hx hy w
  rw [decide_eq_false h] at this; exact this
theorem of_ev (l : List Int) (hl : l.length = 32) (hb : Byt l) {n : F} (h : numF l = n) (w : World) : Calls Try.prog 19 #[.agg (vals l)] w (Gives (IsEl n) w) := by
  subst h; exact of_el l hl hb w
theorem bytes_same {n m : F} {V W : Nat} (hV : n.val = V) (hW : m.val = W) : decide (bytesN V = bytesN W) = decide (n = m) := by
  refine decide_eq_decide.2 ⟨fun h => ?_, fun h => by subst hV; subst hW; rw [h]⟩
  rw [← numF_bytes n V hV, ← numF_bytes m W hW, h]
theorem eql_by_as {p q : Operand} (xs ys : List Int) (hx : xs.length = 32) (hy : ys.length = 32) (b : Bool) (h : decide (xs = ys) = b) (w : World) :
    (do eqGuard .eql 22 p q (.agg (vals xs)) (.agg (vals ys)); binOp .eql 22 (.agg (vals xs)) (.agg (vals ys)) : Sem Value).run Try.prog w = .ok (.bool b) w := by
  subst h; exact eql_by xs ys hx hy w
end Go.Proofs.Ytciakfhjjnmeeaa

namespace Go.Proofs.Ytciakfhjjnmeeaa
open Go.RowKit Nt Edw

/-- The exchange. -/
def swp (b : Bool) (s : (F × F) × (F × F)) : (F × F) × (F × F) := if b then (s.2, s.1) else s
theorem dad_comm (x1 : F) (p q : F × F) : dad x1 p q = dad x1 q p := Prod.ext (by simp only [dad]; grind) (by simp only [dad]; grind)
/-- A round: exchanged by whether the bits differ, then a doubling and a sum. -/
theorem round_stp (x1 : F) (b b' : Bool) (p2 q2 p3 q3 : F) :
    swp b' (dbl (selF (xor b b') p3 p2, selF (xor b b') q3 q2), dad x1 (selF (xor b b') p3 p2, selF (xor b b') q3 q2) (selF (xor b b') p2 p3, selF (xor b b') q2 q3)) = stp x1 b' (swp b ((p2, q2), (p3, q3))) := by
  cases b <;> cases b'
  · rfl
  · show (dad x1 (p3, q3) (p2, q2), dbl (p3, q3)) = (dad x1 (p2, q2) (p3, q3), dbl (p3, q3)); rw [dad_comm]
  · show (dbl (p3, q3), dad x1 (p3, q3) (p2, q2)) = (dbl (p3, q3), dad x1 (p3, q3) (p2, q2)); rfl
  · show (dad x1 (p2, q2) (p3, q3), dbl (p2, q2)) = (dad x1 (p3, q3) (p2, q2), dbl (p2, q2)); rw [dad_comm]
theorem clamp_ev (L : List Int) (hl : L.length = 32) (hb : Byt L) (V : Nat) (h : clampL L = bytesN V) (w : World) : Calls Try.prog 48 #[.agg (vals L)] w (Gives (· = .agg (vals (bytesN V))) w) := by
  have := clamp_any L w hl hb
  rw [h] at this; exact this
theorem times24_ev {x : Value} {n m : F} (hm : n * 121665 = m) (hx : IsEl n x) (w : World) : Calls Try.prog 40 #[x, .int .u32 121665] w (Gives (IsEl m) w) := by
  have e : (Fin.ofNat P (121665 : Int).toNat : F) = 121665 := by decide
  exact times_ev (by omega) (by rw [e]; exact hm) hx w
/-- The mask's lowest bit tells whether two bits differ. -/
theorem mask_bit (b b' : Bool) : (0 ≤ IntKind.u64.wrap (-(bits .xor .u64 (b.toNat : Int) (b'.toNat : Int))) ∧ IntKind.u64.wrap (-(bits .xor .u64 (b.toNat : Int) (b'.toNat : Int))) < 18446744073709551616) ∧ decide (IntKind.u64.wrap (-(bits .xor .u64 (b.toNat : Int) (b'.toNat : Int))) % 2 = 1) = xor b b' := by
  cases b <;> cases b' <;> decide
theorem neg_bit (b : Bool) : (0 ≤ IntKind.u64.wrap (-(b.toNat : Int)) ∧ IntKind.u64.wrap (-(b.toNat : Int)) < 18446744073709551616) ∧ decide (IntKind.u64.wrap (-(b.toNat : Int)) % 2 = 1) = b := by
  cases b <;> decide

theorem swap_evn {x y : Value} {n m n' m' : F} (b : Bool) {v : Int} (h : (0 ≤ v ∧ v < 18446744073709551616) ∧ decide (v % 2 = 1) = b) (hx : IsEl n x) (hy : IsEl m y) (e1 : n' = selF b m n) (e2 : m' = selF b n m) (w : World) : Calls Try.prog 38 #[.int .u64 v, x, y] w (Gives (IsEl2 n' m') w) := by
  subst e1; subst e2; exact swap_ev b h hx hy w
theorem and_one64 (x : Int) (h0 : 0 ≤ x) (h1 : x < 256) : bits .and .u64 x 1 = x % 2 := by
  obtain ⟨n, rfl⟩ := Int.eq_ofNat_of_zero_le h0
  have h : ∀ n : Fin 256, bits .and .u64 (n.val : Int) 1 = (n.val : Int) % 2 := by decide +kernel
  exact h ⟨n, by omega⟩

set_option maxHeartbeats 4000000 in
set_option maxRecDepth 100000 in
theorem ladmul_any (Lk Lu : List Int) (V : Nat) (x1 R : F) (w : World) (hlk : Lk.length = 32) (hbk : Byt Lk) (hlu : Lu.length = 32) (hbu : Byt Lu) (hV : clampL Lk = bytesN V) (hV2 : V < 2 ^ 255) (hx : numF Lu = x1) (hR : prod V x1 = R) :
    Calls Try.prog 47 #[.agg (vals Lk), .agg (vals Lu)] w (Gives (· = .agg (vals (bytesN R.val))) w) := by
  have HLK := Lib.hid hlk
  have HLU := Lib.hid hlu
  have HV := Lib.hid hV
  have HV2 := Lib.hid hV2
  have HX := Lib.hid hx
  have HR := Lib.hid hR
  clear hlk hlu hV hV2 hx hR
  have hS : Own w [(w.heap.size, 32, (· = .agg (vals Lk))), (w.heap.size + 1, 32, (· = .agg (vals Lu))), (w.heap.size + 1 + 1, 32, (fun _ => True))] (((w.alloc (.cells (vals Lk) 68)).alloc (.cells (vals Lu) 68)).alloc (.cells #[.int .u8 0, .int .u8 0, .int .u8 0, .int .u8 0, .int .u8 0, .int .u8 0, .int .u8 0, .int .u8 0, .int .u8 0, .int .u8 0, .int .u8 0, .int .u8 0, .int .u8 0, .int .u8 0, .int .u8 0, .int .u8 0, .int .u8 0, .int .u8 0, .int .u8 0, .int .u8 0, .int .u8 0, .int .u8 0, .int .u8 0, .int .u8 0, .int .u8 0, .int .u8 0, .int .u8 0, .int .u8 0, .int .u8 0, .int .u8 0, .int .u8 0, .int .u8 0] 68)) := by
    have a0 : Own w [] (((w.alloc (.cells (vals Lk) 68)).alloc (.cells (vals Lu) 68)).alloc (.cells #[.int .u8 0, .int .u8 0, .int .u8 0, .int .u8 0, .int .u8 0, .int .u8 0, .int .u8 0, .int .u8 0, .int .u8 0, .int .u8 0, .int .u8 0, .int .u8 0, .int .u8 0, .int .u8 0, .int .u8 0, .int .u8 0, .int .u8 0, .int .u8 0, .int .u8 0, .int .u8 0, .int .u8 0, .int .u8 0, .int .u8 0, .int .u8 0, .int .u8 0, .int .u8 0, .int .u8 0, .int .u8 0, .int .u8 0, .int .u8 0, .int .u8 0, .int .u8 0] 68)) := Own.of_below (by go_grown)
    have a1 := a0.add (g := w.heap.size) (n := 32) (V := (· = .agg (vals Lk))) (Nat.le_refl _) (fun r hr => by cases hr) ⟨_, _, new3_0 .., by rw [vals_size, HLK.out], rfl⟩
    have a2 := a1.add (g := w.heap.size + 1) (n := 32) (V := (· = .agg (vals Lu))) (by omega) (by simp) ⟨_, _, new3_1 .., by rw [vals_size, HLU.out], rfl⟩
    exact a2.add (g := w.heap.size + 1 + 1) (n := 32) (V := fun _ => True) (by omega) (by simp; omega) ⟨_, _, new3_2 .., rfl, trivial⟩
  go_enter Try.func47, Try.ntmps47
  go_wp2_with ((with_reducible refine guard_list ?_); first | (refine held_load 26 _ rfl ?_) | (refine held_load 22 _ rfl ?_) | (refine held_load 68 _ rfl ?_))
  generalize ((w.alloc (.cells (vals Lk) 68)).alloc (.cells (vals Lu) 68)).alloc (.cells #[.int .u8 0, .int .u8 0, .int .u8 0, .int .u8 0, .int .u8 0, .int .u8 0, .int .u8 0, .int .u8 0, .int .u8 0, .int .u8 0, .int .u8 0, .int .u8 0, .int .u8 0, .int .u8 0, .int .u8 0, .int .u8 0, .int .u8 0, .int .u8 0, .int .u8 0, .int .u8 0, .int .u8 0, .int .u8 0, .int .u8 0, .int .u8 0, .int .u8 0, .int .u8 0, .int .u8 0, .int .u8 0, .int .u8 0, .int .u8 0, .int .u8 0, .int .u8 0] 68) = W0 at *
  obtain ⟨M, hM⟩ : ∃ M, M = W0.heap.size := ⟨_, rfl⟩
  have hMB : w.heap.size ≤ M := hM ▸ hS.1.size
  have ltM := hS.lt
  rw [← hM] at ltM
  refine hide_held fun t0 HT => ?_
  have HS : t0.size = 125 := by rw [HT]; rfl
  have h2 : t0[2]? = some (.pointer (some ⟨w.heap.size, 0, none⟩)) := by rw [HT]; rfl
  have h3 : t0[3]? = some (.pointer (some ⟨(w.heap.size + 1), 0, none⟩)) := by rw [HT]; rfl
  have h4 : t0[4]? = some (.pointer (some ⟨(w.heap.size + 1 + 1), 0, none⟩)) := by rw [HT]; rfl
  clear HT
  refine wp_list_most 3 (fun i => [22, 23, 5].getD i 0) (fun i => [none, none, some 32].getD i none) (fun i => [(· = .agg (vals Lk)), (· = .agg (vals (bytesN V))), (fun _ => True)].getD i (fun _ => True)) (fun w' => Own w [(w.heap.size, 32, (· = .agg (vals Lk))), ((w.heap.size + 1), 32, (· = .agg (vals Lu))), ((w.heap.size + 1 + 1), 32, (fun _ => True))] w' ∧ M ≤ w'.heap.size) M
    (by kernel_rfl) (slots_apart (by kernel_rfl)) (slots_lie (by rw [HS]; kernel_rfl)) ⟨hS, Nat.le_of_eq hM⟩ (fun w' h => h.2) (fun w1 w2 h b => ⟨h.1.keep b, Nat.le_trans h.2 b.size⟩) ?_ ?_ ?_
  · clear hS
    intro i o hi ho hA
    have hc : i = 0 ∨ i = 1 ∨ i = 2 := by omega
    rcases hc with rfl | rfl | rfl
    · obtain rfl := Option.some.inj ho
      refine ⟨rfl, fun a w' hS hold hin K hK => ?_⟩
      refine if_always rfl ?_
      exact op_ld_own 32 tKey (.tmp 2) rfl rfl _ (eval_tmp ((hold 2 (slots_not (by kernel_rfl))).trans h2)) hS.1 0 rfl hK
    · obtain rfl := Option.some.inj ho
      refine ⟨rfl, fun a w' hS hold hin K hK => ?_⟩
      obtain ⟨y0, x0, rfl⟩ := hin 0 rfl (by omega) rfl
      refine if_always rfl ?_
      exact op_fn1 _ _ _ _ rfl rfl (eval_tmp x0) (by intro args w; kernel_rfl) (clamp_ev Lk HLK.out hbk V HV.out _) hK
    · cases hA
  · intro i o sz hi ho hA
    have hc : i = 0 ∨ i = 1 ∨ i = 2 := by omega
    rcases hc with rfl | rfl | rfl
    · cases hA
    · cases hA
    · obtain rfl := Option.some.inj ho
      obtain rfl := Option.some.inj hA
      exact ⟨rfl, rfl, 68, #[.int .u8 0, .int .u8 0, .int .u8 0, .int .u8 0, .int .u8 0, .int .u8 0, .int .u8 0, .int .u8 0, .int .u8 0, .int .u8 0, .int .u8 0, .int .u8 0, .int .u8 0, .int .u8 0, .int .u8 0, .int .u8 0, .int .u8 0, .int .u8 0, .int .u8 0, .int .u8 0, .int .u8 0, .int .u8 0, .int .u8 0, .int .u8 0, .int .u8 0, .int .u8 0, .int .u8 0, .int .u8 0, .int .u8 0, .int .u8 0, .int .u8 0, .int .u8 0], rfl, fun a w' K h => wp_new 68 #[.int .u8 0, .int .u8 0, .int .u8 0, .int .u8 0, .int .u8 0, .int .u8 0, .int .u8 0, .int .u8 0, .int .u8 0, .int .u8 0, .int .u8 0, .int .u8 0, .int .u8 0, .int .u8 0, .int .u8 0, .int .u8 0, .int .u8 0, .int .u8 0, .int .u8 0, .int .u8 0, .int .u8 0, .int .u8 0, .int .u8 0, .int .u8 0, .int .u8 0, .int .u8 0, .int .u8 0, .int .u8 0, .int .u8 0, .int .u8 0, .int .u8 0, .int .u8 0] (fun w => by kernel_rfl) h⟩
  clear hS
  intro t1 V1 hs hold hout hall hne hS
  replace HS := hs.trans HS
  replace hS := hS.1
  obtain ⟨gn, h5, b5, r5⟩ : ∃ g, t1[5]? = some (.pointer (some ⟨g, 0, none⟩)) ∧ M ≤ g ∧ ∃ cs ty, V1.heap[g]? = some (.cells cs ty (0, 0)) ∧ cs.size = 32 := by
    obtain ⟨g, p1, p2, ty, cs, p3, p4⟩ := hall 2 (by omega) 32 rfl
    exact ⟨g, p1, p2, cs, ty, p3, p4⟩
  replace hS : Own w [(w.heap.size, 32, (· = .agg (vals Lk))), ((w.heap.size + 1), 32, (· = .agg (vals Lu))), ((w.heap.size + 1 + 1), 32, (fun _ => True)), (gn, 32, (fun _ => True))] V1 := hS.add (Nat.le_trans hMB b5) (fun r hr => Nat.ne_of_lt (Nat.lt_of_lt_of_le (ltM r hr) b5)) (Own.any r5)
  obtain ⟨x23, q23, v23⟩ : ∃ x, t1[23]? = some x ∧ ((· = .agg (vals (bytesN V)))) x := hout 1 (by omega) rfl
  replace h2 := (hold 2 (slots_not (by kernel_rfl))).trans h2
  replace h3 := (hold 3 (slots_not (by kernel_rfl))).trans h3
  replace h4 := (hold 4 (slots_not (by kernel_rfl))).trans h4
  clear hold hout hs hall hne
  simp only [List.drop_succ_cons, List.drop_zero]
  refine st_own 32 tKey rfl (.tmp 5) (.tmp 23) rfl rfl _ _ (eval_tmp h5) (eval_tmp q23) (V' := (· = .agg (vals (bytesN V)))) v23 (by_row (bytesN_len _)) hS 3 rfl fun V1' hS' _ => ?_
  replace hS : Own w [(w.heap.size, 32, (· = .agg (vals Lk))), ((w.heap.size + 1), 32, (· = .agg (vals Lu))), ((w.heap.size + 1 + 1), 32, (fun _ => True)), (gn, 32, (· = .agg (vals (bytesN V))))] V1' := hS'
  clear hS'
  refine wpList_nil ?_
  obtain ⟨f, e0, hf⟩ := wash HS
  have f2 := hf 2 _ h2
  have f3 := hf 3 _ h3
  have f4 := hf 4 _ h4
  have f5 := hf 5 _ h5
  clear hf
  rw [e0.trans (show _ = #[f 0, f 1, f 2, f 3, f 4, f 5, f 6, f 7, f 8, f 9, f 10, f 11, f 12, f 13, f 14, f 15, f 16, f 17, f 18, f 19, f 20, f 21, f 22, f 23, f 24, f 25, f 26, f 27, f 28, f 29, f 30, f 31, f 32, f 33, f 34, f 35, f 36, f 37, f 38, f 39, f 40, f 41, f 42, f 43, f 44, f 45, f 46, f 47, f 48, f 49, f 50, f 51, f 52, f 53, f 54, f 55, f 56, f 57, f 58, f 59, f 60, f 61, f 62, f 63, f 64, f 65, f 66, f 67, f 68, f 69, f 70, f 71, f 72, f 73, f 74, f 75, f 76, f 77, f 78, f 79, f 80, f 81, f 82, f 83, f 84, f 85, f 86, f 87, f 88, f 89, f 90, f 91, f 92, f 93, f 94, f 95, f 96, f 97, f 98, f 99, f 100, f 101, f 102, f 103, f 104, f 105, f 106, f 107, f 108, f 109, f 110, f 111, f 112, f 113, f 114, f 115, f 116, f 117, f 118, f 119, f 120, f 121, f 122, f 123, f 124] from by kernel_rfl), f2, f3, f4, f5]
  clear f2 f3 f4 f5
  clear e0
  dsimp only
  clear h2 h3 h4 h5 q23 v23 b5 r5 ltM hMB hM HS t1 t0 M
  go_wp2_with ((with_reducible refine guard_list ?_); first | (refine held_load 26 _ rfl ?_) | (refine held_load 22 _ rfl ?_) | (refine held_load 68 _ rfl ?_))
  obtain ⟨M, hM⟩ : ∃ M, M = V1'.heap.size := ⟨_, rfl⟩
  have hMB : w.heap.size ≤ M := hM ▸ hS.1.size
  have ltM := hS.lt
  rw [← hM] at ltM
  refine hide_held fun t0 HT => ?_
  have HS : t0.size = 125 := by rw [HT]; rfl
  have h2 : t0[2]? = some (.pointer (some ⟨w.heap.size, 0, none⟩)) := by rw [HT]; rfl
  have h3 : t0[3]? = some (.pointer (some ⟨(w.heap.size + 1), 0, none⟩)) := by rw [HT]; rfl
  have h4 : t0[4]? = some (.pointer (some ⟨(w.heap.size + 1 + 1), 0, none⟩)) := by rw [HT]; rfl
  have h5 : t0[5]? = some (.pointer (some ⟨gn, 0, none⟩)) := by rw [HT]; rfl
  clear HT
  refine wp_list_most 3 (fun i => [24, 25, 6].getD i 0) (fun i => [none, none, some 5].getD i none) (fun i => [(· = .agg (vals Lu)), IsEl x1, (fun _ => True)].getD i (fun _ => True)) (fun w' => Own w [(w.heap.size, 32, (· = .agg (vals Lk))), ((w.heap.size + 1), 32, (· = .agg (vals Lu))), ((w.heap.size + 1 + 1), 32, (fun _ => True)), (gn, 32, (· = .agg (vals (bytesN V))))] w' ∧ M ≤ w'.heap.size) M
    (by kernel_rfl) (slots_apart (by kernel_rfl)) (slots_lie (by rw [HS]; kernel_rfl)) ⟨hS, Nat.le_of_eq hM⟩ (fun w' h => h.2) (fun w1 w2 h b => ⟨h.1.keep b, Nat.le_trans h.2 b.size⟩) ?_ ?_ ?_
  · clear hS
    intro i o hi ho hA
    have hc : i = 0 ∨ i = 1 ∨ i = 2 := by omega
    rcases hc with rfl | rfl | rfl
    · obtain rfl := Option.some.inj ho
      refine ⟨rfl, fun a w' hS hold hin K hK => ?_⟩
      refine if_always rfl ?_
      exact op_ld_own 32 tKey (.tmp 3) rfl rfl _ (eval_tmp ((hold 3 (slots_not (by kernel_rfl))).trans h3)) hS.1 1 rfl hK
    · obtain rfl := Option.some.inj ho
      refine ⟨rfl, fun a w' hS hold hin K hK => ?_⟩
      obtain ⟨y0, x0, rfl⟩ := hin 0 rfl (by omega) rfl
      refine if_always rfl ?_
      exact op_fn1 _ _ _ _ rfl rfl (eval_tmp x0) (by intro args w; kernel_rfl) (of_ev Lu HLU.out hbu HX.out _) hK
    · cases hA
  · intro i o sz hi ho hA
    have hc : i = 0 ∨ i = 1 ∨ i = 2 := by omega
    rcases hc with rfl | rfl | rfl
    · cases hA
    · cases hA
    · obtain rfl := Option.some.inj ho
      obtain rfl := Option.some.inj hA
      exact ⟨rfl, rfl, 26, #[.int .u64 0, .int .u64 0, .int .u64 0, .int .u64 0, .int .u64 0], rfl, fun a w' K h => wp_new 26 #[.int .u64 0, .int .u64 0, .int .u64 0, .int .u64 0, .int .u64 0] (fun w => by kernel_rfl) h⟩
  clear hS
  intro t1 V2 hs hold hout hall hne hS
  replace HS := hs.trans HS
  replace hS := hS.1
  obtain ⟨g6, h6, b6, r6⟩ : ∃ g, t1[6]? = some (.pointer (some ⟨g, 0, none⟩)) ∧ M ≤ g ∧ ∃ cs ty, V2.heap[g]? = some (.cells cs ty (0, 0)) ∧ cs.size = 5 := by
    obtain ⟨g, p1, p2, ty, cs, p3, p4⟩ := hall 2 (by omega) 5 rfl
    exact ⟨g, p1, p2, cs, ty, p3, p4⟩
  replace hS : Own w [(w.heap.size, 32, (· = .agg (vals Lk))), ((w.heap.size + 1), 32, (· = .agg (vals Lu))), ((w.heap.size + 1 + 1), 32, (fun _ => True)), (gn, 32, (· = .agg (vals (bytesN V)))), (g6, 5, (fun _ => True))] V2 := hS.add (Nat.le_trans hMB b6) (fun r hr => Nat.ne_of_lt (Nat.lt_of_lt_of_le (ltM r hr) b6)) (Own.any r6)
  obtain ⟨x25, q25, v25⟩ : ∃ x, t1[25]? = some x ∧ (IsEl x1) x := hout 1 (by omega) rfl
  replace h2 := (hold 2 (slots_not (by kernel_rfl))).trans h2
  replace h3 := (hold 3 (slots_not (by kernel_rfl))).trans h3
  replace h4 := (hold 4 (slots_not (by kernel_rfl))).trans h4
  replace h5 := (hold 5 (slots_not (by kernel_rfl))).trans h5
  clear hold hout hs hall hne
  simp only [List.drop_succ_cons, List.drop_zero]
  refine st_own 5 tElem rfl (.tmp 6) (.tmp 25) rfl rfl _ _ (eval_tmp h6) (eval_tmp q25) (V' := IsEl x1) v25 (fun x hx => el_row hx) hS 4 rfl fun V2' hS' _ => ?_
  replace hS : Own w [(w.heap.size, 32, (· = .agg (vals Lk))), ((w.heap.size + 1), 32, (· = .agg (vals Lu))), ((w.heap.size + 1 + 1), 32, (fun _ => True)), (gn, 32, (· = .agg (vals (bytesN V)))), (g6, 5, IsEl x1)] V2' := hS'
  clear hS'
  refine wpList_nil ?_
  obtain ⟨f, e0, hf⟩ := wash HS
  have f2 := hf 2 _ h2
  have f3 := hf 3 _ h3
  have f4 := hf 4 _ h4
  have f5 := hf 5 _ h5
  have f6 := hf 6 _ h6
  clear hf
  rw [e0.trans (show _ = #[f 0, f 1, f 2, f 3, f 4, f 5, f 6, f 7, f 8, f 9, f 10, f 11, f 12, f 13, f 14, f 15, f 16, f 17, f 18, f 19, f 20, f 21, f 22, f 23, f 24, f 25, f 26, f 27, f 28, f 29, f 30, f 31, f 32, f 33, f 34, f 35, f 36, f 37, f 38, f 39, f 40, f 41, f 42, f 43, f 44, f 45, f 46, f 47, f 48, f 49, f 50, f 51, f 52, f 53, f 54, f 55, f 56, f 57, f 58, f 59, f 60, f 61, f 62, f 63, f 64, f 65, f 66, f 67, f 68, f 69, f 70, f 71, f 72, f 73, f 74, f 75, f 76, f 77, f 78, f 79, f 80, f 81, f 82, f 83, f 84, f 85, f 86, f 87, f 88, f 89, f 90, f 91, f 92, f 93, f 94, f 95, f 96, f 97, f 98, f 99, f 100, f 101, f 102, f 103, f 104, f 105, f 106, f 107, f 108, f 109, f 110, f 111, f 112, f 113, f 114, f 115, f 116, f 117, f 118, f 119, f 120, f 121, f 122, f 123, f 124] from by kernel_rfl), f2, f3, f4, f5, f6]
  clear f2 f3 f4 f5 f6
  clear e0
  dsimp only
  clear h2 h3 h4 h5 h6 q25 v25 b6 r6 ltM hMB hM HS t1 t0 M
  go_wp2_with ((with_reducible refine guard_list ?_); first | (refine held_load 26 _ rfl ?_) | (refine held_load 22 _ rfl ?_) | (refine held_load 68 _ rfl ?_) | (refine held_call _ rfl ?_))
  obtain ⟨M, hM⟩ : ∃ M, M = V2'.heap.size := ⟨_, rfl⟩
  have hMB : w.heap.size ≤ M := hM ▸ hS.1.size
  have ltM := hS.lt
  rw [← hM] at ltM
  refine hide_held fun t0 HT => ?_
  have HS : t0.size = 125 := by rw [HT]; rfl
  have h2 : t0[2]? = some (.pointer (some ⟨w.heap.size, 0, none⟩)) := by rw [HT]; rfl
  have h3 : t0[3]? = some (.pointer (some ⟨(w.heap.size + 1), 0, none⟩)) := by rw [HT]; rfl
  have h4 : t0[4]? = some (.pointer (some ⟨(w.heap.size + 1 + 1), 0, none⟩)) := by rw [HT]; rfl
  have h5 : t0[5]? = some (.pointer (some ⟨gn, 0, none⟩)) := by rw [HT]; rfl
  have h6 : t0[6]? = some (.pointer (some ⟨g6, 0, none⟩)) := by rw [HT]; rfl
  clear HT
  refine wp_list_most 4 (fun i => [26, 27, 7, 8].getD i 0) (fun i => [none, none, some 5, some 5].getD i none) (fun i => [IsEl (1 : F), IsEl (0 : F), (fun _ => True), (fun _ => True)].getD i (fun _ => True)) (fun w' => Own w [(w.heap.size, 32, (· = .agg (vals Lk))), ((w.heap.size + 1), 32, (· = .agg (vals Lu))), ((w.heap.size + 1 + 1), 32, (fun _ => True)), (gn, 32, (· = .agg (vals (bytesN V)))), (g6, 5, IsEl x1)] w' ∧ M ≤ w'.heap.size) M
    (by kernel_rfl) (slots_apart (by kernel_rfl)) (slots_lie (by rw [HS]; kernel_rfl)) ⟨hS, Nat.le_of_eq hM⟩ (fun w' h => h.2) (fun w1 w2 h b => ⟨h.1.keep b, Nat.le_trans h.2 b.size⟩) ?_ ?_ ?_
  · clear hS
    intro i o hi ho hA
    have hc : i = 0 ∨ i = 1 ∨ i = 2 ∨ i = 3 := by omega
    rcases hc with rfl | rfl | rfl | rfl
    · obtain rfl := Option.some.inj ho
      refine ⟨rfl, fun a w' hS hold hin K hK => ?_⟩
      refine if_always rfl ?_
      exact op_fn1 _ _ _ _ rfl rfl rfl (by intro args w; kernel_rfl) (small_evl 1 (by omega) (by decide) _) hK
    · obtain rfl := Option.some.inj ho
      refine ⟨rfl, fun a w' hS hold hin K hK => ?_⟩
      refine if_always rfl ?_
      exact op_fn1 _ _ _ _ rfl rfl rfl (by intro args w; kernel_rfl) (small_evl 0 (by omega) (by decide) _) hK
    · cases hA
    · cases hA
  · intro i o sz hi ho hA
    have hc : i = 0 ∨ i = 1 ∨ i = 2 ∨ i = 3 := by omega
    rcases hc with rfl | rfl | rfl | rfl
    · cases hA
    · cases hA
    · obtain rfl := Option.some.inj ho
      obtain rfl := Option.some.inj hA
      exact ⟨rfl, rfl, 26, #[.int .u64 0, .int .u64 0, .int .u64 0, .int .u64 0, .int .u64 0], rfl, fun a w' K h => wp_new 26 #[.int .u64 0, .int .u64 0, .int .u64 0, .int .u64 0, .int .u64 0] (fun w => by kernel_rfl) h⟩
    · obtain rfl := Option.some.inj ho
      obtain rfl := Option.some.inj hA
      exact ⟨rfl, rfl, 26, #[.int .u64 0, .int .u64 0, .int .u64 0, .int .u64 0, .int .u64 0], rfl, fun a w' K h => wp_new 26 #[.int .u64 0, .int .u64 0, .int .u64 0, .int .u64 0, .int .u64 0] (fun w => by kernel_rfl) h⟩
  clear hS
  intro t1 V3 hs hold hout hall hne hS
  replace HS := hs.trans HS
  replace hS := hS.1
  obtain ⟨g7, h7, b7, r7⟩ : ∃ g, t1[7]? = some (.pointer (some ⟨g, 0, none⟩)) ∧ M ≤ g ∧ ∃ cs ty, V3.heap[g]? = some (.cells cs ty (0, 0)) ∧ cs.size = 5 := by
    obtain ⟨g, p1, p2, ty, cs, p3, p4⟩ := hall 2 (by omega) 5 rfl
    exact ⟨g, p1, p2, cs, ty, p3, p4⟩
  obtain ⟨g8, h8, b8, r8⟩ : ∃ g, t1[8]? = some (.pointer (some ⟨g, 0, none⟩)) ∧ M ≤ g ∧ ∃ cs ty, V3.heap[g]? = some (.cells cs ty (0, 0)) ∧ cs.size = 5 := by
    obtain ⟨g, p1, p2, ty, cs, p3, p4⟩ := hall 3 (by omega) 5 rfl
    exact ⟨g, p1, p2, cs, ty, p3, p4⟩
  have n7_8 : g7 ≠ g8 := fun h => hne 2 3 (by omega) (by omega) (by omega) rfl rfl (show t1[7]? = t1[8]? by rw [h7, h8, h])
  replace hS : Own w [(w.heap.size, 32, (· = .agg (vals Lk))), ((w.heap.size + 1), 32, (· = .agg (vals Lu))), ((w.heap.size + 1 + 1), 32, (fun _ => True)), (gn, 32, (· = .agg (vals (bytesN V)))), (g6, 5, IsEl x1), (g7, 5, (fun _ => True))] V3 := hS.add (Nat.le_trans hMB b7) (fun r hr => Nat.ne_of_lt (Nat.lt_of_lt_of_le (ltM r hr) b7)) (Own.any r7)
  replace hS : Own w [(w.heap.size, 32, (· = .agg (vals Lk))), ((w.heap.size + 1), 32, (· = .agg (vals Lu))), ((w.heap.size + 1 + 1), 32, (fun _ => True)), (gn, 32, (· = .agg (vals (bytesN V)))), (g6, 5, IsEl x1), (g7, 5, (fun _ => True)), (g8, 5, (fun _ => True))] V3 := hS.add (Nat.le_trans hMB b8) (Own.ne_app (g1 := g7) (fun r hr => Nat.ne_of_lt (Nat.lt_of_lt_of_le (ltM r hr) b8)) n7_8) (Own.any r8)
  obtain ⟨x26, q26, v26⟩ : ∃ x, t1[26]? = some x ∧ (IsEl (1 : F)) x := hout 0 (by omega) rfl
  obtain ⟨x27, q27, v27⟩ : ∃ x, t1[27]? = some x ∧ (IsEl (0 : F)) x := hout 1 (by omega) rfl
  replace h2 := (hold 2 (slots_not (by kernel_rfl))).trans h2
  replace h3 := (hold 3 (slots_not (by kernel_rfl))).trans h3
  replace h4 := (hold 4 (slots_not (by kernel_rfl))).trans h4
  replace h5 := (hold 5 (slots_not (by kernel_rfl))).trans h5
  replace h6 := (hold 6 (slots_not (by kernel_rfl))).trans h6
  clear hold hout hs hall hne
  simp only [List.drop_succ_cons, List.drop_zero]
  refine st_own 5 tElem rfl (.tmp 7) (.tmp 26) rfl rfl _ _ (eval_tmp h7) (eval_tmp q26) (V' := IsEl (1 : F)) v26 (fun x hx => el_row hx) hS 5 rfl fun V3' hS' _ => ?_
  replace hS : Own w [(w.heap.size, 32, (· = .agg (vals Lk))), ((w.heap.size + 1), 32, (· = .agg (vals Lu))), ((w.heap.size + 1 + 1), 32, (fun _ => True)), (gn, 32, (· = .agg (vals (bytesN V)))), (g6, 5, IsEl x1), (g7, 5, IsEl (1 : F)), (g8, 5, (fun _ => True))] V3' := hS'
  clear hS'
  refine st_own 5 tElem rfl (.tmp 8) (.tmp 27) rfl rfl _ _ (eval_tmp h8) (eval_tmp q27) (V' := IsEl (0 : F)) v27 (fun x hx => el_row hx) hS 6 rfl fun V3'' hS' _ => ?_
  replace hS : Own w [(w.heap.size, 32, (· = .agg (vals Lk))), ((w.heap.size + 1), 32, (· = .agg (vals Lu))), ((w.heap.size + 1 + 1), 32, (fun _ => True)), (gn, 32, (· = .agg (vals (bytesN V)))), (g6, 5, IsEl x1), (g7, 5, IsEl (1 : F)), (g8, 5, IsEl (0 : F))] V3'' := hS'
  clear hS'
  refine wpList_nil ?_
  obtain ⟨f, e0, hf⟩ := wash HS
  have f2 := hf 2 _ h2
  have f3 := hf 3 _ h3
  have f4 := hf 4 _ h4
  have f5 := hf 5 _ h5
  have f6 := hf 6 _ h6
  have f7 := hf 7 _ h7
  have f8 := hf 8 _ h8
  clear hf
  rw [e0.trans (show _ = #[f 0, f 1, f 2, f 3, f 4, f 5, f 6, f 7, f 8, f 9, f 10, f 11, f 12, f 13, f 14, f 15, f 16, f 17, f 18, f 19, f 20, f 21, f 22, f 23, f 24, f 25, f 26, f 27, f 28, f 29, f 30, f 31, f 32, f 33, f 34, f 35, f 36, f 37, f 38, f 39, f 40, f 41, f 42, f 43, f 44, f 45, f 46, f 47, f 48, f 49, f 50, f 51, f 52, f 53, f 54, f 55, f 56, f 57, f 58, f 59, f 60, f 61, f 62, f 63, f 64, f 65, f 66, f 67, f 68, f 69, f 70, f 71, f 72, f 73, f 74, f 75, f 76, f 77, f 78, f 79, f 80, f 81, f 82, f 83, f 84, f 85, f 86, f 87, f 88, f 89, f 90, f 91, f 92, f 93, f 94, f 95, f 96, f 97, f 98, f 99, f 100, f 101, f 102, f 103, f 104, f 105, f 106, f 107, f 108, f 109, f 110, f 111, f 112, f 113, f 114, f 115, f 116, f 117, f 118, f 119, f 120, f 121, f 122, f 123, f 124] from by kernel_rfl), f2, f3, f4, f5, f6, f7, f8]
  clear f2 f3 f4 f5 f6 f7 f8
  clear e0
  dsimp only
  clear h2 h3 h4 h5 h6 h7 h8 q26 q27 v26 v27 b7 b8 r7 r8 n7_8 ltM hMB hM HS t1 t0 M
  go_wp2_with ((with_reducible refine guard_list ?_); first | (refine held_load 26 _ rfl ?_) | (refine held_load 22 _ rfl ?_) | (refine held_load 68 _ rfl ?_) | (refine held_call _ rfl ?_))
  obtain ⟨M, hM⟩ : ∃ M, M = V3''.heap.size := ⟨_, rfl⟩
  have hMB : w.heap.size ≤ M := hM ▸ hS.1.size
  have ltM := hS.lt
  rw [← hM] at ltM
  refine hide_frame fun t0 HT => ?_
  have HS : t0.size = 125 := by rw [HT]; rfl
  have h2 : t0[2]? = some (.pointer (some ⟨w.heap.size, 0, none⟩)) := by rw [HT]; rfl
  have h3 : t0[3]? = some (.pointer (some ⟨(w.heap.size + 1), 0, none⟩)) := by rw [HT]; rfl
  have h4 : t0[4]? = some (.pointer (some ⟨(w.heap.size + 1 + 1), 0, none⟩)) := by rw [HT]; rfl
  have h5 : t0[5]? = some (.pointer (some ⟨gn, 0, none⟩)) := by rw [HT]; rfl
  have h6 : t0[6]? = some (.pointer (some ⟨g6, 0, none⟩)) := by rw [HT]; rfl
  have h7 : t0[7]? = some (.pointer (some ⟨g7, 0, none⟩)) := by rw [HT]; rfl
  have h8 : t0[8]? = some (.pointer (some ⟨g8, 0, none⟩)) := by rw [HT]; rfl
  clear HT
  refine wp_region_most 4 (fun i => [28, 29, 9, 10].getD i 0) (fun i => [none, none, some 5, some 5].getD i none) (fun i => [IsEl x1, IsEl (1 : F), (fun _ => True), (fun _ => True)].getD i (fun _ => True)) (fun w' => Own w [(w.heap.size, 32, (· = .agg (vals Lk))), ((w.heap.size + 1), 32, (· = .agg (vals Lu))), ((w.heap.size + 1 + 1), 32, (fun _ => True)), (gn, 32, (· = .agg (vals (bytesN V)))), (g6, 5, IsEl x1), (g7, 5, IsEl (1 : F)), (g8, 5, IsEl (0 : F))] w' ∧ M ≤ w'.heap.size) M
    (by kernel_rfl) (by kernel_rfl) (slots_apart (by kernel_rfl)) (slots_lie (by rw [HS]; kernel_rfl)) ⟨hS.drew, Nat.le_of_eq hM⟩ (fun w' h => h.2) (fun w1 w2 h b => ⟨h.1.keep b, Nat.le_trans h.2 b.size⟩) ?_ ?_ ?_
  · clear hS
    intro i o hi ho hA
    have hc : i = 0 ∨ i = 1 ∨ i = 2 ∨ i = 3 := by omega
    rcases hc with rfl | rfl | rfl | rfl
    · obtain rfl := Option.some.inj ho
      refine ⟨rfl, fun a w' hS hold hin K hK => ?_⟩
      refine if_always rfl ?_
      exact op_ld_own 5 tElem (.tmp 6) rfl rfl _ (eval_tmp ((hold 6 (slots_not (by kernel_rfl))).trans h6)) hS.1 4 rfl hK
    · obtain rfl := Option.some.inj ho
      refine ⟨rfl, fun a w' hS hold hin K hK => ?_⟩
      refine if_always rfl ?_
      exact op_fn1 _ _ _ _ rfl rfl rfl (by intro args w; kernel_rfl) (small_evl 1 (by omega) (by decide) _) hK
    · cases hA
    · cases hA
  · intro i o sz hi ho hA
    have hc : i = 0 ∨ i = 1 ∨ i = 2 ∨ i = 3 := by omega
    rcases hc with rfl | rfl | rfl | rfl
    · cases hA
    · cases hA
    · obtain rfl := Option.some.inj ho
      obtain rfl := Option.some.inj hA
      exact ⟨rfl, rfl, 26, #[.int .u64 0, .int .u64 0, .int .u64 0, .int .u64 0, .int .u64 0], rfl, fun a w' K h => wp_new 26 #[.int .u64 0, .int .u64 0, .int .u64 0, .int .u64 0, .int .u64 0] (fun w => by kernel_rfl) h⟩
    · obtain rfl := Option.some.inj ho
      obtain rfl := Option.some.inj hA
      exact ⟨rfl, rfl, 26, #[.int .u64 0, .int .u64 0, .int .u64 0, .int .u64 0, .int .u64 0], rfl, fun a w' K h => wp_new 26 #[.int .u64 0, .int .u64 0, .int .u64 0, .int .u64 0, .int .u64 0] (fun w => by kernel_rfl) h⟩
  clear hS
  intro t1 V4 hs hold hout hall hne hS
  replace HS := hs.trans HS
  replace hS := hS.1
  obtain ⟨g9, h9, b9, r9⟩ : ∃ g, t1[9]? = some (.pointer (some ⟨g, 0, none⟩)) ∧ M ≤ g ∧ ∃ cs ty, V4.heap[g]? = some (.cells cs ty (0, 0)) ∧ cs.size = 5 := by
    obtain ⟨g, p1, p2, ty, cs, p3, p4⟩ := hall 2 (by omega) 5 rfl
    exact ⟨g, p1, p2, cs, ty, p3, p4⟩
  obtain ⟨g10, h10, b10, r10⟩ : ∃ g, t1[10]? = some (.pointer (some ⟨g, 0, none⟩)) ∧ M ≤ g ∧ ∃ cs ty, V4.heap[g]? = some (.cells cs ty (0, 0)) ∧ cs.size = 5 := by
    obtain ⟨g, p1, p2, ty, cs, p3, p4⟩ := hall 3 (by omega) 5 rfl
    exact ⟨g, p1, p2, cs, ty, p3, p4⟩
  have n9_10 : g9 ≠ g10 := fun h => hne 2 3 (by omega) (by omega) (by omega) rfl rfl (show t1[9]? = t1[10]? by rw [h9, h10, h])
  replace hS : Own w [(w.heap.size, 32, (· = .agg (vals Lk))), ((w.heap.size + 1), 32, (· = .agg (vals Lu))), ((w.heap.size + 1 + 1), 32, (fun _ => True)), (gn, 32, (· = .agg (vals (bytesN V)))), (g6, 5, IsEl x1), (g7, 5, IsEl (1 : F)), (g8, 5, IsEl (0 : F)), (g9, 5, (fun _ => True))] V4 := hS.add (Nat.le_trans hMB b9) (fun r hr => Nat.ne_of_lt (Nat.lt_of_lt_of_le (ltM r hr) b9)) (Own.any r9)
  replace hS : Own w [(w.heap.size, 32, (· = .agg (vals Lk))), ((w.heap.size + 1), 32, (· = .agg (vals Lu))), ((w.heap.size + 1 + 1), 32, (fun _ => True)), (gn, 32, (· = .agg (vals (bytesN V)))), (g6, 5, IsEl x1), (g7, 5, IsEl (1 : F)), (g8, 5, IsEl (0 : F)), (g9, 5, (fun _ => True)), (g10, 5, (fun _ => True))] V4 := hS.add (Nat.le_trans hMB b10) (Own.ne_app (g1 := g9) (fun r hr => Nat.ne_of_lt (Nat.lt_of_lt_of_le (ltM r hr) b10)) n9_10) (Own.any r10)
  obtain ⟨x28, q28, v28⟩ : ∃ x, t1[28]? = some x ∧ (IsEl x1) x := hout 0 (by omega) rfl
  obtain ⟨x29, q29, v29⟩ : ∃ x, t1[29]? = some x ∧ (IsEl (1 : F)) x := hout 1 (by omega) rfl
  replace h2 := (hold 2 (slots_not (by kernel_rfl))).trans h2
  replace h3 := (hold 3 (slots_not (by kernel_rfl))).trans h3
  replace h4 := (hold 4 (slots_not (by kernel_rfl))).trans h4
  replace h5 := (hold 5 (slots_not (by kernel_rfl))).trans h5
  replace h6 := (hold 6 (slots_not (by kernel_rfl))).trans h6
  replace h7 := (hold 7 (slots_not (by kernel_rfl))).trans h7
  replace h8 := (hold 8 (slots_not (by kernel_rfl))).trans h8
  clear hold hout hs hall hne
  simp only [List.drop_succ_cons, List.drop_zero]
  refine st_own 5 tElem rfl (.tmp 9) (.tmp 28) rfl rfl _ _ (eval_tmp h9) (eval_tmp q28) (V' := IsEl x1) v28 (fun x hx => el_row hx) hS 7 rfl fun V4' hS' _ => ?_
  replace hS : Own w [(w.heap.size, 32, (· = .agg (vals Lk))), ((w.heap.size + 1), 32, (· = .agg (vals Lu))), ((w.heap.size + 1 + 1), 32, (fun _ => True)), (gn, 32, (· = .agg (vals (bytesN V)))), (g6, 5, IsEl x1), (g7, 5, IsEl (1 : F)), (g8, 5, IsEl (0 : F)), (g9, 5, IsEl x1), (g10, 5, (fun _ => True))] V4' := hS'
  clear hS'
  refine st_own 5 tElem rfl (.tmp 10) (.tmp 29) rfl rfl _ _ (eval_tmp h10) (eval_tmp q29) (V' := IsEl (1 : F)) v29 (fun x hx => el_row hx) hS 8 rfl fun V4'' hS' _ => ?_
  replace hS : Own w [(w.heap.size, 32, (· = .agg (vals Lk))), ((w.heap.size + 1), 32, (· = .agg (vals Lu))), ((w.heap.size + 1 + 1), 32, (fun _ => True)), (gn, 32, (· = .agg (vals (bytesN V)))), (g6, 5, IsEl x1), (g7, 5, IsEl (1 : F)), (g8, 5, IsEl (0 : F)), (g9, 5, IsEl x1), (g10, 5, IsEl (1 : F))] V4'' := hS'
  clear hS'
  refine wpList_nil ?_
  obtain ⟨f, e0, hf⟩ := wash HS
  have f2 := hf 2 _ h2
  have f3 := hf 3 _ h3
  have f4 := hf 4 _ h4
  have f5 := hf 5 _ h5
  have f6 := hf 6 _ h6
  have f7 := hf 7 _ h7
  have f8 := hf 8 _ h8
  have f9 := hf 9 _ h9
  have f10 := hf 10 _ h10
  clear hf
  rw [e0.trans (show _ = #[f 0, f 1, f 2, f 3, f 4, f 5, f 6, f 7, f 8, f 9, f 10, f 11, f 12, f 13, f 14, f 15, f 16, f 17, f 18, f 19, f 20, f 21, f 22, f 23, f 24, f 25, f 26, f 27, f 28, f 29, f 30, f 31, f 32, f 33, f 34, f 35, f 36, f 37, f 38, f 39, f 40, f 41, f 42, f 43, f 44, f 45, f 46, f 47, f 48, f 49, f 50, f 51, f 52, f 53, f 54, f 55, f 56, f 57, f 58, f 59, f 60, f 61, f 62, f 63, f 64, f 65, f 66, f 67, f 68, f 69, f 70, f 71, f 72, f 73, f 74, f 75, f 76, f 77, f 78, f 79, f 80, f 81, f 82, f 83, f 84, f 85, f 86, f 87, f 88, f 89, f 90, f 91, f 92, f 93, f 94, f 95, f 96, f 97, f 98, f 99, f 100, f 101, f 102, f 103, f 104, f 105, f 106, f 107, f 108, f 109, f 110, f 111, f 112, f 113, f 114, f 115, f 116, f 117, f 118, f 119, f 120, f 121, f 122, f 123, f 124] from by kernel_rfl), f2, f3, f4, f5, f6, f7, f8, f9, f10]
  clear f2 f3 f4 f5 f6 f7 f8 f9 f10
  clear e0
  dsimp only
  clear h2 h3 h4 h5 h6 h7 h8 h9 h10 q28 q29 v28 v29 b9 b10 r9 r10 n9_10 ltM hMB hM HS t1 t0 M
  have hlad : lad x1 V 255 (swp false (((1 : F), (0 : F)), (x1, (1 : F)))) = lad x1 V 255 ((1, 0), (x1, 1)) := rfl
  obtain ⟨RR, hRR⟩ : ∃ r, r = lad x1 V 255 ((1, 0), (x1, 1)) := ⟨_, rfl⟩
  rw [← hRR] at hlad
  have HRR := Lib.hid hRR
  have HLAD := Lib.hid hlad
  clear hRR hlad
  go_wp2_with fail
  go_loopw [11, 12] (fun last i wr => ∃ (k : Nat) (b : Bool) (p2 q2 p3 q3 : F), k ≤ 255 ∧ i = .int .i64 ((k : Int) - 1) ∧ last = .int .u64 (b.toNat : Int) ∧ b = decide (V / 2 ^ k % 2 = 1) ∧ lad x1 V k (swp b ((p2, q2), (p3, q3))) = RR ∧ Own w [(w.heap.size, 32, (· = .agg (vals Lk))), ((w.heap.size + 1), 32, (· = .agg (vals Lu))), ((w.heap.size + 1 + 1), 32, (fun _ => True)), (gn, 32, (· = .agg (vals (bytesN V)))), (g6, 5, IsEl x1), (g7, 5, IsEl p2), (g8, 5, IsEl q2), (g9, 5, IsEl p3), (g10, 5, IsEl q3)] wr) (fun _ i _ => (intOf i + 1).toNat)
  case atStart => exact ⟨255, false, 1, 0, x1, 1, by omega, rfl, rfl, (by rw [Nat.div_eq_of_lt HV2.out]; rfl), HLAD.out, hS⟩
  case round =>
    obtain ⟨k, b, p2, q2, p3, q3, hk, rfl, rfl, hb, hl, hS0⟩ := hrel
    have hS1 := Lib.hid hS0
    have HB := Lib.hid hb
    have HL := Lib.hid hl
    clear hS hS0 hb hl
    cases k with
    | zero =>
      go_wp2_with ((with_reducible refine guard_list ?_); first | (refine held_load 26 _ rfl ?_) | (refine held_load 22 _ rfl ?_) | (refine held_load 68 _ rfl ?_))
      have hS := hS1.out
      clear hS1
      obtain ⟨xx, hxx⟩ : ∃ x, x = selF b p3 p2 := ⟨_, rfl⟩
      obtain ⟨zz, hzz⟩ : ∃ x, x = selF b q3 q2 := ⟨_, rfl⟩
      obtain ⟨iv, hiv⟩ : ∃ x, x = inv zz := ⟨_, rfl⟩
      have hval : (xx * iv).val = R.val := by
        have h1 := HL.out
        have h2 : swp b ((p2, q2), (p3, q3)) = RR := h1
        have h3 := HR.out
        rw [HRR.out] at h2
        have h4 : (lad x1 V 255 ((1, 0), (x1, 1))).1.1 * inv (lad x1 V 255 ((1, 0), (x1, 1))).1.2 = R := h3
        rw [← h2] at h4
        rw [← h4, hiv, hxx, hzz]
        cases b <;> rfl
      have Hhxx := Lib.hid hxx
      have Hhzz := Lib.hid hzz
      have Hhiv := Lib.hid hiv
      have Hhval := Lib.hid hval
      clear hxx hzz hiv hval
      obtain ⟨yy, hyy⟩ : ∃ x, x = selF b p2 p3 := ⟨_, rfl⟩
      obtain ⟨ww, hww⟩ : ∃ x, x = selF b q2 q3 := ⟨_, rfl⟩
      have Hhyy := Lib.hid hyy
      have Hhww := Lib.hid hww
      clear hyy hww
      obtain ⟨M, hM⟩ : ∃ M, M = wr.heap.size := ⟨_, rfl⟩
      refine hide_held fun t0 HT => ?_
      have HS : t0.size = 125 := by rw [HT]; rfl
      have h4 : t0[4]? = some (.pointer (some ⟨(w.heap.size + 1 + 1), 0, none⟩)) := by rw [HT]; rfl
      have h5 : t0[5]? = some (.pointer (some ⟨gn, 0, none⟩)) := by rw [HT]; rfl
      have h6 : t0[6]? = some (.pointer (some ⟨g6, 0, none⟩)) := by rw [HT]; rfl
      have h7 : t0[7]? = some (.pointer (some ⟨g7, 0, none⟩)) := by rw [HT]; rfl
      have h8 : t0[8]? = some (.pointer (some ⟨g8, 0, none⟩)) := by rw [HT]; rfl
      have h9 : t0[9]? = some (.pointer (some ⟨g9, 0, none⟩)) := by rw [HT]; rfl
      have h10 : t0[10]? = some (.pointer (some ⟨g10, 0, none⟩)) := by rw [HT]; rfl
      have h11 : t0[11]? = some (.int .u64 (b.toNat : Int)) := by rw [HT]; rfl
      refine wp_from_most 8 (fun i => [105, 106, 107, 108, 109, 104, 110, 111].getD i 0) (fun _ => none) (fun i => [(· = .int .u64 (b.toNat : Int)), (· = .int .u64 (IntKind.u64.wrap (-(b.toNat : Int)))), IsEl p2, IsEl p3, IsEl2 xx yy, IsEl2 xx yy, IsEl xx, IsEl yy].getD i (fun _ => True)) (fun w' => Own w [(w.heap.size, 32, (· = .agg (vals Lk))), ((w.heap.size + 1), 32, (· = .agg (vals Lu))), ((w.heap.size + 1 + 1), 32, (fun _ => True)), (gn, 32, (· = .agg (vals (bytesN V)))), (g6, 5, IsEl x1), (g7, 5, IsEl p2), (g8, 5, IsEl q2), (g9, 5, IsEl p3), (g10, 5, IsEl q3)] w' ∧ M ≤ w'.heap.size) M
        2 (by omega) (by kernel_rfl) ?_ (slots_apart (by kernel_rfl)) (slots_lie (by rw [HS]; kernel_rfl)) ⟨hS, Nat.le_of_eq hM⟩ (fun w' h => h.2) (fun w1 w2 h b => ⟨h.1.keep b, Nat.le_trans h.2 b.size⟩) ?_ ?_ ?_
      · intro j hj _
        have hc : j = 0 ∨ j = 1 := by omega
        rcases hc with rfl | rfl
        · exact ⟨rfl, _, by rw [HT]; rfl, rfl⟩
        · exact ⟨rfl, _, by rw [HT]; rfl, rfl⟩
      · clear hS
        intro i o h0i hi ho hA
        have hc : i = 2 ∨ i = 3 ∨ i = 4 ∨ i = 5 ∨ i = 6 ∨ i = 7 := by omega
        rcases hc with rfl | rfl | rfl | rfl | rfl | rfl
        · obtain rfl := Option.some.inj ho
          refine ⟨rfl, fun a w' hS hold hin K hK => ?_⟩
          refine if_always rfl ?_
          exact op_ld_own 5 tElem (.tmp 7) rfl rfl _ (eval_tmp ((hold 7 (slots_not (by kernel_rfl))).trans h7)) hS.1 5 rfl hK
        · obtain rfl := Option.some.inj ho
          refine ⟨rfl, fun a w' hS hold hin K hK => ?_⟩
          refine if_always rfl ?_
          exact op_ld_own 5 tElem (.tmp 9) rfl rfl _ (eval_tmp ((hold 9 (slots_not (by kernel_rfl))).trans h9)) hS.1 7 rfl hK
        · obtain rfl := Option.some.inj ho
          refine ⟨rfl, fun a w' hS hold hin K hK => ?_⟩
          obtain ⟨y1, x1, rfl⟩ := hin 1 rfl (by omega) rfl
          obtain ⟨y2, x2, (v2 : IsEl p2 y2)⟩ := hin 2 rfl (by omega) rfl
          obtain ⟨y3, x3, (v3 : IsEl p3 y3)⟩ := hin 3 rfl (by omega) rfl
          refine if_always rfl ?_
          exact op_fn3 _ _ _ _ _ _ _ _ rfl rfl (eval_tmp x1) (eval_tmp x2) (eval_tmp x3) (by intro args w; kernel_rfl) (swap_evn b (neg_bit b) v2 v3 Hhxx.out Hhyy.out _) hK
        · obtain rfl := Option.some.inj ho
          refine ⟨rfl, fun a w' hS hold hin K hK => ?_⟩
          obtain ⟨y4, x4, (v4 : IsEl2 xx yy y4)⟩ := hin 4 rfl (by omega) rfl
          refine if_always rfl ?_
          exact op_move (V := IsEl2 xx yy) _ _ rfl rfl (eval_tmp x4) v4 hK
        · obtain rfl := Option.some.inj ho
          refine ⟨rfl, fun a w' hS hold hin K hK => ?_⟩
          obtain ⟨y5, x5, (v5 : IsEl2 xx yy y5)⟩ := hin 5 rfl (by omega) rfl
          refine if_always rfl ?_
          exact op_ext0 _ rfl rfl (eval_tmp x5) v5 hK
        · obtain rfl := Option.some.inj ho
          refine ⟨rfl, fun a w' hS hold hin K hK => ?_⟩
          obtain ⟨y5, x5, (v5 : IsEl2 xx yy y5)⟩ := hin 5 rfl (by omega) rfl
          refine if_always rfl ?_
          exact op_ext1 _ rfl rfl (eval_tmp x5) v5 hK
      · intro i o sz h0i hi ho hA; cases hA
      clear hS
      intro t1 V5 hs hold hout hall hne hS
      replace HS := hs.trans HS
      replace hS := hS.1
      obtain ⟨x110, q110, v110⟩ : ∃ x, t1[110]? = some x ∧ (IsEl xx) x := hout 6 (by omega) rfl
      replace h4 := (hold 4 (slots_not (by kernel_rfl))).trans h4
      replace h5 := (hold 5 (slots_not (by kernel_rfl))).trans h5
      replace h6 := (hold 6 (slots_not (by kernel_rfl))).trans h6
      replace h7 := (hold 7 (slots_not (by kernel_rfl))).trans h7
      replace h8 := (hold 8 (slots_not (by kernel_rfl))).trans h8
      replace h9 := (hold 9 (slots_not (by kernel_rfl))).trans h9
      replace h10 := (hold 10 (slots_not (by kernel_rfl))).trans h10
      replace h11 := (hold 11 (slots_not (by kernel_rfl))).trans h11
      clear hold hout hs hall hne
      simp only [List.drop_succ_cons, List.drop_zero]
      refine st_own 5 tElem rfl (.tmp 7) (.tmp 110) rfl rfl _ _ (eval_tmp h7) (eval_tmp q110) (V' := IsEl xx) v110 (fun x hx => el_row hx) hS 5 rfl fun V5' hS' _ => ?_
      replace hS : Own w [(w.heap.size, 32, (· = .agg (vals Lk))), ((w.heap.size + 1), 32, (· = .agg (vals Lu))), ((w.heap.size + 1 + 1), 32, (fun _ => True)), (gn, 32, (· = .agg (vals (bytesN V)))), (g6, 5, IsEl x1), (g7, 5, IsEl xx), (g8, 5, IsEl q2), (g9, 5, IsEl p3), (g10, 5, IsEl q3)] V5' := hS'
      clear hS'
      refine wpList_nil ?_
      clear HT
      obtain ⟨f, e0, hf⟩ := wash HS
      have f4 := hf 4 _ h4
      have f5 := hf 5 _ h5
      have f6 := hf 6 _ h6
      have f7 := hf 7 _ h7
      have f8 := hf 8 _ h8
      have f9 := hf 9 _ h9
      have f10 := hf 10 _ h10
      have f11 := hf 11 _ h11
      clear hf
      rw [e0.trans (show _ = #[f 0, f 1, f 2, f 3, f 4, f 5, f 6, f 7, f 8, f 9, f 10, f 11, f 12, f 13, f 14, f 15, f 16, f 17, f 18, f 19, f 20, f 21, f 22, f 23, f 24, f 25, f 26, f 27, f 28, f 29, f 30, f 31, f 32, f 33, f 34, f 35, f 36, f 37, f 38, f 39, f 40, f 41, f 42, f 43, f 44, f 45, f 46, f 47, f 48, f 49, f 50, f 51, f 52, f 53, f 54, f 55, f 56, f 57, f 58, f 59, f 60, f 61, f 62, f 63, f 64, f 65, f 66, f 67, f 68, f 69, f 70, f 71, f 72, f 73, f 74, f 75, f 76, f 77, f 78, f 79, f 80, f 81, f 82, f 83, f 84, f 85, f 86, f 87, f 88, f 89, f 90, f 91, f 92, f 93, f 94, f 95, f 96, f 97, f 98, f 99, f 100, f 101, f 102, f 103, f 104, f 105, f 106, f 107, f 108, f 109, f 110, f 111, f 112, f 113, f 114, f 115, f 116, f 117, f 118, f 119, f 120, f 121, f 122, f 123, f 124] from by kernel_rfl), f4, f5, f6, f7, f8, f9, f10, f11]
      clear f4 f5 f6 f7 f8 f9 f10 f11
      clear e0
      dsimp only
      clear h4 h5 h6 h7 h8 h9 h10 h11 q110 v110 hM HS t1 t0 M
      go_wp2_with ((with_reducible refine guard_list ?_); first | (refine held_load 26 _ rfl ?_) | (refine held_load 22 _ rfl ?_) | (refine held_load 68 _ rfl ?_))
      obtain ⟨M, hM⟩ : ∃ M, M = V5'.heap.size := ⟨_, rfl⟩
      refine hide_held fun t0 HT => ?_
      have HS : t0.size = 125 := by rw [HT]; rfl
      have h4 : t0[4]? = some (.pointer (some ⟨(w.heap.size + 1 + 1), 0, none⟩)) := by rw [HT]; rfl
      have h5 : t0[5]? = some (.pointer (some ⟨gn, 0, none⟩)) := by rw [HT]; rfl
      have h6 : t0[6]? = some (.pointer (some ⟨g6, 0, none⟩)) := by rw [HT]; rfl
      have h7 : t0[7]? = some (.pointer (some ⟨g7, 0, none⟩)) := by rw [HT]; rfl
      have h8 : t0[8]? = some (.pointer (some ⟨g8, 0, none⟩)) := by rw [HT]; rfl
      have h9 : t0[9]? = some (.pointer (some ⟨g9, 0, none⟩)) := by rw [HT]; rfl
      have h10 : t0[10]? = some (.pointer (some ⟨g10, 0, none⟩)) := by rw [HT]; rfl
      have h11 : t0[11]? = some (.int .u64 (b.toNat : Int)) := by rw [HT]; rfl
      refine wp_from_most 8 (fun i => [113, 114, 115, 116, 117, 112, 118, 119].getD i 0) (fun _ => none) (fun i => [(· = .int .u64 (b.toNat : Int)), (· = .int .u64 (IntKind.u64.wrap (-(b.toNat : Int)))), IsEl q2, IsEl q3, IsEl2 zz ww, IsEl2 zz ww, IsEl zz, IsEl ww].getD i (fun _ => True)) (fun w' => Own w [(w.heap.size, 32, (· = .agg (vals Lk))), ((w.heap.size + 1), 32, (· = .agg (vals Lu))), ((w.heap.size + 1 + 1), 32, (fun _ => True)), (gn, 32, (· = .agg (vals (bytesN V)))), (g6, 5, IsEl x1), (g7, 5, IsEl xx), (g8, 5, IsEl q2), (g9, 5, IsEl p3), (g10, 5, IsEl q3)] w' ∧ M ≤ w'.heap.size) M
        2 (by omega) (by kernel_rfl) ?_ (slots_apart (by kernel_rfl)) (slots_lie (by rw [HS]; kernel_rfl)) ⟨hS, Nat.le_of_eq hM⟩ (fun w' h => h.2) (fun w1 w2 h b => ⟨h.1.keep b, Nat.le_trans h.2 b.size⟩) ?_ ?_ ?_
      · intro j hj _
        have hc : j = 0 ∨ j = 1 := by omega
        rcases hc with rfl | rfl
        · exact ⟨rfl, _, by rw [HT]; rfl, rfl⟩
        · exact ⟨rfl, _, by rw [HT]; rfl, rfl⟩
      · clear hS
        intro i o h0i hi ho hA
        have hc : i = 2 ∨ i = 3 ∨ i = 4 ∨ i = 5 ∨ i = 6 ∨ i = 7 := by omega
        rcases hc with rfl | rfl | rfl | rfl | rfl | rfl
        · obtain rfl := Option.some.inj ho
          refine ⟨rfl, fun a w' hS hold hin K hK => ?_⟩
          refine if_always rfl ?_
          exact op_ld_own 5 tElem (.tmp 8) rfl rfl _ (eval_tmp ((hold 8 (slots_not (by kernel_rfl))).trans h8)) hS.1 6 rfl hK
        · obtain rfl := Option.some.inj ho
          refine ⟨rfl, fun a w' hS hold hin K hK => ?_⟩
          refine if_always rfl ?_
          exact op_ld_own 5 tElem (.tmp 10) rfl rfl _ (eval_tmp ((hold 10 (slots_not (by kernel_rfl))).trans h10)) hS.1 8 rfl hK
        · obtain rfl := Option.some.inj ho
          refine ⟨rfl, fun a w' hS hold hin K hK => ?_⟩
          obtain ⟨y1, x1, rfl⟩ := hin 1 rfl (by omega) rfl
          obtain ⟨y2, x2, (v2 : IsEl q2 y2)⟩ := hin 2 rfl (by omega) rfl
          obtain ⟨y3, x3, (v3 : IsEl q3 y3)⟩ := hin 3 rfl (by omega) rfl
          refine if_always rfl ?_
          exact op_fn3 _ _ _ _ _ _ _ _ rfl rfl (eval_tmp x1) (eval_tmp x2) (eval_tmp x3) (by intro args w; kernel_rfl) (swap_evn b (neg_bit b) v2 v3 Hhzz.out Hhww.out _) hK
        · obtain rfl := Option.some.inj ho
          refine ⟨rfl, fun a w' hS hold hin K hK => ?_⟩
          obtain ⟨y4, x4, (v4 : IsEl2 zz ww y4)⟩ := hin 4 rfl (by omega) rfl
          refine if_always rfl ?_
          exact op_move (V := IsEl2 zz ww) _ _ rfl rfl (eval_tmp x4) v4 hK
        · obtain rfl := Option.some.inj ho
          refine ⟨rfl, fun a w' hS hold hin K hK => ?_⟩
          obtain ⟨y5, x5, (v5 : IsEl2 zz ww y5)⟩ := hin 5 rfl (by omega) rfl
          refine if_always rfl ?_
          exact op_ext0 _ rfl rfl (eval_tmp x5) v5 hK
        · obtain rfl := Option.some.inj ho
          refine ⟨rfl, fun a w' hS hold hin K hK => ?_⟩
          obtain ⟨y5, x5, (v5 : IsEl2 zz ww y5)⟩ := hin 5 rfl (by omega) rfl
          refine if_always rfl ?_
          exact op_ext1 _ rfl rfl (eval_tmp x5) v5 hK
      · intro i o sz h0i hi ho hA; cases hA
      clear hS
      intro t1 V6 hs hold hout hall hne hS
      replace HS := hs.trans HS
      replace hS := hS.1
      obtain ⟨x118, q118, v118⟩ : ∃ x, t1[118]? = some x ∧ (IsEl zz) x := hout 6 (by omega) rfl
      replace h4 := (hold 4 (slots_not (by kernel_rfl))).trans h4
      replace h5 := (hold 5 (slots_not (by kernel_rfl))).trans h5
      replace h6 := (hold 6 (slots_not (by kernel_rfl))).trans h6
      replace h7 := (hold 7 (slots_not (by kernel_rfl))).trans h7
      replace h8 := (hold 8 (slots_not (by kernel_rfl))).trans h8
      replace h9 := (hold 9 (slots_not (by kernel_rfl))).trans h9
      replace h10 := (hold 10 (slots_not (by kernel_rfl))).trans h10
      replace h11 := (hold 11 (slots_not (by kernel_rfl))).trans h11
      clear hold hout hs hall hne
      simp only [List.drop_succ_cons, List.drop_zero]
      refine st_own 5 tElem rfl (.tmp 8) (.tmp 118) rfl rfl _ _ (eval_tmp h8) (eval_tmp q118) (V' := IsEl zz) v118 (fun x hx => el_row hx) hS 6 rfl fun V6' hS' _ => ?_
      replace hS : Own w [(w.heap.size, 32, (· = .agg (vals Lk))), ((w.heap.size + 1), 32, (· = .agg (vals Lu))), ((w.heap.size + 1 + 1), 32, (fun _ => True)), (gn, 32, (· = .agg (vals (bytesN V)))), (g6, 5, IsEl x1), (g7, 5, IsEl xx), (g8, 5, IsEl zz), (g9, 5, IsEl p3), (g10, 5, IsEl q3)] V6' := hS'
      clear hS'
      refine wpList_nil ?_
      clear HT
      obtain ⟨f, e0, hf⟩ := wash HS
      have f4 := hf 4 _ h4
      have f5 := hf 5 _ h5
      have f6 := hf 6 _ h6
      have f7 := hf 7 _ h7
      have f8 := hf 8 _ h8
      have f9 := hf 9 _ h9
      have f10 := hf 10 _ h10
      have f11 := hf 11 _ h11
      clear hf
      rw [e0.trans (show _ = #[f 0, f 1, f 2, f 3, f 4, f 5, f 6, f 7, f 8, f 9, f 10, f 11, f 12, f 13, f 14, f 15, f 16, f 17, f 18, f 19, f 20, f 21, f 22, f 23, f 24, f 25, f 26, f 27, f 28, f 29, f 30, f 31, f 32, f 33, f 34, f 35, f 36, f 37, f 38, f 39, f 40, f 41, f 42, f 43, f 44, f 45, f 46, f 47, f 48, f 49, f 50, f 51, f 52, f 53, f 54, f 55, f 56, f 57, f 58, f 59, f 60, f 61, f 62, f 63, f 64, f 65, f 66, f 67, f 68, f 69, f 70, f 71, f 72, f 73, f 74, f 75, f 76, f 77, f 78, f 79, f 80, f 81, f 82, f 83, f 84, f 85, f 86, f 87, f 88, f 89, f 90, f 91, f 92, f 93, f 94, f 95, f 96, f 97, f 98, f 99, f 100, f 101, f 102, f 103, f 104, f 105, f 106, f 107, f 108, f 109, f 110, f 111, f 112, f 113, f 114, f 115, f 116, f 117, f 118, f 119, f 120, f 121, f 122, f 123, f 124] from by kernel_rfl), f4, f5, f6, f7, f8, f9, f10, f11]
      clear f4 f5 f6 f7 f8 f9 f10 f11
      clear e0
      dsimp only
      clear h4 h5 h6 h7 h8 h9 h10 h11 q118 v118 hM HS t1 t0 M
      go_wp2_with fail
      obtain ⟨M, hM⟩ : ∃ M, M = V6'.heap.size := ⟨_, rfl⟩
      refine hide_frame fun t0 HT => ?_
      have HS : t0.size = 125 := by rw [HT]; rfl
      have h4 : t0[4]? = some (.pointer (some ⟨(w.heap.size + 1 + 1), 0, none⟩)) := by rw [HT]; rfl
      have h5 : t0[5]? = some (.pointer (some ⟨gn, 0, none⟩)) := by rw [HT]; rfl
      have h6 : t0[6]? = some (.pointer (some ⟨g6, 0, none⟩)) := by rw [HT]; rfl
      have h7 : t0[7]? = some (.pointer (some ⟨g7, 0, none⟩)) := by rw [HT]; rfl
      have h8 : t0[8]? = some (.pointer (some ⟨g8, 0, none⟩)) := by rw [HT]; rfl
      have h9 : t0[9]? = some (.pointer (some ⟨g9, 0, none⟩)) := by rw [HT]; rfl
      have h10 : t0[10]? = some (.pointer (some ⟨g10, 0, none⟩)) := by rw [HT]; rfl
      have h11 : t0[11]? = some (.int .u64 (b.toNat : Int)) := by rw [HT]; rfl
      clear HT
      refine wp_region_most 5 (fun i => [120, 121, 122, 123, 124].getD i 0) (fun _ => none) (fun i => [IsEl xx, IsEl zz, IsEl iv, IsEl (xx * iv), (· = .agg (vals (bytesN R.val)))].getD i (fun _ => True)) (fun w' => Own w [(w.heap.size, 32, (· = .agg (vals Lk))), ((w.heap.size + 1), 32, (· = .agg (vals Lu))), ((w.heap.size + 1 + 1), 32, (fun _ => True)), (gn, 32, (· = .agg (vals (bytesN V)))), (g6, 5, IsEl x1), (g7, 5, IsEl xx), (g8, 5, IsEl zz), (g9, 5, IsEl p3), (g10, 5, IsEl q3)] w' ∧ M ≤ w'.heap.size) M
        (by kernel_rfl) (by kernel_rfl) (slots_apart (by kernel_rfl)) (slots_lie (by rw [HS]; kernel_rfl)) ⟨hS.drew, Nat.le_of_eq hM⟩ (fun w' h => h.2) (fun w1 w2 h b => ⟨h.1.keep b, Nat.le_trans h.2 b.size⟩) ?_ ?_ ?_
      · clear hS
        intro i o hi ho hA
        have hc : i = 0 ∨ i = 1 ∨ i = 2 ∨ i = 3 ∨ i = 4 := by omega
        rcases hc with rfl | rfl | rfl | rfl | rfl
        · obtain rfl := Option.some.inj ho
          refine ⟨rfl, fun a w' hS hold hin K hK => ?_⟩
          refine if_always rfl ?_
          exact op_ld_own 5 tElem (.tmp 7) rfl rfl _ (eval_tmp ((hold 7 (slots_not (by kernel_rfl))).trans h7)) hS.1 5 rfl hK
        · obtain rfl := Option.some.inj ho
          refine ⟨rfl, fun a w' hS hold hin K hK => ?_⟩
          refine if_always rfl ?_
          exact op_ld_own 5 tElem (.tmp 8) rfl rfl _ (eval_tmp ((hold 8 (slots_not (by kernel_rfl))).trans h8)) hS.1 6 rfl hK
        · obtain rfl := Option.some.inj ho
          refine ⟨rfl, fun a w' hS hold hin K hK => ?_⟩
          obtain ⟨y1, x1, (v1 : IsEl zz y1)⟩ := hin 1 rfl (by omega) rfl
          refine if_always rfl ?_
          exact op_fn1 _ _ _ _ rfl rfl (eval_tmp x1) (by intro args w; kernel_rfl) (inv_ev v1 Hhiv.out _) hK
        · obtain rfl := Option.some.inj ho
          refine ⟨rfl, fun a w' hS hold hin K hK => ?_⟩
          obtain ⟨y0, x0, (v0 : IsEl xx y0)⟩ := hin 0 rfl (by omega) rfl
          obtain ⟨y2, x2, (v2 : IsEl iv y2)⟩ := hin 2 rfl (by omega) rfl
          refine if_always rfl ?_
          exact op_fn2 _ _ _ _ _ _ rfl rfl (eval_tmp x0) (eval_tmp x2) (by intro args w; kernel_rfl) (mul_el v0 v2 _) hK
        · obtain rfl := Option.some.inj ho
          refine ⟨rfl, fun a w' hS hold hin K hK => ?_⟩
          obtain ⟨y3, x3, (v3 : IsEl (xx * iv) y3)⟩ := hin 3 rfl (by omega) rfl
          refine if_always rfl ?_
          exact op_fn1 _ _ _ _ rfl rfl (eval_tmp x3) (by intro args w; kernel_rfl) (bytes_ev v3 R.val Hhval.out _) hK
      · intro i o sz hi ho hA; cases hA
      clear hS
      intro t1 V7 hs hold hout hall hne hS
      replace HS := hs.trans HS
      replace hS := hS.1
      obtain ⟨x124, q124, v124⟩ : ∃ x, t1[124]? = some x ∧ ((· = .agg (vals (bytesN R.val)))) x := hout 4 (by omega) rfl
      replace h4 := (hold 4 (slots_not (by kernel_rfl))).trans h4
      replace h5 := (hold 5 (slots_not (by kernel_rfl))).trans h5
      replace h6 := (hold 6 (slots_not (by kernel_rfl))).trans h6
      replace h7 := (hold 7 (slots_not (by kernel_rfl))).trans h7
      replace h8 := (hold 8 (slots_not (by kernel_rfl))).trans h8
      replace h9 := (hold 9 (slots_not (by kernel_rfl))).trans h9
      replace h10 := (hold 10 (slots_not (by kernel_rfl))).trans h10
      replace h11 := (hold 11 (slots_not (by kernel_rfl))).trans h11
      clear hold hout hs hall hne
      simp only [List.drop_succ_cons, List.drop_zero]
      refine st_own 32 tKey rfl (.tmp 4) (.tmp 124) rfl rfl _ _ (eval_tmp h4) (eval_tmp q124) (V' := (· = .agg (vals (bytesN R.val)))) v124 (by_row (bytesN_len _)) hS 2 rfl fun V7' hS' _ => ?_
      replace hS : Own w [(w.heap.size, 32, (· = .agg (vals Lk))), ((w.heap.size + 1), 32, (· = .agg (vals Lu))), ((w.heap.size + 1 + 1), 32, (· = .agg (vals (bytesN R.val)))), (gn, 32, (· = .agg (vals (bytesN V)))), (g6, 5, IsEl x1), (g7, 5, IsEl xx), (g8, 5, IsEl zz), (g9, 5, IsEl p3), (g10, 5, IsEl q3)] V7' := hS'
      clear hS'
      refine wpList_nil ?_
      obtain ⟨f, e0, hf⟩ := wash HS
      have f4 := hf 4 _ h4
      have f5 := hf 5 _ h5
      have f6 := hf 6 _ h6
      have f7 := hf 7 _ h7
      have f8 := hf 8 _ h8
      have f9 := hf 9 _ h9
      have f10 := hf 10 _ h10
      have f11 := hf 11 _ h11
      clear hf
      rw [e0.trans (show _ = #[f 0, f 1, f 2, f 3, f 4, f 5, f 6, f 7, f 8, f 9, f 10, f 11, f 12, f 13, f 14, f 15, f 16, f 17, f 18, f 19, f 20, f 21, f 22, f 23, f 24, f 25, f 26, f 27, f 28, f 29, f 30, f 31, f 32, f 33, f 34, f 35, f 36, f 37, f 38, f 39, f 40, f 41, f 42, f 43, f 44, f 45, f 46, f 47, f 48, f 49, f 50, f 51, f 52, f 53, f 54, f 55, f 56, f 57, f 58, f 59, f 60, f 61, f 62, f 63, f 64, f 65, f 66, f 67, f 68, f 69, f 70, f 71, f 72, f 73, f 74, f 75, f 76, f 77, f 78, f 79, f 80, f 81, f 82, f 83, f 84, f 85, f 86, f 87, f 88, f 89, f 90, f 91, f 92, f 93, f 94, f 95, f 96, f 97, f 98, f 99, f 100, f 101, f 102, f 103, f 104, f 105, f 106, f 107, f 108, f 109, f 110, f 111, f 112, f 113, f 114, f 115, f 116, f 117, f 118, f 119, f 120, f 121, f 122, f 123, f 124] from by kernel_rfl), f4, f5, f6, f7, f8, f9, f10, f11]
      clear f4 f5 f6 f7 f8 f9 f10 f11
      clear e0
      dsimp only
      clear h4 h5 h6 h7 h8 h9 h10 h11 q124 v124 hM HS t1 t0 M
      obtain ⟨cs, ct, c1, c2, c3⟩ := hS.get (i := 2) rfl
      have hbel := hS.1
      have C3 := Lib.hid c3
      clear hS c3
      go_wp2_with fail
      refine ret_row rfl _ _ _ rfl c1 32 tKey c2 rfl ?_
      exact ⟨_, rfl, C3.out, hbel⟩
    | succ j =>
      rw [show ((j + 1 : Nat) : Int) - 1 = (j : Int) by omega]
      obtain ⟨csB, ctB, B1, B2, B3⟩ := hS1.out.get (i := 3) rfl
      injection B3 with B3
      subst B3
      have cb : wr.cell? ⟨gn, j / 8, none⟩ = some (.int .u8 (byteOf V (j / 8))) := (row_cell B1 _).trans (by rw [vals_get (by rw [bytesN_len]; omega), nth_bytesN _ _ (by omega)])
      clear B1 B2
      have t8 : ((j : Int)).tmod 8 = (j : Int) % 8 := Int.tmod_eq_emod_of_nonneg (by omega)
      have hby := byteOf_lt V (j / 8)
      go_wp2_with ((with_reducible refine guard_list ?_); first | (refine held_load 26 _ rfl ?_) | (refine held_load 22 _ rfl ?_) | (refine held_load 68 _ rfl ?_))
      obtain ⟨b', hb'⟩ : ∃ b', b' = decide (V / 2 ^ j % 2 = 1) := ⟨_, rfl⟩
      have hbit : bits .and .u64 (IntKind.u64.wrap ((byteOf V (j / 8) : Int) / 2 ^ (j % 8))) 1 = (b'.toNat : Int) := by
        have h1 : ((byteOf V (j / 8) : Nat) : Int) / 2 ^ (j % 8) = ((byteOf V (j / 8) / 2 ^ (j % 8) : Nat) : Int) := by push_cast; rfl
        have h2 : byteOf V (j / 8) / 2 ^ (j % 8) < 256 := Nat.lt_of_le_of_lt (Nat.div_le_self _ _) hby
        have h3 := nat_bit V j
        rw [h1, hb', ← h3]
        generalize byteOf V (j / 8) / 2 ^ (j % 8) = q at *
        rw [wrap_small (q : Int) (by omega) (by omega), and_one64 (q : Int) (by omega) (by omega)]
        have h5 : q % 2 = 0 ∨ q % 2 = 1 := by omega
        rcases h5 with h5 | h5 <;> simp [h5] <;> omega
      rw [hbit]
      clear hbit cb t8 hby
      have hmask := mask_bit b b'
      generalize IntKind.u64.wrap (-(bits .xor .u64 (b.toNat : Int) (b'.toNat : Int))) = mm at hmask ⊢
      obtain ⟨cc, hcc⟩ : ∃ c, c = xor b b' := ⟨_, rfl⟩
      rw [← hcc] at hmask
      have hS := hS1.out
      clear hS1
      obtain ⟨u, hu⟩ : ∃ x, x = selF cc p3 p2 := ⟨_, rfl⟩
      obtain ⟨v, hv⟩ : ∃ x, x = selF cc q3 q2 := ⟨_, rfl⟩
      obtain ⟨xt, hx3⟩ : ∃ x, x = selF cc p2 p3 := ⟨_, rfl⟩
      obtain ⟨zt, hz3⟩ : ∃ x, x = selF cc q2 q3 := ⟨_, rfl⟩
      have hb := hb'
      clear hb'
      have Hhu := Lib.hid hu
      have Hhv := Lib.hid hv
      have Hhx3 := Lib.hid hx3
      have Hhz3 := Lib.hid hz3
      have Hhcc := Lib.hid hcc
      have Hhb := Lib.hid hb
      have Hhmask := Lib.hid hmask
      clear hu hv hx3 hz3 hcc hb hmask
      obtain ⟨M, hM⟩ : ∃ M, M = wr.heap.size := ⟨_, rfl⟩
      refine hide_held fun t0 HT => ?_
      have HS : t0.size = 125 := by rw [HT]; rfl
      have h4 : t0[4]? = some (.pointer (some ⟨(w.heap.size + 1 + 1), 0, none⟩)) := by rw [HT]; rfl
      have h5 : t0[5]? = some (.pointer (some ⟨gn, 0, none⟩)) := by rw [HT]; rfl
      have h6 : t0[6]? = some (.pointer (some ⟨g6, 0, none⟩)) := by rw [HT]; rfl
      have h7 : t0[7]? = some (.pointer (some ⟨g7, 0, none⟩)) := by rw [HT]; rfl
      have h8 : t0[8]? = some (.pointer (some ⟨g8, 0, none⟩)) := by rw [HT]; rfl
      have h9 : t0[9]? = some (.pointer (some ⟨g9, 0, none⟩)) := by rw [HT]; rfl
      have h10 : t0[10]? = some (.pointer (some ⟨g10, 0, none⟩)) := by rw [HT]; rfl
      have h14 : t0[14]? = some (.int .u64 mm) := by rw [HT]; rfl
      refine wp_from_most 7 (fun i => [48, 49, 50, 51, 47, 52, 53].getD i 0) (fun _ => none) (fun i => [(· = .int .u64 mm), IsEl p2, IsEl p3, IsEl2 u xt, IsEl2 u xt, IsEl u, IsEl xt].getD i (fun _ => True)) (fun w' => Own w [(w.heap.size, 32, (· = .agg (vals Lk))), ((w.heap.size + 1), 32, (· = .agg (vals Lu))), ((w.heap.size + 1 + 1), 32, (fun _ => True)), (gn, 32, (· = .agg (vals (bytesN V)))), (g6, 5, IsEl x1), (g7, 5, IsEl p2), (g8, 5, IsEl q2), (g9, 5, IsEl p3), (g10, 5, IsEl q3)] w' ∧ M ≤ w'.heap.size) M
        1 (by omega) (by kernel_rfl) ?_ (slots_apart (by kernel_rfl)) (slots_lie (by rw [HS]; kernel_rfl)) ⟨hS, Nat.le_of_eq hM⟩ (fun w' h => h.2) (fun w1 w2 h b => ⟨h.1.keep b, Nat.le_trans h.2 b.size⟩) ?_ ?_ ?_
      · intro j hj _
        have hc : j = 0 := by omega
        rcases hc with rfl
        · exact ⟨rfl, _, by rw [HT]; rfl, rfl⟩
      · clear hS
        intro i o h0i hi ho hA
        have hc : i = 1 ∨ i = 2 ∨ i = 3 ∨ i = 4 ∨ i = 5 ∨ i = 6 := by omega
        rcases hc with rfl | rfl | rfl | rfl | rfl | rfl
        · obtain rfl := Option.some.inj ho
          refine ⟨rfl, fun a w' hS hold hin K hK => ?_⟩
          refine if_always rfl ?_
          exact op_ld_own 5 tElem (.tmp 7) rfl rfl _ (eval_tmp ((hold 7 (slots_not (by kernel_rfl))).trans h7)) hS.1 5 rfl hK
        · obtain rfl := Option.some.inj ho
          refine ⟨rfl, fun a w' hS hold hin K hK => ?_⟩
          refine if_always rfl ?_
          exact op_ld_own 5 tElem (.tmp 9) rfl rfl _ (eval_tmp ((hold 9 (slots_not (by kernel_rfl))).trans h9)) hS.1 7 rfl hK
        · obtain rfl := Option.some.inj ho
          refine ⟨rfl, fun a w' hS hold hin K hK => ?_⟩
          obtain ⟨y0, x0, rfl⟩ := hin 0 rfl (by omega) rfl
          obtain ⟨y1, x1, (v1 : IsEl p2 y1)⟩ := hin 1 rfl (by omega) rfl
          obtain ⟨y2, x2, (v2 : IsEl p3 y2)⟩ := hin 2 rfl (by omega) rfl
          refine if_always rfl ?_
          exact op_fn3 _ _ _ _ _ _ _ _ rfl rfl (eval_tmp x0) (eval_tmp x1) (eval_tmp x2) (by intro args w; kernel_rfl) (swap_evn cc Hhmask.out v1 v2 Hhu.out Hhx3.out _) hK
        · obtain rfl := Option.some.inj ho
          refine ⟨rfl, fun a w' hS hold hin K hK => ?_⟩
          obtain ⟨y3, x3, (v3 : IsEl2 u xt y3)⟩ := hin 3 rfl (by omega) rfl
          refine if_always rfl ?_
          exact op_move (V := IsEl2 u xt) _ _ rfl rfl (eval_tmp x3) v3 hK
        · obtain rfl := Option.some.inj ho
          refine ⟨rfl, fun a w' hS hold hin K hK => ?_⟩
          obtain ⟨y4, x4, (v4 : IsEl2 u xt y4)⟩ := hin 4 rfl (by omega) rfl
          refine if_always rfl ?_
          exact op_ext0 _ rfl rfl (eval_tmp x4) v4 hK
        · obtain rfl := Option.some.inj ho
          refine ⟨rfl, fun a w' hS hold hin K hK => ?_⟩
          obtain ⟨y4, x4, (v4 : IsEl2 u xt y4)⟩ := hin 4 rfl (by omega) rfl
          refine if_always rfl ?_
          exact op_ext1 _ rfl rfl (eval_tmp x4) v4 hK
      · intro i o sz h0i hi ho hA; cases hA
      clear hS
      intro t1 V5 hs hold hout hall hne hS
      have ef := frame_fill 7 (fun i => [48, 49, 50, 51, 47, 52, 53].getD i 0) hs hold (slots_apart (by kernel_rfl)) (slots_lie (by rw [HS]; kernel_rfl))
      replace HS := hs.trans HS
      replace hS := hS.1
      obtain ⟨x52, q52, v52⟩ : ∃ x, t1[52]? = some x ∧ (IsEl u) x := hout 5 (by omega) rfl
      obtain ⟨x53, q53, v53⟩ : ∃ x, t1[53]? = some x ∧ (IsEl xt) x := hout 6 (by omega) rfl
      replace h4 := (hold 4 (slots_not (by kernel_rfl))).trans h4
      replace h5 := (hold 5 (slots_not (by kernel_rfl))).trans h5
      replace h6 := (hold 6 (slots_not (by kernel_rfl))).trans h6
      replace h7 := (hold 7 (slots_not (by kernel_rfl))).trans h7
      replace h8 := (hold 8 (slots_not (by kernel_rfl))).trans h8
      replace h9 := (hold 9 (slots_not (by kernel_rfl))).trans h9
      replace h10 := (hold 10 (slots_not (by kernel_rfl))).trans h10
      replace h14 := (hold 14 (slots_not (by kernel_rfl))).trans h14
      clear hold hout hs hall hne
      simp only [List.drop_succ_cons, List.drop_zero]
      refine st_own 5 tElem rfl (.tmp 7) (.tmp 52) rfl rfl _ _ (eval_tmp h7) (eval_tmp q52) (V' := IsEl u) v52 (fun x hx => el_row hx) hS 5 rfl fun V5' hS' _ => ?_
      replace hS : Own w [(w.heap.size, 32, (· = .agg (vals Lk))), ((w.heap.size + 1), 32, (· = .agg (vals Lu))), ((w.heap.size + 1 + 1), 32, (fun _ => True)), (gn, 32, (· = .agg (vals (bytesN V)))), (g6, 5, IsEl x1), (g7, 5, IsEl u), (g8, 5, IsEl q2), (g9, 5, IsEl p3), (g10, 5, IsEl q3)] V5' := hS'
      clear hS'
      refine st_own 5 tElem rfl (.tmp 9) (.tmp 53) rfl rfl _ _ (eval_tmp h9) (eval_tmp q53) (V' := IsEl xt) v53 (fun x hx => el_row hx) hS 7 rfl fun V5'' hS' _ => ?_
      replace hS : Own w [(w.heap.size, 32, (· = .agg (vals Lk))), ((w.heap.size + 1), 32, (· = .agg (vals Lu))), ((w.heap.size + 1 + 1), 32, (fun _ => True)), (gn, 32, (· = .agg (vals (bytesN V)))), (g6, 5, IsEl x1), (g7, 5, IsEl u), (g8, 5, IsEl q2), (g9, 5, IsEl xt), (g10, 5, IsEl q3)] V5'' := hS'
      clear hS'
      refine wpList_nil ?_
      rw [ef, HT]
      clear ef
      simp only [fillA, if_true, List.getD_cons_zero, List.getD_cons_succ, List.setIfInBounds_toArray, List.set_cons_zero, List.set_cons_succ]
      generalize t1.getD 48 undef = z48
      generalize t1.getD 49 undef = z49
      generalize t1.getD 50 undef = z50
      generalize t1.getD 51 undef = z51
      generalize t1.getD 47 undef = z47
      generalize t1.getD 52 undef = z52
      generalize t1.getD 53 undef = z53
      clear HT
      clear h4 h5 h6 h7 h8 h9 h10 h14 q52 q53 v52 v53 hM HS t1 t0 M
      go_wp2_with ((with_reducible refine guard_list ?_); first | (refine held_load 26 _ rfl ?_) | (refine held_load 22 _ rfl ?_) | (refine held_load 68 _ rfl ?_))
      obtain ⟨M, hM⟩ : ∃ M, M = V5''.heap.size := ⟨_, rfl⟩
      refine hide_held fun t0 HT => ?_
      have HS : t0.size = 125 := by rw [HT]; rfl
      have h4 : t0[4]? = some (.pointer (some ⟨(w.heap.size + 1 + 1), 0, none⟩)) := by rw [HT]; rfl
      have h5 : t0[5]? = some (.pointer (some ⟨gn, 0, none⟩)) := by rw [HT]; rfl
      have h6 : t0[6]? = some (.pointer (some ⟨g6, 0, none⟩)) := by rw [HT]; rfl
      have h7 : t0[7]? = some (.pointer (some ⟨g7, 0, none⟩)) := by rw [HT]; rfl
      have h8 : t0[8]? = some (.pointer (some ⟨g8, 0, none⟩)) := by rw [HT]; rfl
      have h9 : t0[9]? = some (.pointer (some ⟨g9, 0, none⟩)) := by rw [HT]; rfl
      have h10 : t0[10]? = some (.pointer (some ⟨g10, 0, none⟩)) := by rw [HT]; rfl
      have h14 : t0[14]? = some (.int .u64 mm) := by rw [HT]; rfl
      refine wp_from_most 7 (fun i => [55, 56, 57, 58, 54, 59, 60].getD i 0) (fun _ => none) (fun i => [(· = .int .u64 mm), IsEl q2, IsEl q3, IsEl2 v zt, IsEl2 v zt, IsEl v, IsEl zt].getD i (fun _ => True)) (fun w' => Own w [(w.heap.size, 32, (· = .agg (vals Lk))), ((w.heap.size + 1), 32, (· = .agg (vals Lu))), ((w.heap.size + 1 + 1), 32, (fun _ => True)), (gn, 32, (· = .agg (vals (bytesN V)))), (g6, 5, IsEl x1), (g7, 5, IsEl u), (g8, 5, IsEl q2), (g9, 5, IsEl xt), (g10, 5, IsEl q3)] w' ∧ M ≤ w'.heap.size) M
        1 (by omega) (by kernel_rfl) ?_ (slots_apart (by kernel_rfl)) (slots_lie (by rw [HS]; kernel_rfl)) ⟨hS, Nat.le_of_eq hM⟩ (fun w' h => h.2) (fun w1 w2 h b => ⟨h.1.keep b, Nat.le_trans h.2 b.size⟩) ?_ ?_ ?_
      · intro j hj _
        have hc : j = 0 := by omega
        rcases hc with rfl
        · exact ⟨rfl, _, by rw [HT]; rfl, rfl⟩
      · clear hS
        intro i o h0i hi ho hA
        have hc : i = 1 ∨ i = 2 ∨ i = 3 ∨ i = 4 ∨ i = 5 ∨ i = 6 := by omega
        rcases hc with rfl | rfl | rfl | rfl | rfl | rfl
        · obtain rfl := Option.some.inj ho
          refine ⟨rfl, fun a w' hS hold hin K hK => ?_⟩
          refine if_always rfl ?_
          exact op_ld_own 5 tElem (.tmp 8) rfl rfl _ (eval_tmp ((hold 8 (slots_not (by kernel_rfl))).trans h8)) hS.1 6 rfl hK
        · obtain rfl := Option.some.inj ho
          refine ⟨rfl, fun a w' hS hold hin K hK => ?_⟩
          refine if_always rfl ?_
          exact op_ld_own 5 tElem (.tmp 10) rfl rfl _ (eval_tmp ((hold 10 (slots_not (by kernel_rfl))).trans h10)) hS.1 8 rfl hK
        · obtain rfl := Option.some.inj ho
          refine ⟨rfl, fun a w' hS hold hin K hK => ?_⟩
          obtain ⟨y0, x0, rfl⟩ := hin 0 rfl (by omega) rfl
          obtain ⟨y1, x1, (v1 : IsEl q2 y1)⟩ := hin 1 rfl (by omega) rfl
          obtain ⟨y2, x2, (v2 : IsEl q3 y2)⟩ := hin 2 rfl (by omega) rfl
          refine if_always rfl ?_
          exact op_fn3 _ _ _ _ _ _ _ _ rfl rfl (eval_tmp x0) (eval_tmp x1) (eval_tmp x2) (by intro args w; kernel_rfl) (swap_evn cc Hhmask.out v1 v2 Hhv.out Hhz3.out _) hK
        · obtain rfl := Option.some.inj ho
          refine ⟨rfl, fun a w' hS hold hin K hK => ?_⟩
          obtain ⟨y3, x3, (v3 : IsEl2 v zt y3)⟩ := hin 3 rfl (by omega) rfl
          refine if_always rfl ?_
          exact op_move (V := IsEl2 v zt) _ _ rfl rfl (eval_tmp x3) v3 hK
        · obtain rfl := Option.some.inj ho
          refine ⟨rfl, fun a w' hS hold hin K hK => ?_⟩
          obtain ⟨y4, x4, (v4 : IsEl2 v zt y4)⟩ := hin 4 rfl (by omega) rfl
          refine if_always rfl ?_
          exact op_ext0 _ rfl rfl (eval_tmp x4) v4 hK
        · obtain rfl := Option.some.inj ho
          refine ⟨rfl, fun a w' hS hold hin K hK => ?_⟩
          obtain ⟨y4, x4, (v4 : IsEl2 v zt y4)⟩ := hin 4 rfl (by omega) rfl
          refine if_always rfl ?_
          exact op_ext1 _ rfl rfl (eval_tmp x4) v4 hK
      · intro i o sz h0i hi ho hA; cases hA
      clear hS
      intro t1 V6 hs hold hout hall hne hS
      have ef := frame_fill 7 (fun i => [55, 56, 57, 58, 54, 59, 60].getD i 0) hs hold (slots_apart (by kernel_rfl)) (slots_lie (by rw [HS]; kernel_rfl))
      replace HS := hs.trans HS
      replace hS := hS.1
      obtain ⟨x59, q59, v59⟩ : ∃ x, t1[59]? = some x ∧ (IsEl v) x := hout 5 (by omega) rfl
      obtain ⟨x60, q60, v60⟩ : ∃ x, t1[60]? = some x ∧ (IsEl zt) x := hout 6 (by omega) rfl
      replace h4 := (hold 4 (slots_not (by kernel_rfl))).trans h4
      replace h5 := (hold 5 (slots_not (by kernel_rfl))).trans h5
      replace h6 := (hold 6 (slots_not (by kernel_rfl))).trans h6
      replace h7 := (hold 7 (slots_not (by kernel_rfl))).trans h7
      replace h8 := (hold 8 (slots_not (by kernel_rfl))).trans h8
      replace h9 := (hold 9 (slots_not (by kernel_rfl))).trans h9
      replace h10 := (hold 10 (slots_not (by kernel_rfl))).trans h10
      replace h14 := (hold 14 (slots_not (by kernel_rfl))).trans h14
      clear hold hout hs hall hne
      simp only [List.drop_succ_cons, List.drop_zero]
      refine st_own 5 tElem rfl (.tmp 8) (.tmp 59) rfl rfl _ _ (eval_tmp h8) (eval_tmp q59) (V' := IsEl v) v59 (fun x hx => el_row hx) hS 6 rfl fun V6' hS' _ => ?_
      replace hS : Own w [(w.heap.size, 32, (· = .agg (vals Lk))), ((w.heap.size + 1), 32, (· = .agg (vals Lu))), ((w.heap.size + 1 + 1), 32, (fun _ => True)), (gn, 32, (· = .agg (vals (bytesN V)))), (g6, 5, IsEl x1), (g7, 5, IsEl u), (g8, 5, IsEl v), (g9, 5, IsEl xt), (g10, 5, IsEl q3)] V6' := hS'
      clear hS'
      refine st_own 5 tElem rfl (.tmp 10) (.tmp 60) rfl rfl _ _ (eval_tmp h10) (eval_tmp q60) (V' := IsEl zt) v60 (fun x hx => el_row hx) hS 8 rfl fun V6'' hS' _ => ?_
      replace hS : Own w [(w.heap.size, 32, (· = .agg (vals Lk))), ((w.heap.size + 1), 32, (· = .agg (vals Lu))), ((w.heap.size + 1 + 1), 32, (fun _ => True)), (gn, 32, (· = .agg (vals (bytesN V)))), (g6, 5, IsEl x1), (g7, 5, IsEl u), (g8, 5, IsEl v), (g9, 5, IsEl xt), (g10, 5, IsEl zt)] V6'' := hS'
      clear hS'
      refine wpList_nil ?_
      rw [ef, HT]
      clear ef
      simp only [fillA, if_true, List.getD_cons_zero, List.getD_cons_succ, List.setIfInBounds_toArray, List.set_cons_zero, List.set_cons_succ]
      generalize t1.getD 55 undef = z55
      generalize t1.getD 56 undef = z56
      generalize t1.getD 57 undef = z57
      generalize t1.getD 58 undef = z58
      generalize t1.getD 54 undef = z54
      generalize t1.getD 59 undef = z59
      generalize t1.getD 60 undef = z60
      clear HT
      clear h4 h5 h6 h7 h8 h9 h10 h14 q59 q60 v59 v60 hM HS t1 t0 M
      go_wp2_with fail
      obtain ⟨M, hM⟩ : ∃ M, M = V6''.heap.size := ⟨_, rfl⟩
      have hMB : w.heap.size ≤ M := hM ▸ hS.1.size
      have ltM := hS.lt
      rw [← hM] at ltM
      refine hide_frame fun t0 HT => ?_
      have HS : t0.size = 125 := by rw [HT]; rfl
      have h4 : t0[4]? = some (.pointer (some ⟨(w.heap.size + 1 + 1), 0, none⟩)) := by rw [HT]; rfl
      have h5 : t0[5]? = some (.pointer (some ⟨gn, 0, none⟩)) := by rw [HT]; rfl
      have h6 : t0[6]? = some (.pointer (some ⟨g6, 0, none⟩)) := by rw [HT]; rfl
      have h7 : t0[7]? = some (.pointer (some ⟨g7, 0, none⟩)) := by rw [HT]; rfl
      have h8 : t0[8]? = some (.pointer (some ⟨g8, 0, none⟩)) := by rw [HT]; rfl
      have h9 : t0[9]? = some (.pointer (some ⟨g9, 0, none⟩)) := by rw [HT]; rfl
      have h10 : t0[10]? = some (.pointer (some ⟨g10, 0, none⟩)) := by rw [HT]; rfl
      refine wp_region_most 8 (fun i => [62, 63, 64, 65, 66, 67, 15, 16].getD i 0) (fun i => [none, none, none, none, none, none, some 5, some 5].getD i none) (fun i => [IsEl u, IsEl v, IsEl (u + v), IsEl u, IsEl v, IsEl (u - v), (fun _ => True), (fun _ => True)].getD i (fun _ => True)) (fun w' => Own w [(w.heap.size, 32, (· = .agg (vals Lk))), ((w.heap.size + 1), 32, (· = .agg (vals Lu))), ((w.heap.size + 1 + 1), 32, (fun _ => True)), (gn, 32, (· = .agg (vals (bytesN V)))), (g6, 5, IsEl x1), (g7, 5, IsEl u), (g8, 5, IsEl v), (g9, 5, IsEl xt), (g10, 5, IsEl zt)] w' ∧ M ≤ w'.heap.size) M
        (by kernel_rfl) (by kernel_rfl) (slots_apart (by kernel_rfl)) (slots_lie (by rw [HS]; kernel_rfl)) ⟨hS.drew, Nat.le_of_eq hM⟩ (fun w' h => h.2) (fun w1 w2 h b => ⟨h.1.keep b, Nat.le_trans h.2 b.size⟩) ?_ ?_ ?_
      · clear hS
        intro i o hi ho hA
        have hc : i = 0 ∨ i = 1 ∨ i = 2 ∨ i = 3 ∨ i = 4 ∨ i = 5 ∨ i = 6 ∨ i = 7 := by omega
        rcases hc with rfl | rfl | rfl | rfl | rfl | rfl | rfl | rfl
        · obtain rfl := Option.some.inj ho
          refine ⟨rfl, fun a w' hS hold hin K hK => ?_⟩
          refine if_always rfl ?_
          exact op_ld_own 5 tElem (.tmp 7) rfl rfl _ (eval_tmp ((hold 7 (slots_not (by kernel_rfl))).trans h7)) hS.1 5 rfl hK
        · obtain rfl := Option.some.inj ho
          refine ⟨rfl, fun a w' hS hold hin K hK => ?_⟩
          refine if_always rfl ?_
          exact op_ld_own 5 tElem (.tmp 8) rfl rfl _ (eval_tmp ((hold 8 (slots_not (by kernel_rfl))).trans h8)) hS.1 6 rfl hK
        · obtain rfl := Option.some.inj ho
          refine ⟨rfl, fun a w' hS hold hin K hK => ?_⟩
          obtain ⟨y0, x0, (v0 : IsEl u y0)⟩ := hin 0 rfl (by omega) rfl
          obtain ⟨y1, x1, (v1 : IsEl v y1)⟩ := hin 1 rfl (by omega) rfl
          refine if_always rfl ?_
          exact op_fn2 _ _ _ _ _ _ rfl rfl (eval_tmp x0) (eval_tmp x1) (by intro args w; kernel_rfl) (add_el v0 v1 _) hK
        · obtain rfl := Option.some.inj ho
          refine ⟨rfl, fun a w' hS hold hin K hK => ?_⟩
          refine if_always rfl ?_
          exact op_ld_own 5 tElem (.tmp 7) rfl rfl _ (eval_tmp ((hold 7 (slots_not (by kernel_rfl))).trans h7)) hS.1 5 rfl hK
        · obtain rfl := Option.some.inj ho
          refine ⟨rfl, fun a w' hS hold hin K hK => ?_⟩
          refine if_always rfl ?_
          exact op_ld_own 5 tElem (.tmp 8) rfl rfl _ (eval_tmp ((hold 8 (slots_not (by kernel_rfl))).trans h8)) hS.1 6 rfl hK
        · obtain rfl := Option.some.inj ho
          refine ⟨rfl, fun a w' hS hold hin K hK => ?_⟩
          obtain ⟨y3, x3, (v3 : IsEl u y3)⟩ := hin 3 rfl (by omega) rfl
          obtain ⟨y4, x4, (v4 : IsEl v y4)⟩ := hin 4 rfl (by omega) rfl
          refine if_always rfl ?_
          exact op_fn2 _ _ _ _ _ _ rfl rfl (eval_tmp x3) (eval_tmp x4) (by intro args w; kernel_rfl) (sub_el v3 v4 _) hK
        · cases hA
        · cases hA
      · intro i o sz hi ho hA
        have hc : i = 0 ∨ i = 1 ∨ i = 2 ∨ i = 3 ∨ i = 4 ∨ i = 5 ∨ i = 6 ∨ i = 7 := by omega
        rcases hc with rfl | rfl | rfl | rfl | rfl | rfl | rfl | rfl
        · cases hA
        · cases hA
        · cases hA
        · cases hA
        · cases hA
        · cases hA
        · obtain rfl := Option.some.inj ho
          obtain rfl := Option.some.inj hA
          exact ⟨rfl, rfl, 26, #[.int .u64 0, .int .u64 0, .int .u64 0, .int .u64 0, .int .u64 0], rfl, fun a w' K h => wp_new 26 #[.int .u64 0, .int .u64 0, .int .u64 0, .int .u64 0, .int .u64 0] (fun w => by kernel_rfl) h⟩
        · obtain rfl := Option.some.inj ho
          obtain rfl := Option.some.inj hA
          exact ⟨rfl, rfl, 26, #[.int .u64 0, .int .u64 0, .int .u64 0, .int .u64 0, .int .u64 0], rfl, fun a w' K h => wp_new 26 #[.int .u64 0, .int .u64 0, .int .u64 0, .int .u64 0, .int .u64 0] (fun w => by kernel_rfl) h⟩
      clear hS
      intro t1 V7 hs hold hout hall hne hS
      have ef := frame_fill 8 (fun i => [62, 63, 64, 65, 66, 67, 15, 16].getD i 0) hs hold (slots_apart (by kernel_rfl)) (slots_lie (by rw [HS]; kernel_rfl))
      replace HS := hs.trans HS
      replace hS := hS.1
      obtain ⟨g15, h15, b15, r15⟩ : ∃ g, t1[15]? = some (.pointer (some ⟨g, 0, none⟩)) ∧ M ≤ g ∧ ∃ cs ty, V7.heap[g]? = some (.cells cs ty (0, 0)) ∧ cs.size = 5 := by
        obtain ⟨g, p1, p2, ty, cs, p3, p4⟩ := hall 6 (by omega) 5 rfl
        exact ⟨g, p1, p2, cs, ty, p3, p4⟩
      obtain ⟨g16, h16, b16, r16⟩ : ∃ g, t1[16]? = some (.pointer (some ⟨g, 0, none⟩)) ∧ M ≤ g ∧ ∃ cs ty, V7.heap[g]? = some (.cells cs ty (0, 0)) ∧ cs.size = 5 := by
        obtain ⟨g, p1, p2, ty, cs, p3, p4⟩ := hall 7 (by omega) 5 rfl
        exact ⟨g, p1, p2, cs, ty, p3, p4⟩
      have n15_16 : g15 ≠ g16 := fun h => hne 6 7 (by omega) (by omega) (by omega) rfl rfl (show t1[15]? = t1[16]? by rw [h15, h16, h])
      replace hS : Own w [(w.heap.size, 32, (· = .agg (vals Lk))), ((w.heap.size + 1), 32, (· = .agg (vals Lu))), ((w.heap.size + 1 + 1), 32, (fun _ => True)), (gn, 32, (· = .agg (vals (bytesN V)))), (g6, 5, IsEl x1), (g7, 5, IsEl u), (g8, 5, IsEl v), (g9, 5, IsEl xt), (g10, 5, IsEl zt), (g15, 5, (fun _ => True))] V7 := hS.add (Nat.le_trans hMB b15) (fun r hr => Nat.ne_of_lt (Nat.lt_of_lt_of_le (ltM r hr) b15)) (Own.any r15)
      replace hS : Own w [(w.heap.size, 32, (· = .agg (vals Lk))), ((w.heap.size + 1), 32, (· = .agg (vals Lu))), ((w.heap.size + 1 + 1), 32, (fun _ => True)), (gn, 32, (· = .agg (vals (bytesN V)))), (g6, 5, IsEl x1), (g7, 5, IsEl u), (g8, 5, IsEl v), (g9, 5, IsEl xt), (g10, 5, IsEl zt), (g15, 5, (fun _ => True)), (g16, 5, (fun _ => True))] V7 := hS.add (Nat.le_trans hMB b16) (Own.ne_app (g1 := g15) (fun r hr => Nat.ne_of_lt (Nat.lt_of_lt_of_le (ltM r hr) b16)) n15_16) (Own.any r16)
      obtain ⟨x64, q64, v64⟩ : ∃ x, t1[64]? = some x ∧ (IsEl (u + v)) x := hout 2 (by omega) rfl
      obtain ⟨x67, q67, v67⟩ : ∃ x, t1[67]? = some x ∧ (IsEl (u - v)) x := hout 5 (by omega) rfl
      replace h4 := (hold 4 (slots_not (by kernel_rfl))).trans h4
      replace h5 := (hold 5 (slots_not (by kernel_rfl))).trans h5
      replace h6 := (hold 6 (slots_not (by kernel_rfl))).trans h6
      replace h7 := (hold 7 (slots_not (by kernel_rfl))).trans h7
      replace h8 := (hold 8 (slots_not (by kernel_rfl))).trans h8
      replace h9 := (hold 9 (slots_not (by kernel_rfl))).trans h9
      replace h10 := (hold 10 (slots_not (by kernel_rfl))).trans h10
      clear hold hout hs hall hne
      simp only [List.drop_succ_cons, List.drop_zero]
      refine st_own 5 tElem rfl (.tmp 15) (.tmp 64) rfl rfl _ _ (eval_tmp h15) (eval_tmp q64) (V' := IsEl (u + v)) v64 (fun x hx => el_row hx) hS 9 rfl fun V7' hS' _ => ?_
      replace hS : Own w [(w.heap.size, 32, (· = .agg (vals Lk))), ((w.heap.size + 1), 32, (· = .agg (vals Lu))), ((w.heap.size + 1 + 1), 32, (fun _ => True)), (gn, 32, (· = .agg (vals (bytesN V)))), (g6, 5, IsEl x1), (g7, 5, IsEl u), (g8, 5, IsEl v), (g9, 5, IsEl xt), (g10, 5, IsEl zt), (g15, 5, IsEl (u + v)), (g16, 5, (fun _ => True))] V7' := hS'
      clear hS'
      refine st_own 5 tElem rfl (.tmp 16) (.tmp 67) rfl rfl _ _ (eval_tmp h16) (eval_tmp q67) (V' := IsEl (u - v)) v67 (fun x hx => el_row hx) hS 10 rfl fun V7'' hS' _ => ?_
      replace hS : Own w [(w.heap.size, 32, (· = .agg (vals Lk))), ((w.heap.size + 1), 32, (· = .agg (vals Lu))), ((w.heap.size + 1 + 1), 32, (fun _ => True)), (gn, 32, (· = .agg (vals (bytesN V)))), (g6, 5, IsEl x1), (g7, 5, IsEl u), (g8, 5, IsEl v), (g9, 5, IsEl xt), (g10, 5, IsEl zt), (g15, 5, IsEl (u + v)), (g16, 5, IsEl (u - v))] V7'' := hS'
      clear hS'
      refine wpList_nil ?_
      have g15 : t1.getD 15 undef = .pointer (some ⟨g15, 0, none⟩) := by rw [Array.getD_eq_getD_getElem?, h15]; rfl
      have g16 : t1.getD 16 undef = .pointer (some ⟨g16, 0, none⟩) := by rw [Array.getD_eq_getD_getElem?, h16]; rfl
      rw [ef, HT]
      clear ef
      simp only [fillA, if_true, List.getD_cons_zero, List.getD_cons_succ, List.setIfInBounds_toArray, List.set_cons_zero, List.set_cons_succ, g15, g16]
      generalize t1.getD 62 undef = z62
      generalize t1.getD 63 undef = z63
      generalize t1.getD 64 undef = z64
      generalize t1.getD 65 undef = z65
      generalize t1.getD 66 undef = z66
      generalize t1.getD 67 undef = z67
      clear g15 g16 HT
      clear h4 h5 h6 h7 h8 h9 h10 h15 h16 q64 q67 v64 v67 b15 b16 r15 r16 n15_16 ltM hMB hM HS t1 t0 M
      go_wp2_with fail
      obtain ⟨M, hM⟩ : ∃ M, M = V7''.heap.size := ⟨_, rfl⟩
      have hMB : w.heap.size ≤ M := hM ▸ hS.1.size
      have ltM := hS.lt
      rw [← hM] at ltM
      refine hide_frame fun t0 HT => ?_
      have HS : t0.size = 125 := by rw [HT]; rfl
      have h4 : t0[4]? = some (.pointer (some ⟨(w.heap.size + 1 + 1), 0, none⟩)) := by rw [HT]; rfl
      have h5 : t0[5]? = some (.pointer (some ⟨gn, 0, none⟩)) := by rw [HT]; rfl
      have h6 : t0[6]? = some (.pointer (some ⟨g6, 0, none⟩)) := by rw [HT]; rfl
      have h7 : t0[7]? = some (.pointer (some ⟨g7, 0, none⟩)) := by rw [HT]; rfl
      have h8 : t0[8]? = some (.pointer (some ⟨g8, 0, none⟩)) := by rw [HT]; rfl
      have h9 : t0[9]? = some (.pointer (some ⟨g9, 0, none⟩)) := by rw [HT]; rfl
      have h10 : t0[10]? = some (.pointer (some ⟨g10, 0, none⟩)) := by rw [HT]; rfl
      have h15 : t0[15]? = some (.pointer (some ⟨g15, 0, none⟩)) := by rw [HT]; rfl
      have h16 : t0[16]? = some (.pointer (some ⟨g16, 0, none⟩)) := by rw [HT]; rfl
      refine wp_region_most 6 (fun i => [68, 69, 70, 71, 17, 18].getD i 0) (fun i => [none, none, none, none, some 5, some 5].getD i none) (fun i => [IsEl (u + v), IsEl ((u + v) * (u + v)), IsEl (u - v), IsEl ((u - v) * (u - v)), (fun _ => True), (fun _ => True)].getD i (fun _ => True)) (fun w' => Own w [(w.heap.size, 32, (· = .agg (vals Lk))), ((w.heap.size + 1), 32, (· = .agg (vals Lu))), ((w.heap.size + 1 + 1), 32, (fun _ => True)), (gn, 32, (· = .agg (vals (bytesN V)))), (g6, 5, IsEl x1), (g7, 5, IsEl u), (g8, 5, IsEl v), (g9, 5, IsEl xt), (g10, 5, IsEl zt), (g15, 5, IsEl (u + v)), (g16, 5, IsEl (u - v))] w' ∧ M ≤ w'.heap.size) M
        (by kernel_rfl) (by kernel_rfl) (slots_apart (by kernel_rfl)) (slots_lie (by rw [HS]; kernel_rfl)) ⟨hS.drew, Nat.le_of_eq hM⟩ (fun w' h => h.2) (fun w1 w2 h b => ⟨h.1.keep b, Nat.le_trans h.2 b.size⟩) ?_ ?_ ?_
      · clear hS
        intro i o hi ho hA
        have hc : i = 0 ∨ i = 1 ∨ i = 2 ∨ i = 3 ∨ i = 4 ∨ i = 5 := by omega
        rcases hc with rfl | rfl | rfl | rfl | rfl | rfl
        · obtain rfl := Option.some.inj ho
          refine ⟨rfl, fun a w' hS hold hin K hK => ?_⟩
          refine if_always rfl ?_
          exact op_ld_own 5 tElem (.tmp 15) rfl rfl _ (eval_tmp ((hold 15 (slots_not (by kernel_rfl))).trans h15)) hS.1 9 rfl hK
        · obtain rfl := Option.some.inj ho
          refine ⟨rfl, fun a w' hS hold hin K hK => ?_⟩
          obtain ⟨y0, x0, (v0 : IsEl (u + v) y0)⟩ := hin 0 rfl (by omega) rfl
          refine if_always rfl ?_
          exact op_fn1 _ _ _ _ rfl rfl (eval_tmp x0) (by intro args w; kernel_rfl) (square_el v0 _) hK
        · obtain rfl := Option.some.inj ho
          refine ⟨rfl, fun a w' hS hold hin K hK => ?_⟩
          refine if_always rfl ?_
          exact op_ld_own 5 tElem (.tmp 16) rfl rfl _ (eval_tmp ((hold 16 (slots_not (by kernel_rfl))).trans h16)) hS.1 10 rfl hK
        · obtain rfl := Option.some.inj ho
          refine ⟨rfl, fun a w' hS hold hin K hK => ?_⟩
          obtain ⟨y2, x2, (v2 : IsEl (u - v) y2)⟩ := hin 2 rfl (by omega) rfl
          refine if_always rfl ?_
          exact op_fn1 _ _ _ _ rfl rfl (eval_tmp x2) (by intro args w; kernel_rfl) (square_el v2 _) hK
        · cases hA
        · cases hA
      · intro i o sz hi ho hA
        have hc : i = 0 ∨ i = 1 ∨ i = 2 ∨ i = 3 ∨ i = 4 ∨ i = 5 := by omega
        rcases hc with rfl | rfl | rfl | rfl | rfl | rfl
        · cases hA
        · cases hA
        · cases hA
        · cases hA
        · obtain rfl := Option.some.inj ho
          obtain rfl := Option.some.inj hA
          exact ⟨rfl, rfl, 26, #[.int .u64 0, .int .u64 0, .int .u64 0, .int .u64 0, .int .u64 0], rfl, fun a w' K h => wp_new 26 #[.int .u64 0, .int .u64 0, .int .u64 0, .int .u64 0, .int .u64 0] (fun w => by kernel_rfl) h⟩
        · obtain rfl := Option.some.inj ho
          obtain rfl := Option.some.inj hA
          exact ⟨rfl, rfl, 26, #[.int .u64 0, .int .u64 0, .int .u64 0, .int .u64 0, .int .u64 0], rfl, fun a w' K h => wp_new 26 #[.int .u64 0, .int .u64 0, .int .u64 0, .int .u64 0, .int .u64 0] (fun w => by kernel_rfl) h⟩
      clear hS
      intro t1 V8 hs hold hout hall hne hS
      have ef := frame_fill 6 (fun i => [68, 69, 70, 71, 17, 18].getD i 0) hs hold (slots_apart (by kernel_rfl)) (slots_lie (by rw [HS]; kernel_rfl))
      replace HS := hs.trans HS
      replace hS := hS.1
      obtain ⟨g17, h17, b17, r17⟩ : ∃ g, t1[17]? = some (.pointer (some ⟨g, 0, none⟩)) ∧ M ≤ g ∧ ∃ cs ty, V8.heap[g]? = some (.cells cs ty (0, 0)) ∧ cs.size = 5 := by
        obtain ⟨g, p1, p2, ty, cs, p3, p4⟩ := hall 4 (by omega) 5 rfl
        exact ⟨g, p1, p2, cs, ty, p3, p4⟩
      obtain ⟨g18, h18, b18, r18⟩ : ∃ g, t1[18]? = some (.pointer (some ⟨g, 0, none⟩)) ∧ M ≤ g ∧ ∃ cs ty, V8.heap[g]? = some (.cells cs ty (0, 0)) ∧ cs.size = 5 := by
        obtain ⟨g, p1, p2, ty, cs, p3, p4⟩ := hall 5 (by omega) 5 rfl
        exact ⟨g, p1, p2, cs, ty, p3, p4⟩
      have n17_18 : g17 ≠ g18 := fun h => hne 4 5 (by omega) (by omega) (by omega) rfl rfl (show t1[17]? = t1[18]? by rw [h17, h18, h])
      replace hS : Own w [(w.heap.size, 32, (· = .agg (vals Lk))), ((w.heap.size + 1), 32, (· = .agg (vals Lu))), ((w.heap.size + 1 + 1), 32, (fun _ => True)), (gn, 32, (· = .agg (vals (bytesN V)))), (g6, 5, IsEl x1), (g7, 5, IsEl u), (g8, 5, IsEl v), (g9, 5, IsEl xt), (g10, 5, IsEl zt), (g15, 5, IsEl (u + v)), (g16, 5, IsEl (u - v)), (g17, 5, (fun _ => True))] V8 := hS.add (Nat.le_trans hMB b17) (fun r hr => Nat.ne_of_lt (Nat.lt_of_lt_of_le (ltM r hr) b17)) (Own.any r17)
      replace hS : Own w [(w.heap.size, 32, (· = .agg (vals Lk))), ((w.heap.size + 1), 32, (· = .agg (vals Lu))), ((w.heap.size + 1 + 1), 32, (fun _ => True)), (gn, 32, (· = .agg (vals (bytesN V)))), (g6, 5, IsEl x1), (g7, 5, IsEl u), (g8, 5, IsEl v), (g9, 5, IsEl xt), (g10, 5, IsEl zt), (g15, 5, IsEl (u + v)), (g16, 5, IsEl (u - v)), (g17, 5, (fun _ => True)), (g18, 5, (fun _ => True))] V8 := hS.add (Nat.le_trans hMB b18) (Own.ne_app (g1 := g17) (fun r hr => Nat.ne_of_lt (Nat.lt_of_lt_of_le (ltM r hr) b18)) n17_18) (Own.any r18)
      obtain ⟨x69, q69, v69⟩ : ∃ x, t1[69]? = some x ∧ (IsEl ((u + v) * (u + v))) x := hout 1 (by omega) rfl
      obtain ⟨x71, q71, v71⟩ : ∃ x, t1[71]? = some x ∧ (IsEl ((u - v) * (u - v))) x := hout 3 (by omega) rfl
      replace h4 := (hold 4 (slots_not (by kernel_rfl))).trans h4
      replace h5 := (hold 5 (slots_not (by kernel_rfl))).trans h5
      replace h6 := (hold 6 (slots_not (by kernel_rfl))).trans h6
      replace h7 := (hold 7 (slots_not (by kernel_rfl))).trans h7
      replace h8 := (hold 8 (slots_not (by kernel_rfl))).trans h8
      replace h9 := (hold 9 (slots_not (by kernel_rfl))).trans h9
      replace h10 := (hold 10 (slots_not (by kernel_rfl))).trans h10
      replace h15 := (hold 15 (slots_not (by kernel_rfl))).trans h15
      replace h16 := (hold 16 (slots_not (by kernel_rfl))).trans h16
      clear hold hout hs hall hne
      simp only [List.drop_succ_cons, List.drop_zero]
      refine st_own 5 tElem rfl (.tmp 17) (.tmp 69) rfl rfl _ _ (eval_tmp h17) (eval_tmp q69) (V' := IsEl ((u + v) * (u + v))) v69 (fun x hx => el_row hx) hS 11 rfl fun V8' hS' _ => ?_
      replace hS : Own w [(w.heap.size, 32, (· = .agg (vals Lk))), ((w.heap.size + 1), 32, (· = .agg (vals Lu))), ((w.heap.size + 1 + 1), 32, (fun _ => True)), (gn, 32, (· = .agg (vals (bytesN V)))), (g6, 5, IsEl x1), (g7, 5, IsEl u), (g8, 5, IsEl v), (g9, 5, IsEl xt), (g10, 5, IsEl zt), (g15, 5, IsEl (u + v)), (g16, 5, IsEl (u - v)), (g17, 5, IsEl ((u + v) * (u + v))), (g18, 5, (fun _ => True))] V8' := hS'
      clear hS'
      refine st_own 5 tElem rfl (.tmp 18) (.tmp 71) rfl rfl _ _ (eval_tmp h18) (eval_tmp q71) (V' := IsEl ((u - v) * (u - v))) v71 (fun x hx => el_row hx) hS 12 rfl fun V8'' hS' _ => ?_
      replace hS : Own w [(w.heap.size, 32, (· = .agg (vals Lk))), ((w.heap.size + 1), 32, (· = .agg (vals Lu))), ((w.heap.size + 1 + 1), 32, (fun _ => True)), (gn, 32, (· = .agg (vals (bytesN V)))), (g6, 5, IsEl x1), (g7, 5, IsEl u), (g8, 5, IsEl v), (g9, 5, IsEl xt), (g10, 5, IsEl zt), (g15, 5, IsEl (u + v)), (g16, 5, IsEl (u - v)), (g17, 5, IsEl ((u + v) * (u + v))), (g18, 5, IsEl ((u - v) * (u - v)))] V8'' := hS'
      clear hS'
      refine wpList_nil ?_
      have g17 : t1.getD 17 undef = .pointer (some ⟨g17, 0, none⟩) := by rw [Array.getD_eq_getD_getElem?, h17]; rfl
      have g18 : t1.getD 18 undef = .pointer (some ⟨g18, 0, none⟩) := by rw [Array.getD_eq_getD_getElem?, h18]; rfl
      rw [ef, HT]
      clear ef
      simp only [fillA, if_true, List.getD_cons_zero, List.getD_cons_succ, List.setIfInBounds_toArray, List.set_cons_zero, List.set_cons_succ, g17, g18]
      generalize t1.getD 68 undef = z68
      generalize t1.getD 69 undef = z69
      generalize t1.getD 70 undef = z70
      generalize t1.getD 71 undef = z71
      clear g17 g18 HT
      clear h4 h5 h6 h7 h8 h9 h10 h15 h16 h17 h18 q69 q71 v69 v71 b17 b18 r17 r18 n17_18 ltM hMB hM HS t1 t0 M
      go_wp2_with fail
      obtain ⟨M, hM⟩ : ∃ M, M = V8''.heap.size := ⟨_, rfl⟩
      have hMB : w.heap.size ≤ M := hM ▸ hS.1.size
      have ltM := hS.lt
      rw [← hM] at ltM
      refine hide_frame fun t0 HT => ?_
      have HS : t0.size = 125 := by rw [HT]; rfl
      have h4 : t0[4]? = some (.pointer (some ⟨(w.heap.size + 1 + 1), 0, none⟩)) := by rw [HT]; rfl
      have h5 : t0[5]? = some (.pointer (some ⟨gn, 0, none⟩)) := by rw [HT]; rfl
      have h6 : t0[6]? = some (.pointer (some ⟨g6, 0, none⟩)) := by rw [HT]; rfl
      have h7 : t0[7]? = some (.pointer (some ⟨g7, 0, none⟩)) := by rw [HT]; rfl
      have h8 : t0[8]? = some (.pointer (some ⟨g8, 0, none⟩)) := by rw [HT]; rfl
      have h9 : t0[9]? = some (.pointer (some ⟨g9, 0, none⟩)) := by rw [HT]; rfl
      have h10 : t0[10]? = some (.pointer (some ⟨g10, 0, none⟩)) := by rw [HT]; rfl
      have h15 : t0[15]? = some (.pointer (some ⟨g15, 0, none⟩)) := by rw [HT]; rfl
      have h16 : t0[16]? = some (.pointer (some ⟨g16, 0, none⟩)) := by rw [HT]; rfl
      have h17 : t0[17]? = some (.pointer (some ⟨g17, 0, none⟩)) := by rw [HT]; rfl
      have h18 : t0[18]? = some (.pointer (some ⟨g18, 0, none⟩)) := by rw [HT]; rfl
      refine wp_region_most 12 (fun i => [72, 73, 74, 75, 76, 77, 78, 79, 80, 81, 19, 20].getD i 0) (fun i => [none, none, none, none, none, none, none, none, none, none, some 5, some 5].getD i none) (fun i => [IsEl xt, IsEl zt, IsEl (xt - zt), IsEl (u + v), IsEl ((xt - zt) * (u + v)), IsEl xt, IsEl zt, IsEl (xt + zt), IsEl (u - v), IsEl ((xt + zt) * (u - v)), (fun _ => True), (fun _ => True)].getD i (fun _ => True)) (fun w' => Own w [(w.heap.size, 32, (· = .agg (vals Lk))), ((w.heap.size + 1), 32, (· = .agg (vals Lu))), ((w.heap.size + 1 + 1), 32, (fun _ => True)), (gn, 32, (· = .agg (vals (bytesN V)))), (g6, 5, IsEl x1), (g7, 5, IsEl u), (g8, 5, IsEl v), (g9, 5, IsEl xt), (g10, 5, IsEl zt), (g15, 5, IsEl (u + v)), (g16, 5, IsEl (u - v)), (g17, 5, IsEl ((u + v) * (u + v))), (g18, 5, IsEl ((u - v) * (u - v)))] w' ∧ M ≤ w'.heap.size) M
        (by kernel_rfl) (by kernel_rfl) (slots_apart (by kernel_rfl)) (slots_lie (by rw [HS]; kernel_rfl)) ⟨hS.drew, Nat.le_of_eq hM⟩ (fun w' h => h.2) (fun w1 w2 h b => ⟨h.1.keep b, Nat.le_trans h.2 b.size⟩) ?_ ?_ ?_
      · clear hS
        intro i o hi ho hA
        have hc : i = 0 ∨ i = 1 ∨ i = 2 ∨ i = 3 ∨ i = 4 ∨ i = 5 ∨ i = 6 ∨ i = 7 ∨ i = 8 ∨ i = 9 ∨ i = 10 ∨ i = 11 := by omega
        rcases hc with rfl | rfl | rfl | rfl | rfl | rfl | rfl | rfl | rfl | rfl | rfl | rfl
        · obtain rfl := Option.some.inj ho
          refine ⟨rfl, fun a w' hS hold hin K hK => ?_⟩
          refine if_always rfl ?_
          exact op_ld_own 5 tElem (.tmp 9) rfl rfl _ (eval_tmp ((hold 9 (slots_not (by kernel_rfl))).trans h9)) hS.1 7 rfl hK
        · obtain rfl := Option.some.inj ho
          refine ⟨rfl, fun a w' hS hold hin K hK => ?_⟩
          refine if_always rfl ?_
          exact op_ld_own 5 tElem (.tmp 10) rfl rfl _ (eval_tmp ((hold 10 (slots_not (by kernel_rfl))).trans h10)) hS.1 8 rfl hK
        · obtain rfl := Option.some.inj ho
          refine ⟨rfl, fun a w' hS hold hin K hK => ?_⟩
          obtain ⟨y0, x0, (v0 : IsEl xt y0)⟩ := hin 0 rfl (by omega) rfl
          obtain ⟨y1, x1, (v1 : IsEl zt y1)⟩ := hin 1 rfl (by omega) rfl
          refine if_always rfl ?_
          exact op_fn2 _ _ _ _ _ _ rfl rfl (eval_tmp x0) (eval_tmp x1) (by intro args w; kernel_rfl) (sub_el v0 v1 _) hK
        · obtain rfl := Option.some.inj ho
          refine ⟨rfl, fun a w' hS hold hin K hK => ?_⟩
          refine if_always rfl ?_
          exact op_ld_own 5 tElem (.tmp 15) rfl rfl _ (eval_tmp ((hold 15 (slots_not (by kernel_rfl))).trans h15)) hS.1 9 rfl hK
        · obtain rfl := Option.some.inj ho
          refine ⟨rfl, fun a w' hS hold hin K hK => ?_⟩
          obtain ⟨y2, x2, (v2 : IsEl (xt - zt) y2)⟩ := hin 2 rfl (by omega) rfl
          obtain ⟨y3, x3, (v3 : IsEl (u + v) y3)⟩ := hin 3 rfl (by omega) rfl
          refine if_always rfl ?_
          exact op_fn2 _ _ _ _ _ _ rfl rfl (eval_tmp x2) (eval_tmp x3) (by intro args w; kernel_rfl) (mul_el v2 v3 _) hK
        · obtain rfl := Option.some.inj ho
          refine ⟨rfl, fun a w' hS hold hin K hK => ?_⟩
          refine if_always rfl ?_
          exact op_ld_own 5 tElem (.tmp 9) rfl rfl _ (eval_tmp ((hold 9 (slots_not (by kernel_rfl))).trans h9)) hS.1 7 rfl hK
        · obtain rfl := Option.some.inj ho
          refine ⟨rfl, fun a w' hS hold hin K hK => ?_⟩
          refine if_always rfl ?_
          exact op_ld_own 5 tElem (.tmp 10) rfl rfl _ (eval_tmp ((hold 10 (slots_not (by kernel_rfl))).trans h10)) hS.1 8 rfl hK
        · obtain rfl := Option.some.inj ho
          refine ⟨rfl, fun a w' hS hold hin K hK => ?_⟩
          obtain ⟨y5, x5, (v5 : IsEl xt y5)⟩ := hin 5 rfl (by omega) rfl
          obtain ⟨y6, x6, (v6 : IsEl zt y6)⟩ := hin 6 rfl (by omega) rfl
          refine if_always rfl ?_
          exact op_fn2 _ _ _ _ _ _ rfl rfl (eval_tmp x5) (eval_tmp x6) (by intro args w; kernel_rfl) (add_el v5 v6 _) hK
        · obtain rfl := Option.some.inj ho
          refine ⟨rfl, fun a w' hS hold hin K hK => ?_⟩
          refine if_always rfl ?_
          exact op_ld_own 5 tElem (.tmp 16) rfl rfl _ (eval_tmp ((hold 16 (slots_not (by kernel_rfl))).trans h16)) hS.1 10 rfl hK
        · obtain rfl := Option.some.inj ho
          refine ⟨rfl, fun a w' hS hold hin K hK => ?_⟩
          obtain ⟨y7, x7, (v7 : IsEl (xt + zt) y7)⟩ := hin 7 rfl (by omega) rfl
          obtain ⟨y8, x8, (v8 : IsEl (u - v) y8)⟩ := hin 8 rfl (by omega) rfl
          refine if_always rfl ?_
          exact op_fn2 _ _ _ _ _ _ rfl rfl (eval_tmp x7) (eval_tmp x8) (by intro args w; kernel_rfl) (mul_el v7 v8 _) hK
        · cases hA
        · cases hA
      · intro i o sz hi ho hA
        have hc : i = 0 ∨ i = 1 ∨ i = 2 ∨ i = 3 ∨ i = 4 ∨ i = 5 ∨ i = 6 ∨ i = 7 ∨ i = 8 ∨ i = 9 ∨ i = 10 ∨ i = 11 := by omega
        rcases hc with rfl | rfl | rfl | rfl | rfl | rfl | rfl | rfl | rfl | rfl | rfl | rfl
        · cases hA
        · cases hA
        · cases hA
        · cases hA
        · cases hA
        · cases hA
        · cases hA
        · cases hA
        · cases hA
        · cases hA
        · obtain rfl := Option.some.inj ho
          obtain rfl := Option.some.inj hA
          exact ⟨rfl, rfl, 26, #[.int .u64 0, .int .u64 0, .int .u64 0, .int .u64 0, .int .u64 0], rfl, fun a w' K h => wp_new 26 #[.int .u64 0, .int .u64 0, .int .u64 0, .int .u64 0, .int .u64 0] (fun w => by kernel_rfl) h⟩
        · obtain rfl := Option.some.inj ho
          obtain rfl := Option.some.inj hA
          exact ⟨rfl, rfl, 26, #[.int .u64 0, .int .u64 0, .int .u64 0, .int .u64 0, .int .u64 0], rfl, fun a w' K h => wp_new 26 #[.int .u64 0, .int .u64 0, .int .u64 0, .int .u64 0, .int .u64 0] (fun w => by kernel_rfl) h⟩
      clear hS
      intro t1 V9 hs hold hout hall hne hS
      have ef := frame_fill 12 (fun i => [72, 73, 74, 75, 76, 77, 78, 79, 80, 81, 19, 20].getD i 0) hs hold (slots_apart (by kernel_rfl)) (slots_lie (by rw [HS]; kernel_rfl))
      replace HS := hs.trans HS
      replace hS := hS.1
      obtain ⟨g19, h19, b19, r19⟩ : ∃ g, t1[19]? = some (.pointer (some ⟨g, 0, none⟩)) ∧ M ≤ g ∧ ∃ cs ty, V9.heap[g]? = some (.cells cs ty (0, 0)) ∧ cs.size = 5 := by
        obtain ⟨g, p1, p2, ty, cs, p3, p4⟩ := hall 10 (by omega) 5 rfl
        exact ⟨g, p1, p2, cs, ty, p3, p4⟩
      obtain ⟨g20, h20, b20, r20⟩ : ∃ g, t1[20]? = some (.pointer (some ⟨g, 0, none⟩)) ∧ M ≤ g ∧ ∃ cs ty, V9.heap[g]? = some (.cells cs ty (0, 0)) ∧ cs.size = 5 := by
        obtain ⟨g, p1, p2, ty, cs, p3, p4⟩ := hall 11 (by omega) 5 rfl
        exact ⟨g, p1, p2, cs, ty, p3, p4⟩
      have n19_20 : g19 ≠ g20 := fun h => hne 10 11 (by omega) (by omega) (by omega) rfl rfl (show t1[19]? = t1[20]? by rw [h19, h20, h])
      replace hS : Own w [(w.heap.size, 32, (· = .agg (vals Lk))), ((w.heap.size + 1), 32, (· = .agg (vals Lu))), ((w.heap.size + 1 + 1), 32, (fun _ => True)), (gn, 32, (· = .agg (vals (bytesN V)))), (g6, 5, IsEl x1), (g7, 5, IsEl u), (g8, 5, IsEl v), (g9, 5, IsEl xt), (g10, 5, IsEl zt), (g15, 5, IsEl (u + v)), (g16, 5, IsEl (u - v)), (g17, 5, IsEl ((u + v) * (u + v))), (g18, 5, IsEl ((u - v) * (u - v))), (g19, 5, (fun _ => True))] V9 := hS.add (Nat.le_trans hMB b19) (fun r hr => Nat.ne_of_lt (Nat.lt_of_lt_of_le (ltM r hr) b19)) (Own.any r19)
      replace hS : Own w [(w.heap.size, 32, (· = .agg (vals Lk))), ((w.heap.size + 1), 32, (· = .agg (vals Lu))), ((w.heap.size + 1 + 1), 32, (fun _ => True)), (gn, 32, (· = .agg (vals (bytesN V)))), (g6, 5, IsEl x1), (g7, 5, IsEl u), (g8, 5, IsEl v), (g9, 5, IsEl xt), (g10, 5, IsEl zt), (g15, 5, IsEl (u + v)), (g16, 5, IsEl (u - v)), (g17, 5, IsEl ((u + v) * (u + v))), (g18, 5, IsEl ((u - v) * (u - v))), (g19, 5, (fun _ => True)), (g20, 5, (fun _ => True))] V9 := hS.add (Nat.le_trans hMB b20) (Own.ne_app (g1 := g19) (fun r hr => Nat.ne_of_lt (Nat.lt_of_lt_of_le (ltM r hr) b20)) n19_20) (Own.any r20)
      obtain ⟨x76, q76, v76⟩ : ∃ x, t1[76]? = some x ∧ (IsEl ((xt - zt) * (u + v))) x := hout 4 (by omega) rfl
      obtain ⟨x81, q81, v81⟩ : ∃ x, t1[81]? = some x ∧ (IsEl ((xt + zt) * (u - v))) x := hout 9 (by omega) rfl
      replace h4 := (hold 4 (slots_not (by kernel_rfl))).trans h4
      replace h5 := (hold 5 (slots_not (by kernel_rfl))).trans h5
      replace h6 := (hold 6 (slots_not (by kernel_rfl))).trans h6
      replace h7 := (hold 7 (slots_not (by kernel_rfl))).trans h7
      replace h8 := (hold 8 (slots_not (by kernel_rfl))).trans h8
      replace h9 := (hold 9 (slots_not (by kernel_rfl))).trans h9
      replace h10 := (hold 10 (slots_not (by kernel_rfl))).trans h10
      replace h15 := (hold 15 (slots_not (by kernel_rfl))).trans h15
      replace h16 := (hold 16 (slots_not (by kernel_rfl))).trans h16
      replace h17 := (hold 17 (slots_not (by kernel_rfl))).trans h17
      replace h18 := (hold 18 (slots_not (by kernel_rfl))).trans h18
      clear hold hout hs hall hne
      simp only [List.drop_succ_cons, List.drop_zero]
      refine st_own 5 tElem rfl (.tmp 19) (.tmp 76) rfl rfl _ _ (eval_tmp h19) (eval_tmp q76) (V' := IsEl ((xt - zt) * (u + v))) v76 (fun x hx => el_row hx) hS 13 rfl fun V9' hS' _ => ?_
      replace hS : Own w [(w.heap.size, 32, (· = .agg (vals Lk))), ((w.heap.size + 1), 32, (· = .agg (vals Lu))), ((w.heap.size + 1 + 1), 32, (fun _ => True)), (gn, 32, (· = .agg (vals (bytesN V)))), (g6, 5, IsEl x1), (g7, 5, IsEl u), (g8, 5, IsEl v), (g9, 5, IsEl xt), (g10, 5, IsEl zt), (g15, 5, IsEl (u + v)), (g16, 5, IsEl (u - v)), (g17, 5, IsEl ((u + v) * (u + v))), (g18, 5, IsEl ((u - v) * (u - v))), (g19, 5, IsEl ((xt - zt) * (u + v))), (g20, 5, (fun _ => True))] V9' := hS'
      clear hS'
      refine st_own 5 tElem rfl (.tmp 20) (.tmp 81) rfl rfl _ _ (eval_tmp h20) (eval_tmp q81) (V' := IsEl ((xt + zt) * (u - v))) v81 (fun x hx => el_row hx) hS 14 rfl fun V9'' hS' _ => ?_
      replace hS : Own w [(w.heap.size, 32, (· = .agg (vals Lk))), ((w.heap.size + 1), 32, (· = .agg (vals Lu))), ((w.heap.size + 1 + 1), 32, (fun _ => True)), (gn, 32, (· = .agg (vals (bytesN V)))), (g6, 5, IsEl x1), (g7, 5, IsEl u), (g8, 5, IsEl v), (g9, 5, IsEl xt), (g10, 5, IsEl zt), (g15, 5, IsEl (u + v)), (g16, 5, IsEl (u - v)), (g17, 5, IsEl ((u + v) * (u + v))), (g18, 5, IsEl ((u - v) * (u - v))), (g19, 5, IsEl ((xt - zt) * (u + v))), (g20, 5, IsEl ((xt + zt) * (u - v)))] V9'' := hS'
      clear hS'
      refine wpList_nil ?_
      have g19 : t1.getD 19 undef = .pointer (some ⟨g19, 0, none⟩) := by rw [Array.getD_eq_getD_getElem?, h19]; rfl
      have g20 : t1.getD 20 undef = .pointer (some ⟨g20, 0, none⟩) := by rw [Array.getD_eq_getD_getElem?, h20]; rfl
      rw [ef, HT]
      clear ef
      simp only [fillA, if_true, List.getD_cons_zero, List.getD_cons_succ, List.setIfInBounds_toArray, List.set_cons_zero, List.set_cons_succ, g19, g20]
      generalize t1.getD 72 undef = z72
      generalize t1.getD 73 undef = z73
      generalize t1.getD 74 undef = z74
      generalize t1.getD 75 undef = z75
      generalize t1.getD 76 undef = z76
      generalize t1.getD 77 undef = z77
      generalize t1.getD 78 undef = z78
      generalize t1.getD 79 undef = z79
      generalize t1.getD 80 undef = z80
      generalize t1.getD 81 undef = z81
      clear g19 g20 HT
      clear h4 h5 h6 h7 h8 h9 h10 h15 h16 h17 h18 h19 h20 q76 q81 v76 v81 b19 b20 r19 r20 n19_20 ltM hMB hM HS t1 t0 M
      go_wp2_with ((with_reducible refine guard_list ?_); first | (refine held_load 26 _ rfl ?_) | (refine held_load 22 _ rfl ?_) | (refine held_load 68 _ rfl ?_))
      obtain ⟨M, hM⟩ : ∃ M, M = V9''.heap.size := ⟨_, rfl⟩
      have hMB : w.heap.size ≤ M := hM ▸ hS.1.size
      have ltM := hS.lt
      rw [← hM] at ltM
      refine hide_held fun t0 HT => ?_
      have HS : t0.size = 125 := by rw [HT]; rfl
      have h4 : t0[4]? = some (.pointer (some ⟨(w.heap.size + 1 + 1), 0, none⟩)) := by rw [HT]; rfl
      have h5 : t0[5]? = some (.pointer (some ⟨gn, 0, none⟩)) := by rw [HT]; rfl
      have h6 : t0[6]? = some (.pointer (some ⟨g6, 0, none⟩)) := by rw [HT]; rfl
      have h7 : t0[7]? = some (.pointer (some ⟨g7, 0, none⟩)) := by rw [HT]; rfl
      have h8 : t0[8]? = some (.pointer (some ⟨g8, 0, none⟩)) := by rw [HT]; rfl
      have h9 : t0[9]? = some (.pointer (some ⟨g9, 0, none⟩)) := by rw [HT]; rfl
      have h10 : t0[10]? = some (.pointer (some ⟨g10, 0, none⟩)) := by rw [HT]; rfl
      have h15 : t0[15]? = some (.pointer (some ⟨g15, 0, none⟩)) := by rw [HT]; rfl
      have h16 : t0[16]? = some (.pointer (some ⟨g16, 0, none⟩)) := by rw [HT]; rfl
      have h17 : t0[17]? = some (.pointer (some ⟨g17, 0, none⟩)) := by rw [HT]; rfl
      have h18 : t0[18]? = some (.pointer (some ⟨g18, 0, none⟩)) := by rw [HT]; rfl
      have h19 : t0[19]? = some (.pointer (some ⟨g19, 0, none⟩)) := by rw [HT]; rfl
      have h20 : t0[20]? = some (.pointer (some ⟨g20, 0, none⟩)) := by rw [HT]; rfl
      refine wp_list_most 4 (fun i => [82, 83, 84, 21].getD i 0) (fun i => [none, none, none, some 5].getD i none) (fun i => [IsEl ((u + v) * (u + v)), IsEl ((u - v) * (u - v)), IsEl (((u + v) * (u + v)) - ((u - v) * (u - v))), (fun _ => True)].getD i (fun _ => True)) (fun w' => Own w [(w.heap.size, 32, (· = .agg (vals Lk))), ((w.heap.size + 1), 32, (· = .agg (vals Lu))), ((w.heap.size + 1 + 1), 32, (fun _ => True)), (gn, 32, (· = .agg (vals (bytesN V)))), (g6, 5, IsEl x1), (g7, 5, IsEl u), (g8, 5, IsEl v), (g9, 5, IsEl xt), (g10, 5, IsEl zt), (g15, 5, IsEl (u + v)), (g16, 5, IsEl (u - v)), (g17, 5, IsEl ((u + v) * (u + v))), (g18, 5, IsEl ((u - v) * (u - v))), (g19, 5, IsEl ((xt - zt) * (u + v))), (g20, 5, IsEl ((xt + zt) * (u - v)))] w' ∧ M ≤ w'.heap.size) M
        (by kernel_rfl) (slots_apart (by kernel_rfl)) (slots_lie (by rw [HS]; kernel_rfl)) ⟨hS, Nat.le_of_eq hM⟩ (fun w' h => h.2) (fun w1 w2 h b => ⟨h.1.keep b, Nat.le_trans h.2 b.size⟩) ?_ ?_ ?_
      · clear hS
        intro i o hi ho hA
        have hc : i = 0 ∨ i = 1 ∨ i = 2 ∨ i = 3 := by omega
        rcases hc with rfl | rfl | rfl | rfl
        · obtain rfl := Option.some.inj ho
          refine ⟨rfl, fun a w' hS hold hin K hK => ?_⟩
          refine if_always rfl ?_
          exact op_ld_own 5 tElem (.tmp 17) rfl rfl _ (eval_tmp ((hold 17 (slots_not (by kernel_rfl))).trans h17)) hS.1 11 rfl hK
        · obtain rfl := Option.some.inj ho
          refine ⟨rfl, fun a w' hS hold hin K hK => ?_⟩
          refine if_always rfl ?_
          exact op_ld_own 5 tElem (.tmp 18) rfl rfl _ (eval_tmp ((hold 18 (slots_not (by kernel_rfl))).trans h18)) hS.1 12 rfl hK
        · obtain rfl := Option.some.inj ho
          refine ⟨rfl, fun a w' hS hold hin K hK => ?_⟩
          obtain ⟨y0, x0, (v0 : IsEl ((u + v) * (u + v)) y0)⟩ := hin 0 rfl (by omega) rfl
          obtain ⟨y1, x1, (v1 : IsEl ((u - v) * (u - v)) y1)⟩ := hin 1 rfl (by omega) rfl
          refine if_always rfl ?_
          exact op_fn2 _ _ _ _ _ _ rfl rfl (eval_tmp x0) (eval_tmp x1) (by intro args w; kernel_rfl) (sub_el v0 v1 _) hK
        · cases hA
      · intro i o sz hi ho hA
        have hc : i = 0 ∨ i = 1 ∨ i = 2 ∨ i = 3 := by omega
        rcases hc with rfl | rfl | rfl | rfl
        · cases hA
        · cases hA
        · cases hA
        · obtain rfl := Option.some.inj ho
          obtain rfl := Option.some.inj hA
          exact ⟨rfl, rfl, 26, #[.int .u64 0, .int .u64 0, .int .u64 0, .int .u64 0, .int .u64 0], rfl, fun a w' K h => wp_new 26 #[.int .u64 0, .int .u64 0, .int .u64 0, .int .u64 0, .int .u64 0] (fun w => by kernel_rfl) h⟩
      clear hS
      intro t1 V10 hs hold hout hall hne hS
      have ef := frame_fill 4 (fun i => [82, 83, 84, 21].getD i 0) hs hold (slots_apart (by kernel_rfl)) (slots_lie (by rw [HS]; kernel_rfl))
      replace HS := hs.trans HS
      replace hS := hS.1
      obtain ⟨g21, h21, b21, r21⟩ : ∃ g, t1[21]? = some (.pointer (some ⟨g, 0, none⟩)) ∧ M ≤ g ∧ ∃ cs ty, V10.heap[g]? = some (.cells cs ty (0, 0)) ∧ cs.size = 5 := by
        obtain ⟨g, p1, p2, ty, cs, p3, p4⟩ := hall 3 (by omega) 5 rfl
        exact ⟨g, p1, p2, cs, ty, p3, p4⟩
      replace hS : Own w [(w.heap.size, 32, (· = .agg (vals Lk))), ((w.heap.size + 1), 32, (· = .agg (vals Lu))), ((w.heap.size + 1 + 1), 32, (fun _ => True)), (gn, 32, (· = .agg (vals (bytesN V)))), (g6, 5, IsEl x1), (g7, 5, IsEl u), (g8, 5, IsEl v), (g9, 5, IsEl xt), (g10, 5, IsEl zt), (g15, 5, IsEl (u + v)), (g16, 5, IsEl (u - v)), (g17, 5, IsEl ((u + v) * (u + v))), (g18, 5, IsEl ((u - v) * (u - v))), (g19, 5, IsEl ((xt - zt) * (u + v))), (g20, 5, IsEl ((xt + zt) * (u - v))), (g21, 5, (fun _ => True))] V10 := hS.add (Nat.le_trans hMB b21) (fun r hr => Nat.ne_of_lt (Nat.lt_of_lt_of_le (ltM r hr) b21)) (Own.any r21)
      obtain ⟨x84, q84, v84⟩ : ∃ x, t1[84]? = some x ∧ (IsEl (((u + v) * (u + v)) - ((u - v) * (u - v)))) x := hout 2 (by omega) rfl
      replace h4 := (hold 4 (slots_not (by kernel_rfl))).trans h4
      replace h5 := (hold 5 (slots_not (by kernel_rfl))).trans h5
      replace h6 := (hold 6 (slots_not (by kernel_rfl))).trans h6
      replace h7 := (hold 7 (slots_not (by kernel_rfl))).trans h7
      replace h8 := (hold 8 (slots_not (by kernel_rfl))).trans h8
      replace h9 := (hold 9 (slots_not (by kernel_rfl))).trans h9
      replace h10 := (hold 10 (slots_not (by kernel_rfl))).trans h10
      replace h15 := (hold 15 (slots_not (by kernel_rfl))).trans h15
      replace h16 := (hold 16 (slots_not (by kernel_rfl))).trans h16
      replace h17 := (hold 17 (slots_not (by kernel_rfl))).trans h17
      replace h18 := (hold 18 (slots_not (by kernel_rfl))).trans h18
      replace h19 := (hold 19 (slots_not (by kernel_rfl))).trans h19
      replace h20 := (hold 20 (slots_not (by kernel_rfl))).trans h20
      clear hold hout hs hall hne
      simp only [List.drop_succ_cons, List.drop_zero]
      refine st_own 5 tElem rfl (.tmp 21) (.tmp 84) rfl rfl _ _ (eval_tmp h21) (eval_tmp q84) (V' := IsEl (((u + v) * (u + v)) - ((u - v) * (u - v)))) v84 (fun x hx => el_row hx) hS 15 rfl fun V10' hS' _ => ?_
      replace hS : Own w [(w.heap.size, 32, (· = .agg (vals Lk))), ((w.heap.size + 1), 32, (· = .agg (vals Lu))), ((w.heap.size + 1 + 1), 32, (fun _ => True)), (gn, 32, (· = .agg (vals (bytesN V)))), (g6, 5, IsEl x1), (g7, 5, IsEl u), (g8, 5, IsEl v), (g9, 5, IsEl xt), (g10, 5, IsEl zt), (g15, 5, IsEl (u + v)), (g16, 5, IsEl (u - v)), (g17, 5, IsEl ((u + v) * (u + v))), (g18, 5, IsEl ((u - v) * (u - v))), (g19, 5, IsEl ((xt - zt) * (u + v))), (g20, 5, IsEl ((xt + zt) * (u - v))), (g21, 5, IsEl (((u + v) * (u + v)) - ((u - v) * (u - v))))] V10' := hS'
      clear hS'
      refine wpList_nil ?_
      have g21 : t1.getD 21 undef = .pointer (some ⟨g21, 0, none⟩) := by rw [Array.getD_eq_getD_getElem?, h21]; rfl
      rw [ef, HT]
      clear ef
      simp only [fillA, if_true, List.getD_cons_zero, List.getD_cons_succ, List.setIfInBounds_toArray, List.set_cons_zero, List.set_cons_succ, g21]
      generalize t1.getD 82 undef = z82
      generalize t1.getD 83 undef = z83
      generalize t1.getD 84 undef = z84
      clear g21 HT
      clear h4 h5 h6 h7 h8 h9 h10 h15 h16 h17 h18 h19 h20 h21 q84 v84 b21 r21 ltM hMB hM HS t1 t0 M
      go_wp2_with ((with_reducible refine guard_list ?_); first | (refine held_load 26 _ rfl ?_) | (refine held_load 22 _ rfl ?_) | (refine held_load 68 _ rfl ?_))
      obtain ⟨M, hM⟩ : ∃ M, M = V10'.heap.size := ⟨_, rfl⟩
      refine hide_held fun t0 HT => ?_
      have HS : t0.size = 125 := by rw [HT]; rfl
      have h4 : t0[4]? = some (.pointer (some ⟨(w.heap.size + 1 + 1), 0, none⟩)) := by rw [HT]; rfl
      have h5 : t0[5]? = some (.pointer (some ⟨gn, 0, none⟩)) := by rw [HT]; rfl
      have h6 : t0[6]? = some (.pointer (some ⟨g6, 0, none⟩)) := by rw [HT]; rfl
      have h7 : t0[7]? = some (.pointer (some ⟨g7, 0, none⟩)) := by rw [HT]; rfl
      have h8 : t0[8]? = some (.pointer (some ⟨g8, 0, none⟩)) := by rw [HT]; rfl
      have h9 : t0[9]? = some (.pointer (some ⟨g9, 0, none⟩)) := by rw [HT]; rfl
      have h10 : t0[10]? = some (.pointer (some ⟨g10, 0, none⟩)) := by rw [HT]; rfl
      have h15 : t0[15]? = some (.pointer (some ⟨g15, 0, none⟩)) := by rw [HT]; rfl
      have h16 : t0[16]? = some (.pointer (some ⟨g16, 0, none⟩)) := by rw [HT]; rfl
      have h17 : t0[17]? = some (.pointer (some ⟨g17, 0, none⟩)) := by rw [HT]; rfl
      have h18 : t0[18]? = some (.pointer (some ⟨g18, 0, none⟩)) := by rw [HT]; rfl
      have h19 : t0[19]? = some (.pointer (some ⟨g19, 0, none⟩)) := by rw [HT]; rfl
      have h20 : t0[20]? = some (.pointer (some ⟨g20, 0, none⟩)) := by rw [HT]; rfl
      have h21 : t0[21]? = some (.pointer (some ⟨g21, 0, none⟩)) := by rw [HT]; rfl
      refine wp_list_most 4 (fun i => [85, 86, 87, 88].getD i 0) (fun _ => none) (fun i => [IsEl ((xt - zt) * (u + v)), IsEl ((xt + zt) * (u - v)), IsEl (((xt - zt) * (u + v)) + ((xt + zt) * (u - v))), IsEl ((((xt - zt) * (u + v)) + ((xt + zt) * (u - v))) * (((xt - zt) * (u + v)) + ((xt + zt) * (u - v))))].getD i (fun _ => True)) (fun w' => Own w [(w.heap.size, 32, (· = .agg (vals Lk))), ((w.heap.size + 1), 32, (· = .agg (vals Lu))), ((w.heap.size + 1 + 1), 32, (fun _ => True)), (gn, 32, (· = .agg (vals (bytesN V)))), (g6, 5, IsEl x1), (g7, 5, IsEl u), (g8, 5, IsEl v), (g9, 5, IsEl xt), (g10, 5, IsEl zt), (g15, 5, IsEl (u + v)), (g16, 5, IsEl (u - v)), (g17, 5, IsEl ((u + v) * (u + v))), (g18, 5, IsEl ((u - v) * (u - v))), (g19, 5, IsEl ((xt - zt) * (u + v))), (g20, 5, IsEl ((xt + zt) * (u - v))), (g21, 5, IsEl (((u + v) * (u + v)) - ((u - v) * (u - v))))] w' ∧ M ≤ w'.heap.size) M
        (by kernel_rfl) (slots_apart (by kernel_rfl)) (slots_lie (by rw [HS]; kernel_rfl)) ⟨hS, Nat.le_of_eq hM⟩ (fun w' h => h.2) (fun w1 w2 h b => ⟨h.1.keep b, Nat.le_trans h.2 b.size⟩) ?_ ?_ ?_
      · clear hS
        intro i o hi ho hA
        have hc : i = 0 ∨ i = 1 ∨ i = 2 ∨ i = 3 := by omega
        rcases hc with rfl | rfl | rfl | rfl
        · obtain rfl := Option.some.inj ho
          refine ⟨rfl, fun a w' hS hold hin K hK => ?_⟩
          refine if_always rfl ?_
          exact op_ld_own 5 tElem (.tmp 19) rfl rfl _ (eval_tmp ((hold 19 (slots_not (by kernel_rfl))).trans h19)) hS.1 13 rfl hK
        · obtain rfl := Option.some.inj ho
          refine ⟨rfl, fun a w' hS hold hin K hK => ?_⟩
          refine if_always rfl ?_
          exact op_ld_own 5 tElem (.tmp 20) rfl rfl _ (eval_tmp ((hold 20 (slots_not (by kernel_rfl))).trans h20)) hS.1 14 rfl hK
        · obtain rfl := Option.some.inj ho
          refine ⟨rfl, fun a w' hS hold hin K hK => ?_⟩
          obtain ⟨y0, x0, (v0 : IsEl ((xt - zt) * (u + v)) y0)⟩ := hin 0 rfl (by omega) rfl
          obtain ⟨y1, x1, (v1 : IsEl ((xt + zt) * (u - v)) y1)⟩ := hin 1 rfl (by omega) rfl
          refine if_always rfl ?_
          exact op_fn2 _ _ _ _ _ _ rfl rfl (eval_tmp x0) (eval_tmp x1) (by intro args w; kernel_rfl) (add_el v0 v1 _) hK
        · obtain rfl := Option.some.inj ho
          refine ⟨rfl, fun a w' hS hold hin K hK => ?_⟩
          obtain ⟨y2, x2, (v2 : IsEl (((xt - zt) * (u + v)) + ((xt + zt) * (u - v))) y2)⟩ := hin 2 rfl (by omega) rfl
          refine if_always rfl ?_
          exact op_fn1 _ _ _ _ rfl rfl (eval_tmp x2) (by intro args w; kernel_rfl) (square_el v2 _) hK
      · intro i o sz hi ho hA; cases hA
      clear hS
      intro t1 V11 hs hold hout hall hne hS
      have ef := frame_fill 4 (fun i => [85, 86, 87, 88].getD i 0) hs hold (slots_apart (by kernel_rfl)) (slots_lie (by rw [HS]; kernel_rfl))
      replace HS := hs.trans HS
      replace hS := hS.1
      obtain ⟨x88, q88, v88⟩ : ∃ x, t1[88]? = some x ∧ (IsEl ((((xt - zt) * (u + v)) + ((xt + zt) * (u - v))) * (((xt - zt) * (u + v)) + ((xt + zt) * (u - v))))) x := hout 3 (by omega) rfl
      replace h4 := (hold 4 (slots_not (by kernel_rfl))).trans h4
      replace h5 := (hold 5 (slots_not (by kernel_rfl))).trans h5
      replace h6 := (hold 6 (slots_not (by kernel_rfl))).trans h6
      replace h7 := (hold 7 (slots_not (by kernel_rfl))).trans h7
      replace h8 := (hold 8 (slots_not (by kernel_rfl))).trans h8
      replace h9 := (hold 9 (slots_not (by kernel_rfl))).trans h9
      replace h10 := (hold 10 (slots_not (by kernel_rfl))).trans h10
      replace h15 := (hold 15 (slots_not (by kernel_rfl))).trans h15
      replace h16 := (hold 16 (slots_not (by kernel_rfl))).trans h16
      replace h17 := (hold 17 (slots_not (by kernel_rfl))).trans h17
      replace h18 := (hold 18 (slots_not (by kernel_rfl))).trans h18
      replace h19 := (hold 19 (slots_not (by kernel_rfl))).trans h19
      replace h20 := (hold 20 (slots_not (by kernel_rfl))).trans h20
      replace h21 := (hold 21 (slots_not (by kernel_rfl))).trans h21
      clear hold hout hs hall hne
      simp only [List.drop_succ_cons, List.drop_zero]
      refine st_own 5 tElem rfl (.tmp 9) (.tmp 88) rfl rfl _ _ (eval_tmp h9) (eval_tmp q88) (V' := IsEl ((((xt - zt) * (u + v)) + ((xt + zt) * (u - v))) * (((xt - zt) * (u + v)) + ((xt + zt) * (u - v))))) v88 (fun x hx => el_row hx) hS 7 rfl fun V11' hS' _ => ?_
      replace hS : Own w [(w.heap.size, 32, (· = .agg (vals Lk))), ((w.heap.size + 1), 32, (· = .agg (vals Lu))), ((w.heap.size + 1 + 1), 32, (fun _ => True)), (gn, 32, (· = .agg (vals (bytesN V)))), (g6, 5, IsEl x1), (g7, 5, IsEl u), (g8, 5, IsEl v), (g9, 5, IsEl ((((xt - zt) * (u + v)) + ((xt + zt) * (u - v))) * (((xt - zt) * (u + v)) + ((xt + zt) * (u - v))))), (g10, 5, IsEl zt), (g15, 5, IsEl (u + v)), (g16, 5, IsEl (u - v)), (g17, 5, IsEl ((u + v) * (u + v))), (g18, 5, IsEl ((u - v) * (u - v))), (g19, 5, IsEl ((xt - zt) * (u + v))), (g20, 5, IsEl ((xt + zt) * (u - v))), (g21, 5, IsEl (((u + v) * (u + v)) - ((u - v) * (u - v))))] V11' := hS'
      clear hS'
      refine wpList_nil ?_
      rw [ef, HT]
      clear ef
      simp only [fillA, if_true, List.getD_cons_zero, List.getD_cons_succ, List.setIfInBounds_toArray, List.set_cons_zero, List.set_cons_succ]
      generalize t1.getD 85 undef = z85
      generalize t1.getD 86 undef = z86
      generalize t1.getD 87 undef = z87
      generalize t1.getD 88 undef = z88
      clear HT
      clear h4 h5 h6 h7 h8 h9 h10 h15 h16 h17 h18 h19 h20 h21 q88 v88 hM HS t1 t0 M
      go_wp2_with fail
      obtain ⟨M, hM⟩ : ∃ M, M = V11'.heap.size := ⟨_, rfl⟩
      refine hide_frame fun t0 HT => ?_
      have HS : t0.size = 125 := by rw [HT]; rfl
      have h4 : t0[4]? = some (.pointer (some ⟨(w.heap.size + 1 + 1), 0, none⟩)) := by rw [HT]; rfl
      have h5 : t0[5]? = some (.pointer (some ⟨gn, 0, none⟩)) := by rw [HT]; rfl
      have h6 : t0[6]? = some (.pointer (some ⟨g6, 0, none⟩)) := by rw [HT]; rfl
      have h7 : t0[7]? = some (.pointer (some ⟨g7, 0, none⟩)) := by rw [HT]; rfl
      have h8 : t0[8]? = some (.pointer (some ⟨g8, 0, none⟩)) := by rw [HT]; rfl
      have h9 : t0[9]? = some (.pointer (some ⟨g9, 0, none⟩)) := by rw [HT]; rfl
      have h10 : t0[10]? = some (.pointer (some ⟨g10, 0, none⟩)) := by rw [HT]; rfl
      have h15 : t0[15]? = some (.pointer (some ⟨g15, 0, none⟩)) := by rw [HT]; rfl
      have h16 : t0[16]? = some (.pointer (some ⟨g16, 0, none⟩)) := by rw [HT]; rfl
      have h17 : t0[17]? = some (.pointer (some ⟨g17, 0, none⟩)) := by rw [HT]; rfl
      have h18 : t0[18]? = some (.pointer (some ⟨g18, 0, none⟩)) := by rw [HT]; rfl
      have h19 : t0[19]? = some (.pointer (some ⟨g19, 0, none⟩)) := by rw [HT]; rfl
      have h20 : t0[20]? = some (.pointer (some ⟨g20, 0, none⟩)) := by rw [HT]; rfl
      have h21 : t0[21]? = some (.pointer (some ⟨g21, 0, none⟩)) := by rw [HT]; rfl
      refine wp_region_most 6 (fun i => [89, 90, 91, 92, 93, 94].getD i 0) (fun _ => none) (fun i => [IsEl x1, IsEl ((xt - zt) * (u + v)), IsEl ((xt + zt) * (u - v)), IsEl (((xt - zt) * (u + v)) - ((xt + zt) * (u - v))), IsEl ((((xt - zt) * (u + v)) - ((xt + zt) * (u - v))) * (((xt - zt) * (u + v)) - ((xt + zt) * (u - v)))), IsEl (x1 * ((((xt - zt) * (u + v)) - ((xt + zt) * (u - v))) * (((xt - zt) * (u + v)) - ((xt + zt) * (u - v)))))].getD i (fun _ => True)) (fun w' => Own w [(w.heap.size, 32, (· = .agg (vals Lk))), ((w.heap.size + 1), 32, (· = .agg (vals Lu))), ((w.heap.size + 1 + 1), 32, (fun _ => True)), (gn, 32, (· = .agg (vals (bytesN V)))), (g6, 5, IsEl x1), (g7, 5, IsEl u), (g8, 5, IsEl v), (g9, 5, IsEl ((((xt - zt) * (u + v)) + ((xt + zt) * (u - v))) * (((xt - zt) * (u + v)) + ((xt + zt) * (u - v))))), (g10, 5, IsEl zt), (g15, 5, IsEl (u + v)), (g16, 5, IsEl (u - v)), (g17, 5, IsEl ((u + v) * (u + v))), (g18, 5, IsEl ((u - v) * (u - v))), (g19, 5, IsEl ((xt - zt) * (u + v))), (g20, 5, IsEl ((xt + zt) * (u - v))), (g21, 5, IsEl (((u + v) * (u + v)) - ((u - v) * (u - v))))] w' ∧ M ≤ w'.heap.size) M
        (by kernel_rfl) (by kernel_rfl) (slots_apart (by kernel_rfl)) (slots_lie (by rw [HS]; kernel_rfl)) ⟨hS.drew, Nat.le_of_eq hM⟩ (fun w' h => h.2) (fun w1 w2 h b => ⟨h.1.keep b, Nat.le_trans h.2 b.size⟩) ?_ ?_ ?_
      · clear hS
        intro i o hi ho hA
        have hc : i = 0 ∨ i = 1 ∨ i = 2 ∨ i = 3 ∨ i = 4 ∨ i = 5 := by omega
        rcases hc with rfl | rfl | rfl | rfl | rfl | rfl
        · obtain rfl := Option.some.inj ho
          refine ⟨rfl, fun a w' hS hold hin K hK => ?_⟩
          refine if_always rfl ?_
          exact op_ld_own 5 tElem (.tmp 6) rfl rfl _ (eval_tmp ((hold 6 (slots_not (by kernel_rfl))).trans h6)) hS.1 4 rfl hK
        · obtain rfl := Option.some.inj ho
          refine ⟨rfl, fun a w' hS hold hin K hK => ?_⟩
          refine if_always rfl ?_
          exact op_ld_own 5 tElem (.tmp 19) rfl rfl _ (eval_tmp ((hold 19 (slots_not (by kernel_rfl))).trans h19)) hS.1 13 rfl hK
        · obtain rfl := Option.some.inj ho
          refine ⟨rfl, fun a w' hS hold hin K hK => ?_⟩
          refine if_always rfl ?_
          exact op_ld_own 5 tElem (.tmp 20) rfl rfl _ (eval_tmp ((hold 20 (slots_not (by kernel_rfl))).trans h20)) hS.1 14 rfl hK
        · obtain rfl := Option.some.inj ho
          refine ⟨rfl, fun a w' hS hold hin K hK => ?_⟩
          obtain ⟨y1, x1, (v1 : IsEl ((xt - zt) * (u + v)) y1)⟩ := hin 1 rfl (by omega) rfl
          obtain ⟨y2, x2, (v2 : IsEl ((xt + zt) * (u - v)) y2)⟩ := hin 2 rfl (by omega) rfl
          refine if_always rfl ?_
          exact op_fn2 _ _ _ _ _ _ rfl rfl (eval_tmp x1) (eval_tmp x2) (by intro args w; kernel_rfl) (sub_el v1 v2 _) hK
        · obtain rfl := Option.some.inj ho
          refine ⟨rfl, fun a w' hS hold hin K hK => ?_⟩
          obtain ⟨y3, x3, (v3 : IsEl (((xt - zt) * (u + v)) - ((xt + zt) * (u - v))) y3)⟩ := hin 3 rfl (by omega) rfl
          refine if_always rfl ?_
          exact op_fn1 _ _ _ _ rfl rfl (eval_tmp x3) (by intro args w; kernel_rfl) (square_el v3 _) hK
        · obtain rfl := Option.some.inj ho
          refine ⟨rfl, fun a w' hS hold hin K hK => ?_⟩
          obtain ⟨y0, x0, (v0 : IsEl x1 y0)⟩ := hin 0 rfl (by omega) rfl
          obtain ⟨y4, x4, (v4 : IsEl ((((xt - zt) * (u + v)) - ((xt + zt) * (u - v))) * (((xt - zt) * (u + v)) - ((xt + zt) * (u - v)))) y4)⟩ := hin 4 rfl (by omega) rfl
          refine if_always rfl ?_
          exact op_fn2 _ _ _ _ _ _ rfl rfl (eval_tmp x0) (eval_tmp x4) (by intro args w; kernel_rfl) (mul_el v0 v4 _) hK
      · intro i o sz hi ho hA; cases hA
      clear hS
      intro t1 V12 hs hold hout hall hne hS
      have ef := frame_fill 6 (fun i => [89, 90, 91, 92, 93, 94].getD i 0) hs hold (slots_apart (by kernel_rfl)) (slots_lie (by rw [HS]; kernel_rfl))
      replace HS := hs.trans HS
      replace hS := hS.1
      obtain ⟨x94, q94, v94⟩ : ∃ x, t1[94]? = some x ∧ (IsEl (x1 * ((((xt - zt) * (u + v)) - ((xt + zt) * (u - v))) * (((xt - zt) * (u + v)) - ((xt + zt) * (u - v)))))) x := hout 5 (by omega) rfl
      replace h4 := (hold 4 (slots_not (by kernel_rfl))).trans h4
      replace h5 := (hold 5 (slots_not (by kernel_rfl))).trans h5
      replace h6 := (hold 6 (slots_not (by kernel_rfl))).trans h6
      replace h7 := (hold 7 (slots_not (by kernel_rfl))).trans h7
      replace h8 := (hold 8 (slots_not (by kernel_rfl))).trans h8
      replace h9 := (hold 9 (slots_not (by kernel_rfl))).trans h9
      replace h10 := (hold 10 (slots_not (by kernel_rfl))).trans h10
      replace h15 := (hold 15 (slots_not (by kernel_rfl))).trans h15
      replace h16 := (hold 16 (slots_not (by kernel_rfl))).trans h16
      replace h17 := (hold 17 (slots_not (by kernel_rfl))).trans h17
      replace h18 := (hold 18 (slots_not (by kernel_rfl))).trans h18
      replace h19 := (hold 19 (slots_not (by kernel_rfl))).trans h19
      replace h20 := (hold 20 (slots_not (by kernel_rfl))).trans h20
      replace h21 := (hold 21 (slots_not (by kernel_rfl))).trans h21
      clear hold hout hs hall hne
      simp only [List.drop_succ_cons, List.drop_zero]
      refine st_own 5 tElem rfl (.tmp 10) (.tmp 94) rfl rfl _ _ (eval_tmp h10) (eval_tmp q94) (V' := IsEl (x1 * ((((xt - zt) * (u + v)) - ((xt + zt) * (u - v))) * (((xt - zt) * (u + v)) - ((xt + zt) * (u - v)))))) v94 (fun x hx => el_row hx) hS 8 rfl fun V12' hS' _ => ?_
      replace hS : Own w [(w.heap.size, 32, (· = .agg (vals Lk))), ((w.heap.size + 1), 32, (· = .agg (vals Lu))), ((w.heap.size + 1 + 1), 32, (fun _ => True)), (gn, 32, (· = .agg (vals (bytesN V)))), (g6, 5, IsEl x1), (g7, 5, IsEl u), (g8, 5, IsEl v), (g9, 5, IsEl ((((xt - zt) * (u + v)) + ((xt + zt) * (u - v))) * (((xt - zt) * (u + v)) + ((xt + zt) * (u - v))))), (g10, 5, IsEl (x1 * ((((xt - zt) * (u + v)) - ((xt + zt) * (u - v))) * (((xt - zt) * (u + v)) - ((xt + zt) * (u - v)))))), (g15, 5, IsEl (u + v)), (g16, 5, IsEl (u - v)), (g17, 5, IsEl ((u + v) * (u + v))), (g18, 5, IsEl ((u - v) * (u - v))), (g19, 5, IsEl ((xt - zt) * (u + v))), (g20, 5, IsEl ((xt + zt) * (u - v))), (g21, 5, IsEl (((u + v) * (u + v)) - ((u - v) * (u - v))))] V12' := hS'
      clear hS'
      refine wpList_nil ?_
      rw [ef, HT]
      clear ef
      simp only [fillA, if_true, List.getD_cons_zero, List.getD_cons_succ, List.setIfInBounds_toArray, List.set_cons_zero, List.set_cons_succ]
      generalize t1.getD 89 undef = z89
      generalize t1.getD 90 undef = z90
      generalize t1.getD 91 undef = z91
      generalize t1.getD 92 undef = z92
      generalize t1.getD 93 undef = z93
      generalize t1.getD 94 undef = z94
      clear HT
      clear h4 h5 h6 h7 h8 h9 h10 h15 h16 h17 h18 h19 h20 h21 q94 v94 hM HS t1 t0 M
      go_wp2_with ((with_reducible refine guard_list ?_); first | (refine held_load 26 _ rfl ?_) | (refine held_load 22 _ rfl ?_) | (refine held_load 68 _ rfl ?_))
      obtain ⟨M, hM⟩ : ∃ M, M = V12'.heap.size := ⟨_, rfl⟩
      refine hide_held fun t0 HT => ?_
      have HS : t0.size = 125 := by rw [HT]; rfl
      have h4 : t0[4]? = some (.pointer (some ⟨(w.heap.size + 1 + 1), 0, none⟩)) := by rw [HT]; rfl
      have h5 : t0[5]? = some (.pointer (some ⟨gn, 0, none⟩)) := by rw [HT]; rfl
      have h6 : t0[6]? = some (.pointer (some ⟨g6, 0, none⟩)) := by rw [HT]; rfl
      have h7 : t0[7]? = some (.pointer (some ⟨g7, 0, none⟩)) := by rw [HT]; rfl
      have h8 : t0[8]? = some (.pointer (some ⟨g8, 0, none⟩)) := by rw [HT]; rfl
      have h9 : t0[9]? = some (.pointer (some ⟨g9, 0, none⟩)) := by rw [HT]; rfl
      have h10 : t0[10]? = some (.pointer (some ⟨g10, 0, none⟩)) := by rw [HT]; rfl
      have h15 : t0[15]? = some (.pointer (some ⟨g15, 0, none⟩)) := by rw [HT]; rfl
      have h16 : t0[16]? = some (.pointer (some ⟨g16, 0, none⟩)) := by rw [HT]; rfl
      have h17 : t0[17]? = some (.pointer (some ⟨g17, 0, none⟩)) := by rw [HT]; rfl
      have h18 : t0[18]? = some (.pointer (some ⟨g18, 0, none⟩)) := by rw [HT]; rfl
      have h19 : t0[19]? = some (.pointer (some ⟨g19, 0, none⟩)) := by rw [HT]; rfl
      have h20 : t0[20]? = some (.pointer (some ⟨g20, 0, none⟩)) := by rw [HT]; rfl
      have h21 : t0[21]? = some (.pointer (some ⟨g21, 0, none⟩)) := by rw [HT]; rfl
      refine wp_list_most 3 (fun i => [95, 96, 97].getD i 0) (fun _ => none) (fun i => [IsEl ((u + v) * (u + v)), IsEl ((u - v) * (u - v)), IsEl (((u + v) * (u + v)) * ((u - v) * (u - v)))].getD i (fun _ => True)) (fun w' => Own w [(w.heap.size, 32, (· = .agg (vals Lk))), ((w.heap.size + 1), 32, (· = .agg (vals Lu))), ((w.heap.size + 1 + 1), 32, (fun _ => True)), (gn, 32, (· = .agg (vals (bytesN V)))), (g6, 5, IsEl x1), (g7, 5, IsEl u), (g8, 5, IsEl v), (g9, 5, IsEl ((((xt - zt) * (u + v)) + ((xt + zt) * (u - v))) * (((xt - zt) * (u + v)) + ((xt + zt) * (u - v))))), (g10, 5, IsEl (x1 * ((((xt - zt) * (u + v)) - ((xt + zt) * (u - v))) * (((xt - zt) * (u + v)) - ((xt + zt) * (u - v)))))), (g15, 5, IsEl (u + v)), (g16, 5, IsEl (u - v)), (g17, 5, IsEl ((u + v) * (u + v))), (g18, 5, IsEl ((u - v) * (u - v))), (g19, 5, IsEl ((xt - zt) * (u + v))), (g20, 5, IsEl ((xt + zt) * (u - v))), (g21, 5, IsEl (((u + v) * (u + v)) - ((u - v) * (u - v))))] w' ∧ M ≤ w'.heap.size) M
        (by kernel_rfl) (slots_apart (by kernel_rfl)) (slots_lie (by rw [HS]; kernel_rfl)) ⟨hS, Nat.le_of_eq hM⟩ (fun w' h => h.2) (fun w1 w2 h b => ⟨h.1.keep b, Nat.le_trans h.2 b.size⟩) ?_ ?_ ?_
      · clear hS
        intro i o hi ho hA
        have hc : i = 0 ∨ i = 1 ∨ i = 2 := by omega
        rcases hc with rfl | rfl | rfl
        · obtain rfl := Option.some.inj ho
          refine ⟨rfl, fun a w' hS hold hin K hK => ?_⟩
          refine if_always rfl ?_
          exact op_ld_own 5 tElem (.tmp 17) rfl rfl _ (eval_tmp ((hold 17 (slots_not (by kernel_rfl))).trans h17)) hS.1 11 rfl hK
        · obtain rfl := Option.some.inj ho
          refine ⟨rfl, fun a w' hS hold hin K hK => ?_⟩
          refine if_always rfl ?_
          exact op_ld_own 5 tElem (.tmp 18) rfl rfl _ (eval_tmp ((hold 18 (slots_not (by kernel_rfl))).trans h18)) hS.1 12 rfl hK
        · obtain rfl := Option.some.inj ho
          refine ⟨rfl, fun a w' hS hold hin K hK => ?_⟩
          obtain ⟨y0, x0, (v0 : IsEl ((u + v) * (u + v)) y0)⟩ := hin 0 rfl (by omega) rfl
          obtain ⟨y1, x1, (v1 : IsEl ((u - v) * (u - v)) y1)⟩ := hin 1 rfl (by omega) rfl
          refine if_always rfl ?_
          exact op_fn2 _ _ _ _ _ _ rfl rfl (eval_tmp x0) (eval_tmp x1) (by intro args w; kernel_rfl) (mul_el v0 v1 _) hK
      · intro i o sz hi ho hA; cases hA
      clear hS
      intro t1 V13 hs hold hout hall hne hS
      have ef := frame_fill 3 (fun i => [95, 96, 97].getD i 0) hs hold (slots_apart (by kernel_rfl)) (slots_lie (by rw [HS]; kernel_rfl))
      replace HS := hs.trans HS
      replace hS := hS.1
      obtain ⟨x97, q97, v97⟩ : ∃ x, t1[97]? = some x ∧ (IsEl (((u + v) * (u + v)) * ((u - v) * (u - v)))) x := hout 2 (by omega) rfl
      replace h4 := (hold 4 (slots_not (by kernel_rfl))).trans h4
      replace h5 := (hold 5 (slots_not (by kernel_rfl))).trans h5
      replace h6 := (hold 6 (slots_not (by kernel_rfl))).trans h6
      replace h7 := (hold 7 (slots_not (by kernel_rfl))).trans h7
      replace h8 := (hold 8 (slots_not (by kernel_rfl))).trans h8
      replace h9 := (hold 9 (slots_not (by kernel_rfl))).trans h9
      replace h10 := (hold 10 (slots_not (by kernel_rfl))).trans h10
      replace h15 := (hold 15 (slots_not (by kernel_rfl))).trans h15
      replace h16 := (hold 16 (slots_not (by kernel_rfl))).trans h16
      replace h17 := (hold 17 (slots_not (by kernel_rfl))).trans h17
      replace h18 := (hold 18 (slots_not (by kernel_rfl))).trans h18
      replace h19 := (hold 19 (slots_not (by kernel_rfl))).trans h19
      replace h20 := (hold 20 (slots_not (by kernel_rfl))).trans h20
      replace h21 := (hold 21 (slots_not (by kernel_rfl))).trans h21
      clear hold hout hs hall hne
      simp only [List.drop_succ_cons, List.drop_zero]
      refine st_own 5 tElem rfl (.tmp 7) (.tmp 97) rfl rfl _ _ (eval_tmp h7) (eval_tmp q97) (V' := IsEl (((u + v) * (u + v)) * ((u - v) * (u - v)))) v97 (fun x hx => el_row hx) hS 5 rfl fun V13' hS' _ => ?_
      replace hS : Own w [(w.heap.size, 32, (· = .agg (vals Lk))), ((w.heap.size + 1), 32, (· = .agg (vals Lu))), ((w.heap.size + 1 + 1), 32, (fun _ => True)), (gn, 32, (· = .agg (vals (bytesN V)))), (g6, 5, IsEl x1), (g7, 5, IsEl (((u + v) * (u + v)) * ((u - v) * (u - v)))), (g8, 5, IsEl v), (g9, 5, IsEl ((((xt - zt) * (u + v)) + ((xt + zt) * (u - v))) * (((xt - zt) * (u + v)) + ((xt + zt) * (u - v))))), (g10, 5, IsEl (x1 * ((((xt - zt) * (u + v)) - ((xt + zt) * (u - v))) * (((xt - zt) * (u + v)) - ((xt + zt) * (u - v)))))), (g15, 5, IsEl (u + v)), (g16, 5, IsEl (u - v)), (g17, 5, IsEl ((u + v) * (u + v))), (g18, 5, IsEl ((u - v) * (u - v))), (g19, 5, IsEl ((xt - zt) * (u + v))), (g20, 5, IsEl ((xt + zt) * (u - v))), (g21, 5, IsEl (((u + v) * (u + v)) - ((u - v) * (u - v))))] V13' := hS'
      clear hS'
      refine wpList_nil ?_
      rw [ef, HT]
      clear ef
      simp only [fillA, if_true, List.getD_cons_zero, List.getD_cons_succ, List.setIfInBounds_toArray, List.set_cons_zero, List.set_cons_succ]
      generalize t1.getD 95 undef = z95
      generalize t1.getD 96 undef = z96
      generalize t1.getD 97 undef = z97
      clear HT
      clear h4 h5 h6 h7 h8 h9 h10 h15 h16 h17 h18 h19 h20 h21 q97 v97 hM HS t1 t0 M
      go_wp2_with fail
      obtain ⟨M, hM⟩ : ∃ M, M = V13'.heap.size := ⟨_, rfl⟩
      refine hide_frame fun t0 HT => ?_
      have HS : t0.size = 125 := by rw [HT]; rfl
      have h4 : t0[4]? = some (.pointer (some ⟨(w.heap.size + 1 + 1), 0, none⟩)) := by rw [HT]; rfl
      have h5 : t0[5]? = some (.pointer (some ⟨gn, 0, none⟩)) := by rw [HT]; rfl
      have h6 : t0[6]? = some (.pointer (some ⟨g6, 0, none⟩)) := by rw [HT]; rfl
      have h7 : t0[7]? = some (.pointer (some ⟨g7, 0, none⟩)) := by rw [HT]; rfl
      have h8 : t0[8]? = some (.pointer (some ⟨g8, 0, none⟩)) := by rw [HT]; rfl
      have h9 : t0[9]? = some (.pointer (some ⟨g9, 0, none⟩)) := by rw [HT]; rfl
      have h10 : t0[10]? = some (.pointer (some ⟨g10, 0, none⟩)) := by rw [HT]; rfl
      have h15 : t0[15]? = some (.pointer (some ⟨g15, 0, none⟩)) := by rw [HT]; rfl
      have h16 : t0[16]? = some (.pointer (some ⟨g16, 0, none⟩)) := by rw [HT]; rfl
      have h17 : t0[17]? = some (.pointer (some ⟨g17, 0, none⟩)) := by rw [HT]; rfl
      have h18 : t0[18]? = some (.pointer (some ⟨g18, 0, none⟩)) := by rw [HT]; rfl
      have h19 : t0[19]? = some (.pointer (some ⟨g19, 0, none⟩)) := by rw [HT]; rfl
      have h20 : t0[20]? = some (.pointer (some ⟨g20, 0, none⟩)) := by rw [HT]; rfl
      have h21 : t0[21]? = some (.pointer (some ⟨g21, 0, none⟩)) := by rw [HT]; rfl
      refine wp_region_most 6 (fun i => [98, 99, 100, 101, 102, 103].getD i 0) (fun _ => none) (fun i => [IsEl (((u + v) * (u + v)) - ((u - v) * (u - v))), IsEl ((u + v) * (u + v)), IsEl (((u + v) * (u + v)) - ((u - v) * (u - v))), IsEl ((((u + v) * (u + v)) - ((u - v) * (u - v))) * 121665), IsEl (((u + v) * (u + v)) + ((((u + v) * (u + v)) - ((u - v) * (u - v))) * 121665)), IsEl ((((u + v) * (u + v)) - ((u - v) * (u - v))) * (((u + v) * (u + v)) + ((((u + v) * (u + v)) - ((u - v) * (u - v))) * 121665)))].getD i (fun _ => True)) (fun w' => Own w [(w.heap.size, 32, (· = .agg (vals Lk))), ((w.heap.size + 1), 32, (· = .agg (vals Lu))), ((w.heap.size + 1 + 1), 32, (fun _ => True)), (gn, 32, (· = .agg (vals (bytesN V)))), (g6, 5, IsEl x1), (g7, 5, IsEl (((u + v) * (u + v)) * ((u - v) * (u - v)))), (g8, 5, IsEl v), (g9, 5, IsEl ((((xt - zt) * (u + v)) + ((xt + zt) * (u - v))) * (((xt - zt) * (u + v)) + ((xt + zt) * (u - v))))), (g10, 5, IsEl (x1 * ((((xt - zt) * (u + v)) - ((xt + zt) * (u - v))) * (((xt - zt) * (u + v)) - ((xt + zt) * (u - v)))))), (g15, 5, IsEl (u + v)), (g16, 5, IsEl (u - v)), (g17, 5, IsEl ((u + v) * (u + v))), (g18, 5, IsEl ((u - v) * (u - v))), (g19, 5, IsEl ((xt - zt) * (u + v))), (g20, 5, IsEl ((xt + zt) * (u - v))), (g21, 5, IsEl (((u + v) * (u + v)) - ((u - v) * (u - v))))] w' ∧ M ≤ w'.heap.size) M
        (by kernel_rfl) (by kernel_rfl) (slots_apart (by kernel_rfl)) (slots_lie (by rw [HS]; kernel_rfl)) ⟨hS.drew, Nat.le_of_eq hM⟩ (fun w' h => h.2) (fun w1 w2 h b => ⟨h.1.keep b, Nat.le_trans h.2 b.size⟩) ?_ ?_ ?_
      · clear hS
        intro i o hi ho hA
        have hc : i = 0 ∨ i = 1 ∨ i = 2 ∨ i = 3 ∨ i = 4 ∨ i = 5 := by omega
        rcases hc with rfl | rfl | rfl | rfl | rfl | rfl
        · obtain rfl := Option.some.inj ho
          refine ⟨rfl, fun a w' hS hold hin K hK => ?_⟩
          refine if_always rfl ?_
          exact op_ld_own 5 tElem (.tmp 21) rfl rfl _ (eval_tmp ((hold 21 (slots_not (by kernel_rfl))).trans h21)) hS.1 15 rfl hK
        · obtain rfl := Option.some.inj ho
          refine ⟨rfl, fun a w' hS hold hin K hK => ?_⟩
          refine if_always rfl ?_
          exact op_ld_own 5 tElem (.tmp 17) rfl rfl _ (eval_tmp ((hold 17 (slots_not (by kernel_rfl))).trans h17)) hS.1 11 rfl hK
        · obtain rfl := Option.some.inj ho
          refine ⟨rfl, fun a w' hS hold hin K hK => ?_⟩
          refine if_always rfl ?_
          exact op_ld_own 5 tElem (.tmp 21) rfl rfl _ (eval_tmp ((hold 21 (slots_not (by kernel_rfl))).trans h21)) hS.1 15 rfl hK
        · obtain rfl := Option.some.inj ho
          refine ⟨rfl, fun a w' hS hold hin K hK => ?_⟩
          obtain ⟨y2, x2, (v2 : IsEl (((u + v) * (u + v)) - ((u - v) * (u - v))) y2)⟩ := hin 2 rfl (by omega) rfl
          refine if_always rfl ?_
          exact op_fn2 _ _ _ _ _ _ rfl rfl (eval_tmp x2) rfl (by intro args w; kernel_rfl) (times24_ev rfl v2 _) hK
        · obtain rfl := Option.some.inj ho
          refine ⟨rfl, fun a w' hS hold hin K hK => ?_⟩
          obtain ⟨y1, x1, (v1 : IsEl ((u + v) * (u + v)) y1)⟩ := hin 1 rfl (by omega) rfl
          obtain ⟨y3, x3, (v3 : IsEl ((((u + v) * (u + v)) - ((u - v) * (u - v))) * 121665) y3)⟩ := hin 3 rfl (by omega) rfl
          refine if_always rfl ?_
          exact op_fn2 _ _ _ _ _ _ rfl rfl (eval_tmp x1) (eval_tmp x3) (by intro args w; kernel_rfl) (add_el v1 v3 _) hK
        · obtain rfl := Option.some.inj ho
          refine ⟨rfl, fun a w' hS hold hin K hK => ?_⟩
          obtain ⟨y0, x0, (v0 : IsEl (((u + v) * (u + v)) - ((u - v) * (u - v))) y0)⟩ := hin 0 rfl (by omega) rfl
          obtain ⟨y4, x4, (v4 : IsEl (((u + v) * (u + v)) + ((((u + v) * (u + v)) - ((u - v) * (u - v))) * 121665)) y4)⟩ := hin 4 rfl (by omega) rfl
          refine if_always rfl ?_
          exact op_fn2 _ _ _ _ _ _ rfl rfl (eval_tmp x0) (eval_tmp x4) (by intro args w; kernel_rfl) (mul_el v0 v4 _) hK
      · intro i o sz hi ho hA; cases hA
      clear hS
      intro t1 V14 hs hold hout hall hne hS
      have ef := frame_fill 6 (fun i => [98, 99, 100, 101, 102, 103].getD i 0) hs hold (slots_apart (by kernel_rfl)) (slots_lie (by rw [HS]; kernel_rfl))
      replace HS := hs.trans HS
      replace hS := hS.1
      obtain ⟨x103, q103, v103⟩ : ∃ x, t1[103]? = some x ∧ (IsEl ((((u + v) * (u + v)) - ((u - v) * (u - v))) * (((u + v) * (u + v)) + ((((u + v) * (u + v)) - ((u - v) * (u - v))) * 121665)))) x := hout 5 (by omega) rfl
      replace h4 := (hold 4 (slots_not (by kernel_rfl))).trans h4
      replace h5 := (hold 5 (slots_not (by kernel_rfl))).trans h5
      replace h6 := (hold 6 (slots_not (by kernel_rfl))).trans h6
      replace h7 := (hold 7 (slots_not (by kernel_rfl))).trans h7
      replace h8 := (hold 8 (slots_not (by kernel_rfl))).trans h8
      replace h9 := (hold 9 (slots_not (by kernel_rfl))).trans h9
      replace h10 := (hold 10 (slots_not (by kernel_rfl))).trans h10
      replace h15 := (hold 15 (slots_not (by kernel_rfl))).trans h15
      replace h16 := (hold 16 (slots_not (by kernel_rfl))).trans h16
      replace h17 := (hold 17 (slots_not (by kernel_rfl))).trans h17
      replace h18 := (hold 18 (slots_not (by kernel_rfl))).trans h18
      replace h19 := (hold 19 (slots_not (by kernel_rfl))).trans h19
      replace h20 := (hold 20 (slots_not (by kernel_rfl))).trans h20
      replace h21 := (hold 21 (slots_not (by kernel_rfl))).trans h21
      clear hold hout hs hall hne
      simp only [List.drop_succ_cons, List.drop_zero]
      refine st_own 5 tElem rfl (.tmp 8) (.tmp 103) rfl rfl _ _ (eval_tmp h8) (eval_tmp q103) (V' := IsEl ((((u + v) * (u + v)) - ((u - v) * (u - v))) * (((u + v) * (u + v)) + ((((u + v) * (u + v)) - ((u - v) * (u - v))) * 121665)))) v103 (fun x hx => el_row hx) hS 6 rfl fun V14' hS' _ => ?_
      replace hS : Own w [(w.heap.size, 32, (· = .agg (vals Lk))), ((w.heap.size + 1), 32, (· = .agg (vals Lu))), ((w.heap.size + 1 + 1), 32, (fun _ => True)), (gn, 32, (· = .agg (vals (bytesN V)))), (g6, 5, IsEl x1), (g7, 5, IsEl (((u + v) * (u + v)) * ((u - v) * (u - v)))), (g8, 5, IsEl ((((u + v) * (u + v)) - ((u - v) * (u - v))) * (((u + v) * (u + v)) + ((((u + v) * (u + v)) - ((u - v) * (u - v))) * 121665)))), (g9, 5, IsEl ((((xt - zt) * (u + v)) + ((xt + zt) * (u - v))) * (((xt - zt) * (u + v)) + ((xt + zt) * (u - v))))), (g10, 5, IsEl (x1 * ((((xt - zt) * (u + v)) - ((xt + zt) * (u - v))) * (((xt - zt) * (u + v)) - ((xt + zt) * (u - v)))))), (g15, 5, IsEl (u + v)), (g16, 5, IsEl (u - v)), (g17, 5, IsEl ((u + v) * (u + v))), (g18, 5, IsEl ((u - v) * (u - v))), (g19, 5, IsEl ((xt - zt) * (u + v))), (g20, 5, IsEl ((xt + zt) * (u - v))), (g21, 5, IsEl (((u + v) * (u + v)) - ((u - v) * (u - v))))] V14' := hS'
      clear hS'
      refine wpList_nil ?_
      rw [ef, HT]
      clear ef
      simp only [fillA, if_true, List.getD_cons_zero, List.getD_cons_succ, List.setIfInBounds_toArray, List.set_cons_zero, List.set_cons_succ]
      generalize t1.getD 98 undef = z98
      generalize t1.getD 99 undef = z99
      generalize t1.getD 100 undef = z100
      generalize t1.getD 101 undef = z101
      generalize t1.getD 102 undef = z102
      generalize t1.getD 103 undef = z103
      clear HT
      clear h4 h5 h6 h7 h8 h9 h10 h15 h16 h17 h18 h19 h20 h21 q103 v103 hM HS t1 t0 M
      replace hS : Own w [(w.heap.size, 32, (· = .agg (vals Lk))), ((w.heap.size + 1), 32, (· = .agg (vals Lu))), ((w.heap.size + 1 + 1), 32, (fun _ => True)), (gn, 32, (· = .agg (vals (bytesN V)))), (g6, 5, IsEl x1), (g7, 5, IsEl (((u + v) * (u + v)) * ((u - v) * (u - v)))), (g8, 5, IsEl ((((u + v) * (u + v)) - ((u - v) * (u - v))) * (((u + v) * (u + v)) + ((((u + v) * (u + v)) - ((u - v) * (u - v))) * 121665)))), (g9, 5, IsEl ((((xt - zt) * (u + v)) + ((xt + zt) * (u - v))) * (((xt - zt) * (u + v)) + ((xt + zt) * (u - v))))), (g10, 5, IsEl (x1 * ((((xt - zt) * (u + v)) - ((xt + zt) * (u - v))) * (((xt - zt) * (u + v)) - ((xt + zt) * (u - v))))))] V14' := hS.take 9
      have hl2 : lad x1 V j (swp b' (((((u + v) * (u + v)) * ((u - v) * (u - v))), ((((u + v) * (u + v)) - ((u - v) * (u - v))) * (((u + v) * (u + v)) + ((((u + v) * (u + v)) - ((u - v) * (u - v))) * 121665)))), (((((xt - zt) * (u + v)) + ((xt + zt) * (u - v))) * (((xt - zt) * (u + v)) + ((xt + zt) * (u - v)))), (x1 * ((((xt - zt) * (u + v)) - ((xt + zt) * (u - v))) * (((xt - zt) * (u + v)) - ((xt + zt) * (u - v)))))))) = RR := by
        have h1 : lad x1 V j (stp x1 (decide (V / 2 ^ j % 2 = 1)) (swp b ((p2, q2), (p3, q3)))) = RR := HL.out
        rw [← Hhb.out, ← round_stp, ← Hhcc.out, ← Hhu.out, ← Hhv.out, ← Hhx3.out, ← Hhz3.out] at h1
        exact h1
      have Hhl2 := Lib.hid hl2
      clear hl2
      have hS2 := Lib.hid hS
      clear hS
      go_wp2_with fail
      go_roundw
      case rel => exact ⟨j, b', _, _, _, _, by omega, rfl, rfl, Hhb.out, Hhl2.out, hS2.out⟩
      case measure => simp [intOf]
end Go.Proofs.Ytciakfhjjnmeeaa

namespace Go.Proofs.Ytciakfhjjnmeeaa
namespace Edw
open Nt

def BP : F × F := (9771384041963202563870679428059935816164187996444183106833894008023910952347, 46316835694926478169428394003475163141307993866256225615783033603165251855960)
theorem BP_on : On D1 BP.1 BP.2 := by unfold On; decide +kernel
theorem nine_ne : (9 : F) ≠ 0 := by decide
theorem BP_rep : Rep 1 (9, 1) BP := Rep.mk (by decide +kernel) (by rintro ⟨a, _⟩; exact nine_ne a) (by decide +kernel)

theorem lad_LO : (lad 9 LO 255 ((1, 0), (9, 1))).1.2 = 0 := by decide +kernel

theorem start_rep {g d : F} (hg : g * g = 1) (V : Nat) (hV : V < 2 ^ 255) {p0 : F × F} {x1 : F} (r0 : Rep g (x1, 1) p0) : Rep g ((1, 0) : F × F) (mul d p0 (V / 2 ^ 255)) ∧ Rep g (x1, 1) (mul d p0 (V / 2 ^ 255 + 1)) := by
  have e : V / 2 ^ 255 = 0 := Nat.div_eq_of_lt hV
  rw [e]
  refine ⟨Rep.mk hg (by rintro ⟨a, _⟩; exact one_ne_zero a) ((fun (z o : F) (hz : z = 0) (ho : o = 1) => (by grind : o * (g * (1 - o)) = z * (1 + o))) 0 1 rfl rfl), ?_⟩
  show Rep g (x1, 1) (mul d p0 1)
  rw [mul_one]; exact r0

theorem BP_order : mul D1 BP LO = zero := by
  obtain ⟨a, b⟩ := start_rep (d := D1) D1_kind.sq LO (by decide) BP_rep
  obtain ⟨l, hl, _, h2⟩ := (lad_rep D1_kind D1_non BP_on BP_rep nine_ne LO 255 ((1, 0), (9, 1)) a b).1
  rw [lad_LO] at h2
  refine y_one D1_non (mul_on D1_non BP_on LO) ?_
  have := (mul_eq_zero h2.symm).resolve_left hl
  grind

theorem mul_mod {d : F} (hd : NonSq d) {p : F × F} (hp : On d p.1 p.2) {n : Nat} (hn : mul d p n = zero) (m : Nat) : mul d p m = mul d p (m % n) := by
  have e : m = n * (m / n) + m % n := (Nat.div_add_mod m n).symm
  conv => lhs; rw [e]
  rw [mul_add hd hp, ← mul_mul hd hp, hn, mul_zero_pt, add_comm, add_zero]
theorem mul_gcd {d : F} (hd : NonSq d) {p : F × F} (hp : On d p.1 p.2) (m n : Nat) : mul d p m = zero → mul d p n = zero → mul d p (Nat.gcd m n) = zero := by
  induction m, n using Nat.gcd.induction with
  | H0 n => intro _ h; rw [Nat.gcd_zero_left]; exact h
  | H1 m n _ ih =>
    intro h1 h2
    rw [Nat.gcd_rec]
    exact ih (by rw [← mul_mod hd hp h1]; exact h2) h1

theorem BP_ne : BP ≠ zero := by decide +kernel
theorem BP_free {V : Nat} (hV : ¬ LO ∣ V) : mul D1 BP V ≠ zero := by
  intro h
  have hc : Nat.Coprime LO V := LO_prime.cop hV
  have := mul_gcd D1_non BP_on LO V BP_order h
  rw [hc, mul_one] at this
  exact BP_ne this

theorem not_dvd_clamped {a : Nat} (h8 : a % 8 = 0) (h0 : 0 < a) (ha : a < 2 ^ 255) : ¬ LO ∣ a := by
  intro h
  have e : a = 8 * (a / 8) := by omega
  rw [e] at h
  rcases LO_prime.dvd_mul h with h | h
  · exact absurd (Nat.le_of_dvd (by decide) h) (by decide)
  · have := Nat.le_of_dvd (by omega) h
    have hl : LO = 7237005577332262213973186563042994240857116359379907606001950938285454250989 := rfl
    omega

theorem uo_free {V : Nat} (hV : ¬ LO ∣ V) : uo 1 (mul D1 BP V) ≠ 0 := by
  have on := mul_on D1_non BP_on V
  refine uo_ne D1_kind (fun e => BP_free hV (y_one D1_non on e)) (fun e => ?_)
  have h2 := y_neg D1_non on e
  rw [mul_mul D1_non BP_on] at h2
  refine BP_free (fun hd => ?_) h2
  rcases LO_prime.dvd_mul hd with h | h
  · exact hV h
  · exact absurd (Nat.le_of_dvd (by decide) h) (by decide)

theorem prod_nine {a : Nat} (h8 : a % 8 = 0) (h0 : 0 < a) (ha : a < 2 ^ 255) : prod a 9 ≠ 0 := by
  rw [prod_pt D1_kind D1_non BP_on BP_rep nine_ne a ha]
  exact uo_free (not_dvd_clamped h8 h0 ha)
theorem prod_nine2 {a b : Nat} (h8 : a % 8 = 0) (h0 : 0 < a) (ha : a < 2 ^ 255) (h8' : b % 8 = 0) (h0' : 0 < b) (hb : b < 2 ^ 255) : prod a (prod b 9) ≠ 0 := by
  rw [prod_pt D1_kind D1_non BP_on BP_rep nine_ne b hb, prod_uo D1_kind D1_non (mul_on D1_non BP_on b) a ha (by omega), mul_mul D1_non BP_on]
  refine uo_free (fun hd => ?_)
  rcases LO_prime.dvd_mul hd with h | h
  · exact not_dvd_clamped h8' h0' hb h
  · exact not_dvd_clamped h8 h0 ha h

theorem add_is {d : F} (hd : NonSq d) {p q r : F × F} (hp : On d p.1 p.2) (hq : On d q.1 q.2) (h1 : p.1 * q.2 + p.2 * q.1 = r.1 * (1 + d * p.1 * q.1 * p.2 * q.2)) (h2 : p.2 * q.2 - p.1 * q.1 = r.2 * (1 - d * p.1 * q.1 * p.2 * q.2)) : add d p q = r := by
  obtain ⟨a, b⟩ := dens hd hp hq
  have c : ∀ x y z : F, y ≠ 0 → x = z * y → x * inv y = z := by
    intro x y z hy h
    have := mul_inv hy
    rw [h]
    have e : z * y * inv y = z * (y * inv y) := by grind
    rw [e, this]; exact one_r z 1 rfl
  exact Prod.ext (c _ _ _ a h1) (c _ _ _ b h2)
theorem mul_eight {d : F} (hd : NonSq d) {p p2 p4 : F × F} (hp : On d p.1 p.2) (h2 : add d p p = p2) (h4 : add d p2 p2 = p4) (h8 : add d p4 p4 = zero) : mul d p 8 = zero := by
  have e2 : mul d p 2 = p2 := by rw [← h2]; show add d (add d zero p) p = _; rw [add_comm zero p, add_zero]
  have e4 : mul d p 4 = p4 := by rw [show 4 = 2 + 2 from rfl, mul_add hd hp, e2, h4]
  rw [show 8 = 4 + 4 from rfl, mul_add hd hp, e4, h8]

/-- A point of an order that divides 8. -/
theorem low_order {g d : F} (hk : Kind g d) (hd : NonSq d) {x1 : F} {p0 : F × F} (h0 : On d p0.1 p0.2) (r0 : Rep g (x1, 1) p0) (hx : x1 ≠ 0) (h8 : mul d p0 8 = zero) (V : Nat) (hV : V < 2 ^ 255) (hV8 : V % 8 = 0) : prod V x1 = 0 := by
  rw [prod_pt hk hd h0 r0 hx V hV]
  have : V = 8 * (V / 8) := by omega
  rw [this, ← mul_mul hd h0, h8, mul_zero_pt, uo_zero]

theorem on_one : On D1 (((1, 0) : F × F)).1 (((1, 0) : F × F)).2 := by unfold On; decide +kernel
theorem on2_one : On D1 (((0, 57896044618658097711785492504343953926634992332820282019728792003956564819948) : F × F)).1 (((0, 57896044618658097711785492504343953926634992332820282019728792003956564819948) : F × F)).2 := by unfold On; decide +kernel
theorem on4_one : On D1 (((0, 1) : F × F)).1 (((0, 1) : F × F)).2 := by unfold On; decide +kernel
theorem eight_one : mul D1 (1, 0) 8 = zero := mul_eight D1_non on_one (add_is (r := (0, 57896044618658097711785492504343953926634992332820282019728792003956564819948)) D1_non on_one on_one (by decide +kernel) (by decide +kernel)) (add_is (r := (0, 1)) D1_non on2_one on2_one (by decide +kernel) (by decide +kernel)) (add_is (r := zero) D1_non on4_one on4_one (by decide +kernel) (by decide +kernel))
theorem weak_one (V : Nat) (hV : V < 2 ^ 255) (h8 : V % 8 = 0) : prod V 1 = 0 :=
  low_order D1_kind D1_non (p0 := (1, 0)) on_one (Rep.mk (by decide +kernel) (by rintro ⟨_, a⟩; exact one_ne_zero a) (by decide +kernel)) (by decide +kernel) eight_one V hV h8
theorem on_neg : On D2 (((1, 0) : F × F)).1 (((1, 0) : F × F)).2 := by unfold On; decide +kernel
theorem on2_neg : On D2 (((0, 57896044618658097711785492504343953926634992332820282019728792003956564819948) : F × F)).1 (((0, 57896044618658097711785492504343953926634992332820282019728792003956564819948) : F × F)).2 := by unfold On; decide +kernel
theorem on4_neg : On D2 (((0, 1) : F × F)).1 (((0, 1) : F × F)).2 := by unfold On; decide +kernel
theorem eight_neg : mul D2 (1, 0) 8 = zero := mul_eight D2_non on_neg (add_is (r := (0, 57896044618658097711785492504343953926634992332820282019728792003956564819948)) D2_non on_neg on_neg (by decide +kernel) (by decide +kernel)) (add_is (r := (0, 1)) D2_non on2_neg on2_neg (by decide +kernel) (by decide +kernel)) (add_is (r := zero) D2_non on4_neg on4_neg (by decide +kernel) (by decide +kernel))
theorem weak_neg (V : Nat) (hV : V < 2 ^ 255) (h8 : V % 8 = 0) : prod V (-1) = 0 :=
  low_order D2_kind D2_non (p0 := (1, 0)) on_neg (Rep.mk (by decide +kernel) (by rintro ⟨_, a⟩; exact one_ne_zero a) (by decide +kernel)) (by decide +kernel) eight_neg V hV h8
theorem on_five : On D1 (((2707385501144840649318225287225658788936804267575313519463743609750303402022, 55188659117513257062467267217118295137698188065244968500265048394206261417927) : F × F)).1 (((2707385501144840649318225287225658788936804267575313519463743609750303402022, 55188659117513257062467267217118295137698188065244968500265048394206261417927) : F × F)).2 := by unfold On; decide +kernel
theorem on2_five : On D1 (((57896044618658097711785492504343953926634992332820282019728792003956564819948, 0) : F × F)).1 (((57896044618658097711785492504343953926634992332820282019728792003956564819948, 0) : F × F)).2 := by unfold On; decide +kernel
theorem on4_five : On D1 (((0, 57896044618658097711785492504343953926634992332820282019728792003956564819948) : F × F)).1 (((0, 57896044618658097711785492504343953926634992332820282019728792003956564819948) : F × F)).2 := by unfold On; decide +kernel
theorem eight_five : mul D1 (2707385501144840649318225287225658788936804267575313519463743609750303402022, 55188659117513257062467267217118295137698188065244968500265048394206261417927) 8 = zero := mul_eight D1_non on_five (add_is (r := (57896044618658097711785492504343953926634992332820282019728792003956564819948, 0)) D1_non on_five on_five (by decide +kernel) (by decide +kernel)) (add_is (r := (0, 57896044618658097711785492504343953926634992332820282019728792003956564819948)) D1_non on2_five on2_five (by decide +kernel) (by decide +kernel)) (add_is (r := zero) D1_non on4_five on4_five (by decide +kernel) (by decide +kernel))
theorem weak_five (V : Nat) (hV : V < 2 ^ 255) (h8 : V % 8 = 0) : prod V 325606250916557431795983626356110631294008115727848805560023387167927233504 = 0 :=
  low_order D1_kind D1_non (p0 := (2707385501144840649318225287225658788936804267575313519463743609750303402022, 55188659117513257062467267217118295137698188065244968500265048394206261417927)) on_five (Rep.mk (by decide +kernel) (by rintro ⟨_, a⟩; exact one_ne_zero a) (by decide +kernel)) (by decide +kernel) eight_five V hV h8
theorem on_six : On D1 (((2707385501144840649318225287225658788936804267575313519463743609750303402022, 2707385501144840649318225287225658788936804267575313519463743609750303402022) : F × F)).1 (((2707385501144840649318225287225658788936804267575313519463743609750303402022, 2707385501144840649318225287225658788936804267575313519463743609750303402022) : F × F)).2 := by unfold On; decide +kernel
theorem on2_six : On D1 (((1, 0) : F × F)).1 (((1, 0) : F × F)).2 := by unfold On; decide +kernel
theorem on4_six : On D1 (((0, 57896044618658097711785492504343953926634992332820282019728792003956564819948) : F × F)).1 (((0, 57896044618658097711785492504343953926634992332820282019728792003956564819948) : F × F)).2 := by unfold On; decide +kernel
theorem eight_six : mul D1 (2707385501144840649318225287225658788936804267575313519463743609750303402022, 2707385501144840649318225287225658788936804267575313519463743609750303402022) 8 = zero := mul_eight D1_non on_six (add_is (r := (1, 0)) D1_non on_six on_six (by decide +kernel) (by decide +kernel)) (add_is (r := (0, 57896044618658097711785492504343953926634992332820282019728792003956564819948)) D1_non on2_six on2_six (by decide +kernel) (by decide +kernel)) (add_is (r := zero) D1_non on4_six on4_six (by decide +kernel) (by decide +kernel))
theorem weak_six (V : Nat) (hV : V < 2 ^ 255) (h8 : V % 8 = 0) : prod V 39382357235489614581723060781553021112529911719440698176882885853963445705823 = 0 :=
  low_order D1_kind D1_non (p0 := (2707385501144840649318225287225658788936804267575313519463743609750303402022, 2707385501144840649318225287225658788936804267575313519463743609750303402022)) on_six (Rep.mk (by decide +kernel) (by rintro ⟨_, a⟩; exact one_ne_zero a) (by decide +kernel)) (by decide +kernel) eight_six V hV h8
end Edw
end Go.Proofs.Ytciakfhjjnmeeaa

namespace Go.Proofs.Ytciakfhjjnmeeaa
open Go.RowKit Nt Edw

set_option maxRecDepth 100000 in
theorem eql_key {p q : Operand} (xs ys : List Int) (hx : xs.length = 32) (hy : ys.length = 32) (w : World) :
    (do eqGuard .eql 68 p q (.agg (vals xs)) (.agg (vals ys)); binOp .eql 68 (.agg (vals xs)) (.agg (vals ys)) : Sem Value).run Try.prog w = .ok (.bool (decide (xs = ys))) w := by
  have h1 : (eqGuard .eql 68 p q (.agg (vals xs)) (.agg (vals ys))).run Try.prog w = .ok () w := by kernel_rfl
  have h2 := run_eql_vals (P := Try.prog) w .u8 68 5 32 Try.underlying68 Try.underlying5 (fun w => by kernel_rfl) xs ys hx hy
  rw [Sem.run_bind, h1]
  exact h2
set_option maxRecDepth 100000 in
theorem neq_key {p q : Operand} (xs ys : List Int) (hx : xs.length = 32) (hy : ys.length = 32) (w : World) :
    (do eqGuard .neq 68 p q (.agg (vals xs)) (.agg (vals ys)); binOp .neq 68 (.agg (vals xs)) (.agg (vals ys)) : Sem Value).run Try.prog w = .ok (.bool (!decide (xs = ys))) w := by
  have h1 : (eqGuard .neq 68 p q (.agg (vals xs)) (.agg (vals ys))).run Try.prog w = .ok () w := by kernel_rfl
  have h2 := run_neq_vals (P := Try.prog) w .u8 68 5 32 Try.underlying68 Try.underlying5 (fun w => by kernel_rfl) xs ys hx hy
  rw [Sem.run_bind, h1]
  exact h2

/-- A byte of a key by value. -/
theorem run_index_key (l : List Int) (hl : l.length = 32) (k : Nat) (hk : k < 32) (w : World) : (Instr.index 68 (.agg (vals l)) (.int .i64 k)).run Try.prog w = .ok (.int .u8 (nth l k)) w := by
  have hs : (sizeOf 5).run Try.prog w = .ok 1 w := by kernel_rfl
  have hb : (0 : Int) ≤ k ∧ (k : Int) < (32 : Nat) := by omega
  have hv : (vals l)[k]? = some (.int .u8 (nth l k)) := vals_get (by omega)
  simp [Instr.index, run_underlying Try.underlying68, asIntOf, hb, hs, hk, hv, go_sem]

def nineL : List Int := [9, 0, 0, 0, 0, 0, 0, 0, 0, 0, 0, 0, 0, 0, 0, 0, 0, 0, 0, 0, 0, 0, 0, 0, 0, 0, 0, 0, 0, 0, 0, 0]
theorem nine_byt : Byt nineL := fun x hx => by simp [nineL] at hx; omega
theorem nine_num : numF nineL = 9 := by decide +kernel
theorem ladmul_ev (Lk Lu : List Int) (V : Nat) (x1 R : F) (w : World) (hlk : Lk.length = 32) (hbk : Byt Lk) (hlu : Lu.length = 32) (hbu : Byt Lu) (hV : cl Lk = V) (hx : numF Lu = x1) (hR : prod V x1 = R) :
    Calls Try.prog 47 #[.agg (vals Lk), .agg (vals Lu)] w (Gives (· = .agg (vals (bytesN R.val))) w) :=
  ladmul_any Lk Lu V x1 R w hlk hbk hlu hbu (by rw [← hV]; exact clampL_eq hlk hbk) (by rw [← hV]; exact cl_lt hlk hbk) hx hR

set_option maxHeartbeats 1000000 in
set_option maxRecDepth 100000 in
theorem base_any (L : List Int) (V : Nat) (R : F) (w : World) (hl : L.length = 32) (hb : Byt L) (hV : cl L = V) (hR : prod V 9 = R) : Calls Try.prog 53 #[.agg (vals L)] w (Gives (· = .agg (vals (bytesN R.val))) w) := by
  have HL := Lib.hid hl
  have HM := fun w => ladmul_ev L nineL V 9 R w hl hb rfl nine_byt hV nine_num hR
  have HO := Lib.hid HM
  have R0 := new2_0 w (.cells (vals L) 68) (.cells #[.int .u8 0, .int .u8 0, .int .u8 0, .int .u8 0, .int .u8 0, .int .u8 0, .int .u8 0, .int .u8 0, .int .u8 0, .int .u8 0, .int .u8 0, .int .u8 0, .int .u8 0, .int .u8 0, .int .u8 0, .int .u8 0, .int .u8 0, .int .u8 0, .int .u8 0, .int .u8 0, .int .u8 0, .int .u8 0, .int .u8 0, .int .u8 0, .int .u8 0, .int .u8 0, .int .u8 0, .int .u8 0, .int .u8 0, .int .u8 0, .int .u8 0, .int .u8 0] 68)
  have R1 := new2_1 w (.cells (vals L) 68) (.cells #[.int .u8 0, .int .u8 0, .int .u8 0, .int .u8 0, .int .u8 0, .int .u8 0, .int .u8 0, .int .u8 0, .int .u8 0, .int .u8 0, .int .u8 0, .int .u8 0, .int .u8 0, .int .u8 0, .int .u8 0, .int .u8 0, .int .u8 0, .int .u8 0, .int .u8 0, .int .u8 0, .int .u8 0, .int .u8 0, .int .u8 0, .int .u8 0, .int .u8 0, .int .u8 0, .int .u8 0, .int .u8 0, .int .u8 0, .int .u8 0, .int .u8 0, .int .u8 0] 68)
  have B0 : Below w.heap.size w ((w.alloc (.cells (vals L) 68)).alloc (.cells #[.int .u8 0, .int .u8 0, .int .u8 0, .int .u8 0, .int .u8 0, .int .u8 0, .int .u8 0, .int .u8 0, .int .u8 0, .int .u8 0, .int .u8 0, .int .u8 0, .int .u8 0, .int .u8 0, .int .u8 0, .int .u8 0, .int .u8 0, .int .u8 0, .int .u8 0, .int .u8 0, .int .u8 0, .int .u8 0, .int .u8 0, .int .u8 0, .int .u8 0, .int .u8 0, .int .u8 0, .int .u8 0, .int .u8 0, .int .u8 0, .int .u8 0, .int .u8 0] 68)) := by go_grown
  clear HM hV hR hl
  go_enter Try.func53, Try.ntmps53
  go_wp2_with (refine ld_row rfl 68 (.tmp 1) rfl _ (by rfl) _ _ R0 32 tKey (by rw [vals_size, HL.out]) ?_)
  generalize (w.alloc (.cells (vals L) 68)).alloc (.cells #[.int .u8 0, .int .u8 0, .int .u8 0, .int .u8 0, .int .u8 0, .int .u8 0, .int .u8 0, .int .u8 0, .int .u8 0, .int .u8 0, .int .u8 0, .int .u8 0, .int .u8 0, .int .u8 0, .int .u8 0, .int .u8 0, .int .u8 0, .int .u8 0, .int .u8 0, .int .u8 0, .int .u8 0, .int .u8 0, .int .u8 0, .int .u8 0, .int .u8 0, .int .u8 0, .int .u8 0, .int .u8 0, .int .u8 0, .int .u8 0, .int .u8 0, .int .u8 0] 68) = W at *
  refine (HO.out _).mono ?_
  rintro e w1 ⟨r, rfl, rfl, b1⟩
  have Q1 := row_call b1 R1
  have B1 := below_call b1 B0
  clear R0 R1 B0 b1 HO W
  go_wp2_with (refine st_row rfl 68 (.tmp 2) _ rfl _ _ (by rfl) (by rfl) _ _ Q1 32 tKey (by rw [vals_size, bytesN_len]) (by rfl) (vals_one _) ?_)
  refine ret_row rfl _ _ _ rfl (row_put Q1) 32 tKey (by rw [vals_size, bytesN_len]) rfl ?_
  exact ⟨_, rfl, rfl, below_setRow B1 (by omega) _⟩

/-- What has been gathered of the first k bytes: 0 just if they are. -/
theorem or_step (a b : Int) (ha : 0 ≤ a ∧ a < 256) (hb : 0 ≤ b ∧ b < 256) : (0 ≤ bits .or .u64 a b ∧ bits .or .u64 a b < 256) ∧ (bits .or .u64 a b = 0 ↔ a = 0 ∧ b = 0) := by
  obtain ⟨x, rfl⟩ := Int.eq_ofNat_of_zero_le ha.1
  obtain ⟨y, rfl⟩ := Int.eq_ofNat_of_zero_le hb.1
  have h : bits .or .u64 (x : Int) (y : Int) = ((x ||| y : Nat) : Int) := by go_bits2
  have h2 : x ||| y < 2 ^ 8 := Nat.or_lt_two_pow (by omega) (by omega)
  have h3 := @Nat.or_eq_zero_iff x y
  rw [h]
  omega
theorem bytesN_zero_iff (V : Nat) (hV : V < 256 ^ 32) : (∀ j, j < 32 → nth (bytesN V) j = 0) ↔ V = 0 := by
  constructor
  · intro h
    have e : bytesN V = List.replicate 32 0 := by
      apply List.ext_getElem (by rw [bytesN_len]; rfl)
      intro j h1 h2
      rw [List.getElem_replicate, ← nth_get h1]
      exact h j (by rw [bytesN_len] at h1; exact h1)
    have := num_bytesN V hV
    rw [e] at this
    have h0 : num (List.replicate 32 0) = 0 := by decide
    omega
  · rintro rfl j hj
    rw [nth_bytesN _ _ hj]
    simp [byteOf]

set_option maxHeartbeats 1000000 in
set_option maxRecDepth 100000 in
theorem agree_any (Lk Lu : List Int) (V : Nat) (x1 R : F) (w : World) (hlk : Lk.length = 32) (hbk : Byt Lk) (hlu : Lu.length = 32) (hbu : Byt Lu) (hV : cl Lk = V) (hx : numF Lu = x1) (hR : prod V x1 = R) :
    Calls Try.prog 51 #[.agg (vals Lk), .agg (vals Lu)] w (Gives (· = .tuple #[.agg (vals (bytesN R.val)), .int .u64 (mk (!decide (R = 0)))]) w) := by
  have HM := fun w => ladmul_ev Lk Lu V x1 R w hlk hbk hlu hbu hV hx hR
  have HO := Lib.hid HM
  have HK := Lib.hid hlk
  have HU := Lib.hid hlu
  have R0 := new3_0 w (.cells (vals Lk) 68) (.cells (vals Lu) 68) (.cells #[.int .u8 0, .int .u8 0, .int .u8 0, .int .u8 0, .int .u8 0, .int .u8 0, .int .u8 0, .int .u8 0, .int .u8 0, .int .u8 0, .int .u8 0, .int .u8 0, .int .u8 0, .int .u8 0, .int .u8 0, .int .u8 0, .int .u8 0, .int .u8 0, .int .u8 0, .int .u8 0, .int .u8 0, .int .u8 0, .int .u8 0, .int .u8 0, .int .u8 0, .int .u8 0, .int .u8 0, .int .u8 0, .int .u8 0, .int .u8 0, .int .u8 0, .int .u8 0] 68)
  have R1 := new3_1 w (.cells (vals Lk) 68) (.cells (vals Lu) 68) (.cells #[.int .u8 0, .int .u8 0, .int .u8 0, .int .u8 0, .int .u8 0, .int .u8 0, .int .u8 0, .int .u8 0, .int .u8 0, .int .u8 0, .int .u8 0, .int .u8 0, .int .u8 0, .int .u8 0, .int .u8 0, .int .u8 0, .int .u8 0, .int .u8 0, .int .u8 0, .int .u8 0, .int .u8 0, .int .u8 0, .int .u8 0, .int .u8 0, .int .u8 0, .int .u8 0, .int .u8 0, .int .u8 0, .int .u8 0, .int .u8 0, .int .u8 0, .int .u8 0] 68)
  have R2 := new3_2 w (.cells (vals Lk) 68) (.cells (vals Lu) 68) (.cells #[.int .u8 0, .int .u8 0, .int .u8 0, .int .u8 0, .int .u8 0, .int .u8 0, .int .u8 0, .int .u8 0, .int .u8 0, .int .u8 0, .int .u8 0, .int .u8 0, .int .u8 0, .int .u8 0, .int .u8 0, .int .u8 0, .int .u8 0, .int .u8 0, .int .u8 0, .int .u8 0, .int .u8 0, .int .u8 0, .int .u8 0, .int .u8 0, .int .u8 0, .int .u8 0, .int .u8 0, .int .u8 0, .int .u8 0, .int .u8 0, .int .u8 0, .int .u8 0] 68)
  have B0 : Below w.heap.size w (((w.alloc (.cells (vals Lk) 68)).alloc (.cells (vals Lu) 68)).alloc (.cells #[.int .u8 0, .int .u8 0, .int .u8 0, .int .u8 0, .int .u8 0, .int .u8 0, .int .u8 0, .int .u8 0, .int .u8 0, .int .u8 0, .int .u8 0, .int .u8 0, .int .u8 0, .int .u8 0, .int .u8 0, .int .u8 0, .int .u8 0, .int .u8 0, .int .u8 0, .int .u8 0, .int .u8 0, .int .u8 0, .int .u8 0, .int .u8 0, .int .u8 0, .int .u8 0, .int .u8 0, .int .u8 0, .int .u8 0, .int .u8 0, .int .u8 0, .int .u8 0] 68)) := by go_grown
  clear HM hV hR hx hlk hlu
  go_enter Try.func51, Try.ntmps51
  go_wp2_with (first | (refine ld_row rfl 68 (.tmp 2) rfl _ (by rfl) _ _ R0 32 tKey (by rw [vals_size, HK.out]) ?_) | (refine ld_row rfl 68 (.tmp 3) rfl _ (by rfl) _ _ R1 32 tKey (by rw [vals_size, HU.out]) ?_))
  generalize ((w.alloc (.cells (vals Lk) 68)).alloc (.cells (vals Lu) 68)).alloc (.cells #[.int .u8 0, .int .u8 0, .int .u8 0, .int .u8 0, .int .u8 0, .int .u8 0, .int .u8 0, .int .u8 0, .int .u8 0, .int .u8 0, .int .u8 0, .int .u8 0, .int .u8 0, .int .u8 0, .int .u8 0, .int .u8 0, .int .u8 0, .int .u8 0, .int .u8 0, .int .u8 0, .int .u8 0, .int .u8 0, .int .u8 0, .int .u8 0, .int .u8 0, .int .u8 0, .int .u8 0, .int .u8 0, .int .u8 0, .int .u8 0, .int .u8 0, .int .u8 0] 68) = W at *
  refine (HO.out _).mono ?_
  rintro e w1 ⟨r, rfl, rfl, b1⟩
  have Q2 := row_call b1 R2
  have B1 := below_call b1 B0
  have HL := row_lt Q2
  clear R0 R1 R2 B0 b1 HO W HK HU hbk hbu
  have hbl := bytesN_len R.val
  have Q3 := row_alloc (x := .cells (vals (bytesN R.val)) 68) Q2
  have Q4 := row_new (w := w1) (x := .cells (vals (bytesN R.val)) 68)
  have B2 := B1.alloc B1.size (.cells (vals (bytesN R.val)) 68)
  have HBL := Lib.hid hbl
  have HON := Lib.hid (vals_one (bytesN R.val))
  have hnb : ∀ j, 0 ≤ nth (bytesN R.val) j ∧ nth (bytesN R.val) j < 256 := fun j => (bytesN_byt _).nth j
  have HNB := Lib.hid hnb
  have hz := bytesN_zero_iff R.val (Nat.lt_trans R.isLt (by decide))
  have hz2 : (∀ j, j < 32 → nth (bytesN R.val) j = 0) ↔ R = 0 := hz.trans ⟨fun h => F.ext h, fun h => by rw [h]; rfl⟩
  have HZ := Lib.hid hz2
  clear hbl Q2 B1 hnb hz hz2
  have HBE : ∃ BL, BL = bytesN R.val := ⟨_, rfl⟩
  generalize hBL : bytesN R.val = BL at *
  clear HBE
  have HBE := Lib.hid hBL
  clear hBL
  go_wp2_with (first | (refine st_new rfl 68 (.tmp 6) _ rfl _ _ _ (by rfl) (by rfl) 32 tKey (by rw [vals_size, HBL.out]) (by rfl) HON.out ?_; generalize w1.alloc (.cells (vals BL) 68) = W at *; generalize w1.heap.size = g at *) | (refine ld_row rfl 68 (.tmp 6) rfl _ (by rfl) _ _ Q4 32 tKey (by rw [vals_size, HBL.out]) ?_))
  go_loop [7, 14] (fun a i => ∃ (k : Nat) (v : Int), k ≤ 32 ∧ i = .int .i64 k ∧ a = .int .u64 v ∧ (0 ≤ v ∧ v < 256) ∧ (v = 0 ↔ ∀ j, j < k → nth BL j = 0)) (fun _ i => 32 - (intOf i).toNat)
  case atStart => exact ⟨0, 0, by omega, rfl, rfl, by omega, ⟨fun _ j hj => by omega, fun _ => rfl⟩⟩
  case round =>
    obtain ⟨k, v, hk, rfl, rfl, hv, hvz⟩ := hrel
    have HVZ := Lib.hid hvz
    clear hvz
    by_cases hlt : k < 32
    · have c := run_index_key BL HBL.out k hlt
      have hx := HNB.out k
      obtain ⟨x, hxe⟩ : ∃ x, x = nth BL k := ⟨_, rfl⟩
      rw [← hxe] at c hx
      have ho := or_step v x hv hx
      have HOR := Lib.hid ho
      have hxw : IntKind.u64.wrap x = x := wrap_small x (by omega) (by omega)
      have HXE := Lib.hid hxe
      clear ho hxe
      go_wp2_with fail
      go_round
      case rel =>
        refine ⟨k + 1, _, by omega, by go_num, rfl, HOR.out.1, HOR.out.2.trans ⟨fun h j hj => ?_, fun h => ⟨HVZ.out.2 fun j hj => h j (by omega), by rw [HXE.out]; exact h k (by omega)⟩⟩⟩
        rcases Nat.lt_or_ge j k with h' | h'
        · exact HVZ.out.1 h.1 j h'
        · obtain rfl : j = k := by omega
          rw [← HXE.out]; exact h.2
      case measure => simp [intOf]; omega
    · obtain rfl : k = 32 := by omega
      have hm : IntKind.u64.wrap (-((v + 255) / 256)) = mk (!decide (R = 0)) := by
        have hvr : v = 0 ↔ R = 0 := HVZ.out.trans HZ.out
        by_cases h0 : v = 0
        · have := hvr.1 h0
          subst h0
          rw [decide_eq_true this]; decide
        · have hr : R ≠ 0 := fun h => h0 (hvr.2 h)
          rw [decide_eq_false hr]
          have : (v + 255) / 256 = 1 := by omega
          rw [this]; decide
      have HMM := Lib.hid hm
      clear hm
      go_wp2_with (first | (refine ld_row rfl 68 (.tmp 6) rfl _ (by rfl) _ _ Q4 32 tKey (by rw [vals_size, HBL.out]) ?_) | (refine st_row rfl 68 (.tmp 4) _ rfl _ _ (by rfl) (by rfl) _ _ Q3 32 tKey (by rw [vals_size, HBL.out]) (by rfl) HON.out ?_))
      refine ret_row_tmp rfl _ _ _ rfl (row_put Q3) 32 tKey (by rw [vals_size, HBL.out]) rfl ?_
      exact ⟨_, rfl, by rw [← HMM.out, HBE.out]; rfl, below_setRow B2 (by omega) _⟩
end Go.Proofs.Ytciakfhjjnmeeaa

namespace Go.Proofs.Ytciakfhjjnmeeaa
open Go.RowKit Nt Edw

section
variable {P : Program} {o : Oper} {a : Act} {w : World} {Q : Exit → Act → World → Prop} {d : Nat} {K : Act → World → Prop} {V : Value → Prop} {u v : Value}
theorem op_tup0 (x : Operand) (ho : o.op = .extract x 0) (hd : o.dst = some d) (hx : a.eval x = .tuple #[u, v]) (hV : V u)
    (hK : ∀ x w', V x → Below w.heap.size w w' → K (a.put (some d) x) w') : o.wp P a w K Q := by
  refine op_val u hd ?_ hV hK
  unfold execOp; rw [ho]
  show ((do let z ← Instr.extract (a.eval x) 0; pure (Next.value z)) : Sem Next).run P w = _
  rw [hx]; rfl
theorem op_tup1 (x : Operand) (ho : o.op = .extract x 1) (hd : o.dst = some d) (hx : a.eval x = .tuple #[u, v]) (hV : V v)
    (hK : ∀ x w', V x → Below w.heap.size w w' → K (a.put (some d) x) w') : o.wp P a w K Q := by
  refine op_val v hd ?_ hV hK
  unfold execOp; rw [ho]
  show ((do let z ← Instr.extract (a.eval x) 1; pure (Next.value z)) : Sem Next).run P w = _
  rw [hx]; rfl
end

section
variable {p q : Operand} (xs ys : List Int) (hx : xs.length = 32) (hy : ys.length = 32) (w : World)
include hx
theorem eql_key_same : (do eqGuard .eql 68 p q (.agg (vals xs)) (.agg (vals xs)); binOp .eql 68 (.agg (vals xs)) (.agg (vals xs)) : Sem Value).run Try.prog w = .ok (.bool true) w := by
  rw [eql_key xs xs hx hx w, decide_eq_true rfl]
theorem neq_key_same : (do eqGuard .neq 68 p q (.agg (vals xs)) (.agg (vals xs)); binOp .neq 68 (.agg (vals xs)) (.agg (vals xs)) : Sem Value).run Try.prog w = .ok (.bool false) w := by
  rw [neq_key xs xs hx hx w, decide_eq_true rfl]; rfl
include hy
theorem neq_key_diff (h : xs ≠ ys) : (do eqGuard .neq 68 p q (.agg (vals xs)) (.agg (vals ys)); binOp .neq 68 (.agg (vals xs)) (.agg (vals ys)) : Sem Value).run Try.prog w = .ok (.bool true) w := by
  rw [neq_key xs ys hx hy w, decide_eq_false h]; rfl
end

def zeroL : List Int := [0, 0, 0, 0, 0, 0, 0, 0, 0, 0, 0, 0, 0, 0, 0, 0, 0, 0, 0, 0, 0, 0, 0, 0, 0, 0, 0, 0, 0, 0, 0, 0]
theorem zeroL_bytes : zeroL = bytesN 0 := by decide
theorem bytes_ne_zero {R : F} (h : R ≠ 0) : bytesN R.val ≠ zeroL := by
  intro e
  rw [zeroL_bytes] at e
  have h1 := num_bytesN R.val (Nat.lt_trans R.isLt (by decide))
  rw [e, num_bytesN 0 (by decide)] at h1
  exact h (F.ext (by have : R.val = 0 := by omega
                     rw [this]; rfl))
theorem numF_own (R : F) : numF (bytesN R.val) = R := numF_bytes R R.val rfl

def c255 : List Int := [255, 0, 0, 0, 0, 0, 0, 0, 0, 0, 0, 0, 0, 0, 0, 0, 0, 0, 0, 0, 0, 0, 0, 0, 0, 0, 0, 0, 0, 0, 0, 0]
def c248 : List Int := [248, 0, 0, 0, 0, 0, 0, 0, 0, 0, 0, 0, 0, 0, 0, 0, 0, 0, 0, 0, 0, 0, 0, 0, 0, 0, 0, 0, 0, 0, 0, 64]
set_option maxHeartbeats 1000000 in
set_option maxRecDepth 100000 in
theorem works_any (w : World) : Calls Try.prog 49 #[] w (Gives (· = .bool true) w) := by
  have HC := fun w => clamp_any c255 w rfl (fun x hx => by simp [c255] at hx; omega)
  have e : clampL c255 = c248 := by decide
  rw [e] at HC
  have qe : ∀ w, (Op.equalIn 10000 68 (.agg (vals c248)) (.agg (vals c248))).run Try.prog w = .ok true w := fun w => by
    have h := run_equalIn_vals (P := Try.prog) w .u8 9998 68 5 32 Try.underlying68 Try.underlying5 (fun w => by kernel_rfl) c248 c248 rfl rfl
    rw [decide_eq_true rfl] at h
    exact h
  have HC' := Lib.hid HC
  clear HC e
  go_enter Try.func49, Try.ntmps49
  go_wp2_with fail
  refine (HC'.out _).mono ?_
  rintro e w1 ⟨r, rfl, rfl, b1⟩
  clear HC'
  have q2 : ∀ w, (Op.equalIn 10000 68 (.agg (vals c248)) (.agg #[.int .u8 248, .int .u8 0, .int .u8 0, .int .u8 0, .int .u8 0, .int .u8 0, .int .u8 0, .int .u8 0, .int .u8 0, .int .u8 0, .int .u8 0, .int .u8 0, .int .u8 0, .int .u8 0, .int .u8 0, .int .u8 0, .int .u8 0, .int .u8 0, .int .u8 0, .int .u8 0, .int .u8 0, .int .u8 0, .int .u8 0, .int .u8 0, .int .u8 0, .int .u8 0, .int .u8 0, .int .u8 0, .int .u8 0, .int .u8 0, .int .u8 0, .int .u8 64])).run Try.prog w = .ok true w := qe
  clear qe
  go_wp2_with fail
  clear q2
  go_returns
  exact ⟨_, rfl, rfl, b1⟩
end Go.Proofs.Ytciakfhjjnmeeaa
