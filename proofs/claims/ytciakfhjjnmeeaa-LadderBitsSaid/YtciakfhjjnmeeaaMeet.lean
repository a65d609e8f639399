/- Products of the plain ladder commute; from 9 on none is 0; some numbers have the product 0 alone. No program in sight. -/
import Derived.Test.YtciakfhjjnmeeaaLad
import Derived.Test.YtciakfhjjnmeeaaPow
namespace Go.Proofs.Ytciakfhjjnmeeaa
namespace Nt
set_option maxRecDepth 20000
set_option exponentiation.threshold 2000
theorem pr1224481 : Pr 1224481 := trial 1224481 1106 (by decide) (by decide) (by decide +kernel)
theorem pr531581 : Pr 531581 := trial 531581 729 (by decide) (by decide) (by decide +kernel)
theorem pr1257559732178653 : Pr 1257559732178653 :=
  pock2 1257559732178653 1224481 1027014492 531581 2365697292 2 51 pr1224481 pr531581 (by decide) (by decide) (by decide) (by decide) (by decide) (by decide) (by decide +kernel) (by decide +kernel) (by decide +kernel)
theorem pr4434155615661930479 : Pr 4434155615661930479 :=
  pock1 4434155615661930479 1257559732178653 3526 2 62 pr1257559732178653 (by decide) (by decide) (by decide) (by decide) (by decide +kernel) (by decide +kernel)
theorem pr172054593956031949258510691 : Pr 172054593956031949258510691 :=
  pock1 172054593956031949258510691 4434155615661930479 38802110 2 88 pr4434155615661930479 (by decide) (by decide) (by decide) (by decide) (by decide +kernel) (by decide +kernel)
theorem pr19757330305831588566944191468367130476339 : Pr 19757330305831588566944191468367130476339 :=
  pock1 19757330305831588566944191468367130476339 172054593956031949258510691 114831751082918 2 134 pr172054593956031949258510691 (by decide) (by decide) (by decide) (by decide) (by decide +kernel) (by decide +kernel)
theorem pr276602624281642239937218680557139826668747 : Pr 276602624281642239937218680557139826668747 :=
  pock1 276602624281642239937218680557139826668747 19757330305831588566944191468367130476339 14 2 138 pr19757330305831588566944191468367130476339 (by decide) (by decide) (by decide) (by decide) (by decide +kernel) (by decide +kernel)
theorem pr7237005577332262213973186563042994240857116359379907606001950938285454250989 : Pr 7237005577332262213973186563042994240857116359379907606001950938285454250989 :=
  pock1 7237005577332262213973186563042994240857116359379907606001950938285454250989 276602624281642239937218680557139826668747 26163907866482859529727157400808004 2 253 pr276602624281642239937218680557139826668747 (by decide) (by decide) (by decide) (by decide) (by decide +kernel) (by decide +kernel)

end Nt
namespace Edw
open Nt

def D1 : F := 20800338683988658368647408995589388737092878452977063003340006470870624536394
def D2 : F := 28692721048178265397853269683490922171210976843790175684556505508326675974058
def SI : F := 19681161376707505956807079304988542015446066515923890162744021073123829784752
def LO : Nat := 7237005577332262213973186563042994240857116359379907606001950938285454250989
theorem LO_prime : Pr LO := pr7237005577332262213973186563042994240857116359379907606001950938285454250989
theorem D12 : D1 * D2 = 1 := by decide +kernel
theorem D1_kind : Kind 1 D1 := Or.inl ⟨rfl, by decide +kernel⟩
theorem D2_kind : Kind (-1) D2 := Or.inr ⟨rfl, by decide +kernel⟩
theorem SI_sq : SI * SI = -1 := by decide +kernel
def HP : Nat := 28948022309329048855892746252171976963317496166410141009864396001978282409974
def EP : Nat := 7237005577332262213973186563042994240829374041602535252466099000494570602494
theorem HP_eq : HP + HP + 1 = P := by decide
theorem EP_eq : EP + EP + (EP + EP) = HP + 2 := by decide
theorem D1_chi : D1 ^ HP = -1 := F.ext (by rw [val_pow, ← pm_eq P 255 _ _ (by decide)]; decide +kernel)
theorem D2_chi : D2 ^ HP = -1 := F.ext (by rw [val_pow, ← pm_eq P 255 _ _ (by decide)]; decide +kernel)

theorem pow_P1 {a : F} (h : a ≠ 0) : a ^ (HP + HP) = 1 := by
  have : a ^ (HP + HP + 1) = a := (congrArg (a ^ ·) HP_eq).trans (frob a)
  rw [pow_succ] at this
  exact mul_left_cancel (a := a) h (by have h2 : a * a ^ (HP + HP) = a ^ (HP + HP) * a := by grind
                                       rw [h2, this, one_r a 1 rfl])
theorem neg_one_ne : (-1 : F) ≠ 1 := by decide +kernel
theorem nonsq {d : F} (h : d ^ HP = -1) : NonSq d := by
  intro s hs
  have hd : d ≠ 0 := by
    intro e
    rw [e] at h
    have h0 : (0 : F) ^ HP = 0 := by
      rw [show HP = (HP - 1) + 1 by decide, pow_succ]; exact z1 _
    rw [h0] at h
    exact absurd h (by decide +kernel)
  have hs0 : s ≠ 0 := fun e => hd (by rw [← hs, e]; exact z1 _)
  have h1 := pow_P1 hs0
  rw [fpow_add, ← mul_fpow, hs, h] at h1
  exact neg_one_ne h1
theorem D1_non : NonSq D1 := nonsq D1_chi
theorem D2_non : NonSq D2 := nonsq D2_chi

theorem sqrt_of {r : F} (h : r ^ HP = 1) : ∃ s : F, s * s = r := by
  have h4 : (r ^ EP * r ^ EP) * (r ^ EP * r ^ EP) = r * r := by
    rw [← fpow_add, ← fpow_add, EP_eq, fpow_add, h]
    have h2 : r ^ 2 = r * r := by rw [pow_succ, fpow_one]
    rw [h2]; grind
  generalize r ^ EP = t at h4
  have : (t * t - r) * (t * t + r) = 0 := by
    have e : (t * t - r) * (t * t + r) = t * t * (t * t) - r * r := by grind
    rw [e, h4]; grind
  rcases mul_eq_zero this with e | e
  · exact ⟨t, by grind⟩
  · refine ⟨SI * t, ?_⟩
    have e2 : SI * t * (SI * t) = (SI * SI) * (t * t) := by grind
    rw [e2, SI_sq]; grind

theorem sqrt_or {r : F} (hr : r ≠ 0) : (∃ s : F, s * s = r) ∨ ∃ s : F, s * s = D1 * r := by
  have h := pow_P1 hr
  rw [fpow_add] at h
  have : (r ^ HP - 1) * (r ^ HP + 1) = 0 := by
    have e : (r ^ HP - 1) * (r ^ HP + 1) = r ^ HP * r ^ HP - 1 := by generalize r ^ HP = c; grind
    rw [e, h]; exact Fin.sub_self
  rcases mul_eq_zero this with e | e
  · exact Or.inl (sqrt_of (eq_of_sub e))
  · refine Or.inr (sqrt_of ?_)
    rw [mul_fpow, D1_chi]
    generalize r ^ HP = c at e
    grind

/-- A number that is not 0 belongs to a point of one curve or the other. -/
theorem pt_of {x1 : F} (hx : x1 ≠ 0) : ∃ g d p0, Kind g d ∧ NonSq d ∧ On d p0.1 p0.2 ∧ Rep g (x1, 1) p0 := by
  have nz : ∀ p : F × F, ¬ (((x1, 1) : F × F).1 = 0 ∧ ((x1, 1) : F × F).2 = 0) := fun _ h => hx h.1
  by_cases h1 : x1 + 1 = 0
  · refine ⟨-1, D2, (1, 0), D2_kind, D2_non, ?_, Rep.mk (by grind) (nz (1, 0)) ?_⟩
    · exact (fun (z o : F) (hz : z = 0) (ho : o = 1) => (by show o * o + z * z = 1 + D2 * (o * o) * (z * z); grind : On D2 o z)) 0 1 rfl rfl
    · exact (fun (z o : F) (hz : z = 0) (ho : o = 1) => (by grind : x1 * (-1 * (1 - z)) = o * (1 + z))) 0 1 rfl rfl
  · by_cases h2 : x1 - 1 = 0
    · refine ⟨1, D1, (1, 0), D1_kind, D1_non, ?_, Rep.mk (by grind) (nz (1, 0)) ?_⟩
      · exact (fun (z o : F) (hz : z = 0) (ho : o = 1) => (by show o * o + z * z = 1 + D1 * (o * o) * (z * z); grind : On D1 o z)) 0 1 rfl rfl
      · exact (fun (z o : F) (hz : z = 0) (ho : o = 1) => (by grind : x1 * (1 * (1 - z)) = o * (1 + z))) 0 1 rfl rfl
    · obtain ⟨y, hy⟩ : ∃ y, y = (x1 - 1) * inv (x1 + 1) := ⟨_, rfl⟩
      have hyx : y * (x1 + 1) = x1 - 1 := by rw [hy]; exact div_self_mul h1
      have y0 : y ≠ 0 := by intro e; rw [e] at hyx; exact h2 (by rw [← hyx]; exact (fun (z : F) (hz : z = 0) => (by grind : z * (x1 + 1) = 0)) 0 rfl)
      have q0 : 1 - D1 * (y * y) ≠ 0 := by
        intro e
        have hi := mul_inv y0
        refine D1_non (inv y) ?_
        have e2 : inv y * inv y = (D1 * (y * y)) * (inv y * inv y) := by
          have : D1 * (y * y) = 1 := by grind
          rw [this]; grind
        rw [e2]
        have e3 : D1 * (y * y) * (inv y * inv y) = D1 * ((y * inv y) * (y * inv y)) := by grind
        rw [e3, hi]; exact (fun (o : F) (ho : o = 1) => (by grind : D1 * (o * o) = D1)) 1 rfl
      have r0 : 1 - y * y ≠ 0 := by
        intro e
        have : (1 - y * y) * ((x1 + 1) * (x1 + 1)) = 4 * x1 := by
          have : (1 - y * y) * ((x1 + 1) * (x1 + 1)) = (x1 + 1) * (x1 + 1) - (y * (x1 + 1)) * (y * (x1 + 1)) := by grind
          rw [this, hyx]; grind
        rw [e] at this
        have h4 : 4 * x1 = 0 := by rw [← this]; exact (fun (z : F) (hz : z = 0) => (by grind : z * ((x1 + 1) * (x1 + 1)) = 0)) 0 rfl
        rcases mul_eq_zero h4 with e | e
        · exact absurd e (by decide +kernel)
        · exact hx e
      obtain ⟨r, hr⟩ : ∃ r, r = (1 - y * y) * inv (1 - D1 * (y * y)) := ⟨_, rfl⟩
      have hrq : r * (1 - D1 * (y * y)) = 1 - y * y := by rw [hr]; exact div_self_mul q0
      have rn : r ≠ 0 := by rw [hr]; exact mul_ne r0 (inv_ne_zero q0)
      rcases sqrt_or rn with ⟨s, hs⟩ | ⟨s, hs⟩
      · refine ⟨1, D1, (s, y), D1_kind, D1_non, ?_, Rep.mk (by grind) (nz (s, y)) ?_⟩
        · show s * s + y * y = 1 + D1 * (s * s) * (y * y)
          rw [hs]; grind
        · show x1 * (1 * (1 - y)) = 1 * (1 + y)
          grind
      · obtain ⟨y', hy'⟩ : ∃ y, y = (x1 + 1) * inv (x1 - 1) := ⟨_, rfl⟩
        have hyx' : y' * (x1 - 1) = x1 + 1 := by rw [hy']; exact div_self_mul h2
        have yy : y' * y = 1 := by
          have : (y' * y) * ((x1 + 1) * (x1 - 1)) = 1 * ((x1 + 1) * (x1 - 1)) := by
            have : (y' * y) * ((x1 + 1) * (x1 - 1)) = (y' * (x1 - 1)) * (y * (x1 + 1)) := by grind
            rw [this, hyx, hyx']; grind
          have c := mul_ne h1 h2
          refine mul_left_cancel c ?_
          grind
        refine ⟨-1, D2, (s, y'), D2_kind, D2_non, ?_, Rep.mk (by grind) (nz (s, y')) ?_⟩
        · show s * s + y' * y' = 1 + D2 * (s * s) * (y' * y')
          have D := D12
          generalize D1 = a at *
          generalize D2 = b at *
          have k1 : s * s * (b - y * y) = 1 - y * y := by
            rw [hs]
            have : a * r * (b - y * y) = r * ((a * b) - a * (y * y)) := by grind
            rw [this, D]; exact hrq
          have k2 : s * s * (b - y * y) * (y' * y') = (1 - y * y) * (y' * y') := by rw [k1]
          have k3 : s * s * (b - y * y) * (y' * y') = s * s * (b * (y' * y') - (y' * y) * (y' * y)) := by grind
          have k4 : (1 - y * y) * (y' * y') = y' * y' - (y' * y) * (y' * y) := by grind
          rw [k3, k4, yy] at k2
          grind
        · show x1 * (-1 * (1 - y')) = 1 * (1 + y')
          grind

/-! ### The number 0 -/
theorem stp_zero {s : (F × F) × (F × F)} (b : Bool) (h1 : s.1.1 * s.1.2 = 0) (h2 : s.2.1 * s.2.2 = 0) : (stp 0 b s).1.1 * (stp 0 b s).1.2 = 0 ∧ (stp 0 b s).2.1 * (stp 0 b s).2.2 = 0 := by
  have hd : ∀ p : F × F, p.1 * p.2 = 0 → (dbl p).2 = 0 := by
    intro p hp
    show ((p.1 + p.2) * (p.1 + p.2) - (p.1 - p.2) * (p.1 - p.2)) * _ = 0
    have : (p.1 + p.2) * (p.1 + p.2) - (p.1 - p.2) * (p.1 - p.2) = 4 * (p.1 * p.2) := by grind
    rw [this, hp]
    exact (fun (z c : F) (hz : z = 0) => (by grind : 4 * z * c = 0)) 0 _ rfl
  have ha : ∀ p q : F × F, (dad 0 p q).2 = 0 := by
    intro p q
    exact (fun (z c : F) (hz : z = 0) => (by grind : z * c = 0)) 0 _ rfl
  cases b
  · show (dbl s.1).1 * (dbl s.1).2 = 0 ∧ (dad 0 s.1 s.2).1 * (dad 0 s.1 s.2).2 = 0
    rw [hd _ h1, ha]; exact ⟨z1 _, z1 _⟩
  · show (dad 0 s.1 s.2).1 * (dad 0 s.1 s.2).2 = 0 ∧ (dbl s.2).1 * (dbl s.2).2 = 0
    rw [hd _ h2, ha]; exact ⟨z1 _, z1 _⟩
theorem lad_zero (V : Nat) (hV : V % 2 = 0) : ∀ (t : Nat) (s : (F × F) × (F × F)), s.1.1 * s.1.2 = 0 → s.2.1 * s.2.2 = 0 → (lad 0 V (t + 1) s).1.2 = 0
  | 0, s, h1, h2 => by
    show (stp 0 (decide (V / 1 % 2 = 1)) s).1.2 = 0
    rw [Nat.div_one, decide_eq_false (by omega)]
    show ((s.1.1 + s.1.2) * (s.1.1 + s.1.2) - (s.1.1 - s.1.2) * (s.1.1 - s.1.2)) * _ = 0
    have : (s.1.1 + s.1.2) * (s.1.1 + s.1.2) - (s.1.1 - s.1.2) * (s.1.1 - s.1.2) = 4 * (s.1.1 * s.1.2) := by grind
    rw [this, h1]
    exact (fun (z c : F) (hz : z = 0) => (by grind : 4 * z * c = 0)) 0 _ rfl
  | t + 1, s, h1, h2 => by
    obtain ⟨a, b⟩ := stp_zero (decide (V / 2 ^ (t + 1) % 2 = 1)) h1 h2
    exact lad_zero V hV t _ a b
theorem prod_zero (V : Nat) (hV : V % 2 = 0) : prod V 0 = 0 := by
  have := lad_zero V hV 254 ((1, 0), (0, 1)) (z1 _) (one_r 0 1 rfl)
  show (lad 0 V 255 ((1, 0), (0, 1))).1.1 * inv (lad 0 V 255 ((1, 0), (0, 1))).1.2 = 0
  rw [this, inv_zero]; exact z1 _

/-! ### Points whose number is 0 -/
section
variable {g d : F}
theorem d_ne_one (hd : NonSq d) : 1 - d ≠ 0 := fun e => hd 1 (by have : d = 1 := by grind
                                                                 rw [this]; exact one_r 1 1 rfl)
theorem y_one (hd : NonSq d) {p : F × F} (h : On d p.1 p.2) (hy : p.2 = 1) : p = zero := by
  obtain ⟨x, y⟩ := p
  simp only [] at hy
  have on := on_sub h
  simp only [] at on
  have : (1 - d) * (x * x) = 0 := by grind
  have hx := (mul_eq_zero this).resolve_left (d_ne_one hd)
  have hx0 : x = 0 := (mul_eq_zero hx).elim id id
  rw [hx0, hy]; rfl
theorem uo_zero : uo g zero = 0 := by
  show (1 + 1) * inv (g * (1 - 1)) = 0
  have : ∀ o : F, o = 1 → g * (1 - o) = 0 := by intro o ho; grind
  rw [this 1 rfl, inv_zero]; exact z1 _
theorem y_neg (hd : NonSq d) {p : F × F} (h : On d p.1 p.2) (hy : p.2 = -1) : mul d p 2 = zero := by
  refine y_one hd (mul_on hd h 2) ?_
  show (add d (add d zero p) p).2 = 1
  rw [show add d zero p = p from mul_one p]
  obtain ⟨x, y⟩ := p
  simp only [] at hy
  have on := on_sub h
  obtain ⟨a, b⟩ := dens hd h h
  simp only [] at on a b
  have e : (add d (x, y) (x, y)).2 * (1 - d * x * x * y * y) = y * y - x * x := div_self_mul b
  have e2 : (1 - d) * (x * x) = 0 := by grind
  have hx := (mul_eq_zero e2).resolve_left (d_ne_one hd)
  have e3 : 1 - d * x * x * y * y = 1 := by grind
  rw [e3, one_r _ 1 rfl] at e
  rw [e]; grind
theorem uo_neg {p : F × F} (hy : p.2 = -1) : uo g p = 0 := by
  have : 1 + p.2 = 0 := by grind
  show (1 + p.2) * _ = 0
  rw [this]
  exact (fun (z c : F) (hz : z = 0) => (by grind : z * c = 0)) 0 _ rfl
theorem mul_even (hd : NonSq d) {p : F × F} (h : On d p.1 p.2) (h2 : mul d p 2 = zero) (V : Nat) (hV : V % 2 = 0) : mul d p V = zero := by
  have : V = 2 * (V / 2) := by omega
  rw [this, ← mul_mul hd h, h2, mul_zero_pt]
/-- When a point's number is 0. -/
theorem uo_ne (hk : Kind g d) {p : F × F} (h1 : p.2 ≠ 1) (h2 : p.2 ≠ -1) : uo g p ≠ 0 := by
  have hg := hk.sq
  have a : 1 + p.2 ≠ 0 := fun e => h2 (by grind)
  have g0 : g ≠ 0 := fun e => one_ne_zero (by rw [← hg, e]; exact z1 _)
  have b : 1 - p.2 ≠ 0 := fun e => h1 (by grind)
  exact mul_ne a (inv_ne_zero (mul_ne g0 b))
theorem rep_uo (hk : Kind g d) {p : F × F} (h1 : p.2 ≠ 1) : Rep g (uo g p, 1) p := by
  have hg := hk.sq
  have g0 : g ≠ 0 := fun e => one_ne_zero (by rw [← hg, e]; exact z1 _)
  have b : 1 - p.2 ≠ 0 := fun e => h1 (by grind)
  have c := mul_ne g0 b
  refine ⟨inv (g * (1 - p.2)), inv_ne_zero c, ?_, ?_⟩
  · show (1 + p.2) * inv (g * (1 - p.2)) = _
    generalize inv (g * (1 - p.2)) = k; grind
  · show 1 = _
    have := mul_inv c
    generalize inv (g * (1 - p.2)) = k at *; grind

/-- The product of a point's number is the number of the point's product. -/
theorem prod_uo (hk : Kind g d) (hd : NonSq d) {q : F × F} (hq : On d q.1 q.2) (V : Nat) (hV : V < 2 ^ 255) (h2 : V % 2 = 0) : prod V (uo g q) = uo g (mul d q V) := by
  by_cases a : q.2 = 1
  · have := y_one hd hq a
    rw [this, uo_zero, prod_zero V h2, mul_zero_pt, uo_zero]
  · by_cases b : q.2 = -1
    · rw [uo_neg b, prod_zero V h2, mul_even hd hq (y_neg hd hq b) V h2, uo_zero]
    · exact prod_pt hk hd hq (rep_uo hk a) (uo_ne hk a b) V hV
end

/-- They meet. -/
theorem prod_comm (a b : Nat) (u : F) (ha : a < 2 ^ 255) (ha2 : a % 2 = 0) (hb : b < 2 ^ 255) (hb2 : b % 2 = 0) : prod a (prod b u) = prod b (prod a u) := by
  by_cases hu : u = 0
  · rw [hu, prod_zero a ha2, prod_zero b hb2, prod_zero a ha2]
  · obtain ⟨g, d, p0, hk, hd, h0, r0⟩ := pt_of hu
    rw [prod_pt hk hd h0 r0 hu a ha, prod_pt hk hd h0 r0 hu b hb, prod_uo hk hd (mul_on hd h0 b) a ha ha2, prod_uo hk hd (mul_on hd h0 a) b hb hb2, mul_swap hd h0]
end Edw
end Go.Proofs.Ytciakfhjjnmeeaa
