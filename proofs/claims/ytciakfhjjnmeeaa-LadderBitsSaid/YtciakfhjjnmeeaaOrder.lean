/- The order of the number 9; numbers of low order. No program in sight. -/
import Derived.Test.YtciakfhjjnmeeaaMeet
namespace Go.Proofs.Ytciakfhjjnmeeaa
namespace Edw
open Nt

def BP : F × F := (9771384041963202563870679428059935816164187996444183106833894008023910952347, 46316835694926478169428394003475163141307993866256225615783033603165251855960)
theorem BP_on : On D1 BP.1 BP.2 := by unfold On; decide +kernel
theorem nine_ne : (9 : F) ≠ 0 := by decide
theorem BP_rep : Rep 1 (9, 1) BP := Rep.mk (by decide +kernel) (by rintro ⟨a, _⟩; exact nine_ne a) (by decide +kernel)

theorem lad_LO : (lad 9 LO 255 ((1, 0), (9, 1))).1.2 = 0 := by decide +kernel

theorem start_rep {g d : F} (hg : g * g = 1) (V : Nat) (hV : V < 2 ^ 255) {p0 : F × F} {x1 : F} (r0 : Rep g (x1, 1) p0) : Rep g ((1, 0) : F × F) (mul d p0 (V / 2 ^ 255)) ∧ Rep g (x1, 1) (mul d p0 (V / 2 ^ 255 + 1)) := by
  have e : V / 2 ^ 255 = 0 := Nat.div_eq_of_lt hV
  rw [e]
  refine ⟨Rep.mk hg (by rintro ⟨a, _⟩; exact one_ne_zero a) ((fun (z o : F) (hz : z = 0) (ho : o = 1) => (by grind : o * (g * (1 - o)) = z * (1 + o))) 0 1 rfl rfl), ?_⟩
  show Rep g (x1, 1) (mul d p0 1)
  rw [mul_one]; exact r0

theorem BP_order : mul D1 BP LO = zero := by
  obtain ⟨a, b⟩ := start_rep (d := D1) D1_kind.sq LO (by decide) BP_rep
  obtain ⟨l, hl, _, h2⟩ := (lad_rep D1_kind D1_non BP_on BP_rep nine_ne LO 255 ((1, 0), (9, 1)) a b).1
  rw [lad_LO] at h2
  refine y_one D1_non (mul_on D1_non BP_on LO) ?_
  have := (mul_eq_zero h2.symm).resolve_left hl
  grind

theorem mul_mod {d : F} (hd : NonSq d) {p : F × F} (hp : On d p.1 p.2) {n : Nat} (hn : mul d p n = zero) (m : Nat) : mul d p m = mul d p (m % n) := by
  have e : m = n * (m / n) + m % n := (Nat.div_add_mod m n).symm
  conv => lhs; rw [e]
  rw [mul_add hd hp, ← mul_mul hd hp, hn, mul_zero_pt, add_comm, add_zero]
theorem mul_gcd {d : F} (hd : NonSq d) {p : F × F} (hp : On d p.1 p.2) (m n : Nat) : mul d p m = zero → mul d p n = zero → mul d p (Nat.gcd m n) = zero := by
  induction m, n using Nat.gcd.induction with
  | H0 n => intro _ h; rw [Nat.gcd_zero_left]; exact h
  | H1 m n _ ih =>
    intro h1 h2
    rw [Nat.gcd_rec]
    exact ih (by rw [← mul_mod hd hp h1]; exact h2) h1

theorem BP_ne : BP ≠ zero := by decide +kernel
theorem BP_free {V : Nat} (hV : ¬ LO ∣ V) : mul D1 BP V ≠ zero := by
  intro h
  have hc : Nat.Coprime LO V := LO_prime.cop hV
  have := mul_gcd D1_non BP_on LO V BP_order h
  rw [hc, mul_one] at this
  exact BP_ne this

theorem not_dvd_clamped {a : Nat} (h8 : a % 8 = 0) (h0 : 0 < a) (ha : a < 2 ^ 255) : ¬ LO ∣ a := by
  intro h
  have e : a = 8 * (a / 8) := by omega
  rw [e] at h
  rcases LO_prime.dvd_mul h with h | h
  · exact absurd (Nat.le_of_dvd (by decide) h) (by decide)
  · have := Nat.le_of_dvd (by omega) h
    have hl : LO = 7237005577332262213973186563042994240857116359379907606001950938285454250989 := rfl
    omega

theorem uo_free {V : Nat} (hV : ¬ LO ∣ V) : uo 1 (mul D1 BP V) ≠ 0 := by
  have on := mul_on D1_non BP_on V
  refine uo_ne D1_kind (fun e => BP_free hV (y_one D1_non on e)) (fun e => ?_)
  have h2 := y_neg D1_non on e
  rw [mul_mul D1_non BP_on] at h2
  refine BP_free (fun hd => ?_) h2
  rcases LO_prime.dvd_mul hd with h | h
  · exact hV h
  · exact absurd (Nat.le_of_dvd (by decide) h) (by decide)

theorem prod_nine {a : Nat} (h8 : a % 8 = 0) (h0 : 0 < a) (ha : a < 2 ^ 255) : prod a 9 ≠ 0 := by
  rw [prod_pt D1_kind D1_non BP_on BP_rep nine_ne a ha]
  exact uo_free (not_dvd_clamped h8 h0 ha)
theorem prod_nine2 {a b : Nat} (h8 : a % 8 = 0) (h0 : 0 < a) (ha : a < 2 ^ 255) (h8' : b % 8 = 0) (h0' : 0 < b) (hb : b < 2 ^ 255) : prod a (prod b 9) ≠ 0 := by
  rw [prod_pt D1_kind D1_non BP_on BP_rep nine_ne b hb, prod_uo D1_kind D1_non (mul_on D1_non BP_on b) a ha (by omega), mul_mul D1_non BP_on]
  refine uo_free (fun hd => ?_)
  rcases LO_prime.dvd_mul hd with h | h
  · exact not_dvd_clamped h8' h0' hb h
  · exact not_dvd_clamped h8 h0 ha h

theorem add_is {d : F} (hd : NonSq d) {p q r : F × F} (hp : On d p.1 p.2) (hq : On d q.1 q.2) (h1 : p.1 * q.2 + p.2 * q.1 = r.1 * (1 + d * p.1 * q.1 * p.2 * q.2)) (h2 : p.2 * q.2 - p.1 * q.1 = r.2 * (1 - d * p.1 * q.1 * p.2 * q.2)) : add d p q = r := by
  obtain ⟨a, b⟩ := dens hd hp hq
  have c : ∀ x y z : F, y ≠ 0 → x = z * y → x * inv y = z := by
    intro x y z hy h
    have := mul_inv hy
    rw [h]
    have e : z * y * inv y = z * (y * inv y) := by grind
    rw [e, this]; exact one_r z 1 rfl
  exact Prod.ext (c _ _ _ a h1) (c _ _ _ b h2)
theorem mul_eight {d : F} (hd : NonSq d) {p p2 p4 : F × F} (hp : On d p.1 p.2) (h2 : add d p p = p2) (h4 : add d p2 p2 = p4) (h8 : add d p4 p4 = zero) : mul d p 8 = zero := by
  have e2 : mul d p 2 = p2 := by rw [← h2]; show add d (add d zero p) p = _; rw [add_comm zero p, add_zero]
  have e4 : mul d p 4 = p4 := by rw [show 4 = 2 + 2 from rfl, mul_add hd hp, e2, h4]
  rw [show 8 = 4 + 4 from rfl, mul_add hd hp, e4, h8]

/-- A point of an order that divides 8. -/
theorem low_order {g d : F} (hk : Kind g d) (hd : NonSq d) {x1 : F} {p0 : F × F} (h0 : On d p0.1 p0.2) (r0 : Rep g (x1, 1) p0) (hx : x1 ≠ 0) (h8 : mul d p0 8 = zero) (V : Nat) (hV : V < 2 ^ 255) (hV8 : V % 8 = 0) : prod V x1 = 0 := by
  rw [prod_pt hk hd h0 r0 hx V hV]
  have : V = 8 * (V / 8) := by omega
  rw [this, ← mul_mul hd h0, h8, mul_zero_pt, uo_zero]

theorem on_one : On D1 (((1, 0) : F × F)).1 (((1, 0) : F × F)).2 := by unfold On; decide +kernel
theorem on2_one : On D1 (((0, 57896044618658097711785492504343953926634992332820282019728792003956564819948) : F × F)).1 (((0, 57896044618658097711785492504343953926634992332820282019728792003956564819948) : F × F)).2 := by unfold On; decide +kernel
theorem on4_one : On D1 (((0, 1) : F × F)).1 (((0, 1) : F × F)).2 := by unfold On; decide +kernel
theorem eight_one : mul D1 (1, 0) 8 = zero := mul_eight D1_non on_one (add_is (r := (0, 57896044618658097711785492504343953926634992332820282019728792003956564819948)) D1_non on_one on_one (by decide +kernel) (by decide +kernel)) (add_is (r := (0, 1)) D1_non on2_one on2_one (by decide +kernel) (by decide +kernel)) (add_is (r := zero) D1_non on4_one on4_one (by decide +kernel) (by decide +kernel))
theorem weak_one (V : Nat) (hV : V < 2 ^ 255) (h8 : V % 8 = 0) : prod V 1 = 0 :=
  low_order D1_kind D1_non (p0 := (1, 0)) on_one (Rep.mk (by decide +kernel) (by rintro ⟨_, a⟩; exact one_ne_zero a) (by decide +kernel)) (by decide +kernel) eight_one V hV h8
theorem on_neg : On D2 (((1, 0) : F × F)).1 (((1, 0) : F × F)).2 := by unfold On; decide +kernel
theorem on2_neg : On D2 (((0, 57896044618658097711785492504343953926634992332820282019728792003956564819948) : F × F)).1 (((0, 57896044618658097711785492504343953926634992332820282019728792003956564819948) : F × F)).2 := by unfold On; decide +kernel
theorem on4_neg : On D2 (((0, 1) : F × F)).1 (((0, 1) : F × F)).2 := by unfold On; decide +kernel
theorem eight_neg : mul D2 (1, 0) 8 = zero := mul_eight D2_non on_neg (add_is (r := (0, 57896044618658097711785492504343953926634992332820282019728792003956564819948)) D2_non on_neg on_neg (by decide +kernel) (by decide +kernel)) (add_is (r := (0, 1)) D2_non on2_neg on2_neg (by decide +kernel) (by decide +kernel)) (add_is (r := zero) D2_non on4_neg on4_neg (by decide +kernel) (by decide +kernel))
theorem weak_neg (V : Nat) (hV : V < 2 ^ 255) (h8 : V % 8 = 0) : prod V (-1) = 0 :=
  low_order D2_kind D2_non (p0 := (1, 0)) on_neg (Rep.mk (by decide +kernel) (by rintro ⟨_, a⟩; exact one_ne_zero a) (by decide +kernel)) (by decide +kernel) eight_neg V hV h8
theorem on_five : On D1 (((2707385501144840649318225287225658788936804267575313519463743609750303402022, 55188659117513257062467267217118295137698188065244968500265048394206261417927) : F × F)).1 (((2707385501144840649318225287225658788936804267575313519463743609750303402022, 55188659117513257062467267217118295137698188065244968500265048394206261417927) : F × F)).2 := by unfold On; decide +kernel
theorem on2_five : On D1 (((57896044618658097711785492504343953926634992332820282019728792003956564819948, 0) : F × F)).1 (((57896044618658097711785492504343953926634992332820282019728792003956564819948, 0) : F × F)).2 := by unfold On; decide +kernel
theorem on4_five : On D1 (((0, 57896044618658097711785492504343953926634992332820282019728792003956564819948) : F × F)).1 (((0, 57896044618658097711785492504343953926634992332820282019728792003956564819948) : F × F)).2 := by unfold On; decide +kernel
theorem eight_five : mul D1 (2707385501144840649318225287225658788936804267575313519463743609750303402022, 55188659117513257062467267217118295137698188065244968500265048394206261417927) 8 = zero := mul_eight D1_non on_five (add_is (r := (57896044618658097711785492504343953926634992332820282019728792003956564819948, 0)) D1_non on_five on_five (by decide +kernel) (by decide +kernel)) (add_is (r := (0, 57896044618658097711785492504343953926634992332820282019728792003956564819948)) D1_non on2_five on2_five (by decide +kernel) (by decide +kernel)) (add_is (r := zero) D1_non on4_five on4_five (by decide +kernel) (by decide +kernel))
theorem weak_five (V : Nat) (hV : V < 2 ^ 255) (h8 : V % 8 = 0) : prod V 325606250916557431795983626356110631294008115727848805560023387167927233504 = 0 :=
  low_order D1_kind D1_non (p0 := (2707385501144840649318225287225658788936804267575313519463743609750303402022, 55188659117513257062467267217118295137698188065244968500265048394206261417927)) on_five (Rep.mk (by decide +kernel) (by rintro ⟨_, a⟩; exact one_ne_zero a) (by decide +kernel)) (by decide +kernel) eight_five V hV h8
theorem on_six : On D1 (((2707385501144840649318225287225658788936804267575313519463743609750303402022, 2707385501144840649318225287225658788936804267575313519463743609750303402022) : F × F)).1 (((2707385501144840649318225287225658788936804267575313519463743609750303402022, 2707385501144840649318225287225658788936804267575313519463743609750303402022) : F × F)).2 := by unfold On; decide +kernel
theorem on2_six : On D1 (((1, 0) : F × F)).1 (((1, 0) : F × F)).2 := by unfold On; decide +kernel
theorem on4_six : On D1 (((0, 57896044618658097711785492504343953926634992332820282019728792003956564819948) : F × F)).1 (((0, 57896044618658097711785492504343953926634992332820282019728792003956564819948) : F × F)).2 := by unfold On; decide +kernel
theorem eight_six : mul D1 (2707385501144840649318225287225658788936804267575313519463743609750303402022, 2707385501144840649318225287225658788936804267575313519463743609750303402022) 8 = zero := mul_eight D1_non on_six (add_is (r := (1, 0)) D1_non on_six on_six (by decide +kernel) (by decide +kernel)) (add_is (r := (0, 57896044618658097711785492504343953926634992332820282019728792003956564819948)) D1_non on2_six on2_six (by decide +kernel) (by decide +kernel)) (add_is (r := zero) D1_non on4_six on4_six (by decide +kernel) (by decide +kernel))
theorem weak_six (V : Nat) (hV : V < 2 ^ 255) (h8 : V % 8 = 0) : prod V 39382357235489614581723060781553021112529911719440698176882885853963445705823 = 0 :=
  low_order D1_kind D1_non (p0 := (2707385501144840649318225287225658788936804267575313519463743609750303402022, 2707385501144840649318225287225658788936804267575313519463743609750303402022)) on_six (Rep.mk (by decide +kernel) (by rintro ⟨_, a⟩; exact one_ne_zero a) (by decide +kernel)) (by decide +kernel) eight_six V hV h8
end Edw
end Go.Proofs.Ytciakfhjjnmeeaa
