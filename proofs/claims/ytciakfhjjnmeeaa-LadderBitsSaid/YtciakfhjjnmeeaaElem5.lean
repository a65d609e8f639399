/- Plain arithmetic of masks. No condition. -/
import Derived.Test.YtciakfhjjnmeeaaElem4
namespace Go.Proofs.Ytciakfhjjnmeeaa
open Nt

/-- The mask that says so. -/
def mk (b : Bool) : Int := if b then 18446744073709551615 else 0
/-- What a mask chooses. -/
def sel (b : Bool) (x y : Int) : Int := if b then x else y
def selF (b : Bool) (x y : F) : F := if b then x else y

theorem mk_range (b : Bool) : 0 ≤ mk b ∧ mk b < 18446744073709551616 := by cases b <;> decide
theorem sel_range {b : Bool} {x y : Int} (hx : 0 ≤ x ∧ x < 18446744073709551616) (hy : 0 ≤ y ∧ y < 18446744073709551616) : 0 ≤ sel b x y ∧ sel b x y < 18446744073709551616 := by
  cases b
  · exact hy
  · exact hx

theorem bit_mask (x : Int) (h0 : 0 ≤ x) (h1 : x < 18446744073709551616) : IntKind.u64.wrap (-bits .and .u64 x 1) = mk (decide (x % 2 = 1)) := by
  rw [and_one x h0 h1, IntKind.wrap_u64]
  have h : x % 2 = 0 ∨ x % 2 = 1 := by omega
  rcases h with h | h <;> rw [h] <;> decide

theorem pick_bits (b : Bool) (x y : Int) (hx : 0 ≤ x ∧ x < 18446744073709551616) (hy : 0 ≤ y ∧ y < 18446744073709551616) : bits .xor .u64 y (bits .and .u64 (mk b) (bits .xor .u64 x y)) = sel b x y := by
  obtain ⟨X, rfl⟩ := Int.eq_ofNat_of_zero_le hx.1
  obtain ⟨Y, rfl⟩ := Int.eq_ofNat_of_zero_le hy.1
  have hX : X < 18446744073709551616 := by omega
  have hY : Y < 18446744073709551616 := by omega
  have hXY : X ^^^ Y < 18446744073709551616 := Nat.xor_lt_two_pow (n := 64) hX hY
  rw [u64_xor_nat X Y hX hY]
  cases b
  · show bits .xor .u64 (Y : Int) (bits .and .u64 ((0 : Nat) : Int) _) = _
    rw [u64_and_nat 0 _ (by decide) hXY, Nat.zero_and, u64_xor_nat Y 0 hY (by decide), Nat.xor_zero]; rfl
  · show bits .xor .u64 (Y : Int) (bits .and .u64 ((18446744073709551615 : Nat) : Int) _) = _
    have e : (18446744073709551615 : Nat) = 2 ^ 64 - 1 := rfl
    rw [u64_and_nat _ _ (by decide) hXY, Nat.and_comm, e, Nat.and_two_pow_sub_one_eq_mod, Nat.mod_eq_of_lt hXY, u64_xor_nat Y _ hY hXY, Nat.xor_comm X Y, ← Nat.xor_assoc, Nat.xor_self, Nat.zero_xor]; rfl

theorem zero_bits (x : Int) (h0 : 0 ≤ x) (h1 : x < 18446744073709551616) : bits .xor .u64 (bits .or .u64 x (IntKind.u64.wrap (-x)) / 9223372036854775808) 1 = if x = 0 then 1 else 0 := by
  obtain ⟨X, rfl⟩ := Int.eq_ofNat_of_zero_le h0
  have hX : X < 18446744073709551616 := by omega
  by_cases h : X = 0
  · subst h; decide
  · have e : IntKind.u64.wrap (-(X : Int)) = ((18446744073709551616 - X : Nat) : Int) := by rw [IntKind.wrap_u64]; omega
    have hb : 18446744073709551616 - X < 18446744073709551616 := by omega
    have l1 : X ≤ X ||| (18446744073709551616 - X) := Nat.left_le_or
    have l2 : 18446744073709551616 - X ≤ X ||| (18446744073709551616 - X) := Nat.right_le_or
    have l3 : X ||| (18446744073709551616 - X) < 18446744073709551616 := Nat.or_lt_two_pow (n := 64) hX hb
    rw [e, u64_or_nat X _ hX hb, if_neg (by omega)]
    have : (((X ||| (18446744073709551616 - X) : Nat) : Int) / 9223372036854775808) = 1 := by omega
    rw [this]; decide

theorem or_zero_iff (a b : Int) (ha : 0 ≤ a ∧ a < 18446744073709551616) (hb : 0 ≤ b ∧ b < 18446744073709551616) :
    (0 ≤ bits .or .u64 a b ∧ bits .or .u64 a b < 18446744073709551616) ∧ (bits .or .u64 a b = 0 ↔ a = 0 ∧ b = 0) := by
  obtain ⟨A, rfl⟩ := Int.eq_ofNat_of_zero_le ha.1
  obtain ⟨B, rfl⟩ := Int.eq_ofNat_of_zero_le hb.1
  have hA : A < 18446744073709551616 := by omega
  have hB : B < 18446744073709551616 := by omega
  rw [u64_or_nat A B hA hB]
  have l3 : A ||| B < 18446744073709551616 := Nat.or_lt_two_pow (n := 64) hA hB
  have l1 : A ≤ A ||| B := Nat.left_le_or
  have l2 : B ≤ A ||| B := Nat.right_le_or
  refine ⟨by omega, ?_⟩
  constructor
  · intro h; omega
  · rintro ⟨h1, h2⟩
    have : A = 0 := by omega
    have : B = 0 := by omega
    subst A; subst B; decide

theorem or_zero_left (b : Int) (hb : 0 ≤ b ∧ b < 18446744073709551616) : bits .or .u64 0 b = b := by
  obtain ⟨B, rfl⟩ := Int.eq_ofNat_of_zero_le hb.1
  have := u64_or_nat 0 B (by decide) (by omega)
  rw [Nat.zero_or] at this
  exact this

/-- All limbs are 0 just where the number is. -/
theorem can_zero {z0 z1 z2 z3 z4 : Int} {n : F} (h : Can z0 z1 z2 z3 z4 n) :
    (0 ≤ bits .or .u64 (bits .or .u64 (bits .or .u64 (bits .or .u64 (bits .or .u64 0 z0) z1) z2) z3) z4 ∧ bits .or .u64 (bits .or .u64 (bits .or .u64 (bits .or .u64 (bits .or .u64 0 z0) z1) z2) z3) z4 < 18446744073709551616) ∧
    (bits .or .u64 (bits .or .u64 (bits .or .u64 (bits .or .u64 (bits .or .u64 0 z0) z1) z2) z3) z4 = 0 ↔ n = 0) := by
  obtain ⟨a0, a1, a2, a3, a4, hs⟩ := h
  rw [or_zero_left z0 (by omega)]
  have k1 := or_zero_iff z0 z1 (by omega) (by omega)
  have k2 := or_zero_iff _ z2 k1.1 (by omega)
  have k3 := or_zero_iff _ z3 k2.1 (by omega)
  have k4 := or_zero_iff _ z4 k3.1 (by omega)
  refine ⟨k4.1, ?_⟩
  rw [k4.2, k3.2, k2.2, k1.2]
  constructor
  · rintro ⟨⟨⟨⟨h0, h1⟩, h2⟩, h3⟩, h4⟩
    subst h0 h1 h2 h3 h4
    have : n.val = 0 := by omega
    exact F.ext this
  · rintro rfl
    have : ((0 : F).val : Int) = 0 := rfl
    rw [this] at hs
    omega

theorem el_sel {x0 x1 x2 x3 x4 y0 y1 y2 y3 y4 : Int} {n m : F} (b : Bool) (hx : El x0 x1 x2 x3 x4 n) (hy : El y0 y1 y2 y3 y4 m) : El (sel b x0 y0) (sel b x1 y1) (sel b x2 y2) (sel b x3 y3) (sel b x4 y4) (selF b n m) := by
  cases b
  · exact hy
  · exact hx
end Go.Proofs.Ytciakfhjjnmeeaa
