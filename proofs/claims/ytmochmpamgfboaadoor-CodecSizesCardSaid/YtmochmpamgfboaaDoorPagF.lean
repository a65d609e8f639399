/- How pages grow: plain laws. -/
import Derived.Test.YtmochmpamgfboaaDoorPagE
namespace Go.Proofs.YtmochmpamgfboaaDoor
open Go.RowKit
theorem ceil_le_iff (n per q : Nat) (hp : 0 < per) : ceil n per ≤ q ↔ n ≤ q * per := by
  unfold ceil
  rw [← Nat.lt_succ_iff, Nat.div_lt_iff_lt_mul hp, Nat.succ_mul]
  omega
theorem ceil_mono {n m per : Nat} (hp : 0 < per) (h : n ≤ m) : ceil n per ≤ ceil m per := (ceil_le_iff n per _ hp).2 (Nat.le_trans h ((ceil_le_iff m per _ hp).1 (Nat.le_refl _)))
theorem ceil_anti {n p1 p2 : Nat} (hp : 0 < p1) (h : p1 ≤ p2) : ceil n p2 ≤ ceil n p1 :=
  (ceil_le_iff n p2 _ (Nat.lt_of_lt_of_le hp h)).2 (Nat.le_trans ((ceil_le_iff n p1 _ hp).1 (Nat.le_refl _)) (Nat.mul_le_mul_left _ h))
theorem ceil_zero {per : Nat} (hp : 0 < per) : ceil 0 per = 0 := Nat.le_zero.1 ((ceil_le_iff 0 per 0 hp).2 (Nat.zero_le _))
theorem ceil_pos {n per : Nat} (hp : 0 < per) (h : 0 < n) : 0 < ceil n per := by
  rcases Nat.eq_zero_or_pos (ceil n per) with h0 | h0
  · have := (ceil_le_iff n per 0 hp).1 (Nat.le_of_eq h0)
    omega
  · exact h0
theorem pad_mono (n : Nat) (h : n + 1 ≤ 256) : padN n ≤ padN (n + 1) := by
  have all : ∀ j : Fin 256, padN j.val ≤ padN (j.val + 1) := by decide +kernel
  exact all ⟨n, by omega⟩
/-- The pages of a round. -/
def pg (n t r : Nat) : Nat := ceil (padN n) (t / r) + ceil n (t / 32)
theorem pg_pos {n t r : Nat} (h32 : 32 ≤ t) (h : 0 < n) : 0 < pg n t r := Nat.lt_of_lt_of_le (ceil_pos (Nat.div_pos h32 (by decide)) h) (Nat.le_add_left _ _)
section
variable {n t t2 r : Nat} (hr : 1 ≤ r) (hrt : r ≤ t) (h32 : 32 ≤ t)
include hr hrt h32
theorem pg_zero : pg 0 t r = 0 := by
  unfold pg
  rw [show padN 0 = 0 from rfl, ceil_zero (Nat.div_pos hrt hr), ceil_zero (Nat.div_pos h32 (by decide))]
theorem pg_le (h : n ≤ 256) : pg n t r ≤ 3 * n := by
  have h1 := ceil_le (padN n) (t / r) (Nat.div_pos hrt hr)
  have h2 := ceil_le n (t / 32) (Nat.div_pos h32 (by decide))
  have h3 := pad_le n h
  unfold pg
  omega
theorem pg_mono (h : n + 1 ≤ 256) : pg n t r ≤ pg (n + 1) t r :=
  Nat.add_le_add (ceil_mono (Nat.div_pos hrt hr) (pad_mono n h)) (ceil_mono (Nat.div_pos h32 (by decide)) (Nat.le_succ _))
theorem pg_anti (h : t ≤ t2) : pg n t2 r ≤ pg n t r :=
  Nat.add_le_add (ceil_anti (Nat.div_pos hrt hr) (Nat.div_le_div_right h)) (ceil_anti (Nat.div_pos h32 (by decide)) (Nat.div_le_div_right h))
end
theorem pages_pg {n0 n1 n2 n4 n5 k rq rp : Int} {t rc n q : Nat} (h : msr n0 n1 n2 t n4 n5 k = (rq, rp, (rc : Int), 0)) (hn : (n : Int) ≤ n0) (hb : n ≤ 256) (hr : 1 ≤ rc) (hrt : rc ≤ t) (ht : t ≤ 4096) (h32 : 32 ≤ t) (hq : pg n t rc = q) (w : World) :
    Calls Tryd.prog 43 #[.agg #[.int .i64 n0, .int .i64 n1, .int .i64 n2, .int .i64 t, .int .i64 n4, .int .i64 n5], .int .i64 k, .int .i64 n] w (Gives (· = .tuple #[.int .i64 q, .int .i64 0]) w) := by
  subst hq
  exact pages_ok h hn hb hr hrt ht h32 rfl rfl rfl rfl rfl w
theorem cmp_neq {p q : Operand} {a b : Int} {c : Bool} (h : decide (a ≠ b) = c) (w : World) : (do eqGuard .neq 3 p q (.int .i64 a) (.int .i64 b); binOp .neq 3 (.int .i64 a) (.int .i64 b) : Sem Value).run Tryd.prog w = .ok (.bool c) w := by
  subst h
  by_cases h : a = b <;> go_simp <;> simp [h]
theorem cmp_eql {p q : Operand} {a b : Int} {c : Bool} (h : decide (a = b) = c) (w : World) : (do eqGuard .eql 3 p q (.int .i64 a) (.int .i64 b); binOp .eql 3 (.int .i64 a) (.int .i64 b) : Sem Value).run Tryd.prog w = .ok (.bool c) w := by
  subst h
  by_cases h : a = b <;> go_simp <;> simp [h]
theorem cmp_lss {p q : Operand} {a b : Int} {c : Bool} (h : decide (a < b) = c) (w : World) : (do eqGuard .lss 3 p q (.int .i64 a) (.int .i64 b); binOp .lss 3 (.int .i64 a) (.int .i64 b) : Sem Value).run Tryd.prog w = .ok (.bool c) w := by
  subst h; rfl
theorem cmp_gtr {p q : Operand} {a b : Int} {c : Bool} (h : decide (b < a) = c) (w : World) : (do eqGuard .gtr 3 p q (.int .i64 a) (.int .i64 b); binOp .gtr 3 (.int .i64 a) (.int .i64 b) : Sem Value).run Tryd.prog w = .ok (.bool c) w := by
  subst h; rfl
theorem mul_in {p q : Operand} (a b : Int) (h : -9223372036854775808 ≤ a * b ∧ a * b ≤ 9223372036854775807) (w : World) : (do eqGuard .mul 3 p q (.int .i64 a) (.int .i64 b); binOp .mul 3 (.int .i64 a) (.int .i64 b) : Sem Value).run Tryd.prog w = .ok (.int .i64 (a * b)) w := by
  have e : IntKind.i64.wrap (a * b) = a * b := IntWalk.i64_in _ (by omega)
  conv => rhs; rw [← e]
  rfl
theorem sub_in {p q : Operand} (a b c : Int) (h : a - b = c) (hc : -9223372036854775808 ≤ c ∧ c ≤ 9223372036854775807) (w : World) : (do eqGuard .sub 3 p q (.int .i64 a) (.int .i64 b); binOp .sub 3 (.int .i64 a) (.int .i64 b) : Sem Value).run Tryd.prog w = .ok (.int .i64 c) w := by
  subst h
  have e : IntKind.i64.wrap (a - b) = a - b := IntWalk.i64_in _ (by omega)
  conv => rhs; rw [← e]
  rfl
end Go.Proofs.YtmochmpamgfboaaDoor
