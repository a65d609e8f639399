/- Walks of packages mask and field: Bit, Zero, Pick; Zero, Equal, Pick, Swap, Times. Nothing that was there is turned. -/
import Derived.Test.YtciakfhjjnmeeaaFieldB
import Derived.Test.YtciakfhjjnmeeaaFieldC
import Derived.Test.YtciakfhjjnmeeaaElem5
import Derived.Deep.QuietTactic
import Derived.BigQuiet
namespace Go.Proofs.Ytciakfhjjnmeeaa
open Go.RowKit Nt

set_option maxHeartbeats 400000 in
theorem mbit_any (x : Int) (w : World) (h0 : 0 ≤ x) (h1 : x < 18446744073709551616) :
    Calls Try.prog 75 #[.int .u64 x] w fun e w' => e = .returned (.int .u64 (mk (decide (x % 2 = 1)))) ∧ w = w' := by
  have H := Lib.hid (bit_mask x h0 h1)
  go_enter Try.func75, Try.ntmps75
  go_wp2
  go_ret
  exact ⟨by rw [← H.out]; rfl, rfl⟩

set_option maxHeartbeats 400000 in
theorem mpick_any (b : Bool) (x y : Int) (w : World) (hx : 0 ≤ x ∧ x < 18446744073709551616) (hy : 0 ≤ y ∧ y < 18446744073709551616) :
    Calls Try.prog 78 #[.int .u64 (mk b), .int .u64 x, .int .u64 y] w fun e w' => e = .returned (.int .u64 (sel b x y)) ∧ w' = w := by
  have H := Lib.hid (pick_bits b x y hx hy)
  go_enter Try.func78, Try.ntmps78
  go_wp2
  go_ret
  exact ⟨by rw [← H.out]; rfl, rfl⟩

set_option maxHeartbeats 400000 in
theorem mzero_any (x : Int) (w : World) (h0 : 0 ≤ x) (h1 : x < 18446744073709551616) :
    Calls Try.prog 70 #[.int .u64 x] w fun e w' => e = .returned (.int .u64 (mk (decide (x = 0)))) ∧ w = w' := by
  have H := Lib.hid (zero_bits x h0 h1)
  go_enter Try.func70, Try.ntmps70
  go_wp2_with fail
  rw [H.out]
  generalize hq : (if x = 0 then (1 : Int) else 0) = q
  have e : decide (q % 2 = 1) = decide (x = 0) := by rw [← hq]; by_cases h : x = 0 <;> simp [h]
  have hq0 : 0 ≤ q ∧ q < 18446744073709551616 := by rw [← hq]; split <;> omega
  clear hq H
  refine (mbit_any _ _ hq0.1 hq0.2).mono ?_
  rintro e w' ⟨rfl, rfl⟩
  rw [e]
  go_wp2
  go_ret
  exact ⟨rfl, rfl⟩

set_option maxHeartbeats 1000000 in
set_option maxRecDepth 100000 in
/-- Whether a number is 0. -/
theorem zero_any (x0 x1 x2 x3 x4 : Int) (n : F) (w : World) (h : El x0 x1 x2 x3 x4 n) :
    Calls Try.prog 28 #[ev x0 x1 x2 x3 x4] w fun e w' => e = .returned (.int .u64 (mk (decide (n = 0)))) ∧ Below w.heap.size w w' := by
  go_enter Try.func28, Try.ntmps28
  go_wp2_with fail
  refine (least_any _ _ _ _ _ n _ h).mono ?_
  rintro e w1 ⟨z0, z1, z2, z3, z4, rfl, hz, hb1⟩
  have B1 : Below w.heap.size w w1 := Below.trans (by go_grown) (hb1.mono (by simp))
  have i0 : ∀ w, (Instr.index 24 (.agg #[.int .u64 z0, .int .u64 z1, .int .u64 z2, .int .u64 z3, .int .u64 z4]) (.int .i64 0)).run Try.prog w = .ok (.int .u64 z0) w := fun _ => by kernel_rfl
  have i1 : ∀ w, (Instr.index 24 (.agg #[.int .u64 z0, .int .u64 z1, .int .u64 z2, .int .u64 z3, .int .u64 z4]) (.int .i64 1)).run Try.prog w = .ok (.int .u64 z1) w := fun _ => by kernel_rfl
  have i2 : ∀ w, (Instr.index 24 (.agg #[.int .u64 z0, .int .u64 z1, .int .u64 z2, .int .u64 z3, .int .u64 z4]) (.int .i64 2)).run Try.prog w = .ok (.int .u64 z2) w := fun _ => by kernel_rfl
  have i3 : ∀ w, (Instr.index 24 (.agg #[.int .u64 z0, .int .u64 z1, .int .u64 z2, .int .u64 z3, .int .u64 z4]) (.int .i64 3)).run Try.prog w = .ok (.int .u64 z3) w := fun _ => by kernel_rfl
  have i4 : ∀ w, (Instr.index 24 (.agg #[.int .u64 z0, .int .u64 z1, .int .u64 z2, .int .u64 z3, .int .u64 z4]) (.int .i64 4)).run Try.prog w = .ok (.int .u64 z4) w := fun _ => by kernel_rfl
  have HZ := Lib.hid (can_zero hz)
  clear hb1 hz
  go_wp2_with fail
  refine wp_loop_rounds 6 ?_
  iterate 5 (rw [rounds_succ]; go_wp2)
  rw [rounds_succ]; go_wp2_with fail
  refine (mzero_any _ _ HZ.out.1.1 HZ.out.1.2).mono ?_
  rintro e w2 ⟨rfl, rfl⟩
  rw [decide_eq_decide.2 HZ.out.2]
  go_wp2
  go_ret
  exact ⟨rfl, B1⟩

theorem sub_zero_iff (n m : F) : n - m = 0 ↔ n = m := by
  constructor
  · intro h; grind
  · rintro rfl; grind

set_option maxHeartbeats 1000000 in
/-- Whether two numbers are one. -/
theorem equal_any (x0 x1 x2 x3 x4 y0 y1 y2 y3 y4 : Int) (n m : F) (w : World) (hx : El x0 x1 x2 x3 x4 n) (hy : El y0 y1 y2 y3 y4 m) :
    Calls Try.prog 25 #[ev x0 x1 x2 x3 x4, ev y0 y1 y2 y3 y4] w fun e w' => e = .returned (.int .u64 (mk (decide (n = m)))) ∧ Below w.heap.size w w' := by
  go_enter Try.func25, Try.ntmps25
  go_wp2_with fail
  refine (sub_any _ _ _ _ _ _ _ _ _ _ n m _ hx hy).mono ?_
  rintro e w1 ⟨z0, z1, z2, z3, z4, rfl, hz, hb1⟩
  have B1 : Below w.heap.size w w1 := Below.trans (by go_grown) (hb1.mono (by simp; omega))
  clear hb1
  go_wp2_with fail
  refine (zero_any _ _ _ _ _ _ _ hz).mono ?_
  rintro e w2 ⟨rfl, hb2⟩
  rw [decide_eq_decide.2 (sub_zero_iff n m)]
  have B2 : Below w.heap.size w w2 := B1.trans (hb2.mono B1.size)
  go_wp2
  go_ret
  exact ⟨rfl, B2⟩
end Go.Proofs.Ytciakfhjjnmeeaa
