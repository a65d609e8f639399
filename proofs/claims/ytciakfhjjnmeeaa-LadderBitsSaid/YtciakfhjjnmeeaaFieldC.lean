/- Walks of package field: Add, Sub, Neg; math/bits.Mul64; the sum of products. Nothing that was there is turned, but for the sum. -/
import Derived.Test.YtciakfhjjnmeeaaFieldA
import Derived.Test.YtciakfhjjnmeeaaElem3
namespace Go.Proofs.Ytciakfhjjnmeeaa
open Go.RowKit Nt

set_option maxHeartbeats 1000000 in
set_option maxRecDepth 100000 in
theorem add_any (x0 x1 x2 x3 x4 y0 y1 y2 y3 y4 : Int) (n m : F) (w : World) (hx : El x0 x1 x2 x3 x4 n) (hy : El y0 y1 y2 y3 y4 m) :
    Calls Try.prog 30 #[ev x0 x1 x2 x3 x4, ev y0 y1 y2 y3 y4] w (ElemOut (n + m) w) := by
  have HW := add_wd hx hy
  obtain ⟨a0, a1, a2, a3, a4, _⟩ := hx
  obtain ⟨b0, b1, b2, b3, b4, _⟩ := hy
  go_enter Try.func30, Try.ntmps30
  go_wp2_with fail
  refine wp_loop_rounds 6 ?_
  iterate 5 (rw [rounds_succ]; go_wp2; go_region; go_wp2)
  rw [rounds_succ]; go_wp2_with fail
  refine (carried_any _ _ _ _ _ _ _ HW).mono ?_
  rintro e w1 ⟨z0, z1, z2, z3, z4, rfl, hz, hb1⟩
  have Q1 := row_keep hb1 (new3_2 ..) (by simp)
  have B1 : Below w.heap.size w w1 := Below.trans (by go_grown) (hb1.mono (by simp; omega))
  clear hb1 a0 a1 a2 a3 a4 b0 b1 b2 b3 b4 HW
  go_wp2_with (refine st_row rfl 26 (.tmp 4) _ rfl _ #[.int .u64 z0, .int .u64 z1, .int .u64 z2, .int .u64 z3, .int .u64 z4] (by rfl) (by rfl) _ _ Q1 5 tElem (by rfl) (by rfl) (ev_one ..) ?_)
  refine ret_row rfl _ _ _ rfl (row_put Q1) 5 tElem (by rfl) rfl ?_
  exact ⟨_, _, _, _, _, rfl, hz, below_setRow B1 (by omega) _⟩

set_option maxHeartbeats 1000000 in
set_option maxRecDepth 100000 in
theorem sub_any (x0 x1 x2 x3 x4 y0 y1 y2 y3 y4 : Int) (n m : F) (w : World) (hx : El x0 x1 x2 x3 x4 n) (hy : El y0 y1 y2 y3 y4 m) :
    Calls Try.prog 31 #[ev x0 x1 x2 x3 x4, ev y0 y1 y2 y3 y4] w (ElemOut (n - m) w) := by
  have HW := sub_wd hx hy
  obtain ⟨a0, a1, a2, a3, a4, _⟩ := hx
  obtain ⟨b0, b1, b2, b3, b4, _⟩ := hy
  go_enter Try.func31, Try.ntmps31
  go_wp2_with fail
  refine wp_loop_rounds 5 ?_
  iterate 4 (rw [rounds_succ]; go_wp2; go_region; go_wp2)
  rw [rounds_succ]; go_wp2_with fail
  refine (carried_any _ _ _ _ _ _ _ HW).mono ?_
  rintro e w1 ⟨z0, z1, z2, z3, z4, rfl, hz, hb1⟩
  have Q1 := row_keep hb1 (new3_2 ..) (by simp)
  have B1 : Below w.heap.size w w1 := Below.trans (by go_grown) (hb1.mono (by simp; omega))
  clear hb1 a0 a1 a2 a3 a4 b0 b1 b2 b3 b4 HW
  go_wp2_with (refine st_row rfl 26 (.tmp 4) _ rfl _ #[.int .u64 z0, .int .u64 z1, .int .u64 z2, .int .u64 z3, .int .u64 z4] (by rfl) (by rfl) _ _ Q1 5 tElem (by rfl) (by rfl) (ev_one ..) ?_)
  refine ret_row rfl _ _ _ rfl (row_put Q1) 5 tElem (by rfl) rfl ?_
  exact ⟨_, _, _, _, _, rfl, hz, below_setRow B1 (by omega) _⟩

theorem el_zero : El 0 0 0 0 0 0 := ⟨by omega, by omega, by omega, by omega, by omega, by decide⟩

set_option maxHeartbeats 1000000 in
theorem neg_any (x0 x1 x2 x3 x4 : Int) (n : F) (w : World) (hx : El x0 x1 x2 x3 x4 n) :
    Calls Try.prog 29 #[ev x0 x1 x2 x3 x4] w (ElemOut (0 - n) w) := by
  go_enter Try.func29, Try.ntmps29
  go_wp2_with fail
  refine (sub_any _ _ _ _ _ _ _ _ _ _ _ _ _ el_zero hx).mono ?_
  rintro e w1 ⟨z0, z1, z2, z3, z4, rfl, hz, hb1⟩
  have Q1 := row_keep hb1 (new2_1 ..) (by simp)
  have B1 : Below w.heap.size w w1 := Below.trans (by go_grown) (hb1.mono (by simp; omega))
  clear hb1
  go_wp2_with (refine st_row rfl 26 (.tmp 2) _ rfl _ #[.int .u64 z0, .int .u64 z1, .int .u64 z2, .int .u64 z3, .int .u64 z4] (by rfl) (by rfl) _ _ Q1 5 tElem (by rfl) (by rfl) (ev_one ..) ?_)
  refine ret_row rfl _ _ _ rfl (row_put Q1) 5 tElem (by rfl) rfl ?_
  exact ⟨_, _, _, _, _, rfl, hz, below_setRow B1 (by omega) _⟩

theorem mul64_hi (x y : Int) (hx : 0 ≤ x ∧ x < 18446744073709551616) (hy : 0 ≤ y ∧ y < 18446744073709551616) :
    IntKind.u64.wrap (IntKind.u64.wrap (IntKind.u64.wrap (x / 4294967296 * (y / 4294967296)) + IntKind.u64.wrap (IntKind.u64.wrap (x / 4294967296 * (y % 4294967296)) + IntKind.u64.wrap (x % 4294967296 * (y % 4294967296)) / 4294967296) / 4294967296) +
      IntKind.u64.wrap (bits BinOp.and IntKind.u64 (IntKind.u64.wrap (IntKind.u64.wrap (x / 4294967296 * (y % 4294967296)) + IntKind.u64.wrap (x % 4294967296 * (y % 4294967296)) / 4294967296)) 4294967295 + IntKind.u64.wrap (x % 4294967296 * (y / 4294967296))) / 4294967296)
      = x * y / 18446744073709551616 := by
  rw [and_low32 _ (wrap_u64_nonneg _) (by rw [IntKind.wrap_u64]; exact Int.emod_lt_of_pos _ (by decide))]
  simp only [IntKind.wrap_u64]
  exact mul64_arith x y hx.1 hx.2 hy.1 hy.2

set_option maxHeartbeats 1000000 in
/-- The whole product of two words. -/
theorem mul64_any (x y : Int) (w : World) (hx : 0 ≤ x ∧ x < 18446744073709551616) (hy : 0 ≤ y ∧ y < 18446744073709551616) :
    Calls Try.prog 72 #[.int .u64 x, .int .u64 y] w fun e w' => e = .returned (.tuple #[.int .u64 (x * y / 18446744073709551616), .int .u64 (x * y % 18446744073709551616)]) ∧ w = w' := by
  have e1 := and_low32 x hx.1 hx.2
  have e2 := and_low32 y hy.1 hy.2
  have H := Lib.hid (mul64_hi x y hx hy)
  go_enter Try.func72, Try.ntmps72
  go_wp2
  go_returns
  refine ⟨?_, rfl⟩
  rw [← H.out, ← IntKind.wrap_u64 (x * y)]
  rfl

theorem add64_run (x y c : Int) (hx : 0 ≤ x) (hy : 0 ≤ y) (hc0 : 0 ≤ c) (hc : c ≤ 1) (w : World) :
    (callFunc 73 #[.int .u64 x, .int .u64 y, .int .u64 c]).run Try.prog w = .ok (.value (.tuple #[.int .u64 ((x + y + c) % 18446744073709551616), .int .u64 ((x + y + c) / 18446744073709551616)])) w := by
  rw [run_callFunc_extern Try.func73 (by kernel_rfl) (by kernel_rfl) (by kernel_rfl) (e := add64Entry) (by kernel_rfl), run_add64 x y c hx hy hc0 hc]
  rfl

/-- The sum of products, one product more: the two words of the sum are written, nothing else. -/
def WadOut (b o : Nat) (V q : Int) (w : World) (e : Ending) (w' : World) : Prop :=
  ∃ hi lo, e = .returned (.tuple #[]) ∧ Wide hi lo (V + q) ∧ w' = (w.setCell ⟨b, o + 1, none⟩ (.int .u64 lo)).setCell ⟨b, o, none⟩ (.int .u64 hi)

set_option maxHeartbeats 1000000 in
set_option maxRecDepth 100000 in
theorem wadd_any (b o : Nat) (x y hi lo V : Int) (w : World) (hw : Wide hi lo V) (hx : 0 ≤ x ∧ x < 18446744073709551616) (hy : 0 ≤ y ∧ y < 18446744073709551616) (hlt : V + x * y < 340282366920938463463374607431768211456)
    (c0 : w.cell? ⟨b, o, none⟩ = some (.int .u64 hi)) (c1 : w.cell? ⟨b, o + 1, none⟩ = some (.int .u64 lo)) (f0 : w.frozen? ⟨b, o, none⟩ = false) (f1 : w.frozen? ⟨b, o + 1, none⟩ = false) :
    Calls Try.prog 71 #[.pointer (some ⟨b, o, none⟩), .int .u64 x, .int .u64 y] w (WadOut b o V (x * y) w) := by
  have HF := Lib.hid (wide_add hw (Int.mul_nonneg hx.1 hy.1) hlt)
  obtain ⟨h1, h2, _⟩ := hw
  have q0 : 0 ≤ x * y / 18446744073709551616 := Int.ediv_nonneg (Int.mul_nonneg hx.1 hy.1) (by omega)
  have q1 : 0 ≤ x * y % 18446744073709551616 := Int.emod_nonneg _ (by decide)
  have q2 : x * y % 18446744073709551616 < 18446744073709551616 := Int.emod_lt_of_pos _ (by decide)
  clear hlt
  go_enter Try.func71, Try.ntmps71
  go_wp2_with fail
  refine (mul64_any x y _ hx hy).mono ?_
  rintro e w' ⟨rfl, rfl⟩
  generalize x * y / 18446744073709551616 = qh at *
  generalize x * y % 18446744073709551616 = ql at *
  have A1 : ∀ w, (callFunc 73 #[.int .u64 lo, .int .u64 ql, .int .u64 0]).run Try.prog w = .ok (.value (.tuple #[.int .u64 ((lo + ql) % 18446744073709551616), .int .u64 ((lo + ql) / 18446744073709551616)])) w := fun w => by
    have h := add64_run lo ql 0 h2.1 q1 (by omega) (by omega) w
    rwa [Int.add_zero] at h
  have A2 : ∀ w, (callFunc 73 #[.int .u64 hi, .int .u64 qh, .int .u64 ((lo + ql) / 18446744073709551616)]).run Try.prog w = .ok (.value (.tuple #[.int .u64 ((hi + qh + (lo + ql) / 18446744073709551616) % 18446744073709551616), .int .u64 ((hi + qh + (lo + ql) / 18446744073709551616) / 18446744073709551616)])) w := fun w =>
    add64_run hi qh ((lo + ql) / 18446744073709551616) h1.1 q0 (by omega) (by omega) w
  generalize (hi + qh + (lo + ql) / 18446744073709551616) / 18446744073709551616 = junk at *
  generalize (hi + qh + (lo + ql) / 18446744073709551616) % 18446744073709551616 = rh at *
  generalize (lo + ql) / 18446744073709551616 = cc at *
  generalize (lo + ql) % 18446744073709551616 = rl at *
  clear q0 q1 q2 h1 h2
  go_wp2
  go_returns
  exact ⟨rh, rl, rfl, HF.out, rfl⟩
end Go.Proofs.Ytciakfhjjnmeeaa
