/- Walks of package field: Mul, Square, Times. Nothing that was there is turned. -/
import Derived.Test.YtciakfhjjnmeeaaFieldC
import Derived.Test.YtciakfhjjnmeeaaElem4
namespace Go.Proofs.Ytciakfhjjnmeeaa
open Go.RowKit Nt

/-- The sum of products, one product more, with its bound. -/
def WbOut (b o : Nat) (V q : Int) (k : Int) (w : World) (e : Ending) (w' : World) : Prop :=
  ∃ hi lo, e = .returned (.tuple #[]) ∧ WB hi lo (V + q) (k + 1) ∧ w' = (w.setCell ⟨b, o + 1, none⟩ (.int .u64 lo)).setCell ⟨b, o, none⟩ (.int .u64 hi)

theorem wadd_b (b o : Nat) (x y hi lo V k : Int) (w : World) (hw : WB hi lo V k) (hk : k ≤ 24) (hx : 0 ≤ x ∧ x < 4503599627370496) (hy : 0 ≤ y ∧ y < 144115188075855872)
    (c0 : w.cell? ⟨b, o, none⟩ = some (.int .u64 hi)) (c1 : w.cell? ⟨b, o + 1, none⟩ = some (.int .u64 lo)) (f0 : w.frozen? ⟨b, o, none⟩ = false) (f1 : w.frozen? ⟨b, o + 1, none⟩ = false) :
    Calls Try.prog 71 #[.pointer (some ⟨b, o, none⟩), .int .u64 x, .int .u64 y] w (WbOut b o V (x * y) k w) :=
  (wadd_any b o x y hi lo V w hw.1 (by omega) (by omega) (wb_lt hw hk hx hy) c0 c1 f0 f1).mono fun _ _ ⟨h, l, h1, h2, h3⟩ => ⟨h, l, h1, wb_step hw hk hx hy h2, h3⟩

/-- The sum of products and what comes over. -/
def WoOut (b o : Nat) (S ov : Int) (w : World) (e : Ending) (w' : World) : Prop :=
  ∃ hi lo t q, e = .returned (.tuple #[]) ∧ Limb hi lo S ov t q ∧ w' = (w.setCell ⟨b, o + 1, none⟩ (.int .u64 lo)).setCell ⟨b, o, none⟩ (.int .u64 hi)

theorem wadd_o (b o : Nat) (hi lo S k ov : Int) (w : World) (hw : WB hi lo S k) (hk : k ≤ 25) (ho : 0 ≤ ov ∧ ov < 9223372036854775808)
    (c0 : w.cell? ⟨b, o, none⟩ = some (.int .u64 hi)) (c1 : w.cell? ⟨b, o + 1, none⟩ = some (.int .u64 lo)) (f0 : w.frozen? ⟨b, o, none⟩ = false) (f1 : w.frozen? ⟨b, o + 1, none⟩ = false) :
    Calls Try.prog 71 #[.pointer (some ⟨b, o, none⟩), .int .u64 ov, .int .u64 1] w (WoOut b o S ov w) := by
  obtain ⟨hw1, hw2, hw3⟩ := hw
  refine (wadd_any b o ov 1 hi lo S w hw1 (by omega) (by omega) (by omega) c0 c1 f0 f1).mono ?_
  rintro e w' ⟨h, l, h1, h2, h3⟩
  rw [Int.mul_one] at h2
  exact ⟨h, l, _, _, h1, limb_of h2 (by omega) (by omega), h3⟩

/-- A list of operations that a walk is to leave alone. -/
def Held2 (p : Prop) : Prop := p
theorem held_store {P : Program} {ops : Array Oper} {rest : List Oper} {o : Oper} {Q : Exit → Act → World → Prop} {a : Act} {w : World} (ty : TypeId) (x y : Operand) (_ : o.op = .store ty x y) (h : Held2 (wpList P ops Q (o :: rest) a w)) : wpList P ops Q (o :: rest) a w := h
theorem hide_held2 {P : Program} {ops : Array Oper} {rest : List Oper} {Q : Exit → Act → World → Prop} {t : Array Value} {df : List Deferred} {w : World} (h : ∀ t0, t0 = t → wpList P ops Q rest ⟨t0, df⟩ w) : Held2 (wpList P ops Q rest ⟨t, df⟩ w) := h _ rfl
theorem eval_tmp2 {a : Act} {t : Nat} {v : Value} (h : a.tmps[t]? = some v) : a.eval (.tmp t) = v := by
  show a.tmps.getD t undef = v
  rw [Array.getD_eq_getD_getElem?, h]; rfl

set_option maxHeartbeats 4000000 in
set_option maxRecDepth 100000 in
theorem mul_any (x0 x1 x2 x3 x4 y0 y1 y2 y3 y4 : Int) (n m : F) (w : World) (hx : El x0 x1 x2 x3 x4 n) (hy : El y0 y1 y2 y3 y4 m) :
    Calls Try.prog 32 #[ev x0 x1 x2 x3 x4, ev y0 y1 y2 y3 y4] w (ElemOut (n * m) w) := by
  have HX := hx
  have HY := hy
  obtain ⟨a0, a1, a2, a3, a4, _⟩ := hx
  obtain ⟨b0, b1, b2, b3, b4, _⟩ := hy
  have ix0 : ∀ w, (Instr.index 24 (.agg #[.int .u64 x0, .int .u64 x1, .int .u64 x2, .int .u64 x3, .int .u64 x4]) (.int .i64 0)).run Try.prog w = .ok (.int .u64 x0) w := fun _ => by kernel_rfl
  have ix1 : ∀ w, (Instr.index 24 (.agg #[.int .u64 x0, .int .u64 x1, .int .u64 x2, .int .u64 x3, .int .u64 x4]) (.int .i64 1)).run Try.prog w = .ok (.int .u64 x1) w := fun _ => by kernel_rfl
  have ix2 : ∀ w, (Instr.index 24 (.agg #[.int .u64 x0, .int .u64 x1, .int .u64 x2, .int .u64 x3, .int .u64 x4]) (.int .i64 2)).run Try.prog w = .ok (.int .u64 x2) w := fun _ => by kernel_rfl
  have ix3 : ∀ w, (Instr.index 24 (.agg #[.int .u64 x0, .int .u64 x1, .int .u64 x2, .int .u64 x3, .int .u64 x4]) (.int .i64 3)).run Try.prog w = .ok (.int .u64 x3) w := fun _ => by kernel_rfl
  have ix4 : ∀ w, (Instr.index 24 (.agg #[.int .u64 x0, .int .u64 x1, .int .u64 x2, .int .u64 x3, .int .u64 x4]) (.int .i64 4)).run Try.prog w = .ok (.int .u64 x4) w := fun _ => by kernel_rfl
  have iy0 : ∀ w, (Instr.index 24 (.agg #[.int .u64 y0, .int .u64 y1, .int .u64 y2, .int .u64 y3, .int .u64 y4]) (.int .i64 0)).run Try.prog w = .ok (.int .u64 y0) w := fun _ => by kernel_rfl
  have iy1 : ∀ w, (Instr.index 24 (.agg #[.int .u64 y0, .int .u64 y1, .int .u64 y2, .int .u64 y3, .int .u64 y4]) (.int .i64 1)).run Try.prog w = .ok (.int .u64 y1) w := fun _ => by kernel_rfl
  have iy2 : ∀ w, (Instr.index 24 (.agg #[.int .u64 y0, .int .u64 y1, .int .u64 y2, .int .u64 y3, .int .u64 y4]) (.int .i64 2)).run Try.prog w = .ok (.int .u64 y2) w := fun _ => by kernel_rfl
  have iy3 : ∀ w, (Instr.index 24 (.agg #[.int .u64 y0, .int .u64 y1, .int .u64 y2, .int .u64 y3, .int .u64 y4]) (.int .i64 3)).run Try.prog w = .ok (.int .u64 y3) w := fun _ => by kernel_rfl
  have iy4 : ∀ w, (Instr.index 24 (.agg #[.int .u64 y0, .int .u64 y1, .int .u64 y2, .int .u64 y3, .int .u64 y4]) (.int .i64 4)).run Try.prog w = .ok (.int .u64 y4) w := fun _ => by kernel_rfl
  have G0 := wb_zero
  have G1 := wb_zero
  have G2 := wb_zero
  have G3 := wb_zero
  have G4 := wb_zero
  go_enter Try.func32, Try.ntmps32
  go_wp2_with fail
  refine wp_loop_rounds 6 ?_
  rw [rounds_succ]; go_wp2_with fail
  refine wp_loop_rounds 6 ?_
  rw [rounds_succ]; go_wp2_with fail
  refine (wadd_b _ _ _ _ _ _ _ _ _ G0 (by decide) a0 (by omega) (row_cell (new4_3 ..) 0) (row_cell (new4_3 ..) 1) (row_free (new4_3 ..) _) (row_free (new4_3 ..) _)).mono ?_
  clear G0
  rintro e w1 ⟨u0, l0, rfl, G0, rfl⟩
  go_wp2_with fail
  rw [rounds_succ]; go_wp2_with fail
  refine (wadd_b _ _ _ _ _ _ _ _ _ G1 (by decide) a0 (by omega) (row_cell (new4_3 ..) 2) (row_cell (new4_3 ..) 3) (row_free (new4_3 ..) _) (row_free (new4_3 ..) _)).mono ?_
  clear G1
  rintro e w1 ⟨u1, l1, rfl, G1, rfl⟩
  go_wp2_with fail
  rw [rounds_succ]; go_wp2_with fail
  refine (wadd_b _ _ _ _ _ _ _ _ _ G2 (by decide) a0 (by omega) (row_cell (new4_3 ..) 4) (row_cell (new4_3 ..) 5) (row_free (new4_3 ..) _) (row_free (new4_3 ..) _)).mono ?_
  clear G2
  rintro e w1 ⟨u2, l2, rfl, G2, rfl⟩
  go_wp2_with fail
  rw [rounds_succ]; go_wp2_with fail
  refine (wadd_b _ _ _ _ _ _ _ _ _ G3 (by decide) a0 (by omega) (row_cell (new4_3 ..) 6) (row_cell (new4_3 ..) 7) (row_free (new4_3 ..) _) (row_free (new4_3 ..) _)).mono ?_
  clear G3
  rintro e w1 ⟨u3, l3, rfl, G3, rfl⟩
  go_wp2_with fail
  rw [rounds_succ]; go_wp2_with fail
  refine (wadd_b _ _ _ _ _ _ _ _ _ G4 (by decide) a0 (by omega) (row_cell (new4_3 ..) 8) (row_cell (new4_3 ..) 9) (row_free (new4_3 ..) _) (row_free (new4_3 ..) _)).mono ?_
  clear G4
  rintro e w1 ⟨u4, l4, rfl, G4, rfl⟩
  go_wp2_with fail
  rw [rounds_succ]; go_wp2_with fail
  rw [rounds_succ]; go_wp2_with fail
  refine wp_loop_rounds 6 ?_
  rw [rounds_succ]; go_wp2_with fail
  refine (wadd_b _ _ _ _ _ _ _ _ _ G1 (by decide) a1 (by omega) (row_cell (new4_3 ..) 2) (row_cell (new4_3 ..) 3) (row_free (new4_3 ..) _) (row_free (new4_3 ..) _)).mono ?_
  clear G1
  rintro e w1 ⟨u1, l1, rfl, G1, rfl⟩
  go_wp2_with fail
  rw [rounds_succ]; go_wp2_with fail
  refine (wadd_b _ _ _ _ _ _ _ _ _ G2 (by decide) a1 (by omega) (row_cell (new4_3 ..) 4) (row_cell (new4_3 ..) 5) (row_free (new4_3 ..) _) (row_free (new4_3 ..) _)).mono ?_
  clear G2
  rintro e w1 ⟨u2, l2, rfl, G2, rfl⟩
  go_wp2_with fail
  rw [rounds_succ]; go_wp2_with fail
  refine (wadd_b _ _ _ _ _ _ _ _ _ G3 (by decide) a1 (by omega) (row_cell (new4_3 ..) 6) (row_cell (new4_3 ..) 7) (row_free (new4_3 ..) _) (row_free (new4_3 ..) _)).mono ?_
  clear G3
  rintro e w1 ⟨u3, l3, rfl, G3, rfl⟩
  go_wp2_with fail
  rw [rounds_succ]; go_wp2_with fail
  refine (wadd_b _ _ _ _ _ _ _ _ _ G4 (by decide) a1 (by omega) (row_cell (new4_3 ..) 8) (row_cell (new4_3 ..) 9) (row_free (new4_3 ..) _) (row_free (new4_3 ..) _)).mono ?_
  clear G4
  rintro e w1 ⟨u4, l4, rfl, G4, rfl⟩
  go_wp2_with fail
  rw [rounds_succ]; go_wp2_with fail
  refine (wadd_b _ _ _ _ _ _ _ _ _ G0 (by decide) a1 (by omega) (row_cell (new4_3 ..) 0) (row_cell (new4_3 ..) 1) (row_free (new4_3 ..) _) (row_free (new4_3 ..) _)).mono ?_
  clear G0
  rintro e w1 ⟨u0, l0, rfl, G0, rfl⟩
  go_wp2_with fail
  rw [rounds_succ]; go_wp2_with fail
  rw [rounds_succ]; go_wp2_with fail
  refine wp_loop_rounds 6 ?_
  rw [rounds_succ]; go_wp2_with fail
  refine (wadd_b _ _ _ _ _ _ _ _ _ G2 (by decide) a2 (by omega) (row_cell (new4_3 ..) 4) (row_cell (new4_3 ..) 5) (row_free (new4_3 ..) _) (row_free (new4_3 ..) _)).mono ?_
  clear G2
  rintro e w1 ⟨u2, l2, rfl, G2, rfl⟩
  go_wp2_with fail
  rw [rounds_succ]; go_wp2_with fail
  refine (wadd_b _ _ _ _ _ _ _ _ _ G3 (by decide) a2 (by omega) (row_cell (new4_3 ..) 6) (row_cell (new4_3 ..) 7) (row_free (new4_3 ..) _) (row_free (new4_3 ..) _)).mono ?_
  clear G3
  rintro e w1 ⟨u3, l3, rfl, G3, rfl⟩
  go_wp2_with fail
  rw [rounds_succ]; go_wp2_with fail
  refine (wadd_b _ _ _ _ _ _ _ _ _ G4 (by decide) a2 (by omega) (row_cell (new4_3 ..) 8) (row_cell (new4_3 ..) 9) (row_free (new4_3 ..) _) (row_free (new4_3 ..) _)).mono ?_
  clear G4
  rintro e w1 ⟨u4, l4, rfl, G4, rfl⟩
  go_wp2_with fail
  rw [rounds_succ]; go_wp2_with fail
  refine (wadd_b _ _ _ _ _ _ _ _ _ G0 (by decide) a2 (by omega) (row_cell (new4_3 ..) 0) (row_cell (new4_3 ..) 1) (row_free (new4_3 ..) _) (row_free (new4_3 ..) _)).mono ?_
  clear G0
  rintro e w1 ⟨u0, l0, rfl, G0, rfl⟩
  go_wp2_with fail
  rw [rounds_succ]; go_wp2_with fail
  refine (wadd_b _ _ _ _ _ _ _ _ _ G1 (by decide) a2 (by omega) (row_cell (new4_3 ..) 2) (row_cell (new4_3 ..) 3) (row_free (new4_3 ..) _) (row_free (new4_3 ..) _)).mono ?_
  clear G1
  rintro e w1 ⟨u1, l1, rfl, G1, rfl⟩
  go_wp2_with fail
  rw [rounds_succ]; go_wp2_with fail
  rw [rounds_succ]; go_wp2_with fail
  refine wp_loop_rounds 6 ?_
  rw [rounds_succ]; go_wp2_with fail
  refine (wadd_b _ _ _ _ _ _ _ _ _ G3 (by decide) a3 (by omega) (row_cell (new4_3 ..) 6) (row_cell (new4_3 ..) 7) (row_free (new4_3 ..) _) (row_free (new4_3 ..) _)).mono ?_
  clear G3
  rintro e w1 ⟨u3, l3, rfl, G3, rfl⟩
  go_wp2_with fail
  rw [rounds_succ]; go_wp2_with fail
  refine (wadd_b _ _ _ _ _ _ _ _ _ G4 (by decide) a3 (by omega) (row_cell (new4_3 ..) 8) (row_cell (new4_3 ..) 9) (row_free (new4_3 ..) _) (row_free (new4_3 ..) _)).mono ?_
  clear G4
  rintro e w1 ⟨u4, l4, rfl, G4, rfl⟩
  go_wp2_with fail
  rw [rounds_succ]; go_wp2_with fail
  refine (wadd_b _ _ _ _ _ _ _ _ _ G0 (by decide) a3 (by omega) (row_cell (new4_3 ..) 0) (row_cell (new4_3 ..) 1) (row_free (new4_3 ..) _) (row_free (new4_3 ..) _)).mono ?_
  clear G0
  rintro e w1 ⟨u0, l0, rfl, G0, rfl⟩
  go_wp2_with fail
  rw [rounds_succ]; go_wp2_with fail
  refine (wadd_b _ _ _ _ _ _ _ _ _ G1 (by decide) a3 (by omega) (row_cell (new4_3 ..) 2) (row_cell (new4_3 ..) 3) (row_free (new4_3 ..) _) (row_free (new4_3 ..) _)).mono ?_
  clear G1
  rintro e w1 ⟨u1, l1, rfl, G1, rfl⟩
  go_wp2_with fail
  rw [rounds_succ]; go_wp2_with fail
  refine (wadd_b _ _ _ _ _ _ _ _ _ G2 (by decide) a3 (by omega) (row_cell (new4_3 ..) 4) (row_cell (new4_3 ..) 5) (row_free (new4_3 ..) _) (row_free (new4_3 ..) _)).mono ?_
  clear G2
  rintro e w1 ⟨u2, l2, rfl, G2, rfl⟩
  go_wp2_with fail
  rw [rounds_succ]; go_wp2_with fail
  rw [rounds_succ]; go_wp2_with fail
  refine wp_loop_rounds 6 ?_
  rw [rounds_succ]; go_wp2_with fail
  refine (wadd_b _ _ _ _ _ _ _ _ _ G4 (by decide) a4 (by omega) (row_cell (new4_3 ..) 8) (row_cell (new4_3 ..) 9) (row_free (new4_3 ..) _) (row_free (new4_3 ..) _)).mono ?_
  clear G4
  rintro e w1 ⟨u4, l4, rfl, G4, rfl⟩
  go_wp2_with fail
  rw [rounds_succ]; go_wp2_with fail
  refine (wadd_b _ _ _ _ _ _ _ _ _ G0 (by decide) a4 (by omega) (row_cell (new4_3 ..) 0) (row_cell (new4_3 ..) 1) (row_free (new4_3 ..) _) (row_free (new4_3 ..) _)).mono ?_
  clear G0
  rintro e w1 ⟨u0, l0, rfl, G0, rfl⟩
  go_wp2_with fail
  rw [rounds_succ]; go_wp2_with fail
  refine (wadd_b _ _ _ _ _ _ _ _ _ G1 (by decide) a4 (by omega) (row_cell (new4_3 ..) 2) (row_cell (new4_3 ..) 3) (row_free (new4_3 ..) _) (row_free (new4_3 ..) _)).mono ?_
  clear G1
  rintro e w1 ⟨u1, l1, rfl, G1, rfl⟩
  go_wp2_with fail
  rw [rounds_succ]; go_wp2_with fail
  refine (wadd_b _ _ _ _ _ _ _ _ _ G2 (by decide) a4 (by omega) (row_cell (new4_3 ..) 4) (row_cell (new4_3 ..) 5) (row_free (new4_3 ..) _) (row_free (new4_3 ..) _)).mono ?_
  clear G2
  rintro e w1 ⟨u2, l2, rfl, G2, rfl⟩
  go_wp2_with fail
  rw [rounds_succ]; go_wp2_with fail
  refine (wadd_b _ _ _ _ _ _ _ _ _ G3 (by decide) a4 (by omega) (row_cell (new4_3 ..) 6) (row_cell (new4_3 ..) 7) (row_free (new4_3 ..) _) (row_free (new4_3 ..) _)).mono ?_
  clear G3
  rintro e w1 ⟨u3, l3, rfl, G3, rfl⟩
  go_wp2_with fail
  rw [rounds_succ]; go_wp2_with fail
  rw [rounds_succ]; go_wp2_with fail
  obtain ⟨S0, HS0⟩ : ∃ S, S = 0 + x0 * y0 + x1 * (y4 * 19) + x2 * (y3 * 19) + x3 * (y2 * 19) + x4 * (y1 * 19) := ⟨_, rfl⟩
  rw [← HS0] at G0
  have HE0 := Lib.hid (HS0.trans (show 0 + x0 * y0 + x1 * (y4 * 19) + x2 * (y3 * 19) + x3 * (y2 * 19) + x4 * (y1 * 19) = x0 * y0 + 19 * (x1 * y4 + x2 * y3 + x3 * y2 + x4 * y1) by grind))
  clear HS0
  obtain ⟨S1, HS1⟩ : ∃ S, S = 0 + x0 * y1 + x1 * y0 + x2 * (y4 * 19) + x3 * (y3 * 19) + x4 * (y2 * 19) := ⟨_, rfl⟩
  rw [← HS1] at G1
  have HE1 := Lib.hid (HS1.trans (show 0 + x0 * y1 + x1 * y0 + x2 * (y4 * 19) + x3 * (y3 * 19) + x4 * (y2 * 19) = x0 * y1 + x1 * y0 + 19 * (x2 * y4 + x3 * y3 + x4 * y2) by grind))
  clear HS1
  obtain ⟨S2, HS2⟩ : ∃ S, S = 0 + x0 * y2 + x1 * y1 + x2 * y0 + x3 * (y4 * 19) + x4 * (y3 * 19) := ⟨_, rfl⟩
  rw [← HS2] at G2
  have HE2 := Lib.hid (HS2.trans (show 0 + x0 * y2 + x1 * y1 + x2 * y0 + x3 * (y4 * 19) + x4 * (y3 * 19) = x0 * y2 + x1 * y1 + x2 * y0 + 19 * (x3 * y4 + x4 * y3) by grind))
  clear HS2
  obtain ⟨S3, HS3⟩ : ∃ S, S = 0 + x0 * y3 + x1 * y2 + x2 * y1 + x3 * y0 + x4 * (y4 * 19) := ⟨_, rfl⟩
  rw [← HS3] at G3
  have HE3 := Lib.hid (HS3.trans (show 0 + x0 * y3 + x1 * y2 + x2 * y1 + x3 * y0 + x4 * (y4 * 19) = x0 * y3 + x1 * y2 + x2 * y1 + x3 * y0 + 19 * (x4 * y4) by grind))
  clear HS3
  obtain ⟨S4, HS4⟩ : ∃ S, S = 0 + x0 * y4 + x1 * y3 + x2 * y2 + x3 * y1 + x4 * y0 := ⟨_, rfl⟩
  rw [← HS4] at G4
  have HE4 := Lib.hid (HS4.trans (show 0 + x0 * y4 + x1 * y3 + x2 * y2 + x3 * y1 + x4 * y0 = x0 * y4 + x1 * y3 + x2 * y2 + x3 * y1 + x4 * y0 by grind))
  clear HS4
  clear ix0 ix1 ix2 ix3 ix4
  clear iy0 iy1 iy2 iy3 iy4
  clear a0 a1 a2 a3 a4 b0 b1 b2 b3 b4
  refine wp_loop_rounds 6 ?_
  rw [rounds_succ]; go_wp2_with fail
  refine (wadd_o _ _ _ _ _ _ _ _ G0 (by decide) ⟨by omega, by omega⟩ (by go_simp) (by go_simp) (by go_simp) (by go_simp)).mono ?_
  clear G0
  rintro e w1 ⟨h0, v0, t0, q0, rfl, M0, rfl⟩
  have z1 := M0.low
  have z2 := M0.over
  have z3 := M0.hi0
  have z4 := M0.hi1
  have z5 := M0.lo0
  have z6 := M0.lo1
  go_wp2
  go_region
  clear z1 z2 z3 z4 z5 z6
  go_wp2_with fail
  rw [rounds_succ]; go_wp2_with fail
  refine (wadd_o _ _ _ _ _ _ _ _ G1 (by decide) ⟨M0.q0, M0.q1⟩ (by go_simp) (by go_simp) (by go_simp) (by go_simp)).mono ?_
  clear G1
  rintro e w1 ⟨h1, v1, t1, q1, rfl, M1, rfl⟩
  have z1 := M1.low
  have z2 := M1.over
  have z3 := M1.hi0
  have z4 := M1.hi1
  have z5 := M1.lo0
  have z6 := M1.lo1
  go_wp2
  go_region
  clear z1 z2 z3 z4 z5 z6
  go_wp2_with fail
  rw [rounds_succ]; go_wp2_with fail
  refine (wadd_o _ _ _ _ _ _ _ _ G2 (by decide) ⟨M1.q0, M1.q1⟩ (by go_simp) (by go_simp) (by go_simp) (by go_simp)).mono ?_
  clear G2
  rintro e w1 ⟨h2, v2, t2, q2, rfl, M2, rfl⟩
  have z1 := M2.low
  have z2 := M2.over
  have z3 := M2.hi0
  have z4 := M2.hi1
  have z5 := M2.lo0
  have z6 := M2.lo1
  go_wp2
  go_region
  clear z1 z2 z3 z4 z5 z6
  go_wp2_with fail
  rw [rounds_succ]; go_wp2_with fail
  refine (wadd_o _ _ _ _ _ _ _ _ G3 (by decide) ⟨M2.q0, M2.q1⟩ (by go_simp) (by go_simp) (by go_simp) (by go_simp)).mono ?_
  clear G3
  rintro e w1 ⟨h3, v3, t3, q3, rfl, M3, rfl⟩
  have z1 := M3.low
  have z2 := M3.over
  have z3 := M3.hi0
  have z4 := M3.hi1
  have z5 := M3.lo0
  have z6 := M3.lo1
  go_wp2
  go_region
  clear z1 z2 z3 z4 z5 z6
  go_wp2_with fail
  rw [rounds_succ]; go_wp2_with fail
  refine (wadd_o _ _ _ _ _ _ _ _ G4 (by decide) ⟨M3.q0, M3.q1⟩ (by go_simp) (by go_simp) (by go_simp) (by go_simp)).mono ?_
  clear G4
  rintro e w1 ⟨h4, v4, t4, q4, rfl, M4, rfl⟩
  have z1 := M4.low
  have z2 := M4.over
  have z3 := M4.hi0
  have z4 := M4.hi1
  have z5 := M4.lo0
  have z6 := M4.lo1
  go_wp2
  go_region
  clear z1 z2 z3 z4 z5 z6
  go_wp2_with fail
  rw [rounds_succ]; go_wp2_with fail
  have HL := last_limb q4 t0 M4.q0 M4.q1 M0.t0 M0.t1
  have A1 : ∀ w, (callFunc 73 #[.int .u64 (q4 * 19 % 18446744073709551616), .int .u64 t0, .int .u64 0]).run Try.prog w = .ok (.value (.tuple #[.int .u64 ((q4 * 19 % 18446744073709551616 + t0) % 18446744073709551616), .int .u64 ((q4 * 19 % 18446744073709551616 + t0) / 18446744073709551616)])) w := fun w => by
    have h := add64_run (q4 * 19 % 18446744073709551616) t0 0 (by have := M4.q0; omega) M0.t0 (by omega) (by omega) w
    rwa [Int.add_zero] at h
  refine (mul64_any q4 19 _ (by have := M4.q0; have := M4.q1; omega) (by omega)).mono ?_
  rintro e w1 ⟨rfl, rfl⟩
  generalize (q4 * 19 % 18446744073709551616 + t0) % 18446744073709551616 = rl at *
  generalize (q4 * 19 % 18446744073709551616 + t0) / 18446744073709551616 = rc at *
  generalize q4 * 19 / 18446744073709551616 = qh at *
  generalize q4 * 19 % 18446744073709551616 = ql at *
  have HS := HL.sum
  have HT0 := HL.t0
  have HT1 := HL.t1
  have HQ0 := HL.q0
  have HQ1 := HL.q1
  have z1 := HL.low
  have z2 := HL.over
  have z3 := HL.hi0
  have z4 := HL.hi1
  have z5 := HL.lo0
  have z6 := HL.lo1
  have z7 := M1.t0
  have z8 := M1.t1
  clear HL
  generalize (q4 * 19 + t0) % 2251799813685248 = tt at *
  generalize (q4 * 19 + t0) / 2251799813685248 = qq at *
  have HWD := Lib.hid (mul_wd HX HY HE0.out HE1.out HE2.out HE3.out HE4.out M0.sum M1.sum M2.sum M3.sum M4.sum HS ⟨⟨HT0, HT1⟩, ⟨M1.t0, M1.t1⟩, ⟨M2.t0, M2.t1⟩, ⟨M3.t0, M3.t1⟩, ⟨M4.t0, M4.t1⟩, ⟨HQ0, HQ1⟩⟩)
  clear HS
  go_wp2_with fail
  refine (carried_any _ _ _ _ _ _ _ HWD.out).mono ?_
  rintro e w1 ⟨o0, o1, o2, o3, o4, rfl, hz, hb1⟩
  have Q1 := row_keep hb1 (by exact new5_2 ..) (by simp)
  have B1 : Below w.heap.size w w1 := Below.trans (by go_grown) (hb1.mono (by simp; omega))
  clear hb1 z1 z2 z3 z4 z5 z6 z7 z8
  replace Q1 : w1.heap[w.heap.size + 1 + 1]? = some (.cells #[.int .u64 0, .int .u64 0, .int .u64 0, .int .u64 0, .int .u64 0] 26 (0, 0)) := Q1
  have e1 := ev_one o0 o1 o2 o3 o4
  go_wp2_with ((with_reducible refine guard_list ?_); refine held_store 26 _ _ rfl ?_)
  rename_i K2 HK2
  refine hide_held2 fun t0 HT => ?_
  have h4 : t0[4]? = some (.pointer (some ⟨w.heap.size + 1 + 1, 0, none⟩)) := by rw [HT]; rfl
  have h97 : t0[97]? = some (.agg #[.int .u64 o0, .int .u64 o1, .int .u64 o2, .int .u64 o3, .int .u64 o4]) := by rw [HT]; rfl
  clear HT
  refine st_row rfl 26 (.tmp 4) (.tmp 97) rfl _ #[.int .u64 o0, .int .u64 o1, .int .u64 o2, .int .u64 o3, .int .u64 o4] (eval_tmp2 h4) (eval_tmp2 h97) _ _ Q1 5 tElem (by rfl) (by rfl) e1 ?_
  refine wpList_nil ?_
  show K2 _ _
  refine HK2 _ _ (wp_ret ?_)
  have hres : Try.f32.results = #[.cell 4 26] := by kernel_rfl
  have hp : t0.getD 4 undef = .pointer (some ⟨w.heap.size + 1 + 1, 0, none⟩) := by rw [Array.getD_eq_getD_getElem?, h4]; rfl
  have hrow := row_put (cs' := #[.int .u64 o0, .int .u64 o1, .int .u64 o2, .int .u64 o3, .int .u64 o4]) Q1
  refine ret_row hres _ _ _ hp hrow 5 tElem rfl rfl ?_
  have hb := below_setRow B1 (by omega : w.heap.size ≤ w.heap.size + 1 + 1) #[.int .u64 o0, .int .u64 o1, .int .u64 o2, .int .u64 o3, .int .u64 o4]
  exact ⟨o0, o1, o2, o3, o4, rfl, hz, hb⟩

set_option maxHeartbeats 1000000 in
theorem square_any (x0 x1 x2 x3 x4 : Int) (n : F) (w : World) (hx : El x0 x1 x2 x3 x4 n) :
    Calls Try.prog 33 #[ev x0 x1 x2 x3 x4] w (ElemOut (n * n) w) := by
  go_enter Try.func33, Try.ntmps33
  go_wp2_with fail
  refine (mul_any _ _ _ _ _ _ _ _ _ _ _ _ _ hx hx).mono ?_
  rintro e w1 ⟨z0, z1, z2, z3, z4, rfl, hz, hb1⟩
  have Q1 := row_keep hb1 (new2_1 ..) (by simp)
  have B1 : Below w.heap.size w w1 := Below.trans (by go_grown) (hb1.mono (by simp; omega))
  clear hb1
  go_wp2_with (refine st_row rfl 26 (.tmp 2) _ rfl _ #[.int .u64 z0, .int .u64 z1, .int .u64 z2, .int .u64 z3, .int .u64 z4] (by rfl) (by rfl) _ _ Q1 5 tElem (by rfl) (by rfl) (ev_one ..) ?_)
  refine ret_row rfl _ _ _ rfl (row_put Q1) 5 tElem (by rfl) rfl ?_
  exact ⟨_, _, _, _, _, rfl, hz, below_setRow B1 (by omega) _⟩
end Go.Proofs.Ytciakfhjjnmeeaa
