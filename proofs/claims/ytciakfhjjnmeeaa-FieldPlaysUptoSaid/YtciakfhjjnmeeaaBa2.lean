/- Texts of this proof's own, one behind the other: plain laws and walks of the packages field and ladder. No condition. -/
import Derived.Test.YtciakfhjjnmeeaaBa0
import Derived.Test.YtciakfhjjnmeeaaBa1
import Derived.Deep.QuietTactic
import Derived.BigQuiet
import Derived.Deep.RegionWith
namespace Go.Proofs.Ytciakfhjjnmeeaa
open Go.RowKit Nt

/-- The five cells of a row. -/
theorem ev_row {w : World} {g : Nat} {t : TypeId} {z0 z1 z2 z3 z4 : Int} (h : w.heap[g]? = some (.cells #[.int .u64 z0, .int .u64 z1, .int .u64 z2, .int .u64 z3, .int .u64 z4] t (0, 0))) :
    w.cell? ⟨g, 0, none⟩ = some (.int .u64 z0) ∧ w.cell? ⟨g, 1, none⟩ = some (.int .u64 z1) ∧ w.cell? ⟨g, 2, none⟩ = some (.int .u64 z2) ∧ w.cell? ⟨g, 3, none⟩ = some (.int .u64 z3) ∧ w.cell? ⟨g, 4, none⟩ = some (.int .u64 z4) :=
  ⟨row_cell h 0, row_cell h 1, row_cell h 2, row_cell h 3, row_cell h 4⟩

/-- The least limbs of n. -/
def LeastOut (n : F) (w : World) (e : Ending) (w' : World) : Prop :=
  ∃ z0 z1 z2 z3 z4 : Int, e = .returned (ev z0 z1 z2 z3 z4) ∧ Can z0 z1 z2 z3 z4 n ∧ Below w.heap.size w w'

set_option maxHeartbeats 2000000 in
set_option maxRecDepth 100000 in
theorem least_any (x0 x1 x2 x3 x4 : Int) (n : F) (w : World) (h : El x0 x1 x2 x3 x4 n) :
    Calls Try.prog 67 #[ev x0 x1 x2 x3 x4] w (LeastOut n w) := by
  go_enter Try.func67, Try.ntmps67
  go_wp2_with fail
  refine (carried_any _ _ _ _ _ n _ h.wd).mono ?_
  rintro e w1 ⟨y0, y1, y2, y3, y4, rfl, hy, hb1⟩
  have R1 := (hb1.block w.heap.size (by simp; omega)).trans (heap_alloc2_old w _ _)
  have R2 := (hb1.block (w.heap.size + 1) (by simp)).trans (heap_alloc2_new w _ _)
  have B1 : Below w.heap.size w w1 := Below.trans (by go_grown) (hb1.mono (by simp; omega))
  clear hb1
  go_wp2_with (refine wpList_store_row rfl 26 _ _ rfl w.heap.size #[.int .u64 y0, .int .u64 y1, .int .u64 y2, .int .u64 y3, .int .u64 y4] (by rfl) (by rfl) 26 _ R1 (by kernel_rfl) rfl (ev_one ..) ?_; have S1 := setRow_heap w1 _ _ #[.int .u64 y0, .int .u64 y1, .int .u64 y2, .int .u64 y3, .int .u64 y4] _ _ R1; have S2 := (setRow_other w1 w.heap.size (w.heap.size+1) #[.int .u64 y0, .int .u64 y1, .int .u64 y2, .int .u64 y3, .int .u64 y4] (by omega)).trans R2; have B2 := below_setRow B1 (Nat.le_refl _) #[.int .u64 y0, .int .u64 y1, .int .u64 y2, .int .u64 y3, .int .u64 y4]; clear R1 R2 B1; generalize w1.setRow w.heap.size #[.int .u64 y0, .int .u64 y1, .int .u64 y2, .int .u64 y3, .int .u64 y4] = W1 at *; obtain ⟨c0, c1, c2, c3, c4⟩ := ev_row S1)
  clear c0 c1 c2 c3 c4
  refine (carried_tight _ _ _ _ _ n _ hy).mono ?_
  rintro e w2 ⟨m0, m1, m2, m3, m4, rfl, hm, hb2⟩
  have hB := B2.size
  have T1 := (hb2.block w.heap.size (row_lt S1)).trans S1
  have T2 := (hb2.block (w.heap.size + 1) (row_lt S2)).trans S2
  have B3 : Below w.heap.size w w2 := B2.trans (hb2.mono hB)
  clear hb2 S1 S2 B2 hB
  have HM := hm
  obtain ⟨⟨q0, q1, q2, q3, q4, _⟩, _⟩ := hm
  go_wp2_with (refine wpList_store_row rfl 26 _ _ rfl w.heap.size #[.int .u64 m0, .int .u64 m1, .int .u64 m2, .int .u64 m3, .int .u64 m4] (by rfl) (by rfl) 26 _ T1 (by kernel_rfl) rfl (ev_one ..) ?_; have S1 := setRow_heap w2 _ _ #[.int .u64 m0, .int .u64 m1, .int .u64 m2, .int .u64 m3, .int .u64 m4] _ _ T1; have S2 := (setRow_other w2 w.heap.size (w.heap.size+1) #[.int .u64 m0, .int .u64 m1, .int .u64 m2, .int .u64 m3, .int .u64 m4] (by omega)).trans T2; have B2 := below_setRow B3 (Nat.le_refl _) #[.int .u64 m0, .int .u64 m1, .int .u64 m2, .int .u64 m3, .int .u64 m4]; clear T1 T2 B3; generalize w2.setRow w.heap.size #[.int .u64 m0, .int .u64 m1, .int .u64 m2, .int .u64 m3, .int .u64 m4] = W2 at *; obtain ⟨c0, c1, c2, c3, c4⟩ := ev_row S1; obtain ⟨d0, d1, d2, d3, d4⟩ := ev_row S2; have hlt := row_lt S2; have hf1 := row_free S1; have hf2 := row_free S2)
  refine wp_loop_rounds 6 ?_
  iterate 5 (rw [rounds_succ]; go_wp2)
  rw [rounds_succ]; go_wp2
  generalize hq : ((((((19 + m0) / 2251799813685248 + m1) / 2251799813685248 + m2) / 2251799813685248 + m3) / 2251799813685248 + m4) / 2251799813685248) = q
  have hq0 : 0 ≤ q ∧ q ≤ 2 := by omega
  have HQ := Lib.hid hq
  clear hq
  clear c0 c1 c2 c3 c4 d0 d1 d2 d3 d4 hf1 hf2 S1 hy h
  refine wp_loop_rounds 5 ?_
  iterate 4 (rw [rounds_succ]; go_wp2; go_region; go_wp2)
  rw [rounds_succ]
  go_wp2_with (refine wpList_store_row rfl 24 (.tmp 2) _ rfl (w.heap.size + 1) _ (by rfl) (by rfl) 24 _ ((heap_alloc_old W2 _ hlt).trans S2) (by kernel_rfl) (by rfl) (by simp [Value.oneCell']) ?_)
  refine bodyPost_ret (results_cell_row rfl _ _ (w.heap.size + 1) 24 _ (0, 0) _ rfl (setRow_heap _ _ _ _ _ _ ((heap_alloc_old W2 _ hlt).trans S2)) Try.underlying24 rfl (by kernel_rfl)) rfl ?_
  refine ⟨_, _, _, _, _, rfl, least_can HM HQ.out, ?_⟩
  refine below_setRow ?_ (by omega) _
  have := B2.size
  go_grown

set_option maxHeartbeats 2000000 in
set_option maxRecDepth 100000 in
theorem bytes_any (x0 x1 x2 x3 x4 : Int) (n : F) (w : World) (h : El x0 x1 x2 x3 x4 n) :
    Calls Try.prog 20 #[ev x0 x1 x2 x3 x4] w fun e w' => e = .returned (.agg (vals (bytesN n.val))) ∧ Below w.heap.size w w' := by
  go_enter Try.func20, Try.ntmps20
  go_wp2_with fail
  refine (least_any _ _ _ _ _ n _ h).mono ?_
  rintro e w1 ⟨z0, z1, z2, z3, z4, rfl, hz, hb1⟩
  have R2 := (hb1.block (w.heap.size + 1) (by simp)).trans (heap_alloc2_new w _ _)
  have B1 : Below w.heap.size w w1 := Below.trans (by go_grown) (hb1.mono (by simp; omega))
  have hsz := row_lt R2
  clear hb1
  go_wp2_with fail
  go_loopw [8] (fun i wr => ∃ k : Nat, k ≤ 255 ∧ i = .int .i64 k ∧ wr.heap[w1.heap.size]? = some (.cells (valsK .u64 [z0, z1, z2, z3, z4]) 24 (0, 0)) ∧ wr.heap[w1.heap.size + 1]? = some (.cells (vals (bytesN (n.val % 2 ^ k))) 22 (0, 0)) ∧ wr.heap[w.heap.size + 1]? = some (.cells (vals (bytesN 0)) 22 (0, 0)) ∧ Below w.heap.size w wr) (fun i _ => 255 - (intOf i).toNat)
  case atStart =>
    have := B1.size
    refine ⟨0, by omega, rfl, heap_alloc2_old w1 _ _, ?_, ?_, by go_grown⟩
    · rw [heap_alloc2_new w1 _ _, Nat.pow_zero, Nat.mod_one]; rfl
    · have h1 := row_lt R2
      rw [heap_alloc_old _ _ (by simp; omega), heap_alloc_old _ _ h1, R2]; rfl
  case round =>
    obtain ⟨k, hk, rfl, Ra, Rb, Rc, Bk⟩ := hrel
    by_cases hlt : k < 255
    · have ca : wr.cell? ⟨w1.heap.size, k / 51, none⟩ = some (.int .u64 (nth [z0, z1, z2, z3, z4] (k / 51))) := (row_cell Ra _).trans (valsK_get (by simp; omega))
      have cb : wr.cell? ⟨w1.heap.size + 1, k / 8, none⟩ = some (.int .u8 (byteOf (n.val % 2 ^ k) (k / 8))) := (row_cell Rb _).trans (by rw [vals_get (by rw [bytesN_len]; omega), nth_bytesN _ _ (by omega)])
      have fb := row_free Rb (k / 8)
      have HA := Lib.hid Ra
      have HB := Lib.hid Rb
      have HC := Lib.hid Rc
      clear Ra Rb Rc R2
      go_wp2
      have i8 : (k : Int) / 8 < 32 := by omega
      have i8' : 0 ≤ (k : Int) / 8 := by omega
      have i51 : (k : Int) / 51 < 5 := by omega
      have i51' : 0 ≤ (k : Int) / 51 := by omega
      have m51 : 0 ≤ (k : Int) % 51 := by omega
      have m8 : 0 ≤ (k : Int) % 8 := by omega
      have n8 : ((k : Int) / 8).toNat = k / 8 := by omega
      have n51 : ((k : Int) / 51).toNat = k / 51 := by omega
      have t51 : ((k : Int)).tmod 51 = (k : Int) % 51 := Int.tmod_eq_emod_of_nonneg (by omega)
      have t8 : ((k : Int)).tmod 8 = (k : Int) % 8 := Int.tmod_eq_emod_of_nonneg (by omega)
      have e8 : IntKind.i64.wrap ((k : Int) / 8) = (k : Int) / 8 := IntWalk.i64_in _ (by omega)
      have e51 : IntKind.i64.wrap ((k : Int) / 51) = (k : Int) / 51 := IntWalk.i64_in _ (by omega)
      go_still_tail 18, (by kernel_rfl)
      change wpList _ _ _ _ _ (World.drew _)
      go_wp2
      go_roundw
      case rel =>
        refine ⟨k + 1, by omega, by go_num, ?_, ?_, ?_, ?_⟩
        · exact (heap_setCell_other _ _ _ _ (by simp)).trans HA.out
        · rw [bit_byte hz k hlt, bytesN_step, ← vals_set]
          exact heap_setCell_same _ _ _ _ _ _ HB.out
        · exact (heap_setCell_other _ _ _ _ (by simp; omega)).trans HC.out
        · have := B1.size
          go_grown
      case measure => simp [intOf]; omega
    · obtain rfl : k = 255 := by omega
      rw [mod_all] at Rb
      go_wp2_with (first | (refine wpList_load_row rfl 22 (.tmp 4) rfl (w1.heap.size + 1) (by rfl) 22 _ (0, 0) _ Rb Try.underlying22 rfl (by rw [vals_size, bytesN_len]; kernel_rfl) ?_) | (refine wpList_store_row rfl 22 (.tmp 2) _ rfl (w.heap.size + 1) (vals (bytesN n.val)) (by rfl) (by rfl) 22 _ Rc (by rw [vals_size, bytesN_len]; kernel_rfl) (by rw [vals_size, vals_size, bytesN_len, bytesN_len]) (vals_one _) ?_))
      refine bodyPost_ret (results_cell_row rfl _ _ (w.heap.size + 1) 22 _ (0, 0) _ rfl (setRow_heap _ _ _ _ _ _ Rc) Try.underlying22 rfl (by rw [vals_size, bytesN_len]; kernel_rfl)) rfl ?_
      exact ⟨rfl, below_setRow Bk (by omega) _⟩
end Go.Proofs.Ytciakfhjjnmeeaa

namespace Go.Proofs.Ytciakfhjjnmeeaa
open Nt

/-- The mask that says so. -/
def mk (b : Bool) : Int := if b then 18446744073709551615 else 0
/-- What a mask chooses. -/
def sel (b : Bool) (x y : Int) : Int := if b then x else y
def selF (b : Bool) (x y : F) : F := if b then x else y

theorem mk_range (b : Bool) : 0 ≤ mk b ∧ mk b < 18446744073709551616 := by cases b <;> decide
theorem sel_range {b : Bool} {x y : Int} (hx : 0 ≤ x ∧ x < 18446744073709551616) (hy : 0 ≤ y ∧ y < 18446744073709551616) : 0 ≤ sel b x y ∧ sel b x y < 18446744073709551616 := by
  cases b
  · exact hy
  · exact hx

theorem bit_mask (x : Int) (h0 : 0 ≤ x) (h1 : x < 18446744073709551616) : IntKind.u64.wrap (-bits .and .u64 x 1) = mk (decide (x % 2 = 1)) := by
  rw [and_one x h0 h1, IntKind.wrap_u64]
  have h : x % 2 = 0 ∨ x % 2 = 1 := by omega
  rcases h with h | h <;> rw [h] <;> decide

theorem pick_bits (b : Bool) (x y : Int) (hx : 0 ≤ x ∧ x < 18446744073709551616) (hy : 0 ≤ y ∧ y < 18446744073709551616) : bits .xor .u64 y (bits .and .u64 (mk b) (bits .xor .u64 x y)) = sel b x y := by
  obtain ⟨X, rfl⟩ := Int.eq_ofNat_of_zero_le hx.1
  obtain ⟨Y, rfl⟩ := Int.eq_ofNat_of_zero_le hy.1
  have hX : X < 18446744073709551616 := by omega
  have hY : Y < 18446744073709551616 := by omega
  have hXY : X ^^^ Y < 18446744073709551616 := Nat.xor_lt_two_pow (n := 64) hX hY
  rw [u64_xor_nat X Y hX hY]
  cases b
  · show bits .xor .u64 (Y : Int) (bits .and .u64 ((0 : Nat) : Int) _) = _
    rw [u64_and_nat 0 _ (by decide) hXY, Nat.zero_and, u64_xor_nat Y 0 hY (by decide), Nat.xor_zero]; rfl
  · show bits .xor .u64 (Y : Int) (bits .and .u64 ((18446744073709551615 : Nat) : Int) _) = _
    have e : (18446744073709551615 : Nat) = 2 ^ 64 - 1 := rfl
    rw [u64_and_nat _ _ (by decide) hXY, Nat.and_comm, e, Nat.and_two_pow_sub_one_eq_mod, Nat.mod_eq_of_lt hXY, u64_xor_nat Y _ hY hXY, Nat.xor_comm X Y, ← Nat.xor_assoc, Nat.xor_self, Nat.zero_xor]; rfl

theorem zero_bits (x : Int) (h0 : 0 ≤ x) (h1 : x < 18446744073709551616) : bits .xor .u64 (bits .or .u64 x (IntKind.u64.wrap (-x)) / 9223372036854775808) 1 = if x = 0 then 1 else 0 := by
  obtain ⟨X, rfl⟩ := Int.eq_ofNat_of_zero_le h0
  have hX : X < 18446744073709551616 := by omega
  by_cases h : X = 0
  · subst h; decide
  · have e : IntKind.u64.wrap (-(X : Int)) = ((18446744073709551616 - X : Nat) : Int) := by rw [IntKind.wrap_u64]; omega
    have hb : 18446744073709551616 - X < 18446744073709551616 := by omega
    have l1 : X ≤ X ||| (18446744073709551616 - X) := Nat.left_le_or
    have l2 : 18446744073709551616 - X ≤ X ||| (18446744073709551616 - X) := Nat.right_le_or
    have l3 : X ||| (18446744073709551616 - X) < 18446744073709551616 := Nat.or_lt_two_pow (n := 64) hX hb
    rw [e, u64_or_nat X _ hX hb, if_neg (by omega)]
    have : (((X ||| (18446744073709551616 - X) : Nat) : Int) / 9223372036854775808) = 1 := by omega
    rw [this]; decide

theorem or_zero_iff (a b : Int) (ha : 0 ≤ a ∧ a < 18446744073709551616) (hb : 0 ≤ b ∧ b < 18446744073709551616) :
    (0 ≤ bits .or .u64 a b ∧ bits .or .u64 a b < 18446744073709551616) ∧ (bits .or .u64 a b = 0 ↔ a = 0 ∧ b = 0) := by
  obtain ⟨A, rfl⟩ := Int.eq_ofNat_of_zero_le ha.1
  obtain ⟨B, rfl⟩ := Int.eq_ofNat_of_zero_le hb.1
  have hA : A < 18446744073709551616 := by omega
  have hB : B < 18446744073709551616 := by omega
  rw [u64_or_nat A B hA hB]
  have l3 : A ||| B < 18446744073709551616 := Nat.or_lt_two_pow (n := 64) hA hB
  have l1 : A ≤ A ||| B := Nat.left_le_or
  have l2 : B ≤ A ||| B := Nat.right_le_or
  refine ⟨by omega, ?_⟩
  constructor
  · intro h; omega
  · rintro ⟨h1, h2⟩
    have : A = 0 := by omega
    have : B = 0 := by omega
    subst A; subst B; decide

theorem or_zero_left (b : Int) (hb : 0 ≤ b ∧ b < 18446744073709551616) : bits .or .u64 0 b = b := by
  obtain ⟨B, rfl⟩ := Int.eq_ofNat_of_zero_le hb.1
  have := u64_or_nat 0 B (by decide) (by omega)
  rw [Nat.zero_or] at this
  exact this

/-- All limbs are 0 just where the number is. -/
theorem can_zero {z0 z1 z2 z3 z4 : Int} {n : F} (h : Can z0 z1 z2 z3 z4 n) :
    (0 ≤ bits .or .u64 (bits .or .u64 (bits .or .u64 (bits .or .u64 (bits .or .u64 0 z0) z1) z2) z3) z4 ∧ bits .or .u64 (bits .or .u64 (bits .or .u64 (bits .or .u64 (bits .or .u64 0 z0) z1) z2) z3) z4 < 18446744073709551616) ∧
    (bits .or .u64 (bits .or .u64 (bits .or .u64 (bits .or .u64 (bits .or .u64 0 z0) z1) z2) z3) z4 = 0 ↔ n = 0) := by
  obtain ⟨a0, a1, a2, a3, a4, hs⟩ := h
  rw [or_zero_left z0 (by omega)]
  have k1 := or_zero_iff z0 z1 (by omega) (by omega)
  have k2 := or_zero_iff _ z2 k1.1 (by omega)
  have k3 := or_zero_iff _ z3 k2.1 (by omega)
  have k4 := or_zero_iff _ z4 k3.1 (by omega)
  refine ⟨k4.1, ?_⟩
  rw [k4.2, k3.2, k2.2, k1.2]
  constructor
  · rintro ⟨⟨⟨⟨h0, h1⟩, h2⟩, h3⟩, h4⟩
    subst h0 h1 h2 h3 h4
    have : n.val = 0 := by omega
    exact F.ext this
  · rintro rfl
    have : ((0 : F).val : Int) = 0 := rfl
    rw [this] at hs
    omega

theorem el_sel {x0 x1 x2 x3 x4 y0 y1 y2 y3 y4 : Int} {n m : F} (b : Bool) (hx : El x0 x1 x2 x3 x4 n) (hy : El y0 y1 y2 y3 y4 m) : El (sel b x0 y0) (sel b x1 y1) (sel b x2 y2) (sel b x3 y3) (sel b x4 y4) (selF b n m) := by
  cases b
  · exact hy
  · exact hx
end Go.Proofs.Ytciakfhjjnmeeaa

namespace Go.Proofs.Ytciakfhjjnmeeaa
open Go.RowKit Nt

set_option maxHeartbeats 400000 in
theorem mbit_any (x : Int) (w : World) (h0 : 0 ≤ x) (h1 : x < 18446744073709551616) :
    Calls Try.prog 75 #[.int .u64 x] w fun e w' => e = .returned (.int .u64 (mk (decide (x % 2 = 1)))) ∧ w = w' := by
  have H := Lib.hid (bit_mask x h0 h1)
  go_enter Try.func75, Try.ntmps75
  go_wp2
  go_ret
  exact ⟨by rw [← H.out]; rfl, rfl⟩

set_option maxHeartbeats 400000 in
theorem mpick_any (b : Bool) (x y : Int) (w : World) (hx : 0 ≤ x ∧ x < 18446744073709551616) (hy : 0 ≤ y ∧ y < 18446744073709551616) :
    Calls Try.prog 78 #[.int .u64 (mk b), .int .u64 x, .int .u64 y] w fun e w' => e = .returned (.int .u64 (sel b x y)) ∧ w' = w := by
  have H := Lib.hid (pick_bits b x y hx hy)
  go_enter Try.func78, Try.ntmps78
  go_wp2
  go_ret
  exact ⟨by rw [← H.out]; rfl, rfl⟩

set_option maxHeartbeats 400000 in
theorem mzero_any (x : Int) (w : World) (h0 : 0 ≤ x) (h1 : x < 18446744073709551616) :
    Calls Try.prog 70 #[.int .u64 x] w fun e w' => e = .returned (.int .u64 (mk (decide (x = 0)))) ∧ w = w' := by
  have H := Lib.hid (zero_bits x h0 h1)
  go_enter Try.func70, Try.ntmps70
  go_wp2_with fail
  rw [H.out]
  generalize hq : (if x = 0 then (1 : Int) else 0) = q
  have e : decide (q % 2 = 1) = decide (x = 0) := by rw [← hq]; by_cases h : x = 0 <;> simp [h]
  have hq0 : 0 ≤ q ∧ q < 18446744073709551616 := by rw [← hq]; split <;> omega
  clear hq H
  refine (mbit_any _ _ hq0.1 hq0.2).mono ?_
  rintro e w' ⟨rfl, rfl⟩
  rw [e]
  go_wp2
  go_ret
  exact ⟨rfl, rfl⟩

set_option maxHeartbeats 1000000 in
set_option maxRecDepth 100000 in
/-- Whether a number is 0. -/
theorem zero_any (x0 x1 x2 x3 x4 : Int) (n : F) (w : World) (h : El x0 x1 x2 x3 x4 n) :
    Calls Try.prog 28 #[ev x0 x1 x2 x3 x4] w fun e w' => e = .returned (.int .u64 (mk (decide (n = 0)))) ∧ Below w.heap.size w w' := by
  go_enter Try.func28, Try.ntmps28
  go_wp2_with fail
  refine (least_any _ _ _ _ _ n _ h).mono ?_
  rintro e w1 ⟨z0, z1, z2, z3, z4, rfl, hz, hb1⟩
  have B1 : Below w.heap.size w w1 := Below.trans (by go_grown) (hb1.mono (by simp))
  have i0 : ∀ w, (Instr.index 24 (.agg #[.int .u64 z0, .int .u64 z1, .int .u64 z2, .int .u64 z3, .int .u64 z4]) (.int .i64 0)).run Try.prog w = .ok (.int .u64 z0) w := fun _ => by kernel_rfl
  have i1 : ∀ w, (Instr.index 24 (.agg #[.int .u64 z0, .int .u64 z1, .int .u64 z2, .int .u64 z3, .int .u64 z4]) (.int .i64 1)).run Try.prog w = .ok (.int .u64 z1) w := fun _ => by kernel_rfl
  have i2 : ∀ w, (Instr.index 24 (.agg #[.int .u64 z0, .int .u64 z1, .int .u64 z2, .int .u64 z3, .int .u64 z4]) (.int .i64 2)).run Try.prog w = .ok (.int .u64 z2) w := fun _ => by kernel_rfl
  have i3 : ∀ w, (Instr.index 24 (.agg #[.int .u64 z0, .int .u64 z1, .int .u64 z2, .int .u64 z3, .int .u64 z4]) (.int .i64 3)).run Try.prog w = .ok (.int .u64 z3) w := fun _ => by kernel_rfl
  have i4 : ∀ w, (Instr.index 24 (.agg #[.int .u64 z0, .int .u64 z1, .int .u64 z2, .int .u64 z3, .int .u64 z4]) (.int .i64 4)).run Try.prog w = .ok (.int .u64 z4) w := fun _ => by kernel_rfl
  have HZ := Lib.hid (can_zero hz)
  clear hb1 hz
  go_wp2_with fail
  refine wp_loop_rounds 6 ?_
  iterate 5 (rw [rounds_succ]; go_wp2)
  rw [rounds_succ]; go_wp2_with fail
  refine (mzero_any _ _ HZ.out.1.1 HZ.out.1.2).mono ?_
  rintro e w2 ⟨rfl, rfl⟩
  rw [decide_eq_decide.2 HZ.out.2]
  go_wp2
  go_ret
  exact ⟨rfl, B1⟩

theorem sub_zero_iff (n m : F) : n - m = 0 ↔ n = m := by
  constructor
  · intro h; grind
  · rintro rfl; grind

set_option maxHeartbeats 1000000 in
/-- Whether two numbers are one. -/
theorem equal_any (x0 x1 x2 x3 x4 y0 y1 y2 y3 y4 : Int) (n m : F) (w : World) (hx : El x0 x1 x2 x3 x4 n) (hy : El y0 y1 y2 y3 y4 m) :
    Calls Try.prog 25 #[ev x0 x1 x2 x3 x4, ev y0 y1 y2 y3 y4] w fun e w' => e = .returned (.int .u64 (mk (decide (n = m)))) ∧ Below w.heap.size w w' := by
  go_enter Try.func25, Try.ntmps25
  go_wp2_with fail
  refine (sub_any _ _ _ _ _ _ _ _ _ _ n m _ hx hy).mono ?_
  rintro e w1 ⟨z0, z1, z2, z3, z4, rfl, hz, hb1⟩
  have B1 : Below w.heap.size w w1 := Below.trans (by go_grown) (hb1.mono (by simp; omega))
  clear hb1
  go_wp2_with fail
  refine (zero_any _ _ _ _ _ _ _ hz).mono ?_
  rintro e w2 ⟨rfl, hb2⟩
  rw [decide_eq_decide.2 (sub_zero_iff n m)]
  have B2 : Below w.heap.size w w2 := B1.trans (hb2.mono B1.size)
  go_wp2
  go_ret
  exact ⟨rfl, B2⟩
end Go.Proofs.Ytciakfhjjnmeeaa

namespace Go.Proofs.Ytciakfhjjnmeeaa
open Go.RowKit Nt

/-- Two rows handed back. -/
theorem ret_row2 {P : Program} {fn : Func} {R : Ending → World → Prop} {a : Act} {w : World} {p p' : Tmp} {ty ty' : TypeId} (h : fn.results = #[.cell p ty, .cell p' ty']) (g g' : Nat) (cs cs' : Array Value) (t t' : TypeId)
    (hp : a.tmps.getD p undef = .pointer (some ⟨g, 0, none⟩)) (hg : w.heap[g]? = some (.cells cs t (0, 0))) (hp' : a.tmps.getD p' undef = .pointer (some ⟨g', 0, none⟩)) (hg' : w.heap[g']? = some (.cells cs' t' (0, 0)))
    (n n' : Nat) (hT : RowT P ty n) (hn : cs.size = n) (hT' : RowT P ty' n') (hn' : cs'.size = n') (hd : a.defers = [])
    (hR : R (.returned (.tuple #[.agg cs, .agg cs'])) w) : bodyPost P fn R .ret a w := by
  obtain ⟨d, h1, h2, h3⟩ := hT
  obtain ⟨d', h1', h2', h3'⟩ := hT'
  subst hn hn'
  refine bodyPost_ret (v := .tuple #[.agg cs, .agg cs']) ?_ hd hR
  have hl := run_loadVar_row (P := P) w g t ty cs (0, 0) d hg h1 (by cases d <;> simp_all) h3
  have hl' := run_loadVar_row (P := P) w g' t' ty' cs' (0, 0) d' hg' h1' (by cases d' <;> simp_all) h3'
  have e1 : a.tmps[p]?.getD undef = .pointer (some ⟨g, 0, none⟩) := by simpa using hp
  have e2 : a.tmps[p']?.getD undef = .pointer (some ⟨g', 0, none⟩) := by simpa using hp'
  simp [results, h, e1, e2, asAddr, hl, hl', Sem.run_bind]

set_option maxHeartbeats 2000000 in
set_option maxRecDepth 100000 in
theorem pick_any (b : Bool) (m x0 x1 x2 x3 x4 y0 y1 y2 y3 y4 : Int) (nx ny : F) (w : World) (hm : 0 ≤ m ∧ m < 18446744073709551616) (hb : decide (m % 2 = 1) = b) (hx : El x0 x1 x2 x3 x4 nx) (hy : El y0 y1 y2 y3 y4 ny) :
    Calls Try.prog 39 #[.int .u64 m, ev x0 x1 x2 x3 x4, ev y0 y1 y2 y3 y4] w (ElemOut (selF b nx ny) w) := by
  have HS := Lib.hid (el_sel b hx hy)
  have e1 := and_one m hm.1 hm.2
  have e2 : decide (m % 2 % 2 = 1) = b := by rw [← hb]; congr 1; apply propext; omega
  have H2 := Lib.hid e2
  have hm2 : 0 ≤ m % 2 ∧ m % 2 < 18446744073709551616 := by omega
  obtain ⟨a0, a1, a2, a3, a4, _⟩ := hx
  obtain ⟨b0, b1, b2, b3, b4, _⟩ := hy
  clear hb e2
  go_enter Try.func39, Try.ntmps39
  go_wp2_with fail
  refine (mbit_any _ _ hm2.1 hm2.2).mono ?_
  rintro e w' ⟨rfl, rfl⟩
  rw [H2.out]
  clear e1
  have R00 := new3_0 w (.cells #[.int .u64 x0, .int .u64 x1, .int .u64 x2, .int .u64 x3, .int .u64 x4] 26) (.cells #[.int .u64 y0, .int .u64 y1, .int .u64 y2, .int .u64 y3, .int .u64 y4] 26) (.cells #[.int .u64 0, .int .u64 0, .int .u64 0, .int .u64 0, .int .u64 0] 26)
  have R10 := new3_1 w (.cells #[.int .u64 x0, .int .u64 x1, .int .u64 x2, .int .u64 x3, .int .u64 x4] 26) (.cells #[.int .u64 y0, .int .u64 y1, .int .u64 y2, .int .u64 y3, .int .u64 y4] 26) (.cells #[.int .u64 0, .int .u64 0, .int .u64 0, .int .u64 0, .int .u64 0] 26)
  have R20 := new3_2 w (.cells #[.int .u64 x0, .int .u64 x1, .int .u64 x2, .int .u64 x3, .int .u64 x4] 26) (.cells #[.int .u64 y0, .int .u64 y1, .int .u64 y2, .int .u64 y3, .int .u64 y4] 26) (.cells #[.int .u64 0, .int .u64 0, .int .u64 0, .int .u64 0, .int .u64 0] 26)
  have B00 : Below w.heap.size w (((w.alloc (.cells #[.int .u64 x0, .int .u64 x1, .int .u64 x2, .int .u64 x3, .int .u64 x4] 26)).alloc (.cells #[.int .u64 y0, .int .u64 y1, .int .u64 y2, .int .u64 y3, .int .u64 y4] 26)).alloc (.cells #[.int .u64 0, .int .u64 0, .int .u64 0, .int .u64 0, .int .u64 0] 26)) := by go_grown
  go_wp2_with fail
  generalize ((w.alloc (.cells #[.int .u64 x0, .int .u64 x1, .int .u64 x2, .int .u64 x3, .int .u64 x4] 26)).alloc (.cells #[.int .u64 y0, .int .u64 y1, .int .u64 y2, .int .u64 y3, .int .u64 y4] 26)).alloc (.cells #[.int .u64 0, .int .u64 0, .int .u64 0, .int .u64 0, .int .u64 0] 26) = W0 at *
  refine wp_loop_rounds 6 ?_
  have ⟨c0, c1, c2, c3, c4⟩ := ev_row R00
  have ⟨d0, d1, d2, d3, d4⟩ := ev_row R10
  have f0 := row_free R00 0
  rw [rounds_succ]; go_wp2
  go_still_tail 13, (by kernel_rfl)
  still_call (mpick_any b x0 y0 _ (by omega) (by omega))
  repeat still_step
  try refine wpStill_nil ?_
  change wpList _ _ _ _ _ (World.drew _)
  go_wp2
  have R01 : ((W0.setCell ⟨w.heap.size, 0, none⟩ (.int .u64 (sel b x0 y0))).drew).heap[w.heap.size]? = some (.cells #[.int .u64 (sel b x0 y0), .int .u64 x1, .int .u64 x2, .int .u64 x3, .int .u64 x4] 26 (0, 0)) := row_set R00
  have R11 : ((W0.setCell ⟨w.heap.size, 0, none⟩ (.int .u64 (sel b x0 y0))).drew).heap[w.heap.size + 1]? = some (.cells #[.int .u64 y0, .int .u64 y1, .int .u64 y2, .int .u64 y3, .int .u64 y4] 26 (0, 0)) := row_set_other R10 (by omega)
  have R21 : ((W0.setCell ⟨w.heap.size, 0, none⟩ (.int .u64 (sel b x0 y0))).drew).heap[w.heap.size + 2]? = some (.cells #[.int .u64 0, .int .u64 0, .int .u64 0, .int .u64 0, .int .u64 0] 26 (0, 0)) := row_set_other R20 (by omega)
  have B01 : Below w.heap.size w ((W0.setCell ⟨w.heap.size, 0, none⟩ (.int .u64 (sel b x0 y0))).drew) := by go_grown
  clear c0 c1 c2 c3 c4 d0 d1 d2 d3 d4 f0 R00 R10 R20 B00
  generalize ((W0.setCell ⟨w.heap.size, 0, none⟩ (.int .u64 (sel b x0 y0))).drew) = W1 at *
  have ⟨c0, c1, c2, c3, c4⟩ := ev_row R01
  have ⟨d0, d1, d2, d3, d4⟩ := ev_row R11
  have f0 := row_free R01 1
  rw [rounds_succ]; go_wp2
  go_still_tail 13, (by kernel_rfl)
  still_call (mpick_any b x1 y1 _ (by omega) (by omega))
  repeat still_step
  try refine wpStill_nil ?_
  change wpList _ _ _ _ _ (World.drew _)
  go_wp2
  have R02 : ((W1.setCell ⟨w.heap.size, 1, none⟩ (.int .u64 (sel b x1 y1))).drew).heap[w.heap.size]? = some (.cells #[.int .u64 (sel b x0 y0), .int .u64 (sel b x1 y1), .int .u64 x2, .int .u64 x3, .int .u64 x4] 26 (0, 0)) := row_set R01
  have R12 : ((W1.setCell ⟨w.heap.size, 1, none⟩ (.int .u64 (sel b x1 y1))).drew).heap[w.heap.size + 1]? = some (.cells #[.int .u64 y0, .int .u64 y1, .int .u64 y2, .int .u64 y3, .int .u64 y4] 26 (0, 0)) := row_set_other R11 (by omega)
  have R22 : ((W1.setCell ⟨w.heap.size, 1, none⟩ (.int .u64 (sel b x1 y1))).drew).heap[w.heap.size + 2]? = some (.cells #[.int .u64 0, .int .u64 0, .int .u64 0, .int .u64 0, .int .u64 0] 26 (0, 0)) := row_set_other R21 (by omega)
  have B02 : Below w.heap.size w ((W1.setCell ⟨w.heap.size, 1, none⟩ (.int .u64 (sel b x1 y1))).drew) := by go_grown
  clear c0 c1 c2 c3 c4 d0 d1 d2 d3 d4 f0 R01 R11 R21 B01
  generalize ((W1.setCell ⟨w.heap.size, 1, none⟩ (.int .u64 (sel b x1 y1))).drew) = W2 at *
  have ⟨c0, c1, c2, c3, c4⟩ := ev_row R02
  have ⟨d0, d1, d2, d3, d4⟩ := ev_row R12
  have f0 := row_free R02 2
  rw [rounds_succ]; go_wp2
  go_still_tail 13, (by kernel_rfl)
  still_call (mpick_any b x2 y2 _ (by omega) (by omega))
  repeat still_step
  try refine wpStill_nil ?_
  change wpList _ _ _ _ _ (World.drew _)
  go_wp2
  have R03 : ((W2.setCell ⟨w.heap.size, 2, none⟩ (.int .u64 (sel b x2 y2))).drew).heap[w.heap.size]? = some (.cells #[.int .u64 (sel b x0 y0), .int .u64 (sel b x1 y1), .int .u64 (sel b x2 y2), .int .u64 x3, .int .u64 x4] 26 (0, 0)) := row_set R02
  have R13 : ((W2.setCell ⟨w.heap.size, 2, none⟩ (.int .u64 (sel b x2 y2))).drew).heap[w.heap.size + 1]? = some (.cells #[.int .u64 y0, .int .u64 y1, .int .u64 y2, .int .u64 y3, .int .u64 y4] 26 (0, 0)) := row_set_other R12 (by omega)
  have R23 : ((W2.setCell ⟨w.heap.size, 2, none⟩ (.int .u64 (sel b x2 y2))).drew).heap[w.heap.size + 2]? = some (.cells #[.int .u64 0, .int .u64 0, .int .u64 0, .int .u64 0, .int .u64 0] 26 (0, 0)) := row_set_other R22 (by omega)
  have B03 : Below w.heap.size w ((W2.setCell ⟨w.heap.size, 2, none⟩ (.int .u64 (sel b x2 y2))).drew) := by go_grown
  clear c0 c1 c2 c3 c4 d0 d1 d2 d3 d4 f0 R02 R12 R22 B02
  generalize ((W2.setCell ⟨w.heap.size, 2, none⟩ (.int .u64 (sel b x2 y2))).drew) = W3 at *
  have ⟨c0, c1, c2, c3, c4⟩ := ev_row R03
  have ⟨d0, d1, d2, d3, d4⟩ := ev_row R13
  have f0 := row_free R03 3
  rw [rounds_succ]; go_wp2
  go_still_tail 13, (by kernel_rfl)
  still_call (mpick_any b x3 y3 _ (by omega) (by omega))
  repeat still_step
  try refine wpStill_nil ?_
  change wpList _ _ _ _ _ (World.drew _)
  go_wp2
  have R04 : ((W3.setCell ⟨w.heap.size, 3, none⟩ (.int .u64 (sel b x3 y3))).drew).heap[w.heap.size]? = some (.cells #[.int .u64 (sel b x0 y0), .int .u64 (sel b x1 y1), .int .u64 (sel b x2 y2), .int .u64 (sel b x3 y3), .int .u64 x4] 26 (0, 0)) := row_set R03
  have R14 : ((W3.setCell ⟨w.heap.size, 3, none⟩ (.int .u64 (sel b x3 y3))).drew).heap[w.heap.size + 1]? = some (.cells #[.int .u64 y0, .int .u64 y1, .int .u64 y2, .int .u64 y3, .int .u64 y4] 26 (0, 0)) := row_set_other R13 (by omega)
  have R24 : ((W3.setCell ⟨w.heap.size, 3, none⟩ (.int .u64 (sel b x3 y3))).drew).heap[w.heap.size + 2]? = some (.cells #[.int .u64 0, .int .u64 0, .int .u64 0, .int .u64 0, .int .u64 0] 26 (0, 0)) := row_set_other R23 (by omega)
  have B04 : Below w.heap.size w ((W3.setCell ⟨w.heap.size, 3, none⟩ (.int .u64 (sel b x3 y3))).drew) := by go_grown
  clear c0 c1 c2 c3 c4 d0 d1 d2 d3 d4 f0 R03 R13 R23 B03
  generalize ((W3.setCell ⟨w.heap.size, 3, none⟩ (.int .u64 (sel b x3 y3))).drew) = W4 at *
  have ⟨c0, c1, c2, c3, c4⟩ := ev_row R04
  have ⟨d0, d1, d2, d3, d4⟩ := ev_row R14
  have f0 := row_free R04 4
  rw [rounds_succ]; go_wp2
  go_still_tail 13, (by kernel_rfl)
  still_call (mpick_any b x4 y4 _ (by omega) (by omega))
  repeat still_step
  try refine wpStill_nil ?_
  change wpList _ _ _ _ _ (World.drew _)
  go_wp2
  have R05 : ((W4.setCell ⟨w.heap.size, 4, none⟩ (.int .u64 (sel b x4 y4))).drew).heap[w.heap.size]? = some (.cells #[.int .u64 (sel b x0 y0), .int .u64 (sel b x1 y1), .int .u64 (sel b x2 y2), .int .u64 (sel b x3 y3), .int .u64 (sel b x4 y4)] 26 (0, 0)) := row_set R04
  have R15 : ((W4.setCell ⟨w.heap.size, 4, none⟩ (.int .u64 (sel b x4 y4))).drew).heap[w.heap.size + 1]? = some (.cells #[.int .u64 y0, .int .u64 y1, .int .u64 y2, .int .u64 y3, .int .u64 y4] 26 (0, 0)) := row_set_other R14 (by omega)
  have R25 : ((W4.setCell ⟨w.heap.size, 4, none⟩ (.int .u64 (sel b x4 y4))).drew).heap[w.heap.size + 2]? = some (.cells #[.int .u64 0, .int .u64 0, .int .u64 0, .int .u64 0, .int .u64 0] 26 (0, 0)) := row_set_other R24 (by omega)
  have B05 : Below w.heap.size w ((W4.setCell ⟨w.heap.size, 4, none⟩ (.int .u64 (sel b x4 y4))).drew) := by go_grown
  clear c0 c1 c2 c3 c4 d0 d1 d2 d3 d4 f0 R04 R14 R24 B04
  generalize ((W4.setCell ⟨w.heap.size, 4, none⟩ (.int .u64 (sel b x4 y4))).drew) = W5 at *
  rw [rounds_succ]
  go_wp2_with (first | (refine ld_row rfl 26 (.tmp 4) rfl _ (by rfl) _ _ R05 5 tElem (by rfl) ?_) | (refine st_row rfl 26 (.tmp 6) _ rfl _ _ (by rfl) (by rfl) _ _ R25 5 tElem (by rfl) (by rfl) (ev_one ..) ?_))
  refine ret_row rfl _ _ _ rfl (row_put R25) 5 tElem (by rfl) rfl ?_
  exact ⟨_, _, _, _, _, rfl, HS.out, below_setRow B05 (by omega) _⟩
end Go.Proofs.Ytciakfhjjnmeeaa

namespace Go.Proofs.Ytciakfhjjnmeeaa
open Go.RowKit Nt

/-- Two Elems handed back. -/
def ElemOut2 (n m : F) (w : World) (e : Ending) (w' : World) : Prop :=
  ∃ z0 z1 z2 z3 z4 u0 u1 u2 u3 u4 : Int, e = .returned (.tuple #[ev z0 z1 z2 z3 z4, ev u0 u1 u2 u3 u4]) ∧ El z0 z1 z2 z3 z4 n ∧ El u0 u1 u2 u3 u4 m ∧ Below w.heap.size w w'

set_option maxHeartbeats 2000000 in
set_option maxRecDepth 100000 in
theorem swap_any (b : Bool) (m x0 x1 x2 x3 x4 y0 y1 y2 y3 y4 : Int) (nx ny : F) (w : World) (hm : 0 ≤ m ∧ m < 18446744073709551616) (hb : decide (m % 2 = 1) = b) (hx : El x0 x1 x2 x3 x4 nx) (hy : El y0 y1 y2 y3 y4 ny) :
    Calls Try.prog 38 #[.int .u64 m, ev x0 x1 x2 x3 x4, ev y0 y1 y2 y3 y4] w (ElemOut2 (selF b ny nx) (selF b nx ny) w) := by
  have HB := Lib.hid hb
  have HM := Lib.hid hm
  clear hb hm
  have R0 := new4_0 w (.cells #[.int .u64 x0, .int .u64 x1, .int .u64 x2, .int .u64 x3, .int .u64 x4] 26) (.cells #[.int .u64 y0, .int .u64 y1, .int .u64 y2, .int .u64 y3, .int .u64 y4] 26) (.cells #[.int .u64 0, .int .u64 0, .int .u64 0, .int .u64 0, .int .u64 0] 26) (.cells #[.int .u64 0, .int .u64 0, .int .u64 0, .int .u64 0, .int .u64 0] 26)
  have R1 := new4_1 w (.cells #[.int .u64 x0, .int .u64 x1, .int .u64 x2, .int .u64 x3, .int .u64 x4] 26) (.cells #[.int .u64 y0, .int .u64 y1, .int .u64 y2, .int .u64 y3, .int .u64 y4] 26) (.cells #[.int .u64 0, .int .u64 0, .int .u64 0, .int .u64 0, .int .u64 0] 26) (.cells #[.int .u64 0, .int .u64 0, .int .u64 0, .int .u64 0, .int .u64 0] 26)
  have R2 := new4_2 w (.cells #[.int .u64 x0, .int .u64 x1, .int .u64 x2, .int .u64 x3, .int .u64 x4] 26) (.cells #[.int .u64 y0, .int .u64 y1, .int .u64 y2, .int .u64 y3, .int .u64 y4] 26) (.cells #[.int .u64 0, .int .u64 0, .int .u64 0, .int .u64 0, .int .u64 0] 26) (.cells #[.int .u64 0, .int .u64 0, .int .u64 0, .int .u64 0, .int .u64 0] 26)
  have R3 := new4_3 w (.cells #[.int .u64 x0, .int .u64 x1, .int .u64 x2, .int .u64 x3, .int .u64 x4] 26) (.cells #[.int .u64 y0, .int .u64 y1, .int .u64 y2, .int .u64 y3, .int .u64 y4] 26) (.cells #[.int .u64 0, .int .u64 0, .int .u64 0, .int .u64 0, .int .u64 0] 26) (.cells #[.int .u64 0, .int .u64 0, .int .u64 0, .int .u64 0, .int .u64 0] 26)
  have B0 : Below w.heap.size w ((((w.alloc (.cells #[.int .u64 x0, .int .u64 x1, .int .u64 x2, .int .u64 x3, .int .u64 x4] 26)).alloc (.cells #[.int .u64 y0, .int .u64 y1, .int .u64 y2, .int .u64 y3, .int .u64 y4] 26)).alloc (.cells #[.int .u64 0, .int .u64 0, .int .u64 0, .int .u64 0, .int .u64 0] 26)).alloc (.cells #[.int .u64 0, .int .u64 0, .int .u64 0, .int .u64 0, .int .u64 0] 26)) := by go_grown
  go_enter Try.func38, Try.ntmps38
  go_wp2_with fail
  generalize (((w.alloc (.cells #[.int .u64 x0, .int .u64 x1, .int .u64 x2, .int .u64 x3, .int .u64 x4] 26)).alloc (.cells #[.int .u64 y0, .int .u64 y1, .int .u64 y2, .int .u64 y3, .int .u64 y4] 26)).alloc (.cells #[.int .u64 0, .int .u64 0, .int .u64 0, .int .u64 0, .int .u64 0] 26)).alloc (.cells #[.int .u64 0, .int .u64 0, .int .u64 0, .int .u64 0, .int .u64 0] 26) = W at *
  refine wp_region_held_drew (S := (fun w' => w'.heap[w.heap.size]? = some (.cells #[.int .u64 x0, .int .u64 x1, .int .u64 x2, .int .u64 x3, .int .u64 x4] 26 (0, 0)) ∧ w'.heap[w.heap.size + 1]? = some (.cells #[.int .u64 y0, .int .u64 y1, .int .u64 y2, .int .u64 y3, .int .u64 y4] 26 (0, 0)) ∧ (∃ c2, w'.heap[w.heap.size + 2]? = some (.cells c2 26 (0, 0)) ∧ c2.size = 5) ∧ (∃ c3, w'.heap[w.heap.size + 3]? = some (.cells c3 26 (0, 0)) ∧ c3.size = 5) ∧ Below w.heap.size w w')) (by kernel_rfl) ⟨R0, R1, ⟨_, R2, rfl⟩, ⟨_, R3, rfl⟩, B0.drew⟩ (fun hS => ?_)
  clear R0 R1 R2 R3 B0
  refine wpAnyH_take (i := 0) (oi := ⟨some 8, _, _, _, _, _⟩) (v := ?_) rfl (by kernel_rfl) (by kernel_rfl) (by kernel_rfl) (fun _ _ _ h => h) (Or.inl ⟨by rfl, ?_⟩) hS ?_
  rotate_left
  · intro w hSw; go_simp; first | done | with_reducible rfl
  try simp only [Act.put]
  refine wpAnyH_take (i := 1) (oi := ⟨some 9, _, _, _, _, _⟩) rfl (by kernel_rfl) (by kernel_rfl) (by kernel_rfl) (fun _ _ _ h => h) (yieldsIf_row (by rfl) _ _ rfl _ (by rfl) _ _ (fun _ h => h.2.1) 5 tElem (by rfl)) hS ?_
  try simp only [Act.put]
  refine wpAnyH_take (i := 2) (oi := ⟨some 10, _, _, _, _, _⟩) rfl (by kernel_rfl) (by kernel_rfl) (by kernel_rfl) (fun _ _ _ h => h) (yieldsIf_row (by rfl) _ _ rfl _ (by rfl) _ _ (fun _ h => h.1) 5 tElem (by rfl)) hS ?_
  try simp only [Act.put]
  refine wpAnyH_take (i := 4) (oi := ⟨some 12, _, _, _, _, _⟩) (v := ?_) rfl (by kernel_rfl) (by kernel_rfl) (by kernel_rfl) (fun _ _ _ h => h) (Or.inl ⟨by rfl, ?_⟩) hS ?_
  rotate_left
  · intro w hSw; go_simp; first | done | with_reducible rfl
  try simp only [Act.put]
  refine wpAnyH_take (i := 5) (oi := ⟨some 13, _, _, _, _, _⟩) rfl (by kernel_rfl) (by kernel_rfl) (by kernel_rfl) (fun _ _ _ h => h) (yieldsIf_row (by rfl) _ _ rfl _ (by rfl) _ _ (fun _ h => h.1) 5 tElem (by rfl)) hS ?_
  try simp only [Act.put]
  refine wpAnyH_take (i := 6) (oi := ⟨some 14, _, _, _, _, _⟩) rfl (by kernel_rfl) (by kernel_rfl) (by kernel_rfl) (fun _ _ _ h => h) (yieldsIf_row (by rfl) _ _ rfl _ (by rfl) _ _ (fun _ h => h.2.1) 5 tElem (by rfl)) hS ?_
  try simp only [Act.put]
  refine wpAnyH_ready (rs := [3]) (by kernel_rfl) (by simp) (AllReadyH.cons (o := ⟨some 11, _, _, _, _, _⟩) rfl (fun K hK => ?_) AllReadyH.nil)
  go_simp
  refine (pick_any b m _ _ _ _ _ _ _ _ _ _ _ _ _ HM.out HB.out hy hx).mono ?_
  rintro e w' ⟨z0, z1, z2, z3, z4, rfl, hz, hbz⟩
  refine hK.out _ _ ⟨row_call hbz hS.1, row_call hbz hS.2.1, (hS.2.2.1).elim (fun c h => ⟨c, row_call hbz h.1, h.2⟩), (hS.2.2.2.1).elim (fun c h => ⟨c, row_call hbz h.1, h.2⟩), below_call hbz hS.2.2.2.2⟩ (fun hS => ?_)
  clear hK K
  try simp only [Act.put]
  refine wpAnyH_ready (rs := [7]) (by kernel_rfl) (by simp) (AllReadyH.cons (o := ⟨some 15, _, _, _, _, _⟩) rfl (fun K hK => ?_) AllReadyH.nil)
  go_simp
  refine (pick_any b m _ _ _ _ _ _ _ _ _ _ _ _ _ HM.out HB.out hx hy).mono ?_
  rintro e w' ⟨u0, u1, u2, u3, u4, rfl, hu, hbz⟩
  refine hK.out _ _ ⟨row_call hbz hS.1, row_call hbz hS.2.1, (hS.2.2.1).elim (fun c h => ⟨c, row_call hbz h.1, h.2⟩), (hS.2.2.2.1).elim (fun c h => ⟨c, row_call hbz h.1, h.2⟩), below_call hbz hS.2.2.2.2⟩ (fun hS => ?_)
  clear hK K
  try simp only [Act.put]
  obtain ⟨R0, R1, ⟨c2, R2, s2⟩, ⟨c3, R3, s3⟩, B0⟩ := hS
  refine wpAnyH_ready (rs := [8]) (by kernel_rfl) (by simp) (AllReadyH.cons (o := ⟨none, _, _, _, _, _⟩) rfl (fun K hK => ?_) AllReadyH.nil)
  rw [if_pos (by rfl)]
  refine wp_st_row _ _ _ rfl _ #[.int .u64 z0, .int .u64 z1, .int .u64 z2, .int .u64 z3, .int .u64 z4] (by rfl) (by rfl) _ _ R2 5 tElem (by rfl) s2 (ev_one ..) ?_
  refine hK.out _ _ ⟨row_put_other R0 (by omega), row_put_other R1 (by omega), ⟨_, row_put R2, rfl⟩, ⟨_, row_put_other R3 (by omega), s3⟩, below_setRow B0 (by omega) _⟩ (fun _ => ?_)
  clear hK K
  try simp only [Act.put]
  have R2' := row_put (cs' := #[.int .u64 z0, .int .u64 z1, .int .u64 z2, .int .u64 z3, .int .u64 z4]) R2
  have R3' := row_put_other (cs := #[.int .u64 z0, .int .u64 z1, .int .u64 z2, .int .u64 z3, .int .u64 z4]) R3 (by omega : w.heap.size + 3 ≠ w.heap.size + 2)
  have B1 := below_setRow B0 (by omega : w.heap.size ≤ w.heap.size + 2) #[.int .u64 z0, .int .u64 z1, .int .u64 z2, .int .u64 z3, .int .u64 z4]
  have R0' := row_put_other (cs := #[.int .u64 z0, .int .u64 z1, .int .u64 z2, .int .u64 z3, .int .u64 z4]) R0 (by omega : w.heap.size ≠ w.heap.size + 2)
  have R1' := row_put_other (cs := #[.int .u64 z0, .int .u64 z1, .int .u64 z2, .int .u64 z3, .int .u64 z4]) R1 (by omega : w.heap.size + 1 ≠ w.heap.size + 2)
  refine wpAnyH_ready (rs := [9]) (by kernel_rfl) (by simp) (AllReadyH.cons (o := ⟨none, _, _, _, _, _⟩) rfl (fun K hK => ?_) AllReadyH.nil)
  rw [if_pos (by rfl)]
  refine wp_st_row _ _ _ rfl _ #[.int .u64 u0, .int .u64 u1, .int .u64 u2, .int .u64 u3, .int .u64 u4] (by rfl) (by rfl) _ _ R3' 5 tElem (by rfl) s3 (ev_one ..) ?_
  refine hK.out _ _ ⟨row_put_other R0' (by omega), row_put_other R1' (by omega), ⟨_, row_put_other R2' (by omega), rfl⟩, ⟨_, row_put R3', rfl⟩, below_setRow B1 (by omega) _⟩ (fun _ => ?_)
  clear hK K
  try simp only [Act.put]
  refine wpAnyH_done (by kernel_rfl) ?_ _
  go_wp2
  refine ret_row2 rfl _ _ _ _ _ _ rfl (row_put_other R2' (by omega)) rfl (row_put R3') 5 5 tElem (by rfl) tElem (by rfl) rfl ?_
  exact ⟨_, _, _, _, _, _, _, _, _, _, rfl, hz, hu, below_setRow B1 (by omega) _⟩
end Go.Proofs.Ytciakfhjjnmeeaa

namespace Go.Proofs.Ytciakfhjjnmeeaa
open Go.RowKit Nt

set_option maxHeartbeats 2000000 in
set_option maxRecDepth 100000 in
theorem times_any (k x0 x1 x2 x3 x4 : Int) (n : F) (w : World) (hk : 0 ≤ k ∧ k < 4294967296) (hx : El x0 x1 x2 x3 x4 n) :
    Calls Try.prog 40 #[ev x0 x1 x2 x3 x4, .int .u32 k] w (ElemOut (n * Fin.ofNat P k.toNat) w) := by
  have R0 := new2_0 w (.cells #[.int .u64 x0, .int .u64 x1, .int .u64 x2, .int .u64 x3, .int .u64 x4] 26) (.cells #[.int .u64 0, .int .u64 0, .int .u64 0, .int .u64 0, .int .u64 0] 26)
  have R1 := new2_1 w (.cells #[.int .u64 x0, .int .u64 x1, .int .u64 x2, .int .u64 x3, .int .u64 x4] 26) (.cells #[.int .u64 0, .int .u64 0, .int .u64 0, .int .u64 0, .int .u64 0] 26)
  have B0 : Below w.heap.size w ((w.alloc (.cells #[.int .u64 x0, .int .u64 x1, .int .u64 x2, .int .u64 x3, .int .u64 x4] 26)).alloc (.cells #[.int .u64 0, .int .u64 0, .int .u64 0, .int .u64 0, .int .u64 0] 26)) := by go_grown
  go_enter Try.func40, Try.ntmps40
  go_wp2_with fail
  generalize (w.alloc (.cells #[.int .u64 x0, .int .u64 x1, .int .u64 x2, .int .u64 x3, .int .u64 x4] 26)).alloc (.cells #[.int .u64 0, .int .u64 0, .int .u64 0, .int .u64 0, .int .u64 0] 26) = W at *
  refine wp_region_held_drew (S := (fun w' => w'.heap[w.heap.size]? = some (.cells #[.int .u64 x0, .int .u64 x1, .int .u64 x2, .int .u64 x3, .int .u64 x4] 26 (0, 0)) ∧ (∃ c1, w'.heap[w.heap.size + 1]? = some (.cells c1 26 (0, 0)) ∧ c1.size = 5) ∧ Below w.heap.size w w')) (by kernel_rfl) ⟨R0, ⟨_, R1, rfl⟩, B0.drew⟩ (fun hS => ?_)
  clear R0 R1 B0
  refine wpAnyH_take (i := 0) (oi := ⟨some 5, _, _, _, _, _⟩) rfl (by kernel_rfl) (by kernel_rfl) (by kernel_rfl) (fun _ _ _ h => h) (yieldsIf_row (by rfl) _ _ rfl _ (by rfl) _ _ (fun _ h => h.1) 5 tElem (by rfl)) hS ?_
  try simp only [Act.put]
  refine wpAnyH_take (i := 1) (oi := ⟨some 6, _, _, _, _, _⟩) (v := ?_) rfl (by kernel_rfl) (by kernel_rfl) (by kernel_rfl) (fun _ _ _ h => h) (Or.inl ⟨by rfl, ?_⟩) hS ?_
  rotate_left
  · intro w hSw; go_simp; first | done | with_reducible rfl
  try simp only [Act.put]
  refine wpAnyH_take (i := 2) (oi := ⟨some 7, _, _, _, _, _⟩) (v := ?_) rfl (by kernel_rfl) (by kernel_rfl) (by kernel_rfl) (fun _ _ _ h => h) (Or.inl ⟨by rfl, ?_⟩) hS ?_
  rotate_left
  · intro w hSw; go_simp; first | done | with_reducible rfl
  try simp only [Act.put]
  refine wpAnyH_ready (rs := [3]) (by kernel_rfl) (by simp) (AllReadyH.cons (o := ⟨some 8, _, _, _, _, _⟩) rfl (fun K hK => ?_) AllReadyH.nil)
  go_simp
  rw [wrap_small k hk.1 (by omega)]
  refine (small_any k _ hk.1 (by omega)).mono ?_
  rintro e w' ⟨z0, z1, z2, z3, z4, rfl, hz, hbz⟩
  refine hK.out _ _ ⟨row_call hbz hS.1, (hS.2.1).elim (fun c h => ⟨c, row_call hbz h.1, h.2⟩), below_call hbz hS.2.2⟩ (fun hS => ?_)
  clear hK K
  try simp only [Act.put]
  refine wpAnyH_ready (rs := [4]) (by kernel_rfl) (by simp) (AllReadyH.cons (o := ⟨some 9, _, _, _, _, _⟩) rfl (fun K hK => ?_) AllReadyH.nil)
  go_simp
  refine (mul_any _ _ _ _ _ _ _ _ _ _ _ _ _ hx hz).mono ?_
  rintro e w' ⟨o0, o1, o2, o3, o4, rfl, ho, hbz⟩
  refine hK.out _ _ ⟨row_call hbz hS.1, (hS.2.1).elim (fun c h => ⟨c, row_call hbz h.1, h.2⟩), below_call hbz hS.2.2⟩ (fun hS => ?_)
  clear hK K
  try simp only [Act.put]
  obtain ⟨R0, ⟨c1, R1, s1⟩, B0⟩ := hS
  refine wpAnyH_ready (rs := [5]) (by kernel_rfl) (by simp) (AllReadyH.cons (o := ⟨none, _, _, _, _, _⟩) rfl (fun K hK => ?_) AllReadyH.nil)
  rw [if_pos (by rfl)]
  refine wp_st_row _ _ _ rfl _ #[.int .u64 o0, .int .u64 o1, .int .u64 o2, .int .u64 o3, .int .u64 o4] (by rfl) (by rfl) _ _ R1 5 tElem (by rfl) s1 (ev_one ..) ?_
  refine hK.out _ _ ⟨row_put_other R0 (by omega), ⟨_, row_put R1, rfl⟩, below_setRow B0 (by omega) _⟩ (fun _ => ?_)
  clear hK K
  try simp only [Act.put]
  refine wpAnyH_done (by kernel_rfl) ?_ _
  go_wp2
  refine ret_row rfl _ _ _ rfl (row_put R1) 5 tElem (by rfl) rfl ?_
  exact ⟨_, _, _, _, _, rfl, ho, below_setRow B0 (by omega) _⟩
end Go.Proofs.Ytciakfhjjnmeeaa

namespace Go.Proofs.Ytciakfhjjnmeeaa
open Go.RowKit Nt

theorem equal_yes (x0 x1 x2 x3 x4 y0 y1 y2 y3 y4 : Int) (n m : F) (w : World) (hx : El x0 x1 x2 x3 x4 n) (hy : El y0 y1 y2 y3 y4 m) (h : n = m) :
    Calls Try.prog 25 #[ev x0 x1 x2 x3 x4, ev y0 y1 y2 y3 y4] w fun e w' => e = .returned (.int .u64 18446744073709551615) ∧ Below w.heap.size w w' :=
  (equal_any _ _ _ _ _ _ _ _ _ _ n m w hx hy).mono fun _ _ ⟨h1, h2⟩ => ⟨by rw [h1, decide_eq_true h]; rfl, h2⟩
theorem equal_no (x0 x1 x2 x3 x4 y0 y1 y2 y3 y4 : Int) (n m : F) (w : World) (hx : El x0 x1 x2 x3 x4 n) (hy : El y0 y1 y2 y3 y4 m) (h : ¬ n = m) :
    Calls Try.prog 25 #[ev x0 x1 x2 x3 x4, ev y0 y1 y2 y3 y4] w fun e w' => e = .returned (.int .u64 0) ∧ Below w.heap.size w w' :=
  (equal_any _ _ _ _ _ _ _ _ _ _ n m w hx hy).mono fun _ _ ⟨h1, h2⟩ => ⟨by rw [h1, decide_eq_false h]; rfl, h2⟩
theorem zero_yes (x0 x1 x2 x3 x4 : Int) (n : F) (w : World) (hx : El x0 x1 x2 x3 x4 n) (h : n = 0) :
    Calls Try.prog 28 #[ev x0 x1 x2 x3 x4] w fun e w' => e = .returned (.int .u64 18446744073709551615) ∧ Below w.heap.size w w' :=
  (zero_any _ _ _ _ _ n w hx).mono fun _ _ ⟨h1, h2⟩ => ⟨by rw [h1, decide_eq_true h]; rfl, h2⟩
theorem zero_no (x0 x1 x2 x3 x4 : Int) (n : F) (w : World) (hx : El x0 x1 x2 x3 x4 n) (h : ¬ n = 0) :
    Calls Try.prog 28 #[ev x0 x1 x2 x3 x4] w fun e w' => e = .returned (.int .u64 0) ∧ Below w.heap.size w w' :=
  (zero_any _ _ _ _ _ n w hx).mono fun _ _ ⟨h1, h2⟩ => ⟨by rw [h1, decide_eq_false h]; rfl, h2⟩
theorem small_lit (k : Nat) (w : World) (h : k < 18446744073709551616) : Calls Try.prog 22 #[.int .u64 k] w (ElemOut (Fin.ofNat P k) w) :=
  small_any k w (by omega) (by omega)

theorem eq_bytes (V : Nat) (w : World) : (Op.equalIn 10000 22 (.agg (vals (bytesN V))) (.agg (vals (bytesN V)))).run Try.prog w = .ok true w := by
  have h := run_equalIn_vals (P := Try.prog) w .u8 9998 22 5 32 Try.underlying22 Try.underlying5 (fun w => by kernel_rfl) (bytesN V) (bytesN V) (bytesN_len _) (bytesN_len _)
  rw [decide_eq_true rfl] at h
  exact h

set_option maxHeartbeats 1000000 in
set_option maxRecDepth 100000 in
/-- Two numbers that are one are told to be so. -/
theorem one_yes (x0 x1 x2 x3 x4 y0 y1 y2 y3 y4 : Int) (n m : F) (w : World) (hx : El x0 x1 x2 x3 x4 n) (hy : El y0 y1 y2 y3 y4 m) (hnm : n = m) :
    Calls Try.prog 27 #[ev x0 x1 x2 x3 x4, ev y0 y1 y2 y3 y4] w fun e w' => e = .returned (.bool true) ∧ Below w.heap.size w w' := by
  subst hnm
  have heq := fun w => eq_bytes n.val w
  have R0 := new2_0 w (.cells #[.int .u64 x0, .int .u64 x1, .int .u64 x2, .int .u64 x3, .int .u64 x4] 26) (.cells #[.int .u64 y0, .int .u64 y1, .int .u64 y2, .int .u64 y3, .int .u64 y4] 26)
  have R1 := new2_1 w (.cells #[.int .u64 x0, .int .u64 x1, .int .u64 x2, .int .u64 x3, .int .u64 x4] 26) (.cells #[.int .u64 y0, .int .u64 y1, .int .u64 y2, .int .u64 y3, .int .u64 y4] 26)
  have B0 : Below w.heap.size w ((w.alloc (.cells #[.int .u64 x0, .int .u64 x1, .int .u64 x2, .int .u64 x3, .int .u64 x4] 26)).alloc (.cells #[.int .u64 y0, .int .u64 y1, .int .u64 y2, .int .u64 y3, .int .u64 y4] 26)) := by go_grown
  go_enter Try.func27, Try.ntmps27
  go_wp2_with fail
  generalize (w.alloc (.cells #[.int .u64 x0, .int .u64 x1, .int .u64 x2, .int .u64 x3, .int .u64 x4] 26)).alloc (.cells #[.int .u64 y0, .int .u64 y1, .int .u64 y2, .int .u64 y3, .int .u64 y4] 26) = W at *
  refine wp_region_held_drew (S := (fun w' => w'.heap[w.heap.size]? = some (.cells #[.int .u64 x0, .int .u64 x1, .int .u64 x2, .int .u64 x3, .int .u64 x4] 26 (0, 0)) ∧ w'.heap[w.heap.size + 1]? = some (.cells #[.int .u64 y0, .int .u64 y1, .int .u64 y2, .int .u64 y3, .int .u64 y4] 26 (0, 0)) ∧ Below w.heap.size w w')) (by kernel_rfl) ⟨R0, R1, B0.drew⟩ (fun hS => ?_)
  clear R0 R1 B0
  refine wpAnyH_take (i := 0) (oi := ⟨some 5, _, _, _, _, _⟩) rfl (by kernel_rfl) (by kernel_rfl) (by kernel_rfl) (fun _ _ _ h => h) (yieldsIf_row (by rfl) _ _ rfl _ (by rfl) _ _ (fun _ h => h.1) 5 tElem (by rfl)) hS ?_
  try simp only [Act.put]
  refine wpAnyH_take (i := 1) (oi := ⟨some 6, _, _, _, _, _⟩) rfl (by kernel_rfl) (by kernel_rfl) (by kernel_rfl) (fun _ _ _ h => h) (yieldsIf_row (by rfl) _ _ rfl _ (by rfl) _ _ (fun _ h => h.2.1) 5 tElem (by rfl)) hS ?_
  try simp only [Act.put]
  refine wpAnyH_ready (rs := [2]) (by kernel_rfl) (by simp) (AllReadyH.cons (o := ⟨some 7, _, _, _, _, _⟩) rfl (fun K hK => ?_) AllReadyH.nil)
  go_simp
  refine (equal_yes _ _ _ _ _ _ _ _ _ _ _ _ _ hx hy rfl).mono ?_
  rintro e w' ⟨rfl, hbz⟩
  refine hK.out _ _ ⟨row_call hbz hS.1, row_call hbz hS.2.1, below_call hbz hS.2.2⟩ (fun hS => ?_)
  clear hK K
  try simp only [Act.put]
  refine wpAnyH_take (i := 3) (oi := ⟨some 8, _, _, _, _, _⟩) (v := ?_) rfl (by kernel_rfl) (by kernel_rfl) (by kernel_rfl) (fun _ _ _ h => h) (Or.inl ⟨by rfl, ?_⟩) hS ?_
  rotate_left
  · intro w hSw; go_simp; first | done | with_reducible rfl
  try simp only [Act.put]
  refine wpAnyH_take (i := 4) (oi := ⟨some 9, _, _, _, _, _⟩) (v := ?_) rfl (by kernel_rfl) (by kernel_rfl) (by kernel_rfl) (fun _ _ _ h => h) (Or.inl ⟨by rfl, ?_⟩) hS ?_
  rotate_left
  · intro w hSw; go_simp; first | done | with_reducible rfl
  try simp only [Act.put]
  refine wpAnyH_take (i := 5) (oi := ⟨some 10, _, _, _, _, _⟩) rfl (by kernel_rfl) (by kernel_rfl) (by kernel_rfl) (fun _ _ _ h => h) (yieldsIf_row (by rfl) _ _ rfl _ (by rfl) _ _ (fun _ h => h.1) 5 tElem (by rfl)) hS ?_
  try simp only [Act.put]
  refine wpAnyH_take (i := 7) (oi := ⟨some 12, _, _, _, _, _⟩) rfl (by kernel_rfl) (by kernel_rfl) (by kernel_rfl) (fun _ _ _ h => h) (yieldsIf_row (by rfl) _ _ rfl _ (by rfl) _ _ (fun _ h => h.2.1) 5 tElem (by rfl)) hS ?_
  try simp only [Act.put]
  refine wpAnyH_ready (rs := [6]) (by kernel_rfl) (by simp) (AllReadyH.cons (o := ⟨some 11, _, _, _, _, _⟩) rfl (fun K hK => ?_) AllReadyH.nil)
  go_simp
  refine (bytes_any _ _ _ _ _ _ _ hx).mono ?_
  rintro e w' ⟨rfl, hbz⟩
  refine hK.out _ _ ⟨row_call hbz hS.1, row_call hbz hS.2.1, below_call hbz hS.2.2⟩ (fun hS => ?_)
  clear hK K
  try simp only [Act.put]
  refine wpAnyH_ready (rs := [8]) (by kernel_rfl) (by simp) (AllReadyH.cons (o := ⟨some 13, _, _, _, _, _⟩) rfl (fun K hK => ?_) AllReadyH.nil)
  go_simp
  refine (bytes_any _ _ _ _ _ _ _ hy).mono ?_
  rintro e w' ⟨rfl, hbz⟩
  refine hK.out _ _ ⟨row_call hbz hS.1, row_call hbz hS.2.1, below_call hbz hS.2.2⟩ (fun hS => ?_)
  clear hK K
  try simp only [Act.put]
  refine wpAnyH_take (i := 9) (oi := ⟨some 14, _, _, _, _, _⟩) (v := ?_) rfl (by kernel_rfl) (by kernel_rfl) (by kernel_rfl) (fun _ _ _ h => h) (Or.inl ⟨by rfl, ?_⟩) hS ?_
  rotate_left
  · intro w hSw; go_simp; first | done | with_reducible rfl
  try simp only [Act.put]
  refine wpAnyH_take (i := 10) (oi := ⟨some 15, _, _, _, _, _⟩) (v := ?_) rfl (by kernel_rfl) (by kernel_rfl) (by kernel_rfl) (fun _ _ _ h => h) (Or.inl ⟨by rfl, ?_⟩) hS ?_
  rotate_left
  · intro w hSw; go_simp; first | done | with_reducible rfl
  try simp only [Act.put]
  refine wpAnyH_take (i := 11) (oi := ⟨some 4, _, _, _, _, _⟩) (v := ?_) rfl (by kernel_rfl) (by kernel_rfl) (by kernel_rfl) (fun _ _ _ h => h) (Or.inl ⟨by rfl, ?_⟩) hS ?_
  rotate_left
  · intro w hSw; go_simp; first | done | with_reducible rfl
  try simp only [Act.put]
  refine wpAnyH_done (by kernel_rfl) ?_ _
  clear heq
  go_wp2
  go_returns
  exact ⟨rfl, hS.2.2⟩
end Go.Proofs.Ytciakfhjjnmeeaa

namespace Go.Proofs.Ytciakfhjjnmeeaa
open Nt

/-- The number of digits, the lowest first. -/
def dnum : List Int → Int
  | [] => 0
  | b :: r => b + 65536 * dnum r

/-- Sixteen digits. -/
def Norm (l : List Int) : Prop := l.length = 16 ∧ ∀ x ∈ l, 0 ≤ x ∧ x < 65536

theorem Norm.nth {l : List Int} (h : Norm l) (j : Nat) : 0 ≤ nth l j ∧ nth l j < 65536 := by
  by_cases hj : j < l.length
  · rw [nth_get hj]; exact h.2 _ (List.getElem_mem hj)
  · simp [Go.Proofs.Ytciakfhjjnmeeaa.nth, List.getElem?_eq_none (by omega : l.length ≤ j)]

theorem dnum_append (a b : List Int) : dnum (a ++ b) = dnum a + 65536 ^ a.length * dnum b := by
  induction a with
  | nil => simp [dnum]
  | cons x r ih => simp only [List.cons_append, dnum, ih, List.length_cons, Int.pow_succ]; grind

theorem dnum_bound : ∀ l : List Int, (∀ x ∈ l, 0 ≤ x ∧ x < 65536) → 0 ≤ dnum l ∧ dnum l < 65536 ^ l.length
  | [], _ => by simp [dnum]
  | b :: r, h => by
    have hb := h b (by simp)
    have hr := dnum_bound r (fun x hx => h x (by simp [hx]))
    simp only [dnum, List.length_cons, Int.pow_succ]
    omega

theorem take_nth (l : List Int) (k : Nat) (h : k < l.length) : l.take (k + 1) = l.take k ++ [nth l k] := by
  rw [List.take_succ_eq_append_getElem h, nth_get h]
theorem drop_nth (l : List Int) (k : Nat) (h : k < l.length) : l.drop k = nth l k :: l.drop (k + 1) := by
  rw [List.drop_eq_getElem_cons h, nth_get h]

theorem dnum_take (l : List Int) (k : Nat) (h : k < l.length) : dnum (l.take (k + 1)) = dnum (l.take k) + 65536 ^ k * nth l k := by
  rw [take_nth l k h, dnum_append, List.length_take]
  have : min k l.length = k := by omega
  rw [this]; simp [dnum]

theorem dnum_set (l : List Int) (j : Nat) (v : Int) (h : j < l.length) : dnum (l.set j v) = dnum l + 65536 ^ j * (v - nth l j) := by
  have e1 : l = l.take j ++ nth l j :: l.drop (j + 1) := by rw [← drop_nth l j h, List.take_append_drop]
  have e2 : l.set j v = l.take j ++ v :: l.drop (j + 1) := List.set_eq_take_append_cons_drop.trans (by rw [if_pos h])
  have hl : (l.take j).length = j := by rw [List.length_take]; omega
  rw [e2, dnum_append, hl]
  conv => rhs; rw [e1]
  have hn : nth (l.take j ++ nth l j :: l.drop (j + 1)) j = nth l j := by rw [← e1]
  rw [hn, dnum_append, hl]
  simp only [dnum]
  grind

theorem nth_set (l : List Int) (j i : Nat) (v : Int) (h : j < l.length) : nth (l.set j v) i = if i = j then v else nth l i := by
  simp only [nth, List.getD_eq_getElem?_getD, List.getElem?_set]
  by_cases e : j = i
  · subst e; simp [h]
  · have e' : ¬ i = j := fun h => e h.symm
    simp [e, e']

/-! ### Rows that are filled from the front -/
theorem fill_step (T Z : List Int) (k : Nat) (hk : k < T.length) (hl : T.length = Z.length) : (T.take k ++ Z.drop k).set k (nth T k) = T.take (k + 1) ++ Z.drop (k + 1) := by
  have h1 : (T.take k).length = k := by rw [List.length_take]; omega
  rw [List.set_append_right _ _ (by omega), h1, Nat.sub_self, drop_nth Z k (by omega), List.set_cons_zero, take_nth T k hk, List.append_assoc]
  rfl
theorem fill_rest (T Z : List Int) (k j : Nat) (hk : k ≤ j) (hT : k ≤ T.length) : nth (T.take k ++ Z.drop k) j = nth Z j := by
  have h1 : (T.take k).length = k := by rw [List.length_take]; omega
  have e : k + (j - k) = j := by omega
  simp only [nth, List.getD_eq_getElem?_getD]
  rw [List.getElem?_append_right (by omega), h1, List.getElem?_drop, e]
theorem fill_len (T Z : List Int) (k : Nat) (hl : T.length = Z.length) (hk : k ≤ T.length) : (T.take k ++ Z.drop k).length = Z.length := by
  rw [List.length_append, List.length_take, List.length_drop]; omega
theorem pre_set (A R : List Int) (x v : Int) (k : Nat) (h : A.length = k) : (A ++ x :: R).set k v = (A ++ [v]) ++ R := by
  rw [List.set_append_right _ _ (by omega), h, Nat.sub_self, List.set_cons_zero, List.append_assoc]; rfl
theorem pre_nth (A R : List Int) (x : Int) (k : Nat) (h : A.length = k) : nth (A ++ x :: R) k = x := by
  simp only [nth, List.getD_eq_getElem?_getD]
  rw [List.getElem?_append_right (by omega), h, Nat.sub_self]; rfl

/-! ### Bytes and digits -/
/-- The digits of bytes. -/
def dgs : List Int → List Int
  | a :: b :: r => (a + 256 * b) :: dgs r
  | _ => []
/-- The bytes of digits. -/
def undg : List Int → List Int
  | x :: r => x % 256 :: x / 256 :: undg r
  | [] => []

theorem dgs_len : ∀ (n : Nat) (l : List Int), l.length = 2 * n → (dgs l).length = n
  | 0, l, h => by have : l = [] := List.length_eq_zero_iff.1 (by omega); subst this; rfl
  | n + 1, a :: b :: r, h => by simp only [List.length_cons] at h; simp [dgs, dgs_len n r (by omega)]
  | n + 1, [a], h => by simp at h; omega
  | n + 1, [], h => by simp at h

theorem dgs_nth : ∀ (i : Nat) (l : List Int), 2 * i + 1 < l.length → nth (dgs l) i = nth l (2 * i) + 256 * nth l (2 * i + 1)
  | 0, a :: b :: r, _ => by simp [dgs, nth]
  | i + 1, a :: b :: r, h => by
    have := dgs_nth i r (by simp only [List.length_cons] at h; omega)
    have e1 : nth (dgs (a :: b :: r)) (i + 1) = nth (dgs r) i := by simp [dgs, nth]
    have e2 : nth (a :: b :: r) (2 * (i + 1)) = nth r (2 * i) := by simp [nth, Nat.mul_add]
    have e3 : nth (a :: b :: r) (2 * (i + 1) + 1) = nth r (2 * i + 1) := by simp [nth, Nat.mul_add]
    rw [e1, e2, e3, this]
  | _, [a], h => by simp at h
  | _, [], h => by simp at h

theorem dgs_num : ∀ (n : Nat) (l : List Int), l.length = 2 * n → dnum (dgs l) = num l
  | 0, l, h => by have : l = [] := List.length_eq_zero_iff.1 (by omega); subst this; rfl
  | n + 1, a :: b :: r, h => by
    simp only [List.length_cons] at h
    simp only [dgs, dnum, num, dgs_num n r (by omega)]; omega
  | n + 1, [a], h => by simp at h; omega
  | n + 1, [], h => by simp at h

theorem dgs_norm (l : List Int) (hl : l.length = 32) (hb : Byt l) : Norm (dgs l) := by
  refine ⟨dgs_len 16 l (by omega), fun x hx => ?_⟩
  obtain ⟨i, hi, rfl⟩ := List.getElem_of_mem hx
  rw [dgs_len 16 l (by omega)] at hi
  rw [← nth_get, dgs_nth i l (by omega)]
  have h1 := hb.nth (2 * i)
  have h2 := hb.nth (2 * i + 1)
  omega

theorem undg_len : ∀ l : List Int, (undg l).length = 2 * l.length
  | [] => rfl
  | x :: r => by simp [undg, undg_len r]; omega

theorem undg_byt : ∀ l : List Int, (∀ x ∈ l, 0 ≤ x ∧ x < 65536) → Byt (undg l)
  | [], _ => fun x hx => by cases hx
  | y :: r, h => fun x hx => by
    have hy := h y (by simp)
    simp only [undg, List.mem_cons] at hx
    rcases hx with rfl | rfl | hx
    · omega
    · omega
    · exact undg_byt r (fun z hz => h z (by simp [hz])) x hx

theorem undg_num : ∀ l : List Int, num (undg l) = dnum l
  | [] => rfl
  | x :: r => by simp only [undg, num, dnum, undg_num r]; omega

theorem undg_even : ∀ (i : Nat) (l : List Int), i < l.length → nth (undg l) (2 * i) = nth l i % 256
  | 0, x :: r, _ => by simp [undg, nth]
  | i + 1, x :: r, h => by
    have := undg_even i r (by simp only [List.length_cons] at h; omega)
    have e : nth (undg (x :: r)) (2 * (i + 1)) = nth (undg r) (2 * i) := by simp [undg, nth, Nat.mul_add]
    rw [e, this]; simp [nth]
  | _, [], h => by simp at h

theorem undg_odd : ∀ (i : Nat) (l : List Int), i < l.length → nth (undg l) (2 * i + 1) = nth l i / 256
  | 0, x :: r, _ => by simp [undg, nth]
  | i + 1, x :: r, h => by
    have := undg_odd i r (by simp only [List.length_cons] at h; omega)
    have e : nth (undg (x :: r)) (2 * (i + 1) + 1) = nth (undg r) (2 * i + 1) := by simp [undg, nth, Nat.mul_add]
    rw [e, this]; simp [nth]
  | _, [], h => by simp at h

/-- Bytes are told by their number. -/
theorem bytes_of_num (l : List Int) (hl : l.length = 32) (hb : Byt l) (V : Nat) (h : num l = (V : Int)) : l = bytesN V := by
  apply List.ext_getElem
  · rw [hl, bytesN_len]
  · intro j h1 h2
    have hm := num_mid l j 1 (by omega) hb
    rw [drop_nth l j h1] at hm
    simp only [List.take_succ_cons, List.take_zero, num] at hm
    rw [← nth_get h1, ← nth_get h2, nth_bytesN V j (by omega)]
    rw [h] at hm
    have e : ((byteOf V j : Nat) : Int) = (V : Int) / 256 ^ j % 256 := by
      rw [byteOf, Int.natCast_emod, Int.natCast_ediv, Int.natCast_pow]; rfl
    rw [e]; omega

theorem num_bytesN (V : Nat) (h : V < 256 ^ 32) : num (bytesN V) = (V : Int) := by
  have h1 := num_bound _ (bytesN_byt V)
  rw [bytesN_len] at h1
  obtain ⟨U, hU⟩ := Int.eq_ofNat_of_zero_le h1.1
  have h2 := bytes_of_num _ (bytesN_len V) (bytesN_byt V) U hU
  have hUV : ∀ n, n ≤ 32 → U % 256 ^ n = V % 256 ^ n := by
    intro n
    induction n with
    | zero => intro _; rw [Nat.pow_zero, Nat.mod_one, Nat.mod_one]
    | succ n ih =>
      intro hn
      have e := congrArg (fun l => nth l n) h2
      simp only [nth_bytesN _ n (by omega)] at e
      have e' : byteOf V n = byteOf U n := by omega
      simp only [byteOf] at e'
      rw [Nat.pow_succ, Nat.mod_mul, Nat.mod_mul, ih (by omega), e']
  have h3 := hUV 32 (Nat.le_refl _)
  have hU' : U < 256 ^ 32 := by
    have := h1.2
    rw [hU] at this
    have h4 : ((U : Nat) : Int) < ((256 ^ 32 : Nat) : Int) := by rw [Int.natCast_pow]; exact this
    exact Int.ofNat_lt.1 h4
  rw [Nat.mod_eq_of_lt hU', Nat.mod_eq_of_lt h] at h3
  rw [hU, h3]

end Go.Proofs.Ytciakfhjjnmeeaa

namespace Go.Proofs.Ytciakfhjjnmeeaa
open Go.RowKit Nt

theorem tNum : RowT Try.prog 29 32 := ⟨_, Try.underlying29, rfl, by kernel_rfl⟩
theorem tDig : RowT Try.prog 100 16 := ⟨_, Try.underlying100, rfl, by kernel_rfl⟩

/-- Sixteen zeros. -/
def z16 : List Int := List.replicate 16 0
/-- 32 zeros. -/
def z32 : List Int := List.replicate 32 0

set_option maxHeartbeats 1000000 in
set_option maxRecDepth 100000 in
theorem digits_any (l : List Int) (w : World) (hl : l.length = 32) (hb : Byt l) :
    Calls Try.prog 69 #[.agg (vals l)] w fun e w' => e = .returned (.agg (valsK .i64 (dgs l))) ∧ Below w.heap.size w w' := by
  have HL := Lib.hid hl
  have hD := dgs_norm l hl hb
  have HD := Lib.hid hD.1
  clear hl hD
  go_enter Try.func69, Try.ntmps69
  go_wp2_with fail
  go_loopw [4] (fun i wr => ∃ k : Nat, k ≤ 16 ∧ i = .int .i64 k ∧ wr.heap[w.heap.size]? = some (.cells (vals l) 29 (0, 0)) ∧ wr.heap[w.heap.size + 1]? = some (.cells (valsK .i64 z16) 100 (0, 0)) ∧ wr.heap[w.heap.size + 2]? = some (.cells (valsK .i64 ((dgs l).take k ++ z16.drop k)) 100 (0, 0)) ∧ Below w.heap.size w wr) (fun i _ => 16 - (intOf i).toNat)
  case atStart =>
    exact ⟨0, by omega, rfl, new3_0 .., new3_1 .., new3_2 .., by go_grown⟩
  case round =>
    obtain ⟨k, hk, rfl, Ra, Rb, Rc, Bk⟩ := hrel
    by_cases hlt : k < 16
    · have c0 := (row_cell Ra (2 * k)).trans (vals_get (by rw [HL.out]; omega))
      have c1 := (row_cell Ra (2 * k + 1)).trans (vals_get (by rw [HL.out]; omega))
      have cz := (row_cell Rc k).trans (valsK_get (by rw [fill_len _ _ _ (by rw [HD.out]; rfl) (by rw [HD.out]; omega)]; exact hlt))
      have fc := row_free Rc k
      have b0 := hb.nth (2 * k)
      have b1 := hb.nth (2 * k + 1)
      have HS := Lib.hid (row_set (i := k) (v := .int .i64 (nth l (2 * k) + 256 * nth l (2 * k + 1))) Rc)
      have HA := Lib.hid Ra
      have HB := Lib.hid Rb
      clear Ra Rb Rc
      go_wp2
      go_region
      go_wp2
      go_roundw
      case rel =>
        refine ⟨k + 1, by omega, by go_num, row_set_other HA.out (by omega), row_set_other HB.out (by omega), ?_, by go_grown⟩
        refine HS.out.trans ?_
        rw [valsK_set, ← dgs_nth k l (by rw [HL.out]; omega), fill_step _ _ _ (by rw [HD.out]; omega) (by rw [HD.out]; rfl)]
      case measure => simp [intOf]; omega
    · obtain rfl : k = 16 := by omega
      have e16 : (dgs l).take 16 ++ z16.drop 16 = dgs l := by rw [List.take_of_length_le (by rw [HD.out]; omega)]; exact List.append_nil _
      rw [e16] at Rc
      go_wp2_with (first | (refine ld_row rfl 100 (.tmp 3) rfl _ (by rfl) _ _ Rc 16 tDig (by rw [valsK_size, HD.out]) ?_) | (refine st_row rfl 100 (.tmp 2) _ rfl _ _ (by rfl) (by rfl) _ _ Rb 16 tDig (by rw [valsK_size, HD.out]) (by rfl) (valsK_one _ _) ?_))
      refine ret_row rfl _ _ _ rfl (row_put Rb) 16 tDig (by rw [valsK_size, HD.out]) rfl ?_
      exact ⟨rfl, below_setRow Bk (by omega) _⟩

/-- 32 times 255. -/
def f32 : List Int := List.replicate 32 255
theorem f32_nth (k : Nat) (h : k < 32) : nth f32 k = 255 := by rw [nth_get (by exact h)]; exact List.getElem_replicate _
/-- The bytes of p, less a few. -/
def pb (less : Int) : List Int := ((f32.take 32 ++ z32.drop 32).set 0 (237 - less)).set 31 127

theorem pb_num (less : Int) : num (pb less) = 57896044618658097711785492504343953926634992332820282019728792003956564819949 - less := by
  have e : num (pb less) = (237 - less) + 256 * num ((List.replicate 31 (255 : Int)).set 30 127) := rfl
  have e2 : num ((List.replicate 31 (255 : Int)).set 30 127) = 226156424291633194186662080095093570025917938800079226639565593765455331327 := by decide
  rw [e, e2]; omega
theorem pb_len (less : Int) : (pb less).length = 32 := rfl
theorem pb_byt (less : Int) (h0 : 0 ≤ less) (h1 : less ≤ 237) : Byt (pb less) := by
  intro x hx
  have e : pb less = (237 - less) :: (List.replicate 31 (255 : Int)).set 30 127 := rfl
  rw [e, List.mem_cons] at hx
  rcases hx with rfl | hx
  · omega
  · have : ∀ y ∈ (List.replicate 31 (255 : Int)).set 30 127, 0 ≤ y ∧ y < 256 := by decide
    exact this x hx

set_option maxHeartbeats 1000000 in
set_option maxRecDepth 100000 in
theorem prime08_any (less : Int) (w : World) (h0 : 0 ≤ less) (h1 : less ≤ 237) :
    Calls Try.prog 77 #[.int .u8 less] w fun e w' => e = .returned (.agg (vals (pb less))) ∧ Below w.heap.size w w' := by
  go_enter Try.func77, Try.ntmps77
  go_wp2_with fail
  go_loopw [4] (fun i wr => ∃ k : Nat, k ≤ 32 ∧ i = .int .i64 k ∧ wr.heap[w.heap.size]? = some (.cells (vals z32) 29 (0, 0)) ∧ wr.heap[w.heap.size + 1]? = some (.cells (vals (f32.take k ++ z32.drop k)) 29 (0, 0)) ∧ Below w.heap.size w wr) (fun i _ => 32 - (intOf i).toNat)
  case atStart => exact ⟨0, by omega, rfl, new2_0 .., new2_1 .., by go_grown⟩
  case round =>
    obtain ⟨k, hk, rfl, Ra, Rb, Bk⟩ := hrel
    by_cases hlt : k < 32
    · have cz := (row_cell Rb k).trans (vals_get (by rw [fill_len f32 z32 k rfl hk]; exact hlt))
      have fc := row_free Rb k
      have HS := Lib.hid (row_set (i := k) (v := .int .u8 255) Rb)
      have HA := Lib.hid Ra
      clear Ra Rb
      go_wp2
      go_roundw
      case rel =>
        refine ⟨k + 1, by omega, by go_num, row_set_other HA.out (by omega), ?_, by go_grown⟩
        refine HS.out.trans ?_
        rw [vals_set, ← f32_nth k hlt, fill_step f32 z32 k hlt rfl]
      case measure => simp [intOf]; omega
    · obtain rfl : k = 32 := by omega
      have c0 := (row_cell Rb 0).trans (vals_get (by decide))
      have c31 := (row_cell Rb 31).trans (vals_get (by decide))
      have ff := row_free Rb
      have HA := Lib.hid Ra
      have HB := Lib.hid Rb
      clear Ra Rb
      have R2 := row_set (i := 31) (v := .int .u8 127) (row_set (i := 0) (v := .int .u8 (237 - less)) HB.out)
      rw [vals_set, vals_set] at R2
      have HR := Lib.hid R2
      clear R2
      go_wp2_with (first | (refine ld_row rfl 29 (.tmp 3) rfl _ (by rfl) _ _ HR.out 32 tNum (by rw [vals_size]; rfl) ?_) | (refine st_row rfl 29 (.tmp 2) _ rfl _ _ (by rfl) (by rfl) _ _ (row_set_other (row_set_other HA.out (by omega)) (by omega)) 32 tNum (by rw [vals_size]; rfl) (by rfl) (vals_one _) ?_))
      refine ret_row rfl _ _ _ rfl (row_put (row_set_other (row_set_other HA.out (by omega)) (by omega))) 32 tNum (by rw [vals_size]; rfl) rfl ?_
      exact ⟨rfl, below_setRow (by go_grown) (by omega) _⟩

set_option maxHeartbeats 1000000 in
set_option maxRecDepth 100000 in
theorem prime_any (less : Int) (w : World) (h0 : 0 ≤ less) (h1 : less ≤ 237) :
    Calls Try.prog 41 #[.int .u8 less] w fun e w' => e = .returned (.agg (vals (pb less))) ∧ Below w.heap.size w w' := by
  go_enter Try.func41, Try.ntmps41
  go_wp2_with fail
  go_loopw [4] (fun i wr => ∃ k : Nat, k ≤ 32 ∧ i = .int .i64 k ∧ wr.heap[w.heap.size]? = some (.cells (vals z32) 22 (0, 0)) ∧ wr.heap[w.heap.size + 1]? = some (.cells (vals (f32.take k ++ z32.drop k)) 22 (0, 0)) ∧ Below w.heap.size w wr) (fun i _ => 32 - (intOf i).toNat)
  case atStart => exact ⟨0, by omega, rfl, new2_0 .., new2_1 .., by go_grown⟩
  case round =>
    obtain ⟨k, hk, rfl, Ra, Rb, Bk⟩ := hrel
    by_cases hlt : k < 32
    · have cz := (row_cell Rb k).trans (vals_get (by rw [fill_len f32 z32 k rfl hk]; exact hlt))
      have fc := row_free Rb k
      have HS := Lib.hid (row_set (i := k) (v := .int .u8 255) Rb)
      have HA := Lib.hid Ra
      clear Ra Rb
      go_wp2
      go_roundw
      case rel =>
        refine ⟨k + 1, by omega, by go_num, row_set_other HA.out (by omega), ?_, by go_grown⟩
        refine HS.out.trans ?_
        rw [vals_set, ← f32_nth k hlt, fill_step f32 z32 k hlt rfl]
      case measure => simp [intOf]; omega
    · obtain rfl : k = 32 := by omega
      have c0 := (row_cell Rb 0).trans (vals_get (by decide))
      have c31 := (row_cell Rb 31).trans (vals_get (by decide))
      have ff := row_free Rb
      have HA := Lib.hid Ra
      have HB := Lib.hid Rb
      clear Ra Rb
      have R2 := row_set (i := 31) (v := .int .u8 127) (row_set (i := 0) (v := .int .u8 (237 - less)) HB.out)
      rw [vals_set, vals_set] at R2
      have HR := Lib.hid R2
      clear R2
      go_wp2_with (first | (refine ld_row rfl 22 (.tmp 3) rfl _ (by rfl) _ _ HR.out 32 tBytes (by rw [vals_size]; rfl) ?_) | (refine st_row rfl 22 (.tmp 2) _ rfl _ _ (by rfl) (by rfl) _ _ (row_set_other (row_set_other HA.out (by omega)) (by omega)) 32 tBytes (by rw [vals_size]; rfl) (by rfl) (vals_one _) ?_))
      refine ret_row rfl _ _ _ rfl (row_put (row_set_other (row_set_other HA.out (by omega)) (by omega))) 32 tBytes (by rw [vals_size]; rfl) rfl ?_
      exact ⟨rfl, below_setRow (by go_grown) (by omega) _⟩
end Go.Proofs.Ytciakfhjjnmeeaa
