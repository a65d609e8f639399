/- Walks of package field: least, Bytes. -/
import Derived.Test.YtciakfhjjnmeeaaFieldA
import Derived.Test.YtciakfhjjnmeeaaElem2
namespace Go.Proofs.Ytciakfhjjnmeeaa
open Go.RowKit Nt

/-- The five cells of a row. -/
theorem ev_row {w : World} {g : Nat} {t : TypeId} {z0 z1 z2 z3 z4 : Int} (h : w.heap[g]? = some (.cells #[.int .u64 z0, .int .u64 z1, .int .u64 z2, .int .u64 z3, .int .u64 z4] t (0, 0))) :
    w.cell? ⟨g, 0, none⟩ = some (.int .u64 z0) ∧ w.cell? ⟨g, 1, none⟩ = some (.int .u64 z1) ∧ w.cell? ⟨g, 2, none⟩ = some (.int .u64 z2) ∧ w.cell? ⟨g, 3, none⟩ = some (.int .u64 z3) ∧ w.cell? ⟨g, 4, none⟩ = some (.int .u64 z4) :=
  ⟨row_cell h 0, row_cell h 1, row_cell h 2, row_cell h 3, row_cell h 4⟩

/-- The least limbs of n. -/
def LeastOut (n : F) (w : World) (e : Ending) (w' : World) : Prop :=
  ∃ z0 z1 z2 z3 z4 : Int, e = .returned (ev z0 z1 z2 z3 z4) ∧ Can z0 z1 z2 z3 z4 n ∧ Below w.heap.size w w'

set_option maxHeartbeats 2000000 in
set_option maxRecDepth 100000 in
theorem least_any (x0 x1 x2 x3 x4 : Int) (n : F) (w : World) (h : El x0 x1 x2 x3 x4 n) :
    Calls Try.prog 67 #[ev x0 x1 x2 x3 x4] w (LeastOut n w) := by
  go_enter Try.func67, Try.ntmps67
  go_wp2_with fail
  refine (carried_any _ _ _ _ _ n _ h.wd).mono ?_
  rintro e w1 ⟨y0, y1, y2, y3, y4, rfl, hy, hb1⟩
  have R1 := (hb1.block w.heap.size (by simp; omega)).trans (heap_alloc2_old w _ _)
  have R2 := (hb1.block (w.heap.size + 1) (by simp)).trans (heap_alloc2_new w _ _)
  have B1 : Below w.heap.size w w1 := Below.trans (by go_grown) (hb1.mono (by simp; omega))
  clear hb1
  go_wp2_with (refine wpList_store_row rfl 26 _ _ rfl w.heap.size #[.int .u64 y0, .int .u64 y1, .int .u64 y2, .int .u64 y3, .int .u64 y4] (by rfl) (by rfl) 26 _ R1 (by kernel_rfl) rfl (ev_one ..) ?_; have S1 := setRow_heap w1 _ _ #[.int .u64 y0, .int .u64 y1, .int .u64 y2, .int .u64 y3, .int .u64 y4] _ _ R1; have S2 := (setRow_other w1 w.heap.size (w.heap.size+1) #[.int .u64 y0, .int .u64 y1, .int .u64 y2, .int .u64 y3, .int .u64 y4] (by omega)).trans R2; have B2 := below_setRow B1 (Nat.le_refl _) #[.int .u64 y0, .int .u64 y1, .int .u64 y2, .int .u64 y3, .int .u64 y4]; clear R1 R2 B1; generalize w1.setRow w.heap.size #[.int .u64 y0, .int .u64 y1, .int .u64 y2, .int .u64 y3, .int .u64 y4] = W1 at *; obtain ⟨c0, c1, c2, c3, c4⟩ := ev_row S1)
  clear c0 c1 c2 c3 c4
  refine (carried_tight _ _ _ _ _ n _ hy).mono ?_
  rintro e w2 ⟨m0, m1, m2, m3, m4, rfl, hm, hb2⟩
  have hB := B2.size
  have T1 := (hb2.block w.heap.size (row_lt S1)).trans S1
  have T2 := (hb2.block (w.heap.size + 1) (row_lt S2)).trans S2
  have B3 : Below w.heap.size w w2 := B2.trans (hb2.mono hB)
  clear hb2 S1 S2 B2 hB
  have HM := hm
  obtain ⟨⟨q0, q1, q2, q3, q4, _⟩, _⟩ := hm
  go_wp2_with (refine wpList_store_row rfl 26 _ _ rfl w.heap.size #[.int .u64 m0, .int .u64 m1, .int .u64 m2, .int .u64 m3, .int .u64 m4] (by rfl) (by rfl) 26 _ T1 (by kernel_rfl) rfl (ev_one ..) ?_; have S1 := setRow_heap w2 _ _ #[.int .u64 m0, .int .u64 m1, .int .u64 m2, .int .u64 m3, .int .u64 m4] _ _ T1; have S2 := (setRow_other w2 w.heap.size (w.heap.size+1) #[.int .u64 m0, .int .u64 m1, .int .u64 m2, .int .u64 m3, .int .u64 m4] (by omega)).trans T2; have B2 := below_setRow B3 (Nat.le_refl _) #[.int .u64 m0, .int .u64 m1, .int .u64 m2, .int .u64 m3, .int .u64 m4]; clear T1 T2 B3; generalize w2.setRow w.heap.size #[.int .u64 m0, .int .u64 m1, .int .u64 m2, .int .u64 m3, .int .u64 m4] = W2 at *; obtain ⟨c0, c1, c2, c3, c4⟩ := ev_row S1; obtain ⟨d0, d1, d2, d3, d4⟩ := ev_row S2; have hlt := row_lt S2; have hf1 := row_free S1; have hf2 := row_free S2)
  refine wp_loop_rounds 6 ?_
  iterate 5 (rw [rounds_succ]; go_wp2)
  rw [rounds_succ]; go_wp2
  generalize hq : ((((((19 + m0) / 2251799813685248 + m1) / 2251799813685248 + m2) / 2251799813685248 + m3) / 2251799813685248 + m4) / 2251799813685248) = q
  have hq0 : 0 ≤ q ∧ q ≤ 2 := by omega
  have HQ := Lib.hid hq
  clear hq
  clear c0 c1 c2 c3 c4 d0 d1 d2 d3 d4 hf1 hf2 S1 hy h
  refine wp_loop_rounds 5 ?_
  iterate 4 (rw [rounds_succ]; go_wp2; go_region; go_wp2)
  rw [rounds_succ]
  go_wp2_with (refine wpList_store_row rfl 24 (.tmp 2) _ rfl (w.heap.size + 1) _ (by rfl) (by rfl) 24 _ ((heap_alloc_old W2 _ hlt).trans S2) (by kernel_rfl) (by rfl) (by simp [Value.oneCell']) ?_)
  refine bodyPost_ret (results_cell_row rfl _ _ (w.heap.size + 1) 24 _ (0, 0) _ rfl (setRow_heap _ _ _ _ _ _ ((heap_alloc_old W2 _ hlt).trans S2)) Try.underlying24 rfl (by kernel_rfl)) rfl ?_
  refine ⟨_, _, _, _, _, rfl, least_can HM HQ.out, ?_⟩
  refine below_setRow ?_ (by omega) _
  have := B2.size
  go_grown

set_option maxHeartbeats 2000000 in
set_option maxRecDepth 100000 in
theorem bytes_any (x0 x1 x2 x3 x4 : Int) (n : F) (w : World) (h : El x0 x1 x2 x3 x4 n) :
    Calls Try.prog 20 #[ev x0 x1 x2 x3 x4] w fun e w' => e = .returned (.agg (vals (bytesN n.val))) ∧ Below w.heap.size w w' := by
  go_enter Try.func20, Try.ntmps20
  go_wp2_with fail
  refine (least_any _ _ _ _ _ n _ h).mono ?_
  rintro e w1 ⟨z0, z1, z2, z3, z4, rfl, hz, hb1⟩
  have R2 := (hb1.block (w.heap.size + 1) (by simp)).trans (heap_alloc2_new w _ _)
  have B1 : Below w.heap.size w w1 := Below.trans (by go_grown) (hb1.mono (by simp; omega))
  have hsz := row_lt R2
  clear hb1
  go_wp2_with fail
  go_loopw [8] (fun i wr => ∃ k : Nat, k ≤ 255 ∧ i = .int .i64 k ∧ wr.heap[w1.heap.size]? = some (.cells (valsK .u64 [z0, z1, z2, z3, z4]) 24 (0, 0)) ∧ wr.heap[w1.heap.size + 1]? = some (.cells (vals (bytesN (n.val % 2 ^ k))) 22 (0, 0)) ∧ wr.heap[w.heap.size + 1]? = some (.cells (vals (bytesN 0)) 22 (0, 0)) ∧ Below w.heap.size w wr) (fun i _ => 255 - (intOf i).toNat)
  case atStart =>
    have := B1.size
    refine ⟨0, by omega, rfl, heap_alloc2_old w1 _ _, ?_, ?_, by go_grown⟩
    · rw [heap_alloc2_new w1 _ _, Nat.pow_zero, Nat.mod_one]; rfl
    · have h1 := row_lt R2
      rw [heap_alloc_old _ _ (by simp; omega), heap_alloc_old _ _ h1, R2]; rfl
  case round =>
    obtain ⟨k, hk, rfl, Ra, Rb, Rc, Bk⟩ := hrel
    by_cases hlt : k < 255
    · have ca : wr.cell? ⟨w1.heap.size, k / 51, none⟩ = some (.int .u64 (nth [z0, z1, z2, z3, z4] (k / 51))) := (row_cell Ra _).trans (valsK_get (by simp; omega))
      have cb : wr.cell? ⟨w1.heap.size + 1, k / 8, none⟩ = some (.int .u8 (byteOf (n.val % 2 ^ k) (k / 8))) := (row_cell Rb _).trans (by rw [vals_get (by rw [bytesN_len]; omega), nth_bytesN _ _ (by omega)])
      have fb := row_free Rb (k / 8)
      have HA := Lib.hid Ra
      have HB := Lib.hid Rb
      have HC := Lib.hid Rc
      clear Ra Rb Rc R2
      go_wp2
      have i8 : (k : Int) / 8 < 32 := by omega
      have i8' : 0 ≤ (k : Int) / 8 := by omega
      have i51 : (k : Int) / 51 < 5 := by omega
      have i51' : 0 ≤ (k : Int) / 51 := by omega
      have m51 : 0 ≤ (k : Int) % 51 := by omega
      have m8 : 0 ≤ (k : Int) % 8 := by omega
      have n8 : ((k : Int) / 8).toNat = k / 8 := by omega
      have n51 : ((k : Int) / 51).toNat = k / 51 := by omega
      have t51 : ((k : Int)).tmod 51 = (k : Int) % 51 := Int.tmod_eq_emod_of_nonneg (by omega)
      have t8 : ((k : Int)).tmod 8 = (k : Int) % 8 := Int.tmod_eq_emod_of_nonneg (by omega)
      have e8 : IntKind.i64.wrap ((k : Int) / 8) = (k : Int) / 8 := IntWalk.i64_in _ (by omega)
      have e51 : IntKind.i64.wrap ((k : Int) / 51) = (k : Int) / 51 := IntWalk.i64_in _ (by omega)
      go_still_tail 18, (by kernel_rfl)
      change wpList _ _ _ _ _ (World.drew _)
      go_wp2
      go_roundw
      case rel =>
        refine ⟨k + 1, by omega, by go_num, ?_, ?_, ?_, ?_⟩
        · exact (heap_setCell_other _ _ _ _ (by simp)).trans HA.out
        · rw [bit_byte hz k hlt, bytesN_step, ← vals_set]
          exact heap_setCell_same _ _ _ _ _ _ HB.out
        · exact (heap_setCell_other _ _ _ _ (by simp; omega)).trans HC.out
        · have := B1.size
          go_grown
      case measure => simp [intOf]; omega
    · obtain rfl : k = 255 := by omega
      rw [mod_all] at Rb
      go_wp2_with (first | (refine wpList_load_row rfl 22 (.tmp 4) rfl (w1.heap.size + 1) (by rfl) 22 _ (0, 0) _ Rb Try.underlying22 rfl (by rw [vals_size, bytesN_len]; kernel_rfl) ?_) | (refine wpList_store_row rfl 22 (.tmp 2) _ rfl (w.heap.size + 1) (vals (bytesN n.val)) (by rfl) (by rfl) 22 _ Rc (by rw [vals_size, bytesN_len]; kernel_rfl) (by rw [vals_size, vals_size, bytesN_len, bytesN_len]) (vals_one _) ?_))
      refine bodyPost_ret (results_cell_row rfl _ _ (w.heap.size + 1) 22 _ (0, 0) _ rfl (setRow_heap _ _ _ _ _ _ Rc) Try.underlying22 rfl (by rw [vals_size, bytesN_len]; kernel_rfl)) rfl ?_
      exact ⟨rfl, below_setRow Bk (by omega) _⟩
end Go.Proofs.Ytciakfhjjnmeeaa
