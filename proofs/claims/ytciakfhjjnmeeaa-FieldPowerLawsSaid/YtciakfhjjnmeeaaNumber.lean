/- Walk of the law's own 'number': a word's bytes. Nothing that was there is turned. -/
import Derived.Test.YtciakfhjjnmeeaaRefD
import Derived.Test.YtciakfhjjnmeeaaOps3
namespace Go.Proofs.Ytciakfhjjnmeeaa
open Go.RowKit Nt

set_option maxHeartbeats 1000000 in
set_option maxRecDepth 100000 in
theorem number_any (n : Nat) (w : World) (h : n < 18446744073709551616) :
    Calls Try.prog 42 #[.int .u64 n] w (Gives (· = .agg (vals (bytesN n))) w) := by
  have HR := Lib.hid (small_rest n h)
  have hl := Lib.hid (bytesN_len n)
  go_enter Try.func42, Try.ntmps42
  go_wp2_with fail
  go_loopw [4] (fun i wr => ∃ k : Nat, k ≤ 8 ∧ i = .int .i64 k ∧ wr.heap[w.heap.size]? = some (.cells (vals z32) 22 (0, 0)) ∧ wr.heap[w.heap.size + 1]? = some (.cells (vals ((bytesN n).take k ++ z32.drop k)) 22 (0, 0)) ∧ Below w.heap.size w wr) (fun i _ => 8 - (intOf i).toNat)
  case atStart => exact ⟨0, by omega, rfl, new2_0 .., new2_1 .., by go_grown⟩
  case round =>
    obtain ⟨k, hk, rfl, Ra, Rb, Bk⟩ := hrel
    by_cases hlt : k < 8
    · have cz := (row_cell Rb k).trans (vals_get (by rw [fill_len _ _ _ (by rw [hl.out]; rfl) (by rw [hl.out]; omega)]; show k < 32; omega))
      have fc := row_free Rb k
      have S1 := row_set (i := k) (v := .int .u8 (byteOf n k : Nat)) Rb
      rw [vals_set, ← nth_bytesN n k (by omega), fill_step _ _ _ (by rw [hl.out]; omega) (by rw [hl.out]; rfl), nth_bytesN n k (by omega)] at S1
      have HS := Lib.hid S1
      have HA := Lib.hid Ra
      clear Ra Rb S1
      have e8 : IntKind.i64.wrap (8 * (k : Int)) = 8 * (k : Int) := IntWalk.i64_in _ (by omega)
      have hv : (n : Int) / 2 ^ (8 * k) % 256 = ((byteOf n k : Nat) : Int) := by
        have e : (256 : Nat) ^ k = 2 ^ (8 * k) := by rw [Nat.pow_mul]
        rw [byteOf, e]
        push_cast
        rfl
      have HV := Lib.hid hv
      clear hv
      go_wp2
      rw [HV.out]
      go_roundw
      case rel => exact ⟨k + 1, by omega, by go_num, row_set_other HA.out (by omega), HS.out, by go_grown⟩
      case measure => simp [intOf]; omega
    · obtain rfl : k = 8 := by omega
      rw [HR.out] at Rb
      go_wp2_with (first | (refine ld_row rfl 22 (.tmp 3) rfl _ (by rfl) _ _ Rb 32 tBytes (by rw [vals_size, bytesN_len]) ?_) | (refine st_row rfl 22 (.tmp 2) _ rfl _ _ (by rfl) (by rfl) _ _ Ra 32 tBytes (by rw [vals_size, bytesN_len]) (by rfl) (vals_one _) ?_))
      refine ret_row rfl _ _ _ rfl (row_put Ra) 32 tBytes (by rw [vals_size, bytesN_len]) rfl ?_
      exact ⟨_, rfl, rfl, below_setRow Bk (by omega) _⟩
end Go.Proofs.Ytciakfhjjnmeeaa
