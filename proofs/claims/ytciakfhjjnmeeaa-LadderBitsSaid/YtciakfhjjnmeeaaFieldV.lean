/- Walk of the law's own 'below': a row of bytes of a number below the prime is below it. Nothing that was there is turned. -/
import Derived.Test.YtciakfhjjnmeeaaOpsG
import Derived.Deep.QuietTactic
import Derived.BigQuiet
namespace Go.Proofs.Ytciakfhjjnmeeaa
open Go.RowKit Nt

theorem byte_up (V j : Nat) : V / 256 ^ j = 256 * (V / 256 ^ (j + 1)) + byteOf V j := by
  unfold byteOf
  rw [Nat.pow_succ, ← Nat.div_div_eq_div_mul]
  omega

theorem byte_less {V W j : Nat} (h : V < W) (hd : V / 256 ^ (j + 1) = W / 256 ^ (j + 1)) (hne : byteOf V j ≠ byteOf W j) : byteOf V j < byteOf W j := by
  have h1 := byte_up V j
  have h2 := byte_up W j
  have h3 : V / 256 ^ j ≤ W / 256 ^ j := Nat.div_le_div_right (Nat.le_of_lt h)
  omega

theorem pb0_bytes : pb 0 = bytesN P := bytes_of_num _ (pb_len _) (pb_byt _ (by omega) (by omega)) _ (by rw [pb_num]; decide)

set_option maxHeartbeats 1000000 in
set_option maxRecDepth 100000 in
theorem below_any (V : Nat) (w : World) (hV : V < P) :
    Calls Try.prog 26 #[.agg (vals (bytesN V))] w fun e w' => e = .returned (.bool true) ∧ Below w.heap.size w w' := by
  have hP : P < 256 ^ 32 := by decide
  have HP0 := Lib.hid pb0_bytes
  have HV := Lib.hid hV
  have HT : V / 256 ^ 32 = P / 256 ^ 32 := by rw [Nat.div_eq_of_lt hP, Nat.div_eq_of_lt (Nat.lt_trans hV hP)]
  clear hP
  have R0 := row_new (w := w) (x := .cells (vals (bytesN V)) 22)
  have B0 : Below w.heap.size w (w.alloc (.cells (vals (bytesN V)) 22)) := by go_grown
  go_enter Try.func26, Try.ntmps26
  go_wp2_with fail
  generalize w.alloc (.cells (vals (bytesN V)) 22) = W at *
  refine (prime_any 0 _ (by omega) (by omega)).mono ?_
  rintro e w1 ⟨rfl, b1⟩
  rw [HP0.out]
  replace R0 := row_call b1 R0
  have B1 := below_call b1 B0
  clear b1 B0 W
  have L1 := row_lt R0
  replace R0 := row_alloc (x := .cells (vals (bytesN P)) 22) R0
  have R1 := row_new (w := w1) (x := .cells (vals (bytesN P)) 22)
  have B2 := B1.alloc B1.size (.cells (vals (bytesN P)) 22)
  have HB32 := Lib.hid (show (vals (bytesN P)).size = 32 by rw [vals_size, bytesN_len])
  have HO := Lib.hid (vals_one (bytesN P))
  generalize P = N at *
  go_wp2_with ((with_reducible refine guard_list ?_); refine st_new rfl 22 (.tmp 3) _ rfl _ _ _ (by rfl) (by rfl) 32 tBytes HB32.out (by rfl) HO.out ?_)
  generalize w1.alloc (.cells (vals (bytesN N)) 22) = W at *
  generalize w1.heap.size = g at *
  clear B1 w1
  go_loopw [4] (fun i wr => ∃ k : Nat, k ≤ 32 ∧ i = .int .i64 ((k : Int) - 1) ∧ V / 256 ^ k = N / 256 ^ k ∧ wr.heap[w.heap.size]? = some (.cells (vals (bytesN V)) 22 (0, 0)) ∧ wr.heap[g]? = some (.cells (vals (bytesN N)) 22 (0, 0)) ∧ Below w.heap.size w wr) (fun i _ => (intOf i + 1).toNat)
  case atStart => exact ⟨32, by omega, rfl, HT, R0, R1, B2⟩
  case round =>
    obtain ⟨k, hk, rfl, hd, Ra, Rb, Bk⟩ := hrel
    clear R0 R1 B2 HT
    by_cases h0 : k = 0
    · subst h0
      exact absurd hd (by simp; have := HV.out; omega)
    · obtain ⟨m, rfl⟩ : ∃ m, k = m + 1 := ⟨k - 1, by omega⟩
      have ca : wr.cell? ⟨w.heap.size, m, none⟩ = some (.int .u8 (byteOf V m)) := (row_cell Ra m).trans (by rw [vals_get (by rw [bytesN_len]; omega), nth_bytesN _ _ (by omega)])
      have cb : wr.cell? ⟨g, m, none⟩ = some (.int .u8 (byteOf N m)) := (row_cell Rb m).trans (by rw [vals_get (by rw [bytesN_len]; omega), nth_bytesN _ _ (by omega)])
      have HRa := Lib.hid Ra
      have HRb := Lib.hid Rb
      have HDr := Lib.hid hd
      clear Ra Rb hd
      by_cases he : byteOf V m = byteOf N m
      · have hbe : (((byteOf V m : Nat) : Int) != (byteOf N m : Nat)) = false := by simp [he]
        have HE := Lib.hid he
        clear he
        go_wp2
        go_quiet (fail)
        go_wp2
        go_roundw
        case rel =>
          refine ⟨m, by omega, by go_num, ?_, HRa.out, HRb.out, below_drewN Bk _⟩
          rw [byte_up V m, byte_up N m, HDr.out, HE.out]
        case measure => simp [intOf]
      · have hbe : (((byteOf V m : Nat) : Int) != (byteOf N m : Nat)) = true := by simp; omega
        have hX := byte_less HV.out HDr.out he
        have HX := Lib.hid (decide_eq_true hX)
        clear he hX
        go_wp2
        go_quiet (fail)
        go_wp2
        go_quiet (fail)
        go_wp2
        go_returns
        exact ⟨by rw [← HX.out]; rfl, below_drewN (below_drewN Bk _) _⟩
theorem below_ev (V : Nat) (hV : V < P) (w : World) : Calls Try.prog 26 #[.agg (vals (bytesN V))] w (Gives (· = .bool true) w) :=
  (below_any V w hV).mono fun _ _ ⟨e1, e2⟩ => ⟨_, e1, rfl, e2⟩
end Go.Proofs.Ytciakfhjjnmeeaa
