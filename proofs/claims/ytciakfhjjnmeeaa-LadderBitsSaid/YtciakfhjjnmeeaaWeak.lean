/- Walk of the law's own 'weak': the seven public keys. Nothing that was there is turned. -/
import Derived.Test.YtciakfhjjnmeeaaLadOp2
namespace Go.Proofs.Ytciakfhjjnmeeaa
open Go.RowKit Nt Edw

def oneL : List Int := [1, 0, 0, 0, 0, 0, 0, 0, 0, 0, 0, 0, 0, 0, 0, 0, 0, 0, 0, 0, 0, 0, 0, 0, 0, 0, 0, 0, 0, 0, 0, 0]
def w5L : List Int := [224, 235, 122, 124, 59, 65, 184, 174, 22, 86, 227, 250, 241, 159, 196, 106, 218, 9, 141, 235, 156, 50, 177, 253, 134, 98, 5, 22, 95, 73, 184, 0]
def w6L : List Int := [95, 156, 149, 188, 163, 80, 140, 36, 177, 208, 177, 85, 156, 131, 239, 91, 4, 68, 92, 196, 88, 28, 142, 134, 216, 34, 78, 221, 208, 159, 17, 87]
def weakL (r : Int) : List Int := if r = 1 then oneL else if r = 2 ∨ r = 3 ∨ r = 4 then (f32.set 0 (234 + r)).set 31 127 else if r = 5 then w5L else if r = 6 then w6L else zeroL

set_option maxHeartbeats 1000000 in
set_option maxRecDepth 100000 in
theorem weak_0 (i : Int) (w : World) (h0 : 0 ≤ i) (e : i % 7 = 0) : Calls Try.prog 55 #[.int .i64 i] w (Gives (· = .agg (vals (weakL (i % 7)))) w) := by
  have t7 : i.tmod 7 = i % 7 := Int.tmod_eq_emod_of_nonneg h0
  · rw [show weakL (i % 7) = zeroL by rw [e]; rfl]
    rw [e] at t7
    go_enter Try.func55, Try.ntmps55
    go_wp2_with (refine st_row rfl 68 (.tmp 2) _ rfl _ _ (by rfl) (by rfl) _ _ (row_new) 32 tKey (by rfl) (by rfl) (vals_one zeroL) ?_)
    refine ret_row rfl _ _ _ rfl (row_put row_new) 32 tKey (by rfl) rfl ?_
    exact ⟨_, rfl, rfl, below_setRow (by go_grown) (Nat.le_refl _) _⟩

set_option maxHeartbeats 1000000 in
set_option maxRecDepth 100000 in
theorem weak_1 (i : Int) (w : World) (h0 : 0 ≤ i) (e : i % 7 = 1) : Calls Try.prog 55 #[.int .i64 i] w (Gives (· = .agg (vals (weakL (i % 7)))) w) := by
  have t7 : i.tmod 7 = i % 7 := Int.tmod_eq_emod_of_nonneg h0
  · rw [show weakL (i % 7) = oneL by rw [e]; rfl]
    rw [e] at t7
    go_enter Try.func55, Try.ntmps55
    go_wp2_with (refine st_row rfl 68 (.tmp 2) _ rfl _ _ (by rfl) (by rfl) _ _ (row_new) 32 tKey (by rfl) (by rfl) (vals_one oneL) ?_)
    refine ret_row rfl _ _ _ rfl (row_put row_new) 32 tKey (by rfl) rfl ?_
    exact ⟨_, rfl, rfl, below_setRow (by go_grown) (Nat.le_refl _) _⟩

set_option maxHeartbeats 1000000 in
set_option maxRecDepth 100000 in
theorem weak_2 (i : Int) (w : World) (h0 : 0 ≤ i) (e : i % 7 = 2) : Calls Try.prog 55 #[.int .i64 i] w (Gives (· = .agg (vals (weakL (i % 7)))) w) := by
  have t7 : i.tmod 7 = i % 7 := Int.tmod_eq_emod_of_nonneg h0
  · rw [show weakL (i % 7) = (f32.set 0 236).set 31 127 by rw [e]; rfl]
    rw [e] at t7
    go_enter Try.func55, Try.ntmps55
    go_wp2_with fail
    go_loopw [4] (fun i wr => ∃ k : Nat, k ≤ 32 ∧ i = .int .i64 k ∧ wr.heap[w.heap.size]? = some (.cells (vals z32) 68 (0, 0)) ∧ wr.heap[w.heap.size + 1]? = some (.cells (vals (f32.take k ++ z32.drop k)) 68 (0, 0)) ∧ Below w.heap.size w wr) (fun i _ => 32 - (intOf i).toNat)
    case atStart => exact ⟨0, by omega, rfl, new2_0 .., new2_1 .., by go_grown⟩
    case round =>
      obtain ⟨k, hk, rfl, Ra, Rb, Bk⟩ := hrel
      by_cases hlt : k < 32
      · have cz := (row_cell Rb k).trans (vals_get (by rw [fill_len f32 z32 k rfl hk]; exact hlt))
        have fc := row_free Rb k
        have HS := Lib.hid (row_set (i := k) (v := .int .u8 255) Rb)
        have HA := Lib.hid Ra
        clear Ra Rb
        go_wp2
        go_roundw
        case rel =>
          refine ⟨k + 1, by omega, by go_num, row_set_other HA.out (by omega), ?_, by go_grown⟩
          refine HS.out.trans ?_
          rw [vals_set, ← f32_nth k hlt, fill_step f32 z32 k hlt rfl]
        case measure => simp [intOf]; omega
      · obtain rfl : k = 32 := by omega
        have c0 := (row_cell Rb 0).trans (vals_get (by decide))
        have c31 := (row_cell Rb 31).trans (vals_get (by decide))
        have ff := row_free Rb
        have HA := Lib.hid Ra
        have HB := Lib.hid Rb
        clear Ra Rb
        have R2 := row_set (i := 31) (v := .int .u8 127) (row_set (i := 0) (v := .int .u8 236) HB.out)
        rw [vals_set, vals_set] at R2
        have HR := Lib.hid R2
        clear R2
        go_wp2_with (first | (refine ld_row rfl 68 (.tmp 3) rfl _ (by rfl) _ _ HR.out 32 tKey (by rw [vals_size]; rfl) ?_) | (refine st_row rfl 68 (.tmp 2) _ rfl _ _ (by rfl) (by rfl) _ _ (row_set_other (row_set_other HA.out (by omega)) (by omega)) 32 tKey (by rw [vals_size]; rfl) (by rfl) (vals_one _) ?_))
        refine ret_row rfl _ _ _ rfl (row_put (row_set_other (row_set_other HA.out (by omega)) (by omega))) 32 tKey (by rw [vals_size]; rfl) rfl ?_
        exact ⟨_, rfl, rfl, below_setRow (by go_grown) (by omega) _⟩

set_option maxHeartbeats 1000000 in
set_option maxRecDepth 100000 in
theorem weak_3 (i : Int) (w : World) (h0 : 0 ≤ i) (e : i % 7 = 3) : Calls Try.prog 55 #[.int .i64 i] w (Gives (· = .agg (vals (weakL (i % 7)))) w) := by
  have t7 : i.tmod 7 = i % 7 := Int.tmod_eq_emod_of_nonneg h0
  · rw [show weakL (i % 7) = (f32.set 0 237).set 31 127 by rw [e]; rfl]
    rw [e] at t7
    go_enter Try.func55, Try.ntmps55
    go_wp2_with fail
    go_loopw [4] (fun i wr => ∃ k : Nat, k ≤ 32 ∧ i = .int .i64 k ∧ wr.heap[w.heap.size]? = some (.cells (vals z32) 68 (0, 0)) ∧ wr.heap[w.heap.size + 1]? = some (.cells (vals (f32.take k ++ z32.drop k)) 68 (0, 0)) ∧ Below w.heap.size w wr) (fun i _ => 32 - (intOf i).toNat)
    case atStart => exact ⟨0, by omega, rfl, new2_0 .., new2_1 .., by go_grown⟩
    case round =>
      obtain ⟨k, hk, rfl, Ra, Rb, Bk⟩ := hrel
      by_cases hlt : k < 32
      · have cz := (row_cell Rb k).trans (vals_get (by rw [fill_len f32 z32 k rfl hk]; exact hlt))
        have fc := row_free Rb k
        have HS := Lib.hid (row_set (i := k) (v := .int .u8 255) Rb)
        have HA := Lib.hid Ra
        clear Ra Rb
        go_wp2
        go_roundw
        case rel =>
          refine ⟨k + 1, by omega, by go_num, row_set_other HA.out (by omega), ?_, by go_grown⟩
          refine HS.out.trans ?_
          rw [vals_set, ← f32_nth k hlt, fill_step f32 z32 k hlt rfl]
        case measure => simp [intOf]; omega
      · obtain rfl : k = 32 := by omega
        have c0 := (row_cell Rb 0).trans (vals_get (by decide))
        have c31 := (row_cell Rb 31).trans (vals_get (by decide))
        have ff := row_free Rb
        have HA := Lib.hid Ra
        have HB := Lib.hid Rb
        clear Ra Rb
        have R2 := row_set (i := 31) (v := .int .u8 127) (row_set (i := 0) (v := .int .u8 237) HB.out)
        rw [vals_set, vals_set] at R2
        have HR := Lib.hid R2
        clear R2
        go_wp2_with (first | (refine ld_row rfl 68 (.tmp 3) rfl _ (by rfl) _ _ HR.out 32 tKey (by rw [vals_size]; rfl) ?_) | (refine st_row rfl 68 (.tmp 2) _ rfl _ _ (by rfl) (by rfl) _ _ (row_set_other (row_set_other HA.out (by omega)) (by omega)) 32 tKey (by rw [vals_size]; rfl) (by rfl) (vals_one _) ?_))
        refine ret_row rfl _ _ _ rfl (row_put (row_set_other (row_set_other HA.out (by omega)) (by omega))) 32 tKey (by rw [vals_size]; rfl) rfl ?_
        exact ⟨_, rfl, rfl, below_setRow (by go_grown) (by omega) _⟩

set_option maxHeartbeats 1000000 in
set_option maxRecDepth 100000 in
theorem weak_4 (i : Int) (w : World) (h0 : 0 ≤ i) (e : i % 7 = 4) : Calls Try.prog 55 #[.int .i64 i] w (Gives (· = .agg (vals (weakL (i % 7)))) w) := by
  have t7 : i.tmod 7 = i % 7 := Int.tmod_eq_emod_of_nonneg h0
  · rw [show weakL (i % 7) = (f32.set 0 238).set 31 127 by rw [e]; rfl]
    rw [e] at t7
    go_enter Try.func55, Try.ntmps55
    go_wp2_with fail
    go_loopw [4] (fun i wr => ∃ k : Nat, k ≤ 32 ∧ i = .int .i64 k ∧ wr.heap[w.heap.size]? = some (.cells (vals z32) 68 (0, 0)) ∧ wr.heap[w.heap.size + 1]? = some (.cells (vals (f32.take k ++ z32.drop k)) 68 (0, 0)) ∧ Below w.heap.size w wr) (fun i _ => 32 - (intOf i).toNat)
    case atStart => exact ⟨0, by omega, rfl, new2_0 .., new2_1 .., by go_grown⟩
    case round =>
      obtain ⟨k, hk, rfl, Ra, Rb, Bk⟩ := hrel
      by_cases hlt : k < 32
      · have cz := (row_cell Rb k).trans (vals_get (by rw [fill_len f32 z32 k rfl hk]; exact hlt))
        have fc := row_free Rb k
        have HS := Lib.hid (row_set (i := k) (v := .int .u8 255) Rb)
        have HA := Lib.hid Ra
        clear Ra Rb
        go_wp2
        go_roundw
        case rel =>
          refine ⟨k + 1, by omega, by go_num, row_set_other HA.out (by omega), ?_, by go_grown⟩
          refine HS.out.trans ?_
          rw [vals_set, ← f32_nth k hlt, fill_step f32 z32 k hlt rfl]
        case measure => simp [intOf]; omega
      · obtain rfl : k = 32 := by omega
        have c0 := (row_cell Rb 0).trans (vals_get (by decide))
        have c31 := (row_cell Rb 31).trans (vals_get (by decide))
        have ff := row_free Rb
        have HA := Lib.hid Ra
        have HB := Lib.hid Rb
        clear Ra Rb
        have R2 := row_set (i := 31) (v := .int .u8 127) (row_set (i := 0) (v := .int .u8 238) HB.out)
        rw [vals_set, vals_set] at R2
        have HR := Lib.hid R2
        clear R2
        go_wp2_with (first | (refine ld_row rfl 68 (.tmp 3) rfl _ (by rfl) _ _ HR.out 32 tKey (by rw [vals_size]; rfl) ?_) | (refine st_row rfl 68 (.tmp 2) _ rfl _ _ (by rfl) (by rfl) _ _ (row_set_other (row_set_other HA.out (by omega)) (by omega)) 32 tKey (by rw [vals_size]; rfl) (by rfl) (vals_one _) ?_))
        refine ret_row rfl _ _ _ rfl (row_put (row_set_other (row_set_other HA.out (by omega)) (by omega))) 32 tKey (by rw [vals_size]; rfl) rfl ?_
        exact ⟨_, rfl, rfl, below_setRow (by go_grown) (by omega) _⟩

set_option maxHeartbeats 1000000 in
set_option maxRecDepth 100000 in
theorem weak_5 (i : Int) (w : World) (h0 : 0 ≤ i) (e : i % 7 = 5) : Calls Try.prog 55 #[.int .i64 i] w (Gives (· = .agg (vals (weakL (i % 7)))) w) := by
  have t7 : i.tmod 7 = i % 7 := Int.tmod_eq_emod_of_nonneg h0
  · rw [show weakL (i % 7) = w5L by rw [e]; rfl]
    rw [e] at t7
    go_enter Try.func55, Try.ntmps55
    go_wp2_with (refine st_row rfl 68 (.tmp 2) _ rfl _ _ (by rfl) (by rfl) _ _ (row_new) 32 tKey (by rfl) (by rfl) (vals_one w5L) ?_)
    refine ret_row rfl _ _ _ rfl (row_put row_new) 32 tKey (by rfl) rfl ?_
    exact ⟨_, rfl, rfl, below_setRow (by go_grown) (Nat.le_refl _) _⟩

set_option maxHeartbeats 1000000 in
set_option maxRecDepth 100000 in
theorem weak_6 (i : Int) (w : World) (h0 : 0 ≤ i) (e : i % 7 = 6) : Calls Try.prog 55 #[.int .i64 i] w (Gives (· = .agg (vals (weakL (i % 7)))) w) := by
  have t7 : i.tmod 7 = i % 7 := Int.tmod_eq_emod_of_nonneg h0
  · rw [show weakL (i % 7) = w6L by rw [e]; rfl]
    rw [e] at t7
    go_enter Try.func55, Try.ntmps55
    go_wp2_with (refine st_row rfl 68 (.tmp 2) _ rfl _ _ (by rfl) (by rfl) _ _ (row_new) 32 tKey (by rfl) (by rfl) (vals_one w6L) ?_)
    refine ret_row rfl _ _ _ rfl (row_put row_new) 32 tKey (by rfl) rfl ?_
    exact ⟨_, rfl, rfl, below_setRow (by go_grown) (Nat.le_refl _) _⟩

theorem weak_any (i : Int) (w : World) (h0 : 0 ≤ i) : Calls Try.prog 55 #[.int .i64 i] w (Gives (· = .agg (vals (weakL (i % 7)))) w) := by
  have hr : i % 7 = 0 ∨ i % 7 = 1 ∨ i % 7 = 2 ∨ i % 7 = 3 ∨ i % 7 = 4 ∨ i % 7 = 5 ∨ i % 7 = 6 := by omega
  rcases hr with e | e | e | e | e | e | e
  · exact weak_0 i w h0 e
  · exact weak_1 i w h0 e
  · exact weak_2 i w h0 e
  · exact weak_3 i w h0 e
  · exact weak_4 i w h0 e
  · exact weak_5 i w h0 e
  · exact weak_6 i w h0 e
end Go.Proofs.Ytciakfhjjnmeeaa
