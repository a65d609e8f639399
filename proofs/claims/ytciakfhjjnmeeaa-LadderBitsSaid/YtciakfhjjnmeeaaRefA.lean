/- Walks of the reference of layer 8: digits, prime, carried, ahead, less. Nothing that was there is turned. -/
import Derived.Test.YtciakfhjjnmeeaaFieldA
import Derived.Test.YtciakfhjjnmeeaaDig
namespace Go.Proofs.Ytciakfhjjnmeeaa
open Go.RowKit Nt

theorem tNum : RowT Try.prog 29 32 := ⟨_, Try.underlying29, rfl, by kernel_rfl⟩
theorem tDig : RowT Try.prog 100 16 := ⟨_, Try.underlying100, rfl, by kernel_rfl⟩

/-- Sixteen zeros. -/
def z16 : List Int := List.replicate 16 0
/-- 32 zeros. -/
def z32 : List Int := List.replicate 32 0

set_option maxHeartbeats 1000000 in
set_option maxRecDepth 100000 in
theorem digits_any (l : List Int) (w : World) (hl : l.length = 32) (hb : Byt l) :
    Calls Try.prog 69 #[.agg (vals l)] w fun e w' => e = .returned (.agg (valsK .i64 (dgs l))) ∧ Below w.heap.size w w' := by
  have HL := Lib.hid hl
  have hD := dgs_norm l hl hb
  have HD := Lib.hid hD.1
  clear hl hD
  go_enter Try.func69, Try.ntmps69
  go_wp2_with fail
  go_loopw [4] (fun i wr => ∃ k : Nat, k ≤ 16 ∧ i = .int .i64 k ∧ wr.heap[w.heap.size]? = some (.cells (vals l) 29 (0, 0)) ∧ wr.heap[w.heap.size + 1]? = some (.cells (valsK .i64 z16) 100 (0, 0)) ∧ wr.heap[w.heap.size + 2]? = some (.cells (valsK .i64 ((dgs l).take k ++ z16.drop k)) 100 (0, 0)) ∧ Below w.heap.size w wr) (fun i _ => 16 - (intOf i).toNat)
  case atStart =>
    exact ⟨0, by omega, rfl, new3_0 .., new3_1 .., new3_2 .., by go_grown⟩
  case round =>
    obtain ⟨k, hk, rfl, Ra, Rb, Rc, Bk⟩ := hrel
    by_cases hlt : k < 16
    · have c0 := (row_cell Ra (2 * k)).trans (vals_get (by rw [HL.out]; omega))
      have c1 := (row_cell Ra (2 * k + 1)).trans (vals_get (by rw [HL.out]; omega))
      have cz := (row_cell Rc k).trans (valsK_get (by rw [fill_len _ _ _ (by rw [HD.out]; rfl) (by rw [HD.out]; omega)]; exact hlt))
      have fc := row_free Rc k
      have b0 := hb.nth (2 * k)
      have b1 := hb.nth (2 * k + 1)
      have HS := Lib.hid (row_set (i := k) (v := .int .i64 (nth l (2 * k) + 256 * nth l (2 * k + 1))) Rc)
      have HA := Lib.hid Ra
      have HB := Lib.hid Rb
      clear Ra Rb Rc
      go_wp2
      go_region
      go_wp2
      go_roundw
      case rel =>
        refine ⟨k + 1, by omega, by go_num, row_set_other HA.out (by omega), row_set_other HB.out (by omega), ?_, by go_grown⟩
        refine HS.out.trans ?_
        rw [valsK_set, ← dgs_nth k l (by rw [HL.out]; omega), fill_step _ _ _ (by rw [HD.out]; omega) (by rw [HD.out]; rfl)]
      case measure => simp [intOf]; omega
    · obtain rfl : k = 16 := by omega
      have e16 : (dgs l).take 16 ++ z16.drop 16 = dgs l := by rw [List.take_of_length_le (by rw [HD.out]; omega)]; exact List.append_nil _
      rw [e16] at Rc
      go_wp2_with (first | (refine ld_row rfl 100 (.tmp 3) rfl _ (by rfl) _ _ Rc 16 tDig (by rw [valsK_size, HD.out]) ?_) | (refine st_row rfl 100 (.tmp 2) _ rfl _ _ (by rfl) (by rfl) _ _ Rb 16 tDig (by rw [valsK_size, HD.out]) (by rfl) (valsK_one _ _) ?_))
      refine ret_row rfl _ _ _ rfl (row_put Rb) 16 tDig (by rw [valsK_size, HD.out]) rfl ?_
      exact ⟨rfl, below_setRow Bk (by omega) _⟩

/-- 32 times 255. -/
def f32 : List Int := List.replicate 32 255
theorem f32_nth (k : Nat) (h : k < 32) : nth f32 k = 255 := by rw [nth_get (by exact h)]; exact List.getElem_replicate _
/-- The bytes of p, less a few. -/
def pb (less : Int) : List Int := ((f32.take 32 ++ z32.drop 32).set 0 (237 - less)).set 31 127

theorem pb_num (less : Int) : num (pb less) = 57896044618658097711785492504343953926634992332820282019728792003956564819949 - less := by
  have e : num (pb less) = (237 - less) + 256 * num ((List.replicate 31 (255 : Int)).set 30 127) := rfl
  have e2 : num ((List.replicate 31 (255 : Int)).set 30 127) = 226156424291633194186662080095093570025917938800079226639565593765455331327 := by decide
  rw [e, e2]; omega
theorem pb_len (less : Int) : (pb less).length = 32 := rfl
theorem pb_byt (less : Int) (h0 : 0 ≤ less) (h1 : less ≤ 237) : Byt (pb less) := by
  intro x hx
  have e : pb less = (237 - less) :: (List.replicate 31 (255 : Int)).set 30 127 := rfl
  rw [e, List.mem_cons] at hx
  rcases hx with rfl | hx
  · omega
  · have : ∀ y ∈ (List.replicate 31 (255 : Int)).set 30 127, 0 ≤ y ∧ y < 256 := by decide
    exact this x hx

set_option maxHeartbeats 1000000 in
set_option maxRecDepth 100000 in
theorem prime08_any (less : Int) (w : World) (h0 : 0 ≤ less) (h1 : less ≤ 237) :
    Calls Try.prog 77 #[.int .u8 less] w fun e w' => e = .returned (.agg (vals (pb less))) ∧ Below w.heap.size w w' := by
  go_enter Try.func77, Try.ntmps77
  go_wp2_with fail
  go_loopw [4] (fun i wr => ∃ k : Nat, k ≤ 32 ∧ i = .int .i64 k ∧ wr.heap[w.heap.size]? = some (.cells (vals z32) 29 (0, 0)) ∧ wr.heap[w.heap.size + 1]? = some (.cells (vals (f32.take k ++ z32.drop k)) 29 (0, 0)) ∧ Below w.heap.size w wr) (fun i _ => 32 - (intOf i).toNat)
  case atStart => exact ⟨0, by omega, rfl, new2_0 .., new2_1 .., by go_grown⟩
  case round =>
    obtain ⟨k, hk, rfl, Ra, Rb, Bk⟩ := hrel
    by_cases hlt : k < 32
    · have cz := (row_cell Rb k).trans (vals_get (by rw [fill_len f32 z32 k rfl hk]; exact hlt))
      have fc := row_free Rb k
      have HS := Lib.hid (row_set (i := k) (v := .int .u8 255) Rb)
      have HA := Lib.hid Ra
      clear Ra Rb
      go_wp2
      go_roundw
      case rel =>
        refine ⟨k + 1, by omega, by go_num, row_set_other HA.out (by omega), ?_, by go_grown⟩
        refine HS.out.trans ?_
        rw [vals_set, ← f32_nth k hlt, fill_step f32 z32 k hlt rfl]
      case measure => simp [intOf]; omega
    · obtain rfl : k = 32 := by omega
      have c0 := (row_cell Rb 0).trans (vals_get (by decide))
      have c31 := (row_cell Rb 31).trans (vals_get (by decide))
      have ff := row_free Rb
      have HA := Lib.hid Ra
      have HB := Lib.hid Rb
      clear Ra Rb
      have R2 := row_set (i := 31) (v := .int .u8 127) (row_set (i := 0) (v := .int .u8 (237 - less)) HB.out)
      rw [vals_set, vals_set] at R2
      have HR := Lib.hid R2
      clear R2
      go_wp2_with (first | (refine ld_row rfl 29 (.tmp 3) rfl _ (by rfl) _ _ HR.out 32 tNum (by rw [vals_size]; rfl) ?_) | (refine st_row rfl 29 (.tmp 2) _ rfl _ _ (by rfl) (by rfl) _ _ (row_set_other (row_set_other HA.out (by omega)) (by omega)) 32 tNum (by rw [vals_size]; rfl) (by rfl) (vals_one _) ?_))
      refine ret_row rfl _ _ _ rfl (row_put (row_set_other (row_set_other HA.out (by omega)) (by omega))) 32 tNum (by rw [vals_size]; rfl) rfl ?_
      exact ⟨rfl, below_setRow (by go_grown) (by omega) _⟩

set_option maxHeartbeats 1000000 in
set_option maxRecDepth 100000 in
theorem prime_any (less : Int) (w : World) (h0 : 0 ≤ less) (h1 : less ≤ 237) :
    Calls Try.prog 41 #[.int .u8 less] w fun e w' => e = .returned (.agg (vals (pb less))) ∧ Below w.heap.size w w' := by
  go_enter Try.func41, Try.ntmps41
  go_wp2_with fail
  go_loopw [4] (fun i wr => ∃ k : Nat, k ≤ 32 ∧ i = .int .i64 k ∧ wr.heap[w.heap.size]? = some (.cells (vals z32) 22 (0, 0)) ∧ wr.heap[w.heap.size + 1]? = some (.cells (vals (f32.take k ++ z32.drop k)) 22 (0, 0)) ∧ Below w.heap.size w wr) (fun i _ => 32 - (intOf i).toNat)
  case atStart => exact ⟨0, by omega, rfl, new2_0 .., new2_1 .., by go_grown⟩
  case round =>
    obtain ⟨k, hk, rfl, Ra, Rb, Bk⟩ := hrel
    by_cases hlt : k < 32
    · have cz := (row_cell Rb k).trans (vals_get (by rw [fill_len f32 z32 k rfl hk]; exact hlt))
      have fc := row_free Rb k
      have HS := Lib.hid (row_set (i := k) (v := .int .u8 255) Rb)
      have HA := Lib.hid Ra
      clear Ra Rb
      go_wp2
      go_roundw
      case rel =>
        refine ⟨k + 1, by omega, by go_num, row_set_other HA.out (by omega), ?_, by go_grown⟩
        refine HS.out.trans ?_
        rw [vals_set, ← f32_nth k hlt, fill_step f32 z32 k hlt rfl]
      case measure => simp [intOf]; omega
    · obtain rfl : k = 32 := by omega
      have c0 := (row_cell Rb 0).trans (vals_get (by decide))
      have c31 := (row_cell Rb 31).trans (vals_get (by decide))
      have ff := row_free Rb
      have HA := Lib.hid Ra
      have HB := Lib.hid Rb
      clear Ra Rb
      have R2 := row_set (i := 31) (v := .int .u8 127) (row_set (i := 0) (v := .int .u8 (237 - less)) HB.out)
      rw [vals_set, vals_set] at R2
      have HR := Lib.hid R2
      clear R2
      go_wp2_with (first | (refine ld_row rfl 22 (.tmp 3) rfl _ (by rfl) _ _ HR.out 32 tBytes (by rw [vals_size]; rfl) ?_) | (refine st_row rfl 22 (.tmp 2) _ rfl _ _ (by rfl) (by rfl) _ _ (row_set_other (row_set_other HA.out (by omega)) (by omega)) 32 tBytes (by rw [vals_size]; rfl) (by rfl) (vals_one _) ?_))
      refine ret_row rfl _ _ _ rfl (row_put (row_set_other (row_set_other HA.out (by omega)) (by omega))) 32 tBytes (by rw [vals_size]; rfl) rfl ?_
      exact ⟨rfl, below_setRow (by go_grown) (by omega) _⟩
end Go.Proofs.Ytciakfhjjnmeeaa
