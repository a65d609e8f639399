/- Walks of the reference of layer 8: Of, Small. Nothing that was there is turned. -/
import Derived.Test.YtciakfhjjnmeeaaRefC
namespace Go.Proofs.Ytciakfhjjnmeeaa
open Go.RowKit Nt

theorem top_off (l : List Int) (hl : l.length = 32) (hb : Byt l) :
    num (l.set 31 (nth l 31 % 128)) = num l % 57896044618658097711785492504343953926634992332820282019728792003956564819968 ∧ Byt (l.set 31 (nth l 31 % 128)) := by
  have e1 : l = l.take 31 ++ [nth l 31] := by
    have := drop_nth l 31 (by omega)
    rw [List.drop_of_length_le (show l.length ≤ 31 + 1 by omega)] at this
    rw [← this, List.take_append_drop]
  have h31 := hb.nth 31
  have hlt : (l.take 31).length = 31 := by rw [List.length_take]; omega
  have e2 : l.set 31 (nth l 31 % 128) = l.take 31 ++ [nth l 31 % 128] := by
    conv => lhs; rw [e1]
    rw [List.set_append_right _ _ (by omega), hlt]
    have : nth (l.take 31 ++ [nth l 31]) 31 = nth l 31 := by rw [← e1]
    rw [this]; rfl
  have hbt := num_bound _ (hb.take 31)
  rw [hlt] at hbt
  refine ⟨?_, ?_⟩
  · rw [e2]
    conv => rhs; rw [e1]
    rw [num_append, num_append, hlt]
    simp only [num]
    omega
  · rw [e2]
    intro x hx
    rw [List.mem_append] at hx
    rcases hx with h | h
    · exact hb.take 31 x h
    · rw [List.mem_singleton] at h; subst h; omega

theorem numF_val (l : List Int) (hb : Byt l) : ((numF l).val : Int) = num l % 57896044618658097711785492504343953926634992332820282019728792003956564819968 % 57896044618658097711785492504343953926634992332820282019728792003956564819949 := by
  have h := num_bound l hb
  show (((num l % 57896044618658097711785492504343953926634992332820282019728792003956564819968).toNat % P : Nat) : Int) = _
  rw [Int.natCast_emod, PI_eq, Int.toNat_of_nonneg (by omega)]

set_option maxHeartbeats 1000000 in
set_option maxRecDepth 100000 in
theorem of08_any (l : List Int) (w : World) (hl : l.length = 32) (hb : Byt l) :
    Calls Try.prog 21 #[.agg (vals l)] w (NumOut (numF l) w) := by
  obtain ⟨t1, t2⟩ := top_off l hl hb
  have t3 : (l.set 31 (nth l 31 % 128)).length = 32 := by simp [hl]
  have t4 := dgs_norm _ t3 t2
  have t5 := (dgs_num 16 _ t3).trans t1
  have t6 : dnum (dgs (l.set 31 (nth l 31 % 128))) % 57896044618658097711785492504343953926634992332820282019728792003956564819949 = ((numF l).val : Int) := by rw [t5, numF_val l hb]
  have H3 := Lib.hid t3
  have H2 := Lib.hid t2
  have H4 := Lib.hid t4
  have H6 := Lib.hid t6
  have HL := Lib.hid hl
  have v31 : (vals l)[31]? = some (.int .u8 (nth l 31)) := vals_get (by omega)
  have vs : (vals l).setIfInBounds 31 (.int .u8 (nth l 31 % 128)) = vals (l.set 31 (nth l 31 % 128)) := vals_set _ _ _
  have h31 := hb.nth 31
  clear t1 t2 t3 t4 t5 t6 hl
  go_enter Try.func21, Try.ntmps21
  go_wp2_with (refine ld_row rfl 22 (.tmp 1) rfl _ (by rfl) _ _ (new2_0 ..) 32 tBytes (by rw [vals_size, H3.out]) ?_)
  generalize l.set 31 (nth l 31 % 128) = l' at *
  refine (digits_any l' _ H3.out H2.out).mono ?_
  rintro e w1 ⟨rfl, hb1⟩
  have Q1 := row_keep hb1 (new2_1 ..) (by simp)
  have B1 : Below w.heap.size w w1 := Below.trans (by go_grown) (hb1.mono (by simp; omega))
  clear hb1 v31 vs
  go_wp2_with fail
  refine (least08_any _ (numF l) _ H4.out.1 (fun x hx => by have := H4.out.2 x hx; omega) H6.out).mono ?_
  rintro e w2 ⟨rfl, hb2⟩
  have Q2 := row_keep hb2 Q1 (row_lt Q1)
  have B2 : Below w.heap.size w w2 := B1.trans (hb2.mono B1.size)
  clear Q1 B1 hb2
  go_wp2_with (refine st_row rfl 29 (.tmp 2) _ rfl _ _ (by rfl) (by rfl) _ _ Q2 32 tNum (by rw [vals_size, bytesN_len]) (by rfl) (vals_one _) ?_)
  refine ret_row rfl _ _ _ rfl (row_put Q2) 32 tNum (by rw [vals_size, bytesN_len]) rfl ?_
  exact ⟨rfl, below_setRow B2 (by omega) _⟩

/-- The bytes of a word. -/
theorem small_bytes (n : Nat) (h : n < 18446744073709551616) : (Fin.ofNat P n).val = n := Nat.mod_eq_of_lt (Nat.lt_trans h (by decide))

theorem small_rest (n : Nat) (h : n < 18446744073709551616) : (bytesN n).take 8 ++ z32.drop 8 = bytesN n := by
  conv => rhs; rw [← List.take_append_drop 8 (bytesN n)]
  congr 1
  apply List.ext_getElem
  · simp [bytesN_len, z32]
  · intro j h1 h2
    rw [List.length_drop, bytesN_len] at h2
    rw [List.getElem_drop, List.getElem_drop]
    have e1 : z32[8 + j]'(by show 8 + j < 32; omega) = 0 := List.getElem_replicate _
    have e2 := nth_bytesN n (8 + j) (by omega)
    rw [nth_get (by rw [bytesN_len]; omega)] at e2
    have hp : 256 ^ 8 ≤ 256 ^ (8 + j) := Nat.pow_le_pow_right (by omega) (by omega)
    have : byteOf n (8 + j) = 0 := by
      rw [byteOf, Nat.div_eq_of_lt (by omega)]
    rw [e1, e2, this]; rfl

set_option maxHeartbeats 1000000 in
set_option maxRecDepth 100000 in
theorem small08_any (n : Nat) (w : World) (h : n < 18446744073709551616) :
    Calls Try.prog 23 #[.int .u64 n] w (NumOut (Fin.ofNat P n) w) := by
  have HR := Lib.hid (small_rest n h)
  have HV := Lib.hid (small_bytes n h)
  have hl := Lib.hid (bytesN_len n)
  go_enter Try.func23, Try.ntmps23
  go_wp2_with fail
  go_loopw [0, 4] (fun v i wr => ∃ k : Nat, k ≤ 8 ∧ i = .int .i64 k ∧ v = .int .u64 (n / 256 ^ k : Nat) ∧ wr.heap[w.heap.size]? = some (.cells (vals z32) 29 (0, 0)) ∧ wr.heap[w.heap.size + 1]? = some (.cells (vals ((bytesN n).take k ++ z32.drop k)) 29 (0, 0)) ∧ Below w.heap.size w wr) (fun _ i _ => 8 - (intOf i).toNat)
  case atStart => exact ⟨0, by omega, rfl, by rw [Nat.pow_zero, Nat.div_one], new2_0 .., new2_1 .., by go_grown⟩
  case round =>
    obtain ⟨k, hk, rfl, rfl, Ra, Rb, Bk⟩ := hrel
    by_cases hlt : k < 8
    · have cz := (row_cell Rb k).trans (vals_get (by rw [fill_len _ _ _ (by rw [hl.out]; rfl) (by rw [hl.out]; omega)]; show k < 32; omega))
      have fc := row_free Rb k
      have hq : n / 256 ^ k < 18446744073709551616 := Nat.lt_of_le_of_lt (Nat.div_le_self _ _) h
      have S1 := row_set (i := k) (v := .int .u8 (byteOf n k : Nat)) Rb
      rw [vals_set, ← nth_bytesN n k (by omega), fill_step _ _ _ (by rw [hl.out]; omega) (by rw [hl.out]; rfl), nth_bytesN n k (by omega)] at S1
      have HS := Lib.hid S1
      have HA := Lib.hid Ra
      have hd := Lib.hid (show n / 256 ^ (k + 1) = n / 256 ^ k / 256 by rw [Nat.pow_succ, Nat.div_div_eq_div_mul])
      have hby := Lib.hid (show byteOf n k = n / 256 ^ k % 256 from rfl)
      clear Ra Rb S1
      generalize byteOf n k = bt at *
      generalize n / 256 ^ k = q at *
      go_wp2
      go_roundw
      case rel =>
        refine ⟨k + 1, by omega, by go_num, ?_, row_set_other HA.out (by omega), ?_, by go_grown⟩
        · rw [hd.out]; go_num
        · have e := HS.out
          rw [hby.out] at e
          exact e
      case measure => simp [intOf]; omega
    · obtain rfl : k = 8 := by omega
      rw [HR.out] at Rb
      go_wp2_with (first | (refine ld_row rfl 29 (.tmp 3) rfl _ (by rfl) _ _ Rb 32 tNum (by rw [vals_size, bytesN_len]) ?_) | (refine st_row rfl 29 (.tmp 2) _ rfl _ _ (by rfl) (by rfl) _ _ Ra 32 tNum (by rw [vals_size, bytesN_len]) (by rfl) (vals_one _) ?_))
      refine ret_row rfl _ _ _ rfl (row_put Ra) 32 tNum (by rw [vals_size, bytesN_len]) rfl ?_
      exact ⟨by rw [bv, HV.out], below_setRow Bk (by omega) _⟩
end Go.Proofs.Ytciakfhjjnmeeaa
