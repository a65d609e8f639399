/- Walks of the reference of layer 8: Power, Invert. Nothing that was there is turned. -/
import Derived.Test.YtciakfhjjnmeeaaRefE
import Derived.Test.YtciakfhjjnmeeaaPow
namespace Go.Proofs.Ytciakfhjjnmeeaa
open Go.RowKit Nt

set_option maxHeartbeats 1000000 in
set_option maxRecDepth 100000 in
theorem power08_any (n : F) (V : Nat) (w : World) (hV : V < 2 ^ 256) :
    Calls Try.prog 35 #[bv n, .agg (vals (bytesN V))] w (NumOut (n ^ V) w) := by
  have HV := Lib.hid hV
  clear hV
  have R0 := new3_0 w (.cells (vals (bytesN n.val)) 29) (.cells (vals (bytesN V)) 22) (.cells (vals z32) 29)
  have R1 := new3_1 w (.cells (vals (bytesN n.val)) 29) (.cells (vals (bytesN V)) 22) (.cells (vals z32) 29)
  have R2 : (((w.alloc (.cells (vals (bytesN n.val)) 29)).alloc (.cells (vals (bytesN V)) 22)).alloc (.cells (vals z32) 29)).heap[w.heap.size + 1 + 1]? = _ := new3_2 w _ _ _
  have B0 : Below w.heap.size w (((w.alloc (.cells (vals (bytesN n.val)) 29)).alloc (.cells (vals (bytesN V)) 22)).alloc (.cells (vals z32) 29)) := by go_grown
  go_enter Try.func35, Try.ntmps35
  go_wp2_with fail
  refine (small08_any 1 _ (by omega)).mono ?_
  rintro e w1 ⟨rfl, b1⟩
  replace R0 := row_call b1 R0
  replace R1 := row_call b1 R1
  replace R2 := row_call b1 R2
  have B1 := below_call b1 B0
  have L2 := row_lt R2
  clear b1 B0
  replace R0 := row_alloc (x := .cells (vals (bytesN (Fin.ofNat P 1).val)) 29) R0
  replace R1 := row_alloc (x := .cells (vals (bytesN (Fin.ofNat P 1).val)) 29) R1
  replace R2 := row_alloc (x := .cells (vals (bytesN (Fin.ofNat P 1).val)) 29) R2
  have R3 := row_new (w := w1) (x := .cells (vals (bytesN (Fin.ofNat P 1).val)) 29)
  have B2 := B1.alloc B1.size (.cells (vals (bytesN (Fin.ofNat P 1).val)) 29)
  have HX1 := Lib.hid (show n ^ (V / 2 ^ 256) = Fin.ofNat P 1 from pow_top n V HV.out)
  generalize Fin.ofNat P 1 = one at *
  go_wp2_with (refine st_new rfl 29 (.tmp 5) _ rfl _ _ _ (by rfl) (by rfl) 32 tNum (by rw [vals_size, bytesN_len]) (by rfl) (vals_one _) ?_)
  have hn0 : w.heap.size ≠ w1.heap.size := by omega
  have hn1 : w.heap.size + 1 ≠ w1.heap.size := by omega
  have hn2 : w.heap.size + 1 + 1 ≠ w1.heap.size := by omega
  have hn3 : w.heap.size ≤ w1.heap.size := by omega
  have hn4 : w.heap.size ≤ w.heap.size + 1 + 1 := by omega
  change Code.wp _ _ _ _ (w1.alloc (.cells (vals (bytesN one.val)) 29))
  generalize w1.alloc (.cells (vals (bytesN one.val)) 29) = W at R0 R1 R2 R3 B2 ⊢
  generalize w1.heap.size = g at hn0 hn1 hn2 hn3 R3 ⊢
  clear B1 L2
  go_loopw [6] (fun i wr => ∃ k : Nat, k ≤ 256 ∧ i = .int .i64 ((k : Int) - 1) ∧ wr.heap[w.heap.size]? = some (.cells (vals (bytesN n.val)) 29 (0, 0)) ∧ wr.heap[w.heap.size + 1]? = some (.cells (vals (bytesN V)) 22 (0, 0)) ∧ wr.heap[w.heap.size + 1 + 1]? = some (.cells (vals z32) 29 (0, 0)) ∧ wr.heap[g]? = some (.cells (vals (bytesN (n ^ (V / 2 ^ k)).val)) 29 (0, 0)) ∧ Below w.heap.size w wr) (fun i _ => (intOf i + 1).toNat)
  case atStart => exact ⟨256, by omega, rfl, R0, R1, R2, by rw [HX1.out]; exact R3, B2⟩
  case round =>
    obtain ⟨k, hk, rfl, QN, QE, QZ, QO, BK⟩ := hrel
    clear R0 R1 R2 R3 B2 HX1
    cases k with
    | zero =>
      replace QO : wr.heap[g]? = some (.cells (vals (bytesN (n ^ V).val)) 29 (0, 0)) := by simpa using QO
      go_wp2_with (first | (refine ld_row rfl 29 (.tmp 5) rfl _ (by rfl) _ _ QO 32 tNum (by rw [vals_size, bytesN_len]) ?_) | (refine st_row rfl 29 (.tmp 4) _ rfl _ _ (by rfl) (by rfl) _ _ QZ 32 tNum (by rw [vals_size, bytesN_len]) (by rfl) (vals_one _) ?_))
      refine ret_row rfl _ _ _ rfl (row_put QZ) 32 tNum (by rw [vals_size, bytesN_len]) rfl ?_
      exact ⟨rfl, below_setRow BK hn4 _⟩
    | succ j =>
      rw [show ((j + 1 : Nat) : Int) - 1 = (j : Int) by omega]
      have HE := Lib.hid QE
      have HZ := Lib.hid QZ
      have HN := Lib.hid QN
      have hstep := pow_bit n V j
      generalize n ^ (V / 2 ^ (j + 1)) = p at *
      have HST := Lib.hid hstep
      clear QE QZ QN hstep
      go_wp2_with (refine ld_row rfl 29 (.tmp 5) rfl _ (by rfl) _ _ QO 32 tNum (by rw [vals_size, bytesN_len]) ?_)
      refine (mul08_any p p _).mono ?_
      rintro e w2 ⟨rfl, b2⟩
      have QO2 := row_call b2 QO
      have HE2 := row_call b2 HE.out
      have HZ2 := row_call b2 HZ.out
      have HN2 := row_call b2 HN.out
      have B2 := below_call b2 BK
      clear b2 HE HZ HN BK QO
      have QO3 := row_put (cs' := vals (bytesN (p * p).val)) QO2
      have QE3 := row_put_other (cs := vals (bytesN (p * p).val)) HE2 hn1
      have HZ3 := Lib.hid (row_put_other (cs := vals (bytesN (p * p).val)) HZ2 hn2)
      have HN3 := row_put_other (cs := vals (bytesN (p * p).val)) HN2 hn0
      have B3 := below_setRow B2 hn3 (vals (bytesN (p * p).val))
      have cb := (row_cell QE3 (j / 8)).trans (by rw [vals_get (by rw [bytesN_len]; omega), nth_bytesN _ _ (by omega)])
      have HE3 := Lib.hid QE3
      clear QE3 HE2 HZ2 HN2 B2
      have t8 : ((j : Int)).tmod 8 = (j : Int) % 8 := Int.tmod_eq_emod_of_nonneg (by omega)
      have hby := byteOf_lt V (j / 8)
      have hnb := nat_bit V j
      have hq : (((byteOf V (j / 8) : Nat) : Int) / 2 ^ (j % 8)) = ((byteOf V (j / 8) / 2 ^ (j % 8) : Nat) : Int) := by push_cast; rfl
      have hq2 : byteOf V (j / 8) / 2 ^ (j % 8) < 256 := Nat.lt_of_le_of_lt (Nat.div_le_self _ _) hby
      by_cases hbit : V / 2 ^ j % 2 = 1
      · have HST2 := Lib.hid (HST.out.trans (if_pos hbit))
        have hm : ((((byteOf V (j / 8) : Nat) : Int) / 2 ^ (j % 8)).tmod 2 == 1) = true := by
          rw [hq]
          generalize byteOf V (j / 8) / 2 ^ (j % 8) = q at hnb ⊢
          rw [Int.tmod_eq_emod_of_nonneg (Int.natCast_nonneg _)]
          simp only [beq_iff_eq]
          omega
        clear HST hq hnb
        go_wp2_with (first | (refine st_row rfl 29 (.tmp 5) _ rfl _ _ (by rfl) (by rfl) _ _ QO2 32 tNum (by rw [vals_size, bytesN_len]) (by rw [vals_size, bytesN_len]) (vals_one _) ?_) | (refine ld_row rfl 29 (.tmp 5) rfl _ (by rfl) _ _ QO3 32 tNum (by rw [vals_size, bytesN_len]) ?_) | (refine ld_row rfl 29 (.tmp 2) rfl _ (by rfl) _ _ HN3 32 tNum (by rw [vals_size, bytesN_len]) ?_))
        refine (mul08_any (p * p) n _).mono ?_
        rintro e w3 ⟨rfl, b3⟩
        have QO4 := row_call b3 QO3
        have HE4 := row_call b3 HE3.out
        have HZ4 := row_call b3 HZ3.out
        have HN4 := row_call b3 HN3
        have B4 := below_call b3 B3
        clear b3 HE3 HZ3 HN3 B3 QO3 QO2 cb hm
        have K1 := Lib.hid (row_put_other (cs := vals (bytesN (p * p * n).val)) HN4 hn0)
        have K2 := Lib.hid (row_put_other (cs := vals (bytesN (p * p * n).val)) HE4 hn1)
        have K3 := Lib.hid (row_put_other (cs := vals (bytesN (p * p * n).val)) HZ4 hn2)
        have K4 := Lib.hid (row_put (cs' := vals (bytesN (p * p * n).val)) QO4)
        have B5 := below_setRow B4 hn3 (vals (bytesN (p * p * n).val))
        go_wp2_with (refine st_row rfl 29 (.tmp 5) _ rfl _ _ (by rfl) (by rfl) _ _ QO4 32 tNum (by rw [vals_size, bytesN_len]) (by rw [vals_size, bytesN_len]) (vals_one _) ?_)
        go_roundw
        case rel => exact ⟨j, by omega, rfl, K1.out, K2.out, K3.out, by rw [HST2.out]; exact K4.out, B5⟩
        case measure => simp [intOf]
      · have HST2 := Lib.hid (HST.out.trans (if_neg hbit))
        have hm : ((((byteOf V (j / 8) : Nat) : Int) / 2 ^ (j % 8)).tmod 2 == 1) = false := by
          rw [hq]
          generalize byteOf V (j / 8) / 2 ^ (j % 8) = q at hnb ⊢
          rw [Int.tmod_eq_emod_of_nonneg (Int.natCast_nonneg _)]
          simp only [beq_eq_false_iff_ne]
          omega
        have K1 := Lib.hid HN3
        have K4 := Lib.hid QO3
        clear HST hq hnb HN3 QO3
        go_wp2_with (refine st_row rfl 29 (.tmp 5) _ rfl _ _ (by rfl) (by rfl) _ _ QO2 32 tNum (by rw [vals_size, bytesN_len]) (by rw [vals_size, bytesN_len]) (vals_one _) ?_)
        go_roundw
        case rel => exact ⟨j, by omega, rfl, K1.out, HE3.out, HZ3.out, by rw [HST2.out]; exact K4.out, B3⟩
        case measure => simp [intOf]
end Go.Proofs.Ytciakfhjjnmeeaa
