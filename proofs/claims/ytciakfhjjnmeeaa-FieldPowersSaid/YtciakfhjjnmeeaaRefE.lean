/- Walks of the reference of layer 8: Mul. Nothing that was there is turned. -/
import Derived.Test.YtciakfhjjnmeeaaRefD
import Derived.Test.YtciakfhjjnmeeaaReg
import Derived.Test.YtciakfhjjnmeeaaEq
import Derived.Test.YtciakfhjjnmeeaaConv
namespace Go.Proofs.Ytciakfhjjnmeeaa
open Go.RowKit Nt

theorem digits_num (n : F) : Norm (dgs (bytesN n.val)) ∧ dnum (dgs (bytesN n.val)) = (n.val : Int) :=
  ⟨dgs_norm _ (bytesN_len _) (bytesN_byt _), by rw [dgs_num 16 _ (bytesN_len _), num_bytesN _ (Nat.lt_trans n.isLt (by decide))]⟩

set_option maxHeartbeats 2000000 in
set_option maxRecDepth 100000 in
theorem mul08_any (n m : F) (w : World) : Calls Try.prog 76 #[bv n, bv m] w (NumOut (n * m) w) := by
  obtain ⟨hX, dX⟩ := digits_num n
  obtain ⟨hY, dY⟩ := digits_num m
  have R0 := new3_0 w (.cells (vals (bytesN n.val)) 29) (.cells (vals (bytesN m.val)) 29) (.cells (vals z32) 29)
  have R1 := new3_1 w (.cells (vals (bytesN n.val)) 29) (.cells (vals (bytesN m.val)) 29) (.cells (vals z32) 29)
  have R2 : (((w.alloc (.cells (vals (bytesN n.val)) 29)).alloc (.cells (vals (bytesN m.val)) 29)).alloc (.cells (vals z32) 29)).heap[w.heap.size + 1 + 1]? = _ := new3_2 w _ _ _
  have B0 : Below w.heap.size w (((w.alloc (.cells (vals (bytesN n.val)) 29)).alloc (.cells (vals (bytesN m.val)) 29)).alloc (.cells (vals z32) 29)) := by go_grown
  go_enter Try.func76, Try.ntmps76
  go_wp2_with (refine ld_row rfl 29 (.tmp 2) rfl _ (by rfl) _ _ R0 32 tNum (by rw [vals_size, bytesN_len]) ?_)
  refine (digits_any _ _ (bytesN_len _) (bytesN_byt _)).mono ?_
  rintro e w1 ⟨rfl, b1⟩
  replace R1 := row_call b1 R1
  replace R2 := row_call b1 R2
  have B1 := below_call b1 B0
  clear b1 B0 R0
  generalize dgs (bytesN n.val) = X at *
  have HX := Lib.hid hX.1
  have L1 := row_lt R1
  have L2 := row_lt R2
  replace R1 := row_alloc (x := .cells (valsK .i64 X) 100) R1
  replace R2 := row_alloc (x := .cells (valsK .i64 X) 100) R2
  have R3 := row_new (w := w1) (x := .cells (valsK .i64 X) 100)
  have B2 := B1.alloc B1.size (.cells (valsK .i64 X) 100)
  go_wp2_with (first | (refine st_new rfl 100 (.tmp 5) _ rfl _ _ _ (by rfl) (by rfl) 16 tDig (by rw [valsK_size, HX.out]) (by rfl) (valsK_one _ _) ?_; generalize w1.alloc (.cells (valsK .i64 X) 100) = W1 at *) | (refine ld_row rfl 29 (.tmp 3) rfl _ (by rfl) _ _ R1 32 tNum (by rw [vals_size, bytesN_len]) ?_))
  refine (digits_any _ _ (bytesN_len _) (bytesN_byt _)).mono ?_
  rintro e w2 ⟨rfl, b2⟩
  replace R2 := row_call b2 R2
  replace R3 := row_call b2 R3
  have B3 := below_call b2 B2
  clear b2 B2 B1 R1
  generalize dgs (bytesN m.val) = Y at *
  have HY := Lib.hid hY.1
  have L3 := row_lt R3
  replace R2 := row_alloc (x := .cells (valsK .i64 Y) 100) R2
  replace R3 := row_alloc (x := .cells (valsK .i64 Y) 100) R3
  have R4 := row_new (w := w2) (x := .cells (valsK .i64 Y) 100)
  have B4 := B3.alloc B3.size (.cells (valsK .i64 Y) 100)
  go_wp2_with (refine st_new rfl 100 (.tmp 6) _ rfl _ _ _ (by rfl) (by rfl) 16 tDig (by rw [valsK_size, HY.out]) (by rfl) (valsK_one _ _) ?_)
  have Q2 := row_alloc (x := .cells (valsK .i64 z16) 100) R2
  have Q3 := row_alloc (x := .cells (valsK .i64 z16) 100) R3
  have Q4 := row_alloc (x := .cells (valsK .i64 z16) 100) R4
  have Q5 : ((w2.alloc (.cells (valsK .i64 Y) 100)).alloc (.cells (valsK .i64 z16) 100)).heap[w2.heap.size + 1]? = some (.cells (valsK .i64 z16) 100 (0, 0)) := row_at (by simp)
  have B5 := B4.alloc B4.size (.cells (valsK .i64 z16) 100)
  have hn1 : w1.heap.size ≠ w2.heap.size + 1 := by omega
  have hn2 : w2.heap.size ≠ w2.heap.size + 1 := by omega
  have hn3 : w.heap.size + 1 + 1 ≠ w2.heap.size + 1 := by omega
  have hn4 : w.heap.size ≤ w2.heap.size + 1 := by omega
  have hn5 : w.heap.size ≤ w.heap.size + 1 + 1 := by omega
  change Code.wp _ _ _ _ ((w2.alloc (.cells (valsK .i64 Y) 100)).alloc (.cells (valsK .i64 z16) 100))
  generalize (w2.alloc (.cells (valsK .i64 Y) 100)).alloc (.cells (valsK .i64 z16) 100) = W at Q2 Q3 Q4 Q5 B5 ⊢
  clear R2 R3 R4 B4 B3 L1 L2 L3
  generalize w2.heap.size + 1 = gl at hn1 hn2 hn3 hn4 Q5 ⊢
  generalize w1.heap.size = gx at hn1 Q3 ⊢
  generalize w2.heap.size = gy at hn2 Q4 ⊢
  generalize w.heap.size + 1 + 1 = gr at hn3 hn5 Q2 ⊢
  go_loopw [8] (fun i wr => ∃ (a : Nat) (L : List Int), a ≤ 16 ∧ i = .int .i64 a ∧ Conv X Y a 0 L ∧ wr.heap[gx]? = some (.cells (valsK .i64 X) 100 (0, 0)) ∧ wr.heap[gy]? = some (.cells (valsK .i64 Y) 100 (0, 0)) ∧ wr.heap[gl]? = some (.cells (valsK .i64 L) 100 (0, 0)) ∧ wr.heap[gr]? = some (.cells (vals z32) 29 (0, 0)) ∧ Below w.heap.size w wr) (fun i _ => 16 - (intOf i).toNat)
  case atStart => exact ⟨0, z16, by omega, rfl, Conv.start X Y, Q3, Q4, Q5, Q2, B5⟩
  case round =>
    obtain ⟨a, L, ha, rfl, hC, RX, RY, RL, RR, Bk⟩ := hrel
    clear Q2 Q3 Q4 Q5 B5
    obtain ⟨wo, hwo⟩ : ∃ wo, wo = wr := ⟨_, rfl⟩
    subst hwo
    by_cases hlt : a < 16
    · go_wp2_with fail
      go_loopw [9] (fun i wr => ∃ (b : Nat) (L : List Int), b ≤ 16 ∧ i = .int .i64 b ∧ Conv X Y a b L ∧ wr.heap[gx]? = some (.cells (valsK .i64 X) 100 (0, 0)) ∧ wr.heap[gy]? = some (.cells (valsK .i64 Y) 100 (0, 0)) ∧ wr.heap[gl]? = some (.cells (valsK .i64 L) 100 (0, 0)) ∧ wr.heap[gr]? = some (.cells (vals z32) 29 (0, 0)) ∧ Below w.heap.size w wr) (fun i _ => 16 - (intOf i).toNat)
      case atStart => exact ⟨0, L, by omega, rfl, hC, RX, RY, RL, RR, Bk⟩
      case round =>
        clear hC RX RY RL RR Bk
        obtain ⟨b, L, hb, rfl, hC, RX, RY, RL, RR, Bk⟩ := hrel
        have HCL := Lib.hid hC.len
        by_cases hbl : b < 16
        · have cx := (row_cell RX a).trans (valsK_get (by rw [HX.out]; exact hlt))
          have cy := (row_cell RY b).trans (valsK_get (by rw [HY.out]; exact hbl))
          have px := hX.nth a
          have py := hY.nth b
          have pp := digit_prod hX hY a b
          by_cases hab : a + b < 16
          · have cl := (row_cell RL (a + b)).trans (valsK_get (by rw [HCL.out]; omega))
            have fl := row_free RL (a + b)
            have hlow := hC.low (a + b)
            have hhigh := hC.high (a + b)
            have HS := Lib.hid (row_set (i := a + b) (v := .int .i64 (nth L (a + b) + nth X a * nth Y b)) RL)
            have HC := Lib.hid (hC.near hX hY hbl hab)
            have H1 := Lib.hid RX
            have H2 := Lib.hid RY
            have H3 := Lib.hid RR
            clear RX RY RL RR hC
            go_wp2
            go_region
            go_wp2
            go_roundw
            case rel =>
              refine ⟨b + 1, _, by omega, by go_num, HC.out, row_set_other H1.out (by omega), row_set_other H2.out (by omega), ?_, row_set_other H3.out (by omega), by go_grown⟩
              refine HS.out.trans ?_
              rw [valsK_set]
            case measure => simp [intOf]; omega

          · have pq : 0 ≤ 38 * nth X a * nth Y b ∧ 38 * nth X a * nth Y b ≤ 163203776550 := by
              have e38 : 38 * nth X a * nth Y b = 38 * (nth X a * nth Y b) := Int.mul_assoc ..
              omega
            have cl := (row_cell RL (a + b - 16)).trans (valsK_get (by rw [HCL.out]; omega))
            have fl := row_free RL (a + b - 16)
            have hlow := hC.low (a + b - 16)
            have hhigh := hC.high (a + b - 16)
            have HS := Lib.hid (row_set (i := a + b - 16) (v := .int .i64 (nth L (a + b - 16) + 38 * nth X a * nth Y b)) RL)
            have HC := Lib.hid (hC.far hX hY hbl hlt (by omega))
            have H1 := Lib.hid RX
            have H2 := Lib.hid RY
            have H3 := Lib.hid RR
            clear RX RY RL RR hC
            go_wp2
            go_region
            go_wp2
            go_roundw
            case rel =>
              refine ⟨b + 1, _, by omega, by go_num, HC.out, row_set_other H1.out (by omega), row_set_other H2.out (by omega), ?_, row_set_other H3.out (by omega), by go_grown⟩
              refine HS.out.trans ?_
              rw [valsK_set]
            case measure => simp [intOf]; omega

        · obtain rfl : b = 16 := by omega
          have HC := Lib.hid (hC.next hX.1 hY.1 hlt)
          have H1 := Lib.hid RX
          have H2 := Lib.hid RY
          have H3 := Lib.hid RR
          have H4 := Lib.hid RL
          clear RX RY RL RR hC
          go_wp2
          go_roundw
          case rel => exact ⟨a + 1, L, by omega, by go_num, HC.out, H1.out, H2.out, H4.out, H3.out, Bk⟩
          case measure => simp [intOf]; omega
    · obtain rfl : a = 16 := by omega
      obtain ⟨hb, hd⟩ := hC.done hX dX dY
      have HCL := Lib.hid hC.len
      clear RX RY hC
      go_wp2_with (refine ld_row rfl 100 (.tmp 7) rfl _ (by rfl) _ _ RL 16 tDig (by rw [valsK_size, HCL.out]) ?_)
      refine (least08_any L (n * m) _ HCL.out hb hd).mono ?_
      rintro e w3 ⟨rfl, b3⟩
      have RR3 := row_call b3 RR
      have B3 := below_call b3 Bk
      clear b3 hb hd
      go_wp2_with (refine st_row rfl 29 (.tmp 4) _ rfl _ _ (by rfl) (by rfl) _ _ RR3 32 tNum (by rw [vals_size, bytesN_len]) (by rfl) (vals_one _) ?_)
      refine ret_row rfl _ _ _ rfl (row_put RR3) 32 tNum (by rw [vals_size, bytesN_len]) rfl ?_
      exact ⟨rfl, below_setRow B3 hn5 _⟩
end Go.Proofs.Ytciakfhjjnmeeaa
