/- The walk of FieldNames: it returns true. -/
import Derived.Test.YtciakfhjjnmeeaaOpsG
namespace Go.Proofs.Ytciakfhjjnmeeaa
open Go.RowKit Nt

theorem half_inv : (Fin.ofNat P 28948022309329048855892746252171976963317496166410141009864396001978282409975 : F) = inv 2 := (inv_of_mul (by decide)).symm

theorem half_bytes : ((pb 0).set 0 247).set 31 63 = bytesN 28948022309329048855892746252171976963317496166410141009864396001978282409975 := by decide +kernel

theorem five_pow : ((32 : F)) = (2 : F) ^ 5 := by decide

set_option maxHeartbeats 4000000 in
set_option maxRecDepth 100000 in
theorem fieldNames_walk (w : World) : Calls Try.prog 10 #[] w fun e w' => e = .returned (.bool true) ∧ Below w.heap.size w w' := by
  go_enter Try.func10, Try.ntmps10
  go_wp2_with fail
  refine (prime_any 0 _ (by omega) (by omega)).mono ?_
  rintro e w1 ⟨rfl, b1⟩
  have B0 : Below w.heap.size w (w.alloc (.cells #[.int .u64 0, .int .u64 0, .int .u64 0, .int .u64 0, .int .u64 0] 26)) := by go_grown
  have R0 := row_call b1 (row_new (w := w) (x := .cells #[.int .u64 0, .int .u64 0, .int .u64 0, .int .u64 0, .int .u64 0] 26))
  have B1 := below_call b1 B0
  clear b1 B0
  have L1 := row_lt R0
  have Q0 := row_alloc (x := .cells (vals (bytesN 28948022309329048855892746252171976963317496166410141009864396001978282409975)) 22) R0
  have R1 := row_new (w := w1) (x := .cells (vals (pb 0)) 22)
  have B2 := B1.alloc B1.size (.cells (vals (pb 0)) 22)
  have c0 := (row_cell R1 0).trans (vals_get (by rw [pb_len]; omega))
  have c31 := (row_cell R1 31).trans (vals_get (by rw [pb_len]; omega))
  have fz := row_free R1
  go_wp2_with ((with_reducible refine guard_list ?_); refine st_new rfl 22 (.tmp 2) _ rfl _ _ _ (by rfl) (by rfl) 32 tBytes (by rw [vals_size, pb_len]) (by rfl) (vals_one _) ?_)
  rw [vals_set, vals_set, half_bytes]
  have S1 := row_new (w := w1) (x := .cells (vals (bytesN 28948022309329048855892746252171976963317496166410141009864396001978282409975)) 22)
  have B3 := B1.alloc B1.size (.cells (vals (bytesN 28948022309329048855892746252171976963317496166410141009864396001978282409975)) 22)
  have S0 := Q0
  clear c0 c31 fz R0 R1 B2 Q0
  generalize w1.alloc (.cells (vals (bytesN 28948022309329048855892746252171976963317496166410141009864396001978282409975)) 22) = W at *
  clear B1
  generalize w1.heap.size = gb at *
  have hS : ElAt (0 : F) w.heap.size W ∧ BytesAt (bytesN 28948022309329048855892746252171976963317496166410141009864396001978282409975) gb W ∧ Below w.heap.size w W := ⟨.mk S0 el_zero, ⟨_, S1⟩, B3⟩
  clear S0 S1 B3
  obtain ⟨hf, hhf⟩ : ∃ hf : F, hf = Fin.ofNat P 28948022309329048855892746252171976963317496166410141009864396001978282409975 := ⟨_, rfl⟩
  have hfi : hf = inv 2 := hhf.trans half_inv
  have hfv : hf.val = 28948022309329048855892746252171976963317496166410141009864396001978282409975 := by rw [hhf]; rfl
  clear hhf
  have hz : (0 : F) = inv 0 := inv_zero.symm
  have h00 : (1 : F) = (0 : F) ^ 0 := (pow_zero 0).symm
  have h25 := five_pow
  have X1 := Lib.hid hfi
  have X2 := Lib.hid hfv
  have X3 := Lib.hid hz
  have X4 := Lib.hid h00
  have X5 := Lib.hid h25
  clear hfi hfv hz h00 h25
  generalize 28948022309329048855892746252171976963317496166410141009864396001978282409975 = V at *
  obtain ⟨M, hM⟩ : ∃ M, M = W.heap.size := ⟨_, rfl⟩
  have lt0 := (hS.1).lt
  have lt1 := (hS.2.1).lt
  rw [← hM] at lt0 lt1
  refine hide_frame fun t0 HT => ?_
  have HS : t0.size = 39 := by rw [HT]; rfl
  have h1 : t0[1]? = some (.pointer (some ⟨w.heap.size, 0, none⟩)) := by rw [HT]; rfl
  have h2 : t0[2]? = some (.pointer (some ⟨gb, 0, none⟩)) := by rw [HT]; rfl
  clear HT
  refine wp_region_all 33 (fun i => [6, 7, 8, 9, 10, 11, 12, 13, 14, 15, 16, 17, 18, 19, 20, 21, 22, 23, 24, 25, 26, 27, 28, 29, 30, 31, 32, 33, 34, 35, 36, 37, 38, 0].getD i 0) (fun i => [(· = .bool true), (· = .bool true), IsEl (0 : F), (· = .int .u64 18446744073709551615), (· = .bool true), (· = .bool true), (· = .bool true), IsEl (0 : F), IsEl (0 : F), (· = .int .u64 18446744073709551615), (· = .bool true), (· = .bool true), (· = .bool true), IsEl (0 : F), (· = .agg (vals (bytesN 0))), IsEl (1 : F), IsEl (1 : F), (· = .bool true), (· = .bool true), (· = .bool true), IsEl (2 : F), IsEl hf, (· = .agg (vals (bytesN V))), (· = .agg (vals (bytesN V))), (· = .bool true), (· = .bool true), (· = .bool true), IsEl (2 : F), (· = .agg (vals (bytesN 5))), IsEl (32 : F), IsEl (32 : F), (· = .bool true), (· = .bool true), (· = .bool true)].getD i (fun _ => True)) (fun w' => ElAt (0 : F) w.heap.size w' ∧ BytesAt (bytesN V) gb w' ∧ Below w.heap.size w w' ∧ M ≤ w'.heap.size)
    (by kernel_rfl) (by kernel_rfl) (by kernel_rfl) (slots_apart (by kernel_rfl)) (slots_lie (by rw [HS]; kernel_rfl)) ⟨hS.1, hS.2.1, (hS.2.2).drew, Nat.le_of_eq hM⟩ (fun w1 w2 h b => ⟨(h.1).keep b, (h.2.1).keep b, below_call b h.2.2.1, Nat.le_trans h.2.2.2 b.size⟩) ?_ ?_
  · clear hS
    intro i o hi ho
    have hc : i = 0 ∨ i = 1 ∨ i = 2 ∨ i = 3 ∨ i = 4 ∨ i = 5 ∨ i = 6 ∨ i = 7 ∨ i = 8 ∨ i = 9 ∨ i = 10 ∨ i = 11 ∨ i = 12 ∨ i = 13 ∨ i = 14 ∨ i = 15 ∨ i = 16 ∨ i = 17 ∨ i = 18 ∨ i = 19 ∨ i = 20 ∨ i = 21 ∨ i = 22 ∨ i = 23 ∨ i = 24 ∨ i = 25 ∨ i = 26 ∨ i = 27 ∨ i = 28 ∨ i = 29 ∨ i = 30 ∨ i = 31 ∨ i = 32 ∨ i = 33 := by omega
    rcases hc with rfl | rfl | rfl | rfl | rfl | rfl | rfl | rfl | rfl | rfl | rfl | rfl | rfl | rfl | rfl | rfl | rfl | rfl | rfl | rfl | rfl | rfl | rfl | rfl | rfl | rfl | rfl | rfl | rfl | rfl | rfl | rfl | rfl | rfl
    · obtain rfl := Option.some.inj ho
      refine ⟨rfl, fun a w' hS hold hin K hK => ?_⟩
      refine if_always rfl ?_
      exact op_fn0 _  _  rfl rfl  (by intro args w; kernel_rfl) (awake_ev _) hK
    · obtain rfl := Option.some.inj ho
      refine ⟨rfl, fun a w' hS hold hin K hK => ?_⟩
      obtain ⟨y0, x0, rfl⟩ := hin 0 rfl (by omega)
      refine if_always rfl ?_
      exact op_move (V := (· = .bool true)) _ _ rfl rfl (eval_tmp x0) rfl hK
    · obtain rfl := Option.some.inj ho
      refine ⟨rfl, fun a w' hS hold hin K hK => ?_⟩
      obtain ⟨y1, x1, rfl⟩ := hin 1 rfl (by omega)
      refine if_guard (d := 7) rfl rfl x1 ?_
      exact op_ld_el (.tmp 1) rfl rfl _ (eval_tmp ((hold 1 (slots_not (by kernel_rfl))).trans h1)) hS.1 hK
    · obtain rfl := Option.some.inj ho
      refine ⟨rfl, fun a w' hS hold hin K hK => ?_⟩
      obtain ⟨y1, x1, rfl⟩ := hin 1 rfl (by omega)
      obtain ⟨y2, x2, (v2 : IsEl (0 : F) y2)⟩ := hin 2 rfl (by omega)
      refine if_guard (d := 7) rfl rfl x1 ?_
      exact op_fn1 _ _ _ _ rfl rfl (eval_tmp x2) (by intro args w; kernel_rfl) (zero_el_yes v2 (by grind) _) hK
    · obtain rfl := Option.some.inj ho
      refine ⟨rfl, fun a w' hS hold hin K hK => ?_⟩
      obtain ⟨y1, x1, rfl⟩ := hin 1 rfl (by omega)
      obtain ⟨y3, x3, rfl⟩ := hin 3 rfl (by omega)
      refine if_guard (d := 7) rfl rfl x1 ?_
      exact op_bin (V := (· = .bool true)) _ _ _ _ _ _ _ (.bool true) rfl rfl (eval_tmp x3) rfl (fun w => by kernel_rfl) rfl hK
    · obtain rfl := Option.some.inj ho
      refine ⟨rfl, fun a w' hS hold hin K hK => ?_⟩
      obtain ⟨y1, x1, rfl⟩ := hin 1 rfl (by omega)
      obtain ⟨y4, x4, rfl⟩ := hin 4 rfl (by omega)
      refine if_always rfl ?_
      exact op_pick (V := (· = .bool true)) _ _ _ true _ rfl rfl (eval_tmp x1) (show (Act.eval a _) = _ from (eval_tmp x4)) rfl hK
    · obtain rfl := Option.some.inj ho
      refine ⟨rfl, fun a w' hS hold hin K hK => ?_⟩
      obtain ⟨y5, x5, rfl⟩ := hin 5 rfl (by omega)
      refine if_always rfl ?_
      exact op_move (V := (· = .bool true)) _ _ rfl rfl (eval_tmp x5) rfl hK
    · obtain rfl := Option.some.inj ho
      refine ⟨rfl, fun a w' hS hold hin K hK => ?_⟩
      obtain ⟨y6, x6, rfl⟩ := hin 6 rfl (by omega)
      refine if_guard (d := 12) rfl rfl x6 ?_
      exact op_ld_el (.tmp 1) rfl rfl _ (eval_tmp ((hold 1 (slots_not (by kernel_rfl))).trans h1)) hS.1 hK
    · obtain rfl := Option.some.inj ho
      refine ⟨rfl, fun a w' hS hold hin K hK => ?_⟩
      obtain ⟨y6, x6, rfl⟩ := hin 6 rfl (by omega)
      obtain ⟨y7, x7, (v7 : IsEl (0 : F) y7)⟩ := hin 7 rfl (by omega)
      refine if_guard (d := 12) rfl rfl x6 ?_
      exact op_fn1 _ _ _ _ rfl rfl (eval_tmp x7) (by intro args w; kernel_rfl) (inv_ev v7 X3.out _) hK
    · obtain rfl := Option.some.inj ho
      refine ⟨rfl, fun a w' hS hold hin K hK => ?_⟩
      obtain ⟨y6, x6, rfl⟩ := hin 6 rfl (by omega)
      obtain ⟨y8, x8, (v8 : IsEl (0 : F) y8)⟩ := hin 8 rfl (by omega)
      refine if_guard (d := 12) rfl rfl x6 ?_
      exact op_fn1 _ _ _ _ rfl rfl (eval_tmp x8) (by intro args w; kernel_rfl) (zero_el_yes v8 (by grind) _) hK
    · obtain rfl := Option.some.inj ho
      refine ⟨rfl, fun a w' hS hold hin K hK => ?_⟩
      obtain ⟨y6, x6, rfl⟩ := hin 6 rfl (by omega)
      obtain ⟨y9, x9, rfl⟩ := hin 9 rfl (by omega)
      refine if_guard (d := 12) rfl rfl x6 ?_
      exact op_bin (V := (· = .bool true)) _ _ _ _ _ _ _ (.bool true) rfl rfl (eval_tmp x9) rfl (fun w => by kernel_rfl) rfl hK
    · obtain rfl := Option.some.inj ho
      refine ⟨rfl, fun a w' hS hold hin K hK => ?_⟩
      obtain ⟨y6, x6, rfl⟩ := hin 6 rfl (by omega)
      obtain ⟨y10, x10, rfl⟩ := hin 10 rfl (by omega)
      refine if_always rfl ?_
      exact op_pick (V := (· = .bool true)) _ _ _ true _ rfl rfl (eval_tmp x6) (show (Act.eval a _) = _ from (eval_tmp x10)) rfl hK
    · obtain rfl := Option.some.inj ho
      refine ⟨rfl, fun a w' hS hold hin K hK => ?_⟩
      obtain ⟨y11, x11, rfl⟩ := hin 11 rfl (by omega)
      refine if_always rfl ?_
      exact op_move (V := (· = .bool true)) _ _ rfl rfl (eval_tmp x11) rfl hK
    · obtain rfl := Option.some.inj ho
      refine ⟨rfl, fun a w' hS hold hin K hK => ?_⟩
      obtain ⟨y12, x12, rfl⟩ := hin 12 rfl (by omega)
      refine if_guard (d := 18) rfl rfl x12 ?_
      exact op_ld_el (.tmp 1) rfl rfl _ (eval_tmp ((hold 1 (slots_not (by kernel_rfl))).trans h1)) hS.1 hK
    · obtain rfl := Option.some.inj ho
      refine ⟨rfl, fun a w' hS hold hin K hK => ?_⟩
      obtain ⟨y12, x12, rfl⟩ := hin 12 rfl (by omega)
      refine if_guard (d := 18) rfl rfl x12 ?_
      exact op_val (V := (· = .agg (vals (bytesN 0)))) (.agg (vals (bytesN 0))) rfl (by kernel_rfl) rfl hK
    · obtain rfl := Option.some.inj ho
      refine ⟨rfl, fun a w' hS hold hin K hK => ?_⟩
      obtain ⟨y12, x12, rfl⟩ := hin 12 rfl (by omega)
      obtain ⟨y13, x13, (v13 : IsEl (0 : F) y13)⟩ := hin 13 rfl (by omega)
      obtain ⟨y14, x14, rfl⟩ := hin 14 rfl (by omega)
      refine if_guard (d := 18) rfl rfl x12 ?_
      exact op_fn2 _ _ _ _ _ _ rfl rfl (eval_tmp x13) (eval_tmp x14) (by intro args w; kernel_rfl) (power_ev v13 0 (by decide) X4.out _) hK
    · obtain rfl := Option.some.inj ho
      refine ⟨rfl, fun a w' hS hold hin K hK => ?_⟩
      obtain ⟨y12, x12, rfl⟩ := hin 12 rfl (by omega)
      refine if_guard (d := 18) rfl rfl x12 ?_
      exact op_fn1 _ _ _ _ rfl rfl rfl (by intro args w; kernel_rfl) (small_evl 1 (by omega) rfl _) hK
    · obtain rfl := Option.some.inj ho
      refine ⟨rfl, fun a w' hS hold hin K hK => ?_⟩
      obtain ⟨y12, x12, rfl⟩ := hin 12 rfl (by omega)
      obtain ⟨y15, x15, (v15 : IsEl (1 : F) y15)⟩ := hin 15 rfl (by omega)
      obtain ⟨y16, x16, (v16 : IsEl (1 : F) y16)⟩ := hin 16 rfl (by omega)
      refine if_guard (d := 18) rfl rfl x12 ?_
      exact op_fn2 _ _ _ _ _ _ rfl rfl (eval_tmp x15) (eval_tmp x16) (by intro args w; kernel_rfl) (one_el v15 v16 (by grind) _) hK
    · obtain rfl := Option.some.inj ho
      refine ⟨rfl, fun a w' hS hold hin K hK => ?_⟩
      obtain ⟨y12, x12, rfl⟩ := hin 12 rfl (by omega)
      obtain ⟨y17, x17, rfl⟩ := hin 17 rfl (by omega)
      refine if_always rfl ?_
      exact op_pick (V := (· = .bool true)) _ _ _ true _ rfl rfl (eval_tmp x12) (show (Act.eval a _) = _ from (eval_tmp x17)) rfl hK
    · obtain rfl := Option.some.inj ho
      refine ⟨rfl, fun a w' hS hold hin K hK => ?_⟩
      obtain ⟨y18, x18, rfl⟩ := hin 18 rfl (by omega)
      refine if_always rfl ?_
      exact op_move (V := (· = .bool true)) _ _ rfl rfl (eval_tmp x18) rfl hK
    · obtain rfl := Option.some.inj ho
      refine ⟨rfl, fun a w' hS hold hin K hK => ?_⟩
      obtain ⟨y19, x19, rfl⟩ := hin 19 rfl (by omega)
      refine if_guard (d := 25) rfl rfl x19 ?_
      exact op_fn1 _ _ _ _ rfl rfl rfl (by intro args w; kernel_rfl) (small_evl 2 (by omega) rfl _) hK
    · obtain rfl := Option.some.inj ho
      refine ⟨rfl, fun a w' hS hold hin K hK => ?_⟩
      obtain ⟨y19, x19, rfl⟩ := hin 19 rfl (by omega)
      obtain ⟨y20, x20, (v20 : IsEl (2 : F) y20)⟩ := hin 20 rfl (by omega)
      refine if_guard (d := 25) rfl rfl x19 ?_
      exact op_fn1 _ _ _ _ rfl rfl (eval_tmp x20) (by intro args w; kernel_rfl) (inv_ev v20 X1.out _) hK
    · obtain rfl := Option.some.inj ho
      refine ⟨rfl, fun a w' hS hold hin K hK => ?_⟩
      obtain ⟨y19, x19, rfl⟩ := hin 19 rfl (by omega)
      obtain ⟨y21, x21, (v21 : IsEl hf y21)⟩ := hin 21 rfl (by omega)
      refine if_guard (d := 25) rfl rfl x19 ?_
      exact op_fn1 _ _ _ _ rfl rfl (eval_tmp x21) (by intro args w; kernel_rfl) (bytes_ev v21 V X2.out _) hK
    · obtain rfl := Option.some.inj ho
      refine ⟨rfl, fun a w' hS hold hin K hK => ?_⟩
      obtain ⟨y19, x19, rfl⟩ := hin 19 rfl (by omega)
      refine if_guard (d := 25) rfl rfl x19 ?_
      exact op_ld_by (.tmp 2) rfl rfl _ (eval_tmp ((hold 2 (slots_not (by kernel_rfl))).trans h2)) hS.2.1 (bytesN_len _) hK
    · obtain rfl := Option.some.inj ho
      refine ⟨rfl, fun a w' hS hold hin K hK => ?_⟩
      obtain ⟨y19, x19, rfl⟩ := hin 19 rfl (by omega)
      obtain ⟨y22, x22, rfl⟩ := hin 22 rfl (by omega)
      obtain ⟨y23, x23, rfl⟩ := hin 23 rfl (by omega)
      refine if_guard (d := 25) rfl rfl x19 ?_
      exact op_bin (V := (· = .bool true)) _ _ _ _ _ _ _ (.bool true) rfl rfl (eval_tmp x22) (eval_tmp x23) (fun w => eql_by_same _ (bytesN_len _) w) rfl hK
    · obtain rfl := Option.some.inj ho
      refine ⟨rfl, fun a w' hS hold hin K hK => ?_⟩
      obtain ⟨y19, x19, rfl⟩ := hin 19 rfl (by omega)
      obtain ⟨y24, x24, rfl⟩ := hin 24 rfl (by omega)
      refine if_always rfl ?_
      exact op_pick (V := (· = .bool true)) _ _ _ true _ rfl rfl (eval_tmp x19) (show (Act.eval a _) = _ from (eval_tmp x24)) rfl hK
    · obtain rfl := Option.some.inj ho
      refine ⟨rfl, fun a w' hS hold hin K hK => ?_⟩
      obtain ⟨y25, x25, rfl⟩ := hin 25 rfl (by omega)
      refine if_always rfl ?_
      exact op_move (V := (· = .bool true)) _ _ rfl rfl (eval_tmp x25) rfl hK
    · obtain rfl := Option.some.inj ho
      refine ⟨rfl, fun a w' hS hold hin K hK => ?_⟩
      obtain ⟨y26, x26, rfl⟩ := hin 26 rfl (by omega)
      refine if_guard (d := 32) rfl rfl x26 ?_
      exact op_fn1 _ _ _ _ rfl rfl rfl (by intro args w; kernel_rfl) (small_evl 2 (by omega) rfl _) hK
    · obtain rfl := Option.some.inj ho
      refine ⟨rfl, fun a w' hS hold hin K hK => ?_⟩
      obtain ⟨y26, x26, rfl⟩ := hin 26 rfl (by omega)
      refine if_guard (d := 32) rfl rfl x26 ?_
      exact op_val (V := (· = .agg (vals (bytesN 5)))) (.agg (vals (bytesN 5))) rfl (by kernel_rfl) rfl hK
    · obtain rfl := Option.some.inj ho
      refine ⟨rfl, fun a w' hS hold hin K hK => ?_⟩
      obtain ⟨y26, x26, rfl⟩ := hin 26 rfl (by omega)
      obtain ⟨y27, x27, (v27 : IsEl (2 : F) y27)⟩ := hin 27 rfl (by omega)
      obtain ⟨y28, x28, rfl⟩ := hin 28 rfl (by omega)
      refine if_guard (d := 32) rfl rfl x26 ?_
      exact op_fn2 _ _ _ _ _ _ rfl rfl (eval_tmp x27) (eval_tmp x28) (by intro args w; kernel_rfl) (power_ev v27 5 (by decide) X5.out _) hK
    · obtain rfl := Option.some.inj ho
      refine ⟨rfl, fun a w' hS hold hin K hK => ?_⟩
      obtain ⟨y26, x26, rfl⟩ := hin 26 rfl (by omega)
      refine if_guard (d := 32) rfl rfl x26 ?_
      exact op_fn1 _ _ _ _ rfl rfl rfl (by intro args w; kernel_rfl) (small_evl 32 (by omega) rfl _) hK
    · obtain rfl := Option.some.inj ho
      refine ⟨rfl, fun a w' hS hold hin K hK => ?_⟩
      obtain ⟨y26, x26, rfl⟩ := hin 26 rfl (by omega)
      obtain ⟨y29, x29, (v29 : IsEl (32 : F) y29)⟩ := hin 29 rfl (by omega)
      obtain ⟨y30, x30, (v30 : IsEl (32 : F) y30)⟩ := hin 30 rfl (by omega)
      refine if_guard (d := 32) rfl rfl x26 ?_
      exact op_fn2 _ _ _ _ _ _ rfl rfl (eval_tmp x29) (eval_tmp x30) (by intro args w; kernel_rfl) (one_el v29 v30 (by grind) _) hK
    · obtain rfl := Option.some.inj ho
      refine ⟨rfl, fun a w' hS hold hin K hK => ?_⟩
      obtain ⟨y26, x26, rfl⟩ := hin 26 rfl (by omega)
      obtain ⟨y31, x31, rfl⟩ := hin 31 rfl (by omega)
      refine if_always rfl ?_
      exact op_pick (V := (· = .bool true)) _ _ _ true _ rfl rfl (eval_tmp x26) (show (Act.eval a _) = _ from (eval_tmp x31)) rfl hK
    · obtain rfl := Option.some.inj ho
      refine ⟨rfl, fun a w' hS hold hin K hK => ?_⟩
      obtain ⟨y32, x32, rfl⟩ := hin 32 rfl (by omega)
      refine if_always rfl ?_
      exact op_assign (V := (· = .bool true)) _ _ rfl rfl (eval_tmp x32) rfl hK
  clear hS
  intro t1 W1 hs hold hout hS
  replace HS := hs.trans HS
  obtain ⟨_, q0, rfl⟩ : ∃ x, t1[0]? = some x ∧ x = (.bool true : Value) := hout 33 (by omega)
  obtain ⟨f, e0, hf⟩ := wash HS
  have f0 := hf 0 _ q0
  have f1 := hf 1 _ ((hold 1 (slots_not (by kernel_rfl))).trans h1)
  have f2 := hf 2 _ ((hold 2 (slots_not (by kernel_rfl))).trans h2)
  clear hf
  rw [e0.trans (show _ = #[f 0, f 1, f 2, f 3, f 4, f 5, f 6, f 7, f 8, f 9, f 10, f 11, f 12, f 13, f 14, f 15, f 16, f 17, f 18, f 19, f 20, f 21, f 22, f 23, f 24, f 25, f 26, f 27, f 28, f 29, f 30, f 31, f 32, f 33, f 34, f 35, f 36, f 37, f 38] from by kernel_rfl), f0, f1, f2]
  clear f0 f1 f2
  clear e0
  dsimp only
  clear h1 h2 q0 hold hout hs HS t1 t0
  have hS' := hS
  clear hS
  have hS : ElAt (0 : F) w.heap.size W1 ∧ BytesAt (bytesN V) gb W1 ∧ Below w.heap.size w W1 := ⟨hS'.1, hS'.2.1, hS'.2.2.1⟩
  clear hS' lt0 lt1
  clear hM
  clear M
  clear X1 X2 X3 X4 X5
  go_wp2_with ((with_reducible refine guard_list ?_); first | (refine held_load 26 _ rfl ?_) | (refine held_load 22 _ rfl ?_))
  go_returns
  exact ⟨rfl, hS.2.2⟩
end Go.Proofs.Ytciakfhjjnmeeaa
