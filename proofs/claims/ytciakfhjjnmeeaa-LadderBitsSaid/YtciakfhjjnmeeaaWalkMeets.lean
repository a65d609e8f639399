/- The walk of LadderMeets: it returns true for all keys. -/
import Derived.Test.YtciakfhjjnmeeaaLadOp2
namespace Go.Proofs.Ytciakfhjjnmeeaa
open Go.RowKit Nt Edw

theorem mask_yes {R : F} (h : R ≠ 0) : mk (!decide (R = 0)) = 18446744073709551615 := by rw [decide_eq_false h]; rfl
theorem agree_yes {Lk Lu : List Int} {R : F} {w : World} (h0 : R ≠ 0) (h : Calls Try.prog 51 #[.agg (vals Lk), .agg (vals Lu)] w (Gives (· = .tuple #[.agg (vals (bytesN R.val)), .int .u64 (mk (!decide (R = 0)))]) w)) :
    Calls Try.prog 51 #[.agg (vals Lk), .agg (vals Lu)] w (Gives (· = .tuple #[.agg (vals (bytesN R.val)), .int .u64 18446744073709551615]) w) := by
  rw [mask_yes h0] at h; exact h
theorem agree_no {Lk Lu : List Int} {R : F} {w : World} (h0 : R = 0) (h : Calls Try.prog 51 #[.agg (vals Lk), .agg (vals Lu)] w (Gives (· = .tuple #[.agg (vals (bytesN R.val)), .int .u64 (mk (!decide (R = 0)))]) w)) :
    Calls Try.prog 51 #[.agg (vals Lk), .agg (vals Lu)] w (Gives (· = .tuple #[.agg (vals (bytesN R.val)), .int .u64 0]) w) := by
  rw [decide_eq_true h0] at h; exact h

set_option maxHeartbeats 4000000 in
set_option maxRecDepth 100000 in
theorem ladderMeets_walk (La Lb Lu : List Int) (w : World) (hlLa : La.length = 32) (hbLa : Byt La) (hlLb : Lb.length = 32) (hbLb : Byt Lb) (hlLu : Lu.length = 32) (hbLu : Byt Lu):
    Calls Try.prog 14 #[.agg (vals La), .agg (vals Lb), .agg (vals Lu)] w fun e w' => e = .returned (.bool true) ∧ Below w.heap.size w w' := by
  have HLLa := Lib.hid hlLa
  have HLLb := Lib.hid hlLb
  have HLLu := Lib.hid hlLu
  clear hlLa hlLb hlLu
  have hS : Own w [(w.heap.size, 32, (· = .agg (vals La))), ((w.heap.size + 1), 32, (· = .agg (vals Lb))), ((w.heap.size + 1 + 1), 32, (· = .agg (vals Lu)))] (((w.alloc (.cells (vals La) 68)).alloc (.cells (vals Lb) 68)).alloc (.cells (vals Lu) 68)) := by
    have a0 : Own w [] (((w.alloc (.cells (vals La) 68)).alloc (.cells (vals Lb) 68)).alloc (.cells (vals Lu) 68)) := Own.of_below (by go_grown)
    have a1 := a0.add (g := w.heap.size) (n := 32) (V := (· = .agg (vals La))) (by omega) (fun r hr => by cases hr) ⟨_, _, new3_0 .., by rw [vals_size, HLLa.out], rfl⟩
    have a2 := a1.add (g := (w.heap.size + 1)) (n := 32) (V := (· = .agg (vals Lb))) (by omega) (by simp) ⟨_, _, new3_1 .., by rw [vals_size, HLLb.out], rfl⟩
    have a3 := a2.add (g := (w.heap.size + 1 + 1)) (n := 32) (V := (· = .agg (vals Lu))) (by omega) (by simp; omega) ⟨_, _, new3_2 .., by rw [vals_size, HLLu.out], rfl⟩
    exact a3
  go_enter Try.func14, Try.ntmps14
  go_wp2_with fail
  generalize ((w.alloc (.cells (vals La) 68)).alloc (.cells (vals Lb) 68)).alloc (.cells (vals Lu) 68) = W0 at hS ⊢
  obtain ⟨xu, hxu⟩ : ∃ x, numF Lu = x := ⟨_, rfl⟩
  obtain ⟨va, hva⟩ : ∃ v, cl La = v := ⟨_, rfl⟩
  obtain ⟨vb, hvb⟩ : ∃ v, cl Lb = v := ⟨_, rfl⟩
  have a1 := cl_lt HLLa.out hbLa
  have a2 := cl_eight HLLa.out hbLa
  have a3 := cl_pos HLLa.out hbLa
  have b1 := cl_lt HLLb.out hbLb
  have b2 := cl_eight HLLb.out hbLb
  have b3 := cl_pos HLLb.out hbLb
  rw [hva] at a1 a2 a3
  rw [hvb] at b1 b2 b3
  obtain ⟨ra, hra⟩ : ∃ r, prod va xu = r := ⟨_, rfl⟩
  obtain ⟨rb, hrb⟩ : ∃ r, prod vb xu = r := ⟨_, rfl⟩
  obtain ⟨rr, hrr⟩ : ∃ r, prod va rb = r := ⟨_, rfl⟩
  have hrs : prod vb ra = rr := by rw [← hrr, ← hra, ← hrb, prod_comm vb va xu b1 (by omega) a1 (by omega)]
  obtain ⟨pa, hpa⟩ : ∃ r, prod va 9 = r := ⟨_, rfl⟩
  obtain ⟨pb', hpb⟩ : ∃ r, prod vb 9 = r := ⟨_, rfl⟩
  obtain ⟨rn, hrn⟩ : ∃ r, prod va pb' = r := ⟨_, rfl⟩
  have hrm : prod vb pa = rn := by rw [← hrn, ← hpa, ← hpb, prod_comm vb va 9 b1 (by omega) a1 (by omega)]
  have hn0 : rn ≠ 0 := by rw [← hrn, ← hpb]; exact prod_nine2 a2 a3 a1 b2 b3 b1
  have hnz := bytes_ne_zero hn0
  have Hhxu := Lib.hid hxu
  have Hhva := Lib.hid hva
  have Hhvb := Lib.hid hvb
  have Hhra := Lib.hid hra
  have Hhrb := Lib.hid hrb
  have Hhrr := Lib.hid hrr
  have Hhrs := Lib.hid hrs
  have Hhpa := Lib.hid hpa
  have Hhpb := Lib.hid hpb
  have Hhrn := Lib.hid hrn
  have Hhrm := Lib.hid hrm
  have Hhn0 := Lib.hid hn0
  have Hhnz := Lib.hid hnz
  clear a1 a2 a3 b1 b2 b3 hxu hva hvb hra hrb hrr hrs hpa hpb hrn hrm hn0 hnz
  obtain ⟨M, hM⟩ : ∃ M, M = W0.heap.size := ⟨_, rfl⟩
  refine hide_frame fun t0 HT => ?_
  have HS : t0.size = 55 := by rw [HT]; rfl
  have h3 : t0[3]? = some (.pointer (some ⟨w.heap.size, 0, none⟩)) := by rw [HT]; rfl
  have h4 : t0[4]? = some (.pointer (some ⟨(w.heap.size + 1), 0, none⟩)) := by rw [HT]; rfl
  have h5 : t0[5]? = some (.pointer (some ⟨(w.heap.size + 1 + 1), 0, none⟩)) := by rw [HT]; rfl
  clear HT
  refine wp_region_all 10 (fun i => [11, 12, 13, 14, 15, 16, 17, 18, 19, 20, 21].getD i 0) (fun i => [(· = .agg (vals La)), (· = .agg (vals Lb)), (· = .agg (vals Lu)), (· = .agg (vals (bytesN rb.val))), (· = .agg (vals (bytesN rr.val))), (· = .agg (vals Lb)), (· = .agg (vals La)), (· = .agg (vals Lu)), (· = .agg (vals (bytesN ra.val))), (· = .agg (vals (bytesN rr.val))), (· = .bool false)].getD i (fun _ => True)) (fun w' => Own w [(w.heap.size, 32, (· = .agg (vals La))), ((w.heap.size + 1), 32, (· = .agg (vals Lb))), ((w.heap.size + 1 + 1), 32, (· = .agg (vals Lu)))] w' ∧ M ≤ w'.heap.size)
    (by kernel_rfl) (by kernel_rfl) (by kernel_rfl) (slots_apart (by kernel_rfl)) (slots_lie (by rw [HS]; kernel_rfl)) ⟨hS.drew, Nat.le_of_eq hM⟩ (fun w1 w2 h b => ⟨h.1.keep b, Nat.le_trans h.2 b.size⟩) ?_ ?_
  · clear hS
    intro i o hi ho
    have hc : i = 0 ∨ i = 1 ∨ i = 2 ∨ i = 3 ∨ i = 4 ∨ i = 5 ∨ i = 6 ∨ i = 7 ∨ i = 8 ∨ i = 9 ∨ i = 10 := by omega
    rcases hc with rfl | rfl | rfl | rfl | rfl | rfl | rfl | rfl | rfl | rfl | rfl
    · obtain rfl := Option.some.inj ho
      refine ⟨rfl, fun a w' hS hold hin K hK => ?_⟩
      refine if_always rfl ?_
      exact op_ld_own 32 tKey (.tmp 3) rfl rfl _ (eval_tmp ((hold 3 (slots_not (by kernel_rfl))).trans h3)) hS.1 0 rfl hK
    · obtain rfl := Option.some.inj ho
      refine ⟨rfl, fun a w' hS hold hin K hK => ?_⟩
      refine if_always rfl ?_
      exact op_ld_own 32 tKey (.tmp 4) rfl rfl _ (eval_tmp ((hold 4 (slots_not (by kernel_rfl))).trans h4)) hS.1 1 rfl hK
    · obtain rfl := Option.some.inj ho
      refine ⟨rfl, fun a w' hS hold hin K hK => ?_⟩
      refine if_always rfl ?_
      exact op_ld_own 32 tKey (.tmp 5) rfl rfl _ (eval_tmp ((hold 5 (slots_not (by kernel_rfl))).trans h5)) hS.1 2 rfl hK
    · obtain rfl := Option.some.inj ho
      refine ⟨rfl, fun a w' hS hold hin K hK => ?_⟩
      obtain ⟨y1, x1, rfl⟩ := hin 1 rfl (by omega)
      obtain ⟨y2, x2, rfl⟩ := hin 2 rfl (by omega)
      refine if_always rfl ?_
      exact op_fn2 _ _ _ _ _ _ rfl rfl (eval_tmp x1) (eval_tmp x2) (by intro args w; kernel_rfl) (ladmul_ev Lb Lu vb xu rb _ HLLb.out hbLb HLLu.out hbLu Hhvb.out Hhxu.out Hhrb.out) hK
    · obtain rfl := Option.some.inj ho
      refine ⟨rfl, fun a w' hS hold hin K hK => ?_⟩
      obtain ⟨y0, x0, rfl⟩ := hin 0 rfl (by omega)
      obtain ⟨y3, x3, rfl⟩ := hin 3 rfl (by omega)
      refine if_always rfl ?_
      exact op_fn2 _ _ _ _ _ _ rfl rfl (eval_tmp x0) (eval_tmp x3) (by intro args w; kernel_rfl) (ladmul_ev La (bytesN rb.val) va rb rr _ HLLa.out hbLa (bytesN_len _) (bytesN_byt _) Hhva.out (numF_own rb) Hhrr.out) hK
    · obtain rfl := Option.some.inj ho
      refine ⟨rfl, fun a w' hS hold hin K hK => ?_⟩
      refine if_always rfl ?_
      exact op_ld_own 32 tKey (.tmp 4) rfl rfl _ (eval_tmp ((hold 4 (slots_not (by kernel_rfl))).trans h4)) hS.1 1 rfl hK
    · obtain rfl := Option.some.inj ho
      refine ⟨rfl, fun a w' hS hold hin K hK => ?_⟩
      refine if_always rfl ?_
      exact op_ld_own 32 tKey (.tmp 3) rfl rfl _ (eval_tmp ((hold 3 (slots_not (by kernel_rfl))).trans h3)) hS.1 0 rfl hK
    · obtain rfl := Option.some.inj ho
      refine ⟨rfl, fun a w' hS hold hin K hK => ?_⟩
      refine if_always rfl ?_
      exact op_ld_own 32 tKey (.tmp 5) rfl rfl _ (eval_tmp ((hold 5 (slots_not (by kernel_rfl))).trans h5)) hS.1 2 rfl hK
    · obtain rfl := Option.some.inj ho
      refine ⟨rfl, fun a w' hS hold hin K hK => ?_⟩
      obtain ⟨y6, x6, rfl⟩ := hin 6 rfl (by omega)
      obtain ⟨y7, x7, rfl⟩ := hin 7 rfl (by omega)
      refine if_always rfl ?_
      exact op_fn2 _ _ _ _ _ _ rfl rfl (eval_tmp x6) (eval_tmp x7) (by intro args w; kernel_rfl) (ladmul_ev La Lu va xu ra _ HLLa.out hbLa HLLu.out hbLu Hhva.out Hhxu.out Hhra.out) hK
    · obtain rfl := Option.some.inj ho
      refine ⟨rfl, fun a w' hS hold hin K hK => ?_⟩
      obtain ⟨y5, x5, rfl⟩ := hin 5 rfl (by omega)
      obtain ⟨y8, x8, rfl⟩ := hin 8 rfl (by omega)
      refine if_always rfl ?_
      exact op_fn2 _ _ _ _ _ _ rfl rfl (eval_tmp x5) (eval_tmp x8) (by intro args w; kernel_rfl) (ladmul_ev Lb (bytesN ra.val) vb ra rr _ HLLb.out hbLb (bytesN_len _) (bytesN_byt _) Hhvb.out (numF_own ra) Hhrs.out) hK
    · obtain rfl := Option.some.inj ho
      refine ⟨rfl, fun a w' hS hold hin K hK => ?_⟩
      obtain ⟨y4, x4, rfl⟩ := hin 4 rfl (by omega)
      obtain ⟨y9, x9, rfl⟩ := hin 9 rfl (by omega)
      refine if_always rfl ?_
      exact op_bin (V := (· = .bool false)) _ _ _ _ _ _ _ (.bool false) rfl rfl (eval_tmp x4) (eval_tmp x9) (fun w => neq_key_same (bytesN rr.val) (bytesN_len _) w) rfl hK
  clear hS
  intro t1 V1 hs hold hout hS
  replace HS := hs.trans HS
  replace hS := hS.1
  obtain ⟨_, q21, rfl⟩ : ∃ x, t1[21]? = some x ∧ x = (.bool false : Value) := hout 10 (by omega)
  replace h3 := (hold 3 (slots_not (by kernel_rfl))).trans h3
  replace h4 := (hold 4 (slots_not (by kernel_rfl))).trans h4
  replace h5 := (hold 5 (slots_not (by kernel_rfl))).trans h5
  clear hold hout hs
  obtain ⟨f, e0, hf⟩ := wash HS
  have f3 := hf 3 _ h3
  have f4 := hf 4 _ h4
  have f5 := hf 5 _ h5
  have f21 := hf 21 _ q21
  clear hf
  rw [e0.trans (show _ = #[f 0, f 1, f 2, f 3, f 4, f 5, f 6, f 7, f 8, f 9, f 10, f 11, f 12, f 13, f 14, f 15, f 16, f 17, f 18, f 19, f 20, f 21, f 22, f 23, f 24, f 25, f 26, f 27, f 28, f 29, f 30, f 31, f 32, f 33, f 34, f 35, f 36, f 37, f 38, f 39, f 40, f 41, f 42, f 43, f 44, f 45, f 46, f 47, f 48, f 49, f 50, f 51, f 52, f 53, f 54] from by kernel_rfl), f3, f4, f5, f21]
  clear f3 f4 f5 f21
  clear e0
  dsimp only
  clear h3 h4 h5 q21 hM HS t1 t0 M
  go_wp2_with fail
  obtain ⟨M, hM⟩ : ∃ M, M = V1.heap.size := ⟨_, rfl⟩
  have hMB : w.heap.size ≤ M := hM ▸ hS.1.size
  have ltM := hS.lt
  rw [← hM] at ltM
  refine hide_frame fun t0 HT => ?_
  have HS : t0.size = 55 := by rw [HT]; rfl
  have h3 : t0[3]? = some (.pointer (some ⟨w.heap.size, 0, none⟩)) := by rw [HT]; rfl
  have h4 : t0[4]? = some (.pointer (some ⟨(w.heap.size + 1), 0, none⟩)) := by rw [HT]; rfl
  have h5 : t0[5]? = some (.pointer (some ⟨(w.heap.size + 1 + 1), 0, none⟩)) := by rw [HT]; rfl
  have h21 : t0[21]? = some (.bool false) := by rw [HT]; rfl
  clear HT
  refine wp_region_st1 8 7 5 (fun i => [23, 24, 25, 26, 22, 27, 28, 7].getD i 0) (fun i => [none, none, none, none, none, none, none, some 32].getD i none) (fun i => [(· = .agg (vals La)), (· = .agg (vals Lb)), (· = .agg (vals (bytesN pb'.val))), (· = .tuple #[.agg (vals (bytesN rn.val)), .int .u64 18446744073709551615]), (· = .tuple #[.agg (vals (bytesN rn.val)), .int .u64 18446744073709551615]), (· = .agg (vals (bytesN rn.val))), (· = .int .u64 18446744073709551615), (fun _ => True)].getD i (fun _ => True)) (fun w' => Own w [(w.heap.size, 32, (· = .agg (vals La))), ((w.heap.size + 1), 32, (· = .agg (vals Lb))), ((w.heap.size + 1 + 1), 32, (· = .agg (vals Lu)))] w' ∧ M ≤ w'.heap.size) M 32 68
    (by kernel_rfl) (by kernel_rfl) (slots_apart (by kernel_rfl)) (slots_lie (by rw [HS]; kernel_rfl)) ⟨hS.drew, Nat.le_of_eq hM⟩ (fun w' h => h.2) (fun w1 w2 h b => ⟨h.1.keep b, Nat.le_trans h.2 b.size⟩) (fun w1 g cs h hg => ⟨h.1.far (fun r hr => Nat.ne_of_lt (Nat.lt_of_lt_of_le (ltM r hr) hg)) (Nat.le_trans hMB hg) cs, Own.far_size g cs h.2⟩) (by omega) (by omega) rfl rfl tKey (by_row (bytesN_len _)) (fun o ho => by obtain rfl := Option.some.inj ho; exact ⟨rfl, rfl, rfl, rfl, rfl⟩) ?_ ?_ ?_
  · clear hS
    intro i o hi ho hA
    have hc : i = 0 ∨ i = 1 ∨ i = 2 ∨ i = 3 ∨ i = 4 ∨ i = 5 ∨ i = 6 ∨ i = 7 := by omega
    rcases hc with rfl | rfl | rfl | rfl | rfl | rfl | rfl | rfl
    · obtain rfl := Option.some.inj ho
      refine ⟨rfl, fun a w' hS hold hin K hK => ?_⟩
      refine if_always rfl ?_
      exact op_ld_own 32 tKey (.tmp 3) rfl rfl _ (eval_tmp ((hold 3 (slots_not (by kernel_rfl))).trans h3)) hS.1 0 rfl hK
    · obtain rfl := Option.some.inj ho
      refine ⟨rfl, fun a w' hS hold hin K hK => ?_⟩
      refine if_always rfl ?_
      exact op_ld_own 32 tKey (.tmp 4) rfl rfl _ (eval_tmp ((hold 4 (slots_not (by kernel_rfl))).trans h4)) hS.1 1 rfl hK
    · obtain rfl := Option.some.inj ho
      refine ⟨rfl, fun a w' hS hold hin K hK => ?_⟩
      obtain ⟨y1, x1, rfl⟩ := hin 1 rfl (by omega) rfl
      refine if_always rfl ?_
      exact op_fn1 _ _ _ _ rfl rfl (eval_tmp x1) (by intro args w; kernel_rfl) (base_any Lb vb pb' _ HLLb.out hbLb Hhvb.out Hhpb.out) hK
    · obtain rfl := Option.some.inj ho
      refine ⟨rfl, fun a w' hS hold hin K hK => ?_⟩
      obtain ⟨y0, x0, rfl⟩ := hin 0 rfl (by omega) rfl
      obtain ⟨y2, x2, rfl⟩ := hin 2 rfl (by omega) rfl
      refine if_always rfl ?_
      exact op_fn2 _ _ _ _ _ _ rfl rfl (eval_tmp x0) (eval_tmp x2) (by intro args w; kernel_rfl) (agree_yes Hhn0.out (agree_any La (bytesN pb'.val) va pb' rn _ HLLa.out hbLa (bytesN_len _) (bytesN_byt _) Hhva.out (numF_own pb') Hhrn.out)) hK
    · obtain rfl := Option.some.inj ho
      refine ⟨rfl, fun a w' hS hold hin K hK => ?_⟩
      obtain ⟨y3, x3, rfl⟩ := hin 3 rfl (by omega) rfl
      refine if_always rfl ?_
      exact op_move (V := (· = .tuple #[.agg (vals (bytesN rn.val)), .int .u64 18446744073709551615])) _ _ rfl rfl (eval_tmp x3) rfl hK
    · obtain rfl := Option.some.inj ho
      refine ⟨rfl, fun a w' hS hold hin K hK => ?_⟩
      obtain ⟨y4, x4, rfl⟩ := hin 4 rfl (by omega) rfl
      refine if_always rfl ?_
      exact op_tup0 (V := (· = .agg (vals (bytesN rn.val)))) _ rfl rfl (eval_tmp x4) rfl hK
    · obtain rfl := Option.some.inj ho
      refine ⟨rfl, fun a w' hS hold hin K hK => ?_⟩
      obtain ⟨y4, x4, rfl⟩ := hin 4 rfl (by omega) rfl
      refine if_always rfl ?_
      exact op_tup1 (V := (· = .int .u64 18446744073709551615)) _ rfl rfl (eval_tmp x4) rfl hK
    · cases hA
  · intro i o sz hi ho hA
    have hc : i = 0 ∨ i = 1 ∨ i = 2 ∨ i = 3 ∨ i = 4 ∨ i = 5 ∨ i = 6 ∨ i = 7 := by omega
    rcases hc with rfl | rfl | rfl | rfl | rfl | rfl | rfl | rfl
    · cases hA
    · cases hA
    · cases hA
    · cases hA
    · cases hA
    · cases hA
    · cases hA
    · obtain rfl := Option.some.inj ho
      obtain rfl := Option.some.inj hA
      exact ⟨rfl, rfl, 68, #[.int .u8 0, .int .u8 0, .int .u8 0, .int .u8 0, .int .u8 0, .int .u8 0, .int .u8 0, .int .u8 0, .int .u8 0, .int .u8 0, .int .u8 0, .int .u8 0, .int .u8 0, .int .u8 0, .int .u8 0, .int .u8 0, .int .u8 0, .int .u8 0, .int .u8 0, .int .u8 0, .int .u8 0, .int .u8 0, .int .u8 0, .int .u8 0, .int .u8 0, .int .u8 0, .int .u8 0, .int .u8 0, .int .u8 0, .int .u8 0, .int .u8 0, .int .u8 0], rfl, fun a w' K h => wp_new 68 #[.int .u8 0, .int .u8 0, .int .u8 0, .int .u8 0, .int .u8 0, .int .u8 0, .int .u8 0, .int .u8 0, .int .u8 0, .int .u8 0, .int .u8 0, .int .u8 0, .int .u8 0, .int .u8 0, .int .u8 0, .int .u8 0, .int .u8 0, .int .u8 0, .int .u8 0, .int .u8 0, .int .u8 0, .int .u8 0, .int .u8 0, .int .u8 0, .int .u8 0, .int .u8 0, .int .u8 0, .int .u8 0, .int .u8 0, .int .u8 0, .int .u8 0, .int .u8 0] (fun w => by kernel_rfl) h⟩
  clear hS
  intro t1 V2 hs hold hout hall hne hst1 hS
  replace HS := hs.trans HS
  replace hS := hS.1
  obtain ⟨g7, ty1, cs1, h7, q1x, rr1⟩ : ∃ g t' cs, t1[7]? = some (.pointer (some ⟨g, 0, none⟩)) ∧ t1[27]? = some (.agg cs) ∧ V2.heap[g]? = some (.cells cs t' (0, 0)) := hst1
  have b7 : M ≤ g7 := by
    obtain ⟨g', p1, p2, _⟩ := hall 7 (by omega) 32 rfl
    have p1' : t1[7]? = some (.pointer (some ⟨g', 0, none⟩)) := p1
    rw [ptr_inj (h7.symm.trans p1')]; exact p2
  obtain ⟨x1s, y1s, y2s⟩ : ∃ x, t1[27]? = some x ∧ ((· = .agg (vals (bytesN rn.val))) : Value → Prop) x := hout 5 (by omega) rfl
  have ss1 := stored_of (V := (· = .agg (vals (bytesN rn.val)))) y2s (y1s.symm.trans q1x) (by_row (bytesN_len _))
  have r7 : ∃ cs ty, V2.heap[g7]? = some (.cells cs ty (0, 0)) ∧ cs.size = 32 ∧ ((· = .agg (vals (bytesN rn.val))) : Value → Prop) (.agg cs) := ⟨cs1, ty1, rr1, ss1.1, ss1.2⟩
  clear hst1 y1s y2s q1x rr1 ss1
  replace hS : Own w [(w.heap.size, 32, (· = .agg (vals La))), ((w.heap.size + 1), 32, (· = .agg (vals Lb))), ((w.heap.size + 1 + 1), 32, (· = .agg (vals Lu))), (g7, 32, (· = .agg (vals (bytesN rn.val))))] V2 := hS.add (Nat.le_trans hMB b7) (fun r hr => Nat.ne_of_lt (Nat.lt_of_lt_of_le (ltM r hr) b7)) r7
  obtain ⟨x28, q28, v28⟩ : ∃ x, t1[28]? = some x ∧ ((· = .int .u64 18446744073709551615)) x := hout 6 (by omega) rfl
  replace q28 : t1[28]? = some (.int .u64 18446744073709551615) := q28.trans (congrArg some v28)
  replace h3 := (hold 3 (slots_not (by kernel_rfl))).trans h3
  replace h4 := (hold 4 (slots_not (by kernel_rfl))).trans h4
  replace h5 := (hold 5 (slots_not (by kernel_rfl))).trans h5
  replace h21 := (hold 21 (slots_not (by kernel_rfl))).trans h21
  clear hold hout hs hall hne
  simp only [List.drop_succ_cons, List.drop_zero]
  refine tl_assign rfl (.tmp 28) rfl 8 rfl (by rw [HS]; decide) _ (eval_tmp q28) fun t1 hz hq he => ?_
  replace h3 := (he 3 (by decide)).trans h3
  replace h4 := (he 4 (by decide)).trans h4
  replace h5 := (he 5 (by decide)).trans h5
  replace h21 := (he 21 (by decide)).trans h21
  replace h7 := (he 7 (by decide)).trans h7
  replace HS := hz.trans HS
  clear hz he q28 v28
  have h8 := hq
  clear hq
  refine wpList_nil ?_
  obtain ⟨f, e0, hf⟩ := wash HS
  have f3 := hf 3 _ h3
  have f4 := hf 4 _ h4
  have f5 := hf 5 _ h5
  have f21 := hf 21 _ h21
  have f7 := hf 7 _ h7
  have f8 := hf 8 _ h8
  clear hf
  rw [e0.trans (show _ = #[f 0, f 1, f 2, f 3, f 4, f 5, f 6, f 7, f 8, f 9, f 10, f 11, f 12, f 13, f 14, f 15, f 16, f 17, f 18, f 19, f 20, f 21, f 22, f 23, f 24, f 25, f 26, f 27, f 28, f 29, f 30, f 31, f 32, f 33, f 34, f 35, f 36, f 37, f 38, f 39, f 40, f 41, f 42, f 43, f 44, f 45, f 46, f 47, f 48, f 49, f 50, f 51, f 52, f 53, f 54] from by kernel_rfl), f3, f4, f5, f21, f7, f8]
  clear f3 f4 f5 f21 f7 f8
  clear e0
  dsimp only
  clear h3 h4 h5 h21 h7 h8 b7 r7 ltM hMB hM HS t1 t0 M
  go_wp2_with fail
  obtain ⟨M, hM⟩ : ∃ M, M = V2.heap.size := ⟨_, rfl⟩
  have hMB : w.heap.size ≤ M := hM ▸ hS.1.size
  have ltM := hS.lt
  rw [← hM] at ltM
  refine hide_frame fun t0 HT => ?_
  have HS : t0.size = 55 := by rw [HT]; rfl
  have h3 : t0[3]? = some (.pointer (some ⟨w.heap.size, 0, none⟩)) := by rw [HT]; rfl
  have h4 : t0[4]? = some (.pointer (some ⟨(w.heap.size + 1), 0, none⟩)) := by rw [HT]; rfl
  have h5 : t0[5]? = some (.pointer (some ⟨(w.heap.size + 1 + 1), 0, none⟩)) := by rw [HT]; rfl
  have h21 : t0[21]? = some (.bool false) := by rw [HT]; rfl
  have h7 : t0[7]? = some (.pointer (some ⟨g7, 0, none⟩)) := by rw [HT]; rfl
  have h8 : t0[8]? = some (.int .u64 18446744073709551615) := by rw [HT]; rfl
  clear HT
  refine wp_region_st1 8 7 5 (fun i => [30, 31, 32, 33, 29, 34, 35, 9].getD i 0) (fun i => [none, none, none, none, none, none, none, some 32].getD i none) (fun i => [(· = .agg (vals Lb)), (· = .agg (vals La)), (· = .agg (vals (bytesN pa.val))), (· = .tuple #[.agg (vals (bytesN rn.val)), .int .u64 18446744073709551615]), (· = .tuple #[.agg (vals (bytesN rn.val)), .int .u64 18446744073709551615]), (· = .agg (vals (bytesN rn.val))), (· = .int .u64 18446744073709551615), (fun _ => True)].getD i (fun _ => True)) (fun w' => Own w [(w.heap.size, 32, (· = .agg (vals La))), ((w.heap.size + 1), 32, (· = .agg (vals Lb))), ((w.heap.size + 1 + 1), 32, (· = .agg (vals Lu))), (g7, 32, (· = .agg (vals (bytesN rn.val))))] w' ∧ M ≤ w'.heap.size) M 32 68
    (by kernel_rfl) (by kernel_rfl) (slots_apart (by kernel_rfl)) (slots_lie (by rw [HS]; kernel_rfl)) ⟨hS.drew, Nat.le_of_eq hM⟩ (fun w' h => h.2) (fun w1 w2 h b => ⟨h.1.keep b, Nat.le_trans h.2 b.size⟩) (fun w1 g cs h hg => ⟨h.1.far (fun r hr => Nat.ne_of_lt (Nat.lt_of_lt_of_le (ltM r hr) hg)) (Nat.le_trans hMB hg) cs, Own.far_size g cs h.2⟩) (by omega) (by omega) rfl rfl tKey (by_row (bytesN_len _)) (fun o ho => by obtain rfl := Option.some.inj ho; exact ⟨rfl, rfl, rfl, rfl, rfl⟩) ?_ ?_ ?_
  · clear hS
    intro i o hi ho hA
    have hc : i = 0 ∨ i = 1 ∨ i = 2 ∨ i = 3 ∨ i = 4 ∨ i = 5 ∨ i = 6 ∨ i = 7 := by omega
    rcases hc with rfl | rfl | rfl | rfl | rfl | rfl | rfl | rfl
    · obtain rfl := Option.some.inj ho
      refine ⟨rfl, fun a w' hS hold hin K hK => ?_⟩
      refine if_always rfl ?_
      exact op_ld_own 32 tKey (.tmp 4) rfl rfl _ (eval_tmp ((hold 4 (slots_not (by kernel_rfl))).trans h4)) hS.1 1 rfl hK
    · obtain rfl := Option.some.inj ho
      refine ⟨rfl, fun a w' hS hold hin K hK => ?_⟩
      refine if_always rfl ?_
      exact op_ld_own 32 tKey (.tmp 3) rfl rfl _ (eval_tmp ((hold 3 (slots_not (by kernel_rfl))).trans h3)) hS.1 0 rfl hK
    · obtain rfl := Option.some.inj ho
      refine ⟨rfl, fun a w' hS hold hin K hK => ?_⟩
      obtain ⟨y1, x1, rfl⟩ := hin 1 rfl (by omega) rfl
      refine if_always rfl ?_
      exact op_fn1 _ _ _ _ rfl rfl (eval_tmp x1) (by intro args w; kernel_rfl) (base_any La va pa _ HLLa.out hbLa Hhva.out Hhpa.out) hK
    · obtain rfl := Option.some.inj ho
      refine ⟨rfl, fun a w' hS hold hin K hK => ?_⟩
      obtain ⟨y0, x0, rfl⟩ := hin 0 rfl (by omega) rfl
      obtain ⟨y2, x2, rfl⟩ := hin 2 rfl (by omega) rfl
      refine if_always rfl ?_
      exact op_fn2 _ _ _ _ _ _ rfl rfl (eval_tmp x0) (eval_tmp x2) (by intro args w; kernel_rfl) (agree_yes Hhn0.out (agree_any Lb (bytesN pa.val) vb pa rn _ HLLb.out hbLb (bytesN_len _) (bytesN_byt _) Hhvb.out (numF_own pa) Hhrm.out)) hK
    · obtain rfl := Option.some.inj ho
      refine ⟨rfl, fun a w' hS hold hin K hK => ?_⟩
      obtain ⟨y3, x3, rfl⟩ := hin 3 rfl (by omega) rfl
      refine if_always rfl ?_
      exact op_move (V := (· = .tuple #[.agg (vals (bytesN rn.val)), .int .u64 18446744073709551615])) _ _ rfl rfl (eval_tmp x3) rfl hK
    · obtain rfl := Option.some.inj ho
      refine ⟨rfl, fun a w' hS hold hin K hK => ?_⟩
      obtain ⟨y4, x4, rfl⟩ := hin 4 rfl (by omega) rfl
      refine if_always rfl ?_
      exact op_tup0 (V := (· = .agg (vals (bytesN rn.val)))) _ rfl rfl (eval_tmp x4) rfl hK
    · obtain rfl := Option.some.inj ho
      refine ⟨rfl, fun a w' hS hold hin K hK => ?_⟩
      obtain ⟨y4, x4, rfl⟩ := hin 4 rfl (by omega) rfl
      refine if_always rfl ?_
      exact op_tup1 (V := (· = .int .u64 18446744073709551615)) _ rfl rfl (eval_tmp x4) rfl hK
    · cases hA
  · intro i o sz hi ho hA
    have hc : i = 0 ∨ i = 1 ∨ i = 2 ∨ i = 3 ∨ i = 4 ∨ i = 5 ∨ i = 6 ∨ i = 7 := by omega
    rcases hc with rfl | rfl | rfl | rfl | rfl | rfl | rfl | rfl
    · cases hA
    · cases hA
    · cases hA
    · cases hA
    · cases hA
    · cases hA
    · cases hA
    · obtain rfl := Option.some.inj ho
      obtain rfl := Option.some.inj hA
      exact ⟨rfl, rfl, 68, #[.int .u8 0, .int .u8 0, .int .u8 0, .int .u8 0, .int .u8 0, .int .u8 0, .int .u8 0, .int .u8 0, .int .u8 0, .int .u8 0, .int .u8 0, .int .u8 0, .int .u8 0, .int .u8 0, .int .u8 0, .int .u8 0, .int .u8 0, .int .u8 0, .int .u8 0, .int .u8 0, .int .u8 0, .int .u8 0, .int .u8 0, .int .u8 0, .int .u8 0, .int .u8 0, .int .u8 0, .int .u8 0, .int .u8 0, .int .u8 0, .int .u8 0, .int .u8 0], rfl, fun a w' K h => wp_new 68 #[.int .u8 0, .int .u8 0, .int .u8 0, .int .u8 0, .int .u8 0, .int .u8 0, .int .u8 0, .int .u8 0, .int .u8 0, .int .u8 0, .int .u8 0, .int .u8 0, .int .u8 0, .int .u8 0, .int .u8 0, .int .u8 0, .int .u8 0, .int .u8 0, .int .u8 0, .int .u8 0, .int .u8 0, .int .u8 0, .int .u8 0, .int .u8 0, .int .u8 0, .int .u8 0, .int .u8 0, .int .u8 0, .int .u8 0, .int .u8 0, .int .u8 0, .int .u8 0] (fun w => by kernel_rfl) h⟩
  clear hS
  intro t1 V3 hs hold hout hall hne hst1 hS
  replace HS := hs.trans HS
  replace hS := hS.1
  obtain ⟨g9, ty1, cs1, h9, q1x, rr1⟩ : ∃ g t' cs, t1[9]? = some (.pointer (some ⟨g, 0, none⟩)) ∧ t1[34]? = some (.agg cs) ∧ V3.heap[g]? = some (.cells cs t' (0, 0)) := hst1
  have b9 : M ≤ g9 := by
    obtain ⟨g', p1, p2, _⟩ := hall 7 (by omega) 32 rfl
    have p1' : t1[9]? = some (.pointer (some ⟨g', 0, none⟩)) := p1
    rw [ptr_inj (h9.symm.trans p1')]; exact p2
  obtain ⟨x1s, y1s, y2s⟩ : ∃ x, t1[34]? = some x ∧ ((· = .agg (vals (bytesN rn.val))) : Value → Prop) x := hout 5 (by omega) rfl
  have ss1 := stored_of (V := (· = .agg (vals (bytesN rn.val)))) y2s (y1s.symm.trans q1x) (by_row (bytesN_len _))
  have r9 : ∃ cs ty, V3.heap[g9]? = some (.cells cs ty (0, 0)) ∧ cs.size = 32 ∧ ((· = .agg (vals (bytesN rn.val))) : Value → Prop) (.agg cs) := ⟨cs1, ty1, rr1, ss1.1, ss1.2⟩
  clear hst1 y1s y2s q1x rr1 ss1
  replace hS : Own w [(w.heap.size, 32, (· = .agg (vals La))), ((w.heap.size + 1), 32, (· = .agg (vals Lb))), ((w.heap.size + 1 + 1), 32, (· = .agg (vals Lu))), (g7, 32, (· = .agg (vals (bytesN rn.val)))), (g9, 32, (· = .agg (vals (bytesN rn.val))))] V3 := hS.add (Nat.le_trans hMB b9) (fun r hr => Nat.ne_of_lt (Nat.lt_of_lt_of_le (ltM r hr) b9)) r9
  obtain ⟨x35, q35, v35⟩ : ∃ x, t1[35]? = some x ∧ ((· = .int .u64 18446744073709551615)) x := hout 6 (by omega) rfl
  replace q35 : t1[35]? = some (.int .u64 18446744073709551615) := q35.trans (congrArg some v35)
  replace h3 := (hold 3 (slots_not (by kernel_rfl))).trans h3
  replace h4 := (hold 4 (slots_not (by kernel_rfl))).trans h4
  replace h5 := (hold 5 (slots_not (by kernel_rfl))).trans h5
  replace h21 := (hold 21 (slots_not (by kernel_rfl))).trans h21
  replace h7 := (hold 7 (slots_not (by kernel_rfl))).trans h7
  replace h8 := (hold 8 (slots_not (by kernel_rfl))).trans h8
  clear hold hout hs hall hne
  simp only [List.drop_succ_cons, List.drop_zero]
  refine tl_assign rfl (.tmp 35) rfl 10 rfl (by rw [HS]; decide) _ (eval_tmp q35) fun t1 hz hq he => ?_
  replace h3 := (he 3 (by decide)).trans h3
  replace h4 := (he 4 (by decide)).trans h4
  replace h5 := (he 5 (by decide)).trans h5
  replace h21 := (he 21 (by decide)).trans h21
  replace h7 := (he 7 (by decide)).trans h7
  replace h8 := (he 8 (by decide)).trans h8
  replace h9 := (he 9 (by decide)).trans h9
  replace HS := hz.trans HS
  clear hz he q35 v35
  have h10 := hq
  clear hq
  refine wpList_nil ?_
  obtain ⟨f, e0, hf⟩ := wash HS
  have f3 := hf 3 _ h3
  have f4 := hf 4 _ h4
  have f5 := hf 5 _ h5
  have f21 := hf 21 _ h21
  have f7 := hf 7 _ h7
  have f8 := hf 8 _ h8
  have f9 := hf 9 _ h9
  have f10 := hf 10 _ h10
  clear hf
  rw [e0.trans (show _ = #[f 0, f 1, f 2, f 3, f 4, f 5, f 6, f 7, f 8, f 9, f 10, f 11, f 12, f 13, f 14, f 15, f 16, f 17, f 18, f 19, f 20, f 21, f 22, f 23, f 24, f 25, f 26, f 27, f 28, f 29, f 30, f 31, f 32, f 33, f 34, f 35, f 36, f 37, f 38, f 39, f 40, f 41, f 42, f 43, f 44, f 45, f 46, f 47, f 48, f 49, f 50, f 51, f 52, f 53, f 54] from by kernel_rfl), f3, f4, f5, f21, f7, f8, f9, f10]
  clear f3 f4 f5 f21 f7 f8 f9 f10
  clear e0
  dsimp only
  clear h3 h4 h5 h21 h7 h8 h9 h10 b9 r9 ltM hMB hM HS t1 t0 M
  go_wp2_with ((with_reducible refine guard_list ?_); first | (refine held_load 26 _ rfl ?_) | (refine held_load 22 _ rfl ?_) | (refine held_load 68 _ rfl ?_))
  obtain ⟨M, hM⟩ : ∃ M, M = V3.heap.size := ⟨_, rfl⟩
  refine hide_held fun t0 HT => ?_
  have HS : t0.size = 55 := by rw [HT]; rfl
  have h3 : t0[3]? = some (.pointer (some ⟨w.heap.size, 0, none⟩)) := by rw [HT]; rfl
  have h4 : t0[4]? = some (.pointer (some ⟨(w.heap.size + 1), 0, none⟩)) := by rw [HT]; rfl
  have h5 : t0[5]? = some (.pointer (some ⟨(w.heap.size + 1 + 1), 0, none⟩)) := by rw [HT]; rfl
  have h21 : t0[21]? = some (.bool false) := by rw [HT]; rfl
  have h7 : t0[7]? = some (.pointer (some ⟨g7, 0, none⟩)) := by rw [HT]; rfl
  have h8 : t0[8]? = some (.int .u64 18446744073709551615) := by rw [HT]; rfl
  have h9 : t0[9]? = some (.pointer (some ⟨g9, 0, none⟩)) := by rw [HT]; rfl
  have h10 : t0[10]? = some (.int .u64 18446744073709551615) := by rw [HT]; rfl
  clear HT
  refine wp_list_all 19 (fun i => [36, 37, 38, 39, 40, 41, 42, 43, 44, 45, 46, 47, 48, 49, 50, 51, 52, 53, 54, 6].getD i 0) (fun i => [(· = .agg (vals (bytesN rn.val))), (· = .agg (vals (bytesN rn.val))), (· = .bool true), (· = .bool true), (· = .int .u64 18446744073709551615), (· = .bool true), (· = .bool true), (· = .bool true), (· = .int .u64 18446744073709551615), (· = .bool true), (· = .bool true), (· = .bool true), (· = .agg (vals (bytesN rn.val))), (· = .agg (vals zeroL)), (· = .bool true), (· = .bool true), (· = .bool true), (· = .bool true), (· = .bool true), (· = .bool true)].getD i (fun _ => True)) (fun w' => Own w [(w.heap.size, 32, (· = .agg (vals La))), ((w.heap.size + 1), 32, (· = .agg (vals Lb))), ((w.heap.size + 1 + 1), 32, (· = .agg (vals Lu))), (g7, 32, (· = .agg (vals (bytesN rn.val)))), (g9, 32, (· = .agg (vals (bytesN rn.val))))] w' ∧ M ≤ w'.heap.size)
    (by kernel_rfl) (by kernel_rfl) (slots_apart (by kernel_rfl)) (slots_lie (by rw [HS]; kernel_rfl)) ⟨hS, Nat.le_of_eq hM⟩ (fun w1 w2 h b => ⟨h.1.keep b, Nat.le_trans h.2 b.size⟩) ?_ ?_
  · clear hS
    intro i o hi ho
    have hc : i = 0 ∨ i = 1 ∨ i = 2 ∨ i = 3 ∨ i = 4 ∨ i = 5 ∨ i = 6 ∨ i = 7 ∨ i = 8 ∨ i = 9 ∨ i = 10 ∨ i = 11 ∨ i = 12 ∨ i = 13 ∨ i = 14 ∨ i = 15 ∨ i = 16 ∨ i = 17 ∨ i = 18 ∨ i = 19 := by omega
    rcases hc with rfl | rfl | rfl | rfl | rfl | rfl | rfl | rfl | rfl | rfl | rfl | rfl | rfl | rfl | rfl | rfl | rfl | rfl | rfl | rfl
    · obtain rfl := Option.some.inj ho
      refine ⟨rfl, fun a w' hS hold hin K hK => ?_⟩
      refine if_always rfl ?_
      exact op_ld_own 32 tKey (.tmp 7) rfl rfl _ (eval_tmp ((hold 7 (slots_not (by kernel_rfl))).trans h7)) hS.1 3 rfl hK
    · obtain rfl := Option.some.inj ho
      refine ⟨rfl, fun a w' hS hold hin K hK => ?_⟩
      refine if_always rfl ?_
      exact op_ld_own 32 tKey (.tmp 9) rfl rfl _ (eval_tmp ((hold 9 (slots_not (by kernel_rfl))).trans h9)) hS.1 4 rfl hK
    · obtain rfl := Option.some.inj ho
      refine ⟨rfl, fun a w' hS hold hin K hK => ?_⟩
      obtain ⟨y0, x0, rfl⟩ := hin 0 rfl (by omega)
      obtain ⟨y1, x1, rfl⟩ := hin 1 rfl (by omega)
      refine if_always rfl ?_
      exact op_bin (V := (· = .bool true)) _ _ _ _ _ _ _ (.bool true) rfl rfl (eval_tmp x0) (eval_tmp x1) (fun w => eql_key_same (bytesN rn.val) (bytesN_len _) w) rfl hK
    · obtain rfl := Option.some.inj ho
      refine ⟨rfl, fun a w' hS hold hin K hK => ?_⟩
      obtain ⟨y2, x2, rfl⟩ := hin 2 rfl (by omega)
      refine if_always rfl ?_
      exact op_move (V := (· = .bool true)) _ _ rfl rfl (eval_tmp x2) rfl hK
    · obtain rfl := Option.some.inj ho
      refine ⟨rfl, fun a w' hS hold hin K hK => ?_⟩
      obtain ⟨y3, x3, rfl⟩ := hin 3 rfl (by omega)
      refine if_guard (d := 39) rfl rfl x3 ?_
      exact op_move (V := (· = .int .u64 18446744073709551615)) _ _ rfl rfl (eval_tmp ((hold 8 (slots_not (by kernel_rfl))).trans h8)) rfl hK
    · obtain rfl := Option.some.inj ho
      refine ⟨rfl, fun a w' hS hold hin K hK => ?_⟩
      obtain ⟨y3, x3, rfl⟩ := hin 3 rfl (by omega)
      obtain ⟨y4, x4, rfl⟩ := hin 4 rfl (by omega)
      refine if_guard (d := 39) rfl rfl x3 ?_
      exact op_bin (V := (· = .bool true)) _ _ _ _ _ _ _ (.bool true) rfl rfl (eval_tmp x4) rfl (fun w => by kernel_rfl) rfl hK
    · obtain rfl := Option.some.inj ho
      refine ⟨rfl, fun a w' hS hold hin K hK => ?_⟩
      obtain ⟨y3, x3, rfl⟩ := hin 3 rfl (by omega)
      obtain ⟨y5, x5, rfl⟩ := hin 5 rfl (by omega)
      refine if_always rfl ?_
      exact op_pick (V := (· = .bool true)) _ _ _ true _ rfl rfl (eval_tmp x3) (show (Act.eval a _) = _ from (eval_tmp x5)) rfl hK
    · obtain rfl := Option.some.inj ho
      refine ⟨rfl, fun a w' hS hold hin K hK => ?_⟩
      obtain ⟨y6, x6, rfl⟩ := hin 6 rfl (by omega)
      refine if_always rfl ?_
      exact op_move (V := (· = .bool true)) _ _ rfl rfl (eval_tmp x6) rfl hK
    · obtain rfl := Option.some.inj ho
      refine ⟨rfl, fun a w' hS hold hin K hK => ?_⟩
      obtain ⟨y7, x7, rfl⟩ := hin 7 rfl (by omega)
      refine if_guard (d := 43) rfl rfl x7 ?_
      exact op_move (V := (· = .int .u64 18446744073709551615)) _ _ rfl rfl (eval_tmp ((hold 10 (slots_not (by kernel_rfl))).trans h10)) rfl hK
    · obtain rfl := Option.some.inj ho
      refine ⟨rfl, fun a w' hS hold hin K hK => ?_⟩
      obtain ⟨y7, x7, rfl⟩ := hin 7 rfl (by omega)
      obtain ⟨y8, x8, rfl⟩ := hin 8 rfl (by omega)
      refine if_guard (d := 43) rfl rfl x7 ?_
      exact op_bin (V := (· = .bool true)) _ _ _ _ _ _ _ (.bool true) rfl rfl (eval_tmp x8) rfl (fun w => by kernel_rfl) rfl hK
    · obtain rfl := Option.some.inj ho
      refine ⟨rfl, fun a w' hS hold hin K hK => ?_⟩
      obtain ⟨y7, x7, rfl⟩ := hin 7 rfl (by omega)
      obtain ⟨y9, x9, rfl⟩ := hin 9 rfl (by omega)
      refine if_always rfl ?_
      exact op_pick (V := (· = .bool true)) _ _ _ true _ rfl rfl (eval_tmp x7) (show (Act.eval a _) = _ from (eval_tmp x9)) rfl hK
    · obtain rfl := Option.some.inj ho
      refine ⟨rfl, fun a w' hS hold hin K hK => ?_⟩
      obtain ⟨y10, x10, rfl⟩ := hin 10 rfl (by omega)
      refine if_always rfl ?_
      exact op_move (V := (· = .bool true)) _ _ rfl rfl (eval_tmp x10) rfl hK
    · obtain rfl := Option.some.inj ho
      refine ⟨rfl, fun a w' hS hold hin K hK => ?_⟩
      obtain ⟨y11, x11, rfl⟩ := hin 11 rfl (by omega)
      refine if_guard (d := 47) rfl rfl x11 ?_
      exact op_ld_own 32 tKey (.tmp 7) rfl rfl _ (eval_tmp ((hold 7 (slots_not (by kernel_rfl))).trans h7)) hS.1 3 rfl hK
    · obtain rfl := Option.some.inj ho
      refine ⟨rfl, fun a w' hS hold hin K hK => ?_⟩
      obtain ⟨y11, x11, rfl⟩ := hin 11 rfl (by omega)
      refine if_guard (d := 47) rfl rfl x11 ?_
      exact op_val (V := (· = .agg (vals zeroL))) (.agg (vals zeroL)) rfl (by kernel_rfl) rfl hK
    · obtain rfl := Option.some.inj ho
      refine ⟨rfl, fun a w' hS hold hin K hK => ?_⟩
      obtain ⟨y11, x11, rfl⟩ := hin 11 rfl (by omega)
      obtain ⟨y12, x12, rfl⟩ := hin 12 rfl (by omega)
      obtain ⟨y13, x13, rfl⟩ := hin 13 rfl (by omega)
      refine if_guard (d := 47) rfl rfl x11 ?_
      exact op_bin (V := (· = .bool true)) _ _ _ _ _ _ _ (.bool true) rfl rfl (eval_tmp x12) (eval_tmp x13) (fun w => neq_key_diff (bytesN rn.val) zeroL (bytesN_len _) rfl w Hhnz.out) rfl hK
    · obtain rfl := Option.some.inj ho
      refine ⟨rfl, fun a w' hS hold hin K hK => ?_⟩
      obtain ⟨y11, x11, rfl⟩ := hin 11 rfl (by omega)
      obtain ⟨y14, x14, rfl⟩ := hin 14 rfl (by omega)
      refine if_always rfl ?_
      exact op_pick (V := (· = .bool true)) _ _ _ true _ rfl rfl (eval_tmp x11) (show (Act.eval a _) = _ from (eval_tmp x14)) rfl hK
    · obtain rfl := Option.some.inj ho
      refine ⟨rfl, fun a w' hS hold hin K hK => ?_⟩
      obtain ⟨y15, x15, rfl⟩ := hin 15 rfl (by omega)
      refine if_always rfl ?_
      exact op_move (V := (· = .bool true)) _ _ rfl rfl (eval_tmp x15) rfl hK
    · obtain rfl := Option.some.inj ho
      refine ⟨rfl, fun a w' hS hold hin K hK => ?_⟩
      obtain ⟨y16, x16, rfl⟩ := hin 16 rfl (by omega)
      refine if_guard (d := 52) rfl rfl x16 ?_
      exact op_fn0 _  _  rfl rfl  (by intro args w; kernel_rfl) (works_any _) hK
    · obtain rfl := Option.some.inj ho
      refine ⟨rfl, fun a w' hS hold hin K hK => ?_⟩
      obtain ⟨y16, x16, rfl⟩ := hin 16 rfl (by omega)
      obtain ⟨y17, x17, rfl⟩ := hin 17 rfl (by omega)
      refine if_always rfl ?_
      exact op_pick (V := (· = .bool true)) _ _ _ true _ rfl rfl (eval_tmp x16) (show (Act.eval a _) = _ from (eval_tmp x17)) rfl hK
    · obtain rfl := Option.some.inj ho
      refine ⟨rfl, fun a w' hS hold hin K hK => ?_⟩
      obtain ⟨y18, x18, rfl⟩ := hin 18 rfl (by omega)
      refine if_always rfl ?_
      exact op_assign (V := (· = .bool true)) _ _ rfl rfl (eval_tmp x18) rfl hK
  clear hS
  intro t1 V4 hs hold hout hS
  replace HS := hs.trans HS
  replace hS := hS.1
  obtain ⟨_, q6, rfl⟩ : ∃ x, t1[6]? = some x ∧ x = (.bool true : Value) := hout 19 (by omega)
  replace h3 := (hold 3 (slots_not (by kernel_rfl))).trans h3
  replace h4 := (hold 4 (slots_not (by kernel_rfl))).trans h4
  replace h5 := (hold 5 (slots_not (by kernel_rfl))).trans h5
  replace h21 := (hold 21 (slots_not (by kernel_rfl))).trans h21
  replace h7 := (hold 7 (slots_not (by kernel_rfl))).trans h7
  replace h8 := (hold 8 (slots_not (by kernel_rfl))).trans h8
  replace h9 := (hold 9 (slots_not (by kernel_rfl))).trans h9
  replace h10 := (hold 10 (slots_not (by kernel_rfl))).trans h10
  clear hold hout hs
  obtain ⟨f, e0, hf⟩ := wash HS
  have f3 := hf 3 _ h3
  have f4 := hf 4 _ h4
  have f5 := hf 5 _ h5
  have f21 := hf 21 _ h21
  have f7 := hf 7 _ h7
  have f8 := hf 8 _ h8
  have f9 := hf 9 _ h9
  have f10 := hf 10 _ h10
  have f6 := hf 6 _ q6
  clear hf
  rw [e0.trans (show _ = #[f 0, f 1, f 2, f 3, f 4, f 5, f 6, f 7, f 8, f 9, f 10, f 11, f 12, f 13, f 14, f 15, f 16, f 17, f 18, f 19, f 20, f 21, f 22, f 23, f 24, f 25, f 26, f 27, f 28, f 29, f 30, f 31, f 32, f 33, f 34, f 35, f 36, f 37, f 38, f 39, f 40, f 41, f 42, f 43, f 44, f 45, f 46, f 47, f 48, f 49, f 50, f 51, f 52, f 53, f 54] from by kernel_rfl), f3, f4, f5, f21, f7, f8, f9, f10, f6]
  clear f3 f4 f5 f21 f7 f8 f9 f10 f6
  clear e0
  dsimp only
  clear h3 h4 h5 h21 h7 h8 h9 h10 q6 hM HS t1 t0 M
  go_wp2_with fail
  go_returns
  exact ⟨rfl, hS.1⟩
end Go.Proofs.Ytciakfhjjnmeeaa
