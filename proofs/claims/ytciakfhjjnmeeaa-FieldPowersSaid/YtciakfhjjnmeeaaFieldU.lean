/- The walk of FieldPowers: it returns true for all bytes. -/
import Derived.Test.YtciakfhjjnmeeaaOpsH
import Derived.Test.YtciakfhjjnmeeaaForm
namespace Go.Proofs.Ytciakfhjjnmeeaa
open Go.RowKit Nt

set_option maxHeartbeats 4000000 in
set_option maxRecDepth 100000 in
theorem fieldPowers_walk (La Lb : List Int) (w : World) (hlLa : La.length = 32) (hbLa : Byt La) (hlLb : Lb.length = 32) (hbLb : Byt Lb) :
    Calls Try.prog 6 #[.agg (vals La), .agg (vals Lb)] w fun e w' => e = .returned (.bool true) ∧ Below w.heap.size w w' := by
  obtain ⟨hbn, hVb⟩ := bytesN_num Lb hlLb hbLb
  generalize (num Lb).toNat = Ve at hbn hVb
  subst hbn
  have HVe := Lib.hid hVb
  have HLLa := Lib.hid hlLa
  clear hlLa hlLb hbLb hVb
  have R0 : BytesAt La w.heap.size ((w.alloc (.cells (vals La) 22)).alloc (.cells (vals (bytesN Ve)) 22)) := ⟨_, new2_0 w (.cells (vals La) 22) (.cells (vals (bytesN Ve)) 22)⟩
  have R1 : BytesAt (bytesN Ve) (w.heap.size + 1) ((w.alloc (.cells (vals La) 22)).alloc (.cells (vals (bytesN Ve)) 22)) := ⟨_, new2_1 w (.cells (vals La) 22) (.cells (vals (bytesN Ve)) 22)⟩
  have B0 : Below w.heap.size w ((w.alloc (.cells (vals La) 22)).alloc (.cells (vals (bytesN Ve)) 22)) := by go_grown
  go_enter Try.func6, Try.ntmps6
  go_wp2_with ((with_reducible refine guard_list ?_); first | (refine held_load 26 _ rfl ?_) | (refine held_load 22 _ rfl ?_))
  generalize (w.alloc (.cells (vals La) 22)).alloc (.cells (vals (bytesN Ve)) 22) = W0 at *
  have hS : BytesAt La w.heap.size W0 ∧ BytesAt (bytesN Ve) (w.heap.size + 1) W0 ∧ Below w.heap.size w W0 := ⟨R0, R1, B0⟩
  clear R0 R1 B0
  obtain ⟨na, hna⟩ : ∃ na, numF La = na := ⟨_, rfl⟩
  obtain ⟨Va, hVa⟩ : ∃ V, na.val = V := ⟨_, rfl⟩
  obtain ⟨pw, hpw⟩ : ∃ p, p = na ^ Ve := ⟨_, rfl⟩
  obtain ⟨Vp, hVp⟩ : ∃ V, pw.val = V := ⟨_, rfl⟩
  obtain ⟨iv, hiv⟩ : ∃ p, p = inv na := ⟨_, rfl⟩
  obtain ⟨Vi, hVi⟩ : ∃ V, iv.val = V := ⟨_, rfl⟩
  have Hhna := Lib.hid hna
  have HhVa := Lib.hid hVa
  have Hhpw := Lib.hid hpw
  have HhVp := Lib.hid hVp
  have Hhiv := Lib.hid hiv
  have HhVi := Lib.hid hVi
  clear hna hVa hpw hVp hiv hVi
  obtain ⟨M, hM⟩ : ∃ M, M = W0.heap.size := ⟨_, rfl⟩
  have hMB : w.heap.size ≤ M := hM ▸ (hS.2.2).size
  have lt0 := (hS.1).lt
  have lt1 := (hS.2.1).lt
  rw [← hM] at lt0 lt1
  refine hide_held fun t0 HT => ?_
  have HS : t0.size = 33 := by rw [HT]; rfl
  have h2 : t0[2]? = some (.pointer (some ⟨w.heap.size, 0, none⟩)) := by rw [HT]; rfl
  have h3 : t0[3]? = some (.pointer (some ⟨(w.heap.size + 1), 0, none⟩)) := by rw [HT]; rfl
  clear HT
  refine wp_list_most 3 (fun i => [7, 8, 5].getD i 0) (fun i => [none, none, some 5].getD i none) (fun i => [(· = .agg (vals La)), IsEl na, (fun _ => True)].getD i (fun _ => True)) (fun w' => BytesAt La w.heap.size w' ∧ BytesAt (bytesN Ve) (w.heap.size + 1) w' ∧ Below w.heap.size w w' ∧ M ≤ w'.heap.size) M
    (by kernel_rfl) (slots_apart (by kernel_rfl)) (slots_lie (by rw [HS]; kernel_rfl)) ⟨hS.1, hS.2.1, hS.2.2, Nat.le_of_eq hM⟩ (fun w' h => h.2.2.2) (fun w1 w2 h b => ⟨(h.1).keep b, (h.2.1).keep b, below_call b h.2.2.1, Nat.le_trans h.2.2.2 b.size⟩) ?_ ?_ ?_
  · clear hS
    intro i o hi ho hA
    have hc : i = 0 ∨ i = 1 ∨ i = 2 := by omega
    rcases hc with rfl | rfl | rfl
    · obtain rfl := Option.some.inj ho
      refine ⟨rfl, fun a w' hS hold hin K hK => ?_⟩
      refine if_always rfl ?_
      exact op_ld_by (.tmp 2) rfl rfl _ (eval_tmp ((hold 2 (slots_not (by kernel_rfl))).trans h2)) hS.1 HLLa.out hK
    · obtain rfl := Option.some.inj ho
      refine ⟨rfl, fun a w' hS hold hin K hK => ?_⟩
      obtain ⟨y0, x0, rfl⟩ := hin 0 rfl (by omega) rfl
      refine if_always rfl ?_
      exact op_fn1 _ _ _ _ rfl rfl (eval_tmp x0) (by intro args w; kernel_rfl) (of_ev La HLLa.out hbLa Hhna.out _) hK
    · cases hA
  · intro i o sz hi ho hA
    have hc : i = 0 ∨ i = 1 ∨ i = 2 := by omega
    rcases hc with rfl | rfl | rfl
    · cases hA
    · cases hA
    · obtain rfl := Option.some.inj ho
      obtain rfl := Option.some.inj hA
      exact ⟨rfl, rfl, 26, #[.int .u64 0, .int .u64 0, .int .u64 0, .int .u64 0, .int .u64 0], rfl, fun a w' K h => wp_new 26 #[.int .u64 0, .int .u64 0, .int .u64 0, .int .u64 0, .int .u64 0] (fun w => by kernel_rfl) h⟩
  clear hS
  intro t1 V1 hs hold hout hall hne hS
  replace HS := hs.trans HS
  obtain ⟨gx, h5, b5, r5⟩ : ∃ g, t1[5]? = some (.pointer (some ⟨g, 0, none⟩)) ∧ M ≤ g ∧ RowAt 5 g V1 := by
    obtain ⟨g, p1, p2, ty, cs, p3, p4⟩ := hall 2 (by omega) 5 rfl
    exact ⟨g, p1, p2, cs, ty, p3, p4⟩
  obtain ⟨x8, q8, v8⟩ : ∃ x, t1[8]? = some x ∧ (IsEl na) x := hout 1 (by omega) rfl
  replace h2 := (hold 2 (slots_not (by kernel_rfl))).trans h2
  replace h3 := (hold 3 (slots_not (by kernel_rfl))).trans h3
  clear hold hout hall hne hs
  simp only [List.drop_succ_cons, List.drop_zero]
  have bb := Below.refl M V1
  refine st_el rfl (.tmp 5) (.tmp 8) rfl rfl _ _ (eval_tmp h5) (eval_tmp q8) v8 r5 fun V1' e5 p5 => ?_
  replace bb := bb.trans (p5.2.mono b5)
  refine wpList_nil ?_
  have hS2 : BytesAt La w.heap.size V1' ∧ BytesAt (bytesN Ve) (w.heap.size + 1) V1' ∧ ElAt na gx V1' ∧ Below w.heap.size w V1' := ⟨(hS.1).under bb lt0, (hS.2.1).under bb lt1, e5, (hS.2.2.1).trans (bb.mono hMB)⟩
  obtain ⟨f, e0, hf⟩ := wash HS
  have f2 := hf 2 _ h2
  have f3 := hf 3 _ h3
  have f5 := hf 5 _ h5
  clear hf
  rw [e0.trans (show _ = #[f 0, f 1, f 2, f 3, f 4, f 5, f 6, f 7, f 8, f 9, f 10, f 11, f 12, f 13, f 14, f 15, f 16, f 17, f 18, f 19, f 20, f 21, f 22, f 23, f 24, f 25, f 26, f 27, f 28, f 29, f 30, f 31, f 32] from by kernel_rfl), f2, f3, f5]
  clear f2 f3 f5
  clear e0
  dsimp only
  clear hS
  have hS := hS2
  clear hS2
  clear h2 h3 h5 p5 r5 b5 e5 v8 q8 lt0 lt1 hMB bb HS t1 t0 hM M
  go_wp2_with ((with_reducible refine guard_list ?_); first | (refine held_load 26 _ rfl ?_) | (refine held_load 22 _ rfl ?_))
  obtain ⟨M, hM⟩ : ∃ M, M = V1'.heap.size := ⟨_, rfl⟩
  have hMB : w.heap.size ≤ M := hM ▸ (hS.2.2.2).size
  have lt0 := (hS.1).lt
  have lt1 := (hS.2.1).lt
  have lt2 := (hS.2.2.1).lt
  rw [← hM] at lt0 lt1 lt2
  refine hide_held fun t0 HT => ?_
  have HS : t0.size = 33 := by rw [HT]; rfl
  have h2 : t0[2]? = some (.pointer (some ⟨w.heap.size, 0, none⟩)) := by rw [HT]; rfl
  have h3 : t0[3]? = some (.pointer (some ⟨(w.heap.size + 1), 0, none⟩)) := by rw [HT]; rfl
  have h5 : t0[5]? = some (.pointer (some ⟨gx, 0, none⟩)) := by rw [HT]; rfl
  clear HT
  refine wp_list_most 3 (fun i => [9, 10, 6].getD i 0) (fun i => [none, none, some 32].getD i none) (fun i => [(· = .agg (vals La)), (· = .agg (vals (bytesN Va))), (fun _ => True)].getD i (fun _ => True)) (fun w' => BytesAt La w.heap.size w' ∧ BytesAt (bytesN Ve) (w.heap.size + 1) w' ∧ ElAt na gx w' ∧ Below w.heap.size w w' ∧ M ≤ w'.heap.size) M
    (by kernel_rfl) (slots_apart (by kernel_rfl)) (slots_lie (by rw [HS]; kernel_rfl)) ⟨hS.1, hS.2.1, hS.2.2.1, hS.2.2.2, Nat.le_of_eq hM⟩ (fun w' h => h.2.2.2.2) (fun w1 w2 h b => ⟨(h.1).keep b, (h.2.1).keep b, (h.2.2.1).keep b, below_call b h.2.2.2.1, Nat.le_trans h.2.2.2.2 b.size⟩) ?_ ?_ ?_
  · clear hS
    intro i o hi ho hA
    have hc : i = 0 ∨ i = 1 ∨ i = 2 := by omega
    rcases hc with rfl | rfl | rfl
    · obtain rfl := Option.some.inj ho
      refine ⟨rfl, fun a w' hS hold hin K hK => ?_⟩
      refine if_always rfl ?_
      exact op_ld_by (.tmp 2) rfl rfl _ (eval_tmp ((hold 2 (slots_not (by kernel_rfl))).trans h2)) hS.1 HLLa.out hK
    · obtain rfl := Option.some.inj ho
      refine ⟨rfl, fun a w' hS hold hin K hK => ?_⟩
      obtain ⟨y0, x0, rfl⟩ := hin 0 rfl (by omega) rfl
      refine if_always rfl ?_
      exact op_fn1 _ _ _ _ rfl rfl (eval_tmp x0) (by intro args w; kernel_rfl) (of08_ev La HLLa.out hbLa Hhna.out HhVa.out _) hK
    · cases hA
  · intro i o sz hi ho hA
    have hc : i = 0 ∨ i = 1 ∨ i = 2 := by omega
    rcases hc with rfl | rfl | rfl
    · cases hA
    · cases hA
    · obtain rfl := Option.some.inj ho
      obtain rfl := Option.some.inj hA
      exact ⟨rfl, rfl, 29, #[.int .u8 0, .int .u8 0, .int .u8 0, .int .u8 0, .int .u8 0, .int .u8 0, .int .u8 0, .int .u8 0, .int .u8 0, .int .u8 0, .int .u8 0, .int .u8 0, .int .u8 0, .int .u8 0, .int .u8 0, .int .u8 0, .int .u8 0, .int .u8 0, .int .u8 0, .int .u8 0, .int .u8 0, .int .u8 0, .int .u8 0, .int .u8 0, .int .u8 0, .int .u8 0, .int .u8 0, .int .u8 0, .int .u8 0, .int .u8 0, .int .u8 0, .int .u8 0], rfl, fun a w' K h => wp_new 29 #[.int .u8 0, .int .u8 0, .int .u8 0, .int .u8 0, .int .u8 0, .int .u8 0, .int .u8 0, .int .u8 0, .int .u8 0, .int .u8 0, .int .u8 0, .int .u8 0, .int .u8 0, .int .u8 0, .int .u8 0, .int .u8 0, .int .u8 0, .int .u8 0, .int .u8 0, .int .u8 0, .int .u8 0, .int .u8 0, .int .u8 0, .int .u8 0, .int .u8 0, .int .u8 0, .int .u8 0, .int .u8 0, .int .u8 0, .int .u8 0, .int .u8 0, .int .u8 0] (fun w => by kernel_rfl) h⟩
  clear hS
  intro t1 V2 hs hold hout hall hne hS
  replace HS := hs.trans HS
  obtain ⟨gy, h6, b6, r6⟩ : ∃ g, t1[6]? = some (.pointer (some ⟨g, 0, none⟩)) ∧ M ≤ g ∧ RowAt 32 g V2 := by
    obtain ⟨g, p1, p2, ty, cs, p3, p4⟩ := hall 2 (by omega) 32 rfl
    exact ⟨g, p1, p2, cs, ty, p3, p4⟩
  obtain ⟨x10, q10, v10⟩ : ∃ x, t1[10]? = some x ∧ ((· = .agg (vals (bytesN Va)))) x := hout 1 (by omega) rfl
  replace h2 := (hold 2 (slots_not (by kernel_rfl))).trans h2
  replace h3 := (hold 3 (slots_not (by kernel_rfl))).trans h3
  replace h5 := (hold 5 (slots_not (by kernel_rfl))).trans h5
  clear hold hout hall hne hs
  simp only [List.drop_succ_cons, List.drop_zero]
  have bb := Below.refl M V2
  refine st_nm rfl (.tmp 6) (.tmp 10) rfl rfl _ _ (eval_tmp h6) (eval_tmp q10) v10 (bytesN_len _) r6 fun V2' e6 p6 => ?_
  replace bb := bb.trans (p6.2.mono b6)
  refine wpList_nil ?_
  have hS2 : BytesAt La w.heap.size V2' ∧ BytesAt (bytesN Ve) (w.heap.size + 1) V2' ∧ ElAt na gx V2' ∧ BytesAt (bytesN Va) gy V2' ∧ Below w.heap.size w V2' := ⟨(hS.1).under bb lt0, (hS.2.1).under bb lt1, (hS.2.2.1).under bb lt2, e6, (hS.2.2.2.1).trans (bb.mono hMB)⟩
  obtain ⟨f, e0, hf⟩ := wash HS
  have f2 := hf 2 _ h2
  have f3 := hf 3 _ h3
  have f5 := hf 5 _ h5
  have f6 := hf 6 _ h6
  clear hf
  rw [e0.trans (show _ = #[f 0, f 1, f 2, f 3, f 4, f 5, f 6, f 7, f 8, f 9, f 10, f 11, f 12, f 13, f 14, f 15, f 16, f 17, f 18, f 19, f 20, f 21, f 22, f 23, f 24, f 25, f 26, f 27, f 28, f 29, f 30, f 31, f 32] from by kernel_rfl), f2, f3, f5, f6]
  clear f2 f3 f5 f6
  clear e0
  dsimp only
  clear hS
  have hS := hS2
  clear hS2
  clear h2 h3 h5 h6 p6 r6 b6 e6 v10 q10 lt0 lt1 lt2 hMB bb HS t1 t0 hM M
  go_wp2_with ((with_reducible refine guard_list ?_); first | (refine held_load 26 _ rfl ?_) | (refine held_load 22 _ rfl ?_))
  obtain ⟨M, hM⟩ : ∃ M, M = V2'.heap.size := ⟨_, rfl⟩
  have lt0 := (hS.1).lt
  have lt1 := (hS.2.1).lt
  have lt2 := (hS.2.2.1).lt
  have lt3 := (hS.2.2.2.1).lt
  rw [← hM] at lt0 lt1 lt2 lt3
  refine hide_frame fun t0 HT => ?_
  have HS : t0.size = 33 := by rw [HT]; rfl
  have h2 : t0[2]? = some (.pointer (some ⟨w.heap.size, 0, none⟩)) := by rw [HT]; rfl
  have h3 : t0[3]? = some (.pointer (some ⟨(w.heap.size + 1), 0, none⟩)) := by rw [HT]; rfl
  have h5 : t0[5]? = some (.pointer (some ⟨gx, 0, none⟩)) := by rw [HT]; rfl
  have h6 : t0[6]? = some (.pointer (some ⟨gy, 0, none⟩)) := by rw [HT]; rfl
  clear HT
  refine wp_region_all 22 (fun i => [11, 12, 13, 14, 15, 16, 17, 18, 19, 20, 21, 22, 23, 24, 25, 26, 27, 28, 29, 30, 31, 32, 4].getD i 0) (fun i => [IsEl na, (· = .agg (vals (bytesN Ve))), IsEl pw, (· = .agg (vals (bytesN Vp))), (· = .agg (vals (bytesN Va))), (· = .agg (vals (bytesN Ve))), (· = .agg (vals (bytesN Vp))), (· = .bool true), (· = .bool true), IsEl na, IsEl iv, (· = .agg (vals (bytesN Vi))), (· = .agg (vals (bytesN Va))), (· = .agg (vals (bytesN Vi))), (· = .bool true), (· = .bool true), (· = .bool true), IsEl na, (· = .agg (vals (bytesN Va))), (· = .agg (vals (bytesN Va))), (· = .bool true), (· = .bool true), (· = .bool true)].getD i (fun _ => True)) (fun w' => BytesAt La w.heap.size w' ∧ BytesAt (bytesN Ve) (w.heap.size + 1) w' ∧ ElAt na gx w' ∧ BytesAt (bytesN Va) gy w' ∧ Below w.heap.size w w' ∧ M ≤ w'.heap.size)
    (by kernel_rfl) (by kernel_rfl) (by kernel_rfl) (slots_apart (by kernel_rfl)) (slots_lie (by rw [HS]; kernel_rfl)) ⟨hS.1, hS.2.1, hS.2.2.1, hS.2.2.2.1, (hS.2.2.2.2).drew, Nat.le_of_eq hM⟩ (fun w1 w2 h b => ⟨(h.1).keep b, (h.2.1).keep b, (h.2.2.1).keep b, (h.2.2.2.1).keep b, below_call b h.2.2.2.2.1, Nat.le_trans h.2.2.2.2.2 b.size⟩) ?_ ?_
  · clear hS
    intro i o hi ho
    have hc : i = 0 ∨ i = 1 ∨ i = 2 ∨ i = 3 ∨ i = 4 ∨ i = 5 ∨ i = 6 ∨ i = 7 ∨ i = 8 ∨ i = 9 ∨ i = 10 ∨ i = 11 ∨ i = 12 ∨ i = 13 ∨ i = 14 ∨ i = 15 ∨ i = 16 ∨ i = 17 ∨ i = 18 ∨ i = 19 ∨ i = 20 ∨ i = 21 ∨ i = 22 := by omega
    rcases hc with rfl | rfl | rfl | rfl | rfl | rfl | rfl | rfl | rfl | rfl | rfl | rfl | rfl | rfl | rfl | rfl | rfl | rfl | rfl | rfl | rfl | rfl | rfl
    · obtain rfl := Option.some.inj ho
      refine ⟨rfl, fun a w' hS hold hin K hK => ?_⟩
      refine if_always rfl ?_
      exact op_ld_el (.tmp 5) rfl rfl _ (eval_tmp ((hold 5 (slots_not (by kernel_rfl))).trans h5)) hS.2.2.1 hK
    · obtain rfl := Option.some.inj ho
      refine ⟨rfl, fun a w' hS hold hin K hK => ?_⟩
      refine if_always rfl ?_
      exact op_ld_by (.tmp 3) rfl rfl _ (eval_tmp ((hold 3 (slots_not (by kernel_rfl))).trans h3)) hS.2.1 (bytesN_len _) hK
    · obtain rfl := Option.some.inj ho
      refine ⟨rfl, fun a w' hS hold hin K hK => ?_⟩
      obtain ⟨y0, x0, (v0 : IsEl na y0)⟩ := hin 0 rfl (by omega)
      obtain ⟨y1, x1, rfl⟩ := hin 1 rfl (by omega)
      refine if_always rfl ?_
      exact op_fn2 _ _ _ _ _ _ rfl rfl (eval_tmp x0) (eval_tmp x1) (by intro args w; kernel_rfl) (power_ev v0 Ve HVe.out Hhpw.out _) hK
    · obtain rfl := Option.some.inj ho
      refine ⟨rfl, fun a w' hS hold hin K hK => ?_⟩
      obtain ⟨y2, x2, (v2 : IsEl pw y2)⟩ := hin 2 rfl (by omega)
      refine if_always rfl ?_
      exact op_fn1 _ _ _ _ rfl rfl (eval_tmp x2) (by intro args w; kernel_rfl) (bytes_ev v2 Vp HhVp.out _) hK
    · obtain rfl := Option.some.inj ho
      refine ⟨rfl, fun a w' hS hold hin K hK => ?_⟩
      refine if_always rfl ?_
      exact op_ld_nm (.tmp 6) rfl rfl _ (eval_tmp ((hold 6 (slots_not (by kernel_rfl))).trans h6)) hS.2.2.2.1 (bytesN_len _) hK
    · obtain rfl := Option.some.inj ho
      refine ⟨rfl, fun a w' hS hold hin K hK => ?_⟩
      refine if_always rfl ?_
      exact op_ld_by (.tmp 3) rfl rfl _ (eval_tmp ((hold 3 (slots_not (by kernel_rfl))).trans h3)) hS.2.1 (bytesN_len _) hK
    · obtain rfl := Option.some.inj ho
      refine ⟨rfl, fun a w' hS hold hin K hK => ?_⟩
      obtain ⟨y4, x4, rfl⟩ := hin 4 rfl (by omega)
      obtain ⟨y5, x5, rfl⟩ := hin 5 rfl (by omega)
      refine if_always rfl ?_
      exact op_fn2 _ _ _ _ _ _ rfl rfl (eval_tmp x4) (eval_tmp x5) (by intro args w; kernel_rfl) (power08_ev HhVa.out HVe.out Hhpw.out HhVp.out _) hK
    · obtain rfl := Option.some.inj ho
      refine ⟨rfl, fun a w' hS hold hin K hK => ?_⟩
      obtain ⟨y3, x3, rfl⟩ := hin 3 rfl (by omega)
      obtain ⟨y6, x6, rfl⟩ := hin 6 rfl (by omega)
      refine if_always rfl ?_
      exact op_bin (V := (· = .bool true)) _ _ _ _ _ _ _ (.bool true) rfl rfl (eval_tmp x3) (eval_tmp x6) (fun w => eql_by_same _ (bytesN_len _) w) rfl hK
    · obtain rfl := Option.some.inj ho
      refine ⟨rfl, fun a w' hS hold hin K hK => ?_⟩
      obtain ⟨y7, x7, rfl⟩ := hin 7 rfl (by omega)
      refine if_always rfl ?_
      exact op_move (V := (· = .bool true)) _ _ rfl rfl (eval_tmp x7) rfl hK
    · obtain rfl := Option.some.inj ho
      refine ⟨rfl, fun a w' hS hold hin K hK => ?_⟩
      obtain ⟨y8, x8, rfl⟩ := hin 8 rfl (by omega)
      refine if_guard (d := 19) rfl rfl x8 ?_
      exact op_ld_el (.tmp 5) rfl rfl _ (eval_tmp ((hold 5 (slots_not (by kernel_rfl))).trans h5)) hS.2.2.1 hK
    · obtain rfl := Option.some.inj ho
      refine ⟨rfl, fun a w' hS hold hin K hK => ?_⟩
      obtain ⟨y8, x8, rfl⟩ := hin 8 rfl (by omega)
      obtain ⟨y9, x9, (v9 : IsEl na y9)⟩ := hin 9 rfl (by omega)
      refine if_guard (d := 19) rfl rfl x8 ?_
      exact op_fn1 _ _ _ _ rfl rfl (eval_tmp x9) (by intro args w; kernel_rfl) (inv_ev v9 Hhiv.out _) hK
    · obtain rfl := Option.some.inj ho
      refine ⟨rfl, fun a w' hS hold hin K hK => ?_⟩
      obtain ⟨y8, x8, rfl⟩ := hin 8 rfl (by omega)
      obtain ⟨y10, x10, (v10 : IsEl iv y10)⟩ := hin 10 rfl (by omega)
      refine if_guard (d := 19) rfl rfl x8 ?_
      exact op_fn1 _ _ _ _ rfl rfl (eval_tmp x10) (by intro args w; kernel_rfl) (bytes_ev v10 Vi HhVi.out _) hK
    · obtain rfl := Option.some.inj ho
      refine ⟨rfl, fun a w' hS hold hin K hK => ?_⟩
      obtain ⟨y8, x8, rfl⟩ := hin 8 rfl (by omega)
      refine if_guard (d := 19) rfl rfl x8 ?_
      exact op_ld_nm (.tmp 6) rfl rfl _ (eval_tmp ((hold 6 (slots_not (by kernel_rfl))).trans h6)) hS.2.2.2.1 (bytesN_len _) hK
    · obtain rfl := Option.some.inj ho
      refine ⟨rfl, fun a w' hS hold hin K hK => ?_⟩
      obtain ⟨y8, x8, rfl⟩ := hin 8 rfl (by omega)
      obtain ⟨y12, x12, rfl⟩ := hin 12 rfl (by omega)
      refine if_guard (d := 19) rfl rfl x8 ?_
      exact op_fn1 _ _ _ _ rfl rfl (eval_tmp x12) (by intro args w; kernel_rfl) (invert08_ev HhVa.out Hhiv.out HhVi.out _) hK
    · obtain rfl := Option.some.inj ho
      refine ⟨rfl, fun a w' hS hold hin K hK => ?_⟩
      obtain ⟨y8, x8, rfl⟩ := hin 8 rfl (by omega)
      obtain ⟨y11, x11, rfl⟩ := hin 11 rfl (by omega)
      obtain ⟨y13, x13, rfl⟩ := hin 13 rfl (by omega)
      refine if_guard (d := 19) rfl rfl x8 ?_
      exact op_bin (V := (· = .bool true)) _ _ _ _ _ _ _ (.bool true) rfl rfl (eval_tmp x11) (eval_tmp x13) (fun w => eql_by_same _ (bytesN_len _) w) rfl hK
    · obtain rfl := Option.some.inj ho
      refine ⟨rfl, fun a w' hS hold hin K hK => ?_⟩
      obtain ⟨y8, x8, rfl⟩ := hin 8 rfl (by omega)
      obtain ⟨y14, x14, rfl⟩ := hin 14 rfl (by omega)
      refine if_always rfl ?_
      exact op_pick (V := (· = .bool true)) _ _ _ true _ rfl rfl (eval_tmp x8) (show (Act.eval a _) = _ from (eval_tmp x14)) rfl hK
    · obtain rfl := Option.some.inj ho
      refine ⟨rfl, fun a w' hS hold hin K hK => ?_⟩
      obtain ⟨y15, x15, rfl⟩ := hin 15 rfl (by omega)
      refine if_always rfl ?_
      exact op_move (V := (· = .bool true)) _ _ rfl rfl (eval_tmp x15) rfl hK
    · obtain rfl := Option.some.inj ho
      refine ⟨rfl, fun a w' hS hold hin K hK => ?_⟩
      obtain ⟨y16, x16, rfl⟩ := hin 16 rfl (by omega)
      refine if_guard (d := 27) rfl rfl x16 ?_
      exact op_ld_el (.tmp 5) rfl rfl _ (eval_tmp ((hold 5 (slots_not (by kernel_rfl))).trans h5)) hS.2.2.1 hK
    · obtain rfl := Option.some.inj ho
      refine ⟨rfl, fun a w' hS hold hin K hK => ?_⟩
      obtain ⟨y16, x16, rfl⟩ := hin 16 rfl (by omega)
      obtain ⟨y17, x17, (v17 : IsEl na y17)⟩ := hin 17 rfl (by omega)
      refine if_guard (d := 27) rfl rfl x16 ?_
      exact op_fn1 _ _ _ _ rfl rfl (eval_tmp x17) (by intro args w; kernel_rfl) (bytes_ev v17 Va HhVa.out _) hK
    · obtain rfl := Option.some.inj ho
      refine ⟨rfl, fun a w' hS hold hin K hK => ?_⟩
      obtain ⟨y16, x16, rfl⟩ := hin 16 rfl (by omega)
      refine if_guard (d := 27) rfl rfl x16 ?_
      exact op_ld_nm (.tmp 6) rfl rfl _ (eval_tmp ((hold 6 (slots_not (by kernel_rfl))).trans h6)) hS.2.2.2.1 (bytesN_len _) hK
    · obtain rfl := Option.some.inj ho
      refine ⟨rfl, fun a w' hS hold hin K hK => ?_⟩
      obtain ⟨y16, x16, rfl⟩ := hin 16 rfl (by omega)
      obtain ⟨y18, x18, rfl⟩ := hin 18 rfl (by omega)
      obtain ⟨y19, x19, rfl⟩ := hin 19 rfl (by omega)
      refine if_guard (d := 27) rfl rfl x16 ?_
      exact op_bin (V := (· = .bool true)) _ _ _ _ _ _ _ (.bool true) rfl rfl (eval_tmp x18) (eval_tmp x19) (fun w => eql_by_same _ (bytesN_len _) w) rfl hK
    · obtain rfl := Option.some.inj ho
      refine ⟨rfl, fun a w' hS hold hin K hK => ?_⟩
      obtain ⟨y16, x16, rfl⟩ := hin 16 rfl (by omega)
      obtain ⟨y20, x20, rfl⟩ := hin 20 rfl (by omega)
      refine if_always rfl ?_
      exact op_pick (V := (· = .bool true)) _ _ _ true _ rfl rfl (eval_tmp x16) (show (Act.eval a _) = _ from (eval_tmp x20)) rfl hK
    · obtain rfl := Option.some.inj ho
      refine ⟨rfl, fun a w' hS hold hin K hK => ?_⟩
      obtain ⟨y21, x21, rfl⟩ := hin 21 rfl (by omega)
      refine if_always rfl ?_
      exact op_assign (V := (· = .bool true)) _ _ rfl rfl (eval_tmp x21) rfl hK
  clear hS
  intro t1 W3 hs hold hout hS
  replace HS := hs.trans HS
  obtain ⟨_, q4, rfl⟩ : ∃ x, t1[4]? = some x ∧ x = (.bool true : Value) := hout 22 (by omega)
  obtain ⟨f, e0, hf⟩ := wash HS
  have f4 := hf 4 _ q4
  have f2 := hf 2 _ ((hold 2 (slots_not (by kernel_rfl))).trans h2)
  have f3 := hf 3 _ ((hold 3 (slots_not (by kernel_rfl))).trans h3)
  have f5 := hf 5 _ ((hold 5 (slots_not (by kernel_rfl))).trans h5)
  have f6 := hf 6 _ ((hold 6 (slots_not (by kernel_rfl))).trans h6)
  clear hf
  rw [e0.trans (show _ = #[f 0, f 1, f 2, f 3, f 4, f 5, f 6, f 7, f 8, f 9, f 10, f 11, f 12, f 13, f 14, f 15, f 16, f 17, f 18, f 19, f 20, f 21, f 22, f 23, f 24, f 25, f 26, f 27, f 28, f 29, f 30, f 31, f 32] from by kernel_rfl), f4, f2, f3, f5, f6]
  clear f4 f2 f3 f5 f6
  clear e0
  dsimp only
  clear h2 h3 h5 h6 q4 hold hout hs HS t1 t0
  have hS' := hS
  clear hS
  have hS : BytesAt La w.heap.size W3 ∧ BytesAt (bytesN Ve) (w.heap.size + 1) W3 ∧ ElAt na gx W3 ∧ BytesAt (bytesN Va) gy W3 ∧ Below w.heap.size w W3 := ⟨hS'.1, hS'.2.1, hS'.2.2.1, hS'.2.2.2.1, hS'.2.2.2.2.1⟩
  clear hS' lt0 lt1 lt2 lt3
  clear hM
  clear M
  go_wp2_with fail
  go_returns
  exact ⟨rfl, hS.2.2.2.2⟩
end Go.Proofs.Ytciakfhjjnmeeaa
