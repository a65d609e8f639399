/- The walk of FieldForm: it returns true for all bytes. -/
import Derived.Test.YtciakfhjjnmeeaaForm
namespace Go.Proofs.Ytciakfhjjnmeeaa
open Go.RowKit Nt

set_option maxHeartbeats 4000000 in
set_option maxRecDepth 100000 in
theorem fieldForm_walk (La Lb : List Int) (w : World) (hlLa : La.length = 32) (hbLa : Byt La) (hlLb : Lb.length = 32) (hbLb : Byt Lb) :
    Calls Try.prog 4 #[.agg (vals La), .agg (vals Lb)] w fun e w' => e = .returned (.bool true) ∧ Below w.heap.size w w' := by
  have HLLa := Lib.hid hlLa
  have HLLb := Lib.hid hlLb
  clear hlLa hlLb
  have R0 : BytesAt La w.heap.size ((w.alloc (.cells (vals La) 22)).alloc (.cells (vals Lb) 22)) := ⟨_, new2_0 w (.cells (vals La) 22) (.cells (vals Lb) 22)⟩
  have R1 : BytesAt Lb (w.heap.size + 1) ((w.alloc (.cells (vals La) 22)).alloc (.cells (vals Lb) 22)) := ⟨_, new2_1 w (.cells (vals La) 22) (.cells (vals Lb) 22)⟩
  have B0 : Below w.heap.size w ((w.alloc (.cells (vals La) 22)).alloc (.cells (vals Lb) 22)) := by go_grown
  go_enter Try.func4, Try.ntmps4
  go_wp2_with fail
  generalize (w.alloc (.cells (vals La) 22)).alloc (.cells (vals Lb) 22) = W0 at *
  refine (awake_any _).mono ?_
  rintro e W ⟨rfl, b1⟩
  have hS : BytesAt La w.heap.size W ∧ BytesAt Lb (w.heap.size + 1) W ∧ Below w.heap.size w W := ⟨R0.keep b1, R1.keep b1, below_call b1 B0⟩
  clear b1 R0 R1 B0 W0
  go_wp2_with fail
  obtain ⟨na, hna⟩ : ∃ na, numF La = na := ⟨_, rfl⟩
  obtain ⟨nb, hnb⟩ : ∃ nb, numF Lb = nb := ⟨_, rfl⟩
  have Hna := Lib.hid hna
  have Hnb := Lib.hid hnb
  clear hna hnb
  obtain ⟨M, hM⟩ : ∃ M, M = W.heap.size := ⟨_, rfl⟩
  have hMB : w.heap.size ≤ M := hM ▸ (hS.2.2).size
  have lt0 := (hS.1).lt
  have lt1 := (hS.2.1).lt
  rw [← hM] at lt0 lt1
  refine hide_frame fun t0 HT => ?_
  have HS : t0.size = 112 := by rw [HT]; rfl
  have h2 : t0[2]? = some (.pointer (some ⟨w.heap.size, 0, none⟩)) := by rw [HT]; rfl
  have h3 : t0[3]? = some (.pointer (some ⟨(w.heap.size + 1), 0, none⟩)) := by rw [HT]; rfl
  clear HT
  refine wp_region_most 6 (fun i => [17, 18, 19, 20, 5, 6].getD i 0) (fun i => [none, none, none, none, some 5, some 5].getD i none) (fun i => [(· = .agg (vals La)), IsEl na, (· = .agg (vals Lb)), IsEl nb, (fun _ => True), (fun _ => True)].getD i (fun _ => True)) (fun w' => BytesAt La w.heap.size w' ∧ BytesAt Lb (w.heap.size + 1) w' ∧ Below w.heap.size w w' ∧ M ≤ w'.heap.size) M
    (by kernel_rfl) (by kernel_rfl) (slots_apart (by kernel_rfl)) (slots_lie (by rw [HS]; kernel_rfl)) ⟨hS.1, hS.2.1, (hS.2.2).drew, Nat.le_of_eq hM⟩ (fun w' h => h.2.2.2) (fun w1 w2 h b => ⟨(h.1).keep b, (h.2.1).keep b, below_call b h.2.2.1, Nat.le_trans h.2.2.2 b.size⟩) ?_ ?_ ?_
  · clear hS
    intro i o hi ho hA
    have hc : i = 0 ∨ i = 1 ∨ i = 2 ∨ i = 3 ∨ i = 4 ∨ i = 5 := by omega
    rcases hc with rfl | rfl | rfl | rfl | rfl | rfl
    · obtain rfl := Option.some.inj ho
      refine ⟨rfl, fun a w' hS hold hin K hK => ?_⟩
      refine if_always rfl ?_
      exact op_ld_by (.tmp 2) rfl rfl _ (eval_tmp ((hold 2 (slots_not (by kernel_rfl))).trans h2)) hS.1 HLLa.out hK
    · obtain rfl := Option.some.inj ho
      refine ⟨rfl, fun a w' hS hold hin K hK => ?_⟩
      obtain ⟨y0, x0, rfl⟩ := hin 0 rfl (by omega) rfl
      refine if_always rfl ?_
      exact op_fn1 _ _ _ _ rfl rfl (eval_tmp x0) (by intro args w; kernel_rfl) (of_ev La HLLa.out hbLa Hna.out _) hK
    · obtain rfl := Option.some.inj ho
      refine ⟨rfl, fun a w' hS hold hin K hK => ?_⟩
      refine if_always rfl ?_
      exact op_ld_by (.tmp 3) rfl rfl _ (eval_tmp ((hold 3 (slots_not (by kernel_rfl))).trans h3)) hS.2.1 HLLb.out hK
    · obtain rfl := Option.some.inj ho
      refine ⟨rfl, fun a w' hS hold hin K hK => ?_⟩
      obtain ⟨y2, x2, rfl⟩ := hin 2 rfl (by omega) rfl
      refine if_always rfl ?_
      exact op_fn1 _ _ _ _ rfl rfl (eval_tmp x2) (by intro args w; kernel_rfl) (of_ev Lb HLLb.out hbLb Hnb.out _) hK
    · cases hA
    · cases hA
  · intro i o sz hi ho hA
    have hc : i = 0 ∨ i = 1 ∨ i = 2 ∨ i = 3 ∨ i = 4 ∨ i = 5 := by omega
    rcases hc with rfl | rfl | rfl | rfl | rfl | rfl
    · cases hA
    · cases hA
    · cases hA
    · cases hA
    · obtain rfl := Option.some.inj ho
      obtain rfl := Option.some.inj hA
      exact ⟨rfl, rfl, 26, #[.int .u64 0, .int .u64 0, .int .u64 0, .int .u64 0, .int .u64 0], rfl, fun a w' K h => wp_new 26 #[.int .u64 0, .int .u64 0, .int .u64 0, .int .u64 0, .int .u64 0] (fun w => by kernel_rfl) h⟩
    · obtain rfl := Option.some.inj ho
      obtain rfl := Option.some.inj hA
      exact ⟨rfl, rfl, 26, #[.int .u64 0, .int .u64 0, .int .u64 0, .int .u64 0, .int .u64 0], rfl, fun a w' K h => wp_new 26 #[.int .u64 0, .int .u64 0, .int .u64 0, .int .u64 0, .int .u64 0] (fun w => by kernel_rfl) h⟩
  clear hS
  intro t1 V1 hs hold hout hall hne hS
  replace HS := hs.trans HS
  obtain ⟨gx, h5, b5, r5⟩ : ∃ g, t1[5]? = some (.pointer (some ⟨g, 0, none⟩)) ∧ M ≤ g ∧ RowAt 5 g V1 := by
    obtain ⟨g, p1, p2, ty, cs, p3, p4⟩ := hall 4 (by omega) 5 rfl
    exact ⟨g, p1, p2, cs, ty, p3, p4⟩
  obtain ⟨gy, h6, b6, r6⟩ : ∃ g, t1[6]? = some (.pointer (some ⟨g, 0, none⟩)) ∧ M ≤ g ∧ RowAt 5 g V1 := by
    obtain ⟨g, p1, p2, ty, cs, p3, p4⟩ := hall 5 (by omega) 5 rfl
    exact ⟨g, p1, p2, cs, ty, p3, p4⟩
  have n5_6 : gx ≠ gy := fun h => hne 4 5 (by omega) (by omega) (by omega) rfl rfl (show t1[5]? = t1[6]? by rw [h5, h6, h])
  obtain ⟨x18, q18, v18⟩ : ∃ x, t1[18]? = some x ∧ (IsEl na) x := hout 1 (by omega) rfl
  obtain ⟨x20, q20, v20⟩ : ∃ x, t1[20]? = some x ∧ (IsEl nb) x := hout 3 (by omega) rfl
  replace h2 := (hold 2 (slots_not (by kernel_rfl))).trans h2
  replace h3 := (hold 3 (slots_not (by kernel_rfl))).trans h3
  clear hold hout hall hne hs
  simp only [List.drop_succ_cons, List.drop_zero]
  have bb := Below.refl M V1
  refine st_el rfl (.tmp 5) (.tmp 18) rfl rfl _ _ (eval_tmp h5) (eval_tmp q18) v18 r5 fun V1' e5 p5 => ?_
  replace bb := bb.trans (p5.2.mono b5)
  replace r6 := r6.of_eq (p5.1 _ (Ne.symm n5_6))
  refine st_el rfl (.tmp 6) (.tmp 20) rfl rfl _ _ (eval_tmp h6) (eval_tmp q20) v20 r6 fun V1'' e6 p6 => ?_
  replace bb := bb.trans (p6.2.mono b6)
  replace e5 := e5.of_eq (p6.1 _ n5_6)
  refine wpList_nil ?_
  have hS2 : BytesAt La w.heap.size V1'' ∧ BytesAt Lb (w.heap.size + 1) V1'' ∧ ElAt na gx V1'' ∧ ElAt nb gy V1'' ∧ Below w.heap.size w V1'' := ⟨(hS.1).under bb lt0, (hS.2.1).under bb lt1, e5, e6, (hS.2.2.1).trans (bb.mono hMB)⟩
  obtain ⟨f, e0, hf⟩ := wash HS
  have f2 := hf 2 _ h2
  have f3 := hf 3 _ h3
  have f5 := hf 5 _ h5
  have f6 := hf 6 _ h6
  clear hf
  rw [e0.trans (show _ = #[f 0, f 1, f 2, f 3, f 4, f 5, f 6, f 7, f 8, f 9, f 10, f 11, f 12, f 13, f 14, f 15, f 16, f 17, f 18, f 19, f 20, f 21, f 22, f 23, f 24, f 25, f 26, f 27, f 28, f 29, f 30, f 31, f 32, f 33, f 34, f 35, f 36, f 37, f 38, f 39, f 40, f 41, f 42, f 43, f 44, f 45, f 46, f 47, f 48, f 49, f 50, f 51, f 52, f 53, f 54, f 55, f 56, f 57, f 58, f 59, f 60, f 61, f 62, f 63, f 64, f 65, f 66, f 67, f 68, f 69, f 70, f 71, f 72, f 73, f 74, f 75, f 76, f 77, f 78, f 79, f 80, f 81, f 82, f 83, f 84, f 85, f 86, f 87, f 88, f 89, f 90, f 91, f 92, f 93, f 94, f 95, f 96, f 97, f 98, f 99, f 100, f 101, f 102, f 103, f 104, f 105, f 106, f 107, f 108, f 109, f 110, f 111] from by kernel_rfl), f2, f3, f5, f6]
  clear f2 f3 f5 f6
  clear e0
  dsimp only
  clear hS
  have hS := hS2
  clear hS2
  clear h2 h3 h5 h6 p5 p6 r5 r6 b5 b6 e5 e6 n5_6 v18 v20 q18 q20 lt0 lt1 hMB bb HS t1 t0 hM M
  go_wp2_with ((with_reducible refine guard_list ?_); first | (refine held_load 26 _ rfl ?_) | (refine held_load 22 _ rfl ?_))
  obtain ⟨Va, hVa⟩ : ∃ V, na.val = V := ⟨_, rfl⟩
  obtain ⟨Vb, hVb⟩ : ∃ V, nb.val = V := ⟨_, rfl⟩
  have hla : Va < P := hVa ▸ na.isLt
  have hlb : Vb < P := hVb ▸ nb.isLt
  have HVa := Lib.hid hVa
  have HVb := Lib.hid hVb
  have HLa := Lib.hid hla
  have HLb := Lib.hid hlb
  clear hVa hVb hla hlb
  obtain ⟨M, hM⟩ : ∃ M, M = V1''.heap.size := ⟨_, rfl⟩
  have hMB : w.heap.size ≤ M := hM ▸ (hS.2.2.2.2).size
  have lt0 := (hS.1).lt
  have lt1 := (hS.2.1).lt
  have lt2 := (hS.2.2.1).lt
  have lt3 := (hS.2.2.2.1).lt
  rw [← hM] at lt0 lt1 lt2 lt3
  refine hide_frame fun t0 HT => ?_
  have HS : t0.size = 112 := by rw [HT]; rfl
  have h2 : t0[2]? = some (.pointer (some ⟨w.heap.size, 0, none⟩)) := by rw [HT]; rfl
  have h3 : t0[3]? = some (.pointer (some ⟨(w.heap.size + 1), 0, none⟩)) := by rw [HT]; rfl
  have h5 : t0[5]? = some (.pointer (some ⟨gx, 0, none⟩)) := by rw [HT]; rfl
  have h6 : t0[6]? = some (.pointer (some ⟨gy, 0, none⟩)) := by rw [HT]; rfl
  clear HT
  refine wp_region_most 6 (fun i => [21, 22, 23, 24, 7, 8].getD i 0) (fun i => [none, none, none, none, some 32, some 32].getD i none) (fun i => [IsEl na, (· = .agg (vals (bytesN Va))), IsEl nb, (· = .agg (vals (bytesN Vb))), (fun _ => True), (fun _ => True)].getD i (fun _ => True)) (fun w' => BytesAt La w.heap.size w' ∧ BytesAt Lb (w.heap.size + 1) w' ∧ ElAt na gx w' ∧ ElAt nb gy w' ∧ Below w.heap.size w w' ∧ M ≤ w'.heap.size) M
    (by kernel_rfl) (by kernel_rfl) (slots_apart (by kernel_rfl)) (slots_lie (by rw [HS]; kernel_rfl)) ⟨hS.1, hS.2.1, hS.2.2.1, hS.2.2.2.1, (hS.2.2.2.2).drew, Nat.le_of_eq hM⟩ (fun w' h => h.2.2.2.2.2) (fun w1 w2 h b => ⟨(h.1).keep b, (h.2.1).keep b, (h.2.2.1).keep b, (h.2.2.2.1).keep b, below_call b h.2.2.2.2.1, Nat.le_trans h.2.2.2.2.2 b.size⟩) ?_ ?_ ?_
  · clear hS
    intro i o hi ho hA
    have hc : i = 0 ∨ i = 1 ∨ i = 2 ∨ i = 3 ∨ i = 4 ∨ i = 5 := by omega
    rcases hc with rfl | rfl | rfl | rfl | rfl | rfl
    · obtain rfl := Option.some.inj ho
      refine ⟨rfl, fun a w' hS hold hin K hK => ?_⟩
      refine if_always rfl ?_
      exact op_ld_el (.tmp 5) rfl rfl _ (eval_tmp ((hold 5 (slots_not (by kernel_rfl))).trans h5)) hS.2.2.1 hK
    · obtain rfl := Option.some.inj ho
      refine ⟨rfl, fun a w' hS hold hin K hK => ?_⟩
      obtain ⟨y0, x0, (v0 : IsEl na y0)⟩ := hin 0 rfl (by omega) rfl
      refine if_always rfl ?_
      exact op_fn1 _ _ _ _ rfl rfl (eval_tmp x0) (by intro args w; kernel_rfl) (bytes_ev v0 Va HVa.out _) hK
    · obtain rfl := Option.some.inj ho
      refine ⟨rfl, fun a w' hS hold hin K hK => ?_⟩
      refine if_always rfl ?_
      exact op_ld_el (.tmp 6) rfl rfl _ (eval_tmp ((hold 6 (slots_not (by kernel_rfl))).trans h6)) hS.2.2.2.1 hK
    · obtain rfl := Option.some.inj ho
      refine ⟨rfl, fun a w' hS hold hin K hK => ?_⟩
      obtain ⟨y2, x2, (v2 : IsEl nb y2)⟩ := hin 2 rfl (by omega) rfl
      refine if_always rfl ?_
      exact op_fn1 _ _ _ _ rfl rfl (eval_tmp x2) (by intro args w; kernel_rfl) (bytes_ev v2 Vb HVb.out _) hK
    · cases hA
    · cases hA
  · intro i o sz hi ho hA
    have hc : i = 0 ∨ i = 1 ∨ i = 2 ∨ i = 3 ∨ i = 4 ∨ i = 5 := by omega
    rcases hc with rfl | rfl | rfl | rfl | rfl | rfl
    · cases hA
    · cases hA
    · cases hA
    · cases hA
    · obtain rfl := Option.some.inj ho
      obtain rfl := Option.some.inj hA
      exact ⟨rfl, rfl, 22, #[.int .u8 0, .int .u8 0, .int .u8 0, .int .u8 0, .int .u8 0, .int .u8 0, .int .u8 0, .int .u8 0, .int .u8 0, .int .u8 0, .int .u8 0, .int .u8 0, .int .u8 0, .int .u8 0, .int .u8 0, .int .u8 0, .int .u8 0, .int .u8 0, .int .u8 0, .int .u8 0, .int .u8 0, .int .u8 0, .int .u8 0, .int .u8 0, .int .u8 0, .int .u8 0, .int .u8 0, .int .u8 0, .int .u8 0, .int .u8 0, .int .u8 0, .int .u8 0], rfl, fun a w' K h => wp_new 22 #[.int .u8 0, .int .u8 0, .int .u8 0, .int .u8 0, .int .u8 0, .int .u8 0, .int .u8 0, .int .u8 0, .int .u8 0, .int .u8 0, .int .u8 0, .int .u8 0, .int .u8 0, .int .u8 0, .int .u8 0, .int .u8 0, .int .u8 0, .int .u8 0, .int .u8 0, .int .u8 0, .int .u8 0, .int .u8 0, .int .u8 0, .int .u8 0, .int .u8 0, .int .u8 0, .int .u8 0, .int .u8 0, .int .u8 0, .int .u8 0, .int .u8 0, .int .u8 0] (fun w => by kernel_rfl) h⟩
    · obtain rfl := Option.some.inj ho
      obtain rfl := Option.some.inj hA
      exact ⟨rfl, rfl, 22, #[.int .u8 0, .int .u8 0, .int .u8 0, .int .u8 0, .int .u8 0, .int .u8 0, .int .u8 0, .int .u8 0, .int .u8 0, .int .u8 0, .int .u8 0, .int .u8 0, .int .u8 0, .int .u8 0, .int .u8 0, .int .u8 0, .int .u8 0, .int .u8 0, .int .u8 0, .int .u8 0, .int .u8 0, .int .u8 0, .int .u8 0, .int .u8 0, .int .u8 0, .int .u8 0, .int .u8 0, .int .u8 0, .int .u8 0, .int .u8 0, .int .u8 0, .int .u8 0], rfl, fun a w' K h => wp_new 22 #[.int .u8 0, .int .u8 0, .int .u8 0, .int .u8 0, .int .u8 0, .int .u8 0, .int .u8 0, .int .u8 0, .int .u8 0, .int .u8 0, .int .u8 0, .int .u8 0, .int .u8 0, .int .u8 0, .int .u8 0, .int .u8 0, .int .u8 0, .int .u8 0, .int .u8 0, .int .u8 0, .int .u8 0, .int .u8 0, .int .u8 0, .int .u8 0, .int .u8 0, .int .u8 0, .int .u8 0, .int .u8 0, .int .u8 0, .int .u8 0, .int .u8 0, .int .u8 0] (fun w => by kernel_rfl) h⟩
  clear hS
  intro t1 V2 hs hold hout hall hne hS
  replace HS := hs.trans HS
  obtain ⟨gp, h7, b7, r7⟩ : ∃ g, t1[7]? = some (.pointer (some ⟨g, 0, none⟩)) ∧ M ≤ g ∧ RowAt 32 g V2 := by
    obtain ⟨g, p1, p2, ty, cs, p3, p4⟩ := hall 4 (by omega) 32 rfl
    exact ⟨g, p1, p2, cs, ty, p3, p4⟩
  obtain ⟨gq, h8, b8, r8⟩ : ∃ g, t1[8]? = some (.pointer (some ⟨g, 0, none⟩)) ∧ M ≤ g ∧ RowAt 32 g V2 := by
    obtain ⟨g, p1, p2, ty, cs, p3, p4⟩ := hall 5 (by omega) 32 rfl
    exact ⟨g, p1, p2, cs, ty, p3, p4⟩
  have n7_8 : gp ≠ gq := fun h => hne 4 5 (by omega) (by omega) (by omega) rfl rfl (show t1[7]? = t1[8]? by rw [h7, h8, h])
  obtain ⟨x22, q22, v22⟩ : ∃ x, t1[22]? = some x ∧ ((· = .agg (vals (bytesN Va)))) x := hout 1 (by omega) rfl
  obtain ⟨x24, q24, v24⟩ : ∃ x, t1[24]? = some x ∧ ((· = .agg (vals (bytesN Vb)))) x := hout 3 (by omega) rfl
  replace h2 := (hold 2 (slots_not (by kernel_rfl))).trans h2
  replace h3 := (hold 3 (slots_not (by kernel_rfl))).trans h3
  replace h5 := (hold 5 (slots_not (by kernel_rfl))).trans h5
  replace h6 := (hold 6 (slots_not (by kernel_rfl))).trans h6
  clear hold hout hall hne hs
  simp only [List.drop_succ_cons, List.drop_zero]
  have bb := Below.refl M V2
  refine st_by rfl (.tmp 7) (.tmp 22) rfl rfl _ _ (eval_tmp h7) (eval_tmp q22) v22 (bytesN_len _) r7 fun V2' e7 p7 => ?_
  replace bb := bb.trans (p7.2.mono b7)
  replace r8 := r8.of_eq (p7.1 _ (Ne.symm n7_8))
  refine st_by rfl (.tmp 8) (.tmp 24) rfl rfl _ _ (eval_tmp h8) (eval_tmp q24) v24 (bytesN_len _) r8 fun V2'' e8 p8 => ?_
  replace bb := bb.trans (p8.2.mono b8)
  replace e7 := e7.of_eq (p8.1 _ n7_8)
  refine wpList_nil ?_
  have hS2 : BytesAt La w.heap.size V2'' ∧ BytesAt Lb (w.heap.size + 1) V2'' ∧ ElAt na gx V2'' ∧ ElAt nb gy V2'' ∧ BytesAt (bytesN Va) gp V2'' ∧ BytesAt (bytesN Vb) gq V2'' ∧ Below w.heap.size w V2'' := ⟨(hS.1).under bb lt0, (hS.2.1).under bb lt1, (hS.2.2.1).under bb lt2, (hS.2.2.2.1).under bb lt3, e7, e8, (hS.2.2.2.2.1).trans (bb.mono hMB)⟩
  obtain ⟨f, e0, hf⟩ := wash HS
  have f2 := hf 2 _ h2
  have f3 := hf 3 _ h3
  have f5 := hf 5 _ h5
  have f6 := hf 6 _ h6
  have f7 := hf 7 _ h7
  have f8 := hf 8 _ h8
  clear hf
  rw [e0.trans (show _ = #[f 0, f 1, f 2, f 3, f 4, f 5, f 6, f 7, f 8, f 9, f 10, f 11, f 12, f 13, f 14, f 15, f 16, f 17, f 18, f 19, f 20, f 21, f 22, f 23, f 24, f 25, f 26, f 27, f 28, f 29, f 30, f 31, f 32, f 33, f 34, f 35, f 36, f 37, f 38, f 39, f 40, f 41, f 42, f 43, f 44, f 45, f 46, f 47, f 48, f 49, f 50, f 51, f 52, f 53, f 54, f 55, f 56, f 57, f 58, f 59, f 60, f 61, f 62, f 63, f 64, f 65, f 66, f 67, f 68, f 69, f 70, f 71, f 72, f 73, f 74, f 75, f 76, f 77, f 78, f 79, f 80, f 81, f 82, f 83, f 84, f 85, f 86, f 87, f 88, f 89, f 90, f 91, f 92, f 93, f 94, f 95, f 96, f 97, f 98, f 99, f 100, f 101, f 102, f 103, f 104, f 105, f 106, f 107, f 108, f 109, f 110, f 111] from by kernel_rfl), f2, f3, f5, f6, f7, f8]
  clear f2 f3 f5 f6 f7 f8
  clear e0
  dsimp only
  clear hS
  have hS := hS2
  clear hS2
  clear h2 h3 h5 h6 h7 h8 p7 p8 r7 r8 b7 b8 e7 e8 n7_8 v22 v24 q22 q24 lt0 lt1 lt2 lt3 hMB bb HS t1 t0 hM M
  go_wp2_with ((with_reducible refine guard_list ?_); first | (refine held_load 26 _ rfl ?_) | (refine held_load 22 _ rfl ?_))
  by_cases hab : na = nb
  · obtain ⟨M, hM⟩ : ∃ M, M = V2''.heap.size := ⟨_, rfl⟩
    have lt0 := (hS.1).lt
    have lt1 := (hS.2.1).lt
    have lt2 := (hS.2.2.1).lt
    have lt3 := (hS.2.2.2.1).lt
    have lt4 := (hS.2.2.2.2.1).lt
    have lt5 := (hS.2.2.2.2.2.1).lt
    rw [← hM] at lt0 lt1 lt2 lt3 lt4 lt5
    refine hide_held fun t0 HT => ?_
    have HS : t0.size = 112 := by rw [HT]; rfl
    have h2 : t0[2]? = some (.pointer (some ⟨w.heap.size, 0, none⟩)) := by rw [HT]; rfl
    have h3 : t0[3]? = some (.pointer (some ⟨(w.heap.size + 1), 0, none⟩)) := by rw [HT]; rfl
    have h5 : t0[5]? = some (.pointer (some ⟨gx, 0, none⟩)) := by rw [HT]; rfl
    have h6 : t0[6]? = some (.pointer (some ⟨gy, 0, none⟩)) := by rw [HT]; rfl
    have h7 : t0[7]? = some (.pointer (some ⟨gp, 0, none⟩)) := by rw [HT]; rfl
    have h8 : t0[8]? = some (.pointer (some ⟨gq, 0, none⟩)) := by rw [HT]; rfl
    clear HT
    refine wp_list_all 3 (fun i => [25, 26, 27, 9].getD i 0) (fun i => [IsEl na, IsEl nb, (· = .int .u64 18446744073709551615), (· = .int .u64 18446744073709551615)].getD i (fun _ => True)) (fun w' => BytesAt La w.heap.size w' ∧ BytesAt Lb (w.heap.size + 1) w' ∧ ElAt na gx w' ∧ ElAt nb gy w' ∧ BytesAt (bytesN Va) gp w' ∧ BytesAt (bytesN Vb) gq w' ∧ Below w.heap.size w w' ∧ M ≤ w'.heap.size)
      (by kernel_rfl) (by kernel_rfl) (slots_apart (by kernel_rfl)) (slots_lie (by rw [HS]; kernel_rfl)) ⟨hS.1, hS.2.1, hS.2.2.1, hS.2.2.2.1, hS.2.2.2.2.1, hS.2.2.2.2.2.1, hS.2.2.2.2.2.2, Nat.le_of_eq hM⟩ (fun w1 w2 h b => ⟨(h.1).keep b, (h.2.1).keep b, (h.2.2.1).keep b, (h.2.2.2.1).keep b, (h.2.2.2.2.1).keep b, (h.2.2.2.2.2.1).keep b, below_call b h.2.2.2.2.2.2.1, Nat.le_trans h.2.2.2.2.2.2.2 b.size⟩) ?_ ?_
    · clear hS
      intro i o hi ho
      have hc : i = 0 ∨ i = 1 ∨ i = 2 ∨ i = 3 := by omega
      rcases hc with rfl | rfl | rfl | rfl
      · obtain rfl := Option.some.inj ho
        refine ⟨rfl, fun a w' hS hold hin K hK => ?_⟩
        refine if_always rfl ?_
        exact op_ld_el (.tmp 5) rfl rfl _ (eval_tmp ((hold 5 (slots_not (by kernel_rfl))).trans h5)) hS.2.2.1 hK
      · obtain rfl := Option.some.inj ho
        refine ⟨rfl, fun a w' hS hold hin K hK => ?_⟩
        refine if_always rfl ?_
        exact op_ld_el (.tmp 6) rfl rfl _ (eval_tmp ((hold 6 (slots_not (by kernel_rfl))).trans h6)) hS.2.2.2.1 hK
      · obtain rfl := Option.some.inj ho
        refine ⟨rfl, fun a w' hS hold hin K hK => ?_⟩
        obtain ⟨y0, x0, (v0 : IsEl na y0)⟩ := hin 0 rfl (by omega)
        obtain ⟨y1, x1, (v1 : IsEl nb y1)⟩ := hin 1 rfl (by omega)
        refine if_always rfl ?_
        exact op_fn2 _ _ _ _ _ _ rfl rfl (eval_tmp x0) (eval_tmp x1) (by intro args w; kernel_rfl) (equal_el_yes v0 v1 hab _) hK
      · obtain rfl := Option.some.inj ho
        refine ⟨rfl, fun a w' hS hold hin K hK => ?_⟩
        obtain ⟨y2, x2, rfl⟩ := hin 2 rfl (by omega)
        refine if_always rfl ?_
        exact op_assign (V := (· = .int .u64 18446744073709551615)) _ _ rfl rfl (eval_tmp x2) rfl hK
    clear hS
    intro t1 W3 hs hold hout hS
    replace HS := hs.trans HS
    obtain ⟨_, q9, rfl⟩ : ∃ x, t1[9]? = some x ∧ x = (.int .u64 18446744073709551615 : Value) := hout 3 (by omega)
    obtain ⟨f, e0, hf⟩ := wash HS
    have f9 := hf 9 _ q9
    have f2 := hf 2 _ ((hold 2 (slots_not (by kernel_rfl))).trans h2)
    have f3 := hf 3 _ ((hold 3 (slots_not (by kernel_rfl))).trans h3)
    have f5 := hf 5 _ ((hold 5 (slots_not (by kernel_rfl))).trans h5)
    have f6 := hf 6 _ ((hold 6 (slots_not (by kernel_rfl))).trans h6)
    have f7 := hf 7 _ ((hold 7 (slots_not (by kernel_rfl))).trans h7)
    have f8 := hf 8 _ ((hold 8 (slots_not (by kernel_rfl))).trans h8)
    clear hf
    rw [e0.trans (show _ = #[f 0, f 1, f 2, f 3, f 4, f 5, f 6, f 7, f 8, f 9, f 10, f 11, f 12, f 13, f 14, f 15, f 16, f 17, f 18, f 19, f 20, f 21, f 22, f 23, f 24, f 25, f 26, f 27, f 28, f 29, f 30, f 31, f 32, f 33, f 34, f 35, f 36, f 37, f 38, f 39, f 40, f 41, f 42, f 43, f 44, f 45, f 46, f 47, f 48, f 49, f 50, f 51, f 52, f 53, f 54, f 55, f 56, f 57, f 58, f 59, f 60, f 61, f 62, f 63, f 64, f 65, f 66, f 67, f 68, f 69, f 70, f 71, f 72, f 73, f 74, f 75, f 76, f 77, f 78, f 79, f 80, f 81, f 82, f 83, f 84, f 85, f 86, f 87, f 88, f 89, f 90, f 91, f 92, f 93, f 94, f 95, f 96, f 97, f 98, f 99, f 100, f 101, f 102, f 103, f 104, f 105, f 106, f 107, f 108, f 109, f 110, f 111] from by kernel_rfl), f9, f2, f3, f5, f6, f7, f8]
    clear f9 f2 f3 f5 f6 f7 f8
    clear e0
    dsimp only
    clear h2 h3 h5 h6 h7 h8 q9 hold hout hs HS t1 t0
    have hS' := hS
    clear hS
    have hS : BytesAt La w.heap.size W3 ∧ BytesAt Lb (w.heap.size + 1) W3 ∧ ElAt na gx W3 ∧ ElAt nb gy W3 ∧ BytesAt (bytesN Va) gp W3 ∧ BytesAt (bytesN Vb) gq W3 ∧ Below w.heap.size w W3 := ⟨hS'.1, hS'.2.1, hS'.2.2.1, hS'.2.2.2.1, hS'.2.2.2.2.1, hS'.2.2.2.2.2.1, hS'.2.2.2.2.2.2.1⟩
    clear hS' lt0 lt1 lt2 lt3 lt4 lt5
    clear hM
    clear M
    go_wp2_with ((with_reducible refine guard_list ?_); first | (refine held_load 26 _ rfl ?_) | (refine held_load 22 _ rfl ?_))
    have hbb : decide (bytesN Va = bytesN Vb) = true := by rw [bytes_same HVa.out HVb.out]; exact decide_eq_true hab
    obtain ⟨M, hM⟩ : ∃ M, M = W3.heap.size := ⟨_, rfl⟩
    have lt0 := (hS.1).lt
    have lt1 := (hS.2.1).lt
    have lt2 := (hS.2.2.1).lt
    have lt3 := (hS.2.2.2.1).lt
    have lt4 := (hS.2.2.2.2.1).lt
    have lt5 := (hS.2.2.2.2.2.1).lt
    rw [← hM] at lt0 lt1 lt2 lt3 lt4 lt5
    refine hide_frame fun t0 HT => ?_
    have HS : t0.size = 112 := by rw [HT]; rfl
    have h2 : t0[2]? = some (.pointer (some ⟨w.heap.size, 0, none⟩)) := by rw [HT]; rfl
    have h3 : t0[3]? = some (.pointer (some ⟨(w.heap.size + 1), 0, none⟩)) := by rw [HT]; rfl
    have h5 : t0[5]? = some (.pointer (some ⟨gx, 0, none⟩)) := by rw [HT]; rfl
    have h6 : t0[6]? = some (.pointer (some ⟨gy, 0, none⟩)) := by rw [HT]; rfl
    have h7 : t0[7]? = some (.pointer (some ⟨gp, 0, none⟩)) := by rw [HT]; rfl
    have h8 : t0[8]? = some (.pointer (some ⟨gq, 0, none⟩)) := by rw [HT]; rfl
    have h9 : t0[9]? = some (.int .u64 18446744073709551615) := by rw [HT]; rfl
    clear HT
    refine wp_region_all 37 (fun i => [28, 29, 30, 31, 32, 33, 34, 35, 36, 37, 38, 39, 40, 41, 42, 43, 44, 45, 46, 47, 48, 49, 50, 51, 52, 53, 54, 55, 56, 57, 58, 59, 60, 61, 62, 63, 64, 65].getD i 0) (fun i => [(· = .agg (vals (bytesN Va))), (· = .bool true), (· = .bool false), (· = .bool false), (· = .agg (vals (bytesN Vb))), (· = .bool true), (· = .bool false), (· = .bool false), (· = .bool false), (· = .agg (vals (bytesN Va))), IsEl na, IsEl na, (· = .bool true), (· = .bool false), (· = .bool false), (· = .bool false), (· = .int .u64 18446744073709551615), (· = .bool true), (· = .bool true), (· = .int .u64 18446744073709551615), (· = .bool false), (· = .bool false), (· = .bool false), (· = .bool false), (· = .int .u64 18446744073709551615), (· = .bool true), (· = .agg (vals (bytesN Va))), (· = .agg (vals (bytesN Vb))), (· = .bool true), (· = .bool false), (· = .bool false), (· = .bool false), (· = .int .u64 18446744073709551615), IsEl nb, IsEl na, (· = .int .u64 18446744073709551615), (· = .bool false), (· = .bool false)].getD i (fun _ => True)) (fun w' => BytesAt La w.heap.size w' ∧ BytesAt Lb (w.heap.size + 1) w' ∧ ElAt na gx w' ∧ ElAt nb gy w' ∧ BytesAt (bytesN Va) gp w' ∧ BytesAt (bytesN Vb) gq w' ∧ Below w.heap.size w w' ∧ M ≤ w'.heap.size)
      (by kernel_rfl) (by kernel_rfl) (by kernel_rfl) (slots_apart (by kernel_rfl)) (slots_lie (by rw [HS]; kernel_rfl)) ⟨hS.1, hS.2.1, hS.2.2.1, hS.2.2.2.1, hS.2.2.2.2.1, hS.2.2.2.2.2.1, (hS.2.2.2.2.2.2).drew, Nat.le_of_eq hM⟩ (fun w1 w2 h b => ⟨(h.1).keep b, (h.2.1).keep b, (h.2.2.1).keep b, (h.2.2.2.1).keep b, (h.2.2.2.2.1).keep b, (h.2.2.2.2.2.1).keep b, below_call b h.2.2.2.2.2.2.1, Nat.le_trans h.2.2.2.2.2.2.2 b.size⟩) ?_ ?_
    · clear hS
      intro i o hi ho
      have hc : i = 0 ∨ i = 1 ∨ i = 2 ∨ i = 3 ∨ i = 4 ∨ i = 5 ∨ i = 6 ∨ i = 7 ∨ i = 8 ∨ i = 9 ∨ i = 10 ∨ i = 11 ∨ i = 12 ∨ i = 13 ∨ i = 14 ∨ i = 15 ∨ i = 16 ∨ i = 17 ∨ i = 18 ∨ i = 19 ∨ i = 20 ∨ i = 21 ∨ i = 22 ∨ i = 23 ∨ i = 24 ∨ i = 25 ∨ i = 26 ∨ i = 27 ∨ i = 28 ∨ i = 29 ∨ i = 30 ∨ i = 31 ∨ i = 32 ∨ i = 33 ∨ i = 34 ∨ i = 35 ∨ i = 36 ∨ i = 37 := by omega
      rcases hc with rfl | rfl | rfl | rfl | rfl | rfl | rfl | rfl | rfl | rfl | rfl | rfl | rfl | rfl | rfl | rfl | rfl | rfl | rfl | rfl | rfl | rfl | rfl | rfl | rfl | rfl | rfl | rfl | rfl | rfl | rfl | rfl | rfl | rfl | rfl | rfl | rfl | rfl
      · obtain rfl := Option.some.inj ho
        refine ⟨rfl, fun a w' hS hold hin K hK => ?_⟩
        refine if_always rfl ?_
        exact op_ld_by (.tmp 7) rfl rfl _ (eval_tmp ((hold 7 (slots_not (by kernel_rfl))).trans h7)) hS.2.2.2.2.1 (bytesN_len _) hK
      · obtain rfl := Option.some.inj ho
        refine ⟨rfl, fun a w' hS hold hin K hK => ?_⟩
        obtain ⟨y0, x0, rfl⟩ := hin 0 rfl (by omega)
        refine if_always rfl ?_
        exact op_fn1 _ _ _ _ rfl rfl (eval_tmp x0) (by intro args w; kernel_rfl) (below_ev Va HLa.out _) hK
      · obtain rfl := Option.some.inj ho
        refine ⟨rfl, fun a w' hS hold hin K hK => ?_⟩
        obtain ⟨y1, x1, rfl⟩ := hin 1 rfl (by omega)
        refine if_always rfl ?_
        exact op_un (V := (· = .bool false)) _ _ _ _ (.bool false) rfl rfl (eval_tmp x1) (fun w => by kernel_rfl) rfl hK
      · obtain rfl := Option.some.inj ho
        refine ⟨rfl, fun a w' hS hold hin K hK => ?_⟩
        obtain ⟨y2, x2, rfl⟩ := hin 2 rfl (by omega)
        refine if_always rfl ?_
        exact op_move (V := (· = .bool false)) _ _ rfl rfl (eval_tmp x2) rfl hK
      · obtain rfl := Option.some.inj ho
        refine ⟨rfl, fun a w' hS hold hin K hK => ?_⟩
        obtain ⟨y3, x3, rfl⟩ := hin 3 rfl (by omega)
        refine if_guard (d := 31) rfl rfl x3 ?_
        exact op_ld_by (.tmp 8) rfl rfl _ (eval_tmp ((hold 8 (slots_not (by kernel_rfl))).trans h8)) hS.2.2.2.2.2.1 (bytesN_len _) hK
      · obtain rfl := Option.some.inj ho
        refine ⟨rfl, fun a w' hS hold hin K hK => ?_⟩
        obtain ⟨y3, x3, rfl⟩ := hin 3 rfl (by omega)
        obtain ⟨y4, x4, rfl⟩ := hin 4 rfl (by omega)
        refine if_guard (d := 31) rfl rfl x3 ?_
        exact op_fn1 _ _ _ _ rfl rfl (eval_tmp x4) (by intro args w; kernel_rfl) (below_ev Vb HLb.out _) hK
      · obtain rfl := Option.some.inj ho
        refine ⟨rfl, fun a w' hS hold hin K hK => ?_⟩
        obtain ⟨y3, x3, rfl⟩ := hin 3 rfl (by omega)
        obtain ⟨y5, x5, rfl⟩ := hin 5 rfl (by omega)
        refine if_guard (d := 31) rfl rfl x3 ?_
        exact op_un (V := (· = .bool false)) _ _ _ _ (.bool false) rfl rfl (eval_tmp x5) (fun w => by kernel_rfl) rfl hK
      · obtain rfl := Option.some.inj ho
        refine ⟨rfl, fun a w' hS hold hin K hK => ?_⟩
        obtain ⟨y3, x3, rfl⟩ := hin 3 rfl (by omega)
        obtain ⟨y6, x6, rfl⟩ := hin 6 rfl (by omega)
        refine if_always rfl ?_
        exact op_pick (V := (· = .bool false)) _ _ _ false _ rfl rfl (eval_tmp x3) (show (Act.eval a _) = _ from (eval_tmp x6)) rfl hK
      · obtain rfl := Option.some.inj ho
        refine ⟨rfl, fun a w' hS hold hin K hK => ?_⟩
        obtain ⟨y7, x7, rfl⟩ := hin 7 rfl (by omega)
        refine if_always rfl ?_
        exact op_move (V := (· = .bool false)) _ _ rfl rfl (eval_tmp x7) rfl hK
      · obtain rfl := Option.some.inj ho
        refine ⟨rfl, fun a w' hS hold hin K hK => ?_⟩
        obtain ⟨y8, x8, rfl⟩ := hin 8 rfl (by omega)
        refine if_guard (d := 36) rfl rfl x8 ?_
        exact op_ld_by (.tmp 7) rfl rfl _ (eval_tmp ((hold 7 (slots_not (by kernel_rfl))).trans h7)) hS.2.2.2.2.1 (bytesN_len _) hK
      · obtain rfl := Option.some.inj ho
        refine ⟨rfl, fun a w' hS hold hin K hK => ?_⟩
        obtain ⟨y8, x8, rfl⟩ := hin 8 rfl (by omega)
        obtain ⟨y9, x9, rfl⟩ := hin 9 rfl (by omega)
        refine if_guard (d := 36) rfl rfl x8 ?_
        exact op_fn1 _ _ _ _ rfl rfl (eval_tmp x9) (by intro args w; kernel_rfl) (of_ev (bytesN Va) (bytesN_len _) (bytesN_byt _) (numF_bytes na Va HVa.out) _) hK
      · obtain rfl := Option.some.inj ho
        refine ⟨rfl, fun a w' hS hold hin K hK => ?_⟩
        obtain ⟨y8, x8, rfl⟩ := hin 8 rfl (by omega)
        refine if_guard (d := 36) rfl rfl x8 ?_
        exact op_ld_el (.tmp 5) rfl rfl _ (eval_tmp ((hold 5 (slots_not (by kernel_rfl))).trans h5)) hS.2.2.1 hK
      · obtain rfl := Option.some.inj ho
        refine ⟨rfl, fun a w' hS hold hin K hK => ?_⟩
        obtain ⟨y8, x8, rfl⟩ := hin 8 rfl (by omega)
        obtain ⟨y10, x10, (v10 : IsEl na y10)⟩ := hin 10 rfl (by omega)
        obtain ⟨y11, x11, (v11 : IsEl na y11)⟩ := hin 11 rfl (by omega)
        refine if_guard (d := 36) rfl rfl x8 ?_
        exact op_fn2 _ _ _ _ _ _ rfl rfl (eval_tmp x10) (eval_tmp x11) (by intro args w; kernel_rfl) (one_el v10 v11 rfl _) hK
      · obtain rfl := Option.some.inj ho
        refine ⟨rfl, fun a w' hS hold hin K hK => ?_⟩
        obtain ⟨y8, x8, rfl⟩ := hin 8 rfl (by omega)
        obtain ⟨y12, x12, rfl⟩ := hin 12 rfl (by omega)
        refine if_guard (d := 36) rfl rfl x8 ?_
        exact op_un (V := (· = .bool false)) _ _ _ _ (.bool false) rfl rfl (eval_tmp x12) (fun w => by kernel_rfl) rfl hK
      · obtain rfl := Option.some.inj ho
        refine ⟨rfl, fun a w' hS hold hin K hK => ?_⟩
        obtain ⟨y8, x8, rfl⟩ := hin 8 rfl (by omega)
        obtain ⟨y13, x13, rfl⟩ := hin 13 rfl (by omega)
        refine if_always rfl ?_
        exact op_pick (V := (· = .bool false)) _ _ _ false _ rfl rfl (eval_tmp x8) (show (Act.eval a _) = _ from (eval_tmp x13)) rfl hK
      · obtain rfl := Option.some.inj ho
        refine ⟨rfl, fun a w' hS hold hin K hK => ?_⟩
        obtain ⟨y14, x14, rfl⟩ := hin 14 rfl (by omega)
        refine if_always rfl ?_
        exact op_move (V := (· = .bool false)) _ _ rfl rfl (eval_tmp x14) rfl hK
      · obtain rfl := Option.some.inj ho
        refine ⟨rfl, fun a w' hS hold hin K hK => ?_⟩
        obtain ⟨y15, x15, rfl⟩ := hin 15 rfl (by omega)
        refine if_guard (d := 43) rfl rfl x15 ?_
        exact op_move (V := (· = .int .u64 18446744073709551615)) _ _ rfl rfl (eval_tmp ((hold 9 (slots_not (by kernel_rfl))).trans h9)) rfl hK
      · obtain rfl := Option.some.inj ho
        refine ⟨rfl, fun a w' hS hold hin K hK => ?_⟩
        obtain ⟨y15, x15, rfl⟩ := hin 15 rfl (by omega)
        obtain ⟨y16, x16, rfl⟩ := hin 16 rfl (by omega)
        refine if_guard (d := 43) rfl rfl x15 ?_
        exact op_bin (V := (· = .bool true)) _ _ _ _ _ _ _ (.bool true) rfl rfl (eval_tmp x16) rfl (fun w => by kernel_rfl) rfl hK
      · obtain rfl := Option.some.inj ho
        refine ⟨rfl, fun a w' hS hold hin K hK => ?_⟩
        obtain ⟨y15, x15, rfl⟩ := hin 15 rfl (by omega)
        obtain ⟨y17, x17, rfl⟩ := hin 17 rfl (by omega)
        refine if_guard (d := 43) rfl rfl x15 ?_
        exact op_move (V := (· = .bool true)) _ _ rfl rfl (eval_tmp x17) rfl hK
      · obtain rfl := Option.some.inj ho
        refine ⟨rfl, fun a w' hS hold hin K hK => ?_⟩
        obtain ⟨y18, x18, rfl⟩ := hin 18 rfl (by omega)
        refine if_guard (d := 46) rfl rfl x18 ?_
        exact op_move (V := (· = .int .u64 18446744073709551615)) _ _ rfl rfl (eval_tmp ((hold 9 (slots_not (by kernel_rfl))).trans h9)) rfl hK
      · obtain rfl := Option.some.inj ho
        refine ⟨rfl, fun a w' hS hold hin K hK => ?_⟩
        obtain ⟨y18, x18, rfl⟩ := hin 18 rfl (by omega)
        obtain ⟨y19, x19, rfl⟩ := hin 19 rfl (by omega)
        refine if_guard (d := 46) rfl rfl x18 ?_
        exact op_bin (V := (· = .bool false)) _ _ _ _ _ _ _ (.bool false) rfl rfl (eval_tmp x19) rfl (fun w => by kernel_rfl) rfl hK
      · obtain rfl := Option.some.inj ho
        refine ⟨rfl, fun a w' hS hold hin K hK => ?_⟩
        obtain ⟨y15, x15, rfl⟩ := hin 15 rfl (by omega)
        obtain ⟨y18, x18, rfl⟩ := hin 18 rfl (by omega)
        obtain ⟨y20, x20, rfl⟩ := hin 20 rfl (by omega)
        refine if_guard (d := 43) rfl rfl x15 ?_
        exact op_pick (V := (· = .bool false)) _ _ _ true _ rfl rfl (eval_tmp x18) (show (Act.eval a _) = _ from (eval_tmp x20)) rfl hK
      · obtain rfl := Option.some.inj ho
        refine ⟨rfl, fun a w' hS hold hin K hK => ?_⟩
        obtain ⟨y15, x15, rfl⟩ := hin 15 rfl (by omega)
        obtain ⟨y21, x21, rfl⟩ := hin 21 rfl (by omega)
        refine if_always rfl ?_
        exact op_pick (V := (· = .bool false)) _ _ _ false _ rfl rfl (eval_tmp x15) (show (Act.eval a _) = _ from (eval_tmp x21)) rfl hK
      · obtain rfl := Option.some.inj ho
        refine ⟨rfl, fun a w' hS hold hin K hK => ?_⟩
        obtain ⟨y22, x22, rfl⟩ := hin 22 rfl (by omega)
        refine if_always rfl ?_
        exact op_move (V := (· = .bool false)) _ _ rfl rfl (eval_tmp x22) rfl hK
      · obtain rfl := Option.some.inj ho
        refine ⟨rfl, fun a w' hS hold hin K hK => ?_⟩
        obtain ⟨y23, x23, rfl⟩ := hin 23 rfl (by omega)
        refine if_guard (d := 51) rfl rfl x23 ?_
        exact op_move (V := (· = .int .u64 18446744073709551615)) _ _ rfl rfl (eval_tmp ((hold 9 (slots_not (by kernel_rfl))).trans h9)) rfl hK
      · obtain rfl := Option.some.inj ho
        refine ⟨rfl, fun a w' hS hold hin K hK => ?_⟩
        obtain ⟨y23, x23, rfl⟩ := hin 23 rfl (by omega)
        obtain ⟨y24, x24, rfl⟩ := hin 24 rfl (by omega)
        refine if_guard (d := 51) rfl rfl x23 ?_
        exact op_bin (V := (· = .bool true)) _ _ _ _ _ _ _ (.bool true) rfl rfl (eval_tmp x24) rfl (fun w => by kernel_rfl) rfl hK
      · obtain rfl := Option.some.inj ho
        refine ⟨rfl, fun a w' hS hold hin K hK => ?_⟩
        obtain ⟨y23, x23, rfl⟩ := hin 23 rfl (by omega)
        refine if_guard (d := 51) rfl rfl x23 ?_
        exact op_ld_by (.tmp 7) rfl rfl _ (eval_tmp ((hold 7 (slots_not (by kernel_rfl))).trans h7)) hS.2.2.2.2.1 (bytesN_len _) hK
      · obtain rfl := Option.some.inj ho
        refine ⟨rfl, fun a w' hS hold hin K hK => ?_⟩
        obtain ⟨y23, x23, rfl⟩ := hin 23 rfl (by omega)
        refine if_guard (d := 51) rfl rfl x23 ?_
        exact op_ld_by (.tmp 8) rfl rfl _ (eval_tmp ((hold 8 (slots_not (by kernel_rfl))).trans h8)) hS.2.2.2.2.2.1 (bytesN_len _) hK
      · obtain rfl := Option.some.inj ho
        refine ⟨rfl, fun a w' hS hold hin K hK => ?_⟩
        obtain ⟨y23, x23, rfl⟩ := hin 23 rfl (by omega)
        obtain ⟨y26, x26, rfl⟩ := hin 26 rfl (by omega)
        obtain ⟨y27, x27, rfl⟩ := hin 27 rfl (by omega)
        refine if_guard (d := 51) rfl rfl x23 ?_
        exact op_bin (V := (· = .bool true)) _ _ _ _ _ _ _ (.bool true) rfl rfl (eval_tmp x26) (eval_tmp x27) (fun w => eql_by_as _ _ (bytesN_len _) (bytesN_len _) _ hbb w) rfl hK
      · obtain rfl := Option.some.inj ho
        refine ⟨rfl, fun a w' hS hold hin K hK => ?_⟩
        obtain ⟨y23, x23, rfl⟩ := hin 23 rfl (by omega)
        obtain ⟨y25, x25, rfl⟩ := hin 25 rfl (by omega)
        obtain ⟨y28, x28, rfl⟩ := hin 28 rfl (by omega)
        refine if_guard (d := 51) rfl rfl x23 ?_
        exact op_bin (V := (· = .bool false)) _ _ _ _ _ _ _ (.bool false) rfl rfl (eval_tmp x25) (eval_tmp x28) (fun w => by kernel_rfl) rfl hK
      · obtain rfl := Option.some.inj ho
        refine ⟨rfl, fun a w' hS hold hin K hK => ?_⟩
        obtain ⟨y23, x23, rfl⟩ := hin 23 rfl (by omega)
        obtain ⟨y29, x29, rfl⟩ := hin 29 rfl (by omega)
        refine if_always rfl ?_
        exact op_pick (V := (· = .bool false)) _ _ _ false _ rfl rfl (eval_tmp x23) (show (Act.eval a _) = _ from (eval_tmp x29)) rfl hK
      · obtain rfl := Option.some.inj ho
        refine ⟨rfl, fun a w' hS hold hin K hK => ?_⟩
        obtain ⟨y30, x30, rfl⟩ := hin 30 rfl (by omega)
        refine if_always rfl ?_
        exact op_move (V := (· = .bool false)) _ _ rfl rfl (eval_tmp x30) rfl hK
      · obtain rfl := Option.some.inj ho
        refine ⟨rfl, fun a w' hS hold hin K hK => ?_⟩
        obtain ⟨y31, x31, rfl⟩ := hin 31 rfl (by omega)
        refine if_guard (d := 59) rfl rfl x31 ?_
        exact op_move (V := (· = .int .u64 18446744073709551615)) _ _ rfl rfl (eval_tmp ((hold 9 (slots_not (by kernel_rfl))).trans h9)) rfl hK
      · obtain rfl := Option.some.inj ho
        refine ⟨rfl, fun a w' hS hold hin K hK => ?_⟩
        obtain ⟨y31, x31, rfl⟩ := hin 31 rfl (by omega)
        refine if_guard (d := 59) rfl rfl x31 ?_
        exact op_ld_el (.tmp 6) rfl rfl _ (eval_tmp ((hold 6 (slots_not (by kernel_rfl))).trans h6)) hS.2.2.2.1 hK
      · obtain rfl := Option.some.inj ho
        refine ⟨rfl, fun a w' hS hold hin K hK => ?_⟩
        obtain ⟨y31, x31, rfl⟩ := hin 31 rfl (by omega)
        refine if_guard (d := 59) rfl rfl x31 ?_
        exact op_ld_el (.tmp 5) rfl rfl _ (eval_tmp ((hold 5 (slots_not (by kernel_rfl))).trans h5)) hS.2.2.1 hK
      · obtain rfl := Option.some.inj ho
        refine ⟨rfl, fun a w' hS hold hin K hK => ?_⟩
        obtain ⟨y31, x31, rfl⟩ := hin 31 rfl (by omega)
        obtain ⟨y33, x33, (v33 : IsEl nb y33)⟩ := hin 33 rfl (by omega)
        obtain ⟨y34, x34, (v34 : IsEl na y34)⟩ := hin 34 rfl (by omega)
        refine if_guard (d := 59) rfl rfl x31 ?_
        exact op_fn2 _ _ _ _ _ _ rfl rfl (eval_tmp x33) (eval_tmp x34) (by intro args w; kernel_rfl) (equal_el_yes v33 v34 (hab.symm) _) hK
      · obtain rfl := Option.some.inj ho
        refine ⟨rfl, fun a w' hS hold hin K hK => ?_⟩
        obtain ⟨y31, x31, rfl⟩ := hin 31 rfl (by omega)
        obtain ⟨y32, x32, rfl⟩ := hin 32 rfl (by omega)
        obtain ⟨y35, x35, rfl⟩ := hin 35 rfl (by omega)
        refine if_guard (d := 59) rfl rfl x31 ?_
        exact op_bin (V := (· = .bool false)) _ _ _ _ _ _ _ (.bool false) rfl rfl (eval_tmp x32) (eval_tmp x35) (fun w => by kernel_rfl) rfl hK
      · obtain rfl := Option.some.inj ho
        refine ⟨rfl, fun a w' hS hold hin K hK => ?_⟩
        obtain ⟨y31, x31, rfl⟩ := hin 31 rfl (by omega)
        obtain ⟨y36, x36, rfl⟩ := hin 36 rfl (by omega)
        refine if_always rfl ?_
        exact op_pick (V := (· = .bool false)) _ _ _ false _ rfl rfl (eval_tmp x31) (show (Act.eval a _) = _ from (eval_tmp x36)) rfl hK
    clear hS
    intro t1 W4 hs hold hout hS
    replace HS := hs.trans HS
    obtain ⟨_, q65, rfl⟩ : ∃ x, t1[65]? = some x ∧ x = (.bool false : Value) := hout 37 (by omega)
    obtain ⟨f, e0, hf⟩ := wash HS
    have f65 := hf 65 _ q65
    have f2 := hf 2 _ ((hold 2 (slots_not (by kernel_rfl))).trans h2)
    have f3 := hf 3 _ ((hold 3 (slots_not (by kernel_rfl))).trans h3)
    have f5 := hf 5 _ ((hold 5 (slots_not (by kernel_rfl))).trans h5)
    have f6 := hf 6 _ ((hold 6 (slots_not (by kernel_rfl))).trans h6)
    have f7 := hf 7 _ ((hold 7 (slots_not (by kernel_rfl))).trans h7)
    have f8 := hf 8 _ ((hold 8 (slots_not (by kernel_rfl))).trans h8)
    have f9 := hf 9 _ ((hold 9 (slots_not (by kernel_rfl))).trans h9)
    clear hf
    rw [e0.trans (show _ = #[f 0, f 1, f 2, f 3, f 4, f 5, f 6, f 7, f 8, f 9, f 10, f 11, f 12, f 13, f 14, f 15, f 16, f 17, f 18, f 19, f 20, f 21, f 22, f 23, f 24, f 25, f 26, f 27, f 28, f 29, f 30, f 31, f 32, f 33, f 34, f 35, f 36, f 37, f 38, f 39, f 40, f 41, f 42, f 43, f 44, f 45, f 46, f 47, f 48, f 49, f 50, f 51, f 52, f 53, f 54, f 55, f 56, f 57, f 58, f 59, f 60, f 61, f 62, f 63, f 64, f 65, f 66, f 67, f 68, f 69, f 70, f 71, f 72, f 73, f 74, f 75, f 76, f 77, f 78, f 79, f 80, f 81, f 82, f 83, f 84, f 85, f 86, f 87, f 88, f 89, f 90, f 91, f 92, f 93, f 94, f 95, f 96, f 97, f 98, f 99, f 100, f 101, f 102, f 103, f 104, f 105, f 106, f 107, f 108, f 109, f 110, f 111] from by kernel_rfl), f65, f2, f3, f5, f6, f7, f8, f9]
    clear f65 f2 f3 f5 f6 f7 f8 f9
    clear e0
    dsimp only
    clear h2 h3 h5 h6 h7 h8 h9 q65 hold hout hs HS t1 t0
    have hS' := hS
    clear hS
    have hS : BytesAt La w.heap.size W4 ∧ BytesAt Lb (w.heap.size + 1) W4 ∧ ElAt na gx W4 ∧ ElAt nb gy W4 ∧ BytesAt (bytesN Va) gp W4 ∧ BytesAt (bytesN Vb) gq W4 ∧ Below w.heap.size w W4 := ⟨hS'.1, hS'.2.1, hS'.2.2.1, hS'.2.2.2.1, hS'.2.2.2.2.1, hS'.2.2.2.2.2.1, hS'.2.2.2.2.2.2.1⟩
    clear hS' lt0 lt1 lt2 lt3 lt4 lt5
    clear hM
    clear M
    go_wp2_with ((with_reducible refine guard_list ?_); first | (refine held_load 26 _ rfl ?_) | (refine held_load 22 _ rfl ?_))
    clear hbb hab
    obtain ⟨M, hM⟩ : ∃ M, M = W4.heap.size := ⟨_, rfl⟩
    have hMB : w.heap.size ≤ M := hM ▸ (hS.2.2.2.2.2.2).size
    have lt0 := (hS.1).lt
    have lt1 := (hS.2.1).lt
    have lt2 := (hS.2.2.1).lt
    have lt3 := (hS.2.2.2.1).lt
    have lt4 := (hS.2.2.2.2.1).lt
    have lt5 := (hS.2.2.2.2.2.1).lt
    rw [← hM] at lt0 lt1 lt2 lt3 lt4 lt5
    refine hide_held fun t0 HT => ?_
    have HS : t0.size = 112 := by rw [HT]; rfl
    have h2 : t0[2]? = some (.pointer (some ⟨w.heap.size, 0, none⟩)) := by rw [HT]; rfl
    have h3 : t0[3]? = some (.pointer (some ⟨(w.heap.size + 1), 0, none⟩)) := by rw [HT]; rfl
    have h5 : t0[5]? = some (.pointer (some ⟨gx, 0, none⟩)) := by rw [HT]; rfl
    have h6 : t0[6]? = some (.pointer (some ⟨gy, 0, none⟩)) := by rw [HT]; rfl
    have h7 : t0[7]? = some (.pointer (some ⟨gp, 0, none⟩)) := by rw [HT]; rfl
    have h8 : t0[8]? = some (.pointer (some ⟨gq, 0, none⟩)) := by rw [HT]; rfl
    clear HT
    refine wp_list_most 2 (fun i => [66, 10].getD i 0) (fun i => [none, some 32].getD i none) (fun i => [(· = .agg (vals La)), (fun _ => True)].getD i (fun _ => True)) (fun w' => BytesAt La w.heap.size w' ∧ BytesAt Lb (w.heap.size + 1) w' ∧ ElAt na gx w' ∧ ElAt nb gy w' ∧ BytesAt (bytesN Va) gp w' ∧ BytesAt (bytesN Vb) gq w' ∧ Below w.heap.size w w' ∧ M ≤ w'.heap.size) M
      (by kernel_rfl) (slots_apart (by kernel_rfl)) (slots_lie (by rw [HS]; kernel_rfl)) ⟨hS.1, hS.2.1, hS.2.2.1, hS.2.2.2.1, hS.2.2.2.2.1, hS.2.2.2.2.2.1, hS.2.2.2.2.2.2, Nat.le_of_eq hM⟩ (fun w' h => h.2.2.2.2.2.2.2) (fun w1 w2 h b => ⟨(h.1).keep b, (h.2.1).keep b, (h.2.2.1).keep b, (h.2.2.2.1).keep b, (h.2.2.2.2.1).keep b, (h.2.2.2.2.2.1).keep b, below_call b h.2.2.2.2.2.2.1, Nat.le_trans h.2.2.2.2.2.2.2 b.size⟩) ?_ ?_ ?_
    · clear hS
      intro i o hi ho hA
      have hc : i = 0 ∨ i = 1 := by omega
      rcases hc with rfl | rfl
      · obtain rfl := Option.some.inj ho
        refine ⟨rfl, fun a w' hS hold hin K hK => ?_⟩
        refine if_always rfl ?_
        exact op_ld_by (.tmp 2) rfl rfl _ (eval_tmp ((hold 2 (slots_not (by kernel_rfl))).trans h2)) hS.1 HLLa.out hK
      · cases hA
    · intro i o sz hi ho hA
      have hc : i = 0 ∨ i = 1 := by omega
      rcases hc with rfl | rfl
      · cases hA
      · obtain rfl := Option.some.inj ho
        obtain rfl := Option.some.inj hA
        exact ⟨rfl, rfl, 22, #[.int .u8 0, .int .u8 0, .int .u8 0, .int .u8 0, .int .u8 0, .int .u8 0, .int .u8 0, .int .u8 0, .int .u8 0, .int .u8 0, .int .u8 0, .int .u8 0, .int .u8 0, .int .u8 0, .int .u8 0, .int .u8 0, .int .u8 0, .int .u8 0, .int .u8 0, .int .u8 0, .int .u8 0, .int .u8 0, .int .u8 0, .int .u8 0, .int .u8 0, .int .u8 0, .int .u8 0, .int .u8 0, .int .u8 0, .int .u8 0, .int .u8 0, .int .u8 0], rfl, fun a w' K h => wp_new 22 #[.int .u8 0, .int .u8 0, .int .u8 0, .int .u8 0, .int .u8 0, .int .u8 0, .int .u8 0, .int .u8 0, .int .u8 0, .int .u8 0, .int .u8 0, .int .u8 0, .int .u8 0, .int .u8 0, .int .u8 0, .int .u8 0, .int .u8 0, .int .u8 0, .int .u8 0, .int .u8 0, .int .u8 0, .int .u8 0, .int .u8 0, .int .u8 0, .int .u8 0, .int .u8 0, .int .u8 0, .int .u8 0, .int .u8 0, .int .u8 0, .int .u8 0, .int .u8 0] (fun w => by kernel_rfl) h⟩
    clear hS
    intro t1 V5 hs hold hout hall hne hS
    replace HS := hs.trans HS
    obtain ⟨gh, h10, b10, r10⟩ : ∃ g, t1[10]? = some (.pointer (some ⟨g, 0, none⟩)) ∧ M ≤ g ∧ RowAt 32 g V5 := by
      obtain ⟨g, p1, p2, ty, cs, p3, p4⟩ := hall 1 (by omega) 32 rfl
      exact ⟨g, p1, p2, cs, ty, p3, p4⟩
    obtain ⟨x66, q66, v66⟩ : ∃ x, t1[66]? = some x ∧ ((· = .agg (vals La))) x := hout 0 (by omega) rfl
    replace h2 := (hold 2 (slots_not (by kernel_rfl))).trans h2
    replace h3 := (hold 3 (slots_not (by kernel_rfl))).trans h3
    replace h5 := (hold 5 (slots_not (by kernel_rfl))).trans h5
    replace h6 := (hold 6 (slots_not (by kernel_rfl))).trans h6
    replace h7 := (hold 7 (slots_not (by kernel_rfl))).trans h7
    replace h8 := (hold 8 (slots_not (by kernel_rfl))).trans h8
    clear hold hout hall hne hs
    simp only [List.drop_succ_cons, List.drop_zero]
    have bb := Below.refl M V5
    refine st_by rfl (.tmp 10) (.tmp 66) rfl rfl _ _ (eval_tmp h10) (eval_tmp q66) v66 HLLa.out r10 fun V5' e10 p10 => ?_
    replace bb := bb.trans (p10.2.mono b10)
    refine wpList_nil ?_
    have hS2 : BytesAt La w.heap.size V5' ∧ BytesAt Lb (w.heap.size + 1) V5' ∧ ElAt na gx V5' ∧ ElAt nb gy V5' ∧ BytesAt (bytesN Va) gp V5' ∧ BytesAt (bytesN Vb) gq V5' ∧ BytesAt La gh V5' ∧ Below w.heap.size w V5' := ⟨(hS.1).under bb lt0, (hS.2.1).under bb lt1, (hS.2.2.1).under bb lt2, (hS.2.2.2.1).under bb lt3, (hS.2.2.2.2.1).under bb lt4, (hS.2.2.2.2.2.1).under bb lt5, e10, (hS.2.2.2.2.2.2.1).trans (bb.mono hMB)⟩
    have a10_w : w.heap.size ≤ gh := Nat.le_trans hMB b10
    have a10_0 : w.heap.size ≠ gh := Nat.ne_of_lt (Nat.lt_of_lt_of_le lt0 b10)
    have a10_1 : (w.heap.size + 1) ≠ gh := Nat.ne_of_lt (Nat.lt_of_lt_of_le lt1 b10)
    have a10_2 : gx ≠ gh := Nat.ne_of_lt (Nat.lt_of_lt_of_le lt2 b10)
    have a10_3 : gy ≠ gh := Nat.ne_of_lt (Nat.lt_of_lt_of_le lt3 b10)
    have a10_4 : gp ≠ gh := Nat.ne_of_lt (Nat.lt_of_lt_of_le lt4 b10)
    have a10_5 : gq ≠ gh := Nat.ne_of_lt (Nat.lt_of_lt_of_le lt5 b10)
    obtain ⟨f, e0, hf⟩ := wash HS
    have f2 := hf 2 _ h2
    have f3 := hf 3 _ h3
    have f5 := hf 5 _ h5
    have f6 := hf 6 _ h6
    have f7 := hf 7 _ h7
    have f8 := hf 8 _ h8
    have f10 := hf 10 _ h10
    clear hf
    rw [e0.trans (show _ = #[f 0, f 1, f 2, f 3, f 4, f 5, f 6, f 7, f 8, f 9, f 10, f 11, f 12, f 13, f 14, f 15, f 16, f 17, f 18, f 19, f 20, f 21, f 22, f 23, f 24, f 25, f 26, f 27, f 28, f 29, f 30, f 31, f 32, f 33, f 34, f 35, f 36, f 37, f 38, f 39, f 40, f 41, f 42, f 43, f 44, f 45, f 46, f 47, f 48, f 49, f 50, f 51, f 52, f 53, f 54, f 55, f 56, f 57, f 58, f 59, f 60, f 61, f 62, f 63, f 64, f 65, f 66, f 67, f 68, f 69, f 70, f 71, f 72, f 73, f 74, f 75, f 76, f 77, f 78, f 79, f 80, f 81, f 82, f 83, f 84, f 85, f 86, f 87, f 88, f 89, f 90, f 91, f 92, f 93, f 94, f 95, f 96, f 97, f 98, f 99, f 100, f 101, f 102, f 103, f 104, f 105, f 106, f 107, f 108, f 109, f 110, f 111] from by kernel_rfl), f2, f3, f5, f6, f7, f8, f10]
    clear f2 f3 f5 f6 f7 f8 f10
    clear e0
    dsimp only
    clear hS
    have hS := hS2
    clear hS2
    clear h2 h3 h5 h6 h7 h8 h10 p10 r10 b10 e10 v66 q66 lt0 lt1 lt2 lt3 lt4 lt5 hMB bb HS t1 t0 hM M
    obtain ⟨tH, RH⟩ := hS.2.2.2.2.2.2.1
    have c31 := (row_cell RH 31).trans (vals_get (by rw [HLLa.out]; omega))
    have fz := row_free RH 31
    have SH := row_set (i := 31) (v := .int .u8 (bits .xor .u8 (nth La 31) 128)) RH
    rw [vals_set] at SH
    have hS2 : BytesAt La w.heap.size (V5'.setCell ⟨gh, 31, none⟩ (.int .u8 (bits .xor .u8 (nth La 31) 128))) ∧ BytesAt Lb (w.heap.size + 1) (V5'.setCell ⟨gh, 31, none⟩ (.int .u8 (bits .xor .u8 (nth La 31) 128))) ∧ ElAt na gx (V5'.setCell ⟨gh, 31, none⟩ (.int .u8 (bits .xor .u8 (nth La 31) 128))) ∧ ElAt nb gy (V5'.setCell ⟨gh, 31, none⟩ (.int .u8 (bits .xor .u8 (nth La 31) 128))) ∧ BytesAt (bytesN Va) gp (V5'.setCell ⟨gh, 31, none⟩ (.int .u8 (bits .xor .u8 (nth La 31) 128))) ∧ BytesAt (bytesN Vb) gq (V5'.setCell ⟨gh, 31, none⟩ (.int .u8 (bits .xor .u8 (nth La 31) 128))) ∧ BytesAt (La.set 31 (bits .xor .u8 (nth La 31) 128)) gh (V5'.setCell ⟨gh, 31, none⟩ (.int .u8 (bits .xor .u8 (nth La 31) 128))) ∧ Below w.heap.size w (V5'.setCell ⟨gh, 31, none⟩ (.int .u8 (bits .xor .u8 (nth La 31) 128))) := ⟨(hS.1).of_eq (heap_setCell_other _ _ _ _ a10_0), (hS.2.1).of_eq (heap_setCell_other _ _ _ _ a10_1), (hS.2.2.1).of_eq (heap_setCell_other _ _ _ _ a10_2), (hS.2.2.2.1).of_eq (heap_setCell_other _ _ _ _ a10_3), (hS.2.2.2.2.1).of_eq (heap_setCell_other _ _ _ _ a10_4), (hS.2.2.2.2.2.1).of_eq (heap_setCell_other _ _ _ _ a10_5), ⟨_, SH⟩, by have hB9 := hS.2.2.2.2.2.2.2; have hlt9 := a10_w; go_grown⟩
    have HS2 := Lib.hid hS2
    have hx128 := xor128 _ (hbLa.nth 31).1 (hbLa.nth 31).2
    have h31 := hbLa.nth 31
    have hr31 : 0 ≤ bits .xor .u8 (nth La 31) 128 ∧ bits .xor .u8 (nth La 31) 128 < 256 := by rw [hx128]; split <;> omega
    clear hS2 SH RH hS hx128 a10_0 a10_1 a10_2 a10_3 a10_4 a10_5
    have HLH := Lib.hid (show (La.set 31 (bits .xor .u8 (nth La 31) 128)).length = 32 by rw [List.length_set]; exact HLLa.out)
    have HHI := Lib.hid (high_same La HLLa.out hbLa)
    generalize La.set 31 (bits .xor .u8 (nth La 31) 128) = LH at HS2 HLH HHI
    go_wp2_with fail
    generalize (V5'.setCell ⟨gh, 31, none⟩ (.int .u8 (bits .xor .u8 (nth La 31) 128))) = W9 at HS2 ⊢
    have hS := HS2.out
    clear HS2 h31 hr31 c31 fz a10_w
    have hz0 : decide (bytesN Va = bytesN 0) = decide (na = 0) := bytes_same HVa.out rfl
    obtain ⟨M, hM⟩ : ∃ M, M = W9.heap.size := ⟨_, rfl⟩
    have lt0 := (hS.1).lt
    have lt1 := (hS.2.1).lt
    have lt2 := (hS.2.2.1).lt
    have lt3 := (hS.2.2.2.1).lt
    have lt4 := (hS.2.2.2.2.1).lt
    have lt5 := (hS.2.2.2.2.2.1).lt
    have lt6 := (hS.2.2.2.2.2.2.1).lt
    rw [← hM] at lt0 lt1 lt2 lt3 lt4 lt5 lt6
    refine hide_frame fun t0 HT => ?_
    have HS : t0.size = 112 := by rw [HT]; rfl
    have h2 : t0[2]? = some (.pointer (some ⟨w.heap.size, 0, none⟩)) := by rw [HT]; rfl
    have h3 : t0[3]? = some (.pointer (some ⟨(w.heap.size + 1), 0, none⟩)) := by rw [HT]; rfl
    have h5 : t0[5]? = some (.pointer (some ⟨gx, 0, none⟩)) := by rw [HT]; rfl
    have h6 : t0[6]? = some (.pointer (some ⟨gy, 0, none⟩)) := by rw [HT]; rfl
    have h7 : t0[7]? = some (.pointer (some ⟨gp, 0, none⟩)) := by rw [HT]; rfl
    have h8 : t0[8]? = some (.pointer (some ⟨gq, 0, none⟩)) := by rw [HT]; rfl
    have h10 : t0[10]? = some (.pointer (some ⟨gh, 0, none⟩)) := by rw [HT]; rfl
    clear HT
    refine wp_region_all 13 (fun i => [71, 72, 73, 74, 75, 76, 77, 78, 79, 80, 81, 82, 83, 84].getD i 0) (fun i => [(· = .agg (vals LH)), IsEl na, IsEl na, (· = .bool true), (· = .bool false), (· = .bool false), IsEl na, (· = .int .u64 (mk (decide (na = 0)))), (· = .bool (decide (na = 0))), (· = .agg (vals (bytesN Va))), (· = .agg (vals (bytesN 0))), (· = .bool (decide (na = 0))), (· = .bool false), (· = .bool false)].getD i (fun _ => True)) (fun w' => BytesAt La w.heap.size w' ∧ BytesAt Lb (w.heap.size + 1) w' ∧ ElAt na gx w' ∧ ElAt nb gy w' ∧ BytesAt (bytesN Va) gp w' ∧ BytesAt (bytesN Vb) gq w' ∧ BytesAt LH gh w' ∧ Below w.heap.size w w' ∧ M ≤ w'.heap.size)
      (by kernel_rfl) (by kernel_rfl) (by kernel_rfl) (slots_apart (by kernel_rfl)) (slots_lie (by rw [HS]; kernel_rfl)) ⟨hS.1, hS.2.1, hS.2.2.1, hS.2.2.2.1, hS.2.2.2.2.1, hS.2.2.2.2.2.1, hS.2.2.2.2.2.2.1, (hS.2.2.2.2.2.2.2).drew, Nat.le_of_eq hM⟩ (fun w1 w2 h b => ⟨(h.1).keep b, (h.2.1).keep b, (h.2.2.1).keep b, (h.2.2.2.1).keep b, (h.2.2.2.2.1).keep b, (h.2.2.2.2.2.1).keep b, (h.2.2.2.2.2.2.1).keep b, below_call b h.2.2.2.2.2.2.2.1, Nat.le_trans h.2.2.2.2.2.2.2.2 b.size⟩) ?_ ?_
    · clear hS
      intro i o hi ho
      have hc : i = 0 ∨ i = 1 ∨ i = 2 ∨ i = 3 ∨ i = 4 ∨ i = 5 ∨ i = 6 ∨ i = 7 ∨ i = 8 ∨ i = 9 ∨ i = 10 ∨ i = 11 ∨ i = 12 ∨ i = 13 := by omega
      rcases hc with rfl | rfl | rfl | rfl | rfl | rfl | rfl | rfl | rfl | rfl | rfl | rfl | rfl | rfl
      · obtain rfl := Option.some.inj ho
        refine ⟨rfl, fun a w' hS hold hin K hK => ?_⟩
        refine if_always rfl ?_
        exact op_ld_by (.tmp 10) rfl rfl _ (eval_tmp ((hold 10 (slots_not (by kernel_rfl))).trans h10)) hS.2.2.2.2.2.2.1 HLH.out hK
      · obtain rfl := Option.some.inj ho
        refine ⟨rfl, fun a w' hS hold hin K hK => ?_⟩
        obtain ⟨y0, x0, rfl⟩ := hin 0 rfl (by omega)
        refine if_always rfl ?_
        exact op_fn1 _ _ _ _ rfl rfl (eval_tmp x0) (by intro args w; kernel_rfl) (of_ev LH HLH.out HHI.out.2 (HHI.out.1.trans Hna.out) _) hK
      · obtain rfl := Option.some.inj ho
        refine ⟨rfl, fun a w' hS hold hin K hK => ?_⟩
        refine if_always rfl ?_
        exact op_ld_el (.tmp 5) rfl rfl _ (eval_tmp ((hold 5 (slots_not (by kernel_rfl))).trans h5)) hS.2.2.1 hK
      · obtain rfl := Option.some.inj ho
        refine ⟨rfl, fun a w' hS hold hin K hK => ?_⟩
        obtain ⟨y1, x1, (v1 : IsEl na y1)⟩ := hin 1 rfl (by omega)
        obtain ⟨y2, x2, (v2 : IsEl na y2)⟩ := hin 2 rfl (by omega)
        refine if_always rfl ?_
        exact op_fn2 _ _ _ _ _ _ rfl rfl (eval_tmp x1) (eval_tmp x2) (by intro args w; kernel_rfl) (one_el v1 v2 rfl _) hK
      · obtain rfl := Option.some.inj ho
        refine ⟨rfl, fun a w' hS hold hin K hK => ?_⟩
        obtain ⟨y3, x3, rfl⟩ := hin 3 rfl (by omega)
        refine if_always rfl ?_
        exact op_un (V := (· = .bool false)) _ _ _ _ (.bool false) rfl rfl (eval_tmp x3) (fun w => by kernel_rfl) rfl hK
      · obtain rfl := Option.some.inj ho
        refine ⟨rfl, fun a w' hS hold hin K hK => ?_⟩
        obtain ⟨y4, x4, rfl⟩ := hin 4 rfl (by omega)
        refine if_always rfl ?_
        exact op_move (V := (· = .bool false)) _ _ rfl rfl (eval_tmp x4) rfl hK
      · obtain rfl := Option.some.inj ho
        refine ⟨rfl, fun a w' hS hold hin K hK => ?_⟩
        obtain ⟨y5, x5, rfl⟩ := hin 5 rfl (by omega)
        refine if_guard (d := 76) rfl rfl x5 ?_
        exact op_ld_el (.tmp 5) rfl rfl _ (eval_tmp ((hold 5 (slots_not (by kernel_rfl))).trans h5)) hS.2.2.1 hK
      · obtain rfl := Option.some.inj ho
        refine ⟨rfl, fun a w' hS hold hin K hK => ?_⟩
        obtain ⟨y5, x5, rfl⟩ := hin 5 rfl (by omega)
        obtain ⟨y6, x6, (v6 : IsEl na y6)⟩ := hin 6 rfl (by omega)
        refine if_guard (d := 76) rfl rfl x5 ?_
        exact op_fn1 _ _ _ _ rfl rfl (eval_tmp x6) (by intro args w; kernel_rfl) (zero_el v6 _) hK
      · obtain rfl := Option.some.inj ho
        refine ⟨rfl, fun a w' hS hold hin K hK => ?_⟩
        obtain ⟨y5, x5, rfl⟩ := hin 5 rfl (by omega)
        obtain ⟨y7, x7, rfl⟩ := hin 7 rfl (by omega)
        refine if_guard (d := 76) rfl rfl x5 ?_
        exact op_bin (V := (· = .bool (decide (na = 0)))) _ _ _ _ _ _ _ (.bool (decide (na = 0))) rfl rfl (eval_tmp x7) rfl (fun w => eql_mk _ w) rfl hK
      · obtain rfl := Option.some.inj ho
        refine ⟨rfl, fun a w' hS hold hin K hK => ?_⟩
        obtain ⟨y5, x5, rfl⟩ := hin 5 rfl (by omega)
        refine if_guard (d := 76) rfl rfl x5 ?_
        exact op_ld_by (.tmp 7) rfl rfl _ (eval_tmp ((hold 7 (slots_not (by kernel_rfl))).trans h7)) hS.2.2.2.2.1 (bytesN_len _) hK
      · obtain rfl := Option.some.inj ho
        refine ⟨rfl, fun a w' hS hold hin K hK => ?_⟩
        obtain ⟨y5, x5, rfl⟩ := hin 5 rfl (by omega)
        refine if_guard (d := 76) rfl rfl x5 ?_
        exact op_val (V := (· = .agg (vals (bytesN 0)))) (.agg (vals (bytesN 0))) rfl (by kernel_rfl) rfl hK
      · obtain rfl := Option.some.inj ho
        refine ⟨rfl, fun a w' hS hold hin K hK => ?_⟩
        obtain ⟨y5, x5, rfl⟩ := hin 5 rfl (by omega)
        obtain ⟨y9, x9, rfl⟩ := hin 9 rfl (by omega)
        obtain ⟨y10, x10, rfl⟩ := hin 10 rfl (by omega)
        refine if_guard (d := 76) rfl rfl x5 ?_
        exact op_bin (V := (· = .bool (decide (na = 0)))) _ _ _ _ _ _ _ (.bool (decide (na = 0))) rfl rfl (eval_tmp x9) (eval_tmp x10) (fun w => eql_by_as _ _ (bytesN_len _) (bytesN_len _) _ hz0 w) rfl hK
      · obtain rfl := Option.some.inj ho
        refine ⟨rfl, fun a w' hS hold hin K hK => ?_⟩
        obtain ⟨y5, x5, rfl⟩ := hin 5 rfl (by omega)
        obtain ⟨y8, x8, rfl⟩ := hin 8 rfl (by omega)
        obtain ⟨y11, x11, rfl⟩ := hin 11 rfl (by omega)
        refine if_guard (d := 76) rfl rfl x5 ?_
        exact op_bin (V := (· = .bool false)) _ _ _ _ _ _ _ (.bool false) rfl rfl (eval_tmp x8) (eval_tmp x11) (fun w => neq_same _ _ rfl w) rfl hK
      · obtain rfl := Option.some.inj ho
        refine ⟨rfl, fun a w' hS hold hin K hK => ?_⟩
        obtain ⟨y5, x5, rfl⟩ := hin 5 rfl (by omega)
        obtain ⟨y12, x12, rfl⟩ := hin 12 rfl (by omega)
        refine if_always rfl ?_
        exact op_pick (V := (· = .bool false)) _ _ _ false _ rfl rfl (eval_tmp x5) (show (Act.eval a _) = _ from (eval_tmp x12)) rfl hK
    clear hS
    intro t1 W6 hs hold hout hS
    replace HS := hs.trans HS
    obtain ⟨_, q84, rfl⟩ : ∃ x, t1[84]? = some x ∧ x = (.bool false : Value) := hout 13 (by omega)
    obtain ⟨f, e0, hf⟩ := wash HS
    have f84 := hf 84 _ q84
    have f2 := hf 2 _ ((hold 2 (slots_not (by kernel_rfl))).trans h2)
    have f3 := hf 3 _ ((hold 3 (slots_not (by kernel_rfl))).trans h3)
    have f5 := hf 5 _ ((hold 5 (slots_not (by kernel_rfl))).trans h5)
    have f6 := hf 6 _ ((hold 6 (slots_not (by kernel_rfl))).trans h6)
    have f7 := hf 7 _ ((hold 7 (slots_not (by kernel_rfl))).trans h7)
    have f8 := hf 8 _ ((hold 8 (slots_not (by kernel_rfl))).trans h8)
    have f10 := hf 10 _ ((hold 10 (slots_not (by kernel_rfl))).trans h10)
    clear hf
    rw [e0.trans (show _ = #[f 0, f 1, f 2, f 3, f 4, f 5, f 6, f 7, f 8, f 9, f 10, f 11, f 12, f 13, f 14, f 15, f 16, f 17, f 18, f 19, f 20, f 21, f 22, f 23, f 24, f 25, f 26, f 27, f 28, f 29, f 30, f 31, f 32, f 33, f 34, f 35, f 36, f 37, f 38, f 39, f 40, f 41, f 42, f 43, f 44, f 45, f 46, f 47, f 48, f 49, f 50, f 51, f 52, f 53, f 54, f 55, f 56, f 57, f 58, f 59, f 60, f 61, f 62, f 63, f 64, f 65, f 66, f 67, f 68, f 69, f 70, f 71, f 72, f 73, f 74, f 75, f 76, f 77, f 78, f 79, f 80, f 81, f 82, f 83, f 84, f 85, f 86, f 87, f 88, f 89, f 90, f 91, f 92, f 93, f 94, f 95, f 96, f 97, f 98, f 99, f 100, f 101, f 102, f 103, f 104, f 105, f 106, f 107, f 108, f 109, f 110, f 111] from by kernel_rfl), f84, f2, f3, f5, f6, f7, f8, f10]
    clear f84 f2 f3 f5 f6 f7 f8 f10
    clear e0
    dsimp only
    clear h2 h3 h5 h6 h7 h8 h10 q84 hold hout hs HS t1 t0
    have hS' := hS
    clear hS
    have hS : BytesAt La w.heap.size W6 ∧ BytesAt Lb (w.heap.size + 1) W6 ∧ ElAt na gx W6 ∧ ElAt nb gy W6 ∧ BytesAt (bytesN Va) gp W6 ∧ BytesAt (bytesN Vb) gq W6 ∧ BytesAt LH gh W6 ∧ Below w.heap.size w W6 := ⟨hS'.1, hS'.2.1, hS'.2.2.1, hS'.2.2.2.1, hS'.2.2.2.2.1, hS'.2.2.2.2.2.1, hS'.2.2.2.2.2.2.1, hS'.2.2.2.2.2.2.2.1⟩
    clear hS' lt0 lt1 lt2 lt3 lt4 lt5 lt6
    clear hM
    clear M
    have hBW := hS.2.2.2.2.2.2.2
    clear hS hz0
    go_wp2_with fail
    go_loopw [11] (fun i wr => ∃ k : Nat, k ≤ 20 ∧ i = .int .u8 k ∧ Below w.heap.size w wr) (fun i _ => 20 - (intOf i).toNat)
    case atStart => exact ⟨0, by omega, rfl, hBW⟩
    case round =>
      obtain ⟨k, hk, rfl, Bk⟩ := hrel
      clear hBW
      obtain ⟨wo, hwo⟩ : ∃ wo, wo = wr := ⟨_, rfl⟩
      subst hwo
      by_cases hlt : k < 20
      · go_wp2_with fail
        have hsz := Bk.size
        go_loopw [13] (fun i wr => ∃ j : Nat, j ≤ 32 ∧ i = .int .i64 j ∧ wr.heap[wo.heap.size]? = some (.cells (vals (f32.take j ++ z32.drop j)) 22 (0, 0)) ∧ Below w.heap.size w wr) (fun i _ => 32 - (intOf i).toNat)
        case atStart => exact ⟨0, by omega, rfl, row_new, by go_grown⟩
        case round =>
          obtain ⟨j, hj, rfl, Rc, Bj⟩ := hrel
          by_cases hjl : j < 32
          · have cz := (row_cell Rc j).trans (vals_get (by rw [fill_len f32 z32 j rfl hj]; exact hjl))
            have fc := row_free Rc j
            have HS := Lib.hid (row_set (i := j) (v := .int .u8 255) Rc)
            clear Rc
            go_wp2
            go_roundw
            case rel =>
              refine ⟨j + 1, by omega, by go_num, ?_, by go_grown⟩
              refine HS.out.trans ?_
              rw [vals_set, ← f32_nth j hjl, fill_step f32 z32 j hjl rfl]
            case measure => simp [intOf]; omega
          · obtain rfl : j = 32 := by omega
            replace Rc : wr.heap[wo.heap.size]? = some (.cells (vals f32) 22 (0, 0)) := Rc
            have c0 := (row_cell Rc 0).trans (vals_get (by decide))
            have fc := row_free Rc 0
            have SC := row_set (i := 0) (v := .int .u8 (255 - k)) Rc
            rw [vals_set] at SC
            have B20 : Below w.heap.size w (wr.setCell ⟨wo.heap.size, 0, none⟩ (.int .u8 (255 - k))) := by go_grown
            have HSC := Lib.hid SC
            have HB20 := Lib.hid B20
            clear SC Rc B20 Bj
            by_cases h19 : k < 19
            · go_wp2_with fail
              generalize wr.setCell ⟨wo.heap.size, 0, none⟩ (.int .u8 (255 - k)) = W20 at HSC HB20 ⊢
              refine (small_any (18 - (k : Int)) _ (by omega) (by omega)).mono ?_
              rintro e w5 ⟨p0, p1, p2, p3, p4, rfl, HP, b5⟩
              have S5 := row_call b5 HSC.out
              have B5 := below_call b5 HB20.out
              clear b5 HSC HB20
              go_wp2_with fail
              have hS : BytesAt (f32.set 0 (255 - (k : Int))) wo.heap.size (w5.alloc (.cells #[.int .u64 p0, .int .u64 p1, .int .u64 p2, .int .u64 p3, .int .u64 p4] 26)) ∧ ElAt (Fin.ofNat P (18 - (k : Int)).toNat) w5.heap.size (w5.alloc (.cells #[.int .u64 p0, .int .u64 p1, .int .u64 p2, .int .u64 p3, .int .u64 p4] 26)) ∧ Below w.heap.size w (w5.alloc (.cells #[.int .u64 p0, .int .u64 p1, .int .u64 p2, .int .u64 p3, .int .u64 p4] 26)) := ⟨⟨_, row_alloc S5⟩, .mk row_new HP, B5.alloc B5.size _⟩
              have HCV := Lib.hid (show numF (f32.set 0 (255 - (k : Int))) = Fin.ofNat P (18 - (k : Int)).toNat by have := c_num ⟨k, h19⟩; rw [show (18 - (k : Int)).toNat = 18 - k by omega]; exact this)
              have HCB := Lib.hid (c_byt k (by omega))
              have HCL := Lib.hid (show (f32.set 0 (255 - (k : Int))).length = 32 from rfl)
              clear HP S5 B5 c0 fc
              generalize w5.alloc (.cells #[.int .u64 p0, .int .u64 p1, .int .u64 p2, .int .u64 p3, .int .u64 p4] 26) = W24 at hS ⊢
              generalize wo.heap.size = gc at hS ⊢
              generalize w5.heap.size = gw at hS ⊢
              generalize f32.set 0 (255 - (k : Int)) = C at hS HCV HCB HCL
              generalize Fin.ofNat P (18 - (k : Int)).toNat = wv at hS HCV
              obtain ⟨M, hM⟩ : ∃ M, M = W24.heap.size := ⟨_, rfl⟩
              have lt0 := (hS.1).lt
              have lt1 := (hS.2.1).lt
              rw [← hM] at lt0 lt1
              refine hide_frame fun t0 HT => ?_
              have HS : t0.size = 112 := by rw [HT]; rfl
              have h12 : t0[12]? = some (.pointer (some ⟨gc, 0, none⟩)) := by rw [HT]; rfl
              have h14 : t0[14]? = some (.pointer (some ⟨gw, 0, none⟩)) := by rw [HT]; rfl
              have h11 : t0[11]? = some (.int .u8 (k : Nat)) := by rw [HT]; rfl
              refine wp_region_all 4 (fun i => [107, 108, 109, 110, 111].getD i 0) (fun i => [(· = .agg (vals C)), IsEl wv, IsEl wv, (· = .bool true), (· = .bool false)].getD i (fun _ => True)) (fun w' => BytesAt C gc w' ∧ ElAt wv gw w' ∧ Below w.heap.size w w' ∧ M ≤ w'.heap.size)
                (by kernel_rfl) (by kernel_rfl) (by kernel_rfl) (slots_apart (by kernel_rfl)) (slots_lie (by rw [HS]; kernel_rfl)) ⟨hS.1, hS.2.1, (hS.2.2).drew, Nat.le_of_eq hM⟩ (fun w1 w2 h b => ⟨(h.1).keep b, (h.2.1).keep b, below_call b h.2.2.1, Nat.le_trans h.2.2.2 b.size⟩) ?_ ?_
              · clear hS
                intro i o hi ho
                have hc : i = 0 ∨ i = 1 ∨ i = 2 ∨ i = 3 ∨ i = 4 := by omega
                rcases hc with rfl | rfl | rfl | rfl | rfl
                · obtain rfl := Option.some.inj ho
                  refine ⟨rfl, fun a w' hS hold hin K hK => ?_⟩
                  refine if_always rfl ?_
                  exact op_ld_by (.tmp 12) rfl rfl _ (eval_tmp ((hold 12 (slots_not (by kernel_rfl))).trans h12)) hS.1 HCL.out hK
                · obtain rfl := Option.some.inj ho
                  refine ⟨rfl, fun a w' hS hold hin K hK => ?_⟩
                  obtain ⟨y0, x0, rfl⟩ := hin 0 rfl (by omega)
                  refine if_always rfl ?_
                  exact op_fn1 _ _ _ _ rfl rfl (eval_tmp x0) (by intro args w; kernel_rfl) (of_ev C HCL.out HCB.out HCV.out _) hK
                · obtain rfl := Option.some.inj ho
                  refine ⟨rfl, fun a w' hS hold hin K hK => ?_⟩
                  refine if_always rfl ?_
                  exact op_ld_el (.tmp 14) rfl rfl _ (eval_tmp ((hold 14 (slots_not (by kernel_rfl))).trans h14)) hS.2.1 hK
                · obtain rfl := Option.some.inj ho
                  refine ⟨rfl, fun a w' hS hold hin K hK => ?_⟩
                  obtain ⟨y1, x1, (v1 : IsEl wv y1)⟩ := hin 1 rfl (by omega)
                  obtain ⟨y2, x2, (v2 : IsEl wv y2)⟩ := hin 2 rfl (by omega)
                  refine if_always rfl ?_
                  exact op_fn2 _ _ _ _ _ _ rfl rfl (eval_tmp x1) (eval_tmp x2) (by intro args w; kernel_rfl) (one_el v1 v2 rfl _) hK
                · obtain rfl := Option.some.inj ho
                  refine ⟨rfl, fun a w' hS hold hin K hK => ?_⟩
                  obtain ⟨y3, x3, rfl⟩ := hin 3 rfl (by omega)
                  refine if_always rfl ?_
                  exact op_un (V := (· = .bool false)) _ _ _ _ (.bool false) rfl rfl (eval_tmp x3) (fun w => by kernel_rfl) rfl hK
              clear hS
              intro t1 W7 hs hold hout hS
              have ef := frame_fill 5 (fun i => [107, 108, 109, 110, 111].getD i 0) hs hold (slots_apart (by kernel_rfl)) (slots_lie (by rw [HS]; kernel_rfl))
              replace HS := hs.trans HS
              obtain ⟨_, q111, rfl⟩ : ∃ x, t1[111]? = some x ∧ x = (.bool false : Value) := hout 4 (by omega)
              have g111 : t1.getD 111 undef = .bool false := by rw [Array.getD_eq_getD_getElem?, q111]; rfl
              rw [ef, HT]
              clear ef
              simp only [fillA, if_true, List.getD_cons_zero, List.getD_cons_succ, List.setIfInBounds_toArray, List.set_cons_zero, List.set_cons_succ, g111]
              generalize t1.getD 107 undef = x107
              generalize t1.getD 108 undef = x108
              generalize t1.getD 109 undef = x109
              generalize t1.getD 110 undef = x110
              clear g111 HT
              clear h12 h14 h11 q111 hold hout hs HS t1 t0
              have hS' := hS
              clear hS
              have hS : BytesAt C gc W7 ∧ ElAt wv gw W7 ∧ Below w.heap.size w W7 := ⟨hS'.1, hS'.2.1, hS'.2.2.1⟩
              clear hS' lt0 lt1
              clear hM
              clear M
              have hBE := hS.2.2
              clear hS
              go_wp2_with fail
              go_roundw
              case rel => exact ⟨k + 1, by omega, by go_num, hBE⟩
              case measure => simp [intOf]; omega
            · obtain rfl : k = 19 := by omega
              go_wp2_with fail
              rw [show (255 : Int) - ((19 : Nat) : Int) = 236 from rfl] at HSC HB20
              generalize wr.setCell ⟨wo.heap.size, 0, none⟩ (.int .u8 236) = W20 at HSC HB20 ⊢
              rw [show IntKind.u64.wrap (-1) = 18446744073709551615 from by decide]
              refine (small_any 18446744073709551615 _ (by omega) (by omega)).mono ?_
              rintro e w5 ⟨p0, p1, p2, p3, p4, rfl, _, b5⟩
              have S5 := row_call b5 HSC.out
              have B5 := below_call b5 HB20.out
              have L5 := row_lt S5
              have M5 := B5.size
              clear b5 HSC HB20
              go_wp2_with fail
              have S6 := row_alloc (x := .cells #[.int .u64 p0, .int .u64 p1, .int .u64 p2, .int .u64 p3, .int .u64 p4] 26) S5
              have RN := row_new (w := w5) (x := .cells #[.int .u64 p0, .int .u64 p1, .int .u64 p2, .int .u64 p3, .int .u64 p4] 26)
              have B6 := B5.alloc B5.size (.cells #[.int .u64 p0, .int .u64 p1, .int .u64 p2, .int .u64 p3, .int .u64 p4] 26)
              generalize w5.alloc (.cells #[.int .u64 p0, .int .u64 p1, .int .u64 p2, .int .u64 p3, .int .u64 p4] 26) = W6 at S6 RN B6 ⊢
              clear S5 B5
              refine (small_lit 1 _ (by omega)).mono ?_
              rintro e w6 ⟨q0, q1, q2, q3, q4, rfl, HQ, b6⟩
              go_wp2_with fail
              refine (neg_any _ _ _ _ _ _ _ HQ).mono ?_
              rintro e w7 ⟨r0, r1, r2, r3, r4, rfl, HR, b7⟩
              have S7 := row_call b7 (row_call b6 S6)
              have RN7 := row_call b7 (row_call b6 RN)
              have B7 := below_call b7 (below_call b6 B6)
              clear b6 b7 S6 RN B6 W6 HQ
              go_wp2_with (refine st_row rfl 26 (.tmp 14) _ rfl _ _ (by rfl) (by rfl) _ _ RN7 5 tElem (by rfl) (by rfl) (ev_one ..) ?_)
              have hS : BytesAt (f32.set 0 236) wo.heap.size (w7.setRow w5.heap.size #[.int .u64 r0, .int .u64 r1, .int .u64 r2, .int .u64 r3, .int .u64 r4]) ∧ ElAt (0 - Fin.ofNat P 1) w5.heap.size (w7.setRow w5.heap.size #[.int .u64 r0, .int .u64 r1, .int .u64 r2, .int .u64 r3, .int .u64 r4]) ∧ Below w.heap.size w (w7.setRow w5.heap.size #[.int .u64 r0, .int .u64 r1, .int .u64 r2, .int .u64 r3, .int .u64 r4]) := ⟨⟨_, row_put_other S7 (by omega)⟩, .mk (row_put RN7) HR, below_setRow B7 M5 _⟩
              have HCV := Lib.hid (show numF (f32.set 0 236) = 0 - Fin.ofNat P 1 from c_num19)
              have HCB := Lib.hid (show Byt (f32.set 0 236) from c_byt 19 (by omega))
              have HCL := Lib.hid (show (f32.set 0 (236 : Int)).length = 32 from rfl)
              clear HR S7 RN7 B7 c0 fc L5 M5
              generalize w7.setRow w5.heap.size #[.int .u64 r0, .int .u64 r1, .int .u64 r2, .int .u64 r3, .int .u64 r4] = W24 at hS ⊢
              generalize wo.heap.size = gc at hS ⊢
              generalize w5.heap.size = gw at hS ⊢
              generalize f32.set 0 (236 : Int) = C at hS HCV HCB HCL
              generalize (0 : F) - Fin.ofNat P 1 = wv at hS HCV
              obtain ⟨M, hM⟩ : ∃ M, M = W24.heap.size := ⟨_, rfl⟩
              have lt0 := (hS.1).lt
              have lt1 := (hS.2.1).lt
              rw [← hM] at lt0 lt1
              refine hide_frame fun t0 HT => ?_
              have HS : t0.size = 112 := by rw [HT]; rfl
              have h12 : t0[12]? = some (.pointer (some ⟨gc, 0, none⟩)) := by rw [HT]; rfl
              have h14 : t0[14]? = some (.pointer (some ⟨gw, 0, none⟩)) := by rw [HT]; rfl
              have h11 : t0[11]? = some (.int .u8 (19 : Nat)) := by rw [HT]; rfl
              refine wp_region_all 4 (fun i => [107, 108, 109, 110, 111].getD i 0) (fun i => [(· = .agg (vals C)), IsEl wv, IsEl wv, (· = .bool true), (· = .bool false)].getD i (fun _ => True)) (fun w' => BytesAt C gc w' ∧ ElAt wv gw w' ∧ Below w.heap.size w w' ∧ M ≤ w'.heap.size)
                (by kernel_rfl) (by kernel_rfl) (by kernel_rfl) (slots_apart (by kernel_rfl)) (slots_lie (by rw [HS]; kernel_rfl)) ⟨hS.1, hS.2.1, (hS.2.2).drew, Nat.le_of_eq hM⟩ (fun w1 w2 h b => ⟨(h.1).keep b, (h.2.1).keep b, below_call b h.2.2.1, Nat.le_trans h.2.2.2 b.size⟩) ?_ ?_
              · clear hS
                intro i o hi ho
                have hc : i = 0 ∨ i = 1 ∨ i = 2 ∨ i = 3 ∨ i = 4 := by omega
                rcases hc with rfl | rfl | rfl | rfl | rfl
                · obtain rfl := Option.some.inj ho
                  refine ⟨rfl, fun a w' hS hold hin K hK => ?_⟩
                  refine if_always rfl ?_
                  exact op_ld_by (.tmp 12) rfl rfl _ (eval_tmp ((hold 12 (slots_not (by kernel_rfl))).trans h12)) hS.1 HCL.out hK
                · obtain rfl := Option.some.inj ho
                  refine ⟨rfl, fun a w' hS hold hin K hK => ?_⟩
                  obtain ⟨y0, x0, rfl⟩ := hin 0 rfl (by omega)
                  refine if_always rfl ?_
                  exact op_fn1 _ _ _ _ rfl rfl (eval_tmp x0) (by intro args w; kernel_rfl) (of_ev C HCL.out HCB.out HCV.out _) hK
                · obtain rfl := Option.some.inj ho
                  refine ⟨rfl, fun a w' hS hold hin K hK => ?_⟩
                  refine if_always rfl ?_
                  exact op_ld_el (.tmp 14) rfl rfl _ (eval_tmp ((hold 14 (slots_not (by kernel_rfl))).trans h14)) hS.2.1 hK
                · obtain rfl := Option.some.inj ho
                  refine ⟨rfl, fun a w' hS hold hin K hK => ?_⟩
                  obtain ⟨y1, x1, (v1 : IsEl wv y1)⟩ := hin 1 rfl (by omega)
                  obtain ⟨y2, x2, (v2 : IsEl wv y2)⟩ := hin 2 rfl (by omega)
                  refine if_always rfl ?_
                  exact op_fn2 _ _ _ _ _ _ rfl rfl (eval_tmp x1) (eval_tmp x2) (by intro args w; kernel_rfl) (one_el v1 v2 rfl _) hK
                · obtain rfl := Option.some.inj ho
                  refine ⟨rfl, fun a w' hS hold hin K hK => ?_⟩
                  obtain ⟨y3, x3, rfl⟩ := hin 3 rfl (by omega)
                  refine if_always rfl ?_
                  exact op_un (V := (· = .bool false)) _ _ _ _ (.bool false) rfl rfl (eval_tmp x3) (fun w => by kernel_rfl) rfl hK
              clear hS
              intro t1 W8 hs hold hout hS
              have ef := frame_fill 5 (fun i => [107, 108, 109, 110, 111].getD i 0) hs hold (slots_apart (by kernel_rfl)) (slots_lie (by rw [HS]; kernel_rfl))
              replace HS := hs.trans HS
              obtain ⟨_, q111, rfl⟩ : ∃ x, t1[111]? = some x ∧ x = (.bool false : Value) := hout 4 (by omega)
              have g111 : t1.getD 111 undef = .bool false := by rw [Array.getD_eq_getD_getElem?, q111]; rfl
              rw [ef, HT]
              clear ef
              simp only [fillA, if_true, List.getD_cons_zero, List.getD_cons_succ, List.setIfInBounds_toArray, List.set_cons_zero, List.set_cons_succ, g111]
              generalize t1.getD 107 undef = x107
              generalize t1.getD 108 undef = x108
              generalize t1.getD 109 undef = x109
              generalize t1.getD 110 undef = x110
              clear g111 HT
              clear h12 h14 h11 q111 hold hout hs HS t1 t0
              have hS' := hS
              clear hS
              have hS : BytesAt C gc W8 ∧ ElAt wv gw W8 ∧ Below w.heap.size w W8 := ⟨hS'.1, hS'.2.1, hS'.2.2.1⟩
              clear hS' lt0 lt1
              clear hM
              clear M
              have hBE := hS.2.2
              clear hS
              go_wp2_with fail
              go_roundw
              case rel => exact ⟨20, by omega, by go_num, hBE⟩
              case measure => simp [intOf]
      · obtain rfl : k = 20 := by omega
        go_wp2_with fail
        go_returns
        exact ⟨rfl, Bk⟩
  · obtain ⟨M, hM⟩ : ∃ M, M = V2''.heap.size := ⟨_, rfl⟩
    have lt0 := (hS.1).lt
    have lt1 := (hS.2.1).lt
    have lt2 := (hS.2.2.1).lt
    have lt3 := (hS.2.2.2.1).lt
    have lt4 := (hS.2.2.2.2.1).lt
    have lt5 := (hS.2.2.2.2.2.1).lt
    rw [← hM] at lt0 lt1 lt2 lt3 lt4 lt5
    refine hide_held fun t0 HT => ?_
    have HS : t0.size = 112 := by rw [HT]; rfl
    have h2 : t0[2]? = some (.pointer (some ⟨w.heap.size, 0, none⟩)) := by rw [HT]; rfl
    have h3 : t0[3]? = some (.pointer (some ⟨(w.heap.size + 1), 0, none⟩)) := by rw [HT]; rfl
    have h5 : t0[5]? = some (.pointer (some ⟨gx, 0, none⟩)) := by rw [HT]; rfl
    have h6 : t0[6]? = some (.pointer (some ⟨gy, 0, none⟩)) := by rw [HT]; rfl
    have h7 : t0[7]? = some (.pointer (some ⟨gp, 0, none⟩)) := by rw [HT]; rfl
    have h8 : t0[8]? = some (.pointer (some ⟨gq, 0, none⟩)) := by rw [HT]; rfl
    clear HT
    refine wp_list_all 3 (fun i => [25, 26, 27, 9].getD i 0) (fun i => [IsEl na, IsEl nb, (· = .int .u64 0), (· = .int .u64 0)].getD i (fun _ => True)) (fun w' => BytesAt La w.heap.size w' ∧ BytesAt Lb (w.heap.size + 1) w' ∧ ElAt na gx w' ∧ ElAt nb gy w' ∧ BytesAt (bytesN Va) gp w' ∧ BytesAt (bytesN Vb) gq w' ∧ Below w.heap.size w w' ∧ M ≤ w'.heap.size)
      (by kernel_rfl) (by kernel_rfl) (slots_apart (by kernel_rfl)) (slots_lie (by rw [HS]; kernel_rfl)) ⟨hS.1, hS.2.1, hS.2.2.1, hS.2.2.2.1, hS.2.2.2.2.1, hS.2.2.2.2.2.1, hS.2.2.2.2.2.2, Nat.le_of_eq hM⟩ (fun w1 w2 h b => ⟨(h.1).keep b, (h.2.1).keep b, (h.2.2.1).keep b, (h.2.2.2.1).keep b, (h.2.2.2.2.1).keep b, (h.2.2.2.2.2.1).keep b, below_call b h.2.2.2.2.2.2.1, Nat.le_trans h.2.2.2.2.2.2.2 b.size⟩) ?_ ?_
    · clear hS
      intro i o hi ho
      have hc : i = 0 ∨ i = 1 ∨ i = 2 ∨ i = 3 := by omega
      rcases hc with rfl | rfl | rfl | rfl
      · obtain rfl := Option.some.inj ho
        refine ⟨rfl, fun a w' hS hold hin K hK => ?_⟩
        refine if_always rfl ?_
        exact op_ld_el (.tmp 5) rfl rfl _ (eval_tmp ((hold 5 (slots_not (by kernel_rfl))).trans h5)) hS.2.2.1 hK
      · obtain rfl := Option.some.inj ho
        refine ⟨rfl, fun a w' hS hold hin K hK => ?_⟩
        refine if_always rfl ?_
        exact op_ld_el (.tmp 6) rfl rfl _ (eval_tmp ((hold 6 (slots_not (by kernel_rfl))).trans h6)) hS.2.2.2.1 hK
      · obtain rfl := Option.some.inj ho
        refine ⟨rfl, fun a w' hS hold hin K hK => ?_⟩
        obtain ⟨y0, x0, (v0 : IsEl na y0)⟩ := hin 0 rfl (by omega)
        obtain ⟨y1, x1, (v1 : IsEl nb y1)⟩ := hin 1 rfl (by omega)
        refine if_always rfl ?_
        exact op_fn2 _ _ _ _ _ _ rfl rfl (eval_tmp x0) (eval_tmp x1) (by intro args w; kernel_rfl) (equal_el_no v0 v1 hab _) hK
      · obtain rfl := Option.some.inj ho
        refine ⟨rfl, fun a w' hS hold hin K hK => ?_⟩
        obtain ⟨y2, x2, rfl⟩ := hin 2 rfl (by omega)
        refine if_always rfl ?_
        exact op_assign (V := (· = .int .u64 0)) _ _ rfl rfl (eval_tmp x2) rfl hK
    clear hS
    intro t1 W3 hs hold hout hS
    replace HS := hs.trans HS
    obtain ⟨_, q9, rfl⟩ : ∃ x, t1[9]? = some x ∧ x = (.int .u64 0 : Value) := hout 3 (by omega)
    obtain ⟨f, e0, hf⟩ := wash HS
    have f9 := hf 9 _ q9
    have f2 := hf 2 _ ((hold 2 (slots_not (by kernel_rfl))).trans h2)
    have f3 := hf 3 _ ((hold 3 (slots_not (by kernel_rfl))).trans h3)
    have f5 := hf 5 _ ((hold 5 (slots_not (by kernel_rfl))).trans h5)
    have f6 := hf 6 _ ((hold 6 (slots_not (by kernel_rfl))).trans h6)
    have f7 := hf 7 _ ((hold 7 (slots_not (by kernel_rfl))).trans h7)
    have f8 := hf 8 _ ((hold 8 (slots_not (by kernel_rfl))).trans h8)
    clear hf
    rw [e0.trans (show _ = #[f 0, f 1, f 2, f 3, f 4, f 5, f 6, f 7, f 8, f 9, f 10, f 11, f 12, f 13, f 14, f 15, f 16, f 17, f 18, f 19, f 20, f 21, f 22, f 23, f 24, f 25, f 26, f 27, f 28, f 29, f 30, f 31, f 32, f 33, f 34, f 35, f 36, f 37, f 38, f 39, f 40, f 41, f 42, f 43, f 44, f 45, f 46, f 47, f 48, f 49, f 50, f 51, f 52, f 53, f 54, f 55, f 56, f 57, f 58, f 59, f 60, f 61, f 62, f 63, f 64, f 65, f 66, f 67, f 68, f 69, f 70, f 71, f 72, f 73, f 74, f 75, f 76, f 77, f 78, f 79, f 80, f 81, f 82, f 83, f 84, f 85, f 86, f 87, f 88, f 89, f 90, f 91, f 92, f 93, f 94, f 95, f 96, f 97, f 98, f 99, f 100, f 101, f 102, f 103, f 104, f 105, f 106, f 107, f 108, f 109, f 110, f 111] from by kernel_rfl), f9, f2, f3, f5, f6, f7, f8]
    clear f9 f2 f3 f5 f6 f7 f8
    clear e0
    dsimp only
    clear h2 h3 h5 h6 h7 h8 q9 hold hout hs HS t1 t0
    have hS' := hS
    clear hS
    have hS : BytesAt La w.heap.size W3 ∧ BytesAt Lb (w.heap.size + 1) W3 ∧ ElAt na gx W3 ∧ ElAt nb gy W3 ∧ BytesAt (bytesN Va) gp W3 ∧ BytesAt (bytesN Vb) gq W3 ∧ Below w.heap.size w W3 := ⟨hS'.1, hS'.2.1, hS'.2.2.1, hS'.2.2.2.1, hS'.2.2.2.2.1, hS'.2.2.2.2.2.1, hS'.2.2.2.2.2.2.1⟩
    clear hS' lt0 lt1 lt2 lt3 lt4 lt5
    clear hM
    clear M
    go_wp2_with ((with_reducible refine guard_list ?_); first | (refine held_load 26 _ rfl ?_) | (refine held_load 22 _ rfl ?_))
    have hbb : decide (bytesN Va = bytesN Vb) = false := by rw [bytes_same HVa.out HVb.out]; exact decide_eq_false hab
    obtain ⟨M, hM⟩ : ∃ M, M = W3.heap.size := ⟨_, rfl⟩
    have lt0 := (hS.1).lt
    have lt1 := (hS.2.1).lt
    have lt2 := (hS.2.2.1).lt
    have lt3 := (hS.2.2.2.1).lt
    have lt4 := (hS.2.2.2.2.1).lt
    have lt5 := (hS.2.2.2.2.2.1).lt
    rw [← hM] at lt0 lt1 lt2 lt3 lt4 lt5
    refine hide_frame fun t0 HT => ?_
    have HS : t0.size = 112 := by rw [HT]; rfl
    have h2 : t0[2]? = some (.pointer (some ⟨w.heap.size, 0, none⟩)) := by rw [HT]; rfl
    have h3 : t0[3]? = some (.pointer (some ⟨(w.heap.size + 1), 0, none⟩)) := by rw [HT]; rfl
    have h5 : t0[5]? = some (.pointer (some ⟨gx, 0, none⟩)) := by rw [HT]; rfl
    have h6 : t0[6]? = some (.pointer (some ⟨gy, 0, none⟩)) := by rw [HT]; rfl
    have h7 : t0[7]? = some (.pointer (some ⟨gp, 0, none⟩)) := by rw [HT]; rfl
    have h8 : t0[8]? = some (.pointer (some ⟨gq, 0, none⟩)) := by rw [HT]; rfl
    have h9 : t0[9]? = some (.int .u64 0) := by rw [HT]; rfl
    clear HT
    refine wp_region_all 37 (fun i => [28, 29, 30, 31, 32, 33, 34, 35, 36, 37, 38, 39, 40, 41, 42, 43, 44, 45, 46, 47, 48, 49, 50, 51, 52, 53, 54, 55, 56, 57, 58, 59, 60, 61, 62, 63, 64, 65].getD i 0) (fun i => [(· = .agg (vals (bytesN Va))), (· = .bool true), (· = .bool false), (· = .bool false), (· = .agg (vals (bytesN Vb))), (· = .bool true), (· = .bool false), (· = .bool false), (· = .bool false), (· = .agg (vals (bytesN Va))), IsEl na, IsEl na, (· = .bool true), (· = .bool false), (· = .bool false), (· = .bool false), (· = .int .u64 0), (· = .bool false), (· = .bool false), (fun _ => True), (fun _ => True), (· = .bool false), (· = .bool false), (· = .bool false), (· = .int .u64 0), (· = .bool false), (· = .agg (vals (bytesN Va))), (· = .agg (vals (bytesN Vb))), (· = .bool false), (· = .bool false), (· = .bool false), (· = .bool false), (· = .int .u64 0), IsEl nb, IsEl na, (· = .int .u64 0), (· = .bool false), (· = .bool false)].getD i (fun _ => True)) (fun w' => BytesAt La w.heap.size w' ∧ BytesAt Lb (w.heap.size + 1) w' ∧ ElAt na gx w' ∧ ElAt nb gy w' ∧ BytesAt (bytesN Va) gp w' ∧ BytesAt (bytesN Vb) gq w' ∧ Below w.heap.size w w' ∧ M ≤ w'.heap.size)
      (by kernel_rfl) (by kernel_rfl) (by kernel_rfl) (slots_apart (by kernel_rfl)) (slots_lie (by rw [HS]; kernel_rfl)) ⟨hS.1, hS.2.1, hS.2.2.1, hS.2.2.2.1, hS.2.2.2.2.1, hS.2.2.2.2.2.1, (hS.2.2.2.2.2.2).drew, Nat.le_of_eq hM⟩ (fun w1 w2 h b => ⟨(h.1).keep b, (h.2.1).keep b, (h.2.2.1).keep b, (h.2.2.2.1).keep b, (h.2.2.2.2.1).keep b, (h.2.2.2.2.2.1).keep b, below_call b h.2.2.2.2.2.2.1, Nat.le_trans h.2.2.2.2.2.2.2 b.size⟩) ?_ ?_
    · clear hS
      intro i o hi ho
      have hc : i = 0 ∨ i = 1 ∨ i = 2 ∨ i = 3 ∨ i = 4 ∨ i = 5 ∨ i = 6 ∨ i = 7 ∨ i = 8 ∨ i = 9 ∨ i = 10 ∨ i = 11 ∨ i = 12 ∨ i = 13 ∨ i = 14 ∨ i = 15 ∨ i = 16 ∨ i = 17 ∨ i = 18 ∨ i = 19 ∨ i = 20 ∨ i = 21 ∨ i = 22 ∨ i = 23 ∨ i = 24 ∨ i = 25 ∨ i = 26 ∨ i = 27 ∨ i = 28 ∨ i = 29 ∨ i = 30 ∨ i = 31 ∨ i = 32 ∨ i = 33 ∨ i = 34 ∨ i = 35 ∨ i = 36 ∨ i = 37 := by omega
      rcases hc with rfl | rfl | rfl | rfl | rfl | rfl | rfl | rfl | rfl | rfl | rfl | rfl | rfl | rfl | rfl | rfl | rfl | rfl | rfl | rfl | rfl | rfl | rfl | rfl | rfl | rfl | rfl | rfl | rfl | rfl | rfl | rfl | rfl | rfl | rfl | rfl | rfl | rfl
      · obtain rfl := Option.some.inj ho
        refine ⟨rfl, fun a w' hS hold hin K hK => ?_⟩
        refine if_always rfl ?_
        exact op_ld_by (.tmp 7) rfl rfl _ (eval_tmp ((hold 7 (slots_not (by kernel_rfl))).trans h7)) hS.2.2.2.2.1 (bytesN_len _) hK
      · obtain rfl := Option.some.inj ho
        refine ⟨rfl, fun a w' hS hold hin K hK => ?_⟩
        obtain ⟨y0, x0, rfl⟩ := hin 0 rfl (by omega)
        refine if_always rfl ?_
        exact op_fn1 _ _ _ _ rfl rfl (eval_tmp x0) (by intro args w; kernel_rfl) (below_ev Va HLa.out _) hK
      · obtain rfl := Option.some.inj ho
        refine ⟨rfl, fun a w' hS hold hin K hK => ?_⟩
        obtain ⟨y1, x1, rfl⟩ := hin 1 rfl (by omega)
        refine if_always rfl ?_
        exact op_un (V := (· = .bool false)) _ _ _ _ (.bool false) rfl rfl (eval_tmp x1) (fun w => by kernel_rfl) rfl hK
      · obtain rfl := Option.some.inj ho
        refine ⟨rfl, fun a w' hS hold hin K hK => ?_⟩
        obtain ⟨y2, x2, rfl⟩ := hin 2 rfl (by omega)
        refine if_always rfl ?_
        exact op_move (V := (· = .bool false)) _ _ rfl rfl (eval_tmp x2) rfl hK
      · obtain rfl := Option.some.inj ho
        refine ⟨rfl, fun a w' hS hold hin K hK => ?_⟩
        obtain ⟨y3, x3, rfl⟩ := hin 3 rfl (by omega)
        refine if_guard (d := 31) rfl rfl x3 ?_
        exact op_ld_by (.tmp 8) rfl rfl _ (eval_tmp ((hold 8 (slots_not (by kernel_rfl))).trans h8)) hS.2.2.2.2.2.1 (bytesN_len _) hK
      · obtain rfl := Option.some.inj ho
        refine ⟨rfl, fun a w' hS hold hin K hK => ?_⟩
        obtain ⟨y3, x3, rfl⟩ := hin 3 rfl (by omega)
        obtain ⟨y4, x4, rfl⟩ := hin 4 rfl (by omega)
        refine if_guard (d := 31) rfl rfl x3 ?_
        exact op_fn1 _ _ _ _ rfl rfl (eval_tmp x4) (by intro args w; kernel_rfl) (below_ev Vb HLb.out _) hK
      · obtain rfl := Option.some.inj ho
        refine ⟨rfl, fun a w' hS hold hin K hK => ?_⟩
        obtain ⟨y3, x3, rfl⟩ := hin 3 rfl (by omega)
        obtain ⟨y5, x5, rfl⟩ := hin 5 rfl (by omega)
        refine if_guard (d := 31) rfl rfl x3 ?_
        exact op_un (V := (· = .bool false)) _ _ _ _ (.bool false) rfl rfl (eval_tmp x5) (fun w => by kernel_rfl) rfl hK
      · obtain rfl := Option.some.inj ho
        refine ⟨rfl, fun a w' hS hold hin K hK => ?_⟩
        obtain ⟨y3, x3, rfl⟩ := hin 3 rfl (by omega)
        obtain ⟨y6, x6, rfl⟩ := hin 6 rfl (by omega)
        refine if_always rfl ?_
        exact op_pick (V := (· = .bool false)) _ _ _ false _ rfl rfl (eval_tmp x3) (show (Act.eval a _) = _ from (eval_tmp x6)) rfl hK
      · obtain rfl := Option.some.inj ho
        refine ⟨rfl, fun a w' hS hold hin K hK => ?_⟩
        obtain ⟨y7, x7, rfl⟩ := hin 7 rfl (by omega)
        refine if_always rfl ?_
        exact op_move (V := (· = .bool false)) _ _ rfl rfl (eval_tmp x7) rfl hK
      · obtain rfl := Option.some.inj ho
        refine ⟨rfl, fun a w' hS hold hin K hK => ?_⟩
        obtain ⟨y8, x8, rfl⟩ := hin 8 rfl (by omega)
        refine if_guard (d := 36) rfl rfl x8 ?_
        exact op_ld_by (.tmp 7) rfl rfl _ (eval_tmp ((hold 7 (slots_not (by kernel_rfl))).trans h7)) hS.2.2.2.2.1 (bytesN_len _) hK
      · obtain rfl := Option.some.inj ho
        refine ⟨rfl, fun a w' hS hold hin K hK => ?_⟩
        obtain ⟨y8, x8, rfl⟩ := hin 8 rfl (by omega)
        obtain ⟨y9, x9, rfl⟩ := hin 9 rfl (by omega)
        refine if_guard (d := 36) rfl rfl x8 ?_
        exact op_fn1 _ _ _ _ rfl rfl (eval_tmp x9) (by intro args w; kernel_rfl) (of_ev (bytesN Va) (bytesN_len _) (bytesN_byt _) (numF_bytes na Va HVa.out) _) hK
      · obtain rfl := Option.some.inj ho
        refine ⟨rfl, fun a w' hS hold hin K hK => ?_⟩
        obtain ⟨y8, x8, rfl⟩ := hin 8 rfl (by omega)
        refine if_guard (d := 36) rfl rfl x8 ?_
        exact op_ld_el (.tmp 5) rfl rfl _ (eval_tmp ((hold 5 (slots_not (by kernel_rfl))).trans h5)) hS.2.2.1 hK
      · obtain rfl := Option.some.inj ho
        refine ⟨rfl, fun a w' hS hold hin K hK => ?_⟩
        obtain ⟨y8, x8, rfl⟩ := hin 8 rfl (by omega)
        obtain ⟨y10, x10, (v10 : IsEl na y10)⟩ := hin 10 rfl (by omega)
        obtain ⟨y11, x11, (v11 : IsEl na y11)⟩ := hin 11 rfl (by omega)
        refine if_guard (d := 36) rfl rfl x8 ?_
        exact op_fn2 _ _ _ _ _ _ rfl rfl (eval_tmp x10) (eval_tmp x11) (by intro args w; kernel_rfl) (one_el v10 v11 rfl _) hK
      · obtain rfl := Option.some.inj ho
        refine ⟨rfl, fun a w' hS hold hin K hK => ?_⟩
        obtain ⟨y8, x8, rfl⟩ := hin 8 rfl (by omega)
        obtain ⟨y12, x12, rfl⟩ := hin 12 rfl (by omega)
        refine if_guard (d := 36) rfl rfl x8 ?_
        exact op_un (V := (· = .bool false)) _ _ _ _ (.bool false) rfl rfl (eval_tmp x12) (fun w => by kernel_rfl) rfl hK
      · obtain rfl := Option.some.inj ho
        refine ⟨rfl, fun a w' hS hold hin K hK => ?_⟩
        obtain ⟨y8, x8, rfl⟩ := hin 8 rfl (by omega)
        obtain ⟨y13, x13, rfl⟩ := hin 13 rfl (by omega)
        refine if_always rfl ?_
        exact op_pick (V := (· = .bool false)) _ _ _ false _ rfl rfl (eval_tmp x8) (show (Act.eval a _) = _ from (eval_tmp x13)) rfl hK
      · obtain rfl := Option.some.inj ho
        refine ⟨rfl, fun a w' hS hold hin K hK => ?_⟩
        obtain ⟨y14, x14, rfl⟩ := hin 14 rfl (by omega)
        refine if_always rfl ?_
        exact op_move (V := (· = .bool false)) _ _ rfl rfl (eval_tmp x14) rfl hK
      · obtain rfl := Option.some.inj ho
        refine ⟨rfl, fun a w' hS hold hin K hK => ?_⟩
        obtain ⟨y15, x15, rfl⟩ := hin 15 rfl (by omega)
        refine if_guard (d := 43) rfl rfl x15 ?_
        exact op_move (V := (· = .int .u64 0)) _ _ rfl rfl (eval_tmp ((hold 9 (slots_not (by kernel_rfl))).trans h9)) rfl hK
      · obtain rfl := Option.some.inj ho
        refine ⟨rfl, fun a w' hS hold hin K hK => ?_⟩
        obtain ⟨y15, x15, rfl⟩ := hin 15 rfl (by omega)
        obtain ⟨y16, x16, rfl⟩ := hin 16 rfl (by omega)
        refine if_guard (d := 43) rfl rfl x15 ?_
        exact op_bin (V := (· = .bool false)) _ _ _ _ _ _ _ (.bool false) rfl rfl (eval_tmp x16) rfl (fun w => by kernel_rfl) rfl hK
      · obtain rfl := Option.some.inj ho
        refine ⟨rfl, fun a w' hS hold hin K hK => ?_⟩
        obtain ⟨y15, x15, rfl⟩ := hin 15 rfl (by omega)
        obtain ⟨y17, x17, rfl⟩ := hin 17 rfl (by omega)
        refine if_guard (d := 43) rfl rfl x15 ?_
        exact op_move (V := (· = .bool false)) _ _ rfl rfl (eval_tmp x17) rfl hK
      · obtain rfl := Option.some.inj ho
        refine ⟨rfl, fun a w' hS hold hin K hK => ?_⟩
        obtain ⟨y18, x18, rfl⟩ := hin 18 rfl (by omega)
        exact if_guard_off (d := 46) rfl rfl x18 (by decide) (hK _ _ trivial (Below.refl _ _))
      · obtain rfl := Option.some.inj ho
        refine ⟨rfl, fun a w' hS hold hin K hK => ?_⟩
        obtain ⟨y18, x18, rfl⟩ := hin 18 rfl (by omega)
        exact if_guard_off (d := 46) rfl rfl x18 (by decide) (hK _ _ trivial (Below.refl _ _))
      · obtain rfl := Option.some.inj ho
        refine ⟨rfl, fun a w' hS hold hin K hK => ?_⟩
        obtain ⟨y15, x15, rfl⟩ := hin 15 rfl (by omega)
        obtain ⟨y18, x18, rfl⟩ := hin 18 rfl (by omega)
        refine if_guard (d := 43) rfl rfl x15 ?_
        exact op_pick (V := (· = .bool false)) _ _ _ false _ rfl rfl (eval_tmp x18) (show Act.eval a (.const (.bool false)) = (.bool false) from rfl) rfl hK
      · obtain rfl := Option.some.inj ho
        refine ⟨rfl, fun a w' hS hold hin K hK => ?_⟩
        obtain ⟨y15, x15, rfl⟩ := hin 15 rfl (by omega)
        obtain ⟨y21, x21, rfl⟩ := hin 21 rfl (by omega)
        refine if_always rfl ?_
        exact op_pick (V := (· = .bool false)) _ _ _ false _ rfl rfl (eval_tmp x15) (show (Act.eval a _) = _ from (eval_tmp x21)) rfl hK
      · obtain rfl := Option.some.inj ho
        refine ⟨rfl, fun a w' hS hold hin K hK => ?_⟩
        obtain ⟨y22, x22, rfl⟩ := hin 22 rfl (by omega)
        refine if_always rfl ?_
        exact op_move (V := (· = .bool false)) _ _ rfl rfl (eval_tmp x22) rfl hK
      · obtain rfl := Option.some.inj ho
        refine ⟨rfl, fun a w' hS hold hin K hK => ?_⟩
        obtain ⟨y23, x23, rfl⟩ := hin 23 rfl (by omega)
        refine if_guard (d := 51) rfl rfl x23 ?_
        exact op_move (V := (· = .int .u64 0)) _ _ rfl rfl (eval_tmp ((hold 9 (slots_not (by kernel_rfl))).trans h9)) rfl hK
      · obtain rfl := Option.some.inj ho
        refine ⟨rfl, fun a w' hS hold hin K hK => ?_⟩
        obtain ⟨y23, x23, rfl⟩ := hin 23 rfl (by omega)
        obtain ⟨y24, x24, rfl⟩ := hin 24 rfl (by omega)
        refine if_guard (d := 51) rfl rfl x23 ?_
        exact op_bin (V := (· = .bool false)) _ _ _ _ _ _ _ (.bool false) rfl rfl (eval_tmp x24) rfl (fun w => by kernel_rfl) rfl hK
      · obtain rfl := Option.some.inj ho
        refine ⟨rfl, fun a w' hS hold hin K hK => ?_⟩
        obtain ⟨y23, x23, rfl⟩ := hin 23 rfl (by omega)
        refine if_guard (d := 51) rfl rfl x23 ?_
        exact op_ld_by (.tmp 7) rfl rfl _ (eval_tmp ((hold 7 (slots_not (by kernel_rfl))).trans h7)) hS.2.2.2.2.1 (bytesN_len _) hK
      · obtain rfl := Option.some.inj ho
        refine ⟨rfl, fun a w' hS hold hin K hK => ?_⟩
        obtain ⟨y23, x23, rfl⟩ := hin 23 rfl (by omega)
        refine if_guard (d := 51) rfl rfl x23 ?_
        exact op_ld_by (.tmp 8) rfl rfl _ (eval_tmp ((hold 8 (slots_not (by kernel_rfl))).trans h8)) hS.2.2.2.2.2.1 (bytesN_len _) hK
      · obtain rfl := Option.some.inj ho
        refine ⟨rfl, fun a w' hS hold hin K hK => ?_⟩
        obtain ⟨y23, x23, rfl⟩ := hin 23 rfl (by omega)
        obtain ⟨y26, x26, rfl⟩ := hin 26 rfl (by omega)
        obtain ⟨y27, x27, rfl⟩ := hin 27 rfl (by omega)
        refine if_guard (d := 51) rfl rfl x23 ?_
        exact op_bin (V := (· = .bool false)) _ _ _ _ _ _ _ (.bool false) rfl rfl (eval_tmp x26) (eval_tmp x27) (fun w => eql_by_as _ _ (bytesN_len _) (bytesN_len _) _ hbb w) rfl hK
      · obtain rfl := Option.some.inj ho
        refine ⟨rfl, fun a w' hS hold hin K hK => ?_⟩
        obtain ⟨y23, x23, rfl⟩ := hin 23 rfl (by omega)
        obtain ⟨y25, x25, rfl⟩ := hin 25 rfl (by omega)
        obtain ⟨y28, x28, rfl⟩ := hin 28 rfl (by omega)
        refine if_guard (d := 51) rfl rfl x23 ?_
        exact op_bin (V := (· = .bool false)) _ _ _ _ _ _ _ (.bool false) rfl rfl (eval_tmp x25) (eval_tmp x28) (fun w => by kernel_rfl) rfl hK
      · obtain rfl := Option.some.inj ho
        refine ⟨rfl, fun a w' hS hold hin K hK => ?_⟩
        obtain ⟨y23, x23, rfl⟩ := hin 23 rfl (by omega)
        obtain ⟨y29, x29, rfl⟩ := hin 29 rfl (by omega)
        refine if_always rfl ?_
        exact op_pick (V := (· = .bool false)) _ _ _ false _ rfl rfl (eval_tmp x23) (show (Act.eval a _) = _ from (eval_tmp x29)) rfl hK
      · obtain rfl := Option.some.inj ho
        refine ⟨rfl, fun a w' hS hold hin K hK => ?_⟩
        obtain ⟨y30, x30, rfl⟩ := hin 30 rfl (by omega)
        refine if_always rfl ?_
        exact op_move (V := (· = .bool false)) _ _ rfl rfl (eval_tmp x30) rfl hK
      · obtain rfl := Option.some.inj ho
        refine ⟨rfl, fun a w' hS hold hin K hK => ?_⟩
        obtain ⟨y31, x31, rfl⟩ := hin 31 rfl (by omega)
        refine if_guard (d := 59) rfl rfl x31 ?_
        exact op_move (V := (· = .int .u64 0)) _ _ rfl rfl (eval_tmp ((hold 9 (slots_not (by kernel_rfl))).trans h9)) rfl hK
      · obtain rfl := Option.some.inj ho
        refine ⟨rfl, fun a w' hS hold hin K hK => ?_⟩
        obtain ⟨y31, x31, rfl⟩ := hin 31 rfl (by omega)
        refine if_guard (d := 59) rfl rfl x31 ?_
        exact op_ld_el (.tmp 6) rfl rfl _ (eval_tmp ((hold 6 (slots_not (by kernel_rfl))).trans h6)) hS.2.2.2.1 hK
      · obtain rfl := Option.some.inj ho
        refine ⟨rfl, fun a w' hS hold hin K hK => ?_⟩
        obtain ⟨y31, x31, rfl⟩ := hin 31 rfl (by omega)
        refine if_guard (d := 59) rfl rfl x31 ?_
        exact op_ld_el (.tmp 5) rfl rfl _ (eval_tmp ((hold 5 (slots_not (by kernel_rfl))).trans h5)) hS.2.2.1 hK
      · obtain rfl := Option.some.inj ho
        refine ⟨rfl, fun a w' hS hold hin K hK => ?_⟩
        obtain ⟨y31, x31, rfl⟩ := hin 31 rfl (by omega)
        obtain ⟨y33, x33, (v33 : IsEl nb y33)⟩ := hin 33 rfl (by omega)
        obtain ⟨y34, x34, (v34 : IsEl na y34)⟩ := hin 34 rfl (by omega)
        refine if_guard (d := 59) rfl rfl x31 ?_
        exact op_fn2 _ _ _ _ _ _ rfl rfl (eval_tmp x33) (eval_tmp x34) (by intro args w; kernel_rfl) (equal_el_no v33 v34 (fun h => hab h.symm) _) hK
      · obtain rfl := Option.some.inj ho
        refine ⟨rfl, fun a w' hS hold hin K hK => ?_⟩
        obtain ⟨y31, x31, rfl⟩ := hin 31 rfl (by omega)
        obtain ⟨y32, x32, rfl⟩ := hin 32 rfl (by omega)
        obtain ⟨y35, x35, rfl⟩ := hin 35 rfl (by omega)
        refine if_guard (d := 59) rfl rfl x31 ?_
        exact op_bin (V := (· = .bool false)) _ _ _ _ _ _ _ (.bool false) rfl rfl (eval_tmp x32) (eval_tmp x35) (fun w => by kernel_rfl) rfl hK
      · obtain rfl := Option.some.inj ho
        refine ⟨rfl, fun a w' hS hold hin K hK => ?_⟩
        obtain ⟨y31, x31, rfl⟩ := hin 31 rfl (by omega)
        obtain ⟨y36, x36, rfl⟩ := hin 36 rfl (by omega)
        refine if_always rfl ?_
        exact op_pick (V := (· = .bool false)) _ _ _ false _ rfl rfl (eval_tmp x31) (show (Act.eval a _) = _ from (eval_tmp x36)) rfl hK
    clear hS
    intro t1 W4 hs hold hout hS
    replace HS := hs.trans HS
    obtain ⟨_, q65, rfl⟩ : ∃ x, t1[65]? = some x ∧ x = (.bool false : Value) := hout 37 (by omega)
    obtain ⟨f, e0, hf⟩ := wash HS
    have f65 := hf 65 _ q65
    have f2 := hf 2 _ ((hold 2 (slots_not (by kernel_rfl))).trans h2)
    have f3 := hf 3 _ ((hold 3 (slots_not (by kernel_rfl))).trans h3)
    have f5 := hf 5 _ ((hold 5 (slots_not (by kernel_rfl))).trans h5)
    have f6 := hf 6 _ ((hold 6 (slots_not (by kernel_rfl))).trans h6)
    have f7 := hf 7 _ ((hold 7 (slots_not (by kernel_rfl))).trans h7)
    have f8 := hf 8 _ ((hold 8 (slots_not (by kernel_rfl))).trans h8)
    have f9 := hf 9 _ ((hold 9 (slots_not (by kernel_rfl))).trans h9)
    clear hf
    rw [e0.trans (show _ = #[f 0, f 1, f 2, f 3, f 4, f 5, f 6, f 7, f 8, f 9, f 10, f 11, f 12, f 13, f 14, f 15, f 16, f 17, f 18, f 19, f 20, f 21, f 22, f 23, f 24, f 25, f 26, f 27, f 28, f 29, f 30, f 31, f 32, f 33, f 34, f 35, f 36, f 37, f 38, f 39, f 40, f 41, f 42, f 43, f 44, f 45, f 46, f 47, f 48, f 49, f 50, f 51, f 52, f 53, f 54, f 55, f 56, f 57, f 58, f 59, f 60, f 61, f 62, f 63, f 64, f 65, f 66, f 67, f 68, f 69, f 70, f 71, f 72, f 73, f 74, f 75, f 76, f 77, f 78, f 79, f 80, f 81, f 82, f 83, f 84, f 85, f 86, f 87, f 88, f 89, f 90, f 91, f 92, f 93, f 94, f 95, f 96, f 97, f 98, f 99, f 100, f 101, f 102, f 103, f 104, f 105, f 106, f 107, f 108, f 109, f 110, f 111] from by kernel_rfl), f65, f2, f3, f5, f6, f7, f8, f9]
    clear f65 f2 f3 f5 f6 f7 f8 f9
    clear e0
    dsimp only
    clear h2 h3 h5 h6 h7 h8 h9 q65 hold hout hs HS t1 t0
    have hS' := hS
    clear hS
    have hS : BytesAt La w.heap.size W4 ∧ BytesAt Lb (w.heap.size + 1) W4 ∧ ElAt na gx W4 ∧ ElAt nb gy W4 ∧ BytesAt (bytesN Va) gp W4 ∧ BytesAt (bytesN Vb) gq W4 ∧ Below w.heap.size w W4 := ⟨hS'.1, hS'.2.1, hS'.2.2.1, hS'.2.2.2.1, hS'.2.2.2.2.1, hS'.2.2.2.2.2.1, hS'.2.2.2.2.2.2.1⟩
    clear hS' lt0 lt1 lt2 lt3 lt4 lt5
    clear hM
    clear M
    go_wp2_with ((with_reducible refine guard_list ?_); first | (refine held_load 26 _ rfl ?_) | (refine held_load 22 _ rfl ?_))
    clear hbb hab
    obtain ⟨M, hM⟩ : ∃ M, M = W4.heap.size := ⟨_, rfl⟩
    have hMB : w.heap.size ≤ M := hM ▸ (hS.2.2.2.2.2.2).size
    have lt0 := (hS.1).lt
    have lt1 := (hS.2.1).lt
    have lt2 := (hS.2.2.1).lt
    have lt3 := (hS.2.2.2.1).lt
    have lt4 := (hS.2.2.2.2.1).lt
    have lt5 := (hS.2.2.2.2.2.1).lt
    rw [← hM] at lt0 lt1 lt2 lt3 lt4 lt5
    refine hide_held fun t0 HT => ?_
    have HS : t0.size = 112 := by rw [HT]; rfl
    have h2 : t0[2]? = some (.pointer (some ⟨w.heap.size, 0, none⟩)) := by rw [HT]; rfl
    have h3 : t0[3]? = some (.pointer (some ⟨(w.heap.size + 1), 0, none⟩)) := by rw [HT]; rfl
    have h5 : t0[5]? = some (.pointer (some ⟨gx, 0, none⟩)) := by rw [HT]; rfl
    have h6 : t0[6]? = some (.pointer (some ⟨gy, 0, none⟩)) := by rw [HT]; rfl
    have h7 : t0[7]? = some (.pointer (some ⟨gp, 0, none⟩)) := by rw [HT]; rfl
    have h8 : t0[8]? = some (.pointer (some ⟨gq, 0, none⟩)) := by rw [HT]; rfl
    clear HT
    refine wp_list_most 2 (fun i => [66, 10].getD i 0) (fun i => [none, some 32].getD i none) (fun i => [(· = .agg (vals La)), (fun _ => True)].getD i (fun _ => True)) (fun w' => BytesAt La w.heap.size w' ∧ BytesAt Lb (w.heap.size + 1) w' ∧ ElAt na gx w' ∧ ElAt nb gy w' ∧ BytesAt (bytesN Va) gp w' ∧ BytesAt (bytesN Vb) gq w' ∧ Below w.heap.size w w' ∧ M ≤ w'.heap.size) M
      (by kernel_rfl) (slots_apart (by kernel_rfl)) (slots_lie (by rw [HS]; kernel_rfl)) ⟨hS.1, hS.2.1, hS.2.2.1, hS.2.2.2.1, hS.2.2.2.2.1, hS.2.2.2.2.2.1, hS.2.2.2.2.2.2, Nat.le_of_eq hM⟩ (fun w' h => h.2.2.2.2.2.2.2) (fun w1 w2 h b => ⟨(h.1).keep b, (h.2.1).keep b, (h.2.2.1).keep b, (h.2.2.2.1).keep b, (h.2.2.2.2.1).keep b, (h.2.2.2.2.2.1).keep b, below_call b h.2.2.2.2.2.2.1, Nat.le_trans h.2.2.2.2.2.2.2 b.size⟩) ?_ ?_ ?_
    · clear hS
      intro i o hi ho hA
      have hc : i = 0 ∨ i = 1 := by omega
      rcases hc with rfl | rfl
      · obtain rfl := Option.some.inj ho
        refine ⟨rfl, fun a w' hS hold hin K hK => ?_⟩
        refine if_always rfl ?_
        exact op_ld_by (.tmp 2) rfl rfl _ (eval_tmp ((hold 2 (slots_not (by kernel_rfl))).trans h2)) hS.1 HLLa.out hK
      · cases hA
    · intro i o sz hi ho hA
      have hc : i = 0 ∨ i = 1 := by omega
      rcases hc with rfl | rfl
      · cases hA
      · obtain rfl := Option.some.inj ho
        obtain rfl := Option.some.inj hA
        exact ⟨rfl, rfl, 22, #[.int .u8 0, .int .u8 0, .int .u8 0, .int .u8 0, .int .u8 0, .int .u8 0, .int .u8 0, .int .u8 0, .int .u8 0, .int .u8 0, .int .u8 0, .int .u8 0, .int .u8 0, .int .u8 0, .int .u8 0, .int .u8 0, .int .u8 0, .int .u8 0, .int .u8 0, .int .u8 0, .int .u8 0, .int .u8 0, .int .u8 0, .int .u8 0, .int .u8 0, .int .u8 0, .int .u8 0, .int .u8 0, .int .u8 0, .int .u8 0, .int .u8 0, .int .u8 0], rfl, fun a w' K h => wp_new 22 #[.int .u8 0, .int .u8 0, .int .u8 0, .int .u8 0, .int .u8 0, .int .u8 0, .int .u8 0, .int .u8 0, .int .u8 0, .int .u8 0, .int .u8 0, .int .u8 0, .int .u8 0, .int .u8 0, .int .u8 0, .int .u8 0, .int .u8 0, .int .u8 0, .int .u8 0, .int .u8 0, .int .u8 0, .int .u8 0, .int .u8 0, .int .u8 0, .int .u8 0, .int .u8 0, .int .u8 0, .int .u8 0, .int .u8 0, .int .u8 0, .int .u8 0, .int .u8 0] (fun w => by kernel_rfl) h⟩
    clear hS
    intro t1 V5 hs hold hout hall hne hS
    replace HS := hs.trans HS
    obtain ⟨gh, h10, b10, r10⟩ : ∃ g, t1[10]? = some (.pointer (some ⟨g, 0, none⟩)) ∧ M ≤ g ∧ RowAt 32 g V5 := by
      obtain ⟨g, p1, p2, ty, cs, p3, p4⟩ := hall 1 (by omega) 32 rfl
      exact ⟨g, p1, p2, cs, ty, p3, p4⟩
    obtain ⟨x66, q66, v66⟩ : ∃ x, t1[66]? = some x ∧ ((· = .agg (vals La))) x := hout 0 (by omega) rfl
    replace h2 := (hold 2 (slots_not (by kernel_rfl))).trans h2
    replace h3 := (hold 3 (slots_not (by kernel_rfl))).trans h3
    replace h5 := (hold 5 (slots_not (by kernel_rfl))).trans h5
    replace h6 := (hold 6 (slots_not (by kernel_rfl))).trans h6
    replace h7 := (hold 7 (slots_not (by kernel_rfl))).trans h7
    replace h8 := (hold 8 (slots_not (by kernel_rfl))).trans h8
    clear hold hout hall hne hs
    simp only [List.drop_succ_cons, List.drop_zero]
    have bb := Below.refl M V5
    refine st_by rfl (.tmp 10) (.tmp 66) rfl rfl _ _ (eval_tmp h10) (eval_tmp q66) v66 HLLa.out r10 fun V5' e10 p10 => ?_
    replace bb := bb.trans (p10.2.mono b10)
    refine wpList_nil ?_
    have hS2 : BytesAt La w.heap.size V5' ∧ BytesAt Lb (w.heap.size + 1) V5' ∧ ElAt na gx V5' ∧ ElAt nb gy V5' ∧ BytesAt (bytesN Va) gp V5' ∧ BytesAt (bytesN Vb) gq V5' ∧ BytesAt La gh V5' ∧ Below w.heap.size w V5' := ⟨(hS.1).under bb lt0, (hS.2.1).under bb lt1, (hS.2.2.1).under bb lt2, (hS.2.2.2.1).under bb lt3, (hS.2.2.2.2.1).under bb lt4, (hS.2.2.2.2.2.1).under bb lt5, e10, (hS.2.2.2.2.2.2.1).trans (bb.mono hMB)⟩
    have a10_w : w.heap.size ≤ gh := Nat.le_trans hMB b10
    have a10_0 : w.heap.size ≠ gh := Nat.ne_of_lt (Nat.lt_of_lt_of_le lt0 b10)
    have a10_1 : (w.heap.size + 1) ≠ gh := Nat.ne_of_lt (Nat.lt_of_lt_of_le lt1 b10)
    have a10_2 : gx ≠ gh := Nat.ne_of_lt (Nat.lt_of_lt_of_le lt2 b10)
    have a10_3 : gy ≠ gh := Nat.ne_of_lt (Nat.lt_of_lt_of_le lt3 b10)
    have a10_4 : gp ≠ gh := Nat.ne_of_lt (Nat.lt_of_lt_of_le lt4 b10)
    have a10_5 : gq ≠ gh := Nat.ne_of_lt (Nat.lt_of_lt_of_le lt5 b10)
    obtain ⟨f, e0, hf⟩ := wash HS
    have f2 := hf 2 _ h2
    have f3 := hf 3 _ h3
    have f5 := hf 5 _ h5
    have f6 := hf 6 _ h6
    have f7 := hf 7 _ h7
    have f8 := hf 8 _ h8
    have f10 := hf 10 _ h10
    clear hf
    rw [e0.trans (show _ = #[f 0, f 1, f 2, f 3, f 4, f 5, f 6, f 7, f 8, f 9, f 10, f 11, f 12, f 13, f 14, f 15, f 16, f 17, f 18, f 19, f 20, f 21, f 22, f 23, f 24, f 25, f 26, f 27, f 28, f 29, f 30, f 31, f 32, f 33, f 34, f 35, f 36, f 37, f 38, f 39, f 40, f 41, f 42, f 43, f 44, f 45, f 46, f 47, f 48, f 49, f 50, f 51, f 52, f 53, f 54, f 55, f 56, f 57, f 58, f 59, f 60, f 61, f 62, f 63, f 64, f 65, f 66, f 67, f 68, f 69, f 70, f 71, f 72, f 73, f 74, f 75, f 76, f 77, f 78, f 79, f 80, f 81, f 82, f 83, f 84, f 85, f 86, f 87, f 88, f 89, f 90, f 91, f 92, f 93, f 94, f 95, f 96, f 97, f 98, f 99, f 100, f 101, f 102, f 103, f 104, f 105, f 106, f 107, f 108, f 109, f 110, f 111] from by kernel_rfl), f2, f3, f5, f6, f7, f8, f10]
    clear f2 f3 f5 f6 f7 f8 f10
    clear e0
    dsimp only
    clear hS
    have hS := hS2
    clear hS2
    clear h2 h3 h5 h6 h7 h8 h10 p10 r10 b10 e10 v66 q66 lt0 lt1 lt2 lt3 lt4 lt5 hMB bb HS t1 t0 hM M
    obtain ⟨tH, RH⟩ := hS.2.2.2.2.2.2.1
    have c31 := (row_cell RH 31).trans (vals_get (by rw [HLLa.out]; omega))
    have fz := row_free RH 31
    have SH := row_set (i := 31) (v := .int .u8 (bits .xor .u8 (nth La 31) 128)) RH
    rw [vals_set] at SH
    have hS2 : BytesAt La w.heap.size (V5'.setCell ⟨gh, 31, none⟩ (.int .u8 (bits .xor .u8 (nth La 31) 128))) ∧ BytesAt Lb (w.heap.size + 1) (V5'.setCell ⟨gh, 31, none⟩ (.int .u8 (bits .xor .u8 (nth La 31) 128))) ∧ ElAt na gx (V5'.setCell ⟨gh, 31, none⟩ (.int .u8 (bits .xor .u8 (nth La 31) 128))) ∧ ElAt nb gy (V5'.setCell ⟨gh, 31, none⟩ (.int .u8 (bits .xor .u8 (nth La 31) 128))) ∧ BytesAt (bytesN Va) gp (V5'.setCell ⟨gh, 31, none⟩ (.int .u8 (bits .xor .u8 (nth La 31) 128))) ∧ BytesAt (bytesN Vb) gq (V5'.setCell ⟨gh, 31, none⟩ (.int .u8 (bits .xor .u8 (nth La 31) 128))) ∧ BytesAt (La.set 31 (bits .xor .u8 (nth La 31) 128)) gh (V5'.setCell ⟨gh, 31, none⟩ (.int .u8 (bits .xor .u8 (nth La 31) 128))) ∧ Below w.heap.size w (V5'.setCell ⟨gh, 31, none⟩ (.int .u8 (bits .xor .u8 (nth La 31) 128))) := ⟨(hS.1).of_eq (heap_setCell_other _ _ _ _ a10_0), (hS.2.1).of_eq (heap_setCell_other _ _ _ _ a10_1), (hS.2.2.1).of_eq (heap_setCell_other _ _ _ _ a10_2), (hS.2.2.2.1).of_eq (heap_setCell_other _ _ _ _ a10_3), (hS.2.2.2.2.1).of_eq (heap_setCell_other _ _ _ _ a10_4), (hS.2.2.2.2.2.1).of_eq (heap_setCell_other _ _ _ _ a10_5), ⟨_, SH⟩, by have hB9 := hS.2.2.2.2.2.2.2; have hlt9 := a10_w; go_grown⟩
    have HS2 := Lib.hid hS2
    have hx128 := xor128 _ (hbLa.nth 31).1 (hbLa.nth 31).2
    have h31 := hbLa.nth 31
    have hr31 : 0 ≤ bits .xor .u8 (nth La 31) 128 ∧ bits .xor .u8 (nth La 31) 128 < 256 := by rw [hx128]; split <;> omega
    clear hS2 SH RH hS hx128 a10_0 a10_1 a10_2 a10_3 a10_4 a10_5
    have HLH := Lib.hid (show (La.set 31 (bits .xor .u8 (nth La 31) 128)).length = 32 by rw [List.length_set]; exact HLLa.out)
    have HHI := Lib.hid (high_same La HLLa.out hbLa)
    generalize La.set 31 (bits .xor .u8 (nth La 31) 128) = LH at HS2 HLH HHI
    go_wp2_with fail
    generalize (V5'.setCell ⟨gh, 31, none⟩ (.int .u8 (bits .xor .u8 (nth La 31) 128))) = W9 at HS2 ⊢
    have hS := HS2.out
    clear HS2 h31 hr31 c31 fz a10_w
    have hz0 : decide (bytesN Va = bytesN 0) = decide (na = 0) := bytes_same HVa.out rfl
    obtain ⟨M, hM⟩ : ∃ M, M = W9.heap.size := ⟨_, rfl⟩
    have lt0 := (hS.1).lt
    have lt1 := (hS.2.1).lt
    have lt2 := (hS.2.2.1).lt
    have lt3 := (hS.2.2.2.1).lt
    have lt4 := (hS.2.2.2.2.1).lt
    have lt5 := (hS.2.2.2.2.2.1).lt
    have lt6 := (hS.2.2.2.2.2.2.1).lt
    rw [← hM] at lt0 lt1 lt2 lt3 lt4 lt5 lt6
    refine hide_frame fun t0 HT => ?_
    have HS : t0.size = 112 := by rw [HT]; rfl
    have h2 : t0[2]? = some (.pointer (some ⟨w.heap.size, 0, none⟩)) := by rw [HT]; rfl
    have h3 : t0[3]? = some (.pointer (some ⟨(w.heap.size + 1), 0, none⟩)) := by rw [HT]; rfl
    have h5 : t0[5]? = some (.pointer (some ⟨gx, 0, none⟩)) := by rw [HT]; rfl
    have h6 : t0[6]? = some (.pointer (some ⟨gy, 0, none⟩)) := by rw [HT]; rfl
    have h7 : t0[7]? = some (.pointer (some ⟨gp, 0, none⟩)) := by rw [HT]; rfl
    have h8 : t0[8]? = some (.pointer (some ⟨gq, 0, none⟩)) := by rw [HT]; rfl
    have h10 : t0[10]? = some (.pointer (some ⟨gh, 0, none⟩)) := by rw [HT]; rfl
    clear HT
    refine wp_region_all 13 (fun i => [71, 72, 73, 74, 75, 76, 77, 78, 79, 80, 81, 82, 83, 84].getD i 0) (fun i => [(· = .agg (vals LH)), IsEl na, IsEl na, (· = .bool true), (· = .bool false), (· = .bool false), IsEl na, (· = .int .u64 (mk (decide (na = 0)))), (· = .bool (decide (na = 0))), (· = .agg (vals (bytesN Va))), (· = .agg (vals (bytesN 0))), (· = .bool (decide (na = 0))), (· = .bool false), (· = .bool false)].getD i (fun _ => True)) (fun w' => BytesAt La w.heap.size w' ∧ BytesAt Lb (w.heap.size + 1) w' ∧ ElAt na gx w' ∧ ElAt nb gy w' ∧ BytesAt (bytesN Va) gp w' ∧ BytesAt (bytesN Vb) gq w' ∧ BytesAt LH gh w' ∧ Below w.heap.size w w' ∧ M ≤ w'.heap.size)
      (by kernel_rfl) (by kernel_rfl) (by kernel_rfl) (slots_apart (by kernel_rfl)) (slots_lie (by rw [HS]; kernel_rfl)) ⟨hS.1, hS.2.1, hS.2.2.1, hS.2.2.2.1, hS.2.2.2.2.1, hS.2.2.2.2.2.1, hS.2.2.2.2.2.2.1, (hS.2.2.2.2.2.2.2).drew, Nat.le_of_eq hM⟩ (fun w1 w2 h b => ⟨(h.1).keep b, (h.2.1).keep b, (h.2.2.1).keep b, (h.2.2.2.1).keep b, (h.2.2.2.2.1).keep b, (h.2.2.2.2.2.1).keep b, (h.2.2.2.2.2.2.1).keep b, below_call b h.2.2.2.2.2.2.2.1, Nat.le_trans h.2.2.2.2.2.2.2.2 b.size⟩) ?_ ?_
    · clear hS
      intro i o hi ho
      have hc : i = 0 ∨ i = 1 ∨ i = 2 ∨ i = 3 ∨ i = 4 ∨ i = 5 ∨ i = 6 ∨ i = 7 ∨ i = 8 ∨ i = 9 ∨ i = 10 ∨ i = 11 ∨ i = 12 ∨ i = 13 := by omega
      rcases hc with rfl | rfl | rfl | rfl | rfl | rfl | rfl | rfl | rfl | rfl | rfl | rfl | rfl | rfl
      · obtain rfl := Option.some.inj ho
        refine ⟨rfl, fun a w' hS hold hin K hK => ?_⟩
        refine if_always rfl ?_
        exact op_ld_by (.tmp 10) rfl rfl _ (eval_tmp ((hold 10 (slots_not (by kernel_rfl))).trans h10)) hS.2.2.2.2.2.2.1 HLH.out hK
      · obtain rfl := Option.some.inj ho
        refine ⟨rfl, fun a w' hS hold hin K hK => ?_⟩
        obtain ⟨y0, x0, rfl⟩ := hin 0 rfl (by omega)
        refine if_always rfl ?_
        exact op_fn1 _ _ _ _ rfl rfl (eval_tmp x0) (by intro args w; kernel_rfl) (of_ev LH HLH.out HHI.out.2 (HHI.out.1.trans Hna.out) _) hK
      · obtain rfl := Option.some.inj ho
        refine ⟨rfl, fun a w' hS hold hin K hK => ?_⟩
        refine if_always rfl ?_
        exact op_ld_el (.tmp 5) rfl rfl _ (eval_tmp ((hold 5 (slots_not (by kernel_rfl))).trans h5)) hS.2.2.1 hK
      · obtain rfl := Option.some.inj ho
        refine ⟨rfl, fun a w' hS hold hin K hK => ?_⟩
        obtain ⟨y1, x1, (v1 : IsEl na y1)⟩ := hin 1 rfl (by omega)
        obtain ⟨y2, x2, (v2 : IsEl na y2)⟩ := hin 2 rfl (by omega)
        refine if_always rfl ?_
        exact op_fn2 _ _ _ _ _ _ rfl rfl (eval_tmp x1) (eval_tmp x2) (by intro args w; kernel_rfl) (one_el v1 v2 rfl _) hK
      · obtain rfl := Option.some.inj ho
        refine ⟨rfl, fun a w' hS hold hin K hK => ?_⟩
        obtain ⟨y3, x3, rfl⟩ := hin 3 rfl (by omega)
        refine if_always rfl ?_
        exact op_un (V := (· = .bool false)) _ _ _ _ (.bool false) rfl rfl (eval_tmp x3) (fun w => by kernel_rfl) rfl hK
      · obtain rfl := Option.some.inj ho
        refine ⟨rfl, fun a w' hS hold hin K hK => ?_⟩
        obtain ⟨y4, x4, rfl⟩ := hin 4 rfl (by omega)
        refine if_always rfl ?_
        exact op_move (V := (· = .bool false)) _ _ rfl rfl (eval_tmp x4) rfl hK
      · obtain rfl := Option.some.inj ho
        refine ⟨rfl, fun a w' hS hold hin K hK => ?_⟩
        obtain ⟨y5, x5, rfl⟩ := hin 5 rfl (by omega)
        refine if_guard (d := 76) rfl rfl x5 ?_
        exact op_ld_el (.tmp 5) rfl rfl _ (eval_tmp ((hold 5 (slots_not (by kernel_rfl))).trans h5)) hS.2.2.1 hK
      · obtain rfl := Option.some.inj ho
        refine ⟨rfl, fun a w' hS hold hin K hK => ?_⟩
        obtain ⟨y5, x5, rfl⟩ := hin 5 rfl (by omega)
        obtain ⟨y6, x6, (v6 : IsEl na y6)⟩ := hin 6 rfl (by omega)
        refine if_guard (d := 76) rfl rfl x5 ?_
        exact op_fn1 _ _ _ _ rfl rfl (eval_tmp x6) (by intro args w; kernel_rfl) (zero_el v6 _) hK
      · obtain rfl := Option.some.inj ho
        refine ⟨rfl, fun a w' hS hold hin K hK => ?_⟩
        obtain ⟨y5, x5, rfl⟩ := hin 5 rfl (by omega)
        obtain ⟨y7, x7, rfl⟩ := hin 7 rfl (by omega)
        refine if_guard (d := 76) rfl rfl x5 ?_
        exact op_bin (V := (· = .bool (decide (na = 0)))) _ _ _ _ _ _ _ (.bool (decide (na = 0))) rfl rfl (eval_tmp x7) rfl (fun w => eql_mk _ w) rfl hK
      · obtain rfl := Option.some.inj ho
        refine ⟨rfl, fun a w' hS hold hin K hK => ?_⟩
        obtain ⟨y5, x5, rfl⟩ := hin 5 rfl (by omega)
        refine if_guard (d := 76) rfl rfl x5 ?_
        exact op_ld_by (.tmp 7) rfl rfl _ (eval_tmp ((hold 7 (slots_not (by kernel_rfl))).trans h7)) hS.2.2.2.2.1 (bytesN_len _) hK
      · obtain rfl := Option.some.inj ho
        refine ⟨rfl, fun a w' hS hold hin K hK => ?_⟩
        obtain ⟨y5, x5, rfl⟩ := hin 5 rfl (by omega)
        refine if_guard (d := 76) rfl rfl x5 ?_
        exact op_val (V := (· = .agg (vals (bytesN 0)))) (.agg (vals (bytesN 0))) rfl (by kernel_rfl) rfl hK
      · obtain rfl := Option.some.inj ho
        refine ⟨rfl, fun a w' hS hold hin K hK => ?_⟩
        obtain ⟨y5, x5, rfl⟩ := hin 5 rfl (by omega)
        obtain ⟨y9, x9, rfl⟩ := hin 9 rfl (by omega)
        obtain ⟨y10, x10, rfl⟩ := hin 10 rfl (by omega)
        refine if_guard (d := 76) rfl rfl x5 ?_
        exact op_bin (V := (· = .bool (decide (na = 0)))) _ _ _ _ _ _ _ (.bool (decide (na = 0))) rfl rfl (eval_tmp x9) (eval_tmp x10) (fun w => eql_by_as _ _ (bytesN_len _) (bytesN_len _) _ hz0 w) rfl hK
      · obtain rfl := Option.some.inj ho
        refine ⟨rfl, fun a w' hS hold hin K hK => ?_⟩
        obtain ⟨y5, x5, rfl⟩ := hin 5 rfl (by omega)
        obtain ⟨y8, x8, rfl⟩ := hin 8 rfl (by omega)
        obtain ⟨y11, x11, rfl⟩ := hin 11 rfl (by omega)
        refine if_guard (d := 76) rfl rfl x5 ?_
        exact op_bin (V := (· = .bool false)) _ _ _ _ _ _ _ (.bool false) rfl rfl (eval_tmp x8) (eval_tmp x11) (fun w => neq_same _ _ rfl w) rfl hK
      · obtain rfl := Option.some.inj ho
        refine ⟨rfl, fun a w' hS hold hin K hK => ?_⟩
        obtain ⟨y5, x5, rfl⟩ := hin 5 rfl (by omega)
        obtain ⟨y12, x12, rfl⟩ := hin 12 rfl (by omega)
        refine if_always rfl ?_
        exact op_pick (V := (· = .bool false)) _ _ _ false _ rfl rfl (eval_tmp x5) (show (Act.eval a _) = _ from (eval_tmp x12)) rfl hK
    clear hS
    intro t1 W6 hs hold hout hS
    replace HS := hs.trans HS
    obtain ⟨_, q84, rfl⟩ : ∃ x, t1[84]? = some x ∧ x = (.bool false : Value) := hout 13 (by omega)
    obtain ⟨f, e0, hf⟩ := wash HS
    have f84 := hf 84 _ q84
    have f2 := hf 2 _ ((hold 2 (slots_not (by kernel_rfl))).trans h2)
    have f3 := hf 3 _ ((hold 3 (slots_not (by kernel_rfl))).trans h3)
    have f5 := hf 5 _ ((hold 5 (slots_not (by kernel_rfl))).trans h5)
    have f6 := hf 6 _ ((hold 6 (slots_not (by kernel_rfl))).trans h6)
    have f7 := hf 7 _ ((hold 7 (slots_not (by kernel_rfl))).trans h7)
    have f8 := hf 8 _ ((hold 8 (slots_not (by kernel_rfl))).trans h8)
    have f10 := hf 10 _ ((hold 10 (slots_not (by kernel_rfl))).trans h10)
    clear hf
    rw [e0.trans (show _ = #[f 0, f 1, f 2, f 3, f 4, f 5, f 6, f 7, f 8, f 9, f 10, f 11, f 12, f 13, f 14, f 15, f 16, f 17, f 18, f 19, f 20, f 21, f 22, f 23, f 24, f 25, f 26, f 27, f 28, f 29, f 30, f 31, f 32, f 33, f 34, f 35, f 36, f 37, f 38, f 39, f 40, f 41, f 42, f 43, f 44, f 45, f 46, f 47, f 48, f 49, f 50, f 51, f 52, f 53, f 54, f 55, f 56, f 57, f 58, f 59, f 60, f 61, f 62, f 63, f 64, f 65, f 66, f 67, f 68, f 69, f 70, f 71, f 72, f 73, f 74, f 75, f 76, f 77, f 78, f 79, f 80, f 81, f 82, f 83, f 84, f 85, f 86, f 87, f 88, f 89, f 90, f 91, f 92, f 93, f 94, f 95, f 96, f 97, f 98, f 99, f 100, f 101, f 102, f 103, f 104, f 105, f 106, f 107, f 108, f 109, f 110, f 111] from by kernel_rfl), f84, f2, f3, f5, f6, f7, f8, f10]
    clear f84 f2 f3 f5 f6 f7 f8 f10
    clear e0
    dsimp only
    clear h2 h3 h5 h6 h7 h8 h10 q84 hold hout hs HS t1 t0
    have hS' := hS
    clear hS
    have hS : BytesAt La w.heap.size W6 ∧ BytesAt Lb (w.heap.size + 1) W6 ∧ ElAt na gx W6 ∧ ElAt nb gy W6 ∧ BytesAt (bytesN Va) gp W6 ∧ BytesAt (bytesN Vb) gq W6 ∧ BytesAt LH gh W6 ∧ Below w.heap.size w W6 := ⟨hS'.1, hS'.2.1, hS'.2.2.1, hS'.2.2.2.1, hS'.2.2.2.2.1, hS'.2.2.2.2.2.1, hS'.2.2.2.2.2.2.1, hS'.2.2.2.2.2.2.2.1⟩
    clear hS' lt0 lt1 lt2 lt3 lt4 lt5 lt6
    clear hM
    clear M
    have hBW := hS.2.2.2.2.2.2.2
    clear hS hz0
    go_wp2_with fail
    go_loopw [11] (fun i wr => ∃ k : Nat, k ≤ 20 ∧ i = .int .u8 k ∧ Below w.heap.size w wr) (fun i _ => 20 - (intOf i).toNat)
    case atStart => exact ⟨0, by omega, rfl, hBW⟩
    case round =>
      obtain ⟨k, hk, rfl, Bk⟩ := hrel
      clear hBW
      obtain ⟨wo, hwo⟩ : ∃ wo, wo = wr := ⟨_, rfl⟩
      subst hwo
      by_cases hlt : k < 20
      · go_wp2_with fail
        have hsz := Bk.size
        go_loopw [13] (fun i wr => ∃ j : Nat, j ≤ 32 ∧ i = .int .i64 j ∧ wr.heap[wo.heap.size]? = some (.cells (vals (f32.take j ++ z32.drop j)) 22 (0, 0)) ∧ Below w.heap.size w wr) (fun i _ => 32 - (intOf i).toNat)
        case atStart => exact ⟨0, by omega, rfl, row_new, by go_grown⟩
        case round =>
          obtain ⟨j, hj, rfl, Rc, Bj⟩ := hrel
          by_cases hjl : j < 32
          · have cz := (row_cell Rc j).trans (vals_get (by rw [fill_len f32 z32 j rfl hj]; exact hjl))
            have fc := row_free Rc j
            have HS := Lib.hid (row_set (i := j) (v := .int .u8 255) Rc)
            clear Rc
            go_wp2
            go_roundw
            case rel =>
              refine ⟨j + 1, by omega, by go_num, ?_, by go_grown⟩
              refine HS.out.trans ?_
              rw [vals_set, ← f32_nth j hjl, fill_step f32 z32 j hjl rfl]
            case measure => simp [intOf]; omega
          · obtain rfl : j = 32 := by omega
            replace Rc : wr.heap[wo.heap.size]? = some (.cells (vals f32) 22 (0, 0)) := Rc
            have c0 := (row_cell Rc 0).trans (vals_get (by decide))
            have fc := row_free Rc 0
            have SC := row_set (i := 0) (v := .int .u8 (255 - k)) Rc
            rw [vals_set] at SC
            have B20 : Below w.heap.size w (wr.setCell ⟨wo.heap.size, 0, none⟩ (.int .u8 (255 - k))) := by go_grown
            have HSC := Lib.hid SC
            have HB20 := Lib.hid B20
            clear SC Rc B20 Bj
            by_cases h19 : k < 19
            · go_wp2_with fail
              generalize wr.setCell ⟨wo.heap.size, 0, none⟩ (.int .u8 (255 - k)) = W20 at HSC HB20 ⊢
              refine (small_any (18 - (k : Int)) _ (by omega) (by omega)).mono ?_
              rintro e w5 ⟨p0, p1, p2, p3, p4, rfl, HP, b5⟩
              have S5 := row_call b5 HSC.out
              have B5 := below_call b5 HB20.out
              clear b5 HSC HB20
              go_wp2_with fail
              have hS : BytesAt (f32.set 0 (255 - (k : Int))) wo.heap.size (w5.alloc (.cells #[.int .u64 p0, .int .u64 p1, .int .u64 p2, .int .u64 p3, .int .u64 p4] 26)) ∧ ElAt (Fin.ofNat P (18 - (k : Int)).toNat) w5.heap.size (w5.alloc (.cells #[.int .u64 p0, .int .u64 p1, .int .u64 p2, .int .u64 p3, .int .u64 p4] 26)) ∧ Below w.heap.size w (w5.alloc (.cells #[.int .u64 p0, .int .u64 p1, .int .u64 p2, .int .u64 p3, .int .u64 p4] 26)) := ⟨⟨_, row_alloc S5⟩, .mk row_new HP, B5.alloc B5.size _⟩
              have HCV := Lib.hid (show numF (f32.set 0 (255 - (k : Int))) = Fin.ofNat P (18 - (k : Int)).toNat by have := c_num ⟨k, h19⟩; rw [show (18 - (k : Int)).toNat = 18 - k by omega]; exact this)
              have HCB := Lib.hid (c_byt k (by omega))
              have HCL := Lib.hid (show (f32.set 0 (255 - (k : Int))).length = 32 from rfl)
              clear HP S5 B5 c0 fc
              generalize w5.alloc (.cells #[.int .u64 p0, .int .u64 p1, .int .u64 p2, .int .u64 p3, .int .u64 p4] 26) = W24 at hS ⊢
              generalize wo.heap.size = gc at hS ⊢
              generalize w5.heap.size = gw at hS ⊢
              generalize f32.set 0 (255 - (k : Int)) = C at hS HCV HCB HCL
              generalize Fin.ofNat P (18 - (k : Int)).toNat = wv at hS HCV
              obtain ⟨M, hM⟩ : ∃ M, M = W24.heap.size := ⟨_, rfl⟩
              have lt0 := (hS.1).lt
              have lt1 := (hS.2.1).lt
              rw [← hM] at lt0 lt1
              refine hide_frame fun t0 HT => ?_
              have HS : t0.size = 112 := by rw [HT]; rfl
              have h12 : t0[12]? = some (.pointer (some ⟨gc, 0, none⟩)) := by rw [HT]; rfl
              have h14 : t0[14]? = some (.pointer (some ⟨gw, 0, none⟩)) := by rw [HT]; rfl
              have h11 : t0[11]? = some (.int .u8 (k : Nat)) := by rw [HT]; rfl
              refine wp_region_all 4 (fun i => [107, 108, 109, 110, 111].getD i 0) (fun i => [(· = .agg (vals C)), IsEl wv, IsEl wv, (· = .bool true), (· = .bool false)].getD i (fun _ => True)) (fun w' => BytesAt C gc w' ∧ ElAt wv gw w' ∧ Below w.heap.size w w' ∧ M ≤ w'.heap.size)
                (by kernel_rfl) (by kernel_rfl) (by kernel_rfl) (slots_apart (by kernel_rfl)) (slots_lie (by rw [HS]; kernel_rfl)) ⟨hS.1, hS.2.1, (hS.2.2).drew, Nat.le_of_eq hM⟩ (fun w1 w2 h b => ⟨(h.1).keep b, (h.2.1).keep b, below_call b h.2.2.1, Nat.le_trans h.2.2.2 b.size⟩) ?_ ?_
              · clear hS
                intro i o hi ho
                have hc : i = 0 ∨ i = 1 ∨ i = 2 ∨ i = 3 ∨ i = 4 := by omega
                rcases hc with rfl | rfl | rfl | rfl | rfl
                · obtain rfl := Option.some.inj ho
                  refine ⟨rfl, fun a w' hS hold hin K hK => ?_⟩
                  refine if_always rfl ?_
                  exact op_ld_by (.tmp 12) rfl rfl _ (eval_tmp ((hold 12 (slots_not (by kernel_rfl))).trans h12)) hS.1 HCL.out hK
                · obtain rfl := Option.some.inj ho
                  refine ⟨rfl, fun a w' hS hold hin K hK => ?_⟩
                  obtain ⟨y0, x0, rfl⟩ := hin 0 rfl (by omega)
                  refine if_always rfl ?_
                  exact op_fn1 _ _ _ _ rfl rfl (eval_tmp x0) (by intro args w; kernel_rfl) (of_ev C HCL.out HCB.out HCV.out _) hK
                · obtain rfl := Option.some.inj ho
                  refine ⟨rfl, fun a w' hS hold hin K hK => ?_⟩
                  refine if_always rfl ?_
                  exact op_ld_el (.tmp 14) rfl rfl _ (eval_tmp ((hold 14 (slots_not (by kernel_rfl))).trans h14)) hS.2.1 hK
                · obtain rfl := Option.some.inj ho
                  refine ⟨rfl, fun a w' hS hold hin K hK => ?_⟩
                  obtain ⟨y1, x1, (v1 : IsEl wv y1)⟩ := hin 1 rfl (by omega)
                  obtain ⟨y2, x2, (v2 : IsEl wv y2)⟩ := hin 2 rfl (by omega)
                  refine if_always rfl ?_
                  exact op_fn2 _ _ _ _ _ _ rfl rfl (eval_tmp x1) (eval_tmp x2) (by intro args w; kernel_rfl) (one_el v1 v2 rfl _) hK
                · obtain rfl := Option.some.inj ho
                  refine ⟨rfl, fun a w' hS hold hin K hK => ?_⟩
                  obtain ⟨y3, x3, rfl⟩ := hin 3 rfl (by omega)
                  refine if_always rfl ?_
                  exact op_un (V := (· = .bool false)) _ _ _ _ (.bool false) rfl rfl (eval_tmp x3) (fun w => by kernel_rfl) rfl hK
              clear hS
              intro t1 W7 hs hold hout hS
              have ef := frame_fill 5 (fun i => [107, 108, 109, 110, 111].getD i 0) hs hold (slots_apart (by kernel_rfl)) (slots_lie (by rw [HS]; kernel_rfl))
              replace HS := hs.trans HS
              obtain ⟨_, q111, rfl⟩ : ∃ x, t1[111]? = some x ∧ x = (.bool false : Value) := hout 4 (by omega)
              have g111 : t1.getD 111 undef = .bool false := by rw [Array.getD_eq_getD_getElem?, q111]; rfl
              rw [ef, HT]
              clear ef
              simp only [fillA, if_true, List.getD_cons_zero, List.getD_cons_succ, List.setIfInBounds_toArray, List.set_cons_zero, List.set_cons_succ, g111]
              generalize t1.getD 107 undef = x107
              generalize t1.getD 108 undef = x108
              generalize t1.getD 109 undef = x109
              generalize t1.getD 110 undef = x110
              clear g111 HT
              clear h12 h14 h11 q111 hold hout hs HS t1 t0
              have hS' := hS
              clear hS
              have hS : BytesAt C gc W7 ∧ ElAt wv gw W7 ∧ Below w.heap.size w W7 := ⟨hS'.1, hS'.2.1, hS'.2.2.1⟩
              clear hS' lt0 lt1
              clear hM
              clear M
              have hBE := hS.2.2
              clear hS
              go_wp2_with fail
              go_roundw
              case rel => exact ⟨k + 1, by omega, by go_num, hBE⟩
              case measure => simp [intOf]; omega
            · obtain rfl : k = 19 := by omega
              go_wp2_with fail
              rw [show (255 : Int) - ((19 : Nat) : Int) = 236 from rfl] at HSC HB20
              generalize wr.setCell ⟨wo.heap.size, 0, none⟩ (.int .u8 236) = W20 at HSC HB20 ⊢
              rw [show IntKind.u64.wrap (-1) = 18446744073709551615 from by decide]
              refine (small_any 18446744073709551615 _ (by omega) (by omega)).mono ?_
              rintro e w5 ⟨p0, p1, p2, p3, p4, rfl, _, b5⟩
              have S5 := row_call b5 HSC.out
              have B5 := below_call b5 HB20.out
              have L5 := row_lt S5
              have M5 := B5.size
              clear b5 HSC HB20
              go_wp2_with fail
              have S6 := row_alloc (x := .cells #[.int .u64 p0, .int .u64 p1, .int .u64 p2, .int .u64 p3, .int .u64 p4] 26) S5
              have RN := row_new (w := w5) (x := .cells #[.int .u64 p0, .int .u64 p1, .int .u64 p2, .int .u64 p3, .int .u64 p4] 26)
              have B6 := B5.alloc B5.size (.cells #[.int .u64 p0, .int .u64 p1, .int .u64 p2, .int .u64 p3, .int .u64 p4] 26)
              generalize w5.alloc (.cells #[.int .u64 p0, .int .u64 p1, .int .u64 p2, .int .u64 p3, .int .u64 p4] 26) = W6 at S6 RN B6 ⊢
              clear S5 B5
              refine (small_lit 1 _ (by omega)).mono ?_
              rintro e w6 ⟨q0, q1, q2, q3, q4, rfl, HQ, b6⟩
              go_wp2_with fail
              refine (neg_any _ _ _ _ _ _ _ HQ).mono ?_
              rintro e w7 ⟨r0, r1, r2, r3, r4, rfl, HR, b7⟩
              have S7 := row_call b7 (row_call b6 S6)
              have RN7 := row_call b7 (row_call b6 RN)
              have B7 := below_call b7 (below_call b6 B6)
              clear b6 b7 S6 RN B6 W6 HQ
              go_wp2_with (refine st_row rfl 26 (.tmp 14) _ rfl _ _ (by rfl) (by rfl) _ _ RN7 5 tElem (by rfl) (by rfl) (ev_one ..) ?_)
              have hS : BytesAt (f32.set 0 236) wo.heap.size (w7.setRow w5.heap.size #[.int .u64 r0, .int .u64 r1, .int .u64 r2, .int .u64 r3, .int .u64 r4]) ∧ ElAt (0 - Fin.ofNat P 1) w5.heap.size (w7.setRow w5.heap.size #[.int .u64 r0, .int .u64 r1, .int .u64 r2, .int .u64 r3, .int .u64 r4]) ∧ Below w.heap.size w (w7.setRow w5.heap.size #[.int .u64 r0, .int .u64 r1, .int .u64 r2, .int .u64 r3, .int .u64 r4]) := ⟨⟨_, row_put_other S7 (by omega)⟩, .mk (row_put RN7) HR, below_setRow B7 M5 _⟩
              have HCV := Lib.hid (show numF (f32.set 0 236) = 0 - Fin.ofNat P 1 from c_num19)
              have HCB := Lib.hid (show Byt (f32.set 0 236) from c_byt 19 (by omega))
              have HCL := Lib.hid (show (f32.set 0 (236 : Int)).length = 32 from rfl)
              clear HR S7 RN7 B7 c0 fc L5 M5
              generalize w7.setRow w5.heap.size #[.int .u64 r0, .int .u64 r1, .int .u64 r2, .int .u64 r3, .int .u64 r4] = W24 at hS ⊢
              generalize wo.heap.size = gc at hS ⊢
              generalize w5.heap.size = gw at hS ⊢
              generalize f32.set 0 (236 : Int) = C at hS HCV HCB HCL
              generalize (0 : F) - Fin.ofNat P 1 = wv at hS HCV
              obtain ⟨M, hM⟩ : ∃ M, M = W24.heap.size := ⟨_, rfl⟩
              have lt0 := (hS.1).lt
              have lt1 := (hS.2.1).lt
              rw [← hM] at lt0 lt1
              refine hide_frame fun t0 HT => ?_
              have HS : t0.size = 112 := by rw [HT]; rfl
              have h12 : t0[12]? = some (.pointer (some ⟨gc, 0, none⟩)) := by rw [HT]; rfl
              have h14 : t0[14]? = some (.pointer (some ⟨gw, 0, none⟩)) := by rw [HT]; rfl
              have h11 : t0[11]? = some (.int .u8 (19 : Nat)) := by rw [HT]; rfl
              refine wp_region_all 4 (fun i => [107, 108, 109, 110, 111].getD i 0) (fun i => [(· = .agg (vals C)), IsEl wv, IsEl wv, (· = .bool true), (· = .bool false)].getD i (fun _ => True)) (fun w' => BytesAt C gc w' ∧ ElAt wv gw w' ∧ Below w.heap.size w w' ∧ M ≤ w'.heap.size)
                (by kernel_rfl) (by kernel_rfl) (by kernel_rfl) (slots_apart (by kernel_rfl)) (slots_lie (by rw [HS]; kernel_rfl)) ⟨hS.1, hS.2.1, (hS.2.2).drew, Nat.le_of_eq hM⟩ (fun w1 w2 h b => ⟨(h.1).keep b, (h.2.1).keep b, below_call b h.2.2.1, Nat.le_trans h.2.2.2 b.size⟩) ?_ ?_
              · clear hS
                intro i o hi ho
                have hc : i = 0 ∨ i = 1 ∨ i = 2 ∨ i = 3 ∨ i = 4 := by omega
                rcases hc with rfl | rfl | rfl | rfl | rfl
                · obtain rfl := Option.some.inj ho
                  refine ⟨rfl, fun a w' hS hold hin K hK => ?_⟩
                  refine if_always rfl ?_
                  exact op_ld_by (.tmp 12) rfl rfl _ (eval_tmp ((hold 12 (slots_not (by kernel_rfl))).trans h12)) hS.1 HCL.out hK
                · obtain rfl := Option.some.inj ho
                  refine ⟨rfl, fun a w' hS hold hin K hK => ?_⟩
                  obtain ⟨y0, x0, rfl⟩ := hin 0 rfl (by omega)
                  refine if_always rfl ?_
                  exact op_fn1 _ _ _ _ rfl rfl (eval_tmp x0) (by intro args w; kernel_rfl) (of_ev C HCL.out HCB.out HCV.out _) hK
                · obtain rfl := Option.some.inj ho
                  refine ⟨rfl, fun a w' hS hold hin K hK => ?_⟩
                  refine if_always rfl ?_
                  exact op_ld_el (.tmp 14) rfl rfl _ (eval_tmp ((hold 14 (slots_not (by kernel_rfl))).trans h14)) hS.2.1 hK
                · obtain rfl := Option.some.inj ho
                  refine ⟨rfl, fun a w' hS hold hin K hK => ?_⟩
                  obtain ⟨y1, x1, (v1 : IsEl wv y1)⟩ := hin 1 rfl (by omega)
                  obtain ⟨y2, x2, (v2 : IsEl wv y2)⟩ := hin 2 rfl (by omega)
                  refine if_always rfl ?_
                  exact op_fn2 _ _ _ _ _ _ rfl rfl (eval_tmp x1) (eval_tmp x2) (by intro args w; kernel_rfl) (one_el v1 v2 rfl _) hK
                · obtain rfl := Option.some.inj ho
                  refine ⟨rfl, fun a w' hS hold hin K hK => ?_⟩
                  obtain ⟨y3, x3, rfl⟩ := hin 3 rfl (by omega)
                  refine if_always rfl ?_
                  exact op_un (V := (· = .bool false)) _ _ _ _ (.bool false) rfl rfl (eval_tmp x3) (fun w => by kernel_rfl) rfl hK
              clear hS
              intro t1 W8 hs hold hout hS
              have ef := frame_fill 5 (fun i => [107, 108, 109, 110, 111].getD i 0) hs hold (slots_apart (by kernel_rfl)) (slots_lie (by rw [HS]; kernel_rfl))
              replace HS := hs.trans HS
              obtain ⟨_, q111, rfl⟩ : ∃ x, t1[111]? = some x ∧ x = (.bool false : Value) := hout 4 (by omega)
              have g111 : t1.getD 111 undef = .bool false := by rw [Array.getD_eq_getD_getElem?, q111]; rfl
              rw [ef, HT]
              clear ef
              simp only [fillA, if_true, List.getD_cons_zero, List.getD_cons_succ, List.setIfInBounds_toArray, List.set_cons_zero, List.set_cons_succ, g111]
              generalize t1.getD 107 undef = x107
              generalize t1.getD 108 undef = x108
              generalize t1.getD 109 undef = x109
              generalize t1.getD 110 undef = x110
              clear g111 HT
              clear h12 h14 h11 q111 hold hout hs HS t1 t0
              have hS' := hS
              clear hS
              have hS : BytesAt C gc W8 ∧ ElAt wv gw W8 ∧ Below w.heap.size w W8 := ⟨hS'.1, hS'.2.1, hS'.2.2.1⟩
              clear hS' lt0 lt1
              clear hM
              clear M
              have hBE := hS.2.2
              clear hS
              go_wp2_with fail
              go_roundw
              case rel => exact ⟨20, by omega, by go_num, hBE⟩
              case measure => simp [intOf]
      · obtain rfl : k = 20 := by omega
        go_wp2_with fail
        go_returns
        exact ⟨rfl, Bk⟩
end Go.Proofs.Ytciakfhjjnmeeaa
