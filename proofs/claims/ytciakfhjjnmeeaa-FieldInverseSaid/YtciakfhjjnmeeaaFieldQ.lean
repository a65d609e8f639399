/- The walk of FieldInverse: it returns true for all bytes. -/
import Derived.Test.YtciakfhjjnmeeaaFieldP
namespace Go.Proofs.Ytciakfhjjnmeeaa
open Go.RowKit Nt

set_option maxHeartbeats 4000000 in
set_option maxRecDepth 100000 in
theorem fieldInverse_walk (La Lb : List Int) (w : World) (hlLa : La.length = 32) (hbLa : Byt La) (hlLb : Lb.length = 32) (hbLb : Byt Lb) :
    Calls Try.prog 9 #[.agg (vals La), .agg (vals Lb)] w fun e w' => e = .returned (.bool true) ∧ Below w.heap.size w w' := by
  have HLLa := Lib.hid hlLa
  have HLLb := Lib.hid hlLb
  clear hlLa hlLb
  have R0 : BytesAt La w.heap.size ((w.alloc (.cells (vals La) 22)).alloc (.cells (vals Lb) 22)) := ⟨_, new2_0 w (.cells (vals La) 22) (.cells (vals Lb) 22)⟩
  have R1 : BytesAt Lb (w.heap.size + 1) ((w.alloc (.cells (vals La) 22)).alloc (.cells (vals Lb) 22)) := ⟨_, new2_1 w (.cells (vals La) 22) (.cells (vals Lb) 22)⟩
  have B0 : Below w.heap.size w ((w.alloc (.cells (vals La) 22)).alloc (.cells (vals Lb) 22)) := by go_grown
  go_enter Try.func9, Try.ntmps9
  go_wp2_with fail
  generalize (w.alloc (.cells (vals La) 22)).alloc (.cells (vals Lb) 22) = W0 at *
  refine (awake_any _).mono ?_
  rintro e W ⟨rfl, b1⟩
  have hS : BytesAt La w.heap.size W ∧ BytesAt Lb (w.heap.size + 1) W ∧ Below w.heap.size w W := ⟨R0.keep b1, R1.keep b1, below_call b1 B0⟩
  clear b1 R0 R1 B0 W0
  go_wp2_with fail
  obtain ⟨M, hM⟩ : ∃ M, M = W.heap.size := ⟨_, rfl⟩
  have hMB : w.heap.size ≤ M := hM ▸ (hS.2.2).size
  have lt0 := (hS.1).lt
  have lt1 := (hS.2.1).lt
  rw [← hM] at lt0 lt1
  refine hide_frame fun t0 HT => ?_
  have HS : t0.size = 73 := by rw [HT]; rfl
  have h2 : t0[2]? = some (.pointer (some ⟨w.heap.size, 0, none⟩)) := by rw [HT]; rfl
  have h3 : t0[3]? = some (.pointer (some ⟨(w.heap.size + 1), 0, none⟩)) := by rw [HT]; rfl
  clear HT
  refine wp_region_most 6 (fun i => [13, 14, 15, 16, 5, 6].getD i 0) (fun i => [none, none, none, none, some 5, some 5].getD i none) (fun i => [(· = .agg (vals La)), IsEl (numF La), (· = .agg (vals Lb)), IsEl (numF Lb), (fun _ => True), (fun _ => True)].getD i (fun _ => True)) (fun w' => BytesAt La w.heap.size w' ∧ BytesAt Lb (w.heap.size + 1) w' ∧ Below w.heap.size w w' ∧ M ≤ w'.heap.size) M
    (by kernel_rfl) (by kernel_rfl) (slots_apart (by kernel_rfl)) (slots_lie (by rw [HS]; kernel_rfl)) ⟨hS.1, hS.2.1, (hS.2.2).drew, Nat.le_of_eq hM⟩ (fun w' h => h.2.2.2) (fun w1 w2 h b => ⟨(h.1).keep b, (h.2.1).keep b, below_call b h.2.2.1, Nat.le_trans h.2.2.2 b.size⟩) ?_ ?_ ?_
  · clear hS
    intro i o hi ho hA
    have hc : i = 0 ∨ i = 1 ∨ i = 2 ∨ i = 3 ∨ i = 4 ∨ i = 5 := by omega
    rcases hc with rfl | rfl | rfl | rfl | rfl | rfl
    · obtain rfl := Option.some.inj ho
      refine ⟨rfl, fun a w' hS hold hin K hK => ?_⟩
      refine if_always rfl ?_
      exact op_ld_by (.tmp 2) rfl rfl _ (eval_tmp ((hold 2 (slots_not (by kernel_rfl))).trans h2)) hS.1 HLLa.out hK
    · obtain rfl := Option.some.inj ho
      refine ⟨rfl, fun a w' hS hold hin K hK => ?_⟩
      obtain ⟨y0, x0, rfl⟩ := hin 0 rfl (by omega) rfl
      refine if_always rfl ?_
      exact op_fn1 _ _ _ _ rfl rfl (eval_tmp x0) (by intro args w; kernel_rfl) (of_el La HLLa.out hbLa _) hK
    · obtain rfl := Option.some.inj ho
      refine ⟨rfl, fun a w' hS hold hin K hK => ?_⟩
      refine if_always rfl ?_
      exact op_ld_by (.tmp 3) rfl rfl _ (eval_tmp ((hold 3 (slots_not (by kernel_rfl))).trans h3)) hS.2.1 HLLb.out hK
    · obtain rfl := Option.some.inj ho
      refine ⟨rfl, fun a w' hS hold hin K hK => ?_⟩
      obtain ⟨y2, x2, rfl⟩ := hin 2 rfl (by omega) rfl
      refine if_always rfl ?_
      exact op_fn1 _ _ _ _ rfl rfl (eval_tmp x2) (by intro args w; kernel_rfl) (of_el Lb HLLb.out hbLb _) hK
    · cases hA
    · cases hA
  · intro i o sz hi ho hA
    have hc : i = 0 ∨ i = 1 ∨ i = 2 ∨ i = 3 ∨ i = 4 ∨ i = 5 := by omega
    rcases hc with rfl | rfl | rfl | rfl | rfl | rfl
    · cases hA
    · cases hA
    · cases hA
    · cases hA
    · obtain rfl := Option.some.inj ho
      obtain rfl := Option.some.inj hA
      exact ⟨rfl, rfl, 26, #[.int .u64 0, .int .u64 0, .int .u64 0, .int .u64 0, .int .u64 0], rfl, fun a w' K h => wp_new 26 #[.int .u64 0, .int .u64 0, .int .u64 0, .int .u64 0, .int .u64 0] (fun w => by kernel_rfl) h⟩
    · obtain rfl := Option.some.inj ho
      obtain rfl := Option.some.inj hA
      exact ⟨rfl, rfl, 26, #[.int .u64 0, .int .u64 0, .int .u64 0, .int .u64 0, .int .u64 0], rfl, fun a w' K h => wp_new 26 #[.int .u64 0, .int .u64 0, .int .u64 0, .int .u64 0, .int .u64 0] (fun w => by kernel_rfl) h⟩
  clear hS
  intro t1 V1 hs hold hout hall hne hS
  replace HS := hs.trans HS
  obtain ⟨gx, h5, b5, r5⟩ : ∃ g, t1[5]? = some (.pointer (some ⟨g, 0, none⟩)) ∧ M ≤ g ∧ RowAt 5 g V1 := by
    obtain ⟨g, p1, p2, ty, cs, p3, p4⟩ := hall 4 (by omega) 5 rfl
    exact ⟨g, p1, p2, cs, ty, p3, p4⟩
  obtain ⟨gy, h6, b6, r6⟩ : ∃ g, t1[6]? = some (.pointer (some ⟨g, 0, none⟩)) ∧ M ≤ g ∧ RowAt 5 g V1 := by
    obtain ⟨g, p1, p2, ty, cs, p3, p4⟩ := hall 5 (by omega) 5 rfl
    exact ⟨g, p1, p2, cs, ty, p3, p4⟩
  have n5_6 : gx ≠ gy := fun h => hne 4 5 (by omega) (by omega) (by omega) rfl rfl (show t1[5]? = t1[6]? by rw [h5, h6, h])
  obtain ⟨x14, q14, v14⟩ : ∃ x, t1[14]? = some x ∧ (IsEl (numF La)) x := hout 1 (by omega) rfl
  obtain ⟨x16, q16, v16⟩ : ∃ x, t1[16]? = some x ∧ (IsEl (numF Lb)) x := hout 3 (by omega) rfl
  replace h2 := (hold 2 (slots_not (by kernel_rfl))).trans h2
  replace h3 := (hold 3 (slots_not (by kernel_rfl))).trans h3
  clear hold hout hall hne hs
  simp only [List.drop_succ_cons, List.drop_zero]
  have bb := Below.refl M V1
  refine st_el rfl (.tmp 5) (.tmp 14) rfl rfl _ _ (eval_tmp h5) (eval_tmp q14) v14 r5 fun V1' e5 p5 => ?_
  replace bb := bb.trans (p5.2.mono b5)
  replace r6 := r6.of_eq (p5.1 _ (Ne.symm n5_6))
  refine st_el rfl (.tmp 6) (.tmp 16) rfl rfl _ _ (eval_tmp h6) (eval_tmp q16) v16 r6 fun V1'' e6 p6 => ?_
  replace bb := bb.trans (p6.2.mono b6)
  replace e5 := e5.of_eq (p6.1 _ n5_6)
  refine wpList_nil ?_
  have hS2 : BytesAt La w.heap.size V1'' ∧ BytesAt Lb (w.heap.size + 1) V1'' ∧ ElAt (numF La) gx V1'' ∧ ElAt (numF Lb) gy V1'' ∧ Below w.heap.size w V1'' := ⟨(hS.1).under bb lt0, (hS.2.1).under bb lt1, e5, e6, (hS.2.2.1).trans (bb.mono hMB)⟩
  obtain ⟨f, e0, hf⟩ := wash HS
  have f2 := hf 2 _ h2
  have f3 := hf 3 _ h3
  have f5 := hf 5 _ h5
  have f6 := hf 6 _ h6
  clear hf
  rw [e0.trans (show _ = #[f 0, f 1, f 2, f 3, f 4, f 5, f 6, f 7, f 8, f 9, f 10, f 11, f 12, f 13, f 14, f 15, f 16, f 17, f 18, f 19, f 20, f 21, f 22, f 23, f 24, f 25, f 26, f 27, f 28, f 29, f 30, f 31, f 32, f 33, f 34, f 35, f 36, f 37, f 38, f 39, f 40, f 41, f 42, f 43, f 44, f 45, f 46, f 47, f 48, f 49, f 50, f 51, f 52, f 53, f 54, f 55, f 56, f 57, f 58, f 59, f 60, f 61, f 62, f 63, f 64, f 65, f 66, f 67, f 68, f 69, f 70, f 71, f 72] from by kernel_rfl), f2, f3, f5, f6]
  clear f2 f3 f5 f6
  clear e0
  dsimp only
  clear hS
  have hS := hS2
  clear hS2
  clear h2 h3 h5 h6 p5 p6 r5 r6 b5 b6 e5 e6 n5_6 v14 v16 q14 q16 lt0 lt1 hMB bb HS t1 t0 hM M
  generalize numF La = na at hS
  generalize numF Lb = nb at hS
  go_wp2_with ((with_reducible refine guard_list ?_); first | (refine held_load 26 _ rfl ?_) | (refine held_load 22 _ rfl ?_))
  obtain ⟨ia, hia⟩ : ∃ ia, ia = inv na := ⟨_, rfl⟩
  obtain ⟨ka, hka⟩ : ∃ ka, ka = inv nb := ⟨_, rfl⟩
  have e7 : na = inv ia := by rw [hia, inv_inv]
  have e14 : ia * ka = inv (na * nb) := by rw [hia, hka, inv_mul_distrib]
  have e10 : na = 0 → ia = 0 := fun h => by rw [hia, h, inv_zero]
  have e11 : ¬ na = 0 → na * ia = 1 := fun h => by rw [hia]; exact mul_inv h
  obtain ⟨M, hM⟩ : ∃ M, M = V1''.heap.size := ⟨_, rfl⟩
  have hMB : w.heap.size ≤ M := hM ▸ (hS.2.2.2.2).size
  have lt0 := (hS.1).lt
  have lt1 := (hS.2.1).lt
  have lt2 := (hS.2.2.1).lt
  have lt3 := (hS.2.2.2.1).lt
  rw [← hM] at lt0 lt1 lt2 lt3
  refine hide_frame fun t0 HT => ?_
  have HS : t0.size = 73 := by rw [HT]; rfl
  have h2 : t0[2]? = some (.pointer (some ⟨w.heap.size, 0, none⟩)) := by rw [HT]; rfl
  have h3 : t0[3]? = some (.pointer (some ⟨(w.heap.size + 1), 0, none⟩)) := by rw [HT]; rfl
  have h5 : t0[5]? = some (.pointer (some ⟨gx, 0, none⟩)) := by rw [HT]; rfl
  have h6 : t0[6]? = some (.pointer (some ⟨gy, 0, none⟩)) := by rw [HT]; rfl
  clear HT
  refine wp_region_most 6 (fun i => [17, 18, 19, 20, 7, 8].getD i 0) (fun i => [none, none, none, none, some 5, some 5].getD i none) (fun i => [IsEl na, IsEl ia, IsEl nb, IsEl ka, (fun _ => True), (fun _ => True)].getD i (fun _ => True)) (fun w' => BytesAt La w.heap.size w' ∧ BytesAt Lb (w.heap.size + 1) w' ∧ ElAt na gx w' ∧ ElAt nb gy w' ∧ Below w.heap.size w w' ∧ M ≤ w'.heap.size) M
    (by kernel_rfl) (by kernel_rfl) (slots_apart (by kernel_rfl)) (slots_lie (by rw [HS]; kernel_rfl)) ⟨hS.1, hS.2.1, hS.2.2.1, hS.2.2.2.1, (hS.2.2.2.2).drew, Nat.le_of_eq hM⟩ (fun w' h => h.2.2.2.2.2) (fun w1 w2 h b => ⟨(h.1).keep b, (h.2.1).keep b, (h.2.2.1).keep b, (h.2.2.2.1).keep b, below_call b h.2.2.2.2.1, Nat.le_trans h.2.2.2.2.2 b.size⟩) ?_ ?_ ?_
  · clear hS
    intro i o hi ho hA
    have hc : i = 0 ∨ i = 1 ∨ i = 2 ∨ i = 3 ∨ i = 4 ∨ i = 5 := by omega
    rcases hc with rfl | rfl | rfl | rfl | rfl | rfl
    · obtain rfl := Option.some.inj ho
      refine ⟨rfl, fun a w' hS hold hin K hK => ?_⟩
      refine if_always rfl ?_
      exact op_ld_el (.tmp 5) rfl rfl _ (eval_tmp ((hold 5 (slots_not (by kernel_rfl))).trans h5)) hS.2.2.1 hK
    · obtain rfl := Option.some.inj ho
      refine ⟨rfl, fun a w' hS hold hin K hK => ?_⟩
      obtain ⟨y0, x0, (v0 : IsEl na y0)⟩ := hin 0 rfl (by omega) rfl
      refine if_always rfl ?_
      exact op_fn1 _ _ _ _ rfl rfl (eval_tmp x0) (by intro args w; kernel_rfl) (inv_ev v0 hia _) hK
    · obtain rfl := Option.some.inj ho
      refine ⟨rfl, fun a w' hS hold hin K hK => ?_⟩
      refine if_always rfl ?_
      exact op_ld_el (.tmp 6) rfl rfl _ (eval_tmp ((hold 6 (slots_not (by kernel_rfl))).trans h6)) hS.2.2.2.1 hK
    · obtain rfl := Option.some.inj ho
      refine ⟨rfl, fun a w' hS hold hin K hK => ?_⟩
      obtain ⟨y2, x2, (v2 : IsEl nb y2)⟩ := hin 2 rfl (by omega) rfl
      refine if_always rfl ?_
      exact op_fn1 _ _ _ _ rfl rfl (eval_tmp x2) (by intro args w; kernel_rfl) (inv_ev v2 hka _) hK
    · cases hA
    · cases hA
  · intro i o sz hi ho hA
    have hc : i = 0 ∨ i = 1 ∨ i = 2 ∨ i = 3 ∨ i = 4 ∨ i = 5 := by omega
    rcases hc with rfl | rfl | rfl | rfl | rfl | rfl
    · cases hA
    · cases hA
    · cases hA
    · cases hA
    · obtain rfl := Option.some.inj ho
      obtain rfl := Option.some.inj hA
      exact ⟨rfl, rfl, 26, #[.int .u64 0, .int .u64 0, .int .u64 0, .int .u64 0, .int .u64 0], rfl, fun a w' K h => wp_new 26 #[.int .u64 0, .int .u64 0, .int .u64 0, .int .u64 0, .int .u64 0] (fun w => by kernel_rfl) h⟩
    · obtain rfl := Option.some.inj ho
      obtain rfl := Option.some.inj hA
      exact ⟨rfl, rfl, 26, #[.int .u64 0, .int .u64 0, .int .u64 0, .int .u64 0, .int .u64 0], rfl, fun a w' K h => wp_new 26 #[.int .u64 0, .int .u64 0, .int .u64 0, .int .u64 0, .int .u64 0] (fun w => by kernel_rfl) h⟩
  clear hS
  intro t1 V2 hs hold hout hall hne hS
  replace HS := hs.trans HS
  obtain ⟨gi, h7, b7, r7⟩ : ∃ g, t1[7]? = some (.pointer (some ⟨g, 0, none⟩)) ∧ M ≤ g ∧ RowAt 5 g V2 := by
    obtain ⟨g, p1, p2, ty, cs, p3, p4⟩ := hall 4 (by omega) 5 rfl
    exact ⟨g, p1, p2, cs, ty, p3, p4⟩
  obtain ⟨gk, h8, b8, r8⟩ : ∃ g, t1[8]? = some (.pointer (some ⟨g, 0, none⟩)) ∧ M ≤ g ∧ RowAt 5 g V2 := by
    obtain ⟨g, p1, p2, ty, cs, p3, p4⟩ := hall 5 (by omega) 5 rfl
    exact ⟨g, p1, p2, cs, ty, p3, p4⟩
  have n7_8 : gi ≠ gk := fun h => hne 4 5 (by omega) (by omega) (by omega) rfl rfl (show t1[7]? = t1[8]? by rw [h7, h8, h])
  obtain ⟨x18, q18, v18⟩ : ∃ x, t1[18]? = some x ∧ (IsEl ia) x := hout 1 (by omega) rfl
  obtain ⟨x20, q20, v20⟩ : ∃ x, t1[20]? = some x ∧ (IsEl ka) x := hout 3 (by omega) rfl
  replace h2 := (hold 2 (slots_not (by kernel_rfl))).trans h2
  replace h3 := (hold 3 (slots_not (by kernel_rfl))).trans h3
  replace h5 := (hold 5 (slots_not (by kernel_rfl))).trans h5
  replace h6 := (hold 6 (slots_not (by kernel_rfl))).trans h6
  clear hold hout hall hne hs
  simp only [List.drop_succ_cons, List.drop_zero]
  have bb := Below.refl M V2
  refine st_el rfl (.tmp 7) (.tmp 18) rfl rfl _ _ (eval_tmp h7) (eval_tmp q18) v18 r7 fun V2' e7 p7 => ?_
  replace bb := bb.trans (p7.2.mono b7)
  replace r8 := r8.of_eq (p7.1 _ (Ne.symm n7_8))
  refine st_el rfl (.tmp 8) (.tmp 20) rfl rfl _ _ (eval_tmp h8) (eval_tmp q20) v20 r8 fun V2'' e8 p8 => ?_
  replace bb := bb.trans (p8.2.mono b8)
  replace e7 := e7.of_eq (p8.1 _ n7_8)
  refine wpList_nil ?_
  have hS2 : BytesAt La w.heap.size V2'' ∧ BytesAt Lb (w.heap.size + 1) V2'' ∧ ElAt na gx V2'' ∧ ElAt nb gy V2'' ∧ ElAt ia gi V2'' ∧ ElAt ka gk V2'' ∧ Below w.heap.size w V2'' := ⟨(hS.1).under bb lt0, (hS.2.1).under bb lt1, (hS.2.2.1).under bb lt2, (hS.2.2.2.1).under bb lt3, e7, e8, (hS.2.2.2.2.1).trans (bb.mono hMB)⟩
  obtain ⟨f, e0, hf⟩ := wash HS
  have f2 := hf 2 _ h2
  have f3 := hf 3 _ h3
  have f5 := hf 5 _ h5
  have f6 := hf 6 _ h6
  have f7 := hf 7 _ h7
  have f8 := hf 8 _ h8
  clear hf
  rw [e0.trans (show _ = #[f 0, f 1, f 2, f 3, f 4, f 5, f 6, f 7, f 8, f 9, f 10, f 11, f 12, f 13, f 14, f 15, f 16, f 17, f 18, f 19, f 20, f 21, f 22, f 23, f 24, f 25, f 26, f 27, f 28, f 29, f 30, f 31, f 32, f 33, f 34, f 35, f 36, f 37, f 38, f 39, f 40, f 41, f 42, f 43, f 44, f 45, f 46, f 47, f 48, f 49, f 50, f 51, f 52, f 53, f 54, f 55, f 56, f 57, f 58, f 59, f 60, f 61, f 62, f 63, f 64, f 65, f 66, f 67, f 68, f 69, f 70, f 71, f 72] from by kernel_rfl), f2, f3, f5, f6, f7, f8]
  clear f2 f3 f5 f6 f7 f8
  clear e0
  dsimp only
  clear hS
  have hS := hS2
  clear hS2
  clear h2 h3 h5 h6 h7 h8 p7 p8 r7 r8 b7 b8 e7 e8 n7_8 v18 v20 q18 q20 lt0 lt1 lt2 lt3 hMB bb HS t1 t0 hM M
  go_wp2_with ((with_reducible refine guard_list ?_); first | (refine held_load 26 _ rfl ?_) | (refine held_load 22 _ rfl ?_))
  obtain ⟨M, hM⟩ : ∃ M, M = V2''.heap.size := ⟨_, rfl⟩
  have hMB : w.heap.size ≤ M := hM ▸ (hS.2.2.2.2.2.2).size
  have lt0 := (hS.1).lt
  have lt1 := (hS.2.1).lt
  have lt2 := (hS.2.2.1).lt
  have lt3 := (hS.2.2.2.1).lt
  have lt4 := (hS.2.2.2.2.1).lt
  have lt5 := (hS.2.2.2.2.2.1).lt
  rw [← hM] at lt0 lt1 lt2 lt3 lt4 lt5
  refine hide_held fun t0 HT => ?_
  have HS : t0.size = 73 := by rw [HT]; rfl
  have h2 : t0[2]? = some (.pointer (some ⟨w.heap.size, 0, none⟩)) := by rw [HT]; rfl
  have h3 : t0[3]? = some (.pointer (some ⟨(w.heap.size + 1), 0, none⟩)) := by rw [HT]; rfl
  have h5 : t0[5]? = some (.pointer (some ⟨gx, 0, none⟩)) := by rw [HT]; rfl
  have h6 : t0[6]? = some (.pointer (some ⟨gy, 0, none⟩)) := by rw [HT]; rfl
  have h7 : t0[7]? = some (.pointer (some ⟨gi, 0, none⟩)) := by rw [HT]; rfl
  have h8 : t0[8]? = some (.pointer (some ⟨gk, 0, none⟩)) := by rw [HT]; rfl
  clear HT
  refine wp_list_most 4 (fun i => [21, 22, 23, 9].getD i 0) (fun i => [none, none, none, some 5].getD i none) (fun i => [IsEl na, IsEl nb, IsEl (na * nb), (fun _ => True)].getD i (fun _ => True)) (fun w' => BytesAt La w.heap.size w' ∧ BytesAt Lb (w.heap.size + 1) w' ∧ ElAt na gx w' ∧ ElAt nb gy w' ∧ ElAt ia gi w' ∧ ElAt ka gk w' ∧ Below w.heap.size w w' ∧ M ≤ w'.heap.size) M
    (by kernel_rfl) (slots_apart (by kernel_rfl)) (slots_lie (by rw [HS]; kernel_rfl)) ⟨hS.1, hS.2.1, hS.2.2.1, hS.2.2.2.1, hS.2.2.2.2.1, hS.2.2.2.2.2.1, hS.2.2.2.2.2.2, Nat.le_of_eq hM⟩ (fun w' h => h.2.2.2.2.2.2.2) (fun w1 w2 h b => ⟨(h.1).keep b, (h.2.1).keep b, (h.2.2.1).keep b, (h.2.2.2.1).keep b, (h.2.2.2.2.1).keep b, (h.2.2.2.2.2.1).keep b, below_call b h.2.2.2.2.2.2.1, Nat.le_trans h.2.2.2.2.2.2.2 b.size⟩) ?_ ?_ ?_
  · clear hS
    intro i o hi ho hA
    have hc : i = 0 ∨ i = 1 ∨ i = 2 ∨ i = 3 := by omega
    rcases hc with rfl | rfl | rfl | rfl
    · obtain rfl := Option.some.inj ho
      refine ⟨rfl, fun a w' hS hold hin K hK => ?_⟩
      refine if_always rfl ?_
      exact op_ld_el (.tmp 5) rfl rfl _ (eval_tmp ((hold 5 (slots_not (by kernel_rfl))).trans h5)) hS.2.2.1 hK
    · obtain rfl := Option.some.inj ho
      refine ⟨rfl, fun a w' hS hold hin K hK => ?_⟩
      refine if_always rfl ?_
      exact op_ld_el (.tmp 6) rfl rfl _ (eval_tmp ((hold 6 (slots_not (by kernel_rfl))).trans h6)) hS.2.2.2.1 hK
    · obtain rfl := Option.some.inj ho
      refine ⟨rfl, fun a w' hS hold hin K hK => ?_⟩
      obtain ⟨y0, x0, (v0 : IsEl na y0)⟩ := hin 0 rfl (by omega) rfl
      obtain ⟨y1, x1, (v1 : IsEl nb y1)⟩ := hin 1 rfl (by omega) rfl
      refine if_always rfl ?_
      exact op_fn2 _ _ _ _ _ _ rfl rfl (eval_tmp x0) (eval_tmp x1) (by intro args w; kernel_rfl) (mul_el v0 v1 _) hK
    · cases hA
  · intro i o sz hi ho hA
    have hc : i = 0 ∨ i = 1 ∨ i = 2 ∨ i = 3 := by omega
    rcases hc with rfl | rfl | rfl | rfl
    · cases hA
    · cases hA
    · cases hA
    · obtain rfl := Option.some.inj ho
      obtain rfl := Option.some.inj hA
      exact ⟨rfl, rfl, 26, #[.int .u64 0, .int .u64 0, .int .u64 0, .int .u64 0, .int .u64 0], rfl, fun a w' K h => wp_new 26 #[.int .u64 0, .int .u64 0, .int .u64 0, .int .u64 0, .int .u64 0] (fun w => by kernel_rfl) h⟩
  clear hS
  intro t1 V3 hs hold hout hall hne hS
  replace HS := hs.trans HS
  obtain ⟨gp, h9, b9, r9⟩ : ∃ g, t1[9]? = some (.pointer (some ⟨g, 0, none⟩)) ∧ M ≤ g ∧ RowAt 5 g V3 := by
    obtain ⟨g, p1, p2, ty, cs, p3, p4⟩ := hall 3 (by omega) 5 rfl
    exact ⟨g, p1, p2, cs, ty, p3, p4⟩
  obtain ⟨x23, q23, v23⟩ : ∃ x, t1[23]? = some x ∧ (IsEl (na * nb)) x := hout 2 (by omega) rfl
  replace h2 := (hold 2 (slots_not (by kernel_rfl))).trans h2
  replace h3 := (hold 3 (slots_not (by kernel_rfl))).trans h3
  replace h5 := (hold 5 (slots_not (by kernel_rfl))).trans h5
  replace h6 := (hold 6 (slots_not (by kernel_rfl))).trans h6
  replace h7 := (hold 7 (slots_not (by kernel_rfl))).trans h7
  replace h8 := (hold 8 (slots_not (by kernel_rfl))).trans h8
  clear hold hout hall hne hs
  simp only [List.drop_succ_cons, List.drop_zero]
  have bb := Below.refl M V3
  refine st_el rfl (.tmp 9) (.tmp 23) rfl rfl _ _ (eval_tmp h9) (eval_tmp q23) v23 r9 fun V3' e9 p9 => ?_
  replace bb := bb.trans (p9.2.mono b9)
  refine wpList_nil ?_
  have hS2 : BytesAt La w.heap.size V3' ∧ BytesAt Lb (w.heap.size + 1) V3' ∧ ElAt na gx V3' ∧ ElAt nb gy V3' ∧ ElAt ia gi V3' ∧ ElAt ka gk V3' ∧ ElAt (na * nb) gp V3' ∧ Below w.heap.size w V3' := ⟨(hS.1).under bb lt0, (hS.2.1).under bb lt1, (hS.2.2.1).under bb lt2, (hS.2.2.2.1).under bb lt3, (hS.2.2.2.2.1).under bb lt4, (hS.2.2.2.2.2.1).under bb lt5, e9, (hS.2.2.2.2.2.2.1).trans (bb.mono hMB)⟩
  obtain ⟨f, e0, hf⟩ := wash HS
  have f2 := hf 2 _ h2
  have f3 := hf 3 _ h3
  have f5 := hf 5 _ h5
  have f6 := hf 6 _ h6
  have f7 := hf 7 _ h7
  have f8 := hf 8 _ h8
  have f9 := hf 9 _ h9
  clear hf
  rw [e0.trans (show _ = #[f 0, f 1, f 2, f 3, f 4, f 5, f 6, f 7, f 8, f 9, f 10, f 11, f 12, f 13, f 14, f 15, f 16, f 17, f 18, f 19, f 20, f 21, f 22, f 23, f 24, f 25, f 26, f 27, f 28, f 29, f 30, f 31, f 32, f 33, f 34, f 35, f 36, f 37, f 38, f 39, f 40, f 41, f 42, f 43, f 44, f 45, f 46, f 47, f 48, f 49, f 50, f 51, f 52, f 53, f 54, f 55, f 56, f 57, f 58, f 59, f 60, f 61, f 62, f 63, f 64, f 65, f 66, f 67, f 68, f 69, f 70, f 71, f 72] from by kernel_rfl), f2, f3, f5, f6, f7, f8, f9]
  clear f2 f3 f5 f6 f7 f8 f9
  clear e0
  dsimp only
  clear hS
  have hS := hS2
  clear hS2
  clear h2 h3 h5 h6 h7 h8 h9 p9 r9 b9 e9 v23 q23 lt0 lt1 lt2 lt3 lt4 lt5 hMB bb HS t1 t0 hM M
  go_wp2_with ((with_reducible refine guard_list ?_); first | (refine held_load 26 _ rfl ?_) | (refine held_load 22 _ rfl ?_))
  by_cases hx : na = 0
  · obtain ⟨M, hM⟩ : ∃ M, M = V3'.heap.size := ⟨_, rfl⟩
    have lt0 := (hS.1).lt
    have lt1 := (hS.2.1).lt
    have lt2 := (hS.2.2.1).lt
    have lt3 := (hS.2.2.2.1).lt
    have lt4 := (hS.2.2.2.2.1).lt
    have lt5 := (hS.2.2.2.2.2.1).lt
    have lt6 := (hS.2.2.2.2.2.2.1).lt
    rw [← hM] at lt0 lt1 lt2 lt3 lt4 lt5 lt6
    refine hide_held fun t0 HT => ?_
    have HS : t0.size = 73 := by rw [HT]; rfl
    have h2 : t0[2]? = some (.pointer (some ⟨w.heap.size, 0, none⟩)) := by rw [HT]; rfl
    have h3 : t0[3]? = some (.pointer (some ⟨(w.heap.size + 1), 0, none⟩)) := by rw [HT]; rfl
    have h5 : t0[5]? = some (.pointer (some ⟨gx, 0, none⟩)) := by rw [HT]; rfl
    have h6 : t0[6]? = some (.pointer (some ⟨gy, 0, none⟩)) := by rw [HT]; rfl
    have h7 : t0[7]? = some (.pointer (some ⟨gi, 0, none⟩)) := by rw [HT]; rfl
    have h8 : t0[8]? = some (.pointer (some ⟨gk, 0, none⟩)) := by rw [HT]; rfl
    have h9 : t0[9]? = some (.pointer (some ⟨gp, 0, none⟩)) := by rw [HT]; rfl
    clear HT
    refine wp_list_all 8 (fun i => [24, 25, 26, 27, 28, 29, 30, 31, 10].getD i 0) (fun i => [IsEl na, (· = .int .u64 18446744073709551615), (· = .bool true), (· = .bool true), (fun _ => True), (fun _ => True), (fun _ => True), (· = .bool true), (· = .bool true)].getD i (fun _ => True)) (fun w' => BytesAt La w.heap.size w' ∧ BytesAt Lb (w.heap.size + 1) w' ∧ ElAt na gx w' ∧ ElAt nb gy w' ∧ ElAt ia gi w' ∧ ElAt ka gk w' ∧ ElAt (na * nb) gp w' ∧ Below w.heap.size w w' ∧ M ≤ w'.heap.size)
      (by kernel_rfl) (by kernel_rfl) (slots_apart (by kernel_rfl)) (slots_lie (by rw [HS]; kernel_rfl)) ⟨hS.1, hS.2.1, hS.2.2.1, hS.2.2.2.1, hS.2.2.2.2.1, hS.2.2.2.2.2.1, hS.2.2.2.2.2.2.1, hS.2.2.2.2.2.2.2, Nat.le_of_eq hM⟩ (fun w1 w2 h b => ⟨(h.1).keep b, (h.2.1).keep b, (h.2.2.1).keep b, (h.2.2.2.1).keep b, (h.2.2.2.2.1).keep b, (h.2.2.2.2.2.1).keep b, (h.2.2.2.2.2.2.1).keep b, below_call b h.2.2.2.2.2.2.2.1, Nat.le_trans h.2.2.2.2.2.2.2.2 b.size⟩) ?_ ?_
    · clear hS
      intro i o hi ho
      have hc : i = 0 ∨ i = 1 ∨ i = 2 ∨ i = 3 ∨ i = 4 ∨ i = 5 ∨ i = 6 ∨ i = 7 ∨ i = 8 := by omega
      rcases hc with rfl | rfl | rfl | rfl | rfl | rfl | rfl | rfl | rfl
      · obtain rfl := Option.some.inj ho
        refine ⟨rfl, fun a w' hS hold hin K hK => ?_⟩
        refine if_always rfl ?_
        exact op_ld_el (.tmp 5) rfl rfl _ (eval_tmp ((hold 5 (slots_not (by kernel_rfl))).trans h5)) hS.2.2.1 hK
      · obtain rfl := Option.some.inj ho
        refine ⟨rfl, fun a w' hS hold hin K hK => ?_⟩
        obtain ⟨y0, x0, (v0 : IsEl na y0)⟩ := hin 0 rfl (by omega)
        refine if_always rfl ?_
        exact op_fn1 _ _ _ _ rfl rfl (eval_tmp x0) (by intro args w; kernel_rfl) (zero_el_yes v0 hx _) hK
      · obtain rfl := Option.some.inj ho
        refine ⟨rfl, fun a w' hS hold hin K hK => ?_⟩
        obtain ⟨y1, x1, rfl⟩ := hin 1 rfl (by omega)
        refine if_always rfl ?_
        exact op_bin (V := (· = .bool true)) _ _ _ _ _ _ _ (.bool true) rfl rfl (eval_tmp x1) rfl (fun w => by kernel_rfl) rfl hK
      · obtain rfl := Option.some.inj ho
        refine ⟨rfl, fun a w' hS hold hin K hK => ?_⟩
        obtain ⟨y2, x2, rfl⟩ := hin 2 rfl (by omega)
        refine if_always rfl ?_
        exact op_move (V := (· = .bool true)) _ _ rfl rfl (eval_tmp x2) rfl hK
      · obtain rfl := Option.some.inj ho
        refine ⟨rfl, fun a w' hS hold hin K hK => ?_⟩
        obtain ⟨y3, x3, rfl⟩ := hin 3 rfl (by omega)
        exact if_guard_off (d := 27) rfl rfl x3 (by decide) (hK _ _ trivial (Below.refl _ _))
      · obtain rfl := Option.some.inj ho
        refine ⟨rfl, fun a w' hS hold hin K hK => ?_⟩
        obtain ⟨y3, x3, rfl⟩ := hin 3 rfl (by omega)
        exact if_guard_off (d := 27) rfl rfl x3 (by decide) (hK _ _ trivial (Below.refl _ _))
      · obtain rfl := Option.some.inj ho
        refine ⟨rfl, fun a w' hS hold hin K hK => ?_⟩
        obtain ⟨y3, x3, rfl⟩ := hin 3 rfl (by omega)
        exact if_guard_off (d := 27) rfl rfl x3 (by decide) (hK _ _ trivial (Below.refl _ _))
      · obtain rfl := Option.some.inj ho
        refine ⟨rfl, fun a w' hS hold hin K hK => ?_⟩
        obtain ⟨y3, x3, rfl⟩ := hin 3 rfl (by omega)
        refine if_always rfl ?_
        exact op_pick (V := (· = .bool true)) _ _ _ true _ rfl rfl (eval_tmp x3) (show Act.eval a (.const (.bool true)) = (.bool true) from rfl) rfl hK
      · obtain rfl := Option.some.inj ho
        refine ⟨rfl, fun a w' hS hold hin K hK => ?_⟩
        obtain ⟨y7, x7, rfl⟩ := hin 7 rfl (by omega)
        refine if_always rfl ?_
        exact op_assign (V := (· = .bool true)) _ _ rfl rfl (eval_tmp x7) rfl hK
    clear hS
    intro t1 W4 hs hold hout hS
    replace HS := hs.trans HS
    obtain ⟨_, q10, rfl⟩ : ∃ x, t1[10]? = some x ∧ x = (.bool true : Value) := hout 8 (by omega)
    obtain ⟨f, e0, hf⟩ := wash HS
    have f10 := hf 10 _ q10
    have f2 := hf 2 _ ((hold 2 (slots_not (by kernel_rfl))).trans h2)
    have f3 := hf 3 _ ((hold 3 (slots_not (by kernel_rfl))).trans h3)
    have f5 := hf 5 _ ((hold 5 (slots_not (by kernel_rfl))).trans h5)
    have f6 := hf 6 _ ((hold 6 (slots_not (by kernel_rfl))).trans h6)
    have f7 := hf 7 _ ((hold 7 (slots_not (by kernel_rfl))).trans h7)
    have f8 := hf 8 _ ((hold 8 (slots_not (by kernel_rfl))).trans h8)
    have f9 := hf 9 _ ((hold 9 (slots_not (by kernel_rfl))).trans h9)
    clear hf
    rw [e0.trans (show _ = #[f 0, f 1, f 2, f 3, f 4, f 5, f 6, f 7, f 8, f 9, f 10, f 11, f 12, f 13, f 14, f 15, f 16, f 17, f 18, f 19, f 20, f 21, f 22, f 23, f 24, f 25, f 26, f 27, f 28, f 29, f 30, f 31, f 32, f 33, f 34, f 35, f 36, f 37, f 38, f 39, f 40, f 41, f 42, f 43, f 44, f 45, f 46, f 47, f 48, f 49, f 50, f 51, f 52, f 53, f 54, f 55, f 56, f 57, f 58, f 59, f 60, f 61, f 62, f 63, f 64, f 65, f 66, f 67, f 68, f 69, f 70, f 71, f 72] from by kernel_rfl), f10, f2, f3, f5, f6, f7, f8, f9]
    clear f10 f2 f3 f5 f6 f7 f8 f9
    clear e0
    dsimp only
    clear h2 h3 h5 h6 h7 h8 h9 q10 hold hout hs HS t1 t0
    have hS' := hS
    clear hS
    have hS : BytesAt La w.heap.size W4 ∧ BytesAt Lb (w.heap.size + 1) W4 ∧ ElAt na gx W4 ∧ ElAt nb gy W4 ∧ ElAt ia gi W4 ∧ ElAt ka gk W4 ∧ ElAt (na * nb) gp W4 ∧ Below w.heap.size w W4 := ⟨hS'.1, hS'.2.1, hS'.2.2.1, hS'.2.2.2.1, hS'.2.2.2.2.1, hS'.2.2.2.2.2.1, hS'.2.2.2.2.2.2.1, hS'.2.2.2.2.2.2.2.1⟩
    clear hS' lt0 lt1 lt2 lt3 lt4 lt5 lt6
    clear hM
    clear M
    go_wp2_with ((with_reducible refine guard_list ?_); first | (refine held_load 26 _ rfl ?_) | (refine held_load 22 _ rfl ?_))
    obtain ⟨M, hM⟩ : ∃ M, M = W4.heap.size := ⟨_, rfl⟩
    have lt0 := (hS.1).lt
    have lt1 := (hS.2.1).lt
    have lt2 := (hS.2.2.1).lt
    have lt3 := (hS.2.2.2.1).lt
    have lt4 := (hS.2.2.2.2.1).lt
    have lt5 := (hS.2.2.2.2.2.1).lt
    have lt6 := (hS.2.2.2.2.2.2.1).lt
    rw [← hM] at lt0 lt1 lt2 lt3 lt4 lt5 lt6
    refine hide_frame fun t0 HT => ?_
    have HS : t0.size = 73 := by rw [HT]; rfl
    have h2 : t0[2]? = some (.pointer (some ⟨w.heap.size, 0, none⟩)) := by rw [HT]; rfl
    have h3 : t0[3]? = some (.pointer (some ⟨(w.heap.size + 1), 0, none⟩)) := by rw [HT]; rfl
    have h5 : t0[5]? = some (.pointer (some ⟨gx, 0, none⟩)) := by rw [HT]; rfl
    have h6 : t0[6]? = some (.pointer (some ⟨gy, 0, none⟩)) := by rw [HT]; rfl
    have h7 : t0[7]? = some (.pointer (some ⟨gi, 0, none⟩)) := by rw [HT]; rfl
    have h8 : t0[8]? = some (.pointer (some ⟨gk, 0, none⟩)) := by rw [HT]; rfl
    have h9 : t0[9]? = some (.pointer (some ⟨gp, 0, none⟩)) := by rw [HT]; rfl
    have h10 : t0[10]? = some (.bool true) := by rw [HT]; rfl
    clear HT
    refine wp_region_all 20 (fun i => [32, 33, 34, 35, 36, 37, 38, 39, 40, 41, 42, 43, 44, 45, 46, 47, 48, 49, 50, 51, 52].getD i 0) (fun i => [IsEl (na * nb), (· = .int .u64 18446744073709551615), (· = .bool true), (· = .bool true), (· = .bool false), (· = .bool false), IsEl ia, IsEl na, IsEl na, (· = .bool true), (· = .bool false), (· = .bool false), (· = .bool false), IsEl (na * nb), IsEl (ia * ka), IsEl ia, IsEl ka, IsEl (ia * ka), (· = .bool true), (· = .bool false), (· = .bool false)].getD i (fun _ => True)) (fun w' => BytesAt La w.heap.size w' ∧ BytesAt Lb (w.heap.size + 1) w' ∧ ElAt na gx w' ∧ ElAt nb gy w' ∧ ElAt ia gi w' ∧ ElAt ka gk w' ∧ ElAt (na * nb) gp w' ∧ Below w.heap.size w w' ∧ M ≤ w'.heap.size)
      (by kernel_rfl) (by kernel_rfl) (by kernel_rfl) (slots_apart (by kernel_rfl)) (slots_lie (by rw [HS]; kernel_rfl)) ⟨hS.1, hS.2.1, hS.2.2.1, hS.2.2.2.1, hS.2.2.2.2.1, hS.2.2.2.2.2.1, hS.2.2.2.2.2.2.1, (hS.2.2.2.2.2.2.2).drew, Nat.le_of_eq hM⟩ (fun w1 w2 h b => ⟨(h.1).keep b, (h.2.1).keep b, (h.2.2.1).keep b, (h.2.2.2.1).keep b, (h.2.2.2.2.1).keep b, (h.2.2.2.2.2.1).keep b, (h.2.2.2.2.2.2.1).keep b, below_call b h.2.2.2.2.2.2.2.1, Nat.le_trans h.2.2.2.2.2.2.2.2 b.size⟩) ?_ ?_
    · clear hS
      intro i o hi ho
      have hc : i = 0 ∨ i = 1 ∨ i = 2 ∨ i = 3 ∨ i = 4 ∨ i = 5 ∨ i = 6 ∨ i = 7 ∨ i = 8 ∨ i = 9 ∨ i = 10 ∨ i = 11 ∨ i = 12 ∨ i = 13 ∨ i = 14 ∨ i = 15 ∨ i = 16 ∨ i = 17 ∨ i = 18 ∨ i = 19 ∨ i = 20 := by omega
      rcases hc with rfl | rfl | rfl | rfl | rfl | rfl | rfl | rfl | rfl | rfl | rfl | rfl | rfl | rfl | rfl | rfl | rfl | rfl | rfl | rfl | rfl
      · obtain rfl := Option.some.inj ho
        refine ⟨rfl, fun a w' hS hold hin K hK => ?_⟩
        refine if_always rfl ?_
        exact op_ld_el (.tmp 9) rfl rfl _ (eval_tmp ((hold 9 (slots_not (by kernel_rfl))).trans h9)) hS.2.2.2.2.2.2.1 hK
      · obtain rfl := Option.some.inj ho
        refine ⟨rfl, fun a w' hS hold hin K hK => ?_⟩
        obtain ⟨y0, x0, (v0 : IsEl (na * nb) y0)⟩ := hin 0 rfl (by omega)
        refine if_always rfl ?_
        exact op_fn1 _ _ _ _ rfl rfl (eval_tmp x0) (by intro args w; kernel_rfl) (zero_el_yes v0 (by rw [hx]; grind) _) hK
      · obtain rfl := Option.some.inj ho
        refine ⟨rfl, fun a w' hS hold hin K hK => ?_⟩
        obtain ⟨y1, x1, rfl⟩ := hin 1 rfl (by omega)
        refine if_always rfl ?_
        exact op_bin (V := (· = .bool true)) _ _ _ _ _ _ _ (.bool true) rfl rfl (eval_tmp x1) rfl (fun w => by kernel_rfl) rfl hK
      · obtain rfl := Option.some.inj ho
        refine ⟨rfl, fun a w' hS hold hin K hK => ?_⟩
        refine if_always rfl ?_
        exact op_move (V := (· = .bool true)) _ _ rfl rfl (eval_tmp ((hold 10 (slots_not (by kernel_rfl))).trans h10)) rfl hK
      · obtain rfl := Option.some.inj ho
        refine ⟨rfl, fun a w' hS hold hin K hK => ?_⟩
        obtain ⟨y2, x2, rfl⟩ := hin 2 rfl (by omega)
        obtain ⟨y3, x3, rfl⟩ := hin 3 rfl (by omega)
        refine if_always rfl ?_
        exact op_bin (V := (· = .bool false)) _ _ _ _ _ _ _ (.bool false) rfl rfl (eval_tmp x2) (eval_tmp x3) (fun w => by kernel_rfl) rfl hK
      · obtain rfl := Option.some.inj ho
        refine ⟨rfl, fun a w' hS hold hin K hK => ?_⟩
        obtain ⟨y4, x4, rfl⟩ := hin 4 rfl (by omega)
        refine if_always rfl ?_
        exact op_move (V := (· = .bool false)) _ _ rfl rfl (eval_tmp x4) rfl hK
      · obtain rfl := Option.some.inj ho
        refine ⟨rfl, fun a w' hS hold hin K hK => ?_⟩
        obtain ⟨y5, x5, rfl⟩ := hin 5 rfl (by omega)
        refine if_guard (d := 37) rfl rfl x5 ?_
        exact op_ld_el (.tmp 7) rfl rfl _ (eval_tmp ((hold 7 (slots_not (by kernel_rfl))).trans h7)) hS.2.2.2.2.1 hK
      · obtain rfl := Option.some.inj ho
        refine ⟨rfl, fun a w' hS hold hin K hK => ?_⟩
        obtain ⟨y5, x5, rfl⟩ := hin 5 rfl (by omega)
        obtain ⟨y6, x6, (v6 : IsEl ia y6)⟩ := hin 6 rfl (by omega)
        refine if_guard (d := 37) rfl rfl x5 ?_
        exact op_fn1 _ _ _ _ rfl rfl (eval_tmp x6) (by intro args w; kernel_rfl) (inv_ev v6 e7 _) hK
      · obtain rfl := Option.some.inj ho
        refine ⟨rfl, fun a w' hS hold hin K hK => ?_⟩
        obtain ⟨y5, x5, rfl⟩ := hin 5 rfl (by omega)
        refine if_guard (d := 37) rfl rfl x5 ?_
        exact op_ld_el (.tmp 5) rfl rfl _ (eval_tmp ((hold 5 (slots_not (by kernel_rfl))).trans h5)) hS.2.2.1 hK
      · obtain rfl := Option.some.inj ho
        refine ⟨rfl, fun a w' hS hold hin K hK => ?_⟩
        obtain ⟨y5, x5, rfl⟩ := hin 5 rfl (by omega)
        obtain ⟨y7, x7, (v7 : IsEl na y7)⟩ := hin 7 rfl (by omega)
        obtain ⟨y8, x8, (v8 : IsEl na y8)⟩ := hin 8 rfl (by omega)
        refine if_guard (d := 37) rfl rfl x5 ?_
        exact op_fn2 _ _ _ _ _ _ rfl rfl (eval_tmp x7) (eval_tmp x8) (by intro args w; kernel_rfl) (one_el v7 v8 (by grind) _) hK
      · obtain rfl := Option.some.inj ho
        refine ⟨rfl, fun a w' hS hold hin K hK => ?_⟩
        obtain ⟨y5, x5, rfl⟩ := hin 5 rfl (by omega)
        obtain ⟨y9, x9, rfl⟩ := hin 9 rfl (by omega)
        refine if_guard (d := 37) rfl rfl x5 ?_
        exact op_un (V := (· = .bool false)) _ _ _ _ (.bool false) rfl rfl (eval_tmp x9) (fun w => by kernel_rfl) rfl hK
      · obtain rfl := Option.some.inj ho
        refine ⟨rfl, fun a w' hS hold hin K hK => ?_⟩
        obtain ⟨y5, x5, rfl⟩ := hin 5 rfl (by omega)
        obtain ⟨y10, x10, rfl⟩ := hin 10 rfl (by omega)
        refine if_always rfl ?_
        exact op_pick (V := (· = .bool false)) _ _ _ false _ rfl rfl (eval_tmp x5) (show (Act.eval a _) = _ from (eval_tmp x10)) rfl hK
      · obtain rfl := Option.some.inj ho
        refine ⟨rfl, fun a w' hS hold hin K hK => ?_⟩
        obtain ⟨y11, x11, rfl⟩ := hin 11 rfl (by omega)
        refine if_always rfl ?_
        exact op_move (V := (· = .bool false)) _ _ rfl rfl (eval_tmp x11) rfl hK
      · obtain rfl := Option.some.inj ho
        refine ⟨rfl, fun a w' hS hold hin K hK => ?_⟩
        obtain ⟨y12, x12, rfl⟩ := hin 12 rfl (by omega)
        refine if_guard (d := 44) rfl rfl x12 ?_
        exact op_ld_el (.tmp 9) rfl rfl _ (eval_tmp ((hold 9 (slots_not (by kernel_rfl))).trans h9)) hS.2.2.2.2.2.2.1 hK
      · obtain rfl := Option.some.inj ho
        refine ⟨rfl, fun a w' hS hold hin K hK => ?_⟩
        obtain ⟨y12, x12, rfl⟩ := hin 12 rfl (by omega)
        obtain ⟨y13, x13, (v13 : IsEl (na * nb) y13)⟩ := hin 13 rfl (by omega)
        refine if_guard (d := 44) rfl rfl x12 ?_
        exact op_fn1 _ _ _ _ rfl rfl (eval_tmp x13) (by intro args w; kernel_rfl) (inv_ev v13 e14 _) hK
      · obtain rfl := Option.some.inj ho
        refine ⟨rfl, fun a w' hS hold hin K hK => ?_⟩
        obtain ⟨y12, x12, rfl⟩ := hin 12 rfl (by omega)
        refine if_guard (d := 44) rfl rfl x12 ?_
        exact op_ld_el (.tmp 7) rfl rfl _ (eval_tmp ((hold 7 (slots_not (by kernel_rfl))).trans h7)) hS.2.2.2.2.1 hK
      · obtain rfl := Option.some.inj ho
        refine ⟨rfl, fun a w' hS hold hin K hK => ?_⟩
        obtain ⟨y12, x12, rfl⟩ := hin 12 rfl (by omega)
        refine if_guard (d := 44) rfl rfl x12 ?_
        exact op_ld_el (.tmp 8) rfl rfl _ (eval_tmp ((hold 8 (slots_not (by kernel_rfl))).trans h8)) hS.2.2.2.2.2.1 hK
      · obtain rfl := Option.some.inj ho
        refine ⟨rfl, fun a w' hS hold hin K hK => ?_⟩
        obtain ⟨y12, x12, rfl⟩ := hin 12 rfl (by omega)
        obtain ⟨y15, x15, (v15 : IsEl ia y15)⟩ := hin 15 rfl (by omega)
        obtain ⟨y16, x16, (v16 : IsEl ka y16)⟩ := hin 16 rfl (by omega)
        refine if_guard (d := 44) rfl rfl x12 ?_
        exact op_fn2 _ _ _ _ _ _ rfl rfl (eval_tmp x15) (eval_tmp x16) (by intro args w; kernel_rfl) (mul_el v15 v16 _) hK
      · obtain rfl := Option.some.inj ho
        refine ⟨rfl, fun a w' hS hold hin K hK => ?_⟩
        obtain ⟨y12, x12, rfl⟩ := hin 12 rfl (by omega)
        obtain ⟨y14, x14, (v14 : IsEl (ia * ka) y14)⟩ := hin 14 rfl (by omega)
        obtain ⟨y17, x17, (v17 : IsEl (ia * ka) y17)⟩ := hin 17 rfl (by omega)
        refine if_guard (d := 44) rfl rfl x12 ?_
        exact op_fn2 _ _ _ _ _ _ rfl rfl (eval_tmp x14) (eval_tmp x17) (by intro args w; kernel_rfl) (one_el v14 v17 (by grind) _) hK
      · obtain rfl := Option.some.inj ho
        refine ⟨rfl, fun a w' hS hold hin K hK => ?_⟩
        obtain ⟨y12, x12, rfl⟩ := hin 12 rfl (by omega)
        obtain ⟨y18, x18, rfl⟩ := hin 18 rfl (by omega)
        refine if_guard (d := 44) rfl rfl x12 ?_
        exact op_un (V := (· = .bool false)) _ _ _ _ (.bool false) rfl rfl (eval_tmp x18) (fun w => by kernel_rfl) rfl hK
      · obtain rfl := Option.some.inj ho
        refine ⟨rfl, fun a w' hS hold hin K hK => ?_⟩
        obtain ⟨y12, x12, rfl⟩ := hin 12 rfl (by omega)
        obtain ⟨y19, x19, rfl⟩ := hin 19 rfl (by omega)
        refine if_always rfl ?_
        exact op_pick (V := (· = .bool false)) _ _ _ false _ rfl rfl (eval_tmp x12) (show (Act.eval a _) = _ from (eval_tmp x19)) rfl hK
    clear hS
    intro t1 W5 hs hold hout hS
    replace HS := hs.trans HS
    obtain ⟨_, q52, rfl⟩ : ∃ x, t1[52]? = some x ∧ x = (.bool false : Value) := hout 20 (by omega)
    obtain ⟨f, e0, hf⟩ := wash HS
    have f52 := hf 52 _ q52
    have f2 := hf 2 _ ((hold 2 (slots_not (by kernel_rfl))).trans h2)
    have f3 := hf 3 _ ((hold 3 (slots_not (by kernel_rfl))).trans h3)
    have f5 := hf 5 _ ((hold 5 (slots_not (by kernel_rfl))).trans h5)
    have f6 := hf 6 _ ((hold 6 (slots_not (by kernel_rfl))).trans h6)
    have f7 := hf 7 _ ((hold 7 (slots_not (by kernel_rfl))).trans h7)
    have f8 := hf 8 _ ((hold 8 (slots_not (by kernel_rfl))).trans h8)
    have f9 := hf 9 _ ((hold 9 (slots_not (by kernel_rfl))).trans h9)
    have f10 := hf 10 _ ((hold 10 (slots_not (by kernel_rfl))).trans h10)
    clear hf
    rw [e0.trans (show _ = #[f 0, f 1, f 2, f 3, f 4, f 5, f 6, f 7, f 8, f 9, f 10, f 11, f 12, f 13, f 14, f 15, f 16, f 17, f 18, f 19, f 20, f 21, f 22, f 23, f 24, f 25, f 26, f 27, f 28, f 29, f 30, f 31, f 32, f 33, f 34, f 35, f 36, f 37, f 38, f 39, f 40, f 41, f 42, f 43, f 44, f 45, f 46, f 47, f 48, f 49, f 50, f 51, f 52, f 53, f 54, f 55, f 56, f 57, f 58, f 59, f 60, f 61, f 62, f 63, f 64, f 65, f 66, f 67, f 68, f 69, f 70, f 71, f 72] from by kernel_rfl), f52, f2, f3, f5, f6, f7, f8, f9, f10]
    clear f52 f2 f3 f5 f6 f7 f8 f9 f10
    clear e0
    dsimp only
    clear h2 h3 h5 h6 h7 h8 h9 h10 q52 hold hout hs HS t1 t0
    have hS' := hS
    clear hS
    have hS : BytesAt La w.heap.size W5 ∧ BytesAt Lb (w.heap.size + 1) W5 ∧ ElAt na gx W5 ∧ ElAt nb gy W5 ∧ ElAt ia gi W5 ∧ ElAt ka gk W5 ∧ ElAt (na * nb) gp W5 ∧ Below w.heap.size w W5 := ⟨hS'.1, hS'.2.1, hS'.2.2.1, hS'.2.2.2.1, hS'.2.2.2.2.1, hS'.2.2.2.2.2.1, hS'.2.2.2.2.2.2.1, hS'.2.2.2.2.2.2.2.1⟩
    clear hS' lt0 lt1 lt2 lt3 lt4 lt5 lt6
    clear hM
    clear M
    go_wp2_with ((with_reducible refine guard_list ?_); first | (refine held_load 26 _ rfl ?_) | (refine held_load 22 _ rfl ?_))
    obtain ⟨M, hM⟩ : ∃ M, M = W5.heap.size := ⟨_, rfl⟩
    have lt0 := (hS.1).lt
    have lt1 := (hS.2.1).lt
    have lt2 := (hS.2.2.1).lt
    have lt3 := (hS.2.2.2.1).lt
    have lt4 := (hS.2.2.2.2.1).lt
    have lt5 := (hS.2.2.2.2.2.1).lt
    have lt6 := (hS.2.2.2.2.2.2.1).lt
    rw [← hM] at lt0 lt1 lt2 lt3 lt4 lt5 lt6
    refine hide_held fun t0 HT => ?_
    have HS : t0.size = 73 := by rw [HT]; rfl
    have h2 : t0[2]? = some (.pointer (some ⟨w.heap.size, 0, none⟩)) := by rw [HT]; rfl
    have h3 : t0[3]? = some (.pointer (some ⟨(w.heap.size + 1), 0, none⟩)) := by rw [HT]; rfl
    have h5 : t0[5]? = some (.pointer (some ⟨gx, 0, none⟩)) := by rw [HT]; rfl
    have h6 : t0[6]? = some (.pointer (some ⟨gy, 0, none⟩)) := by rw [HT]; rfl
    have h7 : t0[7]? = some (.pointer (some ⟨gi, 0, none⟩)) := by rw [HT]; rfl
    have h8 : t0[8]? = some (.pointer (some ⟨gk, 0, none⟩)) := by rw [HT]; rfl
    have h9 : t0[9]? = some (.pointer (some ⟨gp, 0, none⟩)) := by rw [HT]; rfl
    have h10 : t0[10]? = some (.bool true) := by rw [HT]; rfl
    have h52 : t0[52]? = some (.bool false) := by rw [HT]; rfl
    clear HT
    refine wp_list_all 2 (fun i => [53, 54, 55].getD i 0) (fun i => [IsEl na, (· = .int .u64 18446744073709551615), (· = .bool true)].getD i (fun _ => True)) (fun w' => BytesAt La w.heap.size w' ∧ BytesAt Lb (w.heap.size + 1) w' ∧ ElAt na gx w' ∧ ElAt nb gy w' ∧ ElAt ia gi w' ∧ ElAt ka gk w' ∧ ElAt (na * nb) gp w' ∧ Below w.heap.size w w' ∧ M ≤ w'.heap.size)
      (by kernel_rfl) (by kernel_rfl) (slots_apart (by kernel_rfl)) (slots_lie (by rw [HS]; kernel_rfl)) ⟨hS.1, hS.2.1, hS.2.2.1, hS.2.2.2.1, hS.2.2.2.2.1, hS.2.2.2.2.2.1, hS.2.2.2.2.2.2.1, hS.2.2.2.2.2.2.2, Nat.le_of_eq hM⟩ (fun w1 w2 h b => ⟨(h.1).keep b, (h.2.1).keep b, (h.2.2.1).keep b, (h.2.2.2.1).keep b, (h.2.2.2.2.1).keep b, (h.2.2.2.2.2.1).keep b, (h.2.2.2.2.2.2.1).keep b, below_call b h.2.2.2.2.2.2.2.1, Nat.le_trans h.2.2.2.2.2.2.2.2 b.size⟩) ?_ ?_
    · clear hS
      intro i o hi ho
      have hc : i = 0 ∨ i = 1 ∨ i = 2 := by omega
      rcases hc with rfl | rfl | rfl
      · obtain rfl := Option.some.inj ho
        refine ⟨rfl, fun a w' hS hold hin K hK => ?_⟩
        refine if_always rfl ?_
        exact op_ld_el (.tmp 5) rfl rfl _ (eval_tmp ((hold 5 (slots_not (by kernel_rfl))).trans h5)) hS.2.2.1 hK
      · obtain rfl := Option.some.inj ho
        refine ⟨rfl, fun a w' hS hold hin K hK => ?_⟩
        obtain ⟨y0, x0, (v0 : IsEl na y0)⟩ := hin 0 rfl (by omega)
        refine if_always rfl ?_
        exact op_fn1 _ _ _ _ rfl rfl (eval_tmp x0) (by intro args w; kernel_rfl) (zero_el_yes v0 hx _) hK
      · obtain rfl := Option.some.inj ho
        refine ⟨rfl, fun a w' hS hold hin K hK => ?_⟩
        obtain ⟨y1, x1, rfl⟩ := hin 1 rfl (by omega)
        refine if_always rfl ?_
        exact op_bin (V := (· = .bool true)) _ _ _ _ _ _ _ (.bool true) rfl rfl (eval_tmp x1) rfl (fun w => by kernel_rfl) rfl hK
    clear hS
    intro t1 W6 hs hold hout hS
    replace HS := hs.trans HS
    obtain ⟨_, q55, rfl⟩ : ∃ x, t1[55]? = some x ∧ x = (.bool true : Value) := hout 2 (by omega)
    obtain ⟨f, e0, hf⟩ := wash HS
    have f55 := hf 55 _ q55
    have f2 := hf 2 _ ((hold 2 (slots_not (by kernel_rfl))).trans h2)
    have f3 := hf 3 _ ((hold 3 (slots_not (by kernel_rfl))).trans h3)
    have f5 := hf 5 _ ((hold 5 (slots_not (by kernel_rfl))).trans h5)
    have f6 := hf 6 _ ((hold 6 (slots_not (by kernel_rfl))).trans h6)
    have f7 := hf 7 _ ((hold 7 (slots_not (by kernel_rfl))).trans h7)
    have f8 := hf 8 _ ((hold 8 (slots_not (by kernel_rfl))).trans h8)
    have f9 := hf 9 _ ((hold 9 (slots_not (by kernel_rfl))).trans h9)
    have f10 := hf 10 _ ((hold 10 (slots_not (by kernel_rfl))).trans h10)
    have f52 := hf 52 _ ((hold 52 (slots_not (by kernel_rfl))).trans h52)
    clear hf
    rw [e0.trans (show _ = #[f 0, f 1, f 2, f 3, f 4, f 5, f 6, f 7, f 8, f 9, f 10, f 11, f 12, f 13, f 14, f 15, f 16, f 17, f 18, f 19, f 20, f 21, f 22, f 23, f 24, f 25, f 26, f 27, f 28, f 29, f 30, f 31, f 32, f 33, f 34, f 35, f 36, f 37, f 38, f 39, f 40, f 41, f 42, f 43, f 44, f 45, f 46, f 47, f 48, f 49, f 50, f 51, f 52, f 53, f 54, f 55, f 56, f 57, f 58, f 59, f 60, f 61, f 62, f 63, f 64, f 65, f 66, f 67, f 68, f 69, f 70, f 71, f 72] from by kernel_rfl), f55, f2, f3, f5, f6, f7, f8, f9, f10, f52]
    clear f55 f2 f3 f5 f6 f7 f8 f9 f10 f52
    clear e0
    dsimp only
    clear h2 h3 h5 h6 h7 h8 h9 h10 h52 q55 hold hout hs HS t1 t0
    have hS' := hS
    clear hS
    have hS : BytesAt La w.heap.size W6 ∧ BytesAt Lb (w.heap.size + 1) W6 ∧ ElAt na gx W6 ∧ ElAt nb gy W6 ∧ ElAt ia gi W6 ∧ ElAt ka gk W6 ∧ ElAt (na * nb) gp W6 ∧ Below w.heap.size w W6 := ⟨hS'.1, hS'.2.1, hS'.2.2.1, hS'.2.2.2.1, hS'.2.2.2.2.1, hS'.2.2.2.2.2.1, hS'.2.2.2.2.2.2.1, hS'.2.2.2.2.2.2.2.1⟩
    clear hS' lt0 lt1 lt2 lt3 lt4 lt5 lt6
    clear hM
    clear M
    go_wp2_with ((with_reducible refine guard_list ?_); first | (refine held_load 26 _ rfl ?_) | (refine held_load 22 _ rfl ?_))
    obtain ⟨M, hM⟩ : ∃ M, M = W6.heap.size := ⟨_, rfl⟩
    have lt0 := (hS.1).lt
    have lt1 := (hS.2.1).lt
    have lt2 := (hS.2.2.1).lt
    have lt3 := (hS.2.2.2.1).lt
    have lt4 := (hS.2.2.2.2.1).lt
    have lt5 := (hS.2.2.2.2.2.1).lt
    have lt6 := (hS.2.2.2.2.2.2.1).lt
    rw [← hM] at lt0 lt1 lt2 lt3 lt4 lt5 lt6
    refine hide_held fun t0 HT => ?_
    have HS : t0.size = 73 := by rw [HT]; rfl
    have h2 : t0[2]? = some (.pointer (some ⟨w.heap.size, 0, none⟩)) := by rw [HT]; rfl
    have h3 : t0[3]? = some (.pointer (some ⟨(w.heap.size + 1), 0, none⟩)) := by rw [HT]; rfl
    have h5 : t0[5]? = some (.pointer (some ⟨gx, 0, none⟩)) := by rw [HT]; rfl
    have h6 : t0[6]? = some (.pointer (some ⟨gy, 0, none⟩)) := by rw [HT]; rfl
    have h7 : t0[7]? = some (.pointer (some ⟨gi, 0, none⟩)) := by rw [HT]; rfl
    have h8 : t0[8]? = some (.pointer (some ⟨gk, 0, none⟩)) := by rw [HT]; rfl
    have h9 : t0[9]? = some (.pointer (some ⟨gp, 0, none⟩)) := by rw [HT]; rfl
    have h10 : t0[10]? = some (.bool true) := by rw [HT]; rfl
    have h52 : t0[52]? = some (.bool false) := by rw [HT]; rfl
    have h55 : t0[55]? = some (.bool true) := by rw [HT]; rfl
    clear HT
    refine wp_list_all 3 (fun i => [56, 57, 58, 4].getD i 0) (fun i => [IsEl ia, (· = .int .u64 18446744073709551615), (· = .bool true), (· = .bool true)].getD i (fun _ => True)) (fun w' => BytesAt La w.heap.size w' ∧ BytesAt Lb (w.heap.size + 1) w' ∧ ElAt na gx w' ∧ ElAt nb gy w' ∧ ElAt ia gi w' ∧ ElAt ka gk w' ∧ ElAt (na * nb) gp w' ∧ Below w.heap.size w w' ∧ M ≤ w'.heap.size)
      (by kernel_rfl) (by kernel_rfl) (slots_apart (by kernel_rfl)) (slots_lie (by rw [HS]; kernel_rfl)) ⟨hS.1, hS.2.1, hS.2.2.1, hS.2.2.2.1, hS.2.2.2.2.1, hS.2.2.2.2.2.1, hS.2.2.2.2.2.2.1, hS.2.2.2.2.2.2.2, Nat.le_of_eq hM⟩ (fun w1 w2 h b => ⟨(h.1).keep b, (h.2.1).keep b, (h.2.2.1).keep b, (h.2.2.2.1).keep b, (h.2.2.2.2.1).keep b, (h.2.2.2.2.2.1).keep b, (h.2.2.2.2.2.2.1).keep b, below_call b h.2.2.2.2.2.2.2.1, Nat.le_trans h.2.2.2.2.2.2.2.2 b.size⟩) ?_ ?_
    · clear hS
      intro i o hi ho
      have hc : i = 0 ∨ i = 1 ∨ i = 2 ∨ i = 3 := by omega
      rcases hc with rfl | rfl | rfl | rfl
      · obtain rfl := Option.some.inj ho
        refine ⟨rfl, fun a w' hS hold hin K hK => ?_⟩
        refine if_always rfl ?_
        exact op_ld_el (.tmp 7) rfl rfl _ (eval_tmp ((hold 7 (slots_not (by kernel_rfl))).trans h7)) hS.2.2.2.2.1 hK
      · obtain rfl := Option.some.inj ho
        refine ⟨rfl, fun a w' hS hold hin K hK => ?_⟩
        obtain ⟨y0, x0, (v0 : IsEl ia y0)⟩ := hin 0 rfl (by omega)
        refine if_always rfl ?_
        exact op_fn1 _ _ _ _ rfl rfl (eval_tmp x0) (by intro args w; kernel_rfl) (zero_el_yes v0 (e10 hx) _) hK
      · obtain rfl := Option.some.inj ho
        refine ⟨rfl, fun a w' hS hold hin K hK => ?_⟩
        obtain ⟨y1, x1, rfl⟩ := hin 1 rfl (by omega)
        refine if_always rfl ?_
        exact op_bin (V := (· = .bool true)) _ _ _ _ _ _ _ (.bool true) rfl rfl (eval_tmp x1) rfl (fun w => by kernel_rfl) rfl hK
      · obtain rfl := Option.some.inj ho
        refine ⟨rfl, fun a w' hS hold hin K hK => ?_⟩
        obtain ⟨y2, x2, rfl⟩ := hin 2 rfl (by omega)
        refine if_always rfl ?_
        exact op_assign (V := (· = .bool true)) _ _ rfl rfl (eval_tmp x2) rfl hK
    clear hS
    intro t1 W7 hs hold hout hS
    replace HS := hs.trans HS
    obtain ⟨_, q4, rfl⟩ : ∃ x, t1[4]? = some x ∧ x = (.bool true : Value) := hout 3 (by omega)
    obtain ⟨f, e0, hf⟩ := wash HS
    have f4 := hf 4 _ q4
    have f2 := hf 2 _ ((hold 2 (slots_not (by kernel_rfl))).trans h2)
    have f3 := hf 3 _ ((hold 3 (slots_not (by kernel_rfl))).trans h3)
    have f5 := hf 5 _ ((hold 5 (slots_not (by kernel_rfl))).trans h5)
    have f6 := hf 6 _ ((hold 6 (slots_not (by kernel_rfl))).trans h6)
    have f7 := hf 7 _ ((hold 7 (slots_not (by kernel_rfl))).trans h7)
    have f8 := hf 8 _ ((hold 8 (slots_not (by kernel_rfl))).trans h8)
    have f9 := hf 9 _ ((hold 9 (slots_not (by kernel_rfl))).trans h9)
    have f10 := hf 10 _ ((hold 10 (slots_not (by kernel_rfl))).trans h10)
    have f52 := hf 52 _ ((hold 52 (slots_not (by kernel_rfl))).trans h52)
    have f55 := hf 55 _ ((hold 55 (slots_not (by kernel_rfl))).trans h55)
    clear hf
    rw [e0.trans (show _ = #[f 0, f 1, f 2, f 3, f 4, f 5, f 6, f 7, f 8, f 9, f 10, f 11, f 12, f 13, f 14, f 15, f 16, f 17, f 18, f 19, f 20, f 21, f 22, f 23, f 24, f 25, f 26, f 27, f 28, f 29, f 30, f 31, f 32, f 33, f 34, f 35, f 36, f 37, f 38, f 39, f 40, f 41, f 42, f 43, f 44, f 45, f 46, f 47, f 48, f 49, f 50, f 51, f 52, f 53, f 54, f 55, f 56, f 57, f 58, f 59, f 60, f 61, f 62, f 63, f 64, f 65, f 66, f 67, f 68, f 69, f 70, f 71, f 72] from by kernel_rfl), f4, f2, f3, f5, f6, f7, f8, f9, f10, f52, f55]
    clear f4 f2 f3 f5 f6 f7 f8 f9 f10 f52 f55
    clear e0
    dsimp only
    clear h2 h3 h5 h6 h7 h8 h9 h10 h52 h55 q4 hold hout hs HS t1 t0
    have hS' := hS
    clear hS
    have hS : BytesAt La w.heap.size W7 ∧ BytesAt Lb (w.heap.size + 1) W7 ∧ ElAt na gx W7 ∧ ElAt nb gy W7 ∧ ElAt ia gi W7 ∧ ElAt ka gk W7 ∧ ElAt (na * nb) gp W7 ∧ Below w.heap.size w W7 := ⟨hS'.1, hS'.2.1, hS'.2.2.1, hS'.2.2.2.1, hS'.2.2.2.2.1, hS'.2.2.2.2.2.1, hS'.2.2.2.2.2.2.1, hS'.2.2.2.2.2.2.2.1⟩
    clear hS' lt0 lt1 lt2 lt3 lt4 lt5 lt6
    clear hM
    clear M
    go_wp2_with ((with_reducible refine guard_list ?_); first | (refine held_load 26 _ rfl ?_) | (refine held_load 22 _ rfl ?_))
    go_returns
    exact ⟨rfl, hS.2.2.2.2.2.2.2⟩
  · obtain ⟨M, hM⟩ : ∃ M, M = V3'.heap.size := ⟨_, rfl⟩
    have lt0 := (hS.1).lt
    have lt1 := (hS.2.1).lt
    have lt2 := (hS.2.2.1).lt
    have lt3 := (hS.2.2.2.1).lt
    have lt4 := (hS.2.2.2.2.1).lt
    have lt5 := (hS.2.2.2.2.2.1).lt
    have lt6 := (hS.2.2.2.2.2.2.1).lt
    rw [← hM] at lt0 lt1 lt2 lt3 lt4 lt5 lt6
    refine hide_held fun t0 HT => ?_
    have HS : t0.size = 73 := by rw [HT]; rfl
    have h2 : t0[2]? = some (.pointer (some ⟨w.heap.size, 0, none⟩)) := by rw [HT]; rfl
    have h3 : t0[3]? = some (.pointer (some ⟨(w.heap.size + 1), 0, none⟩)) := by rw [HT]; rfl
    have h5 : t0[5]? = some (.pointer (some ⟨gx, 0, none⟩)) := by rw [HT]; rfl
    have h6 : t0[6]? = some (.pointer (some ⟨gy, 0, none⟩)) := by rw [HT]; rfl
    have h7 : t0[7]? = some (.pointer (some ⟨gi, 0, none⟩)) := by rw [HT]; rfl
    have h8 : t0[8]? = some (.pointer (some ⟨gk, 0, none⟩)) := by rw [HT]; rfl
    have h9 : t0[9]? = some (.pointer (some ⟨gp, 0, none⟩)) := by rw [HT]; rfl
    clear HT
    refine wp_list_all 8 (fun i => [24, 25, 26, 27, 28, 29, 30, 31, 10].getD i 0) (fun i => [IsEl na, (· = .int .u64 0), (· = .bool false), (· = .bool false), IsEl nb, (· = .int .u64 (mk (decide (nb = 0)))), (· = .bool (decide (nb = 0))), (· = .bool (decide (nb = 0))), (· = .bool (decide (nb = 0)))].getD i (fun _ => True)) (fun w' => BytesAt La w.heap.size w' ∧ BytesAt Lb (w.heap.size + 1) w' ∧ ElAt na gx w' ∧ ElAt nb gy w' ∧ ElAt ia gi w' ∧ ElAt ka gk w' ∧ ElAt (na * nb) gp w' ∧ Below w.heap.size w w' ∧ M ≤ w'.heap.size)
      (by kernel_rfl) (by kernel_rfl) (slots_apart (by kernel_rfl)) (slots_lie (by rw [HS]; kernel_rfl)) ⟨hS.1, hS.2.1, hS.2.2.1, hS.2.2.2.1, hS.2.2.2.2.1, hS.2.2.2.2.2.1, hS.2.2.2.2.2.2.1, hS.2.2.2.2.2.2.2, Nat.le_of_eq hM⟩ (fun w1 w2 h b => ⟨(h.1).keep b, (h.2.1).keep b, (h.2.2.1).keep b, (h.2.2.2.1).keep b, (h.2.2.2.2.1).keep b, (h.2.2.2.2.2.1).keep b, (h.2.2.2.2.2.2.1).keep b, below_call b h.2.2.2.2.2.2.2.1, Nat.le_trans h.2.2.2.2.2.2.2.2 b.size⟩) ?_ ?_
    · clear hS
      intro i o hi ho
      have hc : i = 0 ∨ i = 1 ∨ i = 2 ∨ i = 3 ∨ i = 4 ∨ i = 5 ∨ i = 6 ∨ i = 7 ∨ i = 8 := by omega
      rcases hc with rfl | rfl | rfl | rfl | rfl | rfl | rfl | rfl | rfl
      · obtain rfl := Option.some.inj ho
        refine ⟨rfl, fun a w' hS hold hin K hK => ?_⟩
        refine if_always rfl ?_
        exact op_ld_el (.tmp 5) rfl rfl _ (eval_tmp ((hold 5 (slots_not (by kernel_rfl))).trans h5)) hS.2.2.1 hK
      · obtain rfl := Option.some.inj ho
        refine ⟨rfl, fun a w' hS hold hin K hK => ?_⟩
        obtain ⟨y0, x0, (v0 : IsEl na y0)⟩ := hin 0 rfl (by omega)
        refine if_always rfl ?_
        exact op_fn1 _ _ _ _ rfl rfl (eval_tmp x0) (by intro args w; kernel_rfl) (zero_el_no v0 hx _) hK
      · obtain rfl := Option.some.inj ho
        refine ⟨rfl, fun a w' hS hold hin K hK => ?_⟩
        obtain ⟨y1, x1, rfl⟩ := hin 1 rfl (by omega)
        refine if_always rfl ?_
        exact op_bin (V := (· = .bool false)) _ _ _ _ _ _ _ (.bool false) rfl rfl (eval_tmp x1) rfl (fun w => by kernel_rfl) rfl hK
      · obtain rfl := Option.some.inj ho
        refine ⟨rfl, fun a w' hS hold hin K hK => ?_⟩
        obtain ⟨y2, x2, rfl⟩ := hin 2 rfl (by omega)
        refine if_always rfl ?_
        exact op_move (V := (· = .bool false)) _ _ rfl rfl (eval_tmp x2) rfl hK
      · obtain rfl := Option.some.inj ho
        refine ⟨rfl, fun a w' hS hold hin K hK => ?_⟩
        obtain ⟨y3, x3, rfl⟩ := hin 3 rfl (by omega)
        refine if_guard (d := 27) rfl rfl x3 ?_
        exact op_ld_el (.tmp 6) rfl rfl _ (eval_tmp ((hold 6 (slots_not (by kernel_rfl))).trans h6)) hS.2.2.2.1 hK
      · obtain rfl := Option.some.inj ho
        refine ⟨rfl, fun a w' hS hold hin K hK => ?_⟩
        obtain ⟨y3, x3, rfl⟩ := hin 3 rfl (by omega)
        obtain ⟨y4, x4, (v4 : IsEl nb y4)⟩ := hin 4 rfl (by omega)
        refine if_guard (d := 27) rfl rfl x3 ?_
        exact op_fn1 _ _ _ _ rfl rfl (eval_tmp x4) (by intro args w; kernel_rfl) (zero_el v4 _) hK
      · obtain rfl := Option.some.inj ho
        refine ⟨rfl, fun a w' hS hold hin K hK => ?_⟩
        obtain ⟨y3, x3, rfl⟩ := hin 3 rfl (by omega)
        obtain ⟨y5, x5, rfl⟩ := hin 5 rfl (by omega)
        refine if_guard (d := 27) rfl rfl x3 ?_
        exact op_bin (V := (· = .bool (decide (nb = 0)))) _ _ _ _ _ _ _ (.bool (decide (nb = 0))) rfl rfl (eval_tmp x5) rfl (fun w => eql_mk _ w) rfl hK
      · obtain rfl := Option.some.inj ho
        refine ⟨rfl, fun a w' hS hold hin K hK => ?_⟩
        obtain ⟨y3, x3, rfl⟩ := hin 3 rfl (by omega)
        obtain ⟨y6, x6, rfl⟩ := hin 6 rfl (by omega)
        refine if_always rfl ?_
        exact op_pick (V := (· = .bool (decide (nb = 0)))) _ _ _ false _ rfl rfl (eval_tmp x3) (show (Act.eval a _) = _ from (eval_tmp x6)) rfl hK
      · obtain rfl := Option.some.inj ho
        refine ⟨rfl, fun a w' hS hold hin K hK => ?_⟩
        obtain ⟨y7, x7, rfl⟩ := hin 7 rfl (by omega)
        refine if_always rfl ?_
        exact op_assign (V := (· = .bool (decide (nb = 0)))) _ _ rfl rfl (eval_tmp x7) rfl hK
    clear hS
    intro t1 W4 hs hold hout hS
    replace HS := hs.trans HS
    obtain ⟨_, q10, rfl⟩ : ∃ x, t1[10]? = some x ∧ x = (.bool (decide (nb = 0)) : Value) := hout 8 (by omega)
    obtain ⟨f, e0, hf⟩ := wash HS
    have f10 := hf 10 _ q10
    have f2 := hf 2 _ ((hold 2 (slots_not (by kernel_rfl))).trans h2)
    have f3 := hf 3 _ ((hold 3 (slots_not (by kernel_rfl))).trans h3)
    have f5 := hf 5 _ ((hold 5 (slots_not (by kernel_rfl))).trans h5)
    have f6 := hf 6 _ ((hold 6 (slots_not (by kernel_rfl))).trans h6)
    have f7 := hf 7 _ ((hold 7 (slots_not (by kernel_rfl))).trans h7)
    have f8 := hf 8 _ ((hold 8 (slots_not (by kernel_rfl))).trans h8)
    have f9 := hf 9 _ ((hold 9 (slots_not (by kernel_rfl))).trans h9)
    clear hf
    rw [e0.trans (show _ = #[f 0, f 1, f 2, f 3, f 4, f 5, f 6, f 7, f 8, f 9, f 10, f 11, f 12, f 13, f 14, f 15, f 16, f 17, f 18, f 19, f 20, f 21, f 22, f 23, f 24, f 25, f 26, f 27, f 28, f 29, f 30, f 31, f 32, f 33, f 34, f 35, f 36, f 37, f 38, f 39, f 40, f 41, f 42, f 43, f 44, f 45, f 46, f 47, f 48, f 49, f 50, f 51, f 52, f 53, f 54, f 55, f 56, f 57, f 58, f 59, f 60, f 61, f 62, f 63, f 64, f 65, f 66, f 67, f 68, f 69, f 70, f 71, f 72] from by kernel_rfl), f10, f2, f3, f5, f6, f7, f8, f9]
    clear f10 f2 f3 f5 f6 f7 f8 f9
    clear e0
    dsimp only
    clear h2 h3 h5 h6 h7 h8 h9 q10 hold hout hs HS t1 t0
    have hS' := hS
    clear hS
    have hS : BytesAt La w.heap.size W4 ∧ BytesAt Lb (w.heap.size + 1) W4 ∧ ElAt na gx W4 ∧ ElAt nb gy W4 ∧ ElAt ia gi W4 ∧ ElAt ka gk W4 ∧ ElAt (na * nb) gp W4 ∧ Below w.heap.size w W4 := ⟨hS'.1, hS'.2.1, hS'.2.2.1, hS'.2.2.2.1, hS'.2.2.2.2.1, hS'.2.2.2.2.2.1, hS'.2.2.2.2.2.2.1, hS'.2.2.2.2.2.2.2.1⟩
    clear hS' lt0 lt1 lt2 lt3 lt4 lt5 lt6
    clear hM
    clear M
    go_wp2_with ((with_reducible refine guard_list ?_); first | (refine held_load 26 _ rfl ?_) | (refine held_load 22 _ rfl ?_))
    have hnb : decide (na * nb = 0) = decide (nb = 0) := decide_eq_decide.2 ⟨fun h => (mul_eq_zero h).resolve_left hx, fun h => by rw [h]; grind⟩
    obtain ⟨M, hM⟩ : ∃ M, M = W4.heap.size := ⟨_, rfl⟩
    have lt0 := (hS.1).lt
    have lt1 := (hS.2.1).lt
    have lt2 := (hS.2.2.1).lt
    have lt3 := (hS.2.2.2.1).lt
    have lt4 := (hS.2.2.2.2.1).lt
    have lt5 := (hS.2.2.2.2.2.1).lt
    have lt6 := (hS.2.2.2.2.2.2.1).lt
    rw [← hM] at lt0 lt1 lt2 lt3 lt4 lt5 lt6
    refine hide_frame fun t0 HT => ?_
    have HS : t0.size = 73 := by rw [HT]; rfl
    have h2 : t0[2]? = some (.pointer (some ⟨w.heap.size, 0, none⟩)) := by rw [HT]; rfl
    have h3 : t0[3]? = some (.pointer (some ⟨(w.heap.size + 1), 0, none⟩)) := by rw [HT]; rfl
    have h5 : t0[5]? = some (.pointer (some ⟨gx, 0, none⟩)) := by rw [HT]; rfl
    have h6 : t0[6]? = some (.pointer (some ⟨gy, 0, none⟩)) := by rw [HT]; rfl
    have h7 : t0[7]? = some (.pointer (some ⟨gi, 0, none⟩)) := by rw [HT]; rfl
    have h8 : t0[8]? = some (.pointer (some ⟨gk, 0, none⟩)) := by rw [HT]; rfl
    have h9 : t0[9]? = some (.pointer (some ⟨gp, 0, none⟩)) := by rw [HT]; rfl
    have h10 : t0[10]? = some (.bool (decide (nb = 0))) := by rw [HT]; rfl
    clear HT
    refine wp_region_all 20 (fun i => [32, 33, 34, 35, 36, 37, 38, 39, 40, 41, 42, 43, 44, 45, 46, 47, 48, 49, 50, 51, 52].getD i 0) (fun i => [IsEl (na * nb), (· = .int .u64 (mk (decide ((na * nb) = 0)))), (· = .bool (decide ((na * nb) = 0))), (· = .bool (decide (nb = 0))), (· = .bool false), (· = .bool false), IsEl ia, IsEl na, IsEl na, (· = .bool true), (· = .bool false), (· = .bool false), (· = .bool false), IsEl (na * nb), IsEl (ia * ka), IsEl ia, IsEl ka, IsEl (ia * ka), (· = .bool true), (· = .bool false), (· = .bool false)].getD i (fun _ => True)) (fun w' => BytesAt La w.heap.size w' ∧ BytesAt Lb (w.heap.size + 1) w' ∧ ElAt na gx w' ∧ ElAt nb gy w' ∧ ElAt ia gi w' ∧ ElAt ka gk w' ∧ ElAt (na * nb) gp w' ∧ Below w.heap.size w w' ∧ M ≤ w'.heap.size)
      (by kernel_rfl) (by kernel_rfl) (by kernel_rfl) (slots_apart (by kernel_rfl)) (slots_lie (by rw [HS]; kernel_rfl)) ⟨hS.1, hS.2.1, hS.2.2.1, hS.2.2.2.1, hS.2.2.2.2.1, hS.2.2.2.2.2.1, hS.2.2.2.2.2.2.1, (hS.2.2.2.2.2.2.2).drew, Nat.le_of_eq hM⟩ (fun w1 w2 h b => ⟨(h.1).keep b, (h.2.1).keep b, (h.2.2.1).keep b, (h.2.2.2.1).keep b, (h.2.2.2.2.1).keep b, (h.2.2.2.2.2.1).keep b, (h.2.2.2.2.2.2.1).keep b, below_call b h.2.2.2.2.2.2.2.1, Nat.le_trans h.2.2.2.2.2.2.2.2 b.size⟩) ?_ ?_
    · clear hS
      intro i o hi ho
      have hc : i = 0 ∨ i = 1 ∨ i = 2 ∨ i = 3 ∨ i = 4 ∨ i = 5 ∨ i = 6 ∨ i = 7 ∨ i = 8 ∨ i = 9 ∨ i = 10 ∨ i = 11 ∨ i = 12 ∨ i = 13 ∨ i = 14 ∨ i = 15 ∨ i = 16 ∨ i = 17 ∨ i = 18 ∨ i = 19 ∨ i = 20 := by omega
      rcases hc with rfl | rfl | rfl | rfl | rfl | rfl | rfl | rfl | rfl | rfl | rfl | rfl | rfl | rfl | rfl | rfl | rfl | rfl | rfl | rfl | rfl
      · obtain rfl := Option.some.inj ho
        refine ⟨rfl, fun a w' hS hold hin K hK => ?_⟩
        refine if_always rfl ?_
        exact op_ld_el (.tmp 9) rfl rfl _ (eval_tmp ((hold 9 (slots_not (by kernel_rfl))).trans h9)) hS.2.2.2.2.2.2.1 hK
      · obtain rfl := Option.some.inj ho
        refine ⟨rfl, fun a w' hS hold hin K hK => ?_⟩
        obtain ⟨y0, x0, (v0 : IsEl (na * nb) y0)⟩ := hin 0 rfl (by omega)
        refine if_always rfl ?_
        exact op_fn1 _ _ _ _ rfl rfl (eval_tmp x0) (by intro args w; kernel_rfl) (zero_el v0 _) hK
      · obtain rfl := Option.some.inj ho
        refine ⟨rfl, fun a w' hS hold hin K hK => ?_⟩
        obtain ⟨y1, x1, rfl⟩ := hin 1 rfl (by omega)
        refine if_always rfl ?_
        exact op_bin (V := (· = .bool (decide ((na * nb) = 0)))) _ _ _ _ _ _ _ (.bool (decide ((na * nb) = 0))) rfl rfl (eval_tmp x1) rfl (fun w => eql_mk _ w) rfl hK
      · obtain rfl := Option.some.inj ho
        refine ⟨rfl, fun a w' hS hold hin K hK => ?_⟩
        refine if_always rfl ?_
        exact op_move (V := (· = .bool (decide (nb = 0)))) _ _ rfl rfl (eval_tmp ((hold 10 (slots_not (by kernel_rfl))).trans h10)) rfl hK
      · obtain rfl := Option.some.inj ho
        refine ⟨rfl, fun a w' hS hold hin K hK => ?_⟩
        obtain ⟨y2, x2, rfl⟩ := hin 2 rfl (by omega)
        obtain ⟨y3, x3, rfl⟩ := hin 3 rfl (by omega)
        refine if_always rfl ?_
        exact op_bin (V := (· = .bool false)) _ _ _ _ _ _ _ (.bool false) rfl rfl (eval_tmp x2) (eval_tmp x3) (fun w => neq_same _ _ hnb w) rfl hK
      · obtain rfl := Option.some.inj ho
        refine ⟨rfl, fun a w' hS hold hin K hK => ?_⟩
        obtain ⟨y4, x4, rfl⟩ := hin 4 rfl (by omega)
        refine if_always rfl ?_
        exact op_move (V := (· = .bool false)) _ _ rfl rfl (eval_tmp x4) rfl hK
      · obtain rfl := Option.some.inj ho
        refine ⟨rfl, fun a w' hS hold hin K hK => ?_⟩
        obtain ⟨y5, x5, rfl⟩ := hin 5 rfl (by omega)
        refine if_guard (d := 37) rfl rfl x5 ?_
        exact op_ld_el (.tmp 7) rfl rfl _ (eval_tmp ((hold 7 (slots_not (by kernel_rfl))).trans h7)) hS.2.2.2.2.1 hK
      · obtain rfl := Option.some.inj ho
        refine ⟨rfl, fun a w' hS hold hin K hK => ?_⟩
        obtain ⟨y5, x5, rfl⟩ := hin 5 rfl (by omega)
        obtain ⟨y6, x6, (v6 : IsEl ia y6)⟩ := hin 6 rfl (by omega)
        refine if_guard (d := 37) rfl rfl x5 ?_
        exact op_fn1 _ _ _ _ rfl rfl (eval_tmp x6) (by intro args w; kernel_rfl) (inv_ev v6 e7 _) hK
      · obtain rfl := Option.some.inj ho
        refine ⟨rfl, fun a w' hS hold hin K hK => ?_⟩
        obtain ⟨y5, x5, rfl⟩ := hin 5 rfl (by omega)
        refine if_guard (d := 37) rfl rfl x5 ?_
        exact op_ld_el (.tmp 5) rfl rfl _ (eval_tmp ((hold 5 (slots_not (by kernel_rfl))).trans h5)) hS.2.2.1 hK
      · obtain rfl := Option.some.inj ho
        refine ⟨rfl, fun a w' hS hold hin K hK => ?_⟩
        obtain ⟨y5, x5, rfl⟩ := hin 5 rfl (by omega)
        obtain ⟨y7, x7, (v7 : IsEl na y7)⟩ := hin 7 rfl (by omega)
        obtain ⟨y8, x8, (v8 : IsEl na y8)⟩ := hin 8 rfl (by omega)
        refine if_guard (d := 37) rfl rfl x5 ?_
        exact op_fn2 _ _ _ _ _ _ rfl rfl (eval_tmp x7) (eval_tmp x8) (by intro args w; kernel_rfl) (one_el v7 v8 (by grind) _) hK
      · obtain rfl := Option.some.inj ho
        refine ⟨rfl, fun a w' hS hold hin K hK => ?_⟩
        obtain ⟨y5, x5, rfl⟩ := hin 5 rfl (by omega)
        obtain ⟨y9, x9, rfl⟩ := hin 9 rfl (by omega)
        refine if_guard (d := 37) rfl rfl x5 ?_
        exact op_un (V := (· = .bool false)) _ _ _ _ (.bool false) rfl rfl (eval_tmp x9) (fun w => by kernel_rfl) rfl hK
      · obtain rfl := Option.some.inj ho
        refine ⟨rfl, fun a w' hS hold hin K hK => ?_⟩
        obtain ⟨y5, x5, rfl⟩ := hin 5 rfl (by omega)
        obtain ⟨y10, x10, rfl⟩ := hin 10 rfl (by omega)
        refine if_always rfl ?_
        exact op_pick (V := (· = .bool false)) _ _ _ false _ rfl rfl (eval_tmp x5) (show (Act.eval a _) = _ from (eval_tmp x10)) rfl hK
      · obtain rfl := Option.some.inj ho
        refine ⟨rfl, fun a w' hS hold hin K hK => ?_⟩
        obtain ⟨y11, x11, rfl⟩ := hin 11 rfl (by omega)
        refine if_always rfl ?_
        exact op_move (V := (· = .bool false)) _ _ rfl rfl (eval_tmp x11) rfl hK
      · obtain rfl := Option.some.inj ho
        refine ⟨rfl, fun a w' hS hold hin K hK => ?_⟩
        obtain ⟨y12, x12, rfl⟩ := hin 12 rfl (by omega)
        refine if_guard (d := 44) rfl rfl x12 ?_
        exact op_ld_el (.tmp 9) rfl rfl _ (eval_tmp ((hold 9 (slots_not (by kernel_rfl))).trans h9)) hS.2.2.2.2.2.2.1 hK
      · obtain rfl := Option.some.inj ho
        refine ⟨rfl, fun a w' hS hold hin K hK => ?_⟩
        obtain ⟨y12, x12, rfl⟩ := hin 12 rfl (by omega)
        obtain ⟨y13, x13, (v13 : IsEl (na * nb) y13)⟩ := hin 13 rfl (by omega)
        refine if_guard (d := 44) rfl rfl x12 ?_
        exact op_fn1 _ _ _ _ rfl rfl (eval_tmp x13) (by intro args w; kernel_rfl) (inv_ev v13 e14 _) hK
      · obtain rfl := Option.some.inj ho
        refine ⟨rfl, fun a w' hS hold hin K hK => ?_⟩
        obtain ⟨y12, x12, rfl⟩ := hin 12 rfl (by omega)
        refine if_guard (d := 44) rfl rfl x12 ?_
        exact op_ld_el (.tmp 7) rfl rfl _ (eval_tmp ((hold 7 (slots_not (by kernel_rfl))).trans h7)) hS.2.2.2.2.1 hK
      · obtain rfl := Option.some.inj ho
        refine ⟨rfl, fun a w' hS hold hin K hK => ?_⟩
        obtain ⟨y12, x12, rfl⟩ := hin 12 rfl (by omega)
        refine if_guard (d := 44) rfl rfl x12 ?_
        exact op_ld_el (.tmp 8) rfl rfl _ (eval_tmp ((hold 8 (slots_not (by kernel_rfl))).trans h8)) hS.2.2.2.2.2.1 hK
      · obtain rfl := Option.some.inj ho
        refine ⟨rfl, fun a w' hS hold hin K hK => ?_⟩
        obtain ⟨y12, x12, rfl⟩ := hin 12 rfl (by omega)
        obtain ⟨y15, x15, (v15 : IsEl ia y15)⟩ := hin 15 rfl (by omega)
        obtain ⟨y16, x16, (v16 : IsEl ka y16)⟩ := hin 16 rfl (by omega)
        refine if_guard (d := 44) rfl rfl x12 ?_
        exact op_fn2 _ _ _ _ _ _ rfl rfl (eval_tmp x15) (eval_tmp x16) (by intro args w; kernel_rfl) (mul_el v15 v16 _) hK
      · obtain rfl := Option.some.inj ho
        refine ⟨rfl, fun a w' hS hold hin K hK => ?_⟩
        obtain ⟨y12, x12, rfl⟩ := hin 12 rfl (by omega)
        obtain ⟨y14, x14, (v14 : IsEl (ia * ka) y14)⟩ := hin 14 rfl (by omega)
        obtain ⟨y17, x17, (v17 : IsEl (ia * ka) y17)⟩ := hin 17 rfl (by omega)
        refine if_guard (d := 44) rfl rfl x12 ?_
        exact op_fn2 _ _ _ _ _ _ rfl rfl (eval_tmp x14) (eval_tmp x17) (by intro args w; kernel_rfl) (one_el v14 v17 (by grind) _) hK
      · obtain rfl := Option.some.inj ho
        refine ⟨rfl, fun a w' hS hold hin K hK => ?_⟩
        obtain ⟨y12, x12, rfl⟩ := hin 12 rfl (by omega)
        obtain ⟨y18, x18, rfl⟩ := hin 18 rfl (by omega)
        refine if_guard (d := 44) rfl rfl x12 ?_
        exact op_un (V := (· = .bool false)) _ _ _ _ (.bool false) rfl rfl (eval_tmp x18) (fun w => by kernel_rfl) rfl hK
      · obtain rfl := Option.some.inj ho
        refine ⟨rfl, fun a w' hS hold hin K hK => ?_⟩
        obtain ⟨y12, x12, rfl⟩ := hin 12 rfl (by omega)
        obtain ⟨y19, x19, rfl⟩ := hin 19 rfl (by omega)
        refine if_always rfl ?_
        exact op_pick (V := (· = .bool false)) _ _ _ false _ rfl rfl (eval_tmp x12) (show (Act.eval a _) = _ from (eval_tmp x19)) rfl hK
    clear hS
    intro t1 W5 hs hold hout hS
    replace HS := hs.trans HS
    obtain ⟨_, q52, rfl⟩ : ∃ x, t1[52]? = some x ∧ x = (.bool false : Value) := hout 20 (by omega)
    obtain ⟨f, e0, hf⟩ := wash HS
    have f52 := hf 52 _ q52
    have f2 := hf 2 _ ((hold 2 (slots_not (by kernel_rfl))).trans h2)
    have f3 := hf 3 _ ((hold 3 (slots_not (by kernel_rfl))).trans h3)
    have f5 := hf 5 _ ((hold 5 (slots_not (by kernel_rfl))).trans h5)
    have f6 := hf 6 _ ((hold 6 (slots_not (by kernel_rfl))).trans h6)
    have f7 := hf 7 _ ((hold 7 (slots_not (by kernel_rfl))).trans h7)
    have f8 := hf 8 _ ((hold 8 (slots_not (by kernel_rfl))).trans h8)
    have f9 := hf 9 _ ((hold 9 (slots_not (by kernel_rfl))).trans h9)
    have f10 := hf 10 _ ((hold 10 (slots_not (by kernel_rfl))).trans h10)
    clear hf
    rw [e0.trans (show _ = #[f 0, f 1, f 2, f 3, f 4, f 5, f 6, f 7, f 8, f 9, f 10, f 11, f 12, f 13, f 14, f 15, f 16, f 17, f 18, f 19, f 20, f 21, f 22, f 23, f 24, f 25, f 26, f 27, f 28, f 29, f 30, f 31, f 32, f 33, f 34, f 35, f 36, f 37, f 38, f 39, f 40, f 41, f 42, f 43, f 44, f 45, f 46, f 47, f 48, f 49, f 50, f 51, f 52, f 53, f 54, f 55, f 56, f 57, f 58, f 59, f 60, f 61, f 62, f 63, f 64, f 65, f 66, f 67, f 68, f 69, f 70, f 71, f 72] from by kernel_rfl), f52, f2, f3, f5, f6, f7, f8, f9, f10]
    clear f52 f2 f3 f5 f6 f7 f8 f9 f10
    clear e0
    dsimp only
    clear h2 h3 h5 h6 h7 h8 h9 h10 q52 hold hout hs HS t1 t0
    have hS' := hS
    clear hS
    have hS : BytesAt La w.heap.size W5 ∧ BytesAt Lb (w.heap.size + 1) W5 ∧ ElAt na gx W5 ∧ ElAt nb gy W5 ∧ ElAt ia gi W5 ∧ ElAt ka gk W5 ∧ ElAt (na * nb) gp W5 ∧ Below w.heap.size w W5 := ⟨hS'.1, hS'.2.1, hS'.2.2.1, hS'.2.2.2.1, hS'.2.2.2.2.1, hS'.2.2.2.2.2.1, hS'.2.2.2.2.2.2.1, hS'.2.2.2.2.2.2.2.1⟩
    clear hS' lt0 lt1 lt2 lt3 lt4 lt5 lt6
    clear hM
    clear M
    go_wp2_with ((with_reducible refine guard_list ?_); first | (refine held_load 26 _ rfl ?_) | (refine held_load 22 _ rfl ?_))
    obtain ⟨M, hM⟩ : ∃ M, M = W5.heap.size := ⟨_, rfl⟩
    have lt0 := (hS.1).lt
    have lt1 := (hS.2.1).lt
    have lt2 := (hS.2.2.1).lt
    have lt3 := (hS.2.2.2.1).lt
    have lt4 := (hS.2.2.2.2.1).lt
    have lt5 := (hS.2.2.2.2.2.1).lt
    have lt6 := (hS.2.2.2.2.2.2.1).lt
    rw [← hM] at lt0 lt1 lt2 lt3 lt4 lt5 lt6
    refine hide_held fun t0 HT => ?_
    have HS : t0.size = 73 := by rw [HT]; rfl
    have h2 : t0[2]? = some (.pointer (some ⟨w.heap.size, 0, none⟩)) := by rw [HT]; rfl
    have h3 : t0[3]? = some (.pointer (some ⟨(w.heap.size + 1), 0, none⟩)) := by rw [HT]; rfl
    have h5 : t0[5]? = some (.pointer (some ⟨gx, 0, none⟩)) := by rw [HT]; rfl
    have h6 : t0[6]? = some (.pointer (some ⟨gy, 0, none⟩)) := by rw [HT]; rfl
    have h7 : t0[7]? = some (.pointer (some ⟨gi, 0, none⟩)) := by rw [HT]; rfl
    have h8 : t0[8]? = some (.pointer (some ⟨gk, 0, none⟩)) := by rw [HT]; rfl
    have h9 : t0[9]? = some (.pointer (some ⟨gp, 0, none⟩)) := by rw [HT]; rfl
    have h10 : t0[10]? = some (.bool (decide (nb = 0))) := by rw [HT]; rfl
    have h52 : t0[52]? = some (.bool false) := by rw [HT]; rfl
    clear HT
    refine wp_list_all 2 (fun i => [53, 54, 55].getD i 0) (fun i => [IsEl na, (· = .int .u64 0), (· = .bool false)].getD i (fun _ => True)) (fun w' => BytesAt La w.heap.size w' ∧ BytesAt Lb (w.heap.size + 1) w' ∧ ElAt na gx w' ∧ ElAt nb gy w' ∧ ElAt ia gi w' ∧ ElAt ka gk w' ∧ ElAt (na * nb) gp w' ∧ Below w.heap.size w w' ∧ M ≤ w'.heap.size)
      (by kernel_rfl) (by kernel_rfl) (slots_apart (by kernel_rfl)) (slots_lie (by rw [HS]; kernel_rfl)) ⟨hS.1, hS.2.1, hS.2.2.1, hS.2.2.2.1, hS.2.2.2.2.1, hS.2.2.2.2.2.1, hS.2.2.2.2.2.2.1, hS.2.2.2.2.2.2.2, Nat.le_of_eq hM⟩ (fun w1 w2 h b => ⟨(h.1).keep b, (h.2.1).keep b, (h.2.2.1).keep b, (h.2.2.2.1).keep b, (h.2.2.2.2.1).keep b, (h.2.2.2.2.2.1).keep b, (h.2.2.2.2.2.2.1).keep b, below_call b h.2.2.2.2.2.2.2.1, Nat.le_trans h.2.2.2.2.2.2.2.2 b.size⟩) ?_ ?_
    · clear hS
      intro i o hi ho
      have hc : i = 0 ∨ i = 1 ∨ i = 2 := by omega
      rcases hc with rfl | rfl | rfl
      · obtain rfl := Option.some.inj ho
        refine ⟨rfl, fun a w' hS hold hin K hK => ?_⟩
        refine if_always rfl ?_
        exact op_ld_el (.tmp 5) rfl rfl _ (eval_tmp ((hold 5 (slots_not (by kernel_rfl))).trans h5)) hS.2.2.1 hK
      · obtain rfl := Option.some.inj ho
        refine ⟨rfl, fun a w' hS hold hin K hK => ?_⟩
        obtain ⟨y0, x0, (v0 : IsEl na y0)⟩ := hin 0 rfl (by omega)
        refine if_always rfl ?_
        exact op_fn1 _ _ _ _ rfl rfl (eval_tmp x0) (by intro args w; kernel_rfl) (zero_el_no v0 hx _) hK
      · obtain rfl := Option.some.inj ho
        refine ⟨rfl, fun a w' hS hold hin K hK => ?_⟩
        obtain ⟨y1, x1, rfl⟩ := hin 1 rfl (by omega)
        refine if_always rfl ?_
        exact op_bin (V := (· = .bool false)) _ _ _ _ _ _ _ (.bool false) rfl rfl (eval_tmp x1) rfl (fun w => by kernel_rfl) rfl hK
    clear hS
    intro t1 W6 hs hold hout hS
    replace HS := hs.trans HS
    obtain ⟨_, q55, rfl⟩ : ∃ x, t1[55]? = some x ∧ x = (.bool false : Value) := hout 2 (by omega)
    obtain ⟨f, e0, hf⟩ := wash HS
    have f55 := hf 55 _ q55
    have f2 := hf 2 _ ((hold 2 (slots_not (by kernel_rfl))).trans h2)
    have f3 := hf 3 _ ((hold 3 (slots_not (by kernel_rfl))).trans h3)
    have f5 := hf 5 _ ((hold 5 (slots_not (by kernel_rfl))).trans h5)
    have f6 := hf 6 _ ((hold 6 (slots_not (by kernel_rfl))).trans h6)
    have f7 := hf 7 _ ((hold 7 (slots_not (by kernel_rfl))).trans h7)
    have f8 := hf 8 _ ((hold 8 (slots_not (by kernel_rfl))).trans h8)
    have f9 := hf 9 _ ((hold 9 (slots_not (by kernel_rfl))).trans h9)
    have f10 := hf 10 _ ((hold 10 (slots_not (by kernel_rfl))).trans h10)
    have f52 := hf 52 _ ((hold 52 (slots_not (by kernel_rfl))).trans h52)
    clear hf
    rw [e0.trans (show _ = #[f 0, f 1, f 2, f 3, f 4, f 5, f 6, f 7, f 8, f 9, f 10, f 11, f 12, f 13, f 14, f 15, f 16, f 17, f 18, f 19, f 20, f 21, f 22, f 23, f 24, f 25, f 26, f 27, f 28, f 29, f 30, f 31, f 32, f 33, f 34, f 35, f 36, f 37, f 38, f 39, f 40, f 41, f 42, f 43, f 44, f 45, f 46, f 47, f 48, f 49, f 50, f 51, f 52, f 53, f 54, f 55, f 56, f 57, f 58, f 59, f 60, f 61, f 62, f 63, f 64, f 65, f 66, f 67, f 68, f 69, f 70, f 71, f 72] from by kernel_rfl), f55, f2, f3, f5, f6, f7, f8, f9, f10, f52]
    clear f55 f2 f3 f5 f6 f7 f8 f9 f10 f52
    clear e0
    dsimp only
    clear h2 h3 h5 h6 h7 h8 h9 h10 h52 q55 hold hout hs HS t1 t0
    have hS' := hS
    clear hS
    have hS : BytesAt La w.heap.size W6 ∧ BytesAt Lb (w.heap.size + 1) W6 ∧ ElAt na gx W6 ∧ ElAt nb gy W6 ∧ ElAt ia gi W6 ∧ ElAt ka gk W6 ∧ ElAt (na * nb) gp W6 ∧ Below w.heap.size w W6 := ⟨hS'.1, hS'.2.1, hS'.2.2.1, hS'.2.2.2.1, hS'.2.2.2.2.1, hS'.2.2.2.2.2.1, hS'.2.2.2.2.2.2.1, hS'.2.2.2.2.2.2.2.1⟩
    clear hS' lt0 lt1 lt2 lt3 lt4 lt5 lt6
    clear hM
    clear M
    go_wp2_with ((with_reducible refine guard_list ?_); first | (refine held_load 26 _ rfl ?_) | (refine held_load 22 _ rfl ?_))
    obtain ⟨M, hM⟩ : ∃ M, M = W6.heap.size := ⟨_, rfl⟩
    have lt0 := (hS.1).lt
    have lt1 := (hS.2.1).lt
    have lt2 := (hS.2.2.1).lt
    have lt3 := (hS.2.2.2.1).lt
    have lt4 := (hS.2.2.2.2.1).lt
    have lt5 := (hS.2.2.2.2.2.1).lt
    have lt6 := (hS.2.2.2.2.2.2.1).lt
    rw [← hM] at lt0 lt1 lt2 lt3 lt4 lt5 lt6
    refine hide_frame fun t0 HT => ?_
    have HS : t0.size = 73 := by rw [HT]; rfl
    have h2 : t0[2]? = some (.pointer (some ⟨w.heap.size, 0, none⟩)) := by rw [HT]; rfl
    have h3 : t0[3]? = some (.pointer (some ⟨(w.heap.size + 1), 0, none⟩)) := by rw [HT]; rfl
    have h5 : t0[5]? = some (.pointer (some ⟨gx, 0, none⟩)) := by rw [HT]; rfl
    have h6 : t0[6]? = some (.pointer (some ⟨gy, 0, none⟩)) := by rw [HT]; rfl
    have h7 : t0[7]? = some (.pointer (some ⟨gi, 0, none⟩)) := by rw [HT]; rfl
    have h8 : t0[8]? = some (.pointer (some ⟨gk, 0, none⟩)) := by rw [HT]; rfl
    have h9 : t0[9]? = some (.pointer (some ⟨gp, 0, none⟩)) := by rw [HT]; rfl
    have h10 : t0[10]? = some (.bool (decide (nb = 0))) := by rw [HT]; rfl
    have h52 : t0[52]? = some (.bool false) := by rw [HT]; rfl
    have h55 : t0[55]? = some (.bool false) := by rw [HT]; rfl
    clear HT
    refine wp_region_all 14 (fun i => [59, 60, 61, 62, 63, 64, 65, 66, 67, 68, 69, 70, 71, 72, 4].getD i 0) (fun i => [IsEl na, IsEl ia, IsEl (na * ia), IsEl (1 : F), (· = .bool true), (· = .bool true), IsEl nb, IsEl na, IsEl (nb * na), IsEl ia, IsEl ((nb * na) * ia), IsEl nb, (· = .bool true), (· = .bool true), (· = .bool true)].getD i (fun _ => True)) (fun w' => BytesAt La w.heap.size w' ∧ BytesAt Lb (w.heap.size + 1) w' ∧ ElAt na gx w' ∧ ElAt nb gy w' ∧ ElAt ia gi w' ∧ ElAt ka gk w' ∧ ElAt (na * nb) gp w' ∧ Below w.heap.size w w' ∧ M ≤ w'.heap.size)
      (by kernel_rfl) (by kernel_rfl) (by kernel_rfl) (slots_apart (by kernel_rfl)) (slots_lie (by rw [HS]; kernel_rfl)) ⟨hS.1, hS.2.1, hS.2.2.1, hS.2.2.2.1, hS.2.2.2.2.1, hS.2.2.2.2.2.1, hS.2.2.2.2.2.2.1, (hS.2.2.2.2.2.2.2).drew, Nat.le_of_eq hM⟩ (fun w1 w2 h b => ⟨(h.1).keep b, (h.2.1).keep b, (h.2.2.1).keep b, (h.2.2.2.1).keep b, (h.2.2.2.2.1).keep b, (h.2.2.2.2.2.1).keep b, (h.2.2.2.2.2.2.1).keep b, below_call b h.2.2.2.2.2.2.2.1, Nat.le_trans h.2.2.2.2.2.2.2.2 b.size⟩) ?_ ?_
    · clear hS
      intro i o hi ho
      have hc : i = 0 ∨ i = 1 ∨ i = 2 ∨ i = 3 ∨ i = 4 ∨ i = 5 ∨ i = 6 ∨ i = 7 ∨ i = 8 ∨ i = 9 ∨ i = 10 ∨ i = 11 ∨ i = 12 ∨ i = 13 ∨ i = 14 := by omega
      rcases hc with rfl | rfl | rfl | rfl | rfl | rfl | rfl | rfl | rfl | rfl | rfl | rfl | rfl | rfl | rfl
      · obtain rfl := Option.some.inj ho
        refine ⟨rfl, fun a w' hS hold hin K hK => ?_⟩
        refine if_always rfl ?_
        exact op_ld_el (.tmp 5) rfl rfl _ (eval_tmp ((hold 5 (slots_not (by kernel_rfl))).trans h5)) hS.2.2.1 hK
      · obtain rfl := Option.some.inj ho
        refine ⟨rfl, fun a w' hS hold hin K hK => ?_⟩
        refine if_always rfl ?_
        exact op_ld_el (.tmp 7) rfl rfl _ (eval_tmp ((hold 7 (slots_not (by kernel_rfl))).trans h7)) hS.2.2.2.2.1 hK
      · obtain rfl := Option.some.inj ho
        refine ⟨rfl, fun a w' hS hold hin K hK => ?_⟩
        obtain ⟨y0, x0, (v0 : IsEl na y0)⟩ := hin 0 rfl (by omega)
        obtain ⟨y1, x1, (v1 : IsEl ia y1)⟩ := hin 1 rfl (by omega)
        refine if_always rfl ?_
        exact op_fn2 _ _ _ _ _ _ rfl rfl (eval_tmp x0) (eval_tmp x1) (by intro args w; kernel_rfl) (mul_el v0 v1 _) hK
      · obtain rfl := Option.some.inj ho
        refine ⟨rfl, fun a w' hS hold hin K hK => ?_⟩
        refine if_always rfl ?_
        exact op_fn1 _ _ _ _ rfl rfl rfl (by intro args w; kernel_rfl) (small_evl 1 (by omega) rfl _) hK
      · obtain rfl := Option.some.inj ho
        refine ⟨rfl, fun a w' hS hold hin K hK => ?_⟩
        obtain ⟨y2, x2, (v2 : IsEl (na * ia) y2)⟩ := hin 2 rfl (by omega)
        obtain ⟨y3, x3, (v3 : IsEl (1 : F) y3)⟩ := hin 3 rfl (by omega)
        refine if_always rfl ?_
        exact op_fn2 _ _ _ _ _ _ rfl rfl (eval_tmp x2) (eval_tmp x3) (by intro args w; kernel_rfl) (one_el v2 v3 (e11 hx) _) hK
      · obtain rfl := Option.some.inj ho
        refine ⟨rfl, fun a w' hS hold hin K hK => ?_⟩
        obtain ⟨y4, x4, rfl⟩ := hin 4 rfl (by omega)
        refine if_always rfl ?_
        exact op_move (V := (· = .bool true)) _ _ rfl rfl (eval_tmp x4) rfl hK
      · obtain rfl := Option.some.inj ho
        refine ⟨rfl, fun a w' hS hold hin K hK => ?_⟩
        obtain ⟨y5, x5, rfl⟩ := hin 5 rfl (by omega)
        refine if_guard (d := 64) rfl rfl x5 ?_
        exact op_ld_el (.tmp 6) rfl rfl _ (eval_tmp ((hold 6 (slots_not (by kernel_rfl))).trans h6)) hS.2.2.2.1 hK
      · obtain rfl := Option.some.inj ho
        refine ⟨rfl, fun a w' hS hold hin K hK => ?_⟩
        obtain ⟨y5, x5, rfl⟩ := hin 5 rfl (by omega)
        refine if_guard (d := 64) rfl rfl x5 ?_
        exact op_ld_el (.tmp 5) rfl rfl _ (eval_tmp ((hold 5 (slots_not (by kernel_rfl))).trans h5)) hS.2.2.1 hK
      · obtain rfl := Option.some.inj ho
        refine ⟨rfl, fun a w' hS hold hin K hK => ?_⟩
        obtain ⟨y5, x5, rfl⟩ := hin 5 rfl (by omega)
        obtain ⟨y6, x6, (v6 : IsEl nb y6)⟩ := hin 6 rfl (by omega)
        obtain ⟨y7, x7, (v7 : IsEl na y7)⟩ := hin 7 rfl (by omega)
        refine if_guard (d := 64) rfl rfl x5 ?_
        exact op_fn2 _ _ _ _ _ _ rfl rfl (eval_tmp x6) (eval_tmp x7) (by intro args w; kernel_rfl) (mul_el v6 v7 _) hK
      · obtain rfl := Option.some.inj ho
        refine ⟨rfl, fun a w' hS hold hin K hK => ?_⟩
        obtain ⟨y5, x5, rfl⟩ := hin 5 rfl (by omega)
        refine if_guard (d := 64) rfl rfl x5 ?_
        exact op_ld_el (.tmp 7) rfl rfl _ (eval_tmp ((hold 7 (slots_not (by kernel_rfl))).trans h7)) hS.2.2.2.2.1 hK
      · obtain rfl := Option.some.inj ho
        refine ⟨rfl, fun a w' hS hold hin K hK => ?_⟩
        obtain ⟨y5, x5, rfl⟩ := hin 5 rfl (by omega)
        obtain ⟨y8, x8, (v8 : IsEl (nb * na) y8)⟩ := hin 8 rfl (by omega)
        obtain ⟨y9, x9, (v9 : IsEl ia y9)⟩ := hin 9 rfl (by omega)
        refine if_guard (d := 64) rfl rfl x5 ?_
        exact op_fn2 _ _ _ _ _ _ rfl rfl (eval_tmp x8) (eval_tmp x9) (by intro args w; kernel_rfl) (mul_el v8 v9 _) hK
      · obtain rfl := Option.some.inj ho
        refine ⟨rfl, fun a w' hS hold hin K hK => ?_⟩
        obtain ⟨y5, x5, rfl⟩ := hin 5 rfl (by omega)
        refine if_guard (d := 64) rfl rfl x5 ?_
        exact op_ld_el (.tmp 6) rfl rfl _ (eval_tmp ((hold 6 (slots_not (by kernel_rfl))).trans h6)) hS.2.2.2.1 hK
      · obtain rfl := Option.some.inj ho
        refine ⟨rfl, fun a w' hS hold hin K hK => ?_⟩
        obtain ⟨y5, x5, rfl⟩ := hin 5 rfl (by omega)
        obtain ⟨y10, x10, (v10 : IsEl ((nb * na) * ia) y10)⟩ := hin 10 rfl (by omega)
        obtain ⟨y11, x11, (v11 : IsEl nb y11)⟩ := hin 11 rfl (by omega)
        refine if_guard (d := 64) rfl rfl x5 ?_
        exact op_fn2 _ _ _ _ _ _ rfl rfl (eval_tmp x10) (eval_tmp x11) (by intro args w; kernel_rfl) (one_el v10 v11 (by have := e11 hx; grind) _) hK
      · obtain rfl := Option.some.inj ho
        refine ⟨rfl, fun a w' hS hold hin K hK => ?_⟩
        obtain ⟨y5, x5, rfl⟩ := hin 5 rfl (by omega)
        obtain ⟨y12, x12, rfl⟩ := hin 12 rfl (by omega)
        refine if_always rfl ?_
        exact op_pick (V := (· = .bool true)) _ _ _ true _ rfl rfl (eval_tmp x5) (show (Act.eval a _) = _ from (eval_tmp x12)) rfl hK
      · obtain rfl := Option.some.inj ho
        refine ⟨rfl, fun a w' hS hold hin K hK => ?_⟩
        obtain ⟨y13, x13, rfl⟩ := hin 13 rfl (by omega)
        refine if_always rfl ?_
        exact op_assign (V := (· = .bool true)) _ _ rfl rfl (eval_tmp x13) rfl hK
    clear hS
    intro t1 W7 hs hold hout hS
    replace HS := hs.trans HS
    obtain ⟨_, q4, rfl⟩ : ∃ x, t1[4]? = some x ∧ x = (.bool true : Value) := hout 14 (by omega)
    obtain ⟨f, e0, hf⟩ := wash HS
    have f4 := hf 4 _ q4
    have f2 := hf 2 _ ((hold 2 (slots_not (by kernel_rfl))).trans h2)
    have f3 := hf 3 _ ((hold 3 (slots_not (by kernel_rfl))).trans h3)
    have f5 := hf 5 _ ((hold 5 (slots_not (by kernel_rfl))).trans h5)
    have f6 := hf 6 _ ((hold 6 (slots_not (by kernel_rfl))).trans h6)
    have f7 := hf 7 _ ((hold 7 (slots_not (by kernel_rfl))).trans h7)
    have f8 := hf 8 _ ((hold 8 (slots_not (by kernel_rfl))).trans h8)
    have f9 := hf 9 _ ((hold 9 (slots_not (by kernel_rfl))).trans h9)
    have f10 := hf 10 _ ((hold 10 (slots_not (by kernel_rfl))).trans h10)
    have f52 := hf 52 _ ((hold 52 (slots_not (by kernel_rfl))).trans h52)
    have f55 := hf 55 _ ((hold 55 (slots_not (by kernel_rfl))).trans h55)
    clear hf
    rw [e0.trans (show _ = #[f 0, f 1, f 2, f 3, f 4, f 5, f 6, f 7, f 8, f 9, f 10, f 11, f 12, f 13, f 14, f 15, f 16, f 17, f 18, f 19, f 20, f 21, f 22, f 23, f 24, f 25, f 26, f 27, f 28, f 29, f 30, f 31, f 32, f 33, f 34, f 35, f 36, f 37, f 38, f 39, f 40, f 41, f 42, f 43, f 44, f 45, f 46, f 47, f 48, f 49, f 50, f 51, f 52, f 53, f 54, f 55, f 56, f 57, f 58, f 59, f 60, f 61, f 62, f 63, f 64, f 65, f 66, f 67, f 68, f 69, f 70, f 71, f 72] from by kernel_rfl), f4, f2, f3, f5, f6, f7, f8, f9, f10, f52, f55]
    clear f4 f2 f3 f5 f6 f7 f8 f9 f10 f52 f55
    clear e0
    dsimp only
    clear h2 h3 h5 h6 h7 h8 h9 h10 h52 h55 q4 hold hout hs HS t1 t0
    have hS' := hS
    clear hS
    have hS : BytesAt La w.heap.size W7 ∧ BytesAt Lb (w.heap.size + 1) W7 ∧ ElAt na gx W7 ∧ ElAt nb gy W7 ∧ ElAt ia gi W7 ∧ ElAt ka gk W7 ∧ ElAt (na * nb) gp W7 ∧ Below w.heap.size w W7 := ⟨hS'.1, hS'.2.1, hS'.2.2.1, hS'.2.2.2.1, hS'.2.2.2.2.1, hS'.2.2.2.2.2.1, hS'.2.2.2.2.2.2.1, hS'.2.2.2.2.2.2.2.1⟩
    clear hS' lt0 lt1 lt2 lt3 lt4 lt5 lt6
    clear hM
    clear M
    go_wp2_with ((with_reducible refine guard_list ?_); first | (refine held_load 26 _ rfl ?_) | (refine held_load 22 _ rfl ?_))
    go_returns
    exact ⟨rfl, hS.2.2.2.2.2.2.2⟩
end Go.Proofs.Ytciakfhjjnmeeaa
