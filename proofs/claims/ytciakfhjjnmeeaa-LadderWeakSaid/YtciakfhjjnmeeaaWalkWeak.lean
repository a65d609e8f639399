/- The walk of LadderWeak: it returns true for all keys. -/
import Derived.Test.YtciakfhjjnmeeaaLadOp3
namespace Go.Proofs.Ytciakfhjjnmeeaa
open Go.RowKit Nt Edw

theorem agree_zero {Lk Lu : List Int} {R : F} {w : World} (h0 : R = 0) (h : Calls Try.prog 51 #[.agg (vals Lk), .agg (vals Lu)] w (Gives (· = .tuple #[.agg (vals (bytesN R.val)), .int .u64 (mk (!decide (R = 0)))]) w)) :
    Calls Try.prog 51 #[.agg (vals Lk), .agg (vals Lu)] w (Gives (· = .tuple #[.agg (vals zeroL), .int .u64 0]) w) := by
  subst h0
  rw [zeroL_bytes]
  rw [decide_eq_true rfl] at h; exact h
theorem mul_zero_key {Lk Lu : List Int} {R : F} {w : World} (h0 : R = 0) (h : Calls Try.prog 47 #[.agg (vals Lk), .agg (vals Lu)] w (Gives (· = .agg (vals (bytesN R.val))) w)) :
    Calls Try.prog 47 #[.agg (vals Lk), .agg (vals Lu)] w (Gives (· = .agg (vals zeroL)) w) := by
  subst h0
  rw [zeroL_bytes]; exact h

set_option maxHeartbeats 4000000 in
set_option maxRecDepth 100000 in
theorem ladderWeak_walk (La : List Int) (ix : Int) (high : Bool) (w : World) (hlLa : La.length = 32) (hbLa : Byt La) (hi0 : -9223372036854775808 ≤ ix) (hi1 : ix ≤ 9223372036854775807):
    Calls Try.prog 15 #[.agg (vals La), .int .i64 ix, .bool high] w fun e w' => e = .returned (.bool true) ∧ Below w.heap.size w w' := by
  have HLLa := Lib.hid hlLa
  clear hlLa
  have hS : Own w [(w.heap.size, 32, (· = .agg (vals La)))] (w.alloc (.cells (vals La) 68)) := by
    have a0 : Own w [] (w.alloc (.cells (vals La) 68)) := Own.of_below (by go_grown)
    have a1 := a0.add (g := w.heap.size) (n := 32) (V := (· = .agg (vals La))) (by omega) (fun r hr => by cases hr) ⟨_, _, row_new, by rw [vals_size, HLLa.out], rfl⟩
    exact a1
  go_enter Try.func15, Try.ntmps15
  by_cases hneg : ix < 0
  · have hw1 : IntKind.i64.wrap (ix + 1) = ix + 1 := IntWalk.i64_in _ (by omega)
    have hw2 : IntKind.i64.wrap (-(ix + 1)) = -(ix + 1) := IntWalk.i64_in _ (by omega)
    go_wp2_with ((with_reducible refine guard_list ?_); first | (refine held_load 26 _ rfl ?_) | (refine held_load 22 _ rfl ?_) | (refine held_load 68 _ rfl ?_) | (refine held_call _ rfl ?_))
    generalize w.alloc (.cells (vals La) 68) = W0 at hS ⊢
    obtain ⟨WL, hWL⟩ : ∃ L, weakL ((-(ix + 1)) % 7) = L := ⟨_, rfl⟩
    have hwf := weak_facts ((-(ix + 1)) % 7) (by omega) (by omega)
    rw [hWL] at hwf
    obtain ⟨va, hva⟩ : ∃ v, cl La = v := ⟨_, rfl⟩
    have a1 := cl_lt HLLa.out hbLa
    have a2 := cl_eight HLLa.out hbLa
    have a3 := cl_pos HLLa.out hbLa
    rw [hva] at a1 a2 a3
    obtain ⟨xw, hxw⟩ : ∃ x, numF WL = x := ⟨_, rfl⟩
    have hpw : prod va xw = 0 := by rw [← hxw]; exact hwf.2.2 va a1 a2
    obtain ⟨pb', hpb⟩ : ∃ r, prod va 9 = r := ⟨_, rfl⟩
    have hnz : bytesN pb'.val ≠ zeroL := by rw [← hpb]; exact bytes_ne_zero (prod_nine a2 a3 a1)
    have hwl := hwf.1
    have hwb := hwf.2.1
    have hwc : ∀ w, Calls Try.prog 55 #[.int .i64 (-(ix + 1))] w (Gives (· = .agg (vals WL)) w) := fun w => by rw [← hWL]; exact weak_any (-(ix + 1)) w (by omega)
    have Hhva := Lib.hid hva
    have Hhxw := Lib.hid hxw
    have Hhpw := Lib.hid hpw
    have Hhpb := Lib.hid hpb
    have Hhnz := Lib.hid hnz
    have Hhwl := Lib.hid hwl
    have Hhwb := Lib.hid hwb
    have Hhwc := Lib.hid hwc
    clear a1 a2 a3 hwf hWL hi0 hi1 hva hxw hpw hpb hnz hwl hwb hwc hw1 hw2
    obtain ⟨M, hM⟩ : ∃ M, M = W0.heap.size := ⟨_, rfl⟩
    have hMB : w.heap.size ≤ M := hM ▸ hS.1.size
    have ltM := hS.lt
    rw [← hM] at ltM
    refine hide_held fun t0 HT => ?_
    have HS : t0.size = 51 := by rw [HT]; rfl
    have h2 : t0[2]? = some (.bool high) := by rw [HT]; rfl
    have h3 : t0[3]? = some (.pointer (some ⟨w.heap.size, 0, none⟩)) := by rw [HT]; rfl
    refine wp_from_most 3 (fun i => [15, 16, 7].getD i 0) (fun i => [none, none, some 32].getD i none) (fun i => [(· = .int .i64 (-(ix + 1))), (· = .agg (vals WL)), (fun _ => True)].getD i (fun _ => True)) (fun w' => Own w [(w.heap.size, 32, (· = .agg (vals La)))] w' ∧ M ≤ w'.heap.size) M
      1 (by omega) (by kernel_rfl) ?_ (slots_apart (by kernel_rfl)) (slots_lie (by rw [HS]; kernel_rfl)) ⟨hS, Nat.le_of_eq hM⟩ (fun w' h => h.2) (fun w1 w2 h b => ⟨h.1.keep b, Nat.le_trans h.2 b.size⟩) ?_ ?_ ?_
    · intro j hj _
      have hc : j = 0 := by omega
      rcases hc with rfl
      · exact ⟨rfl, _, by rw [HT]; rfl, rfl⟩
    · clear hS
      intro i o h0i hi ho hA
      have hc : i = 1 ∨ i = 2 := by omega
      rcases hc with rfl | rfl
      · obtain rfl := Option.some.inj ho
        refine ⟨rfl, fun a w' hS hold hin K hK => ?_⟩
        obtain ⟨y0, x0, rfl⟩ := hin 0 rfl (by omega) rfl
        refine if_always rfl ?_
        exact op_fn1 _ _ _ _ rfl rfl (eval_tmp x0) (by intro args w; kernel_rfl) (Hhwc.out _) hK
      · cases hA
    · intro i o sz h0i hi ho hA
      have hc : i = 1 ∨ i = 2 := by omega
      rcases hc with rfl | rfl
      · cases hA
      · obtain rfl := Option.some.inj ho
        obtain rfl := Option.some.inj hA
        exact ⟨rfl, rfl, 68, #[.int .u8 0, .int .u8 0, .int .u8 0, .int .u8 0, .int .u8 0, .int .u8 0, .int .u8 0, .int .u8 0, .int .u8 0, .int .u8 0, .int .u8 0, .int .u8 0, .int .u8 0, .int .u8 0, .int .u8 0, .int .u8 0, .int .u8 0, .int .u8 0, .int .u8 0, .int .u8 0, .int .u8 0, .int .u8 0, .int .u8 0, .int .u8 0, .int .u8 0, .int .u8 0, .int .u8 0, .int .u8 0, .int .u8 0, .int .u8 0, .int .u8 0, .int .u8 0], rfl, fun a w' K h => wp_new 68 #[.int .u8 0, .int .u8 0, .int .u8 0, .int .u8 0, .int .u8 0, .int .u8 0, .int .u8 0, .int .u8 0, .int .u8 0, .int .u8 0, .int .u8 0, .int .u8 0, .int .u8 0, .int .u8 0, .int .u8 0, .int .u8 0, .int .u8 0, .int .u8 0, .int .u8 0, .int .u8 0, .int .u8 0, .int .u8 0, .int .u8 0, .int .u8 0, .int .u8 0, .int .u8 0, .int .u8 0, .int .u8 0, .int .u8 0, .int .u8 0, .int .u8 0, .int .u8 0] (fun w => by kernel_rfl) h⟩
    clear hS
    intro t1 V1 hs hold hout hall hne hS
    replace HS := hs.trans HS
    replace hS := hS.1
    obtain ⟨g7, h7, b7, r7⟩ : ∃ g, t1[7]? = some (.pointer (some ⟨g, 0, none⟩)) ∧ M ≤ g ∧ ∃ cs ty, V1.heap[g]? = some (.cells cs ty (0, 0)) ∧ cs.size = 32 := by
      obtain ⟨g, p1, p2, ty, cs, p3, p4⟩ := hall 2 (by omega) 32 rfl
      exact ⟨g, p1, p2, cs, ty, p3, p4⟩
    replace hS : Own w [(w.heap.size, 32, (· = .agg (vals La))), (g7, 32, (fun _ => True))] V1 := hS.add (Nat.le_trans hMB b7) (fun r hr => Nat.ne_of_lt (Nat.lt_of_lt_of_le (ltM r hr) b7)) (Own.any r7)
    obtain ⟨x16, q16, v16⟩ : ∃ x, t1[16]? = some x ∧ ((· = .agg (vals WL))) x := hout 1 (by omega) rfl
    replace h2 := (hold 2 (slots_not (by kernel_rfl))).trans h2
    replace h3 := (hold 3 (slots_not (by kernel_rfl))).trans h3
    clear hold hout hs hall hne
    simp only [List.drop_succ_cons, List.drop_zero]
    refine st_own 32 tKey rfl (.tmp 7) (.tmp 16) rfl rfl _ _ (eval_tmp h7) (eval_tmp q16) (V' := (· = .agg (vals WL))) v16 (by_row Hhwl.out) hS 1 rfl fun V1' hS' _ => ?_
    replace hS : Own w [(w.heap.size, 32, (· = .agg (vals La))), (g7, 32, (· = .agg (vals WL)))] V1' := hS'
    clear hS'
    refine wpList_nil ?_
    clear HT
    obtain ⟨f, e0, hf⟩ := wash HS
    have f2 := hf 2 _ h2
    have f3 := hf 3 _ h3
    have f7 := hf 7 _ h7
    clear hf
    rw [e0.trans (show _ = #[f 0, f 1, f 2, f 3, f 4, f 5, f 6, f 7, f 8, f 9, f 10, f 11, f 12, f 13, f 14, f 15, f 16, f 17, f 18, f 19, f 20, f 21, f 22, f 23, f 24, f 25, f 26, f 27, f 28, f 29, f 30, f 31, f 32, f 33, f 34, f 35, f 36, f 37, f 38, f 39, f 40, f 41, f 42, f 43, f 44, f 45, f 46, f 47, f 48, f 49, f 50] from by kernel_rfl), f2, f3, f7]
    clear f2 f3 f7
    clear e0
    dsimp only
    clear h2 h3 h7 q16 v16 b7 r7 ltM hMB hM HS t1 t0 M
    cases high with
    | false =>
      go_wp2_with ((with_reducible refine guard_list ?_); first | (refine held_load 26 _ rfl ?_) | (refine held_load 22 _ rfl ?_) | (refine held_load 68 _ rfl ?_))
      obtain ⟨M, hM⟩ : ∃ M, M = V1'.heap.size := ⟨_, rfl⟩
      have hMB : w.heap.size ≤ M := hM ▸ hS.1.size
      have ltM := hS.lt
      rw [← hM] at ltM
      refine hide_held fun t0 HT => ?_
      have HS : t0.size = 51 := by rw [HT]; rfl
      have h2 : t0[2]? = some (.bool false) := by rw [HT]; rfl
      have h3 : t0[3]? = some (.pointer (some ⟨w.heap.size, 0, none⟩)) := by rw [HT]; rfl
      have h7 : t0[7]? = some (.pointer (some ⟨g7, 0, none⟩)) := by rw [HT]; rfl
      clear HT
      refine wp_list_most 7 (fun i => [23, 24, 25, 22, 26, 27, 8].getD i 0) (fun i => [none, none, none, none, none, none, some 32].getD i none) (fun i => [(· = .agg (vals La)), (· = .agg (vals WL)), (· = .tuple #[.agg (vals zeroL), .int .u64 0]), (· = .tuple #[.agg (vals zeroL), .int .u64 0]), (· = .agg (vals zeroL)), (· = .int .u64 0), (fun _ => True)].getD i (fun _ => True)) (fun w' => Own w [(w.heap.size, 32, (· = .agg (vals La))), (g7, 32, (· = .agg (vals WL)))] w' ∧ M ≤ w'.heap.size) M
        (by kernel_rfl) (slots_apart (by kernel_rfl)) (slots_lie (by rw [HS]; kernel_rfl)) ⟨hS, Nat.le_of_eq hM⟩ (fun w' h => h.2) (fun w1 w2 h b => ⟨h.1.keep b, Nat.le_trans h.2 b.size⟩) ?_ ?_ ?_
      · clear hS
        intro i o hi ho hA
        have hc : i = 0 ∨ i = 1 ∨ i = 2 ∨ i = 3 ∨ i = 4 ∨ i = 5 ∨ i = 6 := by omega
        rcases hc with rfl | rfl | rfl | rfl | rfl | rfl | rfl
        · obtain rfl := Option.some.inj ho
          refine ⟨rfl, fun a w' hS hold hin K hK => ?_⟩
          refine if_always rfl ?_
          exact op_ld_own 32 tKey (.tmp 3) rfl rfl _ (eval_tmp ((hold 3 (slots_not (by kernel_rfl))).trans h3)) hS.1 0 rfl hK
        · obtain rfl := Option.some.inj ho
          refine ⟨rfl, fun a w' hS hold hin K hK => ?_⟩
          refine if_always rfl ?_
          exact op_ld_own 32 tKey (.tmp 7) rfl rfl _ (eval_tmp ((hold 7 (slots_not (by kernel_rfl))).trans h7)) hS.1 1 rfl hK
        · obtain rfl := Option.some.inj ho
          refine ⟨rfl, fun a w' hS hold hin K hK => ?_⟩
          obtain ⟨y0, x0, rfl⟩ := hin 0 rfl (by omega) rfl
          obtain ⟨y1, x1, rfl⟩ := hin 1 rfl (by omega) rfl
          refine if_always rfl ?_
          exact op_fn2 _ _ _ _ _ _ rfl rfl (eval_tmp x0) (eval_tmp x1) (by intro args w; kernel_rfl) (agree_zero rfl (agree_any La WL va xw 0 _ HLLa.out hbLa Hhwl.out Hhwb.out Hhva.out Hhxw.out Hhpw.out)) hK
        · obtain rfl := Option.some.inj ho
          refine ⟨rfl, fun a w' hS hold hin K hK => ?_⟩
          obtain ⟨y2, x2, rfl⟩ := hin 2 rfl (by omega) rfl
          refine if_always rfl ?_
          exact op_move (V := (· = .tuple #[.agg (vals zeroL), .int .u64 0])) _ _ rfl rfl (eval_tmp x2) rfl hK
        · obtain rfl := Option.some.inj ho
          refine ⟨rfl, fun a w' hS hold hin K hK => ?_⟩
          obtain ⟨y3, x3, rfl⟩ := hin 3 rfl (by omega) rfl
          refine if_always rfl ?_
          exact op_tup0 (V := (· = .agg (vals zeroL))) _ rfl rfl (eval_tmp x3) rfl hK
        · obtain rfl := Option.some.inj ho
          refine ⟨rfl, fun a w' hS hold hin K hK => ?_⟩
          obtain ⟨y3, x3, rfl⟩ := hin 3 rfl (by omega) rfl
          refine if_always rfl ?_
          exact op_tup1 (V := (· = .int .u64 0)) _ rfl rfl (eval_tmp x3) rfl hK
        · cases hA
      · intro i o sz hi ho hA
        have hc : i = 0 ∨ i = 1 ∨ i = 2 ∨ i = 3 ∨ i = 4 ∨ i = 5 ∨ i = 6 := by omega
        rcases hc with rfl | rfl | rfl | rfl | rfl | rfl | rfl
        · cases hA
        · cases hA
        · cases hA
        · cases hA
        · cases hA
        · cases hA
        · obtain rfl := Option.some.inj ho
          obtain rfl := Option.some.inj hA
          exact ⟨rfl, rfl, 68, #[.int .u8 0, .int .u8 0, .int .u8 0, .int .u8 0, .int .u8 0, .int .u8 0, .int .u8 0, .int .u8 0, .int .u8 0, .int .u8 0, .int .u8 0, .int .u8 0, .int .u8 0, .int .u8 0, .int .u8 0, .int .u8 0, .int .u8 0, .int .u8 0, .int .u8 0, .int .u8 0, .int .u8 0, .int .u8 0, .int .u8 0, .int .u8 0, .int .u8 0, .int .u8 0, .int .u8 0, .int .u8 0, .int .u8 0, .int .u8 0, .int .u8 0, .int .u8 0], rfl, fun a w' K h => wp_new 68 #[.int .u8 0, .int .u8 0, .int .u8 0, .int .u8 0, .int .u8 0, .int .u8 0, .int .u8 0, .int .u8 0, .int .u8 0, .int .u8 0, .int .u8 0, .int .u8 0, .int .u8 0, .int .u8 0, .int .u8 0, .int .u8 0, .int .u8 0, .int .u8 0, .int .u8 0, .int .u8 0, .int .u8 0, .int .u8 0, .int .u8 0, .int .u8 0, .int .u8 0, .int .u8 0, .int .u8 0, .int .u8 0, .int .u8 0, .int .u8 0, .int .u8 0, .int .u8 0] (fun w => by kernel_rfl) h⟩
      clear hS
      intro t1 V2 hs hold hout hall hne hS
      replace HS := hs.trans HS
      replace hS := hS.1
      obtain ⟨g8, h8, b8, r8⟩ : ∃ g, t1[8]? = some (.pointer (some ⟨g, 0, none⟩)) ∧ M ≤ g ∧ ∃ cs ty, V2.heap[g]? = some (.cells cs ty (0, 0)) ∧ cs.size = 32 := by
        obtain ⟨g, p1, p2, ty, cs, p3, p4⟩ := hall 6 (by omega) 32 rfl
        exact ⟨g, p1, p2, cs, ty, p3, p4⟩
      replace hS : Own w [(w.heap.size, 32, (· = .agg (vals La))), (g7, 32, (· = .agg (vals WL))), (g8, 32, (fun _ => True))] V2 := hS.add (Nat.le_trans hMB b8) (fun r hr => Nat.ne_of_lt (Nat.lt_of_lt_of_le (ltM r hr) b8)) (Own.any r8)
      obtain ⟨x26, q26, v26⟩ : ∃ x, t1[26]? = some x ∧ ((· = .agg (vals zeroL))) x := hout 4 (by omega) rfl
      obtain ⟨x27, q27, v27⟩ : ∃ x, t1[27]? = some x ∧ ((· = .int .u64 0)) x := hout 5 (by omega) rfl
      replace q27 : t1[27]? = some (.int .u64 0) := q27.trans (congrArg some v27)
      replace h2 := (hold 2 (slots_not (by kernel_rfl))).trans h2
      replace h3 := (hold 3 (slots_not (by kernel_rfl))).trans h3
      replace h7 := (hold 7 (slots_not (by kernel_rfl))).trans h7
      clear hold hout hs hall hne
      simp only [List.drop_succ_cons, List.drop_zero]
      refine st_own 32 tKey rfl (.tmp 8) (.tmp 26) rfl rfl _ _ (eval_tmp h8) (eval_tmp q26) (V' := (· = .agg (vals zeroL))) v26 (by_row rfl) hS 2 rfl fun V2' hS' _ => ?_
      replace hS : Own w [(w.heap.size, 32, (· = .agg (vals La))), (g7, 32, (· = .agg (vals WL))), (g8, 32, (· = .agg (vals zeroL)))] V2' := hS'
      clear hS'
      refine tl_assign rfl (.tmp 27) rfl 9 rfl (by rw [HS]; decide) _ (eval_tmp q27) fun t1 hz hq he => ?_
      replace h2 := (he 2 (by decide)).trans h2
      replace h3 := (he 3 (by decide)).trans h3
      replace h7 := (he 7 (by decide)).trans h7
      replace h8 := (he 8 (by decide)).trans h8
      replace HS := hz.trans HS
      clear hz he q26 q27 v26 v27
      have h9 := hq
      clear hq
      refine wpList_nil ?_
      obtain ⟨f, e0, hf⟩ := wash HS
      have f2 := hf 2 _ h2
      have f3 := hf 3 _ h3
      have f7 := hf 7 _ h7
      have f8 := hf 8 _ h8
      have f9 := hf 9 _ h9
      clear hf
      rw [e0.trans (show _ = #[f 0, f 1, f 2, f 3, f 4, f 5, f 6, f 7, f 8, f 9, f 10, f 11, f 12, f 13, f 14, f 15, f 16, f 17, f 18, f 19, f 20, f 21, f 22, f 23, f 24, f 25, f 26, f 27, f 28, f 29, f 30, f 31, f 32, f 33, f 34, f 35, f 36, f 37, f 38, f 39, f 40, f 41, f 42, f 43, f 44, f 45, f 46, f 47, f 48, f 49, f 50] from by kernel_rfl), f2, f3, f7, f8, f9]
      clear f2 f3 f7 f8 f9
      clear e0
      dsimp only
      clear h2 h3 h7 h8 h9 b8 r8 ltM hMB hM HS t1 t0 M
      go_wp2_with ((with_reducible refine guard_list ?_); first | (refine held_load 26 _ rfl ?_) | (refine held_load 22 _ rfl ?_) | (refine held_load 68 _ rfl ?_))
      obtain ⟨M, hM⟩ : ∃ M, M = V2'.heap.size := ⟨_, rfl⟩
      refine hide_held fun t0 HT => ?_
      have HS : t0.size = 51 := by rw [HT]; rfl
      have h2 : t0[2]? = some (.bool false) := by rw [HT]; rfl
      have h3 : t0[3]? = some (.pointer (some ⟨w.heap.size, 0, none⟩)) := by rw [HT]; rfl
      have h7 : t0[7]? = some (.pointer (some ⟨g7, 0, none⟩)) := by rw [HT]; rfl
      have h8 : t0[8]? = some (.pointer (some ⟨g8, 0, none⟩)) := by rw [HT]; rfl
      have h9 : t0[9]? = some (.int .u64 0) := by rw [HT]; rfl
      refine wp_from_all 23 (fun i => [28, 29, 30, 31, 32, 33, 34, 35, 36, 37, 38, 39, 40, 41, 42, 43, 44, 45, 46, 47, 48, 49, 50, 6].getD i 0) (fun i => [(· = .int .u64 0), (· = .bool true), (· = .bool true), (· = .agg (vals zeroL)), (· = .agg (vals zeroL)), (· = .bool true), (· = .bool true), (· = .bool true), (· = .agg (vals La)), (· = .agg (vals WL)), (· = .agg (vals zeroL)), (· = .agg (vals zeroL)), (· = .bool true), (· = .bool true), (· = .bool true), (· = .agg (vals La)), (· = .agg (vals (bytesN pb'.val))), (· = .agg (vals zeroL)), (· = .bool true), (· = .bool true), (· = .bool true), (· = .bool true), (· = .bool true), (· = .bool true)].getD i (fun _ => True)) (fun w' => Own w [(w.heap.size, 32, (· = .agg (vals La))), (g7, 32, (· = .agg (vals WL))), (g8, 32, (· = .agg (vals zeroL)))] w' ∧ M ≤ w'.heap.size)
        3 (by omega) (by kernel_rfl) ?_ (by kernel_rfl) (slots_apart (by kernel_rfl)) (slots_lie (by rw [HS]; kernel_rfl)) ⟨hS, Nat.le_of_eq hM⟩ (fun w1 w2 h b => ⟨h.1.keep b, Nat.le_trans h.2 b.size⟩) ?_ ?_
      · intro j hj
        have hc : j = 0 ∨ j = 1 ∨ j = 2 := by omega
        rcases hc with rfl | rfl | rfl
        · exact ⟨_, by rw [HT]; rfl, rfl⟩
        · exact ⟨_, by rw [HT]; rfl, rfl⟩
        · exact ⟨_, by rw [HT]; rfl, rfl⟩
      · clear hS
        intro i o h0i hi ho
        have hc : i = 3 ∨ i = 4 ∨ i = 5 ∨ i = 6 ∨ i = 7 ∨ i = 8 ∨ i = 9 ∨ i = 10 ∨ i = 11 ∨ i = 12 ∨ i = 13 ∨ i = 14 ∨ i = 15 ∨ i = 16 ∨ i = 17 ∨ i = 18 ∨ i = 19 ∨ i = 20 ∨ i = 21 ∨ i = 22 ∨ i = 23 := by omega
        rcases hc with rfl | rfl | rfl | rfl | rfl | rfl | rfl | rfl | rfl | rfl | rfl | rfl | rfl | rfl | rfl | rfl | rfl | rfl | rfl | rfl | rfl
        · obtain rfl := Option.some.inj ho
          refine ⟨rfl, fun a w' hS hold hin K hK => ?_⟩
          obtain ⟨y2, x2, rfl⟩ := hin 2 rfl (by omega)
          refine if_guard (d := 30) rfl rfl x2 ?_
          exact op_ld_own 32 tKey (.tmp 8) rfl rfl _ (eval_tmp ((hold 8 (slots_not (by kernel_rfl))).trans h8)) hS.1 2 rfl hK
        · obtain rfl := Option.some.inj ho
          refine ⟨rfl, fun a w' hS hold hin K hK => ?_⟩
          obtain ⟨y2, x2, rfl⟩ := hin 2 rfl (by omega)
          refine if_guard (d := 30) rfl rfl x2 ?_
          exact op_val (V := (· = .agg (vals zeroL))) (.agg (vals zeroL)) rfl (by kernel_rfl) rfl hK
        · obtain rfl := Option.some.inj ho
          refine ⟨rfl, fun a w' hS hold hin K hK => ?_⟩
          obtain ⟨y2, x2, rfl⟩ := hin 2 rfl (by omega)
          obtain ⟨y3, x3, rfl⟩ := hin 3 rfl (by omega)
          obtain ⟨y4, x4, rfl⟩ := hin 4 rfl (by omega)
          refine if_guard (d := 30) rfl rfl x2 ?_
          exact op_bin (V := (· = .bool true)) _ _ _ _ _ _ _ (.bool true) rfl rfl (eval_tmp x3) (eval_tmp x4) (fun w => eql_key_same zeroL rfl w) rfl hK
        · obtain rfl := Option.some.inj ho
          refine ⟨rfl, fun a w' hS hold hin K hK => ?_⟩
          obtain ⟨y2, x2, rfl⟩ := hin 2 rfl (by omega)
          obtain ⟨y5, x5, rfl⟩ := hin 5 rfl (by omega)
          refine if_always rfl ?_
          exact op_pick (V := (· = .bool true)) _ _ _ true _ rfl rfl (eval_tmp x2) (show (Act.eval a _) = _ from (eval_tmp x5)) rfl hK
        · obtain rfl := Option.some.inj ho
          refine ⟨rfl, fun a w' hS hold hin K hK => ?_⟩
          obtain ⟨y6, x6, rfl⟩ := hin 6 rfl (by omega)
          refine if_always rfl ?_
          exact op_move (V := (· = .bool true)) _ _ rfl rfl (eval_tmp x6) rfl hK
        · obtain rfl := Option.some.inj ho
          refine ⟨rfl, fun a w' hS hold hin K hK => ?_⟩
          obtain ⟨y7, x7, rfl⟩ := hin 7 rfl (by omega)
          refine if_guard (d := 35) rfl rfl x7 ?_
          exact op_ld_own 32 tKey (.tmp 3) rfl rfl _ (eval_tmp ((hold 3 (slots_not (by kernel_rfl))).trans h3)) hS.1 0 rfl hK
        · obtain rfl := Option.some.inj ho
          refine ⟨rfl, fun a w' hS hold hin K hK => ?_⟩
          obtain ⟨y7, x7, rfl⟩ := hin 7 rfl (by omega)
          refine if_guard (d := 35) rfl rfl x7 ?_
          exact op_ld_own 32 tKey (.tmp 7) rfl rfl _ (eval_tmp ((hold 7 (slots_not (by kernel_rfl))).trans h7)) hS.1 1 rfl hK
        · obtain rfl := Option.some.inj ho
          refine ⟨rfl, fun a w' hS hold hin K hK => ?_⟩
          obtain ⟨y7, x7, rfl⟩ := hin 7 rfl (by omega)
          obtain ⟨y8, x8, rfl⟩ := hin 8 rfl (by omega)
          obtain ⟨y9, x9, rfl⟩ := hin 9 rfl (by omega)
          refine if_guard (d := 35) rfl rfl x7 ?_
          exact op_fn2 _ _ _ _ _ _ rfl rfl (eval_tmp x8) (eval_tmp x9) (by intro args w; kernel_rfl) (mul_zero_key rfl (ladmul_ev La WL va xw 0 _ HLLa.out hbLa Hhwl.out Hhwb.out Hhva.out Hhxw.out Hhpw.out)) hK
        · obtain rfl := Option.some.inj ho
          refine ⟨rfl, fun a w' hS hold hin K hK => ?_⟩
          obtain ⟨y7, x7, rfl⟩ := hin 7 rfl (by omega)
          refine if_guard (d := 35) rfl rfl x7 ?_
          exact op_val (V := (· = .agg (vals zeroL))) (.agg (vals zeroL)) rfl (by kernel_rfl) rfl hK
        · obtain rfl := Option.some.inj ho
          refine ⟨rfl, fun a w' hS hold hin K hK => ?_⟩
          obtain ⟨y7, x7, rfl⟩ := hin 7 rfl (by omega)
          obtain ⟨y10, x10, rfl⟩ := hin 10 rfl (by omega)
          obtain ⟨y11, x11, rfl⟩ := hin 11 rfl (by omega)
          refine if_guard (d := 35) rfl rfl x7 ?_
          exact op_bin (V := (· = .bool true)) _ _ _ _ _ _ _ (.bool true) rfl rfl (eval_tmp x10) (eval_tmp x11) (fun w => eql_key_same zeroL rfl w) rfl hK
        · obtain rfl := Option.some.inj ho
          refine ⟨rfl, fun a w' hS hold hin K hK => ?_⟩
          obtain ⟨y7, x7, rfl⟩ := hin 7 rfl (by omega)
          obtain ⟨y12, x12, rfl⟩ := hin 12 rfl (by omega)
          refine if_always rfl ?_
          exact op_pick (V := (· = .bool true)) _ _ _ true _ rfl rfl (eval_tmp x7) (show (Act.eval a _) = _ from (eval_tmp x12)) rfl hK
        · obtain rfl := Option.some.inj ho
          refine ⟨rfl, fun a w' hS hold hin K hK => ?_⟩
          obtain ⟨y13, x13, rfl⟩ := hin 13 rfl (by omega)
          refine if_always rfl ?_
          exact op_move (V := (· = .bool true)) _ _ rfl rfl (eval_tmp x13) rfl hK
        · obtain rfl := Option.some.inj ho
          refine ⟨rfl, fun a w' hS hold hin K hK => ?_⟩
          obtain ⟨y14, x14, rfl⟩ := hin 14 rfl (by omega)
          refine if_guard (d := 42) rfl rfl x14 ?_
          exact op_ld_own 32 tKey (.tmp 3) rfl rfl _ (eval_tmp ((hold 3 (slots_not (by kernel_rfl))).trans h3)) hS.1 0 rfl hK
        · obtain rfl := Option.some.inj ho
          refine ⟨rfl, fun a w' hS hold hin K hK => ?_⟩
          obtain ⟨y14, x14, rfl⟩ := hin 14 rfl (by omega)
          obtain ⟨y15, x15, rfl⟩ := hin 15 rfl (by omega)
          refine if_guard (d := 42) rfl rfl x14 ?_
          exact op_fn1 _ _ _ _ rfl rfl (eval_tmp x15) (by intro args w; kernel_rfl) (base_any La va pb' _ HLLa.out hbLa Hhva.out Hhpb.out) hK
        · obtain rfl := Option.some.inj ho
          refine ⟨rfl, fun a w' hS hold hin K hK => ?_⟩
          obtain ⟨y14, x14, rfl⟩ := hin 14 rfl (by omega)
          refine if_guard (d := 42) rfl rfl x14 ?_
          exact op_val (V := (· = .agg (vals zeroL))) (.agg (vals zeroL)) rfl (by kernel_rfl) rfl hK
        · obtain rfl := Option.some.inj ho
          refine ⟨rfl, fun a w' hS hold hin K hK => ?_⟩
          obtain ⟨y14, x14, rfl⟩ := hin 14 rfl (by omega)
          obtain ⟨y16, x16, rfl⟩ := hin 16 rfl (by omega)
          obtain ⟨y17, x17, rfl⟩ := hin 17 rfl (by omega)
          refine if_guard (d := 42) rfl rfl x14 ?_
          exact op_bin (V := (· = .bool true)) _ _ _ _ _ _ _ (.bool true) rfl rfl (eval_tmp x16) (eval_tmp x17) (fun w => neq_key_diff (bytesN pb'.val) zeroL (bytesN_len _) rfl w Hhnz.out) rfl hK
        · obtain rfl := Option.some.inj ho
          refine ⟨rfl, fun a w' hS hold hin K hK => ?_⟩
          obtain ⟨y14, x14, rfl⟩ := hin 14 rfl (by omega)
          obtain ⟨y18, x18, rfl⟩ := hin 18 rfl (by omega)
          refine if_always rfl ?_
          exact op_pick (V := (· = .bool true)) _ _ _ true _ rfl rfl (eval_tmp x14) (show (Act.eval a _) = _ from (eval_tmp x18)) rfl hK
        · obtain rfl := Option.some.inj ho
          refine ⟨rfl, fun a w' hS hold hin K hK => ?_⟩
          obtain ⟨y19, x19, rfl⟩ := hin 19 rfl (by omega)
          refine if_always rfl ?_
          exact op_move (V := (· = .bool true)) _ _ rfl rfl (eval_tmp x19) rfl hK
        · obtain rfl := Option.some.inj ho
          refine ⟨rfl, fun a w' hS hold hin K hK => ?_⟩
          obtain ⟨y20, x20, rfl⟩ := hin 20 rfl (by omega)
          refine if_guard (d := 48) rfl rfl x20 ?_
          exact op_fn0 _  _  rfl rfl  (by intro args w; kernel_rfl) (works_any _) hK
        · obtain rfl := Option.some.inj ho
          refine ⟨rfl, fun a w' hS hold hin K hK => ?_⟩
          obtain ⟨y20, x20, rfl⟩ := hin 20 rfl (by omega)
          obtain ⟨y21, x21, rfl⟩ := hin 21 rfl (by omega)
          refine if_always rfl ?_
          exact op_pick (V := (· = .bool true)) _ _ _ true _ rfl rfl (eval_tmp x20) (show (Act.eval a _) = _ from (eval_tmp x21)) rfl hK
        · obtain rfl := Option.some.inj ho
          refine ⟨rfl, fun a w' hS hold hin K hK => ?_⟩
          obtain ⟨y22, x22, rfl⟩ := hin 22 rfl (by omega)
          refine if_always rfl ?_
          exact op_assign (V := (· = .bool true)) _ _ rfl rfl (eval_tmp x22) rfl hK
      clear hS
      intro t1 V3 hs hold hout hS
      replace HS := hs.trans HS
      replace hS := hS.1
      obtain ⟨_, q6, rfl⟩ : ∃ x, t1[6]? = some x ∧ x = (.bool true : Value) := hout 23 (by omega)
      replace h2 := (hold 2 (slots_not (by kernel_rfl))).trans h2
      replace h3 := (hold 3 (slots_not (by kernel_rfl))).trans h3
      replace h7 := (hold 7 (slots_not (by kernel_rfl))).trans h7
      replace h8 := (hold 8 (slots_not (by kernel_rfl))).trans h8
      replace h9 := (hold 9 (slots_not (by kernel_rfl))).trans h9
      clear hold hout hs
      clear HT
      obtain ⟨f, e0, hf⟩ := wash HS
      have f2 := hf 2 _ h2
      have f3 := hf 3 _ h3
      have f7 := hf 7 _ h7
      have f8 := hf 8 _ h8
      have f9 := hf 9 _ h9
      have f6 := hf 6 _ q6
      clear hf
      rw [e0.trans (show _ = #[f 0, f 1, f 2, f 3, f 4, f 5, f 6, f 7, f 8, f 9, f 10, f 11, f 12, f 13, f 14, f 15, f 16, f 17, f 18, f 19, f 20, f 21, f 22, f 23, f 24, f 25, f 26, f 27, f 28, f 29, f 30, f 31, f 32, f 33, f 34, f 35, f 36, f 37, f 38, f 39, f 40, f 41, f 42, f 43, f 44, f 45, f 46, f 47, f 48, f 49, f 50] from by kernel_rfl), f2, f3, f7, f8, f9, f6]
      clear f2 f3 f7 f8 f9 f6
      clear e0
      dsimp only
      clear h2 h3 h7 h8 h9 q6 hM HS t1 t0 M
      go_wp2_with fail
      go_returns
      exact ⟨rfl, hS.1⟩
    | true =>
      obtain ⟨t7, R7⟩ := hS.bytes (i := 1) rfl
      have c31 := (row_cell R7 31).trans (vals_get (by rw [Hhwl.out]; omega))
      have fc := row_free R7 31
      have HS0 := Lib.hid hS
      clear hS R7
      have hx := Hhwb.out.nth 31
      obtain ⟨x31, hx31⟩ : ∃ x, nth WL 31 = x := ⟨_, rfl⟩
      rw [hx31] at c31 hx
      have ho := or128 x31 hx.1 hx.2
      have HO := Lib.hid ho
      have HX31 := Lib.hid hx31
      clear ho hx31
      go_wp2_with ((with_reducible refine guard_list ?_); first | (refine held_load 26 _ rfl ?_) | (refine held_load 22 _ rfl ?_) | (refine held_load 68 _ rfl ?_))
      have hS := HS0.out.byte (i := 1) rfl 31 (bits .or .u8 x31 128)
      have hTl : (WL.set 31 (bits .or .u8 x31 128)).length = 32 := by rw [List.length_set, Hhwl.out]
      have hTb : Byt (WL.set 31 (bits .or .u8 x31 128)) := byt_set Hhwb.out _ _ HO.out.1
      have hTn : numF (WL.set 31 (bits .or .u8 x31 128)) = xw := by rw [numF_top WL _ Hhwl.out Hhwb.out HO.out.1 (by rw [HO.out.2, HX31.out]), Hhxw.out]
      generalize V1'.setCell ⟨g7, 31, none⟩ (.int .u8 (bits .or .u8 x31 128)) = WC at hS ⊢
      generalize WL.set 31 (bits .or .u8 x31 128) = WT at hS hTl hTb hTn
      have HTl := Lib.hid hTl
      have HTb := Lib.hid hTb
      have HTn := Lib.hid hTn
      clear hTl hTb hTn HS0 c31 fc hx
      replace hS : Own w [(w.heap.size, 32, (· = .agg (vals La))), (g7, 32, (· = .agg (vals WT)))] WC := hS
      obtain ⟨M, hM⟩ : ∃ M, M = WC.heap.size := ⟨_, rfl⟩
      have hMB : w.heap.size ≤ M := hM ▸ hS.1.size
      have ltM := hS.lt
      rw [← hM] at ltM
      refine hide_held fun t0 HT => ?_
      have HS : t0.size = 51 := by rw [HT]; rfl
      have h2 : t0[2]? = some (.bool true) := by rw [HT]; rfl
      have h3 : t0[3]? = some (.pointer (some ⟨w.heap.size, 0, none⟩)) := by rw [HT]; rfl
      have h7 : t0[7]? = some (.pointer (some ⟨g7, 0, none⟩)) := by rw [HT]; rfl
      clear HT
      refine wp_list_most 7 (fun i => [23, 24, 25, 22, 26, 27, 8].getD i 0) (fun i => [none, none, none, none, none, none, some 32].getD i none) (fun i => [(· = .agg (vals La)), (· = .agg (vals WT)), (· = .tuple #[.agg (vals zeroL), .int .u64 0]), (· = .tuple #[.agg (vals zeroL), .int .u64 0]), (· = .agg (vals zeroL)), (· = .int .u64 0), (fun _ => True)].getD i (fun _ => True)) (fun w' => Own w [(w.heap.size, 32, (· = .agg (vals La))), (g7, 32, (· = .agg (vals WT)))] w' ∧ M ≤ w'.heap.size) M
        (by kernel_rfl) (slots_apart (by kernel_rfl)) (slots_lie (by rw [HS]; kernel_rfl)) ⟨hS, Nat.le_of_eq hM⟩ (fun w' h => h.2) (fun w1 w2 h b => ⟨h.1.keep b, Nat.le_trans h.2 b.size⟩) ?_ ?_ ?_
      · clear hS
        intro i o hi ho hA
        have hc : i = 0 ∨ i = 1 ∨ i = 2 ∨ i = 3 ∨ i = 4 ∨ i = 5 ∨ i = 6 := by omega
        rcases hc with rfl | rfl | rfl | rfl | rfl | rfl | rfl
        · obtain rfl := Option.some.inj ho
          refine ⟨rfl, fun a w' hS hold hin K hK => ?_⟩
          refine if_always rfl ?_
          exact op_ld_own 32 tKey (.tmp 3) rfl rfl _ (eval_tmp ((hold 3 (slots_not (by kernel_rfl))).trans h3)) hS.1 0 rfl hK
        · obtain rfl := Option.some.inj ho
          refine ⟨rfl, fun a w' hS hold hin K hK => ?_⟩
          refine if_always rfl ?_
          exact op_ld_own 32 tKey (.tmp 7) rfl rfl _ (eval_tmp ((hold 7 (slots_not (by kernel_rfl))).trans h7)) hS.1 1 rfl hK
        · obtain rfl := Option.some.inj ho
          refine ⟨rfl, fun a w' hS hold hin K hK => ?_⟩
          obtain ⟨y0, x0, rfl⟩ := hin 0 rfl (by omega) rfl
          obtain ⟨y1, x1, rfl⟩ := hin 1 rfl (by omega) rfl
          refine if_always rfl ?_
          exact op_fn2 _ _ _ _ _ _ rfl rfl (eval_tmp x0) (eval_tmp x1) (by intro args w; kernel_rfl) (agree_zero rfl (agree_any La WT va xw 0 _ HLLa.out hbLa HTl.out HTb.out Hhva.out HTn.out Hhpw.out)) hK
        · obtain rfl := Option.some.inj ho
          refine ⟨rfl, fun a w' hS hold hin K hK => ?_⟩
          obtain ⟨y2, x2, rfl⟩ := hin 2 rfl (by omega) rfl
          refine if_always rfl ?_
          exact op_move (V := (· = .tuple #[.agg (vals zeroL), .int .u64 0])) _ _ rfl rfl (eval_tmp x2) rfl hK
        · obtain rfl := Option.some.inj ho
          refine ⟨rfl, fun a w' hS hold hin K hK => ?_⟩
          obtain ⟨y3, x3, rfl⟩ := hin 3 rfl (by omega) rfl
          refine if_always rfl ?_
          exact op_tup0 (V := (· = .agg (vals zeroL))) _ rfl rfl (eval_tmp x3) rfl hK
        · obtain rfl := Option.some.inj ho
          refine ⟨rfl, fun a w' hS hold hin K hK => ?_⟩
          obtain ⟨y3, x3, rfl⟩ := hin 3 rfl (by omega) rfl
          refine if_always rfl ?_
          exact op_tup1 (V := (· = .int .u64 0)) _ rfl rfl (eval_tmp x3) rfl hK
        · cases hA
      · intro i o sz hi ho hA
        have hc : i = 0 ∨ i = 1 ∨ i = 2 ∨ i = 3 ∨ i = 4 ∨ i = 5 ∨ i = 6 := by omega
        rcases hc with rfl | rfl | rfl | rfl | rfl | rfl | rfl
        · cases hA
        · cases hA
        · cases hA
        · cases hA
        · cases hA
        · cases hA
        · obtain rfl := Option.some.inj ho
          obtain rfl := Option.some.inj hA
          exact ⟨rfl, rfl, 68, #[.int .u8 0, .int .u8 0, .int .u8 0, .int .u8 0, .int .u8 0, .int .u8 0, .int .u8 0, .int .u8 0, .int .u8 0, .int .u8 0, .int .u8 0, .int .u8 0, .int .u8 0, .int .u8 0, .int .u8 0, .int .u8 0, .int .u8 0, .int .u8 0, .int .u8 0, .int .u8 0, .int .u8 0, .int .u8 0, .int .u8 0, .int .u8 0, .int .u8 0, .int .u8 0, .int .u8 0, .int .u8 0, .int .u8 0, .int .u8 0, .int .u8 0, .int .u8 0], rfl, fun a w' K h => wp_new 68 #[.int .u8 0, .int .u8 0, .int .u8 0, .int .u8 0, .int .u8 0, .int .u8 0, .int .u8 0, .int .u8 0, .int .u8 0, .int .u8 0, .int .u8 0, .int .u8 0, .int .u8 0, .int .u8 0, .int .u8 0, .int .u8 0, .int .u8 0, .int .u8 0, .int .u8 0, .int .u8 0, .int .u8 0, .int .u8 0, .int .u8 0, .int .u8 0, .int .u8 0, .int .u8 0, .int .u8 0, .int .u8 0, .int .u8 0, .int .u8 0, .int .u8 0, .int .u8 0] (fun w => by kernel_rfl) h⟩
      clear hS
      intro t1 V2 hs hold hout hall hne hS
      replace HS := hs.trans HS
      replace hS := hS.1
      obtain ⟨g8, h8, b8, r8⟩ : ∃ g, t1[8]? = some (.pointer (some ⟨g, 0, none⟩)) ∧ M ≤ g ∧ ∃ cs ty, V2.heap[g]? = some (.cells cs ty (0, 0)) ∧ cs.size = 32 := by
        obtain ⟨g, p1, p2, ty, cs, p3, p4⟩ := hall 6 (by omega) 32 rfl
        exact ⟨g, p1, p2, cs, ty, p3, p4⟩
      replace hS : Own w [(w.heap.size, 32, (· = .agg (vals La))), (g7, 32, (· = .agg (vals WT))), (g8, 32, (fun _ => True))] V2 := hS.add (Nat.le_trans hMB b8) (fun r hr => Nat.ne_of_lt (Nat.lt_of_lt_of_le (ltM r hr) b8)) (Own.any r8)
      obtain ⟨x26, q26, v26⟩ : ∃ x, t1[26]? = some x ∧ ((· = .agg (vals zeroL))) x := hout 4 (by omega) rfl
      obtain ⟨x27, q27, v27⟩ : ∃ x, t1[27]? = some x ∧ ((· = .int .u64 0)) x := hout 5 (by omega) rfl
      replace q27 : t1[27]? = some (.int .u64 0) := q27.trans (congrArg some v27)
      replace h2 := (hold 2 (slots_not (by kernel_rfl))).trans h2
      replace h3 := (hold 3 (slots_not (by kernel_rfl))).trans h3
      replace h7 := (hold 7 (slots_not (by kernel_rfl))).trans h7
      clear hold hout hs hall hne
      simp only [List.drop_succ_cons, List.drop_zero]
      refine st_own 32 tKey rfl (.tmp 8) (.tmp 26) rfl rfl _ _ (eval_tmp h8) (eval_tmp q26) (V' := (· = .agg (vals zeroL))) v26 (by_row rfl) hS 2 rfl fun V2' hS' _ => ?_
      replace hS : Own w [(w.heap.size, 32, (· = .agg (vals La))), (g7, 32, (· = .agg (vals WT))), (g8, 32, (· = .agg (vals zeroL)))] V2' := hS'
      clear hS'
      refine tl_assign rfl (.tmp 27) rfl 9 rfl (by rw [HS]; decide) _ (eval_tmp q27) fun t1 hz hq he => ?_
      replace h2 := (he 2 (by decide)).trans h2
      replace h3 := (he 3 (by decide)).trans h3
      replace h7 := (he 7 (by decide)).trans h7
      replace h8 := (he 8 (by decide)).trans h8
      replace HS := hz.trans HS
      clear hz he q26 q27 v26 v27
      have h9 := hq
      clear hq
      refine wpList_nil ?_
      obtain ⟨f, e0, hf⟩ := wash HS
      have f2 := hf 2 _ h2
      have f3 := hf 3 _ h3
      have f7 := hf 7 _ h7
      have f8 := hf 8 _ h8
      have f9 := hf 9 _ h9
      clear hf
      rw [e0.trans (show _ = #[f 0, f 1, f 2, f 3, f 4, f 5, f 6, f 7, f 8, f 9, f 10, f 11, f 12, f 13, f 14, f 15, f 16, f 17, f 18, f 19, f 20, f 21, f 22, f 23, f 24, f 25, f 26, f 27, f 28, f 29, f 30, f 31, f 32, f 33, f 34, f 35, f 36, f 37, f 38, f 39, f 40, f 41, f 42, f 43, f 44, f 45, f 46, f 47, f 48, f 49, f 50] from by kernel_rfl), f2, f3, f7, f8, f9]
      clear f2 f3 f7 f8 f9
      clear e0
      dsimp only
      clear h2 h3 h7 h8 h9 b8 r8 ltM hMB hM HS t1 t0 M
      go_wp2_with ((with_reducible refine guard_list ?_); first | (refine held_load 26 _ rfl ?_) | (refine held_load 22 _ rfl ?_) | (refine held_load 68 _ rfl ?_))
      obtain ⟨M, hM⟩ : ∃ M, M = V2'.heap.size := ⟨_, rfl⟩
      refine hide_held fun t0 HT => ?_
      have HS : t0.size = 51 := by rw [HT]; rfl
      have h2 : t0[2]? = some (.bool true) := by rw [HT]; rfl
      have h3 : t0[3]? = some (.pointer (some ⟨w.heap.size, 0, none⟩)) := by rw [HT]; rfl
      have h7 : t0[7]? = some (.pointer (some ⟨g7, 0, none⟩)) := by rw [HT]; rfl
      have h8 : t0[8]? = some (.pointer (some ⟨g8, 0, none⟩)) := by rw [HT]; rfl
      have h9 : t0[9]? = some (.int .u64 0) := by rw [HT]; rfl
      refine wp_from_all 23 (fun i => [28, 29, 30, 31, 32, 33, 34, 35, 36, 37, 38, 39, 40, 41, 42, 43, 44, 45, 46, 47, 48, 49, 50, 6].getD i 0) (fun i => [(· = .int .u64 0), (· = .bool true), (· = .bool true), (· = .agg (vals zeroL)), (· = .agg (vals zeroL)), (· = .bool true), (· = .bool true), (· = .bool true), (· = .agg (vals La)), (· = .agg (vals WT)), (· = .agg (vals zeroL)), (· = .agg (vals zeroL)), (· = .bool true), (· = .bool true), (· = .bool true), (· = .agg (vals La)), (· = .agg (vals (bytesN pb'.val))), (· = .agg (vals zeroL)), (· = .bool true), (· = .bool true), (· = .bool true), (· = .bool true), (· = .bool true), (· = .bool true)].getD i (fun _ => True)) (fun w' => Own w [(w.heap.size, 32, (· = .agg (vals La))), (g7, 32, (· = .agg (vals WT))), (g8, 32, (· = .agg (vals zeroL)))] w' ∧ M ≤ w'.heap.size)
        3 (by omega) (by kernel_rfl) ?_ (by kernel_rfl) (slots_apart (by kernel_rfl)) (slots_lie (by rw [HS]; kernel_rfl)) ⟨hS, Nat.le_of_eq hM⟩ (fun w1 w2 h b => ⟨h.1.keep b, Nat.le_trans h.2 b.size⟩) ?_ ?_
      · intro j hj
        have hc : j = 0 ∨ j = 1 ∨ j = 2 := by omega
        rcases hc with rfl | rfl | rfl
        · exact ⟨_, by rw [HT]; rfl, rfl⟩
        · exact ⟨_, by rw [HT]; rfl, rfl⟩
        · exact ⟨_, by rw [HT]; rfl, rfl⟩
      · clear hS
        intro i o h0i hi ho
        have hc : i = 3 ∨ i = 4 ∨ i = 5 ∨ i = 6 ∨ i = 7 ∨ i = 8 ∨ i = 9 ∨ i = 10 ∨ i = 11 ∨ i = 12 ∨ i = 13 ∨ i = 14 ∨ i = 15 ∨ i = 16 ∨ i = 17 ∨ i = 18 ∨ i = 19 ∨ i = 20 ∨ i = 21 ∨ i = 22 ∨ i = 23 := by omega
        rcases hc with rfl | rfl | rfl | rfl | rfl | rfl | rfl | rfl | rfl | rfl | rfl | rfl | rfl | rfl | rfl | rfl | rfl | rfl | rfl | rfl | rfl
        · obtain rfl := Option.some.inj ho
          refine ⟨rfl, fun a w' hS hold hin K hK => ?_⟩
          obtain ⟨y2, x2, rfl⟩ := hin 2 rfl (by omega)
          refine if_guard (d := 30) rfl rfl x2 ?_
          exact op_ld_own 32 tKey (.tmp 8) rfl rfl _ (eval_tmp ((hold 8 (slots_not (by kernel_rfl))).trans h8)) hS.1 2 rfl hK
        · obtain rfl := Option.some.inj ho
          refine ⟨rfl, fun a w' hS hold hin K hK => ?_⟩
          obtain ⟨y2, x2, rfl⟩ := hin 2 rfl (by omega)
          refine if_guard (d := 30) rfl rfl x2 ?_
          exact op_val (V := (· = .agg (vals zeroL))) (.agg (vals zeroL)) rfl (by kernel_rfl) rfl hK
        · obtain rfl := Option.some.inj ho
          refine ⟨rfl, fun a w' hS hold hin K hK => ?_⟩
          obtain ⟨y2, x2, rfl⟩ := hin 2 rfl (by omega)
          obtain ⟨y3, x3, rfl⟩ := hin 3 rfl (by omega)
          obtain ⟨y4, x4, rfl⟩ := hin 4 rfl (by omega)
          refine if_guard (d := 30) rfl rfl x2 ?_
          exact op_bin (V := (· = .bool true)) _ _ _ _ _ _ _ (.bool true) rfl rfl (eval_tmp x3) (eval_tmp x4) (fun w => eql_key_same zeroL rfl w) rfl hK
        · obtain rfl := Option.some.inj ho
          refine ⟨rfl, fun a w' hS hold hin K hK => ?_⟩
          obtain ⟨y2, x2, rfl⟩ := hin 2 rfl (by omega)
          obtain ⟨y5, x5, rfl⟩ := hin 5 rfl (by omega)
          refine if_always rfl ?_
          exact op_pick (V := (· = .bool true)) _ _ _ true _ rfl rfl (eval_tmp x2) (show (Act.eval a _) = _ from (eval_tmp x5)) rfl hK
        · obtain rfl := Option.some.inj ho
          refine ⟨rfl, fun a w' hS hold hin K hK => ?_⟩
          obtain ⟨y6, x6, rfl⟩ := hin 6 rfl (by omega)
          refine if_always rfl ?_
          exact op_move (V := (· = .bool true)) _ _ rfl rfl (eval_tmp x6) rfl hK
        · obtain rfl := Option.some.inj ho
          refine ⟨rfl, fun a w' hS hold hin K hK => ?_⟩
          obtain ⟨y7, x7, rfl⟩ := hin 7 rfl (by omega)
          refine if_guard (d := 35) rfl rfl x7 ?_
          exact op_ld_own 32 tKey (.tmp 3) rfl rfl _ (eval_tmp ((hold 3 (slots_not (by kernel_rfl))).trans h3)) hS.1 0 rfl hK
        · obtain rfl := Option.some.inj ho
          refine ⟨rfl, fun a w' hS hold hin K hK => ?_⟩
          obtain ⟨y7, x7, rfl⟩ := hin 7 rfl (by omega)
          refine if_guard (d := 35) rfl rfl x7 ?_
          exact op_ld_own 32 tKey (.tmp 7) rfl rfl _ (eval_tmp ((hold 7 (slots_not (by kernel_rfl))).trans h7)) hS.1 1 rfl hK
        · obtain rfl := Option.some.inj ho
          refine ⟨rfl, fun a w' hS hold hin K hK => ?_⟩
          obtain ⟨y7, x7, rfl⟩ := hin 7 rfl (by omega)
          obtain ⟨y8, x8, rfl⟩ := hin 8 rfl (by omega)
          obtain ⟨y9, x9, rfl⟩ := hin 9 rfl (by omega)
          refine if_guard (d := 35) rfl rfl x7 ?_
          exact op_fn2 _ _ _ _ _ _ rfl rfl (eval_tmp x8) (eval_tmp x9) (by intro args w; kernel_rfl) (mul_zero_key rfl (ladmul_ev La WT va xw 0 _ HLLa.out hbLa HTl.out HTb.out Hhva.out HTn.out Hhpw.out)) hK
        · obtain rfl := Option.some.inj ho
          refine ⟨rfl, fun a w' hS hold hin K hK => ?_⟩
          obtain ⟨y7, x7, rfl⟩ := hin 7 rfl (by omega)
          refine if_guard (d := 35) rfl rfl x7 ?_
          exact op_val (V := (· = .agg (vals zeroL))) (.agg (vals zeroL)) rfl (by kernel_rfl) rfl hK
        · obtain rfl := Option.some.inj ho
          refine ⟨rfl, fun a w' hS hold hin K hK => ?_⟩
          obtain ⟨y7, x7, rfl⟩ := hin 7 rfl (by omega)
          obtain ⟨y10, x10, rfl⟩ := hin 10 rfl (by omega)
          obtain ⟨y11, x11, rfl⟩ := hin 11 rfl (by omega)
          refine if_guard (d := 35) rfl rfl x7 ?_
          exact op_bin (V := (· = .bool true)) _ _ _ _ _ _ _ (.bool true) rfl rfl (eval_tmp x10) (eval_tmp x11) (fun w => eql_key_same zeroL rfl w) rfl hK
        · obtain rfl := Option.some.inj ho
          refine ⟨rfl, fun a w' hS hold hin K hK => ?_⟩
          obtain ⟨y7, x7, rfl⟩ := hin 7 rfl (by omega)
          obtain ⟨y12, x12, rfl⟩ := hin 12 rfl (by omega)
          refine if_always rfl ?_
          exact op_pick (V := (· = .bool true)) _ _ _ true _ rfl rfl (eval_tmp x7) (show (Act.eval a _) = _ from (eval_tmp x12)) rfl hK
        · obtain rfl := Option.some.inj ho
          refine ⟨rfl, fun a w' hS hold hin K hK => ?_⟩
          obtain ⟨y13, x13, rfl⟩ := hin 13 rfl (by omega)
          refine if_always rfl ?_
          exact op_move (V := (· = .bool true)) _ _ rfl rfl (eval_tmp x13) rfl hK
        · obtain rfl := Option.some.inj ho
          refine ⟨rfl, fun a w' hS hold hin K hK => ?_⟩
          obtain ⟨y14, x14, rfl⟩ := hin 14 rfl (by omega)
          refine if_guard (d := 42) rfl rfl x14 ?_
          exact op_ld_own 32 tKey (.tmp 3) rfl rfl _ (eval_tmp ((hold 3 (slots_not (by kernel_rfl))).trans h3)) hS.1 0 rfl hK
        · obtain rfl := Option.some.inj ho
          refine ⟨rfl, fun a w' hS hold hin K hK => ?_⟩
          obtain ⟨y14, x14, rfl⟩ := hin 14 rfl (by omega)
          obtain ⟨y15, x15, rfl⟩ := hin 15 rfl (by omega)
          refine if_guard (d := 42) rfl rfl x14 ?_
          exact op_fn1 _ _ _ _ rfl rfl (eval_tmp x15) (by intro args w; kernel_rfl) (base_any La va pb' _ HLLa.out hbLa Hhva.out Hhpb.out) hK
        · obtain rfl := Option.some.inj ho
          refine ⟨rfl, fun a w' hS hold hin K hK => ?_⟩
          obtain ⟨y14, x14, rfl⟩ := hin 14 rfl (by omega)
          refine if_guard (d := 42) rfl rfl x14 ?_
          exact op_val (V := (· = .agg (vals zeroL))) (.agg (vals zeroL)) rfl (by kernel_rfl) rfl hK
        · obtain rfl := Option.some.inj ho
          refine ⟨rfl, fun a w' hS hold hin K hK => ?_⟩
          obtain ⟨y14, x14, rfl⟩ := hin 14 rfl (by omega)
          obtain ⟨y16, x16, rfl⟩ := hin 16 rfl (by omega)
          obtain ⟨y17, x17, rfl⟩ := hin 17 rfl (by omega)
          refine if_guard (d := 42) rfl rfl x14 ?_
          exact op_bin (V := (· = .bool true)) _ _ _ _ _ _ _ (.bool true) rfl rfl (eval_tmp x16) (eval_tmp x17) (fun w => neq_key_diff (bytesN pb'.val) zeroL (bytesN_len _) rfl w Hhnz.out) rfl hK
        · obtain rfl := Option.some.inj ho
          refine ⟨rfl, fun a w' hS hold hin K hK => ?_⟩
          obtain ⟨y14, x14, rfl⟩ := hin 14 rfl (by omega)
          obtain ⟨y18, x18, rfl⟩ := hin 18 rfl (by omega)
          refine if_always rfl ?_
          exact op_pick (V := (· = .bool true)) _ _ _ true _ rfl rfl (eval_tmp x14) (show (Act.eval a _) = _ from (eval_tmp x18)) rfl hK
        · obtain rfl := Option.some.inj ho
          refine ⟨rfl, fun a w' hS hold hin K hK => ?_⟩
          obtain ⟨y19, x19, rfl⟩ := hin 19 rfl (by omega)
          refine if_always rfl ?_
          exact op_move (V := (· = .bool true)) _ _ rfl rfl (eval_tmp x19) rfl hK
        · obtain rfl := Option.some.inj ho
          refine ⟨rfl, fun a w' hS hold hin K hK => ?_⟩
          obtain ⟨y20, x20, rfl⟩ := hin 20 rfl (by omega)
          refine if_guard (d := 48) rfl rfl x20 ?_
          exact op_fn0 _  _  rfl rfl  (by intro args w; kernel_rfl) (works_any _) hK
        · obtain rfl := Option.some.inj ho
          refine ⟨rfl, fun a w' hS hold hin K hK => ?_⟩
          obtain ⟨y20, x20, rfl⟩ := hin 20 rfl (by omega)
          obtain ⟨y21, x21, rfl⟩ := hin 21 rfl (by omega)
          refine if_always rfl ?_
          exact op_pick (V := (· = .bool true)) _ _ _ true _ rfl rfl (eval_tmp x20) (show (Act.eval a _) = _ from (eval_tmp x21)) rfl hK
        · obtain rfl := Option.some.inj ho
          refine ⟨rfl, fun a w' hS hold hin K hK => ?_⟩
          obtain ⟨y22, x22, rfl⟩ := hin 22 rfl (by omega)
          refine if_always rfl ?_
          exact op_assign (V := (· = .bool true)) _ _ rfl rfl (eval_tmp x22) rfl hK
      clear hS
      intro t1 V3 hs hold hout hS
      replace HS := hs.trans HS
      replace hS := hS.1
      obtain ⟨_, q6, rfl⟩ : ∃ x, t1[6]? = some x ∧ x = (.bool true : Value) := hout 23 (by omega)
      replace h2 := (hold 2 (slots_not (by kernel_rfl))).trans h2
      replace h3 := (hold 3 (slots_not (by kernel_rfl))).trans h3
      replace h7 := (hold 7 (slots_not (by kernel_rfl))).trans h7
      replace h8 := (hold 8 (slots_not (by kernel_rfl))).trans h8
      replace h9 := (hold 9 (slots_not (by kernel_rfl))).trans h9
      clear hold hout hs
      clear HT
      obtain ⟨f, e0, hf⟩ := wash HS
      have f2 := hf 2 _ h2
      have f3 := hf 3 _ h3
      have f7 := hf 7 _ h7
      have f8 := hf 8 _ h8
      have f9 := hf 9 _ h9
      have f6 := hf 6 _ q6
      clear hf
      rw [e0.trans (show _ = #[f 0, f 1, f 2, f 3, f 4, f 5, f 6, f 7, f 8, f 9, f 10, f 11, f 12, f 13, f 14, f 15, f 16, f 17, f 18, f 19, f 20, f 21, f 22, f 23, f 24, f 25, f 26, f 27, f 28, f 29, f 30, f 31, f 32, f 33, f 34, f 35, f 36, f 37, f 38, f 39, f 40, f 41, f 42, f 43, f 44, f 45, f 46, f 47, f 48, f 49, f 50] from by kernel_rfl), f2, f3, f7, f8, f9, f6]
      clear f2 f3 f7 f8 f9 f6
      clear e0
      dsimp only
      clear h2 h3 h7 h8 h9 q6 hM HS t1 t0 M
      go_wp2_with fail
      go_returns
      exact ⟨rfl, hS.1⟩
  · go_wp2_with ((with_reducible refine guard_list ?_); first | (refine held_load 26 _ rfl ?_) | (refine held_load 22 _ rfl ?_) | (refine held_load 68 _ rfl ?_) | (refine held_call _ rfl ?_))
    generalize w.alloc (.cells (vals La) 68) = W0 at hS ⊢
    obtain ⟨WL, hWL⟩ : ∃ L, weakL (ix % 7) = L := ⟨_, rfl⟩
    have hwf := weak_facts (ix % 7) (by omega) (by omega)
    rw [hWL] at hwf
    obtain ⟨va, hva⟩ : ∃ v, cl La = v := ⟨_, rfl⟩
    have a1 := cl_lt HLLa.out hbLa
    have a2 := cl_eight HLLa.out hbLa
    have a3 := cl_pos HLLa.out hbLa
    rw [hva] at a1 a2 a3
    obtain ⟨xw, hxw⟩ : ∃ x, numF WL = x := ⟨_, rfl⟩
    have hpw : prod va xw = 0 := by rw [← hxw]; exact hwf.2.2 va a1 a2
    obtain ⟨pb', hpb⟩ : ∃ r, prod va 9 = r := ⟨_, rfl⟩
    have hnz : bytesN pb'.val ≠ zeroL := by rw [← hpb]; exact bytes_ne_zero (prod_nine a2 a3 a1)
    have hwl := hwf.1
    have hwb := hwf.2.1
    have hwc : ∀ w, Calls Try.prog 55 #[.int .i64 ix] w (Gives (· = .agg (vals WL)) w) := fun w => by rw [← hWL]; exact weak_any ix w (by omega)
    have Hhva := Lib.hid hva
    have Hhxw := Lib.hid hxw
    have Hhpw := Lib.hid hpw
    have Hhpb := Lib.hid hpb
    have Hhnz := Lib.hid hnz
    have Hhwl := Lib.hid hwl
    have Hhwb := Lib.hid hwb
    have Hhwc := Lib.hid hwc
    clear a1 a2 a3 hwf hWL hi0 hi1 hva hxw hpw hpb hnz hwl hwb hwc
    obtain ⟨M, hM⟩ : ∃ M, M = W0.heap.size := ⟨_, rfl⟩
    have hMB : w.heap.size ≤ M := hM ▸ hS.1.size
    have ltM := hS.lt
    rw [← hM] at ltM
    refine hide_held fun t0 HT => ?_
    have HS : t0.size = 51 := by rw [HT]; rfl
    have h2 : t0[2]? = some (.bool high) := by rw [HT]; rfl
    have h3 : t0[3]? = some (.pointer (some ⟨w.heap.size, 0, none⟩)) := by rw [HT]; rfl
    refine wp_from_most 3 (fun i => [15, 16, 7].getD i 0) (fun i => [none, none, some 32].getD i none) (fun i => [(· = .int .i64 ix), (· = .agg (vals WL)), (fun _ => True)].getD i (fun _ => True)) (fun w' => Own w [(w.heap.size, 32, (· = .agg (vals La)))] w' ∧ M ≤ w'.heap.size) M
      1 (by omega) (by kernel_rfl) ?_ (slots_apart (by kernel_rfl)) (slots_lie (by rw [HS]; kernel_rfl)) ⟨hS, Nat.le_of_eq hM⟩ (fun w' h => h.2) (fun w1 w2 h b => ⟨h.1.keep b, Nat.le_trans h.2 b.size⟩) ?_ ?_ ?_
    · intro j hj _
      have hc : j = 0 := by omega
      rcases hc with rfl
      · exact ⟨rfl, _, by rw [HT]; rfl, rfl⟩
    · clear hS
      intro i o h0i hi ho hA
      have hc : i = 1 ∨ i = 2 := by omega
      rcases hc with rfl | rfl
      · obtain rfl := Option.some.inj ho
        refine ⟨rfl, fun a w' hS hold hin K hK => ?_⟩
        obtain ⟨y0, x0, rfl⟩ := hin 0 rfl (by omega) rfl
        refine if_always rfl ?_
        exact op_fn1 _ _ _ _ rfl rfl (eval_tmp x0) (by intro args w; kernel_rfl) (Hhwc.out _) hK
      · cases hA
    · intro i o sz h0i hi ho hA
      have hc : i = 1 ∨ i = 2 := by omega
      rcases hc with rfl | rfl
      · cases hA
      · obtain rfl := Option.some.inj ho
        obtain rfl := Option.some.inj hA
        exact ⟨rfl, rfl, 68, #[.int .u8 0, .int .u8 0, .int .u8 0, .int .u8 0, .int .u8 0, .int .u8 0, .int .u8 0, .int .u8 0, .int .u8 0, .int .u8 0, .int .u8 0, .int .u8 0, .int .u8 0, .int .u8 0, .int .u8 0, .int .u8 0, .int .u8 0, .int .u8 0, .int .u8 0, .int .u8 0, .int .u8 0, .int .u8 0, .int .u8 0, .int .u8 0, .int .u8 0, .int .u8 0, .int .u8 0, .int .u8 0, .int .u8 0, .int .u8 0, .int .u8 0, .int .u8 0], rfl, fun a w' K h => wp_new 68 #[.int .u8 0, .int .u8 0, .int .u8 0, .int .u8 0, .int .u8 0, .int .u8 0, .int .u8 0, .int .u8 0, .int .u8 0, .int .u8 0, .int .u8 0, .int .u8 0, .int .u8 0, .int .u8 0, .int .u8 0, .int .u8 0, .int .u8 0, .int .u8 0, .int .u8 0, .int .u8 0, .int .u8 0, .int .u8 0, .int .u8 0, .int .u8 0, .int .u8 0, .int .u8 0, .int .u8 0, .int .u8 0, .int .u8 0, .int .u8 0, .int .u8 0, .int .u8 0] (fun w => by kernel_rfl) h⟩
    clear hS
    intro t1 V1 hs hold hout hall hne hS
    replace HS := hs.trans HS
    replace hS := hS.1
    obtain ⟨g7, h7, b7, r7⟩ : ∃ g, t1[7]? = some (.pointer (some ⟨g, 0, none⟩)) ∧ M ≤ g ∧ ∃ cs ty, V1.heap[g]? = some (.cells cs ty (0, 0)) ∧ cs.size = 32 := by
      obtain ⟨g, p1, p2, ty, cs, p3, p4⟩ := hall 2 (by omega) 32 rfl
      exact ⟨g, p1, p2, cs, ty, p3, p4⟩
    replace hS : Own w [(w.heap.size, 32, (· = .agg (vals La))), (g7, 32, (fun _ => True))] V1 := hS.add (Nat.le_trans hMB b7) (fun r hr => Nat.ne_of_lt (Nat.lt_of_lt_of_le (ltM r hr) b7)) (Own.any r7)
    obtain ⟨x16, q16, v16⟩ : ∃ x, t1[16]? = some x ∧ ((· = .agg (vals WL))) x := hout 1 (by omega) rfl
    replace h2 := (hold 2 (slots_not (by kernel_rfl))).trans h2
    replace h3 := (hold 3 (slots_not (by kernel_rfl))).trans h3
    clear hold hout hs hall hne
    simp only [List.drop_succ_cons, List.drop_zero]
    refine st_own 32 tKey rfl (.tmp 7) (.tmp 16) rfl rfl _ _ (eval_tmp h7) (eval_tmp q16) (V' := (· = .agg (vals WL))) v16 (by_row Hhwl.out) hS 1 rfl fun V1' hS' _ => ?_
    replace hS : Own w [(w.heap.size, 32, (· = .agg (vals La))), (g7, 32, (· = .agg (vals WL)))] V1' := hS'
    clear hS'
    refine wpList_nil ?_
    clear HT
    obtain ⟨f, e0, hf⟩ := wash HS
    have f2 := hf 2 _ h2
    have f3 := hf 3 _ h3
    have f7 := hf 7 _ h7
    clear hf
    rw [e0.trans (show _ = #[f 0, f 1, f 2, f 3, f 4, f 5, f 6, f 7, f 8, f 9, f 10, f 11, f 12, f 13, f 14, f 15, f 16, f 17, f 18, f 19, f 20, f 21, f 22, f 23, f 24, f 25, f 26, f 27, f 28, f 29, f 30, f 31, f 32, f 33, f 34, f 35, f 36, f 37, f 38, f 39, f 40, f 41, f 42, f 43, f 44, f 45, f 46, f 47, f 48, f 49, f 50] from by kernel_rfl), f2, f3, f7]
    clear f2 f3 f7
    clear e0
    dsimp only
    clear h2 h3 h7 q16 v16 b7 r7 ltM hMB hM HS t1 t0 M
    cases high with
    | false =>
      go_wp2_with ((with_reducible refine guard_list ?_); first | (refine held_load 26 _ rfl ?_) | (refine held_load 22 _ rfl ?_) | (refine held_load 68 _ rfl ?_))
      obtain ⟨M, hM⟩ : ∃ M, M = V1'.heap.size := ⟨_, rfl⟩
      have hMB : w.heap.size ≤ M := hM ▸ hS.1.size
      have ltM := hS.lt
      rw [← hM] at ltM
      refine hide_held fun t0 HT => ?_
      have HS : t0.size = 51 := by rw [HT]; rfl
      have h2 : t0[2]? = some (.bool false) := by rw [HT]; rfl
      have h3 : t0[3]? = some (.pointer (some ⟨w.heap.size, 0, none⟩)) := by rw [HT]; rfl
      have h7 : t0[7]? = some (.pointer (some ⟨g7, 0, none⟩)) := by rw [HT]; rfl
      clear HT
      refine wp_list_most 7 (fun i => [23, 24, 25, 22, 26, 27, 8].getD i 0) (fun i => [none, none, none, none, none, none, some 32].getD i none) (fun i => [(· = .agg (vals La)), (· = .agg (vals WL)), (· = .tuple #[.agg (vals zeroL), .int .u64 0]), (· = .tuple #[.agg (vals zeroL), .int .u64 0]), (· = .agg (vals zeroL)), (· = .int .u64 0), (fun _ => True)].getD i (fun _ => True)) (fun w' => Own w [(w.heap.size, 32, (· = .agg (vals La))), (g7, 32, (· = .agg (vals WL)))] w' ∧ M ≤ w'.heap.size) M
        (by kernel_rfl) (slots_apart (by kernel_rfl)) (slots_lie (by rw [HS]; kernel_rfl)) ⟨hS, Nat.le_of_eq hM⟩ (fun w' h => h.2) (fun w1 w2 h b => ⟨h.1.keep b, Nat.le_trans h.2 b.size⟩) ?_ ?_ ?_
      · clear hS
        intro i o hi ho hA
        have hc : i = 0 ∨ i = 1 ∨ i = 2 ∨ i = 3 ∨ i = 4 ∨ i = 5 ∨ i = 6 := by omega
        rcases hc with rfl | rfl | rfl | rfl | rfl | rfl | rfl
        · obtain rfl := Option.some.inj ho
          refine ⟨rfl, fun a w' hS hold hin K hK => ?_⟩
          refine if_always rfl ?_
          exact op_ld_own 32 tKey (.tmp 3) rfl rfl _ (eval_tmp ((hold 3 (slots_not (by kernel_rfl))).trans h3)) hS.1 0 rfl hK
        · obtain rfl := Option.some.inj ho
          refine ⟨rfl, fun a w' hS hold hin K hK => ?_⟩
          refine if_always rfl ?_
          exact op_ld_own 32 tKey (.tmp 7) rfl rfl _ (eval_tmp ((hold 7 (slots_not (by kernel_rfl))).trans h7)) hS.1 1 rfl hK
        · obtain rfl := Option.some.inj ho
          refine ⟨rfl, fun a w' hS hold hin K hK => ?_⟩
          obtain ⟨y0, x0, rfl⟩ := hin 0 rfl (by omega) rfl
          obtain ⟨y1, x1, rfl⟩ := hin 1 rfl (by omega) rfl
          refine if_always rfl ?_
          exact op_fn2 _ _ _ _ _ _ rfl rfl (eval_tmp x0) (eval_tmp x1) (by intro args w; kernel_rfl) (agree_zero rfl (agree_any La WL va xw 0 _ HLLa.out hbLa Hhwl.out Hhwb.out Hhva.out Hhxw.out Hhpw.out)) hK
        · obtain rfl := Option.some.inj ho
          refine ⟨rfl, fun a w' hS hold hin K hK => ?_⟩
          obtain ⟨y2, x2, rfl⟩ := hin 2 rfl (by omega) rfl
          refine if_always rfl ?_
          exact op_move (V := (· = .tuple #[.agg (vals zeroL), .int .u64 0])) _ _ rfl rfl (eval_tmp x2) rfl hK
        · obtain rfl := Option.some.inj ho
          refine ⟨rfl, fun a w' hS hold hin K hK => ?_⟩
          obtain ⟨y3, x3, rfl⟩ := hin 3 rfl (by omega) rfl
          refine if_always rfl ?_
          exact op_tup0 (V := (· = .agg (vals zeroL))) _ rfl rfl (eval_tmp x3) rfl hK
        · obtain rfl := Option.some.inj ho
          refine ⟨rfl, fun a w' hS hold hin K hK => ?_⟩
          obtain ⟨y3, x3, rfl⟩ := hin 3 rfl (by omega) rfl
          refine if_always rfl ?_
          exact op_tup1 (V := (· = .int .u64 0)) _ rfl rfl (eval_tmp x3) rfl hK
        · cases hA
      · intro i o sz hi ho hA
        have hc : i = 0 ∨ i = 1 ∨ i = 2 ∨ i = 3 ∨ i = 4 ∨ i = 5 ∨ i = 6 := by omega
        rcases hc with rfl | rfl | rfl | rfl | rfl | rfl | rfl
        · cases hA
        · cases hA
        · cases hA
        · cases hA
        · cases hA
        · cases hA
        · obtain rfl := Option.some.inj ho
          obtain rfl := Option.some.inj hA
          exact ⟨rfl, rfl, 68, #[.int .u8 0, .int .u8 0, .int .u8 0, .int .u8 0, .int .u8 0, .int .u8 0, .int .u8 0, .int .u8 0, .int .u8 0, .int .u8 0, .int .u8 0, .int .u8 0, .int .u8 0, .int .u8 0, .int .u8 0, .int .u8 0, .int .u8 0, .int .u8 0, .int .u8 0, .int .u8 0, .int .u8 0, .int .u8 0, .int .u8 0, .int .u8 0, .int .u8 0, .int .u8 0, .int .u8 0, .int .u8 0, .int .u8 0, .int .u8 0, .int .u8 0, .int .u8 0], rfl, fun a w' K h => wp_new 68 #[.int .u8 0, .int .u8 0, .int .u8 0, .int .u8 0, .int .u8 0, .int .u8 0, .int .u8 0, .int .u8 0, .int .u8 0, .int .u8 0, .int .u8 0, .int .u8 0, .int .u8 0, .int .u8 0, .int .u8 0, .int .u8 0, .int .u8 0, .int .u8 0, .int .u8 0, .int .u8 0, .int .u8 0, .int .u8 0, .int .u8 0, .int .u8 0, .int .u8 0, .int .u8 0, .int .u8 0, .int .u8 0, .int .u8 0, .int .u8 0, .int .u8 0, .int .u8 0] (fun w => by kernel_rfl) h⟩
      clear hS
      intro t1 V2 hs hold hout hall hne hS
      replace HS := hs.trans HS
      replace hS := hS.1
      obtain ⟨g8, h8, b8, r8⟩ : ∃ g, t1[8]? = some (.pointer (some ⟨g, 0, none⟩)) ∧ M ≤ g ∧ ∃ cs ty, V2.heap[g]? = some (.cells cs ty (0, 0)) ∧ cs.size = 32 := by
        obtain ⟨g, p1, p2, ty, cs, p3, p4⟩ := hall 6 (by omega) 32 rfl
        exact ⟨g, p1, p2, cs, ty, p3, p4⟩
      replace hS : Own w [(w.heap.size, 32, (· = .agg (vals La))), (g7, 32, (· = .agg (vals WL))), (g8, 32, (fun _ => True))] V2 := hS.add (Nat.le_trans hMB b8) (fun r hr => Nat.ne_of_lt (Nat.lt_of_lt_of_le (ltM r hr) b8)) (Own.any r8)
      obtain ⟨x26, q26, v26⟩ : ∃ x, t1[26]? = some x ∧ ((· = .agg (vals zeroL))) x := hout 4 (by omega) rfl
      obtain ⟨x27, q27, v27⟩ : ∃ x, t1[27]? = some x ∧ ((· = .int .u64 0)) x := hout 5 (by omega) rfl
      replace q27 : t1[27]? = some (.int .u64 0) := q27.trans (congrArg some v27)
      replace h2 := (hold 2 (slots_not (by kernel_rfl))).trans h2
      replace h3 := (hold 3 (slots_not (by kernel_rfl))).trans h3
      replace h7 := (hold 7 (slots_not (by kernel_rfl))).trans h7
      clear hold hout hs hall hne
      simp only [List.drop_succ_cons, List.drop_zero]
      refine st_own 32 tKey rfl (.tmp 8) (.tmp 26) rfl rfl _ _ (eval_tmp h8) (eval_tmp q26) (V' := (· = .agg (vals zeroL))) v26 (by_row rfl) hS 2 rfl fun V2' hS' _ => ?_
      replace hS : Own w [(w.heap.size, 32, (· = .agg (vals La))), (g7, 32, (· = .agg (vals WL))), (g8, 32, (· = .agg (vals zeroL)))] V2' := hS'
      clear hS'
      refine tl_assign rfl (.tmp 27) rfl 9 rfl (by rw [HS]; decide) _ (eval_tmp q27) fun t1 hz hq he => ?_
      replace h2 := (he 2 (by decide)).trans h2
      replace h3 := (he 3 (by decide)).trans h3
      replace h7 := (he 7 (by decide)).trans h7
      replace h8 := (he 8 (by decide)).trans h8
      replace HS := hz.trans HS
      clear hz he q26 q27 v26 v27
      have h9 := hq
      clear hq
      refine wpList_nil ?_
      obtain ⟨f, e0, hf⟩ := wash HS
      have f2 := hf 2 _ h2
      have f3 := hf 3 _ h3
      have f7 := hf 7 _ h7
      have f8 := hf 8 _ h8
      have f9 := hf 9 _ h9
      clear hf
      rw [e0.trans (show _ = #[f 0, f 1, f 2, f 3, f 4, f 5, f 6, f 7, f 8, f 9, f 10, f 11, f 12, f 13, f 14, f 15, f 16, f 17, f 18, f 19, f 20, f 21, f 22, f 23, f 24, f 25, f 26, f 27, f 28, f 29, f 30, f 31, f 32, f 33, f 34, f 35, f 36, f 37, f 38, f 39, f 40, f 41, f 42, f 43, f 44, f 45, f 46, f 47, f 48, f 49, f 50] from by kernel_rfl), f2, f3, f7, f8, f9]
      clear f2 f3 f7 f8 f9
      clear e0
      dsimp only
      clear h2 h3 h7 h8 h9 b8 r8 ltM hMB hM HS t1 t0 M
      go_wp2_with ((with_reducible refine guard_list ?_); first | (refine held_load 26 _ rfl ?_) | (refine held_load 22 _ rfl ?_) | (refine held_load 68 _ rfl ?_))
      obtain ⟨M, hM⟩ : ∃ M, M = V2'.heap.size := ⟨_, rfl⟩
      refine hide_held fun t0 HT => ?_
      have HS : t0.size = 51 := by rw [HT]; rfl
      have h2 : t0[2]? = some (.bool false) := by rw [HT]; rfl
      have h3 : t0[3]? = some (.pointer (some ⟨w.heap.size, 0, none⟩)) := by rw [HT]; rfl
      have h7 : t0[7]? = some (.pointer (some ⟨g7, 0, none⟩)) := by rw [HT]; rfl
      have h8 : t0[8]? = some (.pointer (some ⟨g8, 0, none⟩)) := by rw [HT]; rfl
      have h9 : t0[9]? = some (.int .u64 0) := by rw [HT]; rfl
      refine wp_from_all 23 (fun i => [28, 29, 30, 31, 32, 33, 34, 35, 36, 37, 38, 39, 40, 41, 42, 43, 44, 45, 46, 47, 48, 49, 50, 6].getD i 0) (fun i => [(· = .int .u64 0), (· = .bool true), (· = .bool true), (· = .agg (vals zeroL)), (· = .agg (vals zeroL)), (· = .bool true), (· = .bool true), (· = .bool true), (· = .agg (vals La)), (· = .agg (vals WL)), (· = .agg (vals zeroL)), (· = .agg (vals zeroL)), (· = .bool true), (· = .bool true), (· = .bool true), (· = .agg (vals La)), (· = .agg (vals (bytesN pb'.val))), (· = .agg (vals zeroL)), (· = .bool true), (· = .bool true), (· = .bool true), (· = .bool true), (· = .bool true), (· = .bool true)].getD i (fun _ => True)) (fun w' => Own w [(w.heap.size, 32, (· = .agg (vals La))), (g7, 32, (· = .agg (vals WL))), (g8, 32, (· = .agg (vals zeroL)))] w' ∧ M ≤ w'.heap.size)
        3 (by omega) (by kernel_rfl) ?_ (by kernel_rfl) (slots_apart (by kernel_rfl)) (slots_lie (by rw [HS]; kernel_rfl)) ⟨hS, Nat.le_of_eq hM⟩ (fun w1 w2 h b => ⟨h.1.keep b, Nat.le_trans h.2 b.size⟩) ?_ ?_
      · intro j hj
        have hc : j = 0 ∨ j = 1 ∨ j = 2 := by omega
        rcases hc with rfl | rfl | rfl
        · exact ⟨_, by rw [HT]; rfl, rfl⟩
        · exact ⟨_, by rw [HT]; rfl, rfl⟩
        · exact ⟨_, by rw [HT]; rfl, rfl⟩
      · clear hS
        intro i o h0i hi ho
        have hc : i = 3 ∨ i = 4 ∨ i = 5 ∨ i = 6 ∨ i = 7 ∨ i = 8 ∨ i = 9 ∨ i = 10 ∨ i = 11 ∨ i = 12 ∨ i = 13 ∨ i = 14 ∨ i = 15 ∨ i = 16 ∨ i = 17 ∨ i = 18 ∨ i = 19 ∨ i = 20 ∨ i = 21 ∨ i = 22 ∨ i = 23 := by omega
        rcases hc with rfl | rfl | rfl | rfl | rfl | rfl | rfl | rfl | rfl | rfl | rfl | rfl | rfl | rfl | rfl | rfl | rfl | rfl | rfl | rfl | rfl
        · obtain rfl := Option.some.inj ho
          refine ⟨rfl, fun a w' hS hold hin K hK => ?_⟩
          obtain ⟨y2, x2, rfl⟩ := hin 2 rfl (by omega)
          refine if_guard (d := 30) rfl rfl x2 ?_
          exact op_ld_own 32 tKey (.tmp 8) rfl rfl _ (eval_tmp ((hold 8 (slots_not (by kernel_rfl))).trans h8)) hS.1 2 rfl hK
        · obtain rfl := Option.some.inj ho
          refine ⟨rfl, fun a w' hS hold hin K hK => ?_⟩
          obtain ⟨y2, x2, rfl⟩ := hin 2 rfl (by omega)
          refine if_guard (d := 30) rfl rfl x2 ?_
          exact op_val (V := (· = .agg (vals zeroL))) (.agg (vals zeroL)) rfl (by kernel_rfl) rfl hK
        · obtain rfl := Option.some.inj ho
          refine ⟨rfl, fun a w' hS hold hin K hK => ?_⟩
          obtain ⟨y2, x2, rfl⟩ := hin 2 rfl (by omega)
          obtain ⟨y3, x3, rfl⟩ := hin 3 rfl (by omega)
          obtain ⟨y4, x4, rfl⟩ := hin 4 rfl (by omega)
          refine if_guard (d := 30) rfl rfl x2 ?_
          exact op_bin (V := (· = .bool true)) _ _ _ _ _ _ _ (.bool true) rfl rfl (eval_tmp x3) (eval_tmp x4) (fun w => eql_key_same zeroL rfl w) rfl hK
        · obtain rfl := Option.some.inj ho
          refine ⟨rfl, fun a w' hS hold hin K hK => ?_⟩
          obtain ⟨y2, x2, rfl⟩ := hin 2 rfl (by omega)
          obtain ⟨y5, x5, rfl⟩ := hin 5 rfl (by omega)
          refine if_always rfl ?_
          exact op_pick (V := (· = .bool true)) _ _ _ true _ rfl rfl (eval_tmp x2) (show (Act.eval a _) = _ from (eval_tmp x5)) rfl hK
        · obtain rfl := Option.some.inj ho
          refine ⟨rfl, fun a w' hS hold hin K hK => ?_⟩
          obtain ⟨y6, x6, rfl⟩ := hin 6 rfl (by omega)
          refine if_always rfl ?_
          exact op_move (V := (· = .bool true)) _ _ rfl rfl (eval_tmp x6) rfl hK
        · obtain rfl := Option.some.inj ho
          refine ⟨rfl, fun a w' hS hold hin K hK => ?_⟩
          obtain ⟨y7, x7, rfl⟩ := hin 7 rfl (by omega)
          refine if_guard (d := 35) rfl rfl x7 ?_
          exact op_ld_own 32 tKey (.tmp 3) rfl rfl _ (eval_tmp ((hold 3 (slots_not (by kernel_rfl))).trans h3)) hS.1 0 rfl hK
        · obtain rfl := Option.some.inj ho
          refine ⟨rfl, fun a w' hS hold hin K hK => ?_⟩
          obtain ⟨y7, x7, rfl⟩ := hin 7 rfl (by omega)
          refine if_guard (d := 35) rfl rfl x7 ?_
          exact op_ld_own 32 tKey (.tmp 7) rfl rfl _ (eval_tmp ((hold 7 (slots_not (by kernel_rfl))).trans h7)) hS.1 1 rfl hK
        · obtain rfl := Option.some.inj ho
          refine ⟨rfl, fun a w' hS hold hin K hK => ?_⟩
          obtain ⟨y7, x7, rfl⟩ := hin 7 rfl (by omega)
          obtain ⟨y8, x8, rfl⟩ := hin 8 rfl (by omega)
          obtain ⟨y9, x9, rfl⟩ := hin 9 rfl (by omega)
          refine if_guard (d := 35) rfl rfl x7 ?_
          exact op_fn2 _ _ _ _ _ _ rfl rfl (eval_tmp x8) (eval_tmp x9) (by intro args w; kernel_rfl) (mul_zero_key rfl (ladmul_ev La WL va xw 0 _ HLLa.out hbLa Hhwl.out Hhwb.out Hhva.out Hhxw.out Hhpw.out)) hK
        · obtain rfl := Option.some.inj ho
          refine ⟨rfl, fun a w' hS hold hin K hK => ?_⟩
          obtain ⟨y7, x7, rfl⟩ := hin 7 rfl (by omega)
          refine if_guard (d := 35) rfl rfl x7 ?_
          exact op_val (V := (· = .agg (vals zeroL))) (.agg (vals zeroL)) rfl (by kernel_rfl) rfl hK
        · obtain rfl := Option.some.inj ho
          refine ⟨rfl, fun a w' hS hold hin K hK => ?_⟩
          obtain ⟨y7, x7, rfl⟩ := hin 7 rfl (by omega)
          obtain ⟨y10, x10, rfl⟩ := hin 10 rfl (by omega)
          obtain ⟨y11, x11, rfl⟩ := hin 11 rfl (by omega)
          refine if_guard (d := 35) rfl rfl x7 ?_
          exact op_bin (V := (· = .bool true)) _ _ _ _ _ _ _ (.bool true) rfl rfl (eval_tmp x10) (eval_tmp x11) (fun w => eql_key_same zeroL rfl w) rfl hK
        · obtain rfl := Option.some.inj ho
          refine ⟨rfl, fun a w' hS hold hin K hK => ?_⟩
          obtain ⟨y7, x7, rfl⟩ := hin 7 rfl (by omega)
          obtain ⟨y12, x12, rfl⟩ := hin 12 rfl (by omega)
          refine if_always rfl ?_
          exact op_pick (V := (· = .bool true)) _ _ _ true _ rfl rfl (eval_tmp x7) (show (Act.eval a _) = _ from (eval_tmp x12)) rfl hK
        · obtain rfl := Option.some.inj ho
          refine ⟨rfl, fun a w' hS hold hin K hK => ?_⟩
          obtain ⟨y13, x13, rfl⟩ := hin 13 rfl (by omega)
          refine if_always rfl ?_
          exact op_move (V := (· = .bool true)) _ _ rfl rfl (eval_tmp x13) rfl hK
        · obtain rfl := Option.some.inj ho
          refine ⟨rfl, fun a w' hS hold hin K hK => ?_⟩
          obtain ⟨y14, x14, rfl⟩ := hin 14 rfl (by omega)
          refine if_guard (d := 42) rfl rfl x14 ?_
          exact op_ld_own 32 tKey (.tmp 3) rfl rfl _ (eval_tmp ((hold 3 (slots_not (by kernel_rfl))).trans h3)) hS.1 0 rfl hK
        · obtain rfl := Option.some.inj ho
          refine ⟨rfl, fun a w' hS hold hin K hK => ?_⟩
          obtain ⟨y14, x14, rfl⟩ := hin 14 rfl (by omega)
          obtain ⟨y15, x15, rfl⟩ := hin 15 rfl (by omega)
          refine if_guard (d := 42) rfl rfl x14 ?_
          exact op_fn1 _ _ _ _ rfl rfl (eval_tmp x15) (by intro args w; kernel_rfl) (base_any La va pb' _ HLLa.out hbLa Hhva.out Hhpb.out) hK
        · obtain rfl := Option.some.inj ho
          refine ⟨rfl, fun a w' hS hold hin K hK => ?_⟩
          obtain ⟨y14, x14, rfl⟩ := hin 14 rfl (by omega)
          refine if_guard (d := 42) rfl rfl x14 ?_
          exact op_val (V := (· = .agg (vals zeroL))) (.agg (vals zeroL)) rfl (by kernel_rfl) rfl hK
        · obtain rfl := Option.some.inj ho
          refine ⟨rfl, fun a w' hS hold hin K hK => ?_⟩
          obtain ⟨y14, x14, rfl⟩ := hin 14 rfl (by omega)
          obtain ⟨y16, x16, rfl⟩ := hin 16 rfl (by omega)
          obtain ⟨y17, x17, rfl⟩ := hin 17 rfl (by omega)
          refine if_guard (d := 42) rfl rfl x14 ?_
          exact op_bin (V := (· = .bool true)) _ _ _ _ _ _ _ (.bool true) rfl rfl (eval_tmp x16) (eval_tmp x17) (fun w => neq_key_diff (bytesN pb'.val) zeroL (bytesN_len _) rfl w Hhnz.out) rfl hK
        · obtain rfl := Option.some.inj ho
          refine ⟨rfl, fun a w' hS hold hin K hK => ?_⟩
          obtain ⟨y14, x14, rfl⟩ := hin 14 rfl (by omega)
          obtain ⟨y18, x18, rfl⟩ := hin 18 rfl (by omega)
          refine if_always rfl ?_
          exact op_pick (V := (· = .bool true)) _ _ _ true _ rfl rfl (eval_tmp x14) (show (Act.eval a _) = _ from (eval_tmp x18)) rfl hK
        · obtain rfl := Option.some.inj ho
          refine ⟨rfl, fun a w' hS hold hin K hK => ?_⟩
          obtain ⟨y19, x19, rfl⟩ := hin 19 rfl (by omega)
          refine if_always rfl ?_
          exact op_move (V := (· = .bool true)) _ _ rfl rfl (eval_tmp x19) rfl hK
        · obtain rfl := Option.some.inj ho
          refine ⟨rfl, fun a w' hS hold hin K hK => ?_⟩
          obtain ⟨y20, x20, rfl⟩ := hin 20 rfl (by omega)
          refine if_guard (d := 48) rfl rfl x20 ?_
          exact op_fn0 _  _  rfl rfl  (by intro args w; kernel_rfl) (works_any _) hK
        · obtain rfl := Option.some.inj ho
          refine ⟨rfl, fun a w' hS hold hin K hK => ?_⟩
          obtain ⟨y20, x20, rfl⟩ := hin 20 rfl (by omega)
          obtain ⟨y21, x21, rfl⟩ := hin 21 rfl (by omega)
          refine if_always rfl ?_
          exact op_pick (V := (· = .bool true)) _ _ _ true _ rfl rfl (eval_tmp x20) (show (Act.eval a _) = _ from (eval_tmp x21)) rfl hK
        · obtain rfl := Option.some.inj ho
          refine ⟨rfl, fun a w' hS hold hin K hK => ?_⟩
          obtain ⟨y22, x22, rfl⟩ := hin 22 rfl (by omega)
          refine if_always rfl ?_
          exact op_assign (V := (· = .bool true)) _ _ rfl rfl (eval_tmp x22) rfl hK
      clear hS
      intro t1 V3 hs hold hout hS
      replace HS := hs.trans HS
      replace hS := hS.1
      obtain ⟨_, q6, rfl⟩ : ∃ x, t1[6]? = some x ∧ x = (.bool true : Value) := hout 23 (by omega)
      replace h2 := (hold 2 (slots_not (by kernel_rfl))).trans h2
      replace h3 := (hold 3 (slots_not (by kernel_rfl))).trans h3
      replace h7 := (hold 7 (slots_not (by kernel_rfl))).trans h7
      replace h8 := (hold 8 (slots_not (by kernel_rfl))).trans h8
      replace h9 := (hold 9 (slots_not (by kernel_rfl))).trans h9
      clear hold hout hs
      clear HT
      obtain ⟨f, e0, hf⟩ := wash HS
      have f2 := hf 2 _ h2
      have f3 := hf 3 _ h3
      have f7 := hf 7 _ h7
      have f8 := hf 8 _ h8
      have f9 := hf 9 _ h9
      have f6 := hf 6 _ q6
      clear hf
      rw [e0.trans (show _ = #[f 0, f 1, f 2, f 3, f 4, f 5, f 6, f 7, f 8, f 9, f 10, f 11, f 12, f 13, f 14, f 15, f 16, f 17, f 18, f 19, f 20, f 21, f 22, f 23, f 24, f 25, f 26, f 27, f 28, f 29, f 30, f 31, f 32, f 33, f 34, f 35, f 36, f 37, f 38, f 39, f 40, f 41, f 42, f 43, f 44, f 45, f 46, f 47, f 48, f 49, f 50] from by kernel_rfl), f2, f3, f7, f8, f9, f6]
      clear f2 f3 f7 f8 f9 f6
      clear e0
      dsimp only
      clear h2 h3 h7 h8 h9 q6 hM HS t1 t0 M
      go_wp2_with fail
      go_returns
      exact ⟨rfl, hS.1⟩
    | true =>
      obtain ⟨t7, R7⟩ := hS.bytes (i := 1) rfl
      have c31 := (row_cell R7 31).trans (vals_get (by rw [Hhwl.out]; omega))
      have fc := row_free R7 31
      have HS0 := Lib.hid hS
      clear hS R7
      have hx := Hhwb.out.nth 31
      obtain ⟨x31, hx31⟩ : ∃ x, nth WL 31 = x := ⟨_, rfl⟩
      rw [hx31] at c31 hx
      have ho := or128 x31 hx.1 hx.2
      have HO := Lib.hid ho
      have HX31 := Lib.hid hx31
      clear ho hx31
      go_wp2_with ((with_reducible refine guard_list ?_); first | (refine held_load 26 _ rfl ?_) | (refine held_load 22 _ rfl ?_) | (refine held_load 68 _ rfl ?_))
      have hS := HS0.out.byte (i := 1) rfl 31 (bits .or .u8 x31 128)
      have hTl : (WL.set 31 (bits .or .u8 x31 128)).length = 32 := by rw [List.length_set, Hhwl.out]
      have hTb : Byt (WL.set 31 (bits .or .u8 x31 128)) := byt_set Hhwb.out _ _ HO.out.1
      have hTn : numF (WL.set 31 (bits .or .u8 x31 128)) = xw := by rw [numF_top WL _ Hhwl.out Hhwb.out HO.out.1 (by rw [HO.out.2, HX31.out]), Hhxw.out]
      generalize V1'.setCell ⟨g7, 31, none⟩ (.int .u8 (bits .or .u8 x31 128)) = WC at hS ⊢
      generalize WL.set 31 (bits .or .u8 x31 128) = WT at hS hTl hTb hTn
      have HTl := Lib.hid hTl
      have HTb := Lib.hid hTb
      have HTn := Lib.hid hTn
      clear hTl hTb hTn HS0 c31 fc hx
      replace hS : Own w [(w.heap.size, 32, (· = .agg (vals La))), (g7, 32, (· = .agg (vals WT)))] WC := hS
      obtain ⟨M, hM⟩ : ∃ M, M = WC.heap.size := ⟨_, rfl⟩
      have hMB : w.heap.size ≤ M := hM ▸ hS.1.size
      have ltM := hS.lt
      rw [← hM] at ltM
      refine hide_held fun t0 HT => ?_
      have HS : t0.size = 51 := by rw [HT]; rfl
      have h2 : t0[2]? = some (.bool true) := by rw [HT]; rfl
      have h3 : t0[3]? = some (.pointer (some ⟨w.heap.size, 0, none⟩)) := by rw [HT]; rfl
      have h7 : t0[7]? = some (.pointer (some ⟨g7, 0, none⟩)) := by rw [HT]; rfl
      clear HT
      refine wp_list_most 7 (fun i => [23, 24, 25, 22, 26, 27, 8].getD i 0) (fun i => [none, none, none, none, none, none, some 32].getD i none) (fun i => [(· = .agg (vals La)), (· = .agg (vals WT)), (· = .tuple #[.agg (vals zeroL), .int .u64 0]), (· = .tuple #[.agg (vals zeroL), .int .u64 0]), (· = .agg (vals zeroL)), (· = .int .u64 0), (fun _ => True)].getD i (fun _ => True)) (fun w' => Own w [(w.heap.size, 32, (· = .agg (vals La))), (g7, 32, (· = .agg (vals WT)))] w' ∧ M ≤ w'.heap.size) M
        (by kernel_rfl) (slots_apart (by kernel_rfl)) (slots_lie (by rw [HS]; kernel_rfl)) ⟨hS, Nat.le_of_eq hM⟩ (fun w' h => h.2) (fun w1 w2 h b => ⟨h.1.keep b, Nat.le_trans h.2 b.size⟩) ?_ ?_ ?_
      · clear hS
        intro i o hi ho hA
        have hc : i = 0 ∨ i = 1 ∨ i = 2 ∨ i = 3 ∨ i = 4 ∨ i = 5 ∨ i = 6 := by omega
        rcases hc with rfl | rfl | rfl | rfl | rfl | rfl | rfl
        · obtain rfl := Option.some.inj ho
          refine ⟨rfl, fun a w' hS hold hin K hK => ?_⟩
          refine if_always rfl ?_
          exact op_ld_own 32 tKey (.tmp 3) rfl rfl _ (eval_tmp ((hold 3 (slots_not (by kernel_rfl))).trans h3)) hS.1 0 rfl hK
        · obtain rfl := Option.some.inj ho
          refine ⟨rfl, fun a w' hS hold hin K hK => ?_⟩
          refine if_always rfl ?_
          exact op_ld_own 32 tKey (.tmp 7) rfl rfl _ (eval_tmp ((hold 7 (slots_not (by kernel_rfl))).trans h7)) hS.1 1 rfl hK
        · obtain rfl := Option.some.inj ho
          refine ⟨rfl, fun a w' hS hold hin K hK => ?_⟩
          obtain ⟨y0, x0, rfl⟩ := hin 0 rfl (by omega) rfl
          obtain ⟨y1, x1, rfl⟩ := hin 1 rfl (by omega) rfl
          refine if_always rfl ?_
          exact op_fn2 _ _ _ _ _ _ rfl rfl (eval_tmp x0) (eval_tmp x1) (by intro args w; kernel_rfl) (agree_zero rfl (agree_any La WT va xw 0 _ HLLa.out hbLa HTl.out HTb.out Hhva.out HTn.out Hhpw.out)) hK
        · obtain rfl := Option.some.inj ho
          refine ⟨rfl, fun a w' hS hold hin K hK => ?_⟩
          obtain ⟨y2, x2, rfl⟩ := hin 2 rfl (by omega) rfl
          refine if_always rfl ?_
          exact op_move (V := (· = .tuple #[.agg (vals zeroL), .int .u64 0])) _ _ rfl rfl (eval_tmp x2) rfl hK
        · obtain rfl := Option.some.inj ho
          refine ⟨rfl, fun a w' hS hold hin K hK => ?_⟩
          obtain ⟨y3, x3, rfl⟩ := hin 3 rfl (by omega) rfl
          refine if_always rfl ?_
          exact op_tup0 (V := (· = .agg (vals zeroL))) _ rfl rfl (eval_tmp x3) rfl hK
        · obtain rfl := Option.some.inj ho
          refine ⟨rfl, fun a w' hS hold hin K hK => ?_⟩
          obtain ⟨y3, x3, rfl⟩ := hin 3 rfl (by omega) rfl
          refine if_always rfl ?_
          exact op_tup1 (V := (· = .int .u64 0)) _ rfl rfl (eval_tmp x3) rfl hK
        · cases hA
      · intro i o sz hi ho hA
        have hc : i = 0 ∨ i = 1 ∨ i = 2 ∨ i = 3 ∨ i = 4 ∨ i = 5 ∨ i = 6 := by omega
        rcases hc with rfl | rfl | rfl | rfl | rfl | rfl | rfl
        · cases hA
        · cases hA
        · cases hA
        · cases hA
        · cases hA
        · cases hA
        · obtain rfl := Option.some.inj ho
          obtain rfl := Option.some.inj hA
          exact ⟨rfl, rfl, 68, #[.int .u8 0, .int .u8 0, .int .u8 0, .int .u8 0, .int .u8 0, .int .u8 0, .int .u8 0, .int .u8 0, .int .u8 0, .int .u8 0, .int .u8 0, .int .u8 0, .int .u8 0, .int .u8 0, .int .u8 0, .int .u8 0, .int .u8 0, .int .u8 0, .int .u8 0, .int .u8 0, .int .u8 0, .int .u8 0, .int .u8 0, .int .u8 0, .int .u8 0, .int .u8 0, .int .u8 0, .int .u8 0, .int .u8 0, .int .u8 0, .int .u8 0, .int .u8 0], rfl, fun a w' K h => wp_new 68 #[.int .u8 0, .int .u8 0, .int .u8 0, .int .u8 0, .int .u8 0, .int .u8 0, .int .u8 0, .int .u8 0, .int .u8 0, .int .u8 0, .int .u8 0, .int .u8 0, .int .u8 0, .int .u8 0, .int .u8 0, .int .u8 0, .int .u8 0, .int .u8 0, .int .u8 0, .int .u8 0, .int .u8 0, .int .u8 0, .int .u8 0, .int .u8 0, .int .u8 0, .int .u8 0, .int .u8 0, .int .u8 0, .int .u8 0, .int .u8 0, .int .u8 0, .int .u8 0] (fun w => by kernel_rfl) h⟩
      clear hS
      intro t1 V2 hs hold hout hall hne hS
      replace HS := hs.trans HS
      replace hS := hS.1
      obtain ⟨g8, h8, b8, r8⟩ : ∃ g, t1[8]? = some (.pointer (some ⟨g, 0, none⟩)) ∧ M ≤ g ∧ ∃ cs ty, V2.heap[g]? = some (.cells cs ty (0, 0)) ∧ cs.size = 32 := by
        obtain ⟨g, p1, p2, ty, cs, p3, p4⟩ := hall 6 (by omega) 32 rfl
        exact ⟨g, p1, p2, cs, ty, p3, p4⟩
      replace hS : Own w [(w.heap.size, 32, (· = .agg (vals La))), (g7, 32, (· = .agg (vals WT))), (g8, 32, (fun _ => True))] V2 := hS.add (Nat.le_trans hMB b8) (fun r hr => Nat.ne_of_lt (Nat.lt_of_lt_of_le (ltM r hr) b8)) (Own.any r8)
      obtain ⟨x26, q26, v26⟩ : ∃ x, t1[26]? = some x ∧ ((· = .agg (vals zeroL))) x := hout 4 (by omega) rfl
      obtain ⟨x27, q27, v27⟩ : ∃ x, t1[27]? = some x ∧ ((· = .int .u64 0)) x := hout 5 (by omega) rfl
      replace q27 : t1[27]? = some (.int .u64 0) := q27.trans (congrArg some v27)
      replace h2 := (hold 2 (slots_not (by kernel_rfl))).trans h2
      replace h3 := (hold 3 (slots_not (by kernel_rfl))).trans h3
      replace h7 := (hold 7 (slots_not (by kernel_rfl))).trans h7
      clear hold hout hs hall hne
      simp only [List.drop_succ_cons, List.drop_zero]
      refine st_own 32 tKey rfl (.tmp 8) (.tmp 26) rfl rfl _ _ (eval_tmp h8) (eval_tmp q26) (V' := (· = .agg (vals zeroL))) v26 (by_row rfl) hS 2 rfl fun V2' hS' _ => ?_
      replace hS : Own w [(w.heap.size, 32, (· = .agg (vals La))), (g7, 32, (· = .agg (vals WT))), (g8, 32, (· = .agg (vals zeroL)))] V2' := hS'
      clear hS'
      refine tl_assign rfl (.tmp 27) rfl 9 rfl (by rw [HS]; decide) _ (eval_tmp q27) fun t1 hz hq he => ?_
      replace h2 := (he 2 (by decide)).trans h2
      replace h3 := (he 3 (by decide)).trans h3
      replace h7 := (he 7 (by decide)).trans h7
      replace h8 := (he 8 (by decide)).trans h8
      replace HS := hz.trans HS
      clear hz he q26 q27 v26 v27
      have h9 := hq
      clear hq
      refine wpList_nil ?_
      obtain ⟨f, e0, hf⟩ := wash HS
      have f2 := hf 2 _ h2
      have f3 := hf 3 _ h3
      have f7 := hf 7 _ h7
      have f8 := hf 8 _ h8
      have f9 := hf 9 _ h9
      clear hf
      rw [e0.trans (show _ = #[f 0, f 1, f 2, f 3, f 4, f 5, f 6, f 7, f 8, f 9, f 10, f 11, f 12, f 13, f 14, f 15, f 16, f 17, f 18, f 19, f 20, f 21, f 22, f 23, f 24, f 25, f 26, f 27, f 28, f 29, f 30, f 31, f 32, f 33, f 34, f 35, f 36, f 37, f 38, f 39, f 40, f 41, f 42, f 43, f 44, f 45, f 46, f 47, f 48, f 49, f 50] from by kernel_rfl), f2, f3, f7, f8, f9]
      clear f2 f3 f7 f8 f9
      clear e0
      dsimp only
      clear h2 h3 h7 h8 h9 b8 r8 ltM hMB hM HS t1 t0 M
      go_wp2_with ((with_reducible refine guard_list ?_); first | (refine held_load 26 _ rfl ?_) | (refine held_load 22 _ rfl ?_) | (refine held_load 68 _ rfl ?_))
      obtain ⟨M, hM⟩ : ∃ M, M = V2'.heap.size := ⟨_, rfl⟩
      refine hide_held fun t0 HT => ?_
      have HS : t0.size = 51 := by rw [HT]; rfl
      have h2 : t0[2]? = some (.bool true) := by rw [HT]; rfl
      have h3 : t0[3]? = some (.pointer (some ⟨w.heap.size, 0, none⟩)) := by rw [HT]; rfl
      have h7 : t0[7]? = some (.pointer (some ⟨g7, 0, none⟩)) := by rw [HT]; rfl
      have h8 : t0[8]? = some (.pointer (some ⟨g8, 0, none⟩)) := by rw [HT]; rfl
      have h9 : t0[9]? = some (.int .u64 0) := by rw [HT]; rfl
      refine wp_from_all 23 (fun i => [28, 29, 30, 31, 32, 33, 34, 35, 36, 37, 38, 39, 40, 41, 42, 43, 44, 45, 46, 47, 48, 49, 50, 6].getD i 0) (fun i => [(· = .int .u64 0), (· = .bool true), (· = .bool true), (· = .agg (vals zeroL)), (· = .agg (vals zeroL)), (· = .bool true), (· = .bool true), (· = .bool true), (· = .agg (vals La)), (· = .agg (vals WT)), (· = .agg (vals zeroL)), (· = .agg (vals zeroL)), (· = .bool true), (· = .bool true), (· = .bool true), (· = .agg (vals La)), (· = .agg (vals (bytesN pb'.val))), (· = .agg (vals zeroL)), (· = .bool true), (· = .bool true), (· = .bool true), (· = .bool true), (· = .bool true), (· = .bool true)].getD i (fun _ => True)) (fun w' => Own w [(w.heap.size, 32, (· = .agg (vals La))), (g7, 32, (· = .agg (vals WT))), (g8, 32, (· = .agg (vals zeroL)))] w' ∧ M ≤ w'.heap.size)
        3 (by omega) (by kernel_rfl) ?_ (by kernel_rfl) (slots_apart (by kernel_rfl)) (slots_lie (by rw [HS]; kernel_rfl)) ⟨hS, Nat.le_of_eq hM⟩ (fun w1 w2 h b => ⟨h.1.keep b, Nat.le_trans h.2 b.size⟩) ?_ ?_
      · intro j hj
        have hc : j = 0 ∨ j = 1 ∨ j = 2 := by omega
        rcases hc with rfl | rfl | rfl
        · exact ⟨_, by rw [HT]; rfl, rfl⟩
        · exact ⟨_, by rw [HT]; rfl, rfl⟩
        · exact ⟨_, by rw [HT]; rfl, rfl⟩
      · clear hS
        intro i o h0i hi ho
        have hc : i = 3 ∨ i = 4 ∨ i = 5 ∨ i = 6 ∨ i = 7 ∨ i = 8 ∨ i = 9 ∨ i = 10 ∨ i = 11 ∨ i = 12 ∨ i = 13 ∨ i = 14 ∨ i = 15 ∨ i = 16 ∨ i = 17 ∨ i = 18 ∨ i = 19 ∨ i = 20 ∨ i = 21 ∨ i = 22 ∨ i = 23 := by omega
        rcases hc with rfl | rfl | rfl | rfl | rfl | rfl | rfl | rfl | rfl | rfl | rfl | rfl | rfl | rfl | rfl | rfl | rfl | rfl | rfl | rfl | rfl
        · obtain rfl := Option.some.inj ho
          refine ⟨rfl, fun a w' hS hold hin K hK => ?_⟩
          obtain ⟨y2, x2, rfl⟩ := hin 2 rfl (by omega)
          refine if_guard (d := 30) rfl rfl x2 ?_
          exact op_ld_own 32 tKey (.tmp 8) rfl rfl _ (eval_tmp ((hold 8 (slots_not (by kernel_rfl))).trans h8)) hS.1 2 rfl hK
        · obtain rfl := Option.some.inj ho
          refine ⟨rfl, fun a w' hS hold hin K hK => ?_⟩
          obtain ⟨y2, x2, rfl⟩ := hin 2 rfl (by omega)
          refine if_guard (d := 30) rfl rfl x2 ?_
          exact op_val (V := (· = .agg (vals zeroL))) (.agg (vals zeroL)) rfl (by kernel_rfl) rfl hK
        · obtain rfl := Option.some.inj ho
          refine ⟨rfl, fun a w' hS hold hin K hK => ?_⟩
          obtain ⟨y2, x2, rfl⟩ := hin 2 rfl (by omega)
          obtain ⟨y3, x3, rfl⟩ := hin 3 rfl (by omega)
          obtain ⟨y4, x4, rfl⟩ := hin 4 rfl (by omega)
          refine if_guard (d := 30) rfl rfl x2 ?_
          exact op_bin (V := (· = .bool true)) _ _ _ _ _ _ _ (.bool true) rfl rfl (eval_tmp x3) (eval_tmp x4) (fun w => eql_key_same zeroL rfl w) rfl hK
        · obtain rfl := Option.some.inj ho
          refine ⟨rfl, fun a w' hS hold hin K hK => ?_⟩
          obtain ⟨y2, x2, rfl⟩ := hin 2 rfl (by omega)
          obtain ⟨y5, x5, rfl⟩ := hin 5 rfl (by omega)
          refine if_always rfl ?_
          exact op_pick (V := (· = .bool true)) _ _ _ true _ rfl rfl (eval_tmp x2) (show (Act.eval a _) = _ from (eval_tmp x5)) rfl hK
        · obtain rfl := Option.some.inj ho
          refine ⟨rfl, fun a w' hS hold hin K hK => ?_⟩
          obtain ⟨y6, x6, rfl⟩ := hin 6 rfl (by omega)
          refine if_always rfl ?_
          exact op_move (V := (· = .bool true)) _ _ rfl rfl (eval_tmp x6) rfl hK
        · obtain rfl := Option.some.inj ho
          refine ⟨rfl, fun a w' hS hold hin K hK => ?_⟩
          obtain ⟨y7, x7, rfl⟩ := hin 7 rfl (by omega)
          refine if_guard (d := 35) rfl rfl x7 ?_
          exact op_ld_own 32 tKey (.tmp 3) rfl rfl _ (eval_tmp ((hold 3 (slots_not (by kernel_rfl))).trans h3)) hS.1 0 rfl hK
        · obtain rfl := Option.some.inj ho
          refine ⟨rfl, fun a w' hS hold hin K hK => ?_⟩
          obtain ⟨y7, x7, rfl⟩ := hin 7 rfl (by omega)
          refine if_guard (d := 35) rfl rfl x7 ?_
          exact op_ld_own 32 tKey (.tmp 7) rfl rfl _ (eval_tmp ((hold 7 (slots_not (by kernel_rfl))).trans h7)) hS.1 1 rfl hK
        · obtain rfl := Option.some.inj ho
          refine ⟨rfl, fun a w' hS hold hin K hK => ?_⟩
          obtain ⟨y7, x7, rfl⟩ := hin 7 rfl (by omega)
          obtain ⟨y8, x8, rfl⟩ := hin 8 rfl (by omega)
          obtain ⟨y9, x9, rfl⟩ := hin 9 rfl (by omega)
          refine if_guard (d := 35) rfl rfl x7 ?_
          exact op_fn2 _ _ _ _ _ _ rfl rfl (eval_tmp x8) (eval_tmp x9) (by intro args w; kernel_rfl) (mul_zero_key rfl (ladmul_ev La WT va xw 0 _ HLLa.out hbLa HTl.out HTb.out Hhva.out HTn.out Hhpw.out)) hK
        · obtain rfl := Option.some.inj ho
          refine ⟨rfl, fun a w' hS hold hin K hK => ?_⟩
          obtain ⟨y7, x7, rfl⟩ := hin 7 rfl (by omega)
          refine if_guard (d := 35) rfl rfl x7 ?_
          exact op_val (V := (· = .agg (vals zeroL))) (.agg (vals zeroL)) rfl (by kernel_rfl) rfl hK
        · obtain rfl := Option.some.inj ho
          refine ⟨rfl, fun a w' hS hold hin K hK => ?_⟩
          obtain ⟨y7, x7, rfl⟩ := hin 7 rfl (by omega)
          obtain ⟨y10, x10, rfl⟩ := hin 10 rfl (by omega)
          obtain ⟨y11, x11, rfl⟩ := hin 11 rfl (by omega)
          refine if_guard (d := 35) rfl rfl x7 ?_
          exact op_bin (V := (· = .bool true)) _ _ _ _ _ _ _ (.bool true) rfl rfl (eval_tmp x10) (eval_tmp x11) (fun w => eql_key_same zeroL rfl w) rfl hK
        · obtain rfl := Option.some.inj ho
          refine ⟨rfl, fun a w' hS hold hin K hK => ?_⟩
          obtain ⟨y7, x7, rfl⟩ := hin 7 rfl (by omega)
          obtain ⟨y12, x12, rfl⟩ := hin 12 rfl (by omega)
          refine if_always rfl ?_
          exact op_pick (V := (· = .bool true)) _ _ _ true _ rfl rfl (eval_tmp x7) (show (Act.eval a _) = _ from (eval_tmp x12)) rfl hK
        · obtain rfl := Option.some.inj ho
          refine ⟨rfl, fun a w' hS hold hin K hK => ?_⟩
          obtain ⟨y13, x13, rfl⟩ := hin 13 rfl (by omega)
          refine if_always rfl ?_
          exact op_move (V := (· = .bool true)) _ _ rfl rfl (eval_tmp x13) rfl hK
        · obtain rfl := Option.some.inj ho
          refine ⟨rfl, fun a w' hS hold hin K hK => ?_⟩
          obtain ⟨y14, x14, rfl⟩ := hin 14 rfl (by omega)
          refine if_guard (d := 42) rfl rfl x14 ?_
          exact op_ld_own 32 tKey (.tmp 3) rfl rfl _ (eval_tmp ((hold 3 (slots_not (by kernel_rfl))).trans h3)) hS.1 0 rfl hK
        · obtain rfl := Option.some.inj ho
          refine ⟨rfl, fun a w' hS hold hin K hK => ?_⟩
          obtain ⟨y14, x14, rfl⟩ := hin 14 rfl (by omega)
          obtain ⟨y15, x15, rfl⟩ := hin 15 rfl (by omega)
          refine if_guard (d := 42) rfl rfl x14 ?_
          exact op_fn1 _ _ _ _ rfl rfl (eval_tmp x15) (by intro args w; kernel_rfl) (base_any La va pb' _ HLLa.out hbLa Hhva.out Hhpb.out) hK
        · obtain rfl := Option.some.inj ho
          refine ⟨rfl, fun a w' hS hold hin K hK => ?_⟩
          obtain ⟨y14, x14, rfl⟩ := hin 14 rfl (by omega)
          refine if_guard (d := 42) rfl rfl x14 ?_
          exact op_val (V := (· = .agg (vals zeroL))) (.agg (vals zeroL)) rfl (by kernel_rfl) rfl hK
        · obtain rfl := Option.some.inj ho
          refine ⟨rfl, fun a w' hS hold hin K hK => ?_⟩
          obtain ⟨y14, x14, rfl⟩ := hin 14 rfl (by omega)
          obtain ⟨y16, x16, rfl⟩ := hin 16 rfl (by omega)
          obtain ⟨y17, x17, rfl⟩ := hin 17 rfl (by omega)
          refine if_guard (d := 42) rfl rfl x14 ?_
          exact op_bin (V := (· = .bool true)) _ _ _ _ _ _ _ (.bool true) rfl rfl (eval_tmp x16) (eval_tmp x17) (fun w => neq_key_diff (bytesN pb'.val) zeroL (bytesN_len _) rfl w Hhnz.out) rfl hK
        · obtain rfl := Option.some.inj ho
          refine ⟨rfl, fun a w' hS hold hin K hK => ?_⟩
          obtain ⟨y14, x14, rfl⟩ := hin 14 rfl (by omega)
          obtain ⟨y18, x18, rfl⟩ := hin 18 rfl (by omega)
          refine if_always rfl ?_
          exact op_pick (V := (· = .bool true)) _ _ _ true _ rfl rfl (eval_tmp x14) (show (Act.eval a _) = _ from (eval_tmp x18)) rfl hK
        · obtain rfl := Option.some.inj ho
          refine ⟨rfl, fun a w' hS hold hin K hK => ?_⟩
          obtain ⟨y19, x19, rfl⟩ := hin 19 rfl (by omega)
          refine if_always rfl ?_
          exact op_move (V := (· = .bool true)) _ _ rfl rfl (eval_tmp x19) rfl hK
        · obtain rfl := Option.some.inj ho
          refine ⟨rfl, fun a w' hS hold hin K hK => ?_⟩
          obtain ⟨y20, x20, rfl⟩ := hin 20 rfl (by omega)
          refine if_guard (d := 48) rfl rfl x20 ?_
          exact op_fn0 _  _  rfl rfl  (by intro args w; kernel_rfl) (works_any _) hK
        · obtain rfl := Option.some.inj ho
          refine ⟨rfl, fun a w' hS hold hin K hK => ?_⟩
          obtain ⟨y20, x20, rfl⟩ := hin 20 rfl (by omega)
          obtain ⟨y21, x21, rfl⟩ := hin 21 rfl (by omega)
          refine if_always rfl ?_
          exact op_pick (V := (· = .bool true)) _ _ _ true _ rfl rfl (eval_tmp x20) (show (Act.eval a _) = _ from (eval_tmp x21)) rfl hK
        · obtain rfl := Option.some.inj ho
          refine ⟨rfl, fun a w' hS hold hin K hK => ?_⟩
          obtain ⟨y22, x22, rfl⟩ := hin 22 rfl (by omega)
          refine if_always rfl ?_
          exact op_assign (V := (· = .bool true)) _ _ rfl rfl (eval_tmp x22) rfl hK
      clear hS
      intro t1 V3 hs hold hout hS
      replace HS := hs.trans HS
      replace hS := hS.1
      obtain ⟨_, q6, rfl⟩ : ∃ x, t1[6]? = some x ∧ x = (.bool true : Value) := hout 23 (by omega)
      replace h2 := (hold 2 (slots_not (by kernel_rfl))).trans h2
      replace h3 := (hold 3 (slots_not (by kernel_rfl))).trans h3
      replace h7 := (hold 7 (slots_not (by kernel_rfl))).trans h7
      replace h8 := (hold 8 (slots_not (by kernel_rfl))).trans h8
      replace h9 := (hold 9 (slots_not (by kernel_rfl))).trans h9
      clear hold hout hs
      clear HT
      obtain ⟨f, e0, hf⟩ := wash HS
      have f2 := hf 2 _ h2
      have f3 := hf 3 _ h3
      have f7 := hf 7 _ h7
      have f8 := hf 8 _ h8
      have f9 := hf 9 _ h9
      have f6 := hf 6 _ q6
      clear hf
      rw [e0.trans (show _ = #[f 0, f 1, f 2, f 3, f 4, f 5, f 6, f 7, f 8, f 9, f 10, f 11, f 12, f 13, f 14, f 15, f 16, f 17, f 18, f 19, f 20, f 21, f 22, f 23, f 24, f 25, f 26, f 27, f 28, f 29, f 30, f 31, f 32, f 33, f 34, f 35, f 36, f 37, f 38, f 39, f 40, f 41, f 42, f 43, f 44, f 45, f 46, f 47, f 48, f 49, f 50] from by kernel_rfl), f2, f3, f7, f8, f9, f6]
      clear f2 f3 f7 f8 f9 f6
      clear e0
      dsimp only
      clear h2 h3 h7 h8 h9 q6 hM HS t1 t0 M
      go_wp2_with fail
      go_returns
      exact ⟨rfl, hS.1⟩
end Go.Proofs.Ytciakfhjjnmeeaa
