/- The walk of CodecPages. No condition. -/
import Derived.Test.YtmochmpamgfboaaDoorPagF
namespace Go.Proofs.YtmochmpamgfboaaDoor
open Go.RowKit
theorem own_cellV {b w : World} {L : List (Nat × Nat × (Value → Prop))} (h : Own b L w) (i : Nat) {g n : Nat} {c : Array Value} (c' : Array Value) (hi : L[i]? = some (g, n, (· = .agg c))) (k : Nat) (v : Value) (hc : c.setIfInBounds k v = c') : Own b (L.set i (g, n, (· = .agg c'))) (w.setCell ⟨g, k, none⟩ v) :=
  h.cell hi k _ fun cs _ hcs => by
    injection hcs with hcs
    subst hcs
    exact congrArg Value.agg hc
set_option maxHeartbeats 8000000 in
set_option maxRecDepth 100000 in
theorem codecPages_bad {n0 n1 n2 n3 n4 n5 k n : Int} (hg : ¬ good n0 n1 n2 n3 n4 n5 = true) (w : World) : Calls Tryd.prog 7 #[.agg #[.int .i64 n0, .int .i64 n1, .int .i64 n2, .int .i64 n3, .int .i64 n4, .int .i64 n5], .int .i64 k, .int .i64 n] w (fun e w' => e = .returned (.bool true) ∧ Below w.heap.size w w') := by
  have hS := conf_start n0 n1 n2 n3 n4 n5 w
  have HG := Lib.hid hg
  clear hg
  go_enter Tryd.func7, Tryd.ntmps7
  go_wp2_with ((with_reducible refine guard_list ?_); first | (refine held_fn _ _ _ rfl ?_))
  change Held (wpList _ _ _ _ _ (w.alloc (.cells #[.int .i64 n0, .int .i64 n1, .int .i64 n2, .int .i64 n3, .int .i64 n4, .int .i64 n5] 23)))
  generalize w.alloc (.cells #[.int .i64 n0, .int .i64 n1, .int .i64 n2, .int .i64 n3, .int .i64 n4, .int .i64 n5] 23) = w0 at hS ⊢
  obtain ⟨M, hM⟩ : ∃ M, M = w0.heap.size := ⟨_, rfl⟩
  refine hide_held fun t0 HT => ?_
  have HS : t0.size = 106 := by rw [HT]; rfl
  have h1 : t0[1]? = some (.int .i64 k) := by rw [HT]; rfl
  have h2 : t0[2]? = some (.int .i64 n) := by rw [HT]; rfl
  have h3 : t0[3]? = some (.pointer (some ⟨w.heap.size, 0, none⟩)) := by rw [HT]; rfl
  clear HT
  refine wp_list_all 1 (fun i => [14, 15].getD i 0) (fun i => [(· = .bool true), (· = .bool false)].getD i (fun _ => True)) (fun w' => Own w [(w.heap.size, 6, (· = .agg #[.int .i64 n0, .int .i64 n1, .int .i64 n2, .int .i64 n3, .int .i64 n4, .int .i64 n5]))] w' ∧ M ≤ w'.heap.size)
    (by kernel_rfl) (by kernel_rfl) (slots_apart (by kernel_rfl)) (slots_lie (by rw [HS]; kernel_rfl)) ⟨hS, Nat.le_of_eq hM⟩ (fun w1 w2 h b => ⟨h.1.keep b, Nat.le_trans h.2 b.size⟩) ?_ ?_
  · clear hS
    intro i o hi ho
    have hc : i = 0 ∨ i = 1 := by omega
    rcases hc with rfl | rfl
    · obtain rfl := Option.some.inj ho
      refine ⟨rfl, fun a w' hS hold hin K hK => ?_⟩
      refine if_always rfl ?_
      exact op_fn0 _  _  rfl rfl  (by intro args w; kernel_rfl) (awake_ev _) hK
    · obtain rfl := Option.some.inj ho
      refine ⟨rfl, fun a w' hS hold hin K hK => ?_⟩
      obtain ⟨y0, x0, rfl⟩ := hin 0 rfl (by omega)
      refine if_always rfl ?_
      exact op_un (V := (· = .bool false)) _ _ _ _ (.bool false) rfl rfl (eval_tmp x0) (fun w => by kernel_rfl) rfl hK
  clear hS
  intro t1 V1 hs hold hout hS
  replace HS := hs.trans HS
  replace hS := hS.1
  obtain ⟨_, q15, rfl⟩ : ∃ x, t1[15]? = some x ∧ x = (.bool false : Value) := hout 1 (by omega)
  replace h1 := (hold 1 (slots_not (by kernel_rfl))).trans h1
  replace h2 := (hold 2 (slots_not (by kernel_rfl))).trans h2
  replace h3 := (hold 3 (slots_not (by kernel_rfl))).trans h3
  clear hold hout hs
  obtain ⟨f, e0, hf⟩ := wash HS
  have f1 := hf 1 _ h1
  have f2 := hf 2 _ h2
  have f3 := hf 3 _ h3
  have f15 := hf 15 _ q15
  clear hf
  rw [e0.trans (show _ = #[f 0, f 1, f 2, f 3, f 4, f 5, f 6, f 7, f 8, f 9, f 10, f 11, f 12, f 13, f 14, f 15, f 16, f 17, f 18, f 19, f 20, f 21, f 22, f 23, f 24, f 25, f 26, f 27, f 28, f 29, f 30, f 31, f 32, f 33, f 34, f 35, f 36, f 37, f 38, f 39, f 40, f 41, f 42, f 43, f 44, f 45, f 46, f 47, f 48, f 49, f 50, f 51, f 52, f 53, f 54, f 55, f 56, f 57, f 58, f 59, f 60, f 61, f 62, f 63, f 64, f 65, f 66, f 67, f 68, f 69, f 70, f 71, f 72, f 73, f 74, f 75, f 76, f 77, f 78, f 79, f 80, f 81, f 82, f 83, f 84, f 85, f 86, f 87, f 88, f 89, f 90, f 91, f 92, f 93, f 94, f 95, f 96, f 97, f 98, f 99, f 100, f 101, f 102, f 103, f 104, f 105] from by kernel_rfl), f1, f2, f3, f15]
  clear f1 f2 f3 f15
  clear e0
  try dsimp only
  clear h1 h2 h3 q15 hM HS t1 t0 M
  go_wp2_with ((with_reducible refine guard_list ?_); first | (refine held_load 23 _ rfl ?_))
  obtain ⟨M, hM⟩ : ∃ M, M = V1.heap.size := ⟨_, rfl⟩
  refine hide_held fun t0 HT => ?_
  have HS : t0.size = 106 := by rw [HT]; rfl
  have h1 : t0[1]? = some (.int .i64 k) := by rw [HT]; rfl
  have h2 : t0[2]? = some (.int .i64 n) := by rw [HT]; rfl
  have h3 : t0[3]? = some (.pointer (some ⟨w.heap.size, 0, none⟩)) := by rw [HT]; rfl
  clear HT
  refine wp_list_most 7 (fun i => [17, 18, 19, 20, 16, 21, 22].getD i 0) (fun _ => none) (fun i => [(· = .agg #[.int .i64 n0, .int .i64 n1, .int .i64 n2, .int .i64 n3, .int .i64 n4, .int .i64 n5]), (· = .int .i64 k), (· = .int .i64 n), (· = .tuple #[.int .i64 0, .int .i64 200]), (· = .tuple #[.int .i64 0, .int .i64 200]), (· = .int .i64 0), (· = .int .i64 200)].getD i (fun _ => True)) (fun w' => Own w [(w.heap.size, 6, (· = .agg #[.int .i64 n0, .int .i64 n1, .int .i64 n2, .int .i64 n3, .int .i64 n4, .int .i64 n5]))] w' ∧ M ≤ w'.heap.size) M
    (by kernel_rfl) (slots_apart (by kernel_rfl)) (slots_lie (by rw [HS]; kernel_rfl)) ⟨hS, Nat.le_of_eq hM⟩ (fun w' h => h.2) (fun w1 w2 h b => ⟨h.1.keep b, Nat.le_trans h.2 b.size⟩) ?_ ?_ ?_
  · clear hS
    intro i o hi ho hA
    have hc : i = 0 ∨ i = 1 ∨ i = 2 ∨ i = 3 ∨ i = 4 ∨ i = 5 ∨ i = 6 := by omega
    rcases hc with rfl | rfl | rfl | rfl | rfl | rfl | rfl
    · obtain rfl := Option.some.inj ho
      refine ⟨rfl, fun a w' hS hold hin K hK => ?_⟩
      refine if_always rfl ?_
      exact op_ld_own 6 tConf (.tmp 3) rfl rfl _ (eval_tmp ((hold 3 (slots_not (by kernel_rfl))).trans h3)) hS.1 0 rfl hK
    · obtain rfl := Option.some.inj ho
      refine ⟨rfl, fun a w' hS hold hin K hK => ?_⟩
      refine if_always rfl ?_
      exact op_move (V := (· = .int .i64 k)) _ _ rfl rfl (eval_tmp ((hold 1 (slots_not (by kernel_rfl))).trans h1)) rfl hK
    · obtain rfl := Option.some.inj ho
      refine ⟨rfl, fun a w' hS hold hin K hK => ?_⟩
      refine if_always rfl ?_
      exact op_move (V := (· = .int .i64 n)) _ _ rfl rfl (eval_tmp ((hold 2 (slots_not (by kernel_rfl))).trans h2)) rfl hK
    · obtain rfl := Option.some.inj ho
      refine ⟨rfl, fun a w' hS hold hin K hK => ?_⟩
      obtain ⟨y0, x0, rfl⟩ := hin 0 rfl (by omega) rfl
      obtain ⟨y1, x1, rfl⟩ := hin 1 rfl (by omega) rfl
      obtain ⟨y2, x2, rfl⟩ := hin 2 rfl (by omega) rfl
      refine if_always rfl ?_
      exact op_fn3 _ _ _ _ _ _ _ _ rfl rfl (eval_tmp x0) (eval_tmp x1) (eval_tmp x2) (by intro args w; kernel_rfl) (pages_bad (rq := 0) (rp := 0) (rc := 0) (er := 200) (by unfold msr; rw [if_neg HG.out]) (by decide) _) hK
    · obtain rfl := Option.some.inj ho
      refine ⟨rfl, fun a w' hS hold hin K hK => ?_⟩
      obtain ⟨y3, x3, rfl⟩ := hin 3 rfl (by omega) rfl
      refine if_always rfl ?_
      exact op_move (V := (· = .tuple #[.int .i64 0, .int .i64 200])) _ _ rfl rfl (eval_tmp x3) rfl hK
    · obtain rfl := Option.some.inj ho
      refine ⟨rfl, fun a w' hS hold hin K hK => ?_⟩
      obtain ⟨y4, x4, rfl⟩ := hin 4 rfl (by omega) rfl
      refine if_always rfl ?_
      exact op_tup0 (V := (· = .int .i64 0)) _ rfl rfl (eval_tmp x4) rfl hK
    · obtain rfl := Option.some.inj ho
      refine ⟨rfl, fun a w' hS hold hin K hK => ?_⟩
      obtain ⟨y4, x4, rfl⟩ := hin 4 rfl (by omega) rfl
      refine if_always rfl ?_
      exact op_tup1 (V := (· = .int .i64 200)) _ rfl rfl (eval_tmp x4) rfl hK
  · intro i o sz hi ho hA; cases hA
  clear hS
  intro t1 V2 hs hold hout hall hne hS
  replace HS := hs.trans HS
  replace hS := hS.1
  obtain ⟨x21, q21, v21⟩ : ∃ x, t1[21]? = some x ∧ ((· = .int .i64 0)) x := hout 5 (by omega) rfl
  replace q21 : t1[21]? = some (.int .i64 0) := q21.trans (congrArg some v21)
  obtain ⟨x22, q22, v22⟩ : ∃ x, t1[22]? = some x ∧ ((· = .int .i64 200)) x := hout 6 (by omega) rfl
  replace q22 : t1[22]? = some (.int .i64 200) := q22.trans (congrArg some v22)
  replace h1 := (hold 1 (slots_not (by kernel_rfl))).trans h1
  replace h2 := (hold 2 (slots_not (by kernel_rfl))).trans h2
  replace h3 := (hold 3 (slots_not (by kernel_rfl))).trans h3
  clear hold hout hs hall hne
  simp only [List.drop_succ_cons, List.drop_zero]
  refine tlx_assign (.tmp 21) rfl rfl 7 rfl (by rw [HS]; decide) (.int .i64 0) (eval_tmp q21) fun t1 ex0 hz hq he => ?_
  replace h1 := (he 1 (by decide)).trans h1
  replace h2 := (he 2 (by decide)).trans h2
  replace h3 := (he 3 (by decide)).trans h3
  replace q21 := (he 21 (by decide)).trans q21
  replace q22 := (he 22 (by decide)).trans q22
  replace HS := hz.trans HS
  clear hz he ex0
  have h7 := hq
  clear hq
  refine tlx_assign (.tmp 22) rfl rfl 8 rfl (by rw [HS]; decide) (.int .i64 200) (eval_tmp q22) fun t1 ex1 hz hq he => ?_
  replace h1 := (he 1 (by decide)).trans h1
  replace h2 := (he 2 (by decide)).trans h2
  replace h3 := (he 3 (by decide)).trans h3
  replace h7 := (he 7 (by decide)).trans h7
  replace q21 := (he 21 (by decide)).trans q21
  replace q22 := (he 22 (by decide)).trans q22
  replace HS := hz.trans HS
  clear hz he ex1
  have h8 := hq
  clear hq
  refine wpList_nil ?_
  obtain ⟨f, e0, hf⟩ := wash HS
  have f1 := hf 1 _ h1
  have f2 := hf 2 _ h2
  have f3 := hf 3 _ h3
  have f7 := hf 7 _ h7
  have f8 := hf 8 _ h8
  clear hf
  rw [e0.trans (show _ = #[f 0, f 1, f 2, f 3, f 4, f 5, f 6, f 7, f 8, f 9, f 10, f 11, f 12, f 13, f 14, f 15, f 16, f 17, f 18, f 19, f 20, f 21, f 22, f 23, f 24, f 25, f 26, f 27, f 28, f 29, f 30, f 31, f 32, f 33, f 34, f 35, f 36, f 37, f 38, f 39, f 40, f 41, f 42, f 43, f 44, f 45, f 46, f 47, f 48, f 49, f 50, f 51, f 52, f 53, f 54, f 55, f 56, f 57, f 58, f 59, f 60, f 61, f 62, f 63, f 64, f 65, f 66, f 67, f 68, f 69, f 70, f 71, f 72, f 73, f 74, f 75, f 76, f 77, f 78, f 79, f 80, f 81, f 82, f 83, f 84, f 85, f 86, f 87, f 88, f 89, f 90, f 91, f 92, f 93, f 94, f 95, f 96, f 97, f 98, f 99, f 100, f 101, f 102, f 103, f 104, f 105] from by kernel_rfl), f1, f2, f3, f7, f8]
  clear f1 f2 f3 f7 f8
  clear e0
  try dsimp only
  clear h1 h2 h3 h7 h8 q21 q22 v21 v22 hM HS t1 t0 M
  go_wp2_with ((with_reducible refine guard_list ?_); first | (refine held_load 23 _ rfl ?_))
  obtain ⟨M, hM⟩ : ∃ M, M = V2.heap.size := ⟨_, rfl⟩
  refine hide_held fun t0 HT => ?_
  have HS : t0.size = 106 := by rw [HT]; rfl
  have h1 : t0[1]? = some (.int .i64 k) := by rw [HT]; rfl
  have h2 : t0[2]? = some (.int .i64 n) := by rw [HT]; rfl
  have h3 : t0[3]? = some (.pointer (some ⟨w.heap.size, 0, none⟩)) := by rw [HT]; rfl
  have h7 : t0[7]? = some (.int .i64 0) := by rw [HT]; rfl
  have h8 : t0[8]? = some (.int .i64 200) := by rw [HT]; rfl
  clear HT
  refine wp_list_all 20 (fun i => [23, 24, 25, 26, 27, 28, 29, 30, 31, 32, 33, 34, 35, 36, 37, 38, 39, 40, 41, 42, 43].getD i 0) (fun i => [(· = .agg #[.int .i64 n0, .int .i64 n1, .int .i64 n2, .int .i64 n3, .int .i64 n4, .int .i64 n5]), (· = .int .i64 200), (· = .bool true), (· = .bool true), (· = undef), (· = undef), (· = undef), (· = undef), (· = undef), (· = undef), (· = .bool true), (· = .bool true), (· = undef), (· = undef), (· = .bool true), (· = .bool true), (· = undef), (· = undef), (· = undef), (· = undef), (· = .bool true)].getD i (fun _ => True)) (fun w' => Own w [(w.heap.size, 6, (· = .agg #[.int .i64 n0, .int .i64 n1, .int .i64 n2, .int .i64 n3, .int .i64 n4, .int .i64 n5]))] w' ∧ M ≤ w'.heap.size)
    (by kernel_rfl) (by kernel_rfl) (slots_apart (by kernel_rfl)) (slots_lie (by rw [HS]; kernel_rfl)) ⟨hS, Nat.le_of_eq hM⟩ (fun w1 w2 h b => ⟨h.1.keep b, Nat.le_trans h.2 b.size⟩) ?_ ?_
  · clear hS
    intro i o hi ho
    have hc : i = 0 ∨ i = 1 ∨ i = 2 ∨ i = 3 ∨ i = 4 ∨ i = 5 ∨ i = 6 ∨ i = 7 ∨ i = 8 ∨ i = 9 ∨ i = 10 ∨ i = 11 ∨ i = 12 ∨ i = 13 ∨ i = 14 ∨ i = 15 ∨ i = 16 ∨ i = 17 ∨ i = 18 ∨ i = 19 ∨ i = 20 := by omega
    rcases hc with rfl | rfl | rfl | rfl | rfl | rfl | rfl | rfl | rfl | rfl | rfl | rfl | rfl | rfl | rfl | rfl | rfl | rfl | rfl | rfl | rfl
    · obtain rfl := Option.some.inj ho
      refine ⟨rfl, fun a w' hS hold hin K hK => ?_⟩
      refine if_always rfl ?_
      exact op_ld_own 6 tConf (.tmp 3) rfl rfl _ (eval_tmp ((hold 3 (slots_not (by kernel_rfl))).trans h3)) hS.1 0 rfl hK
    · obtain rfl := Option.some.inj ho
      refine ⟨rfl, fun a w' hS hold hin K hK => ?_⟩
      obtain ⟨y0, x0, rfl⟩ := hin 0 rfl (by omega)
      refine if_always rfl ?_
      exact op_fn1 _ _ _ _ rfl rfl (eval_tmp x0) (by intro args w; kernel_rfl) (chk_no HG.out _) hK
    · obtain rfl := Option.some.inj ho
      refine ⟨rfl, fun a w' hS hold hin K hK => ?_⟩
      obtain ⟨y1, x1, rfl⟩ := hin 1 rfl (by omega)
      refine if_always rfl ?_
      exact op_bin (V := (· = .bool true)) _ _ _ _ _ _ _ (.bool true) rfl rfl (eval_tmp x1) rfl (fun w => by kernel_rfl) rfl hK
    · obtain rfl := Option.some.inj ho
      refine ⟨rfl, fun a w' hS hold hin K hK => ?_⟩
      obtain ⟨y2, x2, rfl⟩ := hin 2 rfl (by omega)
      refine if_always rfl ?_
      exact op_move (V := (· = .bool true)) _ _ rfl rfl (eval_tmp x2) rfl hK
    · obtain rfl := Option.some.inj ho
      refine ⟨rfl, fun a w' hS hold hin K hK => ?_⟩
      obtain ⟨y3, x3, rfl⟩ := hin 3 rfl (by omega)
      exact if_guard_off (d := 26) rfl rfl x3 (by decide) (hK _ _ rfl (Below.refl _ _))
    · obtain rfl := Option.some.inj ho
      refine ⟨rfl, fun a w' hS hold hin K hK => ?_⟩
      obtain ⟨y3, x3, rfl⟩ := hin 3 rfl (by omega)
      exact if_guard_off (d := 26) rfl rfl x3 (by decide) (hK _ _ rfl (Below.refl _ _))
    · obtain rfl := Option.some.inj ho
      refine ⟨rfl, fun a w' hS hold hin K hK => ?_⟩
      obtain ⟨y3, x3, rfl⟩ := hin 3 rfl (by omega)
      exact if_guard_off (d := 26) rfl rfl x3 (by decide) (hK _ _ rfl (Below.refl _ _))
    · obtain rfl := Option.some.inj ho
      refine ⟨rfl, fun a w' hS hold hin K hK => ?_⟩
      obtain ⟨y6, x6, rfl⟩ := hin 6 rfl (by omega)
      exact if_guard_un (d := 29) rfl rfl x6 (hK _ _ rfl (Below.refl _ _))
    · obtain rfl := Option.some.inj ho
      refine ⟨rfl, fun a w' hS hold hin K hK => ?_⟩
      obtain ⟨y6, x6, rfl⟩ := hin 6 rfl (by omega)
      exact if_guard_un (d := 29) rfl rfl x6 (hK _ _ rfl (Below.refl _ _))
    · obtain rfl := Option.some.inj ho
      refine ⟨rfl, fun a w' hS hold hin K hK => ?_⟩
      obtain ⟨y3, x3, rfl⟩ := hin 3 rfl (by omega)
      exact if_guard_off (d := 26) rfl rfl x3 (by decide) (hK _ _ rfl (Below.refl _ _))
    · obtain rfl := Option.some.inj ho
      refine ⟨rfl, fun a w' hS hold hin K hK => ?_⟩
      obtain ⟨y3, x3, rfl⟩ := hin 3 rfl (by omega)
      refine if_always rfl ?_
      exact op_pick (V := (· = .bool true)) _ _ _ true _ rfl rfl (eval_tmp x3) (show Act.eval a (.const (.bool true)) = (.bool true) from rfl) rfl hK
    · obtain rfl := Option.some.inj ho
      refine ⟨rfl, fun a w' hS hold hin K hK => ?_⟩
      obtain ⟨y10, x10, rfl⟩ := hin 10 rfl (by omega)
      refine if_always rfl ?_
      exact op_move (V := (· = .bool true)) _ _ rfl rfl (eval_tmp x10) rfl hK
    · obtain rfl := Option.some.inj ho
      refine ⟨rfl, fun a w' hS hold hin K hK => ?_⟩
      obtain ⟨y11, x11, rfl⟩ := hin 11 rfl (by omega)
      exact if_guard_off (d := 34) rfl rfl x11 (by decide) (hK _ _ rfl (Below.refl _ _))
    · obtain rfl := Option.some.inj ho
      refine ⟨rfl, fun a w' hS hold hin K hK => ?_⟩
      obtain ⟨y11, x11, rfl⟩ := hin 11 rfl (by omega)
      exact if_guard_off (d := 34) rfl rfl x11 (by decide) (hK _ _ rfl (Below.refl _ _))
    · obtain rfl := Option.some.inj ho
      refine ⟨rfl, fun a w' hS hold hin K hK => ?_⟩
      obtain ⟨y11, x11, rfl⟩ := hin 11 rfl (by omega)
      refine if_always rfl ?_
      exact op_pick (V := (· = .bool true)) _ _ _ true _ rfl rfl (eval_tmp x11) (show Act.eval a (.const (.bool true)) = (.bool true) from rfl) rfl hK
    · obtain rfl := Option.some.inj ho
      refine ⟨rfl, fun a w' hS hold hin K hK => ?_⟩
      obtain ⟨y14, x14, rfl⟩ := hin 14 rfl (by omega)
      refine if_always rfl ?_
      exact op_move (V := (· = .bool true)) _ _ rfl rfl (eval_tmp x14) rfl hK
    · obtain rfl := Option.some.inj ho
      refine ⟨rfl, fun a w' hS hold hin K hK => ?_⟩
      obtain ⟨y15, x15, rfl⟩ := hin 15 rfl (by omega)
      exact if_guard_off (d := 38) rfl rfl x15 (by decide) (hK _ _ rfl (Below.refl _ _))
    · obtain rfl := Option.some.inj ho
      refine ⟨rfl, fun a w' hS hold hin K hK => ?_⟩
      obtain ⟨y15, x15, rfl⟩ := hin 15 rfl (by omega)
      exact if_guard_off (d := 38) rfl rfl x15 (by decide) (hK _ _ rfl (Below.refl _ _))
    · obtain rfl := Option.some.inj ho
      refine ⟨rfl, fun a w' hS hold hin K hK => ?_⟩
      obtain ⟨y15, x15, rfl⟩ := hin 15 rfl (by omega)
      exact if_guard_off (d := 38) rfl rfl x15 (by decide) (hK _ _ rfl (Below.refl _ _))
    · obtain rfl := Option.some.inj ho
      refine ⟨rfl, fun a w' hS hold hin K hK => ?_⟩
      obtain ⟨y15, x15, rfl⟩ := hin 15 rfl (by omega)
      exact if_guard_off (d := 38) rfl rfl x15 (by decide) (hK _ _ rfl (Below.refl _ _))
    · obtain rfl := Option.some.inj ho
      refine ⟨rfl, fun a w' hS hold hin K hK => ?_⟩
      obtain ⟨y15, x15, rfl⟩ := hin 15 rfl (by omega)
      refine if_always rfl ?_
      exact op_pick (V := (· = .bool true)) _ _ _ true _ rfl rfl (eval_tmp x15) (show Act.eval a (.const (.bool true)) = (.bool true) from rfl) rfl hK
  clear hS
  intro t1 V3 hs hold hout hS
  replace HS := hs.trans HS
  replace hS := hS.1
  obtain ⟨_, q43, rfl⟩ : ∃ x, t1[43]? = some x ∧ x = (.bool true : Value) := hout 20 (by omega)
  replace h1 := (hold 1 (slots_not (by kernel_rfl))).trans h1
  replace h2 := (hold 2 (slots_not (by kernel_rfl))).trans h2
  replace h3 := (hold 3 (slots_not (by kernel_rfl))).trans h3
  replace h7 := (hold 7 (slots_not (by kernel_rfl))).trans h7
  replace h8 := (hold 8 (slots_not (by kernel_rfl))).trans h8
  clear hold hout hs
  obtain ⟨f, e0, hf⟩ := wash HS
  have f1 := hf 1 _ h1
  have f2 := hf 2 _ h2
  have f3 := hf 3 _ h3
  have f7 := hf 7 _ h7
  have f8 := hf 8 _ h8
  have f43 := hf 43 _ q43
  clear hf
  rw [e0.trans (show _ = #[f 0, f 1, f 2, f 3, f 4, f 5, f 6, f 7, f 8, f 9, f 10, f 11, f 12, f 13, f 14, f 15, f 16, f 17, f 18, f 19, f 20, f 21, f 22, f 23, f 24, f 25, f 26, f 27, f 28, f 29, f 30, f 31, f 32, f 33, f 34, f 35, f 36, f 37, f 38, f 39, f 40, f 41, f 42, f 43, f 44, f 45, f 46, f 47, f 48, f 49, f 50, f 51, f 52, f 53, f 54, f 55, f 56, f 57, f 58, f 59, f 60, f 61, f 62, f 63, f 64, f 65, f 66, f 67, f 68, f 69, f 70, f 71, f 72, f 73, f 74, f 75, f 76, f 77, f 78, f 79, f 80, f 81, f 82, f 83, f 84, f 85, f 86, f 87, f 88, f 89, f 90, f 91, f 92, f 93, f 94, f 95, f 96, f 97, f 98, f 99, f 100, f 101, f 102, f 103, f 104, f 105] from by kernel_rfl), f1, f2, f3, f7, f8, f43]
  clear f1 f2 f3 f7 f8 f43
  clear e0
  try dsimp only
  clear h1 h2 h3 h7 h8 q43 hM HS t1 t0 M
  go_wp2_with fail
  have hbel := hS.1
  clear hS
  go_wp2_with fail
  exact ⟨rfl, .bool true, by kernel_rfl, rfl, hbel⟩
set_option maxHeartbeats 8000000 in
set_option maxRecDepth 100000 in
theorem codecPages_kind {n0 n1 n2 n3 n4 n5 k n : Int} (hg : good n0 n1 n2 n3 n4 n5 = true) (hk1 : k ≠ 1) (hk2 : k ≠ 2) (w : World) : Calls Tryd.prog 7 #[.agg #[.int .i64 n0, .int .i64 n1, .int .i64 n2, .int .i64 n3, .int .i64 n4, .int .i64 n5], .int .i64 k, .int .i64 n] w (fun e w' => e = .returned (.bool true) ∧ Below w.heap.size w w') := by
  have hS := conf_start n0 n1 n2 n3 n4 n5 w
  have HG := Lib.hid hg
  have HK1 := Lib.hid hk1
  have HK2 := Lib.hid hk2
  clear hg hk1 hk2
  go_enter Tryd.func7, Tryd.ntmps7
  go_wp2_with ((with_reducible refine guard_list ?_); first | (refine held_fn _ _ _ rfl ?_))
  change Held (wpList _ _ _ _ _ (w.alloc (.cells #[.int .i64 n0, .int .i64 n1, .int .i64 n2, .int .i64 n3, .int .i64 n4, .int .i64 n5] 23)))
  generalize w.alloc (.cells #[.int .i64 n0, .int .i64 n1, .int .i64 n2, .int .i64 n3, .int .i64 n4, .int .i64 n5] 23) = w0 at hS ⊢
  obtain ⟨M, hM⟩ : ∃ M, M = w0.heap.size := ⟨_, rfl⟩
  refine hide_held fun t0 HT => ?_
  have HS : t0.size = 106 := by rw [HT]; rfl
  have h1 : t0[1]? = some (.int .i64 k) := by rw [HT]; rfl
  have h2 : t0[2]? = some (.int .i64 n) := by rw [HT]; rfl
  have h3 : t0[3]? = some (.pointer (some ⟨w.heap.size, 0, none⟩)) := by rw [HT]; rfl
  clear HT
  refine wp_list_all 1 (fun i => [14, 15].getD i 0) (fun i => [(· = .bool true), (· = .bool false)].getD i (fun _ => True)) (fun w' => Own w [(w.heap.size, 6, (· = .agg #[.int .i64 n0, .int .i64 n1, .int .i64 n2, .int .i64 n3, .int .i64 n4, .int .i64 n5]))] w' ∧ M ≤ w'.heap.size)
    (by kernel_rfl) (by kernel_rfl) (slots_apart (by kernel_rfl)) (slots_lie (by rw [HS]; kernel_rfl)) ⟨hS, Nat.le_of_eq hM⟩ (fun w1 w2 h b => ⟨h.1.keep b, Nat.le_trans h.2 b.size⟩) ?_ ?_
  · clear hS
    intro i o hi ho
    have hc : i = 0 ∨ i = 1 := by omega
    rcases hc with rfl | rfl
    · obtain rfl := Option.some.inj ho
      refine ⟨rfl, fun a w' hS hold hin K hK => ?_⟩
      refine if_always rfl ?_
      exact op_fn0 _  _  rfl rfl  (by intro args w; kernel_rfl) (awake_ev _) hK
    · obtain rfl := Option.some.inj ho
      refine ⟨rfl, fun a w' hS hold hin K hK => ?_⟩
      obtain ⟨y0, x0, rfl⟩ := hin 0 rfl (by omega)
      refine if_always rfl ?_
      exact op_un (V := (· = .bool false)) _ _ _ _ (.bool false) rfl rfl (eval_tmp x0) (fun w => by kernel_rfl) rfl hK
  clear hS
  intro t1 V1 hs hold hout hS
  replace HS := hs.trans HS
  replace hS := hS.1
  obtain ⟨_, q15, rfl⟩ : ∃ x, t1[15]? = some x ∧ x = (.bool false : Value) := hout 1 (by omega)
  replace h1 := (hold 1 (slots_not (by kernel_rfl))).trans h1
  replace h2 := (hold 2 (slots_not (by kernel_rfl))).trans h2
  replace h3 := (hold 3 (slots_not (by kernel_rfl))).trans h3
  clear hold hout hs
  obtain ⟨f, e0, hf⟩ := wash HS
  have f1 := hf 1 _ h1
  have f2 := hf 2 _ h2
  have f3 := hf 3 _ h3
  have f15 := hf 15 _ q15
  clear hf
  rw [e0.trans (show _ = #[f 0, f 1, f 2, f 3, f 4, f 5, f 6, f 7, f 8, f 9, f 10, f 11, f 12, f 13, f 14, f 15, f 16, f 17, f 18, f 19, f 20, f 21, f 22, f 23, f 24, f 25, f 26, f 27, f 28, f 29, f 30, f 31, f 32, f 33, f 34, f 35, f 36, f 37, f 38, f 39, f 40, f 41, f 42, f 43, f 44, f 45, f 46, f 47, f 48, f 49, f 50, f 51, f 52, f 53, f 54, f 55, f 56, f 57, f 58, f 59, f 60, f 61, f 62, f 63, f 64, f 65, f 66, f 67, f 68, f 69, f 70, f 71, f 72, f 73, f 74, f 75, f 76, f 77, f 78, f 79, f 80, f 81, f 82, f 83, f 84, f 85, f 86, f 87, f 88, f 89, f 90, f 91, f 92, f 93, f 94, f 95, f 96, f 97, f 98, f 99, f 100, f 101, f 102, f 103, f 104, f 105] from by kernel_rfl), f1, f2, f3, f15]
  clear f1 f2 f3 f15
  clear e0
  try dsimp only
  clear h1 h2 h3 q15 hM HS t1 t0 M
  go_wp2_with ((with_reducible refine guard_list ?_); first | (refine held_load 23 _ rfl ?_))
  obtain ⟨M, hM⟩ : ∃ M, M = V1.heap.size := ⟨_, rfl⟩
  refine hide_held fun t0 HT => ?_
  have HS : t0.size = 106 := by rw [HT]; rfl
  have h1 : t0[1]? = some (.int .i64 k) := by rw [HT]; rfl
  have h2 : t0[2]? = some (.int .i64 n) := by rw [HT]; rfl
  have h3 : t0[3]? = some (.pointer (some ⟨w.heap.size, 0, none⟩)) := by rw [HT]; rfl
  clear HT
  refine wp_list_most 7 (fun i => [17, 18, 19, 20, 16, 21, 22].getD i 0) (fun _ => none) (fun i => [(· = .agg #[.int .i64 n0, .int .i64 n1, .int .i64 n2, .int .i64 n3, .int .i64 n4, .int .i64 n5]), (· = .int .i64 k), (· = .int .i64 n), (· = .tuple #[.int .i64 0, .int .i64 253]), (· = .tuple #[.int .i64 0, .int .i64 253]), (· = .int .i64 0), (· = .int .i64 253)].getD i (fun _ => True)) (fun w' => Own w [(w.heap.size, 6, (· = .agg #[.int .i64 n0, .int .i64 n1, .int .i64 n2, .int .i64 n3, .int .i64 n4, .int .i64 n5]))] w' ∧ M ≤ w'.heap.size) M
    (by kernel_rfl) (slots_apart (by kernel_rfl)) (slots_lie (by rw [HS]; kernel_rfl)) ⟨hS, Nat.le_of_eq hM⟩ (fun w' h => h.2) (fun w1 w2 h b => ⟨h.1.keep b, Nat.le_trans h.2 b.size⟩) ?_ ?_ ?_
  · clear hS
    intro i o hi ho hA
    have hc : i = 0 ∨ i = 1 ∨ i = 2 ∨ i = 3 ∨ i = 4 ∨ i = 5 ∨ i = 6 := by omega
    rcases hc with rfl | rfl | rfl | rfl | rfl | rfl | rfl
    · obtain rfl := Option.some.inj ho
      refine ⟨rfl, fun a w' hS hold hin K hK => ?_⟩
      refine if_always rfl ?_
      exact op_ld_own 6 tConf (.tmp 3) rfl rfl _ (eval_tmp ((hold 3 (slots_not (by kernel_rfl))).trans h3)) hS.1 0 rfl hK
    · obtain rfl := Option.some.inj ho
      refine ⟨rfl, fun a w' hS hold hin K hK => ?_⟩
      refine if_always rfl ?_
      exact op_move (V := (· = .int .i64 k)) _ _ rfl rfl (eval_tmp ((hold 1 (slots_not (by kernel_rfl))).trans h1)) rfl hK
    · obtain rfl := Option.some.inj ho
      refine ⟨rfl, fun a w' hS hold hin K hK => ?_⟩
      refine if_always rfl ?_
      exact op_move (V := (· = .int .i64 n)) _ _ rfl rfl (eval_tmp ((hold 2 (slots_not (by kernel_rfl))).trans h2)) rfl hK
    · obtain rfl := Option.some.inj ho
      refine ⟨rfl, fun a w' hS hold hin K hK => ?_⟩
      obtain ⟨y0, x0, rfl⟩ := hin 0 rfl (by omega) rfl
      obtain ⟨y1, x1, rfl⟩ := hin 1 rfl (by omega) rfl
      obtain ⟨y2, x2, rfl⟩ := hin 2 rfl (by omega) rfl
      refine if_always rfl ?_
      exact op_fn3 _ _ _ _ _ _ _ _ rfl rfl (eval_tmp x0) (eval_tmp x1) (eval_tmp x2) (by intro args w; kernel_rfl) (pages_bad (rq := 0) (rp := 0) (rc := 0) (er := 253) (by unfold msr; rw [if_pos HG.out, if_neg HK1.out, if_neg HK2.out]) (by decide) _) hK
    · obtain rfl := Option.some.inj ho
      refine ⟨rfl, fun a w' hS hold hin K hK => ?_⟩
      obtain ⟨y3, x3, rfl⟩ := hin 3 rfl (by omega) rfl
      refine if_always rfl ?_
      exact op_move (V := (· = .tuple #[.int .i64 0, .int .i64 253])) _ _ rfl rfl (eval_tmp x3) rfl hK
    · obtain rfl := Option.some.inj ho
      refine ⟨rfl, fun a w' hS hold hin K hK => ?_⟩
      obtain ⟨y4, x4, rfl⟩ := hin 4 rfl (by omega) rfl
      refine if_always rfl ?_
      exact op_tup0 (V := (· = .int .i64 0)) _ rfl rfl (eval_tmp x4) rfl hK
    · obtain rfl := Option.some.inj ho
      refine ⟨rfl, fun a w' hS hold hin K hK => ?_⟩
      obtain ⟨y4, x4, rfl⟩ := hin 4 rfl (by omega) rfl
      refine if_always rfl ?_
      exact op_tup1 (V := (· = .int .i64 253)) _ rfl rfl (eval_tmp x4) rfl hK
  · intro i o sz hi ho hA; cases hA
  clear hS
  intro t1 V2 hs hold hout hall hne hS
  replace HS := hs.trans HS
  replace hS := hS.1
  obtain ⟨x21, q21, v21⟩ : ∃ x, t1[21]? = some x ∧ ((· = .int .i64 0)) x := hout 5 (by omega) rfl
  replace q21 : t1[21]? = some (.int .i64 0) := q21.trans (congrArg some v21)
  obtain ⟨x22, q22, v22⟩ : ∃ x, t1[22]? = some x ∧ ((· = .int .i64 253)) x := hout 6 (by omega) rfl
  replace q22 : t1[22]? = some (.int .i64 253) := q22.trans (congrArg some v22)
  replace h1 := (hold 1 (slots_not (by kernel_rfl))).trans h1
  replace h2 := (hold 2 (slots_not (by kernel_rfl))).trans h2
  replace h3 := (hold 3 (slots_not (by kernel_rfl))).trans h3
  clear hold hout hs hall hne
  simp only [List.drop_succ_cons, List.drop_zero]
  refine tlx_assign (.tmp 21) rfl rfl 7 rfl (by rw [HS]; decide) (.int .i64 0) (eval_tmp q21) fun t1 ex0 hz hq he => ?_
  replace h1 := (he 1 (by decide)).trans h1
  replace h2 := (he 2 (by decide)).trans h2
  replace h3 := (he 3 (by decide)).trans h3
  replace q21 := (he 21 (by decide)).trans q21
  replace q22 := (he 22 (by decide)).trans q22
  replace HS := hz.trans HS
  clear hz he ex0
  have h7 := hq
  clear hq
  refine tlx_assign (.tmp 22) rfl rfl 8 rfl (by rw [HS]; decide) (.int .i64 253) (eval_tmp q22) fun t1 ex1 hz hq he => ?_
  replace h1 := (he 1 (by decide)).trans h1
  replace h2 := (he 2 (by decide)).trans h2
  replace h3 := (he 3 (by decide)).trans h3
  replace h7 := (he 7 (by decide)).trans h7
  replace q21 := (he 21 (by decide)).trans q21
  replace q22 := (he 22 (by decide)).trans q22
  replace HS := hz.trans HS
  clear hz he ex1
  have h8 := hq
  clear hq
  refine wpList_nil ?_
  obtain ⟨f, e0, hf⟩ := wash HS
  have f1 := hf 1 _ h1
  have f2 := hf 2 _ h2
  have f3 := hf 3 _ h3
  have f7 := hf 7 _ h7
  have f8 := hf 8 _ h8
  clear hf
  rw [e0.trans (show _ = #[f 0, f 1, f 2, f 3, f 4, f 5, f 6, f 7, f 8, f 9, f 10, f 11, f 12, f 13, f 14, f 15, f 16, f 17, f 18, f 19, f 20, f 21, f 22, f 23, f 24, f 25, f 26, f 27, f 28, f 29, f 30, f 31, f 32, f 33, f 34, f 35, f 36, f 37, f 38, f 39, f 40, f 41, f 42, f 43, f 44, f 45, f 46, f 47, f 48, f 49, f 50, f 51, f 52, f 53, f 54, f 55, f 56, f 57, f 58, f 59, f 60, f 61, f 62, f 63, f 64, f 65, f 66, f 67, f 68, f 69, f 70, f 71, f 72, f 73, f 74, f 75, f 76, f 77, f 78, f 79, f 80, f 81, f 82, f 83, f 84, f 85, f 86, f 87, f 88, f 89, f 90, f 91, f 92, f 93, f 94, f 95, f 96, f 97, f 98, f 99, f 100, f 101, f 102, f 103, f 104, f 105] from by kernel_rfl), f1, f2, f3, f7, f8]
  clear f1 f2 f3 f7 f8
  clear e0
  try dsimp only
  clear h1 h2 h3 h7 h8 q21 q22 v21 v22 hM HS t1 t0 M
  go_wp2_with ((with_reducible refine guard_list ?_); first | (refine held_load 23 _ rfl ?_))
  obtain ⟨M, hM⟩ : ∃ M, M = V2.heap.size := ⟨_, rfl⟩
  refine hide_held fun t0 HT => ?_
  have HS : t0.size = 106 := by rw [HT]; rfl
  have h1 : t0[1]? = some (.int .i64 k) := by rw [HT]; rfl
  have h2 : t0[2]? = some (.int .i64 n) := by rw [HT]; rfl
  have h3 : t0[3]? = some (.pointer (some ⟨w.heap.size, 0, none⟩)) := by rw [HT]; rfl
  have h7 : t0[7]? = some (.int .i64 0) := by rw [HT]; rfl
  have h8 : t0[8]? = some (.int .i64 253) := by rw [HT]; rfl
  clear HT
  refine wp_list_all 20 (fun i => [23, 24, 25, 26, 27, 28, 29, 30, 31, 32, 33, 34, 35, 36, 37, 38, 39, 40, 41, 42, 43].getD i 0) (fun i => [(· = .agg #[.int .i64 n0, .int .i64 n1, .int .i64 n2, .int .i64 n3, .int .i64 n4, .int .i64 n5]), (· = .int .i64 0), (· = .bool false), (· = .bool false), (· = .int .i64 k), (· = .bool true), (· = .bool true), (· = .int .i64 k), (· = .bool true), (· = .bool true), (· = .bool true), (· = .bool true), (· = undef), (· = undef), (· = .bool true), (· = .bool true), (· = undef), (· = undef), (· = undef), (· = undef), (· = .bool true)].getD i (fun _ => True)) (fun w' => Own w [(w.heap.size, 6, (· = .agg #[.int .i64 n0, .int .i64 n1, .int .i64 n2, .int .i64 n3, .int .i64 n4, .int .i64 n5]))] w' ∧ M ≤ w'.heap.size)
    (by kernel_rfl) (by kernel_rfl) (slots_apart (by kernel_rfl)) (slots_lie (by rw [HS]; kernel_rfl)) ⟨hS, Nat.le_of_eq hM⟩ (fun w1 w2 h b => ⟨h.1.keep b, Nat.le_trans h.2 b.size⟩) ?_ ?_
  · clear hS
    intro i o hi ho
    have hc : i = 0 ∨ i = 1 ∨ i = 2 ∨ i = 3 ∨ i = 4 ∨ i = 5 ∨ i = 6 ∨ i = 7 ∨ i = 8 ∨ i = 9 ∨ i = 10 ∨ i = 11 ∨ i = 12 ∨ i = 13 ∨ i = 14 ∨ i = 15 ∨ i = 16 ∨ i = 17 ∨ i = 18 ∨ i = 19 ∨ i = 20 := by omega
    rcases hc with rfl | rfl | rfl | rfl | rfl | rfl | rfl | rfl | rfl | rfl | rfl | rfl | rfl | rfl | rfl | rfl | rfl | rfl | rfl | rfl | rfl
    · obtain rfl := Option.some.inj ho
      refine ⟨rfl, fun a w' hS hold hin K hK => ?_⟩
      refine if_always rfl ?_
      exact op_ld_own 6 tConf (.tmp 3) rfl rfl _ (eval_tmp ((hold 3 (slots_not (by kernel_rfl))).trans h3)) hS.1 0 rfl hK
    · obtain rfl := Option.some.inj ho
      refine ⟨rfl, fun a w' hS hold hin K hK => ?_⟩
      obtain ⟨y0, x0, rfl⟩ := hin 0 rfl (by omega)
      refine if_always rfl ?_
      exact op_fn1 _ _ _ _ rfl rfl (eval_tmp x0) (by intro args w; kernel_rfl) (chk_yes HG.out _) hK
    · obtain rfl := Option.some.inj ho
      refine ⟨rfl, fun a w' hS hold hin K hK => ?_⟩
      obtain ⟨y1, x1, rfl⟩ := hin 1 rfl (by omega)
      refine if_always rfl ?_
      exact op_bin (V := (· = .bool false)) _ _ _ _ _ _ _ (.bool false) rfl rfl (eval_tmp x1) rfl (fun w => by kernel_rfl) rfl hK
    · obtain rfl := Option.some.inj ho
      refine ⟨rfl, fun a w' hS hold hin K hK => ?_⟩
      obtain ⟨y2, x2, rfl⟩ := hin 2 rfl (by omega)
      refine if_always rfl ?_
      exact op_move (V := (· = .bool false)) _ _ rfl rfl (eval_tmp x2) rfl hK
    · obtain rfl := Option.some.inj ho
      refine ⟨rfl, fun a w' hS hold hin K hK => ?_⟩
      obtain ⟨y3, x3, rfl⟩ := hin 3 rfl (by omega)
      refine if_guard (d := 26) rfl rfl x3 ?_
      exact op_move (V := (· = .int .i64 k)) _ _ rfl rfl (eval_tmp ((hold 1 (slots_not (by kernel_rfl))).trans h1)) rfl hK
    · obtain rfl := Option.some.inj ho
      refine ⟨rfl, fun a w' hS hold hin K hK => ?_⟩
      obtain ⟨y3, x3, rfl⟩ := hin 3 rfl (by omega)
      obtain ⟨y4, x4, rfl⟩ := hin 4 rfl (by omega)
      refine if_guard (d := 26) rfl rfl x3 ?_
      exact op_bin (V := (· = .bool true)) _ _ _ _ _ _ _ (.bool true) rfl rfl (eval_tmp x4) rfl (fun w => cmp_neq (decide_eq_true HK1.out) w) rfl hK
    · obtain rfl := Option.some.inj ho
      refine ⟨rfl, fun a w' hS hold hin K hK => ?_⟩
      obtain ⟨y3, x3, rfl⟩ := hin 3 rfl (by omega)
      obtain ⟨y5, x5, rfl⟩ := hin 5 rfl (by omega)
      refine if_guard (d := 26) rfl rfl x3 ?_
      exact op_move (V := (· = .bool true)) _ _ rfl rfl (eval_tmp x5) rfl hK
    · obtain rfl := Option.some.inj ho
      refine ⟨rfl, fun a w' hS hold hin K hK => ?_⟩
      obtain ⟨y6, x6, rfl⟩ := hin 6 rfl (by omega)
      refine if_guard (d := 29) rfl rfl x6 ?_
      exact op_move (V := (· = .int .i64 k)) _ _ rfl rfl (eval_tmp ((hold 1 (slots_not (by kernel_rfl))).trans h1)) rfl hK
    · obtain rfl := Option.some.inj ho
      refine ⟨rfl, fun a w' hS hold hin K hK => ?_⟩
      obtain ⟨y6, x6, rfl⟩ := hin 6 rfl (by omega)
      obtain ⟨y7, x7, rfl⟩ := hin 7 rfl (by omega)
      refine if_guard (d := 29) rfl rfl x6 ?_
      exact op_bin (V := (· = .bool true)) _ _ _ _ _ _ _ (.bool true) rfl rfl (eval_tmp x7) rfl (fun w => cmp_neq (decide_eq_true HK2.out) w) rfl hK
    · obtain rfl := Option.some.inj ho
      refine ⟨rfl, fun a w' hS hold hin K hK => ?_⟩
      obtain ⟨y3, x3, rfl⟩ := hin 3 rfl (by omega)
      obtain ⟨y6, x6, rfl⟩ := hin 6 rfl (by omega)
      obtain ⟨y8, x8, rfl⟩ := hin 8 rfl (by omega)
      refine if_guard (d := 26) rfl rfl x3 ?_
      exact op_pick (V := (· = .bool true)) _ _ _ true _ rfl rfl (eval_tmp x6) (show (Act.eval a _) = _ from (eval_tmp x8)) rfl hK
    · obtain rfl := Option.some.inj ho
      refine ⟨rfl, fun a w' hS hold hin K hK => ?_⟩
      obtain ⟨y3, x3, rfl⟩ := hin 3 rfl (by omega)
      obtain ⟨y9, x9, rfl⟩ := hin 9 rfl (by omega)
      refine if_always rfl ?_
      exact op_pick (V := (· = .bool true)) _ _ _ false _ rfl rfl (eval_tmp x3) (show (Act.eval a _) = _ from (eval_tmp x9)) rfl hK
    · obtain rfl := Option.some.inj ho
      refine ⟨rfl, fun a w' hS hold hin K hK => ?_⟩
      obtain ⟨y10, x10, rfl⟩ := hin 10 rfl (by omega)
      refine if_always rfl ?_
      exact op_move (V := (· = .bool true)) _ _ rfl rfl (eval_tmp x10) rfl hK
    · obtain rfl := Option.some.inj ho
      refine ⟨rfl, fun a w' hS hold hin K hK => ?_⟩
      obtain ⟨y11, x11, rfl⟩ := hin 11 rfl (by omega)
      exact if_guard_off (d := 34) rfl rfl x11 (by decide) (hK _ _ rfl (Below.refl _ _))
    · obtain rfl := Option.some.inj ho
      refine ⟨rfl, fun a w' hS hold hin K hK => ?_⟩
      obtain ⟨y11, x11, rfl⟩ := hin 11 rfl (by omega)
      exact if_guard_off (d := 34) rfl rfl x11 (by decide) (hK _ _ rfl (Below.refl _ _))
    · obtain rfl := Option.some.inj ho
      refine ⟨rfl, fun a w' hS hold hin K hK => ?_⟩
      obtain ⟨y11, x11, rfl⟩ := hin 11 rfl (by omega)
      refine if_always rfl ?_
      exact op_pick (V := (· = .bool true)) _ _ _ true _ rfl rfl (eval_tmp x11) (show Act.eval a (.const (.bool true)) = (.bool true) from rfl) rfl hK
    · obtain rfl := Option.some.inj ho
      refine ⟨rfl, fun a w' hS hold hin K hK => ?_⟩
      obtain ⟨y14, x14, rfl⟩ := hin 14 rfl (by omega)
      refine if_always rfl ?_
      exact op_move (V := (· = .bool true)) _ _ rfl rfl (eval_tmp x14) rfl hK
    · obtain rfl := Option.some.inj ho
      refine ⟨rfl, fun a w' hS hold hin K hK => ?_⟩
      obtain ⟨y15, x15, rfl⟩ := hin 15 rfl (by omega)
      exact if_guard_off (d := 38) rfl rfl x15 (by decide) (hK _ _ rfl (Below.refl _ _))
    · obtain rfl := Option.some.inj ho
      refine ⟨rfl, fun a w' hS hold hin K hK => ?_⟩
      obtain ⟨y15, x15, rfl⟩ := hin 15 rfl (by omega)
      exact if_guard_off (d := 38) rfl rfl x15 (by decide) (hK _ _ rfl (Below.refl _ _))
    · obtain rfl := Option.some.inj ho
      refine ⟨rfl, fun a w' hS hold hin K hK => ?_⟩
      obtain ⟨y15, x15, rfl⟩ := hin 15 rfl (by omega)
      exact if_guard_off (d := 38) rfl rfl x15 (by decide) (hK _ _ rfl (Below.refl _ _))
    · obtain rfl := Option.some.inj ho
      refine ⟨rfl, fun a w' hS hold hin K hK => ?_⟩
      obtain ⟨y15, x15, rfl⟩ := hin 15 rfl (by omega)
      exact if_guard_off (d := 38) rfl rfl x15 (by decide) (hK _ _ rfl (Below.refl _ _))
    · obtain rfl := Option.some.inj ho
      refine ⟨rfl, fun a w' hS hold hin K hK => ?_⟩
      obtain ⟨y15, x15, rfl⟩ := hin 15 rfl (by omega)
      refine if_always rfl ?_
      exact op_pick (V := (· = .bool true)) _ _ _ true _ rfl rfl (eval_tmp x15) (show Act.eval a (.const (.bool true)) = (.bool true) from rfl) rfl hK
  clear hS
  intro t1 V3 hs hold hout hS
  replace HS := hs.trans HS
  replace hS := hS.1
  obtain ⟨_, q43, rfl⟩ : ∃ x, t1[43]? = some x ∧ x = (.bool true : Value) := hout 20 (by omega)
  replace h1 := (hold 1 (slots_not (by kernel_rfl))).trans h1
  replace h2 := (hold 2 (slots_not (by kernel_rfl))).trans h2
  replace h3 := (hold 3 (slots_not (by kernel_rfl))).trans h3
  replace h7 := (hold 7 (slots_not (by kernel_rfl))).trans h7
  replace h8 := (hold 8 (slots_not (by kernel_rfl))).trans h8
  clear hold hout hs
  obtain ⟨f, e0, hf⟩ := wash HS
  have f1 := hf 1 _ h1
  have f2 := hf 2 _ h2
  have f3 := hf 3 _ h3
  have f7 := hf 7 _ h7
  have f8 := hf 8 _ h8
  have f43 := hf 43 _ q43
  clear hf
  rw [e0.trans (show _ = #[f 0, f 1, f 2, f 3, f 4, f 5, f 6, f 7, f 8, f 9, f 10, f 11, f 12, f 13, f 14, f 15, f 16, f 17, f 18, f 19, f 20, f 21, f 22, f 23, f 24, f 25, f 26, f 27, f 28, f 29, f 30, f 31, f 32, f 33, f 34, f 35, f 36, f 37, f 38, f 39, f 40, f 41, f 42, f 43, f 44, f 45, f 46, f 47, f 48, f 49, f 50, f 51, f 52, f 53, f 54, f 55, f 56, f 57, f 58, f 59, f 60, f 61, f 62, f 63, f 64, f 65, f 66, f 67, f 68, f 69, f 70, f 71, f 72, f 73, f 74, f 75, f 76, f 77, f 78, f 79, f 80, f 81, f 82, f 83, f 84, f 85, f 86, f 87, f 88, f 89, f 90, f 91, f 92, f 93, f 94, f 95, f 96, f 97, f 98, f 99, f 100, f 101, f 102, f 103, f 104, f 105] from by kernel_rfl), f1, f2, f3, f7, f8, f43]
  clear f1 f2 f3 f7 f8 f43
  clear e0
  try dsimp only
  clear h1 h2 h3 h7 h8 q43 hM HS t1 t0 M
  go_wp2_with fail
  have hbel := hS.1
  clear hS
  go_wp2_with fail
  exact ⟨rfl, .bool true, by kernel_rfl, rfl, hbel⟩
set_option maxHeartbeats 8000000 in
set_option maxRecDepth 100000 in
theorem codecPages_negt {n0 n1 n2 n3 n4 n5 k n : Int} (hg : good n0 n1 n2 n3 n4 n5 = true) (hk : k = 1) (hn : n < 0) (w : World) : Calls Tryd.prog 7 #[.agg #[.int .i64 n0, .int .i64 n1, .int .i64 n2, .int .i64 n3, .int .i64 n4, .int .i64 n5], .int .i64 k, .int .i64 n] w (fun e w' => e = .returned (.bool true) ∧ Below w.heap.size w w') := by
  have hS := conf_start n0 n1 n2 n3 n4 n5 w
  have HG := Lib.hid hg
  have HK := Lib.hid hk
  have HN := Lib.hid hn
  clear hg hk hn
  go_enter Tryd.func7, Tryd.ntmps7
  go_wp2_with ((with_reducible refine guard_list ?_); first | (refine held_fn _ _ _ rfl ?_))
  change Held (wpList _ _ _ _ _ (w.alloc (.cells #[.int .i64 n0, .int .i64 n1, .int .i64 n2, .int .i64 n3, .int .i64 n4, .int .i64 n5] 23)))
  generalize w.alloc (.cells #[.int .i64 n0, .int .i64 n1, .int .i64 n2, .int .i64 n3, .int .i64 n4, .int .i64 n5] 23) = w0 at hS ⊢
  obtain ⟨M, hM⟩ : ∃ M, M = w0.heap.size := ⟨_, rfl⟩
  refine hide_held fun t0 HT => ?_
  have HS : t0.size = 106 := by rw [HT]; rfl
  have h1 : t0[1]? = some (.int .i64 k) := by rw [HT]; rfl
  have h2 : t0[2]? = some (.int .i64 n) := by rw [HT]; rfl
  have h3 : t0[3]? = some (.pointer (some ⟨w.heap.size, 0, none⟩)) := by rw [HT]; rfl
  clear HT
  refine wp_list_all 1 (fun i => [14, 15].getD i 0) (fun i => [(· = .bool true), (· = .bool false)].getD i (fun _ => True)) (fun w' => Own w [(w.heap.size, 6, (· = .agg #[.int .i64 n0, .int .i64 n1, .int .i64 n2, .int .i64 n3, .int .i64 n4, .int .i64 n5]))] w' ∧ M ≤ w'.heap.size)
    (by kernel_rfl) (by kernel_rfl) (slots_apart (by kernel_rfl)) (slots_lie (by rw [HS]; kernel_rfl)) ⟨hS, Nat.le_of_eq hM⟩ (fun w1 w2 h b => ⟨h.1.keep b, Nat.le_trans h.2 b.size⟩) ?_ ?_
  · clear hS
    intro i o hi ho
    have hc : i = 0 ∨ i = 1 := by omega
    rcases hc with rfl | rfl
    · obtain rfl := Option.some.inj ho
      refine ⟨rfl, fun a w' hS hold hin K hK => ?_⟩
      refine if_always rfl ?_
      exact op_fn0 _  _  rfl rfl  (by intro args w; kernel_rfl) (awake_ev _) hK
    · obtain rfl := Option.some.inj ho
      refine ⟨rfl, fun a w' hS hold hin K hK => ?_⟩
      obtain ⟨y0, x0, rfl⟩ := hin 0 rfl (by omega)
      refine if_always rfl ?_
      exact op_un (V := (· = .bool false)) _ _ _ _ (.bool false) rfl rfl (eval_tmp x0) (fun w => by kernel_rfl) rfl hK
  clear hS
  intro t1 V1 hs hold hout hS
  replace HS := hs.trans HS
  replace hS := hS.1
  obtain ⟨_, q15, rfl⟩ : ∃ x, t1[15]? = some x ∧ x = (.bool false : Value) := hout 1 (by omega)
  replace h1 := (hold 1 (slots_not (by kernel_rfl))).trans h1
  replace h2 := (hold 2 (slots_not (by kernel_rfl))).trans h2
  replace h3 := (hold 3 (slots_not (by kernel_rfl))).trans h3
  clear hold hout hs
  obtain ⟨f, e0, hf⟩ := wash HS
  have f1 := hf 1 _ h1
  have f2 := hf 2 _ h2
  have f3 := hf 3 _ h3
  have f15 := hf 15 _ q15
  clear hf
  rw [e0.trans (show _ = #[f 0, f 1, f 2, f 3, f 4, f 5, f 6, f 7, f 8, f 9, f 10, f 11, f 12, f 13, f 14, f 15, f 16, f 17, f 18, f 19, f 20, f 21, f 22, f 23, f 24, f 25, f 26, f 27, f 28, f 29, f 30, f 31, f 32, f 33, f 34, f 35, f 36, f 37, f 38, f 39, f 40, f 41, f 42, f 43, f 44, f 45, f 46, f 47, f 48, f 49, f 50, f 51, f 52, f 53, f 54, f 55, f 56, f 57, f 58, f 59, f 60, f 61, f 62, f 63, f 64, f 65, f 66, f 67, f 68, f 69, f 70, f 71, f 72, f 73, f 74, f 75, f 76, f 77, f 78, f 79, f 80, f 81, f 82, f 83, f 84, f 85, f 86, f 87, f 88, f 89, f 90, f 91, f 92, f 93, f 94, f 95, f 96, f 97, f 98, f 99, f 100, f 101, f 102, f 103, f 104, f 105] from by kernel_rfl), f1, f2, f3, f15]
  clear f1 f2 f3 f15
  clear e0
  try dsimp only
  clear h1 h2 h3 q15 hM HS t1 t0 M
  go_wp2_with ((with_reducible refine guard_list ?_); first | (refine held_load 23 _ rfl ?_))
  obtain ⟨M, hM⟩ : ∃ M, M = V1.heap.size := ⟨_, rfl⟩
  refine hide_held fun t0 HT => ?_
  have HS : t0.size = 106 := by rw [HT]; rfl
  have h1 : t0[1]? = some (.int .i64 k) := by rw [HT]; rfl
  have h2 : t0[2]? = some (.int .i64 n) := by rw [HT]; rfl
  have h3 : t0[3]? = some (.pointer (some ⟨w.heap.size, 0, none⟩)) := by rw [HT]; rfl
  clear HT
  refine wp_list_most 7 (fun i => [17, 18, 19, 20, 16, 21, 22].getD i 0) (fun _ => none) (fun i => [(· = .agg #[.int .i64 n0, .int .i64 n1, .int .i64 n2, .int .i64 n3, .int .i64 n4, .int .i64 n5]), (· = .int .i64 k), (· = .int .i64 n), (· = .tuple #[.int .i64 0, .int .i64 2]), (· = .tuple #[.int .i64 0, .int .i64 2]), (· = .int .i64 0), (· = .int .i64 2)].getD i (fun _ => True)) (fun w' => Own w [(w.heap.size, 6, (· = .agg #[.int .i64 n0, .int .i64 n1, .int .i64 n2, .int .i64 n3, .int .i64 n4, .int .i64 n5]))] w' ∧ M ≤ w'.heap.size) M
    (by kernel_rfl) (slots_apart (by kernel_rfl)) (slots_lie (by rw [HS]; kernel_rfl)) ⟨hS, Nat.le_of_eq hM⟩ (fun w' h => h.2) (fun w1 w2 h b => ⟨h.1.keep b, Nat.le_trans h.2 b.size⟩) ?_ ?_ ?_
  · clear hS
    intro i o hi ho hA
    have hc : i = 0 ∨ i = 1 ∨ i = 2 ∨ i = 3 ∨ i = 4 ∨ i = 5 ∨ i = 6 := by omega
    rcases hc with rfl | rfl | rfl | rfl | rfl | rfl | rfl
    · obtain rfl := Option.some.inj ho
      refine ⟨rfl, fun a w' hS hold hin K hK => ?_⟩
      refine if_always rfl ?_
      exact op_ld_own 6 tConf (.tmp 3) rfl rfl _ (eval_tmp ((hold 3 (slots_not (by kernel_rfl))).trans h3)) hS.1 0 rfl hK
    · obtain rfl := Option.some.inj ho
      refine ⟨rfl, fun a w' hS hold hin K hK => ?_⟩
      refine if_always rfl ?_
      exact op_move (V := (· = .int .i64 k)) _ _ rfl rfl (eval_tmp ((hold 1 (slots_not (by kernel_rfl))).trans h1)) rfl hK
    · obtain rfl := Option.some.inj ho
      refine ⟨rfl, fun a w' hS hold hin K hK => ?_⟩
      refine if_always rfl ?_
      exact op_move (V := (· = .int .i64 n)) _ _ rfl rfl (eval_tmp ((hold 2 (slots_not (by kernel_rfl))).trans h2)) rfl hK
    · obtain rfl := Option.some.inj ho
      refine ⟨rfl, fun a w' hS hold hin K hK => ?_⟩
      obtain ⟨y0, x0, rfl⟩ := hin 0 rfl (by omega) rfl
      obtain ⟨y1, x1, rfl⟩ := hin 1 rfl (by omega) rfl
      obtain ⟨y2, x2, rfl⟩ := hin 2 rfl (by omega) rfl
      refine if_always rfl ?_
      exact op_fn3 _ _ _ _ _ _ _ _ rfl rfl (eval_tmp x0) (eval_tmp x1) (eval_tmp x2) (by intro args w; kernel_rfl) (pages_neg (show msr n0 n1 n2 n3 n4 n5 k = (16 + n1, 1 + n1, 26 + n1, 0) by unfold msr; rw [if_pos HG.out, if_pos HK.out]) HN.out _) hK
    · obtain rfl := Option.some.inj ho
      refine ⟨rfl, fun a w' hS hold hin K hK => ?_⟩
      obtain ⟨y3, x3, rfl⟩ := hin 3 rfl (by omega) rfl
      refine if_always rfl ?_
      exact op_move (V := (· = .tuple #[.int .i64 0, .int .i64 2])) _ _ rfl rfl (eval_tmp x3) rfl hK
    · obtain rfl := Option.some.inj ho
      refine ⟨rfl, fun a w' hS hold hin K hK => ?_⟩
      obtain ⟨y4, x4, rfl⟩ := hin 4 rfl (by omega) rfl
      refine if_always rfl ?_
      exact op_tup0 (V := (· = .int .i64 0)) _ rfl rfl (eval_tmp x4) rfl hK
    · obtain rfl := Option.some.inj ho
      refine ⟨rfl, fun a w' hS hold hin K hK => ?_⟩
      obtain ⟨y4, x4, rfl⟩ := hin 4 rfl (by omega) rfl
      refine if_always rfl ?_
      exact op_tup1 (V := (· = .int .i64 2)) _ rfl rfl (eval_tmp x4) rfl hK
  · intro i o sz hi ho hA; cases hA
  clear hS
  intro t1 V2 hs hold hout hall hne hS
  replace HS := hs.trans HS
  replace hS := hS.1
  obtain ⟨x21, q21, v21⟩ : ∃ x, t1[21]? = some x ∧ ((· = .int .i64 0)) x := hout 5 (by omega) rfl
  replace q21 : t1[21]? = some (.int .i64 0) := q21.trans (congrArg some v21)
  obtain ⟨x22, q22, v22⟩ : ∃ x, t1[22]? = some x ∧ ((· = .int .i64 2)) x := hout 6 (by omega) rfl
  replace q22 : t1[22]? = some (.int .i64 2) := q22.trans (congrArg some v22)
  replace h1 := (hold 1 (slots_not (by kernel_rfl))).trans h1
  replace h2 := (hold 2 (slots_not (by kernel_rfl))).trans h2
  replace h3 := (hold 3 (slots_not (by kernel_rfl))).trans h3
  clear hold hout hs hall hne
  simp only [List.drop_succ_cons, List.drop_zero]
  refine tlx_assign (.tmp 21) rfl rfl 7 rfl (by rw [HS]; decide) (.int .i64 0) (eval_tmp q21) fun t1 ex0 hz hq he => ?_
  replace h1 := (he 1 (by decide)).trans h1
  replace h2 := (he 2 (by decide)).trans h2
  replace h3 := (he 3 (by decide)).trans h3
  replace q21 := (he 21 (by decide)).trans q21
  replace q22 := (he 22 (by decide)).trans q22
  replace HS := hz.trans HS
  clear hz he ex0
  have h7 := hq
  clear hq
  refine tlx_assign (.tmp 22) rfl rfl 8 rfl (by rw [HS]; decide) (.int .i64 2) (eval_tmp q22) fun t1 ex1 hz hq he => ?_
  replace h1 := (he 1 (by decide)).trans h1
  replace h2 := (he 2 (by decide)).trans h2
  replace h3 := (he 3 (by decide)).trans h3
  replace h7 := (he 7 (by decide)).trans h7
  replace q21 := (he 21 (by decide)).trans q21
  replace q22 := (he 22 (by decide)).trans q22
  replace HS := hz.trans HS
  clear hz he ex1
  have h8 := hq
  clear hq
  refine wpList_nil ?_
  obtain ⟨f, e0, hf⟩ := wash HS
  have f1 := hf 1 _ h1
  have f2 := hf 2 _ h2
  have f3 := hf 3 _ h3
  have f7 := hf 7 _ h7
  have f8 := hf 8 _ h8
  clear hf
  rw [e0.trans (show _ = #[f 0, f 1, f 2, f 3, f 4, f 5, f 6, f 7, f 8, f 9, f 10, f 11, f 12, f 13, f 14, f 15, f 16, f 17, f 18, f 19, f 20, f 21, f 22, f 23, f 24, f 25, f 26, f 27, f 28, f 29, f 30, f 31, f 32, f 33, f 34, f 35, f 36, f 37, f 38, f 39, f 40, f 41, f 42, f 43, f 44, f 45, f 46, f 47, f 48, f 49, f 50, f 51, f 52, f 53, f 54, f 55, f 56, f 57, f 58, f 59, f 60, f 61, f 62, f 63, f 64, f 65, f 66, f 67, f 68, f 69, f 70, f 71, f 72, f 73, f 74, f 75, f 76, f 77, f 78, f 79, f 80, f 81, f 82, f 83, f 84, f 85, f 86, f 87, f 88, f 89, f 90, f 91, f 92, f 93, f 94, f 95, f 96, f 97, f 98, f 99, f 100, f 101, f 102, f 103, f 104, f 105] from by kernel_rfl), f1, f2, f3, f7, f8]
  clear f1 f2 f3 f7 f8
  clear e0
  try dsimp only
  clear h1 h2 h3 h7 h8 q21 q22 v21 v22 hM HS t1 t0 M
  go_wp2_with ((with_reducible refine guard_list ?_); first | (refine held_load 23 _ rfl ?_))
  obtain ⟨M, hM⟩ : ∃ M, M = V2.heap.size := ⟨_, rfl⟩
  refine hide_held fun t0 HT => ?_
  have HS : t0.size = 106 := by rw [HT]; rfl
  have h1 : t0[1]? = some (.int .i64 k) := by rw [HT]; rfl
  have h2 : t0[2]? = some (.int .i64 n) := by rw [HT]; rfl
  have h3 : t0[3]? = some (.pointer (some ⟨w.heap.size, 0, none⟩)) := by rw [HT]; rfl
  have h7 : t0[7]? = some (.int .i64 0) := by rw [HT]; rfl
  have h8 : t0[8]? = some (.int .i64 2) := by rw [HT]; rfl
  clear HT
  refine wp_list_all 20 (fun i => [23, 24, 25, 26, 27, 28, 29, 30, 31, 32, 33, 34, 35, 36, 37, 38, 39, 40, 41, 42, 43].getD i 0) (fun i => [(· = .agg #[.int .i64 n0, .int .i64 n1, .int .i64 n2, .int .i64 n3, .int .i64 n4, .int .i64 n5]), (· = .int .i64 0), (· = .bool false), (· = .bool false), (· = .int .i64 k), (· = .bool false), (· = .bool false), (· = undef), (· = undef), (· = .bool false), (· = .bool false), (· = .bool false), (· = .int .i64 n), (· = .bool true), (· = .bool true), (· = .bool true), (· = undef), (· = undef), (· = undef), (· = undef), (· = .bool true)].getD i (fun _ => True)) (fun w' => Own w [(w.heap.size, 6, (· = .agg #[.int .i64 n0, .int .i64 n1, .int .i64 n2, .int .i64 n3, .int .i64 n4, .int .i64 n5]))] w' ∧ M ≤ w'.heap.size)
    (by kernel_rfl) (by kernel_rfl) (slots_apart (by kernel_rfl)) (slots_lie (by rw [HS]; kernel_rfl)) ⟨hS, Nat.le_of_eq hM⟩ (fun w1 w2 h b => ⟨h.1.keep b, Nat.le_trans h.2 b.size⟩) ?_ ?_
  · clear hS
    intro i o hi ho
    have hc : i = 0 ∨ i = 1 ∨ i = 2 ∨ i = 3 ∨ i = 4 ∨ i = 5 ∨ i = 6 ∨ i = 7 ∨ i = 8 ∨ i = 9 ∨ i = 10 ∨ i = 11 ∨ i = 12 ∨ i = 13 ∨ i = 14 ∨ i = 15 ∨ i = 16 ∨ i = 17 ∨ i = 18 ∨ i = 19 ∨ i = 20 := by omega
    rcases hc with rfl | rfl | rfl | rfl | rfl | rfl | rfl | rfl | rfl | rfl | rfl | rfl | rfl | rfl | rfl | rfl | rfl | rfl | rfl | rfl | rfl
    · obtain rfl := Option.some.inj ho
      refine ⟨rfl, fun a w' hS hold hin K hK => ?_⟩
      refine if_always rfl ?_
      exact op_ld_own 6 tConf (.tmp 3) rfl rfl _ (eval_tmp ((hold 3 (slots_not (by kernel_rfl))).trans h3)) hS.1 0 rfl hK
    · obtain rfl := Option.some.inj ho
      refine ⟨rfl, fun a w' hS hold hin K hK => ?_⟩
      obtain ⟨y0, x0, rfl⟩ := hin 0 rfl (by omega)
      refine if_always rfl ?_
      exact op_fn1 _ _ _ _ rfl rfl (eval_tmp x0) (by intro args w; kernel_rfl) (chk_yes HG.out _) hK
    · obtain rfl := Option.some.inj ho
      refine ⟨rfl, fun a w' hS hold hin K hK => ?_⟩
      obtain ⟨y1, x1, rfl⟩ := hin 1 rfl (by omega)
      refine if_always rfl ?_
      exact op_bin (V := (· = .bool false)) _ _ _ _ _ _ _ (.bool false) rfl rfl (eval_tmp x1) rfl (fun w => by kernel_rfl) rfl hK
    · obtain rfl := Option.some.inj ho
      refine ⟨rfl, fun a w' hS hold hin K hK => ?_⟩
      obtain ⟨y2, x2, rfl⟩ := hin 2 rfl (by omega)
      refine if_always rfl ?_
      exact op_move (V := (· = .bool false)) _ _ rfl rfl (eval_tmp x2) rfl hK
    · obtain rfl := Option.some.inj ho
      refine ⟨rfl, fun a w' hS hold hin K hK => ?_⟩
      obtain ⟨y3, x3, rfl⟩ := hin 3 rfl (by omega)
      refine if_guard (d := 26) rfl rfl x3 ?_
      exact op_move (V := (· = .int .i64 k)) _ _ rfl rfl (eval_tmp ((hold 1 (slots_not (by kernel_rfl))).trans h1)) rfl hK
    · obtain rfl := Option.some.inj ho
      refine ⟨rfl, fun a w' hS hold hin K hK => ?_⟩
      obtain ⟨y3, x3, rfl⟩ := hin 3 rfl (by omega)
      obtain ⟨y4, x4, rfl⟩ := hin 4 rfl (by omega)
      refine if_guard (d := 26) rfl rfl x3 ?_
      exact op_bin (V := (· = .bool false)) _ _ _ _ _ _ _ (.bool false) rfl rfl (eval_tmp x4) rfl (fun w => cmp_neq (decide_eq_false (by have := HK.out; omega)) w) rfl hK
    · obtain rfl := Option.some.inj ho
      refine ⟨rfl, fun a w' hS hold hin K hK => ?_⟩
      obtain ⟨y3, x3, rfl⟩ := hin 3 rfl (by omega)
      obtain ⟨y5, x5, rfl⟩ := hin 5 rfl (by omega)
      refine if_guard (d := 26) rfl rfl x3 ?_
      exact op_move (V := (· = .bool false)) _ _ rfl rfl (eval_tmp x5) rfl hK
    · obtain rfl := Option.some.inj ho
      refine ⟨rfl, fun a w' hS hold hin K hK => ?_⟩
      obtain ⟨y6, x6, rfl⟩ := hin 6 rfl (by omega)
      exact if_guard_off (d := 29) rfl rfl x6 (by decide) (hK _ _ rfl (Below.refl _ _))
    · obtain rfl := Option.some.inj ho
      refine ⟨rfl, fun a w' hS hold hin K hK => ?_⟩
      obtain ⟨y6, x6, rfl⟩ := hin 6 rfl (by omega)
      exact if_guard_off (d := 29) rfl rfl x6 (by decide) (hK _ _ rfl (Below.refl _ _))
    · obtain rfl := Option.some.inj ho
      refine ⟨rfl, fun a w' hS hold hin K hK => ?_⟩
      obtain ⟨y3, x3, rfl⟩ := hin 3 rfl (by omega)
      obtain ⟨y6, x6, rfl⟩ := hin 6 rfl (by omega)
      refine if_guard (d := 26) rfl rfl x3 ?_
      exact op_pick (V := (· = .bool false)) _ _ _ false _ rfl rfl (eval_tmp x6) (show Act.eval a (.const (.bool false)) = (.bool false) from rfl) rfl hK
    · obtain rfl := Option.some.inj ho
      refine ⟨rfl, fun a w' hS hold hin K hK => ?_⟩
      obtain ⟨y3, x3, rfl⟩ := hin 3 rfl (by omega)
      obtain ⟨y9, x9, rfl⟩ := hin 9 rfl (by omega)
      refine if_always rfl ?_
      exact op_pick (V := (· = .bool false)) _ _ _ false _ rfl rfl (eval_tmp x3) (show (Act.eval a _) = _ from (eval_tmp x9)) rfl hK
    · obtain rfl := Option.some.inj ho
      refine ⟨rfl, fun a w' hS hold hin K hK => ?_⟩
      obtain ⟨y10, x10, rfl⟩ := hin 10 rfl (by omega)
      refine if_always rfl ?_
      exact op_move (V := (· = .bool false)) _ _ rfl rfl (eval_tmp x10) rfl hK
    · obtain rfl := Option.some.inj ho
      refine ⟨rfl, fun a w' hS hold hin K hK => ?_⟩
      obtain ⟨y11, x11, rfl⟩ := hin 11 rfl (by omega)
      refine if_guard (d := 34) rfl rfl x11 ?_
      exact op_move (V := (· = .int .i64 n)) _ _ rfl rfl (eval_tmp ((hold 2 (slots_not (by kernel_rfl))).trans h2)) rfl hK
    · obtain rfl := Option.some.inj ho
      refine ⟨rfl, fun a w' hS hold hin K hK => ?_⟩
      obtain ⟨y11, x11, rfl⟩ := hin 11 rfl (by omega)
      obtain ⟨y12, x12, rfl⟩ := hin 12 rfl (by omega)
      refine if_guard (d := 34) rfl rfl x11 ?_
      exact op_bin (V := (· = .bool true)) _ _ _ _ _ _ _ (.bool true) rfl rfl (eval_tmp x12) rfl (fun w => cmp_lss (decide_eq_true HN.out) w) rfl hK
    · obtain rfl := Option.some.inj ho
      refine ⟨rfl, fun a w' hS hold hin K hK => ?_⟩
      obtain ⟨y11, x11, rfl⟩ := hin 11 rfl (by omega)
      obtain ⟨y13, x13, rfl⟩ := hin 13 rfl (by omega)
      refine if_always rfl ?_
      exact op_pick (V := (· = .bool true)) _ _ _ false _ rfl rfl (eval_tmp x11) (show (Act.eval a _) = _ from (eval_tmp x13)) rfl hK
    · obtain rfl := Option.some.inj ho
      refine ⟨rfl, fun a w' hS hold hin K hK => ?_⟩
      obtain ⟨y14, x14, rfl⟩ := hin 14 rfl (by omega)
      refine if_always rfl ?_
      exact op_move (V := (· = .bool true)) _ _ rfl rfl (eval_tmp x14) rfl hK
    · obtain rfl := Option.some.inj ho
      refine ⟨rfl, fun a w' hS hold hin K hK => ?_⟩
      obtain ⟨y15, x15, rfl⟩ := hin 15 rfl (by omega)
      exact if_guard_off (d := 38) rfl rfl x15 (by decide) (hK _ _ rfl (Below.refl _ _))
    · obtain rfl := Option.some.inj ho
      refine ⟨rfl, fun a w' hS hold hin K hK => ?_⟩
      obtain ⟨y15, x15, rfl⟩ := hin 15 rfl (by omega)
      exact if_guard_off (d := 38) rfl rfl x15 (by decide) (hK _ _ rfl (Below.refl _ _))
    · obtain rfl := Option.some.inj ho
      refine ⟨rfl, fun a w' hS hold hin K hK => ?_⟩
      obtain ⟨y15, x15, rfl⟩ := hin 15 rfl (by omega)
      exact if_guard_off (d := 38) rfl rfl x15 (by decide) (hK _ _ rfl (Below.refl _ _))
    · obtain rfl := Option.some.inj ho
      refine ⟨rfl, fun a w' hS hold hin K hK => ?_⟩
      obtain ⟨y15, x15, rfl⟩ := hin 15 rfl (by omega)
      exact if_guard_off (d := 38) rfl rfl x15 (by decide) (hK _ _ rfl (Below.refl _ _))
    · obtain rfl := Option.some.inj ho
      refine ⟨rfl, fun a w' hS hold hin K hK => ?_⟩
      obtain ⟨y15, x15, rfl⟩ := hin 15 rfl (by omega)
      refine if_always rfl ?_
      exact op_pick (V := (· = .bool true)) _ _ _ true _ rfl rfl (eval_tmp x15) (show Act.eval a (.const (.bool true)) = (.bool true) from rfl) rfl hK
  clear hS
  intro t1 V3 hs hold hout hS
  replace HS := hs.trans HS
  replace hS := hS.1
  obtain ⟨_, q43, rfl⟩ : ∃ x, t1[43]? = some x ∧ x = (.bool true : Value) := hout 20 (by omega)
  replace h1 := (hold 1 (slots_not (by kernel_rfl))).trans h1
  replace h2 := (hold 2 (slots_not (by kernel_rfl))).trans h2
  replace h3 := (hold 3 (slots_not (by kernel_rfl))).trans h3
  replace h7 := (hold 7 (slots_not (by kernel_rfl))).trans h7
  replace h8 := (hold 8 (slots_not (by kernel_rfl))).trans h8
  clear hold hout hs
  obtain ⟨f, e0, hf⟩ := wash HS
  have f1 := hf 1 _ h1
  have f2 := hf 2 _ h2
  have f3 := hf 3 _ h3
  have f7 := hf 7 _ h7
  have f8 := hf 8 _ h8
  have f43 := hf 43 _ q43
  clear hf
  rw [e0.trans (show _ = #[f 0, f 1, f 2, f 3, f 4, f 5, f 6, f 7, f 8, f 9, f 10, f 11, f 12, f 13, f 14, f 15, f 16, f 17, f 18, f 19, f 20, f 21, f 22, f 23, f 24, f 25, f 26, f 27, f 28, f 29, f 30, f 31, f 32, f 33, f 34, f 35, f 36, f 37, f 38, f 39, f 40, f 41, f 42, f 43, f 44, f 45, f 46, f 47, f 48, f 49, f 50, f 51, f 52, f 53, f 54, f 55, f 56, f 57, f 58, f 59, f 60, f 61, f 62, f 63, f 64, f 65, f 66, f 67, f 68, f 69, f 70, f 71, f 72, f 73, f 74, f 75, f 76, f 77, f 78, f 79, f 80, f 81, f 82, f 83, f 84, f 85, f 86, f 87, f 88, f 89, f 90, f 91, f 92, f 93, f 94, f 95, f 96, f 97, f 98, f 99, f 100, f 101, f 102, f 103, f 104, f 105] from by kernel_rfl), f1, f2, f3, f7, f8, f43]
  clear f1 f2 f3 f7 f8 f43
  clear e0
  try dsimp only
  clear h1 h2 h3 h7 h8 q43 hM HS t1 t0 M
  go_wp2_with fail
  have hbel := hS.1
  clear hS
  go_wp2_with fail
  exact ⟨rfl, .bool true, by kernel_rfl, rfl, hbel⟩
set_option maxHeartbeats 8000000 in
set_option maxRecDepth 100000 in
theorem codecPages_manyt {n0 n1 n2 n3 n4 n5 k n : Int} (hg : good n0 n1 n2 n3 n4 n5 = true) (hk : k = 1) (hn : ¬ n < 0) (hm : n0 < n) (w : World) : Calls Tryd.prog 7 #[.agg #[.int .i64 n0, .int .i64 n1, .int .i64 n2, .int .i64 n3, .int .i64 n4, .int .i64 n5], .int .i64 k, .int .i64 n] w (fun e w' => e = .returned (.bool true) ∧ Below w.heap.size w w') := by
  have hS := conf_start n0 n1 n2 n3 n4 n5 w
  have HG := Lib.hid hg
  have HK := Lib.hid hk
  have HN := Lib.hid hn
  have HM := Lib.hid hm
  clear hg hk hn hm
  go_enter Tryd.func7, Tryd.ntmps7
  go_wp2_with ((with_reducible refine guard_list ?_); first | (refine held_fn _ _ _ rfl ?_))
  change Held (wpList _ _ _ _ _ (w.alloc (.cells #[.int .i64 n0, .int .i64 n1, .int .i64 n2, .int .i64 n3, .int .i64 n4, .int .i64 n5] 23)))
  generalize w.alloc (.cells #[.int .i64 n0, .int .i64 n1, .int .i64 n2, .int .i64 n3, .int .i64 n4, .int .i64 n5] 23) = w0 at hS ⊢
  obtain ⟨M, hM⟩ : ∃ M, M = w0.heap.size := ⟨_, rfl⟩
  refine hide_held fun t0 HT => ?_
  have HS : t0.size = 106 := by rw [HT]; rfl
  have h1 : t0[1]? = some (.int .i64 k) := by rw [HT]; rfl
  have h2 : t0[2]? = some (.int .i64 n) := by rw [HT]; rfl
  have h3 : t0[3]? = some (.pointer (some ⟨w.heap.size, 0, none⟩)) := by rw [HT]; rfl
  clear HT
  refine wp_list_all 1 (fun i => [14, 15].getD i 0) (fun i => [(· = .bool true), (· = .bool false)].getD i (fun _ => True)) (fun w' => Own w [(w.heap.size, 6, (· = .agg #[.int .i64 n0, .int .i64 n1, .int .i64 n2, .int .i64 n3, .int .i64 n4, .int .i64 n5]))] w' ∧ M ≤ w'.heap.size)
    (by kernel_rfl) (by kernel_rfl) (slots_apart (by kernel_rfl)) (slots_lie (by rw [HS]; kernel_rfl)) ⟨hS, Nat.le_of_eq hM⟩ (fun w1 w2 h b => ⟨h.1.keep b, Nat.le_trans h.2 b.size⟩) ?_ ?_
  · clear hS
    intro i o hi ho
    have hc : i = 0 ∨ i = 1 := by omega
    rcases hc with rfl | rfl
    · obtain rfl := Option.some.inj ho
      refine ⟨rfl, fun a w' hS hold hin K hK => ?_⟩
      refine if_always rfl ?_
      exact op_fn0 _  _  rfl rfl  (by intro args w; kernel_rfl) (awake_ev _) hK
    · obtain rfl := Option.some.inj ho
      refine ⟨rfl, fun a w' hS hold hin K hK => ?_⟩
      obtain ⟨y0, x0, rfl⟩ := hin 0 rfl (by omega)
      refine if_always rfl ?_
      exact op_un (V := (· = .bool false)) _ _ _ _ (.bool false) rfl rfl (eval_tmp x0) (fun w => by kernel_rfl) rfl hK
  clear hS
  intro t1 V1 hs hold hout hS
  replace HS := hs.trans HS
  replace hS := hS.1
  obtain ⟨_, q15, rfl⟩ : ∃ x, t1[15]? = some x ∧ x = (.bool false : Value) := hout 1 (by omega)
  replace h1 := (hold 1 (slots_not (by kernel_rfl))).trans h1
  replace h2 := (hold 2 (slots_not (by kernel_rfl))).trans h2
  replace h3 := (hold 3 (slots_not (by kernel_rfl))).trans h3
  clear hold hout hs
  obtain ⟨f, e0, hf⟩ := wash HS
  have f1 := hf 1 _ h1
  have f2 := hf 2 _ h2
  have f3 := hf 3 _ h3
  have f15 := hf 15 _ q15
  clear hf
  rw [e0.trans (show _ = #[f 0, f 1, f 2, f 3, f 4, f 5, f 6, f 7, f 8, f 9, f 10, f 11, f 12, f 13, f 14, f 15, f 16, f 17, f 18, f 19, f 20, f 21, f 22, f 23, f 24, f 25, f 26, f 27, f 28, f 29, f 30, f 31, f 32, f 33, f 34, f 35, f 36, f 37, f 38, f 39, f 40, f 41, f 42, f 43, f 44, f 45, f 46, f 47, f 48, f 49, f 50, f 51, f 52, f 53, f 54, f 55, f 56, f 57, f 58, f 59, f 60, f 61, f 62, f 63, f 64, f 65, f 66, f 67, f 68, f 69, f 70, f 71, f 72, f 73, f 74, f 75, f 76, f 77, f 78, f 79, f 80, f 81, f 82, f 83, f 84, f 85, f 86, f 87, f 88, f 89, f 90, f 91, f 92, f 93, f 94, f 95, f 96, f 97, f 98, f 99, f 100, f 101, f 102, f 103, f 104, f 105] from by kernel_rfl), f1, f2, f3, f15]
  clear f1 f2 f3 f15
  clear e0
  try dsimp only
  clear h1 h2 h3 q15 hM HS t1 t0 M
  go_wp2_with ((with_reducible refine guard_list ?_); first | (refine held_load 23 _ rfl ?_))
  obtain ⟨M, hM⟩ : ∃ M, M = V1.heap.size := ⟨_, rfl⟩
  refine hide_held fun t0 HT => ?_
  have HS : t0.size = 106 := by rw [HT]; rfl
  have h1 : t0[1]? = some (.int .i64 k) := by rw [HT]; rfl
  have h2 : t0[2]? = some (.int .i64 n) := by rw [HT]; rfl
  have h3 : t0[3]? = some (.pointer (some ⟨w.heap.size, 0, none⟩)) := by rw [HT]; rfl
  clear HT
  refine wp_list_most 7 (fun i => [17, 18, 19, 20, 16, 21, 22].getD i 0) (fun _ => none) (fun i => [(· = .agg #[.int .i64 n0, .int .i64 n1, .int .i64 n2, .int .i64 n3, .int .i64 n4, .int .i64 n5]), (· = .int .i64 k), (· = .int .i64 n), (· = .tuple #[.int .i64 0, .int .i64 252]), (· = .tuple #[.int .i64 0, .int .i64 252]), (· = .int .i64 0), (· = .int .i64 252)].getD i (fun _ => True)) (fun w' => Own w [(w.heap.size, 6, (· = .agg #[.int .i64 n0, .int .i64 n1, .int .i64 n2, .int .i64 n3, .int .i64 n4, .int .i64 n5]))] w' ∧ M ≤ w'.heap.size) M
    (by kernel_rfl) (slots_apart (by kernel_rfl)) (slots_lie (by rw [HS]; kernel_rfl)) ⟨hS, Nat.le_of_eq hM⟩ (fun w' h => h.2) (fun w1 w2 h b => ⟨h.1.keep b, Nat.le_trans h.2 b.size⟩) ?_ ?_ ?_
  · clear hS
    intro i o hi ho hA
    have hc : i = 0 ∨ i = 1 ∨ i = 2 ∨ i = 3 ∨ i = 4 ∨ i = 5 ∨ i = 6 := by omega
    rcases hc with rfl | rfl | rfl | rfl | rfl | rfl | rfl
    · obtain rfl := Option.some.inj ho
      refine ⟨rfl, fun a w' hS hold hin K hK => ?_⟩
      refine if_always rfl ?_
      exact op_ld_own 6 tConf (.tmp 3) rfl rfl _ (eval_tmp ((hold 3 (slots_not (by kernel_rfl))).trans h3)) hS.1 0 rfl hK
    · obtain rfl := Option.some.inj ho
      refine ⟨rfl, fun a w' hS hold hin K hK => ?_⟩
      refine if_always rfl ?_
      exact op_move (V := (· = .int .i64 k)) _ _ rfl rfl (eval_tmp ((hold 1 (slots_not (by kernel_rfl))).trans h1)) rfl hK
    · obtain rfl := Option.some.inj ho
      refine ⟨rfl, fun a w' hS hold hin K hK => ?_⟩
      refine if_always rfl ?_
      exact op_move (V := (· = .int .i64 n)) _ _ rfl rfl (eval_tmp ((hold 2 (slots_not (by kernel_rfl))).trans h2)) rfl hK
    · obtain rfl := Option.some.inj ho
      refine ⟨rfl, fun a w' hS hold hin K hK => ?_⟩
      obtain ⟨y0, x0, rfl⟩ := hin 0 rfl (by omega) rfl
      obtain ⟨y1, x1, rfl⟩ := hin 1 rfl (by omega) rfl
      obtain ⟨y2, x2, rfl⟩ := hin 2 rfl (by omega) rfl
      refine if_always rfl ?_
      exact op_fn3 _ _ _ _ _ _ _ _ rfl rfl (eval_tmp x0) (eval_tmp x1) (eval_tmp x2) (by intro args w; kernel_rfl) (pages_many (show msr n0 n1 n2 n3 n4 n5 k = (16 + n1, 1 + n1, 26 + n1, 0) by unfold msr; rw [if_pos HG.out, if_pos HK.out]) (by have := HN.out; omega) HM.out _) hK
    · obtain rfl := Option.some.inj ho
      refine ⟨rfl, fun a w' hS hold hin K hK => ?_⟩
      obtain ⟨y3, x3, rfl⟩ := hin 3 rfl (by omega) rfl
      refine if_always rfl ?_
      exact op_move (V := (· = .tuple #[.int .i64 0, .int .i64 252])) _ _ rfl rfl (eval_tmp x3) rfl hK
    · obtain rfl := Option.some.inj ho
      refine ⟨rfl, fun a w' hS hold hin K hK => ?_⟩
      obtain ⟨y4, x4, rfl⟩ := hin 4 rfl (by omega) rfl
      refine if_always rfl ?_
      exact op_tup0 (V := (· = .int .i64 0)) _ rfl rfl (eval_tmp x4) rfl hK
    · obtain rfl := Option.some.inj ho
      refine ⟨rfl, fun a w' hS hold hin K hK => ?_⟩
      obtain ⟨y4, x4, rfl⟩ := hin 4 rfl (by omega) rfl
      refine if_always rfl ?_
      exact op_tup1 (V := (· = .int .i64 252)) _ rfl rfl (eval_tmp x4) rfl hK
  · intro i o sz hi ho hA; cases hA
  clear hS
  intro t1 V2 hs hold hout hall hne hS
  replace HS := hs.trans HS
  replace hS := hS.1
  obtain ⟨x21, q21, v21⟩ : ∃ x, t1[21]? = some x ∧ ((· = .int .i64 0)) x := hout 5 (by omega) rfl
  replace q21 : t1[21]? = some (.int .i64 0) := q21.trans (congrArg some v21)
  obtain ⟨x22, q22, v22⟩ : ∃ x, t1[22]? = some x ∧ ((· = .int .i64 252)) x := hout 6 (by omega) rfl
  replace q22 : t1[22]? = some (.int .i64 252) := q22.trans (congrArg some v22)
  replace h1 := (hold 1 (slots_not (by kernel_rfl))).trans h1
  replace h2 := (hold 2 (slots_not (by kernel_rfl))).trans h2
  replace h3 := (hold 3 (slots_not (by kernel_rfl))).trans h3
  clear hold hout hs hall hne
  simp only [List.drop_succ_cons, List.drop_zero]
  refine tlx_assign (.tmp 21) rfl rfl 7 rfl (by rw [HS]; decide) (.int .i64 0) (eval_tmp q21) fun t1 ex0 hz hq he => ?_
  replace h1 := (he 1 (by decide)).trans h1
  replace h2 := (he 2 (by decide)).trans h2
  replace h3 := (he 3 (by decide)).trans h3
  replace q21 := (he 21 (by decide)).trans q21
  replace q22 := (he 22 (by decide)).trans q22
  replace HS := hz.trans HS
  clear hz he ex0
  have h7 := hq
  clear hq
  refine tlx_assign (.tmp 22) rfl rfl 8 rfl (by rw [HS]; decide) (.int .i64 252) (eval_tmp q22) fun t1 ex1 hz hq he => ?_
  replace h1 := (he 1 (by decide)).trans h1
  replace h2 := (he 2 (by decide)).trans h2
  replace h3 := (he 3 (by decide)).trans h3
  replace h7 := (he 7 (by decide)).trans h7
  replace q21 := (he 21 (by decide)).trans q21
  replace q22 := (he 22 (by decide)).trans q22
  replace HS := hz.trans HS
  clear hz he ex1
  have h8 := hq
  clear hq
  refine wpList_nil ?_
  obtain ⟨f, e0, hf⟩ := wash HS
  have f1 := hf 1 _ h1
  have f2 := hf 2 _ h2
  have f3 := hf 3 _ h3
  have f7 := hf 7 _ h7
  have f8 := hf 8 _ h8
  clear hf
  rw [e0.trans (show _ = #[f 0, f 1, f 2, f 3, f 4, f 5, f 6, f 7, f 8, f 9, f 10, f 11, f 12, f 13, f 14, f 15, f 16, f 17, f 18, f 19, f 20, f 21, f 22, f 23, f 24, f 25, f 26, f 27, f 28, f 29, f 30, f 31, f 32, f 33, f 34, f 35, f 36, f 37, f 38, f 39, f 40, f 41, f 42, f 43, f 44, f 45, f 46, f 47, f 48, f 49, f 50, f 51, f 52, f 53, f 54, f 55, f 56, f 57, f 58, f 59, f 60, f 61, f 62, f 63, f 64, f 65, f 66, f 67, f 68, f 69, f 70, f 71, f 72, f 73, f 74, f 75, f 76, f 77, f 78, f 79, f 80, f 81, f 82, f 83, f 84, f 85, f 86, f 87, f 88, f 89, f 90, f 91, f 92, f 93, f 94, f 95, f 96, f 97, f 98, f 99, f 100, f 101, f 102, f 103, f 104, f 105] from by kernel_rfl), f1, f2, f3, f7, f8]
  clear f1 f2 f3 f7 f8
  clear e0
  try dsimp only
  clear h1 h2 h3 h7 h8 q21 q22 v21 v22 hM HS t1 t0 M
  go_wp2_with ((with_reducible refine guard_list ?_); first | (refine held_load 23 _ rfl ?_))
  obtain ⟨M, hM⟩ : ∃ M, M = V2.heap.size := ⟨_, rfl⟩
  refine hide_held fun t0 HT => ?_
  have HS : t0.size = 106 := by rw [HT]; rfl
  have h1 : t0[1]? = some (.int .i64 k) := by rw [HT]; rfl
  have h2 : t0[2]? = some (.int .i64 n) := by rw [HT]; rfl
  have h3 : t0[3]? = some (.pointer (some ⟨w.heap.size, 0, none⟩)) := by rw [HT]; rfl
  have h7 : t0[7]? = some (.int .i64 0) := by rw [HT]; rfl
  have h8 : t0[8]? = some (.int .i64 252) := by rw [HT]; rfl
  clear HT
  refine wp_list_all 20 (fun i => [23, 24, 25, 26, 27, 28, 29, 30, 31, 32, 33, 34, 35, 36, 37, 38, 39, 40, 41, 42, 43].getD i 0) (fun i => [(· = .agg #[.int .i64 n0, .int .i64 n1, .int .i64 n2, .int .i64 n3, .int .i64 n4, .int .i64 n5]), (· = .int .i64 0), (· = .bool false), (· = .bool false), (· = .int .i64 k), (· = .bool false), (· = .bool false), (· = undef), (· = undef), (· = .bool false), (· = .bool false), (· = .bool false), (· = .int .i64 n), (· = .bool false), (· = .bool false), (· = .bool false), (· = .int .i64 n), (· = .pointer (some ⟨w.heap.size, 0, none⟩)), (· = .int .i64 n0), (· = .bool true), (· = .bool true)].getD i (fun _ => True)) (fun w' => Own w [(w.heap.size, 6, (· = .agg #[.int .i64 n0, .int .i64 n1, .int .i64 n2, .int .i64 n3, .int .i64 n4, .int .i64 n5]))] w' ∧ M ≤ w'.heap.size)
    (by kernel_rfl) (by kernel_rfl) (slots_apart (by kernel_rfl)) (slots_lie (by rw [HS]; kernel_rfl)) ⟨hS, Nat.le_of_eq hM⟩ (fun w1 w2 h b => ⟨h.1.keep b, Nat.le_trans h.2 b.size⟩) ?_ ?_
  · clear hS
    intro i o hi ho
    have hc : i = 0 ∨ i = 1 ∨ i = 2 ∨ i = 3 ∨ i = 4 ∨ i = 5 ∨ i = 6 ∨ i = 7 ∨ i = 8 ∨ i = 9 ∨ i = 10 ∨ i = 11 ∨ i = 12 ∨ i = 13 ∨ i = 14 ∨ i = 15 ∨ i = 16 ∨ i = 17 ∨ i = 18 ∨ i = 19 ∨ i = 20 := by omega
    rcases hc with rfl | rfl | rfl | rfl | rfl | rfl | rfl | rfl | rfl | rfl | rfl | rfl | rfl | rfl | rfl | rfl | rfl | rfl | rfl | rfl | rfl
    · obtain rfl := Option.some.inj ho
      refine ⟨rfl, fun a w' hS hold hin K hK => ?_⟩
      refine if_always rfl ?_
      exact op_ld_own 6 tConf (.tmp 3) rfl rfl _ (eval_tmp ((hold 3 (slots_not (by kernel_rfl))).trans h3)) hS.1 0 rfl hK
    · obtain rfl := Option.some.inj ho
      refine ⟨rfl, fun a w' hS hold hin K hK => ?_⟩
      obtain ⟨y0, x0, rfl⟩ := hin 0 rfl (by omega)
      refine if_always rfl ?_
      exact op_fn1 _ _ _ _ rfl rfl (eval_tmp x0) (by intro args w; kernel_rfl) (chk_yes HG.out _) hK
    · obtain rfl := Option.some.inj ho
      refine ⟨rfl, fun a w' hS hold hin K hK => ?_⟩
      obtain ⟨y1, x1, rfl⟩ := hin 1 rfl (by omega)
      refine if_always rfl ?_
      exact op_bin (V := (· = .bool false)) _ _ _ _ _ _ _ (.bool false) rfl rfl (eval_tmp x1) rfl (fun w => by kernel_rfl) rfl hK
    · obtain rfl := Option.some.inj ho
      refine ⟨rfl, fun a w' hS hold hin K hK => ?_⟩
      obtain ⟨y2, x2, rfl⟩ := hin 2 rfl (by omega)
      refine if_always rfl ?_
      exact op_move (V := (· = .bool false)) _ _ rfl rfl (eval_tmp x2) rfl hK
    · obtain rfl := Option.some.inj ho
      refine ⟨rfl, fun a w' hS hold hin K hK => ?_⟩
      obtain ⟨y3, x3, rfl⟩ := hin 3 rfl (by omega)
      refine if_guard (d := 26) rfl rfl x3 ?_
      exact op_move (V := (· = .int .i64 k)) _ _ rfl rfl (eval_tmp ((hold 1 (slots_not (by kernel_rfl))).trans h1)) rfl hK
    · obtain rfl := Option.some.inj ho
      refine ⟨rfl, fun a w' hS hold hin K hK => ?_⟩
      obtain ⟨y3, x3, rfl⟩ := hin 3 rfl (by omega)
      obtain ⟨y4, x4, rfl⟩ := hin 4 rfl (by omega)
      refine if_guard (d := 26) rfl rfl x3 ?_
      exact op_bin (V := (· = .bool false)) _ _ _ _ _ _ _ (.bool false) rfl rfl (eval_tmp x4) rfl (fun w => cmp_neq (decide_eq_false (by have := HK.out; omega)) w) rfl hK
    · obtain rfl := Option.some.inj ho
      refine ⟨rfl, fun a w' hS hold hin K hK => ?_⟩
      obtain ⟨y3, x3, rfl⟩ := hin 3 rfl (by omega)
      obtain ⟨y5, x5, rfl⟩ := hin 5 rfl (by omega)
      refine if_guard (d := 26) rfl rfl x3 ?_
      exact op_move (V := (· = .bool false)) _ _ rfl rfl (eval_tmp x5) rfl hK
    · obtain rfl := Option.some.inj ho
      refine ⟨rfl, fun a w' hS hold hin K hK => ?_⟩
      obtain ⟨y6, x6, rfl⟩ := hin 6 rfl (by omega)
      exact if_guard_off (d := 29) rfl rfl x6 (by decide) (hK _ _ rfl (Below.refl _ _))
    · obtain rfl := Option.some.inj ho
      refine ⟨rfl, fun a w' hS hold hin K hK => ?_⟩
      obtain ⟨y6, x6, rfl⟩ := hin 6 rfl (by omega)
      exact if_guard_off (d := 29) rfl rfl x6 (by decide) (hK _ _ rfl (Below.refl _ _))
    · obtain rfl := Option.some.inj ho
      refine ⟨rfl, fun a w' hS hold hin K hK => ?_⟩
      obtain ⟨y3, x3, rfl⟩ := hin 3 rfl (by omega)
      obtain ⟨y6, x6, rfl⟩ := hin 6 rfl (by omega)
      refine if_guard (d := 26) rfl rfl x3 ?_
      exact op_pick (V := (· = .bool false)) _ _ _ false _ rfl rfl (eval_tmp x6) (show Act.eval a (.const (.bool false)) = (.bool false) from rfl) rfl hK
    · obtain rfl := Option.some.inj ho
      refine ⟨rfl, fun a w' hS hold hin K hK => ?_⟩
      obtain ⟨y3, x3, rfl⟩ := hin 3 rfl (by omega)
      obtain ⟨y9, x9, rfl⟩ := hin 9 rfl (by omega)
      refine if_always rfl ?_
      exact op_pick (V := (· = .bool false)) _ _ _ false _ rfl rfl (eval_tmp x3) (show (Act.eval a _) = _ from (eval_tmp x9)) rfl hK
    · obtain rfl := Option.some.inj ho
      refine ⟨rfl, fun a w' hS hold hin K hK => ?_⟩
      obtain ⟨y10, x10, rfl⟩ := hin 10 rfl (by omega)
      refine if_always rfl ?_
      exact op_move (V := (· = .bool false)) _ _ rfl rfl (eval_tmp x10) rfl hK
    · obtain rfl := Option.some.inj ho
      refine ⟨rfl, fun a w' hS hold hin K hK => ?_⟩
      obtain ⟨y11, x11, rfl⟩ := hin 11 rfl (by omega)
      refine if_guard (d := 34) rfl rfl x11 ?_
      exact op_move (V := (· = .int .i64 n)) _ _ rfl rfl (eval_tmp ((hold 2 (slots_not (by kernel_rfl))).trans h2)) rfl hK
    · obtain rfl := Option.some.inj ho
      refine ⟨rfl, fun a w' hS hold hin K hK => ?_⟩
      obtain ⟨y11, x11, rfl⟩ := hin 11 rfl (by omega)
      obtain ⟨y12, x12, rfl⟩ := hin 12 rfl (by omega)
      refine if_guard (d := 34) rfl rfl x11 ?_
      exact op_bin (V := (· = .bool false)) _ _ _ _ _ _ _ (.bool false) rfl rfl (eval_tmp x12) rfl (fun w => cmp_lss (decide_eq_false (by have := HN.out; omega)) w) rfl hK
    · obtain rfl := Option.some.inj ho
      refine ⟨rfl, fun a w' hS hold hin K hK => ?_⟩
      obtain ⟨y11, x11, rfl⟩ := hin 11 rfl (by omega)
      obtain ⟨y13, x13, rfl⟩ := hin 13 rfl (by omega)
      refine if_always rfl ?_
      exact op_pick (V := (· = .bool false)) _ _ _ false _ rfl rfl (eval_tmp x11) (show (Act.eval a _) = _ from (eval_tmp x13)) rfl hK
    · obtain rfl := Option.some.inj ho
      refine ⟨rfl, fun a w' hS hold hin K hK => ?_⟩
      obtain ⟨y14, x14, rfl⟩ := hin 14 rfl (by omega)
      refine if_always rfl ?_
      exact op_move (V := (· = .bool false)) _ _ rfl rfl (eval_tmp x14) rfl hK
    · obtain rfl := Option.some.inj ho
      refine ⟨rfl, fun a w' hS hold hin K hK => ?_⟩
      obtain ⟨y15, x15, rfl⟩ := hin 15 rfl (by omega)
      refine if_guard (d := 38) rfl rfl x15 ?_
      exact op_move (V := (· = .int .i64 n)) _ _ rfl rfl (eval_tmp ((hold 2 (slots_not (by kernel_rfl))).trans h2)) rfl hK
    · obtain rfl := Option.some.inj ho
      refine ⟨rfl, fun a w' hS hold hin K hK => ?_⟩
      obtain ⟨y15, x15, rfl⟩ := hin 15 rfl (by omega)
      refine if_guard (d := 38) rfl rfl x15 ?_
      exact op_field 23 _ 0 _ (.pointer (some ⟨w.heap.size, 0, none⟩)) rfl rfl (eval_tmp ((hold 3 (slots_not (by kernel_rfl))).trans h3)) (fun w => by kernel_rfl) hK
    · obtain rfl := Option.some.inj ho
      refine ⟨rfl, fun a w' hS hold hin K hK => ?_⟩
      obtain ⟨y15, x15, rfl⟩ := hin 15 rfl (by omega)
      obtain ⟨y17, x17, rfl⟩ := hin 17 rfl (by omega)
      refine if_guard (d := 38) rfl rfl x15 ?_
      exact op_cell_own tInt _ w.heap.size 0 rfl rfl (eval_tmp x17) hS.1 0 _ _ rfl (.int .i64 n0) rfl hK
    · obtain rfl := Option.some.inj ho
      refine ⟨rfl, fun a w' hS hold hin K hK => ?_⟩
      obtain ⟨y15, x15, rfl⟩ := hin 15 rfl (by omega)
      obtain ⟨y16, x16, rfl⟩ := hin 16 rfl (by omega)
      obtain ⟨y18, x18, rfl⟩ := hin 18 rfl (by omega)
      refine if_guard (d := 38) rfl rfl x15 ?_
      exact op_bin (V := (· = .bool true)) _ _ _ _ _ _ _ (.bool true) rfl rfl (eval_tmp x16) (eval_tmp x18) (fun w => cmp_gtr (decide_eq_true HM.out) w) rfl hK
    · obtain rfl := Option.some.inj ho
      refine ⟨rfl, fun a w' hS hold hin K hK => ?_⟩
      obtain ⟨y15, x15, rfl⟩ := hin 15 rfl (by omega)
      obtain ⟨y19, x19, rfl⟩ := hin 19 rfl (by omega)
      refine if_always rfl ?_
      exact op_pick (V := (· = .bool true)) _ _ _ false _ rfl rfl (eval_tmp x15) (show (Act.eval a _) = _ from (eval_tmp x19)) rfl hK
  clear hS
  intro t1 V3 hs hold hout hS
  replace HS := hs.trans HS
  replace hS := hS.1
  obtain ⟨_, q43, rfl⟩ : ∃ x, t1[43]? = some x ∧ x = (.bool true : Value) := hout 20 (by omega)
  replace h1 := (hold 1 (slots_not (by kernel_rfl))).trans h1
  replace h2 := (hold 2 (slots_not (by kernel_rfl))).trans h2
  replace h3 := (hold 3 (slots_not (by kernel_rfl))).trans h3
  replace h7 := (hold 7 (slots_not (by kernel_rfl))).trans h7
  replace h8 := (hold 8 (slots_not (by kernel_rfl))).trans h8
  clear hold hout hs
  obtain ⟨f, e0, hf⟩ := wash HS
  have f1 := hf 1 _ h1
  have f2 := hf 2 _ h2
  have f3 := hf 3 _ h3
  have f7 := hf 7 _ h7
  have f8 := hf 8 _ h8
  have f43 := hf 43 _ q43
  clear hf
  rw [e0.trans (show _ = #[f 0, f 1, f 2, f 3, f 4, f 5, f 6, f 7, f 8, f 9, f 10, f 11, f 12, f 13, f 14, f 15, f 16, f 17, f 18, f 19, f 20, f 21, f 22, f 23, f 24, f 25, f 26, f 27, f 28, f 29, f 30, f 31, f 32, f 33, f 34, f 35, f 36, f 37, f 38, f 39, f 40, f 41, f 42, f 43, f 44, f 45, f 46, f 47, f 48, f 49, f 50, f 51, f 52, f 53, f 54, f 55, f 56, f 57, f 58, f 59, f 60, f 61, f 62, f 63, f 64, f 65, f 66, f 67, f 68, f 69, f 70, f 71, f 72, f 73, f 74, f 75, f 76, f 77, f 78, f 79, f 80, f 81, f 82, f 83, f 84, f 85, f 86, f 87, f 88, f 89, f 90, f 91, f 92, f 93, f 94, f 95, f 96, f 97, f 98, f 99, f 100, f 101, f 102, f 103, f 104, f 105] from by kernel_rfl), f1, f2, f3, f7, f8, f43]
  clear f1 f2 f3 f7 f8 f43
  clear e0
  try dsimp only
  clear h1 h2 h3 h7 h8 q43 hM HS t1 t0 M
  go_wp2_with fail
  have hbel := hS.1
  clear hS
  go_wp2_with fail
  exact ⟨rfl, .bool true, by kernel_rfl, rfl, hbel⟩
set_option maxHeartbeats 8000000 in
set_option maxRecDepth 100000 in
theorem codecPages_negd {n0 n1 n2 n3 n4 n5 k n : Int} (hg : good n0 n1 n2 n3 n4 n5 = true) (hk : k = 2) (hn : n < 0) (w : World) : Calls Tryd.prog 7 #[.agg #[.int .i64 n0, .int .i64 n1, .int .i64 n2, .int .i64 n3, .int .i64 n4, .int .i64 n5], .int .i64 k, .int .i64 n] w (fun e w' => e = .returned (.bool true) ∧ Below w.heap.size w w') := by
  have hS := conf_start n0 n1 n2 n3 n4 n5 w
  have HG := Lib.hid hg
  have HK := Lib.hid hk
  have HN := Lib.hid hn
  clear hg hk hn
  go_enter Tryd.func7, Tryd.ntmps7
  go_wp2_with ((with_reducible refine guard_list ?_); first | (refine held_fn _ _ _ rfl ?_))
  change Held (wpList _ _ _ _ _ (w.alloc (.cells #[.int .i64 n0, .int .i64 n1, .int .i64 n2, .int .i64 n3, .int .i64 n4, .int .i64 n5] 23)))
  generalize w.alloc (.cells #[.int .i64 n0, .int .i64 n1, .int .i64 n2, .int .i64 n3, .int .i64 n4, .int .i64 n5] 23) = w0 at hS ⊢
  obtain ⟨M, hM⟩ : ∃ M, M = w0.heap.size := ⟨_, rfl⟩
  refine hide_held fun t0 HT => ?_
  have HS : t0.size = 106 := by rw [HT]; rfl
  have h1 : t0[1]? = some (.int .i64 k) := by rw [HT]; rfl
  have h2 : t0[2]? = some (.int .i64 n) := by rw [HT]; rfl
  have h3 : t0[3]? = some (.pointer (some ⟨w.heap.size, 0, none⟩)) := by rw [HT]; rfl
  clear HT
  refine wp_list_all 1 (fun i => [14, 15].getD i 0) (fun i => [(· = .bool true), (· = .bool false)].getD i (fun _ => True)) (fun w' => Own w [(w.heap.size, 6, (· = .agg #[.int .i64 n0, .int .i64 n1, .int .i64 n2, .int .i64 n3, .int .i64 n4, .int .i64 n5]))] w' ∧ M ≤ w'.heap.size)
    (by kernel_rfl) (by kernel_rfl) (slots_apart (by kernel_rfl)) (slots_lie (by rw [HS]; kernel_rfl)) ⟨hS, Nat.le_of_eq hM⟩ (fun w1 w2 h b => ⟨h.1.keep b, Nat.le_trans h.2 b.size⟩) ?_ ?_
  · clear hS
    intro i o hi ho
    have hc : i = 0 ∨ i = 1 := by omega
    rcases hc with rfl | rfl
    · obtain rfl := Option.some.inj ho
      refine ⟨rfl, fun a w' hS hold hin K hK => ?_⟩
      refine if_always rfl ?_
      exact op_fn0 _  _  rfl rfl  (by intro args w; kernel_rfl) (awake_ev _) hK
    · obtain rfl := Option.some.inj ho
      refine ⟨rfl, fun a w' hS hold hin K hK => ?_⟩
      obtain ⟨y0, x0, rfl⟩ := hin 0 rfl (by omega)
      refine if_always rfl ?_
      exact op_un (V := (· = .bool false)) _ _ _ _ (.bool false) rfl rfl (eval_tmp x0) (fun w => by kernel_rfl) rfl hK
  clear hS
  intro t1 V1 hs hold hout hS
  replace HS := hs.trans HS
  replace hS := hS.1
  obtain ⟨_, q15, rfl⟩ : ∃ x, t1[15]? = some x ∧ x = (.bool false : Value) := hout 1 (by omega)
  replace h1 := (hold 1 (slots_not (by kernel_rfl))).trans h1
  replace h2 := (hold 2 (slots_not (by kernel_rfl))).trans h2
  replace h3 := (hold 3 (slots_not (by kernel_rfl))).trans h3
  clear hold hout hs
  obtain ⟨f, e0, hf⟩ := wash HS
  have f1 := hf 1 _ h1
  have f2 := hf 2 _ h2
  have f3 := hf 3 _ h3
  have f15 := hf 15 _ q15
  clear hf
  rw [e0.trans (show _ = #[f 0, f 1, f 2, f 3, f 4, f 5, f 6, f 7, f 8, f 9, f 10, f 11, f 12, f 13, f 14, f 15, f 16, f 17, f 18, f 19, f 20, f 21, f 22, f 23, f 24, f 25, f 26, f 27, f 28, f 29, f 30, f 31, f 32, f 33, f 34, f 35, f 36, f 37, f 38, f 39, f 40, f 41, f 42, f 43, f 44, f 45, f 46, f 47, f 48, f 49, f 50, f 51, f 52, f 53, f 54, f 55, f 56, f 57, f 58, f 59, f 60, f 61, f 62, f 63, f 64, f 65, f 66, f 67, f 68, f 69, f 70, f 71, f 72, f 73, f 74, f 75, f 76, f 77, f 78, f 79, f 80, f 81, f 82, f 83, f 84, f 85, f 86, f 87, f 88, f 89, f 90, f 91, f 92, f 93, f 94, f 95, f 96, f 97, f 98, f 99, f 100, f 101, f 102, f 103, f 104, f 105] from by kernel_rfl), f1, f2, f3, f15]
  clear f1 f2 f3 f15
  clear e0
  try dsimp only
  clear h1 h2 h3 q15 hM HS t1 t0 M
  go_wp2_with ((with_reducible refine guard_list ?_); first | (refine held_load 23 _ rfl ?_))
  obtain ⟨M, hM⟩ : ∃ M, M = V1.heap.size := ⟨_, rfl⟩
  refine hide_held fun t0 HT => ?_
  have HS : t0.size = 106 := by rw [HT]; rfl
  have h1 : t0[1]? = some (.int .i64 k) := by rw [HT]; rfl
  have h2 : t0[2]? = some (.int .i64 n) := by rw [HT]; rfl
  have h3 : t0[3]? = some (.pointer (some ⟨w.heap.size, 0, none⟩)) := by rw [HT]; rfl
  clear HT
  refine wp_list_most 7 (fun i => [17, 18, 19, 20, 16, 21, 22].getD i 0) (fun _ => none) (fun i => [(· = .agg #[.int .i64 n0, .int .i64 n1, .int .i64 n2, .int .i64 n3, .int .i64 n4, .int .i64 n5]), (· = .int .i64 k), (· = .int .i64 n), (· = .tuple #[.int .i64 0, .int .i64 2]), (· = .tuple #[.int .i64 0, .int .i64 2]), (· = .int .i64 0), (· = .int .i64 2)].getD i (fun _ => True)) (fun w' => Own w [(w.heap.size, 6, (· = .agg #[.int .i64 n0, .int .i64 n1, .int .i64 n2, .int .i64 n3, .int .i64 n4, .int .i64 n5]))] w' ∧ M ≤ w'.heap.size) M
    (by kernel_rfl) (slots_apart (by kernel_rfl)) (slots_lie (by rw [HS]; kernel_rfl)) ⟨hS, Nat.le_of_eq hM⟩ (fun w' h => h.2) (fun w1 w2 h b => ⟨h.1.keep b, Nat.le_trans h.2 b.size⟩) ?_ ?_ ?_
  · clear hS
    intro i o hi ho hA
    have hc : i = 0 ∨ i = 1 ∨ i = 2 ∨ i = 3 ∨ i = 4 ∨ i = 5 ∨ i = 6 := by omega
    rcases hc with rfl | rfl | rfl | rfl | rfl | rfl | rfl
    · obtain rfl := Option.some.inj ho
      refine ⟨rfl, fun a w' hS hold hin K hK => ?_⟩
      refine if_always rfl ?_
      exact op_ld_own 6 tConf (.tmp 3) rfl rfl _ (eval_tmp ((hold 3 (slots_not (by kernel_rfl))).trans h3)) hS.1 0 rfl hK
    · obtain rfl := Option.some.inj ho
      refine ⟨rfl, fun a w' hS hold hin K hK => ?_⟩
      refine if_always rfl ?_
      exact op_move (V := (· = .int .i64 k)) _ _ rfl rfl (eval_tmp ((hold 1 (slots_not (by kernel_rfl))).trans h1)) rfl hK
    · obtain rfl := Option.some.inj ho
      refine ⟨rfl, fun a w' hS hold hin K hK => ?_⟩
      refine if_always rfl ?_
      exact op_move (V := (· = .int .i64 n)) _ _ rfl rfl (eval_tmp ((hold 2 (slots_not (by kernel_rfl))).trans h2)) rfl hK
    · obtain rfl := Option.some.inj ho
      refine ⟨rfl, fun a w' hS hold hin K hK => ?_⟩
      obtain ⟨y0, x0, rfl⟩ := hin 0 rfl (by omega) rfl
      obtain ⟨y1, x1, rfl⟩ := hin 1 rfl (by omega) rfl
      obtain ⟨y2, x2, rfl⟩ := hin 2 rfl (by omega) rfl
      refine if_always rfl ?_
      exact op_fn3 _ _ _ _ _ _ _ _ rfl rfl (eval_tmp x0) (eval_tmp x1) (eval_tmp x2) (by intro args w; kernel_rfl) (pages_neg (show msr n0 n1 n2 n3 n4 n5 k = (92, 16, 114, 0) by unfold msr; rw [if_pos HG.out, if_neg (by have := HK.out; omega), if_pos HK.out]) HN.out _) hK
    · obtain rfl := Option.some.inj ho
      refine ⟨rfl, fun a w' hS hold hin K hK => ?_⟩
      obtain ⟨y3, x3, rfl⟩ := hin 3 rfl (by omega) rfl
      refine if_always rfl ?_
      exact op_move (V := (· = .tuple #[.int .i64 0, .int .i64 2])) _ _ rfl rfl (eval_tmp x3) rfl hK
    · obtain rfl := Option.some.inj ho
      refine ⟨rfl, fun a w' hS hold hin K hK => ?_⟩
      obtain ⟨y4, x4, rfl⟩ := hin 4 rfl (by omega) rfl
      refine if_always rfl ?_
      exact op_tup0 (V := (· = .int .i64 0)) _ rfl rfl (eval_tmp x4) rfl hK
    · obtain rfl := Option.some.inj ho
      refine ⟨rfl, fun a w' hS hold hin K hK => ?_⟩
      obtain ⟨y4, x4, rfl⟩ := hin 4 rfl (by omega) rfl
      refine if_always rfl ?_
      exact op_tup1 (V := (· = .int .i64 2)) _ rfl rfl (eval_tmp x4) rfl hK
  · intro i o sz hi ho hA; cases hA
  clear hS
  intro t1 V2 hs hold hout hall hne hS
  replace HS := hs.trans HS
  replace hS := hS.1
  obtain ⟨x21, q21, v21⟩ : ∃ x, t1[21]? = some x ∧ ((· = .int .i64 0)) x := hout 5 (by omega) rfl
  replace q21 : t1[21]? = some (.int .i64 0) := q21.trans (congrArg some v21)
  obtain ⟨x22, q22, v22⟩ : ∃ x, t1[22]? = some x ∧ ((· = .int .i64 2)) x := hout 6 (by omega) rfl
  replace q22 : t1[22]? = some (.int .i64 2) := q22.trans (congrArg some v22)
  replace h1 := (hold 1 (slots_not (by kernel_rfl))).trans h1
  replace h2 := (hold 2 (slots_not (by kernel_rfl))).trans h2
  replace h3 := (hold 3 (slots_not (by kernel_rfl))).trans h3
  clear hold hout hs hall hne
  simp only [List.drop_succ_cons, List.drop_zero]
  refine tlx_assign (.tmp 21) rfl rfl 7 rfl (by rw [HS]; decide) (.int .i64 0) (eval_tmp q21) fun t1 ex0 hz hq he => ?_
  replace h1 := (he 1 (by decide)).trans h1
  replace h2 := (he 2 (by decide)).trans h2
  replace h3 := (he 3 (by decide)).trans h3
  replace q21 := (he 21 (by decide)).trans q21
  replace q22 := (he 22 (by decide)).trans q22
  replace HS := hz.trans HS
  clear hz he ex0
  have h7 := hq
  clear hq
  refine tlx_assign (.tmp 22) rfl rfl 8 rfl (by rw [HS]; decide) (.int .i64 2) (eval_tmp q22) fun t1 ex1 hz hq he => ?_
  replace h1 := (he 1 (by decide)).trans h1
  replace h2 := (he 2 (by decide)).trans h2
  replace h3 := (he 3 (by decide)).trans h3
  replace h7 := (he 7 (by decide)).trans h7
  replace q21 := (he 21 (by decide)).trans q21
  replace q22 := (he 22 (by decide)).trans q22
  replace HS := hz.trans HS
  clear hz he ex1
  have h8 := hq
  clear hq
  refine wpList_nil ?_
  obtain ⟨f, e0, hf⟩ := wash HS
  have f1 := hf 1 _ h1
  have f2 := hf 2 _ h2
  have f3 := hf 3 _ h3
  have f7 := hf 7 _ h7
  have f8 := hf 8 _ h8
  clear hf
  rw [e0.trans (show _ = #[f 0, f 1, f 2, f 3, f 4, f 5, f 6, f 7, f 8, f 9, f 10, f 11, f 12, f 13, f 14, f 15, f 16, f 17, f 18, f 19, f 20, f 21, f 22, f 23, f 24, f 25, f 26, f 27, f 28, f 29, f 30, f 31, f 32, f 33, f 34, f 35, f 36, f 37, f 38, f 39, f 40, f 41, f 42, f 43, f 44, f 45, f 46, f 47, f 48, f 49, f 50, f 51, f 52, f 53, f 54, f 55, f 56, f 57, f 58, f 59, f 60, f 61, f 62, f 63, f 64, f 65, f 66, f 67, f 68, f 69, f 70, f 71, f 72, f 73, f 74, f 75, f 76, f 77, f 78, f 79, f 80, f 81, f 82, f 83, f 84, f 85, f 86, f 87, f 88, f 89, f 90, f 91, f 92, f 93, f 94, f 95, f 96, f 97, f 98, f 99, f 100, f 101, f 102, f 103, f 104, f 105] from by kernel_rfl), f1, f2, f3, f7, f8]
  clear f1 f2 f3 f7 f8
  clear e0
  try dsimp only
  clear h1 h2 h3 h7 h8 q21 q22 v21 v22 hM HS t1 t0 M
  go_wp2_with ((with_reducible refine guard_list ?_); first | (refine held_load 23 _ rfl ?_))
  obtain ⟨M, hM⟩ : ∃ M, M = V2.heap.size := ⟨_, rfl⟩
  refine hide_held fun t0 HT => ?_
  have HS : t0.size = 106 := by rw [HT]; rfl
  have h1 : t0[1]? = some (.int .i64 k) := by rw [HT]; rfl
  have h2 : t0[2]? = some (.int .i64 n) := by rw [HT]; rfl
  have h3 : t0[3]? = some (.pointer (some ⟨w.heap.size, 0, none⟩)) := by rw [HT]; rfl
  have h7 : t0[7]? = some (.int .i64 0) := by rw [HT]; rfl
  have h8 : t0[8]? = some (.int .i64 2) := by rw [HT]; rfl
  clear HT
  refine wp_list_all 20 (fun i => [23, 24, 25, 26, 27, 28, 29, 30, 31, 32, 33, 34, 35, 36, 37, 38, 39, 40, 41, 42, 43].getD i 0) (fun i => [(· = .agg #[.int .i64 n0, .int .i64 n1, .int .i64 n2, .int .i64 n3, .int .i64 n4, .int .i64 n5]), (· = .int .i64 0), (· = .bool false), (· = .bool false), (· = .int .i64 k), (· = .bool true), (· = .bool true), (· = .int .i64 k), (· = .bool false), (· = .bool false), (· = .bool false), (· = .bool false), (· = .int .i64 n), (· = .bool true), (· = .bool true), (· = .bool true), (· = undef), (· = undef), (· = undef), (· = undef), (· = .bool true)].getD i (fun _ => True)) (fun w' => Own w [(w.heap.size, 6, (· = .agg #[.int .i64 n0, .int .i64 n1, .int .i64 n2, .int .i64 n3, .int .i64 n4, .int .i64 n5]))] w' ∧ M ≤ w'.heap.size)
    (by kernel_rfl) (by kernel_rfl) (slots_apart (by kernel_rfl)) (slots_lie (by rw [HS]; kernel_rfl)) ⟨hS, Nat.le_of_eq hM⟩ (fun w1 w2 h b => ⟨h.1.keep b, Nat.le_trans h.2 b.size⟩) ?_ ?_
  · clear hS
    intro i o hi ho
    have hc : i = 0 ∨ i = 1 ∨ i = 2 ∨ i = 3 ∨ i = 4 ∨ i = 5 ∨ i = 6 ∨ i = 7 ∨ i = 8 ∨ i = 9 ∨ i = 10 ∨ i = 11 ∨ i = 12 ∨ i = 13 ∨ i = 14 ∨ i = 15 ∨ i = 16 ∨ i = 17 ∨ i = 18 ∨ i = 19 ∨ i = 20 := by omega
    rcases hc with rfl | rfl | rfl | rfl | rfl | rfl | rfl | rfl | rfl | rfl | rfl | rfl | rfl | rfl | rfl | rfl | rfl | rfl | rfl | rfl | rfl
    · obtain rfl := Option.some.inj ho
      refine ⟨rfl, fun a w' hS hold hin K hK => ?_⟩
      refine if_always rfl ?_
      exact op_ld_own 6 tConf (.tmp 3) rfl rfl _ (eval_tmp ((hold 3 (slots_not (by kernel_rfl))).trans h3)) hS.1 0 rfl hK
    · obtain rfl := Option.some.inj ho
      refine ⟨rfl, fun a w' hS hold hin K hK => ?_⟩
      obtain ⟨y0, x0, rfl⟩ := hin 0 rfl (by omega)
      refine if_always rfl ?_
      exact op_fn1 _ _ _ _ rfl rfl (eval_tmp x0) (by intro args w; kernel_rfl) (chk_yes HG.out _) hK
    · obtain rfl := Option.some.inj ho
      refine ⟨rfl, fun a w' hS hold hin K hK => ?_⟩
      obtain ⟨y1, x1, rfl⟩ := hin 1 rfl (by omega)
      refine if_always rfl ?_
      exact op_bin (V := (· = .bool false)) _ _ _ _ _ _ _ (.bool false) rfl rfl (eval_tmp x1) rfl (fun w => by kernel_rfl) rfl hK
    · obtain rfl := Option.some.inj ho
      refine ⟨rfl, fun a w' hS hold hin K hK => ?_⟩
      obtain ⟨y2, x2, rfl⟩ := hin 2 rfl (by omega)
      refine if_always rfl ?_
      exact op_move (V := (· = .bool false)) _ _ rfl rfl (eval_tmp x2) rfl hK
    · obtain rfl := Option.some.inj ho
      refine ⟨rfl, fun a w' hS hold hin K hK => ?_⟩
      obtain ⟨y3, x3, rfl⟩ := hin 3 rfl (by omega)
      refine if_guard (d := 26) rfl rfl x3 ?_
      exact op_move (V := (· = .int .i64 k)) _ _ rfl rfl (eval_tmp ((hold 1 (slots_not (by kernel_rfl))).trans h1)) rfl hK
    · obtain rfl := Option.some.inj ho
      refine ⟨rfl, fun a w' hS hold hin K hK => ?_⟩
      obtain ⟨y3, x3, rfl⟩ := hin 3 rfl (by omega)
      obtain ⟨y4, x4, rfl⟩ := hin 4 rfl (by omega)
      refine if_guard (d := 26) rfl rfl x3 ?_
      exact op_bin (V := (· = .bool true)) _ _ _ _ _ _ _ (.bool true) rfl rfl (eval_tmp x4) rfl (fun w => cmp_neq (decide_eq_true (by have := HK.out; omega)) w) rfl hK
    · obtain rfl := Option.some.inj ho
      refine ⟨rfl, fun a w' hS hold hin K hK => ?_⟩
      obtain ⟨y3, x3, rfl⟩ := hin 3 rfl (by omega)
      obtain ⟨y5, x5, rfl⟩ := hin 5 rfl (by omega)
      refine if_guard (d := 26) rfl rfl x3 ?_
      exact op_move (V := (· = .bool true)) _ _ rfl rfl (eval_tmp x5) rfl hK
    · obtain rfl := Option.some.inj ho
      refine ⟨rfl, fun a w' hS hold hin K hK => ?_⟩
      obtain ⟨y6, x6, rfl⟩ := hin 6 rfl (by omega)
      refine if_guard (d := 29) rfl rfl x6 ?_
      exact op_move (V := (· = .int .i64 k)) _ _ rfl rfl (eval_tmp ((hold 1 (slots_not (by kernel_rfl))).trans h1)) rfl hK
    · obtain rfl := Option.some.inj ho
      refine ⟨rfl, fun a w' hS hold hin K hK => ?_⟩
      obtain ⟨y6, x6, rfl⟩ := hin 6 rfl (by omega)
      obtain ⟨y7, x7, rfl⟩ := hin 7 rfl (by omega)
      refine if_guard (d := 29) rfl rfl x6 ?_
      exact op_bin (V := (· = .bool false)) _ _ _ _ _ _ _ (.bool false) rfl rfl (eval_tmp x7) rfl (fun w => cmp_neq (decide_eq_false (by have := HK.out; omega)) w) rfl hK
    · obtain rfl := Option.some.inj ho
      refine ⟨rfl, fun a w' hS hold hin K hK => ?_⟩
      obtain ⟨y3, x3, rfl⟩ := hin 3 rfl (by omega)
      obtain ⟨y6, x6, rfl⟩ := hin 6 rfl (by omega)
      obtain ⟨y8, x8, rfl⟩ := hin 8 rfl (by omega)
      refine if_guard (d := 26) rfl rfl x3 ?_
      exact op_pick (V := (· = .bool false)) _ _ _ true _ rfl rfl (eval_tmp x6) (show (Act.eval a _) = _ from (eval_tmp x8)) rfl hK
    · obtain rfl := Option.some.inj ho
      refine ⟨rfl, fun a w' hS hold hin K hK => ?_⟩
      obtain ⟨y3, x3, rfl⟩ := hin 3 rfl (by omega)
      obtain ⟨y9, x9, rfl⟩ := hin 9 rfl (by omega)
      refine if_always rfl ?_
      exact op_pick (V := (· = .bool false)) _ _ _ false _ rfl rfl (eval_tmp x3) (show (Act.eval a _) = _ from (eval_tmp x9)) rfl hK
    · obtain rfl := Option.some.inj ho
      refine ⟨rfl, fun a w' hS hold hin K hK => ?_⟩
      obtain ⟨y10, x10, rfl⟩ := hin 10 rfl (by omega)
      refine if_always rfl ?_
      exact op_move (V := (· = .bool false)) _ _ rfl rfl (eval_tmp x10) rfl hK
    · obtain rfl := Option.some.inj ho
      refine ⟨rfl, fun a w' hS hold hin K hK => ?_⟩
      obtain ⟨y11, x11, rfl⟩ := hin 11 rfl (by omega)
      refine if_guard (d := 34) rfl rfl x11 ?_
      exact op_move (V := (· = .int .i64 n)) _ _ rfl rfl (eval_tmp ((hold 2 (slots_not (by kernel_rfl))).trans h2)) rfl hK
    · obtain rfl := Option.some.inj ho
      refine ⟨rfl, fun a w' hS hold hin K hK => ?_⟩
      obtain ⟨y11, x11, rfl⟩ := hin 11 rfl (by omega)
      obtain ⟨y12, x12, rfl⟩ := hin 12 rfl (by omega)
      refine if_guard (d := 34) rfl rfl x11 ?_
      exact op_bin (V := (· = .bool true)) _ _ _ _ _ _ _ (.bool true) rfl rfl (eval_tmp x12) rfl (fun w => cmp_lss (decide_eq_true HN.out) w) rfl hK
    · obtain rfl := Option.some.inj ho
      refine ⟨rfl, fun a w' hS hold hin K hK => ?_⟩
      obtain ⟨y11, x11, rfl⟩ := hin 11 rfl (by omega)
      obtain ⟨y13, x13, rfl⟩ := hin 13 rfl (by omega)
      refine if_always rfl ?_
      exact op_pick (V := (· = .bool true)) _ _ _ false _ rfl rfl (eval_tmp x11) (show (Act.eval a _) = _ from (eval_tmp x13)) rfl hK
    · obtain rfl := Option.some.inj ho
      refine ⟨rfl, fun a w' hS hold hin K hK => ?_⟩
      obtain ⟨y14, x14, rfl⟩ := hin 14 rfl (by omega)
      refine if_always rfl ?_
      exact op_move (V := (· = .bool true)) _ _ rfl rfl (eval_tmp x14) rfl hK
    · obtain rfl := Option.some.inj ho
      refine ⟨rfl, fun a w' hS hold hin K hK => ?_⟩
      obtain ⟨y15, x15, rfl⟩ := hin 15 rfl (by omega)
      exact if_guard_off (d := 38) rfl rfl x15 (by decide) (hK _ _ rfl (Below.refl _ _))
    · obtain rfl := Option.some.inj ho
      refine ⟨rfl, fun a w' hS hold hin K hK => ?_⟩
      obtain ⟨y15, x15, rfl⟩ := hin 15 rfl (by omega)
      exact if_guard_off (d := 38) rfl rfl x15 (by decide) (hK _ _ rfl (Below.refl _ _))
    · obtain rfl := Option.some.inj ho
      refine ⟨rfl, fun a w' hS hold hin K hK => ?_⟩
      obtain ⟨y15, x15, rfl⟩ := hin 15 rfl (by omega)
      exact if_guard_off (d := 38) rfl rfl x15 (by decide) (hK _ _ rfl (Below.refl _ _))
    · obtain rfl := Option.some.inj ho
      refine ⟨rfl, fun a w' hS hold hin K hK => ?_⟩
      obtain ⟨y15, x15, rfl⟩ := hin 15 rfl (by omega)
      exact if_guard_off (d := 38) rfl rfl x15 (by decide) (hK _ _ rfl (Below.refl _ _))
    · obtain rfl := Option.some.inj ho
      refine ⟨rfl, fun a w' hS hold hin K hK => ?_⟩
      obtain ⟨y15, x15, rfl⟩ := hin 15 rfl (by omega)
      refine if_always rfl ?_
      exact op_pick (V := (· = .bool true)) _ _ _ true _ rfl rfl (eval_tmp x15) (show Act.eval a (.const (.bool true)) = (.bool true) from rfl) rfl hK
  clear hS
  intro t1 V3 hs hold hout hS
  replace HS := hs.trans HS
  replace hS := hS.1
  obtain ⟨_, q43, rfl⟩ : ∃ x, t1[43]? = some x ∧ x = (.bool true : Value) := hout 20 (by omega)
  replace h1 := (hold 1 (slots_not (by kernel_rfl))).trans h1
  replace h2 := (hold 2 (slots_not (by kernel_rfl))).trans h2
  replace h3 := (hold 3 (slots_not (by kernel_rfl))).trans h3
  replace h7 := (hold 7 (slots_not (by kernel_rfl))).trans h7
  replace h8 := (hold 8 (slots_not (by kernel_rfl))).trans h8
  clear hold hout hs
  obtain ⟨f, e0, hf⟩ := wash HS
  have f1 := hf 1 _ h1
  have f2 := hf 2 _ h2
  have f3 := hf 3 _ h3
  have f7 := hf 7 _ h7
  have f8 := hf 8 _ h8
  have f43 := hf 43 _ q43
  clear hf
  rw [e0.trans (show _ = #[f 0, f 1, f 2, f 3, f 4, f 5, f 6, f 7, f 8, f 9, f 10, f 11, f 12, f 13, f 14, f 15, f 16, f 17, f 18, f 19, f 20, f 21, f 22, f 23, f 24, f 25, f 26, f 27, f 28, f 29, f 30, f 31, f 32, f 33, f 34, f 35, f 36, f 37, f 38, f 39, f 40, f 41, f 42, f 43, f 44, f 45, f 46, f 47, f 48, f 49, f 50, f 51, f 52, f 53, f 54, f 55, f 56, f 57, f 58, f 59, f 60, f 61, f 62, f 63, f 64, f 65, f 66, f 67, f 68, f 69, f 70, f 71, f 72, f 73, f 74, f 75, f 76, f 77, f 78, f 79, f 80, f 81, f 82, f 83, f 84, f 85, f 86, f 87, f 88, f 89, f 90, f 91, f 92, f 93, f 94, f 95, f 96, f 97, f 98, f 99, f 100, f 101, f 102, f 103, f 104, f 105] from by kernel_rfl), f1, f2, f3, f7, f8, f43]
  clear f1 f2 f3 f7 f8 f43
  clear e0
  try dsimp only
  clear h1 h2 h3 h7 h8 q43 hM HS t1 t0 M
  go_wp2_with fail
  have hbel := hS.1
  clear hS
  go_wp2_with fail
  exact ⟨rfl, .bool true, by kernel_rfl, rfl, hbel⟩
set_option maxHeartbeats 8000000 in
set_option maxRecDepth 100000 in
theorem codecPages_manyd {n0 n1 n2 n3 n4 n5 k n : Int} (hg : good n0 n1 n2 n3 n4 n5 = true) (hk : k = 2) (hn : ¬ n < 0) (hm : n0 < n) (w : World) : Calls Tryd.prog 7 #[.agg #[.int .i64 n0, .int .i64 n1, .int .i64 n2, .int .i64 n3, .int .i64 n4, .int .i64 n5], .int .i64 k, .int .i64 n] w (fun e w' => e = .returned (.bool true) ∧ Below w.heap.size w w') := by
  have hS := conf_start n0 n1 n2 n3 n4 n5 w
  have HG := Lib.hid hg
  have HK := Lib.hid hk
  have HN := Lib.hid hn
  have HM := Lib.hid hm
  clear hg hk hn hm
  go_enter Tryd.func7, Tryd.ntmps7
  go_wp2_with ((with_reducible refine guard_list ?_); first | (refine held_fn _ _ _ rfl ?_))
  change Held (wpList _ _ _ _ _ (w.alloc (.cells #[.int .i64 n0, .int .i64 n1, .int .i64 n2, .int .i64 n3, .int .i64 n4, .int .i64 n5] 23)))
  generalize w.alloc (.cells #[.int .i64 n0, .int .i64 n1, .int .i64 n2, .int .i64 n3, .int .i64 n4, .int .i64 n5] 23) = w0 at hS ⊢
  obtain ⟨M, hM⟩ : ∃ M, M = w0.heap.size := ⟨_, rfl⟩
  refine hide_held fun t0 HT => ?_
  have HS : t0.size = 106 := by rw [HT]; rfl
  have h1 : t0[1]? = some (.int .i64 k) := by rw [HT]; rfl
  have h2 : t0[2]? = some (.int .i64 n) := by rw [HT]; rfl
  have h3 : t0[3]? = some (.pointer (some ⟨w.heap.size, 0, none⟩)) := by rw [HT]; rfl
  clear HT
  refine wp_list_all 1 (fun i => [14, 15].getD i 0) (fun i => [(· = .bool true), (· = .bool false)].getD i (fun _ => True)) (fun w' => Own w [(w.heap.size, 6, (· = .agg #[.int .i64 n0, .int .i64 n1, .int .i64 n2, .int .i64 n3, .int .i64 n4, .int .i64 n5]))] w' ∧ M ≤ w'.heap.size)
    (by kernel_rfl) (by kernel_rfl) (slots_apart (by kernel_rfl)) (slots_lie (by rw [HS]; kernel_rfl)) ⟨hS, Nat.le_of_eq hM⟩ (fun w1 w2 h b => ⟨h.1.keep b, Nat.le_trans h.2 b.size⟩) ?_ ?_
  · clear hS
    intro i o hi ho
    have hc : i = 0 ∨ i = 1 := by omega
    rcases hc with rfl | rfl
    · obtain rfl := Option.some.inj ho
      refine ⟨rfl, fun a w' hS hold hin K hK => ?_⟩
      refine if_always rfl ?_
      exact op_fn0 _  _  rfl rfl  (by intro args w; kernel_rfl) (awake_ev _) hK
    · obtain rfl := Option.some.inj ho
      refine ⟨rfl, fun a w' hS hold hin K hK => ?_⟩
      obtain ⟨y0, x0, rfl⟩ := hin 0 rfl (by omega)
      refine if_always rfl ?_
      exact op_un (V := (· = .bool false)) _ _ _ _ (.bool false) rfl rfl (eval_tmp x0) (fun w => by kernel_rfl) rfl hK
  clear hS
  intro t1 V1 hs hold hout hS
  replace HS := hs.trans HS
  replace hS := hS.1
  obtain ⟨_, q15, rfl⟩ : ∃ x, t1[15]? = some x ∧ x = (.bool false : Value) := hout 1 (by omega)
  replace h1 := (hold 1 (slots_not (by kernel_rfl))).trans h1
  replace h2 := (hold 2 (slots_not (by kernel_rfl))).trans h2
  replace h3 := (hold 3 (slots_not (by kernel_rfl))).trans h3
  clear hold hout hs
  obtain ⟨f, e0, hf⟩ := wash HS
  have f1 := hf 1 _ h1
  have f2 := hf 2 _ h2
  have f3 := hf 3 _ h3
  have f15 := hf 15 _ q15
  clear hf
  rw [e0.trans (show _ = #[f 0, f 1, f 2, f 3, f 4, f 5, f 6, f 7, f 8, f 9, f 10, f 11, f 12, f 13, f 14, f 15, f 16, f 17, f 18, f 19, f 20, f 21, f 22, f 23, f 24, f 25, f 26, f 27, f 28, f 29, f 30, f 31, f 32, f 33, f 34, f 35, f 36, f 37, f 38, f 39, f 40, f 41, f 42, f 43, f 44, f 45, f 46, f 47, f 48, f 49, f 50, f 51, f 52, f 53, f 54, f 55, f 56, f 57, f 58, f 59, f 60, f 61, f 62, f 63, f 64, f 65, f 66, f 67, f 68, f 69, f 70, f 71, f 72, f 73, f 74, f 75, f 76, f 77, f 78, f 79, f 80, f 81, f 82, f 83, f 84, f 85, f 86, f 87, f 88, f 89, f 90, f 91, f 92, f 93, f 94, f 95, f 96, f 97, f 98, f 99, f 100, f 101, f 102, f 103, f 104, f 105] from by kernel_rfl), f1, f2, f3, f15]
  clear f1 f2 f3 f15
  clear e0
  try dsimp only
  clear h1 h2 h3 q15 hM HS t1 t0 M
  go_wp2_with ((with_reducible refine guard_list ?_); first | (refine held_load 23 _ rfl ?_))
  obtain ⟨M, hM⟩ : ∃ M, M = V1.heap.size := ⟨_, rfl⟩
  refine hide_held fun t0 HT => ?_
  have HS : t0.size = 106 := by rw [HT]; rfl
  have h1 : t0[1]? = some (.int .i64 k) := by rw [HT]; rfl
  have h2 : t0[2]? = some (.int .i64 n) := by rw [HT]; rfl
  have h3 : t0[3]? = some (.pointer (some ⟨w.heap.size, 0, none⟩)) := by rw [HT]; rfl
  clear HT
  refine wp_list_most 7 (fun i => [17, 18, 19, 20, 16, 21, 22].getD i 0) (fun _ => none) (fun i => [(· = .agg #[.int .i64 n0, .int .i64 n1, .int .i64 n2, .int .i64 n3, .int .i64 n4, .int .i64 n5]), (· = .int .i64 k), (· = .int .i64 n), (· = .tuple #[.int .i64 0, .int .i64 252]), (· = .tuple #[.int .i64 0, .int .i64 252]), (· = .int .i64 0), (· = .int .i64 252)].getD i (fun _ => True)) (fun w' => Own w [(w.heap.size, 6, (· = .agg #[.int .i64 n0, .int .i64 n1, .int .i64 n2, .int .i64 n3, .int .i64 n4, .int .i64 n5]))] w' ∧ M ≤ w'.heap.size) M
    (by kernel_rfl) (slots_apart (by kernel_rfl)) (slots_lie (by rw [HS]; kernel_rfl)) ⟨hS, Nat.le_of_eq hM⟩ (fun w' h => h.2) (fun w1 w2 h b => ⟨h.1.keep b, Nat.le_trans h.2 b.size⟩) ?_ ?_ ?_
  · clear hS
    intro i o hi ho hA
    have hc : i = 0 ∨ i = 1 ∨ i = 2 ∨ i = 3 ∨ i = 4 ∨ i = 5 ∨ i = 6 := by omega
    rcases hc with rfl | rfl | rfl | rfl | rfl | rfl | rfl
    · obtain rfl := Option.some.inj ho
      refine ⟨rfl, fun a w' hS hold hin K hK => ?_⟩
      refine if_always rfl ?_
      exact op_ld_own 6 tConf (.tmp 3) rfl rfl _ (eval_tmp ((hold 3 (slots_not (by kernel_rfl))).trans h3)) hS.1 0 rfl hK
    · obtain rfl := Option.some.inj ho
      refine ⟨rfl, fun a w' hS hold hin K hK => ?_⟩
      refine if_always rfl ?_
      exact op_move (V := (· = .int .i64 k)) _ _ rfl rfl (eval_tmp ((hold 1 (slots_not (by kernel_rfl))).trans h1)) rfl hK
    · obtain rfl := Option.some.inj ho
      refine ⟨rfl, fun a w' hS hold hin K hK => ?_⟩
      refine if_always rfl ?_
      exact op_move (V := (· = .int .i64 n)) _ _ rfl rfl (eval_tmp ((hold 2 (slots_not (by kernel_rfl))).trans h2)) rfl hK
    · obtain rfl := Option.some.inj ho
      refine ⟨rfl, fun a w' hS hold hin K hK => ?_⟩
      obtain ⟨y0, x0, rfl⟩ := hin 0 rfl (by omega) rfl
      obtain ⟨y1, x1, rfl⟩ := hin 1 rfl (by omega) rfl
      obtain ⟨y2, x2, rfl⟩ := hin 2 rfl (by omega) rfl
      refine if_always rfl ?_
      exact op_fn3 _ _ _ _ _ _ _ _ rfl rfl (eval_tmp x0) (eval_tmp x1) (eval_tmp x2) (by intro args w; kernel_rfl) (pages_many (show msr n0 n1 n2 n3 n4 n5 k = (92, 16, 114, 0) by unfold msr; rw [if_pos HG.out, if_neg (by have := HK.out; omega), if_pos HK.out]) (by have := HN.out; omega) HM.out _) hK
    · obtain rfl := Option.some.inj ho
      refine ⟨rfl, fun a w' hS hold hin K hK => ?_⟩
      obtain ⟨y3, x3, rfl⟩ := hin 3 rfl (by omega) rfl
      refine if_always rfl ?_
      exact op_move (V := (· = .tuple #[.int .i64 0, .int .i64 252])) _ _ rfl rfl (eval_tmp x3) rfl hK
    · obtain rfl := Option.some.inj ho
      refine ⟨rfl, fun a w' hS hold hin K hK => ?_⟩
      obtain ⟨y4, x4, rfl⟩ := hin 4 rfl (by omega) rfl
      refine if_always rfl ?_
      exact op_tup0 (V := (· = .int .i64 0)) _ rfl rfl (eval_tmp x4) rfl hK
    · obtain rfl := Option.some.inj ho
      refine ⟨rfl, fun a w' hS hold hin K hK => ?_⟩
      obtain ⟨y4, x4, rfl⟩ := hin 4 rfl (by omega) rfl
      refine if_always rfl ?_
      exact op_tup1 (V := (· = .int .i64 252)) _ rfl rfl (eval_tmp x4) rfl hK
  · intro i o sz hi ho hA; cases hA
  clear hS
  intro t1 V2 hs hold hout hall hne hS
  replace HS := hs.trans HS
  replace hS := hS.1
  obtain ⟨x21, q21, v21⟩ : ∃ x, t1[21]? = some x ∧ ((· = .int .i64 0)) x := hout 5 (by omega) rfl
  replace q21 : t1[21]? = some (.int .i64 0) := q21.trans (congrArg some v21)
  obtain ⟨x22, q22, v22⟩ : ∃ x, t1[22]? = some x ∧ ((· = .int .i64 252)) x := hout 6 (by omega) rfl
  replace q22 : t1[22]? = some (.int .i64 252) := q22.trans (congrArg some v22)
  replace h1 := (hold 1 (slots_not (by kernel_rfl))).trans h1
  replace h2 := (hold 2 (slots_not (by kernel_rfl))).trans h2
  replace h3 := (hold 3 (slots_not (by kernel_rfl))).trans h3
  clear hold hout hs hall hne
  simp only [List.drop_succ_cons, List.drop_zero]
  refine tlx_assign (.tmp 21) rfl rfl 7 rfl (by rw [HS]; decide) (.int .i64 0) (eval_tmp q21) fun t1 ex0 hz hq he => ?_
  replace h1 := (he 1 (by decide)).trans h1
  replace h2 := (he 2 (by decide)).trans h2
  replace h3 := (he 3 (by decide)).trans h3
  replace q21 := (he 21 (by decide)).trans q21
  replace q22 := (he 22 (by decide)).trans q22
  replace HS := hz.trans HS
  clear hz he ex0
  have h7 := hq
  clear hq
  refine tlx_assign (.tmp 22) rfl rfl 8 rfl (by rw [HS]; decide) (.int .i64 252) (eval_tmp q22) fun t1 ex1 hz hq he => ?_
  replace h1 := (he 1 (by decide)).trans h1
  replace h2 := (he 2 (by decide)).trans h2
  replace h3 := (he 3 (by decide)).trans h3
  replace h7 := (he 7 (by decide)).trans h7
  replace q21 := (he 21 (by decide)).trans q21
  replace q22 := (he 22 (by decide)).trans q22
  replace HS := hz.trans HS
  clear hz he ex1
  have h8 := hq
  clear hq
  refine wpList_nil ?_
  obtain ⟨f, e0, hf⟩ := wash HS
  have f1 := hf 1 _ h1
  have f2 := hf 2 _ h2
  have f3 := hf 3 _ h3
  have f7 := hf 7 _ h7
  have f8 := hf 8 _ h8
  clear hf
  rw [e0.trans (show _ = #[f 0, f 1, f 2, f 3, f 4, f 5, f 6, f 7, f 8, f 9, f 10, f 11, f 12, f 13, f 14, f 15, f 16, f 17, f 18, f 19, f 20, f 21, f 22, f 23, f 24, f 25, f 26, f 27, f 28, f 29, f 30, f 31, f 32, f 33, f 34, f 35, f 36, f 37, f 38, f 39, f 40, f 41, f 42, f 43, f 44, f 45, f 46, f 47, f 48, f 49, f 50, f 51, f 52, f 53, f 54, f 55, f 56, f 57, f 58, f 59, f 60, f 61, f 62, f 63, f 64, f 65, f 66, f 67, f 68, f 69, f 70, f 71, f 72, f 73, f 74, f 75, f 76, f 77, f 78, f 79, f 80, f 81, f 82, f 83, f 84, f 85, f 86, f 87, f 88, f 89, f 90, f 91, f 92, f 93, f 94, f 95, f 96, f 97, f 98, f 99, f 100, f 101, f 102, f 103, f 104, f 105] from by kernel_rfl), f1, f2, f3, f7, f8]
  clear f1 f2 f3 f7 f8
  clear e0
  try dsimp only
  clear h1 h2 h3 h7 h8 q21 q22 v21 v22 hM HS t1 t0 M
  go_wp2_with ((with_reducible refine guard_list ?_); first | (refine held_load 23 _ rfl ?_))
  obtain ⟨M, hM⟩ : ∃ M, M = V2.heap.size := ⟨_, rfl⟩
  refine hide_held fun t0 HT => ?_
  have HS : t0.size = 106 := by rw [HT]; rfl
  have h1 : t0[1]? = some (.int .i64 k) := by rw [HT]; rfl
  have h2 : t0[2]? = some (.int .i64 n) := by rw [HT]; rfl
  have h3 : t0[3]? = some (.pointer (some ⟨w.heap.size, 0, none⟩)) := by rw [HT]; rfl
  have h7 : t0[7]? = some (.int .i64 0) := by rw [HT]; rfl
  have h8 : t0[8]? = some (.int .i64 252) := by rw [HT]; rfl
  clear HT
  refine wp_list_all 20 (fun i => [23, 24, 25, 26, 27, 28, 29, 30, 31, 32, 33, 34, 35, 36, 37, 38, 39, 40, 41, 42, 43].getD i 0) (fun i => [(· = .agg #[.int .i64 n0, .int .i64 n1, .int .i64 n2, .int .i64 n3, .int .i64 n4, .int .i64 n5]), (· = .int .i64 0), (· = .bool false), (· = .bool false), (· = .int .i64 k), (· = .bool true), (· = .bool true), (· = .int .i64 k), (· = .bool false), (· = .bool false), (· = .bool false), (· = .bool false), (· = .int .i64 n), (· = .bool false), (· = .bool false), (· = .bool false), (· = .int .i64 n), (· = .pointer (some ⟨w.heap.size, 0, none⟩)), (· = .int .i64 n0), (· = .bool true), (· = .bool true)].getD i (fun _ => True)) (fun w' => Own w [(w.heap.size, 6, (· = .agg #[.int .i64 n0, .int .i64 n1, .int .i64 n2, .int .i64 n3, .int .i64 n4, .int .i64 n5]))] w' ∧ M ≤ w'.heap.size)
    (by kernel_rfl) (by kernel_rfl) (slots_apart (by kernel_rfl)) (slots_lie (by rw [HS]; kernel_rfl)) ⟨hS, Nat.le_of_eq hM⟩ (fun w1 w2 h b => ⟨h.1.keep b, Nat.le_trans h.2 b.size⟩) ?_ ?_
  · clear hS
    intro i o hi ho
    have hc : i = 0 ∨ i = 1 ∨ i = 2 ∨ i = 3 ∨ i = 4 ∨ i = 5 ∨ i = 6 ∨ i = 7 ∨ i = 8 ∨ i = 9 ∨ i = 10 ∨ i = 11 ∨ i = 12 ∨ i = 13 ∨ i = 14 ∨ i = 15 ∨ i = 16 ∨ i = 17 ∨ i = 18 ∨ i = 19 ∨ i = 20 := by omega
    rcases hc with rfl | rfl | rfl | rfl | rfl | rfl | rfl | rfl | rfl | rfl | rfl | rfl | rfl | rfl | rfl | rfl | rfl | rfl | rfl | rfl | rfl
    · obtain rfl := Option.some.inj ho
      refine ⟨rfl, fun a w' hS hold hin K hK => ?_⟩
      refine if_always rfl ?_
      exact op_ld_own 6 tConf (.tmp 3) rfl rfl _ (eval_tmp ((hold 3 (slots_not (by kernel_rfl))).trans h3)) hS.1 0 rfl hK
    · obtain rfl := Option.some.inj ho
      refine ⟨rfl, fun a w' hS hold hin K hK => ?_⟩
      obtain ⟨y0, x0, rfl⟩ := hin 0 rfl (by omega)
      refine if_always rfl ?_
      exact op_fn1 _ _ _ _ rfl rfl (eval_tmp x0) (by intro args w; kernel_rfl) (chk_yes HG.out _) hK
    · obtain rfl := Option.some.inj ho
      refine ⟨rfl, fun a w' hS hold hin K hK => ?_⟩
      obtain ⟨y1, x1, rfl⟩ := hin 1 rfl (by omega)
      refine if_always rfl ?_
      exact op_bin (V := (· = .bool false)) _ _ _ _ _ _ _ (.bool false) rfl rfl (eval_tmp x1) rfl (fun w => by kernel_rfl) rfl hK
    · obtain rfl := Option.some.inj ho
      refine ⟨rfl, fun a w' hS hold hin K hK => ?_⟩
      obtain ⟨y2, x2, rfl⟩ := hin 2 rfl (by omega)
      refine if_always rfl ?_
      exact op_move (V := (· = .bool false)) _ _ rfl rfl (eval_tmp x2) rfl hK
    · obtain rfl := Option.some.inj ho
      refine ⟨rfl, fun a w' hS hold hin K hK => ?_⟩
      obtain ⟨y3, x3, rfl⟩ := hin 3 rfl (by omega)
      refine if_guard (d := 26) rfl rfl x3 ?_
      exact op_move (V := (· = .int .i64 k)) _ _ rfl rfl (eval_tmp ((hold 1 (slots_not (by kernel_rfl))).trans h1)) rfl hK
    · obtain rfl := Option.some.inj ho
      refine ⟨rfl, fun a w' hS hold hin K hK => ?_⟩
      obtain ⟨y3, x3, rfl⟩ := hin 3 rfl (by omega)
      obtain ⟨y4, x4, rfl⟩ := hin 4 rfl (by omega)
      refine if_guard (d := 26) rfl rfl x3 ?_
      exact op_bin (V := (· = .bool true)) _ _ _ _ _ _ _ (.bool true) rfl rfl (eval_tmp x4) rfl (fun w => cmp_neq (decide_eq_true (by have := HK.out; omega)) w) rfl hK
    · obtain rfl := Option.some.inj ho
      refine ⟨rfl, fun a w' hS hold hin K hK => ?_⟩
      obtain ⟨y3, x3, rfl⟩ := hin 3 rfl (by omega)
      obtain ⟨y5, x5, rfl⟩ := hin 5 rfl (by omega)
      refine if_guard (d := 26) rfl rfl x3 ?_
      exact op_move (V := (· = .bool true)) _ _ rfl rfl (eval_tmp x5) rfl hK
    · obtain rfl := Option.some.inj ho
      refine ⟨rfl, fun a w' hS hold hin K hK => ?_⟩
      obtain ⟨y6, x6, rfl⟩ := hin 6 rfl (by omega)
      refine if_guard (d := 29) rfl rfl x6 ?_
      exact op_move (V := (· = .int .i64 k)) _ _ rfl rfl (eval_tmp ((hold 1 (slots_not (by kernel_rfl))).trans h1)) rfl hK
    · obtain rfl := Option.some.inj ho
      refine ⟨rfl, fun a w' hS hold hin K hK => ?_⟩
      obtain ⟨y6, x6, rfl⟩ := hin 6 rfl (by omega)
      obtain ⟨y7, x7, rfl⟩ := hin 7 rfl (by omega)
      refine if_guard (d := 29) rfl rfl x6 ?_
      exact op_bin (V := (· = .bool false)) _ _ _ _ _ _ _ (.bool false) rfl rfl (eval_tmp x7) rfl (fun w => cmp_neq (decide_eq_false (by have := HK.out; omega)) w) rfl hK
    · obtain rfl := Option.some.inj ho
      refine ⟨rfl, fun a w' hS hold hin K hK => ?_⟩
      obtain ⟨y3, x3, rfl⟩ := hin 3 rfl (by omega)
      obtain ⟨y6, x6, rfl⟩ := hin 6 rfl (by omega)
      obtain ⟨y8, x8, rfl⟩ := hin 8 rfl (by omega)
      refine if_guard (d := 26) rfl rfl x3 ?_
      exact op_pick (V := (· = .bool false)) _ _ _ true _ rfl rfl (eval_tmp x6) (show (Act.eval a _) = _ from (eval_tmp x8)) rfl hK
    · obtain rfl := Option.some.inj ho
      refine ⟨rfl, fun a w' hS hold hin K hK => ?_⟩
      obtain ⟨y3, x3, rfl⟩ := hin 3 rfl (by omega)
      obtain ⟨y9, x9, rfl⟩ := hin 9 rfl (by omega)
      refine if_always rfl ?_
      exact op_pick (V := (· = .bool false)) _ _ _ false _ rfl rfl (eval_tmp x3) (show (Act.eval a _) = _ from (eval_tmp x9)) rfl hK
    · obtain rfl := Option.some.inj ho
      refine ⟨rfl, fun a w' hS hold hin K hK => ?_⟩
      obtain ⟨y10, x10, rfl⟩ := hin 10 rfl (by omega)
      refine if_always rfl ?_
      exact op_move (V := (· = .bool false)) _ _ rfl rfl (eval_tmp x10) rfl hK
    · obtain rfl := Option.some.inj ho
      refine ⟨rfl, fun a w' hS hold hin K hK => ?_⟩
      obtain ⟨y11, x11, rfl⟩ := hin 11 rfl (by omega)
      refine if_guard (d := 34) rfl rfl x11 ?_
      exact op_move (V := (· = .int .i64 n)) _ _ rfl rfl (eval_tmp ((hold 2 (slots_not (by kernel_rfl))).trans h2)) rfl hK
    · obtain rfl := Option.some.inj ho
      refine ⟨rfl, fun a w' hS hold hin K hK => ?_⟩
      obtain ⟨y11, x11, rfl⟩ := hin 11 rfl (by omega)
      obtain ⟨y12, x12, rfl⟩ := hin 12 rfl (by omega)
      refine if_guard (d := 34) rfl rfl x11 ?_
      exact op_bin (V := (· = .bool false)) _ _ _ _ _ _ _ (.bool false) rfl rfl (eval_tmp x12) rfl (fun w => cmp_lss (decide_eq_false (by have := HN.out; omega)) w) rfl hK
    · obtain rfl := Option.some.inj ho
      refine ⟨rfl, fun a w' hS hold hin K hK => ?_⟩
      obtain ⟨y11, x11, rfl⟩ := hin 11 rfl (by omega)
      obtain ⟨y13, x13, rfl⟩ := hin 13 rfl (by omega)
      refine if_always rfl ?_
      exact op_pick (V := (· = .bool false)) _ _ _ false _ rfl rfl (eval_tmp x11) (show (Act.eval a _) = _ from (eval_tmp x13)) rfl hK
    · obtain rfl := Option.some.inj ho
      refine ⟨rfl, fun a w' hS hold hin K hK => ?_⟩
      obtain ⟨y14, x14, rfl⟩ := hin 14 rfl (by omega)
      refine if_always rfl ?_
      exact op_move (V := (· = .bool false)) _ _ rfl rfl (eval_tmp x14) rfl hK
    · obtain rfl := Option.some.inj ho
      refine ⟨rfl, fun a w' hS hold hin K hK => ?_⟩
      obtain ⟨y15, x15, rfl⟩ := hin 15 rfl (by omega)
      refine if_guard (d := 38) rfl rfl x15 ?_
      exact op_move (V := (· = .int .i64 n)) _ _ rfl rfl (eval_tmp ((hold 2 (slots_not (by kernel_rfl))).trans h2)) rfl hK
    · obtain rfl := Option.some.inj ho
      refine ⟨rfl, fun a w' hS hold hin K hK => ?_⟩
      obtain ⟨y15, x15, rfl⟩ := hin 15 rfl (by omega)
      refine if_guard (d := 38) rfl rfl x15 ?_
      exact op_field 23 _ 0 _ (.pointer (some ⟨w.heap.size, 0, none⟩)) rfl rfl (eval_tmp ((hold 3 (slots_not (by kernel_rfl))).trans h3)) (fun w => by kernel_rfl) hK
    · obtain rfl := Option.some.inj ho
      refine ⟨rfl, fun a w' hS hold hin K hK => ?_⟩
      obtain ⟨y15, x15, rfl⟩ := hin 15 rfl (by omega)
      obtain ⟨y17, x17, rfl⟩ := hin 17 rfl (by omega)
      refine if_guard (d := 38) rfl rfl x15 ?_
      exact op_cell_own tInt _ w.heap.size 0 rfl rfl (eval_tmp x17) hS.1 0 _ _ rfl (.int .i64 n0) rfl hK
    · obtain rfl := Option.some.inj ho
      refine ⟨rfl, fun a w' hS hold hin K hK => ?_⟩
      obtain ⟨y15, x15, rfl⟩ := hin 15 rfl (by omega)
      obtain ⟨y16, x16, rfl⟩ := hin 16 rfl (by omega)
      obtain ⟨y18, x18, rfl⟩ := hin 18 rfl (by omega)
      refine if_guard (d := 38) rfl rfl x15 ?_
      exact op_bin (V := (· = .bool true)) _ _ _ _ _ _ _ (.bool true) rfl rfl (eval_tmp x16) (eval_tmp x18) (fun w => cmp_gtr (decide_eq_true HM.out) w) rfl hK
    · obtain rfl := Option.some.inj ho
      refine ⟨rfl, fun a w' hS hold hin K hK => ?_⟩
      obtain ⟨y15, x15, rfl⟩ := hin 15 rfl (by omega)
      obtain ⟨y19, x19, rfl⟩ := hin 19 rfl (by omega)
      refine if_always rfl ?_
      exact op_pick (V := (· = .bool true)) _ _ _ false _ rfl rfl (eval_tmp x15) (show (Act.eval a _) = _ from (eval_tmp x19)) rfl hK
  clear hS
  intro t1 V3 hs hold hout hS
  replace HS := hs.trans HS
  replace hS := hS.1
  obtain ⟨_, q43, rfl⟩ : ∃ x, t1[43]? = some x ∧ x = (.bool true : Value) := hout 20 (by omega)
  replace h1 := (hold 1 (slots_not (by kernel_rfl))).trans h1
  replace h2 := (hold 2 (slots_not (by kernel_rfl))).trans h2
  replace h3 := (hold 3 (slots_not (by kernel_rfl))).trans h3
  replace h7 := (hold 7 (slots_not (by kernel_rfl))).trans h7
  replace h8 := (hold 8 (slots_not (by kernel_rfl))).trans h8
  clear hold hout hs
  obtain ⟨f, e0, hf⟩ := wash HS
  have f1 := hf 1 _ h1
  have f2 := hf 2 _ h2
  have f3 := hf 3 _ h3
  have f7 := hf 7 _ h7
  have f8 := hf 8 _ h8
  have f43 := hf 43 _ q43
  clear hf
  rw [e0.trans (show _ = #[f 0, f 1, f 2, f 3, f 4, f 5, f 6, f 7, f 8, f 9, f 10, f 11, f 12, f 13, f 14, f 15, f 16, f 17, f 18, f 19, f 20, f 21, f 22, f 23, f 24, f 25, f 26, f 27, f 28, f 29, f 30, f 31, f 32, f 33, f 34, f 35, f 36, f 37, f 38, f 39, f 40, f 41, f 42, f 43, f 44, f 45, f 46, f 47, f 48, f 49, f 50, f 51, f 52, f 53, f 54, f 55, f 56, f 57, f 58, f 59, f 60, f 61, f 62, f 63, f 64, f 65, f 66, f 67, f 68, f 69, f 70, f 71, f 72, f 73, f 74, f 75, f 76, f 77, f 78, f 79, f 80, f 81, f 82, f 83, f 84, f 85, f 86, f 87, f 88, f 89, f 90, f 91, f 92, f 93, f 94, f 95, f 96, f 97, f 98, f 99, f 100, f 101, f 102, f 103, f 104, f 105] from by kernel_rfl), f1, f2, f3, f7, f8, f43]
  clear f1 f2 f3 f7 f8 f43
  clear e0
  try dsimp only
  clear h1 h2 h3 h7 h8 q43 hM HS t1 t0 M
  go_wp2_with fail
  have hbel := hS.1
  clear hS
  go_wp2_with fail
  exact ⟨rfl, .bool true, by kernel_rfl, rfl, hbel⟩
set_option maxHeartbeats 8000000 in
set_option maxRecDepth 100000 in
theorem codecPages_okt0 {n0 n1 n2 n4 n5 k rq rp : Int} {t r n : Nat} (hg : good n0 n1 n2 t n4 n5 = true) (hk : k = 1) (hms : ∀ t2 : Nat, (t : Int) ≤ t2 → t2 ≤ 4096 → msr n0 n1 n2 t2 n4 n5 k = (rq, rp, (r : Int), 0)) (hm : (n : Int) ≤ n0) (hb : n ≤ 256) (hr : 1 ≤ r) (hrt : r ≤ t) (ht : t ≤ 4096) (h32 : 32 ≤ t) (hz : n = 0) (w : World) : Calls Tryd.prog 7 #[.agg #[.int .i64 n0, .int .i64 n1, .int .i64 n2, .int .i64 t, .int .i64 n4, .int .i64 n5], .int .i64 k, .int .i64 n] w (fun e w' => e = .returned (.bool true) ∧ Below w.heap.size w w') := by
  have hS := conf_start n0 n1 n2 t n4 n5 w
  have hn : (0 : Int) ≤ n := Int.natCast_nonneg n
  obtain ⟨q, hq⟩ : ∃ q, pg n t r = q := ⟨_, rfl⟩
  have hle := pg_le hr hrt h32 hb
  rw [hq] at hle
  have hq0 : q = 0 := by rw [← hq, hz]; exact pg_zero hr hrt h32
  obtain ⟨t2, ht2⟩ : ∃ t2 : Nat, (if t = 4096 then 4096 else t + 1) = t2 := ⟨_, rfl⟩
  have htt : t ≤ t2 ∧ t2 ≤ 4096 := by split at ht2 <;> omega
  obtain ⟨q2, hq2⟩ : ∃ q2, pg n t2 r = q2 := ⟨_, rfl⟩
  have hanti : q2 ≤ q := by rw [← hq2, ← hq]; exact pg_anti hr hrt h32 htt.1
  have HG := Lib.hid hg
  have HK := Lib.hid hk
  have HMS := Lib.hid hms
  have HM := Lib.hid hm
  have HB := Lib.hid hb
  have HR := Lib.hid hr
  have HRT := Lib.hid hrt
  have HT := Lib.hid ht
  have H32 := Lib.hid h32
  have HZ := Lib.hid hz
  have HN := Lib.hid hn
  have HQ := Lib.hid hq
  have HLE := Lib.hid hle
  have HQ0 := Lib.hid hq0
  have HT2 := Lib.hid ht2
  have HTT := Lib.hid htt
  have HQ2 := Lib.hid hq2
  have HANTI := Lib.hid hanti
  clear hg hk hms hm hr hrt h32 hn hq ht2 hq2 hle htt hanti hq0 hz hb ht
  go_enter Tryd.func7, Tryd.ntmps7
  go_wp2_with ((with_reducible refine guard_list ?_); first | (refine held_fn _ _ _ rfl ?_))
  change Held (wpList _ _ _ _ _ (w.alloc (.cells #[.int .i64 n0, .int .i64 n1, .int .i64 n2, .int .i64 t, .int .i64 n4, .int .i64 n5] 23)))
  generalize w.alloc (.cells #[.int .i64 n0, .int .i64 n1, .int .i64 n2, .int .i64 t, .int .i64 n4, .int .i64 n5] 23) = w0 at hS ⊢
  obtain ⟨M, hM⟩ : ∃ M, M = w0.heap.size := ⟨_, rfl⟩
  refine hide_held fun t0 HT => ?_
  have HS : t0.size = 106 := by rw [HT]; rfl
  have h1 : t0[1]? = some (.int .i64 k) := by rw [HT]; rfl
  have h2 : t0[2]? = some (.int .i64 n) := by rw [HT]; rfl
  have h3 : t0[3]? = some (.pointer (some ⟨w.heap.size, 0, none⟩)) := by rw [HT]; rfl
  clear HT
  refine wp_list_all 1 (fun i => [14, 15].getD i 0) (fun i => [(· = .bool true), (· = .bool false)].getD i (fun _ => True)) (fun w' => Own w [(w.heap.size, 6, (· = .agg #[.int .i64 n0, .int .i64 n1, .int .i64 n2, .int .i64 t, .int .i64 n4, .int .i64 n5]))] w' ∧ M ≤ w'.heap.size)
    (by kernel_rfl) (by kernel_rfl) (slots_apart (by kernel_rfl)) (slots_lie (by rw [HS]; kernel_rfl)) ⟨hS, Nat.le_of_eq hM⟩ (fun w1 w2 h b => ⟨h.1.keep b, Nat.le_trans h.2 b.size⟩) ?_ ?_
  · clear hS
    intro i o hi ho
    have hc : i = 0 ∨ i = 1 := by omega
    rcases hc with rfl | rfl
    · obtain rfl := Option.some.inj ho
      refine ⟨rfl, fun a w' hS hold hin K hK => ?_⟩
      refine if_always rfl ?_
      exact op_fn0 _  _  rfl rfl  (by intro args w; kernel_rfl) (awake_ev _) hK
    · obtain rfl := Option.some.inj ho
      refine ⟨rfl, fun a w' hS hold hin K hK => ?_⟩
      obtain ⟨y0, x0, rfl⟩ := hin 0 rfl (by omega)
      refine if_always rfl ?_
      exact op_un (V := (· = .bool false)) _ _ _ _ (.bool false) rfl rfl (eval_tmp x0) (fun w => by kernel_rfl) rfl hK
  clear hS
  intro t1 V1 hs hold hout hS
  replace HS := hs.trans HS
  replace hS := hS.1
  obtain ⟨_, q15, rfl⟩ : ∃ x, t1[15]? = some x ∧ x = (.bool false : Value) := hout 1 (by omega)
  replace h1 := (hold 1 (slots_not (by kernel_rfl))).trans h1
  replace h2 := (hold 2 (slots_not (by kernel_rfl))).trans h2
  replace h3 := (hold 3 (slots_not (by kernel_rfl))).trans h3
  clear hold hout hs
  obtain ⟨f, e0, hf⟩ := wash HS
  have f1 := hf 1 _ h1
  have f2 := hf 2 _ h2
  have f3 := hf 3 _ h3
  have f15 := hf 15 _ q15
  clear hf
  rw [e0.trans (show _ = #[f 0, f 1, f 2, f 3, f 4, f 5, f 6, f 7, f 8, f 9, f 10, f 11, f 12, f 13, f 14, f 15, f 16, f 17, f 18, f 19, f 20, f 21, f 22, f 23, f 24, f 25, f 26, f 27, f 28, f 29, f 30, f 31, f 32, f 33, f 34, f 35, f 36, f 37, f 38, f 39, f 40, f 41, f 42, f 43, f 44, f 45, f 46, f 47, f 48, f 49, f 50, f 51, f 52, f 53, f 54, f 55, f 56, f 57, f 58, f 59, f 60, f 61, f 62, f 63, f 64, f 65, f 66, f 67, f 68, f 69, f 70, f 71, f 72, f 73, f 74, f 75, f 76, f 77, f 78, f 79, f 80, f 81, f 82, f 83, f 84, f 85, f 86, f 87, f 88, f 89, f 90, f 91, f 92, f 93, f 94, f 95, f 96, f 97, f 98, f 99, f 100, f 101, f 102, f 103, f 104, f 105] from by kernel_rfl), f1, f2, f3, f15]
  clear f1 f2 f3 f15
  clear e0
  try dsimp only
  clear h1 h2 h3 q15 hM HS t1 t0 M
  go_wp2_with ((with_reducible refine guard_list ?_); first | (refine held_load 23 _ rfl ?_))
  obtain ⟨M, hM⟩ : ∃ M, M = V1.heap.size := ⟨_, rfl⟩
  refine hide_held fun t0 HT => ?_
  have HS : t0.size = 106 := by rw [HT]; rfl
  have h1 : t0[1]? = some (.int .i64 k) := by rw [HT]; rfl
  have h2 : t0[2]? = some (.int .i64 n) := by rw [HT]; rfl
  have h3 : t0[3]? = some (.pointer (some ⟨w.heap.size, 0, none⟩)) := by rw [HT]; rfl
  clear HT
  refine wp_list_most 7 (fun i => [17, 18, 19, 20, 16, 21, 22].getD i 0) (fun _ => none) (fun i => [(· = .agg #[.int .i64 n0, .int .i64 n1, .int .i64 n2, .int .i64 t, .int .i64 n4, .int .i64 n5]), (· = .int .i64 k), (· = .int .i64 n), (· = .tuple #[.int .i64 q, .int .i64 0]), (· = .tuple #[.int .i64 q, .int .i64 0]), (· = .int .i64 q), (· = .int .i64 0)].getD i (fun _ => True)) (fun w' => Own w [(w.heap.size, 6, (· = .agg #[.int .i64 n0, .int .i64 n1, .int .i64 n2, .int .i64 t, .int .i64 n4, .int .i64 n5]))] w' ∧ M ≤ w'.heap.size) M
    (by kernel_rfl) (slots_apart (by kernel_rfl)) (slots_lie (by rw [HS]; kernel_rfl)) ⟨hS, Nat.le_of_eq hM⟩ (fun w' h => h.2) (fun w1 w2 h b => ⟨h.1.keep b, Nat.le_trans h.2 b.size⟩) ?_ ?_ ?_
  · clear hS
    intro i o hi ho hA
    have hc : i = 0 ∨ i = 1 ∨ i = 2 ∨ i = 3 ∨ i = 4 ∨ i = 5 ∨ i = 6 := by omega
    rcases hc with rfl | rfl | rfl | rfl | rfl | rfl | rfl
    · obtain rfl := Option.some.inj ho
      refine ⟨rfl, fun a w' hS hold hin K hK => ?_⟩
      refine if_always rfl ?_
      exact op_ld_own 6 tConf (.tmp 3) rfl rfl _ (eval_tmp ((hold 3 (slots_not (by kernel_rfl))).trans h3)) hS.1 0 rfl hK
    · obtain rfl := Option.some.inj ho
      refine ⟨rfl, fun a w' hS hold hin K hK => ?_⟩
      refine if_always rfl ?_
      exact op_move (V := (· = .int .i64 k)) _ _ rfl rfl (eval_tmp ((hold 1 (slots_not (by kernel_rfl))).trans h1)) rfl hK
    · obtain rfl := Option.some.inj ho
      refine ⟨rfl, fun a w' hS hold hin K hK => ?_⟩
      refine if_always rfl ?_
      exact op_move (V := (· = .int .i64 n)) _ _ rfl rfl (eval_tmp ((hold 2 (slots_not (by kernel_rfl))).trans h2)) rfl hK
    · obtain rfl := Option.some.inj ho
      refine ⟨rfl, fun a w' hS hold hin K hK => ?_⟩
      obtain ⟨y0, x0, rfl⟩ := hin 0 rfl (by omega) rfl
      obtain ⟨y1, x1, rfl⟩ := hin 1 rfl (by omega) rfl
      obtain ⟨y2, x2, rfl⟩ := hin 2 rfl (by omega) rfl
      refine if_always rfl ?_
      exact op_fn3 _ _ _ _ _ _ _ _ rfl rfl (eval_tmp x0) (eval_tmp x1) (eval_tmp x2) (by intro args w; kernel_rfl) (pages_pg (HMS.out t (Int.le_refl _) HT.out) HM.out HB.out HR.out HRT.out HT.out H32.out HQ.out _) hK
    · obtain rfl := Option.some.inj ho
      refine ⟨rfl, fun a w' hS hold hin K hK => ?_⟩
      obtain ⟨y3, x3, rfl⟩ := hin 3 rfl (by omega) rfl
      refine if_always rfl ?_
      exact op_move (V := (· = .tuple #[.int .i64 q, .int .i64 0])) _ _ rfl rfl (eval_tmp x3) rfl hK
    · obtain rfl := Option.some.inj ho
      refine ⟨rfl, fun a w' hS hold hin K hK => ?_⟩
      obtain ⟨y4, x4, rfl⟩ := hin 4 rfl (by omega) rfl
      refine if_always rfl ?_
      exact op_tup0 (V := (· = .int .i64 q)) _ rfl rfl (eval_tmp x4) rfl hK
    · obtain rfl := Option.some.inj ho
      refine ⟨rfl, fun a w' hS hold hin K hK => ?_⟩
      obtain ⟨y4, x4, rfl⟩ := hin 4 rfl (by omega) rfl
      refine if_always rfl ?_
      exact op_tup1 (V := (· = .int .i64 0)) _ rfl rfl (eval_tmp x4) rfl hK
  · intro i o sz hi ho hA; cases hA
  clear hS
  intro t1 V2 hs hold hout hall hne hS
  replace HS := hs.trans HS
  replace hS := hS.1
  obtain ⟨x21, q21, v21⟩ : ∃ x, t1[21]? = some x ∧ ((· = .int .i64 q)) x := hout 5 (by omega) rfl
  replace q21 : t1[21]? = some (.int .i64 q) := q21.trans (congrArg some v21)
  obtain ⟨x22, q22, v22⟩ : ∃ x, t1[22]? = some x ∧ ((· = .int .i64 0)) x := hout 6 (by omega) rfl
  replace q22 : t1[22]? = some (.int .i64 0) := q22.trans (congrArg some v22)
  replace h1 := (hold 1 (slots_not (by kernel_rfl))).trans h1
  replace h2 := (hold 2 (slots_not (by kernel_rfl))).trans h2
  replace h3 := (hold 3 (slots_not (by kernel_rfl))).trans h3
  clear hold hout hs hall hne
  simp only [List.drop_succ_cons, List.drop_zero]
  refine tlx_assign (.tmp 21) rfl rfl 7 rfl (by rw [HS]; decide) (.int .i64 q) (eval_tmp q21) fun t1 ex0 hz hq he => ?_
  replace h1 := (he 1 (by decide)).trans h1
  replace h2 := (he 2 (by decide)).trans h2
  replace h3 := (he 3 (by decide)).trans h3
  replace q21 := (he 21 (by decide)).trans q21
  replace q22 := (he 22 (by decide)).trans q22
  replace HS := hz.trans HS
  clear hz he ex0
  have h7 := hq
  clear hq
  refine tlx_assign (.tmp 22) rfl rfl 8 rfl (by rw [HS]; decide) (.int .i64 0) (eval_tmp q22) fun t1 ex1 hz hq he => ?_
  replace h1 := (he 1 (by decide)).trans h1
  replace h2 := (he 2 (by decide)).trans h2
  replace h3 := (he 3 (by decide)).trans h3
  replace h7 := (he 7 (by decide)).trans h7
  replace q21 := (he 21 (by decide)).trans q21
  replace q22 := (he 22 (by decide)).trans q22
  replace HS := hz.trans HS
  clear hz he ex1
  have h8 := hq
  clear hq
  refine wpList_nil ?_
  obtain ⟨f, e0, hf⟩ := wash HS
  have f1 := hf 1 _ h1
  have f2 := hf 2 _ h2
  have f3 := hf 3 _ h3
  have f7 := hf 7 _ h7
  have f8 := hf 8 _ h8
  clear hf
  rw [e0.trans (show _ = #[f 0, f 1, f 2, f 3, f 4, f 5, f 6, f 7, f 8, f 9, f 10, f 11, f 12, f 13, f 14, f 15, f 16, f 17, f 18, f 19, f 20, f 21, f 22, f 23, f 24, f 25, f 26, f 27, f 28, f 29, f 30, f 31, f 32, f 33, f 34, f 35, f 36, f 37, f 38, f 39, f 40, f 41, f 42, f 43, f 44, f 45, f 46, f 47, f 48, f 49, f 50, f 51, f 52, f 53, f 54, f 55, f 56, f 57, f 58, f 59, f 60, f 61, f 62, f 63, f 64, f 65, f 66, f 67, f 68, f 69, f 70, f 71, f 72, f 73, f 74, f 75, f 76, f 77, f 78, f 79, f 80, f 81, f 82, f 83, f 84, f 85, f 86, f 87, f 88, f 89, f 90, f 91, f 92, f 93, f 94, f 95, f 96, f 97, f 98, f 99, f 100, f 101, f 102, f 103, f 104, f 105] from by kernel_rfl), f1, f2, f3, f7, f8]
  clear f1 f2 f3 f7 f8
  clear e0
  try dsimp only
  clear h1 h2 h3 h7 h8 q21 q22 v21 v22 hM HS t1 t0 M
  go_wp2_with ((with_reducible refine guard_list ?_); first | (refine held_load 23 _ rfl ?_))
  obtain ⟨M, hM⟩ : ∃ M, M = V2.heap.size := ⟨_, rfl⟩
  refine hide_held fun t0 HT => ?_
  have HS : t0.size = 106 := by rw [HT]; rfl
  have h1 : t0[1]? = some (.int .i64 k) := by rw [HT]; rfl
  have h2 : t0[2]? = some (.int .i64 n) := by rw [HT]; rfl
  have h3 : t0[3]? = some (.pointer (some ⟨w.heap.size, 0, none⟩)) := by rw [HT]; rfl
  have h7 : t0[7]? = some (.int .i64 q) := by rw [HT]; rfl
  have h8 : t0[8]? = some (.int .i64 0) := by rw [HT]; rfl
  clear HT
  refine wp_list_all 20 (fun i => [23, 24, 25, 26, 27, 28, 29, 30, 31, 32, 33, 34, 35, 36, 37, 38, 39, 40, 41, 42, 43].getD i 0) (fun i => [(· = .agg #[.int .i64 n0, .int .i64 n1, .int .i64 n2, .int .i64 t, .int .i64 n4, .int .i64 n5]), (· = .int .i64 0), (· = .bool false), (· = .bool false), (· = .int .i64 k), (· = .bool false), (· = .bool false), (· = undef), (· = undef), (· = .bool false), (· = .bool false), (· = .bool false), (· = .int .i64 n), (· = .bool false), (· = .bool false), (· = .bool false), (· = .int .i64 n), (· = .pointer (some ⟨w.heap.size, 0, none⟩)), (· = .int .i64 n0), (· = .bool false), (· = .bool false)].getD i (fun _ => True)) (fun w' => Own w [(w.heap.size, 6, (· = .agg #[.int .i64 n0, .int .i64 n1, .int .i64 n2, .int .i64 t, .int .i64 n4, .int .i64 n5]))] w' ∧ M ≤ w'.heap.size)
    (by kernel_rfl) (by kernel_rfl) (slots_apart (by kernel_rfl)) (slots_lie (by rw [HS]; kernel_rfl)) ⟨hS, Nat.le_of_eq hM⟩ (fun w1 w2 h b => ⟨h.1.keep b, Nat.le_trans h.2 b.size⟩) ?_ ?_
  · clear hS
    intro i o hi ho
    have hc : i = 0 ∨ i = 1 ∨ i = 2 ∨ i = 3 ∨ i = 4 ∨ i = 5 ∨ i = 6 ∨ i = 7 ∨ i = 8 ∨ i = 9 ∨ i = 10 ∨ i = 11 ∨ i = 12 ∨ i = 13 ∨ i = 14 ∨ i = 15 ∨ i = 16 ∨ i = 17 ∨ i = 18 ∨ i = 19 ∨ i = 20 := by omega
    rcases hc with rfl | rfl | rfl | rfl | rfl | rfl | rfl | rfl | rfl | rfl | rfl | rfl | rfl | rfl | rfl | rfl | rfl | rfl | rfl | rfl | rfl
    · obtain rfl := Option.some.inj ho
      refine ⟨rfl, fun a w' hS hold hin K hK => ?_⟩
      refine if_always rfl ?_
      exact op_ld_own 6 tConf (.tmp 3) rfl rfl _ (eval_tmp ((hold 3 (slots_not (by kernel_rfl))).trans h3)) hS.1 0 rfl hK
    · obtain rfl := Option.some.inj ho
      refine ⟨rfl, fun a w' hS hold hin K hK => ?_⟩
      obtain ⟨y0, x0, rfl⟩ := hin 0 rfl (by omega)
      refine if_always rfl ?_
      exact op_fn1 _ _ _ _ rfl rfl (eval_tmp x0) (by intro args w; kernel_rfl) (chk_yes HG.out _) hK
    · obtain rfl := Option.some.inj ho
      refine ⟨rfl, fun a w' hS hold hin K hK => ?_⟩
      obtain ⟨y1, x1, rfl⟩ := hin 1 rfl (by omega)
      refine if_always rfl ?_
      exact op_bin (V := (· = .bool false)) _ _ _ _ _ _ _ (.bool false) rfl rfl (eval_tmp x1) rfl (fun w => by kernel_rfl) rfl hK
    · obtain rfl := Option.some.inj ho
      refine ⟨rfl, fun a w' hS hold hin K hK => ?_⟩
      obtain ⟨y2, x2, rfl⟩ := hin 2 rfl (by omega)
      refine if_always rfl ?_
      exact op_move (V := (· = .bool false)) _ _ rfl rfl (eval_tmp x2) rfl hK
    · obtain rfl := Option.some.inj ho
      refine ⟨rfl, fun a w' hS hold hin K hK => ?_⟩
      obtain ⟨y3, x3, rfl⟩ := hin 3 rfl (by omega)
      refine if_guard (d := 26) rfl rfl x3 ?_
      exact op_move (V := (· = .int .i64 k)) _ _ rfl rfl (eval_tmp ((hold 1 (slots_not (by kernel_rfl))).trans h1)) rfl hK
    · obtain rfl := Option.some.inj ho
      refine ⟨rfl, fun a w' hS hold hin K hK => ?_⟩
      obtain ⟨y3, x3, rfl⟩ := hin 3 rfl (by omega)
      obtain ⟨y4, x4, rfl⟩ := hin 4 rfl (by omega)
      refine if_guard (d := 26) rfl rfl x3 ?_
      exact op_bin (V := (· = .bool false)) _ _ _ _ _ _ _ (.bool false) rfl rfl (eval_tmp x4) rfl (fun w => cmp_neq (decide_eq_false (by have := HK.out; omega)) w) rfl hK
    · obtain rfl := Option.some.inj ho
      refine ⟨rfl, fun a w' hS hold hin K hK => ?_⟩
      obtain ⟨y3, x3, rfl⟩ := hin 3 rfl (by omega)
      obtain ⟨y5, x5, rfl⟩ := hin 5 rfl (by omega)
      refine if_guard (d := 26) rfl rfl x3 ?_
      exact op_move (V := (· = .bool false)) _ _ rfl rfl (eval_tmp x5) rfl hK
    · obtain rfl := Option.some.inj ho
      refine ⟨rfl, fun a w' hS hold hin K hK => ?_⟩
      obtain ⟨y6, x6, rfl⟩ := hin 6 rfl (by omega)
      exact if_guard_off (d := 29) rfl rfl x6 (by decide) (hK _ _ rfl (Below.refl _ _))
    · obtain rfl := Option.some.inj ho
      refine ⟨rfl, fun a w' hS hold hin K hK => ?_⟩
      obtain ⟨y6, x6, rfl⟩ := hin 6 rfl (by omega)
      exact if_guard_off (d := 29) rfl rfl x6 (by decide) (hK _ _ rfl (Below.refl _ _))
    · obtain rfl := Option.some.inj ho
      refine ⟨rfl, fun a w' hS hold hin K hK => ?_⟩
      obtain ⟨y3, x3, rfl⟩ := hin 3 rfl (by omega)
      obtain ⟨y6, x6, rfl⟩ := hin 6 rfl (by omega)
      refine if_guard (d := 26) rfl rfl x3 ?_
      exact op_pick (V := (· = .bool false)) _ _ _ false _ rfl rfl (eval_tmp x6) (show Act.eval a (.const (.bool false)) = (.bool false) from rfl) rfl hK
    · obtain rfl := Option.some.inj ho
      refine ⟨rfl, fun a w' hS hold hin K hK => ?_⟩
      obtain ⟨y3, x3, rfl⟩ := hin 3 rfl (by omega)
      obtain ⟨y9, x9, rfl⟩ := hin 9 rfl (by omega)
      refine if_always rfl ?_
      exact op_pick (V := (· = .bool false)) _ _ _ false _ rfl rfl (eval_tmp x3) (show (Act.eval a _) = _ from (eval_tmp x9)) rfl hK
    · obtain rfl := Option.some.inj ho
      refine ⟨rfl, fun a w' hS hold hin K hK => ?_⟩
      obtain ⟨y10, x10, rfl⟩ := hin 10 rfl (by omega)
      refine if_always rfl ?_
      exact op_move (V := (· = .bool false)) _ _ rfl rfl (eval_tmp x10) rfl hK
    · obtain rfl := Option.some.inj ho
      refine ⟨rfl, fun a w' hS hold hin K hK => ?_⟩
      obtain ⟨y11, x11, rfl⟩ := hin 11 rfl (by omega)
      refine if_guard (d := 34) rfl rfl x11 ?_
      exact op_move (V := (· = .int .i64 n)) _ _ rfl rfl (eval_tmp ((hold 2 (slots_not (by kernel_rfl))).trans h2)) rfl hK
    · obtain rfl := Option.some.inj ho
      refine ⟨rfl, fun a w' hS hold hin K hK => ?_⟩
      obtain ⟨y11, x11, rfl⟩ := hin 11 rfl (by omega)
      obtain ⟨y12, x12, rfl⟩ := hin 12 rfl (by omega)
      refine if_guard (d := 34) rfl rfl x11 ?_
      exact op_bin (V := (· = .bool false)) _ _ _ _ _ _ _ (.bool false) rfl rfl (eval_tmp x12) rfl (fun w => cmp_lss (decide_eq_false (by have := HN.out; omega)) w) rfl hK
    · obtain rfl := Option.some.inj ho
      refine ⟨rfl, fun a w' hS hold hin K hK => ?_⟩
      obtain ⟨y11, x11, rfl⟩ := hin 11 rfl (by omega)
      obtain ⟨y13, x13, rfl⟩ := hin 13 rfl (by omega)
      refine if_always rfl ?_
      exact op_pick (V := (· = .bool false)) _ _ _ false _ rfl rfl (eval_tmp x11) (show (Act.eval a _) = _ from (eval_tmp x13)) rfl hK
    · obtain rfl := Option.some.inj ho
      refine ⟨rfl, fun a w' hS hold hin K hK => ?_⟩
      obtain ⟨y14, x14, rfl⟩ := hin 14 rfl (by omega)
      refine if_always rfl ?_
      exact op_move (V := (· = .bool false)) _ _ rfl rfl (eval_tmp x14) rfl hK
    · obtain rfl := Option.some.inj ho
      refine ⟨rfl, fun a w' hS hold hin K hK => ?_⟩
      obtain ⟨y15, x15, rfl⟩ := hin 15 rfl (by omega)
      refine if_guard (d := 38) rfl rfl x15 ?_
      exact op_move (V := (· = .int .i64 n)) _ _ rfl rfl (eval_tmp ((hold 2 (slots_not (by kernel_rfl))).trans h2)) rfl hK
    · obtain rfl := Option.some.inj ho
      refine ⟨rfl, fun a w' hS hold hin K hK => ?_⟩
      obtain ⟨y15, x15, rfl⟩ := hin 15 rfl (by omega)
      refine if_guard (d := 38) rfl rfl x15 ?_
      exact op_field 23 _ 0 _ (.pointer (some ⟨w.heap.size, 0, none⟩)) rfl rfl (eval_tmp ((hold 3 (slots_not (by kernel_rfl))).trans h3)) (fun w => by kernel_rfl) hK
    · obtain rfl := Option.some.inj ho
      refine ⟨rfl, fun a w' hS hold hin K hK => ?_⟩
      obtain ⟨y15, x15, rfl⟩ := hin 15 rfl (by omega)
      obtain ⟨y17, x17, rfl⟩ := hin 17 rfl (by omega)
      refine if_guard (d := 38) rfl rfl x15 ?_
      exact op_cell_own tInt _ w.heap.size 0 rfl rfl (eval_tmp x17) hS.1 0 _ _ rfl (.int .i64 n0) rfl hK
    · obtain rfl := Option.some.inj ho
      refine ⟨rfl, fun a w' hS hold hin K hK => ?_⟩
      obtain ⟨y15, x15, rfl⟩ := hin 15 rfl (by omega)
      obtain ⟨y16, x16, rfl⟩ := hin 16 rfl (by omega)
      obtain ⟨y18, x18, rfl⟩ := hin 18 rfl (by omega)
      refine if_guard (d := 38) rfl rfl x15 ?_
      exact op_bin (V := (· = .bool false)) _ _ _ _ _ _ _ (.bool false) rfl rfl (eval_tmp x16) (eval_tmp x18) (fun w => cmp_gtr (decide_eq_false (by have := HM.out; omega)) w) rfl hK
    · obtain rfl := Option.some.inj ho
      refine ⟨rfl, fun a w' hS hold hin K hK => ?_⟩
      obtain ⟨y15, x15, rfl⟩ := hin 15 rfl (by omega)
      obtain ⟨y19, x19, rfl⟩ := hin 19 rfl (by omega)
      refine if_always rfl ?_
      exact op_pick (V := (· = .bool false)) _ _ _ false _ rfl rfl (eval_tmp x15) (show (Act.eval a _) = _ from (eval_tmp x19)) rfl hK
  clear hS
  intro t1 V3 hs hold hout hS
  replace HS := hs.trans HS
  replace hS := hS.1
  obtain ⟨_, q43, rfl⟩ : ∃ x, t1[43]? = some x ∧ x = (.bool false : Value) := hout 20 (by omega)
  replace h1 := (hold 1 (slots_not (by kernel_rfl))).trans h1
  replace h2 := (hold 2 (slots_not (by kernel_rfl))).trans h2
  replace h3 := (hold 3 (slots_not (by kernel_rfl))).trans h3
  replace h7 := (hold 7 (slots_not (by kernel_rfl))).trans h7
  replace h8 := (hold 8 (slots_not (by kernel_rfl))).trans h8
  clear hold hout hs
  obtain ⟨f, e0, hf⟩ := wash HS
  have f1 := hf 1 _ h1
  have f2 := hf 2 _ h2
  have f3 := hf 3 _ h3
  have f7 := hf 7 _ h7
  have f8 := hf 8 _ h8
  have f43 := hf 43 _ q43
  clear hf
  rw [e0.trans (show _ = #[f 0, f 1, f 2, f 3, f 4, f 5, f 6, f 7, f 8, f 9, f 10, f 11, f 12, f 13, f 14, f 15, f 16, f 17, f 18, f 19, f 20, f 21, f 22, f 23, f 24, f 25, f 26, f 27, f 28, f 29, f 30, f 31, f 32, f 33, f 34, f 35, f 36, f 37, f 38, f 39, f 40, f 41, f 42, f 43, f 44, f 45, f 46, f 47, f 48, f 49, f 50, f 51, f 52, f 53, f 54, f 55, f 56, f 57, f 58, f 59, f 60, f 61, f 62, f 63, f 64, f 65, f 66, f 67, f 68, f 69, f 70, f 71, f 72, f 73, f 74, f 75, f 76, f 77, f 78, f 79, f 80, f 81, f 82, f 83, f 84, f 85, f 86, f 87, f 88, f 89, f 90, f 91, f 92, f 93, f 94, f 95, f 96, f 97, f 98, f 99, f 100, f 101, f 102, f 103, f 104, f 105] from by kernel_rfl), f1, f2, f3, f7, f8, f43]
  clear f1 f2 f3 f7 f8 f43
  clear e0
  try dsimp only
  clear h1 h2 h3 h7 h8 q43 hM HS t1 t0 M
  have hz2 := HZ.out
  have hz3 := HQ0.out
  subst hz2
  subst hz3
  go_wp2_with ((with_reducible refine guard_list ?_); first | (refine held_load 23 _ rfl ?_))
  obtain ⟨M, hM⟩ : ∃ M, M = V3.heap.size := ⟨_, rfl⟩
  have hMB : w.heap.size ≤ M := hM ▸ hS.1.size
  have ltM := hS.lt
  rw [← hM] at ltM
  refine hide_held fun t0 HT => ?_
  have HS : t0.size = 106 := by rw [HT]; rfl
  have h1 : t0[1]? = some (.int .i64 k) := by rw [HT]; rfl
  have h2 : t0[2]? = some (.int .i64 0) := by rw [HT]; rfl
  have h3 : t0[3]? = some (.pointer (some ⟨w.heap.size, 0, none⟩)) := by rw [HT]; rfl
  have h7 : t0[7]? = some (.int .i64 0) := by rw [HT]; rfl
  have h8 : t0[8]? = some (.int .i64 0) := by rw [HT]; rfl
  clear HT
  refine wp_list_most 2 (fun i => [86, 11].getD i 0) (fun i => [none, some 6].getD i none) (fun i => [(· = .agg #[.int .i64 n0, .int .i64 n1, .int .i64 n2, .int .i64 t, .int .i64 n4, .int .i64 n5]), (fun _ => True)].getD i (fun _ => True)) (fun w' => Own w [(w.heap.size, 6, (· = .agg #[.int .i64 n0, .int .i64 n1, .int .i64 n2, .int .i64 t, .int .i64 n4, .int .i64 n5]))] w' ∧ M ≤ w'.heap.size) M
    (by kernel_rfl) (slots_apart (by kernel_rfl)) (slots_lie (by rw [HS]; kernel_rfl)) ⟨hS, Nat.le_of_eq hM⟩ (fun w' h => h.2) (fun w1 w2 h b => ⟨h.1.keep b, Nat.le_trans h.2 b.size⟩) ?_ ?_ ?_
  · clear hS
    intro i o hi ho hA
    have hc : i = 0 ∨ i = 1 := by omega
    rcases hc with rfl | rfl
    · obtain rfl := Option.some.inj ho
      refine ⟨rfl, fun a w' hS hold hin K hK => ?_⟩
      refine if_always rfl ?_
      exact op_ld_own 6 tConf (.tmp 3) rfl rfl _ (eval_tmp ((hold 3 (slots_not (by kernel_rfl))).trans h3)) hS.1 0 rfl hK
    · cases hA
  · intro i o sz hi ho hA
    have hc : i = 0 ∨ i = 1 := by omega
    rcases hc with rfl | rfl
    · cases hA
    · obtain rfl := Option.some.inj ho
      obtain rfl := Option.some.inj hA
      exact ⟨rfl, rfl, 23, #[.int .i64 0, .int .i64 0, .int .i64 0, .int .i64 0, .int .i64 0, .int .i64 0], rfl, fun a w' K h => wp_new 23 #[.int .i64 0, .int .i64 0, .int .i64 0, .int .i64 0, .int .i64 0, .int .i64 0] (fun w => by kernel_rfl) h⟩
  clear hS
  intro t1 V4 hs hold hout hall hne hS
  replace HS := hs.trans HS
  replace hS := hS.1
  obtain ⟨gd, h11, b11, r11⟩ : ∃ g, t1[11]? = some (.pointer (some ⟨g, 0, none⟩)) ∧ M ≤ g ∧ ∃ cs ty, V4.heap[g]? = some (.cells cs ty (0, 0)) ∧ cs.size = 6 := by
    obtain ⟨g, p1, p2, ty, cs, p3, p4⟩ := hall 1 (by omega) 6 rfl
    exact ⟨g, p1, p2, cs, ty, p3, p4⟩
  replace hS : Own w [(w.heap.size, 6, (· = .agg #[.int .i64 n0, .int .i64 n1, .int .i64 n2, .int .i64 t, .int .i64 n4, .int .i64 n5])), (gd, 6, (fun _ => True))] V4 := hS.add (Nat.le_trans hMB b11) (fun r hr => Nat.ne_of_lt (Nat.lt_of_lt_of_le (ltM r hr) b11)) (Own.any r11)
  obtain ⟨x86, q86, v86⟩ : ∃ x, t1[86]? = some x ∧ ((· = .agg #[.int .i64 n0, .int .i64 n1, .int .i64 n2, .int .i64 t, .int .i64 n4, .int .i64 n5])) x := hout 0 (by omega) rfl
  replace q86 : t1[86]? = some (.agg #[.int .i64 n0, .int .i64 n1, .int .i64 n2, .int .i64 t, .int .i64 n4, .int .i64 n5]) := q86.trans (congrArg some v86)
  replace h1 := (hold 1 (slots_not (by kernel_rfl))).trans h1
  replace h2 := (hold 2 (slots_not (by kernel_rfl))).trans h2
  replace h3 := (hold 3 (slots_not (by kernel_rfl))).trans h3
  replace h7 := (hold 7 (slots_not (by kernel_rfl))).trans h7
  replace h8 := (hold 8 (slots_not (by kernel_rfl))).trans h8
  clear hold hout hs hall hne
  simp only [List.drop_succ_cons, List.drop_zero]
  refine st_own 6 tConf rfl (.tmp 11) (.tmp 86) rfl rfl _ _ (eval_tmp h11) (eval_tmp q86) (V' := (· = .agg #[.int .i64 n0, .int .i64 n1, .int .i64 n2, .int .i64 t, .int .i64 n4, .int .i64 n5])) rfl by_conf hS 1 rfl fun V4' hS' _ => ?_
  replace hS : Own w [(w.heap.size, 6, (· = .agg #[.int .i64 n0, .int .i64 n1, .int .i64 n2, .int .i64 t, .int .i64 n4, .int .i64 n5])), (gd, 6, (· = .agg #[.int .i64 n0, .int .i64 n1, .int .i64 n2, .int .i64 t, .int .i64 n4, .int .i64 n5]))] V4' := hS'
  clear hS'
  refine wpList_nil ?_
  obtain ⟨f, e0, hf⟩ := wash HS
  have f1 := hf 1 _ h1
  have f2 := hf 2 _ h2
  have f3 := hf 3 _ h3
  have f7 := hf 7 _ h7
  have f8 := hf 8 _ h8
  have f11 := hf 11 _ h11
  clear hf
  rw [e0.trans (show _ = #[f 0, f 1, f 2, f 3, f 4, f 5, f 6, f 7, f 8, f 9, f 10, f 11, f 12, f 13, f 14, f 15, f 16, f 17, f 18, f 19, f 20, f 21, f 22, f 23, f 24, f 25, f 26, f 27, f 28, f 29, f 30, f 31, f 32, f 33, f 34, f 35, f 36, f 37, f 38, f 39, f 40, f 41, f 42, f 43, f 44, f 45, f 46, f 47, f 48, f 49, f 50, f 51, f 52, f 53, f 54, f 55, f 56, f 57, f 58, f 59, f 60, f 61, f 62, f 63, f 64, f 65, f 66, f 67, f 68, f 69, f 70, f 71, f 72, f 73, f 74, f 75, f 76, f 77, f 78, f 79, f 80, f 81, f 82, f 83, f 84, f 85, f 86, f 87, f 88, f 89, f 90, f 91, f 92, f 93, f 94, f 95, f 96, f 97, f 98, f 99, f 100, f 101, f 102, f 103, f 104, f 105] from by kernel_rfl), f1, f2, f3, f7, f8, f11]
  clear f1 f2 f3 f7 f8 f11
  clear e0
  try dsimp only
  clear h1 h2 h3 h7 h8 h11 q86 v86 b11 r11 ltM hMB hM HS t1 t0 M
  obtain ⟨td, Rd⟩ := own_exact hS 1 rfl
  have r3 := row_cell Rd 3
  simp only [List.getElem?_toArray, List.getElem?_cons_zero, List.getElem?_cons_succ] at r3
  have fr := row_free Rd 3
  have HSo := Lib.hid hS
  clear hS Rd
  have ht3 := HT.out
  have ht4 := HT2.out
  have hE : (min ((t : Int) + 1) 4096) = (t2 : Int) := by split at ht4 <;> omega
  have hS5 := own_cellV HSo.out 1 #[.int .i64 n0, .int .i64 n1, .int .i64 n2, .int .i64 (min ((t : Int) + 1) 4096), .int .i64 n4, .int .i64 n5] rfl 3 (.int .i64 (min ((t : Int) + 1) 4096)) rfl
  simp only [List.set_cons_zero, List.set_cons_succ] at hS5
  have HS5 := Lib.hid hS5
  have HE := Lib.hid hE
  clear hS5 HSo hE ht4
  go_wp2_with ((with_reducible refine guard_list ?_); first | (refine held_load 23 _ rfl ?_))
  have hS := HS5.out
  clear HS5 r3 fr
  generalize World.setCell V4' ⟨gd, 3, none⟩ (.int .i64 (min ((t : Int) + 1) 4096)) = WD at hS ⊢
  rw [HE.out] at hS
  replace hS : Own w [(w.heap.size, 6, (· = .agg #[.int .i64 n0, .int .i64 n1, .int .i64 n2, .int .i64 t, .int .i64 n4, .int .i64 n5])), (gd, 6, (· = .agg #[.int .i64 n0, .int .i64 n1, .int .i64 n2, .int .i64 (t2 : Nat), .int .i64 n4, .int .i64 n5]))] WD := hS
  have hq20 : q2 = 0 := by have := HANTI.out; omega
  subst hq20
  obtain ⟨M, hM⟩ : ∃ M, M = WD.heap.size := ⟨_, rfl⟩
  refine hide_held fun t0 HT => ?_
  have HS : t0.size = 106 := by rw [HT]; rfl
  have h1 : t0[1]? = some (.int .i64 k) := by rw [HT]; rfl
  have h2 : t0[2]? = some (.int .i64 0) := by rw [HT]; rfl
  have h3 : t0[3]? = some (.pointer (some ⟨w.heap.size, 0, none⟩)) := by rw [HT]; rfl
  have h7 : t0[7]? = some (.int .i64 0) := by rw [HT]; rfl
  have h8 : t0[8]? = some (.int .i64 0) := by rw [HT]; rfl
  have h11 : t0[11]? = some (.pointer (some ⟨gd, 0, none⟩)) := by rw [HT]; rfl
  clear HT
  refine wp_list_most 7 (fun i => [93, 94, 95, 96, 92, 97, 98].getD i 0) (fun _ => none) (fun i => [(· = .agg #[.int .i64 n0, .int .i64 n1, .int .i64 n2, .int .i64 (t2 : Nat), .int .i64 n4, .int .i64 n5]), (· = .int .i64 k), (· = .int .i64 0), (· = .tuple #[.int .i64 0, .int .i64 0]), (· = .tuple #[.int .i64 0, .int .i64 0]), (· = .int .i64 0), (· = .int .i64 0)].getD i (fun _ => True)) (fun w' => Own w [(w.heap.size, 6, (· = .agg #[.int .i64 n0, .int .i64 n1, .int .i64 n2, .int .i64 t, .int .i64 n4, .int .i64 n5])), (gd, 6, (· = .agg #[.int .i64 n0, .int .i64 n1, .int .i64 n2, .int .i64 (t2 : Nat), .int .i64 n4, .int .i64 n5]))] w' ∧ M ≤ w'.heap.size) M
    (by kernel_rfl) (slots_apart (by kernel_rfl)) (slots_lie (by rw [HS]; kernel_rfl)) ⟨hS, Nat.le_of_eq hM⟩ (fun w' h => h.2) (fun w1 w2 h b => ⟨h.1.keep b, Nat.le_trans h.2 b.size⟩) ?_ ?_ ?_
  · clear hS
    intro i o hi ho hA
    have hc : i = 0 ∨ i = 1 ∨ i = 2 ∨ i = 3 ∨ i = 4 ∨ i = 5 ∨ i = 6 := by omega
    rcases hc with rfl | rfl | rfl | rfl | rfl | rfl | rfl
    · obtain rfl := Option.some.inj ho
      refine ⟨rfl, fun a w' hS hold hin K hK => ?_⟩
      refine if_always rfl ?_
      exact op_ld_own 6 tConf (.tmp 11) rfl rfl _ (eval_tmp ((hold 11 (slots_not (by kernel_rfl))).trans h11)) hS.1 1 rfl hK
    · obtain rfl := Option.some.inj ho
      refine ⟨rfl, fun a w' hS hold hin K hK => ?_⟩
      refine if_always rfl ?_
      exact op_move (V := (· = .int .i64 k)) _ _ rfl rfl (eval_tmp ((hold 1 (slots_not (by kernel_rfl))).trans h1)) rfl hK
    · obtain rfl := Option.some.inj ho
      refine ⟨rfl, fun a w' hS hold hin K hK => ?_⟩
      refine if_always rfl ?_
      exact op_move (V := (· = .int .i64 0)) _ _ rfl rfl (eval_tmp ((hold 2 (slots_not (by kernel_rfl))).trans h2)) rfl hK
    · obtain rfl := Option.some.inj ho
      refine ⟨rfl, fun a w' hS hold hin K hK => ?_⟩
      obtain ⟨y0, x0, rfl⟩ := hin 0 rfl (by omega) rfl
      obtain ⟨y1, x1, rfl⟩ := hin 1 rfl (by omega) rfl
      obtain ⟨y2, x2, rfl⟩ := hin 2 rfl (by omega) rfl
      refine if_always rfl ?_
      exact op_fn3 _ _ _ _ _ _ _ _ rfl rfl (eval_tmp x0) (eval_tmp x1) (eval_tmp x2) (by intro args w; kernel_rfl) (pages_pg (n := 0) (HMS.out t2 (by have := HTT.out; omega) HTT.out.2) HM.out (by decide) HR.out (by have := HRT.out; have := HTT.out; omega) HTT.out.2 (by have := H32.out; have := HTT.out; omega) HQ2.out _) hK
    · obtain rfl := Option.some.inj ho
      refine ⟨rfl, fun a w' hS hold hin K hK => ?_⟩
      obtain ⟨y3, x3, rfl⟩ := hin 3 rfl (by omega) rfl
      refine if_always rfl ?_
      exact op_move (V := (· = .tuple #[.int .i64 0, .int .i64 0])) _ _ rfl rfl (eval_tmp x3) rfl hK
    · obtain rfl := Option.some.inj ho
      refine ⟨rfl, fun a w' hS hold hin K hK => ?_⟩
      obtain ⟨y4, x4, rfl⟩ := hin 4 rfl (by omega) rfl
      refine if_always rfl ?_
      exact op_tup0 (V := (· = .int .i64 0)) _ rfl rfl (eval_tmp x4) rfl hK
    · obtain rfl := Option.some.inj ho
      refine ⟨rfl, fun a w' hS hold hin K hK => ?_⟩
      obtain ⟨y4, x4, rfl⟩ := hin 4 rfl (by omega) rfl
      refine if_always rfl ?_
      exact op_tup1 (V := (· = .int .i64 0)) _ rfl rfl (eval_tmp x4) rfl hK
  · intro i o sz hi ho hA; cases hA
  clear hS
  intro t1 V5 hs hold hout hall hne hS
  replace HS := hs.trans HS
  replace hS := hS.1
  obtain ⟨x97, q97, v97⟩ : ∃ x, t1[97]? = some x ∧ ((· = .int .i64 0)) x := hout 5 (by omega) rfl
  replace q97 : t1[97]? = some (.int .i64 0) := q97.trans (congrArg some v97)
  obtain ⟨x98, q98, v98⟩ : ∃ x, t1[98]? = some x ∧ ((· = .int .i64 0)) x := hout 6 (by omega) rfl
  replace q98 : t1[98]? = some (.int .i64 0) := q98.trans (congrArg some v98)
  replace h1 := (hold 1 (slots_not (by kernel_rfl))).trans h1
  replace h2 := (hold 2 (slots_not (by kernel_rfl))).trans h2
  replace h3 := (hold 3 (slots_not (by kernel_rfl))).trans h3
  replace h7 := (hold 7 (slots_not (by kernel_rfl))).trans h7
  replace h8 := (hold 8 (slots_not (by kernel_rfl))).trans h8
  replace h11 := (hold 11 (slots_not (by kernel_rfl))).trans h11
  clear hold hout hs hall hne
  simp only [List.drop_succ_cons, List.drop_zero]
  refine tlx_assign (.tmp 97) rfl rfl 12 rfl (by rw [HS]; decide) (.int .i64 0) (eval_tmp q97) fun t1 ex0 hz hq he => ?_
  replace h1 := (he 1 (by decide)).trans h1
  replace h2 := (he 2 (by decide)).trans h2
  replace h3 := (he 3 (by decide)).trans h3
  replace h7 := (he 7 (by decide)).trans h7
  replace h8 := (he 8 (by decide)).trans h8
  replace h11 := (he 11 (by decide)).trans h11
  replace q97 := (he 97 (by decide)).trans q97
  replace q98 := (he 98 (by decide)).trans q98
  replace HS := hz.trans HS
  clear hz he ex0
  have h12 := hq
  clear hq
  refine tlx_assign (.tmp 98) rfl rfl 13 rfl (by rw [HS]; decide) (.int .i64 0) (eval_tmp q98) fun t1 ex1 hz hq he => ?_
  replace h1 := (he 1 (by decide)).trans h1
  replace h2 := (he 2 (by decide)).trans h2
  replace h3 := (he 3 (by decide)).trans h3
  replace h7 := (he 7 (by decide)).trans h7
  replace h8 := (he 8 (by decide)).trans h8
  replace h11 := (he 11 (by decide)).trans h11
  replace h12 := (he 12 (by decide)).trans h12
  replace q97 := (he 97 (by decide)).trans q97
  replace q98 := (he 98 (by decide)).trans q98
  replace HS := hz.trans HS
  clear hz he ex1
  have h13 := hq
  clear hq
  refine wpList_nil ?_
  obtain ⟨f, e0, hf⟩ := wash HS
  have f1 := hf 1 _ h1
  have f2 := hf 2 _ h2
  have f3 := hf 3 _ h3
  have f7 := hf 7 _ h7
  have f8 := hf 8 _ h8
  have f11 := hf 11 _ h11
  have f12 := hf 12 _ h12
  have f13 := hf 13 _ h13
  clear hf
  rw [e0.trans (show _ = #[f 0, f 1, f 2, f 3, f 4, f 5, f 6, f 7, f 8, f 9, f 10, f 11, f 12, f 13, f 14, f 15, f 16, f 17, f 18, f 19, f 20, f 21, f 22, f 23, f 24, f 25, f 26, f 27, f 28, f 29, f 30, f 31, f 32, f 33, f 34, f 35, f 36, f 37, f 38, f 39, f 40, f 41, f 42, f 43, f 44, f 45, f 46, f 47, f 48, f 49, f 50, f 51, f 52, f 53, f 54, f 55, f 56, f 57, f 58, f 59, f 60, f 61, f 62, f 63, f 64, f 65, f 66, f 67, f 68, f 69, f 70, f 71, f 72, f 73, f 74, f 75, f 76, f 77, f 78, f 79, f 80, f 81, f 82, f 83, f 84, f 85, f 86, f 87, f 88, f 89, f 90, f 91, f 92, f 93, f 94, f 95, f 96, f 97, f 98, f 99, f 100, f 101, f 102, f 103, f 104, f 105] from by kernel_rfl), f1, f2, f3, f7, f8, f11, f12, f13]
  clear f1 f2 f3 f7 f8 f11 f12 f13
  clear e0
  try dsimp only
  clear h1 h2 h3 h7 h8 h11 h12 h13 q97 q98 v97 v98 hM HS t1 t0 M
  have hbel := hS.1
  clear hS
  go_wp2_with fail
  exact ⟨rfl, .bool true, by kernel_rfl, rfl, hbel⟩
set_option maxHeartbeats 8000000 in
set_option maxRecDepth 100000 in
theorem codecPages_oktp {n0 n1 n2 n4 n5 k rq rp : Int} {t r n : Nat} (hg : good n0 n1 n2 t n4 n5 = true) (hk : k = 1) (hms : ∀ t2 : Nat, (t : Int) ≤ t2 → t2 ≤ 4096 → msr n0 n1 n2 t2 n4 n5 k = (rq, rp, (r : Int), 0)) (hm : (n : Int) ≤ n0) (hb : n ≤ 256) (hr : 1 ≤ r) (hrt : r ≤ t) (ht : t ≤ 4096) (h32 : 32 ≤ t) (hz : 0 < n) (w : World) : Calls Tryd.prog 7 #[.agg #[.int .i64 n0, .int .i64 n1, .int .i64 n2, .int .i64 t, .int .i64 n4, .int .i64 n5], .int .i64 k, .int .i64 n] w (fun e w' => e = .returned (.bool true) ∧ Below w.heap.size w w') := by
  have hS := conf_start n0 n1 n2 t n4 n5 w
  have hn : (0 : Int) ≤ n := Int.natCast_nonneg n
  obtain ⟨q, hq⟩ : ∃ q, pg n t r = q := ⟨_, rfl⟩
  have hle := pg_le hr hrt h32 hb
  rw [hq] at hle
  have hq0 : 0 < q := by rw [← hq]; exact pg_pos h32 hz
  obtain ⟨t2, ht2⟩ : ∃ t2 : Nat, (if t = 4096 then 4096 else t + 1) = t2 := ⟨_, rfl⟩
  have htt : t ≤ t2 ∧ t2 ≤ 4096 := by split at ht2 <;> omega
  obtain ⟨q2, hq2⟩ : ∃ q2, pg n t2 r = q2 := ⟨_, rfl⟩
  have hanti : q2 ≤ q := by rw [← hq2, ← hq]; exact pg_anti hr hrt h32 htt.1
  obtain ⟨n1', hn1'⟩ : ∃ m, n = m + 1 := ⟨n - 1, by omega⟩
  obtain ⟨qp, hqp⟩ : ∃ q', pg n1' t r = q' := ⟨_, rfl⟩
  have hmono : qp ≤ q := by rw [← hqp, ← hq, hn1']; exact pg_mono hr hrt h32 (by omega)
  have HQP := Lib.hid hqp
  have HMO := Lib.hid hmono
  have HN1 := Lib.hid hn1'
  have HG := Lib.hid hg
  have HK := Lib.hid hk
  have HMS := Lib.hid hms
  have HM := Lib.hid hm
  have HB := Lib.hid hb
  have HR := Lib.hid hr
  have HRT := Lib.hid hrt
  have HT := Lib.hid ht
  have H32 := Lib.hid h32
  have HZ := Lib.hid hz
  have HN := Lib.hid hn
  have HQ := Lib.hid hq
  have HLE := Lib.hid hle
  have HQ0 := Lib.hid hq0
  have HT2 := Lib.hid ht2
  have HTT := Lib.hid htt
  have HQ2 := Lib.hid hq2
  have HANTI := Lib.hid hanti
  clear hg hk hms hm hr hrt h32 hn hq ht2 hq2 hqp hmono hn1' hle htt hanti hq0 hz hb ht
  go_enter Tryd.func7, Tryd.ntmps7
  go_wp2_with ((with_reducible refine guard_list ?_); first | (refine held_fn _ _ _ rfl ?_))
  change Held (wpList _ _ _ _ _ (w.alloc (.cells #[.int .i64 n0, .int .i64 n1, .int .i64 n2, .int .i64 t, .int .i64 n4, .int .i64 n5] 23)))
  generalize w.alloc (.cells #[.int .i64 n0, .int .i64 n1, .int .i64 n2, .int .i64 t, .int .i64 n4, .int .i64 n5] 23) = w0 at hS ⊢
  obtain ⟨M, hM⟩ : ∃ M, M = w0.heap.size := ⟨_, rfl⟩
  refine hide_held fun t0 HT => ?_
  have HS : t0.size = 106 := by rw [HT]; rfl
  have h1 : t0[1]? = some (.int .i64 k) := by rw [HT]; rfl
  have h2 : t0[2]? = some (.int .i64 n) := by rw [HT]; rfl
  have h3 : t0[3]? = some (.pointer (some ⟨w.heap.size, 0, none⟩)) := by rw [HT]; rfl
  clear HT
  refine wp_list_all 1 (fun i => [14, 15].getD i 0) (fun i => [(· = .bool true), (· = .bool false)].getD i (fun _ => True)) (fun w' => Own w [(w.heap.size, 6, (· = .agg #[.int .i64 n0, .int .i64 n1, .int .i64 n2, .int .i64 t, .int .i64 n4, .int .i64 n5]))] w' ∧ M ≤ w'.heap.size)
    (by kernel_rfl) (by kernel_rfl) (slots_apart (by kernel_rfl)) (slots_lie (by rw [HS]; kernel_rfl)) ⟨hS, Nat.le_of_eq hM⟩ (fun w1 w2 h b => ⟨h.1.keep b, Nat.le_trans h.2 b.size⟩) ?_ ?_
  · clear hS
    intro i o hi ho
    have hc : i = 0 ∨ i = 1 := by omega
    rcases hc with rfl | rfl
    · obtain rfl := Option.some.inj ho
      refine ⟨rfl, fun a w' hS hold hin K hK => ?_⟩
      refine if_always rfl ?_
      exact op_fn0 _  _  rfl rfl  (by intro args w; kernel_rfl) (awake_ev _) hK
    · obtain rfl := Option.some.inj ho
      refine ⟨rfl, fun a w' hS hold hin K hK => ?_⟩
      obtain ⟨y0, x0, rfl⟩ := hin 0 rfl (by omega)
      refine if_always rfl ?_
      exact op_un (V := (· = .bool false)) _ _ _ _ (.bool false) rfl rfl (eval_tmp x0) (fun w => by kernel_rfl) rfl hK
  clear hS
  intro t1 V1 hs hold hout hS
  replace HS := hs.trans HS
  replace hS := hS.1
  obtain ⟨_, q15, rfl⟩ : ∃ x, t1[15]? = some x ∧ x = (.bool false : Value) := hout 1 (by omega)
  replace h1 := (hold 1 (slots_not (by kernel_rfl))).trans h1
  replace h2 := (hold 2 (slots_not (by kernel_rfl))).trans h2
  replace h3 := (hold 3 (slots_not (by kernel_rfl))).trans h3
  clear hold hout hs
  obtain ⟨f, e0, hf⟩ := wash HS
  have f1 := hf 1 _ h1
  have f2 := hf 2 _ h2
  have f3 := hf 3 _ h3
  have f15 := hf 15 _ q15
  clear hf
  rw [e0.trans (show _ = #[f 0, f 1, f 2, f 3, f 4, f 5, f 6, f 7, f 8, f 9, f 10, f 11, f 12, f 13, f 14, f 15, f 16, f 17, f 18, f 19, f 20, f 21, f 22, f 23, f 24, f 25, f 26, f 27, f 28, f 29, f 30, f 31, f 32, f 33, f 34, f 35, f 36, f 37, f 38, f 39, f 40, f 41, f 42, f 43, f 44, f 45, f 46, f 47, f 48, f 49, f 50, f 51, f 52, f 53, f 54, f 55, f 56, f 57, f 58, f 59, f 60, f 61, f 62, f 63, f 64, f 65, f 66, f 67, f 68, f 69, f 70, f 71, f 72, f 73, f 74, f 75, f 76, f 77, f 78, f 79, f 80, f 81, f 82, f 83, f 84, f 85, f 86, f 87, f 88, f 89, f 90, f 91, f 92, f 93, f 94, f 95, f 96, f 97, f 98, f 99, f 100, f 101, f 102, f 103, f 104, f 105] from by kernel_rfl), f1, f2, f3, f15]
  clear f1 f2 f3 f15
  clear e0
  try dsimp only
  clear h1 h2 h3 q15 hM HS t1 t0 M
  go_wp2_with ((with_reducible refine guard_list ?_); first | (refine held_load 23 _ rfl ?_))
  obtain ⟨M, hM⟩ : ∃ M, M = V1.heap.size := ⟨_, rfl⟩
  refine hide_held fun t0 HT => ?_
  have HS : t0.size = 106 := by rw [HT]; rfl
  have h1 : t0[1]? = some (.int .i64 k) := by rw [HT]; rfl
  have h2 : t0[2]? = some (.int .i64 n) := by rw [HT]; rfl
  have h3 : t0[3]? = some (.pointer (some ⟨w.heap.size, 0, none⟩)) := by rw [HT]; rfl
  clear HT
  refine wp_list_most 7 (fun i => [17, 18, 19, 20, 16, 21, 22].getD i 0) (fun _ => none) (fun i => [(· = .agg #[.int .i64 n0, .int .i64 n1, .int .i64 n2, .int .i64 t, .int .i64 n4, .int .i64 n5]), (· = .int .i64 k), (· = .int .i64 n), (· = .tuple #[.int .i64 q, .int .i64 0]), (· = .tuple #[.int .i64 q, .int .i64 0]), (· = .int .i64 q), (· = .int .i64 0)].getD i (fun _ => True)) (fun w' => Own w [(w.heap.size, 6, (· = .agg #[.int .i64 n0, .int .i64 n1, .int .i64 n2, .int .i64 t, .int .i64 n4, .int .i64 n5]))] w' ∧ M ≤ w'.heap.size) M
    (by kernel_rfl) (slots_apart (by kernel_rfl)) (slots_lie (by rw [HS]; kernel_rfl)) ⟨hS, Nat.le_of_eq hM⟩ (fun w' h => h.2) (fun w1 w2 h b => ⟨h.1.keep b, Nat.le_trans h.2 b.size⟩) ?_ ?_ ?_
  · clear hS
    intro i o hi ho hA
    have hc : i = 0 ∨ i = 1 ∨ i = 2 ∨ i = 3 ∨ i = 4 ∨ i = 5 ∨ i = 6 := by omega
    rcases hc with rfl | rfl | rfl | rfl | rfl | rfl | rfl
    · obtain rfl := Option.some.inj ho
      refine ⟨rfl, fun a w' hS hold hin K hK => ?_⟩
      refine if_always rfl ?_
      exact op_ld_own 6 tConf (.tmp 3) rfl rfl _ (eval_tmp ((hold 3 (slots_not (by kernel_rfl))).trans h3)) hS.1 0 rfl hK
    · obtain rfl := Option.some.inj ho
      refine ⟨rfl, fun a w' hS hold hin K hK => ?_⟩
      refine if_always rfl ?_
      exact op_move (V := (· = .int .i64 k)) _ _ rfl rfl (eval_tmp ((hold 1 (slots_not (by kernel_rfl))).trans h1)) rfl hK
    · obtain rfl := Option.some.inj ho
      refine ⟨rfl, fun a w' hS hold hin K hK => ?_⟩
      refine if_always rfl ?_
      exact op_move (V := (· = .int .i64 n)) _ _ rfl rfl (eval_tmp ((hold 2 (slots_not (by kernel_rfl))).trans h2)) rfl hK
    · obtain rfl := Option.some.inj ho
      refine ⟨rfl, fun a w' hS hold hin K hK => ?_⟩
      obtain ⟨y0, x0, rfl⟩ := hin 0 rfl (by omega) rfl
      obtain ⟨y1, x1, rfl⟩ := hin 1 rfl (by omega) rfl
      obtain ⟨y2, x2, rfl⟩ := hin 2 rfl (by omega) rfl
      refine if_always rfl ?_
      exact op_fn3 _ _ _ _ _ _ _ _ rfl rfl (eval_tmp x0) (eval_tmp x1) (eval_tmp x2) (by intro args w; kernel_rfl) (pages_pg (HMS.out t (Int.le_refl _) HT.out) HM.out HB.out HR.out HRT.out HT.out H32.out HQ.out _) hK
    · obtain rfl := Option.some.inj ho
      refine ⟨rfl, fun a w' hS hold hin K hK => ?_⟩
      obtain ⟨y3, x3, rfl⟩ := hin 3 rfl (by omega) rfl
      refine if_always rfl ?_
      exact op_move (V := (· = .tuple #[.int .i64 q, .int .i64 0])) _ _ rfl rfl (eval_tmp x3) rfl hK
    · obtain rfl := Option.some.inj ho
      refine ⟨rfl, fun a w' hS hold hin K hK => ?_⟩
      obtain ⟨y4, x4, rfl⟩ := hin 4 rfl (by omega) rfl
      refine if_always rfl ?_
      exact op_tup0 (V := (· = .int .i64 q)) _ rfl rfl (eval_tmp x4) rfl hK
    · obtain rfl := Option.some.inj ho
      refine ⟨rfl, fun a w' hS hold hin K hK => ?_⟩
      obtain ⟨y4, x4, rfl⟩ := hin 4 rfl (by omega) rfl
      refine if_always rfl ?_
      exact op_tup1 (V := (· = .int .i64 0)) _ rfl rfl (eval_tmp x4) rfl hK
  · intro i o sz hi ho hA; cases hA
  clear hS
  intro t1 V2 hs hold hout hall hne hS
  replace HS := hs.trans HS
  replace hS := hS.1
  obtain ⟨x21, q21, v21⟩ : ∃ x, t1[21]? = some x ∧ ((· = .int .i64 q)) x := hout 5 (by omega) rfl
  replace q21 : t1[21]? = some (.int .i64 q) := q21.trans (congrArg some v21)
  obtain ⟨x22, q22, v22⟩ : ∃ x, t1[22]? = some x ∧ ((· = .int .i64 0)) x := hout 6 (by omega) rfl
  replace q22 : t1[22]? = some (.int .i64 0) := q22.trans (congrArg some v22)
  replace h1 := (hold 1 (slots_not (by kernel_rfl))).trans h1
  replace h2 := (hold 2 (slots_not (by kernel_rfl))).trans h2
  replace h3 := (hold 3 (slots_not (by kernel_rfl))).trans h3
  clear hold hout hs hall hne
  simp only [List.drop_succ_cons, List.drop_zero]
  refine tlx_assign (.tmp 21) rfl rfl 7 rfl (by rw [HS]; decide) (.int .i64 q) (eval_tmp q21) fun t1 ex0 hz hq he => ?_
  replace h1 := (he 1 (by decide)).trans h1
  replace h2 := (he 2 (by decide)).trans h2
  replace h3 := (he 3 (by decide)).trans h3
  replace q21 := (he 21 (by decide)).trans q21
  replace q22 := (he 22 (by decide)).trans q22
  replace HS := hz.trans HS
  clear hz he ex0
  have h7 := hq
  clear hq
  refine tlx_assign (.tmp 22) rfl rfl 8 rfl (by rw [HS]; decide) (.int .i64 0) (eval_tmp q22) fun t1 ex1 hz hq he => ?_
  replace h1 := (he 1 (by decide)).trans h1
  replace h2 := (he 2 (by decide)).trans h2
  replace h3 := (he 3 (by decide)).trans h3
  replace h7 := (he 7 (by decide)).trans h7
  replace q21 := (he 21 (by decide)).trans q21
  replace q22 := (he 22 (by decide)).trans q22
  replace HS := hz.trans HS
  clear hz he ex1
  have h8 := hq
  clear hq
  refine wpList_nil ?_
  obtain ⟨f, e0, hf⟩ := wash HS
  have f1 := hf 1 _ h1
  have f2 := hf 2 _ h2
  have f3 := hf 3 _ h3
  have f7 := hf 7 _ h7
  have f8 := hf 8 _ h8
  clear hf
  rw [e0.trans (show _ = #[f 0, f 1, f 2, f 3, f 4, f 5, f 6, f 7, f 8, f 9, f 10, f 11, f 12, f 13, f 14, f 15, f 16, f 17, f 18, f 19, f 20, f 21, f 22, f 23, f 24, f 25, f 26, f 27, f 28, f 29, f 30, f 31, f 32, f 33, f 34, f 35, f 36, f 37, f 38, f 39, f 40, f 41, f 42, f 43, f 44, f 45, f 46, f 47, f 48, f 49, f 50, f 51, f 52, f 53, f 54, f 55, f 56, f 57, f 58, f 59, f 60, f 61, f 62, f 63, f 64, f 65, f 66, f 67, f 68, f 69, f 70, f 71, f 72, f 73, f 74, f 75, f 76, f 77, f 78, f 79, f 80, f 81, f 82, f 83, f 84, f 85, f 86, f 87, f 88, f 89, f 90, f 91, f 92, f 93, f 94, f 95, f 96, f 97, f 98, f 99, f 100, f 101, f 102, f 103, f 104, f 105] from by kernel_rfl), f1, f2, f3, f7, f8]
  clear f1 f2 f3 f7 f8
  clear e0
  try dsimp only
  clear h1 h2 h3 h7 h8 q21 q22 v21 v22 hM HS t1 t0 M
  go_wp2_with ((with_reducible refine guard_list ?_); first | (refine held_load 23 _ rfl ?_))
  obtain ⟨M, hM⟩ : ∃ M, M = V2.heap.size := ⟨_, rfl⟩
  refine hide_held fun t0 HT => ?_
  have HS : t0.size = 106 := by rw [HT]; rfl
  have h1 : t0[1]? = some (.int .i64 k) := by rw [HT]; rfl
  have h2 : t0[2]? = some (.int .i64 n) := by rw [HT]; rfl
  have h3 : t0[3]? = some (.pointer (some ⟨w.heap.size, 0, none⟩)) := by rw [HT]; rfl
  have h7 : t0[7]? = some (.int .i64 q) := by rw [HT]; rfl
  have h8 : t0[8]? = some (.int .i64 0) := by rw [HT]; rfl
  clear HT
  refine wp_list_all 20 (fun i => [23, 24, 25, 26, 27, 28, 29, 30, 31, 32, 33, 34, 35, 36, 37, 38, 39, 40, 41, 42, 43].getD i 0) (fun i => [(· = .agg #[.int .i64 n0, .int .i64 n1, .int .i64 n2, .int .i64 t, .int .i64 n4, .int .i64 n5]), (· = .int .i64 0), (· = .bool false), (· = .bool false), (· = .int .i64 k), (· = .bool false), (· = .bool false), (· = undef), (· = undef), (· = .bool false), (· = .bool false), (· = .bool false), (· = .int .i64 n), (· = .bool false), (· = .bool false), (· = .bool false), (· = .int .i64 n), (· = .pointer (some ⟨w.heap.size, 0, none⟩)), (· = .int .i64 n0), (· = .bool false), (· = .bool false)].getD i (fun _ => True)) (fun w' => Own w [(w.heap.size, 6, (· = .agg #[.int .i64 n0, .int .i64 n1, .int .i64 n2, .int .i64 t, .int .i64 n4, .int .i64 n5]))] w' ∧ M ≤ w'.heap.size)
    (by kernel_rfl) (by kernel_rfl) (slots_apart (by kernel_rfl)) (slots_lie (by rw [HS]; kernel_rfl)) ⟨hS, Nat.le_of_eq hM⟩ (fun w1 w2 h b => ⟨h.1.keep b, Nat.le_trans h.2 b.size⟩) ?_ ?_
  · clear hS
    intro i o hi ho
    have hc : i = 0 ∨ i = 1 ∨ i = 2 ∨ i = 3 ∨ i = 4 ∨ i = 5 ∨ i = 6 ∨ i = 7 ∨ i = 8 ∨ i = 9 ∨ i = 10 ∨ i = 11 ∨ i = 12 ∨ i = 13 ∨ i = 14 ∨ i = 15 ∨ i = 16 ∨ i = 17 ∨ i = 18 ∨ i = 19 ∨ i = 20 := by omega
    rcases hc with rfl | rfl | rfl | rfl | rfl | rfl | rfl | rfl | rfl | rfl | rfl | rfl | rfl | rfl | rfl | rfl | rfl | rfl | rfl | rfl | rfl
    · obtain rfl := Option.some.inj ho
      refine ⟨rfl, fun a w' hS hold hin K hK => ?_⟩
      refine if_always rfl ?_
      exact op_ld_own 6 tConf (.tmp 3) rfl rfl _ (eval_tmp ((hold 3 (slots_not (by kernel_rfl))).trans h3)) hS.1 0 rfl hK
    · obtain rfl := Option.some.inj ho
      refine ⟨rfl, fun a w' hS hold hin K hK => ?_⟩
      obtain ⟨y0, x0, rfl⟩ := hin 0 rfl (by omega)
      refine if_always rfl ?_
      exact op_fn1 _ _ _ _ rfl rfl (eval_tmp x0) (by intro args w; kernel_rfl) (chk_yes HG.out _) hK
    · obtain rfl := Option.some.inj ho
      refine ⟨rfl, fun a w' hS hold hin K hK => ?_⟩
      obtain ⟨y1, x1, rfl⟩ := hin 1 rfl (by omega)
      refine if_always rfl ?_
      exact op_bin (V := (· = .bool false)) _ _ _ _ _ _ _ (.bool false) rfl rfl (eval_tmp x1) rfl (fun w => by kernel_rfl) rfl hK
    · obtain rfl := Option.some.inj ho
      refine ⟨rfl, fun a w' hS hold hin K hK => ?_⟩
      obtain ⟨y2, x2, rfl⟩ := hin 2 rfl (by omega)
      refine if_always rfl ?_
      exact op_move (V := (· = .bool false)) _ _ rfl rfl (eval_tmp x2) rfl hK
    · obtain rfl := Option.some.inj ho
      refine ⟨rfl, fun a w' hS hold hin K hK => ?_⟩
      obtain ⟨y3, x3, rfl⟩ := hin 3 rfl (by omega)
      refine if_guard (d := 26) rfl rfl x3 ?_
      exact op_move (V := (· = .int .i64 k)) _ _ rfl rfl (eval_tmp ((hold 1 (slots_not (by kernel_rfl))).trans h1)) rfl hK
    · obtain rfl := Option.some.inj ho
      refine ⟨rfl, fun a w' hS hold hin K hK => ?_⟩
      obtain ⟨y3, x3, rfl⟩ := hin 3 rfl (by omega)
      obtain ⟨y4, x4, rfl⟩ := hin 4 rfl (by omega)
      refine if_guard (d := 26) rfl rfl x3 ?_
      exact op_bin (V := (· = .bool false)) _ _ _ _ _ _ _ (.bool false) rfl rfl (eval_tmp x4) rfl (fun w => cmp_neq (decide_eq_false (by have := HK.out; omega)) w) rfl hK
    · obtain rfl := Option.some.inj ho
      refine ⟨rfl, fun a w' hS hold hin K hK => ?_⟩
      obtain ⟨y3, x3, rfl⟩ := hin 3 rfl (by omega)
      obtain ⟨y5, x5, rfl⟩ := hin 5 rfl (by omega)
      refine if_guard (d := 26) rfl rfl x3 ?_
      exact op_move (V := (· = .bool false)) _ _ rfl rfl (eval_tmp x5) rfl hK
    · obtain rfl := Option.some.inj ho
      refine ⟨rfl, fun a w' hS hold hin K hK => ?_⟩
      obtain ⟨y6, x6, rfl⟩ := hin 6 rfl (by omega)
      exact if_guard_off (d := 29) rfl rfl x6 (by decide) (hK _ _ rfl (Below.refl _ _))
    · obtain rfl := Option.some.inj ho
      refine ⟨rfl, fun a w' hS hold hin K hK => ?_⟩
      obtain ⟨y6, x6, rfl⟩ := hin 6 rfl (by omega)
      exact if_guard_off (d := 29) rfl rfl x6 (by decide) (hK _ _ rfl (Below.refl _ _))
    · obtain rfl := Option.some.inj ho
      refine ⟨rfl, fun a w' hS hold hin K hK => ?_⟩
      obtain ⟨y3, x3, rfl⟩ := hin 3 rfl (by omega)
      obtain ⟨y6, x6, rfl⟩ := hin 6 rfl (by omega)
      refine if_guard (d := 26) rfl rfl x3 ?_
      exact op_pick (V := (· = .bool false)) _ _ _ false _ rfl rfl (eval_tmp x6) (show Act.eval a (.const (.bool false)) = (.bool false) from rfl) rfl hK
    · obtain rfl := Option.some.inj ho
      refine ⟨rfl, fun a w' hS hold hin K hK => ?_⟩
      obtain ⟨y3, x3, rfl⟩ := hin 3 rfl (by omega)
      obtain ⟨y9, x9, rfl⟩ := hin 9 rfl (by omega)
      refine if_always rfl ?_
      exact op_pick (V := (· = .bool false)) _ _ _ false _ rfl rfl (eval_tmp x3) (show (Act.eval a _) = _ from (eval_tmp x9)) rfl hK
    · obtain rfl := Option.some.inj ho
      refine ⟨rfl, fun a w' hS hold hin K hK => ?_⟩
      obtain ⟨y10, x10, rfl⟩ := hin 10 rfl (by omega)
      refine if_always rfl ?_
      exact op_move (V := (· = .bool false)) _ _ rfl rfl (eval_tmp x10) rfl hK
    · obtain rfl := Option.some.inj ho
      refine ⟨rfl, fun a w' hS hold hin K hK => ?_⟩
      obtain ⟨y11, x11, rfl⟩ := hin 11 rfl (by omega)
      refine if_guard (d := 34) rfl rfl x11 ?_
      exact op_move (V := (· = .int .i64 n)) _ _ rfl rfl (eval_tmp ((hold 2 (slots_not (by kernel_rfl))).trans h2)) rfl hK
    · obtain rfl := Option.some.inj ho
      refine ⟨rfl, fun a w' hS hold hin K hK => ?_⟩
      obtain ⟨y11, x11, rfl⟩ := hin 11 rfl (by omega)
      obtain ⟨y12, x12, rfl⟩ := hin 12 rfl (by omega)
      refine if_guard (d := 34) rfl rfl x11 ?_
      exact op_bin (V := (· = .bool false)) _ _ _ _ _ _ _ (.bool false) rfl rfl (eval_tmp x12) rfl (fun w => cmp_lss (decide_eq_false (by have := HN.out; omega)) w) rfl hK
    · obtain rfl := Option.some.inj ho
      refine ⟨rfl, fun a w' hS hold hin K hK => ?_⟩
      obtain ⟨y11, x11, rfl⟩ := hin 11 rfl (by omega)
      obtain ⟨y13, x13, rfl⟩ := hin 13 rfl (by omega)
      refine if_always rfl ?_
      exact op_pick (V := (· = .bool false)) _ _ _ false _ rfl rfl (eval_tmp x11) (show (Act.eval a _) = _ from (eval_tmp x13)) rfl hK
    · obtain rfl := Option.some.inj ho
      refine ⟨rfl, fun a w' hS hold hin K hK => ?_⟩
      obtain ⟨y14, x14, rfl⟩ := hin 14 rfl (by omega)
      refine if_always rfl ?_
      exact op_move (V := (· = .bool false)) _ _ rfl rfl (eval_tmp x14) rfl hK
    · obtain rfl := Option.some.inj ho
      refine ⟨rfl, fun a w' hS hold hin K hK => ?_⟩
      obtain ⟨y15, x15, rfl⟩ := hin 15 rfl (by omega)
      refine if_guard (d := 38) rfl rfl x15 ?_
      exact op_move (V := (· = .int .i64 n)) _ _ rfl rfl (eval_tmp ((hold 2 (slots_not (by kernel_rfl))).trans h2)) rfl hK
    · obtain rfl := Option.some.inj ho
      refine ⟨rfl, fun a w' hS hold hin K hK => ?_⟩
      obtain ⟨y15, x15, rfl⟩ := hin 15 rfl (by omega)
      refine if_guard (d := 38) rfl rfl x15 ?_
      exact op_field 23 _ 0 _ (.pointer (some ⟨w.heap.size, 0, none⟩)) rfl rfl (eval_tmp ((hold 3 (slots_not (by kernel_rfl))).trans h3)) (fun w => by kernel_rfl) hK
    · obtain rfl := Option.some.inj ho
      refine ⟨rfl, fun a w' hS hold hin K hK => ?_⟩
      obtain ⟨y15, x15, rfl⟩ := hin 15 rfl (by omega)
      obtain ⟨y17, x17, rfl⟩ := hin 17 rfl (by omega)
      refine if_guard (d := 38) rfl rfl x15 ?_
      exact op_cell_own tInt _ w.heap.size 0 rfl rfl (eval_tmp x17) hS.1 0 _ _ rfl (.int .i64 n0) rfl hK
    · obtain rfl := Option.some.inj ho
      refine ⟨rfl, fun a w' hS hold hin K hK => ?_⟩
      obtain ⟨y15, x15, rfl⟩ := hin 15 rfl (by omega)
      obtain ⟨y16, x16, rfl⟩ := hin 16 rfl (by omega)
      obtain ⟨y18, x18, rfl⟩ := hin 18 rfl (by omega)
      refine if_guard (d := 38) rfl rfl x15 ?_
      exact op_bin (V := (· = .bool false)) _ _ _ _ _ _ _ (.bool false) rfl rfl (eval_tmp x16) (eval_tmp x18) (fun w => cmp_gtr (decide_eq_false (by have := HM.out; omega)) w) rfl hK
    · obtain rfl := Option.some.inj ho
      refine ⟨rfl, fun a w' hS hold hin K hK => ?_⟩
      obtain ⟨y15, x15, rfl⟩ := hin 15 rfl (by omega)
      obtain ⟨y19, x19, rfl⟩ := hin 19 rfl (by omega)
      refine if_always rfl ?_
      exact op_pick (V := (· = .bool false)) _ _ _ false _ rfl rfl (eval_tmp x15) (show (Act.eval a _) = _ from (eval_tmp x19)) rfl hK
  clear hS
  intro t1 V3 hs hold hout hS
  replace HS := hs.trans HS
  replace hS := hS.1
  obtain ⟨_, q43, rfl⟩ : ∃ x, t1[43]? = some x ∧ x = (.bool false : Value) := hout 20 (by omega)
  replace h1 := (hold 1 (slots_not (by kernel_rfl))).trans h1
  replace h2 := (hold 2 (slots_not (by kernel_rfl))).trans h2
  replace h3 := (hold 3 (slots_not (by kernel_rfl))).trans h3
  replace h7 := (hold 7 (slots_not (by kernel_rfl))).trans h7
  replace h8 := (hold 8 (slots_not (by kernel_rfl))).trans h8
  clear hold hout hs
  obtain ⟨f, e0, hf⟩ := wash HS
  have f1 := hf 1 _ h1
  have f2 := hf 2 _ h2
  have f3 := hf 3 _ h3
  have f7 := hf 7 _ h7
  have f8 := hf 8 _ h8
  have f43 := hf 43 _ q43
  clear hf
  rw [e0.trans (show _ = #[f 0, f 1, f 2, f 3, f 4, f 5, f 6, f 7, f 8, f 9, f 10, f 11, f 12, f 13, f 14, f 15, f 16, f 17, f 18, f 19, f 20, f 21, f 22, f 23, f 24, f 25, f 26, f 27, f 28, f 29, f 30, f 31, f 32, f 33, f 34, f 35, f 36, f 37, f 38, f 39, f 40, f 41, f 42, f 43, f 44, f 45, f 46, f 47, f 48, f 49, f 50, f 51, f 52, f 53, f 54, f 55, f 56, f 57, f 58, f 59, f 60, f 61, f 62, f 63, f 64, f 65, f 66, f 67, f 68, f 69, f 70, f 71, f 72, f 73, f 74, f 75, f 76, f 77, f 78, f 79, f 80, f 81, f 82, f 83, f 84, f 85, f 86, f 87, f 88, f 89, f 90, f 91, f 92, f 93, f 94, f 95, f 96, f 97, f 98, f 99, f 100, f 101, f 102, f 103, f 104, f 105] from by kernel_rfl), f1, f2, f3, f7, f8, f43]
  clear f1 f2 f3 f7 f8 f43
  clear e0
  try dsimp only
  clear h1 h2 h3 h7 h8 q43 hM HS t1 t0 M
  have hz1 : (0 : Int) < n := by have := HZ.out; omega
  have hz2 : (0 : Int) < q := by have := HQ0.out; omega
  have hz3 : (q : Int) ≤ 3 * n := by have := HLE.out; omega
  have hz4 : (n : Int) ≤ 256 := by have := HB.out; omega
  have hz5 : ((q : Int) == 0) = false := by simp; omega
  have hz6 : ((n : Int) == 0) = false := by simp; omega
  go_wp2_with ((with_reducible refine guard_list ?_); first | (refine held_load 23 _ rfl ?_))
  clear hz1 hz2 hz3 hz4 hz5 hz6
  obtain ⟨M, hM⟩ : ∃ M, M = V3.heap.size := ⟨_, rfl⟩
  refine hide_held fun t0 HT => ?_
  have HS : t0.size = 106 := by rw [HT]; rfl
  have h1 : t0[1]? = some (.int .i64 k) := by rw [HT]; rfl
  have h2 : t0[2]? = some (.int .i64 n) := by rw [HT]; rfl
  have h3 : t0[3]? = some (.pointer (some ⟨w.heap.size, 0, none⟩)) := by rw [HT]; rfl
  have h7 : t0[7]? = some (.int .i64 q) := by rw [HT]; rfl
  have h8 : t0[8]? = some (.int .i64 0) := by rw [HT]; rfl
  clear HT
  refine wp_list_most 8 (fun i => [72, 73, 74, 75, 76, 71, 77, 78].getD i 0) (fun _ => none) (fun i => [(· = .agg #[.int .i64 n0, .int .i64 n1, .int .i64 n2, .int .i64 t, .int .i64 n4, .int .i64 n5]), (· = .int .i64 k), (· = .int .i64 n), (· = .int .i64 (n1' : Nat)), (· = .tuple #[.int .i64 qp, .int .i64 0]), (· = .tuple #[.int .i64 qp, .int .i64 0]), (· = .int .i64 qp), (· = .int .i64 0)].getD i (fun _ => True)) (fun w' => Own w [(w.heap.size, 6, (· = .agg #[.int .i64 n0, .int .i64 n1, .int .i64 n2, .int .i64 t, .int .i64 n4, .int .i64 n5]))] w' ∧ M ≤ w'.heap.size) M
    (by kernel_rfl) (slots_apart (by kernel_rfl)) (slots_lie (by rw [HS]; kernel_rfl)) ⟨hS, Nat.le_of_eq hM⟩ (fun w' h => h.2) (fun w1 w2 h b => ⟨h.1.keep b, Nat.le_trans h.2 b.size⟩) ?_ ?_ ?_
  · clear hS
    intro i o hi ho hA
    have hc : i = 0 ∨ i = 1 ∨ i = 2 ∨ i = 3 ∨ i = 4 ∨ i = 5 ∨ i = 6 ∨ i = 7 := by omega
    rcases hc with rfl | rfl | rfl | rfl | rfl | rfl | rfl | rfl
    · obtain rfl := Option.some.inj ho
      refine ⟨rfl, fun a w' hS hold hin K hK => ?_⟩
      refine if_always rfl ?_
      exact op_ld_own 6 tConf (.tmp 3) rfl rfl _ (eval_tmp ((hold 3 (slots_not (by kernel_rfl))).trans h3)) hS.1 0 rfl hK
    · obtain rfl := Option.some.inj ho
      refine ⟨rfl, fun a w' hS hold hin K hK => ?_⟩
      refine if_always rfl ?_
      exact op_move (V := (· = .int .i64 k)) _ _ rfl rfl (eval_tmp ((hold 1 (slots_not (by kernel_rfl))).trans h1)) rfl hK
    · obtain rfl := Option.some.inj ho
      refine ⟨rfl, fun a w' hS hold hin K hK => ?_⟩
      refine if_always rfl ?_
      exact op_move (V := (· = .int .i64 n)) _ _ rfl rfl (eval_tmp ((hold 2 (slots_not (by kernel_rfl))).trans h2)) rfl hK
    · obtain rfl := Option.some.inj ho
      refine ⟨rfl, fun a w' hS hold hin K hK => ?_⟩
      obtain ⟨y2, x2, rfl⟩ := hin 2 rfl (by omega) rfl
      refine if_always rfl ?_
      exact op_bin (V := (· = .int .i64 (n1' : Nat))) _ _ _ _ _ _ _ (.int .i64 (n1' : Nat)) rfl rfl (eval_tmp x2) rfl (fun w => sub_in n 1 n1' (by have := HN1.out; omega) (by have := HB.out; have := HN1.out; omega) w) rfl hK
    · obtain rfl := Option.some.inj ho
      refine ⟨rfl, fun a w' hS hold hin K hK => ?_⟩
      obtain ⟨y0, x0, rfl⟩ := hin 0 rfl (by omega) rfl
      obtain ⟨y1, x1, rfl⟩ := hin 1 rfl (by omega) rfl
      obtain ⟨y3, x3, rfl⟩ := hin 3 rfl (by omega) rfl
      refine if_always rfl ?_
      exact op_fn3 _ _ _ _ _ _ _ _ rfl rfl (eval_tmp x0) (eval_tmp x1) (eval_tmp x3) (by intro args w; kernel_rfl) (pages_pg (HMS.out t (Int.le_refl _) HT.out) (by have := HM.out; have := HN1.out; omega) (by have := HB.out; have := HN1.out; omega) HR.out HRT.out HT.out H32.out HQP.out _) hK
    · obtain rfl := Option.some.inj ho
      refine ⟨rfl, fun a w' hS hold hin K hK => ?_⟩
      obtain ⟨y4, x4, rfl⟩ := hin 4 rfl (by omega) rfl
      refine if_always rfl ?_
      exact op_move (V := (· = .tuple #[.int .i64 qp, .int .i64 0])) _ _ rfl rfl (eval_tmp x4) rfl hK
    · obtain rfl := Option.some.inj ho
      refine ⟨rfl, fun a w' hS hold hin K hK => ?_⟩
      obtain ⟨y5, x5, rfl⟩ := hin 5 rfl (by omega) rfl
      refine if_always rfl ?_
      exact op_tup0 (V := (· = .int .i64 qp)) _ rfl rfl (eval_tmp x5) rfl hK
    · obtain rfl := Option.some.inj ho
      refine ⟨rfl, fun a w' hS hold hin K hK => ?_⟩
      obtain ⟨y5, x5, rfl⟩ := hin 5 rfl (by omega) rfl
      refine if_always rfl ?_
      exact op_tup1 (V := (· = .int .i64 0)) _ rfl rfl (eval_tmp x5) rfl hK
  · intro i o sz hi ho hA; cases hA
  clear hS
  intro t1 V4 hs hold hout hall hne hS
  replace HS := hs.trans HS
  replace hS := hS.1
  obtain ⟨x77, q77, v77⟩ : ∃ x, t1[77]? = some x ∧ ((· = .int .i64 qp)) x := hout 6 (by omega) rfl
  replace q77 : t1[77]? = some (.int .i64 qp) := q77.trans (congrArg some v77)
  obtain ⟨x78, q78, v78⟩ : ∃ x, t1[78]? = some x ∧ ((· = .int .i64 0)) x := hout 7 (by omega) rfl
  replace q78 : t1[78]? = some (.int .i64 0) := q78.trans (congrArg some v78)
  replace h1 := (hold 1 (slots_not (by kernel_rfl))).trans h1
  replace h2 := (hold 2 (slots_not (by kernel_rfl))).trans h2
  replace h3 := (hold 3 (slots_not (by kernel_rfl))).trans h3
  replace h7 := (hold 7 (slots_not (by kernel_rfl))).trans h7
  replace h8 := (hold 8 (slots_not (by kernel_rfl))).trans h8
  clear hold hout hs hall hne
  simp only [List.drop_succ_cons, List.drop_zero]
  refine tlx_assign (.tmp 77) rfl rfl 9 rfl (by rw [HS]; decide) (.int .i64 qp) (eval_tmp q77) fun t1 ex0 hz hq he => ?_
  replace h1 := (he 1 (by decide)).trans h1
  replace h2 := (he 2 (by decide)).trans h2
  replace h3 := (he 3 (by decide)).trans h3
  replace h7 := (he 7 (by decide)).trans h7
  replace h8 := (he 8 (by decide)).trans h8
  replace q77 := (he 77 (by decide)).trans q77
  replace q78 := (he 78 (by decide)).trans q78
  replace HS := hz.trans HS
  clear hz he ex0
  have h9 := hq
  clear hq
  refine tlx_assign (.tmp 78) rfl rfl 10 rfl (by rw [HS]; decide) (.int .i64 0) (eval_tmp q78) fun t1 ex1 hz hq he => ?_
  replace h1 := (he 1 (by decide)).trans h1
  replace h2 := (he 2 (by decide)).trans h2
  replace h3 := (he 3 (by decide)).trans h3
  replace h7 := (he 7 (by decide)).trans h7
  replace h8 := (he 8 (by decide)).trans h8
  replace h9 := (he 9 (by decide)).trans h9
  replace q77 := (he 77 (by decide)).trans q77
  replace q78 := (he 78 (by decide)).trans q78
  replace HS := hz.trans HS
  clear hz he ex1
  have h10 := hq
  clear hq
  refine wpList_nil ?_
  obtain ⟨f, e0, hf⟩ := wash HS
  have f1 := hf 1 _ h1
  have f2 := hf 2 _ h2
  have f3 := hf 3 _ h3
  have f7 := hf 7 _ h7
  have f8 := hf 8 _ h8
  have f9 := hf 9 _ h9
  have f10 := hf 10 _ h10
  clear hf
  rw [e0.trans (show _ = #[f 0, f 1, f 2, f 3, f 4, f 5, f 6, f 7, f 8, f 9, f 10, f 11, f 12, f 13, f 14, f 15, f 16, f 17, f 18, f 19, f 20, f 21, f 22, f 23, f 24, f 25, f 26, f 27, f 28, f 29, f 30, f 31, f 32, f 33, f 34, f 35, f 36, f 37, f 38, f 39, f 40, f 41, f 42, f 43, f 44, f 45, f 46, f 47, f 48, f 49, f 50, f 51, f 52, f 53, f 54, f 55, f 56, f 57, f 58, f 59, f 60, f 61, f 62, f 63, f 64, f 65, f 66, f 67, f 68, f 69, f 70, f 71, f 72, f 73, f 74, f 75, f 76, f 77, f 78, f 79, f 80, f 81, f 82, f 83, f 84, f 85, f 86, f 87, f 88, f 89, f 90, f 91, f 92, f 93, f 94, f 95, f 96, f 97, f 98, f 99, f 100, f 101, f 102, f 103, f 104, f 105] from by kernel_rfl), f1, f2, f3, f7, f8, f9, f10]
  clear f1 f2 f3 f7 f8 f9 f10
  clear e0
  try dsimp only
  clear h1 h2 h3 h7 h8 h9 h10 q77 q78 v77 v78 hM HS t1 t0 M
  have hz1 : ¬ ((q : Int) < qp) := by have := HMO.out; omega
  have hz2 : (qp : Int) ≤ q := by omega
  go_wp2_with ((with_reducible refine guard_list ?_); first | (refine held_load 23 _ rfl ?_))
  clear hz1 hz2
  obtain ⟨M, hM⟩ : ∃ M, M = V4.heap.size := ⟨_, rfl⟩
  have hMB : w.heap.size ≤ M := hM ▸ hS.1.size
  have ltM := hS.lt
  rw [← hM] at ltM
  refine hide_held fun t0 HT => ?_
  have HS : t0.size = 106 := by rw [HT]; rfl
  have h1 : t0[1]? = some (.int .i64 k) := by rw [HT]; rfl
  have h2 : t0[2]? = some (.int .i64 n) := by rw [HT]; rfl
  have h3 : t0[3]? = some (.pointer (some ⟨w.heap.size, 0, none⟩)) := by rw [HT]; rfl
  have h7 : t0[7]? = some (.int .i64 q) := by rw [HT]; rfl
  have h8 : t0[8]? = some (.int .i64 0) := by rw [HT]; rfl
  have h9 : t0[9]? = some (.int .i64 qp) := by rw [HT]; rfl
  have h10 : t0[10]? = some (.int .i64 0) := by rw [HT]; rfl
  clear HT
  refine wp_list_most 2 (fun i => [86, 11].getD i 0) (fun i => [none, some 6].getD i none) (fun i => [(· = .agg #[.int .i64 n0, .int .i64 n1, .int .i64 n2, .int .i64 t, .int .i64 n4, .int .i64 n5]), (fun _ => True)].getD i (fun _ => True)) (fun w' => Own w [(w.heap.size, 6, (· = .agg #[.int .i64 n0, .int .i64 n1, .int .i64 n2, .int .i64 t, .int .i64 n4, .int .i64 n5]))] w' ∧ M ≤ w'.heap.size) M
    (by kernel_rfl) (slots_apart (by kernel_rfl)) (slots_lie (by rw [HS]; kernel_rfl)) ⟨hS, Nat.le_of_eq hM⟩ (fun w' h => h.2) (fun w1 w2 h b => ⟨h.1.keep b, Nat.le_trans h.2 b.size⟩) ?_ ?_ ?_
  · clear hS
    intro i o hi ho hA
    have hc : i = 0 ∨ i = 1 := by omega
    rcases hc with rfl | rfl
    · obtain rfl := Option.some.inj ho
      refine ⟨rfl, fun a w' hS hold hin K hK => ?_⟩
      refine if_always rfl ?_
      exact op_ld_own 6 tConf (.tmp 3) rfl rfl _ (eval_tmp ((hold 3 (slots_not (by kernel_rfl))).trans h3)) hS.1 0 rfl hK
    · cases hA
  · intro i o sz hi ho hA
    have hc : i = 0 ∨ i = 1 := by omega
    rcases hc with rfl | rfl
    · cases hA
    · obtain rfl := Option.some.inj ho
      obtain rfl := Option.some.inj hA
      exact ⟨rfl, rfl, 23, #[.int .i64 0, .int .i64 0, .int .i64 0, .int .i64 0, .int .i64 0, .int .i64 0], rfl, fun a w' K h => wp_new 23 #[.int .i64 0, .int .i64 0, .int .i64 0, .int .i64 0, .int .i64 0, .int .i64 0] (fun w => by kernel_rfl) h⟩
  clear hS
  intro t1 V5 hs hold hout hall hne hS
  replace HS := hs.trans HS
  replace hS := hS.1
  obtain ⟨gd, h11, b11, r11⟩ : ∃ g, t1[11]? = some (.pointer (some ⟨g, 0, none⟩)) ∧ M ≤ g ∧ ∃ cs ty, V5.heap[g]? = some (.cells cs ty (0, 0)) ∧ cs.size = 6 := by
    obtain ⟨g, p1, p2, ty, cs, p3, p4⟩ := hall 1 (by omega) 6 rfl
    exact ⟨g, p1, p2, cs, ty, p3, p4⟩
  replace hS : Own w [(w.heap.size, 6, (· = .agg #[.int .i64 n0, .int .i64 n1, .int .i64 n2, .int .i64 t, .int .i64 n4, .int .i64 n5])), (gd, 6, (fun _ => True))] V5 := hS.add (Nat.le_trans hMB b11) (fun r hr => Nat.ne_of_lt (Nat.lt_of_lt_of_le (ltM r hr) b11)) (Own.any r11)
  obtain ⟨x86, q86, v86⟩ : ∃ x, t1[86]? = some x ∧ ((· = .agg #[.int .i64 n0, .int .i64 n1, .int .i64 n2, .int .i64 t, .int .i64 n4, .int .i64 n5])) x := hout 0 (by omega) rfl
  replace q86 : t1[86]? = some (.agg #[.int .i64 n0, .int .i64 n1, .int .i64 n2, .int .i64 t, .int .i64 n4, .int .i64 n5]) := q86.trans (congrArg some v86)
  replace h1 := (hold 1 (slots_not (by kernel_rfl))).trans h1
  replace h2 := (hold 2 (slots_not (by kernel_rfl))).trans h2
  replace h3 := (hold 3 (slots_not (by kernel_rfl))).trans h3
  replace h7 := (hold 7 (slots_not (by kernel_rfl))).trans h7
  replace h8 := (hold 8 (slots_not (by kernel_rfl))).trans h8
  replace h9 := (hold 9 (slots_not (by kernel_rfl))).trans h9
  replace h10 := (hold 10 (slots_not (by kernel_rfl))).trans h10
  clear hold hout hs hall hne
  simp only [List.drop_succ_cons, List.drop_zero]
  refine st_own 6 tConf rfl (.tmp 11) (.tmp 86) rfl rfl _ _ (eval_tmp h11) (eval_tmp q86) (V' := (· = .agg #[.int .i64 n0, .int .i64 n1, .int .i64 n2, .int .i64 t, .int .i64 n4, .int .i64 n5])) rfl by_conf hS 1 rfl fun V5' hS' _ => ?_
  replace hS : Own w [(w.heap.size, 6, (· = .agg #[.int .i64 n0, .int .i64 n1, .int .i64 n2, .int .i64 t, .int .i64 n4, .int .i64 n5])), (gd, 6, (· = .agg #[.int .i64 n0, .int .i64 n1, .int .i64 n2, .int .i64 t, .int .i64 n4, .int .i64 n5]))] V5' := hS'
  clear hS'
  refine wpList_nil ?_
  obtain ⟨f, e0, hf⟩ := wash HS
  have f1 := hf 1 _ h1
  have f2 := hf 2 _ h2
  have f3 := hf 3 _ h3
  have f7 := hf 7 _ h7
  have f8 := hf 8 _ h8
  have f9 := hf 9 _ h9
  have f10 := hf 10 _ h10
  have f11 := hf 11 _ h11
  clear hf
  rw [e0.trans (show _ = #[f 0, f 1, f 2, f 3, f 4, f 5, f 6, f 7, f 8, f 9, f 10, f 11, f 12, f 13, f 14, f 15, f 16, f 17, f 18, f 19, f 20, f 21, f 22, f 23, f 24, f 25, f 26, f 27, f 28, f 29, f 30, f 31, f 32, f 33, f 34, f 35, f 36, f 37, f 38, f 39, f 40, f 41, f 42, f 43, f 44, f 45, f 46, f 47, f 48, f 49, f 50, f 51, f 52, f 53, f 54, f 55, f 56, f 57, f 58, f 59, f 60, f 61, f 62, f 63, f 64, f 65, f 66, f 67, f 68, f 69, f 70, f 71, f 72, f 73, f 74, f 75, f 76, f 77, f 78, f 79, f 80, f 81, f 82, f 83, f 84, f 85, f 86, f 87, f 88, f 89, f 90, f 91, f 92, f 93, f 94, f 95, f 96, f 97, f 98, f 99, f 100, f 101, f 102, f 103, f 104, f 105] from by kernel_rfl), f1, f2, f3, f7, f8, f9, f10, f11]
  clear f1 f2 f3 f7 f8 f9 f10 f11
  clear e0
  try dsimp only
  clear h1 h2 h3 h7 h8 h9 h10 h11 q86 v86 b11 r11 ltM hMB hM HS t1 t0 M
  obtain ⟨td, Rd⟩ := own_exact hS 1 rfl
  have r3 := row_cell Rd 3
  simp only [List.getElem?_toArray, List.getElem?_cons_zero, List.getElem?_cons_succ] at r3
  have fr := row_free Rd 3
  have HSo := Lib.hid hS
  clear hS Rd
  have ht3 := HT.out
  have ht4 := HT2.out
  have hE : (min ((t : Int) + 1) 4096) = (t2 : Int) := by split at ht4 <;> omega
  have hS5 := own_cellV HSo.out 1 #[.int .i64 n0, .int .i64 n1, .int .i64 n2, .int .i64 (min ((t : Int) + 1) 4096), .int .i64 n4, .int .i64 n5] rfl 3 (.int .i64 (min ((t : Int) + 1) 4096)) rfl
  simp only [List.set_cons_zero, List.set_cons_succ] at hS5
  have HS5 := Lib.hid hS5
  have HE := Lib.hid hE
  clear hS5 HSo hE ht4
  go_wp2_with ((with_reducible refine guard_list ?_); first | (refine held_load 23 _ rfl ?_))
  have hS := HS5.out
  clear HS5 r3 fr
  generalize World.setCell V5' ⟨gd, 3, none⟩ (.int .i64 (min ((t : Int) + 1) 4096)) = WD at hS ⊢
  rw [HE.out] at hS
  replace hS : Own w [(w.heap.size, 6, (· = .agg #[.int .i64 n0, .int .i64 n1, .int .i64 n2, .int .i64 t, .int .i64 n4, .int .i64 n5])), (gd, 6, (· = .agg #[.int .i64 n0, .int .i64 n1, .int .i64 n2, .int .i64 (t2 : Nat), .int .i64 n4, .int .i64 n5]))] WD := hS
  obtain ⟨M, hM⟩ : ∃ M, M = WD.heap.size := ⟨_, rfl⟩
  refine hide_held fun t0 HT => ?_
  have HS : t0.size = 106 := by rw [HT]; rfl
  have h1 : t0[1]? = some (.int .i64 k) := by rw [HT]; rfl
  have h2 : t0[2]? = some (.int .i64 n) := by rw [HT]; rfl
  have h3 : t0[3]? = some (.pointer (some ⟨w.heap.size, 0, none⟩)) := by rw [HT]; rfl
  have h7 : t0[7]? = some (.int .i64 q) := by rw [HT]; rfl
  have h8 : t0[8]? = some (.int .i64 0) := by rw [HT]; rfl
  have h9 : t0[9]? = some (.int .i64 qp) := by rw [HT]; rfl
  have h10 : t0[10]? = some (.int .i64 0) := by rw [HT]; rfl
  have h11 : t0[11]? = some (.pointer (some ⟨gd, 0, none⟩)) := by rw [HT]; rfl
  clear HT
  refine wp_list_most 7 (fun i => [93, 94, 95, 96, 92, 97, 98].getD i 0) (fun _ => none) (fun i => [(· = .agg #[.int .i64 n0, .int .i64 n1, .int .i64 n2, .int .i64 (t2 : Nat), .int .i64 n4, .int .i64 n5]), (· = .int .i64 k), (· = .int .i64 n), (· = .tuple #[.int .i64 q2, .int .i64 0]), (· = .tuple #[.int .i64 q2, .int .i64 0]), (· = .int .i64 q2), (· = .int .i64 0)].getD i (fun _ => True)) (fun w' => Own w [(w.heap.size, 6, (· = .agg #[.int .i64 n0, .int .i64 n1, .int .i64 n2, .int .i64 t, .int .i64 n4, .int .i64 n5])), (gd, 6, (· = .agg #[.int .i64 n0, .int .i64 n1, .int .i64 n2, .int .i64 (t2 : Nat), .int .i64 n4, .int .i64 n5]))] w' ∧ M ≤ w'.heap.size) M
    (by kernel_rfl) (slots_apart (by kernel_rfl)) (slots_lie (by rw [HS]; kernel_rfl)) ⟨hS, Nat.le_of_eq hM⟩ (fun w' h => h.2) (fun w1 w2 h b => ⟨h.1.keep b, Nat.le_trans h.2 b.size⟩) ?_ ?_ ?_
  · clear hS
    intro i o hi ho hA
    have hc : i = 0 ∨ i = 1 ∨ i = 2 ∨ i = 3 ∨ i = 4 ∨ i = 5 ∨ i = 6 := by omega
    rcases hc with rfl | rfl | rfl | rfl | rfl | rfl | rfl
    · obtain rfl := Option.some.inj ho
      refine ⟨rfl, fun a w' hS hold hin K hK => ?_⟩
      refine if_always rfl ?_
      exact op_ld_own 6 tConf (.tmp 11) rfl rfl _ (eval_tmp ((hold 11 (slots_not (by kernel_rfl))).trans h11)) hS.1 1 rfl hK
    · obtain rfl := Option.some.inj ho
      refine ⟨rfl, fun a w' hS hold hin K hK => ?_⟩
      refine if_always rfl ?_
      exact op_move (V := (· = .int .i64 k)) _ _ rfl rfl (eval_tmp ((hold 1 (slots_not (by kernel_rfl))).trans h1)) rfl hK
    · obtain rfl := Option.some.inj ho
      refine ⟨rfl, fun a w' hS hold hin K hK => ?_⟩
      refine if_always rfl ?_
      exact op_move (V := (· = .int .i64 n)) _ _ rfl rfl (eval_tmp ((hold 2 (slots_not (by kernel_rfl))).trans h2)) rfl hK
    · obtain rfl := Option.some.inj ho
      refine ⟨rfl, fun a w' hS hold hin K hK => ?_⟩
      obtain ⟨y0, x0, rfl⟩ := hin 0 rfl (by omega) rfl
      obtain ⟨y1, x1, rfl⟩ := hin 1 rfl (by omega) rfl
      obtain ⟨y2, x2, rfl⟩ := hin 2 rfl (by omega) rfl
      refine if_always rfl ?_
      exact op_fn3 _ _ _ _ _ _ _ _ rfl rfl (eval_tmp x0) (eval_tmp x1) (eval_tmp x2) (by intro args w; kernel_rfl) (pages_pg (n := n) (HMS.out t2 (by have := HTT.out; omega) HTT.out.2) (by have := HM.out; omega) HB.out HR.out (by have := HRT.out; have := HTT.out; omega) HTT.out.2 (by have := H32.out; have := HTT.out; omega) HQ2.out _) hK
    · obtain rfl := Option.some.inj ho
      refine ⟨rfl, fun a w' hS hold hin K hK => ?_⟩
      obtain ⟨y3, x3, rfl⟩ := hin 3 rfl (by omega) rfl
      refine if_always rfl ?_
      exact op_move (V := (· = .tuple #[.int .i64 q2, .int .i64 0])) _ _ rfl rfl (eval_tmp x3) rfl hK
    · obtain rfl := Option.some.inj ho
      refine ⟨rfl, fun a w' hS hold hin K hK => ?_⟩
      obtain ⟨y4, x4, rfl⟩ := hin 4 rfl (by omega) rfl
      refine if_always rfl ?_
      exact op_tup0 (V := (· = .int .i64 q2)) _ rfl rfl (eval_tmp x4) rfl hK
    · obtain rfl := Option.some.inj ho
      refine ⟨rfl, fun a w' hS hold hin K hK => ?_⟩
      obtain ⟨y4, x4, rfl⟩ := hin 4 rfl (by omega) rfl
      refine if_always rfl ?_
      exact op_tup1 (V := (· = .int .i64 0)) _ rfl rfl (eval_tmp x4) rfl hK
  · intro i o sz hi ho hA; cases hA
  clear hS
  intro t1 V6 hs hold hout hall hne hS
  replace HS := hs.trans HS
  replace hS := hS.1
  obtain ⟨x97, q97, v97⟩ : ∃ x, t1[97]? = some x ∧ ((· = .int .i64 q2)) x := hout 5 (by omega) rfl
  replace q97 : t1[97]? = some (.int .i64 q2) := q97.trans (congrArg some v97)
  obtain ⟨x98, q98, v98⟩ : ∃ x, t1[98]? = some x ∧ ((· = .int .i64 0)) x := hout 6 (by omega) rfl
  replace q98 : t1[98]? = some (.int .i64 0) := q98.trans (congrArg some v98)
  replace h1 := (hold 1 (slots_not (by kernel_rfl))).trans h1
  replace h2 := (hold 2 (slots_not (by kernel_rfl))).trans h2
  replace h3 := (hold 3 (slots_not (by kernel_rfl))).trans h3
  replace h7 := (hold 7 (slots_not (by kernel_rfl))).trans h7
  replace h8 := (hold 8 (slots_not (by kernel_rfl))).trans h8
  replace h9 := (hold 9 (slots_not (by kernel_rfl))).trans h9
  replace h10 := (hold 10 (slots_not (by kernel_rfl))).trans h10
  replace h11 := (hold 11 (slots_not (by kernel_rfl))).trans h11
  clear hold hout hs hall hne
  simp only [List.drop_succ_cons, List.drop_zero]
  refine tlx_assign (.tmp 97) rfl rfl 12 rfl (by rw [HS]; decide) (.int .i64 q2) (eval_tmp q97) fun t1 ex0 hz hq he => ?_
  replace h1 := (he 1 (by decide)).trans h1
  replace h2 := (he 2 (by decide)).trans h2
  replace h3 := (he 3 (by decide)).trans h3
  replace h7 := (he 7 (by decide)).trans h7
  replace h8 := (he 8 (by decide)).trans h8
  replace h9 := (he 9 (by decide)).trans h9
  replace h10 := (he 10 (by decide)).trans h10
  replace h11 := (he 11 (by decide)).trans h11
  replace q97 := (he 97 (by decide)).trans q97
  replace q98 := (he 98 (by decide)).trans q98
  replace HS := hz.trans HS
  clear hz he ex0
  have h12 := hq
  clear hq
  refine tlx_assign (.tmp 98) rfl rfl 13 rfl (by rw [HS]; decide) (.int .i64 0) (eval_tmp q98) fun t1 ex1 hz hq he => ?_
  replace h1 := (he 1 (by decide)).trans h1
  replace h2 := (he 2 (by decide)).trans h2
  replace h3 := (he 3 (by decide)).trans h3
  replace h7 := (he 7 (by decide)).trans h7
  replace h8 := (he 8 (by decide)).trans h8
  replace h9 := (he 9 (by decide)).trans h9
  replace h10 := (he 10 (by decide)).trans h10
  replace h11 := (he 11 (by decide)).trans h11
  replace h12 := (he 12 (by decide)).trans h12
  replace q97 := (he 97 (by decide)).trans q97
  replace q98 := (he 98 (by decide)).trans q98
  replace HS := hz.trans HS
  clear hz he ex1
  have h13 := hq
  clear hq
  refine wpList_nil ?_
  obtain ⟨f, e0, hf⟩ := wash HS
  have f1 := hf 1 _ h1
  have f2 := hf 2 _ h2
  have f3 := hf 3 _ h3
  have f7 := hf 7 _ h7
  have f8 := hf 8 _ h8
  have f9 := hf 9 _ h9
  have f10 := hf 10 _ h10
  have f11 := hf 11 _ h11
  have f12 := hf 12 _ h12
  have f13 := hf 13 _ h13
  clear hf
  rw [e0.trans (show _ = #[f 0, f 1, f 2, f 3, f 4, f 5, f 6, f 7, f 8, f 9, f 10, f 11, f 12, f 13, f 14, f 15, f 16, f 17, f 18, f 19, f 20, f 21, f 22, f 23, f 24, f 25, f 26, f 27, f 28, f 29, f 30, f 31, f 32, f 33, f 34, f 35, f 36, f 37, f 38, f 39, f 40, f 41, f 42, f 43, f 44, f 45, f 46, f 47, f 48, f 49, f 50, f 51, f 52, f 53, f 54, f 55, f 56, f 57, f 58, f 59, f 60, f 61, f 62, f 63, f 64, f 65, f 66, f 67, f 68, f 69, f 70, f 71, f 72, f 73, f 74, f 75, f 76, f 77, f 78, f 79, f 80, f 81, f 82, f 83, f 84, f 85, f 86, f 87, f 88, f 89, f 90, f 91, f 92, f 93, f 94, f 95, f 96, f 97, f 98, f 99, f 100, f 101, f 102, f 103, f 104, f 105] from by kernel_rfl), f1, f2, f3, f7, f8, f9, f10, f11, f12, f13]
  clear f1 f2 f3 f7 f8 f9 f10 f11 f12 f13
  clear e0
  try dsimp only
  clear h1 h2 h3 h7 h8 h9 h10 h11 h12 h13 q97 q98 v97 v98 hM HS t1 t0 M
  have hz1 : (q2 : Int) ≤ q := by have := HANTI.out; omega
  have hbel := hS.1
  clear hS
  go_wp2_with fail
  exact ⟨rfl, .bool true, by kernel_rfl, rfl, hbel⟩
set_option maxHeartbeats 8000000 in
set_option maxRecDepth 100000 in
theorem codecPages_okd0 {n0 n1 n2 n4 n5 k rq rp : Int} {t r n : Nat} (hg : good n0 n1 n2 t n4 n5 = true) (hk : k = 2) (hms : ∀ t2 : Nat, (t : Int) ≤ t2 → t2 ≤ 4096 → msr n0 n1 n2 t2 n4 n5 k = (rq, rp, (r : Int), 0)) (hm : (n : Int) ≤ n0) (hb : n ≤ 256) (hr : 1 ≤ r) (hrt : r ≤ t) (ht : t ≤ 4096) (h32 : 32 ≤ t) (hz : n = 0) (w : World) : Calls Tryd.prog 7 #[.agg #[.int .i64 n0, .int .i64 n1, .int .i64 n2, .int .i64 t, .int .i64 n4, .int .i64 n5], .int .i64 k, .int .i64 n] w (fun e w' => e = .returned (.bool true) ∧ Below w.heap.size w w') := by
  have hS := conf_start n0 n1 n2 t n4 n5 w
  have hn : (0 : Int) ≤ n := Int.natCast_nonneg n
  obtain ⟨q, hq⟩ : ∃ q, pg n t r = q := ⟨_, rfl⟩
  have hle := pg_le hr hrt h32 hb
  rw [hq] at hle
  have hq0 : q = 0 := by rw [← hq, hz]; exact pg_zero hr hrt h32
  obtain ⟨t2, ht2⟩ : ∃ t2 : Nat, (if t = 4096 then 4096 else t + 1) = t2 := ⟨_, rfl⟩
  have htt : t ≤ t2 ∧ t2 ≤ 4096 := by split at ht2 <;> omega
  obtain ⟨q2, hq2⟩ : ∃ q2, pg n t2 r = q2 := ⟨_, rfl⟩
  have hanti : q2 ≤ q := by rw [← hq2, ← hq]; exact pg_anti hr hrt h32 htt.1
  have HG := Lib.hid hg
  have HK := Lib.hid hk
  have HMS := Lib.hid hms
  have HM := Lib.hid hm
  have HB := Lib.hid hb
  have HR := Lib.hid hr
  have HRT := Lib.hid hrt
  have HT := Lib.hid ht
  have H32 := Lib.hid h32
  have HZ := Lib.hid hz
  have HN := Lib.hid hn
  have HQ := Lib.hid hq
  have HLE := Lib.hid hle
  have HQ0 := Lib.hid hq0
  have HT2 := Lib.hid ht2
  have HTT := Lib.hid htt
  have HQ2 := Lib.hid hq2
  have HANTI := Lib.hid hanti
  clear hg hk hms hm hr hrt h32 hn hq ht2 hq2 hle htt hanti hq0 hz hb ht
  go_enter Tryd.func7, Tryd.ntmps7
  go_wp2_with ((with_reducible refine guard_list ?_); first | (refine held_fn _ _ _ rfl ?_))
  change Held (wpList _ _ _ _ _ (w.alloc (.cells #[.int .i64 n0, .int .i64 n1, .int .i64 n2, .int .i64 t, .int .i64 n4, .int .i64 n5] 23)))
  generalize w.alloc (.cells #[.int .i64 n0, .int .i64 n1, .int .i64 n2, .int .i64 t, .int .i64 n4, .int .i64 n5] 23) = w0 at hS ⊢
  obtain ⟨M, hM⟩ : ∃ M, M = w0.heap.size := ⟨_, rfl⟩
  refine hide_held fun t0 HT => ?_
  have HS : t0.size = 106 := by rw [HT]; rfl
  have h1 : t0[1]? = some (.int .i64 k) := by rw [HT]; rfl
  have h2 : t0[2]? = some (.int .i64 n) := by rw [HT]; rfl
  have h3 : t0[3]? = some (.pointer (some ⟨w.heap.size, 0, none⟩)) := by rw [HT]; rfl
  clear HT
  refine wp_list_all 1 (fun i => [14, 15].getD i 0) (fun i => [(· = .bool true), (· = .bool false)].getD i (fun _ => True)) (fun w' => Own w [(w.heap.size, 6, (· = .agg #[.int .i64 n0, .int .i64 n1, .int .i64 n2, .int .i64 t, .int .i64 n4, .int .i64 n5]))] w' ∧ M ≤ w'.heap.size)
    (by kernel_rfl) (by kernel_rfl) (slots_apart (by kernel_rfl)) (slots_lie (by rw [HS]; kernel_rfl)) ⟨hS, Nat.le_of_eq hM⟩ (fun w1 w2 h b => ⟨h.1.keep b, Nat.le_trans h.2 b.size⟩) ?_ ?_
  · clear hS
    intro i o hi ho
    have hc : i = 0 ∨ i = 1 := by omega
    rcases hc with rfl | rfl
    · obtain rfl := Option.some.inj ho
      refine ⟨rfl, fun a w' hS hold hin K hK => ?_⟩
      refine if_always rfl ?_
      exact op_fn0 _  _  rfl rfl  (by intro args w; kernel_rfl) (awake_ev _) hK
    · obtain rfl := Option.some.inj ho
      refine ⟨rfl, fun a w' hS hold hin K hK => ?_⟩
      obtain ⟨y0, x0, rfl⟩ := hin 0 rfl (by omega)
      refine if_always rfl ?_
      exact op_un (V := (· = .bool false)) _ _ _ _ (.bool false) rfl rfl (eval_tmp x0) (fun w => by kernel_rfl) rfl hK
  clear hS
  intro t1 V1 hs hold hout hS
  replace HS := hs.trans HS
  replace hS := hS.1
  obtain ⟨_, q15, rfl⟩ : ∃ x, t1[15]? = some x ∧ x = (.bool false : Value) := hout 1 (by omega)
  replace h1 := (hold 1 (slots_not (by kernel_rfl))).trans h1
  replace h2 := (hold 2 (slots_not (by kernel_rfl))).trans h2
  replace h3 := (hold 3 (slots_not (by kernel_rfl))).trans h3
  clear hold hout hs
  obtain ⟨f, e0, hf⟩ := wash HS
  have f1 := hf 1 _ h1
  have f2 := hf 2 _ h2
  have f3 := hf 3 _ h3
  have f15 := hf 15 _ q15
  clear hf
  rw [e0.trans (show _ = #[f 0, f 1, f 2, f 3, f 4, f 5, f 6, f 7, f 8, f 9, f 10, f 11, f 12, f 13, f 14, f 15, f 16, f 17, f 18, f 19, f 20, f 21, f 22, f 23, f 24, f 25, f 26, f 27, f 28, f 29, f 30, f 31, f 32, f 33, f 34, f 35, f 36, f 37, f 38, f 39, f 40, f 41, f 42, f 43, f 44, f 45, f 46, f 47, f 48, f 49, f 50, f 51, f 52, f 53, f 54, f 55, f 56, f 57, f 58, f 59, f 60, f 61, f 62, f 63, f 64, f 65, f 66, f 67, f 68, f 69, f 70, f 71, f 72, f 73, f 74, f 75, f 76, f 77, f 78, f 79, f 80, f 81, f 82, f 83, f 84, f 85, f 86, f 87, f 88, f 89, f 90, f 91, f 92, f 93, f 94, f 95, f 96, f 97, f 98, f 99, f 100, f 101, f 102, f 103, f 104, f 105] from by kernel_rfl), f1, f2, f3, f15]
  clear f1 f2 f3 f15
  clear e0
  try dsimp only
  clear h1 h2 h3 q15 hM HS t1 t0 M
  go_wp2_with ((with_reducible refine guard_list ?_); first | (refine held_load 23 _ rfl ?_))
  obtain ⟨M, hM⟩ : ∃ M, M = V1.heap.size := ⟨_, rfl⟩
  refine hide_held fun t0 HT => ?_
  have HS : t0.size = 106 := by rw [HT]; rfl
  have h1 : t0[1]? = some (.int .i64 k) := by rw [HT]; rfl
  have h2 : t0[2]? = some (.int .i64 n) := by rw [HT]; rfl
  have h3 : t0[3]? = some (.pointer (some ⟨w.heap.size, 0, none⟩)) := by rw [HT]; rfl
  clear HT
  refine wp_list_most 7 (fun i => [17, 18, 19, 20, 16, 21, 22].getD i 0) (fun _ => none) (fun i => [(· = .agg #[.int .i64 n0, .int .i64 n1, .int .i64 n2, .int .i64 t, .int .i64 n4, .int .i64 n5]), (· = .int .i64 k), (· = .int .i64 n), (· = .tuple #[.int .i64 q, .int .i64 0]), (· = .tuple #[.int .i64 q, .int .i64 0]), (· = .int .i64 q), (· = .int .i64 0)].getD i (fun _ => True)) (fun w' => Own w [(w.heap.size, 6, (· = .agg #[.int .i64 n0, .int .i64 n1, .int .i64 n2, .int .i64 t, .int .i64 n4, .int .i64 n5]))] w' ∧ M ≤ w'.heap.size) M
    (by kernel_rfl) (slots_apart (by kernel_rfl)) (slots_lie (by rw [HS]; kernel_rfl)) ⟨hS, Nat.le_of_eq hM⟩ (fun w' h => h.2) (fun w1 w2 h b => ⟨h.1.keep b, Nat.le_trans h.2 b.size⟩) ?_ ?_ ?_
  · clear hS
    intro i o hi ho hA
    have hc : i = 0 ∨ i = 1 ∨ i = 2 ∨ i = 3 ∨ i = 4 ∨ i = 5 ∨ i = 6 := by omega
    rcases hc with rfl | rfl | rfl | rfl | rfl | rfl | rfl
    · obtain rfl := Option.some.inj ho
      refine ⟨rfl, fun a w' hS hold hin K hK => ?_⟩
      refine if_always rfl ?_
      exact op_ld_own 6 tConf (.tmp 3) rfl rfl _ (eval_tmp ((hold 3 (slots_not (by kernel_rfl))).trans h3)) hS.1 0 rfl hK
    · obtain rfl := Option.some.inj ho
      refine ⟨rfl, fun a w' hS hold hin K hK => ?_⟩
      refine if_always rfl ?_
      exact op_move (V := (· = .int .i64 k)) _ _ rfl rfl (eval_tmp ((hold 1 (slots_not (by kernel_rfl))).trans h1)) rfl hK
    · obtain rfl := Option.some.inj ho
      refine ⟨rfl, fun a w' hS hold hin K hK => ?_⟩
      refine if_always rfl ?_
      exact op_move (V := (· = .int .i64 n)) _ _ rfl rfl (eval_tmp ((hold 2 (slots_not (by kernel_rfl))).trans h2)) rfl hK
    · obtain rfl := Option.some.inj ho
      refine ⟨rfl, fun a w' hS hold hin K hK => ?_⟩
      obtain ⟨y0, x0, rfl⟩ := hin 0 rfl (by omega) rfl
      obtain ⟨y1, x1, rfl⟩ := hin 1 rfl (by omega) rfl
      obtain ⟨y2, x2, rfl⟩ := hin 2 rfl (by omega) rfl
      refine if_always rfl ?_
      exact op_fn3 _ _ _ _ _ _ _ _ rfl rfl (eval_tmp x0) (eval_tmp x1) (eval_tmp x2) (by intro args w; kernel_rfl) (pages_pg (HMS.out t (Int.le_refl _) HT.out) HM.out HB.out HR.out HRT.out HT.out H32.out HQ.out _) hK
    · obtain rfl := Option.some.inj ho
      refine ⟨rfl, fun a w' hS hold hin K hK => ?_⟩
      obtain ⟨y3, x3, rfl⟩ := hin 3 rfl (by omega) rfl
      refine if_always rfl ?_
      exact op_move (V := (· = .tuple #[.int .i64 q, .int .i64 0])) _ _ rfl rfl (eval_tmp x3) rfl hK
    · obtain rfl := Option.some.inj ho
      refine ⟨rfl, fun a w' hS hold hin K hK => ?_⟩
      obtain ⟨y4, x4, rfl⟩ := hin 4 rfl (by omega) rfl
      refine if_always rfl ?_
      exact op_tup0 (V := (· = .int .i64 q)) _ rfl rfl (eval_tmp x4) rfl hK
    · obtain rfl := Option.some.inj ho
      refine ⟨rfl, fun a w' hS hold hin K hK => ?_⟩
      obtain ⟨y4, x4, rfl⟩ := hin 4 rfl (by omega) rfl
      refine if_always rfl ?_
      exact op_tup1 (V := (· = .int .i64 0)) _ rfl rfl (eval_tmp x4) rfl hK
  · intro i o sz hi ho hA; cases hA
  clear hS
  intro t1 V2 hs hold hout hall hne hS
  replace HS := hs.trans HS
  replace hS := hS.1
  obtain ⟨x21, q21, v21⟩ : ∃ x, t1[21]? = some x ∧ ((· = .int .i64 q)) x := hout 5 (by omega) rfl
  replace q21 : t1[21]? = some (.int .i64 q) := q21.trans (congrArg some v21)
  obtain ⟨x22, q22, v22⟩ : ∃ x, t1[22]? = some x ∧ ((· = .int .i64 0)) x := hout 6 (by omega) rfl
  replace q22 : t1[22]? = some (.int .i64 0) := q22.trans (congrArg some v22)
  replace h1 := (hold 1 (slots_not (by kernel_rfl))).trans h1
  replace h2 := (hold 2 (slots_not (by kernel_rfl))).trans h2
  replace h3 := (hold 3 (slots_not (by kernel_rfl))).trans h3
  clear hold hout hs hall hne
  simp only [List.drop_succ_cons, List.drop_zero]
  refine tlx_assign (.tmp 21) rfl rfl 7 rfl (by rw [HS]; decide) (.int .i64 q) (eval_tmp q21) fun t1 ex0 hz hq he => ?_
  replace h1 := (he 1 (by decide)).trans h1
  replace h2 := (he 2 (by decide)).trans h2
  replace h3 := (he 3 (by decide)).trans h3
  replace q21 := (he 21 (by decide)).trans q21
  replace q22 := (he 22 (by decide)).trans q22
  replace HS := hz.trans HS
  clear hz he ex0
  have h7 := hq
  clear hq
  refine tlx_assign (.tmp 22) rfl rfl 8 rfl (by rw [HS]; decide) (.int .i64 0) (eval_tmp q22) fun t1 ex1 hz hq he => ?_
  replace h1 := (he 1 (by decide)).trans h1
  replace h2 := (he 2 (by decide)).trans h2
  replace h3 := (he 3 (by decide)).trans h3
  replace h7 := (he 7 (by decide)).trans h7
  replace q21 := (he 21 (by decide)).trans q21
  replace q22 := (he 22 (by decide)).trans q22
  replace HS := hz.trans HS
  clear hz he ex1
  have h8 := hq
  clear hq
  refine wpList_nil ?_
  obtain ⟨f, e0, hf⟩ := wash HS
  have f1 := hf 1 _ h1
  have f2 := hf 2 _ h2
  have f3 := hf 3 _ h3
  have f7 := hf 7 _ h7
  have f8 := hf 8 _ h8
  clear hf
  rw [e0.trans (show _ = #[f 0, f 1, f 2, f 3, f 4, f 5, f 6, f 7, f 8, f 9, f 10, f 11, f 12, f 13, f 14, f 15, f 16, f 17, f 18, f 19, f 20, f 21, f 22, f 23, f 24, f 25, f 26, f 27, f 28, f 29, f 30, f 31, f 32, f 33, f 34, f 35, f 36, f 37, f 38, f 39, f 40, f 41, f 42, f 43, f 44, f 45, f 46, f 47, f 48, f 49, f 50, f 51, f 52, f 53, f 54, f 55, f 56, f 57, f 58, f 59, f 60, f 61, f 62, f 63, f 64, f 65, f 66, f 67, f 68, f 69, f 70, f 71, f 72, f 73, f 74, f 75, f 76, f 77, f 78, f 79, f 80, f 81, f 82, f 83, f 84, f 85, f 86, f 87, f 88, f 89, f 90, f 91, f 92, f 93, f 94, f 95, f 96, f 97, f 98, f 99, f 100, f 101, f 102, f 103, f 104, f 105] from by kernel_rfl), f1, f2, f3, f7, f8]
  clear f1 f2 f3 f7 f8
  clear e0
  try dsimp only
  clear h1 h2 h3 h7 h8 q21 q22 v21 v22 hM HS t1 t0 M
  go_wp2_with ((with_reducible refine guard_list ?_); first | (refine held_load 23 _ rfl ?_))
  obtain ⟨M, hM⟩ : ∃ M, M = V2.heap.size := ⟨_, rfl⟩
  refine hide_held fun t0 HT => ?_
  have HS : t0.size = 106 := by rw [HT]; rfl
  have h1 : t0[1]? = some (.int .i64 k) := by rw [HT]; rfl
  have h2 : t0[2]? = some (.int .i64 n) := by rw [HT]; rfl
  have h3 : t0[3]? = some (.pointer (some ⟨w.heap.size, 0, none⟩)) := by rw [HT]; rfl
  have h7 : t0[7]? = some (.int .i64 q) := by rw [HT]; rfl
  have h8 : t0[8]? = some (.int .i64 0) := by rw [HT]; rfl
  clear HT
  refine wp_list_all 20 (fun i => [23, 24, 25, 26, 27, 28, 29, 30, 31, 32, 33, 34, 35, 36, 37, 38, 39, 40, 41, 42, 43].getD i 0) (fun i => [(· = .agg #[.int .i64 n0, .int .i64 n1, .int .i64 n2, .int .i64 t, .int .i64 n4, .int .i64 n5]), (· = .int .i64 0), (· = .bool false), (· = .bool false), (· = .int .i64 k), (· = .bool true), (· = .bool true), (· = .int .i64 k), (· = .bool false), (· = .bool false), (· = .bool false), (· = .bool false), (· = .int .i64 n), (· = .bool false), (· = .bool false), (· = .bool false), (· = .int .i64 n), (· = .pointer (some ⟨w.heap.size, 0, none⟩)), (· = .int .i64 n0), (· = .bool false), (· = .bool false)].getD i (fun _ => True)) (fun w' => Own w [(w.heap.size, 6, (· = .agg #[.int .i64 n0, .int .i64 n1, .int .i64 n2, .int .i64 t, .int .i64 n4, .int .i64 n5]))] w' ∧ M ≤ w'.heap.size)
    (by kernel_rfl) (by kernel_rfl) (slots_apart (by kernel_rfl)) (slots_lie (by rw [HS]; kernel_rfl)) ⟨hS, Nat.le_of_eq hM⟩ (fun w1 w2 h b => ⟨h.1.keep b, Nat.le_trans h.2 b.size⟩) ?_ ?_
  · clear hS
    intro i o hi ho
    have hc : i = 0 ∨ i = 1 ∨ i = 2 ∨ i = 3 ∨ i = 4 ∨ i = 5 ∨ i = 6 ∨ i = 7 ∨ i = 8 ∨ i = 9 ∨ i = 10 ∨ i = 11 ∨ i = 12 ∨ i = 13 ∨ i = 14 ∨ i = 15 ∨ i = 16 ∨ i = 17 ∨ i = 18 ∨ i = 19 ∨ i = 20 := by omega
    rcases hc with rfl | rfl | rfl | rfl | rfl | rfl | rfl | rfl | rfl | rfl | rfl | rfl | rfl | rfl | rfl | rfl | rfl | rfl | rfl | rfl | rfl
    · obtain rfl := Option.some.inj ho
      refine ⟨rfl, fun a w' hS hold hin K hK => ?_⟩
      refine if_always rfl ?_
      exact op_ld_own 6 tConf (.tmp 3) rfl rfl _ (eval_tmp ((hold 3 (slots_not (by kernel_rfl))).trans h3)) hS.1 0 rfl hK
    · obtain rfl := Option.some.inj ho
      refine ⟨rfl, fun a w' hS hold hin K hK => ?_⟩
      obtain ⟨y0, x0, rfl⟩ := hin 0 rfl (by omega)
      refine if_always rfl ?_
      exact op_fn1 _ _ _ _ rfl rfl (eval_tmp x0) (by intro args w; kernel_rfl) (chk_yes HG.out _) hK
    · obtain rfl := Option.some.inj ho
      refine ⟨rfl, fun a w' hS hold hin K hK => ?_⟩
      obtain ⟨y1, x1, rfl⟩ := hin 1 rfl (by omega)
      refine if_always rfl ?_
      exact op_bin (V := (· = .bool false)) _ _ _ _ _ _ _ (.bool false) rfl rfl (eval_tmp x1) rfl (fun w => by kernel_rfl) rfl hK
    · obtain rfl := Option.some.inj ho
      refine ⟨rfl, fun a w' hS hold hin K hK => ?_⟩
      obtain ⟨y2, x2, rfl⟩ := hin 2 rfl (by omega)
      refine if_always rfl ?_
      exact op_move (V := (· = .bool false)) _ _ rfl rfl (eval_tmp x2) rfl hK
    · obtain rfl := Option.some.inj ho
      refine ⟨rfl, fun a w' hS hold hin K hK => ?_⟩
      obtain ⟨y3, x3, rfl⟩ := hin 3 rfl (by omega)
      refine if_guard (d := 26) rfl rfl x3 ?_
      exact op_move (V := (· = .int .i64 k)) _ _ rfl rfl (eval_tmp ((hold 1 (slots_not (by kernel_rfl))).trans h1)) rfl hK
    · obtain rfl := Option.some.inj ho
      refine ⟨rfl, fun a w' hS hold hin K hK => ?_⟩
      obtain ⟨y3, x3, rfl⟩ := hin 3 rfl (by omega)
      obtain ⟨y4, x4, rfl⟩ := hin 4 rfl (by omega)
      refine if_guard (d := 26) rfl rfl x3 ?_
      exact op_bin (V := (· = .bool true)) _ _ _ _ _ _ _ (.bool true) rfl rfl (eval_tmp x4) rfl (fun w => cmp_neq (decide_eq_true (by have := HK.out; omega)) w) rfl hK
    · obtain rfl := Option.some.inj ho
      refine ⟨rfl, fun a w' hS hold hin K hK => ?_⟩
      obtain ⟨y3, x3, rfl⟩ := hin 3 rfl (by omega)
      obtain ⟨y5, x5, rfl⟩ := hin 5 rfl (by omega)
      refine if_guard (d := 26) rfl rfl x3 ?_
      exact op_move (V := (· = .bool true)) _ _ rfl rfl (eval_tmp x5) rfl hK
    · obtain rfl := Option.some.inj ho
      refine ⟨rfl, fun a w' hS hold hin K hK => ?_⟩
      obtain ⟨y6, x6, rfl⟩ := hin 6 rfl (by omega)
      refine if_guard (d := 29) rfl rfl x6 ?_
      exact op_move (V := (· = .int .i64 k)) _ _ rfl rfl (eval_tmp ((hold 1 (slots_not (by kernel_rfl))).trans h1)) rfl hK
    · obtain rfl := Option.some.inj ho
      refine ⟨rfl, fun a w' hS hold hin K hK => ?_⟩
      obtain ⟨y6, x6, rfl⟩ := hin 6 rfl (by omega)
      obtain ⟨y7, x7, rfl⟩ := hin 7 rfl (by omega)
      refine if_guard (d := 29) rfl rfl x6 ?_
      exact op_bin (V := (· = .bool false)) _ _ _ _ _ _ _ (.bool false) rfl rfl (eval_tmp x7) rfl (fun w => cmp_neq (decide_eq_false (by have := HK.out; omega)) w) rfl hK
    · obtain rfl := Option.some.inj ho
      refine ⟨rfl, fun a w' hS hold hin K hK => ?_⟩
      obtain ⟨y3, x3, rfl⟩ := hin 3 rfl (by omega)
      obtain ⟨y6, x6, rfl⟩ := hin 6 rfl (by omega)
      obtain ⟨y8, x8, rfl⟩ := hin 8 rfl (by omega)
      refine if_guard (d := 26) rfl rfl x3 ?_
      exact op_pick (V := (· = .bool false)) _ _ _ true _ rfl rfl (eval_tmp x6) (show (Act.eval a _) = _ from (eval_tmp x8)) rfl hK
    · obtain rfl := Option.some.inj ho
      refine ⟨rfl, fun a w' hS hold hin K hK => ?_⟩
      obtain ⟨y3, x3, rfl⟩ := hin 3 rfl (by omega)
      obtain ⟨y9, x9, rfl⟩ := hin 9 rfl (by omega)
      refine if_always rfl ?_
      exact op_pick (V := (· = .bool false)) _ _ _ false _ rfl rfl (eval_tmp x3) (show (Act.eval a _) = _ from (eval_tmp x9)) rfl hK
    · obtain rfl := Option.some.inj ho
      refine ⟨rfl, fun a w' hS hold hin K hK => ?_⟩
      obtain ⟨y10, x10, rfl⟩ := hin 10 rfl (by omega)
      refine if_always rfl ?_
      exact op_move (V := (· = .bool false)) _ _ rfl rfl (eval_tmp x10) rfl hK
    · obtain rfl := Option.some.inj ho
      refine ⟨rfl, fun a w' hS hold hin K hK => ?_⟩
      obtain ⟨y11, x11, rfl⟩ := hin 11 rfl (by omega)
      refine if_guard (d := 34) rfl rfl x11 ?_
      exact op_move (V := (· = .int .i64 n)) _ _ rfl rfl (eval_tmp ((hold 2 (slots_not (by kernel_rfl))).trans h2)) rfl hK
    · obtain rfl := Option.some.inj ho
      refine ⟨rfl, fun a w' hS hold hin K hK => ?_⟩
      obtain ⟨y11, x11, rfl⟩ := hin 11 rfl (by omega)
      obtain ⟨y12, x12, rfl⟩ := hin 12 rfl (by omega)
      refine if_guard (d := 34) rfl rfl x11 ?_
      exact op_bin (V := (· = .bool false)) _ _ _ _ _ _ _ (.bool false) rfl rfl (eval_tmp x12) rfl (fun w => cmp_lss (decide_eq_false (by have := HN.out; omega)) w) rfl hK
    · obtain rfl := Option.some.inj ho
      refine ⟨rfl, fun a w' hS hold hin K hK => ?_⟩
      obtain ⟨y11, x11, rfl⟩ := hin 11 rfl (by omega)
      obtain ⟨y13, x13, rfl⟩ := hin 13 rfl (by omega)
      refine if_always rfl ?_
      exact op_pick (V := (· = .bool false)) _ _ _ false _ rfl rfl (eval_tmp x11) (show (Act.eval a _) = _ from (eval_tmp x13)) rfl hK
    · obtain rfl := Option.some.inj ho
      refine ⟨rfl, fun a w' hS hold hin K hK => ?_⟩
      obtain ⟨y14, x14, rfl⟩ := hin 14 rfl (by omega)
      refine if_always rfl ?_
      exact op_move (V := (· = .bool false)) _ _ rfl rfl (eval_tmp x14) rfl hK
    · obtain rfl := Option.some.inj ho
      refine ⟨rfl, fun a w' hS hold hin K hK => ?_⟩
      obtain ⟨y15, x15, rfl⟩ := hin 15 rfl (by omega)
      refine if_guard (d := 38) rfl rfl x15 ?_
      exact op_move (V := (· = .int .i64 n)) _ _ rfl rfl (eval_tmp ((hold 2 (slots_not (by kernel_rfl))).trans h2)) rfl hK
    · obtain rfl := Option.some.inj ho
      refine ⟨rfl, fun a w' hS hold hin K hK => ?_⟩
      obtain ⟨y15, x15, rfl⟩ := hin 15 rfl (by omega)
      refine if_guard (d := 38) rfl rfl x15 ?_
      exact op_field 23 _ 0 _ (.pointer (some ⟨w.heap.size, 0, none⟩)) rfl rfl (eval_tmp ((hold 3 (slots_not (by kernel_rfl))).trans h3)) (fun w => by kernel_rfl) hK
    · obtain rfl := Option.some.inj ho
      refine ⟨rfl, fun a w' hS hold hin K hK => ?_⟩
      obtain ⟨y15, x15, rfl⟩ := hin 15 rfl (by omega)
      obtain ⟨y17, x17, rfl⟩ := hin 17 rfl (by omega)
      refine if_guard (d := 38) rfl rfl x15 ?_
      exact op_cell_own tInt _ w.heap.size 0 rfl rfl (eval_tmp x17) hS.1 0 _ _ rfl (.int .i64 n0) rfl hK
    · obtain rfl := Option.some.inj ho
      refine ⟨rfl, fun a w' hS hold hin K hK => ?_⟩
      obtain ⟨y15, x15, rfl⟩ := hin 15 rfl (by omega)
      obtain ⟨y16, x16, rfl⟩ := hin 16 rfl (by omega)
      obtain ⟨y18, x18, rfl⟩ := hin 18 rfl (by omega)
      refine if_guard (d := 38) rfl rfl x15 ?_
      exact op_bin (V := (· = .bool false)) _ _ _ _ _ _ _ (.bool false) rfl rfl (eval_tmp x16) (eval_tmp x18) (fun w => cmp_gtr (decide_eq_false (by have := HM.out; omega)) w) rfl hK
    · obtain rfl := Option.some.inj ho
      refine ⟨rfl, fun a w' hS hold hin K hK => ?_⟩
      obtain ⟨y15, x15, rfl⟩ := hin 15 rfl (by omega)
      obtain ⟨y19, x19, rfl⟩ := hin 19 rfl (by omega)
      refine if_always rfl ?_
      exact op_pick (V := (· = .bool false)) _ _ _ false _ rfl rfl (eval_tmp x15) (show (Act.eval a _) = _ from (eval_tmp x19)) rfl hK
  clear hS
  intro t1 V3 hs hold hout hS
  replace HS := hs.trans HS
  replace hS := hS.1
  obtain ⟨_, q43, rfl⟩ : ∃ x, t1[43]? = some x ∧ x = (.bool false : Value) := hout 20 (by omega)
  replace h1 := (hold 1 (slots_not (by kernel_rfl))).trans h1
  replace h2 := (hold 2 (slots_not (by kernel_rfl))).trans h2
  replace h3 := (hold 3 (slots_not (by kernel_rfl))).trans h3
  replace h7 := (hold 7 (slots_not (by kernel_rfl))).trans h7
  replace h8 := (hold 8 (slots_not (by kernel_rfl))).trans h8
  clear hold hout hs
  obtain ⟨f, e0, hf⟩ := wash HS
  have f1 := hf 1 _ h1
  have f2 := hf 2 _ h2
  have f3 := hf 3 _ h3
  have f7 := hf 7 _ h7
  have f8 := hf 8 _ h8
  have f43 := hf 43 _ q43
  clear hf
  rw [e0.trans (show _ = #[f 0, f 1, f 2, f 3, f 4, f 5, f 6, f 7, f 8, f 9, f 10, f 11, f 12, f 13, f 14, f 15, f 16, f 17, f 18, f 19, f 20, f 21, f 22, f 23, f 24, f 25, f 26, f 27, f 28, f 29, f 30, f 31, f 32, f 33, f 34, f 35, f 36, f 37, f 38, f 39, f 40, f 41, f 42, f 43, f 44, f 45, f 46, f 47, f 48, f 49, f 50, f 51, f 52, f 53, f 54, f 55, f 56, f 57, f 58, f 59, f 60, f 61, f 62, f 63, f 64, f 65, f 66, f 67, f 68, f 69, f 70, f 71, f 72, f 73, f 74, f 75, f 76, f 77, f 78, f 79, f 80, f 81, f 82, f 83, f 84, f 85, f 86, f 87, f 88, f 89, f 90, f 91, f 92, f 93, f 94, f 95, f 96, f 97, f 98, f 99, f 100, f 101, f 102, f 103, f 104, f 105] from by kernel_rfl), f1, f2, f3, f7, f8, f43]
  clear f1 f2 f3 f7 f8 f43
  clear e0
  try dsimp only
  clear h1 h2 h3 h7 h8 q43 hM HS t1 t0 M
  have hz2 := HZ.out
  have hz3 := HQ0.out
  subst hz2
  subst hz3
  go_wp2_with ((with_reducible refine guard_list ?_); first | (refine held_load 23 _ rfl ?_))
  obtain ⟨M, hM⟩ : ∃ M, M = V3.heap.size := ⟨_, rfl⟩
  have hMB : w.heap.size ≤ M := hM ▸ hS.1.size
  have ltM := hS.lt
  rw [← hM] at ltM
  refine hide_held fun t0 HT => ?_
  have HS : t0.size = 106 := by rw [HT]; rfl
  have h1 : t0[1]? = some (.int .i64 k) := by rw [HT]; rfl
  have h2 : t0[2]? = some (.int .i64 0) := by rw [HT]; rfl
  have h3 : t0[3]? = some (.pointer (some ⟨w.heap.size, 0, none⟩)) := by rw [HT]; rfl
  have h7 : t0[7]? = some (.int .i64 0) := by rw [HT]; rfl
  have h8 : t0[8]? = some (.int .i64 0) := by rw [HT]; rfl
  clear HT
  refine wp_list_most 2 (fun i => [86, 11].getD i 0) (fun i => [none, some 6].getD i none) (fun i => [(· = .agg #[.int .i64 n0, .int .i64 n1, .int .i64 n2, .int .i64 t, .int .i64 n4, .int .i64 n5]), (fun _ => True)].getD i (fun _ => True)) (fun w' => Own w [(w.heap.size, 6, (· = .agg #[.int .i64 n0, .int .i64 n1, .int .i64 n2, .int .i64 t, .int .i64 n4, .int .i64 n5]))] w' ∧ M ≤ w'.heap.size) M
    (by kernel_rfl) (slots_apart (by kernel_rfl)) (slots_lie (by rw [HS]; kernel_rfl)) ⟨hS, Nat.le_of_eq hM⟩ (fun w' h => h.2) (fun w1 w2 h b => ⟨h.1.keep b, Nat.le_trans h.2 b.size⟩) ?_ ?_ ?_
  · clear hS
    intro i o hi ho hA
    have hc : i = 0 ∨ i = 1 := by omega
    rcases hc with rfl | rfl
    · obtain rfl := Option.some.inj ho
      refine ⟨rfl, fun a w' hS hold hin K hK => ?_⟩
      refine if_always rfl ?_
      exact op_ld_own 6 tConf (.tmp 3) rfl rfl _ (eval_tmp ((hold 3 (slots_not (by kernel_rfl))).trans h3)) hS.1 0 rfl hK
    · cases hA
  · intro i o sz hi ho hA
    have hc : i = 0 ∨ i = 1 := by omega
    rcases hc with rfl | rfl
    · cases hA
    · obtain rfl := Option.some.inj ho
      obtain rfl := Option.some.inj hA
      exact ⟨rfl, rfl, 23, #[.int .i64 0, .int .i64 0, .int .i64 0, .int .i64 0, .int .i64 0, .int .i64 0], rfl, fun a w' K h => wp_new 23 #[.int .i64 0, .int .i64 0, .int .i64 0, .int .i64 0, .int .i64 0, .int .i64 0] (fun w => by kernel_rfl) h⟩
  clear hS
  intro t1 V4 hs hold hout hall hne hS
  replace HS := hs.trans HS
  replace hS := hS.1
  obtain ⟨gd, h11, b11, r11⟩ : ∃ g, t1[11]? = some (.pointer (some ⟨g, 0, none⟩)) ∧ M ≤ g ∧ ∃ cs ty, V4.heap[g]? = some (.cells cs ty (0, 0)) ∧ cs.size = 6 := by
    obtain ⟨g, p1, p2, ty, cs, p3, p4⟩ := hall 1 (by omega) 6 rfl
    exact ⟨g, p1, p2, cs, ty, p3, p4⟩
  replace hS : Own w [(w.heap.size, 6, (· = .agg #[.int .i64 n0, .int .i64 n1, .int .i64 n2, .int .i64 t, .int .i64 n4, .int .i64 n5])), (gd, 6, (fun _ => True))] V4 := hS.add (Nat.le_trans hMB b11) (fun r hr => Nat.ne_of_lt (Nat.lt_of_lt_of_le (ltM r hr) b11)) (Own.any r11)
  obtain ⟨x86, q86, v86⟩ : ∃ x, t1[86]? = some x ∧ ((· = .agg #[.int .i64 n0, .int .i64 n1, .int .i64 n2, .int .i64 t, .int .i64 n4, .int .i64 n5])) x := hout 0 (by omega) rfl
  replace q86 : t1[86]? = some (.agg #[.int .i64 n0, .int .i64 n1, .int .i64 n2, .int .i64 t, .int .i64 n4, .int .i64 n5]) := q86.trans (congrArg some v86)
  replace h1 := (hold 1 (slots_not (by kernel_rfl))).trans h1
  replace h2 := (hold 2 (slots_not (by kernel_rfl))).trans h2
  replace h3 := (hold 3 (slots_not (by kernel_rfl))).trans h3
  replace h7 := (hold 7 (slots_not (by kernel_rfl))).trans h7
  replace h8 := (hold 8 (slots_not (by kernel_rfl))).trans h8
  clear hold hout hs hall hne
  simp only [List.drop_succ_cons, List.drop_zero]
  refine st_own 6 tConf rfl (.tmp 11) (.tmp 86) rfl rfl _ _ (eval_tmp h11) (eval_tmp q86) (V' := (· = .agg #[.int .i64 n0, .int .i64 n1, .int .i64 n2, .int .i64 t, .int .i64 n4, .int .i64 n5])) rfl by_conf hS 1 rfl fun V4' hS' _ => ?_
  replace hS : Own w [(w.heap.size, 6, (· = .agg #[.int .i64 n0, .int .i64 n1, .int .i64 n2, .int .i64 t, .int .i64 n4, .int .i64 n5])), (gd, 6, (· = .agg #[.int .i64 n0, .int .i64 n1, .int .i64 n2, .int .i64 t, .int .i64 n4, .int .i64 n5]))] V4' := hS'
  clear hS'
  refine wpList_nil ?_
  obtain ⟨f, e0, hf⟩ := wash HS
  have f1 := hf 1 _ h1
  have f2 := hf 2 _ h2
  have f3 := hf 3 _ h3
  have f7 := hf 7 _ h7
  have f8 := hf 8 _ h8
  have f11 := hf 11 _ h11
  clear hf
  rw [e0.trans (show _ = #[f 0, f 1, f 2, f 3, f 4, f 5, f 6, f 7, f 8, f 9, f 10, f 11, f 12, f 13, f 14, f 15, f 16, f 17, f 18, f 19, f 20, f 21, f 22, f 23, f 24, f 25, f 26, f 27, f 28, f 29, f 30, f 31, f 32, f 33, f 34, f 35, f 36, f 37, f 38, f 39, f 40, f 41, f 42, f 43, f 44, f 45, f 46, f 47, f 48, f 49, f 50, f 51, f 52, f 53, f 54, f 55, f 56, f 57, f 58, f 59, f 60, f 61, f 62, f 63, f 64, f 65, f 66, f 67, f 68, f 69, f 70, f 71, f 72, f 73, f 74, f 75, f 76, f 77, f 78, f 79, f 80, f 81, f 82, f 83, f 84, f 85, f 86, f 87, f 88, f 89, f 90, f 91, f 92, f 93, f 94, f 95, f 96, f 97, f 98, f 99, f 100, f 101, f 102, f 103, f 104, f 105] from by kernel_rfl), f1, f2, f3, f7, f8, f11]
  clear f1 f2 f3 f7 f8 f11
  clear e0
  try dsimp only
  clear h1 h2 h3 h7 h8 h11 q86 v86 b11 r11 ltM hMB hM HS t1 t0 M
  obtain ⟨td, Rd⟩ := own_exact hS 1 rfl
  have r3 := row_cell Rd 3
  simp only [List.getElem?_toArray, List.getElem?_cons_zero, List.getElem?_cons_succ] at r3
  have fr := row_free Rd 3
  have HSo := Lib.hid hS
  clear hS Rd
  have ht3 := HT.out
  have ht4 := HT2.out
  have hE : (min ((t : Int) + 1) 4096) = (t2 : Int) := by split at ht4 <;> omega
  have hS5 := own_cellV HSo.out 1 #[.int .i64 n0, .int .i64 n1, .int .i64 n2, .int .i64 (min ((t : Int) + 1) 4096), .int .i64 n4, .int .i64 n5] rfl 3 (.int .i64 (min ((t : Int) + 1) 4096)) rfl
  simp only [List.set_cons_zero, List.set_cons_succ] at hS5
  have HS5 := Lib.hid hS5
  have HE := Lib.hid hE
  clear hS5 HSo hE ht4
  go_wp2_with ((with_reducible refine guard_list ?_); first | (refine held_load 23 _ rfl ?_))
  have hS := HS5.out
  clear HS5 r3 fr
  generalize World.setCell V4' ⟨gd, 3, none⟩ (.int .i64 (min ((t : Int) + 1) 4096)) = WD at hS ⊢
  rw [HE.out] at hS
  replace hS : Own w [(w.heap.size, 6, (· = .agg #[.int .i64 n0, .int .i64 n1, .int .i64 n2, .int .i64 t, .int .i64 n4, .int .i64 n5])), (gd, 6, (· = .agg #[.int .i64 n0, .int .i64 n1, .int .i64 n2, .int .i64 (t2 : Nat), .int .i64 n4, .int .i64 n5]))] WD := hS
  have hq20 : q2 = 0 := by have := HANTI.out; omega
  subst hq20
  obtain ⟨M, hM⟩ : ∃ M, M = WD.heap.size := ⟨_, rfl⟩
  refine hide_held fun t0 HT => ?_
  have HS : t0.size = 106 := by rw [HT]; rfl
  have h1 : t0[1]? = some (.int .i64 k) := by rw [HT]; rfl
  have h2 : t0[2]? = some (.int .i64 0) := by rw [HT]; rfl
  have h3 : t0[3]? = some (.pointer (some ⟨w.heap.size, 0, none⟩)) := by rw [HT]; rfl
  have h7 : t0[7]? = some (.int .i64 0) := by rw [HT]; rfl
  have h8 : t0[8]? = some (.int .i64 0) := by rw [HT]; rfl
  have h11 : t0[11]? = some (.pointer (some ⟨gd, 0, none⟩)) := by rw [HT]; rfl
  clear HT
  refine wp_list_most 7 (fun i => [93, 94, 95, 96, 92, 97, 98].getD i 0) (fun _ => none) (fun i => [(· = .agg #[.int .i64 n0, .int .i64 n1, .int .i64 n2, .int .i64 (t2 : Nat), .int .i64 n4, .int .i64 n5]), (· = .int .i64 k), (· = .int .i64 0), (· = .tuple #[.int .i64 0, .int .i64 0]), (· = .tuple #[.int .i64 0, .int .i64 0]), (· = .int .i64 0), (· = .int .i64 0)].getD i (fun _ => True)) (fun w' => Own w [(w.heap.size, 6, (· = .agg #[.int .i64 n0, .int .i64 n1, .int .i64 n2, .int .i64 t, .int .i64 n4, .int .i64 n5])), (gd, 6, (· = .agg #[.int .i64 n0, .int .i64 n1, .int .i64 n2, .int .i64 (t2 : Nat), .int .i64 n4, .int .i64 n5]))] w' ∧ M ≤ w'.heap.size) M
    (by kernel_rfl) (slots_apart (by kernel_rfl)) (slots_lie (by rw [HS]; kernel_rfl)) ⟨hS, Nat.le_of_eq hM⟩ (fun w' h => h.2) (fun w1 w2 h b => ⟨h.1.keep b, Nat.le_trans h.2 b.size⟩) ?_ ?_ ?_
  · clear hS
    intro i o hi ho hA
    have hc : i = 0 ∨ i = 1 ∨ i = 2 ∨ i = 3 ∨ i = 4 ∨ i = 5 ∨ i = 6 := by omega
    rcases hc with rfl | rfl | rfl | rfl | rfl | rfl | rfl
    · obtain rfl := Option.some.inj ho
      refine ⟨rfl, fun a w' hS hold hin K hK => ?_⟩
      refine if_always rfl ?_
      exact op_ld_own 6 tConf (.tmp 11) rfl rfl _ (eval_tmp ((hold 11 (slots_not (by kernel_rfl))).trans h11)) hS.1 1 rfl hK
    · obtain rfl := Option.some.inj ho
      refine ⟨rfl, fun a w' hS hold hin K hK => ?_⟩
      refine if_always rfl ?_
      exact op_move (V := (· = .int .i64 k)) _ _ rfl rfl (eval_tmp ((hold 1 (slots_not (by kernel_rfl))).trans h1)) rfl hK
    · obtain rfl := Option.some.inj ho
      refine ⟨rfl, fun a w' hS hold hin K hK => ?_⟩
      refine if_always rfl ?_
      exact op_move (V := (· = .int .i64 0)) _ _ rfl rfl (eval_tmp ((hold 2 (slots_not (by kernel_rfl))).trans h2)) rfl hK
    · obtain rfl := Option.some.inj ho
      refine ⟨rfl, fun a w' hS hold hin K hK => ?_⟩
      obtain ⟨y0, x0, rfl⟩ := hin 0 rfl (by omega) rfl
      obtain ⟨y1, x1, rfl⟩ := hin 1 rfl (by omega) rfl
      obtain ⟨y2, x2, rfl⟩ := hin 2 rfl (by omega) rfl
      refine if_always rfl ?_
      exact op_fn3 _ _ _ _ _ _ _ _ rfl rfl (eval_tmp x0) (eval_tmp x1) (eval_tmp x2) (by intro args w; kernel_rfl) (pages_pg (n := 0) (HMS.out t2 (by have := HTT.out; omega) HTT.out.2) HM.out (by decide) HR.out (by have := HRT.out; have := HTT.out; omega) HTT.out.2 (by have := H32.out; have := HTT.out; omega) HQ2.out _) hK
    · obtain rfl := Option.some.inj ho
      refine ⟨rfl, fun a w' hS hold hin K hK => ?_⟩
      obtain ⟨y3, x3, rfl⟩ := hin 3 rfl (by omega) rfl
      refine if_always rfl ?_
      exact op_move (V := (· = .tuple #[.int .i64 0, .int .i64 0])) _ _ rfl rfl (eval_tmp x3) rfl hK
    · obtain rfl := Option.some.inj ho
      refine ⟨rfl, fun a w' hS hold hin K hK => ?_⟩
      obtain ⟨y4, x4, rfl⟩ := hin 4 rfl (by omega) rfl
      refine if_always rfl ?_
      exact op_tup0 (V := (· = .int .i64 0)) _ rfl rfl (eval_tmp x4) rfl hK
    · obtain rfl := Option.some.inj ho
      refine ⟨rfl, fun a w' hS hold hin K hK => ?_⟩
      obtain ⟨y4, x4, rfl⟩ := hin 4 rfl (by omega) rfl
      refine if_always rfl ?_
      exact op_tup1 (V := (· = .int .i64 0)) _ rfl rfl (eval_tmp x4) rfl hK
  · intro i o sz hi ho hA; cases hA
  clear hS
  intro t1 V5 hs hold hout hall hne hS
  replace HS := hs.trans HS
  replace hS := hS.1
  obtain ⟨x97, q97, v97⟩ : ∃ x, t1[97]? = some x ∧ ((· = .int .i64 0)) x := hout 5 (by omega) rfl
  replace q97 : t1[97]? = some (.int .i64 0) := q97.trans (congrArg some v97)
  obtain ⟨x98, q98, v98⟩ : ∃ x, t1[98]? = some x ∧ ((· = .int .i64 0)) x := hout 6 (by omega) rfl
  replace q98 : t1[98]? = some (.int .i64 0) := q98.trans (congrArg some v98)
  replace h1 := (hold 1 (slots_not (by kernel_rfl))).trans h1
  replace h2 := (hold 2 (slots_not (by kernel_rfl))).trans h2
  replace h3 := (hold 3 (slots_not (by kernel_rfl))).trans h3
  replace h7 := (hold 7 (slots_not (by kernel_rfl))).trans h7
  replace h8 := (hold 8 (slots_not (by kernel_rfl))).trans h8
  replace h11 := (hold 11 (slots_not (by kernel_rfl))).trans h11
  clear hold hout hs hall hne
  simp only [List.drop_succ_cons, List.drop_zero]
  refine tlx_assign (.tmp 97) rfl rfl 12 rfl (by rw [HS]; decide) (.int .i64 0) (eval_tmp q97) fun t1 ex0 hz hq he => ?_
  replace h1 := (he 1 (by decide)).trans h1
  replace h2 := (he 2 (by decide)).trans h2
  replace h3 := (he 3 (by decide)).trans h3
  replace h7 := (he 7 (by decide)).trans h7
  replace h8 := (he 8 (by decide)).trans h8
  replace h11 := (he 11 (by decide)).trans h11
  replace q97 := (he 97 (by decide)).trans q97
  replace q98 := (he 98 (by decide)).trans q98
  replace HS := hz.trans HS
  clear hz he ex0
  have h12 := hq
  clear hq
  refine tlx_assign (.tmp 98) rfl rfl 13 rfl (by rw [HS]; decide) (.int .i64 0) (eval_tmp q98) fun t1 ex1 hz hq he => ?_
  replace h1 := (he 1 (by decide)).trans h1
  replace h2 := (he 2 (by decide)).trans h2
  replace h3 := (he 3 (by decide)).trans h3
  replace h7 := (he 7 (by decide)).trans h7
  replace h8 := (he 8 (by decide)).trans h8
  replace h11 := (he 11 (by decide)).trans h11
  replace h12 := (he 12 (by decide)).trans h12
  replace q97 := (he 97 (by decide)).trans q97
  replace q98 := (he 98 (by decide)).trans q98
  replace HS := hz.trans HS
  clear hz he ex1
  have h13 := hq
  clear hq
  refine wpList_nil ?_
  obtain ⟨f, e0, hf⟩ := wash HS
  have f1 := hf 1 _ h1
  have f2 := hf 2 _ h2
  have f3 := hf 3 _ h3
  have f7 := hf 7 _ h7
  have f8 := hf 8 _ h8
  have f11 := hf 11 _ h11
  have f12 := hf 12 _ h12
  have f13 := hf 13 _ h13
  clear hf
  rw [e0.trans (show _ = #[f 0, f 1, f 2, f 3, f 4, f 5, f 6, f 7, f 8, f 9, f 10, f 11, f 12, f 13, f 14, f 15, f 16, f 17, f 18, f 19, f 20, f 21, f 22, f 23, f 24, f 25, f 26, f 27, f 28, f 29, f 30, f 31, f 32, f 33, f 34, f 35, f 36, f 37, f 38, f 39, f 40, f 41, f 42, f 43, f 44, f 45, f 46, f 47, f 48, f 49, f 50, f 51, f 52, f 53, f 54, f 55, f 56, f 57, f 58, f 59, f 60, f 61, f 62, f 63, f 64, f 65, f 66, f 67, f 68, f 69, f 70, f 71, f 72, f 73, f 74, f 75, f 76, f 77, f 78, f 79, f 80, f 81, f 82, f 83, f 84, f 85, f 86, f 87, f 88, f 89, f 90, f 91, f 92, f 93, f 94, f 95, f 96, f 97, f 98, f 99, f 100, f 101, f 102, f 103, f 104, f 105] from by kernel_rfl), f1, f2, f3, f7, f8, f11, f12, f13]
  clear f1 f2 f3 f7 f8 f11 f12 f13
  clear e0
  try dsimp only
  clear h1 h2 h3 h7 h8 h11 h12 h13 q97 q98 v97 v98 hM HS t1 t0 M
  have hbel := hS.1
  clear hS
  go_wp2_with fail
  exact ⟨rfl, .bool true, by kernel_rfl, rfl, hbel⟩
set_option maxHeartbeats 8000000 in
set_option maxRecDepth 100000 in
theorem codecPages_okdp {n0 n1 n2 n4 n5 k rq rp : Int} {t r n : Nat} (hg : good n0 n1 n2 t n4 n5 = true) (hk : k = 2) (hms : ∀ t2 : Nat, (t : Int) ≤ t2 → t2 ≤ 4096 → msr n0 n1 n2 t2 n4 n5 k = (rq, rp, (r : Int), 0)) (hm : (n : Int) ≤ n0) (hb : n ≤ 256) (hr : 1 ≤ r) (hrt : r ≤ t) (ht : t ≤ 4096) (h32 : 32 ≤ t) (hz : 0 < n) (w : World) : Calls Tryd.prog 7 #[.agg #[.int .i64 n0, .int .i64 n1, .int .i64 n2, .int .i64 t, .int .i64 n4, .int .i64 n5], .int .i64 k, .int .i64 n] w (fun e w' => e = .returned (.bool true) ∧ Below w.heap.size w w') := by
  have hS := conf_start n0 n1 n2 t n4 n5 w
  have hn : (0 : Int) ≤ n := Int.natCast_nonneg n
  obtain ⟨q, hq⟩ : ∃ q, pg n t r = q := ⟨_, rfl⟩
  have hle := pg_le hr hrt h32 hb
  rw [hq] at hle
  have hq0 : 0 < q := by rw [← hq]; exact pg_pos h32 hz
  obtain ⟨t2, ht2⟩ : ∃ t2 : Nat, (if t = 4096 then 4096 else t + 1) = t2 := ⟨_, rfl⟩
  have htt : t ≤ t2 ∧ t2 ≤ 4096 := by split at ht2 <;> omega
  obtain ⟨q2, hq2⟩ : ∃ q2, pg n t2 r = q2 := ⟨_, rfl⟩
  have hanti : q2 ≤ q := by rw [← hq2, ← hq]; exact pg_anti hr hrt h32 htt.1
  obtain ⟨n1', hn1'⟩ : ∃ m, n = m + 1 := ⟨n - 1, by omega⟩
  obtain ⟨qp, hqp⟩ : ∃ q', pg n1' t r = q' := ⟨_, rfl⟩
  have hmono : qp ≤ q := by rw [← hqp, ← hq, hn1']; exact pg_mono hr hrt h32 (by omega)
  have HQP := Lib.hid hqp
  have HMO := Lib.hid hmono
  have HN1 := Lib.hid hn1'
  have HG := Lib.hid hg
  have HK := Lib.hid hk
  have HMS := Lib.hid hms
  have HM := Lib.hid hm
  have HB := Lib.hid hb
  have HR := Lib.hid hr
  have HRT := Lib.hid hrt
  have HT := Lib.hid ht
  have H32 := Lib.hid h32
  have HZ := Lib.hid hz
  have HN := Lib.hid hn
  have HQ := Lib.hid hq
  have HLE := Lib.hid hle
  have HQ0 := Lib.hid hq0
  have HT2 := Lib.hid ht2
  have HTT := Lib.hid htt
  have HQ2 := Lib.hid hq2
  have HANTI := Lib.hid hanti
  clear hg hk hms hm hr hrt h32 hn hq ht2 hq2 hqp hmono hn1' hle htt hanti hq0 hz hb ht
  go_enter Tryd.func7, Tryd.ntmps7
  go_wp2_with ((with_reducible refine guard_list ?_); first | (refine held_fn _ _ _ rfl ?_))
  change Held (wpList _ _ _ _ _ (w.alloc (.cells #[.int .i64 n0, .int .i64 n1, .int .i64 n2, .int .i64 t, .int .i64 n4, .int .i64 n5] 23)))
  generalize w.alloc (.cells #[.int .i64 n0, .int .i64 n1, .int .i64 n2, .int .i64 t, .int .i64 n4, .int .i64 n5] 23) = w0 at hS ⊢
  obtain ⟨M, hM⟩ : ∃ M, M = w0.heap.size := ⟨_, rfl⟩
  refine hide_held fun t0 HT => ?_
  have HS : t0.size = 106 := by rw [HT]; rfl
  have h1 : t0[1]? = some (.int .i64 k) := by rw [HT]; rfl
  have h2 : t0[2]? = some (.int .i64 n) := by rw [HT]; rfl
  have h3 : t0[3]? = some (.pointer (some ⟨w.heap.size, 0, none⟩)) := by rw [HT]; rfl
  clear HT
  refine wp_list_all 1 (fun i => [14, 15].getD i 0) (fun i => [(· = .bool true), (· = .bool false)].getD i (fun _ => True)) (fun w' => Own w [(w.heap.size, 6, (· = .agg #[.int .i64 n0, .int .i64 n1, .int .i64 n2, .int .i64 t, .int .i64 n4, .int .i64 n5]))] w' ∧ M ≤ w'.heap.size)
    (by kernel_rfl) (by kernel_rfl) (slots_apart (by kernel_rfl)) (slots_lie (by rw [HS]; kernel_rfl)) ⟨hS, Nat.le_of_eq hM⟩ (fun w1 w2 h b => ⟨h.1.keep b, Nat.le_trans h.2 b.size⟩) ?_ ?_
  · clear hS
    intro i o hi ho
    have hc : i = 0 ∨ i = 1 := by omega
    rcases hc with rfl | rfl
    · obtain rfl := Option.some.inj ho
      refine ⟨rfl, fun a w' hS hold hin K hK => ?_⟩
      refine if_always rfl ?_
      exact op_fn0 _  _  rfl rfl  (by intro args w; kernel_rfl) (awake_ev _) hK
    · obtain rfl := Option.some.inj ho
      refine ⟨rfl, fun a w' hS hold hin K hK => ?_⟩
      obtain ⟨y0, x0, rfl⟩ := hin 0 rfl (by omega)
      refine if_always rfl ?_
      exact op_un (V := (· = .bool false)) _ _ _ _ (.bool false) rfl rfl (eval_tmp x0) (fun w => by kernel_rfl) rfl hK
  clear hS
  intro t1 V1 hs hold hout hS
  replace HS := hs.trans HS
  replace hS := hS.1
  obtain ⟨_, q15, rfl⟩ : ∃ x, t1[15]? = some x ∧ x = (.bool false : Value) := hout 1 (by omega)
  replace h1 := (hold 1 (slots_not (by kernel_rfl))).trans h1
  replace h2 := (hold 2 (slots_not (by kernel_rfl))).trans h2
  replace h3 := (hold 3 (slots_not (by kernel_rfl))).trans h3
  clear hold hout hs
  obtain ⟨f, e0, hf⟩ := wash HS
  have f1 := hf 1 _ h1
  have f2 := hf 2 _ h2
  have f3 := hf 3 _ h3
  have f15 := hf 15 _ q15
  clear hf
  rw [e0.trans (show _ = #[f 0, f 1, f 2, f 3, f 4, f 5, f 6, f 7, f 8, f 9, f 10, f 11, f 12, f 13, f 14, f 15, f 16, f 17, f 18, f 19, f 20, f 21, f 22, f 23, f 24, f 25, f 26, f 27, f 28, f 29, f 30, f 31, f 32, f 33, f 34, f 35, f 36, f 37, f 38, f 39, f 40, f 41, f 42, f 43, f 44, f 45, f 46, f 47, f 48, f 49, f 50, f 51, f 52, f 53, f 54, f 55, f 56, f 57, f 58, f 59, f 60, f 61, f 62, f 63, f 64, f 65, f 66, f 67, f 68, f 69, f 70, f 71, f 72, f 73, f 74, f 75, f 76, f 77, f 78, f 79, f 80, f 81, f 82, f 83, f 84, f 85, f 86, f 87, f 88, f 89, f 90, f 91, f 92, f 93, f 94, f 95, f 96, f 97, f 98, f 99, f 100, f 101, f 102, f 103, f 104, f 105] from by kernel_rfl), f1, f2, f3, f15]
  clear f1 f2 f3 f15
  clear e0
  try dsimp only
  clear h1 h2 h3 q15 hM HS t1 t0 M
  go_wp2_with ((with_reducible refine guard_list ?_); first | (refine held_load 23 _ rfl ?_))
  obtain ⟨M, hM⟩ : ∃ M, M = V1.heap.size := ⟨_, rfl⟩
  refine hide_held fun t0 HT => ?_
  have HS : t0.size = 106 := by rw [HT]; rfl
  have h1 : t0[1]? = some (.int .i64 k) := by rw [HT]; rfl
  have h2 : t0[2]? = some (.int .i64 n) := by rw [HT]; rfl
  have h3 : t0[3]? = some (.pointer (some ⟨w.heap.size, 0, none⟩)) := by rw [HT]; rfl
  clear HT
  refine wp_list_most 7 (fun i => [17, 18, 19, 20, 16, 21, 22].getD i 0) (fun _ => none) (fun i => [(· = .agg #[.int .i64 n0, .int .i64 n1, .int .i64 n2, .int .i64 t, .int .i64 n4, .int .i64 n5]), (· = .int .i64 k), (· = .int .i64 n), (· = .tuple #[.int .i64 q, .int .i64 0]), (· = .tuple #[.int .i64 q, .int .i64 0]), (· = .int .i64 q), (· = .int .i64 0)].getD i (fun _ => True)) (fun w' => Own w [(w.heap.size, 6, (· = .agg #[.int .i64 n0, .int .i64 n1, .int .i64 n2, .int .i64 t, .int .i64 n4, .int .i64 n5]))] w' ∧ M ≤ w'.heap.size) M
    (by kernel_rfl) (slots_apart (by kernel_rfl)) (slots_lie (by rw [HS]; kernel_rfl)) ⟨hS, Nat.le_of_eq hM⟩ (fun w' h => h.2) (fun w1 w2 h b => ⟨h.1.keep b, Nat.le_trans h.2 b.size⟩) ?_ ?_ ?_
  · clear hS
    intro i o hi ho hA
    have hc : i = 0 ∨ i = 1 ∨ i = 2 ∨ i = 3 ∨ i = 4 ∨ i = 5 ∨ i = 6 := by omega
    rcases hc with rfl | rfl | rfl | rfl | rfl | rfl | rfl
    · obtain rfl := Option.some.inj ho
      refine ⟨rfl, fun a w' hS hold hin K hK => ?_⟩
      refine if_always rfl ?_
      exact op_ld_own 6 tConf (.tmp 3) rfl rfl _ (eval_tmp ((hold 3 (slots_not (by kernel_rfl))).trans h3)) hS.1 0 rfl hK
    · obtain rfl := Option.some.inj ho
      refine ⟨rfl, fun a w' hS hold hin K hK => ?_⟩
      refine if_always rfl ?_
      exact op_move (V := (· = .int .i64 k)) _ _ rfl rfl (eval_tmp ((hold 1 (slots_not (by kernel_rfl))).trans h1)) rfl hK
    · obtain rfl := Option.some.inj ho
      refine ⟨rfl, fun a w' hS hold hin K hK => ?_⟩
      refine if_always rfl ?_
      exact op_move (V := (· = .int .i64 n)) _ _ rfl rfl (eval_tmp ((hold 2 (slots_not (by kernel_rfl))).trans h2)) rfl hK
    · obtain rfl := Option.some.inj ho
      refine ⟨rfl, fun a w' hS hold hin K hK => ?_⟩
      obtain ⟨y0, x0, rfl⟩ := hin 0 rfl (by omega) rfl
      obtain ⟨y1, x1, rfl⟩ := hin 1 rfl (by omega) rfl
      obtain ⟨y2, x2, rfl⟩ := hin 2 rfl (by omega) rfl
      refine if_always rfl ?_
      exact op_fn3 _ _ _ _ _ _ _ _ rfl rfl (eval_tmp x0) (eval_tmp x1) (eval_tmp x2) (by intro args w; kernel_rfl) (pages_pg (HMS.out t (Int.le_refl _) HT.out) HM.out HB.out HR.out HRT.out HT.out H32.out HQ.out _) hK
    · obtain rfl := Option.some.inj ho
      refine ⟨rfl, fun a w' hS hold hin K hK => ?_⟩
      obtain ⟨y3, x3, rfl⟩ := hin 3 rfl (by omega) rfl
      refine if_always rfl ?_
      exact op_move (V := (· = .tuple #[.int .i64 q, .int .i64 0])) _ _ rfl rfl (eval_tmp x3) rfl hK
    · obtain rfl := Option.some.inj ho
      refine ⟨rfl, fun a w' hS hold hin K hK => ?_⟩
      obtain ⟨y4, x4, rfl⟩ := hin 4 rfl (by omega) rfl
      refine if_always rfl ?_
      exact op_tup0 (V := (· = .int .i64 q)) _ rfl rfl (eval_tmp x4) rfl hK
    · obtain rfl := Option.some.inj ho
      refine ⟨rfl, fun a w' hS hold hin K hK => ?_⟩
      obtain ⟨y4, x4, rfl⟩ := hin 4 rfl (by omega) rfl
      refine if_always rfl ?_
      exact op_tup1 (V := (· = .int .i64 0)) _ rfl rfl (eval_tmp x4) rfl hK
  · intro i o sz hi ho hA; cases hA
  clear hS
  intro t1 V2 hs hold hout hall hne hS
  replace HS := hs.trans HS
  replace hS := hS.1
  obtain ⟨x21, q21, v21⟩ : ∃ x, t1[21]? = some x ∧ ((· = .int .i64 q)) x := hout 5 (by omega) rfl
  replace q21 : t1[21]? = some (.int .i64 q) := q21.trans (congrArg some v21)
  obtain ⟨x22, q22, v22⟩ : ∃ x, t1[22]? = some x ∧ ((· = .int .i64 0)) x := hout 6 (by omega) rfl
  replace q22 : t1[22]? = some (.int .i64 0) := q22.trans (congrArg some v22)
  replace h1 := (hold 1 (slots_not (by kernel_rfl))).trans h1
  replace h2 := (hold 2 (slots_not (by kernel_rfl))).trans h2
  replace h3 := (hold 3 (slots_not (by kernel_rfl))).trans h3
  clear hold hout hs hall hne
  simp only [List.drop_succ_cons, List.drop_zero]
  refine tlx_assign (.tmp 21) rfl rfl 7 rfl (by rw [HS]; decide) (.int .i64 q) (eval_tmp q21) fun t1 ex0 hz hq he => ?_
  replace h1 := (he 1 (by decide)).trans h1
  replace h2 := (he 2 (by decide)).trans h2
  replace h3 := (he 3 (by decide)).trans h3
  replace q21 := (he 21 (by decide)).trans q21
  replace q22 := (he 22 (by decide)).trans q22
  replace HS := hz.trans HS
  clear hz he ex0
  have h7 := hq
  clear hq
  refine tlx_assign (.tmp 22) rfl rfl 8 rfl (by rw [HS]; decide) (.int .i64 0) (eval_tmp q22) fun t1 ex1 hz hq he => ?_
  replace h1 := (he 1 (by decide)).trans h1
  replace h2 := (he 2 (by decide)).trans h2
  replace h3 := (he 3 (by decide)).trans h3
  replace h7 := (he 7 (by decide)).trans h7
  replace q21 := (he 21 (by decide)).trans q21
  replace q22 := (he 22 (by decide)).trans q22
  replace HS := hz.trans HS
  clear hz he ex1
  have h8 := hq
  clear hq
  refine wpList_nil ?_
  obtain ⟨f, e0, hf⟩ := wash HS
  have f1 := hf 1 _ h1
  have f2 := hf 2 _ h2
  have f3 := hf 3 _ h3
  have f7 := hf 7 _ h7
  have f8 := hf 8 _ h8
  clear hf
  rw [e0.trans (show _ = #[f 0, f 1, f 2, f 3, f 4, f 5, f 6, f 7, f 8, f 9, f 10, f 11, f 12, f 13, f 14, f 15, f 16, f 17, f 18, f 19, f 20, f 21, f 22, f 23, f 24, f 25, f 26, f 27, f 28, f 29, f 30, f 31, f 32, f 33, f 34, f 35, f 36, f 37, f 38, f 39, f 40, f 41, f 42, f 43, f 44, f 45, f 46, f 47, f 48, f 49, f 50, f 51, f 52, f 53, f 54, f 55, f 56, f 57, f 58, f 59, f 60, f 61, f 62, f 63, f 64, f 65, f 66, f 67, f 68, f 69, f 70, f 71, f 72, f 73, f 74, f 75, f 76, f 77, f 78, f 79, f 80, f 81, f 82, f 83, f 84, f 85, f 86, f 87, f 88, f 89, f 90, f 91, f 92, f 93, f 94, f 95, f 96, f 97, f 98, f 99, f 100, f 101, f 102, f 103, f 104, f 105] from by kernel_rfl), f1, f2, f3, f7, f8]
  clear f1 f2 f3 f7 f8
  clear e0
  try dsimp only
  clear h1 h2 h3 h7 h8 q21 q22 v21 v22 hM HS t1 t0 M
  go_wp2_with ((with_reducible refine guard_list ?_); first | (refine held_load 23 _ rfl ?_))
  obtain ⟨M, hM⟩ : ∃ M, M = V2.heap.size := ⟨_, rfl⟩
  refine hide_held fun t0 HT => ?_
  have HS : t0.size = 106 := by rw [HT]; rfl
  have h1 : t0[1]? = some (.int .i64 k) := by rw [HT]; rfl
  have h2 : t0[2]? = some (.int .i64 n) := by rw [HT]; rfl
  have h3 : t0[3]? = some (.pointer (some ⟨w.heap.size, 0, none⟩)) := by rw [HT]; rfl
  have h7 : t0[7]? = some (.int .i64 q) := by rw [HT]; rfl
  have h8 : t0[8]? = some (.int .i64 0) := by rw [HT]; rfl
  clear HT
  refine wp_list_all 20 (fun i => [23, 24, 25, 26, 27, 28, 29, 30, 31, 32, 33, 34, 35, 36, 37, 38, 39, 40, 41, 42, 43].getD i 0) (fun i => [(· = .agg #[.int .i64 n0, .int .i64 n1, .int .i64 n2, .int .i64 t, .int .i64 n4, .int .i64 n5]), (· = .int .i64 0), (· = .bool false), (· = .bool false), (· = .int .i64 k), (· = .bool true), (· = .bool true), (· = .int .i64 k), (· = .bool false), (· = .bool false), (· = .bool false), (· = .bool false), (· = .int .i64 n), (· = .bool false), (· = .bool false), (· = .bool false), (· = .int .i64 n), (· = .pointer (some ⟨w.heap.size, 0, none⟩)), (· = .int .i64 n0), (· = .bool false), (· = .bool false)].getD i (fun _ => True)) (fun w' => Own w [(w.heap.size, 6, (· = .agg #[.int .i64 n0, .int .i64 n1, .int .i64 n2, .int .i64 t, .int .i64 n4, .int .i64 n5]))] w' ∧ M ≤ w'.heap.size)
    (by kernel_rfl) (by kernel_rfl) (slots_apart (by kernel_rfl)) (slots_lie (by rw [HS]; kernel_rfl)) ⟨hS, Nat.le_of_eq hM⟩ (fun w1 w2 h b => ⟨h.1.keep b, Nat.le_trans h.2 b.size⟩) ?_ ?_
  · clear hS
    intro i o hi ho
    have hc : i = 0 ∨ i = 1 ∨ i = 2 ∨ i = 3 ∨ i = 4 ∨ i = 5 ∨ i = 6 ∨ i = 7 ∨ i = 8 ∨ i = 9 ∨ i = 10 ∨ i = 11 ∨ i = 12 ∨ i = 13 ∨ i = 14 ∨ i = 15 ∨ i = 16 ∨ i = 17 ∨ i = 18 ∨ i = 19 ∨ i = 20 := by omega
    rcases hc with rfl | rfl | rfl | rfl | rfl | rfl | rfl | rfl | rfl | rfl | rfl | rfl | rfl | rfl | rfl | rfl | rfl | rfl | rfl | rfl | rfl
    · obtain rfl := Option.some.inj ho
      refine ⟨rfl, fun a w' hS hold hin K hK => ?_⟩
      refine if_always rfl ?_
      exact op_ld_own 6 tConf (.tmp 3) rfl rfl _ (eval_tmp ((hold 3 (slots_not (by kernel_rfl))).trans h3)) hS.1 0 rfl hK
    · obtain rfl := Option.some.inj ho
      refine ⟨rfl, fun a w' hS hold hin K hK => ?_⟩
      obtain ⟨y0, x0, rfl⟩ := hin 0 rfl (by omega)
      refine if_always rfl ?_
      exact op_fn1 _ _ _ _ rfl rfl (eval_tmp x0) (by intro args w; kernel_rfl) (chk_yes HG.out _) hK
    · obtain rfl := Option.some.inj ho
      refine ⟨rfl, fun a w' hS hold hin K hK => ?_⟩
      obtain ⟨y1, x1, rfl⟩ := hin 1 rfl (by omega)
      refine if_always rfl ?_
      exact op_bin (V := (· = .bool false)) _ _ _ _ _ _ _ (.bool false) rfl rfl (eval_tmp x1) rfl (fun w => by kernel_rfl) rfl hK
    · obtain rfl := Option.some.inj ho
      refine ⟨rfl, fun a w' hS hold hin K hK => ?_⟩
      obtain ⟨y2, x2, rfl⟩ := hin 2 rfl (by omega)
      refine if_always rfl ?_
      exact op_move (V := (· = .bool false)) _ _ rfl rfl (eval_tmp x2) rfl hK
    · obtain rfl := Option.some.inj ho
      refine ⟨rfl, fun a w' hS hold hin K hK => ?_⟩
      obtain ⟨y3, x3, rfl⟩ := hin 3 rfl (by omega)
      refine if_guard (d := 26) rfl rfl x3 ?_
      exact op_move (V := (· = .int .i64 k)) _ _ rfl rfl (eval_tmp ((hold 1 (slots_not (by kernel_rfl))).trans h1)) rfl hK
    · obtain rfl := Option.some.inj ho
      refine ⟨rfl, fun a w' hS hold hin K hK => ?_⟩
      obtain ⟨y3, x3, rfl⟩ := hin 3 rfl (by omega)
      obtain ⟨y4, x4, rfl⟩ := hin 4 rfl (by omega)
      refine if_guard (d := 26) rfl rfl x3 ?_
      exact op_bin (V := (· = .bool true)) _ _ _ _ _ _ _ (.bool true) rfl rfl (eval_tmp x4) rfl (fun w => cmp_neq (decide_eq_true (by have := HK.out; omega)) w) rfl hK
    · obtain rfl := Option.some.inj ho
      refine ⟨rfl, fun a w' hS hold hin K hK => ?_⟩
      obtain ⟨y3, x3, rfl⟩ := hin 3 rfl (by omega)
      obtain ⟨y5, x5, rfl⟩ := hin 5 rfl (by omega)
      refine if_guard (d := 26) rfl rfl x3 ?_
      exact op_move (V := (· = .bool true)) _ _ rfl rfl (eval_tmp x5) rfl hK
    · obtain rfl := Option.some.inj ho
      refine ⟨rfl, fun a w' hS hold hin K hK => ?_⟩
      obtain ⟨y6, x6, rfl⟩ := hin 6 rfl (by omega)
      refine if_guard (d := 29) rfl rfl x6 ?_
      exact op_move (V := (· = .int .i64 k)) _ _ rfl rfl (eval_tmp ((hold 1 (slots_not (by kernel_rfl))).trans h1)) rfl hK
    · obtain rfl := Option.some.inj ho
      refine ⟨rfl, fun a w' hS hold hin K hK => ?_⟩
      obtain ⟨y6, x6, rfl⟩ := hin 6 rfl (by omega)
      obtain ⟨y7, x7, rfl⟩ := hin 7 rfl (by omega)
      refine if_guard (d := 29) rfl rfl x6 ?_
      exact op_bin (V := (· = .bool false)) _ _ _ _ _ _ _ (.bool false) rfl rfl (eval_tmp x7) rfl (fun w => cmp_neq (decide_eq_false (by have := HK.out; omega)) w) rfl hK
    · obtain rfl := Option.some.inj ho
      refine ⟨rfl, fun a w' hS hold hin K hK => ?_⟩
      obtain ⟨y3, x3, rfl⟩ := hin 3 rfl (by omega)
      obtain ⟨y6, x6, rfl⟩ := hin 6 rfl (by omega)
      obtain ⟨y8, x8, rfl⟩ := hin 8 rfl (by omega)
      refine if_guard (d := 26) rfl rfl x3 ?_
      exact op_pick (V := (· = .bool false)) _ _ _ true _ rfl rfl (eval_tmp x6) (show (Act.eval a _) = _ from (eval_tmp x8)) rfl hK
    · obtain rfl := Option.some.inj ho
      refine ⟨rfl, fun a w' hS hold hin K hK => ?_⟩
      obtain ⟨y3, x3, rfl⟩ := hin 3 rfl (by omega)
      obtain ⟨y9, x9, rfl⟩ := hin 9 rfl (by omega)
      refine if_always rfl ?_
      exact op_pick (V := (· = .bool false)) _ _ _ false _ rfl rfl (eval_tmp x3) (show (Act.eval a _) = _ from (eval_tmp x9)) rfl hK
    · obtain rfl := Option.some.inj ho
      refine ⟨rfl, fun a w' hS hold hin K hK => ?_⟩
      obtain ⟨y10, x10, rfl⟩ := hin 10 rfl (by omega)
      refine if_always rfl ?_
      exact op_move (V := (· = .bool false)) _ _ rfl rfl (eval_tmp x10) rfl hK
    · obtain rfl := Option.some.inj ho
      refine ⟨rfl, fun a w' hS hold hin K hK => ?_⟩
      obtain ⟨y11, x11, rfl⟩ := hin 11 rfl (by omega)
      refine if_guard (d := 34) rfl rfl x11 ?_
      exact op_move (V := (· = .int .i64 n)) _ _ rfl rfl (eval_tmp ((hold 2 (slots_not (by kernel_rfl))).trans h2)) rfl hK
    · obtain rfl := Option.some.inj ho
      refine ⟨rfl, fun a w' hS hold hin K hK => ?_⟩
      obtain ⟨y11, x11, rfl⟩ := hin 11 rfl (by omega)
      obtain ⟨y12, x12, rfl⟩ := hin 12 rfl (by omega)
      refine if_guard (d := 34) rfl rfl x11 ?_
      exact op_bin (V := (· = .bool false)) _ _ _ _ _ _ _ (.bool false) rfl rfl (eval_tmp x12) rfl (fun w => cmp_lss (decide_eq_false (by have := HN.out; omega)) w) rfl hK
    · obtain rfl := Option.some.inj ho
      refine ⟨rfl, fun a w' hS hold hin K hK => ?_⟩
      obtain ⟨y11, x11, rfl⟩ := hin 11 rfl (by omega)
      obtain ⟨y13, x13, rfl⟩ := hin 13 rfl (by omega)
      refine if_always rfl ?_
      exact op_pick (V := (· = .bool false)) _ _ _ false _ rfl rfl (eval_tmp x11) (show (Act.eval a _) = _ from (eval_tmp x13)) rfl hK
    · obtain rfl := Option.some.inj ho
      refine ⟨rfl, fun a w' hS hold hin K hK => ?_⟩
      obtain ⟨y14, x14, rfl⟩ := hin 14 rfl (by omega)
      refine if_always rfl ?_
      exact op_move (V := (· = .bool false)) _ _ rfl rfl (eval_tmp x14) rfl hK
    · obtain rfl := Option.some.inj ho
      refine ⟨rfl, fun a w' hS hold hin K hK => ?_⟩
      obtain ⟨y15, x15, rfl⟩ := hin 15 rfl (by omega)
      refine if_guard (d := 38) rfl rfl x15 ?_
      exact op_move (V := (· = .int .i64 n)) _ _ rfl rfl (eval_tmp ((hold 2 (slots_not (by kernel_rfl))).trans h2)) rfl hK
    · obtain rfl := Option.some.inj ho
      refine ⟨rfl, fun a w' hS hold hin K hK => ?_⟩
      obtain ⟨y15, x15, rfl⟩ := hin 15 rfl (by omega)
      refine if_guard (d := 38) rfl rfl x15 ?_
      exact op_field 23 _ 0 _ (.pointer (some ⟨w.heap.size, 0, none⟩)) rfl rfl (eval_tmp ((hold 3 (slots_not (by kernel_rfl))).trans h3)) (fun w => by kernel_rfl) hK
    · obtain rfl := Option.some.inj ho
      refine ⟨rfl, fun a w' hS hold hin K hK => ?_⟩
      obtain ⟨y15, x15, rfl⟩ := hin 15 rfl (by omega)
      obtain ⟨y17, x17, rfl⟩ := hin 17 rfl (by omega)
      refine if_guard (d := 38) rfl rfl x15 ?_
      exact op_cell_own tInt _ w.heap.size 0 rfl rfl (eval_tmp x17) hS.1 0 _ _ rfl (.int .i64 n0) rfl hK
    · obtain rfl := Option.some.inj ho
      refine ⟨rfl, fun a w' hS hold hin K hK => ?_⟩
      obtain ⟨y15, x15, rfl⟩ := hin 15 rfl (by omega)
      obtain ⟨y16, x16, rfl⟩ := hin 16 rfl (by omega)
      obtain ⟨y18, x18, rfl⟩ := hin 18 rfl (by omega)
      refine if_guard (d := 38) rfl rfl x15 ?_
      exact op_bin (V := (· = .bool false)) _ _ _ _ _ _ _ (.bool false) rfl rfl (eval_tmp x16) (eval_tmp x18) (fun w => cmp_gtr (decide_eq_false (by have := HM.out; omega)) w) rfl hK
    · obtain rfl := Option.some.inj ho
      refine ⟨rfl, fun a w' hS hold hin K hK => ?_⟩
      obtain ⟨y15, x15, rfl⟩ := hin 15 rfl (by omega)
      obtain ⟨y19, x19, rfl⟩ := hin 19 rfl (by omega)
      refine if_always rfl ?_
      exact op_pick (V := (· = .bool false)) _ _ _ false _ rfl rfl (eval_tmp x15) (show (Act.eval a _) = _ from (eval_tmp x19)) rfl hK
  clear hS
  intro t1 V3 hs hold hout hS
  replace HS := hs.trans HS
  replace hS := hS.1
  obtain ⟨_, q43, rfl⟩ : ∃ x, t1[43]? = some x ∧ x = (.bool false : Value) := hout 20 (by omega)
  replace h1 := (hold 1 (slots_not (by kernel_rfl))).trans h1
  replace h2 := (hold 2 (slots_not (by kernel_rfl))).trans h2
  replace h3 := (hold 3 (slots_not (by kernel_rfl))).trans h3
  replace h7 := (hold 7 (slots_not (by kernel_rfl))).trans h7
  replace h8 := (hold 8 (slots_not (by kernel_rfl))).trans h8
  clear hold hout hs
  obtain ⟨f, e0, hf⟩ := wash HS
  have f1 := hf 1 _ h1
  have f2 := hf 2 _ h2
  have f3 := hf 3 _ h3
  have f7 := hf 7 _ h7
  have f8 := hf 8 _ h8
  have f43 := hf 43 _ q43
  clear hf
  rw [e0.trans (show _ = #[f 0, f 1, f 2, f 3, f 4, f 5, f 6, f 7, f 8, f 9, f 10, f 11, f 12, f 13, f 14, f 15, f 16, f 17, f 18, f 19, f 20, f 21, f 22, f 23, f 24, f 25, f 26, f 27, f 28, f 29, f 30, f 31, f 32, f 33, f 34, f 35, f 36, f 37, f 38, f 39, f 40, f 41, f 42, f 43, f 44, f 45, f 46, f 47, f 48, f 49, f 50, f 51, f 52, f 53, f 54, f 55, f 56, f 57, f 58, f 59, f 60, f 61, f 62, f 63, f 64, f 65, f 66, f 67, f 68, f 69, f 70, f 71, f 72, f 73, f 74, f 75, f 76, f 77, f 78, f 79, f 80, f 81, f 82, f 83, f 84, f 85, f 86, f 87, f 88, f 89, f 90, f 91, f 92, f 93, f 94, f 95, f 96, f 97, f 98, f 99, f 100, f 101, f 102, f 103, f 104, f 105] from by kernel_rfl), f1, f2, f3, f7, f8, f43]
  clear f1 f2 f3 f7 f8 f43
  clear e0
  try dsimp only
  clear h1 h2 h3 h7 h8 q43 hM HS t1 t0 M
  have hz1 : (0 : Int) < n := by have := HZ.out; omega
  have hz2 : (0 : Int) < q := by have := HQ0.out; omega
  have hz3 : (q : Int) ≤ 3 * n := by have := HLE.out; omega
  have hz4 : (n : Int) ≤ 256 := by have := HB.out; omega
  have hz5 : ((q : Int) == 0) = false := by simp; omega
  have hz6 : ((n : Int) == 0) = false := by simp; omega
  go_wp2_with ((with_reducible refine guard_list ?_); first | (refine held_load 23 _ rfl ?_))
  clear hz1 hz2 hz3 hz4 hz5 hz6
  obtain ⟨M, hM⟩ : ∃ M, M = V3.heap.size := ⟨_, rfl⟩
  refine hide_held fun t0 HT => ?_
  have HS : t0.size = 106 := by rw [HT]; rfl
  have h1 : t0[1]? = some (.int .i64 k) := by rw [HT]; rfl
  have h2 : t0[2]? = some (.int .i64 n) := by rw [HT]; rfl
  have h3 : t0[3]? = some (.pointer (some ⟨w.heap.size, 0, none⟩)) := by rw [HT]; rfl
  have h7 : t0[7]? = some (.int .i64 q) := by rw [HT]; rfl
  have h8 : t0[8]? = some (.int .i64 0) := by rw [HT]; rfl
  clear HT
  refine wp_list_most 8 (fun i => [72, 73, 74, 75, 76, 71, 77, 78].getD i 0) (fun _ => none) (fun i => [(· = .agg #[.int .i64 n0, .int .i64 n1, .int .i64 n2, .int .i64 t, .int .i64 n4, .int .i64 n5]), (· = .int .i64 k), (· = .int .i64 n), (· = .int .i64 (n1' : Nat)), (· = .tuple #[.int .i64 qp, .int .i64 0]), (· = .tuple #[.int .i64 qp, .int .i64 0]), (· = .int .i64 qp), (· = .int .i64 0)].getD i (fun _ => True)) (fun w' => Own w [(w.heap.size, 6, (· = .agg #[.int .i64 n0, .int .i64 n1, .int .i64 n2, .int .i64 t, .int .i64 n4, .int .i64 n5]))] w' ∧ M ≤ w'.heap.size) M
    (by kernel_rfl) (slots_apart (by kernel_rfl)) (slots_lie (by rw [HS]; kernel_rfl)) ⟨hS, Nat.le_of_eq hM⟩ (fun w' h => h.2) (fun w1 w2 h b => ⟨h.1.keep b, Nat.le_trans h.2 b.size⟩) ?_ ?_ ?_
  · clear hS
    intro i o hi ho hA
    have hc : i = 0 ∨ i = 1 ∨ i = 2 ∨ i = 3 ∨ i = 4 ∨ i = 5 ∨ i = 6 ∨ i = 7 := by omega
    rcases hc with rfl | rfl | rfl | rfl | rfl | rfl | rfl | rfl
    · obtain rfl := Option.some.inj ho
      refine ⟨rfl, fun a w' hS hold hin K hK => ?_⟩
      refine if_always rfl ?_
      exact op_ld_own 6 tConf (.tmp 3) rfl rfl _ (eval_tmp ((hold 3 (slots_not (by kernel_rfl))).trans h3)) hS.1 0 rfl hK
    · obtain rfl := Option.some.inj ho
      refine ⟨rfl, fun a w' hS hold hin K hK => ?_⟩
      refine if_always rfl ?_
      exact op_move (V := (· = .int .i64 k)) _ _ rfl rfl (eval_tmp ((hold 1 (slots_not (by kernel_rfl))).trans h1)) rfl hK
    · obtain rfl := Option.some.inj ho
      refine ⟨rfl, fun a w' hS hold hin K hK => ?_⟩
      refine if_always rfl ?_
      exact op_move (V := (· = .int .i64 n)) _ _ rfl rfl (eval_tmp ((hold 2 (slots_not (by kernel_rfl))).trans h2)) rfl hK
    · obtain rfl := Option.some.inj ho
      refine ⟨rfl, fun a w' hS hold hin K hK => ?_⟩
      obtain ⟨y2, x2, rfl⟩ := hin 2 rfl (by omega) rfl
      refine if_always rfl ?_
      exact op_bin (V := (· = .int .i64 (n1' : Nat))) _ _ _ _ _ _ _ (.int .i64 (n1' : Nat)) rfl rfl (eval_tmp x2) rfl (fun w => sub_in n 1 n1' (by have := HN1.out; omega) (by have := HB.out; have := HN1.out; omega) w) rfl hK
    · obtain rfl := Option.some.inj ho
      refine ⟨rfl, fun a w' hS hold hin K hK => ?_⟩
      obtain ⟨y0, x0, rfl⟩ := hin 0 rfl (by omega) rfl
      obtain ⟨y1, x1, rfl⟩ := hin 1 rfl (by omega) rfl
      obtain ⟨y3, x3, rfl⟩ := hin 3 rfl (by omega) rfl
      refine if_always rfl ?_
      exact op_fn3 _ _ _ _ _ _ _ _ rfl rfl (eval_tmp x0) (eval_tmp x1) (eval_tmp x3) (by intro args w; kernel_rfl) (pages_pg (HMS.out t (Int.le_refl _) HT.out) (by have := HM.out; have := HN1.out; omega) (by have := HB.out; have := HN1.out; omega) HR.out HRT.out HT.out H32.out HQP.out _) hK
    · obtain rfl := Option.some.inj ho
      refine ⟨rfl, fun a w' hS hold hin K hK => ?_⟩
      obtain ⟨y4, x4, rfl⟩ := hin 4 rfl (by omega) rfl
      refine if_always rfl ?_
      exact op_move (V := (· = .tuple #[.int .i64 qp, .int .i64 0])) _ _ rfl rfl (eval_tmp x4) rfl hK
    · obtain rfl := Option.some.inj ho
      refine ⟨rfl, fun a w' hS hold hin K hK => ?_⟩
      obtain ⟨y5, x5, rfl⟩ := hin 5 rfl (by omega) rfl
      refine if_always rfl ?_
      exact op_tup0 (V := (· = .int .i64 qp)) _ rfl rfl (eval_tmp x5) rfl hK
    · obtain rfl := Option.some.inj ho
      refine ⟨rfl, fun a w' hS hold hin K hK => ?_⟩
      obtain ⟨y5, x5, rfl⟩ := hin 5 rfl (by omega) rfl
      refine if_always rfl ?_
      exact op_tup1 (V := (· = .int .i64 0)) _ rfl rfl (eval_tmp x5) rfl hK
  · intro i o sz hi ho hA; cases hA
  clear hS
  intro t1 V4 hs hold hout hall hne hS
  replace HS := hs.trans HS
  replace hS := hS.1
  obtain ⟨x77, q77, v77⟩ : ∃ x, t1[77]? = some x ∧ ((· = .int .i64 qp)) x := hout 6 (by omega) rfl
  replace q77 : t1[77]? = some (.int .i64 qp) := q77.trans (congrArg some v77)
  obtain ⟨x78, q78, v78⟩ : ∃ x, t1[78]? = some x ∧ ((· = .int .i64 0)) x := hout 7 (by omega) rfl
  replace q78 : t1[78]? = some (.int .i64 0) := q78.trans (congrArg some v78)
  replace h1 := (hold 1 (slots_not (by kernel_rfl))).trans h1
  replace h2 := (hold 2 (slots_not (by kernel_rfl))).trans h2
  replace h3 := (hold 3 (slots_not (by kernel_rfl))).trans h3
  replace h7 := (hold 7 (slots_not (by kernel_rfl))).trans h7
  replace h8 := (hold 8 (slots_not (by kernel_rfl))).trans h8
  clear hold hout hs hall hne
  simp only [List.drop_succ_cons, List.drop_zero]
  refine tlx_assign (.tmp 77) rfl rfl 9 rfl (by rw [HS]; decide) (.int .i64 qp) (eval_tmp q77) fun t1 ex0 hz hq he => ?_
  replace h1 := (he 1 (by decide)).trans h1
  replace h2 := (he 2 (by decide)).trans h2
  replace h3 := (he 3 (by decide)).trans h3
  replace h7 := (he 7 (by decide)).trans h7
  replace h8 := (he 8 (by decide)).trans h8
  replace q77 := (he 77 (by decide)).trans q77
  replace q78 := (he 78 (by decide)).trans q78
  replace HS := hz.trans HS
  clear hz he ex0
  have h9 := hq
  clear hq
  refine tlx_assign (.tmp 78) rfl rfl 10 rfl (by rw [HS]; decide) (.int .i64 0) (eval_tmp q78) fun t1 ex1 hz hq he => ?_
  replace h1 := (he 1 (by decide)).trans h1
  replace h2 := (he 2 (by decide)).trans h2
  replace h3 := (he 3 (by decide)).trans h3
  replace h7 := (he 7 (by decide)).trans h7
  replace h8 := (he 8 (by decide)).trans h8
  replace h9 := (he 9 (by decide)).trans h9
  replace q77 := (he 77 (by decide)).trans q77
  replace q78 := (he 78 (by decide)).trans q78
  replace HS := hz.trans HS
  clear hz he ex1
  have h10 := hq
  clear hq
  refine wpList_nil ?_
  obtain ⟨f, e0, hf⟩ := wash HS
  have f1 := hf 1 _ h1
  have f2 := hf 2 _ h2
  have f3 := hf 3 _ h3
  have f7 := hf 7 _ h7
  have f8 := hf 8 _ h8
  have f9 := hf 9 _ h9
  have f10 := hf 10 _ h10
  clear hf
  rw [e0.trans (show _ = #[f 0, f 1, f 2, f 3, f 4, f 5, f 6, f 7, f 8, f 9, f 10, f 11, f 12, f 13, f 14, f 15, f 16, f 17, f 18, f 19, f 20, f 21, f 22, f 23, f 24, f 25, f 26, f 27, f 28, f 29, f 30, f 31, f 32, f 33, f 34, f 35, f 36, f 37, f 38, f 39, f 40, f 41, f 42, f 43, f 44, f 45, f 46, f 47, f 48, f 49, f 50, f 51, f 52, f 53, f 54, f 55, f 56, f 57, f 58, f 59, f 60, f 61, f 62, f 63, f 64, f 65, f 66, f 67, f 68, f 69, f 70, f 71, f 72, f 73, f 74, f 75, f 76, f 77, f 78, f 79, f 80, f 81, f 82, f 83, f 84, f 85, f 86, f 87, f 88, f 89, f 90, f 91, f 92, f 93, f 94, f 95, f 96, f 97, f 98, f 99, f 100, f 101, f 102, f 103, f 104, f 105] from by kernel_rfl), f1, f2, f3, f7, f8, f9, f10]
  clear f1 f2 f3 f7 f8 f9 f10
  clear e0
  try dsimp only
  clear h1 h2 h3 h7 h8 h9 h10 q77 q78 v77 v78 hM HS t1 t0 M
  have hz1 : ¬ ((q : Int) < qp) := by have := HMO.out; omega
  have hz2 : (qp : Int) ≤ q := by omega
  go_wp2_with ((with_reducible refine guard_list ?_); first | (refine held_load 23 _ rfl ?_))
  clear hz1 hz2
  obtain ⟨M, hM⟩ : ∃ M, M = V4.heap.size := ⟨_, rfl⟩
  have hMB : w.heap.size ≤ M := hM ▸ hS.1.size
  have ltM := hS.lt
  rw [← hM] at ltM
  refine hide_held fun t0 HT => ?_
  have HS : t0.size = 106 := by rw [HT]; rfl
  have h1 : t0[1]? = some (.int .i64 k) := by rw [HT]; rfl
  have h2 : t0[2]? = some (.int .i64 n) := by rw [HT]; rfl
  have h3 : t0[3]? = some (.pointer (some ⟨w.heap.size, 0, none⟩)) := by rw [HT]; rfl
  have h7 : t0[7]? = some (.int .i64 q) := by rw [HT]; rfl
  have h8 : t0[8]? = some (.int .i64 0) := by rw [HT]; rfl
  have h9 : t0[9]? = some (.int .i64 qp) := by rw [HT]; rfl
  have h10 : t0[10]? = some (.int .i64 0) := by rw [HT]; rfl
  clear HT
  refine wp_list_most 2 (fun i => [86, 11].getD i 0) (fun i => [none, some 6].getD i none) (fun i => [(· = .agg #[.int .i64 n0, .int .i64 n1, .int .i64 n2, .int .i64 t, .int .i64 n4, .int .i64 n5]), (fun _ => True)].getD i (fun _ => True)) (fun w' => Own w [(w.heap.size, 6, (· = .agg #[.int .i64 n0, .int .i64 n1, .int .i64 n2, .int .i64 t, .int .i64 n4, .int .i64 n5]))] w' ∧ M ≤ w'.heap.size) M
    (by kernel_rfl) (slots_apart (by kernel_rfl)) (slots_lie (by rw [HS]; kernel_rfl)) ⟨hS, Nat.le_of_eq hM⟩ (fun w' h => h.2) (fun w1 w2 h b => ⟨h.1.keep b, Nat.le_trans h.2 b.size⟩) ?_ ?_ ?_
  · clear hS
    intro i o hi ho hA
    have hc : i = 0 ∨ i = 1 := by omega
    rcases hc with rfl | rfl
    · obtain rfl := Option.some.inj ho
      refine ⟨rfl, fun a w' hS hold hin K hK => ?_⟩
      refine if_always rfl ?_
      exact op_ld_own 6 tConf (.tmp 3) rfl rfl _ (eval_tmp ((hold 3 (slots_not (by kernel_rfl))).trans h3)) hS.1 0 rfl hK
    · cases hA
  · intro i o sz hi ho hA
    have hc : i = 0 ∨ i = 1 := by omega
    rcases hc with rfl | rfl
    · cases hA
    · obtain rfl := Option.some.inj ho
      obtain rfl := Option.some.inj hA
      exact ⟨rfl, rfl, 23, #[.int .i64 0, .int .i64 0, .int .i64 0, .int .i64 0, .int .i64 0, .int .i64 0], rfl, fun a w' K h => wp_new 23 #[.int .i64 0, .int .i64 0, .int .i64 0, .int .i64 0, .int .i64 0, .int .i64 0] (fun w => by kernel_rfl) h⟩
  clear hS
  intro t1 V5 hs hold hout hall hne hS
  replace HS := hs.trans HS
  replace hS := hS.1
  obtain ⟨gd, h11, b11, r11⟩ : ∃ g, t1[11]? = some (.pointer (some ⟨g, 0, none⟩)) ∧ M ≤ g ∧ ∃ cs ty, V5.heap[g]? = some (.cells cs ty (0, 0)) ∧ cs.size = 6 := by
    obtain ⟨g, p1, p2, ty, cs, p3, p4⟩ := hall 1 (by omega) 6 rfl
    exact ⟨g, p1, p2, cs, ty, p3, p4⟩
  replace hS : Own w [(w.heap.size, 6, (· = .agg #[.int .i64 n0, .int .i64 n1, .int .i64 n2, .int .i64 t, .int .i64 n4, .int .i64 n5])), (gd, 6, (fun _ => True))] V5 := hS.add (Nat.le_trans hMB b11) (fun r hr => Nat.ne_of_lt (Nat.lt_of_lt_of_le (ltM r hr) b11)) (Own.any r11)
  obtain ⟨x86, q86, v86⟩ : ∃ x, t1[86]? = some x ∧ ((· = .agg #[.int .i64 n0, .int .i64 n1, .int .i64 n2, .int .i64 t, .int .i64 n4, .int .i64 n5])) x := hout 0 (by omega) rfl
  replace q86 : t1[86]? = some (.agg #[.int .i64 n0, .int .i64 n1, .int .i64 n2, .int .i64 t, .int .i64 n4, .int .i64 n5]) := q86.trans (congrArg some v86)
  replace h1 := (hold 1 (slots_not (by kernel_rfl))).trans h1
  replace h2 := (hold 2 (slots_not (by kernel_rfl))).trans h2
  replace h3 := (hold 3 (slots_not (by kernel_rfl))).trans h3
  replace h7 := (hold 7 (slots_not (by kernel_rfl))).trans h7
  replace h8 := (hold 8 (slots_not (by kernel_rfl))).trans h8
  replace h9 := (hold 9 (slots_not (by kernel_rfl))).trans h9
  replace h10 := (hold 10 (slots_not (by kernel_rfl))).trans h10
  clear hold hout hs hall hne
  simp only [List.drop_succ_cons, List.drop_zero]
  refine st_own 6 tConf rfl (.tmp 11) (.tmp 86) rfl rfl _ _ (eval_tmp h11) (eval_tmp q86) (V' := (· = .agg #[.int .i64 n0, .int .i64 n1, .int .i64 n2, .int .i64 t, .int .i64 n4, .int .i64 n5])) rfl by_conf hS 1 rfl fun V5' hS' _ => ?_
  replace hS : Own w [(w.heap.size, 6, (· = .agg #[.int .i64 n0, .int .i64 n1, .int .i64 n2, .int .i64 t, .int .i64 n4, .int .i64 n5])), (gd, 6, (· = .agg #[.int .i64 n0, .int .i64 n1, .int .i64 n2, .int .i64 t, .int .i64 n4, .int .i64 n5]))] V5' := hS'
  clear hS'
  refine wpList_nil ?_
  obtain ⟨f, e0, hf⟩ := wash HS
  have f1 := hf 1 _ h1
  have f2 := hf 2 _ h2
  have f3 := hf 3 _ h3
  have f7 := hf 7 _ h7
  have f8 := hf 8 _ h8
  have f9 := hf 9 _ h9
  have f10 := hf 10 _ h10
  have f11 := hf 11 _ h11
  clear hf
  rw [e0.trans (show _ = #[f 0, f 1, f 2, f 3, f 4, f 5, f 6, f 7, f 8, f 9, f 10, f 11, f 12, f 13, f 14, f 15, f 16, f 17, f 18, f 19, f 20, f 21, f 22, f 23, f 24, f 25, f 26, f 27, f 28, f 29, f 30, f 31, f 32, f 33, f 34, f 35, f 36, f 37, f 38, f 39, f 40, f 41, f 42, f 43, f 44, f 45, f 46, f 47, f 48, f 49, f 50, f 51, f 52, f 53, f 54, f 55, f 56, f 57, f 58, f 59, f 60, f 61, f 62, f 63, f 64, f 65, f 66, f 67, f 68, f 69, f 70, f 71, f 72, f 73, f 74, f 75, f 76, f 77, f 78, f 79, f 80, f 81, f 82, f 83, f 84, f 85, f 86, f 87, f 88, f 89, f 90, f 91, f 92, f 93, f 94, f 95, f 96, f 97, f 98, f 99, f 100, f 101, f 102, f 103, f 104, f 105] from by kernel_rfl), f1, f2, f3, f7, f8, f9, f10, f11]
  clear f1 f2 f3 f7 f8 f9 f10 f11
  clear e0
  try dsimp only
  clear h1 h2 h3 h7 h8 h9 h10 h11 q86 v86 b11 r11 ltM hMB hM HS t1 t0 M
  obtain ⟨td, Rd⟩ := own_exact hS 1 rfl
  have r3 := row_cell Rd 3
  simp only [List.getElem?_toArray, List.getElem?_cons_zero, List.getElem?_cons_succ] at r3
  have fr := row_free Rd 3
  have HSo := Lib.hid hS
  clear hS Rd
  have ht3 := HT.out
  have ht4 := HT2.out
  have hE : (min ((t : Int) + 1) 4096) = (t2 : Int) := by split at ht4 <;> omega
  have hS5 := own_cellV HSo.out 1 #[.int .i64 n0, .int .i64 n1, .int .i64 n2, .int .i64 (min ((t : Int) + 1) 4096), .int .i64 n4, .int .i64 n5] rfl 3 (.int .i64 (min ((t : Int) + 1) 4096)) rfl
  simp only [List.set_cons_zero, List.set_cons_succ] at hS5
  have HS5 := Lib.hid hS5
  have HE := Lib.hid hE
  clear hS5 HSo hE ht4
  go_wp2_with ((with_reducible refine guard_list ?_); first | (refine held_load 23 _ rfl ?_))
  have hS := HS5.out
  clear HS5 r3 fr
  generalize World.setCell V5' ⟨gd, 3, none⟩ (.int .i64 (min ((t : Int) + 1) 4096)) = WD at hS ⊢
  rw [HE.out] at hS
  replace hS : Own w [(w.heap.size, 6, (· = .agg #[.int .i64 n0, .int .i64 n1, .int .i64 n2, .int .i64 t, .int .i64 n4, .int .i64 n5])), (gd, 6, (· = .agg #[.int .i64 n0, .int .i64 n1, .int .i64 n2, .int .i64 (t2 : Nat), .int .i64 n4, .int .i64 n5]))] WD := hS
  obtain ⟨M, hM⟩ : ∃ M, M = WD.heap.size := ⟨_, rfl⟩
  refine hide_held fun t0 HT => ?_
  have HS : t0.size = 106 := by rw [HT]; rfl
  have h1 : t0[1]? = some (.int .i64 k) := by rw [HT]; rfl
  have h2 : t0[2]? = some (.int .i64 n) := by rw [HT]; rfl
  have h3 : t0[3]? = some (.pointer (some ⟨w.heap.size, 0, none⟩)) := by rw [HT]; rfl
  have h7 : t0[7]? = some (.int .i64 q) := by rw [HT]; rfl
  have h8 : t0[8]? = some (.int .i64 0) := by rw [HT]; rfl
  have h9 : t0[9]? = some (.int .i64 qp) := by rw [HT]; rfl
  have h10 : t0[10]? = some (.int .i64 0) := by rw [HT]; rfl
  have h11 : t0[11]? = some (.pointer (some ⟨gd, 0, none⟩)) := by rw [HT]; rfl
  clear HT
  refine wp_list_most 7 (fun i => [93, 94, 95, 96, 92, 97, 98].getD i 0) (fun _ => none) (fun i => [(· = .agg #[.int .i64 n0, .int .i64 n1, .int .i64 n2, .int .i64 (t2 : Nat), .int .i64 n4, .int .i64 n5]), (· = .int .i64 k), (· = .int .i64 n), (· = .tuple #[.int .i64 q2, .int .i64 0]), (· = .tuple #[.int .i64 q2, .int .i64 0]), (· = .int .i64 q2), (· = .int .i64 0)].getD i (fun _ => True)) (fun w' => Own w [(w.heap.size, 6, (· = .agg #[.int .i64 n0, .int .i64 n1, .int .i64 n2, .int .i64 t, .int .i64 n4, .int .i64 n5])), (gd, 6, (· = .agg #[.int .i64 n0, .int .i64 n1, .int .i64 n2, .int .i64 (t2 : Nat), .int .i64 n4, .int .i64 n5]))] w' ∧ M ≤ w'.heap.size) M
    (by kernel_rfl) (slots_apart (by kernel_rfl)) (slots_lie (by rw [HS]; kernel_rfl)) ⟨hS, Nat.le_of_eq hM⟩ (fun w' h => h.2) (fun w1 w2 h b => ⟨h.1.keep b, Nat.le_trans h.2 b.size⟩) ?_ ?_ ?_
  · clear hS
    intro i o hi ho hA
    have hc : i = 0 ∨ i = 1 ∨ i = 2 ∨ i = 3 ∨ i = 4 ∨ i = 5 ∨ i = 6 := by omega
    rcases hc with rfl | rfl | rfl | rfl | rfl | rfl | rfl
    · obtain rfl := Option.some.inj ho
      refine ⟨rfl, fun a w' hS hold hin K hK => ?_⟩
      refine if_always rfl ?_
      exact op_ld_own 6 tConf (.tmp 11) rfl rfl _ (eval_tmp ((hold 11 (slots_not (by kernel_rfl))).trans h11)) hS.1 1 rfl hK
    · obtain rfl := Option.some.inj ho
      refine ⟨rfl, fun a w' hS hold hin K hK => ?_⟩
      refine if_always rfl ?_
      exact op_move (V := (· = .int .i64 k)) _ _ rfl rfl (eval_tmp ((hold 1 (slots_not (by kernel_rfl))).trans h1)) rfl hK
    · obtain rfl := Option.some.inj ho
      refine ⟨rfl, fun a w' hS hold hin K hK => ?_⟩
      refine if_always rfl ?_
      exact op_move (V := (· = .int .i64 n)) _ _ rfl rfl (eval_tmp ((hold 2 (slots_not (by kernel_rfl))).trans h2)) rfl hK
    · obtain rfl := Option.some.inj ho
      refine ⟨rfl, fun a w' hS hold hin K hK => ?_⟩
      obtain ⟨y0, x0, rfl⟩ := hin 0 rfl (by omega) rfl
      obtain ⟨y1, x1, rfl⟩ := hin 1 rfl (by omega) rfl
      obtain ⟨y2, x2, rfl⟩ := hin 2 rfl (by omega) rfl
      refine if_always rfl ?_
      exact op_fn3 _ _ _ _ _ _ _ _ rfl rfl (eval_tmp x0) (eval_tmp x1) (eval_tmp x2) (by intro args w; kernel_rfl) (pages_pg (n := n) (HMS.out t2 (by have := HTT.out; omega) HTT.out.2) (by have := HM.out; omega) HB.out HR.out (by have := HRT.out; have := HTT.out; omega) HTT.out.2 (by have := H32.out; have := HTT.out; omega) HQ2.out _) hK
    · obtain rfl := Option.some.inj ho
      refine ⟨rfl, fun a w' hS hold hin K hK => ?_⟩
      obtain ⟨y3, x3, rfl⟩ := hin 3 rfl (by omega) rfl
      refine if_always rfl ?_
      exact op_move (V := (· = .tuple #[.int .i64 q2, .int .i64 0])) _ _ rfl rfl (eval_tmp x3) rfl hK
    · obtain rfl := Option.some.inj ho
      refine ⟨rfl, fun a w' hS hold hin K hK => ?_⟩
      obtain ⟨y4, x4, rfl⟩ := hin 4 rfl (by omega) rfl
      refine if_always rfl ?_
      exact op_tup0 (V := (· = .int .i64 q2)) _ rfl rfl (eval_tmp x4) rfl hK
    · obtain rfl := Option.some.inj ho
      refine ⟨rfl, fun a w' hS hold hin K hK => ?_⟩
      obtain ⟨y4, x4, rfl⟩ := hin 4 rfl (by omega) rfl
      refine if_always rfl ?_
      exact op_tup1 (V := (· = .int .i64 0)) _ rfl rfl (eval_tmp x4) rfl hK
  · intro i o sz hi ho hA; cases hA
  clear hS
  intro t1 V6 hs hold hout hall hne hS
  replace HS := hs.trans HS
  replace hS := hS.1
  obtain ⟨x97, q97, v97⟩ : ∃ x, t1[97]? = some x ∧ ((· = .int .i64 q2)) x := hout 5 (by omega) rfl
  replace q97 : t1[97]? = some (.int .i64 q2) := q97.trans (congrArg some v97)
  obtain ⟨x98, q98, v98⟩ : ∃ x, t1[98]? = some x ∧ ((· = .int .i64 0)) x := hout 6 (by omega) rfl
  replace q98 : t1[98]? = some (.int .i64 0) := q98.trans (congrArg some v98)
  replace h1 := (hold 1 (slots_not (by kernel_rfl))).trans h1
  replace h2 := (hold 2 (slots_not (by kernel_rfl))).trans h2
  replace h3 := (hold 3 (slots_not (by kernel_rfl))).trans h3
  replace h7 := (hold 7 (slots_not (by kernel_rfl))).trans h7
  replace h8 := (hold 8 (slots_not (by kernel_rfl))).trans h8
  replace h9 := (hold 9 (slots_not (by kernel_rfl))).trans h9
  replace h10 := (hold 10 (slots_not (by kernel_rfl))).trans h10
  replace h11 := (hold 11 (slots_not (by kernel_rfl))).trans h11
  clear hold hout hs hall hne
  simp only [List.drop_succ_cons, List.drop_zero]
  refine tlx_assign (.tmp 97) rfl rfl 12 rfl (by rw [HS]; decide) (.int .i64 q2) (eval_tmp q97) fun t1 ex0 hz hq he => ?_
  replace h1 := (he 1 (by decide)).trans h1
  replace h2 := (he 2 (by decide)).trans h2
  replace h3 := (he 3 (by decide)).trans h3
  replace h7 := (he 7 (by decide)).trans h7
  replace h8 := (he 8 (by decide)).trans h8
  replace h9 := (he 9 (by decide)).trans h9
  replace h10 := (he 10 (by decide)).trans h10
  replace h11 := (he 11 (by decide)).trans h11
  replace q97 := (he 97 (by decide)).trans q97
  replace q98 := (he 98 (by decide)).trans q98
  replace HS := hz.trans HS
  clear hz he ex0
  have h12 := hq
  clear hq
  refine tlx_assign (.tmp 98) rfl rfl 13 rfl (by rw [HS]; decide) (.int .i64 0) (eval_tmp q98) fun t1 ex1 hz hq he => ?_
  replace h1 := (he 1 (by decide)).trans h1
  replace h2 := (he 2 (by decide)).trans h2
  replace h3 := (he 3 (by decide)).trans h3
  replace h7 := (he 7 (by decide)).trans h7
  replace h8 := (he 8 (by decide)).trans h8
  replace h9 := (he 9 (by decide)).trans h9
  replace h10 := (he 10 (by decide)).trans h10
  replace h11 := (he 11 (by decide)).trans h11
  replace h12 := (he 12 (by decide)).trans h12
  replace q97 := (he 97 (by decide)).trans q97
  replace q98 := (he 98 (by decide)).trans q98
  replace HS := hz.trans HS
  clear hz he ex1
  have h13 := hq
  clear hq
  refine wpList_nil ?_
  obtain ⟨f, e0, hf⟩ := wash HS
  have f1 := hf 1 _ h1
  have f2 := hf 2 _ h2
  have f3 := hf 3 _ h3
  have f7 := hf 7 _ h7
  have f8 := hf 8 _ h8
  have f9 := hf 9 _ h9
  have f10 := hf 10 _ h10
  have f11 := hf 11 _ h11
  have f12 := hf 12 _ h12
  have f13 := hf 13 _ h13
  clear hf
  rw [e0.trans (show _ = #[f 0, f 1, f 2, f 3, f 4, f 5, f 6, f 7, f 8, f 9, f 10, f 11, f 12, f 13, f 14, f 15, f 16, f 17, f 18, f 19, f 20, f 21, f 22, f 23, f 24, f 25, f 26, f 27, f 28, f 29, f 30, f 31, f 32, f 33, f 34, f 35, f 36, f 37, f 38, f 39, f 40, f 41, f 42, f 43, f 44, f 45, f 46, f 47, f 48, f 49, f 50, f 51, f 52, f 53, f 54, f 55, f 56, f 57, f 58, f 59, f 60, f 61, f 62, f 63, f 64, f 65, f 66, f 67, f 68, f 69, f 70, f 71, f 72, f 73, f 74, f 75, f 76, f 77, f 78, f 79, f 80, f 81, f 82, f 83, f 84, f 85, f 86, f 87, f 88, f 89, f 90, f 91, f 92, f 93, f 94, f 95, f 96, f 97, f 98, f 99, f 100, f 101, f 102, f 103, f 104, f 105] from by kernel_rfl), f1, f2, f3, f7, f8, f9, f10, f11, f12, f13]
  clear f1 f2 f3 f7 f8 f9 f10 f11 f12 f13
  clear e0
  try dsimp only
  clear h1 h2 h3 h7 h8 h9 h10 h11 h12 h13 q97 q98 v97 v98 hM HS t1 t0 M
  have hz1 : (q2 : Int) ≤ q := by have := HANTI.out; omega
  have hbel := hS.1
  clear hS
  go_wp2_with fail
  exact ⟨rfl, .bool true, by kernel_rfl, rfl, hbel⟩

/-- A good config's sizes are numbers of pages' worth. -/
theorem codecPages_walk (n0 n1 n2 n3 n4 n5 k n : Int) (w : World) : Calls Tryd.prog 7 #[.agg #[.int .i64 n0, .int .i64 n1, .int .i64 n2, .int .i64 n3, .int .i64 n4, .int .i64 n5], .int .i64 k, .int .i64 n] w (fun e w' => e = .returned (.bool true) ∧ Below w.heap.size w w') := by
  by_cases hg : good n0 n1 n2 n3 n4 n5 = true
  · by_cases hk1 : k = 1
    · by_cases hn : n < 0
      · exact codecPages_negt hg hk1 hn w
      · by_cases hm : n0 < n
        · exact codecPages_manyt hg hk1 hn hm w
        · have hgd := of_decide_eq_true hg
          obtain ⟨t, rfl⟩ := Int.eq_ofNat_of_zero_le (show 0 ≤ n3 by omega)
          obtain ⟨m, rfl⟩ := Int.eq_ofNat_of_zero_le (show 0 ≤ n by omega)
          obtain ⟨a, rfl⟩ := Int.eq_ofNat_of_zero_le (show 0 ≤ n1 by omega)
          have hms : ∀ t2 : Nat, (t : Int) ≤ t2 → t2 ≤ 4096 → msr n0 a n2 t2 n4 n5 k = (16 + (a : Int), 1 + (a : Int), ((26 + a : Nat) : Int), 0) := fun t2 h1 h2 => by
            have h3 : good n0 a n2 t2 n4 n5 = true := decide_eq_true (by omega)
            unfold msr
            rw [if_pos h3, if_pos hk1]
            rfl
          rcases Nat.eq_zero_or_pos m with hz | hz
          · exact codecPages_okt0 hg hk1 hms (by omega) (by omega) (by omega) (by omega) (by omega) (by omega) hz w
          · exact codecPages_oktp hg hk1 hms (by omega) (by omega) (by omega) (by omega) (by omega) (by omega) hz w
    · by_cases hk2 : k = 2
      · by_cases hn : n < 0
        · exact codecPages_negd hg hk2 hn w
        · by_cases hm : n0 < n
          · exact codecPages_manyd hg hk2 hn hm w
          · have hgd := of_decide_eq_true hg
            obtain ⟨t, rfl⟩ := Int.eq_ofNat_of_zero_le (show 0 ≤ n3 by omega)
            obtain ⟨m, rfl⟩ := Int.eq_ofNat_of_zero_le (show 0 ≤ n by omega)
            have hms : ∀ t2 : Nat, (t : Int) ≤ t2 → t2 ≤ 4096 → msr n0 n1 n2 t2 n4 n5 k = (92, 16, ((114 : Nat) : Int), 0) := fun t2 h1 h2 => by
              have h3 : good n0 n1 n2 t2 n4 n5 = true := decide_eq_true (by omega)
              unfold msr
              rw [if_pos h3, if_neg hk1, if_pos hk2]
              rfl
            rcases Nat.eq_zero_or_pos m with hz | hz
            · exact codecPages_okd0 hg hk2 hms (by omega) (by omega) (by omega) (by omega) (by omega) (by omega) hz w
            · exact codecPages_okdp hg hk2 hms (by omega) (by omega) (by omega) (by omega) (by omega) (by omega) hz w
      · exact codecPages_kind hg hk1 hk2 w
  · exact codecPages_bad hg w

end Go.Proofs.YtmochmpamgfboaaDoor
