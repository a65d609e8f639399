/- The small config's own sizes: trystlaw20's awake answers true. No condition. -/
import Derived.Test.YtmochmpamgfboabDoorPagD
namespace Go.Proofs.YtmochmpamgfboabDoor
open Go.RowKit
theorem op_make32 {o : Oper} {a : Act} {w : World} {Q : Exit → Act → World → Prop} {d : Nat} {K : Act → World → Prop} (ho : o.op = .makeSlice 28 (.const (.int .i64 32)) (.const (.int .i64 32))) (hd : o.dst = some d)
    (hK : ∀ x w', (∃ g, x = .slice (some g) 32 32) → Below w.heap.size w w' → K (a.put (some d) x) w') : o.wp Tryd.prog a w K Q := by
  obtain ⟨ie, hie, hsz⟩ := Option.map_eq_some_iff.1 (show (Tryd.prog.info? 5).map (fun i => (i.zero, i.size, i.bytes)) = some (some (.int .u8 0), 1, 1) by kernel_rfl)
  obtain ⟨hz, hs1, hb1⟩ : ie.zero = some (.int .u8 0) ∧ ie.size = 1 ∧ ie.bytes = 1 := by simpa using hsz
  have hr := run_make (P := Tryd.prog) w 28 5 ie (.int .u8 0) Tryd.underlying28 hie hz .i64 .i64 32 32 (by omega) (by omega) (by rw [hb1]; omega) (by omega)
  have h : o.wp Tryd.prog a w K Q ↔ K (a.put (some d) (.slice (some ⟨w.heap.size, 0, none⟩) 32 32)) (w.alloc (.cells (madeCells (Value.int .u8 0).cells (32 * ie.size)) 5)) := by
    unfold Oper.wp execOp
    rw [ho]
    show Oper.upon _ _ _ _ _ (((do let z ← Instr.makeSlice 28 (.int .i64 32) (.int .i64 32); pure (Next.value z)) : Sem Next).run Tryd.prog w) ↔ _
    rw [Sem.run_bind, hr, ← hd]
    rfl
  exact h.2 (hK _ _ ⟨_, rfl⟩ ((Below.refl _ _).alloc (Nat.le_refl _) _))
set_option maxHeartbeats 8000000 in
set_option maxRecDepth 100000 in
theorem awake_ev (w : World) : Calls Tryd.prog 8 #[] w (Gives (· = .bool true) w) := by
  have hS := Own.start w
  go_enter Tryd.func8, Tryd.ntmps8
  go_wp2_with ((with_reducible refine guard_list ?_); first | (refine held_fn _ _ _ rfl ?_))
  obtain ⟨M, hM⟩ : ∃ M, M = w.heap.size := ⟨_, rfl⟩
  refine hide_held fun t0 HT => ?_
  have HS : t0.size = 71 := by rw [HT]; rfl
  clear HT
  refine wp_list_most 5 (fun i => [10, 11, 9, 12, 13].getD i 0) (fun _ => none) (fun i => [(· = .agg #[.int .i64 4, .int .i64 32, .int .i64 3, .int .i64 114, .int .i64 2, .int .i64 1]), (· = .tuple #[.int .i64 48, .int .i64 0]), (· = .tuple #[.int .i64 48, .int .i64 0]), (· = .int .i64 48), (· = .int .i64 0)].getD i (fun _ => True)) (fun w' => Own w [] w' ∧ M ≤ w'.heap.size) M
    (by kernel_rfl) (slots_apart (by kernel_rfl)) (slots_lie (by rw [HS]; kernel_rfl)) ⟨hS, Nat.le_of_eq hM⟩ (fun w' h => h.2) (fun w1 w2 h b => ⟨h.1.keep b, Nat.le_trans h.2 b.size⟩) ?_ ?_ ?_
  · clear hS
    intro i o hi ho hA
    have hc : i = 0 ∨ i = 1 ∨ i = 2 ∨ i = 3 ∨ i = 4 := by omega
    rcases hc with rfl | rfl | rfl | rfl | rfl
    · obtain rfl := Option.some.inj ho
      refine ⟨rfl, fun a w' hS hold hin K hK => ?_⟩
      refine if_always rfl ?_
      exact op_fn0 _  _  rfl rfl  (by intro args w; kernel_rfl) (small_ev _) hK
    · obtain rfl := Option.some.inj ho
      refine ⟨rfl, fun a w' hS hold hin K hK => ?_⟩
      obtain ⟨y0, x0, rfl⟩ := hin 0 rfl (by omega) rfl
      refine if_always rfl ?_
      exact op_fn2 _ _ _ _ _ _ rfl rfl (eval_tmp x0) rfl (by intro args w; kernel_rfl) (RequestSize_ev (n0 := 4) (n1 := 32) (n2 := 3) (n3 := 114) (n4 := 2) (n5 := 1) (k := 1) (rq := 48) (rp := 33) (rc := 58) (er := 0) (by decide) _) hK
    · obtain rfl := Option.some.inj ho
      refine ⟨rfl, fun a w' hS hold hin K hK => ?_⟩
      obtain ⟨y1, x1, rfl⟩ := hin 1 rfl (by omega) rfl
      refine if_always rfl ?_
      exact op_move (V := (· = .tuple #[.int .i64 48, .int .i64 0])) _ _ rfl rfl (eval_tmp x1) rfl hK
    · obtain rfl := Option.some.inj ho
      refine ⟨rfl, fun a w' hS hold hin K hK => ?_⟩
      obtain ⟨y2, x2, rfl⟩ := hin 2 rfl (by omega) rfl
      refine if_always rfl ?_
      exact op_tup0 (V := (· = .int .i64 48)) _ rfl rfl (eval_tmp x2) rfl hK
    · obtain rfl := Option.some.inj ho
      refine ⟨rfl, fun a w' hS hold hin K hK => ?_⟩
      obtain ⟨y2, x2, rfl⟩ := hin 2 rfl (by omega) rfl
      refine if_always rfl ?_
      exact op_tup1 (V := (· = .int .i64 0)) _ rfl rfl (eval_tmp x2) rfl hK
  · intro i o sz hi ho hA; cases hA
  clear hS
  intro t1 V1 hs hold hout hall hne hS
  replace HS := hs.trans HS
  replace hS := hS.1
  obtain ⟨x12, q12, v12⟩ : ∃ x, t1[12]? = some x ∧ ((· = .int .i64 48)) x := hout 3 (by omega) rfl
  replace q12 : t1[12]? = some (.int .i64 48) := q12.trans (congrArg some v12)
  obtain ⟨x13, q13, v13⟩ : ∃ x, t1[13]? = some x ∧ ((· = .int .i64 0)) x := hout 4 (by omega) rfl
  replace q13 : t1[13]? = some (.int .i64 0) := q13.trans (congrArg some v13)
  clear hold hout hs hall hne
  simp only [List.drop_succ_cons, List.drop_zero]
  refine tlx_assign (.tmp 12) rfl rfl 1 rfl (by rw [HS]; decide) (.int .i64 48) (eval_tmp q12) fun t1 ex0 hz hq he => ?_
  replace q12 := (he 12 (by decide)).trans q12
  replace q13 := (he 13 (by decide)).trans q13
  replace HS := hz.trans HS
  clear hz he ex0
  have h1 := hq
  clear hq
  refine tlx_assign (.tmp 13) rfl rfl 2 rfl (by rw [HS]; decide) (.int .i64 0) (eval_tmp q13) fun t1 ex1 hz hq he => ?_
  replace h1 := (he 1 (by decide)).trans h1
  replace q12 := (he 12 (by decide)).trans q12
  replace q13 := (he 13 (by decide)).trans q13
  replace HS := hz.trans HS
  clear hz he ex1
  have h2 := hq
  clear hq
  refine wpList_nil ?_
  obtain ⟨f, e0, hf⟩ := wash HS
  have f1 := hf 1 _ h1
  have f2 := hf 2 _ h2
  clear hf
  rw [e0.trans (show _ = #[f 0, f 1, f 2, f 3, f 4, f 5, f 6, f 7, f 8, f 9, f 10, f 11, f 12, f 13, f 14, f 15, f 16, f 17, f 18, f 19, f 20, f 21, f 22, f 23, f 24, f 25, f 26, f 27, f 28, f 29, f 30, f 31, f 32, f 33, f 34, f 35, f 36, f 37, f 38, f 39, f 40, f 41, f 42, f 43, f 44, f 45, f 46, f 47, f 48, f 49, f 50, f 51, f 52, f 53, f 54, f 55, f 56, f 57, f 58, f 59, f 60, f 61, f 62, f 63, f 64, f 65, f 66, f 67, f 68, f 69, f 70] from by kernel_rfl), f1, f2]
  clear f1 f2
  clear e0
  try dsimp only
  clear h1 h2 q12 q13 v12 v13 hM HS t1 t0 M
  go_wp2_with ((with_reducible refine guard_list ?_); first | (refine held_fn _ _ _ rfl ?_))
  obtain ⟨M, hM⟩ : ∃ M, M = V1.heap.size := ⟨_, rfl⟩
  refine hide_held fun t0 HT => ?_
  have HS : t0.size = 71 := by rw [HT]; rfl
  have h1 : t0[1]? = some (.int .i64 48) := by rw [HT]; rfl
  have h2 : t0[2]? = some (.int .i64 0) := by rw [HT]; rfl
  clear HT
  refine wp_list_most 5 (fun i => [15, 16, 14, 17, 18].getD i 0) (fun _ => none) (fun i => [(· = .agg #[.int .i64 4, .int .i64 32, .int .i64 3, .int .i64 114, .int .i64 2, .int .i64 1]), (· = .tuple #[.int .i64 16, .int .i64 0]), (· = .tuple #[.int .i64 16, .int .i64 0]), (· = .int .i64 16), (· = .int .i64 0)].getD i (fun _ => True)) (fun w' => Own w [] w' ∧ M ≤ w'.heap.size) M
    (by kernel_rfl) (slots_apart (by kernel_rfl)) (slots_lie (by rw [HS]; kernel_rfl)) ⟨hS, Nat.le_of_eq hM⟩ (fun w' h => h.2) (fun w1 w2 h b => ⟨h.1.keep b, Nat.le_trans h.2 b.size⟩) ?_ ?_ ?_
  · clear hS
    intro i o hi ho hA
    have hc : i = 0 ∨ i = 1 ∨ i = 2 ∨ i = 3 ∨ i = 4 := by omega
    rcases hc with rfl | rfl | rfl | rfl | rfl
    · obtain rfl := Option.some.inj ho
      refine ⟨rfl, fun a w' hS hold hin K hK => ?_⟩
      refine if_always rfl ?_
      exact op_fn0 _  _  rfl rfl  (by intro args w; kernel_rfl) (small_ev _) hK
    · obtain rfl := Option.some.inj ho
      refine ⟨rfl, fun a w' hS hold hin K hK => ?_⟩
      obtain ⟨y0, x0, rfl⟩ := hin 0 rfl (by omega) rfl
      refine if_always rfl ?_
      exact op_fn2 _ _ _ _ _ _ rfl rfl (eval_tmp x0) rfl (by intro args w; kernel_rfl) (ReplySize_ev (n0 := 4) (n1 := 32) (n2 := 3) (n3 := 114) (n4 := 2) (n5 := 1) (k := 2) (rq := 92) (rp := 16) (rc := 114) (er := 0) (by decide) _) hK
    · obtain rfl := Option.some.inj ho
      refine ⟨rfl, fun a w' hS hold hin K hK => ?_⟩
      obtain ⟨y1, x1, rfl⟩ := hin 1 rfl (by omega) rfl
      refine if_always rfl ?_
      exact op_move (V := (· = .tuple #[.int .i64 16, .int .i64 0])) _ _ rfl rfl (eval_tmp x1) rfl hK
    · obtain rfl := Option.some.inj ho
      refine ⟨rfl, fun a w' hS hold hin K hK => ?_⟩
      obtain ⟨y2, x2, rfl⟩ := hin 2 rfl (by omega) rfl
      refine if_always rfl ?_
      exact op_tup0 (V := (· = .int .i64 16)) _ rfl rfl (eval_tmp x2) rfl hK
    · obtain rfl := Option.some.inj ho
      refine ⟨rfl, fun a w' hS hold hin K hK => ?_⟩
      obtain ⟨y2, x2, rfl⟩ := hin 2 rfl (by omega) rfl
      refine if_always rfl ?_
      exact op_tup1 (V := (· = .int .i64 0)) _ rfl rfl (eval_tmp x2) rfl hK
  · intro i o sz hi ho hA; cases hA
  clear hS
  intro t1 V2 hs hold hout hall hne hS
  replace HS := hs.trans HS
  replace hS := hS.1
  obtain ⟨x17, q17, v17⟩ : ∃ x, t1[17]? = some x ∧ ((· = .int .i64 16)) x := hout 3 (by omega) rfl
  replace q17 : t1[17]? = some (.int .i64 16) := q17.trans (congrArg some v17)
  obtain ⟨x18, q18, v18⟩ : ∃ x, t1[18]? = some x ∧ ((· = .int .i64 0)) x := hout 4 (by omega) rfl
  replace q18 : t1[18]? = some (.int .i64 0) := q18.trans (congrArg some v18)
  replace h1 := (hold 1 (slots_not (by kernel_rfl))).trans h1
  replace h2 := (hold 2 (slots_not (by kernel_rfl))).trans h2
  clear hold hout hs hall hne
  simp only [List.drop_succ_cons, List.drop_zero]
  refine tlx_assign (.tmp 17) rfl rfl 3 rfl (by rw [HS]; decide) (.int .i64 16) (eval_tmp q17) fun t1 ex0 hz hq he => ?_
  replace h1 := (he 1 (by decide)).trans h1
  replace h2 := (he 2 (by decide)).trans h2
  replace q17 := (he 17 (by decide)).trans q17
  replace q18 := (he 18 (by decide)).trans q18
  replace HS := hz.trans HS
  clear hz he ex0
  have h3 := hq
  clear hq
  refine tlx_assign (.tmp 18) rfl rfl 4 rfl (by rw [HS]; decide) (.int .i64 0) (eval_tmp q18) fun t1 ex1 hz hq he => ?_
  replace h1 := (he 1 (by decide)).trans h1
  replace h2 := (he 2 (by decide)).trans h2
  replace h3 := (he 3 (by decide)).trans h3
  replace q17 := (he 17 (by decide)).trans q17
  replace q18 := (he 18 (by decide)).trans q18
  replace HS := hz.trans HS
  clear hz he ex1
  have h4 := hq
  clear hq
  refine wpList_nil ?_
  obtain ⟨f, e0, hf⟩ := wash HS
  have f1 := hf 1 _ h1
  have f2 := hf 2 _ h2
  have f3 := hf 3 _ h3
  have f4 := hf 4 _ h4
  clear hf
  rw [e0.trans (show _ = #[f 0, f 1, f 2, f 3, f 4, f 5, f 6, f 7, f 8, f 9, f 10, f 11, f 12, f 13, f 14, f 15, f 16, f 17, f 18, f 19, f 20, f 21, f 22, f 23, f 24, f 25, f 26, f 27, f 28, f 29, f 30, f 31, f 32, f 33, f 34, f 35, f 36, f 37, f 38, f 39, f 40, f 41, f 42, f 43, f 44, f 45, f 46, f 47, f 48, f 49, f 50, f 51, f 52, f 53, f 54, f 55, f 56, f 57, f 58, f 59, f 60, f 61, f 62, f 63, f 64, f 65, f 66, f 67, f 68, f 69, f 70] from by kernel_rfl), f1, f2, f3, f4]
  clear f1 f2 f3 f4
  clear e0
  try dsimp only
  clear h1 h2 h3 h4 q17 q18 v17 v18 hM HS t1 t0 M
  go_wp2_with ((with_reducible refine guard_list ?_); first | (refine held_fn _ _ _ rfl ?_))
  obtain ⟨M, hM⟩ : ∃ M, M = V2.heap.size := ⟨_, rfl⟩
  refine hide_held fun t0 HT => ?_
  have HS : t0.size = 71 := by rw [HT]; rfl
  have h1 : t0[1]? = some (.int .i64 48) := by rw [HT]; rfl
  have h2 : t0[2]? = some (.int .i64 0) := by rw [HT]; rfl
  have h3 : t0[3]? = some (.int .i64 16) := by rw [HT]; rfl
  have h4 : t0[4]? = some (.int .i64 0) := by rw [HT]; rfl
  clear HT
  refine wp_list_most 5 (fun i => [20, 21, 19, 22, 23].getD i 0) (fun _ => none) (fun i => [(· = .agg #[.int .i64 4, .int .i64 32, .int .i64 3, .int .i64 114, .int .i64 2, .int .i64 1]), (· = .tuple #[.int .i64 6, .int .i64 0]), (· = .tuple #[.int .i64 6, .int .i64 0]), (· = .int .i64 6), (· = .int .i64 0)].getD i (fun _ => True)) (fun w' => Own w [] w' ∧ M ≤ w'.heap.size) M
    (by kernel_rfl) (slots_apart (by kernel_rfl)) (slots_lie (by rw [HS]; kernel_rfl)) ⟨hS, Nat.le_of_eq hM⟩ (fun w' h => h.2) (fun w1 w2 h b => ⟨h.1.keep b, Nat.le_trans h.2 b.size⟩) ?_ ?_ ?_
  · clear hS
    intro i o hi ho hA
    have hc : i = 0 ∨ i = 1 ∨ i = 2 ∨ i = 3 ∨ i = 4 := by omega
    rcases hc with rfl | rfl | rfl | rfl | rfl
    · obtain rfl := Option.some.inj ho
      refine ⟨rfl, fun a w' hS hold hin K hK => ?_⟩
      refine if_always rfl ?_
      exact op_fn0 _  _  rfl rfl  (by intro args w; kernel_rfl) (small_ev _) hK
    · obtain rfl := Option.some.inj ho
      refine ⟨rfl, fun a w' hS hold hin K hK => ?_⟩
      obtain ⟨y0, x0, rfl⟩ := hin 0 rfl (by omega) rfl
      refine if_always rfl ?_
      exact op_fn3 _ _ _ _ _ _ _ _ rfl rfl (eval_tmp x0) rfl rfl (by intro args w; kernel_rfl) (pages_ok (n0 := 4) (n1 := 32) (n2 := 3) (n4 := 2) (n5 := 1) (k := 2) (rq := 92) (rp := 16) (t := 114) (rc := 114) (n := 4) (pd := 4) (p1 := 1) (p2 := 3) (q1 := 4) (q2 := 2) (by decide) (by decide) (by decide) (by decide) (by decide) (by decide) (by decide) (by decide +kernel) (by decide) (by decide) (by decide) (by decide) _) hK
    · obtain rfl := Option.some.inj ho
      refine ⟨rfl, fun a w' hS hold hin K hK => ?_⟩
      obtain ⟨y1, x1, rfl⟩ := hin 1 rfl (by omega) rfl
      refine if_always rfl ?_
      exact op_move (V := (· = .tuple #[.int .i64 6, .int .i64 0])) _ _ rfl rfl (eval_tmp x1) rfl hK
    · obtain rfl := Option.some.inj ho
      refine ⟨rfl, fun a w' hS hold hin K hK => ?_⟩
      obtain ⟨y2, x2, rfl⟩ := hin 2 rfl (by omega) rfl
      refine if_always rfl ?_
      exact op_tup0 (V := (· = .int .i64 6)) _ rfl rfl (eval_tmp x2) rfl hK
    · obtain rfl := Option.some.inj ho
      refine ⟨rfl, fun a w' hS hold hin K hK => ?_⟩
      obtain ⟨y2, x2, rfl⟩ := hin 2 rfl (by omega) rfl
      refine if_always rfl ?_
      exact op_tup1 (V := (· = .int .i64 0)) _ rfl rfl (eval_tmp x2) rfl hK
  · intro i o sz hi ho hA; cases hA
  clear hS
  intro t1 V3 hs hold hout hall hne hS
  replace HS := hs.trans HS
  replace hS := hS.1
  obtain ⟨x22, q22, v22⟩ : ∃ x, t1[22]? = some x ∧ ((· = .int .i64 6)) x := hout 3 (by omega) rfl
  replace q22 : t1[22]? = some (.int .i64 6) := q22.trans (congrArg some v22)
  obtain ⟨x23, q23, v23⟩ : ∃ x, t1[23]? = some x ∧ ((· = .int .i64 0)) x := hout 4 (by omega) rfl
  replace q23 : t1[23]? = some (.int .i64 0) := q23.trans (congrArg some v23)
  replace h1 := (hold 1 (slots_not (by kernel_rfl))).trans h1
  replace h2 := (hold 2 (slots_not (by kernel_rfl))).trans h2
  replace h3 := (hold 3 (slots_not (by kernel_rfl))).trans h3
  replace h4 := (hold 4 (slots_not (by kernel_rfl))).trans h4
  clear hold hout hs hall hne
  simp only [List.drop_succ_cons, List.drop_zero]
  refine tlx_assign (.tmp 22) rfl rfl 5 rfl (by rw [HS]; decide) (.int .i64 6) (eval_tmp q22) fun t1 ex0 hz hq he => ?_
  replace h1 := (he 1 (by decide)).trans h1
  replace h2 := (he 2 (by decide)).trans h2
  replace h3 := (he 3 (by decide)).trans h3
  replace h4 := (he 4 (by decide)).trans h4
  replace q22 := (he 22 (by decide)).trans q22
  replace q23 := (he 23 (by decide)).trans q23
  replace HS := hz.trans HS
  clear hz he ex0
  have h5 := hq
  clear hq
  refine tlx_assign (.tmp 23) rfl rfl 6 rfl (by rw [HS]; decide) (.int .i64 0) (eval_tmp q23) fun t1 ex1 hz hq he => ?_
  replace h1 := (he 1 (by decide)).trans h1
  replace h2 := (he 2 (by decide)).trans h2
  replace h3 := (he 3 (by decide)).trans h3
  replace h4 := (he 4 (by decide)).trans h4
  replace h5 := (he 5 (by decide)).trans h5
  replace q22 := (he 22 (by decide)).trans q22
  replace q23 := (he 23 (by decide)).trans q23
  replace HS := hz.trans HS
  clear hz he ex1
  have h6 := hq
  clear hq
  refine wpList_nil ?_
  obtain ⟨f, e0, hf⟩ := wash HS
  have f1 := hf 1 _ h1
  have f2 := hf 2 _ h2
  have f3 := hf 3 _ h3
  have f4 := hf 4 _ h4
  have f5 := hf 5 _ h5
  have f6 := hf 6 _ h6
  clear hf
  rw [e0.trans (show _ = #[f 0, f 1, f 2, f 3, f 4, f 5, f 6, f 7, f 8, f 9, f 10, f 11, f 12, f 13, f 14, f 15, f 16, f 17, f 18, f 19, f 20, f 21, f 22, f 23, f 24, f 25, f 26, f 27, f 28, f 29, f 30, f 31, f 32, f 33, f 34, f 35, f 36, f 37, f 38, f 39, f 40, f 41, f 42, f 43, f 44, f 45, f 46, f 47, f 48, f 49, f 50, f 51, f 52, f 53, f 54, f 55, f 56, f 57, f 58, f 59, f 60, f 61, f 62, f 63, f 64, f 65, f 66, f 67, f 68, f 69, f 70] from by kernel_rfl), f1, f2, f3, f4, f5, f6]
  clear f1 f2 f3 f4 f5 f6
  clear e0
  try dsimp only
  clear h1 h2 h3 h4 h5 h6 q22 q23 v22 v23 hM HS t1 t0 M
  go_wp2_with fail
  obtain ⟨M, hM⟩ : ∃ M, M = V3.heap.size := ⟨_, rfl⟩
  refine hide_frame fun t0 HT => ?_
  have HS : t0.size = 71 := by rw [HT]; rfl
  have h1 : t0[1]? = some (.int .i64 48) := by rw [HT]; rfl
  have h2 : t0[2]? = some (.int .i64 0) := by rw [HT]; rfl
  have h3 : t0[3]? = some (.int .i64 16) := by rw [HT]; rfl
  have h4 : t0[4]? = some (.int .i64 0) := by rw [HT]; rfl
  have h5 : t0[5]? = some (.int .i64 6) := by rw [HT]; rfl
  have h6 : t0[6]? = some (.int .i64 0) := by rw [HT]; rfl
  clear HT
  refine wp_region_all 7 (fun i => [25, 26, 27, 24, 28, 29, 7, 8].getD i 0) (fun i => [(· = .agg #[.int .i64 4, .int .i64 32, .int .i64 3, .int .i64 114, .int .i64 2, .int .i64 1]), (fun v : Value => ∃ g : Addr, v = .slice (some g) 32 32), (fun v : Value => ∃ q : Option Addr, v = .tuple #[.slice q 33 33, .int .i64 0]), (fun v : Value => ∃ q : Option Addr, v = .tuple #[.slice q 33 33, .int .i64 0]), (fun v : Value => ∃ q : Option Addr, v = .slice q 33 33), (· = .int .i64 0), (fun v : Value => ∃ q : Option Addr, v = .slice q 33 33), (· = .int .i64 0)].getD i (fun _ => True)) (fun w' => Own w [] w' ∧ M ≤ w'.heap.size)
    (by kernel_rfl) (by kernel_rfl) (by kernel_rfl) (slots_apart (by kernel_rfl)) (slots_lie (by rw [HS]; kernel_rfl)) ⟨hS.drew, Nat.le_of_eq hM⟩ (fun w1 w2 h b => ⟨h.1.keep b, Nat.le_trans h.2 b.size⟩) ?_ ?_
  · clear hS
    intro i o hi ho
    have hc : i = 0 ∨ i = 1 ∨ i = 2 ∨ i = 3 ∨ i = 4 ∨ i = 5 ∨ i = 6 ∨ i = 7 := by omega
    rcases hc with rfl | rfl | rfl | rfl | rfl | rfl | rfl | rfl
    · obtain rfl := Option.some.inj ho
      refine ⟨rfl, fun a w' hS hold hin K hK => ?_⟩
      refine if_always rfl ?_
      exact op_fn0 _  _  rfl rfl  (by intro args w; kernel_rfl) (small_ev _) hK
    · obtain rfl := Option.some.inj ho
      refine ⟨rfl, fun a w' hS hold hin K hK => ?_⟩
      refine if_always rfl ?_
      exact op_make32 rfl rfl hK
    · obtain rfl := Option.some.inj ho
      refine ⟨rfl, fun a w' hS hold hin K hK => ?_⟩
      obtain ⟨y0, x0, rfl⟩ := hin 0 rfl (by omega)
      obtain ⟨y1, x1, (v1 : (fun v : Value => ∃ g : Addr, v = .slice (some g) 32 32) y1)⟩ := hin 1 rfl (by omega)
      refine if_always rfl ?_
      exact op_fn3 _ _ _ _ _ _ _ _ rfl rfl (eval_tmp x0) rfl (eval_tmp x1) (by intro args w; kernel_rfl) (by obtain ⟨gg, rfl⟩ := v1; exact talkReply_none (n0 := 4) (n1 := 32) (n2 := 3) (n3 := 114) (n4 := 2) (n5 := 1) (by decide) _ 32 _ rfl _) hK
    · obtain rfl := Option.some.inj ho
      refine ⟨rfl, fun a w' hS hold hin K hK => ?_⟩
      obtain ⟨y2, x2, (v2 : (fun v : Value => ∃ q : Option Addr, v = .tuple #[.slice q 33 33, .int .i64 0]) y2)⟩ := hin 2 rfl (by omega)
      refine if_always rfl ?_
      exact op_move (V := (fun v : Value => ∃ q : Option Addr, v = .tuple #[.slice q 33 33, .int .i64 0])) _ _ rfl rfl (eval_tmp x2) v2 hK
    · obtain rfl := Option.some.inj ho
      refine ⟨rfl, fun a w' hS hold hin K hK => ?_⟩
      obtain ⟨y3, x3, (v3 : (fun v : Value => ∃ q : Option Addr, v = .tuple #[.slice q 33 33, .int .i64 0]) y3)⟩ := hin 3 rfl (by omega)
      refine if_always rfl ?_
      obtain ⟨qq, hq⟩ := v3
      exact op_tup0 (V := (fun v : Value => ∃ q : Option Addr, v = .slice q 33 33)) _ rfl rfl ((eval_tmp x3).trans hq) ⟨qq, rfl⟩ hK
    · obtain rfl := Option.some.inj ho
      refine ⟨rfl, fun a w' hS hold hin K hK => ?_⟩
      obtain ⟨y3, x3, (v3 : (fun v : Value => ∃ q : Option Addr, v = .tuple #[.slice q 33 33, .int .i64 0]) y3)⟩ := hin 3 rfl (by omega)
      refine if_always rfl ?_
      obtain ⟨qq, hq⟩ := v3
      exact op_tup1 (V := (· = .int .i64 0)) _ rfl rfl ((eval_tmp x3).trans hq) rfl hK
    · obtain rfl := Option.some.inj ho
      refine ⟨rfl, fun a w' hS hold hin K hK => ?_⟩
      obtain ⟨y4, x4, (v4 : (fun v : Value => ∃ q : Option Addr, v = .slice q 33 33) y4)⟩ := hin 4 rfl (by omega)
      refine if_always rfl ?_
      exact op_assign (V := (fun v : Value => ∃ q : Option Addr, v = .slice q 33 33)) _ _ rfl rfl (eval_tmp x4) v4 hK
    · obtain rfl := Option.some.inj ho
      refine ⟨rfl, fun a w' hS hold hin K hK => ?_⟩
      obtain ⟨y5, x5, rfl⟩ := hin 5 rfl (by omega)
      refine if_always rfl ?_
      exact op_assign (V := (· = .int .i64 0)) _ _ rfl rfl (eval_tmp x5) rfl hK
  clear hS
  intro t1 V4 hs hold hout hS
  replace HS := hs.trans HS
  replace hS := hS.1
  obtain ⟨x7, q7, v7⟩ : ∃ x, t1[7]? = some x ∧ ((fun v : Value => ∃ q : Option Addr, v = .slice q 33 33)) x := hout 6 (by omega)
  obtain ⟨qs, rfl⟩ := v7
  obtain ⟨_, q8, rfl⟩ : ∃ x, t1[8]? = some x ∧ x = (.int .i64 0 : Value) := hout 7 (by omega)
  replace h1 := (hold 1 (slots_not (by kernel_rfl))).trans h1
  replace h2 := (hold 2 (slots_not (by kernel_rfl))).trans h2
  replace h3 := (hold 3 (slots_not (by kernel_rfl))).trans h3
  replace h4 := (hold 4 (slots_not (by kernel_rfl))).trans h4
  replace h5 := (hold 5 (slots_not (by kernel_rfl))).trans h5
  replace h6 := (hold 6 (slots_not (by kernel_rfl))).trans h6
  clear hold hout hs
  obtain ⟨f, e0, hf⟩ := wash HS
  have f1 := hf 1 _ h1
  have f2 := hf 2 _ h2
  have f3 := hf 3 _ h3
  have f4 := hf 4 _ h4
  have f5 := hf 5 _ h5
  have f6 := hf 6 _ h6
  have f7 := hf 7 _ q7
  have f8 := hf 8 _ q8
  clear hf
  rw [e0.trans (show _ = #[f 0, f 1, f 2, f 3, f 4, f 5, f 6, f 7, f 8, f 9, f 10, f 11, f 12, f 13, f 14, f 15, f 16, f 17, f 18, f 19, f 20, f 21, f 22, f 23, f 24, f 25, f 26, f 27, f 28, f 29, f 30, f 31, f 32, f 33, f 34, f 35, f 36, f 37, f 38, f 39, f 40, f 41, f 42, f 43, f 44, f 45, f 46, f 47, f 48, f 49, f 50, f 51, f 52, f 53, f 54, f 55, f 56, f 57, f 58, f 59, f 60, f 61, f 62, f 63, f 64, f 65, f 66, f 67, f 68, f 69, f 70] from by kernel_rfl), f1, f2, f3, f4, f5, f6, f7, f8]
  clear f1 f2 f3 f4 f5 f6 f7 f8
  clear e0
  try dsimp only
  clear h1 h2 h3 h4 h5 h6 q7 q8 hM HS t1 t0 M
  go_wp2_with ((with_reducible refine guard_list ?_); first | (refine held_fn _ _ _ rfl ?_))
  obtain ⟨M, hM⟩ : ∃ M, M = V4.heap.size := ⟨_, rfl⟩
  refine hide_held fun t0 HT => ?_
  have HS : t0.size = 71 := by rw [HT]; rfl
  have h1 : t0[1]? = some (.int .i64 48) := by rw [HT]; rfl
  have h2 : t0[2]? = some (.int .i64 0) := by rw [HT]; rfl
  have h3 : t0[3]? = some (.int .i64 16) := by rw [HT]; rfl
  have h4 : t0[4]? = some (.int .i64 0) := by rw [HT]; rfl
  have h5 : t0[5]? = some (.int .i64 6) := by rw [HT]; rfl
  have h6 : t0[6]? = some (.int .i64 0) := by rw [HT]; rfl
  have h7 : t0[7]? = some (.slice qs 33 33) := by rw [HT]; rfl
  have h8 : t0[8]? = some (.int .i64 0) := by rw [HT]; rfl
  clear HT
  refine wp_list_most 41 (fun i => [30, 31, 32, 33, 34, 35, 36, 37, 38, 39, 40, 41, 42, 43, 44, 45, 46, 47, 48, 49, 50, 51, 52, 53, 54, 55, 56, 57, 58, 59, 60, 61, 62, 63, 64, 65, 66, 67, 68, 69, 70].getD i 0) (fun _ => none) (fun i => [(· = .agg #[.int .i64 4, .int .i64 32, .int .i64 3, .int .i64 114, .int .i64 2, .int .i64 1]), (· = .int .i64 0), (· = .bool true), (· = .bool true), (· = .agg #[.int .i64 0, .int .i64 0, .int .i64 0, .int .i64 0, .int .i64 0, .int .i64 0]), (· = .int .i64 200), (· = .bool true), (· = .bool true), (· = .bool true), (· = .int .i64 48), (· = .bool true), (· = .bool true), (· = .bool true), (· = .int .i64 0), (· = .bool true), (· = .bool true), (· = .bool true), (· = .int .i64 16), (· = .bool true), (· = .bool true), (· = .bool true), (· = .int .i64 0), (· = .bool true), (· = .bool true), (· = .bool true), (· = .int .i64 6), (· = .bool true), (· = .bool true), (· = .bool true), (· = .int .i64 0), (· = .bool true), (· = .bool true), (· = .bool true), (· = .slice qs 33 33), (· = .int .i64 33), (· = .bool true), (· = .bool true), (· = .bool true), (· = .int .i64 0), (· = .bool true), (· = .bool true)].getD i (fun _ => True)) (fun w' => Own w [] w' ∧ M ≤ w'.heap.size) M
    (by kernel_rfl) (slots_apart (by kernel_rfl)) (slots_lie (by rw [HS]; kernel_rfl)) ⟨hS, Nat.le_of_eq hM⟩ (fun w' h => h.2) (fun w1 w2 h b => ⟨h.1.keep b, Nat.le_trans h.2 b.size⟩) ?_ ?_ ?_
  · clear hS
    intro i o hi ho hA
    have hc : i = 0 ∨ i = 1 ∨ i = 2 ∨ i = 3 ∨ i = 4 ∨ i = 5 ∨ i = 6 ∨ i = 7 ∨ i = 8 ∨ i = 9 ∨ i = 10 ∨ i = 11 ∨ i = 12 ∨ i = 13 ∨ i = 14 ∨ i = 15 ∨ i = 16 ∨ i = 17 ∨ i = 18 ∨ i = 19 ∨ i = 20 ∨ i = 21 ∨ i = 22 ∨ i = 23 ∨ i = 24 ∨ i = 25 ∨ i = 26 ∨ i = 27 ∨ i = 28 ∨ i = 29 ∨ i = 30 ∨ i = 31 ∨ i = 32 ∨ i = 33 ∨ i = 34 ∨ i = 35 ∨ i = 36 ∨ i = 37 ∨ i = 38 ∨ i = 39 ∨ i = 40 := by omega
    rcases hc with rfl | rfl | rfl | rfl | rfl | rfl | rfl | rfl | rfl | rfl | rfl | rfl | rfl | rfl | rfl | rfl | rfl | rfl | rfl | rfl | rfl | rfl | rfl | rfl | rfl | rfl | rfl | rfl | rfl | rfl | rfl | rfl | rfl | rfl | rfl | rfl | rfl | rfl | rfl | rfl | rfl
    · obtain rfl := Option.some.inj ho
      refine ⟨rfl, fun a w' hS hold hin K hK => ?_⟩
      refine if_always rfl ?_
      exact op_fn0 _  _  rfl rfl  (by intro args w; kernel_rfl) (small_ev _) hK
    · obtain rfl := Option.some.inj ho
      refine ⟨rfl, fun a w' hS hold hin K hK => ?_⟩
      obtain ⟨y0, x0, rfl⟩ := hin 0 rfl (by omega) rfl
      refine if_always rfl ?_
      exact op_fn1 _ _ _ _ rfl rfl (eval_tmp x0) (by intro args w; kernel_rfl) (chk_yes (n0 := 4) (n1 := 32) (n2 := 3) (n3 := 114) (n4 := 2) (n5 := 1) (by decide) _) hK
    · obtain rfl := Option.some.inj ho
      refine ⟨rfl, fun a w' hS hold hin K hK => ?_⟩
      obtain ⟨y1, x1, rfl⟩ := hin 1 rfl (by omega) rfl
      refine if_always rfl ?_
      exact op_bin (V := (· = .bool true)) _ _ _ _ _ _ _ (.bool true) rfl rfl (eval_tmp x1) rfl (fun w => by kernel_rfl) rfl hK
    · obtain rfl := Option.some.inj ho
      refine ⟨rfl, fun a w' hS hold hin K hK => ?_⟩
      obtain ⟨y2, x2, rfl⟩ := hin 2 rfl (by omega) rfl
      refine if_always rfl ?_
      exact op_move (V := (· = .bool true)) _ _ rfl rfl (eval_tmp x2) rfl hK
    · obtain rfl := Option.some.inj ho
      refine ⟨rfl, fun a w' hS hold hin K hK => ?_⟩
      obtain ⟨y3, x3, rfl⟩ := hin 3 rfl (by omega) rfl
      refine if_guard (d := 33) rfl rfl x3 ?_
      exact op_val (V := (· = .agg #[.int .i64 0, .int .i64 0, .int .i64 0, .int .i64 0, .int .i64 0, .int .i64 0])) (.agg #[.int .i64 0, .int .i64 0, .int .i64 0, .int .i64 0, .int .i64 0, .int .i64 0]) rfl (by kernel_rfl) rfl hK
    · obtain rfl := Option.some.inj ho
      refine ⟨rfl, fun a w' hS hold hin K hK => ?_⟩
      obtain ⟨y3, x3, rfl⟩ := hin 3 rfl (by omega) rfl
      obtain ⟨y4, x4, rfl⟩ := hin 4 rfl (by omega) rfl
      refine if_guard (d := 33) rfl rfl x3 ?_
      exact op_fn1 _ _ _ _ rfl rfl (eval_tmp x4) (by intro args w; kernel_rfl) (chk_no (n0 := 0) (n1 := 0) (n2 := 0) (n3 := 0) (n4 := 0) (n5 := 0) (by decide) _) hK
    · obtain rfl := Option.some.inj ho
      refine ⟨rfl, fun a w' hS hold hin K hK => ?_⟩
      obtain ⟨y3, x3, rfl⟩ := hin 3 rfl (by omega) rfl
      obtain ⟨y5, x5, rfl⟩ := hin 5 rfl (by omega) rfl
      refine if_guard (d := 33) rfl rfl x3 ?_
      exact op_bin (V := (· = .bool true)) _ _ _ _ _ _ _ (.bool true) rfl rfl (eval_tmp x5) rfl (fun w => by kernel_rfl) rfl hK
    · obtain rfl := Option.some.inj ho
      refine ⟨rfl, fun a w' hS hold hin K hK => ?_⟩
      obtain ⟨y3, x3, rfl⟩ := hin 3 rfl (by omega) rfl
      obtain ⟨y6, x6, rfl⟩ := hin 6 rfl (by omega) rfl
      refine if_always rfl ?_
      exact op_pick (V := (· = .bool true)) _ _ _ true _ rfl rfl (eval_tmp x3) (show (Act.eval a _) = _ from (eval_tmp x6)) rfl hK
    · obtain rfl := Option.some.inj ho
      refine ⟨rfl, fun a w' hS hold hin K hK => ?_⟩
      obtain ⟨y7, x7, rfl⟩ := hin 7 rfl (by omega) rfl
      refine if_always rfl ?_
      exact op_move (V := (· = .bool true)) _ _ rfl rfl (eval_tmp x7) rfl hK
    · obtain rfl := Option.some.inj ho
      refine ⟨rfl, fun a w' hS hold hin K hK => ?_⟩
      obtain ⟨y8, x8, rfl⟩ := hin 8 rfl (by omega) rfl
      refine if_guard (d := 38) rfl rfl x8 ?_
      exact op_move (V := (· = .int .i64 48)) _ _ rfl rfl (eval_tmp ((hold 1 (slots_not (by kernel_rfl))).trans h1)) rfl hK
    · obtain rfl := Option.some.inj ho
      refine ⟨rfl, fun a w' hS hold hin K hK => ?_⟩
      obtain ⟨y8, x8, rfl⟩ := hin 8 rfl (by omega) rfl
      obtain ⟨y9, x9, rfl⟩ := hin 9 rfl (by omega) rfl
      refine if_guard (d := 38) rfl rfl x8 ?_
      exact op_bin (V := (· = .bool true)) _ _ _ _ _ _ _ (.bool true) rfl rfl (eval_tmp x9) rfl (fun w => by kernel_rfl) rfl hK
    · obtain rfl := Option.some.inj ho
      refine ⟨rfl, fun a w' hS hold hin K hK => ?_⟩
      obtain ⟨y8, x8, rfl⟩ := hin 8 rfl (by omega) rfl
      obtain ⟨y10, x10, rfl⟩ := hin 10 rfl (by omega) rfl
      refine if_always rfl ?_
      exact op_pick (V := (· = .bool true)) _ _ _ true _ rfl rfl (eval_tmp x8) (show (Act.eval a _) = _ from (eval_tmp x10)) rfl hK
    · obtain rfl := Option.some.inj ho
      refine ⟨rfl, fun a w' hS hold hin K hK => ?_⟩
      obtain ⟨y11, x11, rfl⟩ := hin 11 rfl (by omega) rfl
      refine if_always rfl ?_
      exact op_move (V := (· = .bool true)) _ _ rfl rfl (eval_tmp x11) rfl hK
    · obtain rfl := Option.some.inj ho
      refine ⟨rfl, fun a w' hS hold hin K hK => ?_⟩
      obtain ⟨y12, x12, rfl⟩ := hin 12 rfl (by omega) rfl
      refine if_guard (d := 42) rfl rfl x12 ?_
      exact op_move (V := (· = .int .i64 0)) _ _ rfl rfl (eval_tmp ((hold 2 (slots_not (by kernel_rfl))).trans h2)) rfl hK
    · obtain rfl := Option.some.inj ho
      refine ⟨rfl, fun a w' hS hold hin K hK => ?_⟩
      obtain ⟨y12, x12, rfl⟩ := hin 12 rfl (by omega) rfl
      obtain ⟨y13, x13, rfl⟩ := hin 13 rfl (by omega) rfl
      refine if_guard (d := 42) rfl rfl x12 ?_
      exact op_bin (V := (· = .bool true)) _ _ _ _ _ _ _ (.bool true) rfl rfl (eval_tmp x13) rfl (fun w => by kernel_rfl) rfl hK
    · obtain rfl := Option.some.inj ho
      refine ⟨rfl, fun a w' hS hold hin K hK => ?_⟩
      obtain ⟨y12, x12, rfl⟩ := hin 12 rfl (by omega) rfl
      obtain ⟨y14, x14, rfl⟩ := hin 14 rfl (by omega) rfl
      refine if_always rfl ?_
      exact op_pick (V := (· = .bool true)) _ _ _ true _ rfl rfl (eval_tmp x12) (show (Act.eval a _) = _ from (eval_tmp x14)) rfl hK
    · obtain rfl := Option.some.inj ho
      refine ⟨rfl, fun a w' hS hold hin K hK => ?_⟩
      obtain ⟨y15, x15, rfl⟩ := hin 15 rfl (by omega) rfl
      refine if_always rfl ?_
      exact op_move (V := (· = .bool true)) _ _ rfl rfl (eval_tmp x15) rfl hK
    · obtain rfl := Option.some.inj ho
      refine ⟨rfl, fun a w' hS hold hin K hK => ?_⟩
      obtain ⟨y16, x16, rfl⟩ := hin 16 rfl (by omega) rfl
      refine if_guard (d := 46) rfl rfl x16 ?_
      exact op_move (V := (· = .int .i64 16)) _ _ rfl rfl (eval_tmp ((hold 3 (slots_not (by kernel_rfl))).trans h3)) rfl hK
    · obtain rfl := Option.some.inj ho
      refine ⟨rfl, fun a w' hS hold hin K hK => ?_⟩
      obtain ⟨y16, x16, rfl⟩ := hin 16 rfl (by omega) rfl
      obtain ⟨y17, x17, rfl⟩ := hin 17 rfl (by omega) rfl
      refine if_guard (d := 46) rfl rfl x16 ?_
      exact op_bin (V := (· = .bool true)) _ _ _ _ _ _ _ (.bool true) rfl rfl (eval_tmp x17) rfl (fun w => by kernel_rfl) rfl hK
    · obtain rfl := Option.some.inj ho
      refine ⟨rfl, fun a w' hS hold hin K hK => ?_⟩
      obtain ⟨y16, x16, rfl⟩ := hin 16 rfl (by omega) rfl
      obtain ⟨y18, x18, rfl⟩ := hin 18 rfl (by omega) rfl
      refine if_always rfl ?_
      exact op_pick (V := (· = .bool true)) _ _ _ true _ rfl rfl (eval_tmp x16) (show (Act.eval a _) = _ from (eval_tmp x18)) rfl hK
    · obtain rfl := Option.some.inj ho
      refine ⟨rfl, fun a w' hS hold hin K hK => ?_⟩
      obtain ⟨y19, x19, rfl⟩ := hin 19 rfl (by omega) rfl
      refine if_always rfl ?_
      exact op_move (V := (· = .bool true)) _ _ rfl rfl (eval_tmp x19) rfl hK
    · obtain rfl := Option.some.inj ho
      refine ⟨rfl, fun a w' hS hold hin K hK => ?_⟩
      obtain ⟨y20, x20, rfl⟩ := hin 20 rfl (by omega) rfl
      refine if_guard (d := 50) rfl rfl x20 ?_
      exact op_move (V := (· = .int .i64 0)) _ _ rfl rfl (eval_tmp ((hold 4 (slots_not (by kernel_rfl))).trans h4)) rfl hK
    · obtain rfl := Option.some.inj ho
      refine ⟨rfl, fun a w' hS hold hin K hK => ?_⟩
      obtain ⟨y20, x20, rfl⟩ := hin 20 rfl (by omega) rfl
      obtain ⟨y21, x21, rfl⟩ := hin 21 rfl (by omega) rfl
      refine if_guard (d := 50) rfl rfl x20 ?_
      exact op_bin (V := (· = .bool true)) _ _ _ _ _ _ _ (.bool true) rfl rfl (eval_tmp x21) rfl (fun w => by kernel_rfl) rfl hK
    · obtain rfl := Option.some.inj ho
      refine ⟨rfl, fun a w' hS hold hin K hK => ?_⟩
      obtain ⟨y20, x20, rfl⟩ := hin 20 rfl (by omega) rfl
      obtain ⟨y22, x22, rfl⟩ := hin 22 rfl (by omega) rfl
      refine if_always rfl ?_
      exact op_pick (V := (· = .bool true)) _ _ _ true _ rfl rfl (eval_tmp x20) (show (Act.eval a _) = _ from (eval_tmp x22)) rfl hK
    · obtain rfl := Option.some.inj ho
      refine ⟨rfl, fun a w' hS hold hin K hK => ?_⟩
      obtain ⟨y23, x23, rfl⟩ := hin 23 rfl (by omega) rfl
      refine if_always rfl ?_
      exact op_move (V := (· = .bool true)) _ _ rfl rfl (eval_tmp x23) rfl hK
    · obtain rfl := Option.some.inj ho
      refine ⟨rfl, fun a w' hS hold hin K hK => ?_⟩
      obtain ⟨y24, x24, rfl⟩ := hin 24 rfl (by omega) rfl
      refine if_guard (d := 54) rfl rfl x24 ?_
      exact op_move (V := (· = .int .i64 6)) _ _ rfl rfl (eval_tmp ((hold 5 (slots_not (by kernel_rfl))).trans h5)) rfl hK
    · obtain rfl := Option.some.inj ho
      refine ⟨rfl, fun a w' hS hold hin K hK => ?_⟩
      obtain ⟨y24, x24, rfl⟩ := hin 24 rfl (by omega) rfl
      obtain ⟨y25, x25, rfl⟩ := hin 25 rfl (by omega) rfl
      refine if_guard (d := 54) rfl rfl x24 ?_
      exact op_bin (V := (· = .bool true)) _ _ _ _ _ _ _ (.bool true) rfl rfl (eval_tmp x25) rfl (fun w => by kernel_rfl) rfl hK
    · obtain rfl := Option.some.inj ho
      refine ⟨rfl, fun a w' hS hold hin K hK => ?_⟩
      obtain ⟨y24, x24, rfl⟩ := hin 24 rfl (by omega) rfl
      obtain ⟨y26, x26, rfl⟩ := hin 26 rfl (by omega) rfl
      refine if_always rfl ?_
      exact op_pick (V := (· = .bool true)) _ _ _ true _ rfl rfl (eval_tmp x24) (show (Act.eval a _) = _ from (eval_tmp x26)) rfl hK
    · obtain rfl := Option.some.inj ho
      refine ⟨rfl, fun a w' hS hold hin K hK => ?_⟩
      obtain ⟨y27, x27, rfl⟩ := hin 27 rfl (by omega) rfl
      refine if_always rfl ?_
      exact op_move (V := (· = .bool true)) _ _ rfl rfl (eval_tmp x27) rfl hK
    · obtain rfl := Option.some.inj ho
      refine ⟨rfl, fun a w' hS hold hin K hK => ?_⟩
      obtain ⟨y28, x28, rfl⟩ := hin 28 rfl (by omega) rfl
      refine if_guard (d := 58) rfl rfl x28 ?_
      exact op_move (V := (· = .int .i64 0)) _ _ rfl rfl (eval_tmp ((hold 6 (slots_not (by kernel_rfl))).trans h6)) rfl hK
    · obtain rfl := Option.some.inj ho
      refine ⟨rfl, fun a w' hS hold hin K hK => ?_⟩
      obtain ⟨y28, x28, rfl⟩ := hin 28 rfl (by omega) rfl
      obtain ⟨y29, x29, rfl⟩ := hin 29 rfl (by omega) rfl
      refine if_guard (d := 58) rfl rfl x28 ?_
      exact op_bin (V := (· = .bool true)) _ _ _ _ _ _ _ (.bool true) rfl rfl (eval_tmp x29) rfl (fun w => by kernel_rfl) rfl hK
    · obtain rfl := Option.some.inj ho
      refine ⟨rfl, fun a w' hS hold hin K hK => ?_⟩
      obtain ⟨y28, x28, rfl⟩ := hin 28 rfl (by omega) rfl
      obtain ⟨y30, x30, rfl⟩ := hin 30 rfl (by omega) rfl
      refine if_always rfl ?_
      exact op_pick (V := (· = .bool true)) _ _ _ true _ rfl rfl (eval_tmp x28) (show (Act.eval a _) = _ from (eval_tmp x30)) rfl hK
    · obtain rfl := Option.some.inj ho
      refine ⟨rfl, fun a w' hS hold hin K hK => ?_⟩
      obtain ⟨y31, x31, rfl⟩ := hin 31 rfl (by omega) rfl
      refine if_always rfl ?_
      exact op_move (V := (· = .bool true)) _ _ rfl rfl (eval_tmp x31) rfl hK
    · obtain rfl := Option.some.inj ho
      refine ⟨rfl, fun a w' hS hold hin K hK => ?_⟩
      obtain ⟨y32, x32, rfl⟩ := hin 32 rfl (by omega) rfl
      refine if_guard (d := 62) rfl rfl x32 ?_
      exact op_move (V := (· = .slice qs 33 33)) _ _ rfl rfl (eval_tmp ((hold 7 (slots_not (by kernel_rfl))).trans h7)) rfl hK
    · obtain rfl := Option.some.inj ho
      refine ⟨rfl, fun a w' hS hold hin K hK => ?_⟩
      obtain ⟨y32, x32, rfl⟩ := hin 32 rfl (by omega) rfl
      obtain ⟨y33, x33, rfl⟩ := hin 33 rfl (by omega) rfl
      refine if_guard (d := 62) rfl rfl x32 ?_
      exact op_len _ _ 5 (by kernel_rfl) rfl rfl _ 33 _ (eval_tmp x33) hK
    · obtain rfl := Option.some.inj ho
      refine ⟨rfl, fun a w' hS hold hin K hK => ?_⟩
      obtain ⟨y32, x32, rfl⟩ := hin 32 rfl (by omega) rfl
      obtain ⟨y34, x34, rfl⟩ := hin 34 rfl (by omega) rfl
      refine if_guard (d := 62) rfl rfl x32 ?_
      exact op_bin (V := (· = .bool true)) _ _ _ _ _ _ _ (.bool true) rfl rfl (eval_tmp x34) rfl (fun w => by kernel_rfl) rfl hK
    · obtain rfl := Option.some.inj ho
      refine ⟨rfl, fun a w' hS hold hin K hK => ?_⟩
      obtain ⟨y32, x32, rfl⟩ := hin 32 rfl (by omega) rfl
      obtain ⟨y35, x35, rfl⟩ := hin 35 rfl (by omega) rfl
      refine if_always rfl ?_
      exact op_pick (V := (· = .bool true)) _ _ _ true _ rfl rfl (eval_tmp x32) (show (Act.eval a _) = _ from (eval_tmp x35)) rfl hK
    · obtain rfl := Option.some.inj ho
      refine ⟨rfl, fun a w' hS hold hin K hK => ?_⟩
      obtain ⟨y36, x36, rfl⟩ := hin 36 rfl (by omega) rfl
      refine if_always rfl ?_
      exact op_move (V := (· = .bool true)) _ _ rfl rfl (eval_tmp x36) rfl hK
    · obtain rfl := Option.some.inj ho
      refine ⟨rfl, fun a w' hS hold hin K hK => ?_⟩
      obtain ⟨y37, x37, rfl⟩ := hin 37 rfl (by omega) rfl
      refine if_guard (d := 67) rfl rfl x37 ?_
      exact op_move (V := (· = .int .i64 0)) _ _ rfl rfl (eval_tmp ((hold 8 (slots_not (by kernel_rfl))).trans h8)) rfl hK
    · obtain rfl := Option.some.inj ho
      refine ⟨rfl, fun a w' hS hold hin K hK => ?_⟩
      obtain ⟨y37, x37, rfl⟩ := hin 37 rfl (by omega) rfl
      obtain ⟨y38, x38, rfl⟩ := hin 38 rfl (by omega) rfl
      refine if_guard (d := 67) rfl rfl x37 ?_
      exact op_bin (V := (· = .bool true)) _ _ _ _ _ _ _ (.bool true) rfl rfl (eval_tmp x38) rfl (fun w => by kernel_rfl) rfl hK
    · obtain rfl := Option.some.inj ho
      refine ⟨rfl, fun a w' hS hold hin K hK => ?_⟩
      obtain ⟨y37, x37, rfl⟩ := hin 37 rfl (by omega) rfl
      obtain ⟨y39, x39, rfl⟩ := hin 39 rfl (by omega) rfl
      refine if_always rfl ?_
      exact op_pick (V := (· = .bool true)) _ _ _ true _ rfl rfl (eval_tmp x37) (show (Act.eval a _) = _ from (eval_tmp x39)) rfl hK
  · intro i o sz hi ho hA; cases hA
  clear hS
  intro t1 V5 hs hold hout hall hne hS
  replace HS := hs.trans HS
  replace hS := hS.1
  obtain ⟨x70, q70, v70⟩ : ∃ x, t1[70]? = some x ∧ ((· = .bool true)) x := hout 40 (by omega) rfl
  replace q70 : t1[70]? = some (.bool true) := q70.trans (congrArg some v70)
  replace h1 := (hold 1 (slots_not (by kernel_rfl))).trans h1
  replace h2 := (hold 2 (slots_not (by kernel_rfl))).trans h2
  replace h3 := (hold 3 (slots_not (by kernel_rfl))).trans h3
  replace h4 := (hold 4 (slots_not (by kernel_rfl))).trans h4
  replace h5 := (hold 5 (slots_not (by kernel_rfl))).trans h5
  replace h6 := (hold 6 (slots_not (by kernel_rfl))).trans h6
  replace h7 := (hold 7 (slots_not (by kernel_rfl))).trans h7
  replace h8 := (hold 8 (slots_not (by kernel_rfl))).trans h8
  clear hold hout hs hall hne
  simp only [List.drop_succ_cons, List.drop_zero]
  refine tlx_assign (.tmp 70) rfl rfl 0 rfl (by rw [HS]; decide) (.bool true) (eval_tmp q70) fun t1 ex0 hz hq he => ?_
  replace h1 := (he 1 (by decide)).trans h1
  replace h2 := (he 2 (by decide)).trans h2
  replace h3 := (he 3 (by decide)).trans h3
  replace h4 := (he 4 (by decide)).trans h4
  replace h5 := (he 5 (by decide)).trans h5
  replace h6 := (he 6 (by decide)).trans h6
  replace h7 := (he 7 (by decide)).trans h7
  replace h8 := (he 8 (by decide)).trans h8
  replace q70 := (he 70 (by decide)).trans q70
  replace HS := hz.trans HS
  clear hz he ex0
  have h0 := hq
  clear hq
  refine wpList_nil ?_
  obtain ⟨f, e0, hf⟩ := wash HS
  have f1 := hf 1 _ h1
  have f2 := hf 2 _ h2
  have f3 := hf 3 _ h3
  have f4 := hf 4 _ h4
  have f5 := hf 5 _ h5
  have f6 := hf 6 _ h6
  have f7 := hf 7 _ h7
  have f8 := hf 8 _ h8
  have f0 := hf 0 _ h0
  clear hf
  rw [e0.trans (show _ = #[f 0, f 1, f 2, f 3, f 4, f 5, f 6, f 7, f 8, f 9, f 10, f 11, f 12, f 13, f 14, f 15, f 16, f 17, f 18, f 19, f 20, f 21, f 22, f 23, f 24, f 25, f 26, f 27, f 28, f 29, f 30, f 31, f 32, f 33, f 34, f 35, f 36, f 37, f 38, f 39, f 40, f 41, f 42, f 43, f 44, f 45, f 46, f 47, f 48, f 49, f 50, f 51, f 52, f 53, f 54, f 55, f 56, f 57, f 58, f 59, f 60, f 61, f 62, f 63, f 64, f 65, f 66, f 67, f 68, f 69, f 70] from by kernel_rfl), f1, f2, f3, f4, f5, f6, f7, f8, f0]
  clear f1 f2 f3 f4 f5 f6 f7 f8 f0
  clear e0
  try dsimp only
  clear h1 h2 h3 h4 h5 h6 h7 h8 h0 q70 v70 hM HS t1 t0 M
  have hbel := hS.1
  clear hS
  go_wp2_with fail
  exact ⟨rfl, .bool true, by kernel_rfl, _, rfl, rfl, hbel⟩
end Go.Proofs.YtmochmpamgfboabDoor
