/- Numbers of pages of a round: codec.Pages. Condition: none but what each says. -/
import Derived.Test.YtmochmpamgfboabDoorPagC
namespace Go.Proofs.YtmochmpamgfboabDoor
open Go.RowKit
theorem pad_le (n : Nat) (h : n ≤ 256) : padN n ≤ 2 * n := by
  have all : ∀ j : Fin 257, padN j.val ≤ 2 * j.val := by decide +kernel
  exact all ⟨n, by omega⟩
theorem pad_ev {n q : Nat} (h : n ≤ 256) (hq : padN n = q) (w : World) : Calls Tryd.prog 41 #[.int .i64 n] w (Gives (· = .int .i64 q) w) := by
  subst hq
  exact (pad_any n w h).mono fun _ _ ⟨h1, h2⟩ => ⟨_, h1, rfl, h2 ▸ Below.refl _ _⟩
theorem slots_ev {n size text per q : Nat} (hs : 1 ≤ size) (ht : size ≤ text) (hn : n ≤ 512) (htx : text ≤ 4096) (h1 : text / size = per) (h2 : ceil n per = q) (w : World) : Calls Tryd.prog 40 #[.int .i64 n, .int .i64 size, .int .i64 text] w (Gives (· = .tuple #[.int .i64 q, .int .i64 0]) w) :=
  (slotsPages_ev hs ht hn htx h1 h2 w).mono fun _ _ ⟨e1, e2⟩ => ⟨_, e1, rfl, e2 ▸ Below.refl _ _⟩
set_option maxHeartbeats 4000000 in
set_option maxRecDepth 100000 in
theorem pages_bad {n0 n1 n2 n3 n4 n5 k rq rp rc er n : Int} (h : msr n0 n1 n2 n3 n4 n5 k = (rq, rp, rc, er)) (he : ¬ er = 0) (w : World) : Calls Tryd.prog 29 #[.agg #[.int .i64 n0, .int .i64 n1, .int .i64 n2, .int .i64 n3, .int .i64 n4, .int .i64 n5], .int .i64 k, .int .i64 n] w (Gives (· = .tuple #[.int .i64 0, .int .i64 er]) w) := by
  have hS := conf_start n0 n1 n2 n3 n4 n5 w
  have HMS := Lib.hid h
  clear h
  go_enter Tryd.func29, Tryd.ntmps29
  go_wp2_with ((with_reducible refine guard_list ?_); first | (refine held_load 23 _ rfl ?_))
  change Held (wpList _ _ _ _ _ (w.alloc (.cells #[.int .i64 n0, .int .i64 n1, .int .i64 n2, .int .i64 n3, .int .i64 n4, .int .i64 n5] 23)))
  generalize w.alloc (.cells #[.int .i64 n0, .int .i64 n1, .int .i64 n2, .int .i64 n3, .int .i64 n4, .int .i64 n5] 23) = w0 at hS ⊢
  obtain ⟨M, hM⟩ : ∃ M, M = w0.heap.size := ⟨_, rfl⟩
  have hMB : w.heap.size ≤ M := hM ▸ hS.1.size
  have ltM := hS.lt
  rw [← hM] at ltM
  refine hide_held fun t0 HT => ?_
  have HS : t0.size = 56 := by rw [HT]; rfl
  have h1 : t0[1]? = some (.int .i64 k) := by rw [HT]; rfl
  have h2 : t0[2]? = some (.int .i64 n) := by rw [HT]; rfl
  have h3 : t0[3]? = some (.pointer (some ⟨w.heap.size, 0, none⟩)) := by rw [HT]; rfl
  clear HT
  refine wp_list_most 7 (fun i => [13, 14, 15, 12, 16, 17, 8].getD i 0) (fun i => [none, none, none, none, none, none, some 3].getD i none) (fun i => [(· = .agg #[.int .i64 n0, .int .i64 n1, .int .i64 n2, .int .i64 n3, .int .i64 n4, .int .i64 n5]), (· = .int .i64 k), (· = .tuple #[.agg #[.int .i64 rq, .int .i64 rp, .int .i64 rc], .int .i64 er]), (· = .tuple #[.agg #[.int .i64 rq, .int .i64 rp, .int .i64 rc], .int .i64 er]), (· = .agg #[.int .i64 rq, .int .i64 rp, .int .i64 rc]), (· = .int .i64 er), (fun _ => True)].getD i (fun _ => True)) (fun w' => Own w [(w.heap.size, 6, (· = .agg #[.int .i64 n0, .int .i64 n1, .int .i64 n2, .int .i64 n3, .int .i64 n4, .int .i64 n5]))] w' ∧ M ≤ w'.heap.size) M
    (by kernel_rfl) (slots_apart (by kernel_rfl)) (slots_lie (by rw [HS]; kernel_rfl)) ⟨hS, Nat.le_of_eq hM⟩ (fun w' h => h.2) (fun w1 w2 h b => ⟨h.1.keep b, Nat.le_trans h.2 b.size⟩) ?_ ?_ ?_
  · clear hS
    intro i o hi ho hA
    have hc : i = 0 ∨ i = 1 ∨ i = 2 ∨ i = 3 ∨ i = 4 ∨ i = 5 ∨ i = 6 := by omega
    rcases hc with rfl | rfl | rfl | rfl | rfl | rfl | rfl
    · obtain rfl := Option.some.inj ho
      refine ⟨rfl, fun a w' hS hold hin K hK => ?_⟩
      refine if_always rfl ?_
      exact op_ld_own 6 tConf (.tmp 3) rfl rfl _ (eval_tmp ((hold 3 (slots_not (by kernel_rfl))).trans h3)) hS.1 0 rfl hK
    · obtain rfl := Option.some.inj ho
      refine ⟨rfl, fun a w' hS hold hin K hK => ?_⟩
      refine if_always rfl ?_
      exact op_move (V := (· = .int .i64 k)) _ _ rfl rfl (eval_tmp ((hold 1 (slots_not (by kernel_rfl))).trans h1)) rfl hK
    · obtain rfl := Option.some.inj ho
      refine ⟨rfl, fun a w' hS hold hin K hK => ?_⟩
      obtain ⟨y0, x0, rfl⟩ := hin 0 rfl (by omega) rfl
      obtain ⟨y1, x1, rfl⟩ := hin 1 rfl (by omega) rfl
      refine if_always rfl ?_
      exact op_fn2 _ _ _ _ _ _ rfl rfl (eval_tmp x0) (eval_tmp x1) (by intro args w; kernel_rfl) (measure_ev HMS.out _) hK
    · obtain rfl := Option.some.inj ho
      refine ⟨rfl, fun a w' hS hold hin K hK => ?_⟩
      obtain ⟨y2, x2, rfl⟩ := hin 2 rfl (by omega) rfl
      refine if_always rfl ?_
      exact op_move (V := (· = .tuple #[.agg #[.int .i64 rq, .int .i64 rp, .int .i64 rc], .int .i64 er])) _ _ rfl rfl (eval_tmp x2) rfl hK
    · obtain rfl := Option.some.inj ho
      refine ⟨rfl, fun a w' hS hold hin K hK => ?_⟩
      obtain ⟨y3, x3, rfl⟩ := hin 3 rfl (by omega) rfl
      refine if_always rfl ?_
      exact op_tup0 (V := (· = .agg #[.int .i64 rq, .int .i64 rp, .int .i64 rc])) _ rfl rfl (eval_tmp x3) rfl hK
    · obtain rfl := Option.some.inj ho
      refine ⟨rfl, fun a w' hS hold hin K hK => ?_⟩
      obtain ⟨y3, x3, rfl⟩ := hin 3 rfl (by omega) rfl
      refine if_always rfl ?_
      exact op_tup1 (V := (· = .int .i64 er)) _ rfl rfl (eval_tmp x3) rfl hK
    · cases hA
  · intro i o sz hi ho hA
    have hc : i = 0 ∨ i = 1 ∨ i = 2 ∨ i = 3 ∨ i = 4 ∨ i = 5 ∨ i = 6 := by omega
    rcases hc with rfl | rfl | rfl | rfl | rfl | rfl | rfl
    · cases hA
    · cases hA
    · cases hA
    · cases hA
    · cases hA
    · cases hA
    · obtain rfl := Option.some.inj ho
      obtain rfl := Option.some.inj hA
      exact ⟨rfl, rfl, 75, #[.int .i64 0, .int .i64 0, .int .i64 0], rfl, fun a w' K h => wp_new 75 #[.int .i64 0, .int .i64 0, .int .i64 0] (fun w => by kernel_rfl) h⟩
  clear hS
  intro t1 V1 hs hold hout hall hne hS
  replace HS := hs.trans HS
  replace hS := hS.1
  obtain ⟨gz, h8, b8, r8⟩ : ∃ g, t1[8]? = some (.pointer (some ⟨g, 0, none⟩)) ∧ M ≤ g ∧ ∃ cs ty, V1.heap[g]? = some (.cells cs ty (0, 0)) ∧ cs.size = 3 := by
    obtain ⟨g, p1, p2, ty, cs, p3, p4⟩ := hall 6 (by omega) 3 rfl
    exact ⟨g, p1, p2, cs, ty, p3, p4⟩
  replace hS : Own w [(w.heap.size, 6, (· = .agg #[.int .i64 n0, .int .i64 n1, .int .i64 n2, .int .i64 n3, .int .i64 n4, .int .i64 n5])), (gz, 3, (fun _ => True))] V1 := hS.add (Nat.le_trans hMB b8) (fun r hr => Nat.ne_of_lt (Nat.lt_of_lt_of_le (ltM r hr) b8)) (Own.any r8)
  obtain ⟨x16, q16, v16⟩ : ∃ x, t1[16]? = some x ∧ ((· = .agg #[.int .i64 rq, .int .i64 rp, .int .i64 rc])) x := hout 4 (by omega) rfl
  replace q16 : t1[16]? = some (.agg #[.int .i64 rq, .int .i64 rp, .int .i64 rc]) := q16.trans (congrArg some v16)
  obtain ⟨x17, q17, v17⟩ : ∃ x, t1[17]? = some x ∧ ((· = .int .i64 er)) x := hout 5 (by omega) rfl
  replace q17 : t1[17]? = some (.int .i64 er) := q17.trans (congrArg some v17)
  replace h1 := (hold 1 (slots_not (by kernel_rfl))).trans h1
  replace h2 := (hold 2 (slots_not (by kernel_rfl))).trans h2
  replace h3 := (hold 3 (slots_not (by kernel_rfl))).trans h3
  clear hold hout hs hall hne
  simp only [List.drop_succ_cons, List.drop_zero]
  refine st_own 3 tSizes rfl (.tmp 8) (.tmp 16) rfl rfl _ _ (eval_tmp h8) (eval_tmp q16) (V' := (· = .agg #[.int .i64 rq, .int .i64 rp, .int .i64 rc])) rfl by_sizes hS 1 rfl fun V1' hS' _ => ?_
  replace hS : Own w [(w.heap.size, 6, (· = .agg #[.int .i64 n0, .int .i64 n1, .int .i64 n2, .int .i64 n3, .int .i64 n4, .int .i64 n5])), (gz, 3, (· = .agg #[.int .i64 rq, .int .i64 rp, .int .i64 rc]))] V1' := hS'
  clear hS'
  refine tlx_assign (.tmp 17) rfl rfl 9 rfl (by rw [HS]; decide) (.int .i64 er) (eval_tmp q17) fun t1 ex0 hz hq he => ?_
  replace h1 := (he 1 (by decide)).trans h1
  replace h2 := (he 2 (by decide)).trans h2
  replace h3 := (he 3 (by decide)).trans h3
  replace h8 := (he 8 (by decide)).trans h8
  replace q16 := (he 16 (by decide)).trans q16
  replace q17 := (he 17 (by decide)).trans q17
  replace HS := hz.trans HS
  clear hz he ex0
  have h9 := hq
  clear hq
  refine wpList_nil ?_
  obtain ⟨f, e0, hf⟩ := wash HS
  have f1 := hf 1 _ h1
  have f2 := hf 2 _ h2
  have f3 := hf 3 _ h3
  have f8 := hf 8 _ h8
  have f9 := hf 9 _ h9
  clear hf
  rw [e0.trans (show _ = #[f 0, f 1, f 2, f 3, f 4, f 5, f 6, f 7, f 8, f 9, f 10, f 11, f 12, f 13, f 14, f 15, f 16, f 17, f 18, f 19, f 20, f 21, f 22, f 23, f 24, f 25, f 26, f 27, f 28, f 29, f 30, f 31, f 32, f 33, f 34, f 35, f 36, f 37, f 38, f 39, f 40, f 41, f 42, f 43, f 44, f 45, f 46, f 47, f 48, f 49, f 50, f 51, f 52, f 53, f 54, f 55] from by kernel_rfl), f1, f2, f3, f8, f9]
  clear f1 f2 f3 f8 f9
  clear e0
  try dsimp only
  clear h1 h2 h3 h8 h9 q16 q17 v16 v17 b8 r8 ltM hMB hM HS t1 t0 M
  have hbel := hS.1
  clear hS
  go_wp2_with fail
  exact ⟨rfl, .tuple #[.int .i64 0, .int .i64 er], by kernel_rfl, _, rfl, rfl, hbel⟩
set_option maxHeartbeats 4000000 in
set_option maxRecDepth 100000 in
theorem pages_neg {n0 n1 n2 n3 n4 n5 k rq rp rc n : Int} (h : msr n0 n1 n2 n3 n4 n5 k = (rq, rp, rc, 0)) (hn : n < 0) (w : World) : Calls Tryd.prog 29 #[.agg #[.int .i64 n0, .int .i64 n1, .int .i64 n2, .int .i64 n3, .int .i64 n4, .int .i64 n5], .int .i64 k, .int .i64 n] w (Gives (· = .tuple #[.int .i64 0, .int .i64 2]) w) := by
  have hS := conf_start n0 n1 n2 n3 n4 n5 w
  have HMS := Lib.hid h
  clear h
  go_enter Tryd.func29, Tryd.ntmps29
  go_wp2_with ((with_reducible refine guard_list ?_); first | (refine held_load 23 _ rfl ?_))
  change Held (wpList _ _ _ _ _ (w.alloc (.cells #[.int .i64 n0, .int .i64 n1, .int .i64 n2, .int .i64 n3, .int .i64 n4, .int .i64 n5] 23)))
  generalize w.alloc (.cells #[.int .i64 n0, .int .i64 n1, .int .i64 n2, .int .i64 n3, .int .i64 n4, .int .i64 n5] 23) = w0 at hS ⊢
  obtain ⟨M, hM⟩ : ∃ M, M = w0.heap.size := ⟨_, rfl⟩
  have hMB : w.heap.size ≤ M := hM ▸ hS.1.size
  have ltM := hS.lt
  rw [← hM] at ltM
  refine hide_held fun t0 HT => ?_
  have HS : t0.size = 56 := by rw [HT]; rfl
  have h1 : t0[1]? = some (.int .i64 k) := by rw [HT]; rfl
  have h2 : t0[2]? = some (.int .i64 n) := by rw [HT]; rfl
  have h3 : t0[3]? = some (.pointer (some ⟨w.heap.size, 0, none⟩)) := by rw [HT]; rfl
  clear HT
  refine wp_list_most 7 (fun i => [13, 14, 15, 12, 16, 17, 8].getD i 0) (fun i => [none, none, none, none, none, none, some 3].getD i none) (fun i => [(· = .agg #[.int .i64 n0, .int .i64 n1, .int .i64 n2, .int .i64 n3, .int .i64 n4, .int .i64 n5]), (· = .int .i64 k), (· = .tuple #[.agg #[.int .i64 rq, .int .i64 rp, .int .i64 rc], .int .i64 0]), (· = .tuple #[.agg #[.int .i64 rq, .int .i64 rp, .int .i64 rc], .int .i64 0]), (· = .agg #[.int .i64 rq, .int .i64 rp, .int .i64 rc]), (· = .int .i64 0), (fun _ => True)].getD i (fun _ => True)) (fun w' => Own w [(w.heap.size, 6, (· = .agg #[.int .i64 n0, .int .i64 n1, .int .i64 n2, .int .i64 n3, .int .i64 n4, .int .i64 n5]))] w' ∧ M ≤ w'.heap.size) M
    (by kernel_rfl) (slots_apart (by kernel_rfl)) (slots_lie (by rw [HS]; kernel_rfl)) ⟨hS, Nat.le_of_eq hM⟩ (fun w' h => h.2) (fun w1 w2 h b => ⟨h.1.keep b, Nat.le_trans h.2 b.size⟩) ?_ ?_ ?_
  · clear hS
    intro i o hi ho hA
    have hc : i = 0 ∨ i = 1 ∨ i = 2 ∨ i = 3 ∨ i = 4 ∨ i = 5 ∨ i = 6 := by omega
    rcases hc with rfl | rfl | rfl | rfl | rfl | rfl | rfl
    · obtain rfl := Option.some.inj ho
      refine ⟨rfl, fun a w' hS hold hin K hK => ?_⟩
      refine if_always rfl ?_
      exact op_ld_own 6 tConf (.tmp 3) rfl rfl _ (eval_tmp ((hold 3 (slots_not (by kernel_rfl))).trans h3)) hS.1 0 rfl hK
    · obtain rfl := Option.some.inj ho
      refine ⟨rfl, fun a w' hS hold hin K hK => ?_⟩
      refine if_always rfl ?_
      exact op_move (V := (· = .int .i64 k)) _ _ rfl rfl (eval_tmp ((hold 1 (slots_not (by kernel_rfl))).trans h1)) rfl hK
    · obtain rfl := Option.some.inj ho
      refine ⟨rfl, fun a w' hS hold hin K hK => ?_⟩
      obtain ⟨y0, x0, rfl⟩ := hin 0 rfl (by omega) rfl
      obtain ⟨y1, x1, rfl⟩ := hin 1 rfl (by omega) rfl
      refine if_always rfl ?_
      exact op_fn2 _ _ _ _ _ _ rfl rfl (eval_tmp x0) (eval_tmp x1) (by intro args w; kernel_rfl) (measure_ev HMS.out _) hK
    · obtain rfl := Option.some.inj ho
      refine ⟨rfl, fun a w' hS hold hin K hK => ?_⟩
      obtain ⟨y2, x2, rfl⟩ := hin 2 rfl (by omega) rfl
      refine if_always rfl ?_
      exact op_move (V := (· = .tuple #[.agg #[.int .i64 rq, .int .i64 rp, .int .i64 rc], .int .i64 0])) _ _ rfl rfl (eval_tmp x2) rfl hK
    · obtain rfl := Option.some.inj ho
      refine ⟨rfl, fun a w' hS hold hin K hK => ?_⟩
      obtain ⟨y3, x3, rfl⟩ := hin 3 rfl (by omega) rfl
      refine if_always rfl ?_
      exact op_tup0 (V := (· = .agg #[.int .i64 rq, .int .i64 rp, .int .i64 rc])) _ rfl rfl (eval_tmp x3) rfl hK
    · obtain rfl := Option.some.inj ho
      refine ⟨rfl, fun a w' hS hold hin K hK => ?_⟩
      obtain ⟨y3, x3, rfl⟩ := hin 3 rfl (by omega) rfl
      refine if_always rfl ?_
      exact op_tup1 (V := (· = .int .i64 0)) _ rfl rfl (eval_tmp x3) rfl hK
    · cases hA
  · intro i o sz hi ho hA
    have hc : i = 0 ∨ i = 1 ∨ i = 2 ∨ i = 3 ∨ i = 4 ∨ i = 5 ∨ i = 6 := by omega
    rcases hc with rfl | rfl | rfl | rfl | rfl | rfl | rfl
    · cases hA
    · cases hA
    · cases hA
    · cases hA
    · cases hA
    · cases hA
    · obtain rfl := Option.some.inj ho
      obtain rfl := Option.some.inj hA
      exact ⟨rfl, rfl, 75, #[.int .i64 0, .int .i64 0, .int .i64 0], rfl, fun a w' K h => wp_new 75 #[.int .i64 0, .int .i64 0, .int .i64 0] (fun w => by kernel_rfl) h⟩
  clear hS
  intro t1 V1 hs hold hout hall hne hS
  replace HS := hs.trans HS
  replace hS := hS.1
  obtain ⟨gz, h8, b8, r8⟩ : ∃ g, t1[8]? = some (.pointer (some ⟨g, 0, none⟩)) ∧ M ≤ g ∧ ∃ cs ty, V1.heap[g]? = some (.cells cs ty (0, 0)) ∧ cs.size = 3 := by
    obtain ⟨g, p1, p2, ty, cs, p3, p4⟩ := hall 6 (by omega) 3 rfl
    exact ⟨g, p1, p2, cs, ty, p3, p4⟩
  replace hS : Own w [(w.heap.size, 6, (· = .agg #[.int .i64 n0, .int .i64 n1, .int .i64 n2, .int .i64 n3, .int .i64 n4, .int .i64 n5])), (gz, 3, (fun _ => True))] V1 := hS.add (Nat.le_trans hMB b8) (fun r hr => Nat.ne_of_lt (Nat.lt_of_lt_of_le (ltM r hr) b8)) (Own.any r8)
  obtain ⟨x16, q16, v16⟩ : ∃ x, t1[16]? = some x ∧ ((· = .agg #[.int .i64 rq, .int .i64 rp, .int .i64 rc])) x := hout 4 (by omega) rfl
  replace q16 : t1[16]? = some (.agg #[.int .i64 rq, .int .i64 rp, .int .i64 rc]) := q16.trans (congrArg some v16)
  obtain ⟨x17, q17, v17⟩ : ∃ x, t1[17]? = some x ∧ ((· = .int .i64 0)) x := hout 5 (by omega) rfl
  replace q17 : t1[17]? = some (.int .i64 0) := q17.trans (congrArg some v17)
  replace h1 := (hold 1 (slots_not (by kernel_rfl))).trans h1
  replace h2 := (hold 2 (slots_not (by kernel_rfl))).trans h2
  replace h3 := (hold 3 (slots_not (by kernel_rfl))).trans h3
  clear hold hout hs hall hne
  simp only [List.drop_succ_cons, List.drop_zero]
  refine st_own 3 tSizes rfl (.tmp 8) (.tmp 16) rfl rfl _ _ (eval_tmp h8) (eval_tmp q16) (V' := (· = .agg #[.int .i64 rq, .int .i64 rp, .int .i64 rc])) rfl by_sizes hS 1 rfl fun V1' hS' _ => ?_
  replace hS : Own w [(w.heap.size, 6, (· = .agg #[.int .i64 n0, .int .i64 n1, .int .i64 n2, .int .i64 n3, .int .i64 n4, .int .i64 n5])), (gz, 3, (· = .agg #[.int .i64 rq, .int .i64 rp, .int .i64 rc]))] V1' := hS'
  clear hS'
  refine tlx_assign (.tmp 17) rfl rfl 9 rfl (by rw [HS]; decide) (.int .i64 0) (eval_tmp q17) fun t1 ex0 hz hq he => ?_
  replace h1 := (he 1 (by decide)).trans h1
  replace h2 := (he 2 (by decide)).trans h2
  replace h3 := (he 3 (by decide)).trans h3
  replace h8 := (he 8 (by decide)).trans h8
  replace q16 := (he 16 (by decide)).trans q16
  replace q17 := (he 17 (by decide)).trans q17
  replace HS := hz.trans HS
  clear hz he ex0
  have h9 := hq
  clear hq
  refine wpList_nil ?_
  obtain ⟨f, e0, hf⟩ := wash HS
  have f1 := hf 1 _ h1
  have f2 := hf 2 _ h2
  have f3 := hf 3 _ h3
  have f8 := hf 8 _ h8
  have f9 := hf 9 _ h9
  clear hf
  rw [e0.trans (show _ = #[f 0, f 1, f 2, f 3, f 4, f 5, f 6, f 7, f 8, f 9, f 10, f 11, f 12, f 13, f 14, f 15, f 16, f 17, f 18, f 19, f 20, f 21, f 22, f 23, f 24, f 25, f 26, f 27, f 28, f 29, f 30, f 31, f 32, f 33, f 34, f 35, f 36, f 37, f 38, f 39, f 40, f 41, f 42, f 43, f 44, f 45, f 46, f 47, f 48, f 49, f 50, f 51, f 52, f 53, f 54, f 55] from by kernel_rfl), f1, f2, f3, f8, f9]
  clear f1 f2 f3 f8 f9
  clear e0
  try dsimp only
  clear h1 h2 h3 h8 h9 q16 q17 v16 v17 b8 r8 ltM hMB hM HS t1 t0 M
  have hbel := hS.1
  clear hS
  go_wp2_with fail
  exact ⟨rfl, .tuple #[.int .i64 0, .int .i64 2], by kernel_rfl, _, rfl, rfl, hbel⟩
set_option maxHeartbeats 4000000 in
set_option maxRecDepth 100000 in
theorem pages_many {n0 n1 n2 n3 n4 n5 k rq rp rc n : Int} (h : msr n0 n1 n2 n3 n4 n5 k = (rq, rp, rc, 0)) (hn : ¬ n < 0) (hm : n0 < n) (w : World) : Calls Tryd.prog 29 #[.agg #[.int .i64 n0, .int .i64 n1, .int .i64 n2, .int .i64 n3, .int .i64 n4, .int .i64 n5], .int .i64 k, .int .i64 n] w (Gives (· = .tuple #[.int .i64 0, .int .i64 252]) w) := by
  have hS := conf_start n0 n1 n2 n3 n4 n5 w
  have HMS := Lib.hid h
  clear h
  go_enter Tryd.func29, Tryd.ntmps29
  go_wp2_with ((with_reducible refine guard_list ?_); first | (refine held_load 23 _ rfl ?_))
  change Held (wpList _ _ _ _ _ (w.alloc (.cells #[.int .i64 n0, .int .i64 n1, .int .i64 n2, .int .i64 n3, .int .i64 n4, .int .i64 n5] 23)))
  generalize w.alloc (.cells #[.int .i64 n0, .int .i64 n1, .int .i64 n2, .int .i64 n3, .int .i64 n4, .int .i64 n5] 23) = w0 at hS ⊢
  obtain ⟨M, hM⟩ : ∃ M, M = w0.heap.size := ⟨_, rfl⟩
  have hMB : w.heap.size ≤ M := hM ▸ hS.1.size
  have ltM := hS.lt
  rw [← hM] at ltM
  refine hide_held fun t0 HT => ?_
  have HS : t0.size = 56 := by rw [HT]; rfl
  have h1 : t0[1]? = some (.int .i64 k) := by rw [HT]; rfl
  have h2 : t0[2]? = some (.int .i64 n) := by rw [HT]; rfl
  have h3 : t0[3]? = some (.pointer (some ⟨w.heap.size, 0, none⟩)) := by rw [HT]; rfl
  clear HT
  refine wp_list_most 7 (fun i => [13, 14, 15, 12, 16, 17, 8].getD i 0) (fun i => [none, none, none, none, none, none, some 3].getD i none) (fun i => [(· = .agg #[.int .i64 n0, .int .i64 n1, .int .i64 n2, .int .i64 n3, .int .i64 n4, .int .i64 n5]), (· = .int .i64 k), (· = .tuple #[.agg #[.int .i64 rq, .int .i64 rp, .int .i64 rc], .int .i64 0]), (· = .tuple #[.agg #[.int .i64 rq, .int .i64 rp, .int .i64 rc], .int .i64 0]), (· = .agg #[.int .i64 rq, .int .i64 rp, .int .i64 rc]), (· = .int .i64 0), (fun _ => True)].getD i (fun _ => True)) (fun w' => Own w [(w.heap.size, 6, (· = .agg #[.int .i64 n0, .int .i64 n1, .int .i64 n2, .int .i64 n3, .int .i64 n4, .int .i64 n5]))] w' ∧ M ≤ w'.heap.size) M
    (by kernel_rfl) (slots_apart (by kernel_rfl)) (slots_lie (by rw [HS]; kernel_rfl)) ⟨hS, Nat.le_of_eq hM⟩ (fun w' h => h.2) (fun w1 w2 h b => ⟨h.1.keep b, Nat.le_trans h.2 b.size⟩) ?_ ?_ ?_
  · clear hS
    intro i o hi ho hA
    have hc : i = 0 ∨ i = 1 ∨ i = 2 ∨ i = 3 ∨ i = 4 ∨ i = 5 ∨ i = 6 := by omega
    rcases hc with rfl | rfl | rfl | rfl | rfl | rfl | rfl
    · obtain rfl := Option.some.inj ho
      refine ⟨rfl, fun a w' hS hold hin K hK => ?_⟩
      refine if_always rfl ?_
      exact op_ld_own 6 tConf (.tmp 3) rfl rfl _ (eval_tmp ((hold 3 (slots_not (by kernel_rfl))).trans h3)) hS.1 0 rfl hK
    · obtain rfl := Option.some.inj ho
      refine ⟨rfl, fun a w' hS hold hin K hK => ?_⟩
      refine if_always rfl ?_
      exact op_move (V := (· = .int .i64 k)) _ _ rfl rfl (eval_tmp ((hold 1 (slots_not (by kernel_rfl))).trans h1)) rfl hK
    · obtain rfl := Option.some.inj ho
      refine ⟨rfl, fun a w' hS hold hin K hK => ?_⟩
      obtain ⟨y0, x0, rfl⟩ := hin 0 rfl (by omega) rfl
      obtain ⟨y1, x1, rfl⟩ := hin 1 rfl (by omega) rfl
      refine if_always rfl ?_
      exact op_fn2 _ _ _ _ _ _ rfl rfl (eval_tmp x0) (eval_tmp x1) (by intro args w; kernel_rfl) (measure_ev HMS.out _) hK
    · obtain rfl := Option.some.inj ho
      refine ⟨rfl, fun a w' hS hold hin K hK => ?_⟩
      obtain ⟨y2, x2, rfl⟩ := hin 2 rfl (by omega) rfl
      refine if_always rfl ?_
      exact op_move (V := (· = .tuple #[.agg #[.int .i64 rq, .int .i64 rp, .int .i64 rc], .int .i64 0])) _ _ rfl rfl (eval_tmp x2) rfl hK
    · obtain rfl := Option.some.inj ho
      refine ⟨rfl, fun a w' hS hold hin K hK => ?_⟩
      obtain ⟨y3, x3, rfl⟩ := hin 3 rfl (by omega) rfl
      refine if_always rfl ?_
      exact op_tup0 (V := (· = .agg #[.int .i64 rq, .int .i64 rp, .int .i64 rc])) _ rfl rfl (eval_tmp x3) rfl hK
    · obtain rfl := Option.some.inj ho
      refine ⟨rfl, fun a w' hS hold hin K hK => ?_⟩
      obtain ⟨y3, x3, rfl⟩ := hin 3 rfl (by omega) rfl
      refine if_always rfl ?_
      exact op_tup1 (V := (· = .int .i64 0)) _ rfl rfl (eval_tmp x3) rfl hK
    · cases hA
  · intro i o sz hi ho hA
    have hc : i = 0 ∨ i = 1 ∨ i = 2 ∨ i = 3 ∨ i = 4 ∨ i = 5 ∨ i = 6 := by omega
    rcases hc with rfl | rfl | rfl | rfl | rfl | rfl | rfl
    · cases hA
    · cases hA
    · cases hA
    · cases hA
    · cases hA
    · cases hA
    · obtain rfl := Option.some.inj ho
      obtain rfl := Option.some.inj hA
      exact ⟨rfl, rfl, 75, #[.int .i64 0, .int .i64 0, .int .i64 0], rfl, fun a w' K h => wp_new 75 #[.int .i64 0, .int .i64 0, .int .i64 0] (fun w => by kernel_rfl) h⟩
  clear hS
  intro t1 V1 hs hold hout hall hne hS
  replace HS := hs.trans HS
  replace hS := hS.1
  obtain ⟨gz, h8, b8, r8⟩ : ∃ g, t1[8]? = some (.pointer (some ⟨g, 0, none⟩)) ∧ M ≤ g ∧ ∃ cs ty, V1.heap[g]? = some (.cells cs ty (0, 0)) ∧ cs.size = 3 := by
    obtain ⟨g, p1, p2, ty, cs, p3, p4⟩ := hall 6 (by omega) 3 rfl
    exact ⟨g, p1, p2, cs, ty, p3, p4⟩
  replace hS : Own w [(w.heap.size, 6, (· = .agg #[.int .i64 n0, .int .i64 n1, .int .i64 n2, .int .i64 n3, .int .i64 n4, .int .i64 n5])), (gz, 3, (fun _ => True))] V1 := hS.add (Nat.le_trans hMB b8) (fun r hr => Nat.ne_of_lt (Nat.lt_of_lt_of_le (ltM r hr) b8)) (Own.any r8)
  obtain ⟨x16, q16, v16⟩ : ∃ x, t1[16]? = some x ∧ ((· = .agg #[.int .i64 rq, .int .i64 rp, .int .i64 rc])) x := hout 4 (by omega) rfl
  replace q16 : t1[16]? = some (.agg #[.int .i64 rq, .int .i64 rp, .int .i64 rc]) := q16.trans (congrArg some v16)
  obtain ⟨x17, q17, v17⟩ : ∃ x, t1[17]? = some x ∧ ((· = .int .i64 0)) x := hout 5 (by omega) rfl
  replace q17 : t1[17]? = some (.int .i64 0) := q17.trans (congrArg some v17)
  replace h1 := (hold 1 (slots_not (by kernel_rfl))).trans h1
  replace h2 := (hold 2 (slots_not (by kernel_rfl))).trans h2
  replace h3 := (hold 3 (slots_not (by kernel_rfl))).trans h3
  clear hold hout hs hall hne
  simp only [List.drop_succ_cons, List.drop_zero]
  refine st_own 3 tSizes rfl (.tmp 8) (.tmp 16) rfl rfl _ _ (eval_tmp h8) (eval_tmp q16) (V' := (· = .agg #[.int .i64 rq, .int .i64 rp, .int .i64 rc])) rfl by_sizes hS 1 rfl fun V1' hS' _ => ?_
  replace hS : Own w [(w.heap.size, 6, (· = .agg #[.int .i64 n0, .int .i64 n1, .int .i64 n2, .int .i64 n3, .int .i64 n4, .int .i64 n5])), (gz, 3, (· = .agg #[.int .i64 rq, .int .i64 rp, .int .i64 rc]))] V1' := hS'
  clear hS'
  refine tlx_assign (.tmp 17) rfl rfl 9 rfl (by rw [HS]; decide) (.int .i64 0) (eval_tmp q17) fun t1 ex0 hz hq he => ?_
  replace h1 := (he 1 (by decide)).trans h1
  replace h2 := (he 2 (by decide)).trans h2
  replace h3 := (he 3 (by decide)).trans h3
  replace h8 := (he 8 (by decide)).trans h8
  replace q16 := (he 16 (by decide)).trans q16
  replace q17 := (he 17 (by decide)).trans q17
  replace HS := hz.trans HS
  clear hz he ex0
  have h9 := hq
  clear hq
  refine wpList_nil ?_
  obtain ⟨f, e0, hf⟩ := wash HS
  have f1 := hf 1 _ h1
  have f2 := hf 2 _ h2
  have f3 := hf 3 _ h3
  have f8 := hf 8 _ h8
  have f9 := hf 9 _ h9
  clear hf
  rw [e0.trans (show _ = #[f 0, f 1, f 2, f 3, f 4, f 5, f 6, f 7, f 8, f 9, f 10, f 11, f 12, f 13, f 14, f 15, f 16, f 17, f 18, f 19, f 20, f 21, f 22, f 23, f 24, f 25, f 26, f 27, f 28, f 29, f 30, f 31, f 32, f 33, f 34, f 35, f 36, f 37, f 38, f 39, f 40, f 41, f 42, f 43, f 44, f 45, f 46, f 47, f 48, f 49, f 50, f 51, f 52, f 53, f 54, f 55] from by kernel_rfl), f1, f2, f3, f8, f9]
  clear f1 f2 f3 f8 f9
  clear e0
  try dsimp only
  clear h1 h2 h3 h8 h9 q16 q17 v16 v17 b8 r8 ltM hMB hM HS t1 t0 M
  obtain ⟨tc, R0⟩ := own_exact hS 0 rfl
  have r0 := row_cell R0 0
  simp only [List.getElem?_toArray, List.getElem?_cons_zero] at r0
  have hbel := hS.1
  clear hS R0
  go_wp2_with fail
  exact ⟨rfl, .tuple #[.int .i64 0, .int .i64 252], by kernel_rfl, _, rfl, rfl, hbel⟩
set_option maxHeartbeats 4000000 in
set_option maxRecDepth 100000 in
theorem pages_ok {n0 n1 n2 n4 n5 k rq rp : Int} {t rc n pd p1 p2 q1 q2 : Nat} (h : msr n0 n1 n2 t n4 n5 k = (rq, rp, (rc : Int), 0)) (hn : (n : Int) ≤ n0) (hb : n ≤ 256) (hr : 1 ≤ rc) (hrt : rc ≤ t) (ht : t ≤ 4096) (h32 : 32 ≤ t) (hpd : padN n = pd) (hp1 : t / rc = p1) (hp2 : t / 32 = p2) (hq1 : ceil pd p1 = q1) (hq2 : ceil n p2 = q2) (w : World) : Calls Tryd.prog 29 #[.agg #[.int .i64 n0, .int .i64 n1, .int .i64 n2, .int .i64 t, .int .i64 n4, .int .i64 n5], .int .i64 k, .int .i64 (n : Nat)] w (Gives (· = .tuple #[.int .i64 (q1 + q2 : Nat), .int .i64 0]) w) := by
  have hS := conf_start n0 n1 n2 t n4 n5 w
  have HMS := Lib.hid h
  have hpl := pad_le n hb
  rw [hpd] at hpl
  have hpp1 : 0 < p1 := hp1 ▸ Nat.div_pos hrt hr
  have hpp2 : 0 < p2 := hp2 ▸ Nat.div_pos h32 (by decide)
  have hc1 := ceil_le pd p1 hpp1
  have hc2 := ceil_le n p2 hpp2
  rw [hq1] at hc1
  rw [hq2] at hc2
  have HPAD := Lib.hid (fun w => pad_ev hb hpd w)
  have HS1 := Lib.hid (fun w => slots_ev (n := pd) hr hrt (by omega) ht hp1 hq1 w)
  have HS2 := Lib.hid (fun w => slots_ev (n := n) (size := 32) (by decide) h32 (by omega) ht hp2 hq2 w)
  clear h hpd hp1 hp2 hq1 hq2
  go_enter Tryd.func29, Tryd.ntmps29
  go_wp2_with ((with_reducible refine guard_list ?_); first | (refine held_load 23 _ rfl ?_))
  change Held (wpList _ _ _ _ _ (w.alloc (.cells #[.int .i64 n0, .int .i64 n1, .int .i64 n2, .int .i64 t, .int .i64 n4, .int .i64 n5] 23)))
  generalize w.alloc (.cells #[.int .i64 n0, .int .i64 n1, .int .i64 n2, .int .i64 t, .int .i64 n4, .int .i64 n5] 23) = w0 at hS ⊢
  obtain ⟨M, hM⟩ : ∃ M, M = w0.heap.size := ⟨_, rfl⟩
  have hMB : w.heap.size ≤ M := hM ▸ hS.1.size
  have ltM := hS.lt
  rw [← hM] at ltM
  refine hide_held fun t0 HT => ?_
  have HS : t0.size = 56 := by rw [HT]; rfl
  have h1 : t0[1]? = some (.int .i64 k) := by rw [HT]; rfl
  have h2 : t0[2]? = some (.int .i64 (n : Nat)) := by rw [HT]; rfl
  have h3 : t0[3]? = some (.pointer (some ⟨w.heap.size, 0, none⟩)) := by rw [HT]; rfl
  clear HT
  refine wp_list_most 7 (fun i => [13, 14, 15, 12, 16, 17, 8].getD i 0) (fun i => [none, none, none, none, none, none, some 3].getD i none) (fun i => [(· = .agg #[.int .i64 n0, .int .i64 n1, .int .i64 n2, .int .i64 t, .int .i64 n4, .int .i64 n5]), (· = .int .i64 k), (· = .tuple #[.agg #[.int .i64 rq, .int .i64 rp, .int .i64 rc], .int .i64 0]), (· = .tuple #[.agg #[.int .i64 rq, .int .i64 rp, .int .i64 rc], .int .i64 0]), (· = .agg #[.int .i64 rq, .int .i64 rp, .int .i64 rc]), (· = .int .i64 0), (fun _ => True)].getD i (fun _ => True)) (fun w' => Own w [(w.heap.size, 6, (· = .agg #[.int .i64 n0, .int .i64 n1, .int .i64 n2, .int .i64 t, .int .i64 n4, .int .i64 n5]))] w' ∧ M ≤ w'.heap.size) M
    (by kernel_rfl) (slots_apart (by kernel_rfl)) (slots_lie (by rw [HS]; kernel_rfl)) ⟨hS, Nat.le_of_eq hM⟩ (fun w' h => h.2) (fun w1 w2 h b => ⟨h.1.keep b, Nat.le_trans h.2 b.size⟩) ?_ ?_ ?_
  · clear hS
    intro i o hi ho hA
    have hc : i = 0 ∨ i = 1 ∨ i = 2 ∨ i = 3 ∨ i = 4 ∨ i = 5 ∨ i = 6 := by omega
    rcases hc with rfl | rfl | rfl | rfl | rfl | rfl | rfl
    · obtain rfl := Option.some.inj ho
      refine ⟨rfl, fun a w' hS hold hin K hK => ?_⟩
      refine if_always rfl ?_
      exact op_ld_own 6 tConf (.tmp 3) rfl rfl _ (eval_tmp ((hold 3 (slots_not (by kernel_rfl))).trans h3)) hS.1 0 rfl hK
    · obtain rfl := Option.some.inj ho
      refine ⟨rfl, fun a w' hS hold hin K hK => ?_⟩
      refine if_always rfl ?_
      exact op_move (V := (· = .int .i64 k)) _ _ rfl rfl (eval_tmp ((hold 1 (slots_not (by kernel_rfl))).trans h1)) rfl hK
    · obtain rfl := Option.some.inj ho
      refine ⟨rfl, fun a w' hS hold hin K hK => ?_⟩
      obtain ⟨y0, x0, rfl⟩ := hin 0 rfl (by omega) rfl
      obtain ⟨y1, x1, rfl⟩ := hin 1 rfl (by omega) rfl
      refine if_always rfl ?_
      exact op_fn2 _ _ _ _ _ _ rfl rfl (eval_tmp x0) (eval_tmp x1) (by intro args w; kernel_rfl) (measure_ev HMS.out _) hK
    · obtain rfl := Option.some.inj ho
      refine ⟨rfl, fun a w' hS hold hin K hK => ?_⟩
      obtain ⟨y2, x2, rfl⟩ := hin 2 rfl (by omega) rfl
      refine if_always rfl ?_
      exact op_move (V := (· = .tuple #[.agg #[.int .i64 rq, .int .i64 rp, .int .i64 rc], .int .i64 0])) _ _ rfl rfl (eval_tmp x2) rfl hK
    · obtain rfl := Option.some.inj ho
      refine ⟨rfl, fun a w' hS hold hin K hK => ?_⟩
      obtain ⟨y3, x3, rfl⟩ := hin 3 rfl (by omega) rfl
      refine if_always rfl ?_
      exact op_tup0 (V := (· = .agg #[.int .i64 rq, .int .i64 rp, .int .i64 rc])) _ rfl rfl (eval_tmp x3) rfl hK
    · obtain rfl := Option.some.inj ho
      refine ⟨rfl, fun a w' hS hold hin K hK => ?_⟩
      obtain ⟨y3, x3, rfl⟩ := hin 3 rfl (by omega) rfl
      refine if_always rfl ?_
      exact op_tup1 (V := (· = .int .i64 0)) _ rfl rfl (eval_tmp x3) rfl hK
    · cases hA
  · intro i o sz hi ho hA
    have hc : i = 0 ∨ i = 1 ∨ i = 2 ∨ i = 3 ∨ i = 4 ∨ i = 5 ∨ i = 6 := by omega
    rcases hc with rfl | rfl | rfl | rfl | rfl | rfl | rfl
    · cases hA
    · cases hA
    · cases hA
    · cases hA
    · cases hA
    · cases hA
    · obtain rfl := Option.some.inj ho
      obtain rfl := Option.some.inj hA
      exact ⟨rfl, rfl, 75, #[.int .i64 0, .int .i64 0, .int .i64 0], rfl, fun a w' K h => wp_new 75 #[.int .i64 0, .int .i64 0, .int .i64 0] (fun w => by kernel_rfl) h⟩
  clear hS
  intro t1 V1 hs hold hout hall hne hS
  replace HS := hs.trans HS
  replace hS := hS.1
  obtain ⟨gz, h8, b8, r8⟩ : ∃ g, t1[8]? = some (.pointer (some ⟨g, 0, none⟩)) ∧ M ≤ g ∧ ∃ cs ty, V1.heap[g]? = some (.cells cs ty (0, 0)) ∧ cs.size = 3 := by
    obtain ⟨g, p1, p2, ty, cs, p3, p4⟩ := hall 6 (by omega) 3 rfl
    exact ⟨g, p1, p2, cs, ty, p3, p4⟩
  replace hS : Own w [(w.heap.size, 6, (· = .agg #[.int .i64 n0, .int .i64 n1, .int .i64 n2, .int .i64 t, .int .i64 n4, .int .i64 n5])), (gz, 3, (fun _ => True))] V1 := hS.add (Nat.le_trans hMB b8) (fun r hr => Nat.ne_of_lt (Nat.lt_of_lt_of_le (ltM r hr) b8)) (Own.any r8)
  obtain ⟨x16, q16, v16⟩ : ∃ x, t1[16]? = some x ∧ ((· = .agg #[.int .i64 rq, .int .i64 rp, .int .i64 rc])) x := hout 4 (by omega) rfl
  replace q16 : t1[16]? = some (.agg #[.int .i64 rq, .int .i64 rp, .int .i64 rc]) := q16.trans (congrArg some v16)
  obtain ⟨x17, q17, v17⟩ : ∃ x, t1[17]? = some x ∧ ((· = .int .i64 0)) x := hout 5 (by omega) rfl
  replace q17 : t1[17]? = some (.int .i64 0) := q17.trans (congrArg some v17)
  replace h1 := (hold 1 (slots_not (by kernel_rfl))).trans h1
  replace h2 := (hold 2 (slots_not (by kernel_rfl))).trans h2
  replace h3 := (hold 3 (slots_not (by kernel_rfl))).trans h3
  clear hold hout hs hall hne
  simp only [List.drop_succ_cons, List.drop_zero]
  refine st_own 3 tSizes rfl (.tmp 8) (.tmp 16) rfl rfl _ _ (eval_tmp h8) (eval_tmp q16) (V' := (· = .agg #[.int .i64 rq, .int .i64 rp, .int .i64 rc])) rfl by_sizes hS 1 rfl fun V1' hS' _ => ?_
  replace hS : Own w [(w.heap.size, 6, (· = .agg #[.int .i64 n0, .int .i64 n1, .int .i64 n2, .int .i64 t, .int .i64 n4, .int .i64 n5])), (gz, 3, (· = .agg #[.int .i64 rq, .int .i64 rp, .int .i64 rc]))] V1' := hS'
  clear hS'
  refine tlx_assign (.tmp 17) rfl rfl 9 rfl (by rw [HS]; decide) (.int .i64 0) (eval_tmp q17) fun t1 ex0 hz hq he => ?_
  replace h1 := (he 1 (by decide)).trans h1
  replace h2 := (he 2 (by decide)).trans h2
  replace h3 := (he 3 (by decide)).trans h3
  replace h8 := (he 8 (by decide)).trans h8
  replace q16 := (he 16 (by decide)).trans q16
  replace q17 := (he 17 (by decide)).trans q17
  replace HS := hz.trans HS
  clear hz he ex0
  have h9 := hq
  clear hq
  refine wpList_nil ?_
  obtain ⟨f, e0, hf⟩ := wash HS
  have f1 := hf 1 _ h1
  have f2 := hf 2 _ h2
  have f3 := hf 3 _ h3
  have f8 := hf 8 _ h8
  have f9 := hf 9 _ h9
  clear hf
  rw [e0.trans (show _ = #[f 0, f 1, f 2, f 3, f 4, f 5, f 6, f 7, f 8, f 9, f 10, f 11, f 12, f 13, f 14, f 15, f 16, f 17, f 18, f 19, f 20, f 21, f 22, f 23, f 24, f 25, f 26, f 27, f 28, f 29, f 30, f 31, f 32, f 33, f 34, f 35, f 36, f 37, f 38, f 39, f 40, f 41, f 42, f 43, f 44, f 45, f 46, f 47, f 48, f 49, f 50, f 51, f 52, f 53, f 54, f 55] from by kernel_rfl), f1, f2, f3, f8, f9]
  clear f1 f2 f3 f8 f9
  clear e0
  try dsimp only
  clear h1 h2 h3 h8 h9 q16 q17 v16 v17 b8 r8 ltM hMB hM HS t1 t0 M
  obtain ⟨tc, R0⟩ := own_exact hS 0 rfl
  have r0 := row_cell R0 0
  simp only [List.getElem?_toArray, List.getElem?_cons_zero] at r0
  have HSo := Lib.hid hS
  clear hS R0
  go_wp2_with fail
  clear r0
  have hS := HSo.out
  clear HSo
  obtain ⟨M, hM⟩ : ∃ M, M = V1'.heap.size := ⟨_, rfl⟩
  refine hide_frame fun t0 HT => ?_
  have HS : t0.size = 56 := by rw [HT]; rfl
  have h1 : t0[1]? = some (.int .i64 k) := by rw [HT]; rfl
  have h2 : t0[2]? = some (.int .i64 (n : Nat)) := by rw [HT]; rfl
  have h3 : t0[3]? = some (.pointer (some ⟨w.heap.size, 0, none⟩)) := by rw [HT]; rfl
  have h8 : t0[8]? = some (.pointer (some ⟨gz, 0, none⟩)) := by rw [HT]; rfl
  have h9 : t0[9]? = some (.int .i64 0) := by rw [HT]; rfl
  clear HT
  refine wp_region_all 11 (fun i => [31, 32, 33, 34, 35, 36, 37, 30, 38, 39, 10, 9].getD i 0) (fun i => [(· = .int .i64 (n : Nat)), (· = .int .i64 pd), (· = .pointer (some ⟨gz, 2, none⟩)), (· = .int .i64 rc), (· = .pointer (some ⟨w.heap.size, 3, none⟩)), (· = .int .i64 t), (· = .tuple #[.int .i64 q1, .int .i64 0]), (· = .tuple #[.int .i64 q1, .int .i64 0]), (· = .int .i64 q1), (· = .int .i64 0), (· = .int .i64 q1), (· = .int .i64 0)].getD i (fun _ => True)) (fun w' => Own w [(w.heap.size, 6, (· = .agg #[.int .i64 n0, .int .i64 n1, .int .i64 n2, .int .i64 t, .int .i64 n4, .int .i64 n5])), (gz, 3, (· = .agg #[.int .i64 rq, .int .i64 rp, .int .i64 rc]))] w' ∧ M ≤ w'.heap.size)
    (by kernel_rfl) (by kernel_rfl) (by kernel_rfl) (slots_apart (by kernel_rfl)) (slots_lie (by rw [HS]; kernel_rfl)) ⟨hS.drew, Nat.le_of_eq hM⟩ (fun w1 w2 h b => ⟨h.1.keep b, Nat.le_trans h.2 b.size⟩) ?_ ?_
  · clear hS
    intro i o hi ho
    have hc : i = 0 ∨ i = 1 ∨ i = 2 ∨ i = 3 ∨ i = 4 ∨ i = 5 ∨ i = 6 ∨ i = 7 ∨ i = 8 ∨ i = 9 ∨ i = 10 ∨ i = 11 := by omega
    rcases hc with rfl | rfl | rfl | rfl | rfl | rfl | rfl | rfl | rfl | rfl | rfl | rfl
    · obtain rfl := Option.some.inj ho
      refine ⟨rfl, fun a w' hS hold hin K hK => ?_⟩
      refine if_always rfl ?_
      exact op_move (V := (· = .int .i64 (n : Nat))) _ _ rfl rfl (eval_tmp ((hold 2 (slots_not (by kernel_rfl))).trans h2)) rfl hK
    · obtain rfl := Option.some.inj ho
      refine ⟨rfl, fun a w' hS hold hin K hK => ?_⟩
      obtain ⟨y0, x0, rfl⟩ := hin 0 rfl (by omega)
      refine if_always rfl ?_
      exact op_fn1 _ _ _ _ rfl rfl (eval_tmp x0) (by intro args w; kernel_rfl) (HPAD.out _) hK
    · obtain rfl := Option.some.inj ho
      refine ⟨rfl, fun a w' hS hold hin K hK => ?_⟩
      refine if_always rfl ?_
      exact op_field 75 _ 2 _ (.pointer (some ⟨gz, 2, none⟩)) rfl rfl (eval_tmp ((hold 8 (slots_not (by kernel_rfl))).trans h8)) (fun w => by kernel_rfl) hK
    · obtain rfl := Option.some.inj ho
      refine ⟨rfl, fun a w' hS hold hin K hK => ?_⟩
      obtain ⟨y2, x2, rfl⟩ := hin 2 rfl (by omega)
      refine if_always rfl ?_
      exact op_cell_own tInt _ gz 2 rfl rfl (eval_tmp x2) hS.1 1 _ _ rfl (.int .i64 rc) rfl hK
    · obtain rfl := Option.some.inj ho
      refine ⟨rfl, fun a w' hS hold hin K hK => ?_⟩
      refine if_always rfl ?_
      exact op_field 23 _ 3 _ (.pointer (some ⟨w.heap.size, 3, none⟩)) rfl rfl (eval_tmp ((hold 3 (slots_not (by kernel_rfl))).trans h3)) (fun w => by kernel_rfl) hK
    · obtain rfl := Option.some.inj ho
      refine ⟨rfl, fun a w' hS hold hin K hK => ?_⟩
      obtain ⟨y4, x4, rfl⟩ := hin 4 rfl (by omega)
      refine if_always rfl ?_
      exact op_cell_own tInt _ w.heap.size 3 rfl rfl (eval_tmp x4) hS.1 0 _ _ rfl (.int .i64 t) rfl hK
    · obtain rfl := Option.some.inj ho
      refine ⟨rfl, fun a w' hS hold hin K hK => ?_⟩
      obtain ⟨y1, x1, rfl⟩ := hin 1 rfl (by omega)
      obtain ⟨y3, x3, rfl⟩ := hin 3 rfl (by omega)
      obtain ⟨y5, x5, rfl⟩ := hin 5 rfl (by omega)
      refine if_always rfl ?_
      exact op_fn3 _ _ _ _ _ _ _ _ rfl rfl (eval_tmp x1) (eval_tmp x3) (eval_tmp x5) (by intro args w; kernel_rfl) (HS1.out _) hK
    · obtain rfl := Option.some.inj ho
      refine ⟨rfl, fun a w' hS hold hin K hK => ?_⟩
      obtain ⟨y6, x6, rfl⟩ := hin 6 rfl (by omega)
      refine if_always rfl ?_
      exact op_move (V := (· = .tuple #[.int .i64 q1, .int .i64 0])) _ _ rfl rfl (eval_tmp x6) rfl hK
    · obtain rfl := Option.some.inj ho
      refine ⟨rfl, fun a w' hS hold hin K hK => ?_⟩
      obtain ⟨y7, x7, rfl⟩ := hin 7 rfl (by omega)
      refine if_always rfl ?_
      exact op_tup0 (V := (· = .int .i64 q1)) _ rfl rfl (eval_tmp x7) rfl hK
    · obtain rfl := Option.some.inj ho
      refine ⟨rfl, fun a w' hS hold hin K hK => ?_⟩
      obtain ⟨y7, x7, rfl⟩ := hin 7 rfl (by omega)
      refine if_always rfl ?_
      exact op_tup1 (V := (· = .int .i64 0)) _ rfl rfl (eval_tmp x7) rfl hK
    · obtain rfl := Option.some.inj ho
      refine ⟨rfl, fun a w' hS hold hin K hK => ?_⟩
      obtain ⟨y8, x8, rfl⟩ := hin 8 rfl (by omega)
      refine if_always rfl ?_
      exact op_assign (V := (· = .int .i64 q1)) _ _ rfl rfl (eval_tmp x8) rfl hK
    · obtain rfl := Option.some.inj ho
      refine ⟨rfl, fun a w' hS hold hin K hK => ?_⟩
      obtain ⟨y9, x9, rfl⟩ := hin 9 rfl (by omega)
      refine if_always rfl ?_
      exact op_assign (V := (· = .int .i64 0)) _ _ rfl rfl (eval_tmp x9) rfl hK
  clear hS
  intro t1 V2 hs hold hout hS
  replace HS := hs.trans HS
  replace hS := hS.1
  obtain ⟨_, q10, rfl⟩ : ∃ x, t1[10]? = some x ∧ x = (.int .i64 q1 : Value) := hout 10 (by omega)
  obtain ⟨_, q9, rfl⟩ : ∃ x, t1[9]? = some x ∧ x = (.int .i64 0 : Value) := hout 11 (by omega)
  clear h9
  replace h1 := (hold 1 (slots_not (by kernel_rfl))).trans h1
  replace h2 := (hold 2 (slots_not (by kernel_rfl))).trans h2
  replace h3 := (hold 3 (slots_not (by kernel_rfl))).trans h3
  replace h8 := (hold 8 (slots_not (by kernel_rfl))).trans h8
  clear hold hout hs
  obtain ⟨f, e0, hf⟩ := wash HS
  have f1 := hf 1 _ h1
  have f2 := hf 2 _ h2
  have f3 := hf 3 _ h3
  have f8 := hf 8 _ h8
  have f10 := hf 10 _ q10
  have f9 := hf 9 _ q9
  clear hf
  rw [e0.trans (show _ = #[f 0, f 1, f 2, f 3, f 4, f 5, f 6, f 7, f 8, f 9, f 10, f 11, f 12, f 13, f 14, f 15, f 16, f 17, f 18, f 19, f 20, f 21, f 22, f 23, f 24, f 25, f 26, f 27, f 28, f 29, f 30, f 31, f 32, f 33, f 34, f 35, f 36, f 37, f 38, f 39, f 40, f 41, f 42, f 43, f 44, f 45, f 46, f 47, f 48, f 49, f 50, f 51, f 52, f 53, f 54, f 55] from by kernel_rfl), f1, f2, f3, f8, f10, f9]
  clear f1 f2 f3 f8 f10 f9
  clear e0
  try dsimp only
  clear h1 h2 h3 h8 q10 q9 hM HS t1 t0 M
  go_wp2_with ((with_reducible refine guard_list ?_); first | (refine held_load 3 _ rfl ?_))
  obtain ⟨M, hM⟩ : ∃ M, M = V2.heap.size := ⟨_, rfl⟩
  refine hide_held fun t0 HT => ?_
  have HS : t0.size = 56 := by rw [HT]; rfl
  have h1 : t0[1]? = some (.int .i64 k) := by rw [HT]; rfl
  have h2 : t0[2]? = some (.int .i64 (n : Nat)) := by rw [HT]; rfl
  have h3 : t0[3]? = some (.pointer (some ⟨w.heap.size, 0, none⟩)) := by rw [HT]; rfl
  have h8 : t0[8]? = some (.pointer (some ⟨gz, 0, none⟩)) := by rw [HT]; rfl
  have h10 : t0[10]? = some (.int .i64 q1) := by rw [HT]; rfl
  have h9 : t0[9]? = some (.int .i64 0) := by rw [HT]; rfl
  refine wp_from_most 7 (fun i => [44, 45, 46, 47, 43, 48, 49].getD i 0) (fun _ => none) (fun i => [(· = .int .i64 (n : Nat)), (· = .pointer (some ⟨w.heap.size, 3, none⟩)), (· = .int .i64 t), (· = .tuple #[.int .i64 q2, .int .i64 0]), (· = .tuple #[.int .i64 q2, .int .i64 0]), (· = .int .i64 q2), (· = .int .i64 0)].getD i (fun _ => True)) (fun w' => Own w [(w.heap.size, 6, (· = .agg #[.int .i64 n0, .int .i64 n1, .int .i64 n2, .int .i64 t, .int .i64 n4, .int .i64 n5])), (gz, 3, (· = .agg #[.int .i64 rq, .int .i64 rp, .int .i64 rc]))] w' ∧ M ≤ w'.heap.size) M
    2 (by omega) (by kernel_rfl) ?_ (slots_apart (by kernel_rfl)) (slots_lie (by rw [HS]; kernel_rfl)) ⟨hS, Nat.le_of_eq hM⟩ (fun w' h => h.2) (fun w1 w2 h b => ⟨h.1.keep b, Nat.le_trans h.2 b.size⟩) ?_ ?_ ?_
  · intro j hj _
    have hc : j = 0 ∨ j = 1 := by omega
    rcases hc with rfl | rfl
    · exact ⟨rfl, _, by rw [HT]; rfl, rfl⟩
    · exact ⟨rfl, _, by rw [HT]; rfl, rfl⟩
  · clear hS
    intro i o h0i hi ho hA
    have hc : i = 2 ∨ i = 3 ∨ i = 4 ∨ i = 5 ∨ i = 6 := by omega
    rcases hc with rfl | rfl | rfl | rfl | rfl
    · obtain rfl := Option.some.inj ho
      refine ⟨rfl, fun a w' hS hold hin K hK => ?_⟩
      obtain ⟨y1, x1, rfl⟩ := hin 1 rfl (by omega) rfl
      refine if_always rfl ?_
      exact op_cell_own tInt _ w.heap.size 3 rfl rfl (eval_tmp x1) hS.1 0 _ _ rfl (.int .i64 t) rfl hK
    · obtain rfl := Option.some.inj ho
      refine ⟨rfl, fun a w' hS hold hin K hK => ?_⟩
      obtain ⟨y0, x0, rfl⟩ := hin 0 rfl (by omega) rfl
      obtain ⟨y2, x2, rfl⟩ := hin 2 rfl (by omega) rfl
      refine if_always rfl ?_
      exact op_fn3 _ _ _ _ _ _ _ _ rfl rfl (eval_tmp x0) rfl (eval_tmp x2) (by intro args w; kernel_rfl) (HS2.out _) hK
    · obtain rfl := Option.some.inj ho
      refine ⟨rfl, fun a w' hS hold hin K hK => ?_⟩
      obtain ⟨y3, x3, rfl⟩ := hin 3 rfl (by omega) rfl
      refine if_always rfl ?_
      exact op_move (V := (· = .tuple #[.int .i64 q2, .int .i64 0])) _ _ rfl rfl (eval_tmp x3) rfl hK
    · obtain rfl := Option.some.inj ho
      refine ⟨rfl, fun a w' hS hold hin K hK => ?_⟩
      obtain ⟨y4, x4, rfl⟩ := hin 4 rfl (by omega) rfl
      refine if_always rfl ?_
      exact op_tup0 (V := (· = .int .i64 q2)) _ rfl rfl (eval_tmp x4) rfl hK
    · obtain rfl := Option.some.inj ho
      refine ⟨rfl, fun a w' hS hold hin K hK => ?_⟩
      obtain ⟨y4, x4, rfl⟩ := hin 4 rfl (by omega) rfl
      refine if_always rfl ?_
      exact op_tup1 (V := (· = .int .i64 0)) _ rfl rfl (eval_tmp x4) rfl hK
  · intro i o sz h0i hi ho hA; cases hA
  clear hS
  intro t1 V3 hs hold hout hall hne hS
  replace HS := hs.trans HS
  replace hS := hS.1
  obtain ⟨x48, q48, v48⟩ : ∃ x, t1[48]? = some x ∧ ((· = .int .i64 q2)) x := hout 5 (by omega) rfl
  replace q48 : t1[48]? = some (.int .i64 q2) := q48.trans (congrArg some v48)
  obtain ⟨x49, q49, v49⟩ : ∃ x, t1[49]? = some x ∧ ((· = .int .i64 0)) x := hout 6 (by omega) rfl
  replace q49 : t1[49]? = some (.int .i64 0) := q49.trans (congrArg some v49)
  replace h1 := (hold 1 (slots_not (by kernel_rfl))).trans h1
  replace h2 := (hold 2 (slots_not (by kernel_rfl))).trans h2
  replace h3 := (hold 3 (slots_not (by kernel_rfl))).trans h3
  replace h8 := (hold 8 (slots_not (by kernel_rfl))).trans h8
  replace h10 := (hold 10 (slots_not (by kernel_rfl))).trans h10
  replace h9 := (hold 9 (slots_not (by kernel_rfl))).trans h9
  clear hold hout hs hall hne
  simp only [List.drop_succ_cons, List.drop_zero]
  refine tlx_assign (.tmp 48) rfl rfl 11 rfl (by rw [HS]; decide) (.int .i64 q2) (eval_tmp q48) fun t1 ex0 hz hq he => ?_
  replace h1 := (he 1 (by decide)).trans h1
  replace h2 := (he 2 (by decide)).trans h2
  replace h3 := (he 3 (by decide)).trans h3
  replace h8 := (he 8 (by decide)).trans h8
  replace h10 := (he 10 (by decide)).trans h10
  replace h9 := (he 9 (by decide)).trans h9
  replace q48 := (he 48 (by decide)).trans q48
  replace q49 := (he 49 (by decide)).trans q49
  replace HS := hz.trans HS
  clear hz he ex0
  have h11 := hq
  clear hq
  refine tlx_assign (.tmp 49) rfl rfl 9 rfl (by rw [HS]; decide) (.int .i64 0) (eval_tmp q49) fun t1 ex1 hz hq he => ?_
  replace h1 := (he 1 (by decide)).trans h1
  replace h2 := (he 2 (by decide)).trans h2
  replace h3 := (he 3 (by decide)).trans h3
  replace h8 := (he 8 (by decide)).trans h8
  replace h10 := (he 10 (by decide)).trans h10
  replace h11 := (he 11 (by decide)).trans h11
  replace q48 := (he 48 (by decide)).trans q48
  replace q49 := (he 49 (by decide)).trans q49
  replace HS := hz.trans HS
  clear hz he ex1
  clear h9
  have h9 := hq
  clear hq
  refine wpList_nil ?_
  clear HT
  obtain ⟨f, e0, hf⟩ := wash HS
  have f1 := hf 1 _ h1
  have f2 := hf 2 _ h2
  have f3 := hf 3 _ h3
  have f8 := hf 8 _ h8
  have f10 := hf 10 _ h10
  have f9 := hf 9 _ h9
  have f11 := hf 11 _ h11
  clear hf
  rw [e0.trans (show _ = #[f 0, f 1, f 2, f 3, f 4, f 5, f 6, f 7, f 8, f 9, f 10, f 11, f 12, f 13, f 14, f 15, f 16, f 17, f 18, f 19, f 20, f 21, f 22, f 23, f 24, f 25, f 26, f 27, f 28, f 29, f 30, f 31, f 32, f 33, f 34, f 35, f 36, f 37, f 38, f 39, f 40, f 41, f 42, f 43, f 44, f 45, f 46, f 47, f 48, f 49, f 50, f 51, f 52, f 53, f 54, f 55] from by kernel_rfl), f1, f2, f3, f8, f10, f9, f11]
  clear f1 f2 f3 f8 f10 f9 f11
  clear e0
  try dsimp only
  clear h1 h2 h3 h8 h10 h9 h11 q48 q49 v48 v49 hM HS t1 t0 M
  have hbel := hS.1
  clear hS
  go_wp2_with fail
  have e : (q1 : Int) + q2 = ((q1 + q2 : Nat) : Int) := by omega
  exact ⟨rfl, .tuple #[.int .i64 ((q1 : Int) + q2), .int .i64 0], by kernel_rfl, _, rfl, by rw [e], hbel⟩
end Go.Proofs.YtmochmpamgfboabDoor
