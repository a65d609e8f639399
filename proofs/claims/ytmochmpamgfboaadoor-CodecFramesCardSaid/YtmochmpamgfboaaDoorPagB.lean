/- Sizes of a config's kinds: codec.measure, RequestSize, ReplySize. No condition. -/
import Derived.Test.YtmochmpamgfboaaDoorPagA
namespace Go.Proofs.YtmochmpamgfboaaDoor
open Go.RowKit
theorem held_fn {P : Program} {ops : Array Oper} {rest : List Oper} {o : Oper} {Q : Exit → Act → World → Prop} {a : Act} {w : World} (f : FuncId) (args : Array Operand) (tys : Array TypeId) (_ : o.op = .call { callee := .value (.func f), args := args, argTypes := tys }) (h : Held (wpList P ops Q (o :: rest) a w)) : wpList P ops Q (o :: rest) a w := h
theorem held_build {P : Program} {ops : Array Oper} {rest : List Oper} {o : Oper} {Q : Exit → Act → World → Prop} {a : Act} {w : World} (t : TypeId) (ps : Array (Nat × Operand)) (_ : o.op = .build t ps) (h : Held (wpList P ops Q (o :: rest) a w)) : wpList P ops Q (o :: rest) a w := h
theorem by_conf {a0 a1 a2 a3 a4 a5 : Int} : ∀ x : Value, x = .agg #[.int .i64 a0, .int .i64 a1, .int .i64 a2, .int .i64 a3, .int .i64 a4, .int .i64 a5] → ∃ cs, x = .agg cs ∧ cs.size = 6 ∧ cs.all (·.oneCell') = true := fun _ h => ⟨_, h, rfl, by simp [Value.oneCell']⟩
theorem by_sizes {a0 a1 a2 : Int} : ∀ x : Value, x = .agg #[.int .i64 a0, .int .i64 a1, .int .i64 a2] → ∃ cs, x = .agg cs ∧ cs.size = 3 ∧ cs.all (·.oneCell') = true := fun _ h => ⟨_, h, rfl, by simp [Value.oneCell']⟩
theorem tSizes : RowT Tryd.prog 81 3 := ⟨_, Tryd.underlying81, rfl, by kernel_rfl⟩
theorem chk_yes {n0 n1 n2 n3 n4 n5 : Int} (h : good n0 n1 n2 n3 n4 n5 = true) (w : World) : Calls Tryd.prog 37 #[.agg #[.int .i64 n0, .int .i64 n1, .int .i64 n2, .int .i64 n3, .int .i64 n4, .int .i64 n5]] w (Gives (· = .int .i64 0) w) :=
  (check20_any n0 n1 n2 n3 n4 n5 w).mono fun _ _ ⟨r, e1, e2, e3⟩ => ⟨r, e1, by rw [if_pos h] at e2; exact e2, e3⟩
theorem chk_no {n0 n1 n2 n3 n4 n5 : Int} (h : ¬ good n0 n1 n2 n3 n4 n5 = true) (w : World) : Calls Tryd.prog 37 #[.agg #[.int .i64 n0, .int .i64 n1, .int .i64 n2, .int .i64 n3, .int .i64 n4, .int .i64 n5]] w (Gives (· = .int .i64 200) w) :=
  (check20_any n0 n1 n2 n3 n4 n5 w).mono fun _ _ ⟨r, e1, e2, e3⟩ => ⟨r, e1, by rw [if_neg h] at e2; exact e2, e3⟩
/-- The sizes of a kind, and the error. -/
def msr (n0 n1 n2 n3 n4 n5 k : Int) : Int × Int × Int × Int := if good n0 n1 n2 n3 n4 n5 = true then (if k = 1 then (16 + n1, 1 + n1, 26 + n1, 0) else if k = 2 then (92, 16, 114, 0) else (0, 0, 0, 253)) else (0, 0, 0, 200)
theorem good_msg {n0 n1 n2 n3 n4 n5 : Int} (h : good n0 n1 n2 n3 n4 n5 = true) : 32 ≤ n1 ∧ n1 ≤ 512 := by
  unfold good at h
  have := of_decide_eq_true h
  exact this.2.1
theorem conf_start2 (n0 n1 n2 n3 n4 n5 : Int) (w : World) : Own w [(w.heap.size, 6, (· = .agg #[.int .i64 n0, .int .i64 n1, .int .i64 n2, .int .i64 n3, .int .i64 n4, .int .i64 n5])), (w.heap.size + 1, 3, fun _ => True)] ((w.alloc (.cells #[.int .i64 n0, .int .i64 n1, .int .i64 n2, .int .i64 n3, .int .i64 n4, .int .i64 n5] 23)).alloc (.cells #[.int .i64 0, .int .i64 0, .int .i64 0] 81)) :=
  ((conf_start n0 n1 n2 n3 n4 n5 w).keep ((Below.refl _ _).alloc (Nat.le_refl _) _)).add (g := w.heap.size + 1) (by omega) (by simp) ⟨_, _, new2_1 .., rfl, trivial⟩
set_option maxHeartbeats 4000000 in
set_option maxRecDepth 100000 in
theorem measure_no (n0 n1 n2 n3 n4 n5 k : Int) (w : World) (hg : ¬ good n0 n1 n2 n3 n4 n5 = true) : Calls Tryd.prog 60 #[.agg #[.int .i64 n0, .int .i64 n1, .int .i64 n2, .int .i64 n3, .int .i64 n4, .int .i64 n5], .int .i64 k] w (Gives (· = .tuple #[.agg #[.int .i64 (0), .int .i64 (0), .int .i64 (0)], .int .i64 200]) w) := by
  have hS := conf_start2 n0 n1 n2 n3 n4 n5 w
  have HG := Lib.hid hg
  clear hg
  go_enter Tryd.func60, Tryd.ntmps60
  go_wp2_with ((with_reducible refine guard_list ?_); first | (refine held_load 23 _ rfl ?_))
  change Held (wpList _ _ _ _ _ ((w.alloc (.cells #[.int .i64 n0, .int .i64 n1, .int .i64 n2, .int .i64 n3, .int .i64 n4, .int .i64 n5] 23)).alloc (.cells #[.int .i64 0, .int .i64 0, .int .i64 0] 81)))
  generalize (w.alloc (.cells #[.int .i64 n0, .int .i64 n1, .int .i64 n2, .int .i64 n3, .int .i64 n4, .int .i64 n5] 23)).alloc (.cells #[.int .i64 0, .int .i64 0, .int .i64 0] 81) = w0 at hS ⊢
  obtain ⟨M, hM⟩ : ∃ M, M = w0.heap.size := ⟨_, rfl⟩
  refine hide_held fun t0 HT => ?_
  have HS : t0.size = 30 := by rw [HT]; rfl
  have h1 : t0[1]? = some (.int .i64 k) := by rw [HT]; rfl
  have h2 : t0[2]? = some (.pointer (some ⟨w.heap.size, 0, none⟩)) := by rw [HT]; rfl
  have h4 : t0[4]? = some (.pointer (some ⟨(w.heap.size + 1), 0, none⟩)) := by rw [HT]; rfl
  clear HT
  refine wp_list_most 2 (fun i => [7, 8].getD i 0) (fun _ => none) (fun i => [(· = .agg #[.int .i64 n0, .int .i64 n1, .int .i64 n2, .int .i64 n3, .int .i64 n4, .int .i64 n5]), (· = .int .i64 200)].getD i (fun _ => True)) (fun w' => Own w [(w.heap.size, 6, (· = .agg #[.int .i64 n0, .int .i64 n1, .int .i64 n2, .int .i64 n3, .int .i64 n4, .int .i64 n5])), ((w.heap.size + 1), 3, (fun _ => True))] w' ∧ M ≤ w'.heap.size) M
    (by kernel_rfl) (slots_apart (by kernel_rfl)) (slots_lie (by rw [HS]; kernel_rfl)) ⟨hS, Nat.le_of_eq hM⟩ (fun w' h => h.2) (fun w1 w2 h b => ⟨h.1.keep b, Nat.le_trans h.2 b.size⟩) ?_ ?_ ?_
  · clear hS
    intro i o hi ho hA
    have hc : i = 0 ∨ i = 1 := by omega
    rcases hc with rfl | rfl
    · obtain rfl := Option.some.inj ho
      refine ⟨rfl, fun a w' hS hold hin K hK => ?_⟩
      refine if_always rfl ?_
      exact op_ld_own 6 tConf (.tmp 2) rfl rfl _ (eval_tmp ((hold 2 (slots_not (by kernel_rfl))).trans h2)) hS.1 0 rfl hK
    · obtain rfl := Option.some.inj ho
      refine ⟨rfl, fun a w' hS hold hin K hK => ?_⟩
      obtain ⟨y0, x0, rfl⟩ := hin 0 rfl (by omega) rfl
      refine if_always rfl ?_
      exact op_fn1 _ _ _ _ rfl rfl (eval_tmp x0) (by intro args w; kernel_rfl) (chk_no HG.out _) hK
  · intro i o sz hi ho hA; cases hA
  clear hS
  intro t1 V1 hs hold hout hall hne hS
  replace HS := hs.trans HS
  replace hS := hS.1
  obtain ⟨x8, q8, v8⟩ : ∃ x, t1[8]? = some x ∧ ((· = .int .i64 200)) x := hout 1 (by omega) rfl
  replace q8 : t1[8]? = some (.int .i64 200) := q8.trans (congrArg some v8)
  replace h1 := (hold 1 (slots_not (by kernel_rfl))).trans h1
  replace h2 := (hold 2 (slots_not (by kernel_rfl))).trans h2
  replace h4 := (hold 4 (slots_not (by kernel_rfl))).trans h4
  clear hold hout hs hall hne
  simp only [List.drop_succ_cons, List.drop_zero]
  refine tlx_assign (.tmp 8) rfl rfl 6 rfl (by rw [HS]; decide) (.int .i64 200) (eval_tmp q8) fun t1 ex0 hz hq he => ?_
  replace h1 := (he 1 (by decide)).trans h1
  replace h2 := (he 2 (by decide)).trans h2
  replace h4 := (he 4 (by decide)).trans h4
  replace q8 := (he 8 (by decide)).trans q8
  replace HS := hz.trans HS
  clear hz he ex0
  have h6 := hq
  clear hq
  refine wpList_nil ?_
  obtain ⟨f, e0, hf⟩ := wash HS
  have f1 := hf 1 _ h1
  have f2 := hf 2 _ h2
  have f4 := hf 4 _ h4
  have f6 := hf 6 _ h6
  clear hf
  rw [e0.trans (show _ = #[f 0, f 1, f 2, f 3, f 4, f 5, f 6, f 7, f 8, f 9, f 10, f 11, f 12, f 13, f 14, f 15, f 16, f 17, f 18, f 19, f 20, f 21, f 22, f 23, f 24, f 25, f 26, f 27, f 28, f 29] from by kernel_rfl), f1, f2, f4, f6]
  clear f1 f2 f4 f6
  clear e0
  try dsimp only
  clear h1 h2 h4 h6 q8 v8 hM HS t1 t0 M
  go_wp2_with ((with_reducible refine guard_list ?_); first | (refine held_build _ _ rfl ?_))
  obtain ⟨M, hM⟩ : ∃ M, M = V1.heap.size := ⟨_, rfl⟩
  refine hide_held fun t0 HT => ?_
  have HS : t0.size = 30 := by rw [HT]; rfl
  have h1 : t0[1]? = some (.int .i64 k) := by rw [HT]; rfl
  have h2 : t0[2]? = some (.pointer (some ⟨w.heap.size, 0, none⟩)) := by rw [HT]; rfl
  have h4 : t0[4]? = some (.pointer (some ⟨(w.heap.size + 1), 0, none⟩)) := by rw [HT]; rfl
  have h6 : t0[6]? = some (.int .i64 200) := by rw [HT]; rfl
  clear HT
  refine wp_list_most 2 (fun i => [11, 12].getD i 0) (fun _ => none) (fun i => [(· = .agg #[.int .i64 0, .int .i64 0, .int .i64 0]), (· = .int .i64 200)].getD i (fun _ => True)) (fun w' => Own w [(w.heap.size, 6, (· = .agg #[.int .i64 n0, .int .i64 n1, .int .i64 n2, .int .i64 n3, .int .i64 n4, .int .i64 n5])), ((w.heap.size + 1), 3, (fun _ => True))] w' ∧ M ≤ w'.heap.size) M
    (by kernel_rfl) (slots_apart (by kernel_rfl)) (slots_lie (by rw [HS]; kernel_rfl)) ⟨hS, Nat.le_of_eq hM⟩ (fun w' h => h.2) (fun w1 w2 h b => ⟨h.1.keep b, Nat.le_trans h.2 b.size⟩) ?_ ?_ ?_
  · clear hS
    intro i o hi ho hA
    have hc : i = 0 ∨ i = 1 := by omega
    rcases hc with rfl | rfl
    · obtain rfl := Option.some.inj ho
      refine ⟨rfl, fun a w' hS hold hin K hK => ?_⟩
      refine if_always rfl ?_
      exact op_val (V := (· = .agg #[.int .i64 0, .int .i64 0, .int .i64 0])) (.agg #[.int .i64 0, .int .i64 0, .int .i64 0]) rfl (by kernel_rfl) rfl hK
    · obtain rfl := Option.some.inj ho
      refine ⟨rfl, fun a w' hS hold hin K hK => ?_⟩
      refine if_always rfl ?_
      exact op_move (V := (· = .int .i64 200)) _ _ rfl rfl (eval_tmp ((hold 6 (slots_not (by kernel_rfl))).trans h6)) rfl hK
  · intro i o sz hi ho hA; cases hA
  clear hS
  intro t1 V2 hs hold hout hall hne hS
  replace HS := hs.trans HS
  replace hS := hS.1
  obtain ⟨x11, q11, v11⟩ : ∃ x, t1[11]? = some x ∧ ((· = .agg #[.int .i64 0, .int .i64 0, .int .i64 0])) x := hout 0 (by omega) rfl
  replace q11 : t1[11]? = some (.agg #[.int .i64 0, .int .i64 0, .int .i64 0]) := q11.trans (congrArg some v11)
  obtain ⟨x12, q12, v12⟩ : ∃ x, t1[12]? = some x ∧ ((· = .int .i64 200)) x := hout 1 (by omega) rfl
  replace q12 : t1[12]? = some (.int .i64 200) := q12.trans (congrArg some v12)
  replace h1 := (hold 1 (slots_not (by kernel_rfl))).trans h1
  replace h2 := (hold 2 (slots_not (by kernel_rfl))).trans h2
  replace h4 := (hold 4 (slots_not (by kernel_rfl))).trans h4
  replace h6 := (hold 6 (slots_not (by kernel_rfl))).trans h6
  clear hold hout hs hall hne
  simp only [List.drop_succ_cons, List.drop_zero]
  refine st_own 3 tSizes rfl (.tmp 4) (.tmp 11) rfl rfl _ _ (eval_tmp h4) (eval_tmp q11) (V' := (· = .agg #[.int .i64 0, .int .i64 0, .int .i64 0])) rfl by_sizes hS 1 rfl fun V2' hS' _ => ?_
  replace hS : Own w [(w.heap.size, 6, (· = .agg #[.int .i64 n0, .int .i64 n1, .int .i64 n2, .int .i64 n3, .int .i64 n4, .int .i64 n5])), ((w.heap.size + 1), 3, (· = .agg #[.int .i64 0, .int .i64 0, .int .i64 0]))] V2' := hS'
  clear hS'
  refine tlx_assign (.tmp 12) rfl rfl 5 rfl (by rw [HS]; decide) (.int .i64 200) (eval_tmp q12) fun t1 ex0 hz hq he => ?_
  replace h1 := (he 1 (by decide)).trans h1
  replace h2 := (he 2 (by decide)).trans h2
  replace h4 := (he 4 (by decide)).trans h4
  replace h6 := (he 6 (by decide)).trans h6
  replace q11 := (he 11 (by decide)).trans q11
  replace q12 := (he 12 (by decide)).trans q12
  replace HS := hz.trans HS
  clear hz he ex0
  have h5 := hq
  clear hq
  refine wpList_nil ?_
  obtain ⟨f, e0, hf⟩ := wash HS
  have f1 := hf 1 _ h1
  have f2 := hf 2 _ h2
  have f4 := hf 4 _ h4
  have f6 := hf 6 _ h6
  have f5 := hf 5 _ h5
  clear hf
  rw [e0.trans (show _ = #[f 0, f 1, f 2, f 3, f 4, f 5, f 6, f 7, f 8, f 9, f 10, f 11, f 12, f 13, f 14, f 15, f 16, f 17, f 18, f 19, f 20, f 21, f 22, f 23, f 24, f 25, f 26, f 27, f 28, f 29] from by kernel_rfl), f1, f2, f4, f6, f5]
  clear f1 f2 f4 f6 f5
  clear e0
  try dsimp only
  clear h1 h2 h4 h6 h5 q11 q12 v11 v12 hM HS t1 t0 M
  obtain ⟨cs, ct, c1, c2, c3⟩ := hS.get (i := 1) rfl
  have hbel := hS.1
  have C3 := Lib.hid c3
  clear hS c3
  go_wp2_with fail
  refine ret_row_tmp rfl _ _ _ rfl c1 3 tSizes c2 rfl ?_
  exact ⟨_, rfl, by rw [show Value.agg cs = _ from C3.out]; rfl, hbel⟩
set_option maxHeartbeats 4000000 in
set_option maxRecDepth 100000 in
theorem measure_talk (n0 n1 n2 n3 n4 n5 k : Int) (w : World) (hg : good n0 n1 n2 n3 n4 n5 = true) (hk : k = 1) : Calls Tryd.prog 60 #[.agg #[.int .i64 n0, .int .i64 n1, .int .i64 n2, .int .i64 n3, .int .i64 n4, .int .i64 n5], .int .i64 k] w (Gives (· = .tuple #[.agg #[.int .i64 (16 + n1), .int .i64 (1 + n1), .int .i64 (26 + n1)], .int .i64 0]) w) := by
  have hS := conf_start2 n0 n1 n2 n3 n4 n5 w
  have HG := Lib.hid hg
  have hmsg := good_msg hg
  have HMS := Lib.hid hmsg
  clear hmsg
  clear hg
  go_enter Tryd.func60, Tryd.ntmps60
  go_wp2_with ((with_reducible refine guard_list ?_); first | (refine held_load 23 _ rfl ?_))
  change Held (wpList _ _ _ _ _ ((w.alloc (.cells #[.int .i64 n0, .int .i64 n1, .int .i64 n2, .int .i64 n3, .int .i64 n4, .int .i64 n5] 23)).alloc (.cells #[.int .i64 0, .int .i64 0, .int .i64 0] 81)))
  generalize (w.alloc (.cells #[.int .i64 n0, .int .i64 n1, .int .i64 n2, .int .i64 n3, .int .i64 n4, .int .i64 n5] 23)).alloc (.cells #[.int .i64 0, .int .i64 0, .int .i64 0] 81) = w0 at hS ⊢
  obtain ⟨M, hM⟩ : ∃ M, M = w0.heap.size := ⟨_, rfl⟩
  refine hide_held fun t0 HT => ?_
  have HS : t0.size = 30 := by rw [HT]; rfl
  have h1 : t0[1]? = some (.int .i64 k) := by rw [HT]; rfl
  have h2 : t0[2]? = some (.pointer (some ⟨w.heap.size, 0, none⟩)) := by rw [HT]; rfl
  have h4 : t0[4]? = some (.pointer (some ⟨(w.heap.size + 1), 0, none⟩)) := by rw [HT]; rfl
  clear HT
  refine wp_list_most 2 (fun i => [7, 8].getD i 0) (fun _ => none) (fun i => [(· = .agg #[.int .i64 n0, .int .i64 n1, .int .i64 n2, .int .i64 n3, .int .i64 n4, .int .i64 n5]), (· = .int .i64 0)].getD i (fun _ => True)) (fun w' => Own w [(w.heap.size, 6, (· = .agg #[.int .i64 n0, .int .i64 n1, .int .i64 n2, .int .i64 n3, .int .i64 n4, .int .i64 n5])), ((w.heap.size + 1), 3, (fun _ => True))] w' ∧ M ≤ w'.heap.size) M
    (by kernel_rfl) (slots_apart (by kernel_rfl)) (slots_lie (by rw [HS]; kernel_rfl)) ⟨hS, Nat.le_of_eq hM⟩ (fun w' h => h.2) (fun w1 w2 h b => ⟨h.1.keep b, Nat.le_trans h.2 b.size⟩) ?_ ?_ ?_
  · clear hS
    intro i o hi ho hA
    have hc : i = 0 ∨ i = 1 := by omega
    rcases hc with rfl | rfl
    · obtain rfl := Option.some.inj ho
      refine ⟨rfl, fun a w' hS hold hin K hK => ?_⟩
      refine if_always rfl ?_
      exact op_ld_own 6 tConf (.tmp 2) rfl rfl _ (eval_tmp ((hold 2 (slots_not (by kernel_rfl))).trans h2)) hS.1 0 rfl hK
    · obtain rfl := Option.some.inj ho
      refine ⟨rfl, fun a w' hS hold hin K hK => ?_⟩
      obtain ⟨y0, x0, rfl⟩ := hin 0 rfl (by omega) rfl
      refine if_always rfl ?_
      exact op_fn1 _ _ _ _ rfl rfl (eval_tmp x0) (by intro args w; kernel_rfl) (chk_yes HG.out _) hK
  · intro i o sz hi ho hA; cases hA
  clear hS
  intro t1 V1 hs hold hout hall hne hS
  replace HS := hs.trans HS
  replace hS := hS.1
  obtain ⟨x8, q8, v8⟩ : ∃ x, t1[8]? = some x ∧ ((· = .int .i64 0)) x := hout 1 (by omega) rfl
  replace q8 : t1[8]? = some (.int .i64 0) := q8.trans (congrArg some v8)
  replace h1 := (hold 1 (slots_not (by kernel_rfl))).trans h1
  replace h2 := (hold 2 (slots_not (by kernel_rfl))).trans h2
  replace h4 := (hold 4 (slots_not (by kernel_rfl))).trans h4
  clear hold hout hs hall hne
  simp only [List.drop_succ_cons, List.drop_zero]
  refine tlx_assign (.tmp 8) rfl rfl 6 rfl (by rw [HS]; decide) (.int .i64 0) (eval_tmp q8) fun t1 ex0 hz hq he => ?_
  replace h1 := (he 1 (by decide)).trans h1
  replace h2 := (he 2 (by decide)).trans h2
  replace h4 := (he 4 (by decide)).trans h4
  replace q8 := (he 8 (by decide)).trans q8
  replace HS := hz.trans HS
  clear hz he ex0
  have h6 := hq
  clear hq
  refine wpList_nil ?_
  obtain ⟨f, e0, hf⟩ := wash HS
  have f1 := hf 1 _ h1
  have f2 := hf 2 _ h2
  have f4 := hf 4 _ h4
  have f6 := hf 6 _ h6
  clear hf
  rw [e0.trans (show _ = #[f 0, f 1, f 2, f 3, f 4, f 5, f 6, f 7, f 8, f 9, f 10, f 11, f 12, f 13, f 14, f 15, f 16, f 17, f 18, f 19, f 20, f 21, f 22, f 23, f 24, f 25, f 26, f 27, f 28, f 29] from by kernel_rfl), f1, f2, f4, f6]
  clear f1 f2 f4 f6
  clear e0
  try dsimp only
  clear h1 h2 h4 h6 q8 v8 hM HS t1 t0 M
  go_wp2_with ((with_reducible refine guard_list ?_); first | (refine held_load 3 _ rfl ?_))
  obtain ⟨M, hM⟩ : ∃ M, M = V1.heap.size := ⟨_, rfl⟩
  refine hide_held fun t0 HT => ?_
  have HS : t0.size = 30 := by rw [HT]; rfl
  have h1 : t0[1]? = some (.int .i64 k) := by rw [HT]; rfl
  have h2 : t0[2]? = some (.pointer (some ⟨w.heap.size, 0, none⟩)) := by rw [HT]; rfl
  have h4 : t0[4]? = some (.pointer (some ⟨(w.heap.size + 1), 0, none⟩)) := by rw [HT]; rfl
  have h6 : t0[6]? = some (.int .i64 0) := by rw [HT]; rfl
  refine wp_from_most 10 (fun i => [16, 17, 18, 19, 20, 21, 22, 23, 24, 25].getD i 0) (fun _ => none) (fun i => [(· = .pointer (some ⟨w.heap.size, 1, none⟩)), (· = .int .i64 n1), (· = .int .i64 (16 + n1)), (· = .pointer (some ⟨w.heap.size, 1, none⟩)), (· = .int .i64 n1), (· = .int .i64 (1 + n1)), (· = .pointer (some ⟨w.heap.size, 1, none⟩)), (· = .int .i64 n1), (· = .int .i64 (26 + n1)), (· = .agg #[.int .i64 (16 + n1), .int .i64 (1 + n1), .int .i64 (26 + n1)])].getD i (fun _ => True)) (fun w' => Own w [(w.heap.size, 6, (· = .agg #[.int .i64 n0, .int .i64 n1, .int .i64 n2, .int .i64 n3, .int .i64 n4, .int .i64 n5])), ((w.heap.size + 1), 3, (fun _ => True))] w' ∧ M ≤ w'.heap.size) M
    1 (by omega) (by kernel_rfl) ?_ (slots_apart (by kernel_rfl)) (slots_lie (by rw [HS]; kernel_rfl)) ⟨hS, Nat.le_of_eq hM⟩ (fun w' h => h.2) (fun w1 w2 h b => ⟨h.1.keep b, Nat.le_trans h.2 b.size⟩) ?_ ?_ ?_
  · intro j hj _
    have hc : j = 0 := by omega
    rcases hc with rfl
    · exact ⟨rfl, _, by rw [HT]; rfl, rfl⟩
  · clear hS
    intro i o h0i hi ho hA
    have hc : i = 1 ∨ i = 2 ∨ i = 3 ∨ i = 4 ∨ i = 5 ∨ i = 6 ∨ i = 7 ∨ i = 8 ∨ i = 9 := by omega
    rcases hc with rfl | rfl | rfl | rfl | rfl | rfl | rfl | rfl | rfl
    · obtain rfl := Option.some.inj ho
      refine ⟨rfl, fun a w' hS hold hin K hK => ?_⟩
      obtain ⟨y0, x0, rfl⟩ := hin 0 rfl (by omega) rfl
      refine if_always rfl ?_
      exact op_cell_own tInt _ w.heap.size 1 rfl rfl (eval_tmp x0) hS.1 0 _ _ rfl (.int .i64 n1) rfl hK
    · obtain rfl := Option.some.inj ho
      refine ⟨rfl, fun a w' hS hold hin K hK => ?_⟩
      obtain ⟨y1, x1, rfl⟩ := hin 1 rfl (by omega) rfl
      refine if_always rfl ?_
      exact op_bin (V := (· = .int .i64 (16 + n1))) _ _ _ _ _ _ _ (.int .i64 (16 + n1)) rfl rfl rfl (eval_tmp x1) (fun w => add_in 16 n1 (by have := HMS.out; omega) w) rfl hK
    · obtain rfl := Option.some.inj ho
      refine ⟨rfl, fun a w' hS hold hin K hK => ?_⟩
      refine if_always rfl ?_
      exact op_field 23 _ 1 _ (.pointer (some ⟨w.heap.size, 1, none⟩)) rfl rfl (eval_tmp ((hold 2 (slots_not (by kernel_rfl))).trans h2)) (fun w => by kernel_rfl) hK
    · obtain rfl := Option.some.inj ho
      refine ⟨rfl, fun a w' hS hold hin K hK => ?_⟩
      obtain ⟨y3, x3, rfl⟩ := hin 3 rfl (by omega) rfl
      refine if_always rfl ?_
      exact op_cell_own tInt _ w.heap.size 1 rfl rfl (eval_tmp x3) hS.1 0 _ _ rfl (.int .i64 n1) rfl hK
    · obtain rfl := Option.some.inj ho
      refine ⟨rfl, fun a w' hS hold hin K hK => ?_⟩
      obtain ⟨y4, x4, rfl⟩ := hin 4 rfl (by omega) rfl
      refine if_always rfl ?_
      exact op_bin (V := (· = .int .i64 (1 + n1))) _ _ _ _ _ _ _ (.int .i64 (1 + n1)) rfl rfl rfl (eval_tmp x4) (fun w => add_in 1 n1 (by have := HMS.out; omega) w) rfl hK
    · obtain rfl := Option.some.inj ho
      refine ⟨rfl, fun a w' hS hold hin K hK => ?_⟩
      refine if_always rfl ?_
      exact op_field 23 _ 1 _ (.pointer (some ⟨w.heap.size, 1, none⟩)) rfl rfl (eval_tmp ((hold 2 (slots_not (by kernel_rfl))).trans h2)) (fun w => by kernel_rfl) hK
    · obtain rfl := Option.some.inj ho
      refine ⟨rfl, fun a w' hS hold hin K hK => ?_⟩
      obtain ⟨y6, x6, rfl⟩ := hin 6 rfl (by omega) rfl
      refine if_always rfl ?_
      exact op_cell_own tInt _ w.heap.size 1 rfl rfl (eval_tmp x6) hS.1 0 _ _ rfl (.int .i64 n1) rfl hK
    · obtain rfl := Option.some.inj ho
      refine ⟨rfl, fun a w' hS hold hin K hK => ?_⟩
      obtain ⟨y7, x7, rfl⟩ := hin 7 rfl (by omega) rfl
      refine if_always rfl ?_
      exact op_bin (V := (· = .int .i64 (26 + n1))) _ _ _ _ _ _ _ (.int .i64 (26 + n1)) rfl rfl rfl (eval_tmp x7) (fun w => add_in 26 n1 (by have := HMS.out; omega) w) rfl hK
    · obtain rfl := Option.some.inj ho
      refine ⟨rfl, fun a w' hS hold hin K hK => ?_⟩
      obtain ⟨y2, x2, rfl⟩ := hin 2 rfl (by omega) rfl
      obtain ⟨y5, x5, rfl⟩ := hin 5 rfl (by omega) rfl
      obtain ⟨y8, x8, rfl⟩ := hin 8 rfl (by omega) rfl
      refine if_always rfl ?_
      exact op_parts _ _ ([(0, .int .i64 (16 + n1)), (1, .int .i64 (1 + n1)), (2, .int .i64 (26 + n1))]) (.agg #[.int .i64 (16 + n1), .int .i64 (1 + n1), .int .i64 (26 + n1)]) rfl rfl (show ([(0, Act.eval a (.tmp 18)), (1, Act.eval a (.tmp 21)), (2, Act.eval a (.tmp 24))] : List (Nat × Value)) = [(0, .int .i64 (16 + n1)), (1, .int .i64 (1 + n1)), (2, .int .i64 (26 + n1))] by rw [show Act.eval a (.tmp 18) = _ from eval_tmp x2, show Act.eval a (.tmp 21) = _ from eval_tmp x5, show Act.eval a (.tmp 24) = _ from eval_tmp x8]) (fun w => by kernel_rfl) hK
  · intro i o sz h0i hi ho hA; cases hA
  clear hS
  intro t1 V2 hs hold hout hall hne hS
  replace HS := hs.trans HS
  replace hS := hS.1
  obtain ⟨x25, q25, v25⟩ : ∃ x, t1[25]? = some x ∧ ((· = .agg #[.int .i64 (16 + n1), .int .i64 (1 + n1), .int .i64 (26 + n1)])) x := hout 9 (by omega) rfl
  replace q25 : t1[25]? = some (.agg #[.int .i64 (16 + n1), .int .i64 (1 + n1), .int .i64 (26 + n1)]) := q25.trans (congrArg some v25)
  replace h1 := (hold 1 (slots_not (by kernel_rfl))).trans h1
  replace h2 := (hold 2 (slots_not (by kernel_rfl))).trans h2
  replace h4 := (hold 4 (slots_not (by kernel_rfl))).trans h4
  replace h6 := (hold 6 (slots_not (by kernel_rfl))).trans h6
  clear hold hout hs hall hne
  simp only [List.drop_succ_cons, List.drop_zero]
  refine st_own 3 tSizes rfl (.tmp 4) (.tmp 25) rfl rfl _ _ (eval_tmp h4) (eval_tmp q25) (V' := (· = .agg #[.int .i64 (16 + n1), .int .i64 (1 + n1), .int .i64 (26 + n1)])) rfl by_sizes hS 1 rfl fun V2' hS' _ => ?_
  replace hS : Own w [(w.heap.size, 6, (· = .agg #[.int .i64 n0, .int .i64 n1, .int .i64 n2, .int .i64 n3, .int .i64 n4, .int .i64 n5])), ((w.heap.size + 1), 3, (· = .agg #[.int .i64 (16 + n1), .int .i64 (1 + n1), .int .i64 (26 + n1)]))] V2' := hS'
  clear hS'
  refine tlx_assign _ rfl rfl 5 rfl (by rw [HS]; decide) (.int .i64 0) rfl fun t1 ex0 hz hq he => ?_
  replace h1 := (he 1 (by decide)).trans h1
  replace h2 := (he 2 (by decide)).trans h2
  replace h4 := (he 4 (by decide)).trans h4
  replace h6 := (he 6 (by decide)).trans h6
  replace q25 := (he 25 (by decide)).trans q25
  replace HS := hz.trans HS
  clear hz he ex0
  have h5 := hq
  clear hq
  refine wpList_nil ?_
  clear HT
  obtain ⟨f, e0, hf⟩ := wash HS
  have f1 := hf 1 _ h1
  have f2 := hf 2 _ h2
  have f4 := hf 4 _ h4
  have f6 := hf 6 _ h6
  have f5 := hf 5 _ h5
  clear hf
  rw [e0.trans (show _ = #[f 0, f 1, f 2, f 3, f 4, f 5, f 6, f 7, f 8, f 9, f 10, f 11, f 12, f 13, f 14, f 15, f 16, f 17, f 18, f 19, f 20, f 21, f 22, f 23, f 24, f 25, f 26, f 27, f 28, f 29] from by kernel_rfl), f1, f2, f4, f6, f5]
  clear f1 f2 f4 f6 f5
  clear e0
  try dsimp only
  clear h1 h2 h4 h6 h5 q25 v25 hM HS t1 t0 M
  obtain ⟨cs, ct, c1, c2, c3⟩ := hS.get (i := 1) rfl
  have hbel := hS.1
  have C3 := Lib.hid c3
  clear hS c3
  go_wp2_with fail
  refine ret_row_tmp rfl _ _ _ rfl c1 3 tSizes c2 rfl ?_
  exact ⟨_, rfl, by rw [show Value.agg cs = _ from C3.out]; rfl, hbel⟩
set_option maxHeartbeats 4000000 in
set_option maxRecDepth 100000 in
theorem measure_dial (n0 n1 n2 n3 n4 n5 k : Int) (w : World) (hg : good n0 n1 n2 n3 n4 n5 = true) (hk : k = 2) : Calls Tryd.prog 60 #[.agg #[.int .i64 n0, .int .i64 n1, .int .i64 n2, .int .i64 n3, .int .i64 n4, .int .i64 n5], .int .i64 k] w (Gives (· = .tuple #[.agg #[.int .i64 (92), .int .i64 (16), .int .i64 (114)], .int .i64 0]) w) := by
  have hS := conf_start2 n0 n1 n2 n3 n4 n5 w
  have HG := Lib.hid hg
  have hmsg := good_msg hg
  have HMS := Lib.hid hmsg
  clear hmsg
  clear hg
  go_enter Tryd.func60, Tryd.ntmps60
  go_wp2_with ((with_reducible refine guard_list ?_); first | (refine held_load 23 _ rfl ?_))
  change Held (wpList _ _ _ _ _ ((w.alloc (.cells #[.int .i64 n0, .int .i64 n1, .int .i64 n2, .int .i64 n3, .int .i64 n4, .int .i64 n5] 23)).alloc (.cells #[.int .i64 0, .int .i64 0, .int .i64 0] 81)))
  generalize (w.alloc (.cells #[.int .i64 n0, .int .i64 n1, .int .i64 n2, .int .i64 n3, .int .i64 n4, .int .i64 n5] 23)).alloc (.cells #[.int .i64 0, .int .i64 0, .int .i64 0] 81) = w0 at hS ⊢
  obtain ⟨M, hM⟩ : ∃ M, M = w0.heap.size := ⟨_, rfl⟩
  refine hide_held fun t0 HT => ?_
  have HS : t0.size = 30 := by rw [HT]; rfl
  have h1 : t0[1]? = some (.int .i64 k) := by rw [HT]; rfl
  have h2 : t0[2]? = some (.pointer (some ⟨w.heap.size, 0, none⟩)) := by rw [HT]; rfl
  have h4 : t0[4]? = some (.pointer (some ⟨(w.heap.size + 1), 0, none⟩)) := by rw [HT]; rfl
  clear HT
  refine wp_list_most 2 (fun i => [7, 8].getD i 0) (fun _ => none) (fun i => [(· = .agg #[.int .i64 n0, .int .i64 n1, .int .i64 n2, .int .i64 n3, .int .i64 n4, .int .i64 n5]), (· = .int .i64 0)].getD i (fun _ => True)) (fun w' => Own w [(w.heap.size, 6, (· = .agg #[.int .i64 n0, .int .i64 n1, .int .i64 n2, .int .i64 n3, .int .i64 n4, .int .i64 n5])), ((w.heap.size + 1), 3, (fun _ => True))] w' ∧ M ≤ w'.heap.size) M
    (by kernel_rfl) (slots_apart (by kernel_rfl)) (slots_lie (by rw [HS]; kernel_rfl)) ⟨hS, Nat.le_of_eq hM⟩ (fun w' h => h.2) (fun w1 w2 h b => ⟨h.1.keep b, Nat.le_trans h.2 b.size⟩) ?_ ?_ ?_
  · clear hS
    intro i o hi ho hA
    have hc : i = 0 ∨ i = 1 := by omega
    rcases hc with rfl | rfl
    · obtain rfl := Option.some.inj ho
      refine ⟨rfl, fun a w' hS hold hin K hK => ?_⟩
      refine if_always rfl ?_
      exact op_ld_own 6 tConf (.tmp 2) rfl rfl _ (eval_tmp ((hold 2 (slots_not (by kernel_rfl))).trans h2)) hS.1 0 rfl hK
    · obtain rfl := Option.some.inj ho
      refine ⟨rfl, fun a w' hS hold hin K hK => ?_⟩
      obtain ⟨y0, x0, rfl⟩ := hin 0 rfl (by omega) rfl
      refine if_always rfl ?_
      exact op_fn1 _ _ _ _ rfl rfl (eval_tmp x0) (by intro args w; kernel_rfl) (chk_yes HG.out _) hK
  · intro i o sz hi ho hA; cases hA
  clear hS
  intro t1 V1 hs hold hout hall hne hS
  replace HS := hs.trans HS
  replace hS := hS.1
  obtain ⟨x8, q8, v8⟩ : ∃ x, t1[8]? = some x ∧ ((· = .int .i64 0)) x := hout 1 (by omega) rfl
  replace q8 : t1[8]? = some (.int .i64 0) := q8.trans (congrArg some v8)
  replace h1 := (hold 1 (slots_not (by kernel_rfl))).trans h1
  replace h2 := (hold 2 (slots_not (by kernel_rfl))).trans h2
  replace h4 := (hold 4 (slots_not (by kernel_rfl))).trans h4
  clear hold hout hs hall hne
  simp only [List.drop_succ_cons, List.drop_zero]
  refine tlx_assign (.tmp 8) rfl rfl 6 rfl (by rw [HS]; decide) (.int .i64 0) (eval_tmp q8) fun t1 ex0 hz hq he => ?_
  replace h1 := (he 1 (by decide)).trans h1
  replace h2 := (he 2 (by decide)).trans h2
  replace h4 := (he 4 (by decide)).trans h4
  replace q8 := (he 8 (by decide)).trans q8
  replace HS := hz.trans HS
  clear hz he ex0
  have h6 := hq
  clear hq
  refine wpList_nil ?_
  obtain ⟨f, e0, hf⟩ := wash HS
  have f1 := hf 1 _ h1
  have f2 := hf 2 _ h2
  have f4 := hf 4 _ h4
  have f6 := hf 6 _ h6
  clear hf
  rw [e0.trans (show _ = #[f 0, f 1, f 2, f 3, f 4, f 5, f 6, f 7, f 8, f 9, f 10, f 11, f 12, f 13, f 14, f 15, f 16, f 17, f 18, f 19, f 20, f 21, f 22, f 23, f 24, f 25, f 26, f 27, f 28, f 29] from by kernel_rfl), f1, f2, f4, f6]
  clear f1 f2 f4 f6
  clear e0
  try dsimp only
  clear h1 h2 h4 h6 q8 v8 hM HS t1 t0 M
  go_wp2_with ((with_reducible refine guard_list ?_); first | (refine held_build _ _ rfl ?_))
  obtain ⟨M, hM⟩ : ∃ M, M = V1.heap.size := ⟨_, rfl⟩
  refine hide_held fun t0 HT => ?_
  have HS : t0.size = 30 := by rw [HT]; rfl
  have h1 : t0[1]? = some (.int .i64 k) := by rw [HT]; rfl
  have h2 : t0[2]? = some (.pointer (some ⟨w.heap.size, 0, none⟩)) := by rw [HT]; rfl
  have h4 : t0[4]? = some (.pointer (some ⟨(w.heap.size + 1), 0, none⟩)) := by rw [HT]; rfl
  have h6 : t0[6]? = some (.int .i64 0) := by rw [HT]; rfl
  clear HT
  refine wp_list_most 1 (fun i => [28].getD i 0) (fun _ => none) (fun i => [(· = .agg #[.int .i64 92, .int .i64 16, .int .i64 114])].getD i (fun _ => True)) (fun w' => Own w [(w.heap.size, 6, (· = .agg #[.int .i64 n0, .int .i64 n1, .int .i64 n2, .int .i64 n3, .int .i64 n4, .int .i64 n5])), ((w.heap.size + 1), 3, (fun _ => True))] w' ∧ M ≤ w'.heap.size) M
    (by kernel_rfl) (slots_apart (by kernel_rfl)) (slots_lie (by rw [HS]; kernel_rfl)) ⟨hS, Nat.le_of_eq hM⟩ (fun w' h => h.2) (fun w1 w2 h b => ⟨h.1.keep b, Nat.le_trans h.2 b.size⟩) ?_ ?_ ?_
  · clear hS
    intro i o hi ho hA
    have hc : i = 0 := by omega
    rcases hc with rfl
    · obtain rfl := Option.some.inj ho
      refine ⟨rfl, fun a w' hS hold hin K hK => ?_⟩
      refine if_always rfl ?_
      exact op_val (V := (· = .agg #[.int .i64 92, .int .i64 16, .int .i64 114])) (.agg #[.int .i64 92, .int .i64 16, .int .i64 114]) rfl (by kernel_rfl) rfl hK
  · intro i o sz hi ho hA; cases hA
  clear hS
  intro t1 V2 hs hold hout hall hne hS
  replace HS := hs.trans HS
  replace hS := hS.1
  obtain ⟨x28, q28, v28⟩ : ∃ x, t1[28]? = some x ∧ ((· = .agg #[.int .i64 92, .int .i64 16, .int .i64 114])) x := hout 0 (by omega) rfl
  replace q28 : t1[28]? = some (.agg #[.int .i64 92, .int .i64 16, .int .i64 114]) := q28.trans (congrArg some v28)
  replace h1 := (hold 1 (slots_not (by kernel_rfl))).trans h1
  replace h2 := (hold 2 (slots_not (by kernel_rfl))).trans h2
  replace h4 := (hold 4 (slots_not (by kernel_rfl))).trans h4
  replace h6 := (hold 6 (slots_not (by kernel_rfl))).trans h6
  clear hold hout hs hall hne
  simp only [List.drop_succ_cons, List.drop_zero]
  refine st_own 3 tSizes rfl (.tmp 4) (.tmp 28) rfl rfl _ _ (eval_tmp h4) (eval_tmp q28) (V' := (· = .agg #[.int .i64 92, .int .i64 16, .int .i64 114])) rfl by_sizes hS 1 rfl fun V2' hS' _ => ?_
  replace hS : Own w [(w.heap.size, 6, (· = .agg #[.int .i64 n0, .int .i64 n1, .int .i64 n2, .int .i64 n3, .int .i64 n4, .int .i64 n5])), ((w.heap.size + 1), 3, (· = .agg #[.int .i64 92, .int .i64 16, .int .i64 114]))] V2' := hS'
  clear hS'
  refine tlx_assign _ rfl rfl 5 rfl (by rw [HS]; decide) (.int .i64 0) rfl fun t1 ex0 hz hq he => ?_
  replace h1 := (he 1 (by decide)).trans h1
  replace h2 := (he 2 (by decide)).trans h2
  replace h4 := (he 4 (by decide)).trans h4
  replace h6 := (he 6 (by decide)).trans h6
  replace q28 := (he 28 (by decide)).trans q28
  replace HS := hz.trans HS
  clear hz he ex0
  have h5 := hq
  clear hq
  refine wpList_nil ?_
  obtain ⟨f, e0, hf⟩ := wash HS
  have f1 := hf 1 _ h1
  have f2 := hf 2 _ h2
  have f4 := hf 4 _ h4
  have f6 := hf 6 _ h6
  have f5 := hf 5 _ h5
  clear hf
  rw [e0.trans (show _ = #[f 0, f 1, f 2, f 3, f 4, f 5, f 6, f 7, f 8, f 9, f 10, f 11, f 12, f 13, f 14, f 15, f 16, f 17, f 18, f 19, f 20, f 21, f 22, f 23, f 24, f 25, f 26, f 27, f 28, f 29] from by kernel_rfl), f1, f2, f4, f6, f5]
  clear f1 f2 f4 f6 f5
  clear e0
  try dsimp only
  clear h1 h2 h4 h6 h5 q28 v28 hM HS t1 t0 M
  obtain ⟨cs, ct, c1, c2, c3⟩ := hS.get (i := 1) rfl
  have hbel := hS.1
  have C3 := Lib.hid c3
  clear hS c3
  go_wp2_with fail
  refine ret_row_tmp rfl _ _ _ rfl c1 3 tSizes c2 rfl ?_
  exact ⟨_, rfl, by rw [show Value.agg cs = _ from C3.out]; rfl, hbel⟩
set_option maxHeartbeats 4000000 in
set_option maxRecDepth 100000 in
theorem measure_none (n0 n1 n2 n3 n4 n5 k : Int) (w : World) (hg : good n0 n1 n2 n3 n4 n5 = true) (h1 : ¬ k = 1) (h2 : ¬ k = 2) : Calls Tryd.prog 60 #[.agg #[.int .i64 n0, .int .i64 n1, .int .i64 n2, .int .i64 n3, .int .i64 n4, .int .i64 n5], .int .i64 k] w (Gives (· = .tuple #[.agg #[.int .i64 (0), .int .i64 (0), .int .i64 (0)], .int .i64 253]) w) := by
  have hS := conf_start2 n0 n1 n2 n3 n4 n5 w
  have HG := Lib.hid hg
  have hmsg := good_msg hg
  have HMS := Lib.hid hmsg
  clear hmsg
  clear hg
  go_enter Tryd.func60, Tryd.ntmps60
  go_wp2_with ((with_reducible refine guard_list ?_); first | (refine held_load 23 _ rfl ?_))
  change Held (wpList _ _ _ _ _ ((w.alloc (.cells #[.int .i64 n0, .int .i64 n1, .int .i64 n2, .int .i64 n3, .int .i64 n4, .int .i64 n5] 23)).alloc (.cells #[.int .i64 0, .int .i64 0, .int .i64 0] 81)))
  generalize (w.alloc (.cells #[.int .i64 n0, .int .i64 n1, .int .i64 n2, .int .i64 n3, .int .i64 n4, .int .i64 n5] 23)).alloc (.cells #[.int .i64 0, .int .i64 0, .int .i64 0] 81) = w0 at hS ⊢
  obtain ⟨M, hM⟩ : ∃ M, M = w0.heap.size := ⟨_, rfl⟩
  refine hide_held fun t0 HT => ?_
  have HS : t0.size = 30 := by rw [HT]; rfl
  have h1 : t0[1]? = some (.int .i64 k) := by rw [HT]; rfl
  have h2 : t0[2]? = some (.pointer (some ⟨w.heap.size, 0, none⟩)) := by rw [HT]; rfl
  have h4 : t0[4]? = some (.pointer (some ⟨(w.heap.size + 1), 0, none⟩)) := by rw [HT]; rfl
  clear HT
  refine wp_list_most 2 (fun i => [7, 8].getD i 0) (fun _ => none) (fun i => [(· = .agg #[.int .i64 n0, .int .i64 n1, .int .i64 n2, .int .i64 n3, .int .i64 n4, .int .i64 n5]), (· = .int .i64 0)].getD i (fun _ => True)) (fun w' => Own w [(w.heap.size, 6, (· = .agg #[.int .i64 n0, .int .i64 n1, .int .i64 n2, .int .i64 n3, .int .i64 n4, .int .i64 n5])), ((w.heap.size + 1), 3, (fun _ => True))] w' ∧ M ≤ w'.heap.size) M
    (by kernel_rfl) (slots_apart (by kernel_rfl)) (slots_lie (by rw [HS]; kernel_rfl)) ⟨hS, Nat.le_of_eq hM⟩ (fun w' h => h.2) (fun w1 w2 h b => ⟨h.1.keep b, Nat.le_trans h.2 b.size⟩) ?_ ?_ ?_
  · clear hS
    intro i o hi ho hA
    have hc : i = 0 ∨ i = 1 := by omega
    rcases hc with rfl | rfl
    · obtain rfl := Option.some.inj ho
      refine ⟨rfl, fun a w' hS hold hin K hK => ?_⟩
      refine if_always rfl ?_
      exact op_ld_own 6 tConf (.tmp 2) rfl rfl _ (eval_tmp ((hold 2 (slots_not (by kernel_rfl))).trans h2)) hS.1 0 rfl hK
    · obtain rfl := Option.some.inj ho
      refine ⟨rfl, fun a w' hS hold hin K hK => ?_⟩
      obtain ⟨y0, x0, rfl⟩ := hin 0 rfl (by omega) rfl
      refine if_always rfl ?_
      exact op_fn1 _ _ _ _ rfl rfl (eval_tmp x0) (by intro args w; kernel_rfl) (chk_yes HG.out _) hK
  · intro i o sz hi ho hA; cases hA
  clear hS
  intro t1 V1 hs hold hout hall hne hS
  replace HS := hs.trans HS
  replace hS := hS.1
  obtain ⟨x8, q8, v8⟩ : ∃ x, t1[8]? = some x ∧ ((· = .int .i64 0)) x := hout 1 (by omega) rfl
  replace q8 : t1[8]? = some (.int .i64 0) := q8.trans (congrArg some v8)
  replace h1 := (hold 1 (slots_not (by kernel_rfl))).trans h1
  replace h2 := (hold 2 (slots_not (by kernel_rfl))).trans h2
  replace h4 := (hold 4 (slots_not (by kernel_rfl))).trans h4
  clear hold hout hs hall hne
  simp only [List.drop_succ_cons, List.drop_zero]
  refine tlx_assign (.tmp 8) rfl rfl 6 rfl (by rw [HS]; decide) (.int .i64 0) (eval_tmp q8) fun t1 ex0 hz hq he => ?_
  replace h1 := (he 1 (by decide)).trans h1
  replace h2 := (he 2 (by decide)).trans h2
  replace h4 := (he 4 (by decide)).trans h4
  replace q8 := (he 8 (by decide)).trans q8
  replace HS := hz.trans HS
  clear hz he ex0
  have h6 := hq
  clear hq
  refine wpList_nil ?_
  obtain ⟨f, e0, hf⟩ := wash HS
  have f1 := hf 1 _ h1
  have f2 := hf 2 _ h2
  have f4 := hf 4 _ h4
  have f6 := hf 6 _ h6
  clear hf
  rw [e0.trans (show _ = #[f 0, f 1, f 2, f 3, f 4, f 5, f 6, f 7, f 8, f 9, f 10, f 11, f 12, f 13, f 14, f 15, f 16, f 17, f 18, f 19, f 20, f 21, f 22, f 23, f 24, f 25, f 26, f 27, f 28, f 29] from by kernel_rfl), f1, f2, f4, f6]
  clear f1 f2 f4 f6
  clear e0
  try dsimp only
  clear h1 h2 h4 h6 q8 v8 hM HS t1 t0 M
  go_wp2_with ((with_reducible refine guard_list ?_); first | (refine held_build _ _ rfl ?_))
  obtain ⟨M, hM⟩ : ∃ M, M = V1.heap.size := ⟨_, rfl⟩
  refine hide_held fun t0 HT => ?_
  have HS : t0.size = 30 := by rw [HT]; rfl
  have h1 : t0[1]? = some (.int .i64 k) := by rw [HT]; rfl
  have h2 : t0[2]? = some (.pointer (some ⟨w.heap.size, 0, none⟩)) := by rw [HT]; rfl
  have h4 : t0[4]? = some (.pointer (some ⟨(w.heap.size + 1), 0, none⟩)) := by rw [HT]; rfl
  have h6 : t0[6]? = some (.int .i64 0) := by rw [HT]; rfl
  clear HT
  refine wp_list_most 1 (fun i => [29].getD i 0) (fun _ => none) (fun i => [(· = .agg #[.int .i64 0, .int .i64 0, .int .i64 0])].getD i (fun _ => True)) (fun w' => Own w [(w.heap.size, 6, (· = .agg #[.int .i64 n0, .int .i64 n1, .int .i64 n2, .int .i64 n3, .int .i64 n4, .int .i64 n5])), ((w.heap.size + 1), 3, (fun _ => True))] w' ∧ M ≤ w'.heap.size) M
    (by kernel_rfl) (slots_apart (by kernel_rfl)) (slots_lie (by rw [HS]; kernel_rfl)) ⟨hS, Nat.le_of_eq hM⟩ (fun w' h => h.2) (fun w1 w2 h b => ⟨h.1.keep b, Nat.le_trans h.2 b.size⟩) ?_ ?_ ?_
  · clear hS
    intro i o hi ho hA
    have hc : i = 0 := by omega
    rcases hc with rfl
    · obtain rfl := Option.some.inj ho
      refine ⟨rfl, fun a w' hS hold hin K hK => ?_⟩
      refine if_always rfl ?_
      exact op_val (V := (· = .agg #[.int .i64 0, .int .i64 0, .int .i64 0])) (.agg #[.int .i64 0, .int .i64 0, .int .i64 0]) rfl (by kernel_rfl) rfl hK
  · intro i o sz hi ho hA; cases hA
  clear hS
  intro t1 V2 hs hold hout hall hne hS
  replace HS := hs.trans HS
  replace hS := hS.1
  obtain ⟨x29, q29, v29⟩ : ∃ x, t1[29]? = some x ∧ ((· = .agg #[.int .i64 0, .int .i64 0, .int .i64 0])) x := hout 0 (by omega) rfl
  replace q29 : t1[29]? = some (.agg #[.int .i64 0, .int .i64 0, .int .i64 0]) := q29.trans (congrArg some v29)
  replace h1 := (hold 1 (slots_not (by kernel_rfl))).trans h1
  replace h2 := (hold 2 (slots_not (by kernel_rfl))).trans h2
  replace h4 := (hold 4 (slots_not (by kernel_rfl))).trans h4
  replace h6 := (hold 6 (slots_not (by kernel_rfl))).trans h6
  clear hold hout hs hall hne
  simp only [List.drop_succ_cons, List.drop_zero]
  refine st_own 3 tSizes rfl (.tmp 4) (.tmp 29) rfl rfl _ _ (eval_tmp h4) (eval_tmp q29) (V' := (· = .agg #[.int .i64 0, .int .i64 0, .int .i64 0])) rfl by_sizes hS 1 rfl fun V2' hS' _ => ?_
  replace hS : Own w [(w.heap.size, 6, (· = .agg #[.int .i64 n0, .int .i64 n1, .int .i64 n2, .int .i64 n3, .int .i64 n4, .int .i64 n5])), ((w.heap.size + 1), 3, (· = .agg #[.int .i64 0, .int .i64 0, .int .i64 0]))] V2' := hS'
  clear hS'
  refine tlx_assign _ rfl rfl 5 rfl (by rw [HS]; decide) (.int .i64 253) rfl fun t1 ex0 hz hq he => ?_
  replace h1 := (he 1 (by decide)).trans h1
  replace h2 := (he 2 (by decide)).trans h2
  replace h4 := (he 4 (by decide)).trans h4
  replace h6 := (he 6 (by decide)).trans h6
  replace q29 := (he 29 (by decide)).trans q29
  replace HS := hz.trans HS
  clear hz he ex0
  have h5 := hq
  clear hq
  refine wpList_nil ?_
  obtain ⟨f, e0, hf⟩ := wash HS
  have f1 := hf 1 _ h1
  have f2 := hf 2 _ h2
  have f4 := hf 4 _ h4
  have f6 := hf 6 _ h6
  have f5 := hf 5 _ h5
  clear hf
  rw [e0.trans (show _ = #[f 0, f 1, f 2, f 3, f 4, f 5, f 6, f 7, f 8, f 9, f 10, f 11, f 12, f 13, f 14, f 15, f 16, f 17, f 18, f 19, f 20, f 21, f 22, f 23, f 24, f 25, f 26, f 27, f 28, f 29] from by kernel_rfl), f1, f2, f4, f6, f5]
  clear f1 f2 f4 f6 f5
  clear e0
  try dsimp only
  clear h1 h2 h4 h6 h5 q29 v29 hM HS t1 t0 M
  obtain ⟨cs, ct, c1, c2, c3⟩ := hS.get (i := 1) rfl
  have hbel := hS.1
  have C3 := Lib.hid c3
  clear hS c3
  go_wp2_with fail
  refine ret_row_tmp rfl _ _ _ rfl c1 3 tSizes c2 rfl ?_
  exact ⟨_, rfl, by rw [show Value.agg cs = _ from C3.out]; rfl, hbel⟩
theorem measure_ev {n0 n1 n2 n3 n4 n5 k a b c e : Int} (h : msr n0 n1 n2 n3 n4 n5 k = (a, b, c, e)) (w : World) : Calls Tryd.prog 60 #[.agg #[.int .i64 n0, .int .i64 n1, .int .i64 n2, .int .i64 n3, .int .i64 n4, .int .i64 n5], .int .i64 k] w (Gives (· = .tuple #[.agg #[.int .i64 a, .int .i64 b, .int .i64 c], .int .i64 e]) w) := by
  unfold msr at h
  by_cases hg : good n0 n1 n2 n3 n4 n5 = true
  · rw [if_pos hg] at h
    by_cases h1 : k = 1
    · rw [if_pos h1] at h
      obtain ⟨rfl, rfl, rfl, rfl⟩ : 16 + n1 = a ∧ 1 + n1 = b ∧ 26 + n1 = c ∧ 0 = e := by simpa using h
      exact measure_talk n0 n1 n2 n3 n4 n5 k w hg h1
    · rw [if_neg h1] at h
      by_cases h2 : k = 2
      · rw [if_pos h2] at h
        obtain ⟨rfl, rfl, rfl, rfl⟩ : 92 = a ∧ 16 = b ∧ 114 = c ∧ 0 = e := by simpa using h
        exact measure_dial n0 n1 n2 n3 n4 n5 k w hg h2
      · rw [if_neg h2] at h
        obtain ⟨rfl, rfl, rfl, rfl⟩ : 0 = a ∧ 0 = b ∧ 0 = c ∧ 253 = e := by simpa using h
        exact measure_none n0 n1 n2 n3 n4 n5 k w hg h1 h2
  · rw [if_neg hg] at h
    obtain ⟨rfl, rfl, rfl, rfl⟩ : 0 = a ∧ 0 = b ∧ 0 = c ∧ 200 = e := by simpa using h
    exact measure_no n0 n1 n2 n3 n4 n5 k w hg
set_option maxHeartbeats 4000000 in
set_option maxRecDepth 100000 in
theorem RequestSize_ev {n0 n1 n2 n3 n4 n5 k rq rp rc er : Int} (h : msr n0 n1 n2 n3 n4 n5 k = (rq, rp, rc, er)) (w : World) : Calls Tryd.prog 39 #[.agg #[.int .i64 n0, .int .i64 n1, .int .i64 n2, .int .i64 n3, .int .i64 n4, .int .i64 n5], .int .i64 k] w (Gives (· = .tuple #[.int .i64 rq, .int .i64 er]) w) := by
  have hS := conf_start n0 n1 n2 n3 n4 n5 w
  have HM := Lib.hid h
  clear h
  go_enter Tryd.func39, Tryd.ntmps39
  go_wp2_with ((with_reducible refine guard_list ?_); first | (refine held_load 23 _ rfl ?_))
  change Held (wpList _ _ _ _ _ (w.alloc (.cells #[.int .i64 n0, .int .i64 n1, .int .i64 n2, .int .i64 n3, .int .i64 n4, .int .i64 n5] 23)))
  generalize w.alloc (.cells #[.int .i64 n0, .int .i64 n1, .int .i64 n2, .int .i64 n3, .int .i64 n4, .int .i64 n5] 23) = w0 at hS ⊢
  obtain ⟨M, hM⟩ : ∃ M, M = w0.heap.size := ⟨_, rfl⟩
  have hMB : w.heap.size ≤ M := hM ▸ hS.1.size
  have ltM := hS.lt
  rw [← hM] at ltM
  refine hide_held fun t0 HT => ?_
  have HS : t0.size = 17 := by rw [HT]; rfl
  have h1 : t0[1]? = some (.int .i64 k) := by rw [HT]; rfl
  have h2 : t0[2]? = some (.pointer (some ⟨w.heap.size, 0, none⟩)) := by rw [HT]; rfl
  clear HT
  refine wp_list_most 7 (fun i => [9, 10, 11, 8, 12, 13, 6].getD i 0) (fun i => [none, none, none, none, none, none, some 3].getD i none) (fun i => [(· = .agg #[.int .i64 n0, .int .i64 n1, .int .i64 n2, .int .i64 n3, .int .i64 n4, .int .i64 n5]), (· = .int .i64 k), (· = .tuple #[.agg #[.int .i64 rq, .int .i64 rp, .int .i64 rc], .int .i64 er]), (· = .tuple #[.agg #[.int .i64 rq, .int .i64 rp, .int .i64 rc], .int .i64 er]), (· = .agg #[.int .i64 rq, .int .i64 rp, .int .i64 rc]), (· = .int .i64 er), (fun _ => True)].getD i (fun _ => True)) (fun w' => Own w [(w.heap.size, 6, (· = .agg #[.int .i64 n0, .int .i64 n1, .int .i64 n2, .int .i64 n3, .int .i64 n4, .int .i64 n5]))] w' ∧ M ≤ w'.heap.size) M
    (by kernel_rfl) (slots_apart (by kernel_rfl)) (slots_lie (by rw [HS]; kernel_rfl)) ⟨hS, Nat.le_of_eq hM⟩ (fun w' h => h.2) (fun w1 w2 h b => ⟨h.1.keep b, Nat.le_trans h.2 b.size⟩) ?_ ?_ ?_
  · clear hS
    intro i o hi ho hA
    have hc : i = 0 ∨ i = 1 ∨ i = 2 ∨ i = 3 ∨ i = 4 ∨ i = 5 ∨ i = 6 := by omega
    rcases hc with rfl | rfl | rfl | rfl | rfl | rfl | rfl
    · obtain rfl := Option.some.inj ho
      refine ⟨rfl, fun a w' hS hold hin K hK => ?_⟩
      refine if_always rfl ?_
      exact op_ld_own 6 tConf (.tmp 2) rfl rfl _ (eval_tmp ((hold 2 (slots_not (by kernel_rfl))).trans h2)) hS.1 0 rfl hK
    · obtain rfl := Option.some.inj ho
      refine ⟨rfl, fun a w' hS hold hin K hK => ?_⟩
      refine if_always rfl ?_
      exact op_move (V := (· = .int .i64 k)) _ _ rfl rfl (eval_tmp ((hold 1 (slots_not (by kernel_rfl))).trans h1)) rfl hK
    · obtain rfl := Option.some.inj ho
      refine ⟨rfl, fun a w' hS hold hin K hK => ?_⟩
      obtain ⟨y0, x0, rfl⟩ := hin 0 rfl (by omega) rfl
      obtain ⟨y1, x1, rfl⟩ := hin 1 rfl (by omega) rfl
      refine if_always rfl ?_
      exact op_fn2 _ _ _ _ _ _ rfl rfl (eval_tmp x0) (eval_tmp x1) (by intro args w; kernel_rfl) (measure_ev HM.out _) hK
    · obtain rfl := Option.some.inj ho
      refine ⟨rfl, fun a w' hS hold hin K hK => ?_⟩
      obtain ⟨y2, x2, rfl⟩ := hin 2 rfl (by omega) rfl
      refine if_always rfl ?_
      exact op_move (V := (· = .tuple #[.agg #[.int .i64 rq, .int .i64 rp, .int .i64 rc], .int .i64 er])) _ _ rfl rfl (eval_tmp x2) rfl hK
    · obtain rfl := Option.some.inj ho
      refine ⟨rfl, fun a w' hS hold hin K hK => ?_⟩
      obtain ⟨y3, x3, rfl⟩ := hin 3 rfl (by omega) rfl
      refine if_always rfl ?_
      exact op_tup0 (V := (· = .agg #[.int .i64 rq, .int .i64 rp, .int .i64 rc])) _ rfl rfl (eval_tmp x3) rfl hK
    · obtain rfl := Option.some.inj ho
      refine ⟨rfl, fun a w' hS hold hin K hK => ?_⟩
      obtain ⟨y3, x3, rfl⟩ := hin 3 rfl (by omega) rfl
      refine if_always rfl ?_
      exact op_tup1 (V := (· = .int .i64 er)) _ rfl rfl (eval_tmp x3) rfl hK
    · cases hA
  · intro i o sz hi ho hA
    have hc : i = 0 ∨ i = 1 ∨ i = 2 ∨ i = 3 ∨ i = 4 ∨ i = 5 ∨ i = 6 := by omega
    rcases hc with rfl | rfl | rfl | rfl | rfl | rfl | rfl
    · cases hA
    · cases hA
    · cases hA
    · cases hA
    · cases hA
    · cases hA
    · obtain rfl := Option.some.inj ho
      obtain rfl := Option.some.inj hA
      exact ⟨rfl, rfl, 81, #[.int .i64 0, .int .i64 0, .int .i64 0], rfl, fun a w' K h => wp_new 81 #[.int .i64 0, .int .i64 0, .int .i64 0] (fun w => by kernel_rfl) h⟩
  clear hS
  intro t1 V1 hs hold hout hall hne hS
  replace HS := hs.trans HS
  replace hS := hS.1
  obtain ⟨gz, h6, b6, r6⟩ : ∃ g, t1[6]? = some (.pointer (some ⟨g, 0, none⟩)) ∧ M ≤ g ∧ ∃ cs ty, V1.heap[g]? = some (.cells cs ty (0, 0)) ∧ cs.size = 3 := by
    obtain ⟨g, p1, p2, ty, cs, p3, p4⟩ := hall 6 (by omega) 3 rfl
    exact ⟨g, p1, p2, cs, ty, p3, p4⟩
  replace hS : Own w [(w.heap.size, 6, (· = .agg #[.int .i64 n0, .int .i64 n1, .int .i64 n2, .int .i64 n3, .int .i64 n4, .int .i64 n5])), (gz, 3, (fun _ => True))] V1 := hS.add (Nat.le_trans hMB b6) (fun r hr => Nat.ne_of_lt (Nat.lt_of_lt_of_le (ltM r hr) b6)) (Own.any r6)
  obtain ⟨x12, q12, v12⟩ : ∃ x, t1[12]? = some x ∧ ((· = .agg #[.int .i64 rq, .int .i64 rp, .int .i64 rc])) x := hout 4 (by omega) rfl
  replace q12 : t1[12]? = some (.agg #[.int .i64 rq, .int .i64 rp, .int .i64 rc]) := q12.trans (congrArg some v12)
  obtain ⟨x13, q13, v13⟩ : ∃ x, t1[13]? = some x ∧ ((· = .int .i64 er)) x := hout 5 (by omega) rfl
  replace q13 : t1[13]? = some (.int .i64 er) := q13.trans (congrArg some v13)
  replace h1 := (hold 1 (slots_not (by kernel_rfl))).trans h1
  replace h2 := (hold 2 (slots_not (by kernel_rfl))).trans h2
  clear hold hout hs hall hne
  simp only [List.drop_succ_cons, List.drop_zero]
  refine st_own 3 tSizes rfl (.tmp 6) (.tmp 12) rfl rfl _ _ (eval_tmp h6) (eval_tmp q12) (V' := (· = .agg #[.int .i64 rq, .int .i64 rp, .int .i64 rc])) rfl by_sizes hS 1 rfl fun V1' hS' _ => ?_
  replace hS : Own w [(w.heap.size, 6, (· = .agg #[.int .i64 n0, .int .i64 n1, .int .i64 n2, .int .i64 n3, .int .i64 n4, .int .i64 n5])), (gz, 3, (· = .agg #[.int .i64 rq, .int .i64 rp, .int .i64 rc]))] V1' := hS'
  clear hS'
  refine tlx_assign (.tmp 13) rfl rfl 7 rfl (by rw [HS]; decide) (.int .i64 er) (eval_tmp q13) fun t1 ex0 hz hq he => ?_
  replace h1 := (he 1 (by decide)).trans h1
  replace h2 := (he 2 (by decide)).trans h2
  replace h6 := (he 6 (by decide)).trans h6
  replace q12 := (he 12 (by decide)).trans q12
  replace q13 := (he 13 (by decide)).trans q13
  replace HS := hz.trans HS
  clear hz he ex0
  have h7 := hq
  clear hq
  refine wpList_nil ?_
  obtain ⟨f, e0, hf⟩ := wash HS
  have f1 := hf 1 _ h1
  have f2 := hf 2 _ h2
  have f6 := hf 6 _ h6
  have f7 := hf 7 _ h7
  clear hf
  rw [e0.trans (show _ = #[f 0, f 1, f 2, f 3, f 4, f 5, f 6, f 7, f 8, f 9, f 10, f 11, f 12, f 13, f 14, f 15, f 16] from by kernel_rfl), f1, f2, f6, f7]
  clear f1 f2 f6 f7
  clear e0
  try dsimp only
  clear h1 h2 h6 h7 q12 q13 v12 v13 b6 r6 ltM hMB hM HS t1 t0 M
  go_wp2_with ((with_reducible refine guard_list ?_); first | (refine held_load 3 _ rfl ?_))
  obtain ⟨M, hM⟩ : ∃ M, M = V1'.heap.size := ⟨_, rfl⟩
  refine hide_held fun t0 HT => ?_
  have HS : t0.size = 17 := by rw [HT]; rfl
  have h1 : t0[1]? = some (.int .i64 k) := by rw [HT]; rfl
  have h2 : t0[2]? = some (.pointer (some ⟨w.heap.size, 0, none⟩)) := by rw [HT]; rfl
  have h6 : t0[6]? = some (.pointer (some ⟨gz, 0, none⟩)) := by rw [HT]; rfl
  have h7 : t0[7]? = some (.int .i64 er) := by rw [HT]; rfl
  refine wp_from_most 3 (fun i => [14, 15, 16].getD i 0) (fun _ => none) (fun i => [(· = .pointer (some ⟨gz, 0, none⟩)), (· = .int .i64 rq), (· = .int .i64 er)].getD i (fun _ => True)) (fun w' => Own w [(w.heap.size, 6, (· = .agg #[.int .i64 n0, .int .i64 n1, .int .i64 n2, .int .i64 n3, .int .i64 n4, .int .i64 n5])), (gz, 3, (· = .agg #[.int .i64 rq, .int .i64 rp, .int .i64 rc]))] w' ∧ M ≤ w'.heap.size) M
    1 (by omega) (by kernel_rfl) ?_ (slots_apart (by kernel_rfl)) (slots_lie (by rw [HS]; kernel_rfl)) ⟨hS, Nat.le_of_eq hM⟩ (fun w' h => h.2) (fun w1 w2 h b => ⟨h.1.keep b, Nat.le_trans h.2 b.size⟩) ?_ ?_ ?_
  · intro j hj _
    have hc : j = 0 := by omega
    rcases hc with rfl
    · exact ⟨rfl, _, by rw [HT]; rfl, rfl⟩
  · clear hS
    intro i o h0i hi ho hA
    have hc : i = 1 ∨ i = 2 := by omega
    rcases hc with rfl | rfl
    · obtain rfl := Option.some.inj ho
      refine ⟨rfl, fun a w' hS hold hin K hK => ?_⟩
      obtain ⟨y0, x0, rfl⟩ := hin 0 rfl (by omega) rfl
      refine if_always rfl ?_
      exact op_cell_own tInt _ gz 0 rfl rfl (eval_tmp x0) hS.1 1 _ _ rfl (.int .i64 rq) rfl hK
    · obtain rfl := Option.some.inj ho
      refine ⟨rfl, fun a w' hS hold hin K hK => ?_⟩
      refine if_always rfl ?_
      exact op_move (V := (· = .int .i64 er)) _ _ rfl rfl (eval_tmp ((hold 7 (slots_not (by kernel_rfl))).trans h7)) rfl hK
  · intro i o sz h0i hi ho hA; cases hA
  clear hS
  intro t1 V2 hs hold hout hall hne hS
  replace HS := hs.trans HS
  replace hS := hS.1
  obtain ⟨x15, q15, v15⟩ : ∃ x, t1[15]? = some x ∧ ((· = .int .i64 rq)) x := hout 1 (by omega) rfl
  replace q15 : t1[15]? = some (.int .i64 rq) := q15.trans (congrArg some v15)
  obtain ⟨x16, q16, v16⟩ : ∃ x, t1[16]? = some x ∧ ((· = .int .i64 er)) x := hout 2 (by omega) rfl
  replace q16 : t1[16]? = some (.int .i64 er) := q16.trans (congrArg some v16)
  replace h1 := (hold 1 (slots_not (by kernel_rfl))).trans h1
  replace h2 := (hold 2 (slots_not (by kernel_rfl))).trans h2
  replace h6 := (hold 6 (slots_not (by kernel_rfl))).trans h6
  replace h7 := (hold 7 (slots_not (by kernel_rfl))).trans h7
  clear hold hout hs hall hne
  simp only [List.drop_succ_cons, List.drop_zero]
  refine tlx_assign (.tmp 15) rfl rfl 4 rfl (by rw [HS]; decide) (.int .i64 rq) (eval_tmp q15) fun t1 ex0 hz hq he => ?_
  replace h1 := (he 1 (by decide)).trans h1
  replace h2 := (he 2 (by decide)).trans h2
  replace h6 := (he 6 (by decide)).trans h6
  replace h7 := (he 7 (by decide)).trans h7
  replace q15 := (he 15 (by decide)).trans q15
  replace q16 := (he 16 (by decide)).trans q16
  replace HS := hz.trans HS
  clear hz he ex0
  have h4 := hq
  clear hq
  refine tlx_assign (.tmp 16) rfl rfl 5 rfl (by rw [HS]; decide) (.int .i64 er) (eval_tmp q16) fun t1 ex1 hz hq he => ?_
  replace h1 := (he 1 (by decide)).trans h1
  replace h2 := (he 2 (by decide)).trans h2
  replace h6 := (he 6 (by decide)).trans h6
  replace h7 := (he 7 (by decide)).trans h7
  replace h4 := (he 4 (by decide)).trans h4
  replace q15 := (he 15 (by decide)).trans q15
  replace q16 := (he 16 (by decide)).trans q16
  replace HS := hz.trans HS
  clear hz he ex1
  have h5 := hq
  clear hq
  refine wpList_nil ?_
  clear HT
  obtain ⟨f, e0, hf⟩ := wash HS
  have f1 := hf 1 _ h1
  have f2 := hf 2 _ h2
  have f6 := hf 6 _ h6
  have f7 := hf 7 _ h7
  have f4 := hf 4 _ h4
  have f5 := hf 5 _ h5
  clear hf
  rw [e0.trans (show _ = #[f 0, f 1, f 2, f 3, f 4, f 5, f 6, f 7, f 8, f 9, f 10, f 11, f 12, f 13, f 14, f 15, f 16] from by kernel_rfl), f1, f2, f6, f7, f4, f5]
  clear f1 f2 f6 f7 f4 f5
  clear e0
  try dsimp only
  clear h1 h2 h6 h7 h4 h5 q15 q16 v15 v16 hM HS t1 t0 M
  have hbel := hS.1
  clear hS
  go_wp2_with fail
  exact ⟨rfl, .tuple #[.int .i64 rq, .int .i64 er], by kernel_rfl, _, rfl, rfl, hbel⟩
set_option maxHeartbeats 4000000 in
set_option maxRecDepth 100000 in
theorem ReplySize_ev {n0 n1 n2 n3 n4 n5 k rq rp rc er : Int} (h : msr n0 n1 n2 n3 n4 n5 k = (rq, rp, rc, er)) (w : World) : Calls Tryd.prog 41 #[.agg #[.int .i64 n0, .int .i64 n1, .int .i64 n2, .int .i64 n3, .int .i64 n4, .int .i64 n5], .int .i64 k] w (Gives (· = .tuple #[.int .i64 rp, .int .i64 er]) w) := by
  have hS := conf_start n0 n1 n2 n3 n4 n5 w
  have HM := Lib.hid h
  clear h
  go_enter Tryd.func41, Tryd.ntmps41
  go_wp2_with ((with_reducible refine guard_list ?_); first | (refine held_load 23 _ rfl ?_))
  change Held (wpList _ _ _ _ _ (w.alloc (.cells #[.int .i64 n0, .int .i64 n1, .int .i64 n2, .int .i64 n3, .int .i64 n4, .int .i64 n5] 23)))
  generalize w.alloc (.cells #[.int .i64 n0, .int .i64 n1, .int .i64 n2, .int .i64 n3, .int .i64 n4, .int .i64 n5] 23) = w0 at hS ⊢
  obtain ⟨M, hM⟩ : ∃ M, M = w0.heap.size := ⟨_, rfl⟩
  have hMB : w.heap.size ≤ M := hM ▸ hS.1.size
  have ltM := hS.lt
  rw [← hM] at ltM
  refine hide_held fun t0 HT => ?_
  have HS : t0.size = 17 := by rw [HT]; rfl
  have h1 : t0[1]? = some (.int .i64 k) := by rw [HT]; rfl
  have h2 : t0[2]? = some (.pointer (some ⟨w.heap.size, 0, none⟩)) := by rw [HT]; rfl
  clear HT
  refine wp_list_most 7 (fun i => [9, 10, 11, 8, 12, 13, 6].getD i 0) (fun i => [none, none, none, none, none, none, some 3].getD i none) (fun i => [(· = .agg #[.int .i64 n0, .int .i64 n1, .int .i64 n2, .int .i64 n3, .int .i64 n4, .int .i64 n5]), (· = .int .i64 k), (· = .tuple #[.agg #[.int .i64 rq, .int .i64 rp, .int .i64 rc], .int .i64 er]), (· = .tuple #[.agg #[.int .i64 rq, .int .i64 rp, .int .i64 rc], .int .i64 er]), (· = .agg #[.int .i64 rq, .int .i64 rp, .int .i64 rc]), (· = .int .i64 er), (fun _ => True)].getD i (fun _ => True)) (fun w' => Own w [(w.heap.size, 6, (· = .agg #[.int .i64 n0, .int .i64 n1, .int .i64 n2, .int .i64 n3, .int .i64 n4, .int .i64 n5]))] w' ∧ M ≤ w'.heap.size) M
    (by kernel_rfl) (slots_apart (by kernel_rfl)) (slots_lie (by rw [HS]; kernel_rfl)) ⟨hS, Nat.le_of_eq hM⟩ (fun w' h => h.2) (fun w1 w2 h b => ⟨h.1.keep b, Nat.le_trans h.2 b.size⟩) ?_ ?_ ?_
  · clear hS
    intro i o hi ho hA
    have hc : i = 0 ∨ i = 1 ∨ i = 2 ∨ i = 3 ∨ i = 4 ∨ i = 5 ∨ i = 6 := by omega
    rcases hc with rfl | rfl | rfl | rfl | rfl | rfl | rfl
    · obtain rfl := Option.some.inj ho
      refine ⟨rfl, fun a w' hS hold hin K hK => ?_⟩
      refine if_always rfl ?_
      exact op_ld_own 6 tConf (.tmp 2) rfl rfl _ (eval_tmp ((hold 2 (slots_not (by kernel_rfl))).trans h2)) hS.1 0 rfl hK
    · obtain rfl := Option.some.inj ho
      refine ⟨rfl, fun a w' hS hold hin K hK => ?_⟩
      refine if_always rfl ?_
      exact op_move (V := (· = .int .i64 k)) _ _ rfl rfl (eval_tmp ((hold 1 (slots_not (by kernel_rfl))).trans h1)) rfl hK
    · obtain rfl := Option.some.inj ho
      refine ⟨rfl, fun a w' hS hold hin K hK => ?_⟩
      obtain ⟨y0, x0, rfl⟩ := hin 0 rfl (by omega) rfl
      obtain ⟨y1, x1, rfl⟩ := hin 1 rfl (by omega) rfl
      refine if_always rfl ?_
      exact op_fn2 _ _ _ _ _ _ rfl rfl (eval_tmp x0) (eval_tmp x1) (by intro args w; kernel_rfl) (measure_ev HM.out _) hK
    · obtain rfl := Option.some.inj ho
      refine ⟨rfl, fun a w' hS hold hin K hK => ?_⟩
      obtain ⟨y2, x2, rfl⟩ := hin 2 rfl (by omega) rfl
      refine if_always rfl ?_
      exact op_move (V := (· = .tuple #[.agg #[.int .i64 rq, .int .i64 rp, .int .i64 rc], .int .i64 er])) _ _ rfl rfl (eval_tmp x2) rfl hK
    · obtain rfl := Option.some.inj ho
      refine ⟨rfl, fun a w' hS hold hin K hK => ?_⟩
      obtain ⟨y3, x3, rfl⟩ := hin 3 rfl (by omega) rfl
      refine if_always rfl ?_
      exact op_tup0 (V := (· = .agg #[.int .i64 rq, .int .i64 rp, .int .i64 rc])) _ rfl rfl (eval_tmp x3) rfl hK
    · obtain rfl := Option.some.inj ho
      refine ⟨rfl, fun a w' hS hold hin K hK => ?_⟩
      obtain ⟨y3, x3, rfl⟩ := hin 3 rfl (by omega) rfl
      refine if_always rfl ?_
      exact op_tup1 (V := (· = .int .i64 er)) _ rfl rfl (eval_tmp x3) rfl hK
    · cases hA
  · intro i o sz hi ho hA
    have hc : i = 0 ∨ i = 1 ∨ i = 2 ∨ i = 3 ∨ i = 4 ∨ i = 5 ∨ i = 6 := by omega
    rcases hc with rfl | rfl | rfl | rfl | rfl | rfl | rfl
    · cases hA
    · cases hA
    · cases hA
    · cases hA
    · cases hA
    · cases hA
    · obtain rfl := Option.some.inj ho
      obtain rfl := Option.some.inj hA
      exact ⟨rfl, rfl, 81, #[.int .i64 0, .int .i64 0, .int .i64 0], rfl, fun a w' K h => wp_new 81 #[.int .i64 0, .int .i64 0, .int .i64 0] (fun w => by kernel_rfl) h⟩
  clear hS
  intro t1 V1 hs hold hout hall hne hS
  replace HS := hs.trans HS
  replace hS := hS.1
  obtain ⟨gz, h6, b6, r6⟩ : ∃ g, t1[6]? = some (.pointer (some ⟨g, 0, none⟩)) ∧ M ≤ g ∧ ∃ cs ty, V1.heap[g]? = some (.cells cs ty (0, 0)) ∧ cs.size = 3 := by
    obtain ⟨g, p1, p2, ty, cs, p3, p4⟩ := hall 6 (by omega) 3 rfl
    exact ⟨g, p1, p2, cs, ty, p3, p4⟩
  replace hS : Own w [(w.heap.size, 6, (· = .agg #[.int .i64 n0, .int .i64 n1, .int .i64 n2, .int .i64 n3, .int .i64 n4, .int .i64 n5])), (gz, 3, (fun _ => True))] V1 := hS.add (Nat.le_trans hMB b6) (fun r hr => Nat.ne_of_lt (Nat.lt_of_lt_of_le (ltM r hr) b6)) (Own.any r6)
  obtain ⟨x12, q12, v12⟩ : ∃ x, t1[12]? = some x ∧ ((· = .agg #[.int .i64 rq, .int .i64 rp, .int .i64 rc])) x := hout 4 (by omega) rfl
  replace q12 : t1[12]? = some (.agg #[.int .i64 rq, .int .i64 rp, .int .i64 rc]) := q12.trans (congrArg some v12)
  obtain ⟨x13, q13, v13⟩ : ∃ x, t1[13]? = some x ∧ ((· = .int .i64 er)) x := hout 5 (by omega) rfl
  replace q13 : t1[13]? = some (.int .i64 er) := q13.trans (congrArg some v13)
  replace h1 := (hold 1 (slots_not (by kernel_rfl))).trans h1
  replace h2 := (hold 2 (slots_not (by kernel_rfl))).trans h2
  clear hold hout hs hall hne
  simp only [List.drop_succ_cons, List.drop_zero]
  refine st_own 3 tSizes rfl (.tmp 6) (.tmp 12) rfl rfl _ _ (eval_tmp h6) (eval_tmp q12) (V' := (· = .agg #[.int .i64 rq, .int .i64 rp, .int .i64 rc])) rfl by_sizes hS 1 rfl fun V1' hS' _ => ?_
  replace hS : Own w [(w.heap.size, 6, (· = .agg #[.int .i64 n0, .int .i64 n1, .int .i64 n2, .int .i64 n3, .int .i64 n4, .int .i64 n5])), (gz, 3, (· = .agg #[.int .i64 rq, .int .i64 rp, .int .i64 rc]))] V1' := hS'
  clear hS'
  refine tlx_assign (.tmp 13) rfl rfl 7 rfl (by rw [HS]; decide) (.int .i64 er) (eval_tmp q13) fun t1 ex0 hz hq he => ?_
  replace h1 := (he 1 (by decide)).trans h1
  replace h2 := (he 2 (by decide)).trans h2
  replace h6 := (he 6 (by decide)).trans h6
  replace q12 := (he 12 (by decide)).trans q12
  replace q13 := (he 13 (by decide)).trans q13
  replace HS := hz.trans HS
  clear hz he ex0
  have h7 := hq
  clear hq
  refine wpList_nil ?_
  obtain ⟨f, e0, hf⟩ := wash HS
  have f1 := hf 1 _ h1
  have f2 := hf 2 _ h2
  have f6 := hf 6 _ h6
  have f7 := hf 7 _ h7
  clear hf
  rw [e0.trans (show _ = #[f 0, f 1, f 2, f 3, f 4, f 5, f 6, f 7, f 8, f 9, f 10, f 11, f 12, f 13, f 14, f 15, f 16] from by kernel_rfl), f1, f2, f6, f7]
  clear f1 f2 f6 f7
  clear e0
  try dsimp only
  clear h1 h2 h6 h7 q12 q13 v12 v13 b6 r6 ltM hMB hM HS t1 t0 M
  go_wp2_with ((with_reducible refine guard_list ?_); first | (refine held_load 3 _ rfl ?_))
  obtain ⟨M, hM⟩ : ∃ M, M = V1'.heap.size := ⟨_, rfl⟩
  refine hide_held fun t0 HT => ?_
  have HS : t0.size = 17 := by rw [HT]; rfl
  have h1 : t0[1]? = some (.int .i64 k) := by rw [HT]; rfl
  have h2 : t0[2]? = some (.pointer (some ⟨w.heap.size, 0, none⟩)) := by rw [HT]; rfl
  have h6 : t0[6]? = some (.pointer (some ⟨gz, 0, none⟩)) := by rw [HT]; rfl
  have h7 : t0[7]? = some (.int .i64 er) := by rw [HT]; rfl
  refine wp_from_most 3 (fun i => [14, 15, 16].getD i 0) (fun _ => none) (fun i => [(· = .pointer (some ⟨gz, 1, none⟩)), (· = .int .i64 rp), (· = .int .i64 er)].getD i (fun _ => True)) (fun w' => Own w [(w.heap.size, 6, (· = .agg #[.int .i64 n0, .int .i64 n1, .int .i64 n2, .int .i64 n3, .int .i64 n4, .int .i64 n5])), (gz, 3, (· = .agg #[.int .i64 rq, .int .i64 rp, .int .i64 rc]))] w' ∧ M ≤ w'.heap.size) M
    1 (by omega) (by kernel_rfl) ?_ (slots_apart (by kernel_rfl)) (slots_lie (by rw [HS]; kernel_rfl)) ⟨hS, Nat.le_of_eq hM⟩ (fun w' h => h.2) (fun w1 w2 h b => ⟨h.1.keep b, Nat.le_trans h.2 b.size⟩) ?_ ?_ ?_
  · intro j hj _
    have hc : j = 0 := by omega
    rcases hc with rfl
    · exact ⟨rfl, _, by rw [HT]; rfl, rfl⟩
  · clear hS
    intro i o h0i hi ho hA
    have hc : i = 1 ∨ i = 2 := by omega
    rcases hc with rfl | rfl
    · obtain rfl := Option.some.inj ho
      refine ⟨rfl, fun a w' hS hold hin K hK => ?_⟩
      obtain ⟨y0, x0, rfl⟩ := hin 0 rfl (by omega) rfl
      refine if_always rfl ?_
      exact op_cell_own tInt _ gz 1 rfl rfl (eval_tmp x0) hS.1 1 _ _ rfl (.int .i64 rp) rfl hK
    · obtain rfl := Option.some.inj ho
      refine ⟨rfl, fun a w' hS hold hin K hK => ?_⟩
      refine if_always rfl ?_
      exact op_move (V := (· = .int .i64 er)) _ _ rfl rfl (eval_tmp ((hold 7 (slots_not (by kernel_rfl))).trans h7)) rfl hK
  · intro i o sz h0i hi ho hA; cases hA
  clear hS
  intro t1 V2 hs hold hout hall hne hS
  replace HS := hs.trans HS
  replace hS := hS.1
  obtain ⟨x15, q15, v15⟩ : ∃ x, t1[15]? = some x ∧ ((· = .int .i64 rp)) x := hout 1 (by omega) rfl
  replace q15 : t1[15]? = some (.int .i64 rp) := q15.trans (congrArg some v15)
  obtain ⟨x16, q16, v16⟩ : ∃ x, t1[16]? = some x ∧ ((· = .int .i64 er)) x := hout 2 (by omega) rfl
  replace q16 : t1[16]? = some (.int .i64 er) := q16.trans (congrArg some v16)
  replace h1 := (hold 1 (slots_not (by kernel_rfl))).trans h1
  replace h2 := (hold 2 (slots_not (by kernel_rfl))).trans h2
  replace h6 := (hold 6 (slots_not (by kernel_rfl))).trans h6
  replace h7 := (hold 7 (slots_not (by kernel_rfl))).trans h7
  clear hold hout hs hall hne
  simp only [List.drop_succ_cons, List.drop_zero]
  refine tlx_assign (.tmp 15) rfl rfl 4 rfl (by rw [HS]; decide) (.int .i64 rp) (eval_tmp q15) fun t1 ex0 hz hq he => ?_
  replace h1 := (he 1 (by decide)).trans h1
  replace h2 := (he 2 (by decide)).trans h2
  replace h6 := (he 6 (by decide)).trans h6
  replace h7 := (he 7 (by decide)).trans h7
  replace q15 := (he 15 (by decide)).trans q15
  replace q16 := (he 16 (by decide)).trans q16
  replace HS := hz.trans HS
  clear hz he ex0
  have h4 := hq
  clear hq
  refine tlx_assign (.tmp 16) rfl rfl 5 rfl (by rw [HS]; decide) (.int .i64 er) (eval_tmp q16) fun t1 ex1 hz hq he => ?_
  replace h1 := (he 1 (by decide)).trans h1
  replace h2 := (he 2 (by decide)).trans h2
  replace h6 := (he 6 (by decide)).trans h6
  replace h7 := (he 7 (by decide)).trans h7
  replace h4 := (he 4 (by decide)).trans h4
  replace q15 := (he 15 (by decide)).trans q15
  replace q16 := (he 16 (by decide)).trans q16
  replace HS := hz.trans HS
  clear hz he ex1
  have h5 := hq
  clear hq
  refine wpList_nil ?_
  clear HT
  obtain ⟨f, e0, hf⟩ := wash HS
  have f1 := hf 1 _ h1
  have f2 := hf 2 _ h2
  have f6 := hf 6 _ h6
  have f7 := hf 7 _ h7
  have f4 := hf 4 _ h4
  have f5 := hf 5 _ h5
  clear hf
  rw [e0.trans (show _ = #[f 0, f 1, f 2, f 3, f 4, f 5, f 6, f 7, f 8, f 9, f 10, f 11, f 12, f 13, f 14, f 15, f 16] from by kernel_rfl), f1, f2, f6, f7, f4, f5]
  clear f1 f2 f6 f7 f4 f5
  clear e0
  try dsimp only
  clear h1 h2 h6 h7 h4 h5 q15 q16 v15 v16 hM HS t1 t0 M
  have hbel := hS.1
  clear hS
  go_wp2_with fail
  exact ⟨rfl, .tuple #[.int .i64 rp, .int .i64 er], by kernel_rfl, _, rfl, rfl, hbel⟩
end Go.Proofs.YtmochmpamgfboaaDoor
