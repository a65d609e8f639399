/- codec's fits and TalkReply where nobody is there; codec.Pages. Condition: none but what each says. -/
import Derived.Test.YtmochmpamgfboaaDoorPagB
import Derived.Laws.MakeOwn
namespace Go.Proofs.YtmochmpamgfboaaDoor
open Go.RowKit
theorem ret_row1 {fn : Func} {P : Program} {R : Ending → World → Prop} {a : Act} {w : World} {p : Tmp} {ty : TypeId} (h : fn.results = #[.cell p ty]) (g : Nat) (cs : Array Value) (t : TypeId)
    (hp : a.tmps.getD p undef = .pointer (some ⟨g, 0, none⟩)) (hg : w.heap[g]? = some (.cells cs t (0, 0))) (n : Nat) (hT : RowT P ty n) (hn : cs.size = n) (hd : a.defers = []) (hR : R (.returned (.agg cs)) w) : bodyPost P fn R .ret a w := ret_row h g cs t hp hg n hT hn hd hR
set_option maxHeartbeats 4000000 in
set_option maxRecDepth 100000 in
theorem small_ev (w : World) : Calls Tryd.prog 66 #[] w (Gives (· = .agg #[.int .i64 4, .int .i64 32, .int .i64 3, .int .i64 114, .int .i64 2, .int .i64 1]) w) := by
  have hS := (Own.start w).keep ((Below.refl _ _).alloc (Nat.le_refl _) (.cells #[.int .i64 0, .int .i64 0, .int .i64 0, .int .i64 0, .int .i64 0, .int .i64 0] 23)) |>.add (g := w.heap.size) (n := 6) (V := fun _ => True) (Nat.le_refl _) (fun r hr => by cases hr) ⟨_, _, heap_alloc_new w _, rfl, trivial⟩
  go_enter Tryd.func66, Tryd.ntmps66
  go_wp2_with ((with_reducible refine guard_list ?_); first | (refine held_build _ _ rfl ?_))
  change Held (wpList _ _ _ _ _ (w.alloc (.cells #[.int .i64 0, .int .i64 0, .int .i64 0, .int .i64 0, .int .i64 0, .int .i64 0] 23)))
  generalize w.alloc (.cells #[.int .i64 0, .int .i64 0, .int .i64 0, .int .i64 0, .int .i64 0, .int .i64 0] 23) = w0 at hS ⊢
  obtain ⟨M, hM⟩ : ∃ M, M = w0.heap.size := ⟨_, rfl⟩
  refine hide_held fun t0 HT => ?_
  have HS : t0.size = 2 := by rw [HT]; rfl
  have h0 : t0[0]? = some (.pointer (some ⟨w.heap.size, 0, none⟩)) := by rw [HT]; rfl
  clear HT
  refine wp_list_most 1 (fun i => [1].getD i 0) (fun _ => none) (fun i => [(· = .agg #[.int .i64 4, .int .i64 32, .int .i64 3, .int .i64 114, .int .i64 2, .int .i64 1])].getD i (fun _ => True)) (fun w' => Own w [(w.heap.size, 6, (fun _ => True))] w' ∧ M ≤ w'.heap.size) M
    (by kernel_rfl) (slots_apart (by kernel_rfl)) (slots_lie (by rw [HS]; kernel_rfl)) ⟨hS, Nat.le_of_eq hM⟩ (fun w' h => h.2) (fun w1 w2 h b => ⟨h.1.keep b, Nat.le_trans h.2 b.size⟩) ?_ ?_ ?_
  · clear hS
    intro i o hi ho hA
    have hc : i = 0 := by omega
    rcases hc with rfl
    · obtain rfl := Option.some.inj ho
      refine ⟨rfl, fun a w' hS hold hin K hK => ?_⟩
      refine if_always rfl ?_
      exact op_val (V := (· = .agg #[.int .i64 4, .int .i64 32, .int .i64 3, .int .i64 114, .int .i64 2, .int .i64 1])) (.agg #[.int .i64 4, .int .i64 32, .int .i64 3, .int .i64 114, .int .i64 2, .int .i64 1]) rfl (by kernel_rfl) rfl hK
  · intro i o sz hi ho hA; cases hA
  clear hS
  intro t1 V1 hs hold hout hall hne hS
  replace HS := hs.trans HS
  replace hS := hS.1
  obtain ⟨x1, q1, v1⟩ : ∃ x, t1[1]? = some x ∧ ((· = .agg #[.int .i64 4, .int .i64 32, .int .i64 3, .int .i64 114, .int .i64 2, .int .i64 1])) x := hout 0 (by omega) rfl
  replace q1 : t1[1]? = some (.agg #[.int .i64 4, .int .i64 32, .int .i64 3, .int .i64 114, .int .i64 2, .int .i64 1]) := q1.trans (congrArg some v1)
  replace h0 := (hold 0 (slots_not (by kernel_rfl))).trans h0
  clear hold hout hs hall hne
  simp only [List.drop_succ_cons, List.drop_zero]
  refine st_own 6 tConf rfl (.tmp 0) (.tmp 1) rfl rfl _ _ (eval_tmp h0) (eval_tmp q1) (V' := (· = .agg #[.int .i64 4, .int .i64 32, .int .i64 3, .int .i64 114, .int .i64 2, .int .i64 1])) rfl by_conf hS 0 rfl fun V1' hS' _ => ?_
  replace hS : Own w [(w.heap.size, 6, (· = .agg #[.int .i64 4, .int .i64 32, .int .i64 3, .int .i64 114, .int .i64 2, .int .i64 1]))] V1' := hS'
  clear hS'
  refine wpList_nil ?_
  obtain ⟨f, e0, hf⟩ := wash HS
  have f0 := hf 0 _ h0
  clear hf
  rw [e0.trans (show _ = #[f 0, f 1] from by kernel_rfl), f0]
  clear f0
  clear e0
  try dsimp only
  clear h0 q1 v1 hM HS t1 t0 M
  obtain ⟨cs, ct, c1, c2, c3⟩ := hS.get (i := 0) rfl
  have hbel := hS.1
  have C3 := Lib.hid c3
  clear hS c3
  go_wp2_with fail
  refine ret_row rfl _ _ _ rfl c1 6 tConf c2 rfl ?_
  exact ⟨_, rfl, C3.out, hbel⟩
theorem own_exact {b w : World} {L : List (Nat × Nat × (Value → Prop))} (h : Own b L w) (i : Nat) {g n : Nat} {c : Array Value} (hi : L[i]? = some (g, n, (· = .agg c))) : ∃ t, w.heap[g]? = some (.cells c t (0, 0)) := by
  obtain ⟨cs, t, h1, _, h3⟩ := h.get hi
  injection h3 with h3
  subst h3
  exact ⟨t, h1⟩
set_option maxHeartbeats 4000000 in
set_option maxRecDepth 100000 in
theorem fits_yes {n0 n1 n2 n3 n4 n5 : Int} (hg : good n0 n1 n2 n3 n4 n5 = true) (p : Option Addr) (n c : Nat) (w : World) : Calls Tryd.prog 46 #[.agg #[.int .i64 n0, .int .i64 n1, .int .i64 n2, .int .i64 n3, .int .i64 n4, .int .i64 n5], .slice p n c, .int .i64 n] w (Gives (· = .int .i64 0) w) := by
  have hS := conf_start n0 n1 n2 n3 n4 n5 w
  have HG := Lib.hid hg
  clear hg
  go_enter Tryd.func46, Tryd.ntmps46
  go_wp2_with ((with_reducible refine guard_list ?_); first | (refine held_load 23 _ rfl ?_))
  change Held (wpList _ _ _ _ _ (w.alloc (.cells #[.int .i64 n0, .int .i64 n1, .int .i64 n2, .int .i64 n3, .int .i64 n4, .int .i64 n5] 23)))
  generalize w.alloc (.cells #[.int .i64 n0, .int .i64 n1, .int .i64 n2, .int .i64 n3, .int .i64 n4, .int .i64 n5] 23) = w0 at hS ⊢
  obtain ⟨M, hM⟩ : ∃ M, M = w0.heap.size := ⟨_, rfl⟩
  refine hide_held fun t0 HT => ?_
  have HS : t0.size = 17 := by rw [HT]; rfl
  have h1 : t0[1]? = some (.slice p n c) := by rw [HT]; rfl
  have h2 : t0[2]? = some (.int .i64 n) := by rw [HT]; rfl
  have h3 : t0[3]? = some (.pointer (some ⟨w.heap.size, 0, none⟩)) := by rw [HT]; rfl
  clear HT
  refine wp_list_most 2 (fun i => [8, 9].getD i 0) (fun _ => none) (fun i => [(· = .agg #[.int .i64 n0, .int .i64 n1, .int .i64 n2, .int .i64 n3, .int .i64 n4, .int .i64 n5]), (· = .int .i64 0)].getD i (fun _ => True)) (fun w' => Own w [(w.heap.size, 6, (· = .agg #[.int .i64 n0, .int .i64 n1, .int .i64 n2, .int .i64 n3, .int .i64 n4, .int .i64 n5]))] w' ∧ M ≤ w'.heap.size) M
    (by kernel_rfl) (slots_apart (by kernel_rfl)) (slots_lie (by rw [HS]; kernel_rfl)) ⟨hS, Nat.le_of_eq hM⟩ (fun w' h => h.2) (fun w1 w2 h b => ⟨h.1.keep b, Nat.le_trans h.2 b.size⟩) ?_ ?_ ?_
  · clear hS
    intro i o hi ho hA
    have hc : i = 0 ∨ i = 1 := by omega
    rcases hc with rfl | rfl
    · obtain rfl := Option.some.inj ho
      refine ⟨rfl, fun a w' hS hold hin K hK => ?_⟩
      refine if_always rfl ?_
      exact op_ld_own 6 tConf (.tmp 3) rfl rfl _ (eval_tmp ((hold 3 (slots_not (by kernel_rfl))).trans h3)) hS.1 0 rfl hK
    · obtain rfl := Option.some.inj ho
      refine ⟨rfl, fun a w' hS hold hin K hK => ?_⟩
      obtain ⟨y0, x0, rfl⟩ := hin 0 rfl (by omega) rfl
      refine if_always rfl ?_
      exact op_fn1 _ _ _ _ rfl rfl (eval_tmp x0) (by intro args w; kernel_rfl) (chk_yes HG.out _) hK
  · intro i o sz hi ho hA; cases hA
  clear hS
  intro t1 V1 hs hold hout hall hne hS
  replace HS := hs.trans HS
  replace hS := hS.1
  obtain ⟨x9, q9, v9⟩ : ∃ x, t1[9]? = some x ∧ ((· = .int .i64 0)) x := hout 1 (by omega) rfl
  replace q9 : t1[9]? = some (.int .i64 0) := q9.trans (congrArg some v9)
  replace h1 := (hold 1 (slots_not (by kernel_rfl))).trans h1
  replace h2 := (hold 2 (slots_not (by kernel_rfl))).trans h2
  replace h3 := (hold 3 (slots_not (by kernel_rfl))).trans h3
  clear hold hout hs hall hne
  simp only [List.drop_succ_cons, List.drop_zero]
  refine tlx_assign (.tmp 9) rfl rfl 7 rfl (by rw [HS]; decide) (.int .i64 0) (eval_tmp q9) fun t1 ex0 hz hq he => ?_
  replace h1 := (he 1 (by decide)).trans h1
  replace h2 := (he 2 (by decide)).trans h2
  replace h3 := (he 3 (by decide)).trans h3
  replace q9 := (he 9 (by decide)).trans q9
  replace HS := hz.trans HS
  clear hz he ex0
  have h7 := hq
  clear hq
  refine wpList_nil ?_
  obtain ⟨f, e0, hf⟩ := wash HS
  have f1 := hf 1 _ h1
  have f2 := hf 2 _ h2
  have f3 := hf 3 _ h3
  have f7 := hf 7 _ h7
  clear hf
  rw [e0.trans (show _ = #[f 0, f 1, f 2, f 3, f 4, f 5, f 6, f 7, f 8, f 9, f 10, f 11, f 12, f 13, f 14, f 15, f 16] from by kernel_rfl), f1, f2, f3, f7]
  clear f1 f2 f3 f7
  clear e0
  try dsimp only
  clear h1 h2 h3 h7 q9 v9 hM HS t1 t0 M
  have hbel := hS.1
  clear hS
  go_wp2_with fail
  exact ⟨rfl, .int .i64 0, by kernel_rfl, _, rfl, rfl, hbel⟩
set_option maxHeartbeats 4000000 in
set_option maxRecDepth 100000 in
theorem talkReply_none {n0 n1 n2 n3 n4 n5 : Int} (hg : good n0 n1 n2 n3 n4 n5 = true) (p : Option Addr) (n c : Nat) (hn : n1 = n) (w : World) : Calls Tryd.prog 12 #[.agg #[.int .i64 n0, .int .i64 n1, .int .i64 n2, .int .i64 n3, .int .i64 n4, .int .i64 n5], .bool false, .slice p n c] w (Gives (fun v => ∃ q, v = .tuple #[.slice q (n + 1) (n + 1), .int .i64 0]) w) := by
  obtain ⟨ie, hie, hsz⟩ := Option.map_eq_some_iff.1 (show (Tryd.prog.info? 5).map (fun i => (i.zero, i.size, i.bytes)) = some (some (.int .u8 0), 1, 1) by kernel_rfl)
  obtain ⟨hz, hs1, hb1⟩ : ie.zero = some (.int .u8 0) ∧ ie.size = 1 ∧ ie.bytes = 1 := by simpa using hsz
  have hmsg := good_msg hg
  have hmk : ∀ u : World, (Instr.makeSlice 26 (.int .i64 (1 + (n : Int))) (.int .i64 (1 + (n : Int)))).run Tryd.prog u = .ok (.slice (some ⟨u.heap.size, 0, none⟩) (n + 1) (n + 1)) (u.alloc (.cells (vals (List.replicate (n + 1) 0)) 5)) := fun u => by
    have hr := run_make (P := Tryd.prog) u 26 5 ie (.int .u8 0) Tryd.underlying26 hie hz .i64 .i64 (1 + (n : Int)) (1 + (n : Int)) (by omega) (by omega) (by rw [hb1]; omega) (by omega)
    have e : (1 + (n : Int)).toNat = n + 1 := by omega
    rw [e, hs1, Nat.mul_one] at hr
    rw [hr, ← made_zero]
    rfl
  subst hn
  have hS := conf_start n0 n n2 n3 n4 n5 w
  have HG := Lib.hid hg
  clear hg hie hsz hz hs1 hb1
  go_enter Tryd.func12, Tryd.ntmps12
  go_wp2_with ((with_reducible refine guard_list ?_); first | (refine held_load 23 _ rfl ?_))
  change Held (wpList _ _ _ _ _ (w.alloc (.cells #[.int .i64 n0, .int .i64 n, .int .i64 n2, .int .i64 n3, .int .i64 n4, .int .i64 n5] 23)))
  generalize w.alloc (.cells #[.int .i64 n0, .int .i64 n, .int .i64 n2, .int .i64 n3, .int .i64 n4, .int .i64 n5] 23) = w0 at hS ⊢
  obtain ⟨M, hM⟩ : ∃ M, M = w0.heap.size := ⟨_, rfl⟩
  refine hide_held fun t0 HT => ?_
  have HS : t0.size = 30 := by rw [HT]; rfl
  have h1 : t0[1]? = some (.bool false) := by rw [HT]; rfl
  have h2 : t0[2]? = some (.slice p n c) := by rw [HT]; rfl
  have h3 : t0[3]? = some (.pointer (some ⟨w.heap.size, 0, none⟩)) := by rw [HT]; rfl
  clear HT
  refine wp_list_most 5 (fun i => [9, 10, 11, 12, 13].getD i 0) (fun _ => none) (fun i => [(· = .agg #[.int .i64 n0, .int .i64 n, .int .i64 n2, .int .i64 n3, .int .i64 n4, .int .i64 n5]), (· = .slice p n c), (· = .pointer (some ⟨w.heap.size, 1, none⟩)), (· = .int .i64 n), (· = .int .i64 0)].getD i (fun _ => True)) (fun w' => Own w [(w.heap.size, 6, (· = .agg #[.int .i64 n0, .int .i64 n, .int .i64 n2, .int .i64 n3, .int .i64 n4, .int .i64 n5]))] w' ∧ M ≤ w'.heap.size) M
    (by kernel_rfl) (slots_apart (by kernel_rfl)) (slots_lie (by rw [HS]; kernel_rfl)) ⟨hS, Nat.le_of_eq hM⟩ (fun w' h => h.2) (fun w1 w2 h b => ⟨h.1.keep b, Nat.le_trans h.2 b.size⟩) ?_ ?_ ?_
  · clear hS
    intro i o hi ho hA
    have hc : i = 0 ∨ i = 1 ∨ i = 2 ∨ i = 3 ∨ i = 4 := by omega
    rcases hc with rfl | rfl | rfl | rfl | rfl
    · obtain rfl := Option.some.inj ho
      refine ⟨rfl, fun a w' hS hold hin K hK => ?_⟩
      refine if_always rfl ?_
      exact op_ld_own 6 tConf (.tmp 3) rfl rfl _ (eval_tmp ((hold 3 (slots_not (by kernel_rfl))).trans h3)) hS.1 0 rfl hK
    · obtain rfl := Option.some.inj ho
      refine ⟨rfl, fun a w' hS hold hin K hK => ?_⟩
      refine if_always rfl ?_
      exact op_move (V := (· = .slice p n c)) _ _ rfl rfl (eval_tmp ((hold 2 (slots_not (by kernel_rfl))).trans h2)) rfl hK
    · obtain rfl := Option.some.inj ho
      refine ⟨rfl, fun a w' hS hold hin K hK => ?_⟩
      refine if_always rfl ?_
      exact op_field 23 _ 1 _ (.pointer (some ⟨w.heap.size, 1, none⟩)) rfl rfl (eval_tmp ((hold 3 (slots_not (by kernel_rfl))).trans h3)) (fun w => by kernel_rfl) hK
    · obtain rfl := Option.some.inj ho
      refine ⟨rfl, fun a w' hS hold hin K hK => ?_⟩
      obtain ⟨y2, x2, rfl⟩ := hin 2 rfl (by omega) rfl
      refine if_always rfl ?_
      exact op_cell_own tInt _ w.heap.size 1 rfl rfl (eval_tmp x2) hS.1 0 _ _ rfl (.int .i64 n) rfl hK
    · obtain rfl := Option.some.inj ho
      refine ⟨rfl, fun a w' hS hold hin K hK => ?_⟩
      obtain ⟨y0, x0, rfl⟩ := hin 0 rfl (by omega) rfl
      obtain ⟨y1, x1, rfl⟩ := hin 1 rfl (by omega) rfl
      obtain ⟨y3, x3, rfl⟩ := hin 3 rfl (by omega) rfl
      refine if_always rfl ?_
      exact op_fn3 _ _ _ _ _ _ _ _ rfl rfl (eval_tmp x0) (eval_tmp x1) (eval_tmp x3) (by intro args w; kernel_rfl) (fits_yes HG.out _ _ _ _) hK
  · intro i o sz hi ho hA; cases hA
  clear hS
  intro t1 V1 hs hold hout hall hne hS
  replace HS := hs.trans HS
  replace hS := hS.1
  obtain ⟨x13, q13, v13⟩ : ∃ x, t1[13]? = some x ∧ ((· = .int .i64 0)) x := hout 4 (by omega) rfl
  replace q13 : t1[13]? = some (.int .i64 0) := q13.trans (congrArg some v13)
  replace h1 := (hold 1 (slots_not (by kernel_rfl))).trans h1
  replace h2 := (hold 2 (slots_not (by kernel_rfl))).trans h2
  replace h3 := (hold 3 (slots_not (by kernel_rfl))).trans h3
  clear hold hout hs hall hne
  simp only [List.drop_succ_cons, List.drop_zero]
  refine tlx_assign (.tmp 13) rfl rfl 8 rfl (by rw [HS]; decide) (.int .i64 0) (eval_tmp q13) fun t1 ex0 hz hq he => ?_
  replace h1 := (he 1 (by decide)).trans h1
  replace h2 := (he 2 (by decide)).trans h2
  replace h3 := (he 3 (by decide)).trans h3
  replace q13 := (he 13 (by decide)).trans q13
  replace HS := hz.trans HS
  clear hz he ex0
  have h8 := hq
  clear hq
  refine wpList_nil ?_
  obtain ⟨f, e0, hf⟩ := wash HS
  have f1 := hf 1 _ h1
  have f2 := hf 2 _ h2
  have f3 := hf 3 _ h3
  have f8 := hf 8 _ h8
  clear hf
  rw [e0.trans (show _ = #[f 0, f 1, f 2, f 3, f 4, f 5, f 6, f 7, f 8, f 9, f 10, f 11, f 12, f 13, f 14, f 15, f 16, f 17, f 18, f 19, f 20, f 21, f 22, f 23, f 24, f 25, f 26, f 27, f 28, f 29] from by kernel_rfl), f1, f2, f3, f8]
  clear f1 f2 f3 f8
  clear e0
  try dsimp only
  clear h1 h2 h3 h8 q13 v13 hM HS t1 t0 M
  obtain ⟨tc, R0⟩ := own_exact hS 0 rfl
  have r1 := row_cell R0 1
  simp only [List.getElem?_toArray, List.getElem?_cons_zero, List.getElem?_cons_succ] at r1
  have HBl := Lib.hid hS.1
  clear hS R0
  go_wp2_with fail
  exact ⟨rfl, .tuple #[.slice (some ⟨V1.heap.size, 0, none⟩) (n + 1) (n + 1), .int .i64 0], by kernel_rfl, _, rfl, ⟨_, rfl⟩, HBl.out.alloc HBl.out.size _⟩
end Go.Proofs.YtmochmpamgfboaaDoor
