/- The reference's number of pages of a round. Condition: none but what each says. -/
import Derived.Test.YtmochmpamgfboaaDoorRefP
namespace Go.Proofs.YtmochmpamgfboaaDoor
open Go.RowKit
set_option maxHeartbeats 4000000 in
set_option maxRecDepth 100000 in
theorem pagesR_bad {n0 n1 n2 n3 n4 n5 k rq rp rc er n : Int} (h : msr n0 n1 n2 n3 n4 n5 k = (rq, rp, rc, er)) (he : ¬ er = 0) (w : World) : Calls Tryd.prog 44 #[.agg #[.int .i64 n0, .int .i64 n1, .int .i64 n2, .int .i64 n3, .int .i64 n4, .int .i64 n5], .int .i64 k, .int .i64 n] w (Gives (· = .tuple #[.int .i64 0, .int .i64 er]) w) := by
  have HMS := Lib.hid h
  clear h
  go_enter Tryd.func44, Tryd.ntmps44
  go_wp2_with (go_at_call 61; refine (sizes_ev HMS.out _).mono ?_; rintro e w1 ⟨_, rfl, rfl, hb⟩)
  exact ⟨rfl, .tuple #[.int .i64 0, .int .i64 er], by kernel_rfl, _, rfl, rfl, below_call hb (by go_grown)⟩
set_option maxHeartbeats 4000000 in
set_option maxRecDepth 100000 in
theorem pagesR_neg {n0 n1 n2 n3 n4 n5 k rq rp rc n : Int} (h : msr n0 n1 n2 n3 n4 n5 k = (rq, rp, rc, 0)) (hn : n < 0) (w : World) : Calls Tryd.prog 44 #[.agg #[.int .i64 n0, .int .i64 n1, .int .i64 n2, .int .i64 n3, .int .i64 n4, .int .i64 n5], .int .i64 k, .int .i64 n] w (Gives (· = .tuple #[.int .i64 0, .int .i64 2]) w) := by
  have HMS := Lib.hid h
  clear h
  go_enter Tryd.func44, Tryd.ntmps44
  go_wp2_with (go_at_call 61; refine (sizes_ev HMS.out _).mono ?_; rintro e w1 ⟨_, rfl, rfl, hb⟩)
  exact ⟨rfl, .tuple #[.int .i64 0, .int .i64 2], by kernel_rfl, _, rfl, rfl, below_call hb (by go_grown)⟩
set_option maxHeartbeats 4000000 in
set_option maxRecDepth 100000 in
theorem pagesR_many {n0 n1 n2 n3 n4 n5 k rq rp rc n : Int} (h : msr n0 n1 n2 n3 n4 n5 k = (rq, rp, rc, 0)) (hn : ¬ n < 0) (hm : n0 < n) (w : World) : Calls Tryd.prog 44 #[.agg #[.int .i64 n0, .int .i64 n1, .int .i64 n2, .int .i64 n3, .int .i64 n4, .int .i64 n5], .int .i64 k, .int .i64 n] w (Gives (· = .tuple #[.int .i64 0, .int .i64 252]) w) := by
  have HMS := Lib.hid h
  clear h
  go_enter Tryd.func44, Tryd.ntmps44
  go_wp2_with (go_at_call 61; refine (sizes_ev HMS.out _).mono ?_; rintro e w1 ⟨_, rfl, rfl, hb⟩; have hc0 := conf_cells (heap_alloc_new w _) hb 0 _ rfl)
  exact ⟨rfl, .tuple #[.int .i64 0, .int .i64 252], by kernel_rfl, _, rfl, rfl, below_call hb (by go_grown)⟩
set_option maxHeartbeats 4000000 in
set_option maxRecDepth 100000 in
theorem pagesR_ok {n0 n1 n2 n4 n5 k rq rp : Int} {t rc n pd p1 p2 q1 q2 : Nat} (h : msr n0 n1 n2 t n4 n5 k = (rq, rp, (rc : Int), 0)) (hn : (n : Int) ≤ n0) (hb : n ≤ 256) (hr : 1 ≤ rc) (hrt : rc ≤ t) (ht : t ≤ 4096) (h32 : 32 ≤ t) (hpd : padN n = pd) (hp1 : t / rc = p1) (hp2 : t / 32 = p2) (hq1 : ceil pd p1 = q1) (hq2 : ceil n p2 = q2) (w : World) : Calls Tryd.prog 44 #[.agg #[.int .i64 n0, .int .i64 n1, .int .i64 n2, .int .i64 t, .int .i64 n4, .int .i64 n5], .int .i64 k, .int .i64 (n : Nat)] w (Gives (· = .tuple #[.int .i64 (q1 + q2 : Nat), .int .i64 0]) w) := by
  have HMS := Lib.hid h
  have hpl := pad_le n hb
  rw [hpd] at hpl
  have hpp1 : 0 < p1 := hp1 ▸ Nat.div_pos hrt hr
  have hpp2 : 0 < p2 := hp2 ▸ Nat.div_pos h32 (by decide)
  have hc1 := ceil_le pd p1 hpp1
  have hc2 := ceil_le n p2 hpp2
  rw [hq1] at hc1
  rw [hq2] at hc2
  have HPAD := Lib.hid (fun w => padR_ev hb hpd w)
  have HS1 := Lib.hid (fun w => pagesR0_ev (n := pd) hr hrt (by omega) ht hp1 hq1 w)
  have HS2 := Lib.hid (fun w => pagesR0_ev (n := n) (size := 32) (by decide) h32 (by omega) ht hp2 hq2 w)
  clear h hpd hp1 hp2 hq1 hq2
  go_enter Tryd.func44, Tryd.ntmps44
  go_wp2_with (go_at_call 61; refine (sizes_ev HMS.out _).mono ?_; rintro e w1 ⟨_, rfl, rfl, hb⟩; have hc0 := conf_cells (heap_alloc_new w _) hb 0 _ rfl; have HSo := Lib.hid ((conf_start n0 n1 n2 (t : Int) n4 n5 w).keep hb); clear hb)
  clear hc0
  have hS := HSo.out
  clear HSo
  obtain ⟨M, hM⟩ : ∃ M, M = w1.heap.size := ⟨_, rfl⟩
  refine hide_frame fun t0 HT => ?_
  have HS : t0.size = 40 := by rw [HT]; rfl
  have h2 : t0[2]? = some (.int .i64 (n : Nat)) := by rw [HT]; rfl
  have h10 : t0[10]? = some (.int .i64 (rc : Nat)) := by rw [HT]; rfl
  have h3 : t0[3]? = some (.pointer (some ⟨w.heap.size, 0, none⟩)) := by rw [HT]; rfl
  clear HT
  refine wp_region_all 12 (fun i => [29, 30, 31, 32, 33, 34, 35, 36, 37, 38, 39, 6, 7].getD i 0) (fun i => [(· = .int .i64 (n : Nat)), (· = .int .i64 pd), (· = .int .i64 (rc : Nat)), (· = .pointer (some ⟨w.heap.size, 3, none⟩)), (· = .int .i64 t), (· = .int .i64 q1), (· = .int .i64 (n : Nat)), (· = .pointer (some ⟨w.heap.size, 3, none⟩)), (· = .int .i64 t), (· = .int .i64 q2), (· = .int .i64 ((q1 : Int) + q2)), (· = .int .i64 ((q1 : Int) + q2)), (· = .int .i64 0)].getD i (fun _ => True)) (fun w' => Own w [(w.heap.size, 6, (· = .agg #[.int .i64 n0, .int .i64 n1, .int .i64 n2, .int .i64 t, .int .i64 n4, .int .i64 n5]))] w' ∧ M ≤ w'.heap.size)
    (by kernel_rfl) (by kernel_rfl) (by kernel_rfl) (slots_apart (by kernel_rfl)) (slots_lie (by rw [HS]; kernel_rfl)) ⟨hS.drew, Nat.le_of_eq hM⟩ (fun w1 w2 h b => ⟨h.1.keep b, Nat.le_trans h.2 b.size⟩) ?_ ?_
  · clear hS
    intro i o hi ho
    have hc : i = 0 ∨ i = 1 ∨ i = 2 ∨ i = 3 ∨ i = 4 ∨ i = 5 ∨ i = 6 ∨ i = 7 ∨ i = 8 ∨ i = 9 ∨ i = 10 ∨ i = 11 ∨ i = 12 := by omega
    rcases hc with rfl | rfl | rfl | rfl | rfl | rfl | rfl | rfl | rfl | rfl | rfl | rfl | rfl
    · obtain rfl := Option.some.inj ho
      refine ⟨rfl, fun a w' hS hold hin K hK => ?_⟩
      refine if_always rfl ?_
      exact op_move (V := (· = .int .i64 (n : Nat))) _ _ rfl rfl (eval_tmp ((hold 2 (slots_not (by kernel_rfl))).trans h2)) rfl hK
    · obtain rfl := Option.some.inj ho
      refine ⟨rfl, fun a w' hS hold hin K hK => ?_⟩
      obtain ⟨y0, x0, rfl⟩ := hin 0 rfl (by omega)
      refine if_always rfl ?_
      exact op_fn1 _ _ _ _ rfl rfl (eval_tmp x0) (by intro args w; kernel_rfl) (HPAD.out _) hK
    · obtain rfl := Option.some.inj ho
      refine ⟨rfl, fun a w' hS hold hin K hK => ?_⟩
      refine if_always rfl ?_
      exact op_move (V := (· = .int .i64 (rc : Nat))) _ _ rfl rfl (eval_tmp ((hold 10 (slots_not (by kernel_rfl))).trans h10)) rfl hK
    · obtain rfl := Option.some.inj ho
      refine ⟨rfl, fun a w' hS hold hin K hK => ?_⟩
      refine if_always rfl ?_
      exact op_field 23 _ 3 _ (.pointer (some ⟨w.heap.size, 3, none⟩)) rfl rfl (eval_tmp ((hold 3 (slots_not (by kernel_rfl))).trans h3)) (fun w => by kernel_rfl) hK
    · obtain rfl := Option.some.inj ho
      refine ⟨rfl, fun a w' hS hold hin K hK => ?_⟩
      obtain ⟨y3, x3, rfl⟩ := hin 3 rfl (by omega)
      refine if_always rfl ?_
      exact op_cell_own tInt _ w.heap.size 3 rfl rfl (eval_tmp x3) hS.1 0 _ _ rfl (.int .i64 t) rfl hK
    · obtain rfl := Option.some.inj ho
      refine ⟨rfl, fun a w' hS hold hin K hK => ?_⟩
      obtain ⟨y1, x1, rfl⟩ := hin 1 rfl (by omega)
      obtain ⟨y2, x2, rfl⟩ := hin 2 rfl (by omega)
      obtain ⟨y4, x4, rfl⟩ := hin 4 rfl (by omega)
      refine if_always rfl ?_
      exact op_fn3 _ _ _ _ _ _ _ _ rfl rfl (eval_tmp x1) (eval_tmp x2) (eval_tmp x4) (by intro args w; kernel_rfl) (HS1.out _) hK
    · obtain rfl := Option.some.inj ho
      refine ⟨rfl, fun a w' hS hold hin K hK => ?_⟩
      refine if_always rfl ?_
      exact op_move (V := (· = .int .i64 (n : Nat))) _ _ rfl rfl (eval_tmp ((hold 2 (slots_not (by kernel_rfl))).trans h2)) rfl hK
    · obtain rfl := Option.some.inj ho
      refine ⟨rfl, fun a w' hS hold hin K hK => ?_⟩
      refine if_always rfl ?_
      exact op_field 23 _ 3 _ (.pointer (some ⟨w.heap.size, 3, none⟩)) rfl rfl (eval_tmp ((hold 3 (slots_not (by kernel_rfl))).trans h3)) (fun w => by kernel_rfl) hK
    · obtain rfl := Option.some.inj ho
      refine ⟨rfl, fun a w' hS hold hin K hK => ?_⟩
      obtain ⟨y7, x7, rfl⟩ := hin 7 rfl (by omega)
      refine if_always rfl ?_
      exact op_cell_own tInt _ w.heap.size 3 rfl rfl (eval_tmp x7) hS.1 0 _ _ rfl (.int .i64 t) rfl hK
    · obtain rfl := Option.some.inj ho
      refine ⟨rfl, fun a w' hS hold hin K hK => ?_⟩
      obtain ⟨y6, x6, rfl⟩ := hin 6 rfl (by omega)
      obtain ⟨y8, x8, rfl⟩ := hin 8 rfl (by omega)
      refine if_always rfl ?_
      exact op_fn3 _ _ _ _ _ _ _ _ rfl rfl (eval_tmp x6) rfl (eval_tmp x8) (by intro args w; kernel_rfl) (HS2.out _) hK
    · obtain rfl := Option.some.inj ho
      refine ⟨rfl, fun a w' hS hold hin K hK => ?_⟩
      obtain ⟨y5, x5, rfl⟩ := hin 5 rfl (by omega)
      obtain ⟨y9, x9, rfl⟩ := hin 9 rfl (by omega)
      refine if_always rfl ?_
      exact op_bin (V := (· = .int .i64 ((q1 : Int) + q2))) _ _ _ _ _ _ _ (.int .i64 ((q1 : Int) + q2)) rfl rfl (eval_tmp x5) (eval_tmp x9) (fun w => add_in (q1 : Int) q2 (by omega) w) rfl hK
    · obtain rfl := Option.some.inj ho
      refine ⟨rfl, fun a w' hS hold hin K hK => ?_⟩
      obtain ⟨y10, x10, rfl⟩ := hin 10 rfl (by omega)
      refine if_always rfl ?_
      exact op_assign (V := (· = .int .i64 ((q1 : Int) + q2))) _ _ rfl rfl (eval_tmp x10) rfl hK
    · obtain rfl := Option.some.inj ho
      refine ⟨rfl, fun a w' hS hold hin K hK => ?_⟩
      refine if_always rfl ?_
      exact op_assign (V := (· = .int .i64 0)) _ _ rfl rfl rfl rfl hK
  clear hS
  intro t1 V1 hs hold hout hS
  replace HS := hs.trans HS
  replace hS := hS.1
  obtain ⟨_, q6, rfl⟩ : ∃ x, t1[6]? = some x ∧ x = (.int .i64 ((q1 : Int) + q2) : Value) := hout 11 (by omega)
  obtain ⟨_, q7, rfl⟩ : ∃ x, t1[7]? = some x ∧ x = (.int .i64 0 : Value) := hout 12 (by omega)
  replace h2 := (hold 2 (slots_not (by kernel_rfl))).trans h2
  replace h10 := (hold 10 (slots_not (by kernel_rfl))).trans h10
  replace h3 := (hold 3 (slots_not (by kernel_rfl))).trans h3
  clear hold hout hs
  obtain ⟨f, e0, hf⟩ := wash HS
  have f2 := hf 2 _ h2
  have f10 := hf 10 _ h10
  have f3 := hf 3 _ h3
  have f6 := hf 6 _ q6
  have f7 := hf 7 _ q7
  clear hf
  rw [e0.trans (show _ = #[f 0, f 1, f 2, f 3, f 4, f 5, f 6, f 7, f 8, f 9, f 10, f 11, f 12, f 13, f 14, f 15, f 16, f 17, f 18, f 19, f 20, f 21, f 22, f 23, f 24, f 25, f 26, f 27, f 28, f 29, f 30, f 31, f 32, f 33, f 34, f 35, f 36, f 37, f 38, f 39] from by kernel_rfl), f2, f10, f3, f6, f7]
  clear f2 f10 f3 f6 f7
  clear e0
  try dsimp only
  clear h2 h10 h3 q6 q7 hM HS t1 t0 M
  have hbel := hS.1
  clear hS
  go_wp2_with fail
  have e : (q1 : Int) + q2 = ((q1 + q2 : Nat) : Int) := by omega
  exact ⟨rfl, .tuple #[.int .i64 ((q1 : Int) + q2), .int .i64 0], by kernel_rfl, _, rfl, by rw [e], hbel⟩
end Go.Proofs.YtmochmpamgfboaaDoor
