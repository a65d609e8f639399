/- The reference's sizes of a kind: sizes, RequestSize, ReplySize. No condition. -/
import Derived.Test.YtmochmpamgfboaaDoorPutR
import Derived.Test.YtmochmpamgfboaaDoorPagF
namespace Go.Proofs.YtmochmpamgfboaaDoor
open Go.RowKit
set_option maxHeartbeats 4000000 in
set_option maxRecDepth 100000 in
theorem sizes_no (n0 n1 n2 n3 n4 n5 k : Int) (w : World) (hg : ¬ good n0 n1 n2 n3 n4 n5 = true) : Calls Tryd.prog 61 #[.agg #[.int .i64 n0, .int .i64 n1, .int .i64 n2, .int .i64 n3, .int .i64 n4, .int .i64 n5], .int .i64 k] w (Gives (· = .tuple #[.int .i64 (0), .int .i64 (0), .int .i64 (0), .int .i64 (200)]) w) := by
  have HG := Lib.hid hg
  clear hg
  go_enter Tryd.func61, Tryd.ntmps61
  go_wp2_with (go_at_call 38; refine (checkR_no HG.out _).mono ?_; rintro e w1 ⟨_, rfl, rfl, hb⟩)
  exact ⟨rfl, .tuple #[.int .i64 (0), .int .i64 (0), .int .i64 (0), .int .i64 (200)], by kernel_rfl, _, rfl, rfl, below_call hb (by go_grown)⟩
set_option maxHeartbeats 4000000 in
set_option maxRecDepth 100000 in
theorem sizes_dial (n0 n1 n2 n3 n4 n5 k : Int) (w : World) (hg : good n0 n1 n2 n3 n4 n5 = true) (hk : k = 2) : Calls Tryd.prog 61 #[.agg #[.int .i64 n0, .int .i64 n1, .int .i64 n2, .int .i64 n3, .int .i64 n4, .int .i64 n5], .int .i64 k] w (Gives (· = .tuple #[.int .i64 (92), .int .i64 (16), .int .i64 (114), .int .i64 (0)]) w) := by
  have HG := Lib.hid hg
  clear hg
  go_enter Tryd.func61, Tryd.ntmps61
  go_wp2_with (go_at_call 38; refine (checkR_yes HG.out _).mono ?_; rintro e w1 ⟨_, rfl, rfl, hb⟩)
  exact ⟨rfl, .tuple #[.int .i64 (92), .int .i64 (16), .int .i64 (114), .int .i64 (0)], by kernel_rfl, _, rfl, rfl, below_call hb (by go_grown)⟩
set_option maxHeartbeats 4000000 in
set_option maxRecDepth 100000 in
theorem sizes_none (n0 n1 n2 n3 n4 n5 k : Int) (w : World) (hg : good n0 n1 n2 n3 n4 n5 = true) (h1 : ¬ k = 1) (h2 : ¬ k = 2) : Calls Tryd.prog 61 #[.agg #[.int .i64 n0, .int .i64 n1, .int .i64 n2, .int .i64 n3, .int .i64 n4, .int .i64 n5], .int .i64 k] w (Gives (· = .tuple #[.int .i64 (0), .int .i64 (0), .int .i64 (0), .int .i64 (253)]) w) := by
  have HG := Lib.hid hg
  clear hg
  go_enter Tryd.func61, Tryd.ntmps61
  go_wp2_with (go_at_call 38; refine (checkR_yes HG.out _).mono ?_; rintro e w1 ⟨_, rfl, rfl, hb⟩)
  exact ⟨rfl, .tuple #[.int .i64 (0), .int .i64 (0), .int .i64 (0), .int .i64 (253)], by kernel_rfl, _, rfl, rfl, below_call hb (by go_grown)⟩
set_option maxHeartbeats 4000000 in
set_option maxRecDepth 100000 in
theorem sizes_talk (n0 n1 n2 n3 n4 n5 k : Int) (w : World) (hg : good n0 n1 n2 n3 n4 n5 = true) (hk : k = 1) : Calls Tryd.prog 61 #[.agg #[.int .i64 n0, .int .i64 n1, .int .i64 n2, .int .i64 n3, .int .i64 n4, .int .i64 n5], .int .i64 k] w (Gives (· = .tuple #[.int .i64 (16 + n1), .int .i64 (1 + n1), .int .i64 (26 + n1), .int .i64 (0)]) w) := by
  have hmsg := good_msg hg
  have HMS := Lib.hid hmsg
  clear hmsg
  have HG := Lib.hid hg
  clear hg
  go_enter Tryd.func61, Tryd.ntmps61
  go_wp2_with (go_at_call 38; refine (checkR_yes HG.out _).mono ?_; rintro e w1 ⟨_, rfl, rfl, hb⟩; have hS := (conf_start n0 n1 n2 n3 n4 n5 w).keep hb; clear hb)
  obtain ⟨M, hM⟩ : ∃ M, M = w1.heap.size := ⟨_, rfl⟩
  refine hide_frame fun t0 HT => ?_
  have HS : t0.size = 25 := by rw [HT]; rfl
  have h2 : t0[2]? = some (.pointer (some ⟨w.heap.size, 0, none⟩)) := by rw [HT]; rfl
  clear HT
  refine wp_region_all 12 (fun i => [14, 15, 16, 17, 18, 19, 20, 21, 22, 4, 5, 6, 7].getD i 0) (fun i => [(· = .pointer (some ⟨w.heap.size, 1, none⟩)), (· = .int .i64 n1), (· = .int .i64 (16 + n1)), (· = .pointer (some ⟨w.heap.size, 1, none⟩)), (· = .int .i64 n1), (· = .int .i64 (1 + n1)), (· = .pointer (some ⟨w.heap.size, 1, none⟩)), (· = .int .i64 n1), (· = .int .i64 (26 + n1)), (· = .int .i64 (16 + n1)), (· = .int .i64 (1 + n1)), (· = .int .i64 (26 + n1)), (· = .int .i64 0)].getD i (fun _ => True)) (fun w' => Own w [(w.heap.size, 6, (· = .agg #[.int .i64 n0, .int .i64 n1, .int .i64 n2, .int .i64 n3, .int .i64 n4, .int .i64 n5]))] w' ∧ M ≤ w'.heap.size)
    (by kernel_rfl) (by kernel_rfl) (by kernel_rfl) (slots_apart (by kernel_rfl)) (slots_lie (by rw [HS]; kernel_rfl)) ⟨hS.drew, Nat.le_of_eq hM⟩ (fun w1 w2 h b => ⟨h.1.keep b, Nat.le_trans h.2 b.size⟩) ?_ ?_
  · clear hS
    intro i o hi ho
    have hc : i = 0 ∨ i = 1 ∨ i = 2 ∨ i = 3 ∨ i = 4 ∨ i = 5 ∨ i = 6 ∨ i = 7 ∨ i = 8 ∨ i = 9 ∨ i = 10 ∨ i = 11 ∨ i = 12 := by omega
    rcases hc with rfl | rfl | rfl | rfl | rfl | rfl | rfl | rfl | rfl | rfl | rfl | rfl | rfl
    · obtain rfl := Option.some.inj ho
      refine ⟨rfl, fun a w' hS hold hin K hK => ?_⟩
      refine if_always rfl ?_
      exact op_field 23 _ 1 _ (.pointer (some ⟨w.heap.size, 1, none⟩)) rfl rfl (eval_tmp ((hold 2 (slots_not (by kernel_rfl))).trans h2)) (fun w => by kernel_rfl) hK
    · obtain rfl := Option.some.inj ho
      refine ⟨rfl, fun a w' hS hold hin K hK => ?_⟩
      obtain ⟨y0, x0, rfl⟩ := hin 0 rfl (by omega)
      refine if_always rfl ?_
      exact op_cell_own tInt _ w.heap.size 1 rfl rfl (eval_tmp x0) hS.1 0 _ _ rfl (.int .i64 n1) rfl hK
    · obtain rfl := Option.some.inj ho
      refine ⟨rfl, fun a w' hS hold hin K hK => ?_⟩
      obtain ⟨y1, x1, rfl⟩ := hin 1 rfl (by omega)
      refine if_always rfl ?_
      exact op_bin (V := (· = .int .i64 (16 + n1))) _ _ _ _ _ _ _ (.int .i64 (16 + n1)) rfl rfl rfl (eval_tmp x1) (fun w => add_in 16 n1 (by have := HMS.out; omega) w) rfl hK
    · obtain rfl := Option.some.inj ho
      refine ⟨rfl, fun a w' hS hold hin K hK => ?_⟩
      refine if_always rfl ?_
      exact op_field 23 _ 1 _ (.pointer (some ⟨w.heap.size, 1, none⟩)) rfl rfl (eval_tmp ((hold 2 (slots_not (by kernel_rfl))).trans h2)) (fun w => by kernel_rfl) hK
    · obtain rfl := Option.some.inj ho
      refine ⟨rfl, fun a w' hS hold hin K hK => ?_⟩
      obtain ⟨y3, x3, rfl⟩ := hin 3 rfl (by omega)
      refine if_always rfl ?_
      exact op_cell_own tInt _ w.heap.size 1 rfl rfl (eval_tmp x3) hS.1 0 _ _ rfl (.int .i64 n1) rfl hK
    · obtain rfl := Option.some.inj ho
      refine ⟨rfl, fun a w' hS hold hin K hK => ?_⟩
      obtain ⟨y4, x4, rfl⟩ := hin 4 rfl (by omega)
      refine if_always rfl ?_
      exact op_bin (V := (· = .int .i64 (1 + n1))) _ _ _ _ _ _ _ (.int .i64 (1 + n1)) rfl rfl rfl (eval_tmp x4) (fun w => add_in 1 n1 (by have := HMS.out; omega) w) rfl hK
    · obtain rfl := Option.some.inj ho
      refine ⟨rfl, fun a w' hS hold hin K hK => ?_⟩
      refine if_always rfl ?_
      exact op_field 23 _ 1 _ (.pointer (some ⟨w.heap.size, 1, none⟩)) rfl rfl (eval_tmp ((hold 2 (slots_not (by kernel_rfl))).trans h2)) (fun w => by kernel_rfl) hK
    · obtain rfl := Option.some.inj ho
      refine ⟨rfl, fun a w' hS hold hin K hK => ?_⟩
      obtain ⟨y6, x6, rfl⟩ := hin 6 rfl (by omega)
      refine if_always rfl ?_
      exact op_cell_own tInt _ w.heap.size 1 rfl rfl (eval_tmp x6) hS.1 0 _ _ rfl (.int .i64 n1) rfl hK
    · obtain rfl := Option.some.inj ho
      refine ⟨rfl, fun a w' hS hold hin K hK => ?_⟩
      obtain ⟨y7, x7, rfl⟩ := hin 7 rfl (by omega)
      refine if_always rfl ?_
      exact op_bin (V := (· = .int .i64 (26 + n1))) _ _ _ _ _ _ _ (.int .i64 (26 + n1)) rfl rfl rfl (eval_tmp x7) (fun w => add_in 26 n1 (by have := HMS.out; omega) w) rfl hK
    · obtain rfl := Option.some.inj ho
      refine ⟨rfl, fun a w' hS hold hin K hK => ?_⟩
      obtain ⟨y2, x2, rfl⟩ := hin 2 rfl (by omega)
      refine if_always rfl ?_
      exact op_assign (V := (· = .int .i64 (16 + n1))) _ _ rfl rfl (eval_tmp x2) rfl hK
    · obtain rfl := Option.some.inj ho
      refine ⟨rfl, fun a w' hS hold hin K hK => ?_⟩
      obtain ⟨y5, x5, rfl⟩ := hin 5 rfl (by omega)
      refine if_always rfl ?_
      exact op_assign (V := (· = .int .i64 (1 + n1))) _ _ rfl rfl (eval_tmp x5) rfl hK
    · obtain rfl := Option.some.inj ho
      refine ⟨rfl, fun a w' hS hold hin K hK => ?_⟩
      obtain ⟨y8, x8, rfl⟩ := hin 8 rfl (by omega)
      refine if_always rfl ?_
      exact op_assign (V := (· = .int .i64 (26 + n1))) _ _ rfl rfl (eval_tmp x8) rfl hK
    · obtain rfl := Option.some.inj ho
      refine ⟨rfl, fun a w' hS hold hin K hK => ?_⟩
      refine if_always rfl ?_
      exact op_assign (V := (· = .int .i64 0)) _ _ rfl rfl rfl rfl hK
  clear hS
  intro t1 V1 hs hold hout hS
  replace HS := hs.trans HS
  replace hS := hS.1
  obtain ⟨_, q4, rfl⟩ : ∃ x, t1[4]? = some x ∧ x = (.int .i64 (16 + n1) : Value) := hout 9 (by omega)
  obtain ⟨_, q5, rfl⟩ : ∃ x, t1[5]? = some x ∧ x = (.int .i64 (1 + n1) : Value) := hout 10 (by omega)
  obtain ⟨_, q6, rfl⟩ : ∃ x, t1[6]? = some x ∧ x = (.int .i64 (26 + n1) : Value) := hout 11 (by omega)
  obtain ⟨_, q7, rfl⟩ : ∃ x, t1[7]? = some x ∧ x = (.int .i64 0 : Value) := hout 12 (by omega)
  replace h2 := (hold 2 (slots_not (by kernel_rfl))).trans h2
  clear hold hout hs
  obtain ⟨f, e0, hf⟩ := wash HS
  have f2 := hf 2 _ h2
  have f4 := hf 4 _ q4
  have f5 := hf 5 _ q5
  have f6 := hf 6 _ q6
  have f7 := hf 7 _ q7
  clear hf
  rw [e0.trans (show _ = #[f 0, f 1, f 2, f 3, f 4, f 5, f 6, f 7, f 8, f 9, f 10, f 11, f 12, f 13, f 14, f 15, f 16, f 17, f 18, f 19, f 20, f 21, f 22, f 23, f 24] from by kernel_rfl), f2, f4, f5, f6, f7]
  clear f2 f4 f5 f6 f7
  clear e0
  try dsimp only
  clear h2 q4 q5 q6 q7 hM HS t1 t0 M
  have hbel := hS.1
  clear hS
  go_wp2_with fail
  exact ⟨rfl, .tuple #[.int .i64 (16 + n1), .int .i64 (1 + n1), .int .i64 (26 + n1), .int .i64 (0)], by kernel_rfl, _, rfl, rfl, hbel⟩
theorem sizes_ev {n0 n1 n2 n3 n4 n5 k a b c e : Int} (h : msr n0 n1 n2 n3 n4 n5 k = (a, b, c, e)) (w : World) : Calls Tryd.prog 61 #[.agg #[.int .i64 n0, .int .i64 n1, .int .i64 n2, .int .i64 n3, .int .i64 n4, .int .i64 n5], .int .i64 k] w (Gives (· = .tuple #[.int .i64 a, .int .i64 b, .int .i64 c, .int .i64 e]) w) := by
  unfold msr at h
  by_cases hg : good n0 n1 n2 n3 n4 n5 = true
  · rw [if_pos hg] at h
    by_cases h1 : k = 1
    · rw [if_pos h1] at h
      obtain ⟨rfl, rfl, rfl, rfl⟩ : 16 + n1 = a ∧ 1 + n1 = b ∧ 26 + n1 = c ∧ 0 = e := by simpa using h
      exact sizes_talk n0 n1 n2 n3 n4 n5 k w hg h1
    · rw [if_neg h1] at h
      by_cases h2 : k = 2
      · rw [if_pos h2] at h
        obtain ⟨rfl, rfl, rfl, rfl⟩ : 92 = a ∧ 16 = b ∧ 114 = c ∧ 0 = e := by simpa using h
        exact sizes_dial n0 n1 n2 n3 n4 n5 k w hg h2
      · rw [if_neg h2] at h
        obtain ⟨rfl, rfl, rfl, rfl⟩ : 0 = a ∧ 0 = b ∧ 0 = c ∧ 253 = e := by simpa using h
        exact sizes_none n0 n1 n2 n3 n4 n5 k w hg h1 h2
  · rw [if_neg hg] at h
    obtain ⟨rfl, rfl, rfl, rfl⟩ : 0 = a ∧ 0 = b ∧ 0 = c ∧ 200 = e := by simpa using h
    exact sizes_no n0 n1 n2 n3 n4 n5 k w hg
set_option maxHeartbeats 4000000 in
set_option maxRecDepth 100000 in
theorem RequestSizeR_ev {n0 n1 n2 n3 n4 n5 k rq rp rc er : Int} (h : msr n0 n1 n2 n3 n4 n5 k = (rq, rp, rc, er)) (w : World) : Calls Tryd.prog 40 #[.agg #[.int .i64 n0, .int .i64 n1, .int .i64 n2, .int .i64 n3, .int .i64 n4, .int .i64 n5], .int .i64 k] w (Gives (· = .tuple #[.int .i64 rq, .int .i64 er]) w) := by
  have HM := Lib.hid h
  clear h
  go_enter Tryd.func40, Tryd.ntmps40
  go_wp2_with (go_at_call 61; refine (sizes_ev HM.out _).mono ?_; rintro e w1 ⟨_, rfl, rfl, hb⟩)
  exact ⟨rfl, .tuple #[.int .i64 rq, .int .i64 er], by kernel_rfl, _, rfl, rfl, below_call hb (by go_grown)⟩
set_option maxHeartbeats 4000000 in
set_option maxRecDepth 100000 in
theorem ReplySizeR_ev {n0 n1 n2 n3 n4 n5 k rq rp rc er : Int} (h : msr n0 n1 n2 n3 n4 n5 k = (rq, rp, rc, er)) (w : World) : Calls Tryd.prog 42 #[.agg #[.int .i64 n0, .int .i64 n1, .int .i64 n2, .int .i64 n3, .int .i64 n4, .int .i64 n5], .int .i64 k] w (Gives (· = .tuple #[.int .i64 rp, .int .i64 er]) w) := by
  have HM := Lib.hid h
  clear h
  go_enter Tryd.func42, Tryd.ntmps42
  go_wp2_with (go_at_call 61; refine (sizes_ev HM.out _).mono ?_; rintro e w1 ⟨_, rfl, rfl, hb⟩)
  exact ⟨rfl, .tuple #[.int .i64 rp, .int .i64 er], by kernel_rfl, _, rfl, rfl, below_call hb (by go_grown)⟩
end Go.Proofs.YtmochmpamgfboaaDoor
