/- The walk of CodecSizes. No condition. -/
import Derived.Test.YtmochmpamgfboaaDoorRefQ
namespace Go.Proofs.YtmochmpamgfboaaDoor
open Go.RowKit
theorem neq_err {p q : Operand} (e : Int) (w : World) : (do eqGuard .neq 30 p q (.int .i64 e) (.int .i64 e); binOp .neq 30 (.int .i64 e) (.int .i64 e) : Sem Value).run Tryd.prog w = .ok (.bool false) w := by
  go_simp
theorem good_all {n0 n1 n2 n3 n4 n5 : Int} (h : good n0 n1 n2 n3 n4 n5 = true) : (1 ≤ n0 ∧ n0 ≤ 256) ∧ (32 ≤ n1 ∧ n1 ≤ 512) ∧ (2 ≤ n2 ∧ n2 ≤ 64) ∧ ((26 + n1 ≤ n3 ∧ 114 ≤ n3) ∧ n3 ≤ 4096) ∧ (2 ≤ n4 ∧ n4 ≤ 16) ∧ (1 ≤ n5 ∧ n5 ≤ 16) := by
  unfold good at h
  exact of_decide_eq_true h
theorem eq_own {p q : Option Addr} {n c c' : Nat} {w : World} (l : List Int) (hn : l.length = n) (h1 : BytesIn w p l) (h2 : BytesIn w q l) (hm : n ≤ 140737488355328) : Calls Tryd.prog 21 #[.slice p n c, .slice q n c'] w (Gives (· = .bool true) w) :=
  (eqBytes_any p q l l n n c c' w hn hn h1 h2 (by omega)).mono fun _ _ ⟨r, e1, e2, e3⟩ => ⟨r, e1, e2.trans (by rw [decide_eq_true rfl]), e3⟩
/-- Both sides' number of pages is one. -/
theorem pages_both (n0 n1 n2 n3 n4 n5 k n : Int) : ∃ pq pe : Int, (∀ w, Calls Tryd.prog 43 #[.agg #[.int .i64 n0, .int .i64 n1, .int .i64 n2, .int .i64 n3, .int .i64 n4, .int .i64 n5], .int .i64 k, .int .i64 n] w (Gives (· = .tuple #[.int .i64 pq, .int .i64 pe]) w)) ∧ ∀ w, Calls Tryd.prog 44 #[.agg #[.int .i64 n0, .int .i64 n1, .int .i64 n2, .int .i64 n3, .int .i64 n4, .int .i64 n5], .int .i64 k, .int .i64 n] w (Gives (· = .tuple #[.int .i64 pq, .int .i64 pe]) w) := by
  obtain ⟨rq, rp, rc, er, h⟩ : ∃ rq rp rc er, msr n0 n1 n2 n3 n4 n5 k = (rq, rp, rc, er) := ⟨_, _, _, _, rfl⟩
  by_cases he : er = 0
  · subst he
    by_cases hn : n < 0
    · exact ⟨_, _, fun w => pages_neg h hn w, fun w => pagesR_neg h hn w⟩
    · by_cases hm : n0 < n
      · exact ⟨_, _, fun w => pages_many h hn hm w, fun w => pagesR_many h hn hm w⟩
      · have h0 := h
        unfold msr at h0
        by_cases hg : good n0 n1 n2 n3 n4 n5 = true
        · rw [if_pos hg] at h0
          have hgd := good_all hg
          have hrc : 1 ≤ rc ∧ rc ≤ n3 := by
            by_cases h1 : k = 1
            · rw [if_pos h1] at h0
              have : rc = 26 + n1 := by simpa using (congrArg (fun q : Int × Int × Int × Int => q.2.2.1) h0).symm
              omega
            · rw [if_neg h1] at h0
              by_cases h2 : k = 2
              · rw [if_pos h2] at h0
                have : rc = 114 := by simpa using (congrArg (fun q : Int × Int × Int × Int => q.2.2.1) h0).symm
                omega
              · rw [if_neg h2] at h0
                have : (253 : Int) = 0 := by simpa using congrArg (fun q : Int × Int × Int × Int => q.2.2.2) h0
                omega
          obtain ⟨t, rfl⟩ := Int.eq_ofNat_of_zero_le (show 0 ≤ n3 by omega)
          obtain ⟨m, rfl⟩ := Int.eq_ofNat_of_zero_le (show 0 ≤ n by omega)
          obtain ⟨r, rfl⟩ := Int.eq_ofNat_of_zero_le (show 0 ≤ rc by omega)
          exact ⟨_, _, fun w => pages_ok h (by omega) (by omega) (by omega) (by omega) (by omega) (by omega) rfl rfl rfl rfl rfl w, fun w => pagesR_ok h (by omega) (by omega) (by omega) (by omega) (by omega) (by omega) rfl rfl rfl rfl rfl w⟩
        · rw [if_neg hg] at h0
          have : (200 : Int) = 0 := by simpa using congrArg (fun q : Int × Int × Int × Int => q.2.2.2) h0
          omega
  · exact ⟨_, _, fun w => pages_bad h he w, fun w => pagesR_bad h he w⟩
theorem conf_load {w : World} {g : Nat} {c : Array Value} (h : CellsAt w ⟨g, 0, none⟩ c) : ∀ (k : Nat) (v : Value), c[k]? = some v → w.cell? ⟨g, k, none⟩ = some v := fun k v hv => by have := h k v hv; rwa [add_lit] at this
theorem conf_at {w w1 : World} {g : Nat} {c : Array Value} {t : TypeId} (h : w.heap[g]? = some (.cells c t (0, 0))) (hb : Below w.heap.size w w1) : CellsAt w1 ⟨g, 0, none⟩ c := fun j v hv => by rw [add_lit]; exact conf_cells h hb j v hv
set_option maxHeartbeats 8000000 in
set_option maxRecDepth 100000 in
theorem codecSizes_bad (n0 n1 n2 n3 n4 n5 k n : Int) (w : World) (h : ¬ good n0 n1 n2 n3 n4 n5 = true) : Calls Tryd.prog 6 #[.agg #[.int .i64 n0, .int .i64 n1, .int .i64 n2, .int .i64 n3, .int .i64 n4, .int .i64 n5], .int .i64 k, .int .i64 n] w fun e w' => e = .returned (.bool true) ∧ Below w.heap.size w w' := by
  obtain ⟨pq, pe, hp1, hp2⟩ := pages_both n0 n1 n2 n3 n4 n5 k n
  obtain ⟨rq, rp, rc, er, hm⟩ : ∃ rq rp rc er, msr n0 n1 n2 n3 n4 n5 k = (rq, rp, rc, er) := ⟨_, _, _, _, rfl⟩
  have HP1 := Lib.hid hp1
  have HP2 := Lib.hid hp2
  have HM := Lib.hid hm
  have HG := Lib.hid h
  clear h hp1 hp2 hm
  go_enter Tryd.func6, Tryd.ntmps6
  go_wp2_with first | (go_at_call 35; refine (putConfig_no HG.out _).mono ?_; rintro e w1 ⟨_, rfl, rfl, hb1⟩; have hc := conf_cells (heap_alloc_new w _) hb1; have HB1 := Lib.hid hb1; clear hb1) | (go_at_call 36; refine (putConfigR_no HG.out _).mono ?_; rintro e w2 ⟨_, rfl, rfl, hb2⟩; have HB2 := Lib.hid hb2; clear hb2 hc)
  have hb := below_call HB2.out HB1.out
  have HCF := Lib.hid (conf_at (heap_alloc_new w _) hb)
  have HB := Lib.hid (show Below w.heap.size w w2 from below_call hb (by go_grown))
  have HLT := Lib.hid (show w.heap.size < w2.heap.size from Nat.lt_of_lt_of_le (by simp) hb.size)
  clear hb HB1 HB2
  have hS := Own.start w2
  obtain ⟨M, hM⟩ : ∃ M, M = w2.heap.size := ⟨_, rfl⟩
  refine hide_frame fun t0 HT => ?_
  have HS : t0.size = 103 := by rw [HT]; rfl
  have h1 : t0[1]? = some (.int .i64 k) := by rw [HT]; rfl
  have h2 : t0[2]? = some (.int .i64 n) := by rw [HT]; rfl
  have h3 : t0[3]? = some (.pointer (some ⟨w.heap.size, 0, none⟩)) := by rw [HT]; rfl
  have h7 : t0[7]? = some (.slice none 0 0) := by rw [HT]; rfl
  have h8 : t0[8]? = some (.int .i64 200) := by rw [HT]; rfl
  have h9 : t0[9]? = some (.slice none 0 0) := by rw [HT]; rfl
  have h10 : t0[10]? = some (.int .i64 200) := by rw [HT]; rfl
  clear HT
  refine wp_region_all 15 (fun i => [25, 26, 27, 28, 29, 30, 31, 32, 33, 34, 35, 36, 37, 38, 39, 40].getD i 0) (fun i => [(· = .agg #[.int .i64 n0, .int .i64 n1, .int .i64 n2, .int .i64 n3, .int .i64 n4, .int .i64 n5]), (· = .int .i64 200), (· = .agg #[.int .i64 n0, .int .i64 n1, .int .i64 n2, .int .i64 n3, .int .i64 n4, .int .i64 n5]), (· = .int .i64 200), (· = .bool false), (· = .bool false), (· = .int .i64 200), (· = .int .i64 200), (· = .bool false), (· = .bool false), (· = .bool false), (· = .slice none 0 0), (· = .slice none 0 0), (· = .bool true), (· = .bool false), (· = .bool false)].getD i (fun _ => True)) (fun w' => Own w2 [] w' ∧ M ≤ w'.heap.size)
    (by kernel_rfl) (by kernel_rfl) (by kernel_rfl) (slots_apart (by kernel_rfl)) (slots_lie (by rw [HS]; kernel_rfl)) ⟨hS.drew, Nat.le_of_eq hM⟩ (fun w1 w2 h b => ⟨h.1.keep b, Nat.le_trans h.2 b.size⟩) ?_ ?_
  · clear hS
    intro i o hi ho
    have hc : i = 0 ∨ i = 1 ∨ i = 2 ∨ i = 3 ∨ i = 4 ∨ i = 5 ∨ i = 6 ∨ i = 7 ∨ i = 8 ∨ i = 9 ∨ i = 10 ∨ i = 11 ∨ i = 12 ∨ i = 13 ∨ i = 14 ∨ i = 15 := by omega
    rcases hc with rfl | rfl | rfl | rfl | rfl | rfl | rfl | rfl | rfl | rfl | rfl | rfl | rfl | rfl | rfl | rfl
    · obtain rfl := Option.some.inj ho
      refine ⟨rfl, fun a w' hS hold hin K hK => ?_⟩
      refine if_always rfl ?_
      exact op_ld_at 6 tConf _ rfl rfl _ (eval_tmp ((hold 3 (slots_not (by kernel_rfl))).trans h3)) _ rfl (HCF.out.under hS.1.1 HLT.out) hK
    · obtain rfl := Option.some.inj ho
      refine ⟨rfl, fun a w' hS hold hin K hK => ?_⟩
      obtain ⟨y0, x0, rfl⟩ := hin 0 rfl (by omega)
      refine if_always rfl ?_
      exact op_fn1 _ _ _ _ rfl rfl (eval_tmp x0) (by intro args w; kernel_rfl) (check_no HG.out _) hK
    · obtain rfl := Option.some.inj ho
      refine ⟨rfl, fun a w' hS hold hin K hK => ?_⟩
      refine if_always rfl ?_
      exact op_ld_at 6 tConf _ rfl rfl _ (eval_tmp ((hold 3 (slots_not (by kernel_rfl))).trans h3)) _ rfl (HCF.out.under hS.1.1 HLT.out) hK
    · obtain rfl := Option.some.inj ho
      refine ⟨rfl, fun a w' hS hold hin K hK => ?_⟩
      obtain ⟨y2, x2, rfl⟩ := hin 2 rfl (by omega)
      refine if_always rfl ?_
      exact op_fn1 _ _ _ _ rfl rfl (eval_tmp x2) (by intro args w; kernel_rfl) (checkR_no HG.out _) hK
    · obtain rfl := Option.some.inj ho
      refine ⟨rfl, fun a w' hS hold hin K hK => ?_⟩
      obtain ⟨y1, x1, rfl⟩ := hin 1 rfl (by omega)
      obtain ⟨y3, x3, rfl⟩ := hin 3 rfl (by omega)
      refine if_always rfl ?_
      exact op_bin (V := (· = .bool false)) _ _ _ _ _ _ _ (.bool false) rfl rfl (eval_tmp x1) (eval_tmp x3) (fun w => neq_err 200 w) rfl hK
    · obtain rfl := Option.some.inj ho
      refine ⟨rfl, fun a w' hS hold hin K hK => ?_⟩
      obtain ⟨y4, x4, rfl⟩ := hin 4 rfl (by omega)
      refine if_always rfl ?_
      exact op_move (V := (· = .bool false)) _ _ rfl rfl (eval_tmp x4) rfl hK
    · obtain rfl := Option.some.inj ho
      refine ⟨rfl, fun a w' hS hold hin K hK => ?_⟩
      obtain ⟨y5, x5, rfl⟩ := hin 5 rfl (by omega)
      refine if_guard (d := 30) rfl rfl x5 ?_
      exact op_move (V := (· = .int .i64 200)) _ _ rfl rfl (eval_tmp ((hold 8 (slots_not (by kernel_rfl))).trans h8)) rfl hK
    · obtain rfl := Option.some.inj ho
      refine ⟨rfl, fun a w' hS hold hin K hK => ?_⟩
      obtain ⟨y5, x5, rfl⟩ := hin 5 rfl (by omega)
      refine if_guard (d := 30) rfl rfl x5 ?_
      exact op_move (V := (· = .int .i64 200)) _ _ rfl rfl (eval_tmp ((hold 10 (slots_not (by kernel_rfl))).trans h10)) rfl hK
    · obtain rfl := Option.some.inj ho
      refine ⟨rfl, fun a w' hS hold hin K hK => ?_⟩
      obtain ⟨y5, x5, rfl⟩ := hin 5 rfl (by omega)
      obtain ⟨y6, x6, rfl⟩ := hin 6 rfl (by omega)
      obtain ⟨y7, x7, rfl⟩ := hin 7 rfl (by omega)
      refine if_guard (d := 30) rfl rfl x5 ?_
      exact op_bin (V := (· = .bool false)) _ _ _ _ _ _ _ (.bool false) rfl rfl (eval_tmp x6) (eval_tmp x7) (fun w => neq_err 200 w) rfl hK
    · obtain rfl := Option.some.inj ho
      refine ⟨rfl, fun a w' hS hold hin K hK => ?_⟩
      obtain ⟨y5, x5, rfl⟩ := hin 5 rfl (by omega)
      obtain ⟨y8, x8, rfl⟩ := hin 8 rfl (by omega)
      refine if_always rfl ?_
      exact op_pick (V := (· = .bool false)) _ _ _ false _ rfl rfl (eval_tmp x5) (show (Act.eval a _) = _ from (eval_tmp x8)) rfl hK
    · obtain rfl := Option.some.inj ho
      refine ⟨rfl, fun a w' hS hold hin K hK => ?_⟩
      obtain ⟨y9, x9, rfl⟩ := hin 9 rfl (by omega)
      refine if_always rfl ?_
      exact op_move (V := (· = .bool false)) _ _ rfl rfl (eval_tmp x9) rfl hK
    · obtain rfl := Option.some.inj ho
      refine ⟨rfl, fun a w' hS hold hin K hK => ?_⟩
      obtain ⟨y10, x10, rfl⟩ := hin 10 rfl (by omega)
      refine if_guard (d := 35) rfl rfl x10 ?_
      exact op_move (V := (· = .slice none 0 0)) _ _ rfl rfl (eval_tmp ((hold 7 (slots_not (by kernel_rfl))).trans h7)) rfl hK
    · obtain rfl := Option.some.inj ho
      refine ⟨rfl, fun a w' hS hold hin K hK => ?_⟩
      obtain ⟨y10, x10, rfl⟩ := hin 10 rfl (by omega)
      refine if_guard (d := 35) rfl rfl x10 ?_
      exact op_move (V := (· = .slice none 0 0)) _ _ rfl rfl (eval_tmp ((hold 9 (slots_not (by kernel_rfl))).trans h9)) rfl hK
    · obtain rfl := Option.some.inj ho
      refine ⟨rfl, fun a w' hS hold hin K hK => ?_⟩
      obtain ⟨y10, x10, rfl⟩ := hin 10 rfl (by omega)
      obtain ⟨y11, x11, rfl⟩ := hin 11 rfl (by omega)
      obtain ⟨y12, x12, rfl⟩ := hin 12 rfl (by omega)
      refine if_guard (d := 35) rfl rfl x10 ?_
      exact op_fn2 _ _ _ _ _ _ rfl rfl (eval_tmp x11) (eval_tmp x12) (by intro args w; kernel_rfl) (eq_own [] rfl (bytesIn_nil _ _) (bytesIn_nil _ _) (by decide)) hK
    · obtain rfl := Option.some.inj ho
      refine ⟨rfl, fun a w' hS hold hin K hK => ?_⟩
      obtain ⟨y10, x10, rfl⟩ := hin 10 rfl (by omega)
      obtain ⟨y13, x13, rfl⟩ := hin 13 rfl (by omega)
      refine if_guard (d := 35) rfl rfl x10 ?_
      exact op_un (V := (· = .bool false)) _ _ _ _ (.bool false) rfl rfl (eval_tmp x13) (fun w => by kernel_rfl) rfl hK
    · obtain rfl := Option.some.inj ho
      refine ⟨rfl, fun a w' hS hold hin K hK => ?_⟩
      obtain ⟨y10, x10, rfl⟩ := hin 10 rfl (by omega)
      obtain ⟨y14, x14, rfl⟩ := hin 14 rfl (by omega)
      refine if_always rfl ?_
      exact op_pick (V := (· = .bool false)) _ _ _ false _ rfl rfl (eval_tmp x10) (show (Act.eval a _) = _ from (eval_tmp x14)) rfl hK
  clear hS
  intro t1 V1 hs hold hout hS
  replace HS := hs.trans HS
  replace hS := hS.1
  obtain ⟨_, q40, rfl⟩ : ∃ x, t1[40]? = some x ∧ x = (.bool false : Value) := hout 15 (by omega)
  replace h1 := (hold 1 (slots_not (by kernel_rfl))).trans h1
  replace h2 := (hold 2 (slots_not (by kernel_rfl))).trans h2
  replace h3 := (hold 3 (slots_not (by kernel_rfl))).trans h3
  replace h7 := (hold 7 (slots_not (by kernel_rfl))).trans h7
  replace h8 := (hold 8 (slots_not (by kernel_rfl))).trans h8
  replace h9 := (hold 9 (slots_not (by kernel_rfl))).trans h9
  replace h10 := (hold 10 (slots_not (by kernel_rfl))).trans h10
  clear hold hout hs
  obtain ⟨f, e0, hf⟩ := wash HS
  have f1 := hf 1 _ h1
  have f2 := hf 2 _ h2
  have f3 := hf 3 _ h3
  have f7 := hf 7 _ h7
  have f8 := hf 8 _ h8
  have f9 := hf 9 _ h9
  have f10 := hf 10 _ h10
  have f40 := hf 40 _ q40
  clear hf
  rw [e0.trans (show _ = #[f 0, f 1, f 2, f 3, f 4, f 5, f 6, f 7, f 8, f 9, f 10, f 11, f 12, f 13, f 14, f 15, f 16, f 17, f 18, f 19, f 20, f 21, f 22, f 23, f 24, f 25, f 26, f 27, f 28, f 29, f 30, f 31, f 32, f 33, f 34, f 35, f 36, f 37, f 38, f 39, f 40, f 41, f 42, f 43, f 44, f 45, f 46, f 47, f 48, f 49, f 50, f 51, f 52, f 53, f 54, f 55, f 56, f 57, f 58, f 59, f 60, f 61, f 62, f 63, f 64, f 65, f 66, f 67, f 68, f 69, f 70, f 71, f 72, f 73, f 74, f 75, f 76, f 77, f 78, f 79, f 80, f 81, f 82, f 83, f 84, f 85, f 86, f 87, f 88, f 89, f 90, f 91, f 92, f 93, f 94, f 95, f 96, f 97, f 98, f 99, f 100, f 101, f 102] from by kernel_rfl), f1, f2, f3, f7, f8, f9, f10, f40]
  clear f1 f2 f3 f7 f8 f9 f10 f40
  clear e0
  try dsimp only
  clear h1 h2 h3 h7 h8 h9 h10 q40 hM HS t1 t0 M
  have HLT9 := Lib.hid (show w.heap.size < V1.heap.size from Nat.lt_of_lt_of_le HLT.out hS.1.size)
  have HB9 := Lib.hid (below_call hS.1 HB.out)
  have HCA := Lib.hid (HCF.out.under hS.1 HLT.out)
  clear hS HCF HLT HB
  have hcl := conf_load HCA.out
  go_wp2_with first | (go_at_call 39; refine (RequestSize_ev HM.out _).mono ?_; rintro e wn ⟨_, rfl, rfl, hbn⟩; have hcl := conf_load (HCA.out.under hbn HLT9.out); replace HCA := Lib.hid (HCA.out.under hbn HLT9.out); replace HB9 := Lib.hid (below_call hbn HB9.out); replace HLT9 := Lib.hid (show w.heap.size < wn.heap.size from Nat.lt_of_lt_of_le HLT9.out hbn.size); clear hbn) | (go_at_call 40; refine (RequestSizeR_ev HM.out _).mono ?_; rintro e wn ⟨_, rfl, rfl, hbn⟩; have hcl := conf_load (HCA.out.under hbn HLT9.out); replace HCA := Lib.hid (HCA.out.under hbn HLT9.out); replace HB9 := Lib.hid (below_call hbn HB9.out); replace HLT9 := Lib.hid (show w.heap.size < wn.heap.size from Nat.lt_of_lt_of_le HLT9.out hbn.size); clear hbn) | (go_at_call 41; refine (ReplySize_ev HM.out _).mono ?_; rintro e wn ⟨_, rfl, rfl, hbn⟩; have hcl := conf_load (HCA.out.under hbn HLT9.out); replace HCA := Lib.hid (HCA.out.under hbn HLT9.out); replace HB9 := Lib.hid (below_call hbn HB9.out); replace HLT9 := Lib.hid (show w.heap.size < wn.heap.size from Nat.lt_of_lt_of_le HLT9.out hbn.size); clear hbn) | (go_at_call 42; refine (ReplySizeR_ev HM.out _).mono ?_; rintro e wn ⟨_, rfl, rfl, hbn⟩; have hcl := conf_load (HCA.out.under hbn HLT9.out); replace HCA := Lib.hid (HCA.out.under hbn HLT9.out); replace HB9 := Lib.hid (below_call hbn HB9.out); replace HLT9 := Lib.hid (show w.heap.size < wn.heap.size from Nat.lt_of_lt_of_le HLT9.out hbn.size); clear hbn) | (go_at_call 43; refine (HP1.out _).mono ?_; rintro e wn ⟨_, rfl, rfl, hbn⟩; have hcl := conf_load (HCA.out.under hbn HLT9.out); replace HCA := Lib.hid (HCA.out.under hbn HLT9.out); replace HB9 := Lib.hid (below_call hbn HB9.out); replace HLT9 := Lib.hid (show w.heap.size < wn.heap.size from Nat.lt_of_lt_of_le HLT9.out hbn.size); clear hbn) | (go_at_call 44; refine (HP2.out _).mono ?_; rintro e wn ⟨_, rfl, rfl, hbn⟩; have hcl := conf_load (HCA.out.under hbn HLT9.out); replace HCA := Lib.hid (HCA.out.under hbn HLT9.out); replace HB9 := Lib.hid (below_call hbn HB9.out); replace HLT9 := Lib.hid (show w.heap.size < wn.heap.size from Nat.lt_of_lt_of_le HLT9.out hbn.size); clear hbn)
  exact ⟨rfl, .bool true, by kernel_rfl, rfl, HB9.out⟩
set_option maxHeartbeats 8000000 in
set_option maxRecDepth 100000 in
theorem codecSizes_good (n0 n1 n2 n3 n4 n5 k n : Int) (w : World) (h : good n0 n1 n2 n3 n4 n5 = true) : Calls Tryd.prog 6 #[.agg #[.int .i64 n0, .int .i64 n1, .int .i64 n2, .int .i64 n3, .int .i64 n4, .int .i64 n5], .int .i64 k, .int .i64 n] w fun e w' => e = .returned (.bool true) ∧ Below w.heap.size w w' := by
  obtain ⟨pq, pe, hp1, hp2⟩ := pages_both n0 n1 n2 n3 n4 n5 k n
  obtain ⟨rq, rp, rc, er, hm⟩ : ∃ rq rp rc er, msr n0 n1 n2 n3 n4 n5 k = (rq, rp, rc, er) := ⟨_, _, _, _, rfl⟩
  have HP1 := Lib.hid hp1
  have HP2 := Lib.hid hp2
  have HM := Lib.hid hm
  have HG := Lib.hid h
  clear h hp1 hp2 hm
  go_enter Tryd.func6, Tryd.ntmps6
  go_wp2_with first | (go_at_call 35; refine (putConfig_yes HG.out _).mono ?_; rintro e w1 ⟨hb1, v1, rfl, hv1⟩; have HV1 := Lib.hid hv1; clear hv1; have hc := conf_cells (heap_alloc_new w _) hb1; have HB1 := Lib.hid hb1; clear hb1) | (go_at_call 36; refine (putConfigR_yes HG.out _).mono ?_; rintro e w2 ⟨hb2, v2, rfl, hv2⟩; have HV2 := Lib.hid hv2; have HB2 := Lib.hid hb2; clear hv2 hb2 hc)
  have hb := below_call HB2.out HB1.out
  obtain ⟨p1, c1, rfl, hi1, _⟩ := (HV1.out.under HB2.out).open
  obtain ⟨p2, c2, rfl, hi2, _⟩ := HV2.out.open
  have H1 := Lib.hid hi1
  have H2 := Lib.hid hi2
  clear hi1 hi2 HV1 HV2
  have hln : (confL n0 n1 n2 n3 n4 n5).length = 24 := by rw [confL_nums, nums_len]; rfl
  have HLN := Lib.hid hln
  rw [hln]
  clear hln
  have HCF := Lib.hid (conf_at (heap_alloc_new w _) hb)
  have HB := Lib.hid (show Below w.heap.size w w2 from below_call hb (by go_grown))
  have HLT := Lib.hid (show w.heap.size < w2.heap.size from Nat.lt_of_lt_of_le (by simp) hb.size)
  clear hb HB1 HB2
  have hS := Own.start w2
  obtain ⟨M, hM⟩ : ∃ M, M = w2.heap.size := ⟨_, rfl⟩
  refine hide_frame fun t0 HT => ?_
  have HS : t0.size = 103 := by rw [HT]; rfl
  have h1 : t0[1]? = some (.int .i64 k) := by rw [HT]; rfl
  have h2 : t0[2]? = some (.int .i64 n) := by rw [HT]; rfl
  have h3 : t0[3]? = some (.pointer (some ⟨w.heap.size, 0, none⟩)) := by rw [HT]; rfl
  have h7 : t0[7]? = some (.slice p1 24 c1) := by rw [HT]; rfl
  have h8 : t0[8]? = some (.int .i64 0) := by rw [HT]; rfl
  have h9 : t0[9]? = some (.slice p2 24 c2) := by rw [HT]; rfl
  have h10 : t0[10]? = some (.int .i64 0) := by rw [HT]; rfl
  clear HT
  refine wp_region_all 15 (fun i => [25, 26, 27, 28, 29, 30, 31, 32, 33, 34, 35, 36, 37, 38, 39, 40].getD i 0) (fun i => [(· = .agg #[.int .i64 n0, .int .i64 n1, .int .i64 n2, .int .i64 n3, .int .i64 n4, .int .i64 n5]), (· = .int .i64 0), (· = .agg #[.int .i64 n0, .int .i64 n1, .int .i64 n2, .int .i64 n3, .int .i64 n4, .int .i64 n5]), (· = .int .i64 0), (· = .bool false), (· = .bool false), (· = .int .i64 0), (· = .int .i64 0), (· = .bool false), (· = .bool false), (· = .bool false), (· = .slice p1 24 c1), (· = .slice p2 24 c2), (· = .bool true), (· = .bool false), (· = .bool false)].getD i (fun _ => True)) (fun w' => Own w2 [] w' ∧ M ≤ w'.heap.size)
    (by kernel_rfl) (by kernel_rfl) (by kernel_rfl) (slots_apart (by kernel_rfl)) (slots_lie (by rw [HS]; kernel_rfl)) ⟨hS.drew, Nat.le_of_eq hM⟩ (fun w1 w2 h b => ⟨h.1.keep b, Nat.le_trans h.2 b.size⟩) ?_ ?_
  · clear hS
    intro i o hi ho
    have hc : i = 0 ∨ i = 1 ∨ i = 2 ∨ i = 3 ∨ i = 4 ∨ i = 5 ∨ i = 6 ∨ i = 7 ∨ i = 8 ∨ i = 9 ∨ i = 10 ∨ i = 11 ∨ i = 12 ∨ i = 13 ∨ i = 14 ∨ i = 15 := by omega
    rcases hc with rfl | rfl | rfl | rfl | rfl | rfl | rfl | rfl | rfl | rfl | rfl | rfl | rfl | rfl | rfl | rfl
    · obtain rfl := Option.some.inj ho
      refine ⟨rfl, fun a w' hS hold hin K hK => ?_⟩
      refine if_always rfl ?_
      exact op_ld_at 6 tConf _ rfl rfl _ (eval_tmp ((hold 3 (slots_not (by kernel_rfl))).trans h3)) _ rfl (HCF.out.under hS.1.1 HLT.out) hK
    · obtain rfl := Option.some.inj ho
      refine ⟨rfl, fun a w' hS hold hin K hK => ?_⟩
      obtain ⟨y0, x0, rfl⟩ := hin 0 rfl (by omega)
      refine if_always rfl ?_
      exact op_fn1 _ _ _ _ rfl rfl (eval_tmp x0) (by intro args w; kernel_rfl) (check_yes HG.out _) hK
    · obtain rfl := Option.some.inj ho
      refine ⟨rfl, fun a w' hS hold hin K hK => ?_⟩
      refine if_always rfl ?_
      exact op_ld_at 6 tConf _ rfl rfl _ (eval_tmp ((hold 3 (slots_not (by kernel_rfl))).trans h3)) _ rfl (HCF.out.under hS.1.1 HLT.out) hK
    · obtain rfl := Option.some.inj ho
      refine ⟨rfl, fun a w' hS hold hin K hK => ?_⟩
      obtain ⟨y2, x2, rfl⟩ := hin 2 rfl (by omega)
      refine if_always rfl ?_
      exact op_fn1 _ _ _ _ rfl rfl (eval_tmp x2) (by intro args w; kernel_rfl) (checkR_yes HG.out _) hK
    · obtain rfl := Option.some.inj ho
      refine ⟨rfl, fun a w' hS hold hin K hK => ?_⟩
      obtain ⟨y1, x1, rfl⟩ := hin 1 rfl (by omega)
      obtain ⟨y3, x3, rfl⟩ := hin 3 rfl (by omega)
      refine if_always rfl ?_
      exact op_bin (V := (· = .bool false)) _ _ _ _ _ _ _ (.bool false) rfl rfl (eval_tmp x1) (eval_tmp x3) (fun w => neq_err 0 w) rfl hK
    · obtain rfl := Option.some.inj ho
      refine ⟨rfl, fun a w' hS hold hin K hK => ?_⟩
      obtain ⟨y4, x4, rfl⟩ := hin 4 rfl (by omega)
      refine if_always rfl ?_
      exact op_move (V := (· = .bool false)) _ _ rfl rfl (eval_tmp x4) rfl hK
    · obtain rfl := Option.some.inj ho
      refine ⟨rfl, fun a w' hS hold hin K hK => ?_⟩
      obtain ⟨y5, x5, rfl⟩ := hin 5 rfl (by omega)
      refine if_guard (d := 30) rfl rfl x5 ?_
      exact op_move (V := (· = .int .i64 0)) _ _ rfl rfl (eval_tmp ((hold 8 (slots_not (by kernel_rfl))).trans h8)) rfl hK
    · obtain rfl := Option.some.inj ho
      refine ⟨rfl, fun a w' hS hold hin K hK => ?_⟩
      obtain ⟨y5, x5, rfl⟩ := hin 5 rfl (by omega)
      refine if_guard (d := 30) rfl rfl x5 ?_
      exact op_move (V := (· = .int .i64 0)) _ _ rfl rfl (eval_tmp ((hold 10 (slots_not (by kernel_rfl))).trans h10)) rfl hK
    · obtain rfl := Option.some.inj ho
      refine ⟨rfl, fun a w' hS hold hin K hK => ?_⟩
      obtain ⟨y5, x5, rfl⟩ := hin 5 rfl (by omega)
      obtain ⟨y6, x6, rfl⟩ := hin 6 rfl (by omega)
      obtain ⟨y7, x7, rfl⟩ := hin 7 rfl (by omega)
      refine if_guard (d := 30) rfl rfl x5 ?_
      exact op_bin (V := (· = .bool false)) _ _ _ _ _ _ _ (.bool false) rfl rfl (eval_tmp x6) (eval_tmp x7) (fun w => neq_err 0 w) rfl hK
    · obtain rfl := Option.some.inj ho
      refine ⟨rfl, fun a w' hS hold hin K hK => ?_⟩
      obtain ⟨y5, x5, rfl⟩ := hin 5 rfl (by omega)
      obtain ⟨y8, x8, rfl⟩ := hin 8 rfl (by omega)
      refine if_always rfl ?_
      exact op_pick (V := (· = .bool false)) _ _ _ false _ rfl rfl (eval_tmp x5) (show (Act.eval a _) = _ from (eval_tmp x8)) rfl hK
    · obtain rfl := Option.some.inj ho
      refine ⟨rfl, fun a w' hS hold hin K hK => ?_⟩
      obtain ⟨y9, x9, rfl⟩ := hin 9 rfl (by omega)
      refine if_always rfl ?_
      exact op_move (V := (· = .bool false)) _ _ rfl rfl (eval_tmp x9) rfl hK
    · obtain rfl := Option.some.inj ho
      refine ⟨rfl, fun a w' hS hold hin K hK => ?_⟩
      obtain ⟨y10, x10, rfl⟩ := hin 10 rfl (by omega)
      refine if_guard (d := 35) rfl rfl x10 ?_
      exact op_move (V := (· = .slice p1 24 c1)) _ _ rfl rfl (eval_tmp ((hold 7 (slots_not (by kernel_rfl))).trans h7)) rfl hK
    · obtain rfl := Option.some.inj ho
      refine ⟨rfl, fun a w' hS hold hin K hK => ?_⟩
      obtain ⟨y10, x10, rfl⟩ := hin 10 rfl (by omega)
      refine if_guard (d := 35) rfl rfl x10 ?_
      exact op_move (V := (· = .slice p2 24 c2)) _ _ rfl rfl (eval_tmp ((hold 9 (slots_not (by kernel_rfl))).trans h9)) rfl hK
    · obtain rfl := Option.some.inj ho
      refine ⟨rfl, fun a w' hS hold hin K hK => ?_⟩
      obtain ⟨y10, x10, rfl⟩ := hin 10 rfl (by omega)
      obtain ⟨y11, x11, rfl⟩ := hin 11 rfl (by omega)
      obtain ⟨y12, x12, rfl⟩ := hin 12 rfl (by omega)
      refine if_guard (d := 35) rfl rfl x10 ?_
      exact op_fn2 _ _ _ _ _ _ rfl rfl (eval_tmp x11) (eval_tmp x12) (by intro args w; kernel_rfl) (eq_own _ HLN.out (H1.out.under hS.1.1 (Nat.le_refl _)) (H2.out.under hS.1.1 (Nat.le_refl _)) (by decide)) hK
    · obtain rfl := Option.some.inj ho
      refine ⟨rfl, fun a w' hS hold hin K hK => ?_⟩
      obtain ⟨y10, x10, rfl⟩ := hin 10 rfl (by omega)
      obtain ⟨y13, x13, rfl⟩ := hin 13 rfl (by omega)
      refine if_guard (d := 35) rfl rfl x10 ?_
      exact op_un (V := (· = .bool false)) _ _ _ _ (.bool false) rfl rfl (eval_tmp x13) (fun w => by kernel_rfl) rfl hK
    · obtain rfl := Option.some.inj ho
      refine ⟨rfl, fun a w' hS hold hin K hK => ?_⟩
      obtain ⟨y10, x10, rfl⟩ := hin 10 rfl (by omega)
      obtain ⟨y14, x14, rfl⟩ := hin 14 rfl (by omega)
      refine if_always rfl ?_
      exact op_pick (V := (· = .bool false)) _ _ _ false _ rfl rfl (eval_tmp x10) (show (Act.eval a _) = _ from (eval_tmp x14)) rfl hK
  clear hS
  intro t1 V1 hs hold hout hS
  replace HS := hs.trans HS
  replace hS := hS.1
  obtain ⟨_, q40, rfl⟩ : ∃ x, t1[40]? = some x ∧ x = (.bool false : Value) := hout 15 (by omega)
  replace h1 := (hold 1 (slots_not (by kernel_rfl))).trans h1
  replace h2 := (hold 2 (slots_not (by kernel_rfl))).trans h2
  replace h3 := (hold 3 (slots_not (by kernel_rfl))).trans h3
  replace h7 := (hold 7 (slots_not (by kernel_rfl))).trans h7
  replace h8 := (hold 8 (slots_not (by kernel_rfl))).trans h8
  replace h9 := (hold 9 (slots_not (by kernel_rfl))).trans h9
  replace h10 := (hold 10 (slots_not (by kernel_rfl))).trans h10
  clear hold hout hs
  obtain ⟨f, e0, hf⟩ := wash HS
  have f1 := hf 1 _ h1
  have f2 := hf 2 _ h2
  have f3 := hf 3 _ h3
  have f7 := hf 7 _ h7
  have f8 := hf 8 _ h8
  have f9 := hf 9 _ h9
  have f10 := hf 10 _ h10
  have f40 := hf 40 _ q40
  clear hf
  rw [e0.trans (show _ = #[f 0, f 1, f 2, f 3, f 4, f 5, f 6, f 7, f 8, f 9, f 10, f 11, f 12, f 13, f 14, f 15, f 16, f 17, f 18, f 19, f 20, f 21, f 22, f 23, f 24, f 25, f 26, f 27, f 28, f 29, f 30, f 31, f 32, f 33, f 34, f 35, f 36, f 37, f 38, f 39, f 40, f 41, f 42, f 43, f 44, f 45, f 46, f 47, f 48, f 49, f 50, f 51, f 52, f 53, f 54, f 55, f 56, f 57, f 58, f 59, f 60, f 61, f 62, f 63, f 64, f 65, f 66, f 67, f 68, f 69, f 70, f 71, f 72, f 73, f 74, f 75, f 76, f 77, f 78, f 79, f 80, f 81, f 82, f 83, f 84, f 85, f 86, f 87, f 88, f 89, f 90, f 91, f 92, f 93, f 94, f 95, f 96, f 97, f 98, f 99, f 100, f 101, f 102] from by kernel_rfl), f1, f2, f3, f7, f8, f9, f10, f40]
  clear f1 f2 f3 f7 f8 f9 f10 f40
  clear e0
  try dsimp only
  clear h1 h2 h3 h7 h8 h9 h10 q40 hM HS t1 t0 M
  have HLT9 := Lib.hid (show w.heap.size < V1.heap.size from Nat.lt_of_lt_of_le HLT.out hS.1.size)
  have HB9 := Lib.hid (below_call hS.1 HB.out)
  have HCA := Lib.hid (HCF.out.under hS.1 HLT.out)
  clear hS HCF HLT HB
  have hcl := conf_load HCA.out
  go_wp2_with first | (go_at_call 39; refine (RequestSize_ev HM.out _).mono ?_; rintro e wn ⟨_, rfl, rfl, hbn⟩; have hcl := conf_load (HCA.out.under hbn HLT9.out); replace HCA := Lib.hid (HCA.out.under hbn HLT9.out); replace HB9 := Lib.hid (below_call hbn HB9.out); replace HLT9 := Lib.hid (show w.heap.size < wn.heap.size from Nat.lt_of_lt_of_le HLT9.out hbn.size); clear hbn) | (go_at_call 40; refine (RequestSizeR_ev HM.out _).mono ?_; rintro e wn ⟨_, rfl, rfl, hbn⟩; have hcl := conf_load (HCA.out.under hbn HLT9.out); replace HCA := Lib.hid (HCA.out.under hbn HLT9.out); replace HB9 := Lib.hid (below_call hbn HB9.out); replace HLT9 := Lib.hid (show w.heap.size < wn.heap.size from Nat.lt_of_lt_of_le HLT9.out hbn.size); clear hbn) | (go_at_call 41; refine (ReplySize_ev HM.out _).mono ?_; rintro e wn ⟨_, rfl, rfl, hbn⟩; have hcl := conf_load (HCA.out.under hbn HLT9.out); replace HCA := Lib.hid (HCA.out.under hbn HLT9.out); replace HB9 := Lib.hid (below_call hbn HB9.out); replace HLT9 := Lib.hid (show w.heap.size < wn.heap.size from Nat.lt_of_lt_of_le HLT9.out hbn.size); clear hbn) | (go_at_call 42; refine (ReplySizeR_ev HM.out _).mono ?_; rintro e wn ⟨_, rfl, rfl, hbn⟩; have hcl := conf_load (HCA.out.under hbn HLT9.out); replace HCA := Lib.hid (HCA.out.under hbn HLT9.out); replace HB9 := Lib.hid (below_call hbn HB9.out); replace HLT9 := Lib.hid (show w.heap.size < wn.heap.size from Nat.lt_of_lt_of_le HLT9.out hbn.size); clear hbn) | (go_at_call 43; refine (HP1.out _).mono ?_; rintro e wn ⟨_, rfl, rfl, hbn⟩; have hcl := conf_load (HCA.out.under hbn HLT9.out); replace HCA := Lib.hid (HCA.out.under hbn HLT9.out); replace HB9 := Lib.hid (below_call hbn HB9.out); replace HLT9 := Lib.hid (show w.heap.size < wn.heap.size from Nat.lt_of_lt_of_le HLT9.out hbn.size); clear hbn) | (go_at_call 44; refine (HP2.out _).mono ?_; rintro e wn ⟨_, rfl, rfl, hbn⟩; have hcl := conf_load (HCA.out.under hbn HLT9.out); replace HCA := Lib.hid (HCA.out.under hbn HLT9.out); replace HB9 := Lib.hid (below_call hbn HB9.out); replace HLT9 := Lib.hid (show w.heap.size < wn.heap.size from Nat.lt_of_lt_of_le HLT9.out hbn.size); clear hbn)
  exact ⟨rfl, .bool true, by kernel_rfl, rfl, HB9.out⟩
theorem codecSizes_walk (n0 n1 n2 n3 n4 n5 k n : Int) (w : World) : Calls Tryd.prog 6 #[.agg #[.int .i64 n0, .int .i64 n1, .int .i64 n2, .int .i64 n3, .int .i64 n4, .int .i64 n5], .int .i64 k, .int .i64 n] w fun e w' => e = .returned (.bool true) ∧ Below w.heap.size w w' := by
  by_cases h : good n0 n1 n2 n3 n4 n5 = true
  · exact codecSizes_good n0 n1 n2 n3 n4 n5 k n w h
  · exact codecSizes_bad n0 n1 n2 n3 n4 n5 k n w h
end Go.Proofs.YtmochmpamgfboaaDoor
