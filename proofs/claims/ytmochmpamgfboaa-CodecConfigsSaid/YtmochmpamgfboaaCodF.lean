/- A config is read: the reference's ParseConfig. Condition: memory can hold the bytes. -/
import Derived.Test.YtmochmpamgfboaaCodE
import Derived.Test.YtmochmpamgfboaaSl6
namespace Go.Proofs.Ytmochmpamgfboaa
open Go.RowKit
theorem checkR_yes {n0 n1 n2 n3 n4 n5 : Int} (h : good n0 n1 n2 n3 n4 n5 = true) (w : World) : Calls Try.prog 14 #[.agg #[.int .i64 n0, .int .i64 n1, .int .i64 n2, .int .i64 n3, .int .i64 n4, .int .i64 n5]] w (Gives (· = .int .i64 0) w) :=
  (checkR_any n0 n1 n2 n3 n4 n5 w).mono fun _ _ ⟨r, e1, e2, e3⟩ => ⟨r, e1, by rw [if_pos h] at e2; exact e2, e3⟩
theorem checkR_no {n0 n1 n2 n3 n4 n5 : Int} (h : ¬ good n0 n1 n2 n3 n4 n5 = true) (w : World) : Calls Try.prog 14 #[.agg #[.int .i64 n0, .int .i64 n1, .int .i64 n2, .int .i64 n3, .int .i64 n4, .int .i64 n5]] w (Gives (· = .int .i64 200) w) :=
  (checkR_any n0 n1 n2 n3 n4 n5 w).mono fun _ _ ⟨r, e1, e2, e3⟩ => ⟨r, e1, by rw [if_neg h] at e2; exact e2, e3⟩
theorem number_at {p : Option Addr} {l : List Int} {c : Nat} {x : Int} {w : World} (hn : l.length = 4) (hb : Byt l) (h : BytesIn w p l) (hx : num l = x) :
    Calls Try.prog 13 #[.slice p 4 c] w (Gives (· = .int .i64 x) w) := by
  subst hx; exact number_any p l 4 c w hn hb (Nat.le_refl _) h
set_option maxHeartbeats 4000000 in
set_option maxRecDepth 100000 in
theorem parseR_short (p : Option Addr) (l : List Int) (n c : Nat) (w : World) (hn : l.length = n) (h24 : n ≠ 24) :
    Calls Try.prog 6 #[.slice p n c] w (Gives (· = parsed l) w) := by
  have hP : parsed l = .tuple #[.agg #[.int .i64 0, .int .i64 0, .int .i64 0, .int .i64 0, .int .i64 0, .int .i64 0], .int .i64 4] := by rw [parsed, hn, if_neg h24]
  rw [hP]
  clear hP
  have h24' : ¬ ((n : Int) = 24) := by omega
  have hS := (Own.start w).keep ((Below.refl _ _).alloc (Nat.le_refl _) (.cells #[.int .i64 0, .int .i64 0, .int .i64 0, .int .i64 0, .int .i64 0, .int .i64 0] 25)) |>.add (g := w.heap.size) (n := 6) (V := fun _ => True) (Nat.le_refl _) (fun r hr => by cases hr) ⟨_, _, heap_alloc_new w _, rfl, trivial⟩
  go_enter Try.func6, Try.ntmps6
  go_wp2_with ((with_reducible refine guard_list ?_); first | (refine held_build _ _ rfl ?_))
  change Held (wpList _ _ _ _ _ (w.alloc (.cells #[.int .i64 0, .int .i64 0, .int .i64 0, .int .i64 0, .int .i64 0, .int .i64 0] 25)))
  generalize w.alloc (.cells #[.int .i64 0, .int .i64 0, .int .i64 0, .int .i64 0, .int .i64 0, .int .i64 0] 25) = W0 at hS ⊢
  obtain ⟨M, hM⟩ : ∃ M, M = W0.heap.size := ⟨_, rfl⟩
  refine hide_held fun t0 HT => ?_
  have HS : t0.size = 33 := by rw [HT]; rfl
  have h2 : t0[2]? = some (.pointer (some ⟨w.heap.size, 0, none⟩)) := by rw [HT]; rfl
  clear HT
  refine wp_list_most 1 (fun i => [8].getD i 0) (fun _ => none) (fun i => [(· = .agg #[.int .i64 0, .int .i64 0, .int .i64 0, .int .i64 0, .int .i64 0, .int .i64 0])].getD i (fun _ => True)) (fun w' => Own w [(w.heap.size, 6, (fun _ => True))] w' ∧ M ≤ w'.heap.size) M
    (by kernel_rfl) (slots_apart (by kernel_rfl)) (slots_lie (by rw [HS]; kernel_rfl)) ⟨hS, Nat.le_of_eq hM⟩ (fun w' h => h.2) (fun w1 w2 h b => ⟨h.1.keep b, Nat.le_trans h.2 b.size⟩) ?_ ?_ ?_
  · clear hS
    intro i o hi ho hA
    have hc : i = 0 := by omega
    rcases hc with rfl
    · obtain rfl := Option.some.inj ho
      refine ⟨rfl, fun a w' hS hold hin K hK => ?_⟩
      refine if_always rfl ?_
      exact op_val (V := (· = .agg #[.int .i64 0, .int .i64 0, .int .i64 0, .int .i64 0, .int .i64 0, .int .i64 0])) (.agg #[.int .i64 0, .int .i64 0, .int .i64 0, .int .i64 0, .int .i64 0, .int .i64 0]) rfl (by kernel_rfl) rfl hK
  · intro i o sz hi ho hA; cases hA
  clear hS
  intro t1 V1 hs hold hout hall hne hS
  replace HS := hs.trans HS
  replace hS := hS.1
  obtain ⟨x8, q8, v8⟩ : ∃ x, t1[8]? = some x ∧ ((· = .agg #[.int .i64 0, .int .i64 0, .int .i64 0, .int .i64 0, .int .i64 0, .int .i64 0])) x := hout 0 (by omega) rfl
  replace q8 : t1[8]? = some (.agg #[.int .i64 0, .int .i64 0, .int .i64 0, .int .i64 0, .int .i64 0, .int .i64 0]) := q8.trans (congrArg some v8)
  replace h2 := (hold 2 (slots_not (by kernel_rfl))).trans h2
  clear hold hout hs hall hne
  simp only [List.drop_succ_cons, List.drop_zero]
  refine st_own 6 tConf rfl (.tmp 2) (.tmp 8) rfl rfl _ _ (eval_tmp h2) (eval_tmp q8) (V' := (· = .agg #[.int .i64 0, .int .i64 0, .int .i64 0, .int .i64 0, .int .i64 0, .int .i64 0])) rfl by_conf hS 0 rfl fun V1' hS' _ => ?_
  replace hS : Own w [(w.heap.size, 6, (· = .agg #[.int .i64 0, .int .i64 0, .int .i64 0, .int .i64 0, .int .i64 0, .int .i64 0]))] V1' := hS'
  clear hS'
  refine tlx_assign _ rfl rfl 3 rfl (by rw [HS]; decide) (.int .i64 4) rfl fun t1 ex0 hz hq he => ?_
  replace h2 := (he 2 (by decide)).trans h2
  replace q8 := (he 8 (by decide)).trans q8
  replace HS := hz.trans HS
  clear hz he ex0
  have h3 := hq
  clear hq
  refine wpList_nil ?_
  obtain ⟨f, e0, hf⟩ := wash HS
  have f2 := hf 2 _ h2
  have f3 := hf 3 _ h3
  clear hf
  rw [e0.trans (show _ = #[f 0, f 1, f 2, f 3, f 4, f 5, f 6, f 7, f 8, f 9, f 10, f 11, f 12, f 13, f 14, f 15, f 16, f 17, f 18, f 19, f 20, f 21, f 22, f 23, f 24, f 25, f 26, f 27, f 28, f 29, f 30, f 31, f 32] from by kernel_rfl), f2, f3]
  clear f2 f3
  clear e0
  try dsimp only
  clear h2 h3 q8 v8 hM HS t1 t0 M
  obtain ⟨cs, ct, c1, c2, c3⟩ := hS.get (i := 0) rfl
  have hbel := hS.1
  have C3 := Lib.hid c3
  clear hS c3
  go_wp2_with fail
  refine ret_row_tmp rfl _ _ _ rfl c1 6 tConf c2 rfl ?_
  exact ⟨_, rfl, by rw [show Value.agg cs = _ from C3.out]; rfl, hbel⟩
set_option maxHeartbeats 8000000 in
set_option maxRecDepth 100000 in
theorem parseR_24 (p : Option Addr) (l : List Int) (c : Nat) (w : World) (hn : l.length = 24) (hb : Byt l) (h : BytesIn w p l) (hc : 24 ≤ c) :
    Calls Try.prog 6 #[.slice p 24 c] w (Gives (· = parsed l) w) := by
  have hP : parsed l = (if good (numAt l 0) (numAt l 1) (numAt l 2) (numAt l 3) (numAt l 4) (numAt l 5) = true then .tuple #[.agg #[.int .i64 (numAt l 0), .int .i64 (numAt l 1), .int .i64 (numAt l 2), .int .i64 (numAt l 3), .int .i64 (numAt l 4), .int .i64 (numAt l 5)], .int .i64 0] else .tuple #[.agg #[.int .i64 0, .int .i64 0, .int .i64 0, .int .i64 0, .int .i64 0, .int .i64 0], .int .i64 200]) := by rw [parsed, if_pos hn]
  obtain ⟨R, hR⟩ : ∃ R, parsed l = R := ⟨_, rfl⟩
  rw [hR]
  rw [hP] at hR
  clear hP
  have hS := (Own.start w).keep ((Below.refl _ _).alloc (Nat.le_refl _) (.cells #[.int .i64 0, .int .i64 0, .int .i64 0, .int .i64 0, .int .i64 0, .int .i64 0] 25)) |>.add (g := w.heap.size) (n := 6) (V := fun _ => True) (Nat.le_refl _) (fun r hr => by cases hr) ⟨_, _, heap_alloc_new w _, rfl, trivial⟩
  obtain ⟨sa, rfl, _, _⟩ := h 0 (by omega)
  obtain ⟨n0, hn0⟩ : ∃ x, num ((l.drop (4 * 0)).take 4) = x := ⟨_, rfl⟩
  rw [show numAt l 0 = n0 from hn0] at hR
  have HN0 := Lib.hid hn0
  clear hn0
  obtain ⟨n1, hn1⟩ : ∃ x, num ((l.drop (4 * 1)).take 4) = x := ⟨_, rfl⟩
  rw [show numAt l 1 = n1 from hn1] at hR
  have HN1 := Lib.hid hn1
  clear hn1
  obtain ⟨n2, hn2⟩ : ∃ x, num ((l.drop (4 * 2)).take 4) = x := ⟨_, rfl⟩
  rw [show numAt l 2 = n2 from hn2] at hR
  have HN2 := Lib.hid hn2
  clear hn2
  obtain ⟨n3, hn3⟩ : ∃ x, num ((l.drop (4 * 3)).take 4) = x := ⟨_, rfl⟩
  rw [show numAt l 3 = n3 from hn3] at hR
  have HN3 := Lib.hid hn3
  clear hn3
  obtain ⟨n4, hn4⟩ : ∃ x, num ((l.drop (4 * 4)).take 4) = x := ⟨_, rfl⟩
  rw [show numAt l 4 = n4 from hn4] at hR
  have HN4 := Lib.hid hn4
  clear hn4
  obtain ⟨n5, hn5⟩ : ∃ x, num ((l.drop (4 * 5)).take 4) = x := ⟨_, rfl⟩
  rw [show numAt l 5 = n5 from hn5] at hR
  have HN5 := Lib.hid hn5
  clear hn5
  have HN := Lib.hid hn
  have HB := Lib.hid hb
  have H := Lib.hid h
  have HCC := Lib.hid hc
  clear hn hb h hc
  have HR := Lib.hid hR
  clear hR
  go_enter Try.func6, Try.ntmps6
  go_wp2_with fail
  generalize w.alloc (.cells #[.int .i64 0, .int .i64 0, .int .i64 0, .int .i64 0, .int .i64 0, .int .i64 0] 25) = W0 at hS ⊢
  obtain ⟨M, hM⟩ : ∃ M, M = W0.heap.size := ⟨_, rfl⟩
  have hMB : w.heap.size ≤ M := hM ▸ hS.1.size
  have ltM := hS.lt
  rw [← hM] at ltM
  refine hide_frame fun t0 HT => ?_
  have HS : t0.size = 33 := by rw [HT]; rfl
  have h0 : t0[0]? = some (.slice (some sa) 24 c) := by rw [HT]; rfl
  have h2 : t0[2]? = some (.pointer (some ⟨w.heap.size, 0, none⟩)) := by rw [HT]; rfl
  clear HT
  refine wp_region_most 20 (fun i => [9, 10, 11, 12, 13, 14, 15, 16, 17, 18, 19, 20, 21, 22, 23, 24, 25, 26, 27, 4].getD i 0) (fun i => [none, none, none, none, none, none, none, none, none, none, none, none, none, none, none, none, none, none, none, some 6].getD i none) (fun i => [(· = .slice (some sa) 24 c), (· = .slice (some (sa.add 0)) 4 (c - 0)), (· = .int .i64 n0), (· = .slice (some sa) 24 c), (· = .slice (some (sa.add 4)) 4 (c - 4)), (· = .int .i64 n1), (· = .slice (some sa) 24 c), (· = .slice (some (sa.add 8)) 4 (c - 8)), (· = .int .i64 n2), (· = .slice (some sa) 24 c), (· = .slice (some (sa.add 12)) 4 (c - 12)), (· = .int .i64 n3), (· = .slice (some sa) 24 c), (· = .slice (some (sa.add 16)) 4 (c - 16)), (· = .int .i64 n4), (· = .slice (some sa) 24 c), (· = .slice (some (sa.add 20)) 4 (c - 20)), (· = .int .i64 n5), (· = .agg #[.int .i64 n0, .int .i64 n1, .int .i64 n2, .int .i64 n3, .int .i64 n4, .int .i64 n5]), (fun _ => True)].getD i (fun _ => True)) (fun w' => Own w [(w.heap.size, 6, (fun _ => True))] w' ∧ M ≤ w'.heap.size) M
    (by kernel_rfl) (by kernel_rfl) (slots_apart (by kernel_rfl)) (slots_lie (by rw [HS]; kernel_rfl)) ⟨hS.drew, Nat.le_of_eq hM⟩ (fun w' h => h.2) (fun w1 w2 h b => ⟨h.1.keep b, Nat.le_trans h.2 b.size⟩) ?_ ?_ ?_
  · clear hS
    intro i o hi ho hA
    have hc : i = 0 ∨ i = 1 ∨ i = 2 ∨ i = 3 ∨ i = 4 ∨ i = 5 ∨ i = 6 ∨ i = 7 ∨ i = 8 ∨ i = 9 ∨ i = 10 ∨ i = 11 ∨ i = 12 ∨ i = 13 ∨ i = 14 ∨ i = 15 ∨ i = 16 ∨ i = 17 ∨ i = 18 ∨ i = 19 := by omega
    rcases hc with rfl | rfl | rfl | rfl | rfl | rfl | rfl | rfl | rfl | rfl | rfl | rfl | rfl | rfl | rfl | rfl | rfl | rfl | rfl | rfl
    · obtain rfl := Option.some.inj ho
      refine ⟨rfl, fun a w' hS hold hin K hK => ?_⟩
      refine if_always rfl ?_
      exact op_move (V := (· = .slice (some sa) 24 c)) _ _ rfl rfl (eval_tmp ((hold 0 (slots_not (by kernel_rfl))).trans h0)) rfl hK
    · obtain rfl := Option.some.inj ho
      refine ⟨rfl, fun a w' hS hold hin K hK => ?_⟩
      obtain ⟨y0, x0, rfl⟩ := hin 0 rfl (by omega) rfl
      refine if_always rfl ?_
      exact op_cut 5 (by kernel_rfl) (by kernel_rfl) _ _ _ rfl rfl sa 24 c 0 4 (eval_tmp x0) rfl rfl (by omega) (by have := HCC.out; omega) (by have := HCC.out; omega) hK
    · obtain rfl := Option.some.inj ho
      refine ⟨rfl, fun a w' hS hold hin K hK => ?_⟩
      obtain ⟨y1, x1, rfl⟩ := hin 1 rfl (by omega) rfl
      refine if_always rfl ?_
      exact op_fn1 _ _ _ _ rfl rfl (eval_tmp x1) (by intro args w; kernel_rfl) (number_at (numAt_len HN.out 0 (by omega)) ((HB.out.drop _).take 4) (BytesIn.sub (H.out.under hS.1.1 (Nat.le_refl _)) (4 * 0) 4) HN0.out) hK
    · obtain rfl := Option.some.inj ho
      refine ⟨rfl, fun a w' hS hold hin K hK => ?_⟩
      refine if_always rfl ?_
      exact op_move (V := (· = .slice (some sa) 24 c)) _ _ rfl rfl (eval_tmp ((hold 0 (slots_not (by kernel_rfl))).trans h0)) rfl hK
    · obtain rfl := Option.some.inj ho
      refine ⟨rfl, fun a w' hS hold hin K hK => ?_⟩
      obtain ⟨y3, x3, rfl⟩ := hin 3 rfl (by omega) rfl
      refine if_always rfl ?_
      exact op_cut 5 (by kernel_rfl) (by kernel_rfl) _ _ _ rfl rfl sa 24 c 4 8 (eval_tmp x3) rfl rfl (by omega) (by have := HCC.out; omega) (by have := HCC.out; omega) hK
    · obtain rfl := Option.some.inj ho
      refine ⟨rfl, fun a w' hS hold hin K hK => ?_⟩
      obtain ⟨y4, x4, rfl⟩ := hin 4 rfl (by omega) rfl
      refine if_always rfl ?_
      exact op_fn1 _ _ _ _ rfl rfl (eval_tmp x4) (by intro args w; kernel_rfl) (number_at (numAt_len HN.out 1 (by omega)) ((HB.out.drop _).take 4) (BytesIn.sub (H.out.under hS.1.1 (Nat.le_refl _)) (4 * 1) 4) HN1.out) hK
    · obtain rfl := Option.some.inj ho
      refine ⟨rfl, fun a w' hS hold hin K hK => ?_⟩
      refine if_always rfl ?_
      exact op_move (V := (· = .slice (some sa) 24 c)) _ _ rfl rfl (eval_tmp ((hold 0 (slots_not (by kernel_rfl))).trans h0)) rfl hK
    · obtain rfl := Option.some.inj ho
      refine ⟨rfl, fun a w' hS hold hin K hK => ?_⟩
      obtain ⟨y6, x6, rfl⟩ := hin 6 rfl (by omega) rfl
      refine if_always rfl ?_
      exact op_cut 5 (by kernel_rfl) (by kernel_rfl) _ _ _ rfl rfl sa 24 c 8 12 (eval_tmp x6) rfl rfl (by omega) (by have := HCC.out; omega) (by have := HCC.out; omega) hK
    · obtain rfl := Option.some.inj ho
      refine ⟨rfl, fun a w' hS hold hin K hK => ?_⟩
      obtain ⟨y7, x7, rfl⟩ := hin 7 rfl (by omega) rfl
      refine if_always rfl ?_
      exact op_fn1 _ _ _ _ rfl rfl (eval_tmp x7) (by intro args w; kernel_rfl) (number_at (numAt_len HN.out 2 (by omega)) ((HB.out.drop _).take 4) (BytesIn.sub (H.out.under hS.1.1 (Nat.le_refl _)) (4 * 2) 4) HN2.out) hK
    · obtain rfl := Option.some.inj ho
      refine ⟨rfl, fun a w' hS hold hin K hK => ?_⟩
      refine if_always rfl ?_
      exact op_move (V := (· = .slice (some sa) 24 c)) _ _ rfl rfl (eval_tmp ((hold 0 (slots_not (by kernel_rfl))).trans h0)) rfl hK
    · obtain rfl := Option.some.inj ho
      refine ⟨rfl, fun a w' hS hold hin K hK => ?_⟩
      obtain ⟨y9, x9, rfl⟩ := hin 9 rfl (by omega) rfl
      refine if_always rfl ?_
      exact op_cut 5 (by kernel_rfl) (by kernel_rfl) _ _ _ rfl rfl sa 24 c 12 16 (eval_tmp x9) rfl rfl (by omega) (by have := HCC.out; omega) (by have := HCC.out; omega) hK
    · obtain rfl := Option.some.inj ho
      refine ⟨rfl, fun a w' hS hold hin K hK => ?_⟩
      obtain ⟨y10, x10, rfl⟩ := hin 10 rfl (by omega) rfl
      refine if_always rfl ?_
      exact op_fn1 _ _ _ _ rfl rfl (eval_tmp x10) (by intro args w; kernel_rfl) (number_at (numAt_len HN.out 3 (by omega)) ((HB.out.drop _).take 4) (BytesIn.sub (H.out.under hS.1.1 (Nat.le_refl _)) (4 * 3) 4) HN3.out) hK
    · obtain rfl := Option.some.inj ho
      refine ⟨rfl, fun a w' hS hold hin K hK => ?_⟩
      refine if_always rfl ?_
      exact op_move (V := (· = .slice (some sa) 24 c)) _ _ rfl rfl (eval_tmp ((hold 0 (slots_not (by kernel_rfl))).trans h0)) rfl hK
    · obtain rfl := Option.some.inj ho
      refine ⟨rfl, fun a w' hS hold hin K hK => ?_⟩
      obtain ⟨y12, x12, rfl⟩ := hin 12 rfl (by omega) rfl
      refine if_always rfl ?_
      exact op_cut 5 (by kernel_rfl) (by kernel_rfl) _ _ _ rfl rfl sa 24 c 16 20 (eval_tmp x12) rfl rfl (by omega) (by have := HCC.out; omega) (by have := HCC.out; omega) hK
    · obtain rfl := Option.some.inj ho
      refine ⟨rfl, fun a w' hS hold hin K hK => ?_⟩
      obtain ⟨y13, x13, rfl⟩ := hin 13 rfl (by omega) rfl
      refine if_always rfl ?_
      exact op_fn1 _ _ _ _ rfl rfl (eval_tmp x13) (by intro args w; kernel_rfl) (number_at (numAt_len HN.out 4 (by omega)) ((HB.out.drop _).take 4) (BytesIn.sub (H.out.under hS.1.1 (Nat.le_refl _)) (4 * 4) 4) HN4.out) hK
    · obtain rfl := Option.some.inj ho
      refine ⟨rfl, fun a w' hS hold hin K hK => ?_⟩
      refine if_always rfl ?_
      exact op_move (V := (· = .slice (some sa) 24 c)) _ _ rfl rfl (eval_tmp ((hold 0 (slots_not (by kernel_rfl))).trans h0)) rfl hK
    · obtain rfl := Option.some.inj ho
      refine ⟨rfl, fun a w' hS hold hin K hK => ?_⟩
      obtain ⟨y15, x15, rfl⟩ := hin 15 rfl (by omega) rfl
      refine if_always rfl ?_
      exact op_cut 5 (by kernel_rfl) (by kernel_rfl) _ _ _ rfl rfl sa 24 c 20 24 (eval_tmp x15) rfl rfl (by omega) (by have := HCC.out; omega) (by have := HCC.out; omega) hK
    · obtain rfl := Option.some.inj ho
      refine ⟨rfl, fun a w' hS hold hin K hK => ?_⟩
      obtain ⟨y16, x16, rfl⟩ := hin 16 rfl (by omega) rfl
      refine if_always rfl ?_
      exact op_fn1 _ _ _ _ rfl rfl (eval_tmp x16) (by intro args w; kernel_rfl) (number_at (numAt_len HN.out 5 (by omega)) ((HB.out.drop _).take 4) (BytesIn.sub (H.out.under hS.1.1 (Nat.le_refl _)) (4 * 5) 4) HN5.out) hK
    · obtain rfl := Option.some.inj ho
      refine ⟨rfl, fun a w' hS hold hin K hK => ?_⟩
      obtain ⟨y2, x2, rfl⟩ := hin 2 rfl (by omega) rfl
      obtain ⟨y5, x5, rfl⟩ := hin 5 rfl (by omega) rfl
      obtain ⟨y8, x8, rfl⟩ := hin 8 rfl (by omega) rfl
      obtain ⟨y11, x11, rfl⟩ := hin 11 rfl (by omega) rfl
      obtain ⟨y14, x14, rfl⟩ := hin 14 rfl (by omega) rfl
      obtain ⟨y17, x17, rfl⟩ := hin 17 rfl (by omega) rfl
      refine if_always rfl ?_
      exact op_parts _ _ ([(0, .int .i64 n0), (1, .int .i64 n1), (2, .int .i64 n2), (3, .int .i64 n3), (4, .int .i64 n4), (5, .int .i64 n5)]) (.agg #[.int .i64 n0, .int .i64 n1, .int .i64 n2, .int .i64 n3, .int .i64 n4, .int .i64 n5]) rfl rfl (show ([(0, Act.eval a (.tmp 11)), (1, Act.eval a (.tmp 14)), (2, Act.eval a (.tmp 17)), (3, Act.eval a (.tmp 20)), (4, Act.eval a (.tmp 23)), (5, Act.eval a (.tmp 26))] : List (Nat × Value)) = [(0, .int .i64 n0), (1, .int .i64 n1), (2, .int .i64 n2), (3, .int .i64 n3), (4, .int .i64 n4), (5, .int .i64 n5)] by rw [show Act.eval a (.tmp 11) = _ from eval_tmp x2, show Act.eval a (.tmp 14) = _ from eval_tmp x5, show Act.eval a (.tmp 17) = _ from eval_tmp x8, show Act.eval a (.tmp 20) = _ from eval_tmp x11, show Act.eval a (.tmp 23) = _ from eval_tmp x14, show Act.eval a (.tmp 26) = _ from eval_tmp x17]) (fun w => by kernel_rfl) hK
    · cases hA
  · intro i o sz hi ho hA
    have hc : i = 0 ∨ i = 1 ∨ i = 2 ∨ i = 3 ∨ i = 4 ∨ i = 5 ∨ i = 6 ∨ i = 7 ∨ i = 8 ∨ i = 9 ∨ i = 10 ∨ i = 11 ∨ i = 12 ∨ i = 13 ∨ i = 14 ∨ i = 15 ∨ i = 16 ∨ i = 17 ∨ i = 18 ∨ i = 19 := by omega
    rcases hc with rfl | rfl | rfl | rfl | rfl | rfl | rfl | rfl | rfl | rfl | rfl | rfl | rfl | rfl | rfl | rfl | rfl | rfl | rfl | rfl
    · cases hA
    · cases hA
    · cases hA
    · cases hA
    · cases hA
    · cases hA
    · cases hA
    · cases hA
    · cases hA
    · cases hA
    · cases hA
    · cases hA
    · cases hA
    · cases hA
    · cases hA
    · cases hA
    · cases hA
    · cases hA
    · cases hA
    · obtain rfl := Option.some.inj ho
      obtain rfl := Option.some.inj hA
      exact ⟨rfl, rfl, 25, #[.int .i64 0, .int .i64 0, .int .i64 0, .int .i64 0, .int .i64 0, .int .i64 0], rfl, fun a w' K h => wp_new 25 #[.int .i64 0, .int .i64 0, .int .i64 0, .int .i64 0, .int .i64 0, .int .i64 0] (fun w => by kernel_rfl) h⟩
  clear hS
  intro t1 V1 hs hold hout hall hne hS
  replace HS := hs.trans HS
  replace hS := hS.1
  obtain ⟨gc, h4, b4, r4⟩ : ∃ g, t1[4]? = some (.pointer (some ⟨g, 0, none⟩)) ∧ M ≤ g ∧ ∃ cs ty, V1.heap[g]? = some (.cells cs ty (0, 0)) ∧ cs.size = 6 := by
    obtain ⟨g, p1, p2, ty, cs, p3, p4⟩ := hall 19 (by omega) 6 rfl
    exact ⟨g, p1, p2, cs, ty, p3, p4⟩
  replace hS : Own w [(w.heap.size, 6, (fun _ => True)), (gc, 6, (fun _ => True))] V1 := hS.add (Nat.le_trans hMB b4) (fun r hr => Nat.ne_of_lt (Nat.lt_of_lt_of_le (ltM r hr) b4)) (Own.any r4)
  obtain ⟨x27, q27, v27⟩ : ∃ x, t1[27]? = some x ∧ ((· = .agg #[.int .i64 n0, .int .i64 n1, .int .i64 n2, .int .i64 n3, .int .i64 n4, .int .i64 n5])) x := hout 18 (by omega) rfl
  replace q27 : t1[27]? = some (.agg #[.int .i64 n0, .int .i64 n1, .int .i64 n2, .int .i64 n3, .int .i64 n4, .int .i64 n5]) := q27.trans (congrArg some v27)
  replace h0 := (hold 0 (slots_not (by kernel_rfl))).trans h0
  replace h2 := (hold 2 (slots_not (by kernel_rfl))).trans h2
  clear hold hout hs hall hne
  simp only [List.drop_succ_cons, List.drop_zero]
  refine st_own 6 tConf rfl (.tmp 4) (.tmp 27) rfl rfl _ _ (eval_tmp h4) (eval_tmp q27) (V' := (· = .agg #[.int .i64 n0, .int .i64 n1, .int .i64 n2, .int .i64 n3, .int .i64 n4, .int .i64 n5])) rfl by_conf hS 1 rfl fun V1' hS' _ => ?_
  replace hS : Own w [(w.heap.size, 6, (fun _ => True)), (gc, 6, (· = .agg #[.int .i64 n0, .int .i64 n1, .int .i64 n2, .int .i64 n3, .int .i64 n4, .int .i64 n5]))] V1' := hS'
  clear hS'
  refine wpList_nil ?_
  obtain ⟨f, e0, hf⟩ := wash HS
  have f0 := hf 0 _ h0
  have f2 := hf 2 _ h2
  have f4 := hf 4 _ h4
  clear hf
  rw [e0.trans (show _ = #[f 0, f 1, f 2, f 3, f 4, f 5, f 6, f 7, f 8, f 9, f 10, f 11, f 12, f 13, f 14, f 15, f 16, f 17, f 18, f 19, f 20, f 21, f 22, f 23, f 24, f 25, f 26, f 27, f 28, f 29, f 30, f 31, f 32] from by kernel_rfl), f0, f2, f4]
  clear f0 f2 f4
  clear e0
  try dsimp only
  clear h0 h2 h4 q27 v27 b4 r4 ltM hMB hM HS t1 t0 M
  have HR2 := HR.out
  have HSX := Lib.hid hS
  clear hS HR
  by_cases hg : good n0 n1 n2 n3 n4 n5 = true
  · rw [if_pos hg] at HR2
    subst HR2
    have HGD := Lib.hid hg
    clear hg
    go_wp2_with ((with_reducible refine guard_list ?_); first | (refine held_load 25 _ rfl ?_))
    have hS := HSX.out
    clear HSX
    obtain ⟨M, hM⟩ : ∃ M, M = V1'.heap.size := ⟨_, rfl⟩
    refine hide_held fun t0 HT => ?_
    have HS : t0.size = 33 := by rw [HT]; rfl
    have h0 : t0[0]? = some (.slice (some sa) 24 c) := by rw [HT]; rfl
    have h2 : t0[2]? = some (.pointer (some ⟨w.heap.size, 0, none⟩)) := by rw [HT]; rfl
    have h4 : t0[4]? = some (.pointer (some ⟨gc, 0, none⟩)) := by rw [HT]; rfl
    clear HT
    refine wp_list_all 2 (fun i => [28, 29, 30].getD i 0) (fun i => [(· = .agg #[.int .i64 n0, .int .i64 n1, .int .i64 n2, .int .i64 n3, .int .i64 n4, .int .i64 n5]), (· = .int .i64 0), (· = .bool false)].getD i (fun _ => True)) (fun w' => Own w [(w.heap.size, 6, (fun _ => True)), (gc, 6, (· = .agg #[.int .i64 n0, .int .i64 n1, .int .i64 n2, .int .i64 n3, .int .i64 n4, .int .i64 n5]))] w' ∧ M ≤ w'.heap.size)
      (by kernel_rfl) (by kernel_rfl) (slots_apart (by kernel_rfl)) (slots_lie (by rw [HS]; kernel_rfl)) ⟨hS, Nat.le_of_eq hM⟩ (fun w1 w2 h b => ⟨h.1.keep b, Nat.le_trans h.2 b.size⟩) ?_ ?_
    · clear hS
      intro i o hi ho
      have hc : i = 0 ∨ i = 1 ∨ i = 2 := by omega
      rcases hc with rfl | rfl | rfl
      · obtain rfl := Option.some.inj ho
        refine ⟨rfl, fun a w' hS hold hin K hK => ?_⟩
        refine if_always rfl ?_
        exact op_ld_own 6 tConf (.tmp 4) rfl rfl _ (eval_tmp ((hold 4 (slots_not (by kernel_rfl))).trans h4)) hS.1 1 rfl hK
      · obtain rfl := Option.some.inj ho
        refine ⟨rfl, fun a w' hS hold hin K hK => ?_⟩
        obtain ⟨y0, x0, rfl⟩ := hin 0 rfl (by omega)
        refine if_always rfl ?_
        exact op_fn1 _ _ _ _ rfl rfl (eval_tmp x0) (by intro args w; kernel_rfl) (checkR_yes HGD.out _) hK
      · obtain rfl := Option.some.inj ho
        refine ⟨rfl, fun a w' hS hold hin K hK => ?_⟩
        obtain ⟨y1, x1, rfl⟩ := hin 1 rfl (by omega)
        refine if_always rfl ?_
        exact op_bin (V := (· = .bool false)) _ _ _ _ _ _ _ (.bool false) rfl rfl (eval_tmp x1) rfl (fun w => by kernel_rfl) rfl hK
    clear hS
    intro t1 V2 hs hold hout hS
    replace HS := hs.trans HS
    replace hS := hS.1
    obtain ⟨_, q30, rfl⟩ : ∃ x, t1[30]? = some x ∧ x = (.bool false : Value) := hout 2 (by omega)
    replace h0 := (hold 0 (slots_not (by kernel_rfl))).trans h0
    replace h2 := (hold 2 (slots_not (by kernel_rfl))).trans h2
    replace h4 := (hold 4 (slots_not (by kernel_rfl))).trans h4
    clear hold hout hs
    obtain ⟨f, e0, hf⟩ := wash HS
    have f0 := hf 0 _ h0
    have f2 := hf 2 _ h2
    have f4 := hf 4 _ h4
    have f30 := hf 30 _ q30
    clear hf
    rw [e0.trans (show _ = #[f 0, f 1, f 2, f 3, f 4, f 5, f 6, f 7, f 8, f 9, f 10, f 11, f 12, f 13, f 14, f 15, f 16, f 17, f 18, f 19, f 20, f 21, f 22, f 23, f 24, f 25, f 26, f 27, f 28, f 29, f 30, f 31, f 32] from by kernel_rfl), f0, f2, f4, f30]
    clear f0 f2 f4 f30
    clear e0
    try dsimp only
    clear h0 h2 h4 q30 hM HS t1 t0 M
    go_wp2_with ((with_reducible refine guard_list ?_); first | (refine held_load 25 _ rfl ?_))
    obtain ⟨M, hM⟩ : ∃ M, M = V2.heap.size := ⟨_, rfl⟩
    refine hide_held fun t0 HT => ?_
    have HS : t0.size = 33 := by rw [HT]; rfl
    have h0 : t0[0]? = some (.slice (some sa) 24 c) := by rw [HT]; rfl
    have h2 : t0[2]? = some (.pointer (some ⟨w.heap.size, 0, none⟩)) := by rw [HT]; rfl
    have h4 : t0[4]? = some (.pointer (some ⟨gc, 0, none⟩)) := by rw [HT]; rfl
    clear HT
    refine wp_list_most 1 (fun i => [32].getD i 0) (fun _ => none) (fun i => [(· = .agg #[.int .i64 n0, .int .i64 n1, .int .i64 n2, .int .i64 n3, .int .i64 n4, .int .i64 n5])].getD i (fun _ => True)) (fun w' => Own w [(w.heap.size, 6, (fun _ => True)), (gc, 6, (· = .agg #[.int .i64 n0, .int .i64 n1, .int .i64 n2, .int .i64 n3, .int .i64 n4, .int .i64 n5]))] w' ∧ M ≤ w'.heap.size) M
      (by kernel_rfl) (slots_apart (by kernel_rfl)) (slots_lie (by rw [HS]; kernel_rfl)) ⟨hS, Nat.le_of_eq hM⟩ (fun w' h => h.2) (fun w1 w2 h b => ⟨h.1.keep b, Nat.le_trans h.2 b.size⟩) ?_ ?_ ?_
    · clear hS
      intro i o hi ho hA
      have hc : i = 0 := by omega
      rcases hc with rfl
      · obtain rfl := Option.some.inj ho
        refine ⟨rfl, fun a w' hS hold hin K hK => ?_⟩
        refine if_always rfl ?_
        exact op_ld_own 6 tConf (.tmp 4) rfl rfl _ (eval_tmp ((hold 4 (slots_not (by kernel_rfl))).trans h4)) hS.1 1 rfl hK
    · intro i o sz hi ho hA; cases hA
    clear hS
    intro t1 V3 hs hold hout hall hne hS
    replace HS := hs.trans HS
    replace hS := hS.1
    obtain ⟨x32, q32, v32⟩ : ∃ x, t1[32]? = some x ∧ ((· = .agg #[.int .i64 n0, .int .i64 n1, .int .i64 n2, .int .i64 n3, .int .i64 n4, .int .i64 n5])) x := hout 0 (by omega) rfl
    replace q32 : t1[32]? = some (.agg #[.int .i64 n0, .int .i64 n1, .int .i64 n2, .int .i64 n3, .int .i64 n4, .int .i64 n5]) := q32.trans (congrArg some v32)
    replace h0 := (hold 0 (slots_not (by kernel_rfl))).trans h0
    replace h2 := (hold 2 (slots_not (by kernel_rfl))).trans h2
    replace h4 := (hold 4 (slots_not (by kernel_rfl))).trans h4
    clear hold hout hs hall hne
    simp only [List.drop_succ_cons, List.drop_zero]
    refine st_own 6 tConf rfl (.tmp 2) (.tmp 32) rfl rfl _ _ (eval_tmp h2) (eval_tmp q32) (V' := (· = .agg #[.int .i64 n0, .int .i64 n1, .int .i64 n2, .int .i64 n3, .int .i64 n4, .int .i64 n5])) rfl by_conf hS 0 rfl fun V3' hS' _ => ?_
    replace hS : Own w [(w.heap.size, 6, (· = .agg #[.int .i64 n0, .int .i64 n1, .int .i64 n2, .int .i64 n3, .int .i64 n4, .int .i64 n5])), (gc, 6, (· = .agg #[.int .i64 n0, .int .i64 n1, .int .i64 n2, .int .i64 n3, .int .i64 n4, .int .i64 n5]))] V3' := hS'
    clear hS'
    refine tlx_assign _ rfl rfl 3 rfl (by rw [HS]; decide) (.int .i64 0) rfl fun t1 ex0 hz hq he => ?_
    replace h0 := (he 0 (by decide)).trans h0
    replace h2 := (he 2 (by decide)).trans h2
    replace h4 := (he 4 (by decide)).trans h4
    replace q32 := (he 32 (by decide)).trans q32
    replace HS := hz.trans HS
    clear hz he ex0
    have h3 := hq
    clear hq
    refine wpList_nil ?_
    obtain ⟨f, e0, hf⟩ := wash HS
    have f0 := hf 0 _ h0
    have f2 := hf 2 _ h2
    have f4 := hf 4 _ h4
    have f3 := hf 3 _ h3
    clear hf
    rw [e0.trans (show _ = #[f 0, f 1, f 2, f 3, f 4, f 5, f 6, f 7, f 8, f 9, f 10, f 11, f 12, f 13, f 14, f 15, f 16, f 17, f 18, f 19, f 20, f 21, f 22, f 23, f 24, f 25, f 26, f 27, f 28, f 29, f 30, f 31, f 32] from by kernel_rfl), f0, f2, f4, f3]
    clear f0 f2 f4 f3
    clear e0
    try dsimp only
    clear h0 h2 h4 h3 q32 v32 hM HS t1 t0 M
    obtain ⟨cs, ct, c1, c2, c3⟩ := hS.get (i := 0) rfl
    have hbel := hS.1
    have C3 := Lib.hid c3
    clear hS c3
    go_wp2_with fail
    refine ret_row_tmp rfl _ _ _ rfl c1 6 tConf c2 rfl ?_
    exact ⟨_, rfl, by rw [show Value.agg cs = _ from C3.out]; rfl, hbel⟩
  · rw [if_neg hg] at HR2
    subst HR2
    have HGD := Lib.hid hg
    clear hg
    go_wp2_with ((with_reducible refine guard_list ?_); first | (refine held_load 25 _ rfl ?_))
    have hS := HSX.out
    clear HSX
    obtain ⟨M, hM⟩ : ∃ M, M = V1'.heap.size := ⟨_, rfl⟩
    refine hide_held fun t0 HT => ?_
    have HS : t0.size = 33 := by rw [HT]; rfl
    have h0 : t0[0]? = some (.slice (some sa) 24 c) := by rw [HT]; rfl
    have h2 : t0[2]? = some (.pointer (some ⟨w.heap.size, 0, none⟩)) := by rw [HT]; rfl
    have h4 : t0[4]? = some (.pointer (some ⟨gc, 0, none⟩)) := by rw [HT]; rfl
    clear HT
    refine wp_list_all 2 (fun i => [28, 29, 30].getD i 0) (fun i => [(· = .agg #[.int .i64 n0, .int .i64 n1, .int .i64 n2, .int .i64 n3, .int .i64 n4, .int .i64 n5]), (· = .int .i64 200), (· = .bool true)].getD i (fun _ => True)) (fun w' => Own w [(w.heap.size, 6, (fun _ => True)), (gc, 6, (· = .agg #[.int .i64 n0, .int .i64 n1, .int .i64 n2, .int .i64 n3, .int .i64 n4, .int .i64 n5]))] w' ∧ M ≤ w'.heap.size)
      (by kernel_rfl) (by kernel_rfl) (slots_apart (by kernel_rfl)) (slots_lie (by rw [HS]; kernel_rfl)) ⟨hS, Nat.le_of_eq hM⟩ (fun w1 w2 h b => ⟨h.1.keep b, Nat.le_trans h.2 b.size⟩) ?_ ?_
    · clear hS
      intro i o hi ho
      have hc : i = 0 ∨ i = 1 ∨ i = 2 := by omega
      rcases hc with rfl | rfl | rfl
      · obtain rfl := Option.some.inj ho
        refine ⟨rfl, fun a w' hS hold hin K hK => ?_⟩
        refine if_always rfl ?_
        exact op_ld_own 6 tConf (.tmp 4) rfl rfl _ (eval_tmp ((hold 4 (slots_not (by kernel_rfl))).trans h4)) hS.1 1 rfl hK
      · obtain rfl := Option.some.inj ho
        refine ⟨rfl, fun a w' hS hold hin K hK => ?_⟩
        obtain ⟨y0, x0, rfl⟩ := hin 0 rfl (by omega)
        refine if_always rfl ?_
        exact op_fn1 _ _ _ _ rfl rfl (eval_tmp x0) (by intro args w; kernel_rfl) (checkR_no HGD.out _) hK
      · obtain rfl := Option.some.inj ho
        refine ⟨rfl, fun a w' hS hold hin K hK => ?_⟩
        obtain ⟨y1, x1, rfl⟩ := hin 1 rfl (by omega)
        refine if_always rfl ?_
        exact op_bin (V := (· = .bool true)) _ _ _ _ _ _ _ (.bool true) rfl rfl (eval_tmp x1) rfl (fun w => by kernel_rfl) rfl hK
    clear hS
    intro t1 V2 hs hold hout hS
    replace HS := hs.trans HS
    replace hS := hS.1
    obtain ⟨_, q30, rfl⟩ : ∃ x, t1[30]? = some x ∧ x = (.bool true : Value) := hout 2 (by omega)
    replace h0 := (hold 0 (slots_not (by kernel_rfl))).trans h0
    replace h2 := (hold 2 (slots_not (by kernel_rfl))).trans h2
    replace h4 := (hold 4 (slots_not (by kernel_rfl))).trans h4
    clear hold hout hs
    obtain ⟨f, e0, hf⟩ := wash HS
    have f0 := hf 0 _ h0
    have f2 := hf 2 _ h2
    have f4 := hf 4 _ h4
    have f30 := hf 30 _ q30
    clear hf
    rw [e0.trans (show _ = #[f 0, f 1, f 2, f 3, f 4, f 5, f 6, f 7, f 8, f 9, f 10, f 11, f 12, f 13, f 14, f 15, f 16, f 17, f 18, f 19, f 20, f 21, f 22, f 23, f 24, f 25, f 26, f 27, f 28, f 29, f 30, f 31, f 32] from by kernel_rfl), f0, f2, f4, f30]
    clear f0 f2 f4 f30
    clear e0
    try dsimp only
    clear h0 h2 h4 q30 hM HS t1 t0 M
    go_wp2_with ((with_reducible refine guard_list ?_); first | (refine held_build _ _ rfl ?_))
    obtain ⟨M, hM⟩ : ∃ M, M = V2.heap.size := ⟨_, rfl⟩
    refine hide_held fun t0 HT => ?_
    have HS : t0.size = 33 := by rw [HT]; rfl
    have h0 : t0[0]? = some (.slice (some sa) 24 c) := by rw [HT]; rfl
    have h2 : t0[2]? = some (.pointer (some ⟨w.heap.size, 0, none⟩)) := by rw [HT]; rfl
    have h4 : t0[4]? = some (.pointer (some ⟨gc, 0, none⟩)) := by rw [HT]; rfl
    clear HT
    refine wp_list_most 1 (fun i => [31].getD i 0) (fun _ => none) (fun i => [(· = .agg #[.int .i64 0, .int .i64 0, .int .i64 0, .int .i64 0, .int .i64 0, .int .i64 0])].getD i (fun _ => True)) (fun w' => Own w [(w.heap.size, 6, (fun _ => True)), (gc, 6, (· = .agg #[.int .i64 n0, .int .i64 n1, .int .i64 n2, .int .i64 n3, .int .i64 n4, .int .i64 n5]))] w' ∧ M ≤ w'.heap.size) M
      (by kernel_rfl) (slots_apart (by kernel_rfl)) (slots_lie (by rw [HS]; kernel_rfl)) ⟨hS, Nat.le_of_eq hM⟩ (fun w' h => h.2) (fun w1 w2 h b => ⟨h.1.keep b, Nat.le_trans h.2 b.size⟩) ?_ ?_ ?_
    · clear hS
      intro i o hi ho hA
      have hc : i = 0 := by omega
      rcases hc with rfl
      · obtain rfl := Option.some.inj ho
        refine ⟨rfl, fun a w' hS hold hin K hK => ?_⟩
        refine if_always rfl ?_
        exact op_val (V := (· = .agg #[.int .i64 0, .int .i64 0, .int .i64 0, .int .i64 0, .int .i64 0, .int .i64 0])) (.agg #[.int .i64 0, .int .i64 0, .int .i64 0, .int .i64 0, .int .i64 0, .int .i64 0]) rfl (by kernel_rfl) rfl hK
    · intro i o sz hi ho hA; cases hA
    clear hS
    intro t1 V3 hs hold hout hall hne hS
    replace HS := hs.trans HS
    replace hS := hS.1
    obtain ⟨x31, q31, v31⟩ : ∃ x, t1[31]? = some x ∧ ((· = .agg #[.int .i64 0, .int .i64 0, .int .i64 0, .int .i64 0, .int .i64 0, .int .i64 0])) x := hout 0 (by omega) rfl
    replace q31 : t1[31]? = some (.agg #[.int .i64 0, .int .i64 0, .int .i64 0, .int .i64 0, .int .i64 0, .int .i64 0]) := q31.trans (congrArg some v31)
    replace h0 := (hold 0 (slots_not (by kernel_rfl))).trans h0
    replace h2 := (hold 2 (slots_not (by kernel_rfl))).trans h2
    replace h4 := (hold 4 (slots_not (by kernel_rfl))).trans h4
    clear hold hout hs hall hne
    simp only [List.drop_succ_cons, List.drop_zero]
    refine st_own 6 tConf rfl (.tmp 2) (.tmp 31) rfl rfl _ _ (eval_tmp h2) (eval_tmp q31) (V' := (· = .agg #[.int .i64 0, .int .i64 0, .int .i64 0, .int .i64 0, .int .i64 0, .int .i64 0])) rfl by_conf hS 0 rfl fun V3' hS' _ => ?_
    replace hS : Own w [(w.heap.size, 6, (· = .agg #[.int .i64 0, .int .i64 0, .int .i64 0, .int .i64 0, .int .i64 0, .int .i64 0])), (gc, 6, (· = .agg #[.int .i64 n0, .int .i64 n1, .int .i64 n2, .int .i64 n3, .int .i64 n4, .int .i64 n5]))] V3' := hS'
    clear hS'
    refine tlx_assign _ rfl rfl 3 rfl (by rw [HS]; decide) (.int .i64 200) rfl fun t1 ex0 hz hq he => ?_
    replace h0 := (he 0 (by decide)).trans h0
    replace h2 := (he 2 (by decide)).trans h2
    replace h4 := (he 4 (by decide)).trans h4
    replace q31 := (he 31 (by decide)).trans q31
    replace HS := hz.trans HS
    clear hz he ex0
    have h3 := hq
    clear hq
    refine wpList_nil ?_
    obtain ⟨f, e0, hf⟩ := wash HS
    have f0 := hf 0 _ h0
    have f2 := hf 2 _ h2
    have f4 := hf 4 _ h4
    have f3 := hf 3 _ h3
    clear hf
    rw [e0.trans (show _ = #[f 0, f 1, f 2, f 3, f 4, f 5, f 6, f 7, f 8, f 9, f 10, f 11, f 12, f 13, f 14, f 15, f 16, f 17, f 18, f 19, f 20, f 21, f 22, f 23, f 24, f 25, f 26, f 27, f 28, f 29, f 30, f 31, f 32] from by kernel_rfl), f0, f2, f4, f3]
    clear f0 f2 f4 f3
    clear e0
    try dsimp only
    clear h0 h2 h4 h3 q31 v31 hM HS t1 t0 M
    obtain ⟨cs, ct, c1, c2, c3⟩ := hS.get (i := 0) rfl
    have hbel := hS.1
    have C3 := Lib.hid c3
    clear hS c3
    go_wp2_with fail
    refine ret_row_tmp rfl _ _ _ rfl c1 6 tConf c2 rfl ?_
    exact ⟨_, rfl, by rw [show Value.agg cs = _ from C3.out]; rfl, hbel⟩
end Go.Proofs.Ytmochmpamgfboaa
