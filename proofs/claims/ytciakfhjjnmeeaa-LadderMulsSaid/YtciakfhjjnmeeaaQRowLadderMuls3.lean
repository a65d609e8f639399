/- The law LadderMuls of package trystlaw09: for every input the call returns true, and each argument reads afterwards as it read before. No condition. -/
import Derived.Test.YtciakfhjjnmeeaaBa0
import Derived.Test.YtciakfhjjnmeeaaBa1
import Derived.Test.YtciakfhjjnmeeaaBa2
import Derived.Test.YtciakfhjjnmeeaaBa3
import Derived.Test.YtciakfhjjnmeeaaBa4
import Derived.Test.YtciakfhjjnmeeaaBa5
import Derived.Test.YtciakfhjjnmeeaaQRowLadderMuls0
import Derived.Test.YtciakfhjjnmeeaaQRowLadderMuls1
import Derived.Test.YtciakfhjjnmeeaaQRowLadderMuls2
namespace Go.Proofs.Ytciakfhjjnmeeaa
open Go.RowKit Nt Edw

theorem product9_ev (Lk Lu : List Int) (V : Nat) (x1 r1 r2 : F) (w : World) (hlk : Lk.length = 32) (hbk : Byt Lk) (hlu : Lu.length = 32) (hbu : Byt Lu) (hV : cl Lk = V) (hx : numF Lu = x1) (hR : (lad x1 V 255 ((1, 0), (x1, 1))).1 = (r1, r2)) :
    Calls Try.prog 93 #[.agg (vals Lk), .agg (vals Lu)] w (Gives (IsN2 r1 r2) w) :=
  product9_any Lk Lu V x1 r1 r2 w hlk hbk hlu hbu (by rw [← hV]; exact clampL_eq hlk hbk) (by rw [← hV]; exact cl_lt hlk hbk) hx hR
section
variable {o : Oper} {a : Act} {w : World} {Q : Exit → Act → World → Prop} {d : Nat} {K : Act → World → Prop} {n m : F}
theorem op_num0 (x : Operand) {u : Value} (ho : o.op = .extract x 0) (hd : o.dst = some d) (hx : a.eval x = u) (hu : IsN2 n m u)
    (hK : ∀ x w', IsN n x → Below w.heap.size w w' → K (a.put (some d) x) w') : o.wp Try.prog a w K Q := by
  obtain ⟨u0, v0, rfl, h1, h2⟩ := hu
  exact op_tup0 (V := IsN n) x ho hd hx h1 hK
theorem op_num1 (x : Operand) {u : Value} (ho : o.op = .extract x 1) (hd : o.dst = some d) (hx : a.eval x = u) (hu : IsN2 n m u)
    (hK : ∀ x w', IsN m x → Below w.heap.size w w' → K (a.put (some d) x) w') : o.wp Try.prog a w K Q := by
  obtain ⟨u0, v0, rfl, h1, h2⟩ := hu
  exact op_tup1 (V := IsN m) x ho hd hx h2 hK
end

set_option maxHeartbeats 4000000 in
set_option maxRecDepth 100000 in
theorem mul9_any (Lk Lu : List Int) (V : Nat) (x1 R : F) (w : World) (hlk : Lk.length = 32) (hbk : Byt Lk) (hlu : Lu.length = 32) (hbu : Byt Lu) (hV : cl Lk = V) (hx : numF Lu = x1) (hR : prod V x1 = R) :
    Calls Try.prog 83 #[.agg (vals Lk), .agg (vals Lu)] w (Gives (· = .agg (vals (bytesN R.val))) w) := by
  have HLK := Lib.hid hlk
  have HLU := Lib.hid hlu
  obtain ⟨r1, r2, hrr⟩ : ∃ r1 r2, (lad x1 V 255 ((1, 0), (x1, 1))).1 = (r1, r2) := ⟨_, _, rfl⟩
  obtain ⟨iv, hiv⟩ : ∃ i, inv r2 = i := ⟨_, rfl⟩
  have hval : (r1 * iv).val = R.val := by
    have h1 : (lad x1 V 255 ((1, 0), (x1, 1))).1.1 * inv (lad x1 V 255 ((1, 0), (x1, 1))).1.2 = R := hR
    rw [hrr] at h1
    rw [← h1, ← hiv]
  have HP := Lib.hid (fun w => product9_ev Lk Lu V x1 r1 r2 w hlk hbk hlu hbu hV hx hrr)
  have HIV := Lib.hid hiv
  have HVAL := Lib.hid hval
  have hS : Own w [(w.heap.size, 32, (· = .agg (vals Lk))), (w.heap.size + 1, 32, (· = .agg (vals Lu))), (w.heap.size + 2, 32, (fun _ => True))] (((w.alloc (.cells (vals Lk) 68)).alloc (.cells (vals Lu) 68)).alloc (.cells (vals z32) 68)) := by
    have a0 : Own w [] (((w.alloc (.cells (vals Lk) 68)).alloc (.cells (vals Lu) 68)).alloc (.cells (vals z32) 68)) := Own.of_below (by go_grown)
    have a1 := a0.add (g := w.heap.size) (n := 32) (V := (· = .agg (vals Lk))) (Nat.le_refl _) (fun r hr => by cases hr) ⟨_, _, new3_0 .., by rw [vals_size, HLK.out], rfl⟩
    have a2 := a1.add (g := w.heap.size + 1) (n := 32) (V := (· = .agg (vals Lu))) (by omega) (by simp) ⟨_, _, new3_1 .., by rw [vals_size, HLU.out], rfl⟩
    exact a2.add (g := w.heap.size + 2) (n := 32) (V := fun _ => True) (by omega) (by simp) ⟨_, _, new3_2 .., rfl, trivial⟩
  clear hlk hlu hV hx hR hrr hiv hval hbk hbu
  go_enter Try.func83, Try.ntmps83
  go_wp2_with ((with_reducible refine guard_list ?_); first | (refine held_load 26 _ rfl ?_) | (refine held_load 22 _ rfl ?_) | (refine held_load 68 _ rfl ?_) | (refine held_load 131 _ rfl ?_))
  change Held (wpList _ _ _ _ _ (((w.alloc (.cells (vals Lk) 68)).alloc (.cells (vals Lu) 68)).alloc (.cells (vals z32) 68)))
  generalize ((w.alloc (.cells (vals Lk) 68)).alloc (.cells (vals Lu) 68)).alloc (.cells (vals z32) 68) = W0 at hS ⊢
  obtain ⟨M, hM⟩ : ∃ M, M = W0.heap.size := ⟨_, rfl⟩
  have hMB : w.heap.size ≤ M := hM ▸ hS.1.size
  have ltM := hS.lt
  rw [← hM] at ltM
  refine hide_held fun t0 HT => ?_
  have HS : t0.size = 18 := by rw [HT]; rfl
  have h2 : t0[2]? = some (.pointer (some ⟨w.heap.size, 0, none⟩)) := by rw [HT]; rfl
  have h3 : t0[3]? = some (.pointer (some ⟨(w.heap.size + 1), 0, none⟩)) := by rw [HT]; rfl
  have h4 : t0[4]? = some (.pointer (some ⟨(w.heap.size + 2), 0, none⟩)) := by rw [HT]; rfl
  clear HT
  refine wp_list_most 8 (fun i => [8, 9, 10, 7, 11, 12, 5, 6].getD i 0) (fun i => [none, none, none, none, none, none, some 16, some 16].getD i none) (fun i => [(· = .agg (vals Lk)), (· = .agg (vals Lu)), IsN2 r1 r2, IsN2 r1 r2, IsN r1, IsN r2, (fun _ => True), (fun _ => True)].getD i (fun _ => True)) (fun w' => Own w [(w.heap.size, 32, (· = .agg (vals Lk))), ((w.heap.size + 1), 32, (· = .agg (vals Lu))), ((w.heap.size + 2), 32, (fun _ => True))] w' ∧ M ≤ w'.heap.size) M
    (by kernel_rfl) (slots_apart (by kernel_rfl)) (slots_lie (by rw [HS]; kernel_rfl)) ⟨hS, Nat.le_of_eq hM⟩ (fun w' h => h.2) (fun w1 w2 h b => ⟨h.1.keep b, Nat.le_trans h.2 b.size⟩) ?_ ?_ ?_
  · clear hS
    intro i o hi ho hA
    have hc : i = 0 ∨ i = 1 ∨ i = 2 ∨ i = 3 ∨ i = 4 ∨ i = 5 ∨ i = 6 ∨ i = 7 := by omega
    rcases hc with rfl | rfl | rfl | rfl | rfl | rfl | rfl | rfl
    · obtain rfl := Option.some.inj ho
      refine ⟨rfl, fun a w' hS hold hin K hK => ?_⟩
      refine if_always rfl ?_
      exact op_ld_own 32 tKey (.tmp 2) rfl rfl _ (eval_tmp ((hold 2 (slots_not (by kernel_rfl))).trans h2)) hS.1 0 rfl hK
    · obtain rfl := Option.some.inj ho
      refine ⟨rfl, fun a w' hS hold hin K hK => ?_⟩
      refine if_always rfl ?_
      exact op_ld_own 32 tKey (.tmp 3) rfl rfl _ (eval_tmp ((hold 3 (slots_not (by kernel_rfl))).trans h3)) hS.1 1 rfl hK
    · obtain rfl := Option.some.inj ho
      refine ⟨rfl, fun a w' hS hold hin K hK => ?_⟩
      obtain ⟨y0, x0, rfl⟩ := hin 0 rfl (by omega) rfl
      obtain ⟨y1, x1, rfl⟩ := hin 1 rfl (by omega) rfl
      refine if_always rfl ?_
      exact op_fn2 _ _ _ _ _ _ rfl rfl (eval_tmp x0) (eval_tmp x1) (by intro args w; kernel_rfl) (HP.out _) hK
    · obtain rfl := Option.some.inj ho
      refine ⟨rfl, fun a w' hS hold hin K hK => ?_⟩
      obtain ⟨y2, x2, (v2 : IsN2 r1 r2 y2)⟩ := hin 2 rfl (by omega) rfl
      refine if_always rfl ?_
      exact op_move (V := IsN2 r1 r2) _ _ rfl rfl (eval_tmp x2) v2 hK
    · obtain rfl := Option.some.inj ho
      refine ⟨rfl, fun a w' hS hold hin K hK => ?_⟩
      obtain ⟨y3, x3, (v3 : IsN2 r1 r2 y3)⟩ := hin 3 rfl (by omega) rfl
      refine if_always rfl ?_
      exact op_num0 _ rfl rfl (eval_tmp x3) v3 hK
    · obtain rfl := Option.some.inj ho
      refine ⟨rfl, fun a w' hS hold hin K hK => ?_⟩
      obtain ⟨y3, x3, (v3 : IsN2 r1 r2 y3)⟩ := hin 3 rfl (by omega) rfl
      refine if_always rfl ?_
      exact op_num1 _ rfl rfl (eval_tmp x3) v3 hK
    · cases hA
    · cases hA
  · intro i o sz hi ho hA
    have hc : i = 0 ∨ i = 1 ∨ i = 2 ∨ i = 3 ∨ i = 4 ∨ i = 5 ∨ i = 6 ∨ i = 7 := by omega
    rcases hc with rfl | rfl | rfl | rfl | rfl | rfl | rfl | rfl
    · cases hA
    · cases hA
    · cases hA
    · cases hA
    · cases hA
    · cases hA
    · obtain rfl := Option.some.inj ho
      obtain rfl := Option.some.inj hA
      exact ⟨rfl, rfl, 131, #[.int .i64 0, .int .i64 0, .int .i64 0, .int .i64 0, .int .i64 0, .int .i64 0, .int .i64 0, .int .i64 0, .int .i64 0, .int .i64 0, .int .i64 0, .int .i64 0, .int .i64 0, .int .i64 0, .int .i64 0, .int .i64 0], rfl, fun a w' K h => wp_new 131 #[.int .i64 0, .int .i64 0, .int .i64 0, .int .i64 0, .int .i64 0, .int .i64 0, .int .i64 0, .int .i64 0, .int .i64 0, .int .i64 0, .int .i64 0, .int .i64 0, .int .i64 0, .int .i64 0, .int .i64 0, .int .i64 0] (fun w => by kernel_rfl) h⟩
    · obtain rfl := Option.some.inj ho
      obtain rfl := Option.some.inj hA
      exact ⟨rfl, rfl, 131, #[.int .i64 0, .int .i64 0, .int .i64 0, .int .i64 0, .int .i64 0, .int .i64 0, .int .i64 0, .int .i64 0, .int .i64 0, .int .i64 0, .int .i64 0, .int .i64 0, .int .i64 0, .int .i64 0, .int .i64 0, .int .i64 0], rfl, fun a w' K h => wp_new 131 #[.int .i64 0, .int .i64 0, .int .i64 0, .int .i64 0, .int .i64 0, .int .i64 0, .int .i64 0, .int .i64 0, .int .i64 0, .int .i64 0, .int .i64 0, .int .i64 0, .int .i64 0, .int .i64 0, .int .i64 0, .int .i64 0] (fun w => by kernel_rfl) h⟩
  clear hS
  intro t1 V1 hs hold hout hall hne hS
  replace HS := hs.trans HS
  replace hS := hS.1
  obtain ⟨g5, h5, b5, r5⟩ : ∃ g, t1[5]? = some (.pointer (some ⟨g, 0, none⟩)) ∧ M ≤ g ∧ ∃ cs ty, V1.heap[g]? = some (.cells cs ty (0, 0)) ∧ cs.size = 16 := by
    obtain ⟨g, p1, p2, ty, cs, p3, p4⟩ := hall 6 (by omega) 16 rfl
    exact ⟨g, p1, p2, cs, ty, p3, p4⟩
  obtain ⟨g6, h6, b6, r6⟩ : ∃ g, t1[6]? = some (.pointer (some ⟨g, 0, none⟩)) ∧ M ≤ g ∧ ∃ cs ty, V1.heap[g]? = some (.cells cs ty (0, 0)) ∧ cs.size = 16 := by
    obtain ⟨g, p1, p2, ty, cs, p3, p4⟩ := hall 7 (by omega) 16 rfl
    exact ⟨g, p1, p2, cs, ty, p3, p4⟩
  have n5_6 : g5 ≠ g6 := fun h => hne 6 7 (by omega) (by omega) (by omega) rfl rfl (show t1[5]? = t1[6]? by rw [h5, h6, h])
  replace hS : Own w [(w.heap.size, 32, (· = .agg (vals Lk))), ((w.heap.size + 1), 32, (· = .agg (vals Lu))), ((w.heap.size + 2), 32, (fun _ => True)), (g5, 16, (fun _ => True))] V1 := hS.add (Nat.le_trans hMB b5) (fun r hr => Nat.ne_of_lt (Nat.lt_of_lt_of_le (ltM r hr) b5)) (Own.any r5)
  replace hS : Own w [(w.heap.size, 32, (· = .agg (vals Lk))), ((w.heap.size + 1), 32, (· = .agg (vals Lu))), ((w.heap.size + 2), 32, (fun _ => True)), (g5, 16, (fun _ => True)), (g6, 16, (fun _ => True))] V1 := hS.add (Nat.le_trans hMB b6) (Own.ne_app (g1 := g5) (fun r hr => Nat.ne_of_lt (Nat.lt_of_lt_of_le (ltM r hr) b6)) n5_6) (Own.any r6)
  obtain ⟨x11, q11, v11⟩ : ∃ x, t1[11]? = some x ∧ (IsN r1) x := hout 4 (by omega) rfl
  obtain ⟨x12, q12, v12⟩ : ∃ x, t1[12]? = some x ∧ (IsN r2) x := hout 5 (by omega) rfl
  replace h2 := (hold 2 (slots_not (by kernel_rfl))).trans h2
  replace h3 := (hold 3 (slots_not (by kernel_rfl))).trans h3
  replace h4 := (hold 4 (slots_not (by kernel_rfl))).trans h4
  clear hold hout hs hall hne
  simp only [List.drop_succ_cons, List.drop_zero]
  refine st_own 16 tNine rfl (.tmp 5) (.tmp 11) rfl rfl _ _ (eval_tmp h5) (eval_tmp q11) (V' := IsN r1) v11 (fun x hx => isN_row hx) hS 3 rfl fun V1' hS' _ => ?_
  replace hS : Own w [(w.heap.size, 32, (· = .agg (vals Lk))), ((w.heap.size + 1), 32, (· = .agg (vals Lu))), ((w.heap.size + 2), 32, (fun _ => True)), (g5, 16, IsN r1), (g6, 16, (fun _ => True))] V1' := hS'
  clear hS'
  refine st_own 16 tNine rfl (.tmp 6) (.tmp 12) rfl rfl _ _ (eval_tmp h6) (eval_tmp q12) (V' := IsN r2) v12 (fun x hx => isN_row hx) hS 4 rfl fun V1'' hS' _ => ?_
  replace hS : Own w [(w.heap.size, 32, (· = .agg (vals Lk))), ((w.heap.size + 1), 32, (· = .agg (vals Lu))), ((w.heap.size + 2), 32, (fun _ => True)), (g5, 16, IsN r1), (g6, 16, IsN r2)] V1'' := hS'
  clear hS'
  refine wpList_nil ?_
  obtain ⟨f, e0, hf⟩ := wash HS
  have f2 := hf 2 _ h2
  have f3 := hf 3 _ h3
  have f4 := hf 4 _ h4
  have f5 := hf 5 _ h5
  have f6 := hf 6 _ h6
  clear hf
  rw [e0.trans (show _ = #[f 0, f 1, f 2, f 3, f 4, f 5, f 6, f 7, f 8, f 9, f 10, f 11, f 12, f 13, f 14, f 15, f 16, f 17] from by kernel_rfl), f2, f3, f4, f5, f6]
  clear f2 f3 f4 f5 f6
  clear e0
  try dsimp only
  clear h2 h3 h4 h5 h6 q11 q12 v11 v12 b5 b6 r5 r6 n5_6 ltM hMB hM HS t1 t0 M
  go_wp2_with fail
  obtain ⟨M, hM⟩ : ∃ M, M = V1''.heap.size := ⟨_, rfl⟩
  refine hide_frame fun t0 HT => ?_
  have HS : t0.size = 18 := by rw [HT]; rfl
  have h2 : t0[2]? = some (.pointer (some ⟨w.heap.size, 0, none⟩)) := by rw [HT]; rfl
  have h3 : t0[3]? = some (.pointer (some ⟨(w.heap.size + 1), 0, none⟩)) := by rw [HT]; rfl
  have h4 : t0[4]? = some (.pointer (some ⟨(w.heap.size + 2), 0, none⟩)) := by rw [HT]; rfl
  have h5 : t0[5]? = some (.pointer (some ⟨g5, 0, none⟩)) := by rw [HT]; rfl
  have h6 : t0[6]? = some (.pointer (some ⟨g6, 0, none⟩)) := by rw [HT]; rfl
  clear HT
  refine wp_region_most 5 (fun i => [13, 14, 15, 16, 17].getD i 0) (fun _ => none) (fun i => [IsN r1, IsN r2, IsN iv, IsN (r1 * iv), (· = .agg (vals (bytesN R.val)))].getD i (fun _ => True)) (fun w' => Own w [(w.heap.size, 32, (· = .agg (vals Lk))), ((w.heap.size + 1), 32, (· = .agg (vals Lu))), ((w.heap.size + 2), 32, (fun _ => True)), (g5, 16, IsN r1), (g6, 16, IsN r2)] w' ∧ M ≤ w'.heap.size) M
    (by kernel_rfl) (by kernel_rfl) (slots_apart (by kernel_rfl)) (slots_lie (by rw [HS]; kernel_rfl)) ⟨hS.drew, Nat.le_of_eq hM⟩ (fun w' h => h.2) (fun w1 w2 h b => ⟨h.1.keep b, Nat.le_trans h.2 b.size⟩) ?_ ?_ ?_
  · clear hS
    intro i o hi ho hA
    have hc : i = 0 ∨ i = 1 ∨ i = 2 ∨ i = 3 ∨ i = 4 := by omega
    rcases hc with rfl | rfl | rfl | rfl | rfl
    · obtain rfl := Option.some.inj ho
      refine ⟨rfl, fun a w' hS hold hin K hK => ?_⟩
      refine if_always rfl ?_
      exact op_ld_own 16 tNine (.tmp 5) rfl rfl _ (eval_tmp ((hold 5 (slots_not (by kernel_rfl))).trans h5)) hS.1 3 rfl hK
    · obtain rfl := Option.some.inj ho
      refine ⟨rfl, fun a w' hS hold hin K hK => ?_⟩
      refine if_always rfl ?_
      exact op_ld_own 16 tNine (.tmp 6) rfl rfl _ (eval_tmp ((hold 6 (slots_not (by kernel_rfl))).trans h6)) hS.1 4 rfl hK
    · obtain rfl := Option.some.inj ho
      refine ⟨rfl, fun a w' hS hold hin K hK => ?_⟩
      obtain ⟨y1, x1, (v1 : IsN r2 y1)⟩ := hin 1 rfl (by omega) rfl
      refine if_always rfl ?_
      exact op_fn1 _ _ _ _ rfl rfl (eval_tmp x1) (by intro args w; kernel_rfl) (invert9_ev v1 HIV.out _) hK
    · obtain rfl := Option.some.inj ho
      refine ⟨rfl, fun a w' hS hold hin K hK => ?_⟩
      obtain ⟨y0, x0, (v0 : IsN r1 y0)⟩ := hin 0 rfl (by omega) rfl
      obtain ⟨y2, x2, (v2 : IsN iv y2)⟩ := hin 2 rfl (by omega) rfl
      refine if_always rfl ?_
      exact op_fn2 _ _ _ _ _ _ rfl rfl (eval_tmp x0) (eval_tmp x2) (by intro args w; kernel_rfl) (times9_ev (v0).wide (v2).wide _) hK
    · obtain rfl := Option.some.inj ho
      refine ⟨rfl, fun a w' hS hold hin K hK => ?_⟩
      obtain ⟨y3, x3, (v3 : IsN (r1 * iv) y3)⟩ := hin 3 rfl (by omega) rfl
      refine if_always rfl ?_
      exact op_fn1 _ _ _ _ rfl rfl (eval_tmp x3) (by intro args w; kernel_rfl) (by have h := bytes9_ev v3; rw [HVAL.out] at h; exact h _) hK
  · intro i o sz hi ho hA; cases hA
  clear hS
  intro t1 V2 hs hold hout hall hne hS
  replace HS := hs.trans HS
  replace hS := hS.1
  obtain ⟨x17, q17, v17⟩ : ∃ x, t1[17]? = some x ∧ ((· = .agg (vals (bytesN R.val)))) x := hout 4 (by omega) rfl
  replace h2 := (hold 2 (slots_not (by kernel_rfl))).trans h2
  replace h3 := (hold 3 (slots_not (by kernel_rfl))).trans h3
  replace h4 := (hold 4 (slots_not (by kernel_rfl))).trans h4
  replace h5 := (hold 5 (slots_not (by kernel_rfl))).trans h5
  replace h6 := (hold 6 (slots_not (by kernel_rfl))).trans h6
  clear hold hout hs hall hne
  simp only [List.drop_succ_cons, List.drop_zero]
  refine st_own 32 tKey rfl (.tmp 4) (.tmp 17) rfl rfl _ _ (eval_tmp h4) (eval_tmp q17) (V' := (· = .agg (vals (bytesN R.val)))) v17 (by_row (bytesN_len _)) hS 2 rfl fun V2' hS' _ => ?_
  replace hS : Own w [(w.heap.size, 32, (· = .agg (vals Lk))), ((w.heap.size + 1), 32, (· = .agg (vals Lu))), ((w.heap.size + 2), 32, (· = .agg (vals (bytesN R.val)))), (g5, 16, IsN r1), (g6, 16, IsN r2)] V2' := hS'
  clear hS'
  refine wpList_nil ?_
  obtain ⟨f, e0, hf⟩ := wash HS
  have f2 := hf 2 _ h2
  have f3 := hf 3 _ h3
  have f4 := hf 4 _ h4
  have f5 := hf 5 _ h5
  have f6 := hf 6 _ h6
  clear hf
  rw [e0.trans (show _ = #[f 0, f 1, f 2, f 3, f 4, f 5, f 6, f 7, f 8, f 9, f 10, f 11, f 12, f 13, f 14, f 15, f 16, f 17] from by kernel_rfl), f2, f3, f4, f5, f6]
  clear f2 f3 f4 f5 f6
  clear e0
  try dsimp only
  clear h2 h3 h4 h5 h6 q17 v17 hM HS t1 t0 M
  obtain ⟨cs, ct, c1, c2, c3⟩ := hS.get (i := 2) rfl
  have hbel := hS.1
  have C3 := Lib.hid c3
  clear hS c3
  go_wp2_with fail
  refine ret_row rfl _ _ _ rfl c1 32 tKey c2 rfl ?_
  exact ⟨_, rfl, C3.out, hbel⟩

set_option maxHeartbeats 1000000 in
set_option maxRecDepth 100000 in
theorem base9_any (L : List Int) (V : Nat) (R : F) (w : World) (hl : L.length = 32) (hb : Byt L) (hV : cl L = V) (hR : prod V 9 = R) : Calls Try.prog 54 #[.agg (vals L)] w (Gives (· = .agg (vals (bytesN R.val))) w) := by
  have HL := Lib.hid hl
  have HM := fun w => mul9_any L nineL V 9 R w hl hb rfl nine_byt hV nine_num hR
  have HO := Lib.hid HM
  have R0 := new2_0 w (.cells (vals L) 68) (.cells #[.int .u8 0, .int .u8 0, .int .u8 0, .int .u8 0, .int .u8 0, .int .u8 0, .int .u8 0, .int .u8 0, .int .u8 0, .int .u8 0, .int .u8 0, .int .u8 0, .int .u8 0, .int .u8 0, .int .u8 0, .int .u8 0, .int .u8 0, .int .u8 0, .int .u8 0, .int .u8 0, .int .u8 0, .int .u8 0, .int .u8 0, .int .u8 0, .int .u8 0, .int .u8 0, .int .u8 0, .int .u8 0, .int .u8 0, .int .u8 0, .int .u8 0, .int .u8 0] 68)
  have R1 := new2_1 w (.cells (vals L) 68) (.cells #[.int .u8 0, .int .u8 0, .int .u8 0, .int .u8 0, .int .u8 0, .int .u8 0, .int .u8 0, .int .u8 0, .int .u8 0, .int .u8 0, .int .u8 0, .int .u8 0, .int .u8 0, .int .u8 0, .int .u8 0, .int .u8 0, .int .u8 0, .int .u8 0, .int .u8 0, .int .u8 0, .int .u8 0, .int .u8 0, .int .u8 0, .int .u8 0, .int .u8 0, .int .u8 0, .int .u8 0, .int .u8 0, .int .u8 0, .int .u8 0, .int .u8 0, .int .u8 0] 68)
  have B0 : Below w.heap.size w ((w.alloc (.cells (vals L) 68)).alloc (.cells #[.int .u8 0, .int .u8 0, .int .u8 0, .int .u8 0, .int .u8 0, .int .u8 0, .int .u8 0, .int .u8 0, .int .u8 0, .int .u8 0, .int .u8 0, .int .u8 0, .int .u8 0, .int .u8 0, .int .u8 0, .int .u8 0, .int .u8 0, .int .u8 0, .int .u8 0, .int .u8 0, .int .u8 0, .int .u8 0, .int .u8 0, .int .u8 0, .int .u8 0, .int .u8 0, .int .u8 0, .int .u8 0, .int .u8 0, .int .u8 0, .int .u8 0, .int .u8 0] 68)) := by go_grown
  clear HM hV hR hl
  go_enter Try.func54, Try.ntmps54
  go_wp2_with (refine ld_row rfl 68 (.tmp 1) rfl _ (by rfl) _ _ R0 32 tKey (by rw [vals_size, HL.out]) ?_)
  generalize (w.alloc (.cells (vals L) 68)).alloc (.cells #[.int .u8 0, .int .u8 0, .int .u8 0, .int .u8 0, .int .u8 0, .int .u8 0, .int .u8 0, .int .u8 0, .int .u8 0, .int .u8 0, .int .u8 0, .int .u8 0, .int .u8 0, .int .u8 0, .int .u8 0, .int .u8 0, .int .u8 0, .int .u8 0, .int .u8 0, .int .u8 0, .int .u8 0, .int .u8 0, .int .u8 0, .int .u8 0, .int .u8 0, .int .u8 0, .int .u8 0, .int .u8 0, .int .u8 0, .int .u8 0, .int .u8 0, .int .u8 0] 68) = W at *
  refine (HO.out _).mono ?_
  rintro e w1 ⟨r, rfl, rfl, b1⟩
  have Q1 := row_call b1 R1
  have B1 := below_call b1 B0
  clear R0 R1 B0 b1 HO W
  go_wp2_with (refine st_row rfl 68 (.tmp 2) _ rfl _ _ (by rfl) (by rfl) _ _ Q1 32 tKey (by rw [vals_size, bytesN_len]) (by rfl) (vals_one _) ?_)
  refine ret_row rfl _ _ _ rfl (row_put Q1) 32 tKey (by rw [vals_size, bytesN_len]) rfl ?_
  exact ⟨_, rfl, rfl, below_setRow B1 (by omega) _⟩

theorem bytes_zero_iff (R : F) : bytesN R.val = zeroL ↔ R = 0 := ⟨fun h => Classical.byContradiction fun hn => bytes_ne_zero hn h, fun h => by rw [h]; exact zeroL_bytes.symm⟩

set_option maxHeartbeats 1000000 in
set_option maxRecDepth 100000 in
theorem agree9_any (Lk Lu : List Int) (V : Nat) (x1 R : F) (w : World) (hlk : Lk.length = 32) (hbk : Byt Lk) (hlu : Lu.length = 32) (hbu : Byt Lu) (hV : cl Lk = V) (hx : numF Lu = x1) (hR : prod V x1 = R) :
    Calls Try.prog 50 #[.agg (vals Lk), .agg (vals Lu)] w (Gives (· = .tuple #[.agg (vals (bytesN R.val)), .int .u64 (mk (!decide (R = 0)))]) w) := by
  have HM := fun w => mul9_any Lk Lu V x1 R w hlk hbk hlu hbu hV hx hR
  have HO := Lib.hid HM
  have HK := Lib.hid hlk
  have HU := Lib.hid hlu
  have R0 := new3_0 w (.cells (vals Lk) 68) (.cells (vals Lu) 68) (.cells #[.int .u8 0, .int .u8 0, .int .u8 0, .int .u8 0, .int .u8 0, .int .u8 0, .int .u8 0, .int .u8 0, .int .u8 0, .int .u8 0, .int .u8 0, .int .u8 0, .int .u8 0, .int .u8 0, .int .u8 0, .int .u8 0, .int .u8 0, .int .u8 0, .int .u8 0, .int .u8 0, .int .u8 0, .int .u8 0, .int .u8 0, .int .u8 0, .int .u8 0, .int .u8 0, .int .u8 0, .int .u8 0, .int .u8 0, .int .u8 0, .int .u8 0, .int .u8 0] 68)
  have R1 := new3_1 w (.cells (vals Lk) 68) (.cells (vals Lu) 68) (.cells #[.int .u8 0, .int .u8 0, .int .u8 0, .int .u8 0, .int .u8 0, .int .u8 0, .int .u8 0, .int .u8 0, .int .u8 0, .int .u8 0, .int .u8 0, .int .u8 0, .int .u8 0, .int .u8 0, .int .u8 0, .int .u8 0, .int .u8 0, .int .u8 0, .int .u8 0, .int .u8 0, .int .u8 0, .int .u8 0, .int .u8 0, .int .u8 0, .int .u8 0, .int .u8 0, .int .u8 0, .int .u8 0, .int .u8 0, .int .u8 0, .int .u8 0, .int .u8 0] 68)
  have R2 := new3_2 w (.cells (vals Lk) 68) (.cells (vals Lu) 68) (.cells #[.int .u8 0, .int .u8 0, .int .u8 0, .int .u8 0, .int .u8 0, .int .u8 0, .int .u8 0, .int .u8 0, .int .u8 0, .int .u8 0, .int .u8 0, .int .u8 0, .int .u8 0, .int .u8 0, .int .u8 0, .int .u8 0, .int .u8 0, .int .u8 0, .int .u8 0, .int .u8 0, .int .u8 0, .int .u8 0, .int .u8 0, .int .u8 0, .int .u8 0, .int .u8 0, .int .u8 0, .int .u8 0, .int .u8 0, .int .u8 0, .int .u8 0, .int .u8 0] 68)
  have B0 : Below w.heap.size w (((w.alloc (.cells (vals Lk) 68)).alloc (.cells (vals Lu) 68)).alloc (.cells #[.int .u8 0, .int .u8 0, .int .u8 0, .int .u8 0, .int .u8 0, .int .u8 0, .int .u8 0, .int .u8 0, .int .u8 0, .int .u8 0, .int .u8 0, .int .u8 0, .int .u8 0, .int .u8 0, .int .u8 0, .int .u8 0, .int .u8 0, .int .u8 0, .int .u8 0, .int .u8 0, .int .u8 0, .int .u8 0, .int .u8 0, .int .u8 0, .int .u8 0, .int .u8 0, .int .u8 0, .int .u8 0, .int .u8 0, .int .u8 0, .int .u8 0, .int .u8 0] 68)) := by go_grown
  clear HM hV hR hx hlk hlu
  go_enter Try.func50, Try.ntmps50
  go_wp2_with (first | (refine ld_row rfl 68 (.tmp 2) rfl _ (by rfl) _ _ R0 32 tKey (by rw [vals_size, HK.out]) ?_) | (refine ld_row rfl 68 (.tmp 3) rfl _ (by rfl) _ _ R1 32 tKey (by rw [vals_size, HU.out]) ?_))
  generalize ((w.alloc (.cells (vals Lk) 68)).alloc (.cells (vals Lu) 68)).alloc (.cells #[.int .u8 0, .int .u8 0, .int .u8 0, .int .u8 0, .int .u8 0, .int .u8 0, .int .u8 0, .int .u8 0, .int .u8 0, .int .u8 0, .int .u8 0, .int .u8 0, .int .u8 0, .int .u8 0, .int .u8 0, .int .u8 0, .int .u8 0, .int .u8 0, .int .u8 0, .int .u8 0, .int .u8 0, .int .u8 0, .int .u8 0, .int .u8 0, .int .u8 0, .int .u8 0, .int .u8 0, .int .u8 0, .int .u8 0, .int .u8 0, .int .u8 0, .int .u8 0] 68) = W at *
  refine (HO.out _).mono ?_
  rintro e w1 ⟨r, rfl, rfl, b1⟩
  have Q2 := row_call b1 R2
  have B1 := below_call b1 B0
  have HL := row_lt Q2
  clear R0 R1 R2 B0 b1 HO W HK HU hbk hbu
  have Q3 := row_alloc (x := .cells (vals (bytesN R.val)) 68) Q2
  have Q4 := row_new (w := w1) (x := .cells (vals (bytesN R.val)) 68)
  have B2 := B1.alloc B1.size (.cells (vals (bytesN R.val)) 68)
  have HBL := Lib.hid (bytesN_len R.val)
  have HON := Lib.hid (vals_one (bytesN R.val))
  have hq : ∀ w, (Op.equalIn 10000 68 (.agg (vals (bytesN R.val))) (.agg (vals zeroL))).run Try.prog w = .ok (decide (R = 0)) w := fun w => by
    have h := run_equalIn_vals (P := Try.prog) w .u8 9998 68 5 32 Try.underlying68 Try.underlying5 (fun w => by kernel_rfl) (bytesN R.val) zeroL (bytesN_len _) rfl
    rw [decide_eq_decide.2 (bytes_zero_iff R)] at h
    exact h
  have hq2 : ∀ w, (Op.equalIn 10000 68 (.agg (vals (bytesN R.val))) (.agg #[.int .u8 0, .int .u8 0, .int .u8 0, .int .u8 0, .int .u8 0, .int .u8 0, .int .u8 0, .int .u8 0, .int .u8 0, .int .u8 0, .int .u8 0, .int .u8 0, .int .u8 0, .int .u8 0, .int .u8 0, .int .u8 0, .int .u8 0, .int .u8 0, .int .u8 0, .int .u8 0, .int .u8 0, .int .u8 0, .int .u8 0, .int .u8 0, .int .u8 0, .int .u8 0, .int .u8 0, .int .u8 0, .int .u8 0, .int .u8 0, .int .u8 0, .int .u8 0])).run Try.prog w = .ok (decide (R = 0)) w := hq
  clear Q2 B1 hq
  by_cases h0 : R = 0
  · rw [decide_eq_true h0] at hq2
    have hm : mk (!decide (R = 0)) = 0 := by rw [decide_eq_true h0]; rfl
    have HMM := Lib.hid hm
    clear hm h0
    go_wp2_with (first | (refine st_new rfl 68 (.tmp 6) _ rfl _ _ _ (by rfl) (by rfl) 32 tKey (by rw [vals_size, HBL.out]) (by rfl) HON.out ?_; generalize w1.alloc (.cells (vals (bytesN R.val)) 68) = W at *; generalize w1.heap.size = g at *) | (refine ld_row rfl 68 (.tmp 6) rfl _ (by rfl) _ _ Q4 32 tKey (by rw [vals_size, HBL.out]) ?_) | (refine st_row rfl 68 (.tmp 4) _ rfl _ _ (by rfl) (by rfl) _ _ Q3 32 tKey (by rw [vals_size, HBL.out]) (by rfl) HON.out ?_))
    refine ret_row_tmp rfl _ _ _ rfl (row_put Q3) 32 tKey (by rw [vals_size, bytesN_len]) rfl ?_
    exact ⟨_, rfl, by rw [HMM.out]; rfl, below_setRow B2 (by omega) _⟩
  · rw [decide_eq_false h0] at hq2
    have hm : mk (!decide (R = 0)) = 18446744073709551615 := by rw [decide_eq_false h0]; rfl
    have HMM := Lib.hid hm
    clear hm h0
    go_wp2_with (first | (refine st_new rfl 68 (.tmp 6) _ rfl _ _ _ (by rfl) (by rfl) 32 tKey (by rw [vals_size, HBL.out]) (by rfl) HON.out ?_; generalize w1.alloc (.cells (vals (bytesN R.val)) 68) = W at *; generalize w1.heap.size = g at *) | (refine ld_row rfl 68 (.tmp 6) rfl _ (by rfl) _ _ Q4 32 tKey (by rw [vals_size, HBL.out]) ?_) | (refine st_row rfl 68 (.tmp 4) _ rfl _ _ (by rfl) (by rfl) _ _ Q3 32 tKey (by rw [vals_size, HBL.out]) (by rfl) HON.out ?_))
    refine ret_row_tmp rfl _ _ _ rfl (row_put Q3) 32 tKey (by rw [vals_size, bytesN_len]) rfl ?_
    exact ⟨_, rfl, by rw [HMM.out]; rfl, below_setRow B2 (by omega) _⟩
end Go.Proofs.Ytciakfhjjnmeeaa

namespace Go.Proofs.Ytciakfhjjnmeeaa
open Go.RowKit Nt Edw

theorem eql_mk_same {p q : Operand} (b : Bool) (w : World) : (do eqGuard .eql 23 p q (.int .u64 (mk b)) (.int .u64 (mk b)); binOp .eql 23 (.int .u64 (mk b)) (.int .u64 (mk b)) : Sem Value).run Try.prog w = .ok (.bool true) w := by
  cases b <;> kernel_rfl

set_option maxHeartbeats 4000000 in
set_option maxRecDepth 100000 in
theorem ladderMuls_walk (La Lu : List Int) (w : World) (hlLa : La.length = 32) (hbLa : Byt La) (hlLu : Lu.length = 32) (hbLu : Byt Lu):
    Calls Try.prog 13 #[.agg (vals La), .agg (vals Lu)] w fun e w' => e = .returned (.bool true) ∧ Below w.heap.size w w' := by
  have HLLa := Lib.hid hlLa
  have HLLu := Lib.hid hlLu
  clear hlLa hlLu
  have hS : Own w [(w.heap.size, 32, (· = .agg (vals La))), ((w.heap.size + 1), 32, (· = .agg (vals Lu)))] ((w.alloc (.cells (vals La) 68)).alloc (.cells (vals Lu) 68)) := by
    have a0 : Own w [] ((w.alloc (.cells (vals La) 68)).alloc (.cells (vals Lu) 68)) := Own.of_below (by go_grown)
    have a1 := a0.add (g := w.heap.size) (n := 32) (V := (· = .agg (vals La))) (by omega) (fun r hr => by cases hr) ⟨_, _, new2_0 .., by rw [vals_size, HLLa.out], rfl⟩
    have a2 := a1.add (g := (w.heap.size + 1)) (n := 32) (V := (· = .agg (vals Lu))) (by omega) (by simp) ⟨_, _, new2_1 .., by rw [vals_size, HLLu.out], rfl⟩
    exact a2
  go_enter Try.func13, Try.ntmps13
  go_wp2_with ((with_reducible refine guard_list ?_); first | (refine held_load 26 _ rfl ?_) | (refine held_load 22 _ rfl ?_) | (refine held_load 68 _ rfl ?_))
  generalize (w.alloc (.cells (vals La) 68)).alloc (.cells (vals Lu) 68) = W0 at hS ⊢
  obtain ⟨va, hva⟩ : ∃ v, cl La = v := ⟨_, rfl⟩
  obtain ⟨xu, hxu⟩ : ∃ x, numF Lu = x := ⟨_, rfl⟩
  obtain ⟨rm, hrm⟩ : ∃ r, prod va xu = r := ⟨_, rfl⟩
  obtain ⟨rb, hrb⟩ : ∃ r, prod va 9 = r := ⟨_, rfl⟩
  have k1 : clampL La = bytesN va := by rw [← hva]; exact clampL_eq HLLa.out hbLa
  obtain ⟨bb, hbb⟩ : ∃ b, (!decide (rm = 0)) = b := ⟨_, rfl⟩
  have hg : ∀ w, Calls Try.prog 51 #[.agg (vals La), .agg (vals Lu)] w (Gives (· = .tuple #[.agg (vals (bytesN rm.val)), .int .u64 (mk bb)]) w) := fun w => by have h := agree_any La Lu va xu rm w HLLa.out hbLa HLLu.out hbLu hva hxu hrm; rw [hbb] at h; exact h
  have hg9 : ∀ w, Calls Try.prog 50 #[.agg (vals La), .agg (vals Lu)] w (Gives (· = .tuple #[.agg (vals (bytesN rm.val)), .int .u64 (mk bb)]) w) := fun w => by have h := agree9_any La Lu va xu rm w HLLa.out hbLa HLLu.out hbLu hva hxu hrm; rw [hbb] at h; exact h
  have Hhva := Lib.hid hva
  have Hhxu := Lib.hid hxu
  have Hhrm := Lib.hid hrm
  have Hhrb := Lib.hid hrb
  have Hk1 := Lib.hid k1
  have Hhg := Lib.hid hg
  have Hhg9 := Lib.hid hg9
  clear hbb hva hxu hrm hrb k1 hg hg9
  obtain ⟨M, hM⟩ : ∃ M, M = W0.heap.size := ⟨_, rfl⟩
  have hMB : w.heap.size ≤ M := hM ▸ hS.1.size
  have ltM := hS.lt
  rw [← hM] at ltM
  refine hide_held fun t0 HT => ?_
  have HS : t0.size = 53 := by rw [HT]; rfl
  have h2 : t0[2]? = some (.pointer (some ⟨w.heap.size, 0, none⟩)) := by rw [HT]; rfl
  have h3 : t0[3]? = some (.pointer (some ⟨(w.heap.size + 1), 0, none⟩)) := by rw [HT]; rfl
  clear HT
  refine wp_list_most 7 (fun i => [10, 11, 12, 9, 13, 14, 5].getD i 0) (fun i => [none, none, none, none, none, none, some 32].getD i none) (fun i => [(· = .agg (vals La)), (· = .agg (vals Lu)), (· = .tuple #[.agg (vals (bytesN rm.val)), .int .u64 (mk bb)]), (· = .tuple #[.agg (vals (bytesN rm.val)), .int .u64 (mk bb)]), (· = .agg (vals (bytesN rm.val))), (· = .int .u64 (mk bb)), (fun _ => True)].getD i (fun _ => True)) (fun w' => Own w [(w.heap.size, 32, (· = .agg (vals La))), ((w.heap.size + 1), 32, (· = .agg (vals Lu)))] w' ∧ M ≤ w'.heap.size) M
    (by kernel_rfl) (slots_apart (by kernel_rfl)) (slots_lie (by rw [HS]; kernel_rfl)) ⟨hS, Nat.le_of_eq hM⟩ (fun w' h => h.2) (fun w1 w2 h b => ⟨h.1.keep b, Nat.le_trans h.2 b.size⟩) ?_ ?_ ?_
  · clear hS
    intro i o hi ho hA
    have hc : i = 0 ∨ i = 1 ∨ i = 2 ∨ i = 3 ∨ i = 4 ∨ i = 5 ∨ i = 6 := by omega
    rcases hc with rfl | rfl | rfl | rfl | rfl | rfl | rfl
    · obtain rfl := Option.some.inj ho
      refine ⟨rfl, fun a w' hS hold hin K hK => ?_⟩
      refine if_always rfl ?_
      exact op_ld_own 32 tKey (.tmp 2) rfl rfl _ (eval_tmp ((hold 2 (slots_not (by kernel_rfl))).trans h2)) hS.1 0 rfl hK
    · obtain rfl := Option.some.inj ho
      refine ⟨rfl, fun a w' hS hold hin K hK => ?_⟩
      refine if_always rfl ?_
      exact op_ld_own 32 tKey (.tmp 3) rfl rfl _ (eval_tmp ((hold 3 (slots_not (by kernel_rfl))).trans h3)) hS.1 1 rfl hK
    · obtain rfl := Option.some.inj ho
      refine ⟨rfl, fun a w' hS hold hin K hK => ?_⟩
      obtain ⟨y0, x0, rfl⟩ := hin 0 rfl (by omega) rfl
      obtain ⟨y1, x1, rfl⟩ := hin 1 rfl (by omega) rfl
      refine if_always rfl ?_
      exact op_fn2 _ _ _ _ _ _ rfl rfl (eval_tmp x0) (eval_tmp x1) (by intro args w; kernel_rfl) (Hhg9.out _) hK
    · obtain rfl := Option.some.inj ho
      refine ⟨rfl, fun a w' hS hold hin K hK => ?_⟩
      obtain ⟨y2, x2, rfl⟩ := hin 2 rfl (by omega) rfl
      refine if_always rfl ?_
      exact op_move (V := (· = .tuple #[.agg (vals (bytesN rm.val)), .int .u64 (mk bb)])) _ _ rfl rfl (eval_tmp x2) rfl hK
    · obtain rfl := Option.some.inj ho
      refine ⟨rfl, fun a w' hS hold hin K hK => ?_⟩
      obtain ⟨y3, x3, rfl⟩ := hin 3 rfl (by omega) rfl
      refine if_always rfl ?_
      exact op_tup0 (V := (· = .agg (vals (bytesN rm.val)))) _ rfl rfl (eval_tmp x3) rfl hK
    · obtain rfl := Option.some.inj ho
      refine ⟨rfl, fun a w' hS hold hin K hK => ?_⟩
      obtain ⟨y3, x3, rfl⟩ := hin 3 rfl (by omega) rfl
      refine if_always rfl ?_
      exact op_tup1 (V := (· = .int .u64 (mk bb))) _ rfl rfl (eval_tmp x3) rfl hK
    · cases hA
  · intro i o sz hi ho hA
    have hc : i = 0 ∨ i = 1 ∨ i = 2 ∨ i = 3 ∨ i = 4 ∨ i = 5 ∨ i = 6 := by omega
    rcases hc with rfl | rfl | rfl | rfl | rfl | rfl | rfl
    · cases hA
    · cases hA
    · cases hA
    · cases hA
    · cases hA
    · cases hA
    · obtain rfl := Option.some.inj ho
      obtain rfl := Option.some.inj hA
      exact ⟨rfl, rfl, 68, #[.int .u8 0, .int .u8 0, .int .u8 0, .int .u8 0, .int .u8 0, .int .u8 0, .int .u8 0, .int .u8 0, .int .u8 0, .int .u8 0, .int .u8 0, .int .u8 0, .int .u8 0, .int .u8 0, .int .u8 0, .int .u8 0, .int .u8 0, .int .u8 0, .int .u8 0, .int .u8 0, .int .u8 0, .int .u8 0, .int .u8 0, .int .u8 0, .int .u8 0, .int .u8 0, .int .u8 0, .int .u8 0, .int .u8 0, .int .u8 0, .int .u8 0, .int .u8 0], rfl, fun a w' K h => wp_new 68 #[.int .u8 0, .int .u8 0, .int .u8 0, .int .u8 0, .int .u8 0, .int .u8 0, .int .u8 0, .int .u8 0, .int .u8 0, .int .u8 0, .int .u8 0, .int .u8 0, .int .u8 0, .int .u8 0, .int .u8 0, .int .u8 0, .int .u8 0, .int .u8 0, .int .u8 0, .int .u8 0, .int .u8 0, .int .u8 0, .int .u8 0, .int .u8 0, .int .u8 0, .int .u8 0, .int .u8 0, .int .u8 0, .int .u8 0, .int .u8 0, .int .u8 0, .int .u8 0] (fun w => by kernel_rfl) h⟩
  clear hS
  intro t1 V1 hs hold hout hall hne hS
  replace HS := hs.trans HS
  replace hS := hS.1
  obtain ⟨g5, h5, b5, r5⟩ : ∃ g, t1[5]? = some (.pointer (some ⟨g, 0, none⟩)) ∧ M ≤ g ∧ ∃ cs ty, V1.heap[g]? = some (.cells cs ty (0, 0)) ∧ cs.size = 32 := by
    obtain ⟨g, p1, p2, ty, cs, p3, p4⟩ := hall 6 (by omega) 32 rfl
    exact ⟨g, p1, p2, cs, ty, p3, p4⟩
  replace hS : Own w [(w.heap.size, 32, (· = .agg (vals La))), ((w.heap.size + 1), 32, (· = .agg (vals Lu))), (g5, 32, (fun _ => True))] V1 := hS.add (Nat.le_trans hMB b5) (fun r hr => Nat.ne_of_lt (Nat.lt_of_lt_of_le (ltM r hr) b5)) (Own.any r5)
  obtain ⟨x13, q13, v13⟩ : ∃ x, t1[13]? = some x ∧ ((· = .agg (vals (bytesN rm.val)))) x := hout 4 (by omega) rfl
  obtain ⟨x14, q14, v14⟩ : ∃ x, t1[14]? = some x ∧ ((· = .int .u64 (mk bb))) x := hout 5 (by omega) rfl
  replace q14 : t1[14]? = some (.int .u64 (mk bb)) := q14.trans (congrArg some v14)
  replace h2 := (hold 2 (slots_not (by kernel_rfl))).trans h2
  replace h3 := (hold 3 (slots_not (by kernel_rfl))).trans h3
  clear hold hout hs hall hne
  simp only [List.drop_succ_cons, List.drop_zero]
  refine st_own 32 tKey rfl (.tmp 5) (.tmp 13) rfl rfl _ _ (eval_tmp h5) (eval_tmp q13) (V' := (· = .agg (vals (bytesN rm.val)))) v13 (by_row (bytesN_len _)) hS 2 rfl fun V1' hS' _ => ?_
  replace hS : Own w [(w.heap.size, 32, (· = .agg (vals La))), ((w.heap.size + 1), 32, (· = .agg (vals Lu))), (g5, 32, (· = .agg (vals (bytesN rm.val))))] V1' := hS'
  clear hS'
  refine tl_assign rfl (.tmp 14) rfl 6 rfl (by rw [HS]; decide) _ (eval_tmp q14) fun t1 hz hq he => ?_
  replace h2 := (he 2 (by decide)).trans h2
  replace h3 := (he 3 (by decide)).trans h3
  replace h5 := (he 5 (by decide)).trans h5
  replace HS := hz.trans HS
  clear hz he q13 q14 v13 v14
  have h6 := hq
  clear hq
  refine wpList_nil ?_
  obtain ⟨f, e0, hf⟩ := wash HS
  have f2 := hf 2 _ h2
  have f3 := hf 3 _ h3
  have f5 := hf 5 _ h5
  have f6 := hf 6 _ h6
  clear hf
  rw [e0.trans (show _ = #[f 0, f 1, f 2, f 3, f 4, f 5, f 6, f 7, f 8, f 9, f 10, f 11, f 12, f 13, f 14, f 15, f 16, f 17, f 18, f 19, f 20, f 21, f 22, f 23, f 24, f 25, f 26, f 27, f 28, f 29, f 30, f 31, f 32, f 33, f 34, f 35, f 36, f 37, f 38, f 39, f 40, f 41, f 42, f 43, f 44, f 45, f 46, f 47, f 48, f 49, f 50, f 51, f 52] from by kernel_rfl), f2, f3, f5, f6]
  clear f2 f3 f5 f6
  clear e0
  try dsimp only
  clear h2 h3 h5 h6 b5 r5 ltM hMB hM HS t1 t0 M
  go_wp2_with ((with_reducible refine guard_list ?_); first | (refine held_load 26 _ rfl ?_) | (refine held_load 22 _ rfl ?_) | (refine held_load 68 _ rfl ?_))
  obtain ⟨M, hM⟩ : ∃ M, M = V1'.heap.size := ⟨_, rfl⟩
  have hMB : w.heap.size ≤ M := hM ▸ hS.1.size
  have ltM := hS.lt
  rw [← hM] at ltM
  refine hide_held fun t0 HT => ?_
  have HS : t0.size = 53 := by rw [HT]; rfl
  have h2 : t0[2]? = some (.pointer (some ⟨w.heap.size, 0, none⟩)) := by rw [HT]; rfl
  have h3 : t0[3]? = some (.pointer (some ⟨(w.heap.size + 1), 0, none⟩)) := by rw [HT]; rfl
  have h5 : t0[5]? = some (.pointer (some ⟨g5, 0, none⟩)) := by rw [HT]; rfl
  have h6 : t0[6]? = some (.int .u64 (mk bb)) := by rw [HT]; rfl
  clear HT
  refine wp_list_most 7 (fun i => [16, 17, 18, 15, 19, 20, 7].getD i 0) (fun i => [none, none, none, none, none, none, some 32].getD i none) (fun i => [(· = .agg (vals La)), (· = .agg (vals Lu)), (· = .tuple #[.agg (vals (bytesN rm.val)), .int .u64 (mk bb)]), (· = .tuple #[.agg (vals (bytesN rm.val)), .int .u64 (mk bb)]), (· = .agg (vals (bytesN rm.val))), (· = .int .u64 (mk bb)), (fun _ => True)].getD i (fun _ => True)) (fun w' => Own w [(w.heap.size, 32, (· = .agg (vals La))), ((w.heap.size + 1), 32, (· = .agg (vals Lu))), (g5, 32, (· = .agg (vals (bytesN rm.val))))] w' ∧ M ≤ w'.heap.size) M
    (by kernel_rfl) (slots_apart (by kernel_rfl)) (slots_lie (by rw [HS]; kernel_rfl)) ⟨hS, Nat.le_of_eq hM⟩ (fun w' h => h.2) (fun w1 w2 h b => ⟨h.1.keep b, Nat.le_trans h.2 b.size⟩) ?_ ?_ ?_
  · clear hS
    intro i o hi ho hA
    have hc : i = 0 ∨ i = 1 ∨ i = 2 ∨ i = 3 ∨ i = 4 ∨ i = 5 ∨ i = 6 := by omega
    rcases hc with rfl | rfl | rfl | rfl | rfl | rfl | rfl
    · obtain rfl := Option.some.inj ho
      refine ⟨rfl, fun a w' hS hold hin K hK => ?_⟩
      refine if_always rfl ?_
      exact op_ld_own 32 tKey (.tmp 2) rfl rfl _ (eval_tmp ((hold 2 (slots_not (by kernel_rfl))).trans h2)) hS.1 0 rfl hK
    · obtain rfl := Option.some.inj ho
      refine ⟨rfl, fun a w' hS hold hin K hK => ?_⟩
      refine if_always rfl ?_
      exact op_ld_own 32 tKey (.tmp 3) rfl rfl _ (eval_tmp ((hold 3 (slots_not (by kernel_rfl))).trans h3)) hS.1 1 rfl hK
    · obtain rfl := Option.some.inj ho
      refine ⟨rfl, fun a w' hS hold hin K hK => ?_⟩
      obtain ⟨y0, x0, rfl⟩ := hin 0 rfl (by omega) rfl
      obtain ⟨y1, x1, rfl⟩ := hin 1 rfl (by omega) rfl
      refine if_always rfl ?_
      exact op_fn2 _ _ _ _ _ _ rfl rfl (eval_tmp x0) (eval_tmp x1) (by intro args w; kernel_rfl) (Hhg.out _) hK
    · obtain rfl := Option.some.inj ho
      refine ⟨rfl, fun a w' hS hold hin K hK => ?_⟩
      obtain ⟨y2, x2, rfl⟩ := hin 2 rfl (by omega) rfl
      refine if_always rfl ?_
      exact op_move (V := (· = .tuple #[.agg (vals (bytesN rm.val)), .int .u64 (mk bb)])) _ _ rfl rfl (eval_tmp x2) rfl hK
    · obtain rfl := Option.some.inj ho
      refine ⟨rfl, fun a w' hS hold hin K hK => ?_⟩
      obtain ⟨y3, x3, rfl⟩ := hin 3 rfl (by omega) rfl
      refine if_always rfl ?_
      exact op_tup0 (V := (· = .agg (vals (bytesN rm.val)))) _ rfl rfl (eval_tmp x3) rfl hK
    · obtain rfl := Option.some.inj ho
      refine ⟨rfl, fun a w' hS hold hin K hK => ?_⟩
      obtain ⟨y3, x3, rfl⟩ := hin 3 rfl (by omega) rfl
      refine if_always rfl ?_
      exact op_tup1 (V := (· = .int .u64 (mk bb))) _ rfl rfl (eval_tmp x3) rfl hK
    · cases hA
  · intro i o sz hi ho hA
    have hc : i = 0 ∨ i = 1 ∨ i = 2 ∨ i = 3 ∨ i = 4 ∨ i = 5 ∨ i = 6 := by omega
    rcases hc with rfl | rfl | rfl | rfl | rfl | rfl | rfl
    · cases hA
    · cases hA
    · cases hA
    · cases hA
    · cases hA
    · cases hA
    · obtain rfl := Option.some.inj ho
      obtain rfl := Option.some.inj hA
      exact ⟨rfl, rfl, 68, #[.int .u8 0, .int .u8 0, .int .u8 0, .int .u8 0, .int .u8 0, .int .u8 0, .int .u8 0, .int .u8 0, .int .u8 0, .int .u8 0, .int .u8 0, .int .u8 0, .int .u8 0, .int .u8 0, .int .u8 0, .int .u8 0, .int .u8 0, .int .u8 0, .int .u8 0, .int .u8 0, .int .u8 0, .int .u8 0, .int .u8 0, .int .u8 0, .int .u8 0, .int .u8 0, .int .u8 0, .int .u8 0, .int .u8 0, .int .u8 0, .int .u8 0, .int .u8 0], rfl, fun a w' K h => wp_new 68 #[.int .u8 0, .int .u8 0, .int .u8 0, .int .u8 0, .int .u8 0, .int .u8 0, .int .u8 0, .int .u8 0, .int .u8 0, .int .u8 0, .int .u8 0, .int .u8 0, .int .u8 0, .int .u8 0, .int .u8 0, .int .u8 0, .int .u8 0, .int .u8 0, .int .u8 0, .int .u8 0, .int .u8 0, .int .u8 0, .int .u8 0, .int .u8 0, .int .u8 0, .int .u8 0, .int .u8 0, .int .u8 0, .int .u8 0, .int .u8 0, .int .u8 0, .int .u8 0] (fun w => by kernel_rfl) h⟩
  clear hS
  intro t1 V2 hs hold hout hall hne hS
  replace HS := hs.trans HS
  replace hS := hS.1
  obtain ⟨g7, h7, b7, r7⟩ : ∃ g, t1[7]? = some (.pointer (some ⟨g, 0, none⟩)) ∧ M ≤ g ∧ ∃ cs ty, V2.heap[g]? = some (.cells cs ty (0, 0)) ∧ cs.size = 32 := by
    obtain ⟨g, p1, p2, ty, cs, p3, p4⟩ := hall 6 (by omega) 32 rfl
    exact ⟨g, p1, p2, cs, ty, p3, p4⟩
  replace hS : Own w [(w.heap.size, 32, (· = .agg (vals La))), ((w.heap.size + 1), 32, (· = .agg (vals Lu))), (g5, 32, (· = .agg (vals (bytesN rm.val)))), (g7, 32, (fun _ => True))] V2 := hS.add (Nat.le_trans hMB b7) (fun r hr => Nat.ne_of_lt (Nat.lt_of_lt_of_le (ltM r hr) b7)) (Own.any r7)
  obtain ⟨x19, q19, v19⟩ : ∃ x, t1[19]? = some x ∧ ((· = .agg (vals (bytesN rm.val)))) x := hout 4 (by omega) rfl
  obtain ⟨x20, q20, v20⟩ : ∃ x, t1[20]? = some x ∧ ((· = .int .u64 (mk bb))) x := hout 5 (by omega) rfl
  replace q20 : t1[20]? = some (.int .u64 (mk bb)) := q20.trans (congrArg some v20)
  replace h2 := (hold 2 (slots_not (by kernel_rfl))).trans h2
  replace h3 := (hold 3 (slots_not (by kernel_rfl))).trans h3
  replace h5 := (hold 5 (slots_not (by kernel_rfl))).trans h5
  replace h6 := (hold 6 (slots_not (by kernel_rfl))).trans h6
  clear hold hout hs hall hne
  simp only [List.drop_succ_cons, List.drop_zero]
  refine st_own 32 tKey rfl (.tmp 7) (.tmp 19) rfl rfl _ _ (eval_tmp h7) (eval_tmp q19) (V' := (· = .agg (vals (bytesN rm.val)))) v19 (by_row (bytesN_len _)) hS 3 rfl fun V2' hS' _ => ?_
  replace hS : Own w [(w.heap.size, 32, (· = .agg (vals La))), ((w.heap.size + 1), 32, (· = .agg (vals Lu))), (g5, 32, (· = .agg (vals (bytesN rm.val)))), (g7, 32, (· = .agg (vals (bytesN rm.val))))] V2' := hS'
  clear hS'
  refine tl_assign rfl (.tmp 20) rfl 8 rfl (by rw [HS]; decide) _ (eval_tmp q20) fun t1 hz hq he => ?_
  replace h2 := (he 2 (by decide)).trans h2
  replace h3 := (he 3 (by decide)).trans h3
  replace h5 := (he 5 (by decide)).trans h5
  replace h6 := (he 6 (by decide)).trans h6
  replace h7 := (he 7 (by decide)).trans h7
  replace HS := hz.trans HS
  clear hz he q19 q20 v19 v20
  have h8 := hq
  clear hq
  refine wpList_nil ?_
  obtain ⟨f, e0, hf⟩ := wash HS
  have f2 := hf 2 _ h2
  have f3 := hf 3 _ h3
  have f5 := hf 5 _ h5
  have f6 := hf 6 _ h6
  have f7 := hf 7 _ h7
  have f8 := hf 8 _ h8
  clear hf
  rw [e0.trans (show _ = #[f 0, f 1, f 2, f 3, f 4, f 5, f 6, f 7, f 8, f 9, f 10, f 11, f 12, f 13, f 14, f 15, f 16, f 17, f 18, f 19, f 20, f 21, f 22, f 23, f 24, f 25, f 26, f 27, f 28, f 29, f 30, f 31, f 32, f 33, f 34, f 35, f 36, f 37, f 38, f 39, f 40, f 41, f 42, f 43, f 44, f 45, f 46, f 47, f 48, f 49, f 50, f 51, f 52] from by kernel_rfl), f2, f3, f5, f6, f7, f8]
  clear f2 f3 f5 f6 f7 f8
  clear e0
  try dsimp only
  clear h2 h3 h5 h6 h7 h8 b7 r7 ltM hMB hM HS t1 t0 M
  go_wp2_with fail
  obtain ⟨M, hM⟩ : ∃ M, M = V2'.heap.size := ⟨_, rfl⟩
  refine hide_frame fun t0 HT => ?_
  have HS : t0.size = 53 := by rw [HT]; rfl
  have h2 : t0[2]? = some (.pointer (some ⟨w.heap.size, 0, none⟩)) := by rw [HT]; rfl
  have h3 : t0[3]? = some (.pointer (some ⟨(w.heap.size + 1), 0, none⟩)) := by rw [HT]; rfl
  have h5 : t0[5]? = some (.pointer (some ⟨g5, 0, none⟩)) := by rw [HT]; rfl
  have h6 : t0[6]? = some (.int .u64 (mk bb)) := by rw [HT]; rfl
  have h7 : t0[7]? = some (.pointer (some ⟨g7, 0, none⟩)) := by rw [HT]; rfl
  have h8 : t0[8]? = some (.int .u64 (mk bb)) := by rw [HT]; rfl
  clear HT
  refine wp_region_all 32 (fun i => [21, 22, 23, 24, 25, 26, 27, 28, 29, 30, 31, 32, 33, 34, 35, 36, 37, 38, 39, 40, 41, 42, 43, 44, 45, 46, 47, 48, 49, 50, 51, 52, 4].getD i 0) (fun i => [(· = .agg (vals La)), (· = .agg (vals (bytesN va))), (· = .agg (vals La)), (· = .agg (vals (bytesN va))), (· = .bool true), (· = .bool true), (· = .agg (vals La)), (· = .agg (vals Lu)), (· = .agg (vals (bytesN rm.val))), (· = .agg (vals (bytesN rm.val))), (· = .bool true), (· = .bool true), (· = .bool true), (· = .agg (vals (bytesN rm.val))), (· = .agg (vals (bytesN rm.val))), (· = .bool true), (· = .bool true), (· = .bool true), (· = .int .u64 (mk bb)), (· = .int .u64 (mk bb)), (· = .bool true), (· = .bool true), (· = .bool true), (· = .agg (vals La)), (· = .agg (vals (bytesN rb.val))), (· = .agg (vals La)), (· = .agg (vals (bytesN rb.val))), (· = .bool true), (· = .bool true), (· = .bool true), (· = .bool true), (· = .bool true), (· = .bool true)].getD i (fun _ => True)) (fun w' => Own w [(w.heap.size, 32, (· = .agg (vals La))), ((w.heap.size + 1), 32, (· = .agg (vals Lu))), (g5, 32, (· = .agg (vals (bytesN rm.val)))), (g7, 32, (· = .agg (vals (bytesN rm.val))))] w' ∧ M ≤ w'.heap.size)
    (by kernel_rfl) (by kernel_rfl) (by kernel_rfl) (slots_apart (by kernel_rfl)) (slots_lie (by rw [HS]; kernel_rfl)) ⟨hS.drew, Nat.le_of_eq hM⟩ (fun w1 w2 h b => ⟨h.1.keep b, Nat.le_trans h.2 b.size⟩) ?_ ?_
  · clear hS
    intro i o hi ho
    have hc : i = 0 ∨ i = 1 ∨ i = 2 ∨ i = 3 ∨ i = 4 ∨ i = 5 ∨ i = 6 ∨ i = 7 ∨ i = 8 ∨ i = 9 ∨ i = 10 ∨ i = 11 ∨ i = 12 ∨ i = 13 ∨ i = 14 ∨ i = 15 ∨ i = 16 ∨ i = 17 ∨ i = 18 ∨ i = 19 ∨ i = 20 ∨ i = 21 ∨ i = 22 ∨ i = 23 ∨ i = 24 ∨ i = 25 ∨ i = 26 ∨ i = 27 ∨ i = 28 ∨ i = 29 ∨ i = 30 ∨ i = 31 ∨ i = 32 := by omega
    rcases hc with rfl | rfl | rfl | rfl | rfl | rfl | rfl | rfl | rfl | rfl | rfl | rfl | rfl | rfl | rfl | rfl | rfl | rfl | rfl | rfl | rfl | rfl | rfl | rfl | rfl | rfl | rfl | rfl | rfl | rfl | rfl | rfl | rfl
    · obtain rfl := Option.some.inj ho
      refine ⟨rfl, fun a w' hS hold hin K hK => ?_⟩
      refine if_always rfl ?_
      exact op_ld_own 32 tKey (.tmp 2) rfl rfl _ (eval_tmp ((hold 2 (slots_not (by kernel_rfl))).trans h2)) hS.1 0 rfl hK
    · obtain rfl := Option.some.inj ho
      refine ⟨rfl, fun a w' hS hold hin K hK => ?_⟩
      obtain ⟨y0, x0, rfl⟩ := hin 0 rfl (by omega)
      refine if_always rfl ?_
      exact op_fn1 _ _ _ _ rfl rfl (eval_tmp x0) (by intro args w; kernel_rfl) (clamp_ev La HLLa.out hbLa va Hk1.out _) hK
    · obtain rfl := Option.some.inj ho
      refine ⟨rfl, fun a w' hS hold hin K hK => ?_⟩
      refine if_always rfl ?_
      exact op_ld_own 32 tKey (.tmp 2) rfl rfl _ (eval_tmp ((hold 2 (slots_not (by kernel_rfl))).trans h2)) hS.1 0 rfl hK
    · obtain rfl := Option.some.inj ho
      refine ⟨rfl, fun a w' hS hold hin K hK => ?_⟩
      obtain ⟨y2, x2, rfl⟩ := hin 2 rfl (by omega)
      refine if_always rfl ?_
      exact op_fn1 _ _ _ _ rfl rfl (eval_tmp x2) (by intro args w; kernel_rfl) (clamp9_ev La HLLa.out hbLa va Hk1.out _) hK
    · obtain rfl := Option.some.inj ho
      refine ⟨rfl, fun a w' hS hold hin K hK => ?_⟩
      obtain ⟨y1, x1, rfl⟩ := hin 1 rfl (by omega)
      obtain ⟨y3, x3, rfl⟩ := hin 3 rfl (by omega)
      refine if_always rfl ?_
      exact op_bin (V := (· = .bool true)) _ _ _ _ _ _ _ (.bool true) rfl rfl (eval_tmp x1) (eval_tmp x3) (fun w => eql_key_same (bytesN va) (bytesN_len _) w) rfl hK
    · obtain rfl := Option.some.inj ho
      refine ⟨rfl, fun a w' hS hold hin K hK => ?_⟩
      obtain ⟨y4, x4, rfl⟩ := hin 4 rfl (by omega)
      refine if_always rfl ?_
      exact op_move (V := (· = .bool true)) _ _ rfl rfl (eval_tmp x4) rfl hK
    · obtain rfl := Option.some.inj ho
      refine ⟨rfl, fun a w' hS hold hin K hK => ?_⟩
      obtain ⟨y5, x5, rfl⟩ := hin 5 rfl (by omega)
      refine if_guard (d := 26) rfl rfl x5 ?_
      exact op_ld_own 32 tKey (.tmp 2) rfl rfl _ (eval_tmp ((hold 2 (slots_not (by kernel_rfl))).trans h2)) hS.1 0 rfl hK
    · obtain rfl := Option.some.inj ho
      refine ⟨rfl, fun a w' hS hold hin K hK => ?_⟩
      obtain ⟨y5, x5, rfl⟩ := hin 5 rfl (by omega)
      refine if_guard (d := 26) rfl rfl x5 ?_
      exact op_ld_own 32 tKey (.tmp 3) rfl rfl _ (eval_tmp ((hold 3 (slots_not (by kernel_rfl))).trans h3)) hS.1 1 rfl hK
    · obtain rfl := Option.some.inj ho
      refine ⟨rfl, fun a w' hS hold hin K hK => ?_⟩
      obtain ⟨y5, x5, rfl⟩ := hin 5 rfl (by omega)
      obtain ⟨y6, x6, rfl⟩ := hin 6 rfl (by omega)
      obtain ⟨y7, x7, rfl⟩ := hin 7 rfl (by omega)
      refine if_guard (d := 26) rfl rfl x5 ?_
      exact op_fn2 _ _ _ _ _ _ rfl rfl (eval_tmp x6) (eval_tmp x7) (by intro args w; kernel_rfl) (ladmul_ev La Lu va xu rm _ HLLa.out hbLa HLLu.out hbLu Hhva.out Hhxu.out Hhrm.out) hK
    · obtain rfl := Option.some.inj ho
      refine ⟨rfl, fun a w' hS hold hin K hK => ?_⟩
      obtain ⟨y5, x5, rfl⟩ := hin 5 rfl (by omega)
      refine if_guard (d := 26) rfl rfl x5 ?_
      exact op_ld_own 32 tKey (.tmp 5) rfl rfl _ (eval_tmp ((hold 5 (slots_not (by kernel_rfl))).trans h5)) hS.1 2 rfl hK
    · obtain rfl := Option.some.inj ho
      refine ⟨rfl, fun a w' hS hold hin K hK => ?_⟩
      obtain ⟨y5, x5, rfl⟩ := hin 5 rfl (by omega)
      obtain ⟨y8, x8, rfl⟩ := hin 8 rfl (by omega)
      obtain ⟨y9, x9, rfl⟩ := hin 9 rfl (by omega)
      refine if_guard (d := 26) rfl rfl x5 ?_
      exact op_bin (V := (· = .bool true)) _ _ _ _ _ _ _ (.bool true) rfl rfl (eval_tmp x8) (eval_tmp x9) (fun w => eql_key_same (bytesN rm.val) (bytesN_len _) w) rfl hK
    · obtain rfl := Option.some.inj ho
      refine ⟨rfl, fun a w' hS hold hin K hK => ?_⟩
      obtain ⟨y5, x5, rfl⟩ := hin 5 rfl (by omega)
      obtain ⟨y10, x10, rfl⟩ := hin 10 rfl (by omega)
      refine if_always rfl ?_
      exact op_pick (V := (· = .bool true)) _ _ _ true _ rfl rfl (eval_tmp x5) (show (Act.eval a _) = _ from (eval_tmp x10)) rfl hK
    · obtain rfl := Option.some.inj ho
      refine ⟨rfl, fun a w' hS hold hin K hK => ?_⟩
      obtain ⟨y11, x11, rfl⟩ := hin 11 rfl (by omega)
      refine if_always rfl ?_
      exact op_move (V := (· = .bool true)) _ _ rfl rfl (eval_tmp x11) rfl hK
    · obtain rfl := Option.some.inj ho
      refine ⟨rfl, fun a w' hS hold hin K hK => ?_⟩
      obtain ⟨y12, x12, rfl⟩ := hin 12 rfl (by omega)
      refine if_guard (d := 33) rfl rfl x12 ?_
      exact op_ld_own 32 tKey (.tmp 7) rfl rfl _ (eval_tmp ((hold 7 (slots_not (by kernel_rfl))).trans h7)) hS.1 3 rfl hK
    · obtain rfl := Option.some.inj ho
      refine ⟨rfl, fun a w' hS hold hin K hK => ?_⟩
      obtain ⟨y12, x12, rfl⟩ := hin 12 rfl (by omega)
      refine if_guard (d := 33) rfl rfl x12 ?_
      exact op_ld_own 32 tKey (.tmp 5) rfl rfl _ (eval_tmp ((hold 5 (slots_not (by kernel_rfl))).trans h5)) hS.1 2 rfl hK
    · obtain rfl := Option.some.inj ho
      refine ⟨rfl, fun a w' hS hold hin K hK => ?_⟩
      obtain ⟨y12, x12, rfl⟩ := hin 12 rfl (by omega)
      obtain ⟨y13, x13, rfl⟩ := hin 13 rfl (by omega)
      obtain ⟨y14, x14, rfl⟩ := hin 14 rfl (by omega)
      refine if_guard (d := 33) rfl rfl x12 ?_
      exact op_bin (V := (· = .bool true)) _ _ _ _ _ _ _ (.bool true) rfl rfl (eval_tmp x13) (eval_tmp x14) (fun w => eql_key_same (bytesN rm.val) (bytesN_len _) w) rfl hK
    · obtain rfl := Option.some.inj ho
      refine ⟨rfl, fun a w' hS hold hin K hK => ?_⟩
      obtain ⟨y12, x12, rfl⟩ := hin 12 rfl (by omega)
      obtain ⟨y15, x15, rfl⟩ := hin 15 rfl (by omega)
      refine if_always rfl ?_
      exact op_pick (V := (· = .bool true)) _ _ _ true _ rfl rfl (eval_tmp x12) (show (Act.eval a _) = _ from (eval_tmp x15)) rfl hK
    · obtain rfl := Option.some.inj ho
      refine ⟨rfl, fun a w' hS hold hin K hK => ?_⟩
      obtain ⟨y16, x16, rfl⟩ := hin 16 rfl (by omega)
      refine if_always rfl ?_
      exact op_move (V := (· = .bool true)) _ _ rfl rfl (eval_tmp x16) rfl hK
    · obtain rfl := Option.some.inj ho
      refine ⟨rfl, fun a w' hS hold hin K hK => ?_⟩
      obtain ⟨y17, x17, rfl⟩ := hin 17 rfl (by omega)
      refine if_guard (d := 38) rfl rfl x17 ?_
      exact op_move (V := (· = .int .u64 (mk bb))) _ _ rfl rfl (eval_tmp ((hold 8 (slots_not (by kernel_rfl))).trans h8)) rfl hK
    · obtain rfl := Option.some.inj ho
      refine ⟨rfl, fun a w' hS hold hin K hK => ?_⟩
      obtain ⟨y17, x17, rfl⟩ := hin 17 rfl (by omega)
      refine if_guard (d := 38) rfl rfl x17 ?_
      exact op_move (V := (· = .int .u64 (mk bb))) _ _ rfl rfl (eval_tmp ((hold 6 (slots_not (by kernel_rfl))).trans h6)) rfl hK
    · obtain rfl := Option.some.inj ho
      refine ⟨rfl, fun a w' hS hold hin K hK => ?_⟩
      obtain ⟨y17, x17, rfl⟩ := hin 17 rfl (by omega)
      obtain ⟨y18, x18, rfl⟩ := hin 18 rfl (by omega)
      obtain ⟨y19, x19, rfl⟩ := hin 19 rfl (by omega)
      refine if_guard (d := 38) rfl rfl x17 ?_
      exact op_bin (V := (· = .bool true)) _ _ _ _ _ _ _ (.bool true) rfl rfl (eval_tmp x18) (eval_tmp x19) (fun w => eql_mk_same bb w) rfl hK
    · obtain rfl := Option.some.inj ho
      refine ⟨rfl, fun a w' hS hold hin K hK => ?_⟩
      obtain ⟨y17, x17, rfl⟩ := hin 17 rfl (by omega)
      obtain ⟨y20, x20, rfl⟩ := hin 20 rfl (by omega)
      refine if_always rfl ?_
      exact op_pick (V := (· = .bool true)) _ _ _ true _ rfl rfl (eval_tmp x17) (show (Act.eval a _) = _ from (eval_tmp x20)) rfl hK
    · obtain rfl := Option.some.inj ho
      refine ⟨rfl, fun a w' hS hold hin K hK => ?_⟩
      obtain ⟨y21, x21, rfl⟩ := hin 21 rfl (by omega)
      refine if_always rfl ?_
      exact op_move (V := (· = .bool true)) _ _ rfl rfl (eval_tmp x21) rfl hK
    · obtain rfl := Option.some.inj ho
      refine ⟨rfl, fun a w' hS hold hin K hK => ?_⟩
      obtain ⟨y22, x22, rfl⟩ := hin 22 rfl (by omega)
      refine if_guard (d := 43) rfl rfl x22 ?_
      exact op_ld_own 32 tKey (.tmp 2) rfl rfl _ (eval_tmp ((hold 2 (slots_not (by kernel_rfl))).trans h2)) hS.1 0 rfl hK
    · obtain rfl := Option.some.inj ho
      refine ⟨rfl, fun a w' hS hold hin K hK => ?_⟩
      obtain ⟨y22, x22, rfl⟩ := hin 22 rfl (by omega)
      obtain ⟨y23, x23, rfl⟩ := hin 23 rfl (by omega)
      refine if_guard (d := 43) rfl rfl x22 ?_
      exact op_fn1 _ _ _ _ rfl rfl (eval_tmp x23) (by intro args w; kernel_rfl) (base_any La va rb _ HLLa.out hbLa Hhva.out Hhrb.out) hK
    · obtain rfl := Option.some.inj ho
      refine ⟨rfl, fun a w' hS hold hin K hK => ?_⟩
      obtain ⟨y22, x22, rfl⟩ := hin 22 rfl (by omega)
      refine if_guard (d := 43) rfl rfl x22 ?_
      exact op_ld_own 32 tKey (.tmp 2) rfl rfl _ (eval_tmp ((hold 2 (slots_not (by kernel_rfl))).trans h2)) hS.1 0 rfl hK
    · obtain rfl := Option.some.inj ho
      refine ⟨rfl, fun a w' hS hold hin K hK => ?_⟩
      obtain ⟨y22, x22, rfl⟩ := hin 22 rfl (by omega)
      obtain ⟨y25, x25, rfl⟩ := hin 25 rfl (by omega)
      refine if_guard (d := 43) rfl rfl x22 ?_
      exact op_fn1 _ _ _ _ rfl rfl (eval_tmp x25) (by intro args w; kernel_rfl) (base9_any La va rb _ HLLa.out hbLa Hhva.out Hhrb.out) hK
    · obtain rfl := Option.some.inj ho
      refine ⟨rfl, fun a w' hS hold hin K hK => ?_⟩
      obtain ⟨y22, x22, rfl⟩ := hin 22 rfl (by omega)
      obtain ⟨y24, x24, rfl⟩ := hin 24 rfl (by omega)
      obtain ⟨y26, x26, rfl⟩ := hin 26 rfl (by omega)
      refine if_guard (d := 43) rfl rfl x22 ?_
      exact op_bin (V := (· = .bool true)) _ _ _ _ _ _ _ (.bool true) rfl rfl (eval_tmp x24) (eval_tmp x26) (fun w => eql_key_same (bytesN rb.val) (bytesN_len _) w) rfl hK
    · obtain rfl := Option.some.inj ho
      refine ⟨rfl, fun a w' hS hold hin K hK => ?_⟩
      obtain ⟨y22, x22, rfl⟩ := hin 22 rfl (by omega)
      obtain ⟨y27, x27, rfl⟩ := hin 27 rfl (by omega)
      refine if_always rfl ?_
      exact op_pick (V := (· = .bool true)) _ _ _ true _ rfl rfl (eval_tmp x22) (show (Act.eval a _) = _ from (eval_tmp x27)) rfl hK
    · obtain rfl := Option.some.inj ho
      refine ⟨rfl, fun a w' hS hold hin K hK => ?_⟩
      obtain ⟨y28, x28, rfl⟩ := hin 28 rfl (by omega)
      refine if_always rfl ?_
      exact op_move (V := (· = .bool true)) _ _ rfl rfl (eval_tmp x28) rfl hK
    · obtain rfl := Option.some.inj ho
      refine ⟨rfl, fun a w' hS hold hin K hK => ?_⟩
      obtain ⟨y29, x29, rfl⟩ := hin 29 rfl (by omega)
      refine if_guard (d := 50) rfl rfl x29 ?_
      exact op_fn0 _  _  rfl rfl  (by intro args w; kernel_rfl) (works_any _) hK
    · obtain rfl := Option.some.inj ho
      refine ⟨rfl, fun a w' hS hold hin K hK => ?_⟩
      obtain ⟨y29, x29, rfl⟩ := hin 29 rfl (by omega)
      obtain ⟨y30, x30, rfl⟩ := hin 30 rfl (by omega)
      refine if_always rfl ?_
      exact op_pick (V := (· = .bool true)) _ _ _ true _ rfl rfl (eval_tmp x29) (show (Act.eval a _) = _ from (eval_tmp x30)) rfl hK
    · obtain rfl := Option.some.inj ho
      refine ⟨rfl, fun a w' hS hold hin K hK => ?_⟩
      obtain ⟨y31, x31, rfl⟩ := hin 31 rfl (by omega)
      refine if_always rfl ?_
      exact op_assign (V := (· = .bool true)) _ _ rfl rfl (eval_tmp x31) rfl hK
  clear hS
  intro t1 V3 hs hold hout hS
  replace HS := hs.trans HS
  replace hS := hS.1
  obtain ⟨_, q4, rfl⟩ : ∃ x, t1[4]? = some x ∧ x = (.bool true : Value) := hout 32 (by omega)
  replace h2 := (hold 2 (slots_not (by kernel_rfl))).trans h2
  replace h3 := (hold 3 (slots_not (by kernel_rfl))).trans h3
  replace h5 := (hold 5 (slots_not (by kernel_rfl))).trans h5
  replace h6 := (hold 6 (slots_not (by kernel_rfl))).trans h6
  replace h7 := (hold 7 (slots_not (by kernel_rfl))).trans h7
  replace h8 := (hold 8 (slots_not (by kernel_rfl))).trans h8
  clear hold hout hs
  obtain ⟨f, e0, hf⟩ := wash HS
  have f2 := hf 2 _ h2
  have f3 := hf 3 _ h3
  have f5 := hf 5 _ h5
  have f6 := hf 6 _ h6
  have f7 := hf 7 _ h7
  have f8 := hf 8 _ h8
  have f4 := hf 4 _ q4
  clear hf
  rw [e0.trans (show _ = #[f 0, f 1, f 2, f 3, f 4, f 5, f 6, f 7, f 8, f 9, f 10, f 11, f 12, f 13, f 14, f 15, f 16, f 17, f 18, f 19, f 20, f 21, f 22, f 23, f 24, f 25, f 26, f 27, f 28, f 29, f 30, f 31, f 32, f 33, f 34, f 35, f 36, f 37, f 38, f 39, f 40, f 41, f 42, f 43, f 44, f 45, f 46, f 47, f 48, f 49, f 50, f 51, f 52] from by kernel_rfl), f2, f3, f5, f6, f7, f8, f4]
  clear f2 f3 f5 f6 f7 f8 f4
  clear e0
  try dsimp only
  clear h2 h3 h5 h6 h7 h8 q4 hM HS t1 t0 M
  go_wp2_with fail
  go_returns
  exact ⟨rfl, hS.1⟩
end Go.Proofs.Ytciakfhjjnmeeaa

namespace Go.Proofs.Ytciakfhjjnmeeaa
open Go.ChangeShapes Go.WideShapes Go.ChangeAt Go.RowKit
open Go.ChangeMaps (open_string shut_string)

set_option maxRecDepth 100000 in
theorem ladderMuls_lifted (os : Os) (started : os.Started) (H : Type) (enc : TypeId × Value → H) :
    ReturnsInHanded {} Try.checked os 13 .any (Rows.ladderMulsSpec.pre6 enc Try.prog Try.f13 Rows.ladderMulsRow.domain false) (Rows.ladderMulsSpec.post enc Try.prog Try.f13 false true false false) := by
  refine returnsInHanded_of_change (C := Try.checked) own started (by kernel_rfl) Try.func13
    (ChangeSpec.witness6 (enc := enc) (C := Try.checked) false ⟨#[], #[.agg (vals (List.replicate 32 0)), .agg (vals (List.replicate 32 0))], []⟩ 8 (by kernel_rfl) (by kernel_rfl) (by kernel_rfl) (by kernel_rfl)) ?_
  intro W base args ds gs before hval0 hW hcnd _
  have hval : ∀ (j : Nat) t v, Try.f13.params[j]? = some t → args[j]? = some v → Value.okWide Try.prog W .any base t v := hval0
  have hW' := hW
  obtain ⟨p, q, hA0, hV, rfl, hfz, hnd⟩ := hW
  have hA : DataW.TrodAll enc Try.prog W 0 (fun _ => true) true Try.f13.params.toList args.toList ds p := hA0
  rw [Try.params13] at hA hval
  obtain ⟨v0, vs0, d0, ds0, p0, q0, hargs, rfl, rfl, h0, r0⟩ := trodAll_cons hA
  obtain ⟨v1, vs1, d1, ds1, p1, q1, rfl, rfl, rfl, h1, r1⟩ := trodAll_cons r0
  obtain ⟨rfl, rfl, rfl⟩ := trodAll_nil r1
  obtain rfl : args = #[v0, v1] := by cases args; simp_all
  obtain ⟨rfl, rfl⟩ := trodVars_none hV
  have k0 := h0
  have lt0 : ∀ x ∈ p0, x.block < W.heap.size := by obtain ⟨m, hm⟩ := k0; exact DataW.trod_lt m _ _ _ hm
  obtain ⟨L0, rfl, hl0, hw0⟩ := open_row (n := 32) (k := .u8) Try.underlying68 Try.underlying5 (by kernel_rfl) (by kernel_rfl) (by omega) h0
  have k1 := h1
  have lt1 : ∀ x ∈ p1, x.block < W.heap.size := by obtain ⟨m, hm⟩ := k1; exact DataW.trod_lt m _ _ _ hm
  obtain ⟨L1, rfl, hl1, hw1⟩ := open_row (n := 32) (k := .u8) Try.underlying68 Try.underlying5 (by kernel_rfl) (by kernel_rfl) (by omega) h1
  clear hA0 hval0
  refine (ladderMuls_walk L0 L1 W hl0 (byt_of_wf hw0) hl1 (byt_of_wf hw1)).mono fun e W' ⟨he, bel⟩ => ?_
  subst he
  exact ⟨_, rfl, _, _, _, [], _, [], hW', trodAll_mk1 (shut_bool Try.underlying4 _), (trodAll_cons_mk (Below.trod laidOut (by kernel_rfl) (of_decide_eq_true (by kernel_rfl)) k0 bel lt0) (trodAll_cons_mk (Below.trod laidOut (by kernel_rfl) (of_decide_eq_true (by kernel_rfl)) k1 bel lt1) trodAll_mk0)), rfl, bel.frame _, fun h => by cases h⟩

theorem ladderMuls_holds : Rows.LadderMulsSaid :=
  OpenClaim.holds_of_wide_leaving 13 Try.f13 rfl rfl rfl rfl rfl rfl rfl ⟨rfl, rfl, rfl, rfl, rfl⟩ rfl rfl rfl rfl rfl (by kernel_rfl) Try.func13 (by kernel_rfl)
    (of_decide_eq_true (by kernel_rfl)) (by unfold Func.isWrapper; first | (rw [if_pos (by decide +kernel)]; kernel_rfl) | (rw [if_neg (by decide +kernel)]; exact ⟨rfl, rfl⟩))
    (fun os started H enc _ => leaving_of_handed (ladderMuls_lifted os started H enc))

#print axioms ladderMuls_holds
end Go.Proofs.Ytciakfhjjnmeeaa
