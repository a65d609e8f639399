/- Texts of this proof's own, one behind the other. No condition. -/
import Derived.Test.YtciakfhjjnmeeaaBa0
import Derived.Test.YtciakfhjjnmeeaaBa1
import Derived.Test.YtciakfhjjnmeeaaBa2
import Derived.Test.YtciakfhjjnmeeaaBa3
import Derived.Test.YtciakfhjjnmeeaaBa4
import Derived.Test.YtciakfhjjnmeeaaBa5
import Derived.Test.YtciakfhjjnmeeaaQRowLadderMuls0
import Derived.Test.YtciakfhjjnmeeaaQRowLadderMuls1
namespace Go.Proofs.Ytciakfhjjnmeeaa
open Go.RowKit Nt Edw

theorem clamp9_ev (L : List Int) (hl : L.length = 32) (hb : Byt L) (V : Nat) (h : clampL L = bytesN V) (w : World) : Calls Try.prog 52 #[.agg (vals L)] w (Gives (· = .agg (vals (bytesN V))) w) := by
  have := clamp9_any L w hl hb
  rw [h] at this; exact this
/-- The reference's formulas are the plain ladder's. -/
theorem dbl9 (x z : F) : dbl (x, z) = ((x + z) * (x + z) * ((x - z) * (x - z)), ((x + z) * (x + z) - (x - z) * (x - z)) * ((x + z) * (x + z) + 121665 * ((x + z) * (x + z) - (x - z) * (x - z)))) := Prod.ext rfl (by simp only [dbl]; grind)
theorem dad9 (x1 x2 z2 x3 z3 : F) : dad x1 (x2, z2) (x3, z3) = (((x3 - z3) * (x2 + z2) + (x3 + z3) * (x2 - z2)) * ((x3 - z3) * (x2 + z2) + (x3 + z3) * (x2 - z2)), x1 * (((x3 - z3) * (x2 + z2) - (x3 + z3) * (x2 - z2)) * ((x3 - z3) * (x2 + z2) - (x3 + z3) * (x2 - z2)))) := rfl
/-- Two numbers handed back. -/
def IsN2 (n m : F) (v : Value) : Prop := ∃ a b, v = .tuple #[a, b] ∧ IsN n a ∧ IsN m b
theorem dad_sym (x1 : F) (p q : F × F) : dad x1 p q = dad x1 q p := Prod.ext (by simp only [dad]; grind) (by simp only [dad]; grind)

set_option maxHeartbeats 8000000 in
set_option maxRecDepth 100000 in
theorem product9_any (Lk Lu : List Int) (V : Nat) (x1 r1 r2 : F) (w : World) (hlk : Lk.length = 32) (hbk : Byt Lk) (hlu : Lu.length = 32) (hbu : Byt Lu) (hV : clampL Lk = bytesN V) (hV2 : V < 2 ^ 255) (hx : numF Lu = x1) (hR : (lad x1 V 255 ((1, 0), (x1, 1))).1 = (r1, r2)) :
    Calls Try.prog 93 #[.agg (vals Lk), .agg (vals Lu)] w (Gives (IsN2 r1 r2) w) := by
  have HLK := Lib.hid hlk
  have HLU := Lib.hid hlu
  have HV := Lib.hid hV
  have HX := Lib.hid hx
  obtain ⟨RR, hRR⟩ : ∃ r, lad x1 V 255 ((1, 0), (x1, 1)) = r := ⟨_, rfl⟩
  have htop : V / 2 ^ 255 = 0 := Nat.div_eq_of_lt hV2
  rw [hRR] at hR
  have HR := Lib.hid hR
  have HRR := Lib.hid hRR
  clear hlk hlu hV hV2 hx hR hRR htop
  have hS : Own w [(w.heap.size, 32, (· = .agg (vals Lk))), (w.heap.size + 1, 32, (· = .agg (vals Lu))), (w.heap.size + 2, 16, (fun _ => True)), (w.heap.size + 3, 16, (fun _ => True))] ((((w.alloc (.cells (vals Lk) 68)).alloc (.cells (vals Lu) 68)).alloc (.cells (valsK .i64 z16) 131)).alloc (.cells (valsK .i64 z16) 131)) := by
    have a0 : Own w [] ((((w.alloc (.cells (vals Lk) 68)).alloc (.cells (vals Lu) 68)).alloc (.cells (valsK .i64 z16) 131)).alloc (.cells (valsK .i64 z16) 131)) := Own.of_below (by go_grown)
    have a1 := a0.add (g := w.heap.size) (n := 32) (V := (· = .agg (vals Lk))) (Nat.le_refl _) (fun r hr => by cases hr) ⟨_, _, new4_0 .., by rw [vals_size, HLK.out], rfl⟩
    have a2 := a1.add (g := w.heap.size + 1) (n := 32) (V := (· = .agg (vals Lu))) (by omega) (by simp) ⟨_, _, new4_1 .., by rw [vals_size, HLU.out], rfl⟩
    have a3 := a2.add (g := w.heap.size + 2) (n := 16) (V := fun _ => True) (by omega) (by simp) ⟨_, _, new4_2 .., rfl, trivial⟩
    exact a3.add (g := w.heap.size + 3) (n := 16) (V := fun _ => True) (by omega) (by simp) ⟨_, _, new4_3 .., rfl, trivial⟩
  go_enter Try.func93, Try.ntmps93
  go_wp2_with ((with_reducible refine guard_list ?_); first | (refine held_load 26 _ rfl ?_) | (refine held_load 22 _ rfl ?_) | (refine held_load 68 _ rfl ?_) | (refine held_load 131 _ rfl ?_))
  change Held (wpList _ _ _ _ _ ((((w.alloc (.cells (vals Lk) 68)).alloc (.cells (vals Lu) 68)).alloc (.cells (valsK .i64 z16) 131)).alloc (.cells (valsK .i64 z16) 131)))
  generalize (((w.alloc (.cells (vals Lk) 68)).alloc (.cells (vals Lu) 68)).alloc (.cells (valsK .i64 z16) 131)).alloc (.cells (valsK .i64 z16) 131) = W0 at hS ⊢
  obtain ⟨M, hM⟩ : ∃ M, M = W0.heap.size := ⟨_, rfl⟩
  have hMB : w.heap.size ≤ M := hM ▸ hS.1.size
  have ltM := hS.lt
  rw [← hM] at ltM
  refine hide_held fun t0 HT => ?_
  have HS : t0.size = 110 := by rw [HT]; rfl
  have h2 : t0[2]? = some (.pointer (some ⟨w.heap.size, 0, none⟩)) := by rw [HT]; rfl
  have h3 : t0[3]? = some (.pointer (some ⟨(w.heap.size + 1), 0, none⟩)) := by rw [HT]; rfl
  have h4 : t0[4]? = some (.pointer (some ⟨(w.heap.size + 2), 0, none⟩)) := by rw [HT]; rfl
  have h5 : t0[5]? = some (.pointer (some ⟨(w.heap.size + 3), 0, none⟩)) := by rw [HT]; rfl
  clear HT
  refine wp_list_most 3 (fun i => [25, 26, 6].getD i 0) (fun i => [none, none, some 32].getD i none) (fun i => [(· = .agg (vals Lk)), (· = .agg (vals (bytesN V))), (fun _ => True)].getD i (fun _ => True)) (fun w' => Own w [(w.heap.size, 32, (· = .agg (vals Lk))), ((w.heap.size + 1), 32, (· = .agg (vals Lu))), ((w.heap.size + 2), 16, (fun _ => True)), ((w.heap.size + 3), 16, (fun _ => True))] w' ∧ M ≤ w'.heap.size) M
    (by kernel_rfl) (slots_apart (by kernel_rfl)) (slots_lie (by rw [HS]; kernel_rfl)) ⟨hS, Nat.le_of_eq hM⟩ (fun w' h => h.2) (fun w1 w2 h b => ⟨h.1.keep b, Nat.le_trans h.2 b.size⟩) ?_ ?_ ?_
  · clear hS
    intro i o hi ho hA
    have hc : i = 0 ∨ i = 1 ∨ i = 2 := by omega
    rcases hc with rfl | rfl | rfl
    · obtain rfl := Option.some.inj ho
      refine ⟨rfl, fun a w' hS hold hin K hK => ?_⟩
      refine if_always rfl ?_
      exact op_ld_own 32 tKey (.tmp 2) rfl rfl _ (eval_tmp ((hold 2 (slots_not (by kernel_rfl))).trans h2)) hS.1 0 rfl hK
    · obtain rfl := Option.some.inj ho
      refine ⟨rfl, fun a w' hS hold hin K hK => ?_⟩
      obtain ⟨y0, x0, rfl⟩ := hin 0 rfl (by omega) rfl
      refine if_always rfl ?_
      exact op_fn1 _ _ _ _ rfl rfl (eval_tmp x0) (by intro args w; kernel_rfl) (clamp9_ev Lk HLK.out hbk V HV.out _) hK
    · cases hA
  · intro i o sz hi ho hA
    have hc : i = 0 ∨ i = 1 ∨ i = 2 := by omega
    rcases hc with rfl | rfl | rfl
    · cases hA
    · cases hA
    · obtain rfl := Option.some.inj ho
      obtain rfl := Option.some.inj hA
      exact ⟨rfl, rfl, 68, #[.int .u8 0, .int .u8 0, .int .u8 0, .int .u8 0, .int .u8 0, .int .u8 0, .int .u8 0, .int .u8 0, .int .u8 0, .int .u8 0, .int .u8 0, .int .u8 0, .int .u8 0, .int .u8 0, .int .u8 0, .int .u8 0, .int .u8 0, .int .u8 0, .int .u8 0, .int .u8 0, .int .u8 0, .int .u8 0, .int .u8 0, .int .u8 0, .int .u8 0, .int .u8 0, .int .u8 0, .int .u8 0, .int .u8 0, .int .u8 0, .int .u8 0, .int .u8 0], rfl, fun a w' K h => wp_new 68 #[.int .u8 0, .int .u8 0, .int .u8 0, .int .u8 0, .int .u8 0, .int .u8 0, .int .u8 0, .int .u8 0, .int .u8 0, .int .u8 0, .int .u8 0, .int .u8 0, .int .u8 0, .int .u8 0, .int .u8 0, .int .u8 0, .int .u8 0, .int .u8 0, .int .u8 0, .int .u8 0, .int .u8 0, .int .u8 0, .int .u8 0, .int .u8 0, .int .u8 0, .int .u8 0, .int .u8 0, .int .u8 0, .int .u8 0, .int .u8 0, .int .u8 0, .int .u8 0] (fun w => by kernel_rfl) h⟩
  clear hS
  intro t1 V1 hs hold hout hall hne hS
  replace HS := hs.trans HS
  replace hS := hS.1
  obtain ⟨gn, h6, b6, r6⟩ : ∃ g, t1[6]? = some (.pointer (some ⟨g, 0, none⟩)) ∧ M ≤ g ∧ ∃ cs ty, V1.heap[g]? = some (.cells cs ty (0, 0)) ∧ cs.size = 32 := by
    obtain ⟨g, p1, p2, ty, cs, p3, p4⟩ := hall 2 (by omega) 32 rfl
    exact ⟨g, p1, p2, cs, ty, p3, p4⟩
  replace hS : Own w [(w.heap.size, 32, (· = .agg (vals Lk))), ((w.heap.size + 1), 32, (· = .agg (vals Lu))), ((w.heap.size + 2), 16, (fun _ => True)), ((w.heap.size + 3), 16, (fun _ => True)), (gn, 32, (fun _ => True))] V1 := hS.add (Nat.le_trans hMB b6) (fun r hr => Nat.ne_of_lt (Nat.lt_of_lt_of_le (ltM r hr) b6)) (Own.any r6)
  obtain ⟨x26, q26, v26⟩ : ∃ x, t1[26]? = some x ∧ ((· = .agg (vals (bytesN V)))) x := hout 1 (by omega) rfl
  replace h2 := (hold 2 (slots_not (by kernel_rfl))).trans h2
  replace h3 := (hold 3 (slots_not (by kernel_rfl))).trans h3
  replace h4 := (hold 4 (slots_not (by kernel_rfl))).trans h4
  replace h5 := (hold 5 (slots_not (by kernel_rfl))).trans h5
  clear hold hout hs hall hne
  simp only [List.drop_succ_cons, List.drop_zero]
  refine st_own 32 tKey rfl (.tmp 6) (.tmp 26) rfl rfl _ _ (eval_tmp h6) (eval_tmp q26) (V' := (· = .agg (vals (bytesN V)))) v26 (by_row (bytesN_len _)) hS 4 rfl fun V1' hS' _ => ?_
  replace hS : Own w [(w.heap.size, 32, (· = .agg (vals Lk))), ((w.heap.size + 1), 32, (· = .agg (vals Lu))), ((w.heap.size + 2), 16, (fun _ => True)), ((w.heap.size + 3), 16, (fun _ => True)), (gn, 32, (· = .agg (vals (bytesN V))))] V1' := hS'
  clear hS'
  refine wpList_nil ?_
  obtain ⟨f, e0, hf⟩ := wash HS
  have f2 := hf 2 _ h2
  have f3 := hf 3 _ h3
  have f4 := hf 4 _ h4
  have f5 := hf 5 _ h5
  have f6 := hf 6 _ h6
  clear hf
  rw [e0.trans (show _ = #[f 0, f 1, f 2, f 3, f 4, f 5, f 6, f 7, f 8, f 9, f 10, f 11, f 12, f 13, f 14, f 15, f 16, f 17, f 18, f 19, f 20, f 21, f 22, f 23, f 24, f 25, f 26, f 27, f 28, f 29, f 30, f 31, f 32, f 33, f 34, f 35, f 36, f 37, f 38, f 39, f 40, f 41, f 42, f 43, f 44, f 45, f 46, f 47, f 48, f 49, f 50, f 51, f 52, f 53, f 54, f 55, f 56, f 57, f 58, f 59, f 60, f 61, f 62, f 63, f 64, f 65, f 66, f 67, f 68, f 69, f 70, f 71, f 72, f 73, f 74, f 75, f 76, f 77, f 78, f 79, f 80, f 81, f 82, f 83, f 84, f 85, f 86, f 87, f 88, f 89, f 90, f 91, f 92, f 93, f 94, f 95, f 96, f 97, f 98, f 99, f 100, f 101, f 102, f 103, f 104, f 105, f 106, f 107, f 108, f 109] from by kernel_rfl), f2, f3, f4, f5, f6]
  clear f2 f3 f4 f5 f6
  clear e0
  try dsimp only
  clear h2 h3 h4 h5 h6 q26 v26 b6 r6 ltM hMB hM HS t1 t0 M
  go_wp2_with ((with_reducible refine guard_list ?_); first | (refine held_load 26 _ rfl ?_) | (refine held_load 22 _ rfl ?_) | (refine held_load 68 _ rfl ?_) | (refine held_load 131 _ rfl ?_))
  obtain ⟨M, hM⟩ : ∃ M, M = V1'.heap.size := ⟨_, rfl⟩
  have hMB : w.heap.size ≤ M := hM ▸ hS.1.size
  have ltM := hS.lt
  rw [← hM] at ltM
  refine hide_held fun t0 HT => ?_
  have HS : t0.size = 110 := by rw [HT]; rfl
  have h2 : t0[2]? = some (.pointer (some ⟨w.heap.size, 0, none⟩)) := by rw [HT]; rfl
  have h3 : t0[3]? = some (.pointer (some ⟨(w.heap.size + 1), 0, none⟩)) := by rw [HT]; rfl
  have h4 : t0[4]? = some (.pointer (some ⟨(w.heap.size + 2), 0, none⟩)) := by rw [HT]; rfl
  have h5 : t0[5]? = some (.pointer (some ⟨(w.heap.size + 3), 0, none⟩)) := by rw [HT]; rfl
  have h6 : t0[6]? = some (.pointer (some ⟨gn, 0, none⟩)) := by rw [HT]; rfl
  clear HT
  refine wp_list_most 3 (fun i => [27, 28, 7].getD i 0) (fun i => [none, none, some 16].getD i none) (fun i => [(· = .agg (vals Lu)), IsN x1, (fun _ => True)].getD i (fun _ => True)) (fun w' => Own w [(w.heap.size, 32, (· = .agg (vals Lk))), ((w.heap.size + 1), 32, (· = .agg (vals Lu))), ((w.heap.size + 2), 16, (fun _ => True)), ((w.heap.size + 3), 16, (fun _ => True)), (gn, 32, (· = .agg (vals (bytesN V))))] w' ∧ M ≤ w'.heap.size) M
    (by kernel_rfl) (slots_apart (by kernel_rfl)) (slots_lie (by rw [HS]; kernel_rfl)) ⟨hS, Nat.le_of_eq hM⟩ (fun w' h => h.2) (fun w1 w2 h b => ⟨h.1.keep b, Nat.le_trans h.2 b.size⟩) ?_ ?_ ?_
  · clear hS
    intro i o hi ho hA
    have hc : i = 0 ∨ i = 1 ∨ i = 2 := by omega
    rcases hc with rfl | rfl | rfl
    · obtain rfl := Option.some.inj ho
      refine ⟨rfl, fun a w' hS hold hin K hK => ?_⟩
      refine if_always rfl ?_
      exact op_ld_own 32 tKey (.tmp 3) rfl rfl _ (eval_tmp ((hold 3 (slots_not (by kernel_rfl))).trans h3)) hS.1 1 rfl hK
    · obtain rfl := Option.some.inj ho
      refine ⟨rfl, fun a w' hS hold hin K hK => ?_⟩
      obtain ⟨y0, x0, rfl⟩ := hin 0 rfl (by omega) rfl
      refine if_always rfl ?_
      exact op_fn1 _ _ _ _ rfl rfl (eval_tmp x0) (by intro args w; kernel_rfl) (of9_ev Lu HLU.out hbu HX.out _) hK
    · cases hA
  · intro i o sz hi ho hA
    have hc : i = 0 ∨ i = 1 ∨ i = 2 := by omega
    rcases hc with rfl | rfl | rfl
    · cases hA
    · cases hA
    · obtain rfl := Option.some.inj ho
      obtain rfl := Option.some.inj hA
      exact ⟨rfl, rfl, 131, #[.int .i64 0, .int .i64 0, .int .i64 0, .int .i64 0, .int .i64 0, .int .i64 0, .int .i64 0, .int .i64 0, .int .i64 0, .int .i64 0, .int .i64 0, .int .i64 0, .int .i64 0, .int .i64 0, .int .i64 0, .int .i64 0], rfl, fun a w' K h => wp_new 131 #[.int .i64 0, .int .i64 0, .int .i64 0, .int .i64 0, .int .i64 0, .int .i64 0, .int .i64 0, .int .i64 0, .int .i64 0, .int .i64 0, .int .i64 0, .int .i64 0, .int .i64 0, .int .i64 0, .int .i64 0, .int .i64 0] (fun w => by kernel_rfl) h⟩
  clear hS
  intro t1 V2 hs hold hout hall hne hS
  replace HS := hs.trans HS
  replace hS := hS.1
  obtain ⟨g7, h7, b7, r7⟩ : ∃ g, t1[7]? = some (.pointer (some ⟨g, 0, none⟩)) ∧ M ≤ g ∧ ∃ cs ty, V2.heap[g]? = some (.cells cs ty (0, 0)) ∧ cs.size = 16 := by
    obtain ⟨g, p1, p2, ty, cs, p3, p4⟩ := hall 2 (by omega) 16 rfl
    exact ⟨g, p1, p2, cs, ty, p3, p4⟩
  replace hS : Own w [(w.heap.size, 32, (· = .agg (vals Lk))), ((w.heap.size + 1), 32, (· = .agg (vals Lu))), ((w.heap.size + 2), 16, (fun _ => True)), ((w.heap.size + 3), 16, (fun _ => True)), (gn, 32, (· = .agg (vals (bytesN V)))), (g7, 16, (fun _ => True))] V2 := hS.add (Nat.le_trans hMB b7) (fun r hr => Nat.ne_of_lt (Nat.lt_of_lt_of_le (ltM r hr) b7)) (Own.any r7)
  obtain ⟨x28, q28, v28⟩ : ∃ x, t1[28]? = some x ∧ (IsN x1) x := hout 1 (by omega) rfl
  replace h2 := (hold 2 (slots_not (by kernel_rfl))).trans h2
  replace h3 := (hold 3 (slots_not (by kernel_rfl))).trans h3
  replace h4 := (hold 4 (slots_not (by kernel_rfl))).trans h4
  replace h5 := (hold 5 (slots_not (by kernel_rfl))).trans h5
  replace h6 := (hold 6 (slots_not (by kernel_rfl))).trans h6
  clear hold hout hs hall hne
  simp only [List.drop_succ_cons, List.drop_zero]
  refine st_own 16 tNine rfl (.tmp 7) (.tmp 28) rfl rfl _ _ (eval_tmp h7) (eval_tmp q28) (V' := IsN x1) v28 (fun x hx => isN_row hx) hS 5 rfl fun V2' hS' _ => ?_
  replace hS : Own w [(w.heap.size, 32, (· = .agg (vals Lk))), ((w.heap.size + 1), 32, (· = .agg (vals Lu))), ((w.heap.size + 2), 16, (fun _ => True)), ((w.heap.size + 3), 16, (fun _ => True)), (gn, 32, (· = .agg (vals (bytesN V)))), (g7, 16, IsN x1)] V2' := hS'
  clear hS'
  refine wpList_nil ?_
  obtain ⟨f, e0, hf⟩ := wash HS
  have f2 := hf 2 _ h2
  have f3 := hf 3 _ h3
  have f4 := hf 4 _ h4
  have f5 := hf 5 _ h5
  have f6 := hf 6 _ h6
  have f7 := hf 7 _ h7
  clear hf
  rw [e0.trans (show _ = #[f 0, f 1, f 2, f 3, f 4, f 5, f 6, f 7, f 8, f 9, f 10, f 11, f 12, f 13, f 14, f 15, f 16, f 17, f 18, f 19, f 20, f 21, f 22, f 23, f 24, f 25, f 26, f 27, f 28, f 29, f 30, f 31, f 32, f 33, f 34, f 35, f 36, f 37, f 38, f 39, f 40, f 41, f 42, f 43, f 44, f 45, f 46, f 47, f 48, f 49, f 50, f 51, f 52, f 53, f 54, f 55, f 56, f 57, f 58, f 59, f 60, f 61, f 62, f 63, f 64, f 65, f 66, f 67, f 68, f 69, f 70, f 71, f 72, f 73, f 74, f 75, f 76, f 77, f 78, f 79, f 80, f 81, f 82, f 83, f 84, f 85, f 86, f 87, f 88, f 89, f 90, f 91, f 92, f 93, f 94, f 95, f 96, f 97, f 98, f 99, f 100, f 101, f 102, f 103, f 104, f 105, f 106, f 107, f 108, f 109] from by kernel_rfl), f2, f3, f4, f5, f6, f7]
  clear f2 f3 f4 f5 f6 f7
  clear e0
  try dsimp only
  clear h2 h3 h4 h5 h6 h7 q28 v28 b7 r7 ltM hMB hM HS t1 t0 M
  go_wp2_with fail
  obtain ⟨M, hM⟩ : ∃ M, M = V2'.heap.size := ⟨_, rfl⟩
  have hMB : w.heap.size ≤ M := hM ▸ hS.1.size
  have ltM := hS.lt
  rw [← hM] at ltM
  refine hide_frame fun t0 HT => ?_
  have HS : t0.size = 110 := by rw [HT]; rfl
  have h2 : t0[2]? = some (.pointer (some ⟨w.heap.size, 0, none⟩)) := by rw [HT]; rfl
  have h3 : t0[3]? = some (.pointer (some ⟨(w.heap.size + 1), 0, none⟩)) := by rw [HT]; rfl
  have h4 : t0[4]? = some (.pointer (some ⟨(w.heap.size + 2), 0, none⟩)) := by rw [HT]; rfl
  have h5 : t0[5]? = some (.pointer (some ⟨(w.heap.size + 3), 0, none⟩)) := by rw [HT]; rfl
  have h6 : t0[6]? = some (.pointer (some ⟨gn, 0, none⟩)) := by rw [HT]; rfl
  have h7 : t0[7]? = some (.pointer (some ⟨g7, 0, none⟩)) := by rw [HT]; rfl
  clear HT
  refine wp_region_sts 8 2 (fun s => [4, 5].getD s 0) (fun s => [0, 1].getD s 0) (fun i => [29, 30, 31, 32, 8, 9, 10, 11].getD i 0) (fun i => [none, none, none, none, some 16, some 16, some 16, some 16].getD i none) (fun i => [IsN (1 : F), IsN (0 : F), IsN x1, IsN (1 : F), (fun _ => True), (fun _ => True), (fun _ => True), (fun _ => True)].getD i (fun _ => True)) (fun w' => Own w [(w.heap.size, 32, (· = .agg (vals Lk))), ((w.heap.size + 1), 32, (· = .agg (vals Lu))), ((w.heap.size + 2), 16, (fun _ => True)), ((w.heap.size + 3), 16, (fun _ => True)), (gn, 32, (· = .agg (vals (bytesN V)))), (g7, 16, IsN x1)] w' ∧ M ≤ w'.heap.size) M 16 131
    (by kernel_rfl) (by kernel_rfl) (slots_apart (by kernel_rfl)) (slots_lie (by rw [HS]; kernel_rfl)) ⟨hS.drew, Nat.le_of_eq hM⟩ (fun w' h => h.2) (fun w1 w2 h b => ⟨h.1.keep b, Nat.le_trans h.2 b.size⟩) (fun w1 g cs h hg => ⟨h.1.far (fun r hr => Nat.ne_of_lt (Nat.lt_of_lt_of_le (ltM r hr) hg)) (Nat.le_trans hMB hg) cs, Own.far_size g cs h.2⟩) ?_ ?_ tNine ?_ ?_ ?_ ?_
  · intro s hs
    have hc : s = 0 ∨ s = 1 := by omega
    rcases hc with rfl | rfl
    · exact ⟨by decide, by decide, rfl, rfl, (fun x hx => isN_row hx)⟩
    · exact ⟨by decide, by decide, rfl, rfl, (fun x hx => isN_row hx)⟩
  · intro s s' hs hs' hns
    have hc : s = 0 ∨ s = 1 := by omega
    have hc' : s' = 0 ∨ s' = 1 := by omega
    rcases hc with rfl | rfl <;> rcases hc' with rfl | rfl <;> first | exact absurd rfl hns | decide
  · intro s o hs ho
    have hc : s = 0 ∨ s = 1 := by omega
    rcases hc with rfl | rfl <;> (obtain rfl := Option.some.inj ho; exact ⟨rfl, rfl, rfl, rfl, rfl⟩)
  · clear hS
    intro i o hi ho hA
    have hc : i = 0 ∨ i = 1 ∨ i = 2 ∨ i = 3 ∨ i = 4 ∨ i = 5 ∨ i = 6 ∨ i = 7 := by omega
    rcases hc with rfl | rfl | rfl | rfl | rfl | rfl | rfl | rfl
    · obtain rfl := Option.some.inj ho
      refine ⟨rfl, fun a w' hS hold hin K hK => ?_⟩
      refine if_always rfl ?_
      exact op_fn1 _ _ _ _ rfl rfl rfl (by intro args w; kernel_rfl) (small9_one _) hK
    · obtain rfl := Option.some.inj ho
      refine ⟨rfl, fun a w' hS hold hin K hK => ?_⟩
      refine if_always rfl ?_
      exact op_fn1 _ _ _ _ rfl rfl rfl (by intro args w; kernel_rfl) (small9_zero _) hK
    · obtain rfl := Option.some.inj ho
      refine ⟨rfl, fun a w' hS hold hin K hK => ?_⟩
      refine if_always rfl ?_
      exact op_ld_own 16 tNine (.tmp 7) rfl rfl _ (eval_tmp ((hold 7 (slots_not (by kernel_rfl))).trans h7)) hS.1 5 rfl hK
    · obtain rfl := Option.some.inj ho
      refine ⟨rfl, fun a w' hS hold hin K hK => ?_⟩
      refine if_always rfl ?_
      exact op_fn1 _ _ _ _ rfl rfl rfl (by intro args w; kernel_rfl) (small9_one _) hK
    · cases hA
    · cases hA
    · cases hA
    · cases hA
  · intro i o sz hi ho hA
    have hc : i = 0 ∨ i = 1 ∨ i = 2 ∨ i = 3 ∨ i = 4 ∨ i = 5 ∨ i = 6 ∨ i = 7 := by omega
    rcases hc with rfl | rfl | rfl | rfl | rfl | rfl | rfl | rfl
    · cases hA
    · cases hA
    · cases hA
    · cases hA
    · obtain rfl := Option.some.inj ho
      obtain rfl := Option.some.inj hA
      exact ⟨rfl, rfl, 131, #[.int .i64 0, .int .i64 0, .int .i64 0, .int .i64 0, .int .i64 0, .int .i64 0, .int .i64 0, .int .i64 0, .int .i64 0, .int .i64 0, .int .i64 0, .int .i64 0, .int .i64 0, .int .i64 0, .int .i64 0, .int .i64 0], rfl, fun a w' K h => wp_new 131 #[.int .i64 0, .int .i64 0, .int .i64 0, .int .i64 0, .int .i64 0, .int .i64 0, .int .i64 0, .int .i64 0, .int .i64 0, .int .i64 0, .int .i64 0, .int .i64 0, .int .i64 0, .int .i64 0, .int .i64 0, .int .i64 0] (fun w => by kernel_rfl) h⟩
    · obtain rfl := Option.some.inj ho
      obtain rfl := Option.some.inj hA
      exact ⟨rfl, rfl, 131, #[.int .i64 0, .int .i64 0, .int .i64 0, .int .i64 0, .int .i64 0, .int .i64 0, .int .i64 0, .int .i64 0, .int .i64 0, .int .i64 0, .int .i64 0, .int .i64 0, .int .i64 0, .int .i64 0, .int .i64 0, .int .i64 0], rfl, fun a w' K h => wp_new 131 #[.int .i64 0, .int .i64 0, .int .i64 0, .int .i64 0, .int .i64 0, .int .i64 0, .int .i64 0, .int .i64 0, .int .i64 0, .int .i64 0, .int .i64 0, .int .i64 0, .int .i64 0, .int .i64 0, .int .i64 0, .int .i64 0] (fun w => by kernel_rfl) h⟩
    · obtain rfl := Option.some.inj ho
      obtain rfl := Option.some.inj hA
      exact ⟨rfl, rfl, 131, #[.int .i64 0, .int .i64 0, .int .i64 0, .int .i64 0, .int .i64 0, .int .i64 0, .int .i64 0, .int .i64 0, .int .i64 0, .int .i64 0, .int .i64 0, .int .i64 0, .int .i64 0, .int .i64 0, .int .i64 0, .int .i64 0], rfl, fun a w' K h => wp_new 131 #[.int .i64 0, .int .i64 0, .int .i64 0, .int .i64 0, .int .i64 0, .int .i64 0, .int .i64 0, .int .i64 0, .int .i64 0, .int .i64 0, .int .i64 0, .int .i64 0, .int .i64 0, .int .i64 0, .int .i64 0, .int .i64 0] (fun w => by kernel_rfl) h⟩
    · obtain rfl := Option.some.inj ho
      obtain rfl := Option.some.inj hA
      exact ⟨rfl, rfl, 131, #[.int .i64 0, .int .i64 0, .int .i64 0, .int .i64 0, .int .i64 0, .int .i64 0, .int .i64 0, .int .i64 0, .int .i64 0, .int .i64 0, .int .i64 0, .int .i64 0, .int .i64 0, .int .i64 0, .int .i64 0, .int .i64 0], rfl, fun a w' K h => wp_new 131 #[.int .i64 0, .int .i64 0, .int .i64 0, .int .i64 0, .int .i64 0, .int .i64 0, .int .i64 0, .int .i64 0, .int .i64 0, .int .i64 0, .int .i64 0, .int .i64 0, .int .i64 0, .int .i64 0, .int .i64 0, .int .i64 0] (fun w => by kernel_rfl) h⟩
  clear hS
  intro t1 V3 hs hold hout hall hne hst1 hS
  replace HS := hs.trans HS
  replace hS := hS.1
  obtain ⟨g8, ty1, cs1, h8, q1x, rr1⟩ : ∃ g t' cs, t1[8]? = some (.pointer (some ⟨g, 0, none⟩)) ∧ t1[29]? = some (.agg cs) ∧ V3.heap[g]? = some (.cells cs t' (0, 0)) := hst1 0 (by omega)
  have b8 : M ≤ g8 := by
    obtain ⟨g', p1, p2, _⟩ := hall 4 (by omega) 16 rfl
    have p1' : t1[8]? = some (.pointer (some ⟨g', 0, none⟩)) := p1
    rw [ptr_inj (h8.symm.trans p1')]; exact p2
  obtain ⟨x1s, y1s, y2s⟩ : ∃ x, t1[29]? = some x ∧ (IsN (1 : F) : Value → Prop) x := hout 0 (by omega) rfl
  have ss1 := stored_of (V := IsN (1 : F)) y2s (y1s.symm.trans q1x) (fun x hx => isN_row hx)
  have r8 : ∃ cs ty, V3.heap[g8]? = some (.cells cs ty (0, 0)) ∧ cs.size = 16 ∧ (IsN (1 : F) : Value → Prop) (.agg cs) := ⟨cs1, ty1, rr1, ss1.1, ss1.2⟩
  clear y1s y2s q1x rr1 ss1
  obtain ⟨g9, ty1, cs1, h9, q1x, rr1⟩ : ∃ g t' cs, t1[9]? = some (.pointer (some ⟨g, 0, none⟩)) ∧ t1[30]? = some (.agg cs) ∧ V3.heap[g]? = some (.cells cs t' (0, 0)) := hst1 1 (by omega)
  have b9 : M ≤ g9 := by
    obtain ⟨g', p1, p2, _⟩ := hall 5 (by omega) 16 rfl
    have p1' : t1[9]? = some (.pointer (some ⟨g', 0, none⟩)) := p1
    rw [ptr_inj (h9.symm.trans p1')]; exact p2
  obtain ⟨x1s, y1s, y2s⟩ : ∃ x, t1[30]? = some x ∧ (IsN (0 : F) : Value → Prop) x := hout 1 (by omega) rfl
  have ss1 := stored_of (V := IsN (0 : F)) y2s (y1s.symm.trans q1x) (fun x hx => isN_row hx)
  have r9 : ∃ cs ty, V3.heap[g9]? = some (.cells cs ty (0, 0)) ∧ cs.size = 16 ∧ (IsN (0 : F) : Value → Prop) (.agg cs) := ⟨cs1, ty1, rr1, ss1.1, ss1.2⟩
  clear y1s y2s q1x rr1 ss1
  obtain ⟨g10, h10, b10, r10⟩ : ∃ g, t1[10]? = some (.pointer (some ⟨g, 0, none⟩)) ∧ M ≤ g ∧ ∃ cs ty, V3.heap[g]? = some (.cells cs ty (0, 0)) ∧ cs.size = 16 := by
    obtain ⟨g, p1, p2, ty, cs, p3, p4⟩ := hall 6 (by omega) 16 rfl
    exact ⟨g, p1, p2, cs, ty, p3, p4⟩
  obtain ⟨g11, h11, b11, r11⟩ : ∃ g, t1[11]? = some (.pointer (some ⟨g, 0, none⟩)) ∧ M ≤ g ∧ ∃ cs ty, V3.heap[g]? = some (.cells cs ty (0, 0)) ∧ cs.size = 16 := by
    obtain ⟨g, p1, p2, ty, cs, p3, p4⟩ := hall 7 (by omega) 16 rfl
    exact ⟨g, p1, p2, cs, ty, p3, p4⟩
  have n8_9 : g8 ≠ g9 := fun h => hne 4 5 (by omega) (by omega) (by omega) rfl rfl (show t1[8]? = t1[9]? by rw [h8, h9, h])
  have n8_10 : g8 ≠ g10 := fun h => hne 4 6 (by omega) (by omega) (by omega) rfl rfl (show t1[8]? = t1[10]? by rw [h8, h10, h])
  have n8_11 : g8 ≠ g11 := fun h => hne 4 7 (by omega) (by omega) (by omega) rfl rfl (show t1[8]? = t1[11]? by rw [h8, h11, h])
  have n9_10 : g9 ≠ g10 := fun h => hne 5 6 (by omega) (by omega) (by omega) rfl rfl (show t1[9]? = t1[10]? by rw [h9, h10, h])
  have n9_11 : g9 ≠ g11 := fun h => hne 5 7 (by omega) (by omega) (by omega) rfl rfl (show t1[9]? = t1[11]? by rw [h9, h11, h])
  have n10_11 : g10 ≠ g11 := fun h => hne 6 7 (by omega) (by omega) (by omega) rfl rfl (show t1[10]? = t1[11]? by rw [h10, h11, h])
  replace hS : Own w [(w.heap.size, 32, (· = .agg (vals Lk))), ((w.heap.size + 1), 32, (· = .agg (vals Lu))), ((w.heap.size + 2), 16, (fun _ => True)), ((w.heap.size + 3), 16, (fun _ => True)), (gn, 32, (· = .agg (vals (bytesN V)))), (g7, 16, IsN x1), (g8, 16, IsN (1 : F))] V3 := hS.add (Nat.le_trans hMB b8) (fun r hr => Nat.ne_of_lt (Nat.lt_of_lt_of_le (ltM r hr) b8)) r8
  replace hS : Own w [(w.heap.size, 32, (· = .agg (vals Lk))), ((w.heap.size + 1), 32, (· = .agg (vals Lu))), ((w.heap.size + 2), 16, (fun _ => True)), ((w.heap.size + 3), 16, (fun _ => True)), (gn, 32, (· = .agg (vals (bytesN V)))), (g7, 16, IsN x1), (g8, 16, IsN (1 : F)), (g9, 16, IsN (0 : F))] V3 := hS.add (Nat.le_trans hMB b9) (Own.ne_app (g1 := g8) (fun r hr => Nat.ne_of_lt (Nat.lt_of_lt_of_le (ltM r hr) b9)) n8_9) r9
  replace hS : Own w [(w.heap.size, 32, (· = .agg (vals Lk))), ((w.heap.size + 1), 32, (· = .agg (vals Lu))), ((w.heap.size + 2), 16, (fun _ => True)), ((w.heap.size + 3), 16, (fun _ => True)), (gn, 32, (· = .agg (vals (bytesN V)))), (g7, 16, IsN x1), (g8, 16, IsN (1 : F)), (g9, 16, IsN (0 : F)), (g10, 16, (fun _ => True))] V3 := hS.add (Nat.le_trans hMB b10) (Own.ne_app (g1 := g9) (Own.ne_app (g1 := g8) (fun r hr => Nat.ne_of_lt (Nat.lt_of_lt_of_le (ltM r hr) b10)) n8_10) n9_10) (Own.any r10)
  replace hS : Own w [(w.heap.size, 32, (· = .agg (vals Lk))), ((w.heap.size + 1), 32, (· = .agg (vals Lu))), ((w.heap.size + 2), 16, (fun _ => True)), ((w.heap.size + 3), 16, (fun _ => True)), (gn, 32, (· = .agg (vals (bytesN V)))), (g7, 16, IsN x1), (g8, 16, IsN (1 : F)), (g9, 16, IsN (0 : F)), (g10, 16, (fun _ => True)), (g11, 16, (fun _ => True))] V3 := hS.add (Nat.le_trans hMB b11) (Own.ne_app (g1 := g10) (Own.ne_app (g1 := g9) (Own.ne_app (g1 := g8) (fun r hr => Nat.ne_of_lt (Nat.lt_of_lt_of_le (ltM r hr) b11)) n8_11) n9_11) n10_11) (Own.any r11)
  clear hst1
  obtain ⟨x31, q31, v31⟩ : ∃ x, t1[31]? = some x ∧ (IsN x1) x := hout 2 (by omega) rfl
  obtain ⟨x32, q32, v32⟩ : ∃ x, t1[32]? = some x ∧ (IsN (1 : F)) x := hout 3 (by omega) rfl
  replace h2 := (hold 2 (slots_not (by kernel_rfl))).trans h2
  replace h3 := (hold 3 (slots_not (by kernel_rfl))).trans h3
  replace h4 := (hold 4 (slots_not (by kernel_rfl))).trans h4
  replace h5 := (hold 5 (slots_not (by kernel_rfl))).trans h5
  replace h6 := (hold 6 (slots_not (by kernel_rfl))).trans h6
  replace h7 := (hold 7 (slots_not (by kernel_rfl))).trans h7
  clear hold hout hs hall hne
  simp only [List.drop_succ_cons, List.drop_zero]
  refine st_own 16 tNine rfl (.tmp 10) (.tmp 31) rfl rfl _ _ (eval_tmp h10) (eval_tmp q31) (V' := IsN x1) v31 (fun x hx => isN_row hx) hS 8 rfl fun V3' hS' _ => ?_
  replace hS : Own w [(w.heap.size, 32, (· = .agg (vals Lk))), ((w.heap.size + 1), 32, (· = .agg (vals Lu))), ((w.heap.size + 2), 16, (fun _ => True)), ((w.heap.size + 3), 16, (fun _ => True)), (gn, 32, (· = .agg (vals (bytesN V)))), (g7, 16, IsN x1), (g8, 16, IsN (1 : F)), (g9, 16, IsN (0 : F)), (g10, 16, IsN x1), (g11, 16, (fun _ => True))] V3' := hS'
  clear hS'
  refine st_own 16 tNine rfl (.tmp 11) (.tmp 32) rfl rfl _ _ (eval_tmp h11) (eval_tmp q32) (V' := IsN (1 : F)) v32 (fun x hx => isN_row hx) hS 9 rfl fun V3'' hS' _ => ?_
  replace hS : Own w [(w.heap.size, 32, (· = .agg (vals Lk))), ((w.heap.size + 1), 32, (· = .agg (vals Lu))), ((w.heap.size + 2), 16, (fun _ => True)), ((w.heap.size + 3), 16, (fun _ => True)), (gn, 32, (· = .agg (vals (bytesN V)))), (g7, 16, IsN x1), (g8, 16, IsN (1 : F)), (g9, 16, IsN (0 : F)), (g10, 16, IsN x1), (g11, 16, IsN (1 : F))] V3'' := hS'
  clear hS'
  refine wpList_nil ?_
  obtain ⟨f, e0, hf⟩ := wash HS
  have f2 := hf 2 _ h2
  have f3 := hf 3 _ h3
  have f4 := hf 4 _ h4
  have f5 := hf 5 _ h5
  have f6 := hf 6 _ h6
  have f7 := hf 7 _ h7
  have f8 := hf 8 _ h8
  have f9 := hf 9 _ h9
  have f10 := hf 10 _ h10
  have f11 := hf 11 _ h11
  clear hf
  rw [e0.trans (show _ = #[f 0, f 1, f 2, f 3, f 4, f 5, f 6, f 7, f 8, f 9, f 10, f 11, f 12, f 13, f 14, f 15, f 16, f 17, f 18, f 19, f 20, f 21, f 22, f 23, f 24, f 25, f 26, f 27, f 28, f 29, f 30, f 31, f 32, f 33, f 34, f 35, f 36, f 37, f 38, f 39, f 40, f 41, f 42, f 43, f 44, f 45, f 46, f 47, f 48, f 49, f 50, f 51, f 52, f 53, f 54, f 55, f 56, f 57, f 58, f 59, f 60, f 61, f 62, f 63, f 64, f 65, f 66, f 67, f 68, f 69, f 70, f 71, f 72, f 73, f 74, f 75, f 76, f 77, f 78, f 79, f 80, f 81, f 82, f 83, f 84, f 85, f 86, f 87, f 88, f 89, f 90, f 91, f 92, f 93, f 94, f 95, f 96, f 97, f 98, f 99, f 100, f 101, f 102, f 103, f 104, f 105, f 106, f 107, f 108, f 109] from by kernel_rfl), f2, f3, f4, f5, f6, f7, f8, f9, f10, f11]
  clear f2 f3 f4 f5 f6 f7 f8 f9 f10 f11
  clear e0
  try dsimp only
  clear h2 h3 h4 h5 h6 h7 h8 h9 h10 h11 q31 q32 v31 v32 b8 b9 b10 b11 r8 r9 r10 r11 n8_9 n8_10 n8_11 n9_10 n9_11 n10_11 ltM hMB hM HS t1 t0 M
  go_wp2_with fail
  go_loopw [12] (fun i wr => ∃ (k : Nat) (p2 q2 p3 q3 : F), k ≤ 255 ∧ i = .int .i64 ((k : Int) - 1) ∧ lad x1 V k ((p2, q2), (p3, q3)) = RR ∧ Own w [(w.heap.size, 32, (· = .agg (vals Lk))), ((w.heap.size + 1), 32, (· = .agg (vals Lu))), ((w.heap.size + 2), 16, (fun _ => True)), ((w.heap.size + 3), 16, (fun _ => True)), (gn, 32, (· = .agg (vals (bytesN V)))), (g7, 16, IsN x1), (g8, 16, IsN p2), (g9, 16, IsN q2), (g10, 16, IsN p3), (g11, 16, IsN q3)] wr) (fun i _ => (intOf i + 1).toNat)
  case atStart => exact ⟨255, 1, 0, x1, 1, by omega, rfl, HRR.out, hS⟩
  case round =>
    obtain ⟨k, p2, q2, p3, q3, hk, rfl, hl, hS0⟩ := hrel
    have hS1 := Lib.hid hS0
    have HL := Lib.hid hl
    clear hS hS0 hl
    cases k with
    | zero =>
      have hfin : (p2, q2) = (r1, r2) := by
        have h1 : ((p2, q2), (p3, q3)) = RR := HL.out
        rw [← HR.out, ← h1]
      injection hfin with hf1 hf2
      subst hf1
      subst hf2
      have hS := hS1.out
      obtain ⟨c8, t8, R8, n8, v8⟩ := hS.get (i := 6) rfl
      obtain ⟨c9, t9, R9, n9, v9⟩ := hS.get (i := 7) rfl
      obtain ⟨c4, t4, R4, n4, _⟩ := hS.get (i := 2) rfl
      obtain ⟨c5, t5, R5, n5, _⟩ := hS.get (i := 3) rfl
      have B0 := hS.1
      have V8 := Lib.hid v8
      have V9 := Lib.hid v9
      have d48 : w.heap.size + 2 ≠ g8 := fun h => by have := hS.2.1; simp [h] at this
      have d49 : w.heap.size + 2 ≠ g9 := fun h => by have := hS.2.1; simp [h] at this
      have d58 : w.heap.size + 3 ≠ g8 := fun h => by have := hS.2.1; simp [h] at this
      have d59 : w.heap.size + 3 ≠ g9 := fun h => by have := hS.2.1; simp [h] at this
      clear hS hS1 v8 v9 HL HR
      go_wp2_with fail
      obtain ⟨_, o8, _, hone8⟩ := isN_row V8.out
      injection o8 with o8
      subst o8
      obtain ⟨_, o9, _, hone9⟩ := isN_row V9.out
      injection o9 with o9
      subst o9
      refine wp_region_held_drew (S := fun w' => w'.heap[g8]? = some (.cells c8 t8 (0, 0)) ∧ w'.heap[g9]? = some (.cells c9 t9 (0, 0))) (by kernel_rfl) ⟨R8, R9⟩ (fun hS => ?_)
      refine wpAnyH_take (i := 0) (oi := ⟨some 108, _, _, _, _, _⟩) rfl (by kernel_rfl) (by kernel_rfl) (by kernel_rfl) (fun _ _ _ h => h) (yieldsIf_row (by rfl) _ _ rfl _ (by rfl) _ _ (fun _ h => h.1) 16 tNine n8) hS ?_
      try simp only [Act.put]
      refine wpAnyH_take (i := 1) (oi := ⟨some 109, _, _, _, _, _⟩) rfl (by kernel_rfl) (by kernel_rfl) (by kernel_rfl) (fun _ _ _ h => h) (yieldsIf_row (by rfl) _ _ rfl _ (by rfl) _ _ (fun _ h => h.2) 16 tNine n9) hS ?_
      try simp only [Act.put]
      have Q4 := row_put (cs' := c8) (row_drew R4)
      have Q5 := row_put_other (cs := c8) (row_drew R5) (by omega : w.heap.size + 3 ≠ w.heap.size + 2)
      have B1 := below_setRow B0.drew (by omega : w.heap.size ≤ w.heap.size + 2) c8
      refine wpAnyH_ready (rs := [2]) (by kernel_rfl) (by simp) (AllReadyH.cons (o := ⟨none, _, _, _, _, _⟩) rfl (fun K hK => ?_) AllReadyH.nil)
      rw [if_pos (by rfl)]
      refine wp_st_row _ _ _ rfl _ c8 (by rfl) (by rfl) _ _ (row_drew R4) 16 tNine n8 n4 hone8 ?_
      refine hK.out _ _ ⟨row_put_other hS.1 d48.symm, row_put_other hS.2 d49.symm⟩ (fun hS => ?_)
      clear hK K
      try simp only [Act.put]
      refine wpAnyH_ready (rs := [3]) (by kernel_rfl) (by simp) (AllReadyH.cons (o := ⟨none, _, _, _, _, _⟩) rfl (fun K hK => ?_) AllReadyH.nil)
      rw [if_pos (by rfl)]
      refine wp_st_row _ _ _ rfl _ c9 (by rfl) (by rfl) _ _ Q5 16 tNine n9 n5 hone9 ?_
      refine hK.out _ _ ⟨row_put_other hS.1 d58.symm, row_put_other hS.2 d59.symm⟩ (fun hS => ?_)
      clear hK K
      try simp only [Act.put]
      refine wpAnyH_done (by kernel_rfl) ?_ _
      go_wp2_with fail
      refine ret_row2 rfl _ _ _ _ _ _ rfl (row_put_other Q4 (by omega)) rfl (row_put Q5) 16 16 tNine n8 tNine n9 rfl ?_
      exact ⟨_, rfl, ⟨_, _, rfl, V8.out, V9.out⟩, below_setRow B1 (by omega) _⟩
    | succ j =>
      rw [show ((j + 1 : Nat) : Int) - 1 = (j : Int) by omega]
      obtain ⟨csB, ctB, B1, B2, B3⟩ := hS1.out.get (i := 4) rfl
      injection B3 with B3
      subst B3
      have cb : wr.cell? ⟨gn, j / 8, none⟩ = some (.int .u8 (byteOf V (j / 8))) := (row_cell B1 _).trans (by rw [vals_get (by rw [bytesN_len]; omega), nth_bytesN _ _ (by omega)])
      clear B1 B2
      have t8 : ((j : Int)).tmod 8 = (j : Int) % 8 := Int.tmod_eq_emod_of_nonneg (by omega)
      have hby := byteOf_lt V (j / 8)
      have hbit : ((byteOf V (j / 8) : Int) / 2 ^ (j % 8)).tmod 2 = ((V / 2 ^ j % 2 : Nat) : Int) := by
        have h1 : ((byteOf V (j / 8) : Nat) : Int) / 2 ^ (j % 8) = ((byteOf V (j / 8) / 2 ^ (j % 8) : Nat) : Int) := by push_cast; rfl
        have h3 := nat_bit V j
        rw [h1, ← h3, Int.tmod_eq_emod_of_nonneg (Int.natCast_nonneg _)]
        push_cast; rfl
      have HB := Lib.hid (rfl : V / 2 ^ j % 2 = V / 2 ^ j % 2)
      have hl2 : lad x1 V j (stp x1 (decide (V / 2 ^ j % 2 = 1)) ((p2, q2), (p3, q3))) = RR := HL.out
      have HL2 := Lib.hid hl2
      clear hl2 HL HR
      by_cases hb1 : V / 2 ^ j % 2 = 1
      · have hbv : V / 2 ^ j % 2 = 1 := by omega
        rw [hbv] at hbit
        have HL3 := HL2.out
        rw [decide_eq_true hb1] at HL3
        have HL4 := Lib.hid HL3
        clear HL2 HL3 hbv hb1 HB
        go_wp2_with ((with_reducible refine guard_list ?_); first | (refine held_load 26 _ rfl ?_) | (refine held_load 22 _ rfl ?_) | (refine held_load 68 _ rfl ?_) | (refine held_load 131 _ rfl ?_))
        have hS := hS1.out
        clear hS1 cb t8 hby hbit
        obtain ⟨M, hM⟩ : ∃ M, M = wr.heap.size := ⟨_, rfl⟩
        refine hide_held fun t0 HT => ?_
        have HS : t0.size = 110 := by rw [HT]; rfl
        have h4 : t0[4]? = some (.pointer (some ⟨(w.heap.size + 2), 0, none⟩)) := by rw [HT]; rfl
        have h5 : t0[5]? = some (.pointer (some ⟨(w.heap.size + 3), 0, none⟩)) := by rw [HT]; rfl
        have h6 : t0[6]? = some (.pointer (some ⟨gn, 0, none⟩)) := by rw [HT]; rfl
        have h7 : t0[7]? = some (.pointer (some ⟨g7, 0, none⟩)) := by rw [HT]; rfl
        have h8 : t0[8]? = some (.pointer (some ⟨g8, 0, none⟩)) := by rw [HT]; rfl
        have h9 : t0[9]? = some (.pointer (some ⟨g9, 0, none⟩)) := by rw [HT]; rfl
        have h10 : t0[10]? = some (.pointer (some ⟨g10, 0, none⟩)) := by rw [HT]; rfl
        have h11 : t0[11]? = some (.pointer (some ⟨g11, 0, none⟩)) := by rw [HT]; rfl
        have h12 : t0[12]? = some (.int .i64 (j : Int)) := by rw [HT]; rfl
        have h13 : t0[13]? = some (.int .u8 1) := by rw [HT]; rfl
        refine wp_list_most 2 (fun i => [47, 48].getD i 0) (fun _ => none) (fun i => [IsN p3, IsN p2].getD i (fun _ => True)) (fun w' => Own w [(w.heap.size, 32, (· = .agg (vals Lk))), ((w.heap.size + 1), 32, (· = .agg (vals Lu))), ((w.heap.size + 2), 16, (fun _ => True)), ((w.heap.size + 3), 16, (fun _ => True)), (gn, 32, (· = .agg (vals (bytesN V)))), (g7, 16, IsN x1), (g8, 16, IsN p2), (g9, 16, IsN q2), (g10, 16, IsN p3), (g11, 16, IsN q3)] w' ∧ M ≤ w'.heap.size) M
          (by kernel_rfl) (slots_apart (by kernel_rfl)) (slots_lie (by rw [HS]; kernel_rfl)) ⟨hS, Nat.le_of_eq hM⟩ (fun w' h => h.2) (fun w1 w2 h b => ⟨h.1.keep b, Nat.le_trans h.2 b.size⟩) ?_ ?_ ?_
        · clear hS
          intro i o hi ho hA
          have hc : i = 0 ∨ i = 1 := by omega
          rcases hc with rfl | rfl
          · obtain rfl := Option.some.inj ho
            refine ⟨rfl, fun a w' hS hold hin K hK => ?_⟩
            refine if_always rfl ?_
            exact op_ld_own 16 tNine (.tmp 10) rfl rfl _ (eval_tmp ((hold 10 (slots_not (by kernel_rfl))).trans h10)) hS.1 8 rfl hK
          · obtain rfl := Option.some.inj ho
            refine ⟨rfl, fun a w' hS hold hin K hK => ?_⟩
            refine if_always rfl ?_
            exact op_ld_own 16 tNine (.tmp 8) rfl rfl _ (eval_tmp ((hold 8 (slots_not (by kernel_rfl))).trans h8)) hS.1 6 rfl hK
        · intro i o sz hi ho hA; cases hA
        clear hS
        intro t1 V4 hs hold hout hall hne hS
        have ef := frame_fill 2 (fun i => [47, 48].getD i 0) hs hold (slots_apart (by kernel_rfl)) (slots_lie (by rw [HS]; kernel_rfl))
        replace HS := hs.trans HS
        replace hS := hS.1
        obtain ⟨x47, q47, v47⟩ : ∃ x, t1[47]? = some x ∧ (IsN p3) x := hout 0 (by omega) rfl
        obtain ⟨x48, q48, v48⟩ : ∃ x, t1[48]? = some x ∧ (IsN p2) x := hout 1 (by omega) rfl
        replace h4 := (hold 4 (slots_not (by kernel_rfl))).trans h4
        replace h5 := (hold 5 (slots_not (by kernel_rfl))).trans h5
        replace h6 := (hold 6 (slots_not (by kernel_rfl))).trans h6
        replace h7 := (hold 7 (slots_not (by kernel_rfl))).trans h7
        replace h8 := (hold 8 (slots_not (by kernel_rfl))).trans h8
        replace h9 := (hold 9 (slots_not (by kernel_rfl))).trans h9
        replace h10 := (hold 10 (slots_not (by kernel_rfl))).trans h10
        replace h11 := (hold 11 (slots_not (by kernel_rfl))).trans h11
        replace h12 := (hold 12 (slots_not (by kernel_rfl))).trans h12
        replace h13 := (hold 13 (slots_not (by kernel_rfl))).trans h13
        clear hold hout hs hall hne
        simp only [List.drop_succ_cons, List.drop_zero]
        refine st_own 16 tNine rfl (.tmp 8) (.tmp 47) rfl rfl _ _ (eval_tmp h8) (eval_tmp q47) (V' := IsN p3) v47 (fun x hx => isN_row hx) hS 6 rfl fun V4' hS' _ => ?_
        replace hS : Own w [(w.heap.size, 32, (· = .agg (vals Lk))), ((w.heap.size + 1), 32, (· = .agg (vals Lu))), ((w.heap.size + 2), 16, (fun _ => True)), ((w.heap.size + 3), 16, (fun _ => True)), (gn, 32, (· = .agg (vals (bytesN V)))), (g7, 16, IsN x1), (g8, 16, IsN p3), (g9, 16, IsN q2), (g10, 16, IsN p3), (g11, 16, IsN q3)] V4' := hS'
        clear hS'
        refine st_own 16 tNine rfl (.tmp 10) (.tmp 48) rfl rfl _ _ (eval_tmp h10) (eval_tmp q48) (V' := IsN p2) v48 (fun x hx => isN_row hx) hS 8 rfl fun V4'' hS' _ => ?_
        replace hS : Own w [(w.heap.size, 32, (· = .agg (vals Lk))), ((w.heap.size + 1), 32, (· = .agg (vals Lu))), ((w.heap.size + 2), 16, (fun _ => True)), ((w.heap.size + 3), 16, (fun _ => True)), (gn, 32, (· = .agg (vals (bytesN V)))), (g7, 16, IsN x1), (g8, 16, IsN p3), (g9, 16, IsN q2), (g10, 16, IsN p2), (g11, 16, IsN q3)] V4'' := hS'
        clear hS'
        refine wpList_nil ?_
        rw [ef, HT]
        clear ef
        simp only [fillA, if_true, List.getD_cons_zero, List.getD_cons_succ, List.setIfInBounds_toArray, List.set_cons_zero, List.set_cons_succ]
        generalize t1.getD 47 undef = z47
        generalize t1.getD 48 undef = z48
        clear HT
        clear h4 h5 h6 h7 h8 h9 h10 h11 h12 h13 q47 q48 v47 v48 hM HS t1 t0 M
        go_wp2_with ((with_reducible refine guard_list ?_); first | (refine held_load 26 _ rfl ?_) | (refine held_load 22 _ rfl ?_) | (refine held_load 68 _ rfl ?_) | (refine held_load 131 _ rfl ?_))
        obtain ⟨M, hM⟩ : ∃ M, M = V4''.heap.size := ⟨_, rfl⟩
        refine hide_held fun t0 HT => ?_
        have HS : t0.size = 110 := by rw [HT]; rfl
        have h4 : t0[4]? = some (.pointer (some ⟨(w.heap.size + 2), 0, none⟩)) := by rw [HT]; rfl
        have h5 : t0[5]? = some (.pointer (some ⟨(w.heap.size + 3), 0, none⟩)) := by rw [HT]; rfl
        have h6 : t0[6]? = some (.pointer (some ⟨gn, 0, none⟩)) := by rw [HT]; rfl
        have h7 : t0[7]? = some (.pointer (some ⟨g7, 0, none⟩)) := by rw [HT]; rfl
        have h8 : t0[8]? = some (.pointer (some ⟨g8, 0, none⟩)) := by rw [HT]; rfl
        have h9 : t0[9]? = some (.pointer (some ⟨g9, 0, none⟩)) := by rw [HT]; rfl
        have h10 : t0[10]? = some (.pointer (some ⟨g10, 0, none⟩)) := by rw [HT]; rfl
        have h11 : t0[11]? = some (.pointer (some ⟨g11, 0, none⟩)) := by rw [HT]; rfl
        have h12 : t0[12]? = some (.int .i64 (j : Int)) := by rw [HT]; rfl
        have h13 : t0[13]? = some (.int .u8 1) := by rw [HT]; rfl
        refine wp_list_most 2 (fun i => [49, 50].getD i 0) (fun _ => none) (fun i => [IsN q3, IsN q2].getD i (fun _ => True)) (fun w' => Own w [(w.heap.size, 32, (· = .agg (vals Lk))), ((w.heap.size + 1), 32, (· = .agg (vals Lu))), ((w.heap.size + 2), 16, (fun _ => True)), ((w.heap.size + 3), 16, (fun _ => True)), (gn, 32, (· = .agg (vals (bytesN V)))), (g7, 16, IsN x1), (g8, 16, IsN p3), (g9, 16, IsN q2), (g10, 16, IsN p2), (g11, 16, IsN q3)] w' ∧ M ≤ w'.heap.size) M
          (by kernel_rfl) (slots_apart (by kernel_rfl)) (slots_lie (by rw [HS]; kernel_rfl)) ⟨hS, Nat.le_of_eq hM⟩ (fun w' h => h.2) (fun w1 w2 h b => ⟨h.1.keep b, Nat.le_trans h.2 b.size⟩) ?_ ?_ ?_
        · clear hS
          intro i o hi ho hA
          have hc : i = 0 ∨ i = 1 := by omega
          rcases hc with rfl | rfl
          · obtain rfl := Option.some.inj ho
            refine ⟨rfl, fun a w' hS hold hin K hK => ?_⟩
            refine if_always rfl ?_
            exact op_ld_own 16 tNine (.tmp 11) rfl rfl _ (eval_tmp ((hold 11 (slots_not (by kernel_rfl))).trans h11)) hS.1 9 rfl hK
          · obtain rfl := Option.some.inj ho
            refine ⟨rfl, fun a w' hS hold hin K hK => ?_⟩
            refine if_always rfl ?_
            exact op_ld_own 16 tNine (.tmp 9) rfl rfl _ (eval_tmp ((hold 9 (slots_not (by kernel_rfl))).trans h9)) hS.1 7 rfl hK
        · intro i o sz hi ho hA; cases hA
        clear hS
        intro t1 V5 hs hold hout hall hne hS
        have ef := frame_fill 2 (fun i => [49, 50].getD i 0) hs hold (slots_apart (by kernel_rfl)) (slots_lie (by rw [HS]; kernel_rfl))
        replace HS := hs.trans HS
        replace hS := hS.1
        obtain ⟨x49, q49, v49⟩ : ∃ x, t1[49]? = some x ∧ (IsN q3) x := hout 0 (by omega) rfl
        obtain ⟨x50, q50, v50⟩ : ∃ x, t1[50]? = some x ∧ (IsN q2) x := hout 1 (by omega) rfl
        replace h4 := (hold 4 (slots_not (by kernel_rfl))).trans h4
        replace h5 := (hold 5 (slots_not (by kernel_rfl))).trans h5
        replace h6 := (hold 6 (slots_not (by kernel_rfl))).trans h6
        replace h7 := (hold 7 (slots_not (by kernel_rfl))).trans h7
        replace h8 := (hold 8 (slots_not (by kernel_rfl))).trans h8
        replace h9 := (hold 9 (slots_not (by kernel_rfl))).trans h9
        replace h10 := (hold 10 (slots_not (by kernel_rfl))).trans h10
        replace h11 := (hold 11 (slots_not (by kernel_rfl))).trans h11
        replace h12 := (hold 12 (slots_not (by kernel_rfl))).trans h12
        replace h13 := (hold 13 (slots_not (by kernel_rfl))).trans h13
        clear hold hout hs hall hne
        simp only [List.drop_succ_cons, List.drop_zero]
        refine st_own 16 tNine rfl (.tmp 9) (.tmp 49) rfl rfl _ _ (eval_tmp h9) (eval_tmp q49) (V' := IsN q3) v49 (fun x hx => isN_row hx) hS 7 rfl fun V5' hS' _ => ?_
        replace hS : Own w [(w.heap.size, 32, (· = .agg (vals Lk))), ((w.heap.size + 1), 32, (· = .agg (vals Lu))), ((w.heap.size + 2), 16, (fun _ => True)), ((w.heap.size + 3), 16, (fun _ => True)), (gn, 32, (· = .agg (vals (bytesN V)))), (g7, 16, IsN x1), (g8, 16, IsN p3), (g9, 16, IsN q3), (g10, 16, IsN p2), (g11, 16, IsN q3)] V5' := hS'
        clear hS'
        refine st_own 16 tNine rfl (.tmp 11) (.tmp 50) rfl rfl _ _ (eval_tmp h11) (eval_tmp q50) (V' := IsN q2) v50 (fun x hx => isN_row hx) hS 9 rfl fun V5'' hS' _ => ?_
        replace hS : Own w [(w.heap.size, 32, (· = .agg (vals Lk))), ((w.heap.size + 1), 32, (· = .agg (vals Lu))), ((w.heap.size + 2), 16, (fun _ => True)), ((w.heap.size + 3), 16, (fun _ => True)), (gn, 32, (· = .agg (vals (bytesN V)))), (g7, 16, IsN x1), (g8, 16, IsN p3), (g9, 16, IsN q3), (g10, 16, IsN p2), (g11, 16, IsN q2)] V5'' := hS'
        clear hS'
        refine wpList_nil ?_
        rw [ef, HT]
        clear ef
        simp only [fillA, if_true, List.getD_cons_zero, List.getD_cons_succ, List.setIfInBounds_toArray, List.set_cons_zero, List.set_cons_succ]
        generalize t1.getD 49 undef = z49
        generalize t1.getD 50 undef = z50
        clear HT
        clear h4 h5 h6 h7 h8 h9 h10 h11 h12 h13 q49 q50 v49 v50 hM HS t1 t0 M
        go_wp2_with fail
        obtain ⟨M, hM⟩ : ∃ M, M = V5''.heap.size := ⟨_, rfl⟩
        have hMB : w.heap.size ≤ M := hM ▸ hS.1.size
        have ltM := hS.lt
        rw [← hM] at ltM
        refine hide_frame fun t0 HT => ?_
        have HS : t0.size = 110 := by rw [HT]; rfl
        have h4 : t0[4]? = some (.pointer (some ⟨(w.heap.size + 2), 0, none⟩)) := by rw [HT]; rfl
        have h5 : t0[5]? = some (.pointer (some ⟨(w.heap.size + 3), 0, none⟩)) := by rw [HT]; rfl
        have h6 : t0[6]? = some (.pointer (some ⟨gn, 0, none⟩)) := by rw [HT]; rfl
        have h7 : t0[7]? = some (.pointer (some ⟨g7, 0, none⟩)) := by rw [HT]; rfl
        have h8 : t0[8]? = some (.pointer (some ⟨g8, 0, none⟩)) := by rw [HT]; rfl
        have h9 : t0[9]? = some (.pointer (some ⟨g9, 0, none⟩)) := by rw [HT]; rfl
        have h10 : t0[10]? = some (.pointer (some ⟨g10, 0, none⟩)) := by rw [HT]; rfl
        have h11 : t0[11]? = some (.pointer (some ⟨g11, 0, none⟩)) := by rw [HT]; rfl
        have h12 : t0[12]? = some (.int .i64 (j : Int)) := by rw [HT]; rfl
        have h13 : t0[13]? = some (.int .u8 1) := by rw [HT]; rfl
        refine wp_region_most 16 (fun i => [51, 52, 53, 54, 55, 56, 57, 58, 59, 60, 61, 62, 14, 15, 16, 17].getD i 0) (fun i => [none, none, none, none, none, none, none, none, none, none, none, none, some 16, some 16, some 16, some 16].getD i none) (fun i => [IsN p3, IsN q3, IsW (p3 + q3), IsN p3, IsN q3, IsW (p3 - q3), IsN p2, IsN q2, IsW (p2 + q2), IsN p2, IsN q2, IsW (p2 - q2), (fun _ => True), (fun _ => True), (fun _ => True), (fun _ => True)].getD i (fun _ => True)) (fun w' => Own w [(w.heap.size, 32, (· = .agg (vals Lk))), ((w.heap.size + 1), 32, (· = .agg (vals Lu))), ((w.heap.size + 2), 16, (fun _ => True)), ((w.heap.size + 3), 16, (fun _ => True)), (gn, 32, (· = .agg (vals (bytesN V)))), (g7, 16, IsN x1), (g8, 16, IsN p3), (g9, 16, IsN q3), (g10, 16, IsN p2), (g11, 16, IsN q2)] w' ∧ M ≤ w'.heap.size) M
          (by kernel_rfl) (by kernel_rfl) (slots_apart (by kernel_rfl)) (slots_lie (by rw [HS]; kernel_rfl)) ⟨hS.drew, Nat.le_of_eq hM⟩ (fun w' h => h.2) (fun w1 w2 h b => ⟨h.1.keep b, Nat.le_trans h.2 b.size⟩) ?_ ?_ ?_
        · clear hS
          intro i o hi ho hA
          have hc : i = 0 ∨ i = 1 ∨ i = 2 ∨ i = 3 ∨ i = 4 ∨ i = 5 ∨ i = 6 ∨ i = 7 ∨ i = 8 ∨ i = 9 ∨ i = 10 ∨ i = 11 ∨ i = 12 ∨ i = 13 ∨ i = 14 ∨ i = 15 := by omega
          rcases hc with rfl | rfl | rfl | rfl | rfl | rfl | rfl | rfl | rfl | rfl | rfl | rfl | rfl | rfl | rfl | rfl
          · obtain rfl := Option.some.inj ho
            refine ⟨rfl, fun a w' hS hold hin K hK => ?_⟩
            refine if_always rfl ?_
            exact op_ld_own 16 tNine (.tmp 8) rfl rfl _ (eval_tmp ((hold 8 (slots_not (by kernel_rfl))).trans h8)) hS.1 6 rfl hK
          · obtain rfl := Option.some.inj ho
            refine ⟨rfl, fun a w' hS hold hin K hK => ?_⟩
            refine if_always rfl ?_
            exact op_ld_own 16 tNine (.tmp 9) rfl rfl _ (eval_tmp ((hold 9 (slots_not (by kernel_rfl))).trans h9)) hS.1 7 rfl hK
          · obtain rfl := Option.some.inj ho
            refine ⟨rfl, fun a w' hS hold hin K hK => ?_⟩
            obtain ⟨y0, x0, (v0 : IsN p3 y0)⟩ := hin 0 rfl (by omega) rfl
            obtain ⟨y1, x1, (v1 : IsN q3 y1)⟩ := hin 1 rfl (by omega) rfl
            refine if_always rfl ?_
            exact op_fn2 _ _ _ _ _ _ rfl rfl (eval_tmp x0) (eval_tmp x1) (by intro args w; kernel_rfl) (plus9_ev v0 v1 _) hK
          · obtain rfl := Option.some.inj ho
            refine ⟨rfl, fun a w' hS hold hin K hK => ?_⟩
            refine if_always rfl ?_
            exact op_ld_own 16 tNine (.tmp 8) rfl rfl _ (eval_tmp ((hold 8 (slots_not (by kernel_rfl))).trans h8)) hS.1 6 rfl hK
          · obtain rfl := Option.some.inj ho
            refine ⟨rfl, fun a w' hS hold hin K hK => ?_⟩
            refine if_always rfl ?_
            exact op_ld_own 16 tNine (.tmp 9) rfl rfl _ (eval_tmp ((hold 9 (slots_not (by kernel_rfl))).trans h9)) hS.1 7 rfl hK
          · obtain rfl := Option.some.inj ho
            refine ⟨rfl, fun a w' hS hold hin K hK => ?_⟩
            obtain ⟨y3, x3, (v3 : IsN p3 y3)⟩ := hin 3 rfl (by omega) rfl
            obtain ⟨y4, x4, (v4 : IsN q3 y4)⟩ := hin 4 rfl (by omega) rfl
            refine if_always rfl ?_
            exact op_fn2 _ _ _ _ _ _ rfl rfl (eval_tmp x3) (eval_tmp x4) (by intro args w; kernel_rfl) (minus9_ev v3 v4 _) hK
          · obtain rfl := Option.some.inj ho
            refine ⟨rfl, fun a w' hS hold hin K hK => ?_⟩
            refine if_always rfl ?_
            exact op_ld_own 16 tNine (.tmp 10) rfl rfl _ (eval_tmp ((hold 10 (slots_not (by kernel_rfl))).trans h10)) hS.1 8 rfl hK
          · obtain rfl := Option.some.inj ho
            refine ⟨rfl, fun a w' hS hold hin K hK => ?_⟩
            refine if_always rfl ?_
            exact op_ld_own 16 tNine (.tmp 11) rfl rfl _ (eval_tmp ((hold 11 (slots_not (by kernel_rfl))).trans h11)) hS.1 9 rfl hK
          · obtain rfl := Option.some.inj ho
            refine ⟨rfl, fun a w' hS hold hin K hK => ?_⟩
            obtain ⟨y6, x6, (v6 : IsN p2 y6)⟩ := hin 6 rfl (by omega) rfl
            obtain ⟨y7, x7, (v7 : IsN q2 y7)⟩ := hin 7 rfl (by omega) rfl
            refine if_always rfl ?_
            exact op_fn2 _ _ _ _ _ _ rfl rfl (eval_tmp x6) (eval_tmp x7) (by intro args w; kernel_rfl) (plus9_ev v6 v7 _) hK
          · obtain rfl := Option.some.inj ho
            refine ⟨rfl, fun a w' hS hold hin K hK => ?_⟩
            refine if_always rfl ?_
            exact op_ld_own 16 tNine (.tmp 10) rfl rfl _ (eval_tmp ((hold 10 (slots_not (by kernel_rfl))).trans h10)) hS.1 8 rfl hK
          · obtain rfl := Option.some.inj ho
            refine ⟨rfl, fun a w' hS hold hin K hK => ?_⟩
            refine if_always rfl ?_
            exact op_ld_own 16 tNine (.tmp 11) rfl rfl _ (eval_tmp ((hold 11 (slots_not (by kernel_rfl))).trans h11)) hS.1 9 rfl hK
          · obtain rfl := Option.some.inj ho
            refine ⟨rfl, fun a w' hS hold hin K hK => ?_⟩
            obtain ⟨y9, x9, (v9 : IsN p2 y9)⟩ := hin 9 rfl (by omega) rfl
            obtain ⟨y10, x10, (v10 : IsN q2 y10)⟩ := hin 10 rfl (by omega) rfl
            refine if_always rfl ?_
            exact op_fn2 _ _ _ _ _ _ rfl rfl (eval_tmp x9) (eval_tmp x10) (by intro args w; kernel_rfl) (minus9_ev v9 v10 _) hK
          · cases hA
          · cases hA
          · cases hA
          · cases hA
        · intro i o sz hi ho hA
          have hc : i = 0 ∨ i = 1 ∨ i = 2 ∨ i = 3 ∨ i = 4 ∨ i = 5 ∨ i = 6 ∨ i = 7 ∨ i = 8 ∨ i = 9 ∨ i = 10 ∨ i = 11 ∨ i = 12 ∨ i = 13 ∨ i = 14 ∨ i = 15 := by omega
          rcases hc with rfl | rfl | rfl | rfl | rfl | rfl | rfl | rfl | rfl | rfl | rfl | rfl | rfl | rfl | rfl | rfl
          · cases hA
          · cases hA
          · cases hA
          · cases hA
          · cases hA
          · cases hA
          · cases hA
          · cases hA
          · cases hA
          · cases hA
          · cases hA
          · cases hA
          · obtain rfl := Option.some.inj ho
            obtain rfl := Option.some.inj hA
            exact ⟨rfl, rfl, 131, #[.int .i64 0, .int .i64 0, .int .i64 0, .int .i64 0, .int .i64 0, .int .i64 0, .int .i64 0, .int .i64 0, .int .i64 0, .int .i64 0, .int .i64 0, .int .i64 0, .int .i64 0, .int .i64 0, .int .i64 0, .int .i64 0], rfl, fun a w' K h => wp_new 131 #[.int .i64 0, .int .i64 0, .int .i64 0, .int .i64 0, .int .i64 0, .int .i64 0, .int .i64 0, .int .i64 0, .int .i64 0, .int .i64 0, .int .i64 0, .int .i64 0, .int .i64 0, .int .i64 0, .int .i64 0, .int .i64 0] (fun w => by kernel_rfl) h⟩
          · obtain rfl := Option.some.inj ho
            obtain rfl := Option.some.inj hA
            exact ⟨rfl, rfl, 131, #[.int .i64 0, .int .i64 0, .int .i64 0, .int .i64 0, .int .i64 0, .int .i64 0, .int .i64 0, .int .i64 0, .int .i64 0, .int .i64 0, .int .i64 0, .int .i64 0, .int .i64 0, .int .i64 0, .int .i64 0, .int .i64 0], rfl, fun a w' K h => wp_new 131 #[.int .i64 0, .int .i64 0, .int .i64 0, .int .i64 0, .int .i64 0, .int .i64 0, .int .i64 0, .int .i64 0, .int .i64 0, .int .i64 0, .int .i64 0, .int .i64 0, .int .i64 0, .int .i64 0, .int .i64 0, .int .i64 0] (fun w => by kernel_rfl) h⟩
          · obtain rfl := Option.some.inj ho
            obtain rfl := Option.some.inj hA
            exact ⟨rfl, rfl, 131, #[.int .i64 0, .int .i64 0, .int .i64 0, .int .i64 0, .int .i64 0, .int .i64 0, .int .i64 0, .int .i64 0, .int .i64 0, .int .i64 0, .int .i64 0, .int .i64 0, .int .i64 0, .int .i64 0, .int .i64 0, .int .i64 0], rfl, fun a w' K h => wp_new 131 #[.int .i64 0, .int .i64 0, .int .i64 0, .int .i64 0, .int .i64 0, .int .i64 0, .int .i64 0, .int .i64 0, .int .i64 0, .int .i64 0, .int .i64 0, .int .i64 0, .int .i64 0, .int .i64 0, .int .i64 0, .int .i64 0] (fun w => by kernel_rfl) h⟩
          · obtain rfl := Option.some.inj ho
            obtain rfl := Option.some.inj hA
            exact ⟨rfl, rfl, 131, #[.int .i64 0, .int .i64 0, .int .i64 0, .int .i64 0, .int .i64 0, .int .i64 0, .int .i64 0, .int .i64 0, .int .i64 0, .int .i64 0, .int .i64 0, .int .i64 0, .int .i64 0, .int .i64 0, .int .i64 0, .int .i64 0], rfl, fun a w' K h => wp_new 131 #[.int .i64 0, .int .i64 0, .int .i64 0, .int .i64 0, .int .i64 0, .int .i64 0, .int .i64 0, .int .i64 0, .int .i64 0, .int .i64 0, .int .i64 0, .int .i64 0, .int .i64 0, .int .i64 0, .int .i64 0, .int .i64 0] (fun w => by kernel_rfl) h⟩
        clear hS
        intro t1 V6 hs hold hout hall hne hS
        have ef := frame_fill 16 (fun i => [51, 52, 53, 54, 55, 56, 57, 58, 59, 60, 61, 62, 14, 15, 16, 17].getD i 0) hs hold (slots_apart (by kernel_rfl)) (slots_lie (by rw [HS]; kernel_rfl))
        replace HS := hs.trans HS
        replace hS := hS.1
        obtain ⟨g14, h14, b14, r14⟩ : ∃ g, t1[14]? = some (.pointer (some ⟨g, 0, none⟩)) ∧ M ≤ g ∧ ∃ cs ty, V6.heap[g]? = some (.cells cs ty (0, 0)) ∧ cs.size = 16 := by
          obtain ⟨g, p1, p2, ty, cs, p3, p4⟩ := hall 12 (by omega) 16 rfl
          exact ⟨g, p1, p2, cs, ty, p3, p4⟩
        obtain ⟨g15, h15, b15, r15⟩ : ∃ g, t1[15]? = some (.pointer (some ⟨g, 0, none⟩)) ∧ M ≤ g ∧ ∃ cs ty, V6.heap[g]? = some (.cells cs ty (0, 0)) ∧ cs.size = 16 := by
          obtain ⟨g, p1, p2, ty, cs, p3, p4⟩ := hall 13 (by omega) 16 rfl
          exact ⟨g, p1, p2, cs, ty, p3, p4⟩
        obtain ⟨g16, h16, b16, r16⟩ : ∃ g, t1[16]? = some (.pointer (some ⟨g, 0, none⟩)) ∧ M ≤ g ∧ ∃ cs ty, V6.heap[g]? = some (.cells cs ty (0, 0)) ∧ cs.size = 16 := by
          obtain ⟨g, p1, p2, ty, cs, p3, p4⟩ := hall 14 (by omega) 16 rfl
          exact ⟨g, p1, p2, cs, ty, p3, p4⟩
        obtain ⟨g17, h17, b17, r17⟩ : ∃ g, t1[17]? = some (.pointer (some ⟨g, 0, none⟩)) ∧ M ≤ g ∧ ∃ cs ty, V6.heap[g]? = some (.cells cs ty (0, 0)) ∧ cs.size = 16 := by
          obtain ⟨g, p1, p2, ty, cs, p3, p4⟩ := hall 15 (by omega) 16 rfl
          exact ⟨g, p1, p2, cs, ty, p3, p4⟩
        have n14_15 : g14 ≠ g15 := fun h => hne 12 13 (by omega) (by omega) (by omega) rfl rfl (show t1[14]? = t1[15]? by rw [h14, h15, h])
        have n14_16 : g14 ≠ g16 := fun h => hne 12 14 (by omega) (by omega) (by omega) rfl rfl (show t1[14]? = t1[16]? by rw [h14, h16, h])
        have n14_17 : g14 ≠ g17 := fun h => hne 12 15 (by omega) (by omega) (by omega) rfl rfl (show t1[14]? = t1[17]? by rw [h14, h17, h])
        have n15_16 : g15 ≠ g16 := fun h => hne 13 14 (by omega) (by omega) (by omega) rfl rfl (show t1[15]? = t1[16]? by rw [h15, h16, h])
        have n15_17 : g15 ≠ g17 := fun h => hne 13 15 (by omega) (by omega) (by omega) rfl rfl (show t1[15]? = t1[17]? by rw [h15, h17, h])
        have n16_17 : g16 ≠ g17 := fun h => hne 14 15 (by omega) (by omega) (by omega) rfl rfl (show t1[16]? = t1[17]? by rw [h16, h17, h])
        replace hS : Own w [(w.heap.size, 32, (· = .agg (vals Lk))), ((w.heap.size + 1), 32, (· = .agg (vals Lu))), ((w.heap.size + 2), 16, (fun _ => True)), ((w.heap.size + 3), 16, (fun _ => True)), (gn, 32, (· = .agg (vals (bytesN V)))), (g7, 16, IsN x1), (g8, 16, IsN p3), (g9, 16, IsN q3), (g10, 16, IsN p2), (g11, 16, IsN q2), (g14, 16, (fun _ => True))] V6 := hS.add (Nat.le_trans hMB b14) (fun r hr => Nat.ne_of_lt (Nat.lt_of_lt_of_le (ltM r hr) b14)) (Own.any r14)
        replace hS : Own w [(w.heap.size, 32, (· = .agg (vals Lk))), ((w.heap.size + 1), 32, (· = .agg (vals Lu))), ((w.heap.size + 2), 16, (fun _ => True)), ((w.heap.size + 3), 16, (fun _ => True)), (gn, 32, (· = .agg (vals (bytesN V)))), (g7, 16, IsN x1), (g8, 16, IsN p3), (g9, 16, IsN q3), (g10, 16, IsN p2), (g11, 16, IsN q2), (g14, 16, (fun _ => True)), (g15, 16, (fun _ => True))] V6 := hS.add (Nat.le_trans hMB b15) (Own.ne_app (g1 := g14) (fun r hr => Nat.ne_of_lt (Nat.lt_of_lt_of_le (ltM r hr) b15)) n14_15) (Own.any r15)
        replace hS : Own w [(w.heap.size, 32, (· = .agg (vals Lk))), ((w.heap.size + 1), 32, (· = .agg (vals Lu))), ((w.heap.size + 2), 16, (fun _ => True)), ((w.heap.size + 3), 16, (fun _ => True)), (gn, 32, (· = .agg (vals (bytesN V)))), (g7, 16, IsN x1), (g8, 16, IsN p3), (g9, 16, IsN q3), (g10, 16, IsN p2), (g11, 16, IsN q2), (g14, 16, (fun _ => True)), (g15, 16, (fun _ => True)), (g16, 16, (fun _ => True))] V6 := hS.add (Nat.le_trans hMB b16) (Own.ne_app (g1 := g15) (Own.ne_app (g1 := g14) (fun r hr => Nat.ne_of_lt (Nat.lt_of_lt_of_le (ltM r hr) b16)) n14_16) n15_16) (Own.any r16)
        replace hS : Own w [(w.heap.size, 32, (· = .agg (vals Lk))), ((w.heap.size + 1), 32, (· = .agg (vals Lu))), ((w.heap.size + 2), 16, (fun _ => True)), ((w.heap.size + 3), 16, (fun _ => True)), (gn, 32, (· = .agg (vals (bytesN V)))), (g7, 16, IsN x1), (g8, 16, IsN p3), (g9, 16, IsN q3), (g10, 16, IsN p2), (g11, 16, IsN q2), (g14, 16, (fun _ => True)), (g15, 16, (fun _ => True)), (g16, 16, (fun _ => True)), (g17, 16, (fun _ => True))] V6 := hS.add (Nat.le_trans hMB b17) (Own.ne_app (g1 := g16) (Own.ne_app (g1 := g15) (Own.ne_app (g1 := g14) (fun r hr => Nat.ne_of_lt (Nat.lt_of_lt_of_le (ltM r hr) b17)) n14_17) n15_17) n16_17) (Own.any r17)
        obtain ⟨x53, q53, v53⟩ : ∃ x, t1[53]? = some x ∧ (IsW (p3 + q3)) x := hout 2 (by omega) rfl
        obtain ⟨x56, q56, v56⟩ : ∃ x, t1[56]? = some x ∧ (IsW (p3 - q3)) x := hout 5 (by omega) rfl
        obtain ⟨x59, q59, v59⟩ : ∃ x, t1[59]? = some x ∧ (IsW (p2 + q2)) x := hout 8 (by omega) rfl
        obtain ⟨x62, q62, v62⟩ : ∃ x, t1[62]? = some x ∧ (IsW (p2 - q2)) x := hout 11 (by omega) rfl
        replace h4 := (hold 4 (slots_not (by kernel_rfl))).trans h4
        replace h5 := (hold 5 (slots_not (by kernel_rfl))).trans h5
        replace h6 := (hold 6 (slots_not (by kernel_rfl))).trans h6
        replace h7 := (hold 7 (slots_not (by kernel_rfl))).trans h7
        replace h8 := (hold 8 (slots_not (by kernel_rfl))).trans h8
        replace h9 := (hold 9 (slots_not (by kernel_rfl))).trans h9
        replace h10 := (hold 10 (slots_not (by kernel_rfl))).trans h10
        replace h11 := (hold 11 (slots_not (by kernel_rfl))).trans h11
        replace h12 := (hold 12 (slots_not (by kernel_rfl))).trans h12
        replace h13 := (hold 13 (slots_not (by kernel_rfl))).trans h13
        clear hold hout hs hall hne
        simp only [List.drop_succ_cons, List.drop_zero]
        refine st_own 16 tNine rfl (.tmp 14) (.tmp 53) rfl rfl _ _ (eval_tmp h14) (eval_tmp q53) (V' := IsW (p3 + q3)) v53 (fun x hx => isW_row hx) hS 10 rfl fun V6' hS' _ => ?_
        replace hS : Own w [(w.heap.size, 32, (· = .agg (vals Lk))), ((w.heap.size + 1), 32, (· = .agg (vals Lu))), ((w.heap.size + 2), 16, (fun _ => True)), ((w.heap.size + 3), 16, (fun _ => True)), (gn, 32, (· = .agg (vals (bytesN V)))), (g7, 16, IsN x1), (g8, 16, IsN p3), (g9, 16, IsN q3), (g10, 16, IsN p2), (g11, 16, IsN q2), (g14, 16, IsW (p3 + q3)), (g15, 16, (fun _ => True)), (g16, 16, (fun _ => True)), (g17, 16, (fun _ => True))] V6' := hS'
        clear hS'
        refine st_own 16 tNine rfl (.tmp 15) (.tmp 56) rfl rfl _ _ (eval_tmp h15) (eval_tmp q56) (V' := IsW (p3 - q3)) v56 (fun x hx => isW_row hx) hS 11 rfl fun V6'' hS' _ => ?_
        replace hS : Own w [(w.heap.size, 32, (· = .agg (vals Lk))), ((w.heap.size + 1), 32, (· = .agg (vals Lu))), ((w.heap.size + 2), 16, (fun _ => True)), ((w.heap.size + 3), 16, (fun _ => True)), (gn, 32, (· = .agg (vals (bytesN V)))), (g7, 16, IsN x1), (g8, 16, IsN p3), (g9, 16, IsN q3), (g10, 16, IsN p2), (g11, 16, IsN q2), (g14, 16, IsW (p3 + q3)), (g15, 16, IsW (p3 - q3)), (g16, 16, (fun _ => True)), (g17, 16, (fun _ => True))] V6'' := hS'
        clear hS'
        refine st_own 16 tNine rfl (.tmp 16) (.tmp 59) rfl rfl _ _ (eval_tmp h16) (eval_tmp q59) (V' := IsW (p2 + q2)) v59 (fun x hx => isW_row hx) hS 12 rfl fun V6''' hS' _ => ?_
        replace hS : Own w [(w.heap.size, 32, (· = .agg (vals Lk))), ((w.heap.size + 1), 32, (· = .agg (vals Lu))), ((w.heap.size + 2), 16, (fun _ => True)), ((w.heap.size + 3), 16, (fun _ => True)), (gn, 32, (· = .agg (vals (bytesN V)))), (g7, 16, IsN x1), (g8, 16, IsN p3), (g9, 16, IsN q3), (g10, 16, IsN p2), (g11, 16, IsN q2), (g14, 16, IsW (p3 + q3)), (g15, 16, IsW (p3 - q3)), (g16, 16, IsW (p2 + q2)), (g17, 16, (fun _ => True))] V6''' := hS'
        clear hS'
        refine st_own 16 tNine rfl (.tmp 17) (.tmp 62) rfl rfl _ _ (eval_tmp h17) (eval_tmp q62) (V' := IsW (p2 - q2)) v62 (fun x hx => isW_row hx) hS 13 rfl fun V6'''' hS' _ => ?_
        replace hS : Own w [(w.heap.size, 32, (· = .agg (vals Lk))), ((w.heap.size + 1), 32, (· = .agg (vals Lu))), ((w.heap.size + 2), 16, (fun _ => True)), ((w.heap.size + 3), 16, (fun _ => True)), (gn, 32, (· = .agg (vals (bytesN V)))), (g7, 16, IsN x1), (g8, 16, IsN p3), (g9, 16, IsN q3), (g10, 16, IsN p2), (g11, 16, IsN q2), (g14, 16, IsW (p3 + q3)), (g15, 16, IsW (p3 - q3)), (g16, 16, IsW (p2 + q2)), (g17, 16, IsW (p2 - q2))] V6'''' := hS'
        clear hS'
        refine wpList_nil ?_
        have g14 : t1.getD 14 undef = .pointer (some ⟨g14, 0, none⟩) := by rw [Array.getD_eq_getD_getElem?, h14]; rfl
        have g15 : t1.getD 15 undef = .pointer (some ⟨g15, 0, none⟩) := by rw [Array.getD_eq_getD_getElem?, h15]; rfl
        have g16 : t1.getD 16 undef = .pointer (some ⟨g16, 0, none⟩) := by rw [Array.getD_eq_getD_getElem?, h16]; rfl
        have g17 : t1.getD 17 undef = .pointer (some ⟨g17, 0, none⟩) := by rw [Array.getD_eq_getD_getElem?, h17]; rfl
        rw [ef, HT]
        clear ef
        simp only [fillA, if_true, List.getD_cons_zero, List.getD_cons_succ, List.setIfInBounds_toArray, List.set_cons_zero, List.set_cons_succ, g14, g15, g16, g17]
        generalize t1.getD 51 undef = z51
        generalize t1.getD 52 undef = z52
        generalize t1.getD 53 undef = z53
        generalize t1.getD 54 undef = z54
        generalize t1.getD 55 undef = z55
        generalize t1.getD 56 undef = z56
        generalize t1.getD 57 undef = z57
        generalize t1.getD 58 undef = z58
        generalize t1.getD 59 undef = z59
        generalize t1.getD 60 undef = z60
        generalize t1.getD 61 undef = z61
        generalize t1.getD 62 undef = z62
        clear g14 g15 g16 g17 HT
        clear h4 h5 h6 h7 h8 h9 h10 h11 h12 h13 h14 h15 h16 h17 q53 q56 q59 q62 v53 v56 v59 v62 b14 b15 b16 b17 r14 r15 r16 r17 n14_15 n14_16 n14_17 n15_16 n15_17 n16_17 ltM hMB hM HS t1 t0 M
        go_wp2_with fail
        obtain ⟨M, hM⟩ : ∃ M, M = V6''''.heap.size := ⟨_, rfl⟩
        have hMB : w.heap.size ≤ M := hM ▸ hS.1.size
        have ltM := hS.lt
        rw [← hM] at ltM
        refine hide_frame fun t0 HT => ?_
        have HS : t0.size = 110 := by rw [HT]; rfl
        have h4 : t0[4]? = some (.pointer (some ⟨(w.heap.size + 2), 0, none⟩)) := by rw [HT]; rfl
        have h5 : t0[5]? = some (.pointer (some ⟨(w.heap.size + 3), 0, none⟩)) := by rw [HT]; rfl
        have h6 : t0[6]? = some (.pointer (some ⟨gn, 0, none⟩)) := by rw [HT]; rfl
        have h7 : t0[7]? = some (.pointer (some ⟨g7, 0, none⟩)) := by rw [HT]; rfl
        have h8 : t0[8]? = some (.pointer (some ⟨g8, 0, none⟩)) := by rw [HT]; rfl
        have h9 : t0[9]? = some (.pointer (some ⟨g9, 0, none⟩)) := by rw [HT]; rfl
        have h10 : t0[10]? = some (.pointer (some ⟨g10, 0, none⟩)) := by rw [HT]; rfl
        have h11 : t0[11]? = some (.pointer (some ⟨g11, 0, none⟩)) := by rw [HT]; rfl
        have h12 : t0[12]? = some (.int .i64 (j : Int)) := by rw [HT]; rfl
        have h13 : t0[13]? = some (.int .u8 1) := by rw [HT]; rfl
        have h14 : t0[14]? = some (.pointer (some ⟨g14, 0, none⟩)) := by rw [HT]; rfl
        have h15 : t0[15]? = some (.pointer (some ⟨g15, 0, none⟩)) := by rw [HT]; rfl
        have h16 : t0[16]? = some (.pointer (some ⟨g16, 0, none⟩)) := by rw [HT]; rfl
        have h17 : t0[17]? = some (.pointer (some ⟨g17, 0, none⟩)) := by rw [HT]; rfl
        refine wp_region_most 16 (fun i => [63, 64, 65, 66, 67, 68, 69, 70, 71, 72, 73, 74, 18, 19, 20, 21].getD i 0) (fun i => [none, none, none, none, none, none, none, none, none, none, none, none, some 16, some 16, some 16, some 16].getD i none) (fun i => [IsW (p3 + q3), IsW (p3 + q3), IsN ((p3 + q3) * (p3 + q3)), IsW (p3 - q3), IsW (p3 - q3), IsN ((p3 - q3) * (p3 - q3)), IsW (p2 - q2), IsW (p3 + q3), IsN ((p2 - q2) * (p3 + q3)), IsW (p2 + q2), IsW (p3 - q3), IsN ((p2 + q2) * (p3 - q3)), (fun _ => True), (fun _ => True), (fun _ => True), (fun _ => True)].getD i (fun _ => True)) (fun w' => Own w [(w.heap.size, 32, (· = .agg (vals Lk))), ((w.heap.size + 1), 32, (· = .agg (vals Lu))), ((w.heap.size + 2), 16, (fun _ => True)), ((w.heap.size + 3), 16, (fun _ => True)), (gn, 32, (· = .agg (vals (bytesN V)))), (g7, 16, IsN x1), (g8, 16, IsN p3), (g9, 16, IsN q3), (g10, 16, IsN p2), (g11, 16, IsN q2), (g14, 16, IsW (p3 + q3)), (g15, 16, IsW (p3 - q3)), (g16, 16, IsW (p2 + q2)), (g17, 16, IsW (p2 - q2))] w' ∧ M ≤ w'.heap.size) M
          (by kernel_rfl) (by kernel_rfl) (slots_apart (by kernel_rfl)) (slots_lie (by rw [HS]; kernel_rfl)) ⟨hS.drew, Nat.le_of_eq hM⟩ (fun w' h => h.2) (fun w1 w2 h b => ⟨h.1.keep b, Nat.le_trans h.2 b.size⟩) ?_ ?_ ?_
        · clear hS
          intro i o hi ho hA
          have hc : i = 0 ∨ i = 1 ∨ i = 2 ∨ i = 3 ∨ i = 4 ∨ i = 5 ∨ i = 6 ∨ i = 7 ∨ i = 8 ∨ i = 9 ∨ i = 10 ∨ i = 11 ∨ i = 12 ∨ i = 13 ∨ i = 14 ∨ i = 15 := by omega
          rcases hc with rfl | rfl | rfl | rfl | rfl | rfl | rfl | rfl | rfl | rfl | rfl | rfl | rfl | rfl | rfl | rfl
          · obtain rfl := Option.some.inj ho
            refine ⟨rfl, fun a w' hS hold hin K hK => ?_⟩
            refine if_always rfl ?_
            exact op_ld_own 16 tNine (.tmp 14) rfl rfl _ (eval_tmp ((hold 14 (slots_not (by kernel_rfl))).trans h14)) hS.1 10 rfl hK
          · obtain rfl := Option.some.inj ho
            refine ⟨rfl, fun a w' hS hold hin K hK => ?_⟩
            refine if_always rfl ?_
            exact op_ld_own 16 tNine (.tmp 14) rfl rfl _ (eval_tmp ((hold 14 (slots_not (by kernel_rfl))).trans h14)) hS.1 10 rfl hK
          · obtain rfl := Option.some.inj ho
            refine ⟨rfl, fun a w' hS hold hin K hK => ?_⟩
            obtain ⟨y0, x0, (v0 : IsW (p3 + q3) y0)⟩ := hin 0 rfl (by omega) rfl
            obtain ⟨y1, x1, (v1 : IsW (p3 + q3) y1)⟩ := hin 1 rfl (by omega) rfl
            refine if_always rfl ?_
            exact op_fn2 _ _ _ _ _ _ rfl rfl (eval_tmp x0) (eval_tmp x1) (by intro args w; kernel_rfl) (times9_ev v0 v1 _) hK
          · obtain rfl := Option.some.inj ho
            refine ⟨rfl, fun a w' hS hold hin K hK => ?_⟩
            refine if_always rfl ?_
            exact op_ld_own 16 tNine (.tmp 15) rfl rfl _ (eval_tmp ((hold 15 (slots_not (by kernel_rfl))).trans h15)) hS.1 11 rfl hK
          · obtain rfl := Option.some.inj ho
            refine ⟨rfl, fun a w' hS hold hin K hK => ?_⟩
            refine if_always rfl ?_
            exact op_ld_own 16 tNine (.tmp 15) rfl rfl _ (eval_tmp ((hold 15 (slots_not (by kernel_rfl))).trans h15)) hS.1 11 rfl hK
          · obtain rfl := Option.some.inj ho
            refine ⟨rfl, fun a w' hS hold hin K hK => ?_⟩
            obtain ⟨y3, x3, (v3 : IsW (p3 - q3) y3)⟩ := hin 3 rfl (by omega) rfl
            obtain ⟨y4, x4, (v4 : IsW (p3 - q3) y4)⟩ := hin 4 rfl (by omega) rfl
            refine if_always rfl ?_
            exact op_fn2 _ _ _ _ _ _ rfl rfl (eval_tmp x3) (eval_tmp x4) (by intro args w; kernel_rfl) (times9_ev v3 v4 _) hK
          · obtain rfl := Option.some.inj ho
            refine ⟨rfl, fun a w' hS hold hin K hK => ?_⟩
            refine if_always rfl ?_
            exact op_ld_own 16 tNine (.tmp 17) rfl rfl _ (eval_tmp ((hold 17 (slots_not (by kernel_rfl))).trans h17)) hS.1 13 rfl hK
          · obtain rfl := Option.some.inj ho
            refine ⟨rfl, fun a w' hS hold hin K hK => ?_⟩
            refine if_always rfl ?_
            exact op_ld_own 16 tNine (.tmp 14) rfl rfl _ (eval_tmp ((hold 14 (slots_not (by kernel_rfl))).trans h14)) hS.1 10 rfl hK
          · obtain rfl := Option.some.inj ho
            refine ⟨rfl, fun a w' hS hold hin K hK => ?_⟩
            obtain ⟨y6, x6, (v6 : IsW (p2 - q2) y6)⟩ := hin 6 rfl (by omega) rfl
            obtain ⟨y7, x7, (v7 : IsW (p3 + q3) y7)⟩ := hin 7 rfl (by omega) rfl
            refine if_always rfl ?_
            exact op_fn2 _ _ _ _ _ _ rfl rfl (eval_tmp x6) (eval_tmp x7) (by intro args w; kernel_rfl) (times9_ev v6 v7 _) hK
          · obtain rfl := Option.some.inj ho
            refine ⟨rfl, fun a w' hS hold hin K hK => ?_⟩
            refine if_always rfl ?_
            exact op_ld_own 16 tNine (.tmp 16) rfl rfl _ (eval_tmp ((hold 16 (slots_not (by kernel_rfl))).trans h16)) hS.1 12 rfl hK
          · obtain rfl := Option.some.inj ho
            refine ⟨rfl, fun a w' hS hold hin K hK => ?_⟩
            refine if_always rfl ?_
            exact op_ld_own 16 tNine (.tmp 15) rfl rfl _ (eval_tmp ((hold 15 (slots_not (by kernel_rfl))).trans h15)) hS.1 11 rfl hK
          · obtain rfl := Option.some.inj ho
            refine ⟨rfl, fun a w' hS hold hin K hK => ?_⟩
            obtain ⟨y9, x9, (v9 : IsW (p2 + q2) y9)⟩ := hin 9 rfl (by omega) rfl
            obtain ⟨y10, x10, (v10 : IsW (p3 - q3) y10)⟩ := hin 10 rfl (by omega) rfl
            refine if_always rfl ?_
            exact op_fn2 _ _ _ _ _ _ rfl rfl (eval_tmp x9) (eval_tmp x10) (by intro args w; kernel_rfl) (times9_ev v9 v10 _) hK
          · cases hA
          · cases hA
          · cases hA
          · cases hA
        · intro i o sz hi ho hA
          have hc : i = 0 ∨ i = 1 ∨ i = 2 ∨ i = 3 ∨ i = 4 ∨ i = 5 ∨ i = 6 ∨ i = 7 ∨ i = 8 ∨ i = 9 ∨ i = 10 ∨ i = 11 ∨ i = 12 ∨ i = 13 ∨ i = 14 ∨ i = 15 := by omega
          rcases hc with rfl | rfl | rfl | rfl | rfl | rfl | rfl | rfl | rfl | rfl | rfl | rfl | rfl | rfl | rfl | rfl
          · cases hA
          · cases hA
          · cases hA
          · cases hA
          · cases hA
          · cases hA
          · cases hA
          · cases hA
          · cases hA
          · cases hA
          · cases hA
          · cases hA
          · obtain rfl := Option.some.inj ho
            obtain rfl := Option.some.inj hA
            exact ⟨rfl, rfl, 131, #[.int .i64 0, .int .i64 0, .int .i64 0, .int .i64 0, .int .i64 0, .int .i64 0, .int .i64 0, .int .i64 0, .int .i64 0, .int .i64 0, .int .i64 0, .int .i64 0, .int .i64 0, .int .i64 0, .int .i64 0, .int .i64 0], rfl, fun a w' K h => wp_new 131 #[.int .i64 0, .int .i64 0, .int .i64 0, .int .i64 0, .int .i64 0, .int .i64 0, .int .i64 0, .int .i64 0, .int .i64 0, .int .i64 0, .int .i64 0, .int .i64 0, .int .i64 0, .int .i64 0, .int .i64 0, .int .i64 0] (fun w => by kernel_rfl) h⟩
          · obtain rfl := Option.some.inj ho
            obtain rfl := Option.some.inj hA
            exact ⟨rfl, rfl, 131, #[.int .i64 0, .int .i64 0, .int .i64 0, .int .i64 0, .int .i64 0, .int .i64 0, .int .i64 0, .int .i64 0, .int .i64 0, .int .i64 0, .int .i64 0, .int .i64 0, .int .i64 0, .int .i64 0, .int .i64 0, .int .i64 0], rfl, fun a w' K h => wp_new 131 #[.int .i64 0, .int .i64 0, .int .i64 0, .int .i64 0, .int .i64 0, .int .i64 0, .int .i64 0, .int .i64 0, .int .i64 0, .int .i64 0, .int .i64 0, .int .i64 0, .int .i64 0, .int .i64 0, .int .i64 0, .int .i64 0] (fun w => by kernel_rfl) h⟩
          · obtain rfl := Option.some.inj ho
            obtain rfl := Option.some.inj hA
            exact ⟨rfl, rfl, 131, #[.int .i64 0, .int .i64 0, .int .i64 0, .int .i64 0, .int .i64 0, .int .i64 0, .int .i64 0, .int .i64 0, .int .i64 0, .int .i64 0, .int .i64 0, .int .i64 0, .int .i64 0, .int .i64 0, .int .i64 0, .int .i64 0], rfl, fun a w' K h => wp_new 131 #[.int .i64 0, .int .i64 0, .int .i64 0, .int .i64 0, .int .i64 0, .int .i64 0, .int .i64 0, .int .i64 0, .int .i64 0, .int .i64 0, .int .i64 0, .int .i64 0, .int .i64 0, .int .i64 0, .int .i64 0, .int .i64 0] (fun w => by kernel_rfl) h⟩
          · obtain rfl := Option.some.inj ho
            obtain rfl := Option.some.inj hA
            exact ⟨rfl, rfl, 131, #[.int .i64 0, .int .i64 0, .int .i64 0, .int .i64 0, .int .i64 0, .int .i64 0, .int .i64 0, .int .i64 0, .int .i64 0, .int .i64 0, .int .i64 0, .int .i64 0, .int .i64 0, .int .i64 0, .int .i64 0, .int .i64 0], rfl, fun a w' K h => wp_new 131 #[.int .i64 0, .int .i64 0, .int .i64 0, .int .i64 0, .int .i64 0, .int .i64 0, .int .i64 0, .int .i64 0, .int .i64 0, .int .i64 0, .int .i64 0, .int .i64 0, .int .i64 0, .int .i64 0, .int .i64 0, .int .i64 0] (fun w => by kernel_rfl) h⟩
        clear hS
        intro t1 V7 hs hold hout hall hne hS
        have ef := frame_fill 16 (fun i => [63, 64, 65, 66, 67, 68, 69, 70, 71, 72, 73, 74, 18, 19, 20, 21].getD i 0) hs hold (slots_apart (by kernel_rfl)) (slots_lie (by rw [HS]; kernel_rfl))
        replace HS := hs.trans HS
        replace hS := hS.1
        obtain ⟨g18, h18, b18, r18⟩ : ∃ g, t1[18]? = some (.pointer (some ⟨g, 0, none⟩)) ∧ M ≤ g ∧ ∃ cs ty, V7.heap[g]? = some (.cells cs ty (0, 0)) ∧ cs.size = 16 := by
          obtain ⟨g, p1, p2, ty, cs, p3, p4⟩ := hall 12 (by omega) 16 rfl
          exact ⟨g, p1, p2, cs, ty, p3, p4⟩
        obtain ⟨g19, h19, b19, r19⟩ : ∃ g, t1[19]? = some (.pointer (some ⟨g, 0, none⟩)) ∧ M ≤ g ∧ ∃ cs ty, V7.heap[g]? = some (.cells cs ty (0, 0)) ∧ cs.size = 16 := by
          obtain ⟨g, p1, p2, ty, cs, p3, p4⟩ := hall 13 (by omega) 16 rfl
          exact ⟨g, p1, p2, cs, ty, p3, p4⟩
        obtain ⟨g20, h20, b20, r20⟩ : ∃ g, t1[20]? = some (.pointer (some ⟨g, 0, none⟩)) ∧ M ≤ g ∧ ∃ cs ty, V7.heap[g]? = some (.cells cs ty (0, 0)) ∧ cs.size = 16 := by
          obtain ⟨g, p1, p2, ty, cs, p3, p4⟩ := hall 14 (by omega) 16 rfl
          exact ⟨g, p1, p2, cs, ty, p3, p4⟩
        obtain ⟨g21, h21, b21, r21⟩ : ∃ g, t1[21]? = some (.pointer (some ⟨g, 0, none⟩)) ∧ M ≤ g ∧ ∃ cs ty, V7.heap[g]? = some (.cells cs ty (0, 0)) ∧ cs.size = 16 := by
          obtain ⟨g, p1, p2, ty, cs, p3, p4⟩ := hall 15 (by omega) 16 rfl
          exact ⟨g, p1, p2, cs, ty, p3, p4⟩
        have n18_19 : g18 ≠ g19 := fun h => hne 12 13 (by omega) (by omega) (by omega) rfl rfl (show t1[18]? = t1[19]? by rw [h18, h19, h])
        have n18_20 : g18 ≠ g20 := fun h => hne 12 14 (by omega) (by omega) (by omega) rfl rfl (show t1[18]? = t1[20]? by rw [h18, h20, h])
        have n18_21 : g18 ≠ g21 := fun h => hne 12 15 (by omega) (by omega) (by omega) rfl rfl (show t1[18]? = t1[21]? by rw [h18, h21, h])
        have n19_20 : g19 ≠ g20 := fun h => hne 13 14 (by omega) (by omega) (by omega) rfl rfl (show t1[19]? = t1[20]? by rw [h19, h20, h])
        have n19_21 : g19 ≠ g21 := fun h => hne 13 15 (by omega) (by omega) (by omega) rfl rfl (show t1[19]? = t1[21]? by rw [h19, h21, h])
        have n20_21 : g20 ≠ g21 := fun h => hne 14 15 (by omega) (by omega) (by omega) rfl rfl (show t1[20]? = t1[21]? by rw [h20, h21, h])
        replace hS : Own w [(w.heap.size, 32, (· = .agg (vals Lk))), ((w.heap.size + 1), 32, (· = .agg (vals Lu))), ((w.heap.size + 2), 16, (fun _ => True)), ((w.heap.size + 3), 16, (fun _ => True)), (gn, 32, (· = .agg (vals (bytesN V)))), (g7, 16, IsN x1), (g8, 16, IsN p3), (g9, 16, IsN q3), (g10, 16, IsN p2), (g11, 16, IsN q2), (g14, 16, IsW (p3 + q3)), (g15, 16, IsW (p3 - q3)), (g16, 16, IsW (p2 + q2)), (g17, 16, IsW (p2 - q2)), (g18, 16, (fun _ => True))] V7 := hS.add (Nat.le_trans hMB b18) (fun r hr => Nat.ne_of_lt (Nat.lt_of_lt_of_le (ltM r hr) b18)) (Own.any r18)
        replace hS : Own w [(w.heap.size, 32, (· = .agg (vals Lk))), ((w.heap.size + 1), 32, (· = .agg (vals Lu))), ((w.heap.size + 2), 16, (fun _ => True)), ((w.heap.size + 3), 16, (fun _ => True)), (gn, 32, (· = .agg (vals (bytesN V)))), (g7, 16, IsN x1), (g8, 16, IsN p3), (g9, 16, IsN q3), (g10, 16, IsN p2), (g11, 16, IsN q2), (g14, 16, IsW (p3 + q3)), (g15, 16, IsW (p3 - q3)), (g16, 16, IsW (p2 + q2)), (g17, 16, IsW (p2 - q2)), (g18, 16, (fun _ => True)), (g19, 16, (fun _ => True))] V7 := hS.add (Nat.le_trans hMB b19) (Own.ne_app (g1 := g18) (fun r hr => Nat.ne_of_lt (Nat.lt_of_lt_of_le (ltM r hr) b19)) n18_19) (Own.any r19)
        replace hS : Own w [(w.heap.size, 32, (· = .agg (vals Lk))), ((w.heap.size + 1), 32, (· = .agg (vals Lu))), ((w.heap.size + 2), 16, (fun _ => True)), ((w.heap.size + 3), 16, (fun _ => True)), (gn, 32, (· = .agg (vals (bytesN V)))), (g7, 16, IsN x1), (g8, 16, IsN p3), (g9, 16, IsN q3), (g10, 16, IsN p2), (g11, 16, IsN q2), (g14, 16, IsW (p3 + q3)), (g15, 16, IsW (p3 - q3)), (g16, 16, IsW (p2 + q2)), (g17, 16, IsW (p2 - q2)), (g18, 16, (fun _ => True)), (g19, 16, (fun _ => True)), (g20, 16, (fun _ => True))] V7 := hS.add (Nat.le_trans hMB b20) (Own.ne_app (g1 := g19) (Own.ne_app (g1 := g18) (fun r hr => Nat.ne_of_lt (Nat.lt_of_lt_of_le (ltM r hr) b20)) n18_20) n19_20) (Own.any r20)
        replace hS : Own w [(w.heap.size, 32, (· = .agg (vals Lk))), ((w.heap.size + 1), 32, (· = .agg (vals Lu))), ((w.heap.size + 2), 16, (fun _ => True)), ((w.heap.size + 3), 16, (fun _ => True)), (gn, 32, (· = .agg (vals (bytesN V)))), (g7, 16, IsN x1), (g8, 16, IsN p3), (g9, 16, IsN q3), (g10, 16, IsN p2), (g11, 16, IsN q2), (g14, 16, IsW (p3 + q3)), (g15, 16, IsW (p3 - q3)), (g16, 16, IsW (p2 + q2)), (g17, 16, IsW (p2 - q2)), (g18, 16, (fun _ => True)), (g19, 16, (fun _ => True)), (g20, 16, (fun _ => True)), (g21, 16, (fun _ => True))] V7 := hS.add (Nat.le_trans hMB b21) (Own.ne_app (g1 := g20) (Own.ne_app (g1 := g19) (Own.ne_app (g1 := g18) (fun r hr => Nat.ne_of_lt (Nat.lt_of_lt_of_le (ltM r hr) b21)) n18_21) n19_21) n20_21) (Own.any r21)
        obtain ⟨x65, q65, v65⟩ : ∃ x, t1[65]? = some x ∧ (IsN ((p3 + q3) * (p3 + q3))) x := hout 2 (by omega) rfl
        obtain ⟨x68, q68, v68⟩ : ∃ x, t1[68]? = some x ∧ (IsN ((p3 - q3) * (p3 - q3))) x := hout 5 (by omega) rfl
        obtain ⟨x71, q71, v71⟩ : ∃ x, t1[71]? = some x ∧ (IsN ((p2 - q2) * (p3 + q3))) x := hout 8 (by omega) rfl
        obtain ⟨x74, q74, v74⟩ : ∃ x, t1[74]? = some x ∧ (IsN ((p2 + q2) * (p3 - q3))) x := hout 11 (by omega) rfl
        replace h4 := (hold 4 (slots_not (by kernel_rfl))).trans h4
        replace h5 := (hold 5 (slots_not (by kernel_rfl))).trans h5
        replace h6 := (hold 6 (slots_not (by kernel_rfl))).trans h6
        replace h7 := (hold 7 (slots_not (by kernel_rfl))).trans h7
        replace h8 := (hold 8 (slots_not (by kernel_rfl))).trans h8
        replace h9 := (hold 9 (slots_not (by kernel_rfl))).trans h9
        replace h10 := (hold 10 (slots_not (by kernel_rfl))).trans h10
        replace h11 := (hold 11 (slots_not (by kernel_rfl))).trans h11
        replace h12 := (hold 12 (slots_not (by kernel_rfl))).trans h12
        replace h13 := (hold 13 (slots_not (by kernel_rfl))).trans h13
        replace h14 := (hold 14 (slots_not (by kernel_rfl))).trans h14
        replace h15 := (hold 15 (slots_not (by kernel_rfl))).trans h15
        replace h16 := (hold 16 (slots_not (by kernel_rfl))).trans h16
        replace h17 := (hold 17 (slots_not (by kernel_rfl))).trans h17
        clear hold hout hs hall hne
        simp only [List.drop_succ_cons, List.drop_zero]
        refine st_own 16 tNine rfl (.tmp 18) (.tmp 65) rfl rfl _ _ (eval_tmp h18) (eval_tmp q65) (V' := IsN ((p3 + q3) * (p3 + q3))) v65 (fun x hx => isN_row hx) hS 14 rfl fun V7' hS' _ => ?_
        replace hS : Own w [(w.heap.size, 32, (· = .agg (vals Lk))), ((w.heap.size + 1), 32, (· = .agg (vals Lu))), ((w.heap.size + 2), 16, (fun _ => True)), ((w.heap.size + 3), 16, (fun _ => True)), (gn, 32, (· = .agg (vals (bytesN V)))), (g7, 16, IsN x1), (g8, 16, IsN p3), (g9, 16, IsN q3), (g10, 16, IsN p2), (g11, 16, IsN q2), (g14, 16, IsW (p3 + q3)), (g15, 16, IsW (p3 - q3)), (g16, 16, IsW (p2 + q2)), (g17, 16, IsW (p2 - q2)), (g18, 16, IsN ((p3 + q3) * (p3 + q3))), (g19, 16, (fun _ => True)), (g20, 16, (fun _ => True)), (g21, 16, (fun _ => True))] V7' := hS'
        clear hS'
        refine st_own 16 tNine rfl (.tmp 19) (.tmp 68) rfl rfl _ _ (eval_tmp h19) (eval_tmp q68) (V' := IsN ((p3 - q3) * (p3 - q3))) v68 (fun x hx => isN_row hx) hS 15 rfl fun V7'' hS' _ => ?_
        replace hS : Own w [(w.heap.size, 32, (· = .agg (vals Lk))), ((w.heap.size + 1), 32, (· = .agg (vals Lu))), ((w.heap.size + 2), 16, (fun _ => True)), ((w.heap.size + 3), 16, (fun _ => True)), (gn, 32, (· = .agg (vals (bytesN V)))), (g7, 16, IsN x1), (g8, 16, IsN p3), (g9, 16, IsN q3), (g10, 16, IsN p2), (g11, 16, IsN q2), (g14, 16, IsW (p3 + q3)), (g15, 16, IsW (p3 - q3)), (g16, 16, IsW (p2 + q2)), (g17, 16, IsW (p2 - q2)), (g18, 16, IsN ((p3 + q3) * (p3 + q3))), (g19, 16, IsN ((p3 - q3) * (p3 - q3))), (g20, 16, (fun _ => True)), (g21, 16, (fun _ => True))] V7'' := hS'
        clear hS'
        refine st_own 16 tNine rfl (.tmp 20) (.tmp 71) rfl rfl _ _ (eval_tmp h20) (eval_tmp q71) (V' := IsN ((p2 - q2) * (p3 + q3))) v71 (fun x hx => isN_row hx) hS 16 rfl fun V7''' hS' _ => ?_
        replace hS : Own w [(w.heap.size, 32, (· = .agg (vals Lk))), ((w.heap.size + 1), 32, (· = .agg (vals Lu))), ((w.heap.size + 2), 16, (fun _ => True)), ((w.heap.size + 3), 16, (fun _ => True)), (gn, 32, (· = .agg (vals (bytesN V)))), (g7, 16, IsN x1), (g8, 16, IsN p3), (g9, 16, IsN q3), (g10, 16, IsN p2), (g11, 16, IsN q2), (g14, 16, IsW (p3 + q3)), (g15, 16, IsW (p3 - q3)), (g16, 16, IsW (p2 + q2)), (g17, 16, IsW (p2 - q2)), (g18, 16, IsN ((p3 + q3) * (p3 + q3))), (g19, 16, IsN ((p3 - q3) * (p3 - q3))), (g20, 16, IsN ((p2 - q2) * (p3 + q3))), (g21, 16, (fun _ => True))] V7''' := hS'
        clear hS'
        refine st_own 16 tNine rfl (.tmp 21) (.tmp 74) rfl rfl _ _ (eval_tmp h21) (eval_tmp q74) (V' := IsN ((p2 + q2) * (p3 - q3))) v74 (fun x hx => isN_row hx) hS 17 rfl fun V7'''' hS' _ => ?_
        replace hS : Own w [(w.heap.size, 32, (· = .agg (vals Lk))), ((w.heap.size + 1), 32, (· = .agg (vals Lu))), ((w.heap.size + 2), 16, (fun _ => True)), ((w.heap.size + 3), 16, (fun _ => True)), (gn, 32, (· = .agg (vals (bytesN V)))), (g7, 16, IsN x1), (g8, 16, IsN p3), (g9, 16, IsN q3), (g10, 16, IsN p2), (g11, 16, IsN q2), (g14, 16, IsW (p3 + q3)), (g15, 16, IsW (p3 - q3)), (g16, 16, IsW (p2 + q2)), (g17, 16, IsW (p2 - q2)), (g18, 16, IsN ((p3 + q3) * (p3 + q3))), (g19, 16, IsN ((p3 - q3) * (p3 - q3))), (g20, 16, IsN ((p2 - q2) * (p3 + q3))), (g21, 16, IsN ((p2 + q2) * (p3 - q3)))] V7'''' := hS'
        clear hS'
        refine wpList_nil ?_
        have g18 : t1.getD 18 undef = .pointer (some ⟨g18, 0, none⟩) := by rw [Array.getD_eq_getD_getElem?, h18]; rfl
        have g19 : t1.getD 19 undef = .pointer (some ⟨g19, 0, none⟩) := by rw [Array.getD_eq_getD_getElem?, h19]; rfl
        have g20 : t1.getD 20 undef = .pointer (some ⟨g20, 0, none⟩) := by rw [Array.getD_eq_getD_getElem?, h20]; rfl
        have g21 : t1.getD 21 undef = .pointer (some ⟨g21, 0, none⟩) := by rw [Array.getD_eq_getD_getElem?, h21]; rfl
        rw [ef, HT]
        clear ef
        simp only [fillA, if_true, List.getD_cons_zero, List.getD_cons_succ, List.setIfInBounds_toArray, List.set_cons_zero, List.set_cons_succ, g18, g19, g20, g21]
        generalize t1.getD 63 undef = z63
        generalize t1.getD 64 undef = z64
        generalize t1.getD 65 undef = z65
        generalize t1.getD 66 undef = z66
        generalize t1.getD 67 undef = z67
        generalize t1.getD 68 undef = z68
        generalize t1.getD 69 undef = z69
        generalize t1.getD 70 undef = z70
        generalize t1.getD 71 undef = z71
        generalize t1.getD 72 undef = z72
        generalize t1.getD 73 undef = z73
        generalize t1.getD 74 undef = z74
        clear g18 g19 g20 g21 HT
        clear h4 h5 h6 h7 h8 h9 h10 h11 h12 h13 h14 h15 h16 h17 h18 h19 h20 h21 q65 q68 q71 q74 v65 v68 v71 v74 b18 b19 b20 b21 r18 r19 r20 r21 n18_19 n18_20 n18_21 n19_20 n19_21 n20_21 ltM hMB hM HS t1 t0 M
        go_wp2_with ((with_reducible refine guard_list ?_); first | (refine held_load 26 _ rfl ?_) | (refine held_load 22 _ rfl ?_) | (refine held_load 68 _ rfl ?_) | (refine held_load 131 _ rfl ?_))
        obtain ⟨M, hM⟩ : ∃ M, M = V7''''.heap.size := ⟨_, rfl⟩
        have hMB : w.heap.size ≤ M := hM ▸ hS.1.size
        have ltM := hS.lt
        rw [← hM] at ltM
        refine hide_held fun t0 HT => ?_
        have HS : t0.size = 110 := by rw [HT]; rfl
        have h4 : t0[4]? = some (.pointer (some ⟨(w.heap.size + 2), 0, none⟩)) := by rw [HT]; rfl
        have h5 : t0[5]? = some (.pointer (some ⟨(w.heap.size + 3), 0, none⟩)) := by rw [HT]; rfl
        have h6 : t0[6]? = some (.pointer (some ⟨gn, 0, none⟩)) := by rw [HT]; rfl
        have h7 : t0[7]? = some (.pointer (some ⟨g7, 0, none⟩)) := by rw [HT]; rfl
        have h8 : t0[8]? = some (.pointer (some ⟨g8, 0, none⟩)) := by rw [HT]; rfl
        have h9 : t0[9]? = some (.pointer (some ⟨g9, 0, none⟩)) := by rw [HT]; rfl
        have h10 : t0[10]? = some (.pointer (some ⟨g10, 0, none⟩)) := by rw [HT]; rfl
        have h11 : t0[11]? = some (.pointer (some ⟨g11, 0, none⟩)) := by rw [HT]; rfl
        have h12 : t0[12]? = some (.int .i64 (j : Int)) := by rw [HT]; rfl
        have h13 : t0[13]? = some (.int .u8 1) := by rw [HT]; rfl
        have h14 : t0[14]? = some (.pointer (some ⟨g14, 0, none⟩)) := by rw [HT]; rfl
        have h15 : t0[15]? = some (.pointer (some ⟨g15, 0, none⟩)) := by rw [HT]; rfl
        have h16 : t0[16]? = some (.pointer (some ⟨g16, 0, none⟩)) := by rw [HT]; rfl
        have h17 : t0[17]? = some (.pointer (some ⟨g17, 0, none⟩)) := by rw [HT]; rfl
        have h18 : t0[18]? = some (.pointer (some ⟨g18, 0, none⟩)) := by rw [HT]; rfl
        have h19 : t0[19]? = some (.pointer (some ⟨g19, 0, none⟩)) := by rw [HT]; rfl
        have h20 : t0[20]? = some (.pointer (some ⟨g20, 0, none⟩)) := by rw [HT]; rfl
        have h21 : t0[21]? = some (.pointer (some ⟨g21, 0, none⟩)) := by rw [HT]; rfl
        refine wp_list_most 4 (fun i => [75, 76, 77, 22].getD i 0) (fun i => [none, none, none, some 16].getD i none) (fun i => [IsN ((p3 + q3) * (p3 + q3)), IsN ((p3 - q3) * (p3 - q3)), IsW (((p3 + q3) * (p3 + q3)) - ((p3 - q3) * (p3 - q3))), (fun _ => True)].getD i (fun _ => True)) (fun w' => Own w [(w.heap.size, 32, (· = .agg (vals Lk))), ((w.heap.size + 1), 32, (· = .agg (vals Lu))), ((w.heap.size + 2), 16, (fun _ => True)), ((w.heap.size + 3), 16, (fun _ => True)), (gn, 32, (· = .agg (vals (bytesN V)))), (g7, 16, IsN x1), (g8, 16, IsN p3), (g9, 16, IsN q3), (g10, 16, IsN p2), (g11, 16, IsN q2), (g14, 16, IsW (p3 + q3)), (g15, 16, IsW (p3 - q3)), (g16, 16, IsW (p2 + q2)), (g17, 16, IsW (p2 - q2)), (g18, 16, IsN ((p3 + q3) * (p3 + q3))), (g19, 16, IsN ((p3 - q3) * (p3 - q3))), (g20, 16, IsN ((p2 - q2) * (p3 + q3))), (g21, 16, IsN ((p2 + q2) * (p3 - q3)))] w' ∧ M ≤ w'.heap.size) M
          (by kernel_rfl) (slots_apart (by kernel_rfl)) (slots_lie (by rw [HS]; kernel_rfl)) ⟨hS, Nat.le_of_eq hM⟩ (fun w' h => h.2) (fun w1 w2 h b => ⟨h.1.keep b, Nat.le_trans h.2 b.size⟩) ?_ ?_ ?_
        · clear hS
          intro i o hi ho hA
          have hc : i = 0 ∨ i = 1 ∨ i = 2 ∨ i = 3 := by omega
          rcases hc with rfl | rfl | rfl | rfl
          · obtain rfl := Option.some.inj ho
            refine ⟨rfl, fun a w' hS hold hin K hK => ?_⟩
            refine if_always rfl ?_
            exact op_ld_own 16 tNine (.tmp 18) rfl rfl _ (eval_tmp ((hold 18 (slots_not (by kernel_rfl))).trans h18)) hS.1 14 rfl hK
          · obtain rfl := Option.some.inj ho
            refine ⟨rfl, fun a w' hS hold hin K hK => ?_⟩
            refine if_always rfl ?_
            exact op_ld_own 16 tNine (.tmp 19) rfl rfl _ (eval_tmp ((hold 19 (slots_not (by kernel_rfl))).trans h19)) hS.1 15 rfl hK
          · obtain rfl := Option.some.inj ho
            refine ⟨rfl, fun a w' hS hold hin K hK => ?_⟩
            obtain ⟨y0, x0, (v0 : IsN ((p3 + q3) * (p3 + q3)) y0)⟩ := hin 0 rfl (by omega) rfl
            obtain ⟨y1, x1, (v1 : IsN ((p3 - q3) * (p3 - q3)) y1)⟩ := hin 1 rfl (by omega) rfl
            refine if_always rfl ?_
            exact op_fn2 _ _ _ _ _ _ rfl rfl (eval_tmp x0) (eval_tmp x1) (by intro args w; kernel_rfl) (minus9_ev v0 v1 _) hK
          · cases hA
        · intro i o sz hi ho hA
          have hc : i = 0 ∨ i = 1 ∨ i = 2 ∨ i = 3 := by omega
          rcases hc with rfl | rfl | rfl | rfl
          · cases hA
          · cases hA
          · cases hA
          · obtain rfl := Option.some.inj ho
            obtain rfl := Option.some.inj hA
            exact ⟨rfl, rfl, 131, #[.int .i64 0, .int .i64 0, .int .i64 0, .int .i64 0, .int .i64 0, .int .i64 0, .int .i64 0, .int .i64 0, .int .i64 0, .int .i64 0, .int .i64 0, .int .i64 0, .int .i64 0, .int .i64 0, .int .i64 0, .int .i64 0], rfl, fun a w' K h => wp_new 131 #[.int .i64 0, .int .i64 0, .int .i64 0, .int .i64 0, .int .i64 0, .int .i64 0, .int .i64 0, .int .i64 0, .int .i64 0, .int .i64 0, .int .i64 0, .int .i64 0, .int .i64 0, .int .i64 0, .int .i64 0, .int .i64 0] (fun w => by kernel_rfl) h⟩
        clear hS
        intro t1 V8 hs hold hout hall hne hS
        have ef := frame_fill 4 (fun i => [75, 76, 77, 22].getD i 0) hs hold (slots_apart (by kernel_rfl)) (slots_lie (by rw [HS]; kernel_rfl))
        replace HS := hs.trans HS
        replace hS := hS.1
        obtain ⟨g22, h22, b22, r22⟩ : ∃ g, t1[22]? = some (.pointer (some ⟨g, 0, none⟩)) ∧ M ≤ g ∧ ∃ cs ty, V8.heap[g]? = some (.cells cs ty (0, 0)) ∧ cs.size = 16 := by
          obtain ⟨g, p1, p2, ty, cs, p3, p4⟩ := hall 3 (by omega) 16 rfl
          exact ⟨g, p1, p2, cs, ty, p3, p4⟩
        replace hS : Own w [(w.heap.size, 32, (· = .agg (vals Lk))), ((w.heap.size + 1), 32, (· = .agg (vals Lu))), ((w.heap.size + 2), 16, (fun _ => True)), ((w.heap.size + 3), 16, (fun _ => True)), (gn, 32, (· = .agg (vals (bytesN V)))), (g7, 16, IsN x1), (g8, 16, IsN p3), (g9, 16, IsN q3), (g10, 16, IsN p2), (g11, 16, IsN q2), (g14, 16, IsW (p3 + q3)), (g15, 16, IsW (p3 - q3)), (g16, 16, IsW (p2 + q2)), (g17, 16, IsW (p2 - q2)), (g18, 16, IsN ((p3 + q3) * (p3 + q3))), (g19, 16, IsN ((p3 - q3) * (p3 - q3))), (g20, 16, IsN ((p2 - q2) * (p3 + q3))), (g21, 16, IsN ((p2 + q2) * (p3 - q3))), (g22, 16, (fun _ => True))] V8 := hS.add (Nat.le_trans hMB b22) (fun r hr => Nat.ne_of_lt (Nat.lt_of_lt_of_le (ltM r hr) b22)) (Own.any r22)
        obtain ⟨x77, q77, v77⟩ : ∃ x, t1[77]? = some x ∧ (IsW (((p3 + q3) * (p3 + q3)) - ((p3 - q3) * (p3 - q3)))) x := hout 2 (by omega) rfl
        replace h4 := (hold 4 (slots_not (by kernel_rfl))).trans h4
        replace h5 := (hold 5 (slots_not (by kernel_rfl))).trans h5
        replace h6 := (hold 6 (slots_not (by kernel_rfl))).trans h6
        replace h7 := (hold 7 (slots_not (by kernel_rfl))).trans h7
        replace h8 := (hold 8 (slots_not (by kernel_rfl))).trans h8
        replace h9 := (hold 9 (slots_not (by kernel_rfl))).trans h9
        replace h10 := (hold 10 (slots_not (by kernel_rfl))).trans h10
        replace h11 := (hold 11 (slots_not (by kernel_rfl))).trans h11
        replace h12 := (hold 12 (slots_not (by kernel_rfl))).trans h12
        replace h13 := (hold 13 (slots_not (by kernel_rfl))).trans h13
        replace h14 := (hold 14 (slots_not (by kernel_rfl))).trans h14
        replace h15 := (hold 15 (slots_not (by kernel_rfl))).trans h15
        replace h16 := (hold 16 (slots_not (by kernel_rfl))).trans h16
        replace h17 := (hold 17 (slots_not (by kernel_rfl))).trans h17
        replace h18 := (hold 18 (slots_not (by kernel_rfl))).trans h18
        replace h19 := (hold 19 (slots_not (by kernel_rfl))).trans h19
        replace h20 := (hold 20 (slots_not (by kernel_rfl))).trans h20
        replace h21 := (hold 21 (slots_not (by kernel_rfl))).trans h21
        clear hold hout hs hall hne
        simp only [List.drop_succ_cons, List.drop_zero]
        refine st_own 16 tNine rfl (.tmp 22) (.tmp 77) rfl rfl _ _ (eval_tmp h22) (eval_tmp q77) (V' := IsW (((p3 + q3) * (p3 + q3)) - ((p3 - q3) * (p3 - q3)))) v77 (fun x hx => isW_row hx) hS 18 rfl fun V8' hS' _ => ?_
        replace hS : Own w [(w.heap.size, 32, (· = .agg (vals Lk))), ((w.heap.size + 1), 32, (· = .agg (vals Lu))), ((w.heap.size + 2), 16, (fun _ => True)), ((w.heap.size + 3), 16, (fun _ => True)), (gn, 32, (· = .agg (vals (bytesN V)))), (g7, 16, IsN x1), (g8, 16, IsN p3), (g9, 16, IsN q3), (g10, 16, IsN p2), (g11, 16, IsN q2), (g14, 16, IsW (p3 + q3)), (g15, 16, IsW (p3 - q3)), (g16, 16, IsW (p2 + q2)), (g17, 16, IsW (p2 - q2)), (g18, 16, IsN ((p3 + q3) * (p3 + q3))), (g19, 16, IsN ((p3 - q3) * (p3 - q3))), (g20, 16, IsN ((p2 - q2) * (p3 + q3))), (g21, 16, IsN ((p2 + q2) * (p3 - q3))), (g22, 16, IsW (((p3 + q3) * (p3 + q3)) - ((p3 - q3) * (p3 - q3))))] V8' := hS'
        clear hS'
        refine wpList_nil ?_
        have g22 : t1.getD 22 undef = .pointer (some ⟨g22, 0, none⟩) := by rw [Array.getD_eq_getD_getElem?, h22]; rfl
        rw [ef, HT]
        clear ef
        simp only [fillA, if_true, List.getD_cons_zero, List.getD_cons_succ, List.setIfInBounds_toArray, List.set_cons_zero, List.set_cons_succ, g22]
        generalize t1.getD 75 undef = z75
        generalize t1.getD 76 undef = z76
        generalize t1.getD 77 undef = z77
        clear g22 HT
        clear h4 h5 h6 h7 h8 h9 h10 h11 h12 h13 h14 h15 h16 h17 h18 h19 h20 h21 h22 q77 v77 b22 r22 ltM hMB hM HS t1 t0 M
        go_wp2_with fail
        obtain ⟨M, hM⟩ : ∃ M, M = V8'.heap.size := ⟨_, rfl⟩
        have hMB : w.heap.size ≤ M := hM ▸ hS.1.size
        have ltM := hS.lt
        rw [← hM] at ltM
        refine hide_frame fun t0 HT => ?_
        have HS : t0.size = 110 := by rw [HT]; rfl
        have h4 : t0[4]? = some (.pointer (some ⟨(w.heap.size + 2), 0, none⟩)) := by rw [HT]; rfl
        have h5 : t0[5]? = some (.pointer (some ⟨(w.heap.size + 3), 0, none⟩)) := by rw [HT]; rfl
        have h6 : t0[6]? = some (.pointer (some ⟨gn, 0, none⟩)) := by rw [HT]; rfl
        have h7 : t0[7]? = some (.pointer (some ⟨g7, 0, none⟩)) := by rw [HT]; rfl
        have h8 : t0[8]? = some (.pointer (some ⟨g8, 0, none⟩)) := by rw [HT]; rfl
        have h9 : t0[9]? = some (.pointer (some ⟨g9, 0, none⟩)) := by rw [HT]; rfl
        have h10 : t0[10]? = some (.pointer (some ⟨g10, 0, none⟩)) := by rw [HT]; rfl
        have h11 : t0[11]? = some (.pointer (some ⟨g11, 0, none⟩)) := by rw [HT]; rfl
        have h12 : t0[12]? = some (.int .i64 (j : Int)) := by rw [HT]; rfl
        have h13 : t0[13]? = some (.int .u8 1) := by rw [HT]; rfl
        have h14 : t0[14]? = some (.pointer (some ⟨g14, 0, none⟩)) := by rw [HT]; rfl
        have h15 : t0[15]? = some (.pointer (some ⟨g15, 0, none⟩)) := by rw [HT]; rfl
        have h16 : t0[16]? = some (.pointer (some ⟨g16, 0, none⟩)) := by rw [HT]; rfl
        have h17 : t0[17]? = some (.pointer (some ⟨g17, 0, none⟩)) := by rw [HT]; rfl
        have h18 : t0[18]? = some (.pointer (some ⟨g18, 0, none⟩)) := by rw [HT]; rfl
        have h19 : t0[19]? = some (.pointer (some ⟨g19, 0, none⟩)) := by rw [HT]; rfl
        have h20 : t0[20]? = some (.pointer (some ⟨g20, 0, none⟩)) := by rw [HT]; rfl
        have h21 : t0[21]? = some (.pointer (some ⟨g21, 0, none⟩)) := by rw [HT]; rfl
        have h22 : t0[22]? = some (.pointer (some ⟨g22, 0, none⟩)) := by rw [HT]; rfl
        refine wp_region_most 8 (fun i => [78, 79, 80, 81, 82, 83, 23, 24].getD i 0) (fun i => [none, none, none, none, none, none, some 16, some 16].getD i none) (fun i => [IsN ((p2 - q2) * (p3 + q3)), IsN ((p2 + q2) * (p3 - q3)), IsW (((p2 - q2) * (p3 + q3)) + ((p2 + q2) * (p3 - q3))), IsN ((p2 - q2) * (p3 + q3)), IsN ((p2 + q2) * (p3 - q3)), IsW (((p2 - q2) * (p3 + q3)) - ((p2 + q2) * (p3 - q3))), (fun _ => True), (fun _ => True)].getD i (fun _ => True)) (fun w' => Own w [(w.heap.size, 32, (· = .agg (vals Lk))), ((w.heap.size + 1), 32, (· = .agg (vals Lu))), ((w.heap.size + 2), 16, (fun _ => True)), ((w.heap.size + 3), 16, (fun _ => True)), (gn, 32, (· = .agg (vals (bytesN V)))), (g7, 16, IsN x1), (g8, 16, IsN p3), (g9, 16, IsN q3), (g10, 16, IsN p2), (g11, 16, IsN q2), (g14, 16, IsW (p3 + q3)), (g15, 16, IsW (p3 - q3)), (g16, 16, IsW (p2 + q2)), (g17, 16, IsW (p2 - q2)), (g18, 16, IsN ((p3 + q3) * (p3 + q3))), (g19, 16, IsN ((p3 - q3) * (p3 - q3))), (g20, 16, IsN ((p2 - q2) * (p3 + q3))), (g21, 16, IsN ((p2 + q2) * (p3 - q3))), (g22, 16, IsW (((p3 + q3) * (p3 + q3)) - ((p3 - q3) * (p3 - q3))))] w' ∧ M ≤ w'.heap.size) M
          (by kernel_rfl) (by kernel_rfl) (slots_apart (by kernel_rfl)) (slots_lie (by rw [HS]; kernel_rfl)) ⟨hS.drew, Nat.le_of_eq hM⟩ (fun w' h => h.2) (fun w1 w2 h b => ⟨h.1.keep b, Nat.le_trans h.2 b.size⟩) ?_ ?_ ?_
        · clear hS
          intro i o hi ho hA
          have hc : i = 0 ∨ i = 1 ∨ i = 2 ∨ i = 3 ∨ i = 4 ∨ i = 5 ∨ i = 6 ∨ i = 7 := by omega
          rcases hc with rfl | rfl | rfl | rfl | rfl | rfl | rfl | rfl
          · obtain rfl := Option.some.inj ho
            refine ⟨rfl, fun a w' hS hold hin K hK => ?_⟩
            refine if_always rfl ?_
            exact op_ld_own 16 tNine (.tmp 20) rfl rfl _ (eval_tmp ((hold 20 (slots_not (by kernel_rfl))).trans h20)) hS.1 16 rfl hK
          · obtain rfl := Option.some.inj ho
            refine ⟨rfl, fun a w' hS hold hin K hK => ?_⟩
            refine if_always rfl ?_
            exact op_ld_own 16 tNine (.tmp 21) rfl rfl _ (eval_tmp ((hold 21 (slots_not (by kernel_rfl))).trans h21)) hS.1 17 rfl hK
          · obtain rfl := Option.some.inj ho
            refine ⟨rfl, fun a w' hS hold hin K hK => ?_⟩
            obtain ⟨y0, x0, (v0 : IsN ((p2 - q2) * (p3 + q3)) y0)⟩ := hin 0 rfl (by omega) rfl
            obtain ⟨y1, x1, (v1 : IsN ((p2 + q2) * (p3 - q3)) y1)⟩ := hin 1 rfl (by omega) rfl
            refine if_always rfl ?_
            exact op_fn2 _ _ _ _ _ _ rfl rfl (eval_tmp x0) (eval_tmp x1) (by intro args w; kernel_rfl) (plus9_ev v0 v1 _) hK
          · obtain rfl := Option.some.inj ho
            refine ⟨rfl, fun a w' hS hold hin K hK => ?_⟩
            refine if_always rfl ?_
            exact op_ld_own 16 tNine (.tmp 20) rfl rfl _ (eval_tmp ((hold 20 (slots_not (by kernel_rfl))).trans h20)) hS.1 16 rfl hK
          · obtain rfl := Option.some.inj ho
            refine ⟨rfl, fun a w' hS hold hin K hK => ?_⟩
            refine if_always rfl ?_
            exact op_ld_own 16 tNine (.tmp 21) rfl rfl _ (eval_tmp ((hold 21 (slots_not (by kernel_rfl))).trans h21)) hS.1 17 rfl hK
          · obtain rfl := Option.some.inj ho
            refine ⟨rfl, fun a w' hS hold hin K hK => ?_⟩
            obtain ⟨y3, x3, (v3 : IsN ((p2 - q2) * (p3 + q3)) y3)⟩ := hin 3 rfl (by omega) rfl
            obtain ⟨y4, x4, (v4 : IsN ((p2 + q2) * (p3 - q3)) y4)⟩ := hin 4 rfl (by omega) rfl
            refine if_always rfl ?_
            exact op_fn2 _ _ _ _ _ _ rfl rfl (eval_tmp x3) (eval_tmp x4) (by intro args w; kernel_rfl) (minus9_ev v3 v4 _) hK
          · cases hA
          · cases hA
        · intro i o sz hi ho hA
          have hc : i = 0 ∨ i = 1 ∨ i = 2 ∨ i = 3 ∨ i = 4 ∨ i = 5 ∨ i = 6 ∨ i = 7 := by omega
          rcases hc with rfl | rfl | rfl | rfl | rfl | rfl | rfl | rfl
          · cases hA
          · cases hA
          · cases hA
          · cases hA
          · cases hA
          · cases hA
          · obtain rfl := Option.some.inj ho
            obtain rfl := Option.some.inj hA
            exact ⟨rfl, rfl, 131, #[.int .i64 0, .int .i64 0, .int .i64 0, .int .i64 0, .int .i64 0, .int .i64 0, .int .i64 0, .int .i64 0, .int .i64 0, .int .i64 0, .int .i64 0, .int .i64 0, .int .i64 0, .int .i64 0, .int .i64 0, .int .i64 0], rfl, fun a w' K h => wp_new 131 #[.int .i64 0, .int .i64 0, .int .i64 0, .int .i64 0, .int .i64 0, .int .i64 0, .int .i64 0, .int .i64 0, .int .i64 0, .int .i64 0, .int .i64 0, .int .i64 0, .int .i64 0, .int .i64 0, .int .i64 0, .int .i64 0] (fun w => by kernel_rfl) h⟩
          · obtain rfl := Option.some.inj ho
            obtain rfl := Option.some.inj hA
            exact ⟨rfl, rfl, 131, #[.int .i64 0, .int .i64 0, .int .i64 0, .int .i64 0, .int .i64 0, .int .i64 0, .int .i64 0, .int .i64 0, .int .i64 0, .int .i64 0, .int .i64 0, .int .i64 0, .int .i64 0, .int .i64 0, .int .i64 0, .int .i64 0], rfl, fun a w' K h => wp_new 131 #[.int .i64 0, .int .i64 0, .int .i64 0, .int .i64 0, .int .i64 0, .int .i64 0, .int .i64 0, .int .i64 0, .int .i64 0, .int .i64 0, .int .i64 0, .int .i64 0, .int .i64 0, .int .i64 0, .int .i64 0, .int .i64 0] (fun w => by kernel_rfl) h⟩
        clear hS
        intro t1 V9 hs hold hout hall hne hS
        have ef := frame_fill 8 (fun i => [78, 79, 80, 81, 82, 83, 23, 24].getD i 0) hs hold (slots_apart (by kernel_rfl)) (slots_lie (by rw [HS]; kernel_rfl))
        replace HS := hs.trans HS
        replace hS := hS.1
        obtain ⟨g23, h23, b23, r23⟩ : ∃ g, t1[23]? = some (.pointer (some ⟨g, 0, none⟩)) ∧ M ≤ g ∧ ∃ cs ty, V9.heap[g]? = some (.cells cs ty (0, 0)) ∧ cs.size = 16 := by
          obtain ⟨g, p1, p2, ty, cs, p3, p4⟩ := hall 6 (by omega) 16 rfl
          exact ⟨g, p1, p2, cs, ty, p3, p4⟩
        obtain ⟨g24, h24, b24, r24⟩ : ∃ g, t1[24]? = some (.pointer (some ⟨g, 0, none⟩)) ∧ M ≤ g ∧ ∃ cs ty, V9.heap[g]? = some (.cells cs ty (0, 0)) ∧ cs.size = 16 := by
          obtain ⟨g, p1, p2, ty, cs, p3, p4⟩ := hall 7 (by omega) 16 rfl
          exact ⟨g, p1, p2, cs, ty, p3, p4⟩
        have n23_24 : g23 ≠ g24 := fun h => hne 6 7 (by omega) (by omega) (by omega) rfl rfl (show t1[23]? = t1[24]? by rw [h23, h24, h])
        replace hS : Own w [(w.heap.size, 32, (· = .agg (vals Lk))), ((w.heap.size + 1), 32, (· = .agg (vals Lu))), ((w.heap.size + 2), 16, (fun _ => True)), ((w.heap.size + 3), 16, (fun _ => True)), (gn, 32, (· = .agg (vals (bytesN V)))), (g7, 16, IsN x1), (g8, 16, IsN p3), (g9, 16, IsN q3), (g10, 16, IsN p2), (g11, 16, IsN q2), (g14, 16, IsW (p3 + q3)), (g15, 16, IsW (p3 - q3)), (g16, 16, IsW (p2 + q2)), (g17, 16, IsW (p2 - q2)), (g18, 16, IsN ((p3 + q3) * (p3 + q3))), (g19, 16, IsN ((p3 - q3) * (p3 - q3))), (g20, 16, IsN ((p2 - q2) * (p3 + q3))), (g21, 16, IsN ((p2 + q2) * (p3 - q3))), (g22, 16, IsW (((p3 + q3) * (p3 + q3)) - ((p3 - q3) * (p3 - q3)))), (g23, 16, (fun _ => True))] V9 := hS.add (Nat.le_trans hMB b23) (fun r hr => Nat.ne_of_lt (Nat.lt_of_lt_of_le (ltM r hr) b23)) (Own.any r23)
        replace hS : Own w [(w.heap.size, 32, (· = .agg (vals Lk))), ((w.heap.size + 1), 32, (· = .agg (vals Lu))), ((w.heap.size + 2), 16, (fun _ => True)), ((w.heap.size + 3), 16, (fun _ => True)), (gn, 32, (· = .agg (vals (bytesN V)))), (g7, 16, IsN x1), (g8, 16, IsN p3), (g9, 16, IsN q3), (g10, 16, IsN p2), (g11, 16, IsN q2), (g14, 16, IsW (p3 + q3)), (g15, 16, IsW (p3 - q3)), (g16, 16, IsW (p2 + q2)), (g17, 16, IsW (p2 - q2)), (g18, 16, IsN ((p3 + q3) * (p3 + q3))), (g19, 16, IsN ((p3 - q3) * (p3 - q3))), (g20, 16, IsN ((p2 - q2) * (p3 + q3))), (g21, 16, IsN ((p2 + q2) * (p3 - q3))), (g22, 16, IsW (((p3 + q3) * (p3 + q3)) - ((p3 - q3) * (p3 - q3)))), (g23, 16, (fun _ => True)), (g24, 16, (fun _ => True))] V9 := hS.add (Nat.le_trans hMB b24) (Own.ne_app (g1 := g23) (fun r hr => Nat.ne_of_lt (Nat.lt_of_lt_of_le (ltM r hr) b24)) n23_24) (Own.any r24)
        obtain ⟨x80, q80, v80⟩ : ∃ x, t1[80]? = some x ∧ (IsW (((p2 - q2) * (p3 + q3)) + ((p2 + q2) * (p3 - q3)))) x := hout 2 (by omega) rfl
        obtain ⟨x83, q83, v83⟩ : ∃ x, t1[83]? = some x ∧ (IsW (((p2 - q2) * (p3 + q3)) - ((p2 + q2) * (p3 - q3)))) x := hout 5 (by omega) rfl
        replace h4 := (hold 4 (slots_not (by kernel_rfl))).trans h4
        replace h5 := (hold 5 (slots_not (by kernel_rfl))).trans h5
        replace h6 := (hold 6 (slots_not (by kernel_rfl))).trans h6
        replace h7 := (hold 7 (slots_not (by kernel_rfl))).trans h7
        replace h8 := (hold 8 (slots_not (by kernel_rfl))).trans h8
        replace h9 := (hold 9 (slots_not (by kernel_rfl))).trans h9
        replace h10 := (hold 10 (slots_not (by kernel_rfl))).trans h10
        replace h11 := (hold 11 (slots_not (by kernel_rfl))).trans h11
        replace h12 := (hold 12 (slots_not (by kernel_rfl))).trans h12
        replace h13 := (hold 13 (slots_not (by kernel_rfl))).trans h13
        replace h14 := (hold 14 (slots_not (by kernel_rfl))).trans h14
        replace h15 := (hold 15 (slots_not (by kernel_rfl))).trans h15
        replace h16 := (hold 16 (slots_not (by kernel_rfl))).trans h16
        replace h17 := (hold 17 (slots_not (by kernel_rfl))).trans h17
        replace h18 := (hold 18 (slots_not (by kernel_rfl))).trans h18
        replace h19 := (hold 19 (slots_not (by kernel_rfl))).trans h19
        replace h20 := (hold 20 (slots_not (by kernel_rfl))).trans h20
        replace h21 := (hold 21 (slots_not (by kernel_rfl))).trans h21
        replace h22 := (hold 22 (slots_not (by kernel_rfl))).trans h22
        clear hold hout hs hall hne
        simp only [List.drop_succ_cons, List.drop_zero]
        refine st_own 16 tNine rfl (.tmp 23) (.tmp 80) rfl rfl _ _ (eval_tmp h23) (eval_tmp q80) (V' := IsW (((p2 - q2) * (p3 + q3)) + ((p2 + q2) * (p3 - q3)))) v80 (fun x hx => isW_row hx) hS 19 rfl fun V9' hS' _ => ?_
        replace hS : Own w [(w.heap.size, 32, (· = .agg (vals Lk))), ((w.heap.size + 1), 32, (· = .agg (vals Lu))), ((w.heap.size + 2), 16, (fun _ => True)), ((w.heap.size + 3), 16, (fun _ => True)), (gn, 32, (· = .agg (vals (bytesN V)))), (g7, 16, IsN x1), (g8, 16, IsN p3), (g9, 16, IsN q3), (g10, 16, IsN p2), (g11, 16, IsN q2), (g14, 16, IsW (p3 + q3)), (g15, 16, IsW (p3 - q3)), (g16, 16, IsW (p2 + q2)), (g17, 16, IsW (p2 - q2)), (g18, 16, IsN ((p3 + q3) * (p3 + q3))), (g19, 16, IsN ((p3 - q3) * (p3 - q3))), (g20, 16, IsN ((p2 - q2) * (p3 + q3))), (g21, 16, IsN ((p2 + q2) * (p3 - q3))), (g22, 16, IsW (((p3 + q3) * (p3 + q3)) - ((p3 - q3) * (p3 - q3)))), (g23, 16, IsW (((p2 - q2) * (p3 + q3)) + ((p2 + q2) * (p3 - q3)))), (g24, 16, (fun _ => True))] V9' := hS'
        clear hS'
        refine st_own 16 tNine rfl (.tmp 24) (.tmp 83) rfl rfl _ _ (eval_tmp h24) (eval_tmp q83) (V' := IsW (((p2 - q2) * (p3 + q3)) - ((p2 + q2) * (p3 - q3)))) v83 (fun x hx => isW_row hx) hS 20 rfl fun V9'' hS' _ => ?_
        replace hS : Own w [(w.heap.size, 32, (· = .agg (vals Lk))), ((w.heap.size + 1), 32, (· = .agg (vals Lu))), ((w.heap.size + 2), 16, (fun _ => True)), ((w.heap.size + 3), 16, (fun _ => True)), (gn, 32, (· = .agg (vals (bytesN V)))), (g7, 16, IsN x1), (g8, 16, IsN p3), (g9, 16, IsN q3), (g10, 16, IsN p2), (g11, 16, IsN q2), (g14, 16, IsW (p3 + q3)), (g15, 16, IsW (p3 - q3)), (g16, 16, IsW (p2 + q2)), (g17, 16, IsW (p2 - q2)), (g18, 16, IsN ((p3 + q3) * (p3 + q3))), (g19, 16, IsN ((p3 - q3) * (p3 - q3))), (g20, 16, IsN ((p2 - q2) * (p3 + q3))), (g21, 16, IsN ((p2 + q2) * (p3 - q3))), (g22, 16, IsW (((p3 + q3) * (p3 + q3)) - ((p3 - q3) * (p3 - q3)))), (g23, 16, IsW (((p2 - q2) * (p3 + q3)) + ((p2 + q2) * (p3 - q3)))), (g24, 16, IsW (((p2 - q2) * (p3 + q3)) - ((p2 + q2) * (p3 - q3))))] V9'' := hS'
        clear hS'
        refine wpList_nil ?_
        have g23 : t1.getD 23 undef = .pointer (some ⟨g23, 0, none⟩) := by rw [Array.getD_eq_getD_getElem?, h23]; rfl
        have g24 : t1.getD 24 undef = .pointer (some ⟨g24, 0, none⟩) := by rw [Array.getD_eq_getD_getElem?, h24]; rfl
        rw [ef, HT]
        clear ef
        simp only [fillA, if_true, List.getD_cons_zero, List.getD_cons_succ, List.setIfInBounds_toArray, List.set_cons_zero, List.set_cons_succ, g23, g24]
        generalize t1.getD 78 undef = z78
        generalize t1.getD 79 undef = z79
        generalize t1.getD 80 undef = z80
        generalize t1.getD 81 undef = z81
        generalize t1.getD 82 undef = z82
        generalize t1.getD 83 undef = z83
        clear g23 g24 HT
        clear h4 h5 h6 h7 h8 h9 h10 h11 h12 h13 h14 h15 h16 h17 h18 h19 h20 h21 h22 h23 h24 q80 q83 v80 v83 b23 b24 r23 r24 n23_24 ltM hMB hM HS t1 t0 M
        go_wp2_with ((with_reducible refine guard_list ?_); first | (refine held_load 26 _ rfl ?_) | (refine held_load 22 _ rfl ?_) | (refine held_load 68 _ rfl ?_) | (refine held_load 131 _ rfl ?_))
        obtain ⟨M, hM⟩ : ∃ M, M = V9''.heap.size := ⟨_, rfl⟩
        refine hide_held fun t0 HT => ?_
        have HS : t0.size = 110 := by rw [HT]; rfl
        have h4 : t0[4]? = some (.pointer (some ⟨(w.heap.size + 2), 0, none⟩)) := by rw [HT]; rfl
        have h5 : t0[5]? = some (.pointer (some ⟨(w.heap.size + 3), 0, none⟩)) := by rw [HT]; rfl
        have h6 : t0[6]? = some (.pointer (some ⟨gn, 0, none⟩)) := by rw [HT]; rfl
        have h7 : t0[7]? = some (.pointer (some ⟨g7, 0, none⟩)) := by rw [HT]; rfl
        have h8 : t0[8]? = some (.pointer (some ⟨g8, 0, none⟩)) := by rw [HT]; rfl
        have h9 : t0[9]? = some (.pointer (some ⟨g9, 0, none⟩)) := by rw [HT]; rfl
        have h10 : t0[10]? = some (.pointer (some ⟨g10, 0, none⟩)) := by rw [HT]; rfl
        have h11 : t0[11]? = some (.pointer (some ⟨g11, 0, none⟩)) := by rw [HT]; rfl
        have h12 : t0[12]? = some (.int .i64 (j : Int)) := by rw [HT]; rfl
        have h13 : t0[13]? = some (.int .u8 1) := by rw [HT]; rfl
        have h14 : t0[14]? = some (.pointer (some ⟨g14, 0, none⟩)) := by rw [HT]; rfl
        have h15 : t0[15]? = some (.pointer (some ⟨g15, 0, none⟩)) := by rw [HT]; rfl
        have h16 : t0[16]? = some (.pointer (some ⟨g16, 0, none⟩)) := by rw [HT]; rfl
        have h17 : t0[17]? = some (.pointer (some ⟨g17, 0, none⟩)) := by rw [HT]; rfl
        have h18 : t0[18]? = some (.pointer (some ⟨g18, 0, none⟩)) := by rw [HT]; rfl
        have h19 : t0[19]? = some (.pointer (some ⟨g19, 0, none⟩)) := by rw [HT]; rfl
        have h20 : t0[20]? = some (.pointer (some ⟨g20, 0, none⟩)) := by rw [HT]; rfl
        have h21 : t0[21]? = some (.pointer (some ⟨g21, 0, none⟩)) := by rw [HT]; rfl
        have h22 : t0[22]? = some (.pointer (some ⟨g22, 0, none⟩)) := by rw [HT]; rfl
        have h23 : t0[23]? = some (.pointer (some ⟨g23, 0, none⟩)) := by rw [HT]; rfl
        have h24 : t0[24]? = some (.pointer (some ⟨g24, 0, none⟩)) := by rw [HT]; rfl
        refine wp_list_most 3 (fun i => [84, 85, 86].getD i 0) (fun _ => none) (fun i => [IsW (((p2 - q2) * (p3 + q3)) + ((p2 + q2) * (p3 - q3))), IsW (((p2 - q2) * (p3 + q3)) + ((p2 + q2) * (p3 - q3))), IsN ((((p2 - q2) * (p3 + q3)) + ((p2 + q2) * (p3 - q3))) * (((p2 - q2) * (p3 + q3)) + ((p2 + q2) * (p3 - q3))))].getD i (fun _ => True)) (fun w' => Own w [(w.heap.size, 32, (· = .agg (vals Lk))), ((w.heap.size + 1), 32, (· = .agg (vals Lu))), ((w.heap.size + 2), 16, (fun _ => True)), ((w.heap.size + 3), 16, (fun _ => True)), (gn, 32, (· = .agg (vals (bytesN V)))), (g7, 16, IsN x1), (g8, 16, IsN p3), (g9, 16, IsN q3), (g10, 16, IsN p2), (g11, 16, IsN q2), (g14, 16, IsW (p3 + q3)), (g15, 16, IsW (p3 - q3)), (g16, 16, IsW (p2 + q2)), (g17, 16, IsW (p2 - q2)), (g18, 16, IsN ((p3 + q3) * (p3 + q3))), (g19, 16, IsN ((p3 - q3) * (p3 - q3))), (g20, 16, IsN ((p2 - q2) * (p3 + q3))), (g21, 16, IsN ((p2 + q2) * (p3 - q3))), (g22, 16, IsW (((p3 + q3) * (p3 + q3)) - ((p3 - q3) * (p3 - q3)))), (g23, 16, IsW (((p2 - q2) * (p3 + q3)) + ((p2 + q2) * (p3 - q3)))), (g24, 16, IsW (((p2 - q2) * (p3 + q3)) - ((p2 + q2) * (p3 - q3))))] w' ∧ M ≤ w'.heap.size) M
          (by kernel_rfl) (slots_apart (by kernel_rfl)) (slots_lie (by rw [HS]; kernel_rfl)) ⟨hS, Nat.le_of_eq hM⟩ (fun w' h => h.2) (fun w1 w2 h b => ⟨h.1.keep b, Nat.le_trans h.2 b.size⟩) ?_ ?_ ?_
        · clear hS
          intro i o hi ho hA
          have hc : i = 0 ∨ i = 1 ∨ i = 2 := by omega
          rcases hc with rfl | rfl | rfl
          · obtain rfl := Option.some.inj ho
            refine ⟨rfl, fun a w' hS hold hin K hK => ?_⟩
            refine if_always rfl ?_
            exact op_ld_own 16 tNine (.tmp 23) rfl rfl _ (eval_tmp ((hold 23 (slots_not (by kernel_rfl))).trans h23)) hS.1 19 rfl hK
          · obtain rfl := Option.some.inj ho
            refine ⟨rfl, fun a w' hS hold hin K hK => ?_⟩
            refine if_always rfl ?_
            exact op_ld_own 16 tNine (.tmp 23) rfl rfl _ (eval_tmp ((hold 23 (slots_not (by kernel_rfl))).trans h23)) hS.1 19 rfl hK
          · obtain rfl := Option.some.inj ho
            refine ⟨rfl, fun a w' hS hold hin K hK => ?_⟩
            obtain ⟨y0, x0, (v0 : IsW (((p2 - q2) * (p3 + q3)) + ((p2 + q2) * (p3 - q3))) y0)⟩ := hin 0 rfl (by omega) rfl
            obtain ⟨y1, x1, (v1 : IsW (((p2 - q2) * (p3 + q3)) + ((p2 + q2) * (p3 - q3))) y1)⟩ := hin 1 rfl (by omega) rfl
            refine if_always rfl ?_
            exact op_fn2 _ _ _ _ _ _ rfl rfl (eval_tmp x0) (eval_tmp x1) (by intro args w; kernel_rfl) (times9_ev v0 v1 _) hK
        · intro i o sz hi ho hA; cases hA
        clear hS
        intro t1 V10 hs hold hout hall hne hS
        have ef := frame_fill 3 (fun i => [84, 85, 86].getD i 0) hs hold (slots_apart (by kernel_rfl)) (slots_lie (by rw [HS]; kernel_rfl))
        replace HS := hs.trans HS
        replace hS := hS.1
        obtain ⟨x86, q86, v86⟩ : ∃ x, t1[86]? = some x ∧ (IsN ((((p2 - q2) * (p3 + q3)) + ((p2 + q2) * (p3 - q3))) * (((p2 - q2) * (p3 + q3)) + ((p2 + q2) * (p3 - q3))))) x := hout 2 (by omega) rfl
        replace h4 := (hold 4 (slots_not (by kernel_rfl))).trans h4
        replace h5 := (hold 5 (slots_not (by kernel_rfl))).trans h5
        replace h6 := (hold 6 (slots_not (by kernel_rfl))).trans h6
        replace h7 := (hold 7 (slots_not (by kernel_rfl))).trans h7
        replace h8 := (hold 8 (slots_not (by kernel_rfl))).trans h8
        replace h9 := (hold 9 (slots_not (by kernel_rfl))).trans h9
        replace h10 := (hold 10 (slots_not (by kernel_rfl))).trans h10
        replace h11 := (hold 11 (slots_not (by kernel_rfl))).trans h11
        replace h12 := (hold 12 (slots_not (by kernel_rfl))).trans h12
        replace h13 := (hold 13 (slots_not (by kernel_rfl))).trans h13
        replace h14 := (hold 14 (slots_not (by kernel_rfl))).trans h14
        replace h15 := (hold 15 (slots_not (by kernel_rfl))).trans h15
        replace h16 := (hold 16 (slots_not (by kernel_rfl))).trans h16
        replace h17 := (hold 17 (slots_not (by kernel_rfl))).trans h17
        replace h18 := (hold 18 (slots_not (by kernel_rfl))).trans h18
        replace h19 := (hold 19 (slots_not (by kernel_rfl))).trans h19
        replace h20 := (hold 20 (slots_not (by kernel_rfl))).trans h20
        replace h21 := (hold 21 (slots_not (by kernel_rfl))).trans h21
        replace h22 := (hold 22 (slots_not (by kernel_rfl))).trans h22
        replace h23 := (hold 23 (slots_not (by kernel_rfl))).trans h23
        replace h24 := (hold 24 (slots_not (by kernel_rfl))).trans h24
        clear hold hout hs hall hne
        simp only [List.drop_succ_cons, List.drop_zero]
        refine st_own 16 tNine rfl (.tmp 10) (.tmp 86) rfl rfl _ _ (eval_tmp h10) (eval_tmp q86) (V' := IsN ((((p2 - q2) * (p3 + q3)) + ((p2 + q2) * (p3 - q3))) * (((p2 - q2) * (p3 + q3)) + ((p2 + q2) * (p3 - q3))))) v86 (fun x hx => isN_row hx) hS 8 rfl fun V10' hS' _ => ?_
        replace hS : Own w [(w.heap.size, 32, (· = .agg (vals Lk))), ((w.heap.size + 1), 32, (· = .agg (vals Lu))), ((w.heap.size + 2), 16, (fun _ => True)), ((w.heap.size + 3), 16, (fun _ => True)), (gn, 32, (· = .agg (vals (bytesN V)))), (g7, 16, IsN x1), (g8, 16, IsN p3), (g9, 16, IsN q3), (g10, 16, IsN ((((p2 - q2) * (p3 + q3)) + ((p2 + q2) * (p3 - q3))) * (((p2 - q2) * (p3 + q3)) + ((p2 + q2) * (p3 - q3))))), (g11, 16, IsN q2), (g14, 16, IsW (p3 + q3)), (g15, 16, IsW (p3 - q3)), (g16, 16, IsW (p2 + q2)), (g17, 16, IsW (p2 - q2)), (g18, 16, IsN ((p3 + q3) * (p3 + q3))), (g19, 16, IsN ((p3 - q3) * (p3 - q3))), (g20, 16, IsN ((p2 - q2) * (p3 + q3))), (g21, 16, IsN ((p2 + q2) * (p3 - q3))), (g22, 16, IsW (((p3 + q3) * (p3 + q3)) - ((p3 - q3) * (p3 - q3)))), (g23, 16, IsW (((p2 - q2) * (p3 + q3)) + ((p2 + q2) * (p3 - q3)))), (g24, 16, IsW (((p2 - q2) * (p3 + q3)) - ((p2 + q2) * (p3 - q3))))] V10' := hS'
        clear hS'
        refine wpList_nil ?_
        rw [ef, HT]
        clear ef
        simp only [fillA, if_true, List.getD_cons_zero, List.getD_cons_succ, List.setIfInBounds_toArray, List.set_cons_zero, List.set_cons_succ]
        generalize t1.getD 84 undef = z84
        generalize t1.getD 85 undef = z85
        generalize t1.getD 86 undef = z86
        clear HT
        clear h4 h5 h6 h7 h8 h9 h10 h11 h12 h13 h14 h15 h16 h17 h18 h19 h20 h21 h22 h23 h24 q86 v86 hM HS t1 t0 M
        go_wp2_with fail
        obtain ⟨M, hM⟩ : ∃ M, M = V10'.heap.size := ⟨_, rfl⟩
        refine hide_frame fun t0 HT => ?_
        have HS : t0.size = 110 := by rw [HT]; rfl
        have h4 : t0[4]? = some (.pointer (some ⟨(w.heap.size + 2), 0, none⟩)) := by rw [HT]; rfl
        have h5 : t0[5]? = some (.pointer (some ⟨(w.heap.size + 3), 0, none⟩)) := by rw [HT]; rfl
        have h6 : t0[6]? = some (.pointer (some ⟨gn, 0, none⟩)) := by rw [HT]; rfl
        have h7 : t0[7]? = some (.pointer (some ⟨g7, 0, none⟩)) := by rw [HT]; rfl
        have h8 : t0[8]? = some (.pointer (some ⟨g8, 0, none⟩)) := by rw [HT]; rfl
        have h9 : t0[9]? = some (.pointer (some ⟨g9, 0, none⟩)) := by rw [HT]; rfl
        have h10 : t0[10]? = some (.pointer (some ⟨g10, 0, none⟩)) := by rw [HT]; rfl
        have h11 : t0[11]? = some (.pointer (some ⟨g11, 0, none⟩)) := by rw [HT]; rfl
        have h12 : t0[12]? = some (.int .i64 (j : Int)) := by rw [HT]; rfl
        have h13 : t0[13]? = some (.int .u8 1) := by rw [HT]; rfl
        have h14 : t0[14]? = some (.pointer (some ⟨g14, 0, none⟩)) := by rw [HT]; rfl
        have h15 : t0[15]? = some (.pointer (some ⟨g15, 0, none⟩)) := by rw [HT]; rfl
        have h16 : t0[16]? = some (.pointer (some ⟨g16, 0, none⟩)) := by rw [HT]; rfl
        have h17 : t0[17]? = some (.pointer (some ⟨g17, 0, none⟩)) := by rw [HT]; rfl
        have h18 : t0[18]? = some (.pointer (some ⟨g18, 0, none⟩)) := by rw [HT]; rfl
        have h19 : t0[19]? = some (.pointer (some ⟨g19, 0, none⟩)) := by rw [HT]; rfl
        have h20 : t0[20]? = some (.pointer (some ⟨g20, 0, none⟩)) := by rw [HT]; rfl
        have h21 : t0[21]? = some (.pointer (some ⟨g21, 0, none⟩)) := by rw [HT]; rfl
        have h22 : t0[22]? = some (.pointer (some ⟨g22, 0, none⟩)) := by rw [HT]; rfl
        have h23 : t0[23]? = some (.pointer (some ⟨g23, 0, none⟩)) := by rw [HT]; rfl
        have h24 : t0[24]? = some (.pointer (some ⟨g24, 0, none⟩)) := by rw [HT]; rfl
        refine wp_region_most 5 (fun i => [87, 88, 89, 90, 91].getD i 0) (fun _ => none) (fun i => [IsN x1, IsW (((p2 - q2) * (p3 + q3)) - ((p2 + q2) * (p3 - q3))), IsW (((p2 - q2) * (p3 + q3)) - ((p2 + q2) * (p3 - q3))), IsN ((((p2 - q2) * (p3 + q3)) - ((p2 + q2) * (p3 - q3))) * (((p2 - q2) * (p3 + q3)) - ((p2 + q2) * (p3 - q3)))), IsN (x1 * ((((p2 - q2) * (p3 + q3)) - ((p2 + q2) * (p3 - q3))) * (((p2 - q2) * (p3 + q3)) - ((p2 + q2) * (p3 - q3)))))].getD i (fun _ => True)) (fun w' => Own w [(w.heap.size, 32, (· = .agg (vals Lk))), ((w.heap.size + 1), 32, (· = .agg (vals Lu))), ((w.heap.size + 2), 16, (fun _ => True)), ((w.heap.size + 3), 16, (fun _ => True)), (gn, 32, (· = .agg (vals (bytesN V)))), (g7, 16, IsN x1), (g8, 16, IsN p3), (g9, 16, IsN q3), (g10, 16, IsN ((((p2 - q2) * (p3 + q3)) + ((p2 + q2) * (p3 - q3))) * (((p2 - q2) * (p3 + q3)) + ((p2 + q2) * (p3 - q3))))), (g11, 16, IsN q2), (g14, 16, IsW (p3 + q3)), (g15, 16, IsW (p3 - q3)), (g16, 16, IsW (p2 + q2)), (g17, 16, IsW (p2 - q2)), (g18, 16, IsN ((p3 + q3) * (p3 + q3))), (g19, 16, IsN ((p3 - q3) * (p3 - q3))), (g20, 16, IsN ((p2 - q2) * (p3 + q3))), (g21, 16, IsN ((p2 + q2) * (p3 - q3))), (g22, 16, IsW (((p3 + q3) * (p3 + q3)) - ((p3 - q3) * (p3 - q3)))), (g23, 16, IsW (((p2 - q2) * (p3 + q3)) + ((p2 + q2) * (p3 - q3)))), (g24, 16, IsW (((p2 - q2) * (p3 + q3)) - ((p2 + q2) * (p3 - q3))))] w' ∧ M ≤ w'.heap.size) M
          (by kernel_rfl) (by kernel_rfl) (slots_apart (by kernel_rfl)) (slots_lie (by rw [HS]; kernel_rfl)) ⟨hS.drew, Nat.le_of_eq hM⟩ (fun w' h => h.2) (fun w1 w2 h b => ⟨h.1.keep b, Nat.le_trans h.2 b.size⟩) ?_ ?_ ?_
        · clear hS
          intro i o hi ho hA
          have hc : i = 0 ∨ i = 1 ∨ i = 2 ∨ i = 3 ∨ i = 4 := by omega
          rcases hc with rfl | rfl | rfl | rfl | rfl
          · obtain rfl := Option.some.inj ho
            refine ⟨rfl, fun a w' hS hold hin K hK => ?_⟩
            refine if_always rfl ?_
            exact op_ld_own 16 tNine (.tmp 7) rfl rfl _ (eval_tmp ((hold 7 (slots_not (by kernel_rfl))).trans h7)) hS.1 5 rfl hK
          · obtain rfl := Option.some.inj ho
            refine ⟨rfl, fun a w' hS hold hin K hK => ?_⟩
            refine if_always rfl ?_
            exact op_ld_own 16 tNine (.tmp 24) rfl rfl _ (eval_tmp ((hold 24 (slots_not (by kernel_rfl))).trans h24)) hS.1 20 rfl hK
          · obtain rfl := Option.some.inj ho
            refine ⟨rfl, fun a w' hS hold hin K hK => ?_⟩
            refine if_always rfl ?_
            exact op_ld_own 16 tNine (.tmp 24) rfl rfl _ (eval_tmp ((hold 24 (slots_not (by kernel_rfl))).trans h24)) hS.1 20 rfl hK
          · obtain rfl := Option.some.inj ho
            refine ⟨rfl, fun a w' hS hold hin K hK => ?_⟩
            obtain ⟨y1, x1, (v1 : IsW (((p2 - q2) * (p3 + q3)) - ((p2 + q2) * (p3 - q3))) y1)⟩ := hin 1 rfl (by omega) rfl
            obtain ⟨y2, x2, (v2 : IsW (((p2 - q2) * (p3 + q3)) - ((p2 + q2) * (p3 - q3))) y2)⟩ := hin 2 rfl (by omega) rfl
            refine if_always rfl ?_
            exact op_fn2 _ _ _ _ _ _ rfl rfl (eval_tmp x1) (eval_tmp x2) (by intro args w; kernel_rfl) (times9_ev v1 v2 _) hK
          · obtain rfl := Option.some.inj ho
            refine ⟨rfl, fun a w' hS hold hin K hK => ?_⟩
            obtain ⟨y0, x0, (v0 : IsN x1 y0)⟩ := hin 0 rfl (by omega) rfl
            obtain ⟨y3, x3, (v3 : IsN ((((p2 - q2) * (p3 + q3)) - ((p2 + q2) * (p3 - q3))) * (((p2 - q2) * (p3 + q3)) - ((p2 + q2) * (p3 - q3)))) y3)⟩ := hin 3 rfl (by omega) rfl
            refine if_always rfl ?_
            exact op_fn2 _ _ _ _ _ _ rfl rfl (eval_tmp x0) (eval_tmp x3) (by intro args w; kernel_rfl) (times9_ev (v0).wide (v3).wide _) hK
        · intro i o sz hi ho hA; cases hA
        clear hS
        intro t1 V11 hs hold hout hall hne hS
        have ef := frame_fill 5 (fun i => [87, 88, 89, 90, 91].getD i 0) hs hold (slots_apart (by kernel_rfl)) (slots_lie (by rw [HS]; kernel_rfl))
        replace HS := hs.trans HS
        replace hS := hS.1
        obtain ⟨x91, q91, v91⟩ : ∃ x, t1[91]? = some x ∧ (IsN (x1 * ((((p2 - q2) * (p3 + q3)) - ((p2 + q2) * (p3 - q3))) * (((p2 - q2) * (p3 + q3)) - ((p2 + q2) * (p3 - q3)))))) x := hout 4 (by omega) rfl
        replace h4 := (hold 4 (slots_not (by kernel_rfl))).trans h4
        replace h5 := (hold 5 (slots_not (by kernel_rfl))).trans h5
        replace h6 := (hold 6 (slots_not (by kernel_rfl))).trans h6
        replace h7 := (hold 7 (slots_not (by kernel_rfl))).trans h7
        replace h8 := (hold 8 (slots_not (by kernel_rfl))).trans h8
        replace h9 := (hold 9 (slots_not (by kernel_rfl))).trans h9
        replace h10 := (hold 10 (slots_not (by kernel_rfl))).trans h10
        replace h11 := (hold 11 (slots_not (by kernel_rfl))).trans h11
        replace h12 := (hold 12 (slots_not (by kernel_rfl))).trans h12
        replace h13 := (hold 13 (slots_not (by kernel_rfl))).trans h13
        replace h14 := (hold 14 (slots_not (by kernel_rfl))).trans h14
        replace h15 := (hold 15 (slots_not (by kernel_rfl))).trans h15
        replace h16 := (hold 16 (slots_not (by kernel_rfl))).trans h16
        replace h17 := (hold 17 (slots_not (by kernel_rfl))).trans h17
        replace h18 := (hold 18 (slots_not (by kernel_rfl))).trans h18
        replace h19 := (hold 19 (slots_not (by kernel_rfl))).trans h19
        replace h20 := (hold 20 (slots_not (by kernel_rfl))).trans h20
        replace h21 := (hold 21 (slots_not (by kernel_rfl))).trans h21
        replace h22 := (hold 22 (slots_not (by kernel_rfl))).trans h22
        replace h23 := (hold 23 (slots_not (by kernel_rfl))).trans h23
        replace h24 := (hold 24 (slots_not (by kernel_rfl))).trans h24
        clear hold hout hs hall hne
        simp only [List.drop_succ_cons, List.drop_zero]
        refine st_own 16 tNine rfl (.tmp 11) (.tmp 91) rfl rfl _ _ (eval_tmp h11) (eval_tmp q91) (V' := IsN (x1 * ((((p2 - q2) * (p3 + q3)) - ((p2 + q2) * (p3 - q3))) * (((p2 - q2) * (p3 + q3)) - ((p2 + q2) * (p3 - q3)))))) v91 (fun x hx => isN_row hx) hS 9 rfl fun V11' hS' _ => ?_
        replace hS : Own w [(w.heap.size, 32, (· = .agg (vals Lk))), ((w.heap.size + 1), 32, (· = .agg (vals Lu))), ((w.heap.size + 2), 16, (fun _ => True)), ((w.heap.size + 3), 16, (fun _ => True)), (gn, 32, (· = .agg (vals (bytesN V)))), (g7, 16, IsN x1), (g8, 16, IsN p3), (g9, 16, IsN q3), (g10, 16, IsN ((((p2 - q2) * (p3 + q3)) + ((p2 + q2) * (p3 - q3))) * (((p2 - q2) * (p3 + q3)) + ((p2 + q2) * (p3 - q3))))), (g11, 16, IsN (x1 * ((((p2 - q2) * (p3 + q3)) - ((p2 + q2) * (p3 - q3))) * (((p2 - q2) * (p3 + q3)) - ((p2 + q2) * (p3 - q3)))))), (g14, 16, IsW (p3 + q3)), (g15, 16, IsW (p3 - q3)), (g16, 16, IsW (p2 + q2)), (g17, 16, IsW (p2 - q2)), (g18, 16, IsN ((p3 + q3) * (p3 + q3))), (g19, 16, IsN ((p3 - q3) * (p3 - q3))), (g20, 16, IsN ((p2 - q2) * (p3 + q3))), (g21, 16, IsN ((p2 + q2) * (p3 - q3))), (g22, 16, IsW (((p3 + q3) * (p3 + q3)) - ((p3 - q3) * (p3 - q3)))), (g23, 16, IsW (((p2 - q2) * (p3 + q3)) + ((p2 + q2) * (p3 - q3)))), (g24, 16, IsW (((p2 - q2) * (p3 + q3)) - ((p2 + q2) * (p3 - q3))))] V11' := hS'
        clear hS'
        refine wpList_nil ?_
        rw [ef, HT]
        clear ef
        simp only [fillA, if_true, List.getD_cons_zero, List.getD_cons_succ, List.setIfInBounds_toArray, List.set_cons_zero, List.set_cons_succ]
        generalize t1.getD 87 undef = z87
        generalize t1.getD 88 undef = z88
        generalize t1.getD 89 undef = z89
        generalize t1.getD 90 undef = z90
        generalize t1.getD 91 undef = z91
        clear HT
        clear h4 h5 h6 h7 h8 h9 h10 h11 h12 h13 h14 h15 h16 h17 h18 h19 h20 h21 h22 h23 h24 q91 v91 hM HS t1 t0 M
        go_wp2_with ((with_reducible refine guard_list ?_); first | (refine held_load 26 _ rfl ?_) | (refine held_load 22 _ rfl ?_) | (refine held_load 68 _ rfl ?_) | (refine held_load 131 _ rfl ?_))
        obtain ⟨M, hM⟩ : ∃ M, M = V11'.heap.size := ⟨_, rfl⟩
        refine hide_held fun t0 HT => ?_
        have HS : t0.size = 110 := by rw [HT]; rfl
        have h4 : t0[4]? = some (.pointer (some ⟨(w.heap.size + 2), 0, none⟩)) := by rw [HT]; rfl
        have h5 : t0[5]? = some (.pointer (some ⟨(w.heap.size + 3), 0, none⟩)) := by rw [HT]; rfl
        have h6 : t0[6]? = some (.pointer (some ⟨gn, 0, none⟩)) := by rw [HT]; rfl
        have h7 : t0[7]? = some (.pointer (some ⟨g7, 0, none⟩)) := by rw [HT]; rfl
        have h8 : t0[8]? = some (.pointer (some ⟨g8, 0, none⟩)) := by rw [HT]; rfl
        have h9 : t0[9]? = some (.pointer (some ⟨g9, 0, none⟩)) := by rw [HT]; rfl
        have h10 : t0[10]? = some (.pointer (some ⟨g10, 0, none⟩)) := by rw [HT]; rfl
        have h11 : t0[11]? = some (.pointer (some ⟨g11, 0, none⟩)) := by rw [HT]; rfl
        have h12 : t0[12]? = some (.int .i64 (j : Int)) := by rw [HT]; rfl
        have h13 : t0[13]? = some (.int .u8 1) := by rw [HT]; rfl
        have h14 : t0[14]? = some (.pointer (some ⟨g14, 0, none⟩)) := by rw [HT]; rfl
        have h15 : t0[15]? = some (.pointer (some ⟨g15, 0, none⟩)) := by rw [HT]; rfl
        have h16 : t0[16]? = some (.pointer (some ⟨g16, 0, none⟩)) := by rw [HT]; rfl
        have h17 : t0[17]? = some (.pointer (some ⟨g17, 0, none⟩)) := by rw [HT]; rfl
        have h18 : t0[18]? = some (.pointer (some ⟨g18, 0, none⟩)) := by rw [HT]; rfl
        have h19 : t0[19]? = some (.pointer (some ⟨g19, 0, none⟩)) := by rw [HT]; rfl
        have h20 : t0[20]? = some (.pointer (some ⟨g20, 0, none⟩)) := by rw [HT]; rfl
        have h21 : t0[21]? = some (.pointer (some ⟨g21, 0, none⟩)) := by rw [HT]; rfl
        have h22 : t0[22]? = some (.pointer (some ⟨g22, 0, none⟩)) := by rw [HT]; rfl
        have h23 : t0[23]? = some (.pointer (some ⟨g23, 0, none⟩)) := by rw [HT]; rfl
        have h24 : t0[24]? = some (.pointer (some ⟨g24, 0, none⟩)) := by rw [HT]; rfl
        refine wp_list_most 3 (fun i => [92, 93, 94].getD i 0) (fun _ => none) (fun i => [IsN ((p3 + q3) * (p3 + q3)), IsN ((p3 - q3) * (p3 - q3)), IsN (((p3 + q3) * (p3 + q3)) * ((p3 - q3) * (p3 - q3)))].getD i (fun _ => True)) (fun w' => Own w [(w.heap.size, 32, (· = .agg (vals Lk))), ((w.heap.size + 1), 32, (· = .agg (vals Lu))), ((w.heap.size + 2), 16, (fun _ => True)), ((w.heap.size + 3), 16, (fun _ => True)), (gn, 32, (· = .agg (vals (bytesN V)))), (g7, 16, IsN x1), (g8, 16, IsN p3), (g9, 16, IsN q3), (g10, 16, IsN ((((p2 - q2) * (p3 + q3)) + ((p2 + q2) * (p3 - q3))) * (((p2 - q2) * (p3 + q3)) + ((p2 + q2) * (p3 - q3))))), (g11, 16, IsN (x1 * ((((p2 - q2) * (p3 + q3)) - ((p2 + q2) * (p3 - q3))) * (((p2 - q2) * (p3 + q3)) - ((p2 + q2) * (p3 - q3)))))), (g14, 16, IsW (p3 + q3)), (g15, 16, IsW (p3 - q3)), (g16, 16, IsW (p2 + q2)), (g17, 16, IsW (p2 - q2)), (g18, 16, IsN ((p3 + q3) * (p3 + q3))), (g19, 16, IsN ((p3 - q3) * (p3 - q3))), (g20, 16, IsN ((p2 - q2) * (p3 + q3))), (g21, 16, IsN ((p2 + q2) * (p3 - q3))), (g22, 16, IsW (((p3 + q3) * (p3 + q3)) - ((p3 - q3) * (p3 - q3)))), (g23, 16, IsW (((p2 - q2) * (p3 + q3)) + ((p2 + q2) * (p3 - q3)))), (g24, 16, IsW (((p2 - q2) * (p3 + q3)) - ((p2 + q2) * (p3 - q3))))] w' ∧ M ≤ w'.heap.size) M
          (by kernel_rfl) (slots_apart (by kernel_rfl)) (slots_lie (by rw [HS]; kernel_rfl)) ⟨hS, Nat.le_of_eq hM⟩ (fun w' h => h.2) (fun w1 w2 h b => ⟨h.1.keep b, Nat.le_trans h.2 b.size⟩) ?_ ?_ ?_
        · clear hS
          intro i o hi ho hA
          have hc : i = 0 ∨ i = 1 ∨ i = 2 := by omega
          rcases hc with rfl | rfl | rfl
          · obtain rfl := Option.some.inj ho
            refine ⟨rfl, fun a w' hS hold hin K hK => ?_⟩
            refine if_always rfl ?_
            exact op_ld_own 16 tNine (.tmp 18) rfl rfl _ (eval_tmp ((hold 18 (slots_not (by kernel_rfl))).trans h18)) hS.1 14 rfl hK
          · obtain rfl := Option.some.inj ho
            refine ⟨rfl, fun a w' hS hold hin K hK => ?_⟩
            refine if_always rfl ?_
            exact op_ld_own 16 tNine (.tmp 19) rfl rfl _ (eval_tmp ((hold 19 (slots_not (by kernel_rfl))).trans h19)) hS.1 15 rfl hK
          · obtain rfl := Option.some.inj ho
            refine ⟨rfl, fun a w' hS hold hin K hK => ?_⟩
            obtain ⟨y0, x0, (v0 : IsN ((p3 + q3) * (p3 + q3)) y0)⟩ := hin 0 rfl (by omega) rfl
            obtain ⟨y1, x1, (v1 : IsN ((p3 - q3) * (p3 - q3)) y1)⟩ := hin 1 rfl (by omega) rfl
            refine if_always rfl ?_
            exact op_fn2 _ _ _ _ _ _ rfl rfl (eval_tmp x0) (eval_tmp x1) (by intro args w; kernel_rfl) (times9_ev (v0).wide (v1).wide _) hK
        · intro i o sz hi ho hA; cases hA
        clear hS
        intro t1 V12 hs hold hout hall hne hS
        have ef := frame_fill 3 (fun i => [92, 93, 94].getD i 0) hs hold (slots_apart (by kernel_rfl)) (slots_lie (by rw [HS]; kernel_rfl))
        replace HS := hs.trans HS
        replace hS := hS.1
        obtain ⟨x94, q94, v94⟩ : ∃ x, t1[94]? = some x ∧ (IsN (((p3 + q3) * (p3 + q3)) * ((p3 - q3) * (p3 - q3)))) x := hout 2 (by omega) rfl
        replace h4 := (hold 4 (slots_not (by kernel_rfl))).trans h4
        replace h5 := (hold 5 (slots_not (by kernel_rfl))).trans h5
        replace h6 := (hold 6 (slots_not (by kernel_rfl))).trans h6
        replace h7 := (hold 7 (slots_not (by kernel_rfl))).trans h7
        replace h8 := (hold 8 (slots_not (by kernel_rfl))).trans h8
        replace h9 := (hold 9 (slots_not (by kernel_rfl))).trans h9
        replace h10 := (hold 10 (slots_not (by kernel_rfl))).trans h10
        replace h11 := (hold 11 (slots_not (by kernel_rfl))).trans h11
        replace h12 := (hold 12 (slots_not (by kernel_rfl))).trans h12
        replace h13 := (hold 13 (slots_not (by kernel_rfl))).trans h13
        replace h14 := (hold 14 (slots_not (by kernel_rfl))).trans h14
        replace h15 := (hold 15 (slots_not (by kernel_rfl))).trans h15
        replace h16 := (hold 16 (slots_not (by kernel_rfl))).trans h16
        replace h17 := (hold 17 (slots_not (by kernel_rfl))).trans h17
        replace h18 := (hold 18 (slots_not (by kernel_rfl))).trans h18
        replace h19 := (hold 19 (slots_not (by kernel_rfl))).trans h19
        replace h20 := (hold 20 (slots_not (by kernel_rfl))).trans h20
        replace h21 := (hold 21 (slots_not (by kernel_rfl))).trans h21
        replace h22 := (hold 22 (slots_not (by kernel_rfl))).trans h22
        replace h23 := (hold 23 (slots_not (by kernel_rfl))).trans h23
        replace h24 := (hold 24 (slots_not (by kernel_rfl))).trans h24
        clear hold hout hs hall hne
        simp only [List.drop_succ_cons, List.drop_zero]
        refine st_own 16 tNine rfl (.tmp 8) (.tmp 94) rfl rfl _ _ (eval_tmp h8) (eval_tmp q94) (V' := IsN (((p3 + q3) * (p3 + q3)) * ((p3 - q3) * (p3 - q3)))) v94 (fun x hx => isN_row hx) hS 6 rfl fun V12' hS' _ => ?_
        replace hS : Own w [(w.heap.size, 32, (· = .agg (vals Lk))), ((w.heap.size + 1), 32, (· = .agg (vals Lu))), ((w.heap.size + 2), 16, (fun _ => True)), ((w.heap.size + 3), 16, (fun _ => True)), (gn, 32, (· = .agg (vals (bytesN V)))), (g7, 16, IsN x1), (g8, 16, IsN (((p3 + q3) * (p3 + q3)) * ((p3 - q3) * (p3 - q3)))), (g9, 16, IsN q3), (g10, 16, IsN ((((p2 - q2) * (p3 + q3)) + ((p2 + q2) * (p3 - q3))) * (((p2 - q2) * (p3 + q3)) + ((p2 + q2) * (p3 - q3))))), (g11, 16, IsN (x1 * ((((p2 - q2) * (p3 + q3)) - ((p2 + q2) * (p3 - q3))) * (((p2 - q2) * (p3 + q3)) - ((p2 + q2) * (p3 - q3)))))), (g14, 16, IsW (p3 + q3)), (g15, 16, IsW (p3 - q3)), (g16, 16, IsW (p2 + q2)), (g17, 16, IsW (p2 - q2)), (g18, 16, IsN ((p3 + q3) * (p3 + q3))), (g19, 16, IsN ((p3 - q3) * (p3 - q3))), (g20, 16, IsN ((p2 - q2) * (p3 + q3))), (g21, 16, IsN ((p2 + q2) * (p3 - q3))), (g22, 16, IsW (((p3 + q3) * (p3 + q3)) - ((p3 - q3) * (p3 - q3)))), (g23, 16, IsW (((p2 - q2) * (p3 + q3)) + ((p2 + q2) * (p3 - q3)))), (g24, 16, IsW (((p2 - q2) * (p3 + q3)) - ((p2 + q2) * (p3 - q3))))] V12' := hS'
        clear hS'
        refine wpList_nil ?_
        rw [ef, HT]
        clear ef
        simp only [fillA, if_true, List.getD_cons_zero, List.getD_cons_succ, List.setIfInBounds_toArray, List.set_cons_zero, List.set_cons_succ]
        generalize t1.getD 92 undef = z92
        generalize t1.getD 93 undef = z93
        generalize t1.getD 94 undef = z94
        clear HT
        clear h4 h5 h6 h7 h8 h9 h10 h11 h12 h13 h14 h15 h16 h17 h18 h19 h20 h21 h22 h23 h24 q94 v94 hM HS t1 t0 M
        go_wp2_with fail
        obtain ⟨M, hM⟩ : ∃ M, M = V12'.heap.size := ⟨_, rfl⟩
        refine hide_frame fun t0 HT => ?_
        have HS : t0.size = 110 := by rw [HT]; rfl
        have h4 : t0[4]? = some (.pointer (some ⟨(w.heap.size + 2), 0, none⟩)) := by rw [HT]; rfl
        have h5 : t0[5]? = some (.pointer (some ⟨(w.heap.size + 3), 0, none⟩)) := by rw [HT]; rfl
        have h6 : t0[6]? = some (.pointer (some ⟨gn, 0, none⟩)) := by rw [HT]; rfl
        have h7 : t0[7]? = some (.pointer (some ⟨g7, 0, none⟩)) := by rw [HT]; rfl
        have h8 : t0[8]? = some (.pointer (some ⟨g8, 0, none⟩)) := by rw [HT]; rfl
        have h9 : t0[9]? = some (.pointer (some ⟨g9, 0, none⟩)) := by rw [HT]; rfl
        have h10 : t0[10]? = some (.pointer (some ⟨g10, 0, none⟩)) := by rw [HT]; rfl
        have h11 : t0[11]? = some (.pointer (some ⟨g11, 0, none⟩)) := by rw [HT]; rfl
        have h12 : t0[12]? = some (.int .i64 (j : Int)) := by rw [HT]; rfl
        have h13 : t0[13]? = some (.int .u8 1) := by rw [HT]; rfl
        have h14 : t0[14]? = some (.pointer (some ⟨g14, 0, none⟩)) := by rw [HT]; rfl
        have h15 : t0[15]? = some (.pointer (some ⟨g15, 0, none⟩)) := by rw [HT]; rfl
        have h16 : t0[16]? = some (.pointer (some ⟨g16, 0, none⟩)) := by rw [HT]; rfl
        have h17 : t0[17]? = some (.pointer (some ⟨g17, 0, none⟩)) := by rw [HT]; rfl
        have h18 : t0[18]? = some (.pointer (some ⟨g18, 0, none⟩)) := by rw [HT]; rfl
        have h19 : t0[19]? = some (.pointer (some ⟨g19, 0, none⟩)) := by rw [HT]; rfl
        have h20 : t0[20]? = some (.pointer (some ⟨g20, 0, none⟩)) := by rw [HT]; rfl
        have h21 : t0[21]? = some (.pointer (some ⟨g21, 0, none⟩)) := by rw [HT]; rfl
        have h22 : t0[22]? = some (.pointer (some ⟨g22, 0, none⟩)) := by rw [HT]; rfl
        have h23 : t0[23]? = some (.pointer (some ⟨g23, 0, none⟩)) := by rw [HT]; rfl
        have h24 : t0[24]? = some (.pointer (some ⟨g24, 0, none⟩)) := by rw [HT]; rfl
        refine wp_region_most 7 (fun i => [95, 96, 97, 98, 99, 100, 101].getD i 0) (fun _ => none) (fun i => [IsW (((p3 + q3) * (p3 + q3)) - ((p3 - q3) * (p3 - q3))), IsN ((p3 + q3) * (p3 + q3)), IsW (121665 : F), IsW (((p3 + q3) * (p3 + q3)) - ((p3 - q3) * (p3 - q3))), IsN ((121665 : F) * (((p3 + q3) * (p3 + q3)) - ((p3 - q3) * (p3 - q3)))), IsW (((p3 + q3) * (p3 + q3)) + ((121665 : F) * (((p3 + q3) * (p3 + q3)) - ((p3 - q3) * (p3 - q3))))), IsN ((((p3 + q3) * (p3 + q3)) - ((p3 - q3) * (p3 - q3))) * (((p3 + q3) * (p3 + q3)) + ((121665 : F) * (((p3 + q3) * (p3 + q3)) - ((p3 - q3) * (p3 - q3))))))].getD i (fun _ => True)) (fun w' => Own w [(w.heap.size, 32, (· = .agg (vals Lk))), ((w.heap.size + 1), 32, (· = .agg (vals Lu))), ((w.heap.size + 2), 16, (fun _ => True)), ((w.heap.size + 3), 16, (fun _ => True)), (gn, 32, (· = .agg (vals (bytesN V)))), (g7, 16, IsN x1), (g8, 16, IsN (((p3 + q3) * (p3 + q3)) * ((p3 - q3) * (p3 - q3)))), (g9, 16, IsN q3), (g10, 16, IsN ((((p2 - q2) * (p3 + q3)) + ((p2 + q2) * (p3 - q3))) * (((p2 - q2) * (p3 + q3)) + ((p2 + q2) * (p3 - q3))))), (g11, 16, IsN (x1 * ((((p2 - q2) * (p3 + q3)) - ((p2 + q2) * (p3 - q3))) * (((p2 - q2) * (p3 + q3)) - ((p2 + q2) * (p3 - q3)))))), (g14, 16, IsW (p3 + q3)), (g15, 16, IsW (p3 - q3)), (g16, 16, IsW (p2 + q2)), (g17, 16, IsW (p2 - q2)), (g18, 16, IsN ((p3 + q3) * (p3 + q3))), (g19, 16, IsN ((p3 - q3) * (p3 - q3))), (g20, 16, IsN ((p2 - q2) * (p3 + q3))), (g21, 16, IsN ((p2 + q2) * (p3 - q3))), (g22, 16, IsW (((p3 + q3) * (p3 + q3)) - ((p3 - q3) * (p3 - q3)))), (g23, 16, IsW (((p2 - q2) * (p3 + q3)) + ((p2 + q2) * (p3 - q3)))), (g24, 16, IsW (((p2 - q2) * (p3 + q3)) - ((p2 + q2) * (p3 - q3))))] w' ∧ M ≤ w'.heap.size) M
          (by kernel_rfl) (by kernel_rfl) (slots_apart (by kernel_rfl)) (slots_lie (by rw [HS]; kernel_rfl)) ⟨hS.drew, Nat.le_of_eq hM⟩ (fun w' h => h.2) (fun w1 w2 h b => ⟨h.1.keep b, Nat.le_trans h.2 b.size⟩) ?_ ?_ ?_
        · clear hS
          intro i o hi ho hA
          have hc : i = 0 ∨ i = 1 ∨ i = 2 ∨ i = 3 ∨ i = 4 ∨ i = 5 ∨ i = 6 := by omega
          rcases hc with rfl | rfl | rfl | rfl | rfl | rfl | rfl
          · obtain rfl := Option.some.inj ho
            refine ⟨rfl, fun a w' hS hold hin K hK => ?_⟩
            refine if_always rfl ?_
            exact op_ld_own 16 tNine (.tmp 22) rfl rfl _ (eval_tmp ((hold 22 (slots_not (by kernel_rfl))).trans h22)) hS.1 18 rfl hK
          · obtain rfl := Option.some.inj ho
            refine ⟨rfl, fun a w' hS hold hin K hK => ?_⟩
            refine if_always rfl ?_
            exact op_ld_own 16 tNine (.tmp 18) rfl rfl _ (eval_tmp ((hold 18 (slots_not (by kernel_rfl))).trans h18)) hS.1 14 rfl hK
          · obtain rfl := Option.some.inj ho
            refine ⟨rfl, fun a w' hS hold hin K hK => ?_⟩
            refine if_always rfl ?_
            exact op_fn1 _ _ _ _ rfl rfl rfl (by intro args w; kernel_rfl) (small9_wide _) hK
          · obtain rfl := Option.some.inj ho
            refine ⟨rfl, fun a w' hS hold hin K hK => ?_⟩
            refine if_always rfl ?_
            exact op_ld_own 16 tNine (.tmp 22) rfl rfl _ (eval_tmp ((hold 22 (slots_not (by kernel_rfl))).trans h22)) hS.1 18 rfl hK
          · obtain rfl := Option.some.inj ho
            refine ⟨rfl, fun a w' hS hold hin K hK => ?_⟩
            obtain ⟨y2, x2, (v2 : IsW (121665 : F) y2)⟩ := hin 2 rfl (by omega) rfl
            obtain ⟨y3, x3, (v3 : IsW (((p3 + q3) * (p3 + q3)) - ((p3 - q3) * (p3 - q3))) y3)⟩ := hin 3 rfl (by omega) rfl
            refine if_always rfl ?_
            exact op_fn2 _ _ _ _ _ _ rfl rfl (eval_tmp x2) (eval_tmp x3) (by intro args w; kernel_rfl) (times9_ev v2 v3 _) hK
          · obtain rfl := Option.some.inj ho
            refine ⟨rfl, fun a w' hS hold hin K hK => ?_⟩
            obtain ⟨y1, x1, (v1 : IsN ((p3 + q3) * (p3 + q3)) y1)⟩ := hin 1 rfl (by omega) rfl
            obtain ⟨y4, x4, (v4 : IsN ((121665 : F) * (((p3 + q3) * (p3 + q3)) - ((p3 - q3) * (p3 - q3)))) y4)⟩ := hin 4 rfl (by omega) rfl
            refine if_always rfl ?_
            exact op_fn2 _ _ _ _ _ _ rfl rfl (eval_tmp x1) (eval_tmp x4) (by intro args w; kernel_rfl) (plus9_ev v1 v4 _) hK
          · obtain rfl := Option.some.inj ho
            refine ⟨rfl, fun a w' hS hold hin K hK => ?_⟩
            obtain ⟨y0, x0, (v0 : IsW (((p3 + q3) * (p3 + q3)) - ((p3 - q3) * (p3 - q3))) y0)⟩ := hin 0 rfl (by omega) rfl
            obtain ⟨y5, x5, (v5 : IsW (((p3 + q3) * (p3 + q3)) + ((121665 : F) * (((p3 + q3) * (p3 + q3)) - ((p3 - q3) * (p3 - q3))))) y5)⟩ := hin 5 rfl (by omega) rfl
            refine if_always rfl ?_
            exact op_fn2 _ _ _ _ _ _ rfl rfl (eval_tmp x0) (eval_tmp x5) (by intro args w; kernel_rfl) (times9_ev v0 v5 _) hK
        · intro i o sz hi ho hA; cases hA
        clear hS
        intro t1 V13 hs hold hout hall hne hS
        have ef := frame_fill 7 (fun i => [95, 96, 97, 98, 99, 100, 101].getD i 0) hs hold (slots_apart (by kernel_rfl)) (slots_lie (by rw [HS]; kernel_rfl))
        replace HS := hs.trans HS
        replace hS := hS.1
        obtain ⟨x101, q101, v101⟩ : ∃ x, t1[101]? = some x ∧ (IsN ((((p3 + q3) * (p3 + q3)) - ((p3 - q3) * (p3 - q3))) * (((p3 + q3) * (p3 + q3)) + ((121665 : F) * (((p3 + q3) * (p3 + q3)) - ((p3 - q3) * (p3 - q3))))))) x := hout 6 (by omega) rfl
        replace h4 := (hold 4 (slots_not (by kernel_rfl))).trans h4
        replace h5 := (hold 5 (slots_not (by kernel_rfl))).trans h5
        replace h6 := (hold 6 (slots_not (by kernel_rfl))).trans h6
        replace h7 := (hold 7 (slots_not (by kernel_rfl))).trans h7
        replace h8 := (hold 8 (slots_not (by kernel_rfl))).trans h8
        replace h9 := (hold 9 (slots_not (by kernel_rfl))).trans h9
        replace h10 := (hold 10 (slots_not (by kernel_rfl))).trans h10
        replace h11 := (hold 11 (slots_not (by kernel_rfl))).trans h11
        replace h12 := (hold 12 (slots_not (by kernel_rfl))).trans h12
        replace h13 := (hold 13 (slots_not (by kernel_rfl))).trans h13
        replace h14 := (hold 14 (slots_not (by kernel_rfl))).trans h14
        replace h15 := (hold 15 (slots_not (by kernel_rfl))).trans h15
        replace h16 := (hold 16 (slots_not (by kernel_rfl))).trans h16
        replace h17 := (hold 17 (slots_not (by kernel_rfl))).trans h17
        replace h18 := (hold 18 (slots_not (by kernel_rfl))).trans h18
        replace h19 := (hold 19 (slots_not (by kernel_rfl))).trans h19
        replace h20 := (hold 20 (slots_not (by kernel_rfl))).trans h20
        replace h21 := (hold 21 (slots_not (by kernel_rfl))).trans h21
        replace h22 := (hold 22 (slots_not (by kernel_rfl))).trans h22
        replace h23 := (hold 23 (slots_not (by kernel_rfl))).trans h23
        replace h24 := (hold 24 (slots_not (by kernel_rfl))).trans h24
        clear hold hout hs hall hne
        simp only [List.drop_succ_cons, List.drop_zero]
        refine st_own 16 tNine rfl (.tmp 9) (.tmp 101) rfl rfl _ _ (eval_tmp h9) (eval_tmp q101) (V' := IsN ((((p3 + q3) * (p3 + q3)) - ((p3 - q3) * (p3 - q3))) * (((p3 + q3) * (p3 + q3)) + ((121665 : F) * (((p3 + q3) * (p3 + q3)) - ((p3 - q3) * (p3 - q3))))))) v101 (fun x hx => isN_row hx) hS 7 rfl fun V13' hS' _ => ?_
        replace hS : Own w [(w.heap.size, 32, (· = .agg (vals Lk))), ((w.heap.size + 1), 32, (· = .agg (vals Lu))), ((w.heap.size + 2), 16, (fun _ => True)), ((w.heap.size + 3), 16, (fun _ => True)), (gn, 32, (· = .agg (vals (bytesN V)))), (g7, 16, IsN x1), (g8, 16, IsN (((p3 + q3) * (p3 + q3)) * ((p3 - q3) * (p3 - q3)))), (g9, 16, IsN ((((p3 + q3) * (p3 + q3)) - ((p3 - q3) * (p3 - q3))) * (((p3 + q3) * (p3 + q3)) + ((121665 : F) * (((p3 + q3) * (p3 + q3)) - ((p3 - q3) * (p3 - q3))))))), (g10, 16, IsN ((((p2 - q2) * (p3 + q3)) + ((p2 + q2) * (p3 - q3))) * (((p2 - q2) * (p3 + q3)) + ((p2 + q2) * (p3 - q3))))), (g11, 16, IsN (x1 * ((((p2 - q2) * (p3 + q3)) - ((p2 + q2) * (p3 - q3))) * (((p2 - q2) * (p3 + q3)) - ((p2 + q2) * (p3 - q3)))))), (g14, 16, IsW (p3 + q3)), (g15, 16, IsW (p3 - q3)), (g16, 16, IsW (p2 + q2)), (g17, 16, IsW (p2 - q2)), (g18, 16, IsN ((p3 + q3) * (p3 + q3))), (g19, 16, IsN ((p3 - q3) * (p3 - q3))), (g20, 16, IsN ((p2 - q2) * (p3 + q3))), (g21, 16, IsN ((p2 + q2) * (p3 - q3))), (g22, 16, IsW (((p3 + q3) * (p3 + q3)) - ((p3 - q3) * (p3 - q3)))), (g23, 16, IsW (((p2 - q2) * (p3 + q3)) + ((p2 + q2) * (p3 - q3)))), (g24, 16, IsW (((p2 - q2) * (p3 + q3)) - ((p2 + q2) * (p3 - q3))))] V13' := hS'
        clear hS'
        refine wpList_nil ?_
        rw [ef, HT]
        clear ef
        simp only [fillA, if_true, List.getD_cons_zero, List.getD_cons_succ, List.setIfInBounds_toArray, List.set_cons_zero, List.set_cons_succ]
        generalize t1.getD 95 undef = z95
        generalize t1.getD 96 undef = z96
        generalize t1.getD 97 undef = z97
        generalize t1.getD 98 undef = z98
        generalize t1.getD 99 undef = z99
        generalize t1.getD 100 undef = z100
        generalize t1.getD 101 undef = z101
        clear HT
        clear h4 h5 h6 h7 h8 h9 h10 h11 h12 h13 h14 h15 h16 h17 h18 h19 h20 h21 h22 h23 h24 q101 v101 hM HS t1 t0 M
        go_wp2_with ((with_reducible refine guard_list ?_); first | (refine held_load 26 _ rfl ?_) | (refine held_load 22 _ rfl ?_) | (refine held_load 68 _ rfl ?_) | (refine held_load 131 _ rfl ?_))
        obtain ⟨M, hM⟩ : ∃ M, M = V13'.heap.size := ⟨_, rfl⟩
        refine hide_held fun t0 HT => ?_
        have HS : t0.size = 110 := by rw [HT]; rfl
        have h4 : t0[4]? = some (.pointer (some ⟨(w.heap.size + 2), 0, none⟩)) := by rw [HT]; rfl
        have h5 : t0[5]? = some (.pointer (some ⟨(w.heap.size + 3), 0, none⟩)) := by rw [HT]; rfl
        have h6 : t0[6]? = some (.pointer (some ⟨gn, 0, none⟩)) := by rw [HT]; rfl
        have h7 : t0[7]? = some (.pointer (some ⟨g7, 0, none⟩)) := by rw [HT]; rfl
        have h8 : t0[8]? = some (.pointer (some ⟨g8, 0, none⟩)) := by rw [HT]; rfl
        have h9 : t0[9]? = some (.pointer (some ⟨g9, 0, none⟩)) := by rw [HT]; rfl
        have h10 : t0[10]? = some (.pointer (some ⟨g10, 0, none⟩)) := by rw [HT]; rfl
        have h11 : t0[11]? = some (.pointer (some ⟨g11, 0, none⟩)) := by rw [HT]; rfl
        have h12 : t0[12]? = some (.int .i64 (j : Int)) := by rw [HT]; rfl
        have h13 : t0[13]? = some (.int .u8 1) := by rw [HT]; rfl
        have h14 : t0[14]? = some (.pointer (some ⟨g14, 0, none⟩)) := by rw [HT]; rfl
        have h15 : t0[15]? = some (.pointer (some ⟨g15, 0, none⟩)) := by rw [HT]; rfl
        have h16 : t0[16]? = some (.pointer (some ⟨g16, 0, none⟩)) := by rw [HT]; rfl
        have h17 : t0[17]? = some (.pointer (some ⟨g17, 0, none⟩)) := by rw [HT]; rfl
        have h18 : t0[18]? = some (.pointer (some ⟨g18, 0, none⟩)) := by rw [HT]; rfl
        have h19 : t0[19]? = some (.pointer (some ⟨g19, 0, none⟩)) := by rw [HT]; rfl
        have h20 : t0[20]? = some (.pointer (some ⟨g20, 0, none⟩)) := by rw [HT]; rfl
        have h21 : t0[21]? = some (.pointer (some ⟨g21, 0, none⟩)) := by rw [HT]; rfl
        have h22 : t0[22]? = some (.pointer (some ⟨g22, 0, none⟩)) := by rw [HT]; rfl
        have h23 : t0[23]? = some (.pointer (some ⟨g23, 0, none⟩)) := by rw [HT]; rfl
        have h24 : t0[24]? = some (.pointer (some ⟨g24, 0, none⟩)) := by rw [HT]; rfl
        refine wp_list_most 2 (fun i => [104, 105].getD i 0) (fun _ => none) (fun i => [IsN ((((p2 - q2) * (p3 + q3)) + ((p2 + q2) * (p3 - q3))) * (((p2 - q2) * (p3 + q3)) + ((p2 + q2) * (p3 - q3)))), IsN (((p3 + q3) * (p3 + q3)) * ((p3 - q3) * (p3 - q3)))].getD i (fun _ => True)) (fun w' => Own w [(w.heap.size, 32, (· = .agg (vals Lk))), ((w.heap.size + 1), 32, (· = .agg (vals Lu))), ((w.heap.size + 2), 16, (fun _ => True)), ((w.heap.size + 3), 16, (fun _ => True)), (gn, 32, (· = .agg (vals (bytesN V)))), (g7, 16, IsN x1), (g8, 16, IsN (((p3 + q3) * (p3 + q3)) * ((p3 - q3) * (p3 - q3)))), (g9, 16, IsN ((((p3 + q3) * (p3 + q3)) - ((p3 - q3) * (p3 - q3))) * (((p3 + q3) * (p3 + q3)) + ((121665 : F) * (((p3 + q3) * (p3 + q3)) - ((p3 - q3) * (p3 - q3))))))), (g10, 16, IsN ((((p2 - q2) * (p3 + q3)) + ((p2 + q2) * (p3 - q3))) * (((p2 - q2) * (p3 + q3)) + ((p2 + q2) * (p3 - q3))))), (g11, 16, IsN (x1 * ((((p2 - q2) * (p3 + q3)) - ((p2 + q2) * (p3 - q3))) * (((p2 - q2) * (p3 + q3)) - ((p2 + q2) * (p3 - q3)))))), (g14, 16, IsW (p3 + q3)), (g15, 16, IsW (p3 - q3)), (g16, 16, IsW (p2 + q2)), (g17, 16, IsW (p2 - q2)), (g18, 16, IsN ((p3 + q3) * (p3 + q3))), (g19, 16, IsN ((p3 - q3) * (p3 - q3))), (g20, 16, IsN ((p2 - q2) * (p3 + q3))), (g21, 16, IsN ((p2 + q2) * (p3 - q3))), (g22, 16, IsW (((p3 + q3) * (p3 + q3)) - ((p3 - q3) * (p3 - q3)))), (g23, 16, IsW (((p2 - q2) * (p3 + q3)) + ((p2 + q2) * (p3 - q3)))), (g24, 16, IsW (((p2 - q2) * (p3 + q3)) - ((p2 + q2) * (p3 - q3))))] w' ∧ M ≤ w'.heap.size) M
          (by kernel_rfl) (slots_apart (by kernel_rfl)) (slots_lie (by rw [HS]; kernel_rfl)) ⟨hS, Nat.le_of_eq hM⟩ (fun w' h => h.2) (fun w1 w2 h b => ⟨h.1.keep b, Nat.le_trans h.2 b.size⟩) ?_ ?_ ?_
        · clear hS
          intro i o hi ho hA
          have hc : i = 0 ∨ i = 1 := by omega
          rcases hc with rfl | rfl
          · obtain rfl := Option.some.inj ho
            refine ⟨rfl, fun a w' hS hold hin K hK => ?_⟩
            refine if_always rfl ?_
            exact op_ld_own 16 tNine (.tmp 10) rfl rfl _ (eval_tmp ((hold 10 (slots_not (by kernel_rfl))).trans h10)) hS.1 8 rfl hK
          · obtain rfl := Option.some.inj ho
            refine ⟨rfl, fun a w' hS hold hin K hK => ?_⟩
            refine if_always rfl ?_
            exact op_ld_own 16 tNine (.tmp 8) rfl rfl _ (eval_tmp ((hold 8 (slots_not (by kernel_rfl))).trans h8)) hS.1 6 rfl hK
        · intro i o sz hi ho hA; cases hA
        clear hS
        intro t1 V14 hs hold hout hall hne hS
        have ef := frame_fill 2 (fun i => [104, 105].getD i 0) hs hold (slots_apart (by kernel_rfl)) (slots_lie (by rw [HS]; kernel_rfl))
        replace HS := hs.trans HS
        replace hS := hS.1
        obtain ⟨x104, q104, v104⟩ : ∃ x, t1[104]? = some x ∧ (IsN ((((p2 - q2) * (p3 + q3)) + ((p2 + q2) * (p3 - q3))) * (((p2 - q2) * (p3 + q3)) + ((p2 + q2) * (p3 - q3))))) x := hout 0 (by omega) rfl
        obtain ⟨x105, q105, v105⟩ : ∃ x, t1[105]? = some x ∧ (IsN (((p3 + q3) * (p3 + q3)) * ((p3 - q3) * (p3 - q3)))) x := hout 1 (by omega) rfl
        replace h4 := (hold 4 (slots_not (by kernel_rfl))).trans h4
        replace h5 := (hold 5 (slots_not (by kernel_rfl))).trans h5
        replace h6 := (hold 6 (slots_not (by kernel_rfl))).trans h6
        replace h7 := (hold 7 (slots_not (by kernel_rfl))).trans h7
        replace h8 := (hold 8 (slots_not (by kernel_rfl))).trans h8
        replace h9 := (hold 9 (slots_not (by kernel_rfl))).trans h9
        replace h10 := (hold 10 (slots_not (by kernel_rfl))).trans h10
        replace h11 := (hold 11 (slots_not (by kernel_rfl))).trans h11
        replace h12 := (hold 12 (slots_not (by kernel_rfl))).trans h12
        replace h13 := (hold 13 (slots_not (by kernel_rfl))).trans h13
        replace h14 := (hold 14 (slots_not (by kernel_rfl))).trans h14
        replace h15 := (hold 15 (slots_not (by kernel_rfl))).trans h15
        replace h16 := (hold 16 (slots_not (by kernel_rfl))).trans h16
        replace h17 := (hold 17 (slots_not (by kernel_rfl))).trans h17
        replace h18 := (hold 18 (slots_not (by kernel_rfl))).trans h18
        replace h19 := (hold 19 (slots_not (by kernel_rfl))).trans h19
        replace h20 := (hold 20 (slots_not (by kernel_rfl))).trans h20
        replace h21 := (hold 21 (slots_not (by kernel_rfl))).trans h21
        replace h22 := (hold 22 (slots_not (by kernel_rfl))).trans h22
        replace h23 := (hold 23 (slots_not (by kernel_rfl))).trans h23
        replace h24 := (hold 24 (slots_not (by kernel_rfl))).trans h24
        clear hold hout hs hall hne
        simp only [List.drop_succ_cons, List.drop_zero]
        refine st_own 16 tNine rfl (.tmp 8) (.tmp 104) rfl rfl _ _ (eval_tmp h8) (eval_tmp q104) (V' := IsN ((((p2 - q2) * (p3 + q3)) + ((p2 + q2) * (p3 - q3))) * (((p2 - q2) * (p3 + q3)) + ((p2 + q2) * (p3 - q3))))) v104 (fun x hx => isN_row hx) hS 6 rfl fun V14' hS' _ => ?_
        replace hS : Own w [(w.heap.size, 32, (· = .agg (vals Lk))), ((w.heap.size + 1), 32, (· = .agg (vals Lu))), ((w.heap.size + 2), 16, (fun _ => True)), ((w.heap.size + 3), 16, (fun _ => True)), (gn, 32, (· = .agg (vals (bytesN V)))), (g7, 16, IsN x1), (g8, 16, IsN ((((p2 - q2) * (p3 + q3)) + ((p2 + q2) * (p3 - q3))) * (((p2 - q2) * (p3 + q3)) + ((p2 + q2) * (p3 - q3))))), (g9, 16, IsN ((((p3 + q3) * (p3 + q3)) - ((p3 - q3) * (p3 - q3))) * (((p3 + q3) * (p3 + q3)) + ((121665 : F) * (((p3 + q3) * (p3 + q3)) - ((p3 - q3) * (p3 - q3))))))), (g10, 16, IsN ((((p2 - q2) * (p3 + q3)) + ((p2 + q2) * (p3 - q3))) * (((p2 - q2) * (p3 + q3)) + ((p2 + q2) * (p3 - q3))))), (g11, 16, IsN (x1 * ((((p2 - q2) * (p3 + q3)) - ((p2 + q2) * (p3 - q3))) * (((p2 - q2) * (p3 + q3)) - ((p2 + q2) * (p3 - q3)))))), (g14, 16, IsW (p3 + q3)), (g15, 16, IsW (p3 - q3)), (g16, 16, IsW (p2 + q2)), (g17, 16, IsW (p2 - q2)), (g18, 16, IsN ((p3 + q3) * (p3 + q3))), (g19, 16, IsN ((p3 - q3) * (p3 - q3))), (g20, 16, IsN ((p2 - q2) * (p3 + q3))), (g21, 16, IsN ((p2 + q2) * (p3 - q3))), (g22, 16, IsW (((p3 + q3) * (p3 + q3)) - ((p3 - q3) * (p3 - q3)))), (g23, 16, IsW (((p2 - q2) * (p3 + q3)) + ((p2 + q2) * (p3 - q3)))), (g24, 16, IsW (((p2 - q2) * (p3 + q3)) - ((p2 + q2) * (p3 - q3))))] V14' := hS'
        clear hS'
        refine st_own 16 tNine rfl (.tmp 10) (.tmp 105) rfl rfl _ _ (eval_tmp h10) (eval_tmp q105) (V' := IsN (((p3 + q3) * (p3 + q3)) * ((p3 - q3) * (p3 - q3)))) v105 (fun x hx => isN_row hx) hS 8 rfl fun V14'' hS' _ => ?_
        replace hS : Own w [(w.heap.size, 32, (· = .agg (vals Lk))), ((w.heap.size + 1), 32, (· = .agg (vals Lu))), ((w.heap.size + 2), 16, (fun _ => True)), ((w.heap.size + 3), 16, (fun _ => True)), (gn, 32, (· = .agg (vals (bytesN V)))), (g7, 16, IsN x1), (g8, 16, IsN ((((p2 - q2) * (p3 + q3)) + ((p2 + q2) * (p3 - q3))) * (((p2 - q2) * (p3 + q3)) + ((p2 + q2) * (p3 - q3))))), (g9, 16, IsN ((((p3 + q3) * (p3 + q3)) - ((p3 - q3) * (p3 - q3))) * (((p3 + q3) * (p3 + q3)) + ((121665 : F) * (((p3 + q3) * (p3 + q3)) - ((p3 - q3) * (p3 - q3))))))), (g10, 16, IsN (((p3 + q3) * (p3 + q3)) * ((p3 - q3) * (p3 - q3)))), (g11, 16, IsN (x1 * ((((p2 - q2) * (p3 + q3)) - ((p2 + q2) * (p3 - q3))) * (((p2 - q2) * (p3 + q3)) - ((p2 + q2) * (p3 - q3)))))), (g14, 16, IsW (p3 + q3)), (g15, 16, IsW (p3 - q3)), (g16, 16, IsW (p2 + q2)), (g17, 16, IsW (p2 - q2)), (g18, 16, IsN ((p3 + q3) * (p3 + q3))), (g19, 16, IsN ((p3 - q3) * (p3 - q3))), (g20, 16, IsN ((p2 - q2) * (p3 + q3))), (g21, 16, IsN ((p2 + q2) * (p3 - q3))), (g22, 16, IsW (((p3 + q3) * (p3 + q3)) - ((p3 - q3) * (p3 - q3)))), (g23, 16, IsW (((p2 - q2) * (p3 + q3)) + ((p2 + q2) * (p3 - q3)))), (g24, 16, IsW (((p2 - q2) * (p3 + q3)) - ((p2 + q2) * (p3 - q3))))] V14'' := hS'
        clear hS'
        refine wpList_nil ?_
        rw [ef, HT]
        clear ef
        simp only [fillA, if_true, List.getD_cons_zero, List.getD_cons_succ, List.setIfInBounds_toArray, List.set_cons_zero, List.set_cons_succ]
        generalize t1.getD 104 undef = z104
        generalize t1.getD 105 undef = z105
        clear HT
        clear h4 h5 h6 h7 h8 h9 h10 h11 h12 h13 h14 h15 h16 h17 h18 h19 h20 h21 h22 h23 h24 q104 q105 v104 v105 hM HS t1 t0 M
        go_wp2_with ((with_reducible refine guard_list ?_); first | (refine held_load 26 _ rfl ?_) | (refine held_load 22 _ rfl ?_) | (refine held_load 68 _ rfl ?_) | (refine held_load 131 _ rfl ?_))
        obtain ⟨M, hM⟩ : ∃ M, M = V14''.heap.size := ⟨_, rfl⟩
        refine hide_held fun t0 HT => ?_
        have HS : t0.size = 110 := by rw [HT]; rfl
        have h4 : t0[4]? = some (.pointer (some ⟨(w.heap.size + 2), 0, none⟩)) := by rw [HT]; rfl
        have h5 : t0[5]? = some (.pointer (some ⟨(w.heap.size + 3), 0, none⟩)) := by rw [HT]; rfl
        have h6 : t0[6]? = some (.pointer (some ⟨gn, 0, none⟩)) := by rw [HT]; rfl
        have h7 : t0[7]? = some (.pointer (some ⟨g7, 0, none⟩)) := by rw [HT]; rfl
        have h8 : t0[8]? = some (.pointer (some ⟨g8, 0, none⟩)) := by rw [HT]; rfl
        have h9 : t0[9]? = some (.pointer (some ⟨g9, 0, none⟩)) := by rw [HT]; rfl
        have h10 : t0[10]? = some (.pointer (some ⟨g10, 0, none⟩)) := by rw [HT]; rfl
        have h11 : t0[11]? = some (.pointer (some ⟨g11, 0, none⟩)) := by rw [HT]; rfl
        have h12 : t0[12]? = some (.int .i64 (j : Int)) := by rw [HT]; rfl
        have h13 : t0[13]? = some (.int .u8 1) := by rw [HT]; rfl
        have h14 : t0[14]? = some (.pointer (some ⟨g14, 0, none⟩)) := by rw [HT]; rfl
        have h15 : t0[15]? = some (.pointer (some ⟨g15, 0, none⟩)) := by rw [HT]; rfl
        have h16 : t0[16]? = some (.pointer (some ⟨g16, 0, none⟩)) := by rw [HT]; rfl
        have h17 : t0[17]? = some (.pointer (some ⟨g17, 0, none⟩)) := by rw [HT]; rfl
        have h18 : t0[18]? = some (.pointer (some ⟨g18, 0, none⟩)) := by rw [HT]; rfl
        have h19 : t0[19]? = some (.pointer (some ⟨g19, 0, none⟩)) := by rw [HT]; rfl
        have h20 : t0[20]? = some (.pointer (some ⟨g20, 0, none⟩)) := by rw [HT]; rfl
        have h21 : t0[21]? = some (.pointer (some ⟨g21, 0, none⟩)) := by rw [HT]; rfl
        have h22 : t0[22]? = some (.pointer (some ⟨g22, 0, none⟩)) := by rw [HT]; rfl
        have h23 : t0[23]? = some (.pointer (some ⟨g23, 0, none⟩)) := by rw [HT]; rfl
        have h24 : t0[24]? = some (.pointer (some ⟨g24, 0, none⟩)) := by rw [HT]; rfl
        refine wp_list_most 2 (fun i => [106, 107].getD i 0) (fun _ => none) (fun i => [IsN (x1 * ((((p2 - q2) * (p3 + q3)) - ((p2 + q2) * (p3 - q3))) * (((p2 - q2) * (p3 + q3)) - ((p2 + q2) * (p3 - q3))))), IsN ((((p3 + q3) * (p3 + q3)) - ((p3 - q3) * (p3 - q3))) * (((p3 + q3) * (p3 + q3)) + ((121665 : F) * (((p3 + q3) * (p3 + q3)) - ((p3 - q3) * (p3 - q3))))))].getD i (fun _ => True)) (fun w' => Own w [(w.heap.size, 32, (· = .agg (vals Lk))), ((w.heap.size + 1), 32, (· = .agg (vals Lu))), ((w.heap.size + 2), 16, (fun _ => True)), ((w.heap.size + 3), 16, (fun _ => True)), (gn, 32, (· = .agg (vals (bytesN V)))), (g7, 16, IsN x1), (g8, 16, IsN ((((p2 - q2) * (p3 + q3)) + ((p2 + q2) * (p3 - q3))) * (((p2 - q2) * (p3 + q3)) + ((p2 + q2) * (p3 - q3))))), (g9, 16, IsN ((((p3 + q3) * (p3 + q3)) - ((p3 - q3) * (p3 - q3))) * (((p3 + q3) * (p3 + q3)) + ((121665 : F) * (((p3 + q3) * (p3 + q3)) - ((p3 - q3) * (p3 - q3))))))), (g10, 16, IsN (((p3 + q3) * (p3 + q3)) * ((p3 - q3) * (p3 - q3)))), (g11, 16, IsN (x1 * ((((p2 - q2) * (p3 + q3)) - ((p2 + q2) * (p3 - q3))) * (((p2 - q2) * (p3 + q3)) - ((p2 + q2) * (p3 - q3)))))), (g14, 16, IsW (p3 + q3)), (g15, 16, IsW (p3 - q3)), (g16, 16, IsW (p2 + q2)), (g17, 16, IsW (p2 - q2)), (g18, 16, IsN ((p3 + q3) * (p3 + q3))), (g19, 16, IsN ((p3 - q3) * (p3 - q3))), (g20, 16, IsN ((p2 - q2) * (p3 + q3))), (g21, 16, IsN ((p2 + q2) * (p3 - q3))), (g22, 16, IsW (((p3 + q3) * (p3 + q3)) - ((p3 - q3) * (p3 - q3)))), (g23, 16, IsW (((p2 - q2) * (p3 + q3)) + ((p2 + q2) * (p3 - q3)))), (g24, 16, IsW (((p2 - q2) * (p3 + q3)) - ((p2 + q2) * (p3 - q3))))] w' ∧ M ≤ w'.heap.size) M
          (by kernel_rfl) (slots_apart (by kernel_rfl)) (slots_lie (by rw [HS]; kernel_rfl)) ⟨hS, Nat.le_of_eq hM⟩ (fun w' h => h.2) (fun w1 w2 h b => ⟨h.1.keep b, Nat.le_trans h.2 b.size⟩) ?_ ?_ ?_
        · clear hS
          intro i o hi ho hA
          have hc : i = 0 ∨ i = 1 := by omega
          rcases hc with rfl | rfl
          · obtain rfl := Option.some.inj ho
            refine ⟨rfl, fun a w' hS hold hin K hK => ?_⟩
            refine if_always rfl ?_
            exact op_ld_own 16 tNine (.tmp 11) rfl rfl _ (eval_tmp ((hold 11 (slots_not (by kernel_rfl))).trans h11)) hS.1 9 rfl hK
          · obtain rfl := Option.some.inj ho
            refine ⟨rfl, fun a w' hS hold hin K hK => ?_⟩
            refine if_always rfl ?_
            exact op_ld_own 16 tNine (.tmp 9) rfl rfl _ (eval_tmp ((hold 9 (slots_not (by kernel_rfl))).trans h9)) hS.1 7 rfl hK
        · intro i o sz hi ho hA; cases hA
        clear hS
        intro t1 V15 hs hold hout hall hne hS
        have ef := frame_fill 2 (fun i => [106, 107].getD i 0) hs hold (slots_apart (by kernel_rfl)) (slots_lie (by rw [HS]; kernel_rfl))
        replace HS := hs.trans HS
        replace hS := hS.1
        obtain ⟨x106, q106, v106⟩ : ∃ x, t1[106]? = some x ∧ (IsN (x1 * ((((p2 - q2) * (p3 + q3)) - ((p2 + q2) * (p3 - q3))) * (((p2 - q2) * (p3 + q3)) - ((p2 + q2) * (p3 - q3)))))) x := hout 0 (by omega) rfl
        obtain ⟨x107, q107, v107⟩ : ∃ x, t1[107]? = some x ∧ (IsN ((((p3 + q3) * (p3 + q3)) - ((p3 - q3) * (p3 - q3))) * (((p3 + q3) * (p3 + q3)) + ((121665 : F) * (((p3 + q3) * (p3 + q3)) - ((p3 - q3) * (p3 - q3))))))) x := hout 1 (by omega) rfl
        replace h4 := (hold 4 (slots_not (by kernel_rfl))).trans h4
        replace h5 := (hold 5 (slots_not (by kernel_rfl))).trans h5
        replace h6 := (hold 6 (slots_not (by kernel_rfl))).trans h6
        replace h7 := (hold 7 (slots_not (by kernel_rfl))).trans h7
        replace h8 := (hold 8 (slots_not (by kernel_rfl))).trans h8
        replace h9 := (hold 9 (slots_not (by kernel_rfl))).trans h9
        replace h10 := (hold 10 (slots_not (by kernel_rfl))).trans h10
        replace h11 := (hold 11 (slots_not (by kernel_rfl))).trans h11
        replace h12 := (hold 12 (slots_not (by kernel_rfl))).trans h12
        replace h13 := (hold 13 (slots_not (by kernel_rfl))).trans h13
        replace h14 := (hold 14 (slots_not (by kernel_rfl))).trans h14
        replace h15 := (hold 15 (slots_not (by kernel_rfl))).trans h15
        replace h16 := (hold 16 (slots_not (by kernel_rfl))).trans h16
        replace h17 := (hold 17 (slots_not (by kernel_rfl))).trans h17
        replace h18 := (hold 18 (slots_not (by kernel_rfl))).trans h18
        replace h19 := (hold 19 (slots_not (by kernel_rfl))).trans h19
        replace h20 := (hold 20 (slots_not (by kernel_rfl))).trans h20
        replace h21 := (hold 21 (slots_not (by kernel_rfl))).trans h21
        replace h22 := (hold 22 (slots_not (by kernel_rfl))).trans h22
        replace h23 := (hold 23 (slots_not (by kernel_rfl))).trans h23
        replace h24 := (hold 24 (slots_not (by kernel_rfl))).trans h24
        clear hold hout hs hall hne
        simp only [List.drop_succ_cons, List.drop_zero]
        refine st_own 16 tNine rfl (.tmp 9) (.tmp 106) rfl rfl _ _ (eval_tmp h9) (eval_tmp q106) (V' := IsN (x1 * ((((p2 - q2) * (p3 + q3)) - ((p2 + q2) * (p3 - q3))) * (((p2 - q2) * (p3 + q3)) - ((p2 + q2) * (p3 - q3)))))) v106 (fun x hx => isN_row hx) hS 7 rfl fun V15' hS' _ => ?_
        replace hS : Own w [(w.heap.size, 32, (· = .agg (vals Lk))), ((w.heap.size + 1), 32, (· = .agg (vals Lu))), ((w.heap.size + 2), 16, (fun _ => True)), ((w.heap.size + 3), 16, (fun _ => True)), (gn, 32, (· = .agg (vals (bytesN V)))), (g7, 16, IsN x1), (g8, 16, IsN ((((p2 - q2) * (p3 + q3)) + ((p2 + q2) * (p3 - q3))) * (((p2 - q2) * (p3 + q3)) + ((p2 + q2) * (p3 - q3))))), (g9, 16, IsN (x1 * ((((p2 - q2) * (p3 + q3)) - ((p2 + q2) * (p3 - q3))) * (((p2 - q2) * (p3 + q3)) - ((p2 + q2) * (p3 - q3)))))), (g10, 16, IsN (((p3 + q3) * (p3 + q3)) * ((p3 - q3) * (p3 - q3)))), (g11, 16, IsN (x1 * ((((p2 - q2) * (p3 + q3)) - ((p2 + q2) * (p3 - q3))) * (((p2 - q2) * (p3 + q3)) - ((p2 + q2) * (p3 - q3)))))), (g14, 16, IsW (p3 + q3)), (g15, 16, IsW (p3 - q3)), (g16, 16, IsW (p2 + q2)), (g17, 16, IsW (p2 - q2)), (g18, 16, IsN ((p3 + q3) * (p3 + q3))), (g19, 16, IsN ((p3 - q3) * (p3 - q3))), (g20, 16, IsN ((p2 - q2) * (p3 + q3))), (g21, 16, IsN ((p2 + q2) * (p3 - q3))), (g22, 16, IsW (((p3 + q3) * (p3 + q3)) - ((p3 - q3) * (p3 - q3)))), (g23, 16, IsW (((p2 - q2) * (p3 + q3)) + ((p2 + q2) * (p3 - q3)))), (g24, 16, IsW (((p2 - q2) * (p3 + q3)) - ((p2 + q2) * (p3 - q3))))] V15' := hS'
        clear hS'
        refine st_own 16 tNine rfl (.tmp 11) (.tmp 107) rfl rfl _ _ (eval_tmp h11) (eval_tmp q107) (V' := IsN ((((p3 + q3) * (p3 + q3)) - ((p3 - q3) * (p3 - q3))) * (((p3 + q3) * (p3 + q3)) + ((121665 : F) * (((p3 + q3) * (p3 + q3)) - ((p3 - q3) * (p3 - q3))))))) v107 (fun x hx => isN_row hx) hS 9 rfl fun V15'' hS' _ => ?_
        replace hS : Own w [(w.heap.size, 32, (· = .agg (vals Lk))), ((w.heap.size + 1), 32, (· = .agg (vals Lu))), ((w.heap.size + 2), 16, (fun _ => True)), ((w.heap.size + 3), 16, (fun _ => True)), (gn, 32, (· = .agg (vals (bytesN V)))), (g7, 16, IsN x1), (g8, 16, IsN ((((p2 - q2) * (p3 + q3)) + ((p2 + q2) * (p3 - q3))) * (((p2 - q2) * (p3 + q3)) + ((p2 + q2) * (p3 - q3))))), (g9, 16, IsN (x1 * ((((p2 - q2) * (p3 + q3)) - ((p2 + q2) * (p3 - q3))) * (((p2 - q2) * (p3 + q3)) - ((p2 + q2) * (p3 - q3)))))), (g10, 16, IsN (((p3 + q3) * (p3 + q3)) * ((p3 - q3) * (p3 - q3)))), (g11, 16, IsN ((((p3 + q3) * (p3 + q3)) - ((p3 - q3) * (p3 - q3))) * (((p3 + q3) * (p3 + q3)) + ((121665 : F) * (((p3 + q3) * (p3 + q3)) - ((p3 - q3) * (p3 - q3))))))), (g14, 16, IsW (p3 + q3)), (g15, 16, IsW (p3 - q3)), (g16, 16, IsW (p2 + q2)), (g17, 16, IsW (p2 - q2)), (g18, 16, IsN ((p3 + q3) * (p3 + q3))), (g19, 16, IsN ((p3 - q3) * (p3 - q3))), (g20, 16, IsN ((p2 - q2) * (p3 + q3))), (g21, 16, IsN ((p2 + q2) * (p3 - q3))), (g22, 16, IsW (((p3 + q3) * (p3 + q3)) - ((p3 - q3) * (p3 - q3)))), (g23, 16, IsW (((p2 - q2) * (p3 + q3)) + ((p2 + q2) * (p3 - q3)))), (g24, 16, IsW (((p2 - q2) * (p3 + q3)) - ((p2 + q2) * (p3 - q3))))] V15'' := hS'
        clear hS'
        refine wpList_nil ?_
        rw [ef, HT]
        clear ef
        simp only [fillA, if_true, List.getD_cons_zero, List.getD_cons_succ, List.setIfInBounds_toArray, List.set_cons_zero, List.set_cons_succ]
        generalize t1.getD 106 undef = z106
        generalize t1.getD 107 undef = z107
        clear HT
        clear h4 h5 h6 h7 h8 h9 h10 h11 h12 h13 h14 h15 h16 h17 h18 h19 h20 h21 h22 h23 h24 q106 q107 v106 v107 hM HS t1 t0 M
        replace hS : Own w [(w.heap.size, 32, (· = .agg (vals Lk))), ((w.heap.size + 1), 32, (· = .agg (vals Lu))), ((w.heap.size + 2), 16, (fun _ => True)), ((w.heap.size + 3), 16, (fun _ => True)), (gn, 32, (· = .agg (vals (bytesN V)))), (g7, 16, IsN x1), (g8, 16, IsN ((((p2 - q2) * (p3 + q3)) + ((p2 + q2) * (p3 - q3))) * (((p2 - q2) * (p3 + q3)) + ((p2 + q2) * (p3 - q3))))), (g9, 16, IsN (x1 * ((((p2 - q2) * (p3 + q3)) - ((p2 + q2) * (p3 - q3))) * (((p2 - q2) * (p3 + q3)) - ((p2 + q2) * (p3 - q3)))))), (g10, 16, IsN (((p3 + q3) * (p3 + q3)) * ((p3 - q3) * (p3 - q3)))), (g11, 16, IsN ((((p3 + q3) * (p3 + q3)) - ((p3 - q3) * (p3 - q3))) * (((p3 + q3) * (p3 + q3)) + ((121665 : F) * (((p3 + q3) * (p3 + q3)) - ((p3 - q3) * (p3 - q3)))))))] V15'' := hS.take 10
        have HL5 := Lib.hid (show lad x1 V j ((((((p2 - q2) * (p3 + q3)) + ((p2 + q2) * (p3 - q3))) * (((p2 - q2) * (p3 + q3)) + ((p2 + q2) * (p3 - q3)))), (x1 * ((((p2 - q2) * (p3 + q3)) - ((p2 + q2) * (p3 - q3))) * (((p2 - q2) * (p3 + q3)) - ((p2 + q2) * (p3 - q3)))))), ((((p3 + q3) * (p3 + q3)) * ((p3 - q3) * (p3 - q3))), ((((p3 + q3) * (p3 + q3)) - ((p3 - q3) * (p3 - q3))) * (((p3 + q3) * (p3 + q3)) + ((121665 : F) * (((p3 + q3) * (p3 + q3)) - ((p3 - q3) * (p3 - q3)))))))) = RR from by have h := HL4.out; rw [show stp x1 true ((p2, q2), (p3, q3)) = (dad x1 (p2, q2) (p3, q3), dbl (p3, q3)) from rfl, dad_sym, dad9, dbl9] at h; exact h)
        have hS2 := Lib.hid hS
        clear hS HL4
        go_wp2_with fail
        go_roundw
        case rel => exact ⟨j, _, _, _, _, by omega, rfl, HL5.out, hS2.out⟩
        case measure => simp [intOf]
      · have hbv : V / 2 ^ j % 2 = 0 := by omega
        rw [hbv] at hbit
        have HL3 := HL2.out
        rw [decide_eq_false hb1] at HL3
        have HL4 := Lib.hid HL3
        clear HL2 HL3 hbv hb1 HB
        go_wp2_with fail
        have hS := hS1.out
        clear hS1 cb t8 hby hbit
        obtain ⟨M, hM⟩ : ∃ M, M = wr.heap.size := ⟨_, rfl⟩
        have hMB : w.heap.size ≤ M := hM ▸ hS.1.size
        have ltM := hS.lt
        rw [← hM] at ltM
        refine hide_frame fun t0 HT => ?_
        have HS : t0.size = 110 := by rw [HT]; rfl
        have h4 : t0[4]? = some (.pointer (some ⟨(w.heap.size + 2), 0, none⟩)) := by rw [HT]; rfl
        have h5 : t0[5]? = some (.pointer (some ⟨(w.heap.size + 3), 0, none⟩)) := by rw [HT]; rfl
        have h6 : t0[6]? = some (.pointer (some ⟨gn, 0, none⟩)) := by rw [HT]; rfl
        have h7 : t0[7]? = some (.pointer (some ⟨g7, 0, none⟩)) := by rw [HT]; rfl
        have h8 : t0[8]? = some (.pointer (some ⟨g8, 0, none⟩)) := by rw [HT]; rfl
        have h9 : t0[9]? = some (.pointer (some ⟨g9, 0, none⟩)) := by rw [HT]; rfl
        have h10 : t0[10]? = some (.pointer (some ⟨g10, 0, none⟩)) := by rw [HT]; rfl
        have h11 : t0[11]? = some (.pointer (some ⟨g11, 0, none⟩)) := by rw [HT]; rfl
        have h12 : t0[12]? = some (.int .i64 (j : Int)) := by rw [HT]; rfl
        have h13 : t0[13]? = some (.int .u8 0) := by rw [HT]; rfl
        refine wp_region_most 16 (fun i => [51, 52, 53, 54, 55, 56, 57, 58, 59, 60, 61, 62, 14, 15, 16, 17].getD i 0) (fun i => [none, none, none, none, none, none, none, none, none, none, none, none, some 16, some 16, some 16, some 16].getD i none) (fun i => [IsN p2, IsN q2, IsW (p2 + q2), IsN p2, IsN q2, IsW (p2 - q2), IsN p3, IsN q3, IsW (p3 + q3), IsN p3, IsN q3, IsW (p3 - q3), (fun _ => True), (fun _ => True), (fun _ => True), (fun _ => True)].getD i (fun _ => True)) (fun w' => Own w [(w.heap.size, 32, (· = .agg (vals Lk))), ((w.heap.size + 1), 32, (· = .agg (vals Lu))), ((w.heap.size + 2), 16, (fun _ => True)), ((w.heap.size + 3), 16, (fun _ => True)), (gn, 32, (· = .agg (vals (bytesN V)))), (g7, 16, IsN x1), (g8, 16, IsN p2), (g9, 16, IsN q2), (g10, 16, IsN p3), (g11, 16, IsN q3)] w' ∧ M ≤ w'.heap.size) M
          (by kernel_rfl) (by kernel_rfl) (slots_apart (by kernel_rfl)) (slots_lie (by rw [HS]; kernel_rfl)) ⟨hS.drew, Nat.le_of_eq hM⟩ (fun w' h => h.2) (fun w1 w2 h b => ⟨h.1.keep b, Nat.le_trans h.2 b.size⟩) ?_ ?_ ?_
        · clear hS
          intro i o hi ho hA
          have hc : i = 0 ∨ i = 1 ∨ i = 2 ∨ i = 3 ∨ i = 4 ∨ i = 5 ∨ i = 6 ∨ i = 7 ∨ i = 8 ∨ i = 9 ∨ i = 10 ∨ i = 11 ∨ i = 12 ∨ i = 13 ∨ i = 14 ∨ i = 15 := by omega
          rcases hc with rfl | rfl | rfl | rfl | rfl | rfl | rfl | rfl | rfl | rfl | rfl | rfl | rfl | rfl | rfl | rfl
          · obtain rfl := Option.some.inj ho
            refine ⟨rfl, fun a w' hS hold hin K hK => ?_⟩
            refine if_always rfl ?_
            exact op_ld_own 16 tNine (.tmp 8) rfl rfl _ (eval_tmp ((hold 8 (slots_not (by kernel_rfl))).trans h8)) hS.1 6 rfl hK
          · obtain rfl := Option.some.inj ho
            refine ⟨rfl, fun a w' hS hold hin K hK => ?_⟩
            refine if_always rfl ?_
            exact op_ld_own 16 tNine (.tmp 9) rfl rfl _ (eval_tmp ((hold 9 (slots_not (by kernel_rfl))).trans h9)) hS.1 7 rfl hK
          · obtain rfl := Option.some.inj ho
            refine ⟨rfl, fun a w' hS hold hin K hK => ?_⟩
            obtain ⟨y0, x0, (v0 : IsN p2 y0)⟩ := hin 0 rfl (by omega) rfl
            obtain ⟨y1, x1, (v1 : IsN q2 y1)⟩ := hin 1 rfl (by omega) rfl
            refine if_always rfl ?_
            exact op_fn2 _ _ _ _ _ _ rfl rfl (eval_tmp x0) (eval_tmp x1) (by intro args w; kernel_rfl) (plus9_ev v0 v1 _) hK
          · obtain rfl := Option.some.inj ho
            refine ⟨rfl, fun a w' hS hold hin K hK => ?_⟩
            refine if_always rfl ?_
            exact op_ld_own 16 tNine (.tmp 8) rfl rfl _ (eval_tmp ((hold 8 (slots_not (by kernel_rfl))).trans h8)) hS.1 6 rfl hK
          · obtain rfl := Option.some.inj ho
            refine ⟨rfl, fun a w' hS hold hin K hK => ?_⟩
            refine if_always rfl ?_
            exact op_ld_own 16 tNine (.tmp 9) rfl rfl _ (eval_tmp ((hold 9 (slots_not (by kernel_rfl))).trans h9)) hS.1 7 rfl hK
          · obtain rfl := Option.some.inj ho
            refine ⟨rfl, fun a w' hS hold hin K hK => ?_⟩
            obtain ⟨y3, x3, (v3 : IsN p2 y3)⟩ := hin 3 rfl (by omega) rfl
            obtain ⟨y4, x4, (v4 : IsN q2 y4)⟩ := hin 4 rfl (by omega) rfl
            refine if_always rfl ?_
            exact op_fn2 _ _ _ _ _ _ rfl rfl (eval_tmp x3) (eval_tmp x4) (by intro args w; kernel_rfl) (minus9_ev v3 v4 _) hK
          · obtain rfl := Option.some.inj ho
            refine ⟨rfl, fun a w' hS hold hin K hK => ?_⟩
            refine if_always rfl ?_
            exact op_ld_own 16 tNine (.tmp 10) rfl rfl _ (eval_tmp ((hold 10 (slots_not (by kernel_rfl))).trans h10)) hS.1 8 rfl hK
          · obtain rfl := Option.some.inj ho
            refine ⟨rfl, fun a w' hS hold hin K hK => ?_⟩
            refine if_always rfl ?_
            exact op_ld_own 16 tNine (.tmp 11) rfl rfl _ (eval_tmp ((hold 11 (slots_not (by kernel_rfl))).trans h11)) hS.1 9 rfl hK
          · obtain rfl := Option.some.inj ho
            refine ⟨rfl, fun a w' hS hold hin K hK => ?_⟩
            obtain ⟨y6, x6, (v6 : IsN p3 y6)⟩ := hin 6 rfl (by omega) rfl
            obtain ⟨y7, x7, (v7 : IsN q3 y7)⟩ := hin 7 rfl (by omega) rfl
            refine if_always rfl ?_
            exact op_fn2 _ _ _ _ _ _ rfl rfl (eval_tmp x6) (eval_tmp x7) (by intro args w; kernel_rfl) (plus9_ev v6 v7 _) hK
          · obtain rfl := Option.some.inj ho
            refine ⟨rfl, fun a w' hS hold hin K hK => ?_⟩
            refine if_always rfl ?_
            exact op_ld_own 16 tNine (.tmp 10) rfl rfl _ (eval_tmp ((hold 10 (slots_not (by kernel_rfl))).trans h10)) hS.1 8 rfl hK
          · obtain rfl := Option.some.inj ho
            refine ⟨rfl, fun a w' hS hold hin K hK => ?_⟩
            refine if_always rfl ?_
            exact op_ld_own 16 tNine (.tmp 11) rfl rfl _ (eval_tmp ((hold 11 (slots_not (by kernel_rfl))).trans h11)) hS.1 9 rfl hK
          · obtain rfl := Option.some.inj ho
            refine ⟨rfl, fun a w' hS hold hin K hK => ?_⟩
            obtain ⟨y9, x9, (v9 : IsN p3 y9)⟩ := hin 9 rfl (by omega) rfl
            obtain ⟨y10, x10, (v10 : IsN q3 y10)⟩ := hin 10 rfl (by omega) rfl
            refine if_always rfl ?_
            exact op_fn2 _ _ _ _ _ _ rfl rfl (eval_tmp x9) (eval_tmp x10) (by intro args w; kernel_rfl) (minus9_ev v9 v10 _) hK
          · cases hA
          · cases hA
          · cases hA
          · cases hA
        · intro i o sz hi ho hA
          have hc : i = 0 ∨ i = 1 ∨ i = 2 ∨ i = 3 ∨ i = 4 ∨ i = 5 ∨ i = 6 ∨ i = 7 ∨ i = 8 ∨ i = 9 ∨ i = 10 ∨ i = 11 ∨ i = 12 ∨ i = 13 ∨ i = 14 ∨ i = 15 := by omega
          rcases hc with rfl | rfl | rfl | rfl | rfl | rfl | rfl | rfl | rfl | rfl | rfl | rfl | rfl | rfl | rfl | rfl
          · cases hA
          · cases hA
          · cases hA
          · cases hA
          · cases hA
          · cases hA
          · cases hA
          · cases hA
          · cases hA
          · cases hA
          · cases hA
          · cases hA
          · obtain rfl := Option.some.inj ho
            obtain rfl := Option.some.inj hA
            exact ⟨rfl, rfl, 131, #[.int .i64 0, .int .i64 0, .int .i64 0, .int .i64 0, .int .i64 0, .int .i64 0, .int .i64 0, .int .i64 0, .int .i64 0, .int .i64 0, .int .i64 0, .int .i64 0, .int .i64 0, .int .i64 0, .int .i64 0, .int .i64 0], rfl, fun a w' K h => wp_new 131 #[.int .i64 0, .int .i64 0, .int .i64 0, .int .i64 0, .int .i64 0, .int .i64 0, .int .i64 0, .int .i64 0, .int .i64 0, .int .i64 0, .int .i64 0, .int .i64 0, .int .i64 0, .int .i64 0, .int .i64 0, .int .i64 0] (fun w => by kernel_rfl) h⟩
          · obtain rfl := Option.some.inj ho
            obtain rfl := Option.some.inj hA
            exact ⟨rfl, rfl, 131, #[.int .i64 0, .int .i64 0, .int .i64 0, .int .i64 0, .int .i64 0, .int .i64 0, .int .i64 0, .int .i64 0, .int .i64 0, .int .i64 0, .int .i64 0, .int .i64 0, .int .i64 0, .int .i64 0, .int .i64 0, .int .i64 0], rfl, fun a w' K h => wp_new 131 #[.int .i64 0, .int .i64 0, .int .i64 0, .int .i64 0, .int .i64 0, .int .i64 0, .int .i64 0, .int .i64 0, .int .i64 0, .int .i64 0, .int .i64 0, .int .i64 0, .int .i64 0, .int .i64 0, .int .i64 0, .int .i64 0] (fun w => by kernel_rfl) h⟩
          · obtain rfl := Option.some.inj ho
            obtain rfl := Option.some.inj hA
            exact ⟨rfl, rfl, 131, #[.int .i64 0, .int .i64 0, .int .i64 0, .int .i64 0, .int .i64 0, .int .i64 0, .int .i64 0, .int .i64 0, .int .i64 0, .int .i64 0, .int .i64 0, .int .i64 0, .int .i64 0, .int .i64 0, .int .i64 0, .int .i64 0], rfl, fun a w' K h => wp_new 131 #[.int .i64 0, .int .i64 0, .int .i64 0, .int .i64 0, .int .i64 0, .int .i64 0, .int .i64 0, .int .i64 0, .int .i64 0, .int .i64 0, .int .i64 0, .int .i64 0, .int .i64 0, .int .i64 0, .int .i64 0, .int .i64 0] (fun w => by kernel_rfl) h⟩
          · obtain rfl := Option.some.inj ho
            obtain rfl := Option.some.inj hA
            exact ⟨rfl, rfl, 131, #[.int .i64 0, .int .i64 0, .int .i64 0, .int .i64 0, .int .i64 0, .int .i64 0, .int .i64 0, .int .i64 0, .int .i64 0, .int .i64 0, .int .i64 0, .int .i64 0, .int .i64 0, .int .i64 0, .int .i64 0, .int .i64 0], rfl, fun a w' K h => wp_new 131 #[.int .i64 0, .int .i64 0, .int .i64 0, .int .i64 0, .int .i64 0, .int .i64 0, .int .i64 0, .int .i64 0, .int .i64 0, .int .i64 0, .int .i64 0, .int .i64 0, .int .i64 0, .int .i64 0, .int .i64 0, .int .i64 0] (fun w => by kernel_rfl) h⟩
        clear hS
        intro t1 V4 hs hold hout hall hne hS
        have ef := frame_fill 16 (fun i => [51, 52, 53, 54, 55, 56, 57, 58, 59, 60, 61, 62, 14, 15, 16, 17].getD i 0) hs hold (slots_apart (by kernel_rfl)) (slots_lie (by rw [HS]; kernel_rfl))
        replace HS := hs.trans HS
        replace hS := hS.1
        obtain ⟨g14, h14, b14, r14⟩ : ∃ g, t1[14]? = some (.pointer (some ⟨g, 0, none⟩)) ∧ M ≤ g ∧ ∃ cs ty, V4.heap[g]? = some (.cells cs ty (0, 0)) ∧ cs.size = 16 := by
          obtain ⟨g, p1, p2, ty, cs, p3, p4⟩ := hall 12 (by omega) 16 rfl
          exact ⟨g, p1, p2, cs, ty, p3, p4⟩
        obtain ⟨g15, h15, b15, r15⟩ : ∃ g, t1[15]? = some (.pointer (some ⟨g, 0, none⟩)) ∧ M ≤ g ∧ ∃ cs ty, V4.heap[g]? = some (.cells cs ty (0, 0)) ∧ cs.size = 16 := by
          obtain ⟨g, p1, p2, ty, cs, p3, p4⟩ := hall 13 (by omega) 16 rfl
          exact ⟨g, p1, p2, cs, ty, p3, p4⟩
        obtain ⟨g16, h16, b16, r16⟩ : ∃ g, t1[16]? = some (.pointer (some ⟨g, 0, none⟩)) ∧ M ≤ g ∧ ∃ cs ty, V4.heap[g]? = some (.cells cs ty (0, 0)) ∧ cs.size = 16 := by
          obtain ⟨g, p1, p2, ty, cs, p3, p4⟩ := hall 14 (by omega) 16 rfl
          exact ⟨g, p1, p2, cs, ty, p3, p4⟩
        obtain ⟨g17, h17, b17, r17⟩ : ∃ g, t1[17]? = some (.pointer (some ⟨g, 0, none⟩)) ∧ M ≤ g ∧ ∃ cs ty, V4.heap[g]? = some (.cells cs ty (0, 0)) ∧ cs.size = 16 := by
          obtain ⟨g, p1, p2, ty, cs, p3, p4⟩ := hall 15 (by omega) 16 rfl
          exact ⟨g, p1, p2, cs, ty, p3, p4⟩
        have n14_15 : g14 ≠ g15 := fun h => hne 12 13 (by omega) (by omega) (by omega) rfl rfl (show t1[14]? = t1[15]? by rw [h14, h15, h])
        have n14_16 : g14 ≠ g16 := fun h => hne 12 14 (by omega) (by omega) (by omega) rfl rfl (show t1[14]? = t1[16]? by rw [h14, h16, h])
        have n14_17 : g14 ≠ g17 := fun h => hne 12 15 (by omega) (by omega) (by omega) rfl rfl (show t1[14]? = t1[17]? by rw [h14, h17, h])
        have n15_16 : g15 ≠ g16 := fun h => hne 13 14 (by omega) (by omega) (by omega) rfl rfl (show t1[15]? = t1[16]? by rw [h15, h16, h])
        have n15_17 : g15 ≠ g17 := fun h => hne 13 15 (by omega) (by omega) (by omega) rfl rfl (show t1[15]? = t1[17]? by rw [h15, h17, h])
        have n16_17 : g16 ≠ g17 := fun h => hne 14 15 (by omega) (by omega) (by omega) rfl rfl (show t1[16]? = t1[17]? by rw [h16, h17, h])
        replace hS : Own w [(w.heap.size, 32, (· = .agg (vals Lk))), ((w.heap.size + 1), 32, (· = .agg (vals Lu))), ((w.heap.size + 2), 16, (fun _ => True)), ((w.heap.size + 3), 16, (fun _ => True)), (gn, 32, (· = .agg (vals (bytesN V)))), (g7, 16, IsN x1), (g8, 16, IsN p2), (g9, 16, IsN q2), (g10, 16, IsN p3), (g11, 16, IsN q3), (g14, 16, (fun _ => True))] V4 := hS.add (Nat.le_trans hMB b14) (fun r hr => Nat.ne_of_lt (Nat.lt_of_lt_of_le (ltM r hr) b14)) (Own.any r14)
        replace hS : Own w [(w.heap.size, 32, (· = .agg (vals Lk))), ((w.heap.size + 1), 32, (· = .agg (vals Lu))), ((w.heap.size + 2), 16, (fun _ => True)), ((w.heap.size + 3), 16, (fun _ => True)), (gn, 32, (· = .agg (vals (bytesN V)))), (g7, 16, IsN x1), (g8, 16, IsN p2), (g9, 16, IsN q2), (g10, 16, IsN p3), (g11, 16, IsN q3), (g14, 16, (fun _ => True)), (g15, 16, (fun _ => True))] V4 := hS.add (Nat.le_trans hMB b15) (Own.ne_app (g1 := g14) (fun r hr => Nat.ne_of_lt (Nat.lt_of_lt_of_le (ltM r hr) b15)) n14_15) (Own.any r15)
        replace hS : Own w [(w.heap.size, 32, (· = .agg (vals Lk))), ((w.heap.size + 1), 32, (· = .agg (vals Lu))), ((w.heap.size + 2), 16, (fun _ => True)), ((w.heap.size + 3), 16, (fun _ => True)), (gn, 32, (· = .agg (vals (bytesN V)))), (g7, 16, IsN x1), (g8, 16, IsN p2), (g9, 16, IsN q2), (g10, 16, IsN p3), (g11, 16, IsN q3), (g14, 16, (fun _ => True)), (g15, 16, (fun _ => True)), (g16, 16, (fun _ => True))] V4 := hS.add (Nat.le_trans hMB b16) (Own.ne_app (g1 := g15) (Own.ne_app (g1 := g14) (fun r hr => Nat.ne_of_lt (Nat.lt_of_lt_of_le (ltM r hr) b16)) n14_16) n15_16) (Own.any r16)
        replace hS : Own w [(w.heap.size, 32, (· = .agg (vals Lk))), ((w.heap.size + 1), 32, (· = .agg (vals Lu))), ((w.heap.size + 2), 16, (fun _ => True)), ((w.heap.size + 3), 16, (fun _ => True)), (gn, 32, (· = .agg (vals (bytesN V)))), (g7, 16, IsN x1), (g8, 16, IsN p2), (g9, 16, IsN q2), (g10, 16, IsN p3), (g11, 16, IsN q3), (g14, 16, (fun _ => True)), (g15, 16, (fun _ => True)), (g16, 16, (fun _ => True)), (g17, 16, (fun _ => True))] V4 := hS.add (Nat.le_trans hMB b17) (Own.ne_app (g1 := g16) (Own.ne_app (g1 := g15) (Own.ne_app (g1 := g14) (fun r hr => Nat.ne_of_lt (Nat.lt_of_lt_of_le (ltM r hr) b17)) n14_17) n15_17) n16_17) (Own.any r17)
        obtain ⟨x53, q53, v53⟩ : ∃ x, t1[53]? = some x ∧ (IsW (p2 + q2)) x := hout 2 (by omega) rfl
        obtain ⟨x56, q56, v56⟩ : ∃ x, t1[56]? = some x ∧ (IsW (p2 - q2)) x := hout 5 (by omega) rfl
        obtain ⟨x59, q59, v59⟩ : ∃ x, t1[59]? = some x ∧ (IsW (p3 + q3)) x := hout 8 (by omega) rfl
        obtain ⟨x62, q62, v62⟩ : ∃ x, t1[62]? = some x ∧ (IsW (p3 - q3)) x := hout 11 (by omega) rfl
        replace h4 := (hold 4 (slots_not (by kernel_rfl))).trans h4
        replace h5 := (hold 5 (slots_not (by kernel_rfl))).trans h5
        replace h6 := (hold 6 (slots_not (by kernel_rfl))).trans h6
        replace h7 := (hold 7 (slots_not (by kernel_rfl))).trans h7
        replace h8 := (hold 8 (slots_not (by kernel_rfl))).trans h8
        replace h9 := (hold 9 (slots_not (by kernel_rfl))).trans h9
        replace h10 := (hold 10 (slots_not (by kernel_rfl))).trans h10
        replace h11 := (hold 11 (slots_not (by kernel_rfl))).trans h11
        replace h12 := (hold 12 (slots_not (by kernel_rfl))).trans h12
        replace h13 := (hold 13 (slots_not (by kernel_rfl))).trans h13
        clear hold hout hs hall hne
        simp only [List.drop_succ_cons, List.drop_zero]
        refine st_own 16 tNine rfl (.tmp 14) (.tmp 53) rfl rfl _ _ (eval_tmp h14) (eval_tmp q53) (V' := IsW (p2 + q2)) v53 (fun x hx => isW_row hx) hS 10 rfl fun V4' hS' _ => ?_
        replace hS : Own w [(w.heap.size, 32, (· = .agg (vals Lk))), ((w.heap.size + 1), 32, (· = .agg (vals Lu))), ((w.heap.size + 2), 16, (fun _ => True)), ((w.heap.size + 3), 16, (fun _ => True)), (gn, 32, (· = .agg (vals (bytesN V)))), (g7, 16, IsN x1), (g8, 16, IsN p2), (g9, 16, IsN q2), (g10, 16, IsN p3), (g11, 16, IsN q3), (g14, 16, IsW (p2 + q2)), (g15, 16, (fun _ => True)), (g16, 16, (fun _ => True)), (g17, 16, (fun _ => True))] V4' := hS'
        clear hS'
        refine st_own 16 tNine rfl (.tmp 15) (.tmp 56) rfl rfl _ _ (eval_tmp h15) (eval_tmp q56) (V' := IsW (p2 - q2)) v56 (fun x hx => isW_row hx) hS 11 rfl fun V4'' hS' _ => ?_
        replace hS : Own w [(w.heap.size, 32, (· = .agg (vals Lk))), ((w.heap.size + 1), 32, (· = .agg (vals Lu))), ((w.heap.size + 2), 16, (fun _ => True)), ((w.heap.size + 3), 16, (fun _ => True)), (gn, 32, (· = .agg (vals (bytesN V)))), (g7, 16, IsN x1), (g8, 16, IsN p2), (g9, 16, IsN q2), (g10, 16, IsN p3), (g11, 16, IsN q3), (g14, 16, IsW (p2 + q2)), (g15, 16, IsW (p2 - q2)), (g16, 16, (fun _ => True)), (g17, 16, (fun _ => True))] V4'' := hS'
        clear hS'
        refine st_own 16 tNine rfl (.tmp 16) (.tmp 59) rfl rfl _ _ (eval_tmp h16) (eval_tmp q59) (V' := IsW (p3 + q3)) v59 (fun x hx => isW_row hx) hS 12 rfl fun V4''' hS' _ => ?_
        replace hS : Own w [(w.heap.size, 32, (· = .agg (vals Lk))), ((w.heap.size + 1), 32, (· = .agg (vals Lu))), ((w.heap.size + 2), 16, (fun _ => True)), ((w.heap.size + 3), 16, (fun _ => True)), (gn, 32, (· = .agg (vals (bytesN V)))), (g7, 16, IsN x1), (g8, 16, IsN p2), (g9, 16, IsN q2), (g10, 16, IsN p3), (g11, 16, IsN q3), (g14, 16, IsW (p2 + q2)), (g15, 16, IsW (p2 - q2)), (g16, 16, IsW (p3 + q3)), (g17, 16, (fun _ => True))] V4''' := hS'
        clear hS'
        refine st_own 16 tNine rfl (.tmp 17) (.tmp 62) rfl rfl _ _ (eval_tmp h17) (eval_tmp q62) (V' := IsW (p3 - q3)) v62 (fun x hx => isW_row hx) hS 13 rfl fun V4'''' hS' _ => ?_
        replace hS : Own w [(w.heap.size, 32, (· = .agg (vals Lk))), ((w.heap.size + 1), 32, (· = .agg (vals Lu))), ((w.heap.size + 2), 16, (fun _ => True)), ((w.heap.size + 3), 16, (fun _ => True)), (gn, 32, (· = .agg (vals (bytesN V)))), (g7, 16, IsN x1), (g8, 16, IsN p2), (g9, 16, IsN q2), (g10, 16, IsN p3), (g11, 16, IsN q3), (g14, 16, IsW (p2 + q2)), (g15, 16, IsW (p2 - q2)), (g16, 16, IsW (p3 + q3)), (g17, 16, IsW (p3 - q3))] V4'''' := hS'
        clear hS'
        refine wpList_nil ?_
        have g14 : t1.getD 14 undef = .pointer (some ⟨g14, 0, none⟩) := by rw [Array.getD_eq_getD_getElem?, h14]; rfl
        have g15 : t1.getD 15 undef = .pointer (some ⟨g15, 0, none⟩) := by rw [Array.getD_eq_getD_getElem?, h15]; rfl
        have g16 : t1.getD 16 undef = .pointer (some ⟨g16, 0, none⟩) := by rw [Array.getD_eq_getD_getElem?, h16]; rfl
        have g17 : t1.getD 17 undef = .pointer (some ⟨g17, 0, none⟩) := by rw [Array.getD_eq_getD_getElem?, h17]; rfl
        rw [ef, HT]
        clear ef
        simp only [fillA, if_true, List.getD_cons_zero, List.getD_cons_succ, List.setIfInBounds_toArray, List.set_cons_zero, List.set_cons_succ, g14, g15, g16, g17]
        generalize t1.getD 51 undef = z51
        generalize t1.getD 52 undef = z52
        generalize t1.getD 53 undef = z53
        generalize t1.getD 54 undef = z54
        generalize t1.getD 55 undef = z55
        generalize t1.getD 56 undef = z56
        generalize t1.getD 57 undef = z57
        generalize t1.getD 58 undef = z58
        generalize t1.getD 59 undef = z59
        generalize t1.getD 60 undef = z60
        generalize t1.getD 61 undef = z61
        generalize t1.getD 62 undef = z62
        clear g14 g15 g16 g17 HT
        clear h4 h5 h6 h7 h8 h9 h10 h11 h12 h13 h14 h15 h16 h17 q53 q56 q59 q62 v53 v56 v59 v62 b14 b15 b16 b17 r14 r15 r16 r17 n14_15 n14_16 n14_17 n15_16 n15_17 n16_17 ltM hMB hM HS t1 t0 M
        go_wp2_with fail
        obtain ⟨M, hM⟩ : ∃ M, M = V4''''.heap.size := ⟨_, rfl⟩
        have hMB : w.heap.size ≤ M := hM ▸ hS.1.size
        have ltM := hS.lt
        rw [← hM] at ltM
        refine hide_frame fun t0 HT => ?_
        have HS : t0.size = 110 := by rw [HT]; rfl
        have h4 : t0[4]? = some (.pointer (some ⟨(w.heap.size + 2), 0, none⟩)) := by rw [HT]; rfl
        have h5 : t0[5]? = some (.pointer (some ⟨(w.heap.size + 3), 0, none⟩)) := by rw [HT]; rfl
        have h6 : t0[6]? = some (.pointer (some ⟨gn, 0, none⟩)) := by rw [HT]; rfl
        have h7 : t0[7]? = some (.pointer (some ⟨g7, 0, none⟩)) := by rw [HT]; rfl
        have h8 : t0[8]? = some (.pointer (some ⟨g8, 0, none⟩)) := by rw [HT]; rfl
        have h9 : t0[9]? = some (.pointer (some ⟨g9, 0, none⟩)) := by rw [HT]; rfl
        have h10 : t0[10]? = some (.pointer (some ⟨g10, 0, none⟩)) := by rw [HT]; rfl
        have h11 : t0[11]? = some (.pointer (some ⟨g11, 0, none⟩)) := by rw [HT]; rfl
        have h12 : t0[12]? = some (.int .i64 (j : Int)) := by rw [HT]; rfl
        have h13 : t0[13]? = some (.int .u8 0) := by rw [HT]; rfl
        have h14 : t0[14]? = some (.pointer (some ⟨g14, 0, none⟩)) := by rw [HT]; rfl
        have h15 : t0[15]? = some (.pointer (some ⟨g15, 0, none⟩)) := by rw [HT]; rfl
        have h16 : t0[16]? = some (.pointer (some ⟨g16, 0, none⟩)) := by rw [HT]; rfl
        have h17 : t0[17]? = some (.pointer (some ⟨g17, 0, none⟩)) := by rw [HT]; rfl
        refine wp_region_most 16 (fun i => [63, 64, 65, 66, 67, 68, 69, 70, 71, 72, 73, 74, 18, 19, 20, 21].getD i 0) (fun i => [none, none, none, none, none, none, none, none, none, none, none, none, some 16, some 16, some 16, some 16].getD i none) (fun i => [IsW (p2 + q2), IsW (p2 + q2), IsN ((p2 + q2) * (p2 + q2)), IsW (p2 - q2), IsW (p2 - q2), IsN ((p2 - q2) * (p2 - q2)), IsW (p3 - q3), IsW (p2 + q2), IsN ((p3 - q3) * (p2 + q2)), IsW (p3 + q3), IsW (p2 - q2), IsN ((p3 + q3) * (p2 - q2)), (fun _ => True), (fun _ => True), (fun _ => True), (fun _ => True)].getD i (fun _ => True)) (fun w' => Own w [(w.heap.size, 32, (· = .agg (vals Lk))), ((w.heap.size + 1), 32, (· = .agg (vals Lu))), ((w.heap.size + 2), 16, (fun _ => True)), ((w.heap.size + 3), 16, (fun _ => True)), (gn, 32, (· = .agg (vals (bytesN V)))), (g7, 16, IsN x1), (g8, 16, IsN p2), (g9, 16, IsN q2), (g10, 16, IsN p3), (g11, 16, IsN q3), (g14, 16, IsW (p2 + q2)), (g15, 16, IsW (p2 - q2)), (g16, 16, IsW (p3 + q3)), (g17, 16, IsW (p3 - q3))] w' ∧ M ≤ w'.heap.size) M
          (by kernel_rfl) (by kernel_rfl) (slots_apart (by kernel_rfl)) (slots_lie (by rw [HS]; kernel_rfl)) ⟨hS.drew, Nat.le_of_eq hM⟩ (fun w' h => h.2) (fun w1 w2 h b => ⟨h.1.keep b, Nat.le_trans h.2 b.size⟩) ?_ ?_ ?_
        · clear hS
          intro i o hi ho hA
          have hc : i = 0 ∨ i = 1 ∨ i = 2 ∨ i = 3 ∨ i = 4 ∨ i = 5 ∨ i = 6 ∨ i = 7 ∨ i = 8 ∨ i = 9 ∨ i = 10 ∨ i = 11 ∨ i = 12 ∨ i = 13 ∨ i = 14 ∨ i = 15 := by omega
          rcases hc with rfl | rfl | rfl | rfl | rfl | rfl | rfl | rfl | rfl | rfl | rfl | rfl | rfl | rfl | rfl | rfl
          · obtain rfl := Option.some.inj ho
            refine ⟨rfl, fun a w' hS hold hin K hK => ?_⟩
            refine if_always rfl ?_
            exact op_ld_own 16 tNine (.tmp 14) rfl rfl _ (eval_tmp ((hold 14 (slots_not (by kernel_rfl))).trans h14)) hS.1 10 rfl hK
          · obtain rfl := Option.some.inj ho
            refine ⟨rfl, fun a w' hS hold hin K hK => ?_⟩
            refine if_always rfl ?_
            exact op_ld_own 16 tNine (.tmp 14) rfl rfl _ (eval_tmp ((hold 14 (slots_not (by kernel_rfl))).trans h14)) hS.1 10 rfl hK
          · obtain rfl := Option.some.inj ho
            refine ⟨rfl, fun a w' hS hold hin K hK => ?_⟩
            obtain ⟨y0, x0, (v0 : IsW (p2 + q2) y0)⟩ := hin 0 rfl (by omega) rfl
            obtain ⟨y1, x1, (v1 : IsW (p2 + q2) y1)⟩ := hin 1 rfl (by omega) rfl
            refine if_always rfl ?_
            exact op_fn2 _ _ _ _ _ _ rfl rfl (eval_tmp x0) (eval_tmp x1) (by intro args w; kernel_rfl) (times9_ev v0 v1 _) hK
          · obtain rfl := Option.some.inj ho
            refine ⟨rfl, fun a w' hS hold hin K hK => ?_⟩
            refine if_always rfl ?_
            exact op_ld_own 16 tNine (.tmp 15) rfl rfl _ (eval_tmp ((hold 15 (slots_not (by kernel_rfl))).trans h15)) hS.1 11 rfl hK
          · obtain rfl := Option.some.inj ho
            refine ⟨rfl, fun a w' hS hold hin K hK => ?_⟩
            refine if_always rfl ?_
            exact op_ld_own 16 tNine (.tmp 15) rfl rfl _ (eval_tmp ((hold 15 (slots_not (by kernel_rfl))).trans h15)) hS.1 11 rfl hK
          · obtain rfl := Option.some.inj ho
            refine ⟨rfl, fun a w' hS hold hin K hK => ?_⟩
            obtain ⟨y3, x3, (v3 : IsW (p2 - q2) y3)⟩ := hin 3 rfl (by omega) rfl
            obtain ⟨y4, x4, (v4 : IsW (p2 - q2) y4)⟩ := hin 4 rfl (by omega) rfl
            refine if_always rfl ?_
            exact op_fn2 _ _ _ _ _ _ rfl rfl (eval_tmp x3) (eval_tmp x4) (by intro args w; kernel_rfl) (times9_ev v3 v4 _) hK
          · obtain rfl := Option.some.inj ho
            refine ⟨rfl, fun a w' hS hold hin K hK => ?_⟩
            refine if_always rfl ?_
            exact op_ld_own 16 tNine (.tmp 17) rfl rfl _ (eval_tmp ((hold 17 (slots_not (by kernel_rfl))).trans h17)) hS.1 13 rfl hK
          · obtain rfl := Option.some.inj ho
            refine ⟨rfl, fun a w' hS hold hin K hK => ?_⟩
            refine if_always rfl ?_
            exact op_ld_own 16 tNine (.tmp 14) rfl rfl _ (eval_tmp ((hold 14 (slots_not (by kernel_rfl))).trans h14)) hS.1 10 rfl hK
          · obtain rfl := Option.some.inj ho
            refine ⟨rfl, fun a w' hS hold hin K hK => ?_⟩
            obtain ⟨y6, x6, (v6 : IsW (p3 - q3) y6)⟩ := hin 6 rfl (by omega) rfl
            obtain ⟨y7, x7, (v7 : IsW (p2 + q2) y7)⟩ := hin 7 rfl (by omega) rfl
            refine if_always rfl ?_
            exact op_fn2 _ _ _ _ _ _ rfl rfl (eval_tmp x6) (eval_tmp x7) (by intro args w; kernel_rfl) (times9_ev v6 v7 _) hK
          · obtain rfl := Option.some.inj ho
            refine ⟨rfl, fun a w' hS hold hin K hK => ?_⟩
            refine if_always rfl ?_
            exact op_ld_own 16 tNine (.tmp 16) rfl rfl _ (eval_tmp ((hold 16 (slots_not (by kernel_rfl))).trans h16)) hS.1 12 rfl hK
          · obtain rfl := Option.some.inj ho
            refine ⟨rfl, fun a w' hS hold hin K hK => ?_⟩
            refine if_always rfl ?_
            exact op_ld_own 16 tNine (.tmp 15) rfl rfl _ (eval_tmp ((hold 15 (slots_not (by kernel_rfl))).trans h15)) hS.1 11 rfl hK
          · obtain rfl := Option.some.inj ho
            refine ⟨rfl, fun a w' hS hold hin K hK => ?_⟩
            obtain ⟨y9, x9, (v9 : IsW (p3 + q3) y9)⟩ := hin 9 rfl (by omega) rfl
            obtain ⟨y10, x10, (v10 : IsW (p2 - q2) y10)⟩ := hin 10 rfl (by omega) rfl
            refine if_always rfl ?_
            exact op_fn2 _ _ _ _ _ _ rfl rfl (eval_tmp x9) (eval_tmp x10) (by intro args w; kernel_rfl) (times9_ev v9 v10 _) hK
          · cases hA
          · cases hA
          · cases hA
          · cases hA
        · intro i o sz hi ho hA
          have hc : i = 0 ∨ i = 1 ∨ i = 2 ∨ i = 3 ∨ i = 4 ∨ i = 5 ∨ i = 6 ∨ i = 7 ∨ i = 8 ∨ i = 9 ∨ i = 10 ∨ i = 11 ∨ i = 12 ∨ i = 13 ∨ i = 14 ∨ i = 15 := by omega
          rcases hc with rfl | rfl | rfl | rfl | rfl | rfl | rfl | rfl | rfl | rfl | rfl | rfl | rfl | rfl | rfl | rfl
          · cases hA
          · cases hA
          · cases hA
          · cases hA
          · cases hA
          · cases hA
          · cases hA
          · cases hA
          · cases hA
          · cases hA
          · cases hA
          · cases hA
          · obtain rfl := Option.some.inj ho
            obtain rfl := Option.some.inj hA
            exact ⟨rfl, rfl, 131, #[.int .i64 0, .int .i64 0, .int .i64 0, .int .i64 0, .int .i64 0, .int .i64 0, .int .i64 0, .int .i64 0, .int .i64 0, .int .i64 0, .int .i64 0, .int .i64 0, .int .i64 0, .int .i64 0, .int .i64 0, .int .i64 0], rfl, fun a w' K h => wp_new 131 #[.int .i64 0, .int .i64 0, .int .i64 0, .int .i64 0, .int .i64 0, .int .i64 0, .int .i64 0, .int .i64 0, .int .i64 0, .int .i64 0, .int .i64 0, .int .i64 0, .int .i64 0, .int .i64 0, .int .i64 0, .int .i64 0] (fun w => by kernel_rfl) h⟩
          · obtain rfl := Option.some.inj ho
            obtain rfl := Option.some.inj hA
            exact ⟨rfl, rfl, 131, #[.int .i64 0, .int .i64 0, .int .i64 0, .int .i64 0, .int .i64 0, .int .i64 0, .int .i64 0, .int .i64 0, .int .i64 0, .int .i64 0, .int .i64 0, .int .i64 0, .int .i64 0, .int .i64 0, .int .i64 0, .int .i64 0], rfl, fun a w' K h => wp_new 131 #[.int .i64 0, .int .i64 0, .int .i64 0, .int .i64 0, .int .i64 0, .int .i64 0, .int .i64 0, .int .i64 0, .int .i64 0, .int .i64 0, .int .i64 0, .int .i64 0, .int .i64 0, .int .i64 0, .int .i64 0, .int .i64 0] (fun w => by kernel_rfl) h⟩
          · obtain rfl := Option.some.inj ho
            obtain rfl := Option.some.inj hA
            exact ⟨rfl, rfl, 131, #[.int .i64 0, .int .i64 0, .int .i64 0, .int .i64 0, .int .i64 0, .int .i64 0, .int .i64 0, .int .i64 0, .int .i64 0, .int .i64 0, .int .i64 0, .int .i64 0, .int .i64 0, .int .i64 0, .int .i64 0, .int .i64 0], rfl, fun a w' K h => wp_new 131 #[.int .i64 0, .int .i64 0, .int .i64 0, .int .i64 0, .int .i64 0, .int .i64 0, .int .i64 0, .int .i64 0, .int .i64 0, .int .i64 0, .int .i64 0, .int .i64 0, .int .i64 0, .int .i64 0, .int .i64 0, .int .i64 0] (fun w => by kernel_rfl) h⟩
          · obtain rfl := Option.some.inj ho
            obtain rfl := Option.some.inj hA
            exact ⟨rfl, rfl, 131, #[.int .i64 0, .int .i64 0, .int .i64 0, .int .i64 0, .int .i64 0, .int .i64 0, .int .i64 0, .int .i64 0, .int .i64 0, .int .i64 0, .int .i64 0, .int .i64 0, .int .i64 0, .int .i64 0, .int .i64 0, .int .i64 0], rfl, fun a w' K h => wp_new 131 #[.int .i64 0, .int .i64 0, .int .i64 0, .int .i64 0, .int .i64 0, .int .i64 0, .int .i64 0, .int .i64 0, .int .i64 0, .int .i64 0, .int .i64 0, .int .i64 0, .int .i64 0, .int .i64 0, .int .i64 0, .int .i64 0] (fun w => by kernel_rfl) h⟩
        clear hS
        intro t1 V5 hs hold hout hall hne hS
        have ef := frame_fill 16 (fun i => [63, 64, 65, 66, 67, 68, 69, 70, 71, 72, 73, 74, 18, 19, 20, 21].getD i 0) hs hold (slots_apart (by kernel_rfl)) (slots_lie (by rw [HS]; kernel_rfl))
        replace HS := hs.trans HS
        replace hS := hS.1
        obtain ⟨g18, h18, b18, r18⟩ : ∃ g, t1[18]? = some (.pointer (some ⟨g, 0, none⟩)) ∧ M ≤ g ∧ ∃ cs ty, V5.heap[g]? = some (.cells cs ty (0, 0)) ∧ cs.size = 16 := by
          obtain ⟨g, p1, p2, ty, cs, p3, p4⟩ := hall 12 (by omega) 16 rfl
          exact ⟨g, p1, p2, cs, ty, p3, p4⟩
        obtain ⟨g19, h19, b19, r19⟩ : ∃ g, t1[19]? = some (.pointer (some ⟨g, 0, none⟩)) ∧ M ≤ g ∧ ∃ cs ty, V5.heap[g]? = some (.cells cs ty (0, 0)) ∧ cs.size = 16 := by
          obtain ⟨g, p1, p2, ty, cs, p3, p4⟩ := hall 13 (by omega) 16 rfl
          exact ⟨g, p1, p2, cs, ty, p3, p4⟩
        obtain ⟨g20, h20, b20, r20⟩ : ∃ g, t1[20]? = some (.pointer (some ⟨g, 0, none⟩)) ∧ M ≤ g ∧ ∃ cs ty, V5.heap[g]? = some (.cells cs ty (0, 0)) ∧ cs.size = 16 := by
          obtain ⟨g, p1, p2, ty, cs, p3, p4⟩ := hall 14 (by omega) 16 rfl
          exact ⟨g, p1, p2, cs, ty, p3, p4⟩
        obtain ⟨g21, h21, b21, r21⟩ : ∃ g, t1[21]? = some (.pointer (some ⟨g, 0, none⟩)) ∧ M ≤ g ∧ ∃ cs ty, V5.heap[g]? = some (.cells cs ty (0, 0)) ∧ cs.size = 16 := by
          obtain ⟨g, p1, p2, ty, cs, p3, p4⟩ := hall 15 (by omega) 16 rfl
          exact ⟨g, p1, p2, cs, ty, p3, p4⟩
        have n18_19 : g18 ≠ g19 := fun h => hne 12 13 (by omega) (by omega) (by omega) rfl rfl (show t1[18]? = t1[19]? by rw [h18, h19, h])
        have n18_20 : g18 ≠ g20 := fun h => hne 12 14 (by omega) (by omega) (by omega) rfl rfl (show t1[18]? = t1[20]? by rw [h18, h20, h])
        have n18_21 : g18 ≠ g21 := fun h => hne 12 15 (by omega) (by omega) (by omega) rfl rfl (show t1[18]? = t1[21]? by rw [h18, h21, h])
        have n19_20 : g19 ≠ g20 := fun h => hne 13 14 (by omega) (by omega) (by omega) rfl rfl (show t1[19]? = t1[20]? by rw [h19, h20, h])
        have n19_21 : g19 ≠ g21 := fun h => hne 13 15 (by omega) (by omega) (by omega) rfl rfl (show t1[19]? = t1[21]? by rw [h19, h21, h])
        have n20_21 : g20 ≠ g21 := fun h => hne 14 15 (by omega) (by omega) (by omega) rfl rfl (show t1[20]? = t1[21]? by rw [h20, h21, h])
        replace hS : Own w [(w.heap.size, 32, (· = .agg (vals Lk))), ((w.heap.size + 1), 32, (· = .agg (vals Lu))), ((w.heap.size + 2), 16, (fun _ => True)), ((w.heap.size + 3), 16, (fun _ => True)), (gn, 32, (· = .agg (vals (bytesN V)))), (g7, 16, IsN x1), (g8, 16, IsN p2), (g9, 16, IsN q2), (g10, 16, IsN p3), (g11, 16, IsN q3), (g14, 16, IsW (p2 + q2)), (g15, 16, IsW (p2 - q2)), (g16, 16, IsW (p3 + q3)), (g17, 16, IsW (p3 - q3)), (g18, 16, (fun _ => True))] V5 := hS.add (Nat.le_trans hMB b18) (fun r hr => Nat.ne_of_lt (Nat.lt_of_lt_of_le (ltM r hr) b18)) (Own.any r18)
        replace hS : Own w [(w.heap.size, 32, (· = .agg (vals Lk))), ((w.heap.size + 1), 32, (· = .agg (vals Lu))), ((w.heap.size + 2), 16, (fun _ => True)), ((w.heap.size + 3), 16, (fun _ => True)), (gn, 32, (· = .agg (vals (bytesN V)))), (g7, 16, IsN x1), (g8, 16, IsN p2), (g9, 16, IsN q2), (g10, 16, IsN p3), (g11, 16, IsN q3), (g14, 16, IsW (p2 + q2)), (g15, 16, IsW (p2 - q2)), (g16, 16, IsW (p3 + q3)), (g17, 16, IsW (p3 - q3)), (g18, 16, (fun _ => True)), (g19, 16, (fun _ => True))] V5 := hS.add (Nat.le_trans hMB b19) (Own.ne_app (g1 := g18) (fun r hr => Nat.ne_of_lt (Nat.lt_of_lt_of_le (ltM r hr) b19)) n18_19) (Own.any r19)
        replace hS : Own w [(w.heap.size, 32, (· = .agg (vals Lk))), ((w.heap.size + 1), 32, (· = .agg (vals Lu))), ((w.heap.size + 2), 16, (fun _ => True)), ((w.heap.size + 3), 16, (fun _ => True)), (gn, 32, (· = .agg (vals (bytesN V)))), (g7, 16, IsN x1), (g8, 16, IsN p2), (g9, 16, IsN q2), (g10, 16, IsN p3), (g11, 16, IsN q3), (g14, 16, IsW (p2 + q2)), (g15, 16, IsW (p2 - q2)), (g16, 16, IsW (p3 + q3)), (g17, 16, IsW (p3 - q3)), (g18, 16, (fun _ => True)), (g19, 16, (fun _ => True)), (g20, 16, (fun _ => True))] V5 := hS.add (Nat.le_trans hMB b20) (Own.ne_app (g1 := g19) (Own.ne_app (g1 := g18) (fun r hr => Nat.ne_of_lt (Nat.lt_of_lt_of_le (ltM r hr) b20)) n18_20) n19_20) (Own.any r20)
        replace hS : Own w [(w.heap.size, 32, (· = .agg (vals Lk))), ((w.heap.size + 1), 32, (· = .agg (vals Lu))), ((w.heap.size + 2), 16, (fun _ => True)), ((w.heap.size + 3), 16, (fun _ => True)), (gn, 32, (· = .agg (vals (bytesN V)))), (g7, 16, IsN x1), (g8, 16, IsN p2), (g9, 16, IsN q2), (g10, 16, IsN p3), (g11, 16, IsN q3), (g14, 16, IsW (p2 + q2)), (g15, 16, IsW (p2 - q2)), (g16, 16, IsW (p3 + q3)), (g17, 16, IsW (p3 - q3)), (g18, 16, (fun _ => True)), (g19, 16, (fun _ => True)), (g20, 16, (fun _ => True)), (g21, 16, (fun _ => True))] V5 := hS.add (Nat.le_trans hMB b21) (Own.ne_app (g1 := g20) (Own.ne_app (g1 := g19) (Own.ne_app (g1 := g18) (fun r hr => Nat.ne_of_lt (Nat.lt_of_lt_of_le (ltM r hr) b21)) n18_21) n19_21) n20_21) (Own.any r21)
        obtain ⟨x65, q65, v65⟩ : ∃ x, t1[65]? = some x ∧ (IsN ((p2 + q2) * (p2 + q2))) x := hout 2 (by omega) rfl
        obtain ⟨x68, q68, v68⟩ : ∃ x, t1[68]? = some x ∧ (IsN ((p2 - q2) * (p2 - q2))) x := hout 5 (by omega) rfl
        obtain ⟨x71, q71, v71⟩ : ∃ x, t1[71]? = some x ∧ (IsN ((p3 - q3) * (p2 + q2))) x := hout 8 (by omega) rfl
        obtain ⟨x74, q74, v74⟩ : ∃ x, t1[74]? = some x ∧ (IsN ((p3 + q3) * (p2 - q2))) x := hout 11 (by omega) rfl
        replace h4 := (hold 4 (slots_not (by kernel_rfl))).trans h4
        replace h5 := (hold 5 (slots_not (by kernel_rfl))).trans h5
        replace h6 := (hold 6 (slots_not (by kernel_rfl))).trans h6
        replace h7 := (hold 7 (slots_not (by kernel_rfl))).trans h7
        replace h8 := (hold 8 (slots_not (by kernel_rfl))).trans h8
        replace h9 := (hold 9 (slots_not (by kernel_rfl))).trans h9
        replace h10 := (hold 10 (slots_not (by kernel_rfl))).trans h10
        replace h11 := (hold 11 (slots_not (by kernel_rfl))).trans h11
        replace h12 := (hold 12 (slots_not (by kernel_rfl))).trans h12
        replace h13 := (hold 13 (slots_not (by kernel_rfl))).trans h13
        replace h14 := (hold 14 (slots_not (by kernel_rfl))).trans h14
        replace h15 := (hold 15 (slots_not (by kernel_rfl))).trans h15
        replace h16 := (hold 16 (slots_not (by kernel_rfl))).trans h16
        replace h17 := (hold 17 (slots_not (by kernel_rfl))).trans h17
        clear hold hout hs hall hne
        simp only [List.drop_succ_cons, List.drop_zero]
        refine st_own 16 tNine rfl (.tmp 18) (.tmp 65) rfl rfl _ _ (eval_tmp h18) (eval_tmp q65) (V' := IsN ((p2 + q2) * (p2 + q2))) v65 (fun x hx => isN_row hx) hS 14 rfl fun V5' hS' _ => ?_
        replace hS : Own w [(w.heap.size, 32, (· = .agg (vals Lk))), ((w.heap.size + 1), 32, (· = .agg (vals Lu))), ((w.heap.size + 2), 16, (fun _ => True)), ((w.heap.size + 3), 16, (fun _ => True)), (gn, 32, (· = .agg (vals (bytesN V)))), (g7, 16, IsN x1), (g8, 16, IsN p2), (g9, 16, IsN q2), (g10, 16, IsN p3), (g11, 16, IsN q3), (g14, 16, IsW (p2 + q2)), (g15, 16, IsW (p2 - q2)), (g16, 16, IsW (p3 + q3)), (g17, 16, IsW (p3 - q3)), (g18, 16, IsN ((p2 + q2) * (p2 + q2))), (g19, 16, (fun _ => True)), (g20, 16, (fun _ => True)), (g21, 16, (fun _ => True))] V5' := hS'
        clear hS'
        refine st_own 16 tNine rfl (.tmp 19) (.tmp 68) rfl rfl _ _ (eval_tmp h19) (eval_tmp q68) (V' := IsN ((p2 - q2) * (p2 - q2))) v68 (fun x hx => isN_row hx) hS 15 rfl fun V5'' hS' _ => ?_
        replace hS : Own w [(w.heap.size, 32, (· = .agg (vals Lk))), ((w.heap.size + 1), 32, (· = .agg (vals Lu))), ((w.heap.size + 2), 16, (fun _ => True)), ((w.heap.size + 3), 16, (fun _ => True)), (gn, 32, (· = .agg (vals (bytesN V)))), (g7, 16, IsN x1), (g8, 16, IsN p2), (g9, 16, IsN q2), (g10, 16, IsN p3), (g11, 16, IsN q3), (g14, 16, IsW (p2 + q2)), (g15, 16, IsW (p2 - q2)), (g16, 16, IsW (p3 + q3)), (g17, 16, IsW (p3 - q3)), (g18, 16, IsN ((p2 + q2) * (p2 + q2))), (g19, 16, IsN ((p2 - q2) * (p2 - q2))), (g20, 16, (fun _ => True)), (g21, 16, (fun _ => True))] V5'' := hS'
        clear hS'
        refine st_own 16 tNine rfl (.tmp 20) (.tmp 71) rfl rfl _ _ (eval_tmp h20) (eval_tmp q71) (V' := IsN ((p3 - q3) * (p2 + q2))) v71 (fun x hx => isN_row hx) hS 16 rfl fun V5''' hS' _ => ?_
        replace hS : Own w [(w.heap.size, 32, (· = .agg (vals Lk))), ((w.heap.size + 1), 32, (· = .agg (vals Lu))), ((w.heap.size + 2), 16, (fun _ => True)), ((w.heap.size + 3), 16, (fun _ => True)), (gn, 32, (· = .agg (vals (bytesN V)))), (g7, 16, IsN x1), (g8, 16, IsN p2), (g9, 16, IsN q2), (g10, 16, IsN p3), (g11, 16, IsN q3), (g14, 16, IsW (p2 + q2)), (g15, 16, IsW (p2 - q2)), (g16, 16, IsW (p3 + q3)), (g17, 16, IsW (p3 - q3)), (g18, 16, IsN ((p2 + q2) * (p2 + q2))), (g19, 16, IsN ((p2 - q2) * (p2 - q2))), (g20, 16, IsN ((p3 - q3) * (p2 + q2))), (g21, 16, (fun _ => True))] V5''' := hS'
        clear hS'
        refine st_own 16 tNine rfl (.tmp 21) (.tmp 74) rfl rfl _ _ (eval_tmp h21) (eval_tmp q74) (V' := IsN ((p3 + q3) * (p2 - q2))) v74 (fun x hx => isN_row hx) hS 17 rfl fun V5'''' hS' _ => ?_
        replace hS : Own w [(w.heap.size, 32, (· = .agg (vals Lk))), ((w.heap.size + 1), 32, (· = .agg (vals Lu))), ((w.heap.size + 2), 16, (fun _ => True)), ((w.heap.size + 3), 16, (fun _ => True)), (gn, 32, (· = .agg (vals (bytesN V)))), (g7, 16, IsN x1), (g8, 16, IsN p2), (g9, 16, IsN q2), (g10, 16, IsN p3), (g11, 16, IsN q3), (g14, 16, IsW (p2 + q2)), (g15, 16, IsW (p2 - q2)), (g16, 16, IsW (p3 + q3)), (g17, 16, IsW (p3 - q3)), (g18, 16, IsN ((p2 + q2) * (p2 + q2))), (g19, 16, IsN ((p2 - q2) * (p2 - q2))), (g20, 16, IsN ((p3 - q3) * (p2 + q2))), (g21, 16, IsN ((p3 + q3) * (p2 - q2)))] V5'''' := hS'
        clear hS'
        refine wpList_nil ?_
        have g18 : t1.getD 18 undef = .pointer (some ⟨g18, 0, none⟩) := by rw [Array.getD_eq_getD_getElem?, h18]; rfl
        have g19 : t1.getD 19 undef = .pointer (some ⟨g19, 0, none⟩) := by rw [Array.getD_eq_getD_getElem?, h19]; rfl
        have g20 : t1.getD 20 undef = .pointer (some ⟨g20, 0, none⟩) := by rw [Array.getD_eq_getD_getElem?, h20]; rfl
        have g21 : t1.getD 21 undef = .pointer (some ⟨g21, 0, none⟩) := by rw [Array.getD_eq_getD_getElem?, h21]; rfl
        rw [ef, HT]
        clear ef
        simp only [fillA, if_true, List.getD_cons_zero, List.getD_cons_succ, List.setIfInBounds_toArray, List.set_cons_zero, List.set_cons_succ, g18, g19, g20, g21]
        generalize t1.getD 63 undef = z63
        generalize t1.getD 64 undef = z64
        generalize t1.getD 65 undef = z65
        generalize t1.getD 66 undef = z66
        generalize t1.getD 67 undef = z67
        generalize t1.getD 68 undef = z68
        generalize t1.getD 69 undef = z69
        generalize t1.getD 70 undef = z70
        generalize t1.getD 71 undef = z71
        generalize t1.getD 72 undef = z72
        generalize t1.getD 73 undef = z73
        generalize t1.getD 74 undef = z74
        clear g18 g19 g20 g21 HT
        clear h4 h5 h6 h7 h8 h9 h10 h11 h12 h13 h14 h15 h16 h17 h18 h19 h20 h21 q65 q68 q71 q74 v65 v68 v71 v74 b18 b19 b20 b21 r18 r19 r20 r21 n18_19 n18_20 n18_21 n19_20 n19_21 n20_21 ltM hMB hM HS t1 t0 M
        go_wp2_with ((with_reducible refine guard_list ?_); first | (refine held_load 26 _ rfl ?_) | (refine held_load 22 _ rfl ?_) | (refine held_load 68 _ rfl ?_) | (refine held_load 131 _ rfl ?_))
        obtain ⟨M, hM⟩ : ∃ M, M = V5''''.heap.size := ⟨_, rfl⟩
        have hMB : w.heap.size ≤ M := hM ▸ hS.1.size
        have ltM := hS.lt
        rw [← hM] at ltM
        refine hide_held fun t0 HT => ?_
        have HS : t0.size = 110 := by rw [HT]; rfl
        have h4 : t0[4]? = some (.pointer (some ⟨(w.heap.size + 2), 0, none⟩)) := by rw [HT]; rfl
        have h5 : t0[5]? = some (.pointer (some ⟨(w.heap.size + 3), 0, none⟩)) := by rw [HT]; rfl
        have h6 : t0[6]? = some (.pointer (some ⟨gn, 0, none⟩)) := by rw [HT]; rfl
        have h7 : t0[7]? = some (.pointer (some ⟨g7, 0, none⟩)) := by rw [HT]; rfl
        have h8 : t0[8]? = some (.pointer (some ⟨g8, 0, none⟩)) := by rw [HT]; rfl
        have h9 : t0[9]? = some (.pointer (some ⟨g9, 0, none⟩)) := by rw [HT]; rfl
        have h10 : t0[10]? = some (.pointer (some ⟨g10, 0, none⟩)) := by rw [HT]; rfl
        have h11 : t0[11]? = some (.pointer (some ⟨g11, 0, none⟩)) := by rw [HT]; rfl
        have h12 : t0[12]? = some (.int .i64 (j : Int)) := by rw [HT]; rfl
        have h13 : t0[13]? = some (.int .u8 0) := by rw [HT]; rfl
        have h14 : t0[14]? = some (.pointer (some ⟨g14, 0, none⟩)) := by rw [HT]; rfl
        have h15 : t0[15]? = some (.pointer (some ⟨g15, 0, none⟩)) := by rw [HT]; rfl
        have h16 : t0[16]? = some (.pointer (some ⟨g16, 0, none⟩)) := by rw [HT]; rfl
        have h17 : t0[17]? = some (.pointer (some ⟨g17, 0, none⟩)) := by rw [HT]; rfl
        have h18 : t0[18]? = some (.pointer (some ⟨g18, 0, none⟩)) := by rw [HT]; rfl
        have h19 : t0[19]? = some (.pointer (some ⟨g19, 0, none⟩)) := by rw [HT]; rfl
        have h20 : t0[20]? = some (.pointer (some ⟨g20, 0, none⟩)) := by rw [HT]; rfl
        have h21 : t0[21]? = some (.pointer (some ⟨g21, 0, none⟩)) := by rw [HT]; rfl
        refine wp_list_most 4 (fun i => [75, 76, 77, 22].getD i 0) (fun i => [none, none, none, some 16].getD i none) (fun i => [IsN ((p2 + q2) * (p2 + q2)), IsN ((p2 - q2) * (p2 - q2)), IsW (((p2 + q2) * (p2 + q2)) - ((p2 - q2) * (p2 - q2))), (fun _ => True)].getD i (fun _ => True)) (fun w' => Own w [(w.heap.size, 32, (· = .agg (vals Lk))), ((w.heap.size + 1), 32, (· = .agg (vals Lu))), ((w.heap.size + 2), 16, (fun _ => True)), ((w.heap.size + 3), 16, (fun _ => True)), (gn, 32, (· = .agg (vals (bytesN V)))), (g7, 16, IsN x1), (g8, 16, IsN p2), (g9, 16, IsN q2), (g10, 16, IsN p3), (g11, 16, IsN q3), (g14, 16, IsW (p2 + q2)), (g15, 16, IsW (p2 - q2)), (g16, 16, IsW (p3 + q3)), (g17, 16, IsW (p3 - q3)), (g18, 16, IsN ((p2 + q2) * (p2 + q2))), (g19, 16, IsN ((p2 - q2) * (p2 - q2))), (g20, 16, IsN ((p3 - q3) * (p2 + q2))), (g21, 16, IsN ((p3 + q3) * (p2 - q2)))] w' ∧ M ≤ w'.heap.size) M
          (by kernel_rfl) (slots_apart (by kernel_rfl)) (slots_lie (by rw [HS]; kernel_rfl)) ⟨hS, Nat.le_of_eq hM⟩ (fun w' h => h.2) (fun w1 w2 h b => ⟨h.1.keep b, Nat.le_trans h.2 b.size⟩) ?_ ?_ ?_
        · clear hS
          intro i o hi ho hA
          have hc : i = 0 ∨ i = 1 ∨ i = 2 ∨ i = 3 := by omega
          rcases hc with rfl | rfl | rfl | rfl
          · obtain rfl := Option.some.inj ho
            refine ⟨rfl, fun a w' hS hold hin K hK => ?_⟩
            refine if_always rfl ?_
            exact op_ld_own 16 tNine (.tmp 18) rfl rfl _ (eval_tmp ((hold 18 (slots_not (by kernel_rfl))).trans h18)) hS.1 14 rfl hK
          · obtain rfl := Option.some.inj ho
            refine ⟨rfl, fun a w' hS hold hin K hK => ?_⟩
            refine if_always rfl ?_
            exact op_ld_own 16 tNine (.tmp 19) rfl rfl _ (eval_tmp ((hold 19 (slots_not (by kernel_rfl))).trans h19)) hS.1 15 rfl hK
          · obtain rfl := Option.some.inj ho
            refine ⟨rfl, fun a w' hS hold hin K hK => ?_⟩
            obtain ⟨y0, x0, (v0 : IsN ((p2 + q2) * (p2 + q2)) y0)⟩ := hin 0 rfl (by omega) rfl
            obtain ⟨y1, x1, (v1 : IsN ((p2 - q2) * (p2 - q2)) y1)⟩ := hin 1 rfl (by omega) rfl
            refine if_always rfl ?_
            exact op_fn2 _ _ _ _ _ _ rfl rfl (eval_tmp x0) (eval_tmp x1) (by intro args w; kernel_rfl) (minus9_ev v0 v1 _) hK
          · cases hA
        · intro i o sz hi ho hA
          have hc : i = 0 ∨ i = 1 ∨ i = 2 ∨ i = 3 := by omega
          rcases hc with rfl | rfl | rfl | rfl
          · cases hA
          · cases hA
          · cases hA
          · obtain rfl := Option.some.inj ho
            obtain rfl := Option.some.inj hA
            exact ⟨rfl, rfl, 131, #[.int .i64 0, .int .i64 0, .int .i64 0, .int .i64 0, .int .i64 0, .int .i64 0, .int .i64 0, .int .i64 0, .int .i64 0, .int .i64 0, .int .i64 0, .int .i64 0, .int .i64 0, .int .i64 0, .int .i64 0, .int .i64 0], rfl, fun a w' K h => wp_new 131 #[.int .i64 0, .int .i64 0, .int .i64 0, .int .i64 0, .int .i64 0, .int .i64 0, .int .i64 0, .int .i64 0, .int .i64 0, .int .i64 0, .int .i64 0, .int .i64 0, .int .i64 0, .int .i64 0, .int .i64 0, .int .i64 0] (fun w => by kernel_rfl) h⟩
        clear hS
        intro t1 V6 hs hold hout hall hne hS
        have ef := frame_fill 4 (fun i => [75, 76, 77, 22].getD i 0) hs hold (slots_apart (by kernel_rfl)) (slots_lie (by rw [HS]; kernel_rfl))
        replace HS := hs.trans HS
        replace hS := hS.1
        obtain ⟨g22, h22, b22, r22⟩ : ∃ g, t1[22]? = some (.pointer (some ⟨g, 0, none⟩)) ∧ M ≤ g ∧ ∃ cs ty, V6.heap[g]? = some (.cells cs ty (0, 0)) ∧ cs.size = 16 := by
          obtain ⟨g, p1, p2, ty, cs, p3, p4⟩ := hall 3 (by omega) 16 rfl
          exact ⟨g, p1, p2, cs, ty, p3, p4⟩
        replace hS : Own w [(w.heap.size, 32, (· = .agg (vals Lk))), ((w.heap.size + 1), 32, (· = .agg (vals Lu))), ((w.heap.size + 2), 16, (fun _ => True)), ((w.heap.size + 3), 16, (fun _ => True)), (gn, 32, (· = .agg (vals (bytesN V)))), (g7, 16, IsN x1), (g8, 16, IsN p2), (g9, 16, IsN q2), (g10, 16, IsN p3), (g11, 16, IsN q3), (g14, 16, IsW (p2 + q2)), (g15, 16, IsW (p2 - q2)), (g16, 16, IsW (p3 + q3)), (g17, 16, IsW (p3 - q3)), (g18, 16, IsN ((p2 + q2) * (p2 + q2))), (g19, 16, IsN ((p2 - q2) * (p2 - q2))), (g20, 16, IsN ((p3 - q3) * (p2 + q2))), (g21, 16, IsN ((p3 + q3) * (p2 - q2))), (g22, 16, (fun _ => True))] V6 := hS.add (Nat.le_trans hMB b22) (fun r hr => Nat.ne_of_lt (Nat.lt_of_lt_of_le (ltM r hr) b22)) (Own.any r22)
        obtain ⟨x77, q77, v77⟩ : ∃ x, t1[77]? = some x ∧ (IsW (((p2 + q2) * (p2 + q2)) - ((p2 - q2) * (p2 - q2)))) x := hout 2 (by omega) rfl
        replace h4 := (hold 4 (slots_not (by kernel_rfl))).trans h4
        replace h5 := (hold 5 (slots_not (by kernel_rfl))).trans h5
        replace h6 := (hold 6 (slots_not (by kernel_rfl))).trans h6
        replace h7 := (hold 7 (slots_not (by kernel_rfl))).trans h7
        replace h8 := (hold 8 (slots_not (by kernel_rfl))).trans h8
        replace h9 := (hold 9 (slots_not (by kernel_rfl))).trans h9
        replace h10 := (hold 10 (slots_not (by kernel_rfl))).trans h10
        replace h11 := (hold 11 (slots_not (by kernel_rfl))).trans h11
        replace h12 := (hold 12 (slots_not (by kernel_rfl))).trans h12
        replace h13 := (hold 13 (slots_not (by kernel_rfl))).trans h13
        replace h14 := (hold 14 (slots_not (by kernel_rfl))).trans h14
        replace h15 := (hold 15 (slots_not (by kernel_rfl))).trans h15
        replace h16 := (hold 16 (slots_not (by kernel_rfl))).trans h16
        replace h17 := (hold 17 (slots_not (by kernel_rfl))).trans h17
        replace h18 := (hold 18 (slots_not (by kernel_rfl))).trans h18
        replace h19 := (hold 19 (slots_not (by kernel_rfl))).trans h19
        replace h20 := (hold 20 (slots_not (by kernel_rfl))).trans h20
        replace h21 := (hold 21 (slots_not (by kernel_rfl))).trans h21
        clear hold hout hs hall hne
        simp only [List.drop_succ_cons, List.drop_zero]
        refine st_own 16 tNine rfl (.tmp 22) (.tmp 77) rfl rfl _ _ (eval_tmp h22) (eval_tmp q77) (V' := IsW (((p2 + q2) * (p2 + q2)) - ((p2 - q2) * (p2 - q2)))) v77 (fun x hx => isW_row hx) hS 18 rfl fun V6' hS' _ => ?_
        replace hS : Own w [(w.heap.size, 32, (· = .agg (vals Lk))), ((w.heap.size + 1), 32, (· = .agg (vals Lu))), ((w.heap.size + 2), 16, (fun _ => True)), ((w.heap.size + 3), 16, (fun _ => True)), (gn, 32, (· = .agg (vals (bytesN V)))), (g7, 16, IsN x1), (g8, 16, IsN p2), (g9, 16, IsN q2), (g10, 16, IsN p3), (g11, 16, IsN q3), (g14, 16, IsW (p2 + q2)), (g15, 16, IsW (p2 - q2)), (g16, 16, IsW (p3 + q3)), (g17, 16, IsW (p3 - q3)), (g18, 16, IsN ((p2 + q2) * (p2 + q2))), (g19, 16, IsN ((p2 - q2) * (p2 - q2))), (g20, 16, IsN ((p3 - q3) * (p2 + q2))), (g21, 16, IsN ((p3 + q3) * (p2 - q2))), (g22, 16, IsW (((p2 + q2) * (p2 + q2)) - ((p2 - q2) * (p2 - q2))))] V6' := hS'
        clear hS'
        refine wpList_nil ?_
        have g22 : t1.getD 22 undef = .pointer (some ⟨g22, 0, none⟩) := by rw [Array.getD_eq_getD_getElem?, h22]; rfl
        rw [ef, HT]
        clear ef
        simp only [fillA, if_true, List.getD_cons_zero, List.getD_cons_succ, List.setIfInBounds_toArray, List.set_cons_zero, List.set_cons_succ, g22]
        generalize t1.getD 75 undef = z75
        generalize t1.getD 76 undef = z76
        generalize t1.getD 77 undef = z77
        clear g22 HT
        clear h4 h5 h6 h7 h8 h9 h10 h11 h12 h13 h14 h15 h16 h17 h18 h19 h20 h21 h22 q77 v77 b22 r22 ltM hMB hM HS t1 t0 M
        go_wp2_with fail
        obtain ⟨M, hM⟩ : ∃ M, M = V6'.heap.size := ⟨_, rfl⟩
        have hMB : w.heap.size ≤ M := hM ▸ hS.1.size
        have ltM := hS.lt
        rw [← hM] at ltM
        refine hide_frame fun t0 HT => ?_
        have HS : t0.size = 110 := by rw [HT]; rfl
        have h4 : t0[4]? = some (.pointer (some ⟨(w.heap.size + 2), 0, none⟩)) := by rw [HT]; rfl
        have h5 : t0[5]? = some (.pointer (some ⟨(w.heap.size + 3), 0, none⟩)) := by rw [HT]; rfl
        have h6 : t0[6]? = some (.pointer (some ⟨gn, 0, none⟩)) := by rw [HT]; rfl
        have h7 : t0[7]? = some (.pointer (some ⟨g7, 0, none⟩)) := by rw [HT]; rfl
        have h8 : t0[8]? = some (.pointer (some ⟨g8, 0, none⟩)) := by rw [HT]; rfl
        have h9 : t0[9]? = some (.pointer (some ⟨g9, 0, none⟩)) := by rw [HT]; rfl
        have h10 : t0[10]? = some (.pointer (some ⟨g10, 0, none⟩)) := by rw [HT]; rfl
        have h11 : t0[11]? = some (.pointer (some ⟨g11, 0, none⟩)) := by rw [HT]; rfl
        have h12 : t0[12]? = some (.int .i64 (j : Int)) := by rw [HT]; rfl
        have h13 : t0[13]? = some (.int .u8 0) := by rw [HT]; rfl
        have h14 : t0[14]? = some (.pointer (some ⟨g14, 0, none⟩)) := by rw [HT]; rfl
        have h15 : t0[15]? = some (.pointer (some ⟨g15, 0, none⟩)) := by rw [HT]; rfl
        have h16 : t0[16]? = some (.pointer (some ⟨g16, 0, none⟩)) := by rw [HT]; rfl
        have h17 : t0[17]? = some (.pointer (some ⟨g17, 0, none⟩)) := by rw [HT]; rfl
        have h18 : t0[18]? = some (.pointer (some ⟨g18, 0, none⟩)) := by rw [HT]; rfl
        have h19 : t0[19]? = some (.pointer (some ⟨g19, 0, none⟩)) := by rw [HT]; rfl
        have h20 : t0[20]? = some (.pointer (some ⟨g20, 0, none⟩)) := by rw [HT]; rfl
        have h21 : t0[21]? = some (.pointer (some ⟨g21, 0, none⟩)) := by rw [HT]; rfl
        have h22 : t0[22]? = some (.pointer (some ⟨g22, 0, none⟩)) := by rw [HT]; rfl
        refine wp_region_most 8 (fun i => [78, 79, 80, 81, 82, 83, 23, 24].getD i 0) (fun i => [none, none, none, none, none, none, some 16, some 16].getD i none) (fun i => [IsN ((p3 - q3) * (p2 + q2)), IsN ((p3 + q3) * (p2 - q2)), IsW (((p3 - q3) * (p2 + q2)) + ((p3 + q3) * (p2 - q2))), IsN ((p3 - q3) * (p2 + q2)), IsN ((p3 + q3) * (p2 - q2)), IsW (((p3 - q3) * (p2 + q2)) - ((p3 + q3) * (p2 - q2))), (fun _ => True), (fun _ => True)].getD i (fun _ => True)) (fun w' => Own w [(w.heap.size, 32, (· = .agg (vals Lk))), ((w.heap.size + 1), 32, (· = .agg (vals Lu))), ((w.heap.size + 2), 16, (fun _ => True)), ((w.heap.size + 3), 16, (fun _ => True)), (gn, 32, (· = .agg (vals (bytesN V)))), (g7, 16, IsN x1), (g8, 16, IsN p2), (g9, 16, IsN q2), (g10, 16, IsN p3), (g11, 16, IsN q3), (g14, 16, IsW (p2 + q2)), (g15, 16, IsW (p2 - q2)), (g16, 16, IsW (p3 + q3)), (g17, 16, IsW (p3 - q3)), (g18, 16, IsN ((p2 + q2) * (p2 + q2))), (g19, 16, IsN ((p2 - q2) * (p2 - q2))), (g20, 16, IsN ((p3 - q3) * (p2 + q2))), (g21, 16, IsN ((p3 + q3) * (p2 - q2))), (g22, 16, IsW (((p2 + q2) * (p2 + q2)) - ((p2 - q2) * (p2 - q2))))] w' ∧ M ≤ w'.heap.size) M
          (by kernel_rfl) (by kernel_rfl) (slots_apart (by kernel_rfl)) (slots_lie (by rw [HS]; kernel_rfl)) ⟨hS.drew, Nat.le_of_eq hM⟩ (fun w' h => h.2) (fun w1 w2 h b => ⟨h.1.keep b, Nat.le_trans h.2 b.size⟩) ?_ ?_ ?_
        · clear hS
          intro i o hi ho hA
          have hc : i = 0 ∨ i = 1 ∨ i = 2 ∨ i = 3 ∨ i = 4 ∨ i = 5 ∨ i = 6 ∨ i = 7 := by omega
          rcases hc with rfl | rfl | rfl | rfl | rfl | rfl | rfl | rfl
          · obtain rfl := Option.some.inj ho
            refine ⟨rfl, fun a w' hS hold hin K hK => ?_⟩
            refine if_always rfl ?_
            exact op_ld_own 16 tNine (.tmp 20) rfl rfl _ (eval_tmp ((hold 20 (slots_not (by kernel_rfl))).trans h20)) hS.1 16 rfl hK
          · obtain rfl := Option.some.inj ho
            refine ⟨rfl, fun a w' hS hold hin K hK => ?_⟩
            refine if_always rfl ?_
            exact op_ld_own 16 tNine (.tmp 21) rfl rfl _ (eval_tmp ((hold 21 (slots_not (by kernel_rfl))).trans h21)) hS.1 17 rfl hK
          · obtain rfl := Option.some.inj ho
            refine ⟨rfl, fun a w' hS hold hin K hK => ?_⟩
            obtain ⟨y0, x0, (v0 : IsN ((p3 - q3) * (p2 + q2)) y0)⟩ := hin 0 rfl (by omega) rfl
            obtain ⟨y1, x1, (v1 : IsN ((p3 + q3) * (p2 - q2)) y1)⟩ := hin 1 rfl (by omega) rfl
            refine if_always rfl ?_
            exact op_fn2 _ _ _ _ _ _ rfl rfl (eval_tmp x0) (eval_tmp x1) (by intro args w; kernel_rfl) (plus9_ev v0 v1 _) hK
          · obtain rfl := Option.some.inj ho
            refine ⟨rfl, fun a w' hS hold hin K hK => ?_⟩
            refine if_always rfl ?_
            exact op_ld_own 16 tNine (.tmp 20) rfl rfl _ (eval_tmp ((hold 20 (slots_not (by kernel_rfl))).trans h20)) hS.1 16 rfl hK
          · obtain rfl := Option.some.inj ho
            refine ⟨rfl, fun a w' hS hold hin K hK => ?_⟩
            refine if_always rfl ?_
            exact op_ld_own 16 tNine (.tmp 21) rfl rfl _ (eval_tmp ((hold 21 (slots_not (by kernel_rfl))).trans h21)) hS.1 17 rfl hK
          · obtain rfl := Option.some.inj ho
            refine ⟨rfl, fun a w' hS hold hin K hK => ?_⟩
            obtain ⟨y3, x3, (v3 : IsN ((p3 - q3) * (p2 + q2)) y3)⟩ := hin 3 rfl (by omega) rfl
            obtain ⟨y4, x4, (v4 : IsN ((p3 + q3) * (p2 - q2)) y4)⟩ := hin 4 rfl (by omega) rfl
            refine if_always rfl ?_
            exact op_fn2 _ _ _ _ _ _ rfl rfl (eval_tmp x3) (eval_tmp x4) (by intro args w; kernel_rfl) (minus9_ev v3 v4 _) hK
          · cases hA
          · cases hA
        · intro i o sz hi ho hA
          have hc : i = 0 ∨ i = 1 ∨ i = 2 ∨ i = 3 ∨ i = 4 ∨ i = 5 ∨ i = 6 ∨ i = 7 := by omega
          rcases hc with rfl | rfl | rfl | rfl | rfl | rfl | rfl | rfl
          · cases hA
          · cases hA
          · cases hA
          · cases hA
          · cases hA
          · cases hA
          · obtain rfl := Option.some.inj ho
            obtain rfl := Option.some.inj hA
            exact ⟨rfl, rfl, 131, #[.int .i64 0, .int .i64 0, .int .i64 0, .int .i64 0, .int .i64 0, .int .i64 0, .int .i64 0, .int .i64 0, .int .i64 0, .int .i64 0, .int .i64 0, .int .i64 0, .int .i64 0, .int .i64 0, .int .i64 0, .int .i64 0], rfl, fun a w' K h => wp_new 131 #[.int .i64 0, .int .i64 0, .int .i64 0, .int .i64 0, .int .i64 0, .int .i64 0, .int .i64 0, .int .i64 0, .int .i64 0, .int .i64 0, .int .i64 0, .int .i64 0, .int .i64 0, .int .i64 0, .int .i64 0, .int .i64 0] (fun w => by kernel_rfl) h⟩
          · obtain rfl := Option.some.inj ho
            obtain rfl := Option.some.inj hA
            exact ⟨rfl, rfl, 131, #[.int .i64 0, .int .i64 0, .int .i64 0, .int .i64 0, .int .i64 0, .int .i64 0, .int .i64 0, .int .i64 0, .int .i64 0, .int .i64 0, .int .i64 0, .int .i64 0, .int .i64 0, .int .i64 0, .int .i64 0, .int .i64 0], rfl, fun a w' K h => wp_new 131 #[.int .i64 0, .int .i64 0, .int .i64 0, .int .i64 0, .int .i64 0, .int .i64 0, .int .i64 0, .int .i64 0, .int .i64 0, .int .i64 0, .int .i64 0, .int .i64 0, .int .i64 0, .int .i64 0, .int .i64 0, .int .i64 0] (fun w => by kernel_rfl) h⟩
        clear hS
        intro t1 V7 hs hold hout hall hne hS
        have ef := frame_fill 8 (fun i => [78, 79, 80, 81, 82, 83, 23, 24].getD i 0) hs hold (slots_apart (by kernel_rfl)) (slots_lie (by rw [HS]; kernel_rfl))
        replace HS := hs.trans HS
        replace hS := hS.1
        obtain ⟨g23, h23, b23, r23⟩ : ∃ g, t1[23]? = some (.pointer (some ⟨g, 0, none⟩)) ∧ M ≤ g ∧ ∃ cs ty, V7.heap[g]? = some (.cells cs ty (0, 0)) ∧ cs.size = 16 := by
          obtain ⟨g, p1, p2, ty, cs, p3, p4⟩ := hall 6 (by omega) 16 rfl
          exact ⟨g, p1, p2, cs, ty, p3, p4⟩
        obtain ⟨g24, h24, b24, r24⟩ : ∃ g, t1[24]? = some (.pointer (some ⟨g, 0, none⟩)) ∧ M ≤ g ∧ ∃ cs ty, V7.heap[g]? = some (.cells cs ty (0, 0)) ∧ cs.size = 16 := by
          obtain ⟨g, p1, p2, ty, cs, p3, p4⟩ := hall 7 (by omega) 16 rfl
          exact ⟨g, p1, p2, cs, ty, p3, p4⟩
        have n23_24 : g23 ≠ g24 := fun h => hne 6 7 (by omega) (by omega) (by omega) rfl rfl (show t1[23]? = t1[24]? by rw [h23, h24, h])
        replace hS : Own w [(w.heap.size, 32, (· = .agg (vals Lk))), ((w.heap.size + 1), 32, (· = .agg (vals Lu))), ((w.heap.size + 2), 16, (fun _ => True)), ((w.heap.size + 3), 16, (fun _ => True)), (gn, 32, (· = .agg (vals (bytesN V)))), (g7, 16, IsN x1), (g8, 16, IsN p2), (g9, 16, IsN q2), (g10, 16, IsN p3), (g11, 16, IsN q3), (g14, 16, IsW (p2 + q2)), (g15, 16, IsW (p2 - q2)), (g16, 16, IsW (p3 + q3)), (g17, 16, IsW (p3 - q3)), (g18, 16, IsN ((p2 + q2) * (p2 + q2))), (g19, 16, IsN ((p2 - q2) * (p2 - q2))), (g20, 16, IsN ((p3 - q3) * (p2 + q2))), (g21, 16, IsN ((p3 + q3) * (p2 - q2))), (g22, 16, IsW (((p2 + q2) * (p2 + q2)) - ((p2 - q2) * (p2 - q2)))), (g23, 16, (fun _ => True))] V7 := hS.add (Nat.le_trans hMB b23) (fun r hr => Nat.ne_of_lt (Nat.lt_of_lt_of_le (ltM r hr) b23)) (Own.any r23)
        replace hS : Own w [(w.heap.size, 32, (· = .agg (vals Lk))), ((w.heap.size + 1), 32, (· = .agg (vals Lu))), ((w.heap.size + 2), 16, (fun _ => True)), ((w.heap.size + 3), 16, (fun _ => True)), (gn, 32, (· = .agg (vals (bytesN V)))), (g7, 16, IsN x1), (g8, 16, IsN p2), (g9, 16, IsN q2), (g10, 16, IsN p3), (g11, 16, IsN q3), (g14, 16, IsW (p2 + q2)), (g15, 16, IsW (p2 - q2)), (g16, 16, IsW (p3 + q3)), (g17, 16, IsW (p3 - q3)), (g18, 16, IsN ((p2 + q2) * (p2 + q2))), (g19, 16, IsN ((p2 - q2) * (p2 - q2))), (g20, 16, IsN ((p3 - q3) * (p2 + q2))), (g21, 16, IsN ((p3 + q3) * (p2 - q2))), (g22, 16, IsW (((p2 + q2) * (p2 + q2)) - ((p2 - q2) * (p2 - q2)))), (g23, 16, (fun _ => True)), (g24, 16, (fun _ => True))] V7 := hS.add (Nat.le_trans hMB b24) (Own.ne_app (g1 := g23) (fun r hr => Nat.ne_of_lt (Nat.lt_of_lt_of_le (ltM r hr) b24)) n23_24) (Own.any r24)
        obtain ⟨x80, q80, v80⟩ : ∃ x, t1[80]? = some x ∧ (IsW (((p3 - q3) * (p2 + q2)) + ((p3 + q3) * (p2 - q2)))) x := hout 2 (by omega) rfl
        obtain ⟨x83, q83, v83⟩ : ∃ x, t1[83]? = some x ∧ (IsW (((p3 - q3) * (p2 + q2)) - ((p3 + q3) * (p2 - q2)))) x := hout 5 (by omega) rfl
        replace h4 := (hold 4 (slots_not (by kernel_rfl))).trans h4
        replace h5 := (hold 5 (slots_not (by kernel_rfl))).trans h5
        replace h6 := (hold 6 (slots_not (by kernel_rfl))).trans h6
        replace h7 := (hold 7 (slots_not (by kernel_rfl))).trans h7
        replace h8 := (hold 8 (slots_not (by kernel_rfl))).trans h8
        replace h9 := (hold 9 (slots_not (by kernel_rfl))).trans h9
        replace h10 := (hold 10 (slots_not (by kernel_rfl))).trans h10
        replace h11 := (hold 11 (slots_not (by kernel_rfl))).trans h11
        replace h12 := (hold 12 (slots_not (by kernel_rfl))).trans h12
        replace h13 := (hold 13 (slots_not (by kernel_rfl))).trans h13
        replace h14 := (hold 14 (slots_not (by kernel_rfl))).trans h14
        replace h15 := (hold 15 (slots_not (by kernel_rfl))).trans h15
        replace h16 := (hold 16 (slots_not (by kernel_rfl))).trans h16
        replace h17 := (hold 17 (slots_not (by kernel_rfl))).trans h17
        replace h18 := (hold 18 (slots_not (by kernel_rfl))).trans h18
        replace h19 := (hold 19 (slots_not (by kernel_rfl))).trans h19
        replace h20 := (hold 20 (slots_not (by kernel_rfl))).trans h20
        replace h21 := (hold 21 (slots_not (by kernel_rfl))).trans h21
        replace h22 := (hold 22 (slots_not (by kernel_rfl))).trans h22
        clear hold hout hs hall hne
        simp only [List.drop_succ_cons, List.drop_zero]
        refine st_own 16 tNine rfl (.tmp 23) (.tmp 80) rfl rfl _ _ (eval_tmp h23) (eval_tmp q80) (V' := IsW (((p3 - q3) * (p2 + q2)) + ((p3 + q3) * (p2 - q2)))) v80 (fun x hx => isW_row hx) hS 19 rfl fun V7' hS' _ => ?_
        replace hS : Own w [(w.heap.size, 32, (· = .agg (vals Lk))), ((w.heap.size + 1), 32, (· = .agg (vals Lu))), ((w.heap.size + 2), 16, (fun _ => True)), ((w.heap.size + 3), 16, (fun _ => True)), (gn, 32, (· = .agg (vals (bytesN V)))), (g7, 16, IsN x1), (g8, 16, IsN p2), (g9, 16, IsN q2), (g10, 16, IsN p3), (g11, 16, IsN q3), (g14, 16, IsW (p2 + q2)), (g15, 16, IsW (p2 - q2)), (g16, 16, IsW (p3 + q3)), (g17, 16, IsW (p3 - q3)), (g18, 16, IsN ((p2 + q2) * (p2 + q2))), (g19, 16, IsN ((p2 - q2) * (p2 - q2))), (g20, 16, IsN ((p3 - q3) * (p2 + q2))), (g21, 16, IsN ((p3 + q3) * (p2 - q2))), (g22, 16, IsW (((p2 + q2) * (p2 + q2)) - ((p2 - q2) * (p2 - q2)))), (g23, 16, IsW (((p3 - q3) * (p2 + q2)) + ((p3 + q3) * (p2 - q2)))), (g24, 16, (fun _ => True))] V7' := hS'
        clear hS'
        refine st_own 16 tNine rfl (.tmp 24) (.tmp 83) rfl rfl _ _ (eval_tmp h24) (eval_tmp q83) (V' := IsW (((p3 - q3) * (p2 + q2)) - ((p3 + q3) * (p2 - q2)))) v83 (fun x hx => isW_row hx) hS 20 rfl fun V7'' hS' _ => ?_
        replace hS : Own w [(w.heap.size, 32, (· = .agg (vals Lk))), ((w.heap.size + 1), 32, (· = .agg (vals Lu))), ((w.heap.size + 2), 16, (fun _ => True)), ((w.heap.size + 3), 16, (fun _ => True)), (gn, 32, (· = .agg (vals (bytesN V)))), (g7, 16, IsN x1), (g8, 16, IsN p2), (g9, 16, IsN q2), (g10, 16, IsN p3), (g11, 16, IsN q3), (g14, 16, IsW (p2 + q2)), (g15, 16, IsW (p2 - q2)), (g16, 16, IsW (p3 + q3)), (g17, 16, IsW (p3 - q3)), (g18, 16, IsN ((p2 + q2) * (p2 + q2))), (g19, 16, IsN ((p2 - q2) * (p2 - q2))), (g20, 16, IsN ((p3 - q3) * (p2 + q2))), (g21, 16, IsN ((p3 + q3) * (p2 - q2))), (g22, 16, IsW (((p2 + q2) * (p2 + q2)) - ((p2 - q2) * (p2 - q2)))), (g23, 16, IsW (((p3 - q3) * (p2 + q2)) + ((p3 + q3) * (p2 - q2)))), (g24, 16, IsW (((p3 - q3) * (p2 + q2)) - ((p3 + q3) * (p2 - q2))))] V7'' := hS'
        clear hS'
        refine wpList_nil ?_
        have g23 : t1.getD 23 undef = .pointer (some ⟨g23, 0, none⟩) := by rw [Array.getD_eq_getD_getElem?, h23]; rfl
        have g24 : t1.getD 24 undef = .pointer (some ⟨g24, 0, none⟩) := by rw [Array.getD_eq_getD_getElem?, h24]; rfl
        rw [ef, HT]
        clear ef
        simp only [fillA, if_true, List.getD_cons_zero, List.getD_cons_succ, List.setIfInBounds_toArray, List.set_cons_zero, List.set_cons_succ, g23, g24]
        generalize t1.getD 78 undef = z78
        generalize t1.getD 79 undef = z79
        generalize t1.getD 80 undef = z80
        generalize t1.getD 81 undef = z81
        generalize t1.getD 82 undef = z82
        generalize t1.getD 83 undef = z83
        clear g23 g24 HT
        clear h4 h5 h6 h7 h8 h9 h10 h11 h12 h13 h14 h15 h16 h17 h18 h19 h20 h21 h22 h23 h24 q80 q83 v80 v83 b23 b24 r23 r24 n23_24 ltM hMB hM HS t1 t0 M
        go_wp2_with ((with_reducible refine guard_list ?_); first | (refine held_load 26 _ rfl ?_) | (refine held_load 22 _ rfl ?_) | (refine held_load 68 _ rfl ?_) | (refine held_load 131 _ rfl ?_))
        obtain ⟨M, hM⟩ : ∃ M, M = V7''.heap.size := ⟨_, rfl⟩
        refine hide_held fun t0 HT => ?_
        have HS : t0.size = 110 := by rw [HT]; rfl
        have h4 : t0[4]? = some (.pointer (some ⟨(w.heap.size + 2), 0, none⟩)) := by rw [HT]; rfl
        have h5 : t0[5]? = some (.pointer (some ⟨(w.heap.size + 3), 0, none⟩)) := by rw [HT]; rfl
        have h6 : t0[6]? = some (.pointer (some ⟨gn, 0, none⟩)) := by rw [HT]; rfl
        have h7 : t0[7]? = some (.pointer (some ⟨g7, 0, none⟩)) := by rw [HT]; rfl
        have h8 : t0[8]? = some (.pointer (some ⟨g8, 0, none⟩)) := by rw [HT]; rfl
        have h9 : t0[9]? = some (.pointer (some ⟨g9, 0, none⟩)) := by rw [HT]; rfl
        have h10 : t0[10]? = some (.pointer (some ⟨g10, 0, none⟩)) := by rw [HT]; rfl
        have h11 : t0[11]? = some (.pointer (some ⟨g11, 0, none⟩)) := by rw [HT]; rfl
        have h12 : t0[12]? = some (.int .i64 (j : Int)) := by rw [HT]; rfl
        have h13 : t0[13]? = some (.int .u8 0) := by rw [HT]; rfl
        have h14 : t0[14]? = some (.pointer (some ⟨g14, 0, none⟩)) := by rw [HT]; rfl
        have h15 : t0[15]? = some (.pointer (some ⟨g15, 0, none⟩)) := by rw [HT]; rfl
        have h16 : t0[16]? = some (.pointer (some ⟨g16, 0, none⟩)) := by rw [HT]; rfl
        have h17 : t0[17]? = some (.pointer (some ⟨g17, 0, none⟩)) := by rw [HT]; rfl
        have h18 : t0[18]? = some (.pointer (some ⟨g18, 0, none⟩)) := by rw [HT]; rfl
        have h19 : t0[19]? = some (.pointer (some ⟨g19, 0, none⟩)) := by rw [HT]; rfl
        have h20 : t0[20]? = some (.pointer (some ⟨g20, 0, none⟩)) := by rw [HT]; rfl
        have h21 : t0[21]? = some (.pointer (some ⟨g21, 0, none⟩)) := by rw [HT]; rfl
        have h22 : t0[22]? = some (.pointer (some ⟨g22, 0, none⟩)) := by rw [HT]; rfl
        have h23 : t0[23]? = some (.pointer (some ⟨g23, 0, none⟩)) := by rw [HT]; rfl
        have h24 : t0[24]? = some (.pointer (some ⟨g24, 0, none⟩)) := by rw [HT]; rfl
        refine wp_list_most 3 (fun i => [84, 85, 86].getD i 0) (fun _ => none) (fun i => [IsW (((p3 - q3) * (p2 + q2)) + ((p3 + q3) * (p2 - q2))), IsW (((p3 - q3) * (p2 + q2)) + ((p3 + q3) * (p2 - q2))), IsN ((((p3 - q3) * (p2 + q2)) + ((p3 + q3) * (p2 - q2))) * (((p3 - q3) * (p2 + q2)) + ((p3 + q3) * (p2 - q2))))].getD i (fun _ => True)) (fun w' => Own w [(w.heap.size, 32, (· = .agg (vals Lk))), ((w.heap.size + 1), 32, (· = .agg (vals Lu))), ((w.heap.size + 2), 16, (fun _ => True)), ((w.heap.size + 3), 16, (fun _ => True)), (gn, 32, (· = .agg (vals (bytesN V)))), (g7, 16, IsN x1), (g8, 16, IsN p2), (g9, 16, IsN q2), (g10, 16, IsN p3), (g11, 16, IsN q3), (g14, 16, IsW (p2 + q2)), (g15, 16, IsW (p2 - q2)), (g16, 16, IsW (p3 + q3)), (g17, 16, IsW (p3 - q3)), (g18, 16, IsN ((p2 + q2) * (p2 + q2))), (g19, 16, IsN ((p2 - q2) * (p2 - q2))), (g20, 16, IsN ((p3 - q3) * (p2 + q2))), (g21, 16, IsN ((p3 + q3) * (p2 - q2))), (g22, 16, IsW (((p2 + q2) * (p2 + q2)) - ((p2 - q2) * (p2 - q2)))), (g23, 16, IsW (((p3 - q3) * (p2 + q2)) + ((p3 + q3) * (p2 - q2)))), (g24, 16, IsW (((p3 - q3) * (p2 + q2)) - ((p3 + q3) * (p2 - q2))))] w' ∧ M ≤ w'.heap.size) M
          (by kernel_rfl) (slots_apart (by kernel_rfl)) (slots_lie (by rw [HS]; kernel_rfl)) ⟨hS, Nat.le_of_eq hM⟩ (fun w' h => h.2) (fun w1 w2 h b => ⟨h.1.keep b, Nat.le_trans h.2 b.size⟩) ?_ ?_ ?_
        · clear hS
          intro i o hi ho hA
          have hc : i = 0 ∨ i = 1 ∨ i = 2 := by omega
          rcases hc with rfl | rfl | rfl
          · obtain rfl := Option.some.inj ho
            refine ⟨rfl, fun a w' hS hold hin K hK => ?_⟩
            refine if_always rfl ?_
            exact op_ld_own 16 tNine (.tmp 23) rfl rfl _ (eval_tmp ((hold 23 (slots_not (by kernel_rfl))).trans h23)) hS.1 19 rfl hK
          · obtain rfl := Option.some.inj ho
            refine ⟨rfl, fun a w' hS hold hin K hK => ?_⟩
            refine if_always rfl ?_
            exact op_ld_own 16 tNine (.tmp 23) rfl rfl _ (eval_tmp ((hold 23 (slots_not (by kernel_rfl))).trans h23)) hS.1 19 rfl hK
          · obtain rfl := Option.some.inj ho
            refine ⟨rfl, fun a w' hS hold hin K hK => ?_⟩
            obtain ⟨y0, x0, (v0 : IsW (((p3 - q3) * (p2 + q2)) + ((p3 + q3) * (p2 - q2))) y0)⟩ := hin 0 rfl (by omega) rfl
            obtain ⟨y1, x1, (v1 : IsW (((p3 - q3) * (p2 + q2)) + ((p3 + q3) * (p2 - q2))) y1)⟩ := hin 1 rfl (by omega) rfl
            refine if_always rfl ?_
            exact op_fn2 _ _ _ _ _ _ rfl rfl (eval_tmp x0) (eval_tmp x1) (by intro args w; kernel_rfl) (times9_ev v0 v1 _) hK
        · intro i o sz hi ho hA; cases hA
        clear hS
        intro t1 V8 hs hold hout hall hne hS
        have ef := frame_fill 3 (fun i => [84, 85, 86].getD i 0) hs hold (slots_apart (by kernel_rfl)) (slots_lie (by rw [HS]; kernel_rfl))
        replace HS := hs.trans HS
        replace hS := hS.1
        obtain ⟨x86, q86, v86⟩ : ∃ x, t1[86]? = some x ∧ (IsN ((((p3 - q3) * (p2 + q2)) + ((p3 + q3) * (p2 - q2))) * (((p3 - q3) * (p2 + q2)) + ((p3 + q3) * (p2 - q2))))) x := hout 2 (by omega) rfl
        replace h4 := (hold 4 (slots_not (by kernel_rfl))).trans h4
        replace h5 := (hold 5 (slots_not (by kernel_rfl))).trans h5
        replace h6 := (hold 6 (slots_not (by kernel_rfl))).trans h6
        replace h7 := (hold 7 (slots_not (by kernel_rfl))).trans h7
        replace h8 := (hold 8 (slots_not (by kernel_rfl))).trans h8
        replace h9 := (hold 9 (slots_not (by kernel_rfl))).trans h9
        replace h10 := (hold 10 (slots_not (by kernel_rfl))).trans h10
        replace h11 := (hold 11 (slots_not (by kernel_rfl))).trans h11
        replace h12 := (hold 12 (slots_not (by kernel_rfl))).trans h12
        replace h13 := (hold 13 (slots_not (by kernel_rfl))).trans h13
        replace h14 := (hold 14 (slots_not (by kernel_rfl))).trans h14
        replace h15 := (hold 15 (slots_not (by kernel_rfl))).trans h15
        replace h16 := (hold 16 (slots_not (by kernel_rfl))).trans h16
        replace h17 := (hold 17 (slots_not (by kernel_rfl))).trans h17
        replace h18 := (hold 18 (slots_not (by kernel_rfl))).trans h18
        replace h19 := (hold 19 (slots_not (by kernel_rfl))).trans h19
        replace h20 := (hold 20 (slots_not (by kernel_rfl))).trans h20
        replace h21 := (hold 21 (slots_not (by kernel_rfl))).trans h21
        replace h22 := (hold 22 (slots_not (by kernel_rfl))).trans h22
        replace h23 := (hold 23 (slots_not (by kernel_rfl))).trans h23
        replace h24 := (hold 24 (slots_not (by kernel_rfl))).trans h24
        clear hold hout hs hall hne
        simp only [List.drop_succ_cons, List.drop_zero]
        refine st_own 16 tNine rfl (.tmp 10) (.tmp 86) rfl rfl _ _ (eval_tmp h10) (eval_tmp q86) (V' := IsN ((((p3 - q3) * (p2 + q2)) + ((p3 + q3) * (p2 - q2))) * (((p3 - q3) * (p2 + q2)) + ((p3 + q3) * (p2 - q2))))) v86 (fun x hx => isN_row hx) hS 8 rfl fun V8' hS' _ => ?_
        replace hS : Own w [(w.heap.size, 32, (· = .agg (vals Lk))), ((w.heap.size + 1), 32, (· = .agg (vals Lu))), ((w.heap.size + 2), 16, (fun _ => True)), ((w.heap.size + 3), 16, (fun _ => True)), (gn, 32, (· = .agg (vals (bytesN V)))), (g7, 16, IsN x1), (g8, 16, IsN p2), (g9, 16, IsN q2), (g10, 16, IsN ((((p3 - q3) * (p2 + q2)) + ((p3 + q3) * (p2 - q2))) * (((p3 - q3) * (p2 + q2)) + ((p3 + q3) * (p2 - q2))))), (g11, 16, IsN q3), (g14, 16, IsW (p2 + q2)), (g15, 16, IsW (p2 - q2)), (g16, 16, IsW (p3 + q3)), (g17, 16, IsW (p3 - q3)), (g18, 16, IsN ((p2 + q2) * (p2 + q2))), (g19, 16, IsN ((p2 - q2) * (p2 - q2))), (g20, 16, IsN ((p3 - q3) * (p2 + q2))), (g21, 16, IsN ((p3 + q3) * (p2 - q2))), (g22, 16, IsW (((p2 + q2) * (p2 + q2)) - ((p2 - q2) * (p2 - q2)))), (g23, 16, IsW (((p3 - q3) * (p2 + q2)) + ((p3 + q3) * (p2 - q2)))), (g24, 16, IsW (((p3 - q3) * (p2 + q2)) - ((p3 + q3) * (p2 - q2))))] V8' := hS'
        clear hS'
        refine wpList_nil ?_
        rw [ef, HT]
        clear ef
        simp only [fillA, if_true, List.getD_cons_zero, List.getD_cons_succ, List.setIfInBounds_toArray, List.set_cons_zero, List.set_cons_succ]
        generalize t1.getD 84 undef = z84
        generalize t1.getD 85 undef = z85
        generalize t1.getD 86 undef = z86
        clear HT
        clear h4 h5 h6 h7 h8 h9 h10 h11 h12 h13 h14 h15 h16 h17 h18 h19 h20 h21 h22 h23 h24 q86 v86 hM HS t1 t0 M
        go_wp2_with fail
        obtain ⟨M, hM⟩ : ∃ M, M = V8'.heap.size := ⟨_, rfl⟩
        refine hide_frame fun t0 HT => ?_
        have HS : t0.size = 110 := by rw [HT]; rfl
        have h4 : t0[4]? = some (.pointer (some ⟨(w.heap.size + 2), 0, none⟩)) := by rw [HT]; rfl
        have h5 : t0[5]? = some (.pointer (some ⟨(w.heap.size + 3), 0, none⟩)) := by rw [HT]; rfl
        have h6 : t0[6]? = some (.pointer (some ⟨gn, 0, none⟩)) := by rw [HT]; rfl
        have h7 : t0[7]? = some (.pointer (some ⟨g7, 0, none⟩)) := by rw [HT]; rfl
        have h8 : t0[8]? = some (.pointer (some ⟨g8, 0, none⟩)) := by rw [HT]; rfl
        have h9 : t0[9]? = some (.pointer (some ⟨g9, 0, none⟩)) := by rw [HT]; rfl
        have h10 : t0[10]? = some (.pointer (some ⟨g10, 0, none⟩)) := by rw [HT]; rfl
        have h11 : t0[11]? = some (.pointer (some ⟨g11, 0, none⟩)) := by rw [HT]; rfl
        have h12 : t0[12]? = some (.int .i64 (j : Int)) := by rw [HT]; rfl
        have h13 : t0[13]? = some (.int .u8 0) := by rw [HT]; rfl
        have h14 : t0[14]? = some (.pointer (some ⟨g14, 0, none⟩)) := by rw [HT]; rfl
        have h15 : t0[15]? = some (.pointer (some ⟨g15, 0, none⟩)) := by rw [HT]; rfl
        have h16 : t0[16]? = some (.pointer (some ⟨g16, 0, none⟩)) := by rw [HT]; rfl
        have h17 : t0[17]? = some (.pointer (some ⟨g17, 0, none⟩)) := by rw [HT]; rfl
        have h18 : t0[18]? = some (.pointer (some ⟨g18, 0, none⟩)) := by rw [HT]; rfl
        have h19 : t0[19]? = some (.pointer (some ⟨g19, 0, none⟩)) := by rw [HT]; rfl
        have h20 : t0[20]? = some (.pointer (some ⟨g20, 0, none⟩)) := by rw [HT]; rfl
        have h21 : t0[21]? = some (.pointer (some ⟨g21, 0, none⟩)) := by rw [HT]; rfl
        have h22 : t0[22]? = some (.pointer (some ⟨g22, 0, none⟩)) := by rw [HT]; rfl
        have h23 : t0[23]? = some (.pointer (some ⟨g23, 0, none⟩)) := by rw [HT]; rfl
        have h24 : t0[24]? = some (.pointer (some ⟨g24, 0, none⟩)) := by rw [HT]; rfl
        refine wp_region_most 5 (fun i => [87, 88, 89, 90, 91].getD i 0) (fun _ => none) (fun i => [IsN x1, IsW (((p3 - q3) * (p2 + q2)) - ((p3 + q3) * (p2 - q2))), IsW (((p3 - q3) * (p2 + q2)) - ((p3 + q3) * (p2 - q2))), IsN ((((p3 - q3) * (p2 + q2)) - ((p3 + q3) * (p2 - q2))) * (((p3 - q3) * (p2 + q2)) - ((p3 + q3) * (p2 - q2)))), IsN (x1 * ((((p3 - q3) * (p2 + q2)) - ((p3 + q3) * (p2 - q2))) * (((p3 - q3) * (p2 + q2)) - ((p3 + q3) * (p2 - q2)))))].getD i (fun _ => True)) (fun w' => Own w [(w.heap.size, 32, (· = .agg (vals Lk))), ((w.heap.size + 1), 32, (· = .agg (vals Lu))), ((w.heap.size + 2), 16, (fun _ => True)), ((w.heap.size + 3), 16, (fun _ => True)), (gn, 32, (· = .agg (vals (bytesN V)))), (g7, 16, IsN x1), (g8, 16, IsN p2), (g9, 16, IsN q2), (g10, 16, IsN ((((p3 - q3) * (p2 + q2)) + ((p3 + q3) * (p2 - q2))) * (((p3 - q3) * (p2 + q2)) + ((p3 + q3) * (p2 - q2))))), (g11, 16, IsN q3), (g14, 16, IsW (p2 + q2)), (g15, 16, IsW (p2 - q2)), (g16, 16, IsW (p3 + q3)), (g17, 16, IsW (p3 - q3)), (g18, 16, IsN ((p2 + q2) * (p2 + q2))), (g19, 16, IsN ((p2 - q2) * (p2 - q2))), (g20, 16, IsN ((p3 - q3) * (p2 + q2))), (g21, 16, IsN ((p3 + q3) * (p2 - q2))), (g22, 16, IsW (((p2 + q2) * (p2 + q2)) - ((p2 - q2) * (p2 - q2)))), (g23, 16, IsW (((p3 - q3) * (p2 + q2)) + ((p3 + q3) * (p2 - q2)))), (g24, 16, IsW (((p3 - q3) * (p2 + q2)) - ((p3 + q3) * (p2 - q2))))] w' ∧ M ≤ w'.heap.size) M
          (by kernel_rfl) (by kernel_rfl) (slots_apart (by kernel_rfl)) (slots_lie (by rw [HS]; kernel_rfl)) ⟨hS.drew, Nat.le_of_eq hM⟩ (fun w' h => h.2) (fun w1 w2 h b => ⟨h.1.keep b, Nat.le_trans h.2 b.size⟩) ?_ ?_ ?_
        · clear hS
          intro i o hi ho hA
          have hc : i = 0 ∨ i = 1 ∨ i = 2 ∨ i = 3 ∨ i = 4 := by omega
          rcases hc with rfl | rfl | rfl | rfl | rfl
          · obtain rfl := Option.some.inj ho
            refine ⟨rfl, fun a w' hS hold hin K hK => ?_⟩
            refine if_always rfl ?_
            exact op_ld_own 16 tNine (.tmp 7) rfl rfl _ (eval_tmp ((hold 7 (slots_not (by kernel_rfl))).trans h7)) hS.1 5 rfl hK
          · obtain rfl := Option.some.inj ho
            refine ⟨rfl, fun a w' hS hold hin K hK => ?_⟩
            refine if_always rfl ?_
            exact op_ld_own 16 tNine (.tmp 24) rfl rfl _ (eval_tmp ((hold 24 (slots_not (by kernel_rfl))).trans h24)) hS.1 20 rfl hK
          · obtain rfl := Option.some.inj ho
            refine ⟨rfl, fun a w' hS hold hin K hK => ?_⟩
            refine if_always rfl ?_
            exact op_ld_own 16 tNine (.tmp 24) rfl rfl _ (eval_tmp ((hold 24 (slots_not (by kernel_rfl))).trans h24)) hS.1 20 rfl hK
          · obtain rfl := Option.some.inj ho
            refine ⟨rfl, fun a w' hS hold hin K hK => ?_⟩
            obtain ⟨y1, x1, (v1 : IsW (((p3 - q3) * (p2 + q2)) - ((p3 + q3) * (p2 - q2))) y1)⟩ := hin 1 rfl (by omega) rfl
            obtain ⟨y2, x2, (v2 : IsW (((p3 - q3) * (p2 + q2)) - ((p3 + q3) * (p2 - q2))) y2)⟩ := hin 2 rfl (by omega) rfl
            refine if_always rfl ?_
            exact op_fn2 _ _ _ _ _ _ rfl rfl (eval_tmp x1) (eval_tmp x2) (by intro args w; kernel_rfl) (times9_ev v1 v2 _) hK
          · obtain rfl := Option.some.inj ho
            refine ⟨rfl, fun a w' hS hold hin K hK => ?_⟩
            obtain ⟨y0, x0, (v0 : IsN x1 y0)⟩ := hin 0 rfl (by omega) rfl
            obtain ⟨y3, x3, (v3 : IsN ((((p3 - q3) * (p2 + q2)) - ((p3 + q3) * (p2 - q2))) * (((p3 - q3) * (p2 + q2)) - ((p3 + q3) * (p2 - q2)))) y3)⟩ := hin 3 rfl (by omega) rfl
            refine if_always rfl ?_
            exact op_fn2 _ _ _ _ _ _ rfl rfl (eval_tmp x0) (eval_tmp x3) (by intro args w; kernel_rfl) (times9_ev (v0).wide (v3).wide _) hK
        · intro i o sz hi ho hA; cases hA
        clear hS
        intro t1 V9 hs hold hout hall hne hS
        have ef := frame_fill 5 (fun i => [87, 88, 89, 90, 91].getD i 0) hs hold (slots_apart (by kernel_rfl)) (slots_lie (by rw [HS]; kernel_rfl))
        replace HS := hs.trans HS
        replace hS := hS.1
        obtain ⟨x91, q91, v91⟩ : ∃ x, t1[91]? = some x ∧ (IsN (x1 * ((((p3 - q3) * (p2 + q2)) - ((p3 + q3) * (p2 - q2))) * (((p3 - q3) * (p2 + q2)) - ((p3 + q3) * (p2 - q2)))))) x := hout 4 (by omega) rfl
        replace h4 := (hold 4 (slots_not (by kernel_rfl))).trans h4
        replace h5 := (hold 5 (slots_not (by kernel_rfl))).trans h5
        replace h6 := (hold 6 (slots_not (by kernel_rfl))).trans h6
        replace h7 := (hold 7 (slots_not (by kernel_rfl))).trans h7
        replace h8 := (hold 8 (slots_not (by kernel_rfl))).trans h8
        replace h9 := (hold 9 (slots_not (by kernel_rfl))).trans h9
        replace h10 := (hold 10 (slots_not (by kernel_rfl))).trans h10
        replace h11 := (hold 11 (slots_not (by kernel_rfl))).trans h11
        replace h12 := (hold 12 (slots_not (by kernel_rfl))).trans h12
        replace h13 := (hold 13 (slots_not (by kernel_rfl))).trans h13
        replace h14 := (hold 14 (slots_not (by kernel_rfl))).trans h14
        replace h15 := (hold 15 (slots_not (by kernel_rfl))).trans h15
        replace h16 := (hold 16 (slots_not (by kernel_rfl))).trans h16
        replace h17 := (hold 17 (slots_not (by kernel_rfl))).trans h17
        replace h18 := (hold 18 (slots_not (by kernel_rfl))).trans h18
        replace h19 := (hold 19 (slots_not (by kernel_rfl))).trans h19
        replace h20 := (hold 20 (slots_not (by kernel_rfl))).trans h20
        replace h21 := (hold 21 (slots_not (by kernel_rfl))).trans h21
        replace h22 := (hold 22 (slots_not (by kernel_rfl))).trans h22
        replace h23 := (hold 23 (slots_not (by kernel_rfl))).trans h23
        replace h24 := (hold 24 (slots_not (by kernel_rfl))).trans h24
        clear hold hout hs hall hne
        simp only [List.drop_succ_cons, List.drop_zero]
        refine st_own 16 tNine rfl (.tmp 11) (.tmp 91) rfl rfl _ _ (eval_tmp h11) (eval_tmp q91) (V' := IsN (x1 * ((((p3 - q3) * (p2 + q2)) - ((p3 + q3) * (p2 - q2))) * (((p3 - q3) * (p2 + q2)) - ((p3 + q3) * (p2 - q2)))))) v91 (fun x hx => isN_row hx) hS 9 rfl fun V9' hS' _ => ?_
        replace hS : Own w [(w.heap.size, 32, (· = .agg (vals Lk))), ((w.heap.size + 1), 32, (· = .agg (vals Lu))), ((w.heap.size + 2), 16, (fun _ => True)), ((w.heap.size + 3), 16, (fun _ => True)), (gn, 32, (· = .agg (vals (bytesN V)))), (g7, 16, IsN x1), (g8, 16, IsN p2), (g9, 16, IsN q2), (g10, 16, IsN ((((p3 - q3) * (p2 + q2)) + ((p3 + q3) * (p2 - q2))) * (((p3 - q3) * (p2 + q2)) + ((p3 + q3) * (p2 - q2))))), (g11, 16, IsN (x1 * ((((p3 - q3) * (p2 + q2)) - ((p3 + q3) * (p2 - q2))) * (((p3 - q3) * (p2 + q2)) - ((p3 + q3) * (p2 - q2)))))), (g14, 16, IsW (p2 + q2)), (g15, 16, IsW (p2 - q2)), (g16, 16, IsW (p3 + q3)), (g17, 16, IsW (p3 - q3)), (g18, 16, IsN ((p2 + q2) * (p2 + q2))), (g19, 16, IsN ((p2 - q2) * (p2 - q2))), (g20, 16, IsN ((p3 - q3) * (p2 + q2))), (g21, 16, IsN ((p3 + q3) * (p2 - q2))), (g22, 16, IsW (((p2 + q2) * (p2 + q2)) - ((p2 - q2) * (p2 - q2)))), (g23, 16, IsW (((p3 - q3) * (p2 + q2)) + ((p3 + q3) * (p2 - q2)))), (g24, 16, IsW (((p3 - q3) * (p2 + q2)) - ((p3 + q3) * (p2 - q2))))] V9' := hS'
        clear hS'
        refine wpList_nil ?_
        rw [ef, HT]
        clear ef
        simp only [fillA, if_true, List.getD_cons_zero, List.getD_cons_succ, List.setIfInBounds_toArray, List.set_cons_zero, List.set_cons_succ]
        generalize t1.getD 87 undef = z87
        generalize t1.getD 88 undef = z88
        generalize t1.getD 89 undef = z89
        generalize t1.getD 90 undef = z90
        generalize t1.getD 91 undef = z91
        clear HT
        clear h4 h5 h6 h7 h8 h9 h10 h11 h12 h13 h14 h15 h16 h17 h18 h19 h20 h21 h22 h23 h24 q91 v91 hM HS t1 t0 M
        go_wp2_with ((with_reducible refine guard_list ?_); first | (refine held_load 26 _ rfl ?_) | (refine held_load 22 _ rfl ?_) | (refine held_load 68 _ rfl ?_) | (refine held_load 131 _ rfl ?_))
        obtain ⟨M, hM⟩ : ∃ M, M = V9'.heap.size := ⟨_, rfl⟩
        refine hide_held fun t0 HT => ?_
        have HS : t0.size = 110 := by rw [HT]; rfl
        have h4 : t0[4]? = some (.pointer (some ⟨(w.heap.size + 2), 0, none⟩)) := by rw [HT]; rfl
        have h5 : t0[5]? = some (.pointer (some ⟨(w.heap.size + 3), 0, none⟩)) := by rw [HT]; rfl
        have h6 : t0[6]? = some (.pointer (some ⟨gn, 0, none⟩)) := by rw [HT]; rfl
        have h7 : t0[7]? = some (.pointer (some ⟨g7, 0, none⟩)) := by rw [HT]; rfl
        have h8 : t0[8]? = some (.pointer (some ⟨g8, 0, none⟩)) := by rw [HT]; rfl
        have h9 : t0[9]? = some (.pointer (some ⟨g9, 0, none⟩)) := by rw [HT]; rfl
        have h10 : t0[10]? = some (.pointer (some ⟨g10, 0, none⟩)) := by rw [HT]; rfl
        have h11 : t0[11]? = some (.pointer (some ⟨g11, 0, none⟩)) := by rw [HT]; rfl
        have h12 : t0[12]? = some (.int .i64 (j : Int)) := by rw [HT]; rfl
        have h13 : t0[13]? = some (.int .u8 0) := by rw [HT]; rfl
        have h14 : t0[14]? = some (.pointer (some ⟨g14, 0, none⟩)) := by rw [HT]; rfl
        have h15 : t0[15]? = some (.pointer (some ⟨g15, 0, none⟩)) := by rw [HT]; rfl
        have h16 : t0[16]? = some (.pointer (some ⟨g16, 0, none⟩)) := by rw [HT]; rfl
        have h17 : t0[17]? = some (.pointer (some ⟨g17, 0, none⟩)) := by rw [HT]; rfl
        have h18 : t0[18]? = some (.pointer (some ⟨g18, 0, none⟩)) := by rw [HT]; rfl
        have h19 : t0[19]? = some (.pointer (some ⟨g19, 0, none⟩)) := by rw [HT]; rfl
        have h20 : t0[20]? = some (.pointer (some ⟨g20, 0, none⟩)) := by rw [HT]; rfl
        have h21 : t0[21]? = some (.pointer (some ⟨g21, 0, none⟩)) := by rw [HT]; rfl
        have h22 : t0[22]? = some (.pointer (some ⟨g22, 0, none⟩)) := by rw [HT]; rfl
        have h23 : t0[23]? = some (.pointer (some ⟨g23, 0, none⟩)) := by rw [HT]; rfl
        have h24 : t0[24]? = some (.pointer (some ⟨g24, 0, none⟩)) := by rw [HT]; rfl
        refine wp_list_most 3 (fun i => [92, 93, 94].getD i 0) (fun _ => none) (fun i => [IsN ((p2 + q2) * (p2 + q2)), IsN ((p2 - q2) * (p2 - q2)), IsN (((p2 + q2) * (p2 + q2)) * ((p2 - q2) * (p2 - q2)))].getD i (fun _ => True)) (fun w' => Own w [(w.heap.size, 32, (· = .agg (vals Lk))), ((w.heap.size + 1), 32, (· = .agg (vals Lu))), ((w.heap.size + 2), 16, (fun _ => True)), ((w.heap.size + 3), 16, (fun _ => True)), (gn, 32, (· = .agg (vals (bytesN V)))), (g7, 16, IsN x1), (g8, 16, IsN p2), (g9, 16, IsN q2), (g10, 16, IsN ((((p3 - q3) * (p2 + q2)) + ((p3 + q3) * (p2 - q2))) * (((p3 - q3) * (p2 + q2)) + ((p3 + q3) * (p2 - q2))))), (g11, 16, IsN (x1 * ((((p3 - q3) * (p2 + q2)) - ((p3 + q3) * (p2 - q2))) * (((p3 - q3) * (p2 + q2)) - ((p3 + q3) * (p2 - q2)))))), (g14, 16, IsW (p2 + q2)), (g15, 16, IsW (p2 - q2)), (g16, 16, IsW (p3 + q3)), (g17, 16, IsW (p3 - q3)), (g18, 16, IsN ((p2 + q2) * (p2 + q2))), (g19, 16, IsN ((p2 - q2) * (p2 - q2))), (g20, 16, IsN ((p3 - q3) * (p2 + q2))), (g21, 16, IsN ((p3 + q3) * (p2 - q2))), (g22, 16, IsW (((p2 + q2) * (p2 + q2)) - ((p2 - q2) * (p2 - q2)))), (g23, 16, IsW (((p3 - q3) * (p2 + q2)) + ((p3 + q3) * (p2 - q2)))), (g24, 16, IsW (((p3 - q3) * (p2 + q2)) - ((p3 + q3) * (p2 - q2))))] w' ∧ M ≤ w'.heap.size) M
          (by kernel_rfl) (slots_apart (by kernel_rfl)) (slots_lie (by rw [HS]; kernel_rfl)) ⟨hS, Nat.le_of_eq hM⟩ (fun w' h => h.2) (fun w1 w2 h b => ⟨h.1.keep b, Nat.le_trans h.2 b.size⟩) ?_ ?_ ?_
        · clear hS
          intro i o hi ho hA
          have hc : i = 0 ∨ i = 1 ∨ i = 2 := by omega
          rcases hc with rfl | rfl | rfl
          · obtain rfl := Option.some.inj ho
            refine ⟨rfl, fun a w' hS hold hin K hK => ?_⟩
            refine if_always rfl ?_
            exact op_ld_own 16 tNine (.tmp 18) rfl rfl _ (eval_tmp ((hold 18 (slots_not (by kernel_rfl))).trans h18)) hS.1 14 rfl hK
          · obtain rfl := Option.some.inj ho
            refine ⟨rfl, fun a w' hS hold hin K hK => ?_⟩
            refine if_always rfl ?_
            exact op_ld_own 16 tNine (.tmp 19) rfl rfl _ (eval_tmp ((hold 19 (slots_not (by kernel_rfl))).trans h19)) hS.1 15 rfl hK
          · obtain rfl := Option.some.inj ho
            refine ⟨rfl, fun a w' hS hold hin K hK => ?_⟩
            obtain ⟨y0, x0, (v0 : IsN ((p2 + q2) * (p2 + q2)) y0)⟩ := hin 0 rfl (by omega) rfl
            obtain ⟨y1, x1, (v1 : IsN ((p2 - q2) * (p2 - q2)) y1)⟩ := hin 1 rfl (by omega) rfl
            refine if_always rfl ?_
            exact op_fn2 _ _ _ _ _ _ rfl rfl (eval_tmp x0) (eval_tmp x1) (by intro args w; kernel_rfl) (times9_ev (v0).wide (v1).wide _) hK
        · intro i o sz hi ho hA; cases hA
        clear hS
        intro t1 V10 hs hold hout hall hne hS
        have ef := frame_fill 3 (fun i => [92, 93, 94].getD i 0) hs hold (slots_apart (by kernel_rfl)) (slots_lie (by rw [HS]; kernel_rfl))
        replace HS := hs.trans HS
        replace hS := hS.1
        obtain ⟨x94, q94, v94⟩ : ∃ x, t1[94]? = some x ∧ (IsN (((p2 + q2) * (p2 + q2)) * ((p2 - q2) * (p2 - q2)))) x := hout 2 (by omega) rfl
        replace h4 := (hold 4 (slots_not (by kernel_rfl))).trans h4
        replace h5 := (hold 5 (slots_not (by kernel_rfl))).trans h5
        replace h6 := (hold 6 (slots_not (by kernel_rfl))).trans h6
        replace h7 := (hold 7 (slots_not (by kernel_rfl))).trans h7
        replace h8 := (hold 8 (slots_not (by kernel_rfl))).trans h8
        replace h9 := (hold 9 (slots_not (by kernel_rfl))).trans h9
        replace h10 := (hold 10 (slots_not (by kernel_rfl))).trans h10
        replace h11 := (hold 11 (slots_not (by kernel_rfl))).trans h11
        replace h12 := (hold 12 (slots_not (by kernel_rfl))).trans h12
        replace h13 := (hold 13 (slots_not (by kernel_rfl))).trans h13
        replace h14 := (hold 14 (slots_not (by kernel_rfl))).trans h14
        replace h15 := (hold 15 (slots_not (by kernel_rfl))).trans h15
        replace h16 := (hold 16 (slots_not (by kernel_rfl))).trans h16
        replace h17 := (hold 17 (slots_not (by kernel_rfl))).trans h17
        replace h18 := (hold 18 (slots_not (by kernel_rfl))).trans h18
        replace h19 := (hold 19 (slots_not (by kernel_rfl))).trans h19
        replace h20 := (hold 20 (slots_not (by kernel_rfl))).trans h20
        replace h21 := (hold 21 (slots_not (by kernel_rfl))).trans h21
        replace h22 := (hold 22 (slots_not (by kernel_rfl))).trans h22
        replace h23 := (hold 23 (slots_not (by kernel_rfl))).trans h23
        replace h24 := (hold 24 (slots_not (by kernel_rfl))).trans h24
        clear hold hout hs hall hne
        simp only [List.drop_succ_cons, List.drop_zero]
        refine st_own 16 tNine rfl (.tmp 8) (.tmp 94) rfl rfl _ _ (eval_tmp h8) (eval_tmp q94) (V' := IsN (((p2 + q2) * (p2 + q2)) * ((p2 - q2) * (p2 - q2)))) v94 (fun x hx => isN_row hx) hS 6 rfl fun V10' hS' _ => ?_
        replace hS : Own w [(w.heap.size, 32, (· = .agg (vals Lk))), ((w.heap.size + 1), 32, (· = .agg (vals Lu))), ((w.heap.size + 2), 16, (fun _ => True)), ((w.heap.size + 3), 16, (fun _ => True)), (gn, 32, (· = .agg (vals (bytesN V)))), (g7, 16, IsN x1), (g8, 16, IsN (((p2 + q2) * (p2 + q2)) * ((p2 - q2) * (p2 - q2)))), (g9, 16, IsN q2), (g10, 16, IsN ((((p3 - q3) * (p2 + q2)) + ((p3 + q3) * (p2 - q2))) * (((p3 - q3) * (p2 + q2)) + ((p3 + q3) * (p2 - q2))))), (g11, 16, IsN (x1 * ((((p3 - q3) * (p2 + q2)) - ((p3 + q3) * (p2 - q2))) * (((p3 - q3) * (p2 + q2)) - ((p3 + q3) * (p2 - q2)))))), (g14, 16, IsW (p2 + q2)), (g15, 16, IsW (p2 - q2)), (g16, 16, IsW (p3 + q3)), (g17, 16, IsW (p3 - q3)), (g18, 16, IsN ((p2 + q2) * (p2 + q2))), (g19, 16, IsN ((p2 - q2) * (p2 - q2))), (g20, 16, IsN ((p3 - q3) * (p2 + q2))), (g21, 16, IsN ((p3 + q3) * (p2 - q2))), (g22, 16, IsW (((p2 + q2) * (p2 + q2)) - ((p2 - q2) * (p2 - q2)))), (g23, 16, IsW (((p3 - q3) * (p2 + q2)) + ((p3 + q3) * (p2 - q2)))), (g24, 16, IsW (((p3 - q3) * (p2 + q2)) - ((p3 + q3) * (p2 - q2))))] V10' := hS'
        clear hS'
        refine wpList_nil ?_
        rw [ef, HT]
        clear ef
        simp only [fillA, if_true, List.getD_cons_zero, List.getD_cons_succ, List.setIfInBounds_toArray, List.set_cons_zero, List.set_cons_succ]
        generalize t1.getD 92 undef = z92
        generalize t1.getD 93 undef = z93
        generalize t1.getD 94 undef = z94
        clear HT
        clear h4 h5 h6 h7 h8 h9 h10 h11 h12 h13 h14 h15 h16 h17 h18 h19 h20 h21 h22 h23 h24 q94 v94 hM HS t1 t0 M
        go_wp2_with fail
        obtain ⟨M, hM⟩ : ∃ M, M = V10'.heap.size := ⟨_, rfl⟩
        refine hide_frame fun t0 HT => ?_
        have HS : t0.size = 110 := by rw [HT]; rfl
        have h4 : t0[4]? = some (.pointer (some ⟨(w.heap.size + 2), 0, none⟩)) := by rw [HT]; rfl
        have h5 : t0[5]? = some (.pointer (some ⟨(w.heap.size + 3), 0, none⟩)) := by rw [HT]; rfl
        have h6 : t0[6]? = some (.pointer (some ⟨gn, 0, none⟩)) := by rw [HT]; rfl
        have h7 : t0[7]? = some (.pointer (some ⟨g7, 0, none⟩)) := by rw [HT]; rfl
        have h8 : t0[8]? = some (.pointer (some ⟨g8, 0, none⟩)) := by rw [HT]; rfl
        have h9 : t0[9]? = some (.pointer (some ⟨g9, 0, none⟩)) := by rw [HT]; rfl
        have h10 : t0[10]? = some (.pointer (some ⟨g10, 0, none⟩)) := by rw [HT]; rfl
        have h11 : t0[11]? = some (.pointer (some ⟨g11, 0, none⟩)) := by rw [HT]; rfl
        have h12 : t0[12]? = some (.int .i64 (j : Int)) := by rw [HT]; rfl
        have h13 : t0[13]? = some (.int .u8 0) := by rw [HT]; rfl
        have h14 : t0[14]? = some (.pointer (some ⟨g14, 0, none⟩)) := by rw [HT]; rfl
        have h15 : t0[15]? = some (.pointer (some ⟨g15, 0, none⟩)) := by rw [HT]; rfl
        have h16 : t0[16]? = some (.pointer (some ⟨g16, 0, none⟩)) := by rw [HT]; rfl
        have h17 : t0[17]? = some (.pointer (some ⟨g17, 0, none⟩)) := by rw [HT]; rfl
        have h18 : t0[18]? = some (.pointer (some ⟨g18, 0, none⟩)) := by rw [HT]; rfl
        have h19 : t0[19]? = some (.pointer (some ⟨g19, 0, none⟩)) := by rw [HT]; rfl
        have h20 : t0[20]? = some (.pointer (some ⟨g20, 0, none⟩)) := by rw [HT]; rfl
        have h21 : t0[21]? = some (.pointer (some ⟨g21, 0, none⟩)) := by rw [HT]; rfl
        have h22 : t0[22]? = some (.pointer (some ⟨g22, 0, none⟩)) := by rw [HT]; rfl
        have h23 : t0[23]? = some (.pointer (some ⟨g23, 0, none⟩)) := by rw [HT]; rfl
        have h24 : t0[24]? = some (.pointer (some ⟨g24, 0, none⟩)) := by rw [HT]; rfl
        refine wp_region_most 7 (fun i => [95, 96, 97, 98, 99, 100, 101].getD i 0) (fun _ => none) (fun i => [IsW (((p2 + q2) * (p2 + q2)) - ((p2 - q2) * (p2 - q2))), IsN ((p2 + q2) * (p2 + q2)), IsW (121665 : F), IsW (((p2 + q2) * (p2 + q2)) - ((p2 - q2) * (p2 - q2))), IsN ((121665 : F) * (((p2 + q2) * (p2 + q2)) - ((p2 - q2) * (p2 - q2)))), IsW (((p2 + q2) * (p2 + q2)) + ((121665 : F) * (((p2 + q2) * (p2 + q2)) - ((p2 - q2) * (p2 - q2))))), IsN ((((p2 + q2) * (p2 + q2)) - ((p2 - q2) * (p2 - q2))) * (((p2 + q2) * (p2 + q2)) + ((121665 : F) * (((p2 + q2) * (p2 + q2)) - ((p2 - q2) * (p2 - q2))))))].getD i (fun _ => True)) (fun w' => Own w [(w.heap.size, 32, (· = .agg (vals Lk))), ((w.heap.size + 1), 32, (· = .agg (vals Lu))), ((w.heap.size + 2), 16, (fun _ => True)), ((w.heap.size + 3), 16, (fun _ => True)), (gn, 32, (· = .agg (vals (bytesN V)))), (g7, 16, IsN x1), (g8, 16, IsN (((p2 + q2) * (p2 + q2)) * ((p2 - q2) * (p2 - q2)))), (g9, 16, IsN q2), (g10, 16, IsN ((((p3 - q3) * (p2 + q2)) + ((p3 + q3) * (p2 - q2))) * (((p3 - q3) * (p2 + q2)) + ((p3 + q3) * (p2 - q2))))), (g11, 16, IsN (x1 * ((((p3 - q3) * (p2 + q2)) - ((p3 + q3) * (p2 - q2))) * (((p3 - q3) * (p2 + q2)) - ((p3 + q3) * (p2 - q2)))))), (g14, 16, IsW (p2 + q2)), (g15, 16, IsW (p2 - q2)), (g16, 16, IsW (p3 + q3)), (g17, 16, IsW (p3 - q3)), (g18, 16, IsN ((p2 + q2) * (p2 + q2))), (g19, 16, IsN ((p2 - q2) * (p2 - q2))), (g20, 16, IsN ((p3 - q3) * (p2 + q2))), (g21, 16, IsN ((p3 + q3) * (p2 - q2))), (g22, 16, IsW (((p2 + q2) * (p2 + q2)) - ((p2 - q2) * (p2 - q2)))), (g23, 16, IsW (((p3 - q3) * (p2 + q2)) + ((p3 + q3) * (p2 - q2)))), (g24, 16, IsW (((p3 - q3) * (p2 + q2)) - ((p3 + q3) * (p2 - q2))))] w' ∧ M ≤ w'.heap.size) M
          (by kernel_rfl) (by kernel_rfl) (slots_apart (by kernel_rfl)) (slots_lie (by rw [HS]; kernel_rfl)) ⟨hS.drew, Nat.le_of_eq hM⟩ (fun w' h => h.2) (fun w1 w2 h b => ⟨h.1.keep b, Nat.le_trans h.2 b.size⟩) ?_ ?_ ?_
        · clear hS
          intro i o hi ho hA
          have hc : i = 0 ∨ i = 1 ∨ i = 2 ∨ i = 3 ∨ i = 4 ∨ i = 5 ∨ i = 6 := by omega
          rcases hc with rfl | rfl | rfl | rfl | rfl | rfl | rfl
          · obtain rfl := Option.some.inj ho
            refine ⟨rfl, fun a w' hS hold hin K hK => ?_⟩
            refine if_always rfl ?_
            exact op_ld_own 16 tNine (.tmp 22) rfl rfl _ (eval_tmp ((hold 22 (slots_not (by kernel_rfl))).trans h22)) hS.1 18 rfl hK
          · obtain rfl := Option.some.inj ho
            refine ⟨rfl, fun a w' hS hold hin K hK => ?_⟩
            refine if_always rfl ?_
            exact op_ld_own 16 tNine (.tmp 18) rfl rfl _ (eval_tmp ((hold 18 (slots_not (by kernel_rfl))).trans h18)) hS.1 14 rfl hK
          · obtain rfl := Option.some.inj ho
            refine ⟨rfl, fun a w' hS hold hin K hK => ?_⟩
            refine if_always rfl ?_
            exact op_fn1 _ _ _ _ rfl rfl rfl (by intro args w; kernel_rfl) (small9_wide _) hK
          · obtain rfl := Option.some.inj ho
            refine ⟨rfl, fun a w' hS hold hin K hK => ?_⟩
            refine if_always rfl ?_
            exact op_ld_own 16 tNine (.tmp 22) rfl rfl _ (eval_tmp ((hold 22 (slots_not (by kernel_rfl))).trans h22)) hS.1 18 rfl hK
          · obtain rfl := Option.some.inj ho
            refine ⟨rfl, fun a w' hS hold hin K hK => ?_⟩
            obtain ⟨y2, x2, (v2 : IsW (121665 : F) y2)⟩ := hin 2 rfl (by omega) rfl
            obtain ⟨y3, x3, (v3 : IsW (((p2 + q2) * (p2 + q2)) - ((p2 - q2) * (p2 - q2))) y3)⟩ := hin 3 rfl (by omega) rfl
            refine if_always rfl ?_
            exact op_fn2 _ _ _ _ _ _ rfl rfl (eval_tmp x2) (eval_tmp x3) (by intro args w; kernel_rfl) (times9_ev v2 v3 _) hK
          · obtain rfl := Option.some.inj ho
            refine ⟨rfl, fun a w' hS hold hin K hK => ?_⟩
            obtain ⟨y1, x1, (v1 : IsN ((p2 + q2) * (p2 + q2)) y1)⟩ := hin 1 rfl (by omega) rfl
            obtain ⟨y4, x4, (v4 : IsN ((121665 : F) * (((p2 + q2) * (p2 + q2)) - ((p2 - q2) * (p2 - q2)))) y4)⟩ := hin 4 rfl (by omega) rfl
            refine if_always rfl ?_
            exact op_fn2 _ _ _ _ _ _ rfl rfl (eval_tmp x1) (eval_tmp x4) (by intro args w; kernel_rfl) (plus9_ev v1 v4 _) hK
          · obtain rfl := Option.some.inj ho
            refine ⟨rfl, fun a w' hS hold hin K hK => ?_⟩
            obtain ⟨y0, x0, (v0 : IsW (((p2 + q2) * (p2 + q2)) - ((p2 - q2) * (p2 - q2))) y0)⟩ := hin 0 rfl (by omega) rfl
            obtain ⟨y5, x5, (v5 : IsW (((p2 + q2) * (p2 + q2)) + ((121665 : F) * (((p2 + q2) * (p2 + q2)) - ((p2 - q2) * (p2 - q2))))) y5)⟩ := hin 5 rfl (by omega) rfl
            refine if_always rfl ?_
            exact op_fn2 _ _ _ _ _ _ rfl rfl (eval_tmp x0) (eval_tmp x5) (by intro args w; kernel_rfl) (times9_ev v0 v5 _) hK
        · intro i o sz hi ho hA; cases hA
        clear hS
        intro t1 V11 hs hold hout hall hne hS
        have ef := frame_fill 7 (fun i => [95, 96, 97, 98, 99, 100, 101].getD i 0) hs hold (slots_apart (by kernel_rfl)) (slots_lie (by rw [HS]; kernel_rfl))
        replace HS := hs.trans HS
        replace hS := hS.1
        obtain ⟨x101, q101, v101⟩ : ∃ x, t1[101]? = some x ∧ (IsN ((((p2 + q2) * (p2 + q2)) - ((p2 - q2) * (p2 - q2))) * (((p2 + q2) * (p2 + q2)) + ((121665 : F) * (((p2 + q2) * (p2 + q2)) - ((p2 - q2) * (p2 - q2))))))) x := hout 6 (by omega) rfl
        replace h4 := (hold 4 (slots_not (by kernel_rfl))).trans h4
        replace h5 := (hold 5 (slots_not (by kernel_rfl))).trans h5
        replace h6 := (hold 6 (slots_not (by kernel_rfl))).trans h6
        replace h7 := (hold 7 (slots_not (by kernel_rfl))).trans h7
        replace h8 := (hold 8 (slots_not (by kernel_rfl))).trans h8
        replace h9 := (hold 9 (slots_not (by kernel_rfl))).trans h9
        replace h10 := (hold 10 (slots_not (by kernel_rfl))).trans h10
        replace h11 := (hold 11 (slots_not (by kernel_rfl))).trans h11
        replace h12 := (hold 12 (slots_not (by kernel_rfl))).trans h12
        replace h13 := (hold 13 (slots_not (by kernel_rfl))).trans h13
        replace h14 := (hold 14 (slots_not (by kernel_rfl))).trans h14
        replace h15 := (hold 15 (slots_not (by kernel_rfl))).trans h15
        replace h16 := (hold 16 (slots_not (by kernel_rfl))).trans h16
        replace h17 := (hold 17 (slots_not (by kernel_rfl))).trans h17
        replace h18 := (hold 18 (slots_not (by kernel_rfl))).trans h18
        replace h19 := (hold 19 (slots_not (by kernel_rfl))).trans h19
        replace h20 := (hold 20 (slots_not (by kernel_rfl))).trans h20
        replace h21 := (hold 21 (slots_not (by kernel_rfl))).trans h21
        replace h22 := (hold 22 (slots_not (by kernel_rfl))).trans h22
        replace h23 := (hold 23 (slots_not (by kernel_rfl))).trans h23
        replace h24 := (hold 24 (slots_not (by kernel_rfl))).trans h24
        clear hold hout hs hall hne
        simp only [List.drop_succ_cons, List.drop_zero]
        refine st_own 16 tNine rfl (.tmp 9) (.tmp 101) rfl rfl _ _ (eval_tmp h9) (eval_tmp q101) (V' := IsN ((((p2 + q2) * (p2 + q2)) - ((p2 - q2) * (p2 - q2))) * (((p2 + q2) * (p2 + q2)) + ((121665 : F) * (((p2 + q2) * (p2 + q2)) - ((p2 - q2) * (p2 - q2))))))) v101 (fun x hx => isN_row hx) hS 7 rfl fun V11' hS' _ => ?_
        replace hS : Own w [(w.heap.size, 32, (· = .agg (vals Lk))), ((w.heap.size + 1), 32, (· = .agg (vals Lu))), ((w.heap.size + 2), 16, (fun _ => True)), ((w.heap.size + 3), 16, (fun _ => True)), (gn, 32, (· = .agg (vals (bytesN V)))), (g7, 16, IsN x1), (g8, 16, IsN (((p2 + q2) * (p2 + q2)) * ((p2 - q2) * (p2 - q2)))), (g9, 16, IsN ((((p2 + q2) * (p2 + q2)) - ((p2 - q2) * (p2 - q2))) * (((p2 + q2) * (p2 + q2)) + ((121665 : F) * (((p2 + q2) * (p2 + q2)) - ((p2 - q2) * (p2 - q2))))))), (g10, 16, IsN ((((p3 - q3) * (p2 + q2)) + ((p3 + q3) * (p2 - q2))) * (((p3 - q3) * (p2 + q2)) + ((p3 + q3) * (p2 - q2))))), (g11, 16, IsN (x1 * ((((p3 - q3) * (p2 + q2)) - ((p3 + q3) * (p2 - q2))) * (((p3 - q3) * (p2 + q2)) - ((p3 + q3) * (p2 - q2)))))), (g14, 16, IsW (p2 + q2)), (g15, 16, IsW (p2 - q2)), (g16, 16, IsW (p3 + q3)), (g17, 16, IsW (p3 - q3)), (g18, 16, IsN ((p2 + q2) * (p2 + q2))), (g19, 16, IsN ((p2 - q2) * (p2 - q2))), (g20, 16, IsN ((p3 - q3) * (p2 + q2))), (g21, 16, IsN ((p3 + q3) * (p2 - q2))), (g22, 16, IsW (((p2 + q2) * (p2 + q2)) - ((p2 - q2) * (p2 - q2)))), (g23, 16, IsW (((p3 - q3) * (p2 + q2)) + ((p3 + q3) * (p2 - q2)))), (g24, 16, IsW (((p3 - q3) * (p2 + q2)) - ((p3 + q3) * (p2 - q2))))] V11' := hS'
        clear hS'
        refine wpList_nil ?_
        rw [ef, HT]
        clear ef
        simp only [fillA, if_true, List.getD_cons_zero, List.getD_cons_succ, List.setIfInBounds_toArray, List.set_cons_zero, List.set_cons_succ]
        generalize t1.getD 95 undef = z95
        generalize t1.getD 96 undef = z96
        generalize t1.getD 97 undef = z97
        generalize t1.getD 98 undef = z98
        generalize t1.getD 99 undef = z99
        generalize t1.getD 100 undef = z100
        generalize t1.getD 101 undef = z101
        clear HT
        clear h4 h5 h6 h7 h8 h9 h10 h11 h12 h13 h14 h15 h16 h17 h18 h19 h20 h21 h22 h23 h24 q101 v101 hM HS t1 t0 M
        replace hS : Own w [(w.heap.size, 32, (· = .agg (vals Lk))), ((w.heap.size + 1), 32, (· = .agg (vals Lu))), ((w.heap.size + 2), 16, (fun _ => True)), ((w.heap.size + 3), 16, (fun _ => True)), (gn, 32, (· = .agg (vals (bytesN V)))), (g7, 16, IsN x1), (g8, 16, IsN (((p2 + q2) * (p2 + q2)) * ((p2 - q2) * (p2 - q2)))), (g9, 16, IsN ((((p2 + q2) * (p2 + q2)) - ((p2 - q2) * (p2 - q2))) * (((p2 + q2) * (p2 + q2)) + ((121665 : F) * (((p2 + q2) * (p2 + q2)) - ((p2 - q2) * (p2 - q2))))))), (g10, 16, IsN ((((p3 - q3) * (p2 + q2)) + ((p3 + q3) * (p2 - q2))) * (((p3 - q3) * (p2 + q2)) + ((p3 + q3) * (p2 - q2))))), (g11, 16, IsN (x1 * ((((p3 - q3) * (p2 + q2)) - ((p3 + q3) * (p2 - q2))) * (((p3 - q3) * (p2 + q2)) - ((p3 + q3) * (p2 - q2))))))] V11' := hS.take 10
        have HL5 := Lib.hid (show lad x1 V j (((((p2 + q2) * (p2 + q2)) * ((p2 - q2) * (p2 - q2))), ((((p2 + q2) * (p2 + q2)) - ((p2 - q2) * (p2 - q2))) * (((p2 + q2) * (p2 + q2)) + ((121665 : F) * (((p2 + q2) * (p2 + q2)) - ((p2 - q2) * (p2 - q2))))))), (((((p3 - q3) * (p2 + q2)) + ((p3 + q3) * (p2 - q2))) * (((p3 - q3) * (p2 + q2)) + ((p3 + q3) * (p2 - q2)))), (x1 * ((((p3 - q3) * (p2 + q2)) - ((p3 + q3) * (p2 - q2))) * (((p3 - q3) * (p2 + q2)) - ((p3 + q3) * (p2 - q2))))))) = RR from by have h := HL4.out; rw [show stp x1 false ((p2, q2), (p3, q3)) = (dbl (p2, q2), dad x1 (p2, q2) (p3, q3)) from rfl, dad9, dbl9] at h; exact h)
        have hS2 := Lib.hid hS
        clear hS HL4
        go_wp2_with fail
        go_roundw
        case rel => exact ⟨j, _, _, _, _, by omega, rfl, HL5.out, hS2.out⟩
        case measure => simp [intOf]
end Go.Proofs.Ytciakfhjjnmeeaa
