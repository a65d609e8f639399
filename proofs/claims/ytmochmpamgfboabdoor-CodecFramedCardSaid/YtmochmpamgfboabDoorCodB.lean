/- Is a config good: codec.Check and the reference's Check: one answer. No condition. -/
import Derived.Test.YtmochmpamgfboabDoorCodA
namespace Go.Proofs.YtmochmpamgfboabDoor
open Go.RowKit
theorem tConf : RowT Tryd.prog 23 6 := ⟨_, Tryd.underlying23, rfl, by kernel_rfl⟩
theorem tInt : CellT Tryd.prog 3 := ⟨_, Tryd.underlying3, rfl⟩
/-- A good config. -/
def good (n0 n1 n2 n3 n4 n5 : Int) : Bool := decide ((1 ≤ n0 ∧ n0 ≤ 256) ∧ (32 ≤ n1 ∧ n1 ≤ 512) ∧ (2 ≤ n2 ∧ n2 ≤ 64) ∧ ((26 + n1 ≤ n3 ∧ 114 ≤ n3) ∧ n3 ≤ 4096) ∧ (2 ≤ n4 ∧ n4 ≤ 16) ∧ (1 ≤ n5 ∧ n5 ≤ 16))
theorem conf_start (n0 n1 n2 n3 n4 n5 : Int) (w : World) : Own w [(w.heap.size, 6, (· = .agg #[.int .i64 n0, .int .i64 n1, .int .i64 n2, .int .i64 n3, .int .i64 n4, .int .i64 n5]))] (w.alloc (.cells #[.int .i64 n0, .int .i64 n1, .int .i64 n2, .int .i64 n3, .int .i64 n4, .int .i64 n5] 23)) :=
  (Own.of_below (by go_grown)).add (g := w.heap.size) (Nat.le_refl _) (fun r hr => by cases hr) ⟨_, _, heap_alloc_new w _, rfl, rfl⟩

section
variable {P : Program} {o : Oper} {a : Act} {w : World} {Q : Exit → Act → World → Prop} {d : Nat} {K : Act → World → Prop}
theorem op_max (x y : Operand) (tys : Array TypeId) (u v m : Int) (ho : o.op = .call { callee := .builtin .max, args := #[x, y], argTypes := tys }) (hd : o.dst = some d) (hx : a.eval x = .int .i64 u) (hy : a.eval y = .int .i64 v) (h : (if v > u then v else u) = m)
    (hK : ∀ x w', x = .int .i64 m → Below w.heap.size w w' → K (a.put (some d) x) w') : o.wp P a w K Q := by
  subst h
  refine op_val (V := (· = .int .i64 _)) (.int .i64 _) hd ?_ rfl hK
  unfold execOp
  simp only [ho, resolve, invoke, builtin, Sem.run_bind, Sem.run_pure, Result.andThen_ok, List.map_toArray, List.map_cons, List.map_nil, hx, hy]
  rw [run_max_int2]
  rfl
end
theorem add_in {p q : Operand} (a b : Int) (h : -9223372036854775808 ≤ a + b ∧ a + b ≤ 9223372036854775807) (w : World) : (do eqGuard .add 3 p q (.int .i64 a) (.int .i64 b); binOp .add 3 (.int .i64 a) (.int .i64 b) : Sem Value).run Tryd.prog w = .ok (.int .i64 (a + b)) w := by
  have e : IntKind.i64.wrap (a + b) = a + b := IntWalk.i64_in _ (by omega)
  conv => rhs; rw [← e]
  rfl

theorem cmp_geq {p q : Operand} {a b : Int} {c : Bool} (h : decide (b ≤ a) = c) (w : World) : (do eqGuard .geq 3 p q (.int .i64 a) (.int .i64 b); binOp .geq 3 (.int .i64 a) (.int .i64 b) : Sem Value).run Tryd.prog w = .ok (.bool c) w := by
  subst h; rfl
theorem cmp_leq {p q : Operand} {a b : Int} {c : Bool} (h : decide (a ≤ b) = c) (w : World) : (do eqGuard .leq 3 p q (.int .i64 a) (.int .i64 b); binOp .leq 3 (.int .i64 a) (.int .i64 b) : Sem Value).run Tryd.prog w = .ok (.bool c) w := by
  subst h; rfl
set_option maxHeartbeats 2000000 in
set_option maxRecDepth 100000 in
theorem check20_0 (n0 n1 n2 n3 n4 n5 : Int) (w : World) (h0 : decide (1 ≤ n0 ∧ n0 ≤ 256) = false) : Calls Tryd.prog 9 #[.agg #[.int .i64 n0, .int .i64 n1, .int .i64 n2, .int .i64 n3, .int .i64 n4, .int .i64 n5]] w (Gives (· = .int .i64 200) w) := by
  have hS := conf_start n0 n1 n2 n3 n4 n5 w
  have H0 := Lib.hid h0
  clear h0
  go_enter Tryd.func9, Tryd.ntmps9
  go_wp2_with ((with_reducible refine guard_list ?_); first | (refine held_call _ rfl ?_))
  generalize w.alloc (.cells #[.int .i64 n0, .int .i64 n1, .int .i64 n2, .int .i64 n3, .int .i64 n4, .int .i64 n5] 23) = w0 at hS ⊢
  obtain ⟨M, hM⟩ : ∃ M, M = w0.heap.size := ⟨_, rfl⟩
  refine hide_held fun t0 HT => ?_
  have HS : t0.size = 38 := by rw [HT]; rfl
  have h1 : t0[1]? = some (.pointer (some ⟨w.heap.size, 0, none⟩)) := by rw [HT]; rfl
  refine wp_from_most 32 (fun i => [4, 5, 6, 7, 8, 9, 10, 11, 12, 13, 14, 15, 16, 17, 18, 19, 20, 21, 22, 23, 24, 25, 26, 27, 28, 29, 30, 31, 32, 33, 34, 35].getD i 0) (fun _ => none) (fun i => [(fun _ => True), (· = .int .i64 n0), (· = .bool false), (· = .bool false), (· = undef), (· = undef), (· = undef), (· = .bool false), (· = .bool false), (· = undef), (· = undef), (· = undef), (· = .bool false), (· = .bool false), (· = undef), (· = undef), (· = undef), (· = undef), (· = undef), (· = undef), (· = undef), (· = .bool false), (· = .bool false), (· = undef), (· = undef), (· = undef), (· = .bool false), (· = .bool false), (· = undef), (· = undef), (· = undef), (· = .bool false)].getD i (fun _ => True)) (fun w' => Own w [(w.heap.size, 6, (· = .agg #[.int .i64 n0, .int .i64 n1, .int .i64 n2, .int .i64 n3, .int .i64 n4, .int .i64 n5]))] w' ∧ M ≤ w'.heap.size) M
    2 (by omega) (by kernel_rfl) ?_ (slots_apart (by kernel_rfl)) (slots_lie (by rw [HS]; kernel_rfl)) ⟨hS, Nat.le_of_eq hM⟩ (fun w' h => h.2) (fun w1 w2 h b => ⟨h.1.keep b, Nat.le_trans h.2 b.size⟩) ?_ ?_ ?_
  · intro j hj _
    have hc : j = 0 ∨ j = 1 := by omega
    rcases hc with rfl | rfl
    · exact ⟨rfl, _, by rw [HT]; rfl, trivial⟩
    · exact ⟨rfl, _, by rw [HT]; rfl, rfl⟩
  · clear hS
    intro i o h0i hi ho hA
    have hc : i = 2 ∨ i = 3 ∨ i = 4 ∨ i = 5 ∨ i = 6 ∨ i = 7 ∨ i = 8 ∨ i = 9 ∨ i = 10 ∨ i = 11 ∨ i = 12 ∨ i = 13 ∨ i = 14 ∨ i = 15 ∨ i = 16 ∨ i = 17 ∨ i = 18 ∨ i = 19 ∨ i = 20 ∨ i = 21 ∨ i = 22 ∨ i = 23 ∨ i = 24 ∨ i = 25 ∨ i = 26 ∨ i = 27 ∨ i = 28 ∨ i = 29 ∨ i = 30 ∨ i = 31 := by omega
    rcases hc with rfl | rfl | rfl | rfl | rfl | rfl | rfl | rfl | rfl | rfl | rfl | rfl | rfl | rfl | rfl | rfl | rfl | rfl | rfl | rfl | rfl | rfl | rfl | rfl | rfl | rfl | rfl | rfl | rfl | rfl
    · obtain rfl := Option.some.inj ho
      refine ⟨rfl, fun a w' hS hold hin K hK => ?_⟩
      obtain ⟨y1, x1, rfl⟩ := hin 1 rfl (by omega) rfl
      refine if_always rfl ?_
      exact op_fn3 _ _ _ _ _ _ _ _ rfl rfl (eval_tmp x1) rfl rfl (by intro args w; kernel_rfl) (within_ev H0.out _) hK
    · obtain rfl := Option.some.inj ho
      refine ⟨rfl, fun a w' hS hold hin K hK => ?_⟩
      obtain ⟨y2, x2, rfl⟩ := hin 2 rfl (by omega) rfl
      refine if_always rfl ?_
      exact op_move (V := (· = .bool false)) _ _ rfl rfl (eval_tmp x2) rfl hK
    · obtain rfl := Option.some.inj ho
      refine ⟨rfl, fun a w' hS hold hin K hK => ?_⟩
      obtain ⟨y3, x3, rfl⟩ := hin 3 rfl (by omega) rfl
      exact if_guard_off (d := 7) rfl rfl x3 (by decide) (hK _ _ rfl (Below.refl _ _))
    · obtain rfl := Option.some.inj ho
      refine ⟨rfl, fun a w' hS hold hin K hK => ?_⟩
      obtain ⟨y3, x3, rfl⟩ := hin 3 rfl (by omega) rfl
      exact if_guard_off (d := 7) rfl rfl x3 (by decide) (hK _ _ rfl (Below.refl _ _))
    · obtain rfl := Option.some.inj ho
      refine ⟨rfl, fun a w' hS hold hin K hK => ?_⟩
      obtain ⟨y3, x3, rfl⟩ := hin 3 rfl (by omega) rfl
      exact if_guard_off (d := 7) rfl rfl x3 (by decide) (hK _ _ rfl (Below.refl _ _))
    · obtain rfl := Option.some.inj ho
      refine ⟨rfl, fun a w' hS hold hin K hK => ?_⟩
      obtain ⟨y3, x3, rfl⟩ := hin 3 rfl (by omega) rfl
      refine if_always rfl ?_
      exact op_pick (V := (· = .bool false)) _ _ _ false _ rfl rfl (eval_tmp x3) (show Act.eval a (.const (.bool false)) = (.bool false) from rfl) rfl hK
    · obtain rfl := Option.some.inj ho
      refine ⟨rfl, fun a w' hS hold hin K hK => ?_⟩
      obtain ⟨y7, x7, rfl⟩ := hin 7 rfl (by omega) rfl
      refine if_always rfl ?_
      exact op_move (V := (· = .bool false)) _ _ rfl rfl (eval_tmp x7) rfl hK
    · obtain rfl := Option.some.inj ho
      refine ⟨rfl, fun a w' hS hold hin K hK => ?_⟩
      obtain ⟨y8, x8, rfl⟩ := hin 8 rfl (by omega) rfl
      exact if_guard_off (d := 12) rfl rfl x8 (by decide) (hK _ _ rfl (Below.refl _ _))
    · obtain rfl := Option.some.inj ho
      refine ⟨rfl, fun a w' hS hold hin K hK => ?_⟩
      obtain ⟨y8, x8, rfl⟩ := hin 8 rfl (by omega) rfl
      exact if_guard_off (d := 12) rfl rfl x8 (by decide) (hK _ _ rfl (Below.refl _ _))
    · obtain rfl := Option.some.inj ho
      refine ⟨rfl, fun a w' hS hold hin K hK => ?_⟩
      obtain ⟨y8, x8, rfl⟩ := hin 8 rfl (by omega) rfl
      exact if_guard_off (d := 12) rfl rfl x8 (by decide) (hK _ _ rfl (Below.refl _ _))
    · obtain rfl := Option.some.inj ho
      refine ⟨rfl, fun a w' hS hold hin K hK => ?_⟩
      obtain ⟨y8, x8, rfl⟩ := hin 8 rfl (by omega) rfl
      refine if_always rfl ?_
      exact op_pick (V := (· = .bool false)) _ _ _ false _ rfl rfl (eval_tmp x8) (show Act.eval a (.const (.bool false)) = (.bool false) from rfl) rfl hK
    · obtain rfl := Option.some.inj ho
      refine ⟨rfl, fun a w' hS hold hin K hK => ?_⟩
      obtain ⟨y12, x12, rfl⟩ := hin 12 rfl (by omega) rfl
      refine if_always rfl ?_
      exact op_move (V := (· = .bool false)) _ _ rfl rfl (eval_tmp x12) rfl hK
    · obtain rfl := Option.some.inj ho
      refine ⟨rfl, fun a w' hS hold hin K hK => ?_⟩
      obtain ⟨y13, x13, rfl⟩ := hin 13 rfl (by omega) rfl
      exact if_guard_off (d := 17) rfl rfl x13 (by decide) (hK _ _ rfl (Below.refl _ _))
    · obtain rfl := Option.some.inj ho
      refine ⟨rfl, fun a w' hS hold hin K hK => ?_⟩
      obtain ⟨y13, x13, rfl⟩ := hin 13 rfl (by omega) rfl
      exact if_guard_off (d := 17) rfl rfl x13 (by decide) (hK _ _ rfl (Below.refl _ _))
    · obtain rfl := Option.some.inj ho
      refine ⟨rfl, fun a w' hS hold hin K hK => ?_⟩
      obtain ⟨y13, x13, rfl⟩ := hin 13 rfl (by omega) rfl
      exact if_guard_off (d := 17) rfl rfl x13 (by decide) (hK _ _ rfl (Below.refl _ _))
    · obtain rfl := Option.some.inj ho
      refine ⟨rfl, fun a w' hS hold hin K hK => ?_⟩
      obtain ⟨y13, x13, rfl⟩ := hin 13 rfl (by omega) rfl
      exact if_guard_off (d := 17) rfl rfl x13 (by decide) (hK _ _ rfl (Below.refl _ _))
    · obtain rfl := Option.some.inj ho
      refine ⟨rfl, fun a w' hS hold hin K hK => ?_⟩
      obtain ⟨y13, x13, rfl⟩ := hin 13 rfl (by omega) rfl
      exact if_guard_off (d := 17) rfl rfl x13 (by decide) (hK _ _ rfl (Below.refl _ _))
    · obtain rfl := Option.some.inj ho
      refine ⟨rfl, fun a w' hS hold hin K hK => ?_⟩
      obtain ⟨y13, x13, rfl⟩ := hin 13 rfl (by omega) rfl
      exact if_guard_off (d := 17) rfl rfl x13 (by decide) (hK _ _ rfl (Below.refl _ _))
    · obtain rfl := Option.some.inj ho
      refine ⟨rfl, fun a w' hS hold hin K hK => ?_⟩
      obtain ⟨y13, x13, rfl⟩ := hin 13 rfl (by omega) rfl
      exact if_guard_off (d := 17) rfl rfl x13 (by decide) (hK _ _ rfl (Below.refl _ _))
    · obtain rfl := Option.some.inj ho
      refine ⟨rfl, fun a w' hS hold hin K hK => ?_⟩
      obtain ⟨y13, x13, rfl⟩ := hin 13 rfl (by omega) rfl
      refine if_always rfl ?_
      exact op_pick (V := (· = .bool false)) _ _ _ false _ rfl rfl (eval_tmp x13) (show Act.eval a (.const (.bool false)) = (.bool false) from rfl) rfl hK
    · obtain rfl := Option.some.inj ho
      refine ⟨rfl, fun a w' hS hold hin K hK => ?_⟩
      obtain ⟨y21, x21, rfl⟩ := hin 21 rfl (by omega) rfl
      refine if_always rfl ?_
      exact op_move (V := (· = .bool false)) _ _ rfl rfl (eval_tmp x21) rfl hK
    · obtain rfl := Option.some.inj ho
      refine ⟨rfl, fun a w' hS hold hin K hK => ?_⟩
      obtain ⟨y22, x22, rfl⟩ := hin 22 rfl (by omega) rfl
      exact if_guard_off (d := 26) rfl rfl x22 (by decide) (hK _ _ rfl (Below.refl _ _))
    · obtain rfl := Option.some.inj ho
      refine ⟨rfl, fun a w' hS hold hin K hK => ?_⟩
      obtain ⟨y22, x22, rfl⟩ := hin 22 rfl (by omega) rfl
      exact if_guard_off (d := 26) rfl rfl x22 (by decide) (hK _ _ rfl (Below.refl _ _))
    · obtain rfl := Option.some.inj ho
      refine ⟨rfl, fun a w' hS hold hin K hK => ?_⟩
      obtain ⟨y22, x22, rfl⟩ := hin 22 rfl (by omega) rfl
      exact if_guard_off (d := 26) rfl rfl x22 (by decide) (hK _ _ rfl (Below.refl _ _))
    · obtain rfl := Option.some.inj ho
      refine ⟨rfl, fun a w' hS hold hin K hK => ?_⟩
      obtain ⟨y22, x22, rfl⟩ := hin 22 rfl (by omega) rfl
      refine if_always rfl ?_
      exact op_pick (V := (· = .bool false)) _ _ _ false _ rfl rfl (eval_tmp x22) (show Act.eval a (.const (.bool false)) = (.bool false) from rfl) rfl hK
    · obtain rfl := Option.some.inj ho
      refine ⟨rfl, fun a w' hS hold hin K hK => ?_⟩
      obtain ⟨y26, x26, rfl⟩ := hin 26 rfl (by omega) rfl
      refine if_always rfl ?_
      exact op_move (V := (· = .bool false)) _ _ rfl rfl (eval_tmp x26) rfl hK
    · obtain rfl := Option.some.inj ho
      refine ⟨rfl, fun a w' hS hold hin K hK => ?_⟩
      obtain ⟨y27, x27, rfl⟩ := hin 27 rfl (by omega) rfl
      exact if_guard_off (d := 31) rfl rfl x27 (by decide) (hK _ _ rfl (Below.refl _ _))
    · obtain rfl := Option.some.inj ho
      refine ⟨rfl, fun a w' hS hold hin K hK => ?_⟩
      obtain ⟨y27, x27, rfl⟩ := hin 27 rfl (by omega) rfl
      exact if_guard_off (d := 31) rfl rfl x27 (by decide) (hK _ _ rfl (Below.refl _ _))
    · obtain rfl := Option.some.inj ho
      refine ⟨rfl, fun a w' hS hold hin K hK => ?_⟩
      obtain ⟨y27, x27, rfl⟩ := hin 27 rfl (by omega) rfl
      exact if_guard_off (d := 31) rfl rfl x27 (by decide) (hK _ _ rfl (Below.refl _ _))
    · obtain rfl := Option.some.inj ho
      refine ⟨rfl, fun a w' hS hold hin K hK => ?_⟩
      obtain ⟨y27, x27, rfl⟩ := hin 27 rfl (by omega) rfl
      refine if_always rfl ?_
      exact op_pick (V := (· = .bool false)) _ _ _ false _ rfl rfl (eval_tmp x27) (show Act.eval a (.const (.bool false)) = (.bool false) from rfl) rfl hK
  · intro i o sz h0i hi ho hA; cases hA
  clear hS
  intro t1 V1 hs hold hout hall hne hS
  replace HS := hs.trans HS
  replace hS := hS.1
  obtain ⟨x35, q35, v35⟩ : ∃ x, t1[35]? = some x ∧ ((· = .bool false)) x := hout 31 (by omega) rfl
  replace q35 : t1[35]? = some (.bool false) := q35.trans (congrArg some v35)
  replace h1 := (hold 1 (slots_not (by kernel_rfl))).trans h1
  clear hold hout hs hall hne
  simp only [List.drop_succ_cons, List.drop_zero]
  refine tlx_assign (.tmp 35) rfl rfl 3 rfl (by rw [HS]; decide) (.bool false) (eval_tmp q35) fun t1 ex0 hz hq he => ?_
  replace h1 := (he 1 (by decide)).trans h1
  replace q35 := (he 35 (by decide)).trans q35
  replace HS := hz.trans HS
  clear hz he ex0
  have h3 := hq
  clear hq
  refine wpList_nil ?_
  clear HT
  obtain ⟨f, e0, hf⟩ := wash HS
  have f1 := hf 1 _ h1
  have f3 := hf 3 _ h3
  clear hf
  rw [e0.trans (show _ = #[f 0, f 1, f 2, f 3, f 4, f 5, f 6, f 7, f 8, f 9, f 10, f 11, f 12, f 13, f 14, f 15, f 16, f 17, f 18, f 19, f 20, f 21, f 22, f 23, f 24, f 25, f 26, f 27, f 28, f 29, f 30, f 31, f 32, f 33, f 34, f 35, f 36, f 37] from by kernel_rfl), f1, f3]
  clear f1 f3
  clear e0
  try dsimp only
  clear h1 h3 q35 v35 hM HS t1 t0 M
  go_wp2_with fail
  exact ⟨rfl, .int .i64 200, by kernel_rfl, _, rfl, rfl, hS.1⟩
set_option maxHeartbeats 2000000 in
set_option maxRecDepth 100000 in
theorem check20_1 (n0 n1 n2 n3 n4 n5 : Int) (w : World) (h0 : decide (1 ≤ n0 ∧ n0 ≤ 256) = true) (h1 : decide (32 ≤ n1 ∧ n1 ≤ 512) = false) : Calls Tryd.prog 9 #[.agg #[.int .i64 n0, .int .i64 n1, .int .i64 n2, .int .i64 n3, .int .i64 n4, .int .i64 n5]] w (Gives (· = .int .i64 200) w) := by
  have hS := conf_start n0 n1 n2 n3 n4 n5 w
  have H0 := Lib.hid h0
  have H1 := Lib.hid h1
  clear h0 h1
  go_enter Tryd.func9, Tryd.ntmps9
  go_wp2_with ((with_reducible refine guard_list ?_); first | (refine held_call _ rfl ?_))
  generalize w.alloc (.cells #[.int .i64 n0, .int .i64 n1, .int .i64 n2, .int .i64 n3, .int .i64 n4, .int .i64 n5] 23) = w0 at hS ⊢
  obtain ⟨M, hM⟩ : ∃ M, M = w0.heap.size := ⟨_, rfl⟩
  refine hide_held fun t0 HT => ?_
  have HS : t0.size = 38 := by rw [HT]; rfl
  have h1 : t0[1]? = some (.pointer (some ⟨w.heap.size, 0, none⟩)) := by rw [HT]; rfl
  refine wp_from_most 32 (fun i => [4, 5, 6, 7, 8, 9, 10, 11, 12, 13, 14, 15, 16, 17, 18, 19, 20, 21, 22, 23, 24, 25, 26, 27, 28, 29, 30, 31, 32, 33, 34, 35].getD i 0) (fun _ => none) (fun i => [(fun _ => True), (· = .int .i64 n0), (· = .bool true), (· = .bool true), (· = .pointer (some ⟨w.heap.size, 1, none⟩)), (· = .int .i64 n1), (· = .bool false), (· = .bool false), (· = .bool false), (· = undef), (· = undef), (· = undef), (· = .bool false), (· = .bool false), (· = undef), (· = undef), (· = undef), (· = undef), (· = undef), (· = undef), (· = undef), (· = .bool false), (· = .bool false), (· = undef), (· = undef), (· = undef), (· = .bool false), (· = .bool false), (· = undef), (· = undef), (· = undef), (· = .bool false)].getD i (fun _ => True)) (fun w' => Own w [(w.heap.size, 6, (· = .agg #[.int .i64 n0, .int .i64 n1, .int .i64 n2, .int .i64 n3, .int .i64 n4, .int .i64 n5]))] w' ∧ M ≤ w'.heap.size) M
    2 (by omega) (by kernel_rfl) ?_ (slots_apart (by kernel_rfl)) (slots_lie (by rw [HS]; kernel_rfl)) ⟨hS, Nat.le_of_eq hM⟩ (fun w' h => h.2) (fun w1 w2 h b => ⟨h.1.keep b, Nat.le_trans h.2 b.size⟩) ?_ ?_ ?_
  · intro j hj _
    have hc : j = 0 ∨ j = 1 := by omega
    rcases hc with rfl | rfl
    · exact ⟨rfl, _, by rw [HT]; rfl, trivial⟩
    · exact ⟨rfl, _, by rw [HT]; rfl, rfl⟩
  · clear hS
    intro i o h0i hi ho hA
    have hc : i = 2 ∨ i = 3 ∨ i = 4 ∨ i = 5 ∨ i = 6 ∨ i = 7 ∨ i = 8 ∨ i = 9 ∨ i = 10 ∨ i = 11 ∨ i = 12 ∨ i = 13 ∨ i = 14 ∨ i = 15 ∨ i = 16 ∨ i = 17 ∨ i = 18 ∨ i = 19 ∨ i = 20 ∨ i = 21 ∨ i = 22 ∨ i = 23 ∨ i = 24 ∨ i = 25 ∨ i = 26 ∨ i = 27 ∨ i = 28 ∨ i = 29 ∨ i = 30 ∨ i = 31 := by omega
    rcases hc with rfl | rfl | rfl | rfl | rfl | rfl | rfl | rfl | rfl | rfl | rfl | rfl | rfl | rfl | rfl | rfl | rfl | rfl | rfl | rfl | rfl | rfl | rfl | rfl | rfl | rfl | rfl | rfl | rfl | rfl
    · obtain rfl := Option.some.inj ho
      refine ⟨rfl, fun a w' hS hold hin K hK => ?_⟩
      obtain ⟨y1, x1, rfl⟩ := hin 1 rfl (by omega) rfl
      refine if_always rfl ?_
      exact op_fn3 _ _ _ _ _ _ _ _ rfl rfl (eval_tmp x1) rfl rfl (by intro args w; kernel_rfl) (within_ev H0.out _) hK
    · obtain rfl := Option.some.inj ho
      refine ⟨rfl, fun a w' hS hold hin K hK => ?_⟩
      obtain ⟨y2, x2, rfl⟩ := hin 2 rfl (by omega) rfl
      refine if_always rfl ?_
      exact op_move (V := (· = .bool true)) _ _ rfl rfl (eval_tmp x2) rfl hK
    · obtain rfl := Option.some.inj ho
      refine ⟨rfl, fun a w' hS hold hin K hK => ?_⟩
      obtain ⟨y3, x3, rfl⟩ := hin 3 rfl (by omega) rfl
      refine if_guard (d := 7) rfl rfl x3 ?_
      exact op_field 23 _ 1 _ (.pointer (some ⟨w.heap.size, 1, none⟩)) rfl rfl (eval_tmp ((hold 1 (slots_not (by kernel_rfl))).trans h1)) (fun w => by kernel_rfl) hK
    · obtain rfl := Option.some.inj ho
      refine ⟨rfl, fun a w' hS hold hin K hK => ?_⟩
      obtain ⟨y3, x3, rfl⟩ := hin 3 rfl (by omega) rfl
      obtain ⟨y4, x4, rfl⟩ := hin 4 rfl (by omega) rfl
      refine if_guard (d := 7) rfl rfl x3 ?_
      exact op_cell_own tInt _ w.heap.size 1 rfl rfl (eval_tmp x4) hS.1 0 _ _ rfl (.int .i64 n1) rfl hK
    · obtain rfl := Option.some.inj ho
      refine ⟨rfl, fun a w' hS hold hin K hK => ?_⟩
      obtain ⟨y3, x3, rfl⟩ := hin 3 rfl (by omega) rfl
      obtain ⟨y5, x5, rfl⟩ := hin 5 rfl (by omega) rfl
      refine if_guard (d := 7) rfl rfl x3 ?_
      exact op_fn3 _ _ _ _ _ _ _ _ rfl rfl (eval_tmp x5) rfl rfl (by intro args w; kernel_rfl) (within_ev H1.out _) hK
    · obtain rfl := Option.some.inj ho
      refine ⟨rfl, fun a w' hS hold hin K hK => ?_⟩
      obtain ⟨y3, x3, rfl⟩ := hin 3 rfl (by omega) rfl
      obtain ⟨y6, x6, rfl⟩ := hin 6 rfl (by omega) rfl
      refine if_always rfl ?_
      exact op_pick (V := (· = .bool false)) _ _ _ true _ rfl rfl (eval_tmp x3) (show (Act.eval a _) = _ from (eval_tmp x6)) rfl hK
    · obtain rfl := Option.some.inj ho
      refine ⟨rfl, fun a w' hS hold hin K hK => ?_⟩
      obtain ⟨y7, x7, rfl⟩ := hin 7 rfl (by omega) rfl
      refine if_always rfl ?_
      exact op_move (V := (· = .bool false)) _ _ rfl rfl (eval_tmp x7) rfl hK
    · obtain rfl := Option.some.inj ho
      refine ⟨rfl, fun a w' hS hold hin K hK => ?_⟩
      obtain ⟨y8, x8, rfl⟩ := hin 8 rfl (by omega) rfl
      exact if_guard_off (d := 12) rfl rfl x8 (by decide) (hK _ _ rfl (Below.refl _ _))
    · obtain rfl := Option.some.inj ho
      refine ⟨rfl, fun a w' hS hold hin K hK => ?_⟩
      obtain ⟨y8, x8, rfl⟩ := hin 8 rfl (by omega) rfl
      exact if_guard_off (d := 12) rfl rfl x8 (by decide) (hK _ _ rfl (Below.refl _ _))
    · obtain rfl := Option.some.inj ho
      refine ⟨rfl, fun a w' hS hold hin K hK => ?_⟩
      obtain ⟨y8, x8, rfl⟩ := hin 8 rfl (by omega) rfl
      exact if_guard_off (d := 12) rfl rfl x8 (by decide) (hK _ _ rfl (Below.refl _ _))
    · obtain rfl := Option.some.inj ho
      refine ⟨rfl, fun a w' hS hold hin K hK => ?_⟩
      obtain ⟨y8, x8, rfl⟩ := hin 8 rfl (by omega) rfl
      refine if_always rfl ?_
      exact op_pick (V := (· = .bool false)) _ _ _ false _ rfl rfl (eval_tmp x8) (show Act.eval a (.const (.bool false)) = (.bool false) from rfl) rfl hK
    · obtain rfl := Option.some.inj ho
      refine ⟨rfl, fun a w' hS hold hin K hK => ?_⟩
      obtain ⟨y12, x12, rfl⟩ := hin 12 rfl (by omega) rfl
      refine if_always rfl ?_
      exact op_move (V := (· = .bool false)) _ _ rfl rfl (eval_tmp x12) rfl hK
    · obtain rfl := Option.some.inj ho
      refine ⟨rfl, fun a w' hS hold hin K hK => ?_⟩
      obtain ⟨y13, x13, rfl⟩ := hin 13 rfl (by omega) rfl
      exact if_guard_off (d := 17) rfl rfl x13 (by decide) (hK _ _ rfl (Below.refl _ _))
    · obtain rfl := Option.some.inj ho
      refine ⟨rfl, fun a w' hS hold hin K hK => ?_⟩
      obtain ⟨y13, x13, rfl⟩ := hin 13 rfl (by omega) rfl
      exact if_guard_off (d := 17) rfl rfl x13 (by decide) (hK _ _ rfl (Below.refl _ _))
    · obtain rfl := Option.some.inj ho
      refine ⟨rfl, fun a w' hS hold hin K hK => ?_⟩
      obtain ⟨y13, x13, rfl⟩ := hin 13 rfl (by omega) rfl
      exact if_guard_off (d := 17) rfl rfl x13 (by decide) (hK _ _ rfl (Below.refl _ _))
    · obtain rfl := Option.some.inj ho
      refine ⟨rfl, fun a w' hS hold hin K hK => ?_⟩
      obtain ⟨y13, x13, rfl⟩ := hin 13 rfl (by omega) rfl
      exact if_guard_off (d := 17) rfl rfl x13 (by decide) (hK _ _ rfl (Below.refl _ _))
    · obtain rfl := Option.some.inj ho
      refine ⟨rfl, fun a w' hS hold hin K hK => ?_⟩
      obtain ⟨y13, x13, rfl⟩ := hin 13 rfl (by omega) rfl
      exact if_guard_off (d := 17) rfl rfl x13 (by decide) (hK _ _ rfl (Below.refl _ _))
    · obtain rfl := Option.some.inj ho
      refine ⟨rfl, fun a w' hS hold hin K hK => ?_⟩
      obtain ⟨y13, x13, rfl⟩ := hin 13 rfl (by omega) rfl
      exact if_guard_off (d := 17) rfl rfl x13 (by decide) (hK _ _ rfl (Below.refl _ _))
    · obtain rfl := Option.some.inj ho
      refine ⟨rfl, fun a w' hS hold hin K hK => ?_⟩
      obtain ⟨y13, x13, rfl⟩ := hin 13 rfl (by omega) rfl
      exact if_guard_off (d := 17) rfl rfl x13 (by decide) (hK _ _ rfl (Below.refl _ _))
    · obtain rfl := Option.some.inj ho
      refine ⟨rfl, fun a w' hS hold hin K hK => ?_⟩
      obtain ⟨y13, x13, rfl⟩ := hin 13 rfl (by omega) rfl
      refine if_always rfl ?_
      exact op_pick (V := (· = .bool false)) _ _ _ false _ rfl rfl (eval_tmp x13) (show Act.eval a (.const (.bool false)) = (.bool false) from rfl) rfl hK
    · obtain rfl := Option.some.inj ho
      refine ⟨rfl, fun a w' hS hold hin K hK => ?_⟩
      obtain ⟨y21, x21, rfl⟩ := hin 21 rfl (by omega) rfl
      refine if_always rfl ?_
      exact op_move (V := (· = .bool false)) _ _ rfl rfl (eval_tmp x21) rfl hK
    · obtain rfl := Option.some.inj ho
      refine ⟨rfl, fun a w' hS hold hin K hK => ?_⟩
      obtain ⟨y22, x22, rfl⟩ := hin 22 rfl (by omega) rfl
      exact if_guard_off (d := 26) rfl rfl x22 (by decide) (hK _ _ rfl (Below.refl _ _))
    · obtain rfl := Option.some.inj ho
      refine ⟨rfl, fun a w' hS hold hin K hK => ?_⟩
      obtain ⟨y22, x22, rfl⟩ := hin 22 rfl (by omega) rfl
      exact if_guard_off (d := 26) rfl rfl x22 (by decide) (hK _ _ rfl (Below.refl _ _))
    · obtain rfl := Option.some.inj ho
      refine ⟨rfl, fun a w' hS hold hin K hK => ?_⟩
      obtain ⟨y22, x22, rfl⟩ := hin 22 rfl (by omega) rfl
      exact if_guard_off (d := 26) rfl rfl x22 (by decide) (hK _ _ rfl (Below.refl _ _))
    · obtain rfl := Option.some.inj ho
      refine ⟨rfl, fun a w' hS hold hin K hK => ?_⟩
      obtain ⟨y22, x22, rfl⟩ := hin 22 rfl (by omega) rfl
      refine if_always rfl ?_
      exact op_pick (V := (· = .bool false)) _ _ _ false _ rfl rfl (eval_tmp x22) (show Act.eval a (.const (.bool false)) = (.bool false) from rfl) rfl hK
    · obtain rfl := Option.some.inj ho
      refine ⟨rfl, fun a w' hS hold hin K hK => ?_⟩
      obtain ⟨y26, x26, rfl⟩ := hin 26 rfl (by omega) rfl
      refine if_always rfl ?_
      exact op_move (V := (· = .bool false)) _ _ rfl rfl (eval_tmp x26) rfl hK
    · obtain rfl := Option.some.inj ho
      refine ⟨rfl, fun a w' hS hold hin K hK => ?_⟩
      obtain ⟨y27, x27, rfl⟩ := hin 27 rfl (by omega) rfl
      exact if_guard_off (d := 31) rfl rfl x27 (by decide) (hK _ _ rfl (Below.refl _ _))
    · obtain rfl := Option.some.inj ho
      refine ⟨rfl, fun a w' hS hold hin K hK => ?_⟩
      obtain ⟨y27, x27, rfl⟩ := hin 27 rfl (by omega) rfl
      exact if_guard_off (d := 31) rfl rfl x27 (by decide) (hK _ _ rfl (Below.refl _ _))
    · obtain rfl := Option.some.inj ho
      refine ⟨rfl, fun a w' hS hold hin K hK => ?_⟩
      obtain ⟨y27, x27, rfl⟩ := hin 27 rfl (by omega) rfl
      exact if_guard_off (d := 31) rfl rfl x27 (by decide) (hK _ _ rfl (Below.refl _ _))
    · obtain rfl := Option.some.inj ho
      refine ⟨rfl, fun a w' hS hold hin K hK => ?_⟩
      obtain ⟨y27, x27, rfl⟩ := hin 27 rfl (by omega) rfl
      refine if_always rfl ?_
      exact op_pick (V := (· = .bool false)) _ _ _ false _ rfl rfl (eval_tmp x27) (show Act.eval a (.const (.bool false)) = (.bool false) from rfl) rfl hK
  · intro i o sz h0i hi ho hA; cases hA
  clear hS
  intro t1 V1 hs hold hout hall hne hS
  replace HS := hs.trans HS
  replace hS := hS.1
  obtain ⟨x35, q35, v35⟩ : ∃ x, t1[35]? = some x ∧ ((· = .bool false)) x := hout 31 (by omega) rfl
  replace q35 : t1[35]? = some (.bool false) := q35.trans (congrArg some v35)
  replace h1 := (hold 1 (slots_not (by kernel_rfl))).trans h1
  clear hold hout hs hall hne
  simp only [List.drop_succ_cons, List.drop_zero]
  refine tlx_assign (.tmp 35) rfl rfl 3 rfl (by rw [HS]; decide) (.bool false) (eval_tmp q35) fun t1 ex0 hz hq he => ?_
  replace h1 := (he 1 (by decide)).trans h1
  replace q35 := (he 35 (by decide)).trans q35
  replace HS := hz.trans HS
  clear hz he ex0
  have h3 := hq
  clear hq
  refine wpList_nil ?_
  clear HT
  obtain ⟨f, e0, hf⟩ := wash HS
  have f1 := hf 1 _ h1
  have f3 := hf 3 _ h3
  clear hf
  rw [e0.trans (show _ = #[f 0, f 1, f 2, f 3, f 4, f 5, f 6, f 7, f 8, f 9, f 10, f 11, f 12, f 13, f 14, f 15, f 16, f 17, f 18, f 19, f 20, f 21, f 22, f 23, f 24, f 25, f 26, f 27, f 28, f 29, f 30, f 31, f 32, f 33, f 34, f 35, f 36, f 37] from by kernel_rfl), f1, f3]
  clear f1 f3
  clear e0
  try dsimp only
  clear h1 h3 q35 v35 hM HS t1 t0 M
  go_wp2_with fail
  exact ⟨rfl, .int .i64 200, by kernel_rfl, _, rfl, rfl, hS.1⟩
set_option maxHeartbeats 2000000 in
set_option maxRecDepth 100000 in
theorem check20_2 (n0 n1 n2 n3 n4 n5 : Int) (w : World) (h0 : decide (1 ≤ n0 ∧ n0 ≤ 256) = true) (h1 : decide (32 ≤ n1 ∧ n1 ≤ 512) = true) (h2 : decide (2 ≤ n2 ∧ n2 ≤ 64) = false) : Calls Tryd.prog 9 #[.agg #[.int .i64 n0, .int .i64 n1, .int .i64 n2, .int .i64 n3, .int .i64 n4, .int .i64 n5]] w (Gives (· = .int .i64 200) w) := by
  have hS := conf_start n0 n1 n2 n3 n4 n5 w
  have H0 := Lib.hid h0
  have H1 := Lib.hid h1
  have H2 := Lib.hid h2
  clear h0 h1 h2
  go_enter Tryd.func9, Tryd.ntmps9
  go_wp2_with ((with_reducible refine guard_list ?_); first | (refine held_call _ rfl ?_))
  generalize w.alloc (.cells #[.int .i64 n0, .int .i64 n1, .int .i64 n2, .int .i64 n3, .int .i64 n4, .int .i64 n5] 23) = w0 at hS ⊢
  obtain ⟨M, hM⟩ : ∃ M, M = w0.heap.size := ⟨_, rfl⟩
  refine hide_held fun t0 HT => ?_
  have HS : t0.size = 38 := by rw [HT]; rfl
  have h1 : t0[1]? = some (.pointer (some ⟨w.heap.size, 0, none⟩)) := by rw [HT]; rfl
  refine wp_from_most 32 (fun i => [4, 5, 6, 7, 8, 9, 10, 11, 12, 13, 14, 15, 16, 17, 18, 19, 20, 21, 22, 23, 24, 25, 26, 27, 28, 29, 30, 31, 32, 33, 34, 35].getD i 0) (fun _ => none) (fun i => [(fun _ => True), (· = .int .i64 n0), (· = .bool true), (· = .bool true), (· = .pointer (some ⟨w.heap.size, 1, none⟩)), (· = .int .i64 n1), (· = .bool true), (· = .bool true), (· = .bool true), (· = .pointer (some ⟨w.heap.size, 2, none⟩)), (· = .int .i64 n2), (· = .bool false), (· = .bool false), (· = .bool false), (· = undef), (· = undef), (· = undef), (· = undef), (· = undef), (· = undef), (· = undef), (· = .bool false), (· = .bool false), (· = undef), (· = undef), (· = undef), (· = .bool false), (· = .bool false), (· = undef), (· = undef), (· = undef), (· = .bool false)].getD i (fun _ => True)) (fun w' => Own w [(w.heap.size, 6, (· = .agg #[.int .i64 n0, .int .i64 n1, .int .i64 n2, .int .i64 n3, .int .i64 n4, .int .i64 n5]))] w' ∧ M ≤ w'.heap.size) M
    2 (by omega) (by kernel_rfl) ?_ (slots_apart (by kernel_rfl)) (slots_lie (by rw [HS]; kernel_rfl)) ⟨hS, Nat.le_of_eq hM⟩ (fun w' h => h.2) (fun w1 w2 h b => ⟨h.1.keep b, Nat.le_trans h.2 b.size⟩) ?_ ?_ ?_
  · intro j hj _
    have hc : j = 0 ∨ j = 1 := by omega
    rcases hc with rfl | rfl
    · exact ⟨rfl, _, by rw [HT]; rfl, trivial⟩
    · exact ⟨rfl, _, by rw [HT]; rfl, rfl⟩
  · clear hS
    intro i o h0i hi ho hA
    have hc : i = 2 ∨ i = 3 ∨ i = 4 ∨ i = 5 ∨ i = 6 ∨ i = 7 ∨ i = 8 ∨ i = 9 ∨ i = 10 ∨ i = 11 ∨ i = 12 ∨ i = 13 ∨ i = 14 ∨ i = 15 ∨ i = 16 ∨ i = 17 ∨ i = 18 ∨ i = 19 ∨ i = 20 ∨ i = 21 ∨ i = 22 ∨ i = 23 ∨ i = 24 ∨ i = 25 ∨ i = 26 ∨ i = 27 ∨ i = 28 ∨ i = 29 ∨ i = 30 ∨ i = 31 := by omega
    rcases hc with rfl | rfl | rfl | rfl | rfl | rfl | rfl | rfl | rfl | rfl | rfl | rfl | rfl | rfl | rfl | rfl | rfl | rfl | rfl | rfl | rfl | rfl | rfl | rfl | rfl | rfl | rfl | rfl | rfl | rfl
    · obtain rfl := Option.some.inj ho
      refine ⟨rfl, fun a w' hS hold hin K hK => ?_⟩
      obtain ⟨y1, x1, rfl⟩ := hin 1 rfl (by omega) rfl
      refine if_always rfl ?_
      exact op_fn3 _ _ _ _ _ _ _ _ rfl rfl (eval_tmp x1) rfl rfl (by intro args w; kernel_rfl) (within_ev H0.out _) hK
    · obtain rfl := Option.some.inj ho
      refine ⟨rfl, fun a w' hS hold hin K hK => ?_⟩
      obtain ⟨y2, x2, rfl⟩ := hin 2 rfl (by omega) rfl
      refine if_always rfl ?_
      exact op_move (V := (· = .bool true)) _ _ rfl rfl (eval_tmp x2) rfl hK
    · obtain rfl := Option.some.inj ho
      refine ⟨rfl, fun a w' hS hold hin K hK => ?_⟩
      obtain ⟨y3, x3, rfl⟩ := hin 3 rfl (by omega) rfl
      refine if_guard (d := 7) rfl rfl x3 ?_
      exact op_field 23 _ 1 _ (.pointer (some ⟨w.heap.size, 1, none⟩)) rfl rfl (eval_tmp ((hold 1 (slots_not (by kernel_rfl))).trans h1)) (fun w => by kernel_rfl) hK
    · obtain rfl := Option.some.inj ho
      refine ⟨rfl, fun a w' hS hold hin K hK => ?_⟩
      obtain ⟨y3, x3, rfl⟩ := hin 3 rfl (by omega) rfl
      obtain ⟨y4, x4, rfl⟩ := hin 4 rfl (by omega) rfl
      refine if_guard (d := 7) rfl rfl x3 ?_
      exact op_cell_own tInt _ w.heap.size 1 rfl rfl (eval_tmp x4) hS.1 0 _ _ rfl (.int .i64 n1) rfl hK
    · obtain rfl := Option.some.inj ho
      refine ⟨rfl, fun a w' hS hold hin K hK => ?_⟩
      obtain ⟨y3, x3, rfl⟩ := hin 3 rfl (by omega) rfl
      obtain ⟨y5, x5, rfl⟩ := hin 5 rfl (by omega) rfl
      refine if_guard (d := 7) rfl rfl x3 ?_
      exact op_fn3 _ _ _ _ _ _ _ _ rfl rfl (eval_tmp x5) rfl rfl (by intro args w; kernel_rfl) (within_ev H1.out _) hK
    · obtain rfl := Option.some.inj ho
      refine ⟨rfl, fun a w' hS hold hin K hK => ?_⟩
      obtain ⟨y3, x3, rfl⟩ := hin 3 rfl (by omega) rfl
      obtain ⟨y6, x6, rfl⟩ := hin 6 rfl (by omega) rfl
      refine if_always rfl ?_
      exact op_pick (V := (· = .bool true)) _ _ _ true _ rfl rfl (eval_tmp x3) (show (Act.eval a _) = _ from (eval_tmp x6)) rfl hK
    · obtain rfl := Option.some.inj ho
      refine ⟨rfl, fun a w' hS hold hin K hK => ?_⟩
      obtain ⟨y7, x7, rfl⟩ := hin 7 rfl (by omega) rfl
      refine if_always rfl ?_
      exact op_move (V := (· = .bool true)) _ _ rfl rfl (eval_tmp x7) rfl hK
    · obtain rfl := Option.some.inj ho
      refine ⟨rfl, fun a w' hS hold hin K hK => ?_⟩
      obtain ⟨y8, x8, rfl⟩ := hin 8 rfl (by omega) rfl
      refine if_guard (d := 12) rfl rfl x8 ?_
      exact op_field 23 _ 2 _ (.pointer (some ⟨w.heap.size, 2, none⟩)) rfl rfl (eval_tmp ((hold 1 (slots_not (by kernel_rfl))).trans h1)) (fun w => by kernel_rfl) hK
    · obtain rfl := Option.some.inj ho
      refine ⟨rfl, fun a w' hS hold hin K hK => ?_⟩
      obtain ⟨y8, x8, rfl⟩ := hin 8 rfl (by omega) rfl
      obtain ⟨y9, x9, rfl⟩ := hin 9 rfl (by omega) rfl
      refine if_guard (d := 12) rfl rfl x8 ?_
      exact op_cell_own tInt _ w.heap.size 2 rfl rfl (eval_tmp x9) hS.1 0 _ _ rfl (.int .i64 n2) rfl hK
    · obtain rfl := Option.some.inj ho
      refine ⟨rfl, fun a w' hS hold hin K hK => ?_⟩
      obtain ⟨y8, x8, rfl⟩ := hin 8 rfl (by omega) rfl
      obtain ⟨y10, x10, rfl⟩ := hin 10 rfl (by omega) rfl
      refine if_guard (d := 12) rfl rfl x8 ?_
      exact op_fn3 _ _ _ _ _ _ _ _ rfl rfl (eval_tmp x10) rfl rfl (by intro args w; kernel_rfl) (within_ev H2.out _) hK
    · obtain rfl := Option.some.inj ho
      refine ⟨rfl, fun a w' hS hold hin K hK => ?_⟩
      obtain ⟨y8, x8, rfl⟩ := hin 8 rfl (by omega) rfl
      obtain ⟨y11, x11, rfl⟩ := hin 11 rfl (by omega) rfl
      refine if_always rfl ?_
      exact op_pick (V := (· = .bool false)) _ _ _ true _ rfl rfl (eval_tmp x8) (show (Act.eval a _) = _ from (eval_tmp x11)) rfl hK
    · obtain rfl := Option.some.inj ho
      refine ⟨rfl, fun a w' hS hold hin K hK => ?_⟩
      obtain ⟨y12, x12, rfl⟩ := hin 12 rfl (by omega) rfl
      refine if_always rfl ?_
      exact op_move (V := (· = .bool false)) _ _ rfl rfl (eval_tmp x12) rfl hK
    · obtain rfl := Option.some.inj ho
      refine ⟨rfl, fun a w' hS hold hin K hK => ?_⟩
      obtain ⟨y13, x13, rfl⟩ := hin 13 rfl (by omega) rfl
      exact if_guard_off (d := 17) rfl rfl x13 (by decide) (hK _ _ rfl (Below.refl _ _))
    · obtain rfl := Option.some.inj ho
      refine ⟨rfl, fun a w' hS hold hin K hK => ?_⟩
      obtain ⟨y13, x13, rfl⟩ := hin 13 rfl (by omega) rfl
      exact if_guard_off (d := 17) rfl rfl x13 (by decide) (hK _ _ rfl (Below.refl _ _))
    · obtain rfl := Option.some.inj ho
      refine ⟨rfl, fun a w' hS hold hin K hK => ?_⟩
      obtain ⟨y13, x13, rfl⟩ := hin 13 rfl (by omega) rfl
      exact if_guard_off (d := 17) rfl rfl x13 (by decide) (hK _ _ rfl (Below.refl _ _))
    · obtain rfl := Option.some.inj ho
      refine ⟨rfl, fun a w' hS hold hin K hK => ?_⟩
      obtain ⟨y13, x13, rfl⟩ := hin 13 rfl (by omega) rfl
      exact if_guard_off (d := 17) rfl rfl x13 (by decide) (hK _ _ rfl (Below.refl _ _))
    · obtain rfl := Option.some.inj ho
      refine ⟨rfl, fun a w' hS hold hin K hK => ?_⟩
      obtain ⟨y13, x13, rfl⟩ := hin 13 rfl (by omega) rfl
      exact if_guard_off (d := 17) rfl rfl x13 (by decide) (hK _ _ rfl (Below.refl _ _))
    · obtain rfl := Option.some.inj ho
      refine ⟨rfl, fun a w' hS hold hin K hK => ?_⟩
      obtain ⟨y13, x13, rfl⟩ := hin 13 rfl (by omega) rfl
      exact if_guard_off (d := 17) rfl rfl x13 (by decide) (hK _ _ rfl (Below.refl _ _))
    · obtain rfl := Option.some.inj ho
      refine ⟨rfl, fun a w' hS hold hin K hK => ?_⟩
      obtain ⟨y13, x13, rfl⟩ := hin 13 rfl (by omega) rfl
      exact if_guard_off (d := 17) rfl rfl x13 (by decide) (hK _ _ rfl (Below.refl _ _))
    · obtain rfl := Option.some.inj ho
      refine ⟨rfl, fun a w' hS hold hin K hK => ?_⟩
      obtain ⟨y13, x13, rfl⟩ := hin 13 rfl (by omega) rfl
      refine if_always rfl ?_
      exact op_pick (V := (· = .bool false)) _ _ _ false _ rfl rfl (eval_tmp x13) (show Act.eval a (.const (.bool false)) = (.bool false) from rfl) rfl hK
    · obtain rfl := Option.some.inj ho
      refine ⟨rfl, fun a w' hS hold hin K hK => ?_⟩
      obtain ⟨y21, x21, rfl⟩ := hin 21 rfl (by omega) rfl
      refine if_always rfl ?_
      exact op_move (V := (· = .bool false)) _ _ rfl rfl (eval_tmp x21) rfl hK
    · obtain rfl := Option.some.inj ho
      refine ⟨rfl, fun a w' hS hold hin K hK => ?_⟩
      obtain ⟨y22, x22, rfl⟩ := hin 22 rfl (by omega) rfl
      exact if_guard_off (d := 26) rfl rfl x22 (by decide) (hK _ _ rfl (Below.refl _ _))
    · obtain rfl := Option.some.inj ho
      refine ⟨rfl, fun a w' hS hold hin K hK => ?_⟩
      obtain ⟨y22, x22, rfl⟩ := hin 22 rfl (by omega) rfl
      exact if_guard_off (d := 26) rfl rfl x22 (by decide) (hK _ _ rfl (Below.refl _ _))
    · obtain rfl := Option.some.inj ho
      refine ⟨rfl, fun a w' hS hold hin K hK => ?_⟩
      obtain ⟨y22, x22, rfl⟩ := hin 22 rfl (by omega) rfl
      exact if_guard_off (d := 26) rfl rfl x22 (by decide) (hK _ _ rfl (Below.refl _ _))
    · obtain rfl := Option.some.inj ho
      refine ⟨rfl, fun a w' hS hold hin K hK => ?_⟩
      obtain ⟨y22, x22, rfl⟩ := hin 22 rfl (by omega) rfl
      refine if_always rfl ?_
      exact op_pick (V := (· = .bool false)) _ _ _ false _ rfl rfl (eval_tmp x22) (show Act.eval a (.const (.bool false)) = (.bool false) from rfl) rfl hK
    · obtain rfl := Option.some.inj ho
      refine ⟨rfl, fun a w' hS hold hin K hK => ?_⟩
      obtain ⟨y26, x26, rfl⟩ := hin 26 rfl (by omega) rfl
      refine if_always rfl ?_
      exact op_move (V := (· = .bool false)) _ _ rfl rfl (eval_tmp x26) rfl hK
    · obtain rfl := Option.some.inj ho
      refine ⟨rfl, fun a w' hS hold hin K hK => ?_⟩
      obtain ⟨y27, x27, rfl⟩ := hin 27 rfl (by omega) rfl
      exact if_guard_off (d := 31) rfl rfl x27 (by decide) (hK _ _ rfl (Below.refl _ _))
    · obtain rfl := Option.some.inj ho
      refine ⟨rfl, fun a w' hS hold hin K hK => ?_⟩
      obtain ⟨y27, x27, rfl⟩ := hin 27 rfl (by omega) rfl
      exact if_guard_off (d := 31) rfl rfl x27 (by decide) (hK _ _ rfl (Below.refl _ _))
    · obtain rfl := Option.some.inj ho
      refine ⟨rfl, fun a w' hS hold hin K hK => ?_⟩
      obtain ⟨y27, x27, rfl⟩ := hin 27 rfl (by omega) rfl
      exact if_guard_off (d := 31) rfl rfl x27 (by decide) (hK _ _ rfl (Below.refl _ _))
    · obtain rfl := Option.some.inj ho
      refine ⟨rfl, fun a w' hS hold hin K hK => ?_⟩
      obtain ⟨y27, x27, rfl⟩ := hin 27 rfl (by omega) rfl
      refine if_always rfl ?_
      exact op_pick (V := (· = .bool false)) _ _ _ false _ rfl rfl (eval_tmp x27) (show Act.eval a (.const (.bool false)) = (.bool false) from rfl) rfl hK
  · intro i o sz h0i hi ho hA; cases hA
  clear hS
  intro t1 V1 hs hold hout hall hne hS
  replace HS := hs.trans HS
  replace hS := hS.1
  obtain ⟨x35, q35, v35⟩ : ∃ x, t1[35]? = some x ∧ ((· = .bool false)) x := hout 31 (by omega) rfl
  replace q35 : t1[35]? = some (.bool false) := q35.trans (congrArg some v35)
  replace h1 := (hold 1 (slots_not (by kernel_rfl))).trans h1
  clear hold hout hs hall hne
  simp only [List.drop_succ_cons, List.drop_zero]
  refine tlx_assign (.tmp 35) rfl rfl 3 rfl (by rw [HS]; decide) (.bool false) (eval_tmp q35) fun t1 ex0 hz hq he => ?_
  replace h1 := (he 1 (by decide)).trans h1
  replace q35 := (he 35 (by decide)).trans q35
  replace HS := hz.trans HS
  clear hz he ex0
  have h3 := hq
  clear hq
  refine wpList_nil ?_
  clear HT
  obtain ⟨f, e0, hf⟩ := wash HS
  have f1 := hf 1 _ h1
  have f3 := hf 3 _ h3
  clear hf
  rw [e0.trans (show _ = #[f 0, f 1, f 2, f 3, f 4, f 5, f 6, f 7, f 8, f 9, f 10, f 11, f 12, f 13, f 14, f 15, f 16, f 17, f 18, f 19, f 20, f 21, f 22, f 23, f 24, f 25, f 26, f 27, f 28, f 29, f 30, f 31, f 32, f 33, f 34, f 35, f 36, f 37] from by kernel_rfl), f1, f3]
  clear f1 f3
  clear e0
  try dsimp only
  clear h1 h3 q35 v35 hM HS t1 t0 M
  go_wp2_with fail
  exact ⟨rfl, .int .i64 200, by kernel_rfl, _, rfl, rfl, hS.1⟩
set_option maxHeartbeats 2000000 in
set_option maxRecDepth 100000 in
theorem check20_3 (n0 n1 n2 n3 n4 n5 mx : Int) (w : World) (hmx : (if 88 > n1 then 88 else n1) = mx) (hn : -9223372036854775808 ≤ 26 + mx ∧ 26 + mx ≤ 9223372036854775807) (h0 : decide (1 ≤ n0 ∧ n0 ≤ 256) = true) (h1 : decide (32 ≤ n1 ∧ n1 ≤ 512) = true) (h2 : decide (2 ≤ n2 ∧ n2 ≤ 64) = true) (h3 : decide (26 + mx ≤ n3 ∧ n3 ≤ 4096) = false) : Calls Tryd.prog 9 #[.agg #[.int .i64 n0, .int .i64 n1, .int .i64 n2, .int .i64 n3, .int .i64 n4, .int .i64 n5]] w (Gives (· = .int .i64 200) w) := by
  have hS := conf_start n0 n1 n2 n3 n4 n5 w
  have H0 := Lib.hid h0
  have H1 := Lib.hid h1
  have H2 := Lib.hid h2
  have H3 := Lib.hid h3
  have HMX := Lib.hid hmx
  have HMN := Lib.hid hn
  clear h0 h1 h2 h3 hmx hn
  go_enter Tryd.func9, Tryd.ntmps9
  go_wp2_with ((with_reducible refine guard_list ?_); first | (refine held_call _ rfl ?_))
  generalize w.alloc (.cells #[.int .i64 n0, .int .i64 n1, .int .i64 n2, .int .i64 n3, .int .i64 n4, .int .i64 n5] 23) = w0 at hS ⊢
  obtain ⟨M, hM⟩ : ∃ M, M = w0.heap.size := ⟨_, rfl⟩
  refine hide_held fun t0 HT => ?_
  have HS : t0.size = 38 := by rw [HT]; rfl
  have h1 : t0[1]? = some (.pointer (some ⟨w.heap.size, 0, none⟩)) := by rw [HT]; rfl
  refine wp_from_most 32 (fun i => [4, 5, 6, 7, 8, 9, 10, 11, 12, 13, 14, 15, 16, 17, 18, 19, 20, 21, 22, 23, 24, 25, 26, 27, 28, 29, 30, 31, 32, 33, 34, 35].getD i 0) (fun _ => none) (fun i => [(fun _ => True), (· = .int .i64 n0), (· = .bool true), (· = .bool true), (· = .pointer (some ⟨w.heap.size, 1, none⟩)), (· = .int .i64 n1), (· = .bool true), (· = .bool true), (· = .bool true), (· = .pointer (some ⟨w.heap.size, 2, none⟩)), (· = .int .i64 n2), (· = .bool true), (· = .bool true), (· = .bool true), (· = .pointer (some ⟨w.heap.size, 3, none⟩)), (· = .int .i64 n3), (· = .pointer (some ⟨w.heap.size, 1, none⟩)), (· = .int .i64 n1), (· = .int .i64 mx), (· = .int .i64 (26 + mx)), (· = .bool false), (· = .bool false), (· = .bool false), (· = undef), (· = undef), (· = undef), (· = .bool false), (· = .bool false), (· = undef), (· = undef), (· = undef), (· = .bool false)].getD i (fun _ => True)) (fun w' => Own w [(w.heap.size, 6, (· = .agg #[.int .i64 n0, .int .i64 n1, .int .i64 n2, .int .i64 n3, .int .i64 n4, .int .i64 n5]))] w' ∧ M ≤ w'.heap.size) M
    2 (by omega) (by kernel_rfl) ?_ (slots_apart (by kernel_rfl)) (slots_lie (by rw [HS]; kernel_rfl)) ⟨hS, Nat.le_of_eq hM⟩ (fun w' h => h.2) (fun w1 w2 h b => ⟨h.1.keep b, Nat.le_trans h.2 b.size⟩) ?_ ?_ ?_
  · intro j hj _
    have hc : j = 0 ∨ j = 1 := by omega
    rcases hc with rfl | rfl
    · exact ⟨rfl, _, by rw [HT]; rfl, trivial⟩
    · exact ⟨rfl, _, by rw [HT]; rfl, rfl⟩
  · clear hS
    intro i o h0i hi ho hA
    have hc : i = 2 ∨ i = 3 ∨ i = 4 ∨ i = 5 ∨ i = 6 ∨ i = 7 ∨ i = 8 ∨ i = 9 ∨ i = 10 ∨ i = 11 ∨ i = 12 ∨ i = 13 ∨ i = 14 ∨ i = 15 ∨ i = 16 ∨ i = 17 ∨ i = 18 ∨ i = 19 ∨ i = 20 ∨ i = 21 ∨ i = 22 ∨ i = 23 ∨ i = 24 ∨ i = 25 ∨ i = 26 ∨ i = 27 ∨ i = 28 ∨ i = 29 ∨ i = 30 ∨ i = 31 := by omega
    rcases hc with rfl | rfl | rfl | rfl | rfl | rfl | rfl | rfl | rfl | rfl | rfl | rfl | rfl | rfl | rfl | rfl | rfl | rfl | rfl | rfl | rfl | rfl | rfl | rfl | rfl | rfl | rfl | rfl | rfl | rfl
    · obtain rfl := Option.some.inj ho
      refine ⟨rfl, fun a w' hS hold hin K hK => ?_⟩
      obtain ⟨y1, x1, rfl⟩ := hin 1 rfl (by omega) rfl
      refine if_always rfl ?_
      exact op_fn3 _ _ _ _ _ _ _ _ rfl rfl (eval_tmp x1) rfl rfl (by intro args w; kernel_rfl) (within_ev H0.out _) hK
    · obtain rfl := Option.some.inj ho
      refine ⟨rfl, fun a w' hS hold hin K hK => ?_⟩
      obtain ⟨y2, x2, rfl⟩ := hin 2 rfl (by omega) rfl
      refine if_always rfl ?_
      exact op_move (V := (· = .bool true)) _ _ rfl rfl (eval_tmp x2) rfl hK
    · obtain rfl := Option.some.inj ho
      refine ⟨rfl, fun a w' hS hold hin K hK => ?_⟩
      obtain ⟨y3, x3, rfl⟩ := hin 3 rfl (by omega) rfl
      refine if_guard (d := 7) rfl rfl x3 ?_
      exact op_field 23 _ 1 _ (.pointer (some ⟨w.heap.size, 1, none⟩)) rfl rfl (eval_tmp ((hold 1 (slots_not (by kernel_rfl))).trans h1)) (fun w => by kernel_rfl) hK
    · obtain rfl := Option.some.inj ho
      refine ⟨rfl, fun a w' hS hold hin K hK => ?_⟩
      obtain ⟨y3, x3, rfl⟩ := hin 3 rfl (by omega) rfl
      obtain ⟨y4, x4, rfl⟩ := hin 4 rfl (by omega) rfl
      refine if_guard (d := 7) rfl rfl x3 ?_
      exact op_cell_own tInt _ w.heap.size 1 rfl rfl (eval_tmp x4) hS.1 0 _ _ rfl (.int .i64 n1) rfl hK
    · obtain rfl := Option.some.inj ho
      refine ⟨rfl, fun a w' hS hold hin K hK => ?_⟩
      obtain ⟨y3, x3, rfl⟩ := hin 3 rfl (by omega) rfl
      obtain ⟨y5, x5, rfl⟩ := hin 5 rfl (by omega) rfl
      refine if_guard (d := 7) rfl rfl x3 ?_
      exact op_fn3 _ _ _ _ _ _ _ _ rfl rfl (eval_tmp x5) rfl rfl (by intro args w; kernel_rfl) (within_ev H1.out _) hK
    · obtain rfl := Option.some.inj ho
      refine ⟨rfl, fun a w' hS hold hin K hK => ?_⟩
      obtain ⟨y3, x3, rfl⟩ := hin 3 rfl (by omega) rfl
      obtain ⟨y6, x6, rfl⟩ := hin 6 rfl (by omega) rfl
      refine if_always rfl ?_
      exact op_pick (V := (· = .bool true)) _ _ _ true _ rfl rfl (eval_tmp x3) (show (Act.eval a _) = _ from (eval_tmp x6)) rfl hK
    · obtain rfl := Option.some.inj ho
      refine ⟨rfl, fun a w' hS hold hin K hK => ?_⟩
      obtain ⟨y7, x7, rfl⟩ := hin 7 rfl (by omega) rfl
      refine if_always rfl ?_
      exact op_move (V := (· = .bool true)) _ _ rfl rfl (eval_tmp x7) rfl hK
    · obtain rfl := Option.some.inj ho
      refine ⟨rfl, fun a w' hS hold hin K hK => ?_⟩
      obtain ⟨y8, x8, rfl⟩ := hin 8 rfl (by omega) rfl
      refine if_guard (d := 12) rfl rfl x8 ?_
      exact op_field 23 _ 2 _ (.pointer (some ⟨w.heap.size, 2, none⟩)) rfl rfl (eval_tmp ((hold 1 (slots_not (by kernel_rfl))).trans h1)) (fun w => by kernel_rfl) hK
    · obtain rfl := Option.some.inj ho
      refine ⟨rfl, fun a w' hS hold hin K hK => ?_⟩
      obtain ⟨y8, x8, rfl⟩ := hin 8 rfl (by omega) rfl
      obtain ⟨y9, x9, rfl⟩ := hin 9 rfl (by omega) rfl
      refine if_guard (d := 12) rfl rfl x8 ?_
      exact op_cell_own tInt _ w.heap.size 2 rfl rfl (eval_tmp x9) hS.1 0 _ _ rfl (.int .i64 n2) rfl hK
    · obtain rfl := Option.some.inj ho
      refine ⟨rfl, fun a w' hS hold hin K hK => ?_⟩
      obtain ⟨y8, x8, rfl⟩ := hin 8 rfl (by omega) rfl
      obtain ⟨y10, x10, rfl⟩ := hin 10 rfl (by omega) rfl
      refine if_guard (d := 12) rfl rfl x8 ?_
      exact op_fn3 _ _ _ _ _ _ _ _ rfl rfl (eval_tmp x10) rfl rfl (by intro args w; kernel_rfl) (within_ev H2.out _) hK
    · obtain rfl := Option.some.inj ho
      refine ⟨rfl, fun a w' hS hold hin K hK => ?_⟩
      obtain ⟨y8, x8, rfl⟩ := hin 8 rfl (by omega) rfl
      obtain ⟨y11, x11, rfl⟩ := hin 11 rfl (by omega) rfl
      refine if_always rfl ?_
      exact op_pick (V := (· = .bool true)) _ _ _ true _ rfl rfl (eval_tmp x8) (show (Act.eval a _) = _ from (eval_tmp x11)) rfl hK
    · obtain rfl := Option.some.inj ho
      refine ⟨rfl, fun a w' hS hold hin K hK => ?_⟩
      obtain ⟨y12, x12, rfl⟩ := hin 12 rfl (by omega) rfl
      refine if_always rfl ?_
      exact op_move (V := (· = .bool true)) _ _ rfl rfl (eval_tmp x12) rfl hK
    · obtain rfl := Option.some.inj ho
      refine ⟨rfl, fun a w' hS hold hin K hK => ?_⟩
      obtain ⟨y13, x13, rfl⟩ := hin 13 rfl (by omega) rfl
      refine if_guard (d := 17) rfl rfl x13 ?_
      exact op_field 23 _ 3 _ (.pointer (some ⟨w.heap.size, 3, none⟩)) rfl rfl (eval_tmp ((hold 1 (slots_not (by kernel_rfl))).trans h1)) (fun w => by kernel_rfl) hK
    · obtain rfl := Option.some.inj ho
      refine ⟨rfl, fun a w' hS hold hin K hK => ?_⟩
      obtain ⟨y13, x13, rfl⟩ := hin 13 rfl (by omega) rfl
      obtain ⟨y14, x14, rfl⟩ := hin 14 rfl (by omega) rfl
      refine if_guard (d := 17) rfl rfl x13 ?_
      exact op_cell_own tInt _ w.heap.size 3 rfl rfl (eval_tmp x14) hS.1 0 _ _ rfl (.int .i64 n3) rfl hK
    · obtain rfl := Option.some.inj ho
      refine ⟨rfl, fun a w' hS hold hin K hK => ?_⟩
      obtain ⟨y13, x13, rfl⟩ := hin 13 rfl (by omega) rfl
      refine if_guard (d := 17) rfl rfl x13 ?_
      exact op_field 23 _ 1 _ (.pointer (some ⟨w.heap.size, 1, none⟩)) rfl rfl (eval_tmp ((hold 1 (slots_not (by kernel_rfl))).trans h1)) (fun w => by kernel_rfl) hK
    · obtain rfl := Option.some.inj ho
      refine ⟨rfl, fun a w' hS hold hin K hK => ?_⟩
      obtain ⟨y13, x13, rfl⟩ := hin 13 rfl (by omega) rfl
      obtain ⟨y16, x16, rfl⟩ := hin 16 rfl (by omega) rfl
      refine if_guard (d := 17) rfl rfl x13 ?_
      exact op_cell_own tInt _ w.heap.size 1 rfl rfl (eval_tmp x16) hS.1 0 _ _ rfl (.int .i64 n1) rfl hK
    · obtain rfl := Option.some.inj ho
      refine ⟨rfl, fun a w' hS hold hin K hK => ?_⟩
      obtain ⟨y13, x13, rfl⟩ := hin 13 rfl (by omega) rfl
      obtain ⟨y17, x17, rfl⟩ := hin 17 rfl (by omega) rfl
      refine if_guard (d := 17) rfl rfl x13 ?_
      exact op_max _ _ _ _ _ mx rfl rfl (eval_tmp x17) rfl HMX.out hK
    · obtain rfl := Option.some.inj ho
      refine ⟨rfl, fun a w' hS hold hin K hK => ?_⟩
      obtain ⟨y13, x13, rfl⟩ := hin 13 rfl (by omega) rfl
      obtain ⟨y18, x18, rfl⟩ := hin 18 rfl (by omega) rfl
      refine if_guard (d := 17) rfl rfl x13 ?_
      exact op_bin (V := (· = .int .i64 (26 + mx))) _ _ _ _ _ _ _ (.int .i64 (26 + mx)) rfl rfl rfl (eval_tmp x18) (fun w => add_in 26 mx HMN.out w) rfl hK
    · obtain rfl := Option.some.inj ho
      refine ⟨rfl, fun a w' hS hold hin K hK => ?_⟩
      obtain ⟨y13, x13, rfl⟩ := hin 13 rfl (by omega) rfl
      obtain ⟨y15, x15, rfl⟩ := hin 15 rfl (by omega) rfl
      obtain ⟨y19, x19, rfl⟩ := hin 19 rfl (by omega) rfl
      refine if_guard (d := 17) rfl rfl x13 ?_
      exact op_fn3 _ _ _ _ _ _ _ _ rfl rfl (eval_tmp x15) (eval_tmp x19) rfl (by intro args w; kernel_rfl) (within_ev H3.out _) hK
    · obtain rfl := Option.some.inj ho
      refine ⟨rfl, fun a w' hS hold hin K hK => ?_⟩
      obtain ⟨y13, x13, rfl⟩ := hin 13 rfl (by omega) rfl
      obtain ⟨y20, x20, rfl⟩ := hin 20 rfl (by omega) rfl
      refine if_always rfl ?_
      exact op_pick (V := (· = .bool false)) _ _ _ true _ rfl rfl (eval_tmp x13) (show (Act.eval a _) = _ from (eval_tmp x20)) rfl hK
    · obtain rfl := Option.some.inj ho
      refine ⟨rfl, fun a w' hS hold hin K hK => ?_⟩
      obtain ⟨y21, x21, rfl⟩ := hin 21 rfl (by omega) rfl
      refine if_always rfl ?_
      exact op_move (V := (· = .bool false)) _ _ rfl rfl (eval_tmp x21) rfl hK
    · obtain rfl := Option.some.inj ho
      refine ⟨rfl, fun a w' hS hold hin K hK => ?_⟩
      obtain ⟨y22, x22, rfl⟩ := hin 22 rfl (by omega) rfl
      exact if_guard_off (d := 26) rfl rfl x22 (by decide) (hK _ _ rfl (Below.refl _ _))
    · obtain rfl := Option.some.inj ho
      refine ⟨rfl, fun a w' hS hold hin K hK => ?_⟩
      obtain ⟨y22, x22, rfl⟩ := hin 22 rfl (by omega) rfl
      exact if_guard_off (d := 26) rfl rfl x22 (by decide) (hK _ _ rfl (Below.refl _ _))
    · obtain rfl := Option.some.inj ho
      refine ⟨rfl, fun a w' hS hold hin K hK => ?_⟩
      obtain ⟨y22, x22, rfl⟩ := hin 22 rfl (by omega) rfl
      exact if_guard_off (d := 26) rfl rfl x22 (by decide) (hK _ _ rfl (Below.refl _ _))
    · obtain rfl := Option.some.inj ho
      refine ⟨rfl, fun a w' hS hold hin K hK => ?_⟩
      obtain ⟨y22, x22, rfl⟩ := hin 22 rfl (by omega) rfl
      refine if_always rfl ?_
      exact op_pick (V := (· = .bool false)) _ _ _ false _ rfl rfl (eval_tmp x22) (show Act.eval a (.const (.bool false)) = (.bool false) from rfl) rfl hK
    · obtain rfl := Option.some.inj ho
      refine ⟨rfl, fun a w' hS hold hin K hK => ?_⟩
      obtain ⟨y26, x26, rfl⟩ := hin 26 rfl (by omega) rfl
      refine if_always rfl ?_
      exact op_move (V := (· = .bool false)) _ _ rfl rfl (eval_tmp x26) rfl hK
    · obtain rfl := Option.some.inj ho
      refine ⟨rfl, fun a w' hS hold hin K hK => ?_⟩
      obtain ⟨y27, x27, rfl⟩ := hin 27 rfl (by omega) rfl
      exact if_guard_off (d := 31) rfl rfl x27 (by decide) (hK _ _ rfl (Below.refl _ _))
    · obtain rfl := Option.some.inj ho
      refine ⟨rfl, fun a w' hS hold hin K hK => ?_⟩
      obtain ⟨y27, x27, rfl⟩ := hin 27 rfl (by omega) rfl
      exact if_guard_off (d := 31) rfl rfl x27 (by decide) (hK _ _ rfl (Below.refl _ _))
    · obtain rfl := Option.some.inj ho
      refine ⟨rfl, fun a w' hS hold hin K hK => ?_⟩
      obtain ⟨y27, x27, rfl⟩ := hin 27 rfl (by omega) rfl
      exact if_guard_off (d := 31) rfl rfl x27 (by decide) (hK _ _ rfl (Below.refl _ _))
    · obtain rfl := Option.some.inj ho
      refine ⟨rfl, fun a w' hS hold hin K hK => ?_⟩
      obtain ⟨y27, x27, rfl⟩ := hin 27 rfl (by omega) rfl
      refine if_always rfl ?_
      exact op_pick (V := (· = .bool false)) _ _ _ false _ rfl rfl (eval_tmp x27) (show Act.eval a (.const (.bool false)) = (.bool false) from rfl) rfl hK
  · intro i o sz h0i hi ho hA; cases hA
  clear hS
  intro t1 V1 hs hold hout hall hne hS
  replace HS := hs.trans HS
  replace hS := hS.1
  obtain ⟨x35, q35, v35⟩ : ∃ x, t1[35]? = some x ∧ ((· = .bool false)) x := hout 31 (by omega) rfl
  replace q35 : t1[35]? = some (.bool false) := q35.trans (congrArg some v35)
  replace h1 := (hold 1 (slots_not (by kernel_rfl))).trans h1
  clear hold hout hs hall hne
  simp only [List.drop_succ_cons, List.drop_zero]
  refine tlx_assign (.tmp 35) rfl rfl 3 rfl (by rw [HS]; decide) (.bool false) (eval_tmp q35) fun t1 ex0 hz hq he => ?_
  replace h1 := (he 1 (by decide)).trans h1
  replace q35 := (he 35 (by decide)).trans q35
  replace HS := hz.trans HS
  clear hz he ex0
  have h3 := hq
  clear hq
  refine wpList_nil ?_
  clear HT
  obtain ⟨f, e0, hf⟩ := wash HS
  have f1 := hf 1 _ h1
  have f3 := hf 3 _ h3
  clear hf
  rw [e0.trans (show _ = #[f 0, f 1, f 2, f 3, f 4, f 5, f 6, f 7, f 8, f 9, f 10, f 11, f 12, f 13, f 14, f 15, f 16, f 17, f 18, f 19, f 20, f 21, f 22, f 23, f 24, f 25, f 26, f 27, f 28, f 29, f 30, f 31, f 32, f 33, f 34, f 35, f 36, f 37] from by kernel_rfl), f1, f3]
  clear f1 f3
  clear e0
  try dsimp only
  clear h1 h3 q35 v35 hM HS t1 t0 M
  go_wp2_with fail
  exact ⟨rfl, .int .i64 200, by kernel_rfl, _, rfl, rfl, hS.1⟩
set_option maxHeartbeats 2000000 in
set_option maxRecDepth 100000 in
theorem check20_4 (n0 n1 n2 n3 n4 n5 mx : Int) (w : World) (hmx : (if 88 > n1 then 88 else n1) = mx) (hn : -9223372036854775808 ≤ 26 + mx ∧ 26 + mx ≤ 9223372036854775807) (h0 : decide (1 ≤ n0 ∧ n0 ≤ 256) = true) (h1 : decide (32 ≤ n1 ∧ n1 ≤ 512) = true) (h2 : decide (2 ≤ n2 ∧ n2 ≤ 64) = true) (h3 : decide (26 + mx ≤ n3 ∧ n3 ≤ 4096) = true) (h4 : decide (2 ≤ n4 ∧ n4 ≤ 16) = false) : Calls Tryd.prog 9 #[.agg #[.int .i64 n0, .int .i64 n1, .int .i64 n2, .int .i64 n3, .int .i64 n4, .int .i64 n5]] w (Gives (· = .int .i64 200) w) := by
  have hS := conf_start n0 n1 n2 n3 n4 n5 w
  have H0 := Lib.hid h0
  have H1 := Lib.hid h1
  have H2 := Lib.hid h2
  have H3 := Lib.hid h3
  have H4 := Lib.hid h4
  have HMX := Lib.hid hmx
  have HMN := Lib.hid hn
  clear h0 h1 h2 h3 h4 hmx hn
  go_enter Tryd.func9, Tryd.ntmps9
  go_wp2_with ((with_reducible refine guard_list ?_); first | (refine held_call _ rfl ?_))
  generalize w.alloc (.cells #[.int .i64 n0, .int .i64 n1, .int .i64 n2, .int .i64 n3, .int .i64 n4, .int .i64 n5] 23) = w0 at hS ⊢
  obtain ⟨M, hM⟩ : ∃ M, M = w0.heap.size := ⟨_, rfl⟩
  refine hide_held fun t0 HT => ?_
  have HS : t0.size = 38 := by rw [HT]; rfl
  have h1 : t0[1]? = some (.pointer (some ⟨w.heap.size, 0, none⟩)) := by rw [HT]; rfl
  refine wp_from_most 32 (fun i => [4, 5, 6, 7, 8, 9, 10, 11, 12, 13, 14, 15, 16, 17, 18, 19, 20, 21, 22, 23, 24, 25, 26, 27, 28, 29, 30, 31, 32, 33, 34, 35].getD i 0) (fun _ => none) (fun i => [(fun _ => True), (· = .int .i64 n0), (· = .bool true), (· = .bool true), (· = .pointer (some ⟨w.heap.size, 1, none⟩)), (· = .int .i64 n1), (· = .bool true), (· = .bool true), (· = .bool true), (· = .pointer (some ⟨w.heap.size, 2, none⟩)), (· = .int .i64 n2), (· = .bool true), (· = .bool true), (· = .bool true), (· = .pointer (some ⟨w.heap.size, 3, none⟩)), (· = .int .i64 n3), (· = .pointer (some ⟨w.heap.size, 1, none⟩)), (· = .int .i64 n1), (· = .int .i64 mx), (· = .int .i64 (26 + mx)), (· = .bool true), (· = .bool true), (· = .bool true), (· = .pointer (some ⟨w.heap.size, 4, none⟩)), (· = .int .i64 n4), (· = .bool false), (· = .bool false), (· = .bool false), (· = undef), (· = undef), (· = undef), (· = .bool false)].getD i (fun _ => True)) (fun w' => Own w [(w.heap.size, 6, (· = .agg #[.int .i64 n0, .int .i64 n1, .int .i64 n2, .int .i64 n3, .int .i64 n4, .int .i64 n5]))] w' ∧ M ≤ w'.heap.size) M
    2 (by omega) (by kernel_rfl) ?_ (slots_apart (by kernel_rfl)) (slots_lie (by rw [HS]; kernel_rfl)) ⟨hS, Nat.le_of_eq hM⟩ (fun w' h => h.2) (fun w1 w2 h b => ⟨h.1.keep b, Nat.le_trans h.2 b.size⟩) ?_ ?_ ?_
  · intro j hj _
    have hc : j = 0 ∨ j = 1 := by omega
    rcases hc with rfl | rfl
    · exact ⟨rfl, _, by rw [HT]; rfl, trivial⟩
    · exact ⟨rfl, _, by rw [HT]; rfl, rfl⟩
  · clear hS
    intro i o h0i hi ho hA
    have hc : i = 2 ∨ i = 3 ∨ i = 4 ∨ i = 5 ∨ i = 6 ∨ i = 7 ∨ i = 8 ∨ i = 9 ∨ i = 10 ∨ i = 11 ∨ i = 12 ∨ i = 13 ∨ i = 14 ∨ i = 15 ∨ i = 16 ∨ i = 17 ∨ i = 18 ∨ i = 19 ∨ i = 20 ∨ i = 21 ∨ i = 22 ∨ i = 23 ∨ i = 24 ∨ i = 25 ∨ i = 26 ∨ i = 27 ∨ i = 28 ∨ i = 29 ∨ i = 30 ∨ i = 31 := by omega
    rcases hc with rfl | rfl | rfl | rfl | rfl | rfl | rfl | rfl | rfl | rfl | rfl | rfl | rfl | rfl | rfl | rfl | rfl | rfl | rfl | rfl | rfl | rfl | rfl | rfl | rfl | rfl | rfl | rfl | rfl | rfl
    · obtain rfl := Option.some.inj ho
      refine ⟨rfl, fun a w' hS hold hin K hK => ?_⟩
      obtain ⟨y1, x1, rfl⟩ := hin 1 rfl (by omega) rfl
      refine if_always rfl ?_
      exact op_fn3 _ _ _ _ _ _ _ _ rfl rfl (eval_tmp x1) rfl rfl (by intro args w; kernel_rfl) (within_ev H0.out _) hK
    · obtain rfl := Option.some.inj ho
      refine ⟨rfl, fun a w' hS hold hin K hK => ?_⟩
      obtain ⟨y2, x2, rfl⟩ := hin 2 rfl (by omega) rfl
      refine if_always rfl ?_
      exact op_move (V := (· = .bool true)) _ _ rfl rfl (eval_tmp x2) rfl hK
    · obtain rfl := Option.some.inj ho
      refine ⟨rfl, fun a w' hS hold hin K hK => ?_⟩
      obtain ⟨y3, x3, rfl⟩ := hin 3 rfl (by omega) rfl
      refine if_guard (d := 7) rfl rfl x3 ?_
      exact op_field 23 _ 1 _ (.pointer (some ⟨w.heap.size, 1, none⟩)) rfl rfl (eval_tmp ((hold 1 (slots_not (by kernel_rfl))).trans h1)) (fun w => by kernel_rfl) hK
    · obtain rfl := Option.some.inj ho
      refine ⟨rfl, fun a w' hS hold hin K hK => ?_⟩
      obtain ⟨y3, x3, rfl⟩ := hin 3 rfl (by omega) rfl
      obtain ⟨y4, x4, rfl⟩ := hin 4 rfl (by omega) rfl
      refine if_guard (d := 7) rfl rfl x3 ?_
      exact op_cell_own tInt _ w.heap.size 1 rfl rfl (eval_tmp x4) hS.1 0 _ _ rfl (.int .i64 n1) rfl hK
    · obtain rfl := Option.some.inj ho
      refine ⟨rfl, fun a w' hS hold hin K hK => ?_⟩
      obtain ⟨y3, x3, rfl⟩ := hin 3 rfl (by omega) rfl
      obtain ⟨y5, x5, rfl⟩ := hin 5 rfl (by omega) rfl
      refine if_guard (d := 7) rfl rfl x3 ?_
      exact op_fn3 _ _ _ _ _ _ _ _ rfl rfl (eval_tmp x5) rfl rfl (by intro args w; kernel_rfl) (within_ev H1.out _) hK
    · obtain rfl := Option.some.inj ho
      refine ⟨rfl, fun a w' hS hold hin K hK => ?_⟩
      obtain ⟨y3, x3, rfl⟩ := hin 3 rfl (by omega) rfl
      obtain ⟨y6, x6, rfl⟩ := hin 6 rfl (by omega) rfl
      refine if_always rfl ?_
      exact op_pick (V := (· = .bool true)) _ _ _ true _ rfl rfl (eval_tmp x3) (show (Act.eval a _) = _ from (eval_tmp x6)) rfl hK
    · obtain rfl := Option.some.inj ho
      refine ⟨rfl, fun a w' hS hold hin K hK => ?_⟩
      obtain ⟨y7, x7, rfl⟩ := hin 7 rfl (by omega) rfl
      refine if_always rfl ?_
      exact op_move (V := (· = .bool true)) _ _ rfl rfl (eval_tmp x7) rfl hK
    · obtain rfl := Option.some.inj ho
      refine ⟨rfl, fun a w' hS hold hin K hK => ?_⟩
      obtain ⟨y8, x8, rfl⟩ := hin 8 rfl (by omega) rfl
      refine if_guard (d := 12) rfl rfl x8 ?_
      exact op_field 23 _ 2 _ (.pointer (some ⟨w.heap.size, 2, none⟩)) rfl rfl (eval_tmp ((hold 1 (slots_not (by kernel_rfl))).trans h1)) (fun w => by kernel_rfl) hK
    · obtain rfl := Option.some.inj ho
      refine ⟨rfl, fun a w' hS hold hin K hK => ?_⟩
      obtain ⟨y8, x8, rfl⟩ := hin 8 rfl (by omega) rfl
      obtain ⟨y9, x9, rfl⟩ := hin 9 rfl (by omega) rfl
      refine if_guard (d := 12) rfl rfl x8 ?_
      exact op_cell_own tInt _ w.heap.size 2 rfl rfl (eval_tmp x9) hS.1 0 _ _ rfl (.int .i64 n2) rfl hK
    · obtain rfl := Option.some.inj ho
      refine ⟨rfl, fun a w' hS hold hin K hK => ?_⟩
      obtain ⟨y8, x8, rfl⟩ := hin 8 rfl (by omega) rfl
      obtain ⟨y10, x10, rfl⟩ := hin 10 rfl (by omega) rfl
      refine if_guard (d := 12) rfl rfl x8 ?_
      exact op_fn3 _ _ _ _ _ _ _ _ rfl rfl (eval_tmp x10) rfl rfl (by intro args w; kernel_rfl) (within_ev H2.out _) hK
    · obtain rfl := Option.some.inj ho
      refine ⟨rfl, fun a w' hS hold hin K hK => ?_⟩
      obtain ⟨y8, x8, rfl⟩ := hin 8 rfl (by omega) rfl
      obtain ⟨y11, x11, rfl⟩ := hin 11 rfl (by omega) rfl
      refine if_always rfl ?_
      exact op_pick (V := (· = .bool true)) _ _ _ true _ rfl rfl (eval_tmp x8) (show (Act.eval a _) = _ from (eval_tmp x11)) rfl hK
    · obtain rfl := Option.some.inj ho
      refine ⟨rfl, fun a w' hS hold hin K hK => ?_⟩
      obtain ⟨y12, x12, rfl⟩ := hin 12 rfl (by omega) rfl
      refine if_always rfl ?_
      exact op_move (V := (· = .bool true)) _ _ rfl rfl (eval_tmp x12) rfl hK
    · obtain rfl := Option.some.inj ho
      refine ⟨rfl, fun a w' hS hold hin K hK => ?_⟩
      obtain ⟨y13, x13, rfl⟩ := hin 13 rfl (by omega) rfl
      refine if_guard (d := 17) rfl rfl x13 ?_
      exact op_field 23 _ 3 _ (.pointer (some ⟨w.heap.size, 3, none⟩)) rfl rfl (eval_tmp ((hold 1 (slots_not (by kernel_rfl))).trans h1)) (fun w => by kernel_rfl) hK
    · obtain rfl := Option.some.inj ho
      refine ⟨rfl, fun a w' hS hold hin K hK => ?_⟩
      obtain ⟨y13, x13, rfl⟩ := hin 13 rfl (by omega) rfl
      obtain ⟨y14, x14, rfl⟩ := hin 14 rfl (by omega) rfl
      refine if_guard (d := 17) rfl rfl x13 ?_
      exact op_cell_own tInt _ w.heap.size 3 rfl rfl (eval_tmp x14) hS.1 0 _ _ rfl (.int .i64 n3) rfl hK
    · obtain rfl := Option.some.inj ho
      refine ⟨rfl, fun a w' hS hold hin K hK => ?_⟩
      obtain ⟨y13, x13, rfl⟩ := hin 13 rfl (by omega) rfl
      refine if_guard (d := 17) rfl rfl x13 ?_
      exact op_field 23 _ 1 _ (.pointer (some ⟨w.heap.size, 1, none⟩)) rfl rfl (eval_tmp ((hold 1 (slots_not (by kernel_rfl))).trans h1)) (fun w => by kernel_rfl) hK
    · obtain rfl := Option.some.inj ho
      refine ⟨rfl, fun a w' hS hold hin K hK => ?_⟩
      obtain ⟨y13, x13, rfl⟩ := hin 13 rfl (by omega) rfl
      obtain ⟨y16, x16, rfl⟩ := hin 16 rfl (by omega) rfl
      refine if_guard (d := 17) rfl rfl x13 ?_
      exact op_cell_own tInt _ w.heap.size 1 rfl rfl (eval_tmp x16) hS.1 0 _ _ rfl (.int .i64 n1) rfl hK
    · obtain rfl := Option.some.inj ho
      refine ⟨rfl, fun a w' hS hold hin K hK => ?_⟩
      obtain ⟨y13, x13, rfl⟩ := hin 13 rfl (by omega) rfl
      obtain ⟨y17, x17, rfl⟩ := hin 17 rfl (by omega) rfl
      refine if_guard (d := 17) rfl rfl x13 ?_
      exact op_max _ _ _ _ _ mx rfl rfl (eval_tmp x17) rfl HMX.out hK
    · obtain rfl := Option.some.inj ho
      refine ⟨rfl, fun a w' hS hold hin K hK => ?_⟩
      obtain ⟨y13, x13, rfl⟩ := hin 13 rfl (by omega) rfl
      obtain ⟨y18, x18, rfl⟩ := hin 18 rfl (by omega) rfl
      refine if_guard (d := 17) rfl rfl x13 ?_
      exact op_bin (V := (· = .int .i64 (26 + mx))) _ _ _ _ _ _ _ (.int .i64 (26 + mx)) rfl rfl rfl (eval_tmp x18) (fun w => add_in 26 mx HMN.out w) rfl hK
    · obtain rfl := Option.some.inj ho
      refine ⟨rfl, fun a w' hS hold hin K hK => ?_⟩
      obtain ⟨y13, x13, rfl⟩ := hin 13 rfl (by omega) rfl
      obtain ⟨y15, x15, rfl⟩ := hin 15 rfl (by omega) rfl
      obtain ⟨y19, x19, rfl⟩ := hin 19 rfl (by omega) rfl
      refine if_guard (d := 17) rfl rfl x13 ?_
      exact op_fn3 _ _ _ _ _ _ _ _ rfl rfl (eval_tmp x15) (eval_tmp x19) rfl (by intro args w; kernel_rfl) (within_ev H3.out _) hK
    · obtain rfl := Option.some.inj ho
      refine ⟨rfl, fun a w' hS hold hin K hK => ?_⟩
      obtain ⟨y13, x13, rfl⟩ := hin 13 rfl (by omega) rfl
      obtain ⟨y20, x20, rfl⟩ := hin 20 rfl (by omega) rfl
      refine if_always rfl ?_
      exact op_pick (V := (· = .bool true)) _ _ _ true _ rfl rfl (eval_tmp x13) (show (Act.eval a _) = _ from (eval_tmp x20)) rfl hK
    · obtain rfl := Option.some.inj ho
      refine ⟨rfl, fun a w' hS hold hin K hK => ?_⟩
      obtain ⟨y21, x21, rfl⟩ := hin 21 rfl (by omega) rfl
      refine if_always rfl ?_
      exact op_move (V := (· = .bool true)) _ _ rfl rfl (eval_tmp x21) rfl hK
    · obtain rfl := Option.some.inj ho
      refine ⟨rfl, fun a w' hS hold hin K hK => ?_⟩
      obtain ⟨y22, x22, rfl⟩ := hin 22 rfl (by omega) rfl
      refine if_guard (d := 26) rfl rfl x22 ?_
      exact op_field 23 _ 4 _ (.pointer (some ⟨w.heap.size, 4, none⟩)) rfl rfl (eval_tmp ((hold 1 (slots_not (by kernel_rfl))).trans h1)) (fun w => by kernel_rfl) hK
    · obtain rfl := Option.some.inj ho
      refine ⟨rfl, fun a w' hS hold hin K hK => ?_⟩
      obtain ⟨y22, x22, rfl⟩ := hin 22 rfl (by omega) rfl
      obtain ⟨y23, x23, rfl⟩ := hin 23 rfl (by omega) rfl
      refine if_guard (d := 26) rfl rfl x22 ?_
      exact op_cell_own tInt _ w.heap.size 4 rfl rfl (eval_tmp x23) hS.1 0 _ _ rfl (.int .i64 n4) rfl hK
    · obtain rfl := Option.some.inj ho
      refine ⟨rfl, fun a w' hS hold hin K hK => ?_⟩
      obtain ⟨y22, x22, rfl⟩ := hin 22 rfl (by omega) rfl
      obtain ⟨y24, x24, rfl⟩ := hin 24 rfl (by omega) rfl
      refine if_guard (d := 26) rfl rfl x22 ?_
      exact op_fn3 _ _ _ _ _ _ _ _ rfl rfl (eval_tmp x24) rfl rfl (by intro args w; kernel_rfl) (within_ev H4.out _) hK
    · obtain rfl := Option.some.inj ho
      refine ⟨rfl, fun a w' hS hold hin K hK => ?_⟩
      obtain ⟨y22, x22, rfl⟩ := hin 22 rfl (by omega) rfl
      obtain ⟨y25, x25, rfl⟩ := hin 25 rfl (by omega) rfl
      refine if_always rfl ?_
      exact op_pick (V := (· = .bool false)) _ _ _ true _ rfl rfl (eval_tmp x22) (show (Act.eval a _) = _ from (eval_tmp x25)) rfl hK
    · obtain rfl := Option.some.inj ho
      refine ⟨rfl, fun a w' hS hold hin K hK => ?_⟩
      obtain ⟨y26, x26, rfl⟩ := hin 26 rfl (by omega) rfl
      refine if_always rfl ?_
      exact op_move (V := (· = .bool false)) _ _ rfl rfl (eval_tmp x26) rfl hK
    · obtain rfl := Option.some.inj ho
      refine ⟨rfl, fun a w' hS hold hin K hK => ?_⟩
      obtain ⟨y27, x27, rfl⟩ := hin 27 rfl (by omega) rfl
      exact if_guard_off (d := 31) rfl rfl x27 (by decide) (hK _ _ rfl (Below.refl _ _))
    · obtain rfl := Option.some.inj ho
      refine ⟨rfl, fun a w' hS hold hin K hK => ?_⟩
      obtain ⟨y27, x27, rfl⟩ := hin 27 rfl (by omega) rfl
      exact if_guard_off (d := 31) rfl rfl x27 (by decide) (hK _ _ rfl (Below.refl _ _))
    · obtain rfl := Option.some.inj ho
      refine ⟨rfl, fun a w' hS hold hin K hK => ?_⟩
      obtain ⟨y27, x27, rfl⟩ := hin 27 rfl (by omega) rfl
      exact if_guard_off (d := 31) rfl rfl x27 (by decide) (hK _ _ rfl (Below.refl _ _))
    · obtain rfl := Option.some.inj ho
      refine ⟨rfl, fun a w' hS hold hin K hK => ?_⟩
      obtain ⟨y27, x27, rfl⟩ := hin 27 rfl (by omega) rfl
      refine if_always rfl ?_
      exact op_pick (V := (· = .bool false)) _ _ _ false _ rfl rfl (eval_tmp x27) (show Act.eval a (.const (.bool false)) = (.bool false) from rfl) rfl hK
  · intro i o sz h0i hi ho hA; cases hA
  clear hS
  intro t1 V1 hs hold hout hall hne hS
  replace HS := hs.trans HS
  replace hS := hS.1
  obtain ⟨x35, q35, v35⟩ : ∃ x, t1[35]? = some x ∧ ((· = .bool false)) x := hout 31 (by omega) rfl
  replace q35 : t1[35]? = some (.bool false) := q35.trans (congrArg some v35)
  replace h1 := (hold 1 (slots_not (by kernel_rfl))).trans h1
  clear hold hout hs hall hne
  simp only [List.drop_succ_cons, List.drop_zero]
  refine tlx_assign (.tmp 35) rfl rfl 3 rfl (by rw [HS]; decide) (.bool false) (eval_tmp q35) fun t1 ex0 hz hq he => ?_
  replace h1 := (he 1 (by decide)).trans h1
  replace q35 := (he 35 (by decide)).trans q35
  replace HS := hz.trans HS
  clear hz he ex0
  have h3 := hq
  clear hq
  refine wpList_nil ?_
  clear HT
  obtain ⟨f, e0, hf⟩ := wash HS
  have f1 := hf 1 _ h1
  have f3 := hf 3 _ h3
  clear hf
  rw [e0.trans (show _ = #[f 0, f 1, f 2, f 3, f 4, f 5, f 6, f 7, f 8, f 9, f 10, f 11, f 12, f 13, f 14, f 15, f 16, f 17, f 18, f 19, f 20, f 21, f 22, f 23, f 24, f 25, f 26, f 27, f 28, f 29, f 30, f 31, f 32, f 33, f 34, f 35, f 36, f 37] from by kernel_rfl), f1, f3]
  clear f1 f3
  clear e0
  try dsimp only
  clear h1 h3 q35 v35 hM HS t1 t0 M
  go_wp2_with fail
  exact ⟨rfl, .int .i64 200, by kernel_rfl, _, rfl, rfl, hS.1⟩
set_option maxHeartbeats 2000000 in
set_option maxRecDepth 100000 in
theorem check20_5 (n0 n1 n2 n3 n4 n5 mx : Int) (w : World) (hmx : (if 88 > n1 then 88 else n1) = mx) (hn : -9223372036854775808 ≤ 26 + mx ∧ 26 + mx ≤ 9223372036854775807) (h0 : decide (1 ≤ n0 ∧ n0 ≤ 256) = true) (h1 : decide (32 ≤ n1 ∧ n1 ≤ 512) = true) (h2 : decide (2 ≤ n2 ∧ n2 ≤ 64) = true) (h3 : decide (26 + mx ≤ n3 ∧ n3 ≤ 4096) = true) (h4 : decide (2 ≤ n4 ∧ n4 ≤ 16) = true) (h5 : decide (1 ≤ n5 ∧ n5 ≤ 16) = false) : Calls Tryd.prog 9 #[.agg #[.int .i64 n0, .int .i64 n1, .int .i64 n2, .int .i64 n3, .int .i64 n4, .int .i64 n5]] w (Gives (· = .int .i64 200) w) := by
  have hS := conf_start n0 n1 n2 n3 n4 n5 w
  have H0 := Lib.hid h0
  have H1 := Lib.hid h1
  have H2 := Lib.hid h2
  have H3 := Lib.hid h3
  have H4 := Lib.hid h4
  have H5 := Lib.hid h5
  have HMX := Lib.hid hmx
  have HMN := Lib.hid hn
  clear h0 h1 h2 h3 h4 h5 hmx hn
  go_enter Tryd.func9, Tryd.ntmps9
  go_wp2_with ((with_reducible refine guard_list ?_); first | (refine held_call _ rfl ?_))
  generalize w.alloc (.cells #[.int .i64 n0, .int .i64 n1, .int .i64 n2, .int .i64 n3, .int .i64 n4, .int .i64 n5] 23) = w0 at hS ⊢
  obtain ⟨M, hM⟩ : ∃ M, M = w0.heap.size := ⟨_, rfl⟩
  refine hide_held fun t0 HT => ?_
  have HS : t0.size = 38 := by rw [HT]; rfl
  have h1 : t0[1]? = some (.pointer (some ⟨w.heap.size, 0, none⟩)) := by rw [HT]; rfl
  refine wp_from_most 32 (fun i => [4, 5, 6, 7, 8, 9, 10, 11, 12, 13, 14, 15, 16, 17, 18, 19, 20, 21, 22, 23, 24, 25, 26, 27, 28, 29, 30, 31, 32, 33, 34, 35].getD i 0) (fun _ => none) (fun i => [(fun _ => True), (· = .int .i64 n0), (· = .bool true), (· = .bool true), (· = .pointer (some ⟨w.heap.size, 1, none⟩)), (· = .int .i64 n1), (· = .bool true), (· = .bool true), (· = .bool true), (· = .pointer (some ⟨w.heap.size, 2, none⟩)), (· = .int .i64 n2), (· = .bool true), (· = .bool true), (· = .bool true), (· = .pointer (some ⟨w.heap.size, 3, none⟩)), (· = .int .i64 n3), (· = .pointer (some ⟨w.heap.size, 1, none⟩)), (· = .int .i64 n1), (· = .int .i64 mx), (· = .int .i64 (26 + mx)), (· = .bool true), (· = .bool true), (· = .bool true), (· = .pointer (some ⟨w.heap.size, 4, none⟩)), (· = .int .i64 n4), (· = .bool true), (· = .bool true), (· = .bool true), (· = .pointer (some ⟨w.heap.size, 5, none⟩)), (· = .int .i64 n5), (· = .bool false), (· = .bool false)].getD i (fun _ => True)) (fun w' => Own w [(w.heap.size, 6, (· = .agg #[.int .i64 n0, .int .i64 n1, .int .i64 n2, .int .i64 n3, .int .i64 n4, .int .i64 n5]))] w' ∧ M ≤ w'.heap.size) M
    2 (by omega) (by kernel_rfl) ?_ (slots_apart (by kernel_rfl)) (slots_lie (by rw [HS]; kernel_rfl)) ⟨hS, Nat.le_of_eq hM⟩ (fun w' h => h.2) (fun w1 w2 h b => ⟨h.1.keep b, Nat.le_trans h.2 b.size⟩) ?_ ?_ ?_
  · intro j hj _
    have hc : j = 0 ∨ j = 1 := by omega
    rcases hc with rfl | rfl
    · exact ⟨rfl, _, by rw [HT]; rfl, trivial⟩
    · exact ⟨rfl, _, by rw [HT]; rfl, rfl⟩
  · clear hS
    intro i o h0i hi ho hA
    have hc : i = 2 ∨ i = 3 ∨ i = 4 ∨ i = 5 ∨ i = 6 ∨ i = 7 ∨ i = 8 ∨ i = 9 ∨ i = 10 ∨ i = 11 ∨ i = 12 ∨ i = 13 ∨ i = 14 ∨ i = 15 ∨ i = 16 ∨ i = 17 ∨ i = 18 ∨ i = 19 ∨ i = 20 ∨ i = 21 ∨ i = 22 ∨ i = 23 ∨ i = 24 ∨ i = 25 ∨ i = 26 ∨ i = 27 ∨ i = 28 ∨ i = 29 ∨ i = 30 ∨ i = 31 := by omega
    rcases hc with rfl | rfl | rfl | rfl | rfl | rfl | rfl | rfl | rfl | rfl | rfl | rfl | rfl | rfl | rfl | rfl | rfl | rfl | rfl | rfl | rfl | rfl | rfl | rfl | rfl | rfl | rfl | rfl | rfl | rfl
    · obtain rfl := Option.some.inj ho
      refine ⟨rfl, fun a w' hS hold hin K hK => ?_⟩
      obtain ⟨y1, x1, rfl⟩ := hin 1 rfl (by omega) rfl
      refine if_always rfl ?_
      exact op_fn3 _ _ _ _ _ _ _ _ rfl rfl (eval_tmp x1) rfl rfl (by intro args w; kernel_rfl) (within_ev H0.out _) hK
    · obtain rfl := Option.some.inj ho
      refine ⟨rfl, fun a w' hS hold hin K hK => ?_⟩
      obtain ⟨y2, x2, rfl⟩ := hin 2 rfl (by omega) rfl
      refine if_always rfl ?_
      exact op_move (V := (· = .bool true)) _ _ rfl rfl (eval_tmp x2) rfl hK
    · obtain rfl := Option.some.inj ho
      refine ⟨rfl, fun a w' hS hold hin K hK => ?_⟩
      obtain ⟨y3, x3, rfl⟩ := hin 3 rfl (by omega) rfl
      refine if_guard (d := 7) rfl rfl x3 ?_
      exact op_field 23 _ 1 _ (.pointer (some ⟨w.heap.size, 1, none⟩)) rfl rfl (eval_tmp ((hold 1 (slots_not (by kernel_rfl))).trans h1)) (fun w => by kernel_rfl) hK
    · obtain rfl := Option.some.inj ho
      refine ⟨rfl, fun a w' hS hold hin K hK => ?_⟩
      obtain ⟨y3, x3, rfl⟩ := hin 3 rfl (by omega) rfl
      obtain ⟨y4, x4, rfl⟩ := hin 4 rfl (by omega) rfl
      refine if_guard (d := 7) rfl rfl x3 ?_
      exact op_cell_own tInt _ w.heap.size 1 rfl rfl (eval_tmp x4) hS.1 0 _ _ rfl (.int .i64 n1) rfl hK
    · obtain rfl := Option.some.inj ho
      refine ⟨rfl, fun a w' hS hold hin K hK => ?_⟩
      obtain ⟨y3, x3, rfl⟩ := hin 3 rfl (by omega) rfl
      obtain ⟨y5, x5, rfl⟩ := hin 5 rfl (by omega) rfl
      refine if_guard (d := 7) rfl rfl x3 ?_
      exact op_fn3 _ _ _ _ _ _ _ _ rfl rfl (eval_tmp x5) rfl rfl (by intro args w; kernel_rfl) (within_ev H1.out _) hK
    · obtain rfl := Option.some.inj ho
      refine ⟨rfl, fun a w' hS hold hin K hK => ?_⟩
      obtain ⟨y3, x3, rfl⟩ := hin 3 rfl (by omega) rfl
      obtain ⟨y6, x6, rfl⟩ := hin 6 rfl (by omega) rfl
      refine if_always rfl ?_
      exact op_pick (V := (· = .bool true)) _ _ _ true _ rfl rfl (eval_tmp x3) (show (Act.eval a _) = _ from (eval_tmp x6)) rfl hK
    · obtain rfl := Option.some.inj ho
      refine ⟨rfl, fun a w' hS hold hin K hK => ?_⟩
      obtain ⟨y7, x7, rfl⟩ := hin 7 rfl (by omega) rfl
      refine if_always rfl ?_
      exact op_move (V := (· = .bool true)) _ _ rfl rfl (eval_tmp x7) rfl hK
    · obtain rfl := Option.some.inj ho
      refine ⟨rfl, fun a w' hS hold hin K hK => ?_⟩
      obtain ⟨y8, x8, rfl⟩ := hin 8 rfl (by omega) rfl
      refine if_guard (d := 12) rfl rfl x8 ?_
      exact op_field 23 _ 2 _ (.pointer (some ⟨w.heap.size, 2, none⟩)) rfl rfl (eval_tmp ((hold 1 (slots_not (by kernel_rfl))).trans h1)) (fun w => by kernel_rfl) hK
    · obtain rfl := Option.some.inj ho
      refine ⟨rfl, fun a w' hS hold hin K hK => ?_⟩
      obtain ⟨y8, x8, rfl⟩ := hin 8 rfl (by omega) rfl
      obtain ⟨y9, x9, rfl⟩ := hin 9 rfl (by omega) rfl
      refine if_guard (d := 12) rfl rfl x8 ?_
      exact op_cell_own tInt _ w.heap.size 2 rfl rfl (eval_tmp x9) hS.1 0 _ _ rfl (.int .i64 n2) rfl hK
    · obtain rfl := Option.some.inj ho
      refine ⟨rfl, fun a w' hS hold hin K hK => ?_⟩
      obtain ⟨y8, x8, rfl⟩ := hin 8 rfl (by omega) rfl
      obtain ⟨y10, x10, rfl⟩ := hin 10 rfl (by omega) rfl
      refine if_guard (d := 12) rfl rfl x8 ?_
      exact op_fn3 _ _ _ _ _ _ _ _ rfl rfl (eval_tmp x10) rfl rfl (by intro args w; kernel_rfl) (within_ev H2.out _) hK
    · obtain rfl := Option.some.inj ho
      refine ⟨rfl, fun a w' hS hold hin K hK => ?_⟩
      obtain ⟨y8, x8, rfl⟩ := hin 8 rfl (by omega) rfl
      obtain ⟨y11, x11, rfl⟩ := hin 11 rfl (by omega) rfl
      refine if_always rfl ?_
      exact op_pick (V := (· = .bool true)) _ _ _ true _ rfl rfl (eval_tmp x8) (show (Act.eval a _) = _ from (eval_tmp x11)) rfl hK
    · obtain rfl := Option.some.inj ho
      refine ⟨rfl, fun a w' hS hold hin K hK => ?_⟩
      obtain ⟨y12, x12, rfl⟩ := hin 12 rfl (by omega) rfl
      refine if_always rfl ?_
      exact op_move (V := (· = .bool true)) _ _ rfl rfl (eval_tmp x12) rfl hK
    · obtain rfl := Option.some.inj ho
      refine ⟨rfl, fun a w' hS hold hin K hK => ?_⟩
      obtain ⟨y13, x13, rfl⟩ := hin 13 rfl (by omega) rfl
      refine if_guard (d := 17) rfl rfl x13 ?_
      exact op_field 23 _ 3 _ (.pointer (some ⟨w.heap.size, 3, none⟩)) rfl rfl (eval_tmp ((hold 1 (slots_not (by kernel_rfl))).trans h1)) (fun w => by kernel_rfl) hK
    · obtain rfl := Option.some.inj ho
      refine ⟨rfl, fun a w' hS hold hin K hK => ?_⟩
      obtain ⟨y13, x13, rfl⟩ := hin 13 rfl (by omega) rfl
      obtain ⟨y14, x14, rfl⟩ := hin 14 rfl (by omega) rfl
      refine if_guard (d := 17) rfl rfl x13 ?_
      exact op_cell_own tInt _ w.heap.size 3 rfl rfl (eval_tmp x14) hS.1 0 _ _ rfl (.int .i64 n3) rfl hK
    · obtain rfl := Option.some.inj ho
      refine ⟨rfl, fun a w' hS hold hin K hK => ?_⟩
      obtain ⟨y13, x13, rfl⟩ := hin 13 rfl (by omega) rfl
      refine if_guard (d := 17) rfl rfl x13 ?_
      exact op_field 23 _ 1 _ (.pointer (some ⟨w.heap.size, 1, none⟩)) rfl rfl (eval_tmp ((hold 1 (slots_not (by kernel_rfl))).trans h1)) (fun w => by kernel_rfl) hK
    · obtain rfl := Option.some.inj ho
      refine ⟨rfl, fun a w' hS hold hin K hK => ?_⟩
      obtain ⟨y13, x13, rfl⟩ := hin 13 rfl (by omega) rfl
      obtain ⟨y16, x16, rfl⟩ := hin 16 rfl (by omega) rfl
      refine if_guard (d := 17) rfl rfl x13 ?_
      exact op_cell_own tInt _ w.heap.size 1 rfl rfl (eval_tmp x16) hS.1 0 _ _ rfl (.int .i64 n1) rfl hK
    · obtain rfl := Option.some.inj ho
      refine ⟨rfl, fun a w' hS hold hin K hK => ?_⟩
      obtain ⟨y13, x13, rfl⟩ := hin 13 rfl (by omega) rfl
      obtain ⟨y17, x17, rfl⟩ := hin 17 rfl (by omega) rfl
      refine if_guard (d := 17) rfl rfl x13 ?_
      exact op_max _ _ _ _ _ mx rfl rfl (eval_tmp x17) rfl HMX.out hK
    · obtain rfl := Option.some.inj ho
      refine ⟨rfl, fun a w' hS hold hin K hK => ?_⟩
      obtain ⟨y13, x13, rfl⟩ := hin 13 rfl (by omega) rfl
      obtain ⟨y18, x18, rfl⟩ := hin 18 rfl (by omega) rfl
      refine if_guard (d := 17) rfl rfl x13 ?_
      exact op_bin (V := (· = .int .i64 (26 + mx))) _ _ _ _ _ _ _ (.int .i64 (26 + mx)) rfl rfl rfl (eval_tmp x18) (fun w => add_in 26 mx HMN.out w) rfl hK
    · obtain rfl := Option.some.inj ho
      refine ⟨rfl, fun a w' hS hold hin K hK => ?_⟩
      obtain ⟨y13, x13, rfl⟩ := hin 13 rfl (by omega) rfl
      obtain ⟨y15, x15, rfl⟩ := hin 15 rfl (by omega) rfl
      obtain ⟨y19, x19, rfl⟩ := hin 19 rfl (by omega) rfl
      refine if_guard (d := 17) rfl rfl x13 ?_
      exact op_fn3 _ _ _ _ _ _ _ _ rfl rfl (eval_tmp x15) (eval_tmp x19) rfl (by intro args w; kernel_rfl) (within_ev H3.out _) hK
    · obtain rfl := Option.some.inj ho
      refine ⟨rfl, fun a w' hS hold hin K hK => ?_⟩
      obtain ⟨y13, x13, rfl⟩ := hin 13 rfl (by omega) rfl
      obtain ⟨y20, x20, rfl⟩ := hin 20 rfl (by omega) rfl
      refine if_always rfl ?_
      exact op_pick (V := (· = .bool true)) _ _ _ true _ rfl rfl (eval_tmp x13) (show (Act.eval a _) = _ from (eval_tmp x20)) rfl hK
    · obtain rfl := Option.some.inj ho
      refine ⟨rfl, fun a w' hS hold hin K hK => ?_⟩
      obtain ⟨y21, x21, rfl⟩ := hin 21 rfl (by omega) rfl
      refine if_always rfl ?_
      exact op_move (V := (· = .bool true)) _ _ rfl rfl (eval_tmp x21) rfl hK
    · obtain rfl := Option.some.inj ho
      refine ⟨rfl, fun a w' hS hold hin K hK => ?_⟩
      obtain ⟨y22, x22, rfl⟩ := hin 22 rfl (by omega) rfl
      refine if_guard (d := 26) rfl rfl x22 ?_
      exact op_field 23 _ 4 _ (.pointer (some ⟨w.heap.size, 4, none⟩)) rfl rfl (eval_tmp ((hold 1 (slots_not (by kernel_rfl))).trans h1)) (fun w => by kernel_rfl) hK
    · obtain rfl := Option.some.inj ho
      refine ⟨rfl, fun a w' hS hold hin K hK => ?_⟩
      obtain ⟨y22, x22, rfl⟩ := hin 22 rfl (by omega) rfl
      obtain ⟨y23, x23, rfl⟩ := hin 23 rfl (by omega) rfl
      refine if_guard (d := 26) rfl rfl x22 ?_
      exact op_cell_own tInt _ w.heap.size 4 rfl rfl (eval_tmp x23) hS.1 0 _ _ rfl (.int .i64 n4) rfl hK
    · obtain rfl := Option.some.inj ho
      refine ⟨rfl, fun a w' hS hold hin K hK => ?_⟩
      obtain ⟨y22, x22, rfl⟩ := hin 22 rfl (by omega) rfl
      obtain ⟨y24, x24, rfl⟩ := hin 24 rfl (by omega) rfl
      refine if_guard (d := 26) rfl rfl x22 ?_
      exact op_fn3 _ _ _ _ _ _ _ _ rfl rfl (eval_tmp x24) rfl rfl (by intro args w; kernel_rfl) (within_ev H4.out _) hK
    · obtain rfl := Option.some.inj ho
      refine ⟨rfl, fun a w' hS hold hin K hK => ?_⟩
      obtain ⟨y22, x22, rfl⟩ := hin 22 rfl (by omega) rfl
      obtain ⟨y25, x25, rfl⟩ := hin 25 rfl (by omega) rfl
      refine if_always rfl ?_
      exact op_pick (V := (· = .bool true)) _ _ _ true _ rfl rfl (eval_tmp x22) (show (Act.eval a _) = _ from (eval_tmp x25)) rfl hK
    · obtain rfl := Option.some.inj ho
      refine ⟨rfl, fun a w' hS hold hin K hK => ?_⟩
      obtain ⟨y26, x26, rfl⟩ := hin 26 rfl (by omega) rfl
      refine if_always rfl ?_
      exact op_move (V := (· = .bool true)) _ _ rfl rfl (eval_tmp x26) rfl hK
    · obtain rfl := Option.some.inj ho
      refine ⟨rfl, fun a w' hS hold hin K hK => ?_⟩
      obtain ⟨y27, x27, rfl⟩ := hin 27 rfl (by omega) rfl
      refine if_guard (d := 31) rfl rfl x27 ?_
      exact op_field 23 _ 5 _ (.pointer (some ⟨w.heap.size, 5, none⟩)) rfl rfl (eval_tmp ((hold 1 (slots_not (by kernel_rfl))).trans h1)) (fun w => by kernel_rfl) hK
    · obtain rfl := Option.some.inj ho
      refine ⟨rfl, fun a w' hS hold hin K hK => ?_⟩
      obtain ⟨y27, x27, rfl⟩ := hin 27 rfl (by omega) rfl
      obtain ⟨y28, x28, rfl⟩ := hin 28 rfl (by omega) rfl
      refine if_guard (d := 31) rfl rfl x27 ?_
      exact op_cell_own tInt _ w.heap.size 5 rfl rfl (eval_tmp x28) hS.1 0 _ _ rfl (.int .i64 n5) rfl hK
    · obtain rfl := Option.some.inj ho
      refine ⟨rfl, fun a w' hS hold hin K hK => ?_⟩
      obtain ⟨y27, x27, rfl⟩ := hin 27 rfl (by omega) rfl
      obtain ⟨y29, x29, rfl⟩ := hin 29 rfl (by omega) rfl
      refine if_guard (d := 31) rfl rfl x27 ?_
      exact op_fn3 _ _ _ _ _ _ _ _ rfl rfl (eval_tmp x29) rfl rfl (by intro args w; kernel_rfl) (within_ev H5.out _) hK
    · obtain rfl := Option.some.inj ho
      refine ⟨rfl, fun a w' hS hold hin K hK => ?_⟩
      obtain ⟨y27, x27, rfl⟩ := hin 27 rfl (by omega) rfl
      obtain ⟨y30, x30, rfl⟩ := hin 30 rfl (by omega) rfl
      refine if_always rfl ?_
      exact op_pick (V := (· = .bool false)) _ _ _ true _ rfl rfl (eval_tmp x27) (show (Act.eval a _) = _ from (eval_tmp x30)) rfl hK
  · intro i o sz h0i hi ho hA; cases hA
  clear hS
  intro t1 V1 hs hold hout hall hne hS
  replace HS := hs.trans HS
  replace hS := hS.1
  obtain ⟨x35, q35, v35⟩ : ∃ x, t1[35]? = some x ∧ ((· = .bool false)) x := hout 31 (by omega) rfl
  replace q35 : t1[35]? = some (.bool false) := q35.trans (congrArg some v35)
  replace h1 := (hold 1 (slots_not (by kernel_rfl))).trans h1
  clear hold hout hs hall hne
  simp only [List.drop_succ_cons, List.drop_zero]
  refine tlx_assign (.tmp 35) rfl rfl 3 rfl (by rw [HS]; decide) (.bool false) (eval_tmp q35) fun t1 ex0 hz hq he => ?_
  replace h1 := (he 1 (by decide)).trans h1
  replace q35 := (he 35 (by decide)).trans q35
  replace HS := hz.trans HS
  clear hz he ex0
  have h3 := hq
  clear hq
  refine wpList_nil ?_
  clear HT
  obtain ⟨f, e0, hf⟩ := wash HS
  have f1 := hf 1 _ h1
  have f3 := hf 3 _ h3
  clear hf
  rw [e0.trans (show _ = #[f 0, f 1, f 2, f 3, f 4, f 5, f 6, f 7, f 8, f 9, f 10, f 11, f 12, f 13, f 14, f 15, f 16, f 17, f 18, f 19, f 20, f 21, f 22, f 23, f 24, f 25, f 26, f 27, f 28, f 29, f 30, f 31, f 32, f 33, f 34, f 35, f 36, f 37] from by kernel_rfl), f1, f3]
  clear f1 f3
  clear e0
  try dsimp only
  clear h1 h3 q35 v35 hM HS t1 t0 M
  go_wp2_with fail
  exact ⟨rfl, .int .i64 200, by kernel_rfl, _, rfl, rfl, hS.1⟩
set_option maxHeartbeats 2000000 in
set_option maxRecDepth 100000 in
theorem check20_6 (n0 n1 n2 n3 n4 n5 mx : Int) (w : World) (hmx : (if 88 > n1 then 88 else n1) = mx) (hn : -9223372036854775808 ≤ 26 + mx ∧ 26 + mx ≤ 9223372036854775807) (h0 : decide (1 ≤ n0 ∧ n0 ≤ 256) = true) (h1 : decide (32 ≤ n1 ∧ n1 ≤ 512) = true) (h2 : decide (2 ≤ n2 ∧ n2 ≤ 64) = true) (h3 : decide (26 + mx ≤ n3 ∧ n3 ≤ 4096) = true) (h4 : decide (2 ≤ n4 ∧ n4 ≤ 16) = true) (h5 : decide (1 ≤ n5 ∧ n5 ≤ 16) = true) : Calls Tryd.prog 9 #[.agg #[.int .i64 n0, .int .i64 n1, .int .i64 n2, .int .i64 n3, .int .i64 n4, .int .i64 n5]] w (Gives (· = .int .i64 0) w) := by
  have hS := conf_start n0 n1 n2 n3 n4 n5 w
  have H0 := Lib.hid h0
  have H1 := Lib.hid h1
  have H2 := Lib.hid h2
  have H3 := Lib.hid h3
  have H4 := Lib.hid h4
  have H5 := Lib.hid h5
  have HMX := Lib.hid hmx
  have HMN := Lib.hid hn
  clear h0 h1 h2 h3 h4 h5 hmx hn
  go_enter Tryd.func9, Tryd.ntmps9
  go_wp2_with ((with_reducible refine guard_list ?_); first | (refine held_call _ rfl ?_))
  generalize w.alloc (.cells #[.int .i64 n0, .int .i64 n1, .int .i64 n2, .int .i64 n3, .int .i64 n4, .int .i64 n5] 23) = w0 at hS ⊢
  obtain ⟨M, hM⟩ : ∃ M, M = w0.heap.size := ⟨_, rfl⟩
  refine hide_held fun t0 HT => ?_
  have HS : t0.size = 38 := by rw [HT]; rfl
  have h1 : t0[1]? = some (.pointer (some ⟨w.heap.size, 0, none⟩)) := by rw [HT]; rfl
  refine wp_from_most 32 (fun i => [4, 5, 6, 7, 8, 9, 10, 11, 12, 13, 14, 15, 16, 17, 18, 19, 20, 21, 22, 23, 24, 25, 26, 27, 28, 29, 30, 31, 32, 33, 34, 35].getD i 0) (fun _ => none) (fun i => [(fun _ => True), (· = .int .i64 n0), (· = .bool true), (· = .bool true), (· = .pointer (some ⟨w.heap.size, 1, none⟩)), (· = .int .i64 n1), (· = .bool true), (· = .bool true), (· = .bool true), (· = .pointer (some ⟨w.heap.size, 2, none⟩)), (· = .int .i64 n2), (· = .bool true), (· = .bool true), (· = .bool true), (· = .pointer (some ⟨w.heap.size, 3, none⟩)), (· = .int .i64 n3), (· = .pointer (some ⟨w.heap.size, 1, none⟩)), (· = .int .i64 n1), (· = .int .i64 mx), (· = .int .i64 (26 + mx)), (· = .bool true), (· = .bool true), (· = .bool true), (· = .pointer (some ⟨w.heap.size, 4, none⟩)), (· = .int .i64 n4), (· = .bool true), (· = .bool true), (· = .bool true), (· = .pointer (some ⟨w.heap.size, 5, none⟩)), (· = .int .i64 n5), (· = .bool true), (· = .bool true)].getD i (fun _ => True)) (fun w' => Own w [(w.heap.size, 6, (· = .agg #[.int .i64 n0, .int .i64 n1, .int .i64 n2, .int .i64 n3, .int .i64 n4, .int .i64 n5]))] w' ∧ M ≤ w'.heap.size) M
    2 (by omega) (by kernel_rfl) ?_ (slots_apart (by kernel_rfl)) (slots_lie (by rw [HS]; kernel_rfl)) ⟨hS, Nat.le_of_eq hM⟩ (fun w' h => h.2) (fun w1 w2 h b => ⟨h.1.keep b, Nat.le_trans h.2 b.size⟩) ?_ ?_ ?_
  · intro j hj _
    have hc : j = 0 ∨ j = 1 := by omega
    rcases hc with rfl | rfl
    · exact ⟨rfl, _, by rw [HT]; rfl, trivial⟩
    · exact ⟨rfl, _, by rw [HT]; rfl, rfl⟩
  · clear hS
    intro i o h0i hi ho hA
    have hc : i = 2 ∨ i = 3 ∨ i = 4 ∨ i = 5 ∨ i = 6 ∨ i = 7 ∨ i = 8 ∨ i = 9 ∨ i = 10 ∨ i = 11 ∨ i = 12 ∨ i = 13 ∨ i = 14 ∨ i = 15 ∨ i = 16 ∨ i = 17 ∨ i = 18 ∨ i = 19 ∨ i = 20 ∨ i = 21 ∨ i = 22 ∨ i = 23 ∨ i = 24 ∨ i = 25 ∨ i = 26 ∨ i = 27 ∨ i = 28 ∨ i = 29 ∨ i = 30 ∨ i = 31 := by omega
    rcases hc with rfl | rfl | rfl | rfl | rfl | rfl | rfl | rfl | rfl | rfl | rfl | rfl | rfl | rfl | rfl | rfl | rfl | rfl | rfl | rfl | rfl | rfl | rfl | rfl | rfl | rfl | rfl | rfl | rfl | rfl
    · obtain rfl := Option.some.inj ho
      refine ⟨rfl, fun a w' hS hold hin K hK => ?_⟩
      obtain ⟨y1, x1, rfl⟩ := hin 1 rfl (by omega) rfl
      refine if_always rfl ?_
      exact op_fn3 _ _ _ _ _ _ _ _ rfl rfl (eval_tmp x1) rfl rfl (by intro args w; kernel_rfl) (within_ev H0.out _) hK
    · obtain rfl := Option.some.inj ho
      refine ⟨rfl, fun a w' hS hold hin K hK => ?_⟩
      obtain ⟨y2, x2, rfl⟩ := hin 2 rfl (by omega) rfl
      refine if_always rfl ?_
      exact op_move (V := (· = .bool true)) _ _ rfl rfl (eval_tmp x2) rfl hK
    · obtain rfl := Option.some.inj ho
      refine ⟨rfl, fun a w' hS hold hin K hK => ?_⟩
      obtain ⟨y3, x3, rfl⟩ := hin 3 rfl (by omega) rfl
      refine if_guard (d := 7) rfl rfl x3 ?_
      exact op_field 23 _ 1 _ (.pointer (some ⟨w.heap.size, 1, none⟩)) rfl rfl (eval_tmp ((hold 1 (slots_not (by kernel_rfl))).trans h1)) (fun w => by kernel_rfl) hK
    · obtain rfl := Option.some.inj ho
      refine ⟨rfl, fun a w' hS hold hin K hK => ?_⟩
      obtain ⟨y3, x3, rfl⟩ := hin 3 rfl (by omega) rfl
      obtain ⟨y4, x4, rfl⟩ := hin 4 rfl (by omega) rfl
      refine if_guard (d := 7) rfl rfl x3 ?_
      exact op_cell_own tInt _ w.heap.size 1 rfl rfl (eval_tmp x4) hS.1 0 _ _ rfl (.int .i64 n1) rfl hK
    · obtain rfl := Option.some.inj ho
      refine ⟨rfl, fun a w' hS hold hin K hK => ?_⟩
      obtain ⟨y3, x3, rfl⟩ := hin 3 rfl (by omega) rfl
      obtain ⟨y5, x5, rfl⟩ := hin 5 rfl (by omega) rfl
      refine if_guard (d := 7) rfl rfl x3 ?_
      exact op_fn3 _ _ _ _ _ _ _ _ rfl rfl (eval_tmp x5) rfl rfl (by intro args w; kernel_rfl) (within_ev H1.out _) hK
    · obtain rfl := Option.some.inj ho
      refine ⟨rfl, fun a w' hS hold hin K hK => ?_⟩
      obtain ⟨y3, x3, rfl⟩ := hin 3 rfl (by omega) rfl
      obtain ⟨y6, x6, rfl⟩ := hin 6 rfl (by omega) rfl
      refine if_always rfl ?_
      exact op_pick (V := (· = .bool true)) _ _ _ true _ rfl rfl (eval_tmp x3) (show (Act.eval a _) = _ from (eval_tmp x6)) rfl hK
    · obtain rfl := Option.some.inj ho
      refine ⟨rfl, fun a w' hS hold hin K hK => ?_⟩
      obtain ⟨y7, x7, rfl⟩ := hin 7 rfl (by omega) rfl
      refine if_always rfl ?_
      exact op_move (V := (· = .bool true)) _ _ rfl rfl (eval_tmp x7) rfl hK
    · obtain rfl := Option.some.inj ho
      refine ⟨rfl, fun a w' hS hold hin K hK => ?_⟩
      obtain ⟨y8, x8, rfl⟩ := hin 8 rfl (by omega) rfl
      refine if_guard (d := 12) rfl rfl x8 ?_
      exact op_field 23 _ 2 _ (.pointer (some ⟨w.heap.size, 2, none⟩)) rfl rfl (eval_tmp ((hold 1 (slots_not (by kernel_rfl))).trans h1)) (fun w => by kernel_rfl) hK
    · obtain rfl := Option.some.inj ho
      refine ⟨rfl, fun a w' hS hold hin K hK => ?_⟩
      obtain ⟨y8, x8, rfl⟩ := hin 8 rfl (by omega) rfl
      obtain ⟨y9, x9, rfl⟩ := hin 9 rfl (by omega) rfl
      refine if_guard (d := 12) rfl rfl x8 ?_
      exact op_cell_own tInt _ w.heap.size 2 rfl rfl (eval_tmp x9) hS.1 0 _ _ rfl (.int .i64 n2) rfl hK
    · obtain rfl := Option.some.inj ho
      refine ⟨rfl, fun a w' hS hold hin K hK => ?_⟩
      obtain ⟨y8, x8, rfl⟩ := hin 8 rfl (by omega) rfl
      obtain ⟨y10, x10, rfl⟩ := hin 10 rfl (by omega) rfl
      refine if_guard (d := 12) rfl rfl x8 ?_
      exact op_fn3 _ _ _ _ _ _ _ _ rfl rfl (eval_tmp x10) rfl rfl (by intro args w; kernel_rfl) (within_ev H2.out _) hK
    · obtain rfl := Option.some.inj ho
      refine ⟨rfl, fun a w' hS hold hin K hK => ?_⟩
      obtain ⟨y8, x8, rfl⟩ := hin 8 rfl (by omega) rfl
      obtain ⟨y11, x11, rfl⟩ := hin 11 rfl (by omega) rfl
      refine if_always rfl ?_
      exact op_pick (V := (· = .bool true)) _ _ _ true _ rfl rfl (eval_tmp x8) (show (Act.eval a _) = _ from (eval_tmp x11)) rfl hK
    · obtain rfl := Option.some.inj ho
      refine ⟨rfl, fun a w' hS hold hin K hK => ?_⟩
      obtain ⟨y12, x12, rfl⟩ := hin 12 rfl (by omega) rfl
      refine if_always rfl ?_
      exact op_move (V := (· = .bool true)) _ _ rfl rfl (eval_tmp x12) rfl hK
    · obtain rfl := Option.some.inj ho
      refine ⟨rfl, fun a w' hS hold hin K hK => ?_⟩
      obtain ⟨y13, x13, rfl⟩ := hin 13 rfl (by omega) rfl
      refine if_guard (d := 17) rfl rfl x13 ?_
      exact op_field 23 _ 3 _ (.pointer (some ⟨w.heap.size, 3, none⟩)) rfl rfl (eval_tmp ((hold 1 (slots_not (by kernel_rfl))).trans h1)) (fun w => by kernel_rfl) hK
    · obtain rfl := Option.some.inj ho
      refine ⟨rfl, fun a w' hS hold hin K hK => ?_⟩
      obtain ⟨y13, x13, rfl⟩ := hin 13 rfl (by omega) rfl
      obtain ⟨y14, x14, rfl⟩ := hin 14 rfl (by omega) rfl
      refine if_guard (d := 17) rfl rfl x13 ?_
      exact op_cell_own tInt _ w.heap.size 3 rfl rfl (eval_tmp x14) hS.1 0 _ _ rfl (.int .i64 n3) rfl hK
    · obtain rfl := Option.some.inj ho
      refine ⟨rfl, fun a w' hS hold hin K hK => ?_⟩
      obtain ⟨y13, x13, rfl⟩ := hin 13 rfl (by omega) rfl
      refine if_guard (d := 17) rfl rfl x13 ?_
      exact op_field 23 _ 1 _ (.pointer (some ⟨w.heap.size, 1, none⟩)) rfl rfl (eval_tmp ((hold 1 (slots_not (by kernel_rfl))).trans h1)) (fun w => by kernel_rfl) hK
    · obtain rfl := Option.some.inj ho
      refine ⟨rfl, fun a w' hS hold hin K hK => ?_⟩
      obtain ⟨y13, x13, rfl⟩ := hin 13 rfl (by omega) rfl
      obtain ⟨y16, x16, rfl⟩ := hin 16 rfl (by omega) rfl
      refine if_guard (d := 17) rfl rfl x13 ?_
      exact op_cell_own tInt _ w.heap.size 1 rfl rfl (eval_tmp x16) hS.1 0 _ _ rfl (.int .i64 n1) rfl hK
    · obtain rfl := Option.some.inj ho
      refine ⟨rfl, fun a w' hS hold hin K hK => ?_⟩
      obtain ⟨y13, x13, rfl⟩ := hin 13 rfl (by omega) rfl
      obtain ⟨y17, x17, rfl⟩ := hin 17 rfl (by omega) rfl
      refine if_guard (d := 17) rfl rfl x13 ?_
      exact op_max _ _ _ _ _ mx rfl rfl (eval_tmp x17) rfl HMX.out hK
    · obtain rfl := Option.some.inj ho
      refine ⟨rfl, fun a w' hS hold hin K hK => ?_⟩
      obtain ⟨y13, x13, rfl⟩ := hin 13 rfl (by omega) rfl
      obtain ⟨y18, x18, rfl⟩ := hin 18 rfl (by omega) rfl
      refine if_guard (d := 17) rfl rfl x13 ?_
      exact op_bin (V := (· = .int .i64 (26 + mx))) _ _ _ _ _ _ _ (.int .i64 (26 + mx)) rfl rfl rfl (eval_tmp x18) (fun w => add_in 26 mx HMN.out w) rfl hK
    · obtain rfl := Option.some.inj ho
      refine ⟨rfl, fun a w' hS hold hin K hK => ?_⟩
      obtain ⟨y13, x13, rfl⟩ := hin 13 rfl (by omega) rfl
      obtain ⟨y15, x15, rfl⟩ := hin 15 rfl (by omega) rfl
      obtain ⟨y19, x19, rfl⟩ := hin 19 rfl (by omega) rfl
      refine if_guard (d := 17) rfl rfl x13 ?_
      exact op_fn3 _ _ _ _ _ _ _ _ rfl rfl (eval_tmp x15) (eval_tmp x19) rfl (by intro args w; kernel_rfl) (within_ev H3.out _) hK
    · obtain rfl := Option.some.inj ho
      refine ⟨rfl, fun a w' hS hold hin K hK => ?_⟩
      obtain ⟨y13, x13, rfl⟩ := hin 13 rfl (by omega) rfl
      obtain ⟨y20, x20, rfl⟩ := hin 20 rfl (by omega) rfl
      refine if_always rfl ?_
      exact op_pick (V := (· = .bool true)) _ _ _ true _ rfl rfl (eval_tmp x13) (show (Act.eval a _) = _ from (eval_tmp x20)) rfl hK
    · obtain rfl := Option.some.inj ho
      refine ⟨rfl, fun a w' hS hold hin K hK => ?_⟩
      obtain ⟨y21, x21, rfl⟩ := hin 21 rfl (by omega) rfl
      refine if_always rfl ?_
      exact op_move (V := (· = .bool true)) _ _ rfl rfl (eval_tmp x21) rfl hK
    · obtain rfl := Option.some.inj ho
      refine ⟨rfl, fun a w' hS hold hin K hK => ?_⟩
      obtain ⟨y22, x22, rfl⟩ := hin 22 rfl (by omega) rfl
      refine if_guard (d := 26) rfl rfl x22 ?_
      exact op_field 23 _ 4 _ (.pointer (some ⟨w.heap.size, 4, none⟩)) rfl rfl (eval_tmp ((hold 1 (slots_not (by kernel_rfl))).trans h1)) (fun w => by kernel_rfl) hK
    · obtain rfl := Option.some.inj ho
      refine ⟨rfl, fun a w' hS hold hin K hK => ?_⟩
      obtain ⟨y22, x22, rfl⟩ := hin 22 rfl (by omega) rfl
      obtain ⟨y23, x23, rfl⟩ := hin 23 rfl (by omega) rfl
      refine if_guard (d := 26) rfl rfl x22 ?_
      exact op_cell_own tInt _ w.heap.size 4 rfl rfl (eval_tmp x23) hS.1 0 _ _ rfl (.int .i64 n4) rfl hK
    · obtain rfl := Option.some.inj ho
      refine ⟨rfl, fun a w' hS hold hin K hK => ?_⟩
      obtain ⟨y22, x22, rfl⟩ := hin 22 rfl (by omega) rfl
      obtain ⟨y24, x24, rfl⟩ := hin 24 rfl (by omega) rfl
      refine if_guard (d := 26) rfl rfl x22 ?_
      exact op_fn3 _ _ _ _ _ _ _ _ rfl rfl (eval_tmp x24) rfl rfl (by intro args w; kernel_rfl) (within_ev H4.out _) hK
    · obtain rfl := Option.some.inj ho
      refine ⟨rfl, fun a w' hS hold hin K hK => ?_⟩
      obtain ⟨y22, x22, rfl⟩ := hin 22 rfl (by omega) rfl
      obtain ⟨y25, x25, rfl⟩ := hin 25 rfl (by omega) rfl
      refine if_always rfl ?_
      exact op_pick (V := (· = .bool true)) _ _ _ true _ rfl rfl (eval_tmp x22) (show (Act.eval a _) = _ from (eval_tmp x25)) rfl hK
    · obtain rfl := Option.some.inj ho
      refine ⟨rfl, fun a w' hS hold hin K hK => ?_⟩
      obtain ⟨y26, x26, rfl⟩ := hin 26 rfl (by omega) rfl
      refine if_always rfl ?_
      exact op_move (V := (· = .bool true)) _ _ rfl rfl (eval_tmp x26) rfl hK
    · obtain rfl := Option.some.inj ho
      refine ⟨rfl, fun a w' hS hold hin K hK => ?_⟩
      obtain ⟨y27, x27, rfl⟩ := hin 27 rfl (by omega) rfl
      refine if_guard (d := 31) rfl rfl x27 ?_
      exact op_field 23 _ 5 _ (.pointer (some ⟨w.heap.size, 5, none⟩)) rfl rfl (eval_tmp ((hold 1 (slots_not (by kernel_rfl))).trans h1)) (fun w => by kernel_rfl) hK
    · obtain rfl := Option.some.inj ho
      refine ⟨rfl, fun a w' hS hold hin K hK => ?_⟩
      obtain ⟨y27, x27, rfl⟩ := hin 27 rfl (by omega) rfl
      obtain ⟨y28, x28, rfl⟩ := hin 28 rfl (by omega) rfl
      refine if_guard (d := 31) rfl rfl x27 ?_
      exact op_cell_own tInt _ w.heap.size 5 rfl rfl (eval_tmp x28) hS.1 0 _ _ rfl (.int .i64 n5) rfl hK
    · obtain rfl := Option.some.inj ho
      refine ⟨rfl, fun a w' hS hold hin K hK => ?_⟩
      obtain ⟨y27, x27, rfl⟩ := hin 27 rfl (by omega) rfl
      obtain ⟨y29, x29, rfl⟩ := hin 29 rfl (by omega) rfl
      refine if_guard (d := 31) rfl rfl x27 ?_
      exact op_fn3 _ _ _ _ _ _ _ _ rfl rfl (eval_tmp x29) rfl rfl (by intro args w; kernel_rfl) (within_ev H5.out _) hK
    · obtain rfl := Option.some.inj ho
      refine ⟨rfl, fun a w' hS hold hin K hK => ?_⟩
      obtain ⟨y27, x27, rfl⟩ := hin 27 rfl (by omega) rfl
      obtain ⟨y30, x30, rfl⟩ := hin 30 rfl (by omega) rfl
      refine if_always rfl ?_
      exact op_pick (V := (· = .bool true)) _ _ _ true _ rfl rfl (eval_tmp x27) (show (Act.eval a _) = _ from (eval_tmp x30)) rfl hK
  · intro i o sz h0i hi ho hA; cases hA
  clear hS
  intro t1 V1 hs hold hout hall hne hS
  replace HS := hs.trans HS
  replace hS := hS.1
  obtain ⟨x35, q35, v35⟩ : ∃ x, t1[35]? = some x ∧ ((· = .bool true)) x := hout 31 (by omega) rfl
  replace q35 : t1[35]? = some (.bool true) := q35.trans (congrArg some v35)
  replace h1 := (hold 1 (slots_not (by kernel_rfl))).trans h1
  clear hold hout hs hall hne
  simp only [List.drop_succ_cons, List.drop_zero]
  refine tlx_assign (.tmp 35) rfl rfl 3 rfl (by rw [HS]; decide) (.bool true) (eval_tmp q35) fun t1 ex0 hz hq he => ?_
  replace h1 := (he 1 (by decide)).trans h1
  replace q35 := (he 35 (by decide)).trans q35
  replace HS := hz.trans HS
  clear hz he ex0
  have h3 := hq
  clear hq
  refine wpList_nil ?_
  clear HT
  obtain ⟨f, e0, hf⟩ := wash HS
  have f1 := hf 1 _ h1
  have f3 := hf 3 _ h3
  clear hf
  rw [e0.trans (show _ = #[f 0, f 1, f 2, f 3, f 4, f 5, f 6, f 7, f 8, f 9, f 10, f 11, f 12, f 13, f 14, f 15, f 16, f 17, f 18, f 19, f 20, f 21, f 22, f 23, f 24, f 25, f 26, f 27, f 28, f 29, f 30, f 31, f 32, f 33, f 34, f 35, f 36, f 37] from by kernel_rfl), f1, f3]
  clear f1 f3
  clear e0
  try dsimp only
  clear h1 h3 q35 v35 hM HS t1 t0 M
  go_wp2_with fail
  exact ⟨rfl, .int .i64 0, by kernel_rfl, _, rfl, rfl, hS.1⟩
theorem check20_any (n0 n1 n2 n3 n4 n5 : Int) (w : World) : Calls Tryd.prog 9 #[.agg #[.int .i64 n0, .int .i64 n1, .int .i64 n2, .int .i64 n3, .int .i64 n4, .int .i64 n5]] w (Gives (· = .int .i64 (if good n0 n1 n2 n3 n4 n5 = true then 0 else 200)) w) := by
  obtain ⟨mx, hmx⟩ : ∃ mx, (if 88 > n1 then 88 else n1) = mx := ⟨_, rfl⟩
  have bad : ¬ ((1 ≤ n0 ∧ n0 ≤ 256) ∧ (32 ≤ n1 ∧ n1 ≤ 512) ∧ (2 ≤ n2 ∧ n2 ≤ 64) ∧ (26 + mx ≤ n3 ∧ n3 ≤ 4096) ∧ (2 ≤ n4 ∧ n4 ≤ 16) ∧ (1 ≤ n5 ∧ n5 ≤ 16)) → good n0 n1 n2 n3 n4 n5 = false := fun h => decide_eq_false fun hh => h (by split at hmx <;> omega)
  by_cases h0 : 1 ≤ n0 ∧ n0 ≤ 256
  · skip
    by_cases h1 : 32 ≤ n1 ∧ n1 ≤ 512
    · skip
      by_cases h2 : 2 ≤ n2 ∧ n2 ≤ 64
      · skip
        by_cases h3 : 26 + mx ≤ n3 ∧ n3 ≤ 4096
        · skip
          by_cases h4 : 2 ≤ n4 ∧ n4 ≤ 16
          · skip
            by_cases h5 : 1 ≤ n5 ∧ n5 ≤ 16
            · skip
              rw [if_pos (show good n0 n1 n2 n3 n4 n5 = true from decide_eq_true (by split at hmx <;> omega))]
              exact check20_6 n0 n1 n2 n3 n4 n5 mx w hmx (by omega) (decide_eq_true h0) (decide_eq_true h1) (decide_eq_true h2) (decide_eq_true h3) (decide_eq_true h4) (decide_eq_true h5)
            · rw [bad (fun h => h5 h.2.2.2.2.2), if_neg (by decide)]
              exact check20_5 n0 n1 n2 n3 n4 n5 mx w hmx (by omega) (decide_eq_true h0) (decide_eq_true h1) (decide_eq_true h2) (decide_eq_true h3) (decide_eq_true h4) (decide_eq_false h5)
          · rw [bad (fun h => h4 h.2.2.2.2.1), if_neg (by decide)]
            exact check20_4 n0 n1 n2 n3 n4 n5 mx w hmx (by omega) (decide_eq_true h0) (decide_eq_true h1) (decide_eq_true h2) (decide_eq_true h3) (decide_eq_false h4)
        · rw [bad (fun h => h3 h.2.2.2.1), if_neg (by decide)]
          exact check20_3 n0 n1 n2 n3 n4 n5 mx w hmx (by omega) (decide_eq_true h0) (decide_eq_true h1) (decide_eq_true h2) (decide_eq_false h3)
      · rw [bad (fun h => h2 h.2.2.1), if_neg (by decide)]
        exact check20_2 n0 n1 n2 n3 n4 n5 w (decide_eq_true h0) (decide_eq_true h1) (decide_eq_false h2)
    · rw [bad (fun h => h1 h.2.1), if_neg (by decide)]
      exact check20_1 n0 n1 n2 n3 n4 n5 w (decide_eq_true h0) (decide_eq_false h1)
  · rw [bad (fun h => h0 h.1), if_neg (by decide)]
    exact check20_0 n0 n1 n2 n3 n4 n5 w  (decide_eq_false h0)
end Go.Proofs.YtmochmpamgfboabDoor
