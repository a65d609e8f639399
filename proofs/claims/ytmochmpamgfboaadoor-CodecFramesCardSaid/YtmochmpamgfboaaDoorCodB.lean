/- Is a config good: codec.Check and the reference's Check: one answer. No condition. -/
import Derived.Test.YtmochmpamgfboaaDoorCodA
namespace Go.Proofs.YtmochmpamgfboaaDoor
open Go.RowKit
theorem tConf : RowT Tryd.prog 23 6 := ⟨_, Tryd.underlying23, rfl, by kernel_rfl⟩
theorem tInt : CellT Tryd.prog 3 := ⟨_, Tryd.underlying3, rfl⟩
/-- A good config. -/
def good (n0 n1 n2 n3 n4 n5 : Int) : Bool := decide ((1 ≤ n0 ∧ n0 ≤ 256) ∧ (32 ≤ n1 ∧ n1 ≤ 512) ∧ (2 ≤ n2 ∧ n2 ≤ 64) ∧ ((26 + n1 ≤ n3 ∧ 114 ≤ n3) ∧ n3 ≤ 4096) ∧ (2 ≤ n4 ∧ n4 ≤ 16) ∧ (1 ≤ n5 ∧ n5 ≤ 16))
theorem conf_start (n0 n1 n2 n3 n4 n5 : Int) (w : World) : Own w [(w.heap.size, 6, (· = .agg #[.int .i64 n0, .int .i64 n1, .int .i64 n2, .int .i64 n3, .int .i64 n4, .int .i64 n5]))] (w.alloc (.cells #[.int .i64 n0, .int .i64 n1, .int .i64 n2, .int .i64 n3, .int .i64 n4, .int .i64 n5] 23)) :=
  (Own.of_below (by go_grown)).add (g := w.heap.size) (Nat.le_refl _) (fun r hr => by cases hr) ⟨_, _, heap_alloc_new w _, rfl, rfl⟩

section
variable {P : Program} {o : Oper} {a : Act} {w : World} {Q : Exit → Act → World → Prop} {d : Nat} {K : Act → World → Prop}
theorem op_max (x y : Operand) (tys : Array TypeId) (u v m : Int) (ho : o.op = .call { callee := .builtin .max, args := #[x, y], argTypes := tys }) (hd : o.dst = some d) (hx : a.eval x = .int .i64 u) (hy : a.eval y = .int .i64 v) (h : (if v > u then v else u) = m)
    (hK : ∀ x w', x = .int .i64 m → Below w.heap.size w w' → K (a.put (some d) x) w') : o.wp P a w K Q := by
  subst h
  refine op_val (V := (· = .int .i64 _)) (.int .i64 _) hd ?_ rfl hK
  unfold execOp
  simp only [ho, resolve, invoke, builtin, Sem.run_bind, Sem.run_pure, Result.andThen_ok, List.map_toArray, List.map_cons, List.map_nil, hx, hy]
  rw [run_max_int2]
  rfl
end
theorem add_in {p q : Operand} (a b : Int) (h : -9223372036854775808 ≤ a + b ∧ a + b ≤ 9223372036854775807) (w : World) : (do eqGuard .add 3 p q (.int .i64 a) (.int .i64 b); binOp .add 3 (.int .i64 a) (.int .i64 b) : Sem Value).run Tryd.prog w = .ok (.int .i64 (a + b)) w := by
  have e : IntKind.i64.wrap (a + b) = a + b := IntWalk.i64_in _ (by omega)
  conv => rhs; rw [← e]
  rfl

theorem cmp_geq {p q : Operand} {a b : Int} {c : Bool} (h : decide (b ≤ a) = c) (w : World) : (do eqGuard .geq 3 p q (.int .i64 a) (.int .i64 b); binOp .geq 3 (.int .i64 a) (.int .i64 b) : Sem Value).run Tryd.prog w = .ok (.bool c) w := by
  subst h; rfl
theorem cmp_leq {p q : Operand} {a b : Int} {c : Bool} (h : decide (a ≤ b) = c) (w : World) : (do eqGuard .leq 3 p q (.int .i64 a) (.int .i64 b); binOp .leq 3 (.int .i64 a) (.int .i64 b) : Sem Value).run Tryd.prog w = .ok (.bool c) w := by
  subst h; rfl
set_option maxHeartbeats 2000000 in
set_option maxRecDepth 100000 in
theorem check20_0 (n0 n1 n2 n3 n4 n5 : Int) (w : World) (h0 : decide (1 ≤ n0 ∧ n0 ≤ 256) = false) : Calls Tryd.prog 37 #[.agg #[.int .i64 n0, .int .i64 n1, .int .i64 n2, .int .i64 n3, .int .i64 n4, .int .i64 n5]] w (Gives (· = .int .i64 200) w) := by
  have hS := conf_start n0 n1 n2 n3 n4 n5 w
  have H0 := Lib.hid h0
  clear h0
  go_enter Tryd.func37, Tryd.ntmps37
  go_wp2_with ((with_reducible refine guard_list ?_); first | (refine held_call _ rfl ?_))
  generalize w.alloc (.cells #[.int .i64 n0, .int .i64 n1, .int .i64 n2, .int .i64 n3, .int .i64 n4, .int .i64 n5] 23) = w0 at hS ⊢
  obtain ⟨M, hM⟩ : ∃ M, M = w0.heap.size := ⟨_, rfl⟩
  refine hide_held fun t0 HT => ?_
  have HS : t0.size = 38 := by rw [HT]; rfl
  have h1 : t0[1]? = some (.pointer (some ⟨w.heap.size, 0, none⟩)) := by rw [HT]; rfl
  refine wp_from_most 32 (fun i => [4, 5, 6, 7, 8, 9, 10, 11, 12, 13, 14, 15, 16, 17, 18, 19, 20, 21, 22, 23, 24, 25, 26, 27, 28, 29, 30, 31, 32, 33, 34, 35].getD i 0) (fun _ => none) (fun i => [(fun _ => True), (· = .int .i64 n0), (· = .bool false), (· = .bool false), (· = undef), (· = undef), (· = undef), (· = .bool false), (· = .bool false), (· = undef), (· = undef), (· = undef), (· = .bool false), (· = .bool false), (· = undef), (· = undef), (· = undef), (· = undef), (· = undef), (· = undef), (· = undef), (· = .bool false), (· = .bool false), (· = undef), (· = undef), (· = undef), (· = .bool false), (· = .bool false), (· = undef), (· = undef), (· = undef), (· = .bool false)].getD i (fun _ => True)) (fun w' => Own w [(w.heap.size, 6, (· = .agg #[.int .i64 n0, .int .i64 n1, .int .i64 n2, .int .i64 n3, .int .i64 n4, .int .i64 n5]))] w' ∧ M ≤ w'.heap.size) M
    2 (by omega) (by kernel_rfl) ?_ (slots_apart (by kernel_rfl)) (slots_lie (by rw [HS]; kernel_rfl)) ⟨hS, Nat.le_of_eq hM⟩ (fun w' h => h.2) (fun w1 w2 h b => ⟨h.1.keep b, Nat.le_trans h.2 b.size⟩) ?_ ?_ ?_
  · intro j hj _
    have hc : j = 0 ∨ j = 1 := by omega
    rcases hc with rfl | rfl
    · exact ⟨rfl, _, by rw [HT]; rfl, trivial⟩
    · exact ⟨rfl, _, by rw [HT]; rfl, rfl⟩
  · clear hS
    intro i o h0i hi ho hA
    have hc : i = 2 ∨ i = 3 ∨ i = 4 ∨ i = 5 ∨ i = 6 ∨ i = 7 ∨ i = 8 ∨ i = 9 ∨ i = 10 ∨ i = 11 ∨ i = 12 ∨ i = 13 ∨ i = 14 ∨ i = 15 ∨ i = 16 ∨ i = 17 ∨ i = 18 ∨ i = 19 ∨ i = 20 ∨ i = 21 ∨ i = 22 ∨ i = 23 ∨ i = 24 ∨ i = 25 ∨ i = 26 ∨ i = 27 ∨ i = 28 ∨ i = 29 ∨ i = 30 ∨ i = 31 := by omega
    rcases hc with rfl | rfl | rfl | rfl | rfl | rfl | rfl | rfl | rfl | rfl | rfl | rfl | rfl | rfl | rfl | rfl | rfl | rfl | rfl | rfl | rfl | rfl | rfl | rfl | rfl | rfl | rfl | rfl | rfl | rfl
    · obtain rfl := Option.some.inj ho
      refine ⟨rfl, fun a w' hS hold hin K hK => ?_⟩
      obtain ⟨y1, x1, rfl⟩ := hin 1 rfl (by omega) rfl
      refine if_always rfl ?_
      exact op_fn3 _ _ _ _ _ _ _ _ rfl rfl (eval_tmp x1) rfl rfl (by intro args w; kernel_rfl) (within_ev H0.out _) hK
    · obtain rfl := Option.some.inj ho
      refine ⟨rfl, fun a w' hS hold hin K hK => ?_⟩
      obtain ⟨y2, x2, rfl⟩ := hin 2 rfl (by omega) rfl
      refine if_always rfl ?_
      exact op_move (V := (· = .bool false)) _ _ rfl rfl (eval_tmp x2) rfl hK
    · obtain rfl := Option.some.inj ho
      refine ⟨rfl, fun a w' hS hold hin K hK => ?_⟩
      obtain ⟨y3, x3, rfl⟩ := hin 3 rfl (by omega) rfl
      exact if_guard_off (d := 7) rfl rfl x3 (by decide) (hK _ _ rfl (Below.refl _ _))
    · obtain rfl := Option.some.inj ho
      refine ⟨rfl, fun a w' hS hold hin K hK => ?_⟩
      obtain ⟨y3, x3, rfl⟩ := hin 3 rfl (by omega) rfl
      exact if_guard_off (d := 7) rfl rfl x3 (by decide) (hK _ _ rfl (Below.refl _ _))
    · obtain rfl := Option.some.inj ho
      refine ⟨rfl, fun a w' hS hold hin K hK => ?_⟩
      obtain ⟨y3, x3, rfl⟩ := hin 3 rfl (by omega) rfl
      exact if_guard_off (d := 7) rfl rfl x3 (by decide) (hK _ _ rfl (Below.refl _ _))
    · obtain rfl := Option.some.inj ho
      refine ⟨rfl, fun a w' hS hold hin K hK => ?_⟩
      obtain ⟨y3, x3, rfl⟩ := hin 3 rfl (by omega) rfl
      refine if_always rfl ?_
      exact op_pick (V := (· = .bool false)) _ _ _ false _ rfl rfl (eval_tmp x3) (show Act.eval a (.const (.bool false)) = (.bool false) from rfl) rfl hK
    · obtain rfl := Option.some.inj ho
      refine ⟨rfl, fun a w' hS hold hin K hK => ?_⟩
      obtain ⟨y7, x7, rfl⟩ := hin 7 rfl (by omega) rfl
      refine if_always rfl ?_
      exact op_move (V := (· = .bool false)) _ _ rfl rfl (eval_tmp x7) rfl hK
    · obtain rfl := Option.some.inj ho
      refine ⟨rfl, fun a w' hS hold hin K hK => ?_⟩
      obtain ⟨y8, x8, rfl⟩ := hin 8 rfl (by omega) rfl
      exact if_guard_off (d := 12) rfl rfl x8 (by decide) (hK _ _ rfl (Below.refl _ _))
    · obtain rfl := Option.some.inj ho
      refine ⟨rfl, fun a w' hS hold hin K hK => ?_⟩
      obtain ⟨y8, x8, rfl⟩ := hin 8 rfl (by omega) rfl
      exact if_guard_off (d := 12) rfl rfl x8 (by decide) (hK _ _ rfl (Below.refl _ _))
    · obtain rfl := Option.some.inj ho
      refine ⟨rfl, fun a w' hS hold hin K hK => ?_⟩
      obtain ⟨y8, x8, rfl⟩ := hin 8 rfl (by omega) rfl
      exact if_guard_off (d := 12) rfl rfl x8 (by decide) (hK _ _ rfl (Below.refl _ _))
    · obtain rfl := Option.some.inj ho
      refine ⟨rfl, fun a w' hS hold hin K hK => ?_⟩
      obtain ⟨y8, x8, rfl⟩ := hin 8 rfl (by omega) rfl
      refine if_always rfl ?_
      exact op_pick (V := (· = .bool false)) _ _ _ false _ rfl rfl (eval_tmp x8) (show Act.eval a (.const (.bool false)) = (.bool false) from rfl) rfl hK
    · obtain rfl := Option.some.inj ho
      refine ⟨rfl, fun a w' hS hold hin K hK => ?_⟩
      obtain ⟨y12, x12, rfl⟩ := hin 12 rfl (by omega) rfl
      refine if_always rfl ?_
      exact op_move (V := (· = .bool false)) _ _ rfl rfl (eval_tmp x12) rfl hK
    · obtain rfl := Option.some.inj ho
      refine ⟨rfl, fun a w' hS hold hin K hK => ?_⟩
      obtain ⟨y13, x13, rfl⟩ := hin 13 rfl (by omega) rfl
      exact if_guard_off (d := 17) rfl rfl x13 (by decide) (hK _ _ rfl (Below.refl _ _))
    · obtain rfl := Option.some.inj ho
      refine ⟨rfl, fun a w' hS hold hin K hK => ?_⟩
      obtain ⟨y13, x13, rfl⟩ := hin 13 rfl (by omega) rfl
      exact if_guard_off (d := 17) rfl rfl x13 (by decide) (hK _ _ rfl (Below.refl _ _))
    · obtain rfl := Option.some.inj ho
      refine ⟨rfl, fun a w' hS hold hin K hK => ?_⟩
      obtain ⟨y13, x13, rfl⟩ := hin 13 rfl (by omega) rfl
      exact if_guard_off (d := 17) rfl rfl x13 (by decide) (hK _ _ rfl (Below.refl _ _))
    · obtain rfl := Option.some.inj ho
      refine ⟨rfl, fun a w' hS hold hin K hK => ?_⟩
      obtain ⟨y13, x13, rfl⟩ := hin 13 rfl (by omega) rfl
      exact if_guard_off (d := 17) rfl rfl x13 (by decide) (hK _ _ rfl (Below.refl _ _))
    · obtain rfl := Option.some.inj ho
      refine ⟨rfl, fun a w' hS hold hin K hK => ?_⟩
      obtain ⟨y13, x13, rfl⟩ := hin 13 rfl (by omega) rfl
      exact if_guard_off (d := 17) rfl rfl x13 (by decide) (hK _ _ rfl (Below.refl _ _))
    · obtain rfl := Option.some.inj ho
      refine ⟨rfl, fun a w' hS hold hin K hK => ?_⟩
      obtain ⟨y13, x13, rfl⟩ := hin 13 rfl (by omega) rfl
      exact if_guard_off (d := 17) rfl rfl x13 (by decide) (hK _ _ rfl (Below.refl _ _))
    · obtain rfl := Option.some.inj ho
      refine ⟨rfl, fun a w' hS hold hin K hK => ?_⟩
      obtain ⟨y13, x13, rfl⟩ := hin 13 rfl (by omega) rfl
      exact if_guard_off (d := 17) rfl rfl x13 (by decide) (hK _ _ rfl (Below.refl _ _))
    · obtain rfl := Option.some.inj ho
      refine ⟨rfl, fun a w' hS hold hin K hK => ?_⟩
      obtain ⟨y13, x13, rfl⟩ := hin 13 rfl (by omega) rfl
      refine if_always rfl ?_
      exact op_pick (V := (· = .bool false)) _ _ _ false _ rfl rfl (eval_tmp x13) (show Act.eval a (.const (.bool false)) = (.bool false) from rfl) rfl hK
    · obtain rfl := Option.some.inj ho
      refine ⟨rfl, fun a w' hS hold hin K hK => ?_⟩
      obtain ⟨y21, x21, rfl⟩ := hin 21 rfl (by omega) rfl
      refine if_always rfl ?_
      exact op_move (V := (· = .bool false)) _ _ rfl rfl (eval_tmp x21) rfl hK
    · obtain rfl := Option.some.inj ho
      refine ⟨rfl, fun a w' hS hold hin K hK => ?_⟩
      obtain ⟨y22, x22, rfl⟩ := hin 22 rfl (by omega) rfl
      exact if_guard_off (d := 26) rfl rfl x22 (by decide) (hK _ _ rfl (Below.refl _ _))
    · obtain rfl := Option.some.inj ho
      refine ⟨rfl, fun a w' hS hold hin K hK => ?_⟩
      obtain ⟨y22, x22, rfl⟩ := hin 22 rfl (by omega) rfl
      exact if_guard_off (d := 26) rfl rfl x22 (by decide) (hK _ _ rfl (Below.refl _ _))
    · obtain rfl := Option.some.inj ho
      refine ⟨rfl, fun a w' hS hold hin K hK => ?_⟩
      obtain ⟨y22, x22, rfl⟩ := hin 22 rfl (by omega) rfl
      exact if_guard_off (d := 26) rfl rfl x22 (by decide) (hK _ _ rfl (Below.refl _ _))
    · obtain rfl := Option.some.inj ho
      refine ⟨rfl, fun a w' hS hold hin K hK => ?_⟩
      obtain ⟨y22, x22, rfl⟩ := hin 22 rfl (by omega) rfl
      refine if_always rfl ?_
      exact op_pick (V := (· = .bool false)) _ _ _ false _ rfl rfl (eval_tmp x22) (show Act.eval a (.const (.bool false)) = (.bool false) from rfl) rfl hK
    · obtain rfl := Option.some.inj ho
      refine ⟨rfl, fun a w' hS hold hin K hK => ?_⟩
      obtain ⟨y26, x26, rfl⟩ := hin 26 rfl (by omega) rfl
      refine if_always rfl ?_
      exact op_move (V := (· = .bool false)) _ _ rfl rfl (eval_tmp x26) rfl hK
    · obtain rfl := Option.some.inj ho
      refine ⟨rfl, fun a w' hS hold hin K hK => ?_⟩
      obtain ⟨y27, x27, rfl⟩ := hin 27 rfl (by omega) rfl
      exact if_guard_off (d := 31) rfl rfl x27 (by decide) (hK _ _ rfl (Below.refl _ _))
    · obtain rfl := Option.some.inj ho
      refine ⟨rfl, fun a w' hS hold hin K hK => ?_⟩
      obtain ⟨y27, x27, rfl⟩ := hin 27 rfl (by omega) rfl
      exact if_guard_off (d := 31) rfl rfl x27 (by decide) (hK _ _ rfl (Below.refl _ _))
    · obtain rfl := Option.some.inj ho
      refine ⟨rfl, fun a w' hS hold hin K hK => ?_⟩
      obtain ⟨y27, x27, rfl⟩ := hin 27 rfl (by omega) rfl
      exact if_guard_off (d := 31) rfl rfl x27 (by decide) (hK _ _ rfl (Below.refl _ _))
    · obtain rfl := Option.some.inj ho
      refine ⟨rfl, fun a w' hS hold hin K hK => ?_⟩
      obtain ⟨y27, x27, rfl⟩ := hin 27 rfl (by omega) rfl
      refine if_always rfl ?_
      exact op_pick (V := (· = .bool false)) _ _ _ false _ rfl rfl (eval_tmp x27) (show Act.eval a (.const (.bool false)) = (.bool false) from rfl) rfl hK
  · intro i o sz h0i hi ho hA; cases hA
  clear hS
  intro t1 V1 hs hold hout hall hne hS
  replace HS := hs.trans HS
  replace hS := hS.1
  obtain ⟨x35, q35, v35⟩ : ∃ x, t1[35]? = some x ∧ ((· = .bool false)) x := hout 31 (by omega) rfl
  replace q35 : t1[35]? = some (.bool false) := q35.trans (congrArg some v35)
  replace h1 := (hold 1 (slots_not (by kernel_rfl))).trans h1
  clear hold hout hs hall hne
  simp only [List.drop_succ_cons, List.drop_zero]
  refine tlx_assign (.tmp 35) rfl rfl 3 rfl (by rw [HS]; decide) (.bool false) (eval_tmp q35) fun t1 ex0 hz hq he => ?_
  replace h1 := (he 1 (by decide)).trans h1
  replace q35 := (he 35 (by decide)).trans q35
  replace HS := hz.trans HS
  clear hz he ex0
  have h3 := hq
  clear hq
  refine wpList_nil ?_
  clear HT
  obtain ⟨f, e0, hf⟩ := wash HS
  have f1 := hf 1 _ h1
  have f3 := hf 3 _ h3
  clear hf
  rw [e0.trans (show _ = #[f 0, f 1, f 2, f 3, f 4, f 5, f 6, f 7, f 8, f 9, f 10, f 11, f 12, f 13, f 14, f 15, f 16, f 17, f 18, f 19, f 20, f 21, f 22, f 23, f 24, f 25, f 26, f 27, f 28, f 29, f 30, f 31, f 32, f 33, f 34, f 35, f 36, f 37] from by kernel_rfl), f1, f3]
  clear f1 f3
  clear e0
  try dsimp only
  clear h1 h3 q35 v35 hM HS t1 t0 M
  go_wp2_with fail
  exact ⟨rfl, .int .i64 200, by kernel_rfl, _, rfl, rfl, hS.1⟩
set_option maxHeartbeats 2000000 in
set_option maxRecDepth 100000 in
theorem check20_1 (n0 n1 n2 n3 n4 n5 : Int) (w : World) (h0 : decide (1 ≤ n0 ∧ n0 ≤ 256) = true) (h1 : decide (32 ≤ n1 ∧ n1 ≤ 512) = false) : Calls Tryd.prog 37 #[.agg #[.int .i64 n0, .int .i64 n1, .int .i64 n2, .int .i64 n3, .int .i64 n4, .int .i64 n5]] w (Gives (· = .int .i64 200) w) := by
  have hS := conf_start n0 n1 n2 n3 n4 n5 w
  have H0 := Lib.hid h0
  have H1 := Lib.hid h1
  clear h0 h1
  go_enter Tryd.func37, Tryd.ntmps37
  go_wp2_with ((with_reducible refine guard_list ?_); first | (refine held_call _ rfl ?_))
  generalize w.alloc (.cells #[.int .i64 n0, .int .i64 n1, .int .i64 n2, .int .i64 n3, .int .i64 n4, .int .i64 n5] 23) = w0 at hS ⊢
  obtain ⟨M, hM⟩ : ∃ M, M = w0.heap.size := ⟨_, rfl⟩
  refine hide_held fun t0 HT => ?_
  have HS : t0.size = 38 := by rw [HT]; rfl
  have h1 : t0[1]? = some (.pointer (some ⟨w.heap.size, 0, none⟩)) := by rw [HT]; rfl
  refine wp_from_most 32 (fun i => [4, 5, 6, 7, 8, 9, 10, 11, 12, 13, 14, 15, 16, 17, 18, 19, 20, 21, 22, 23, 24, 25, 26, 27, 28, 29, 30, 31, 32, 33, 34, 35].getD i 0) (fun _ => none) (fun i => [(fun _ => True), (· = .int .i64 n0), (· = .bool true), (· = .bool true), (· = .pointer (some ⟨w.heap.size, 1, none⟩)), (· = .int .i64 n1), (· = .bool false), (· = .bool false), (· = .bool false), (· = undef), (· = undef), (· = undef), (· = .bool false), (· = .bool false), (· = undef), (· = undef), (· = undef), (· = undef), (· = undef), (· = undef), (· = undef), (· = .bool false), (· = .bool false), (· = undef), (· = undef), (· = undef), (· = .bool false), (· = .bool false), (· = undef), (· = undef), (· = undef), (· = .bool false)].getD i (fun _ => True)) (fun w' => Own w [(w.heap.size, 6, (· = .agg #[.int .i64 n0, .int .i64 n1, .int .i64 n2, .int .i64 n3, .int .i64 n4, .int .i64 n5]))] w' ∧ M ≤ w'.heap.size) M
    2 (by omega) (by kernel_rfl) ?_ (slots_apart (by kernel_rfl)) (slots_lie (by rw [HS]; kernel_rfl)) ⟨hS, Nat.le_of_eq hM⟩ (fun w' h => h.2) (fun w1 w2 h b => ⟨h.1.keep b, Nat.le_trans h.2 b.size⟩) ?_ ?_ ?_
  · intro j hj _
    have hc : j = 0 ∨ j = 1 := by omega
    rcases hc with rfl | rfl
    · exact ⟨rfl, _, by rw [HT]; rfl, trivial⟩
    · exact ⟨rfl, _, by rw [HT]; rfl, rfl⟩
  · clear hS
    intro i o h0i hi ho hA
    have hc : i = 2 ∨ i = 3 ∨ i = 4 ∨ i = 5 ∨ i = 6 ∨ i = 7 ∨ i = 8 ∨ i = 9 ∨ i = 10 ∨ i = 11 ∨ i = 12 ∨ i = 13 ∨ i = 14 ∨ i = 15 ∨ i = 16 ∨ i = 17 ∨ i = 18 ∨ i = 19 ∨ i = 20 ∨ i = 21 ∨ i = 22 ∨ i = 23 ∨ i = 24 ∨ i = 25 ∨ i = 26 ∨ i = 27 ∨ i = 28 ∨ i = 29 ∨ i = 30 ∨ i = 31 := by omega
    rcases hc with rfl | rfl | rfl | rfl | rfl | rfl | rfl | rfl | rfl | rfl | rfl | rfl | rfl | rfl | rfl | rfl | rfl | rfl | rfl | rfl | rfl | rfl | rfl | rfl | rfl | rfl | rfl | rfl | rfl | rfl
    · obtain rfl := Option.some.inj ho
      refine ⟨rfl, fun a w' hS hold hin K hK => ?_⟩
      obtain ⟨y1, x1, rfl⟩ := hin 1 rfl (by omega) rfl
      refine if_always rfl ?_
      exact op_fn3 _ _ _ _ _ _ _ _ rfl rfl (eval_tmp x1) rfl rfl (by intro args w; kernel_rfl) (within_ev H0.out _) hK
    · obtain rfl := Option.some.inj ho
      refine ⟨rfl, fun a w' hS hold hin K hK => ?_⟩
      obtain ⟨y2, x2, rfl⟩ := hin 2 rfl (by omega) rfl
      refine if_always rfl ?_
      exact op_move (V := (· = .bool true)) _ _ rfl rfl (eval_tmp x2) rfl hK
    · obtain rfl := Option.some.inj ho
      refine ⟨rfl, fun a w' hS hold hin K hK => ?_⟩
      obtain ⟨y3, x3, rfl⟩ := hin 3 rfl (by omega) rfl
      refine if_guard (d := 7) rfl rfl x3 ?_
      exact op_field 23 _ 1 _ (.pointer (some ⟨w.heap.size, 1, none⟩)) rfl rfl (eval_tmp ((hold 1 (slots_not (by kernel_rfl))).trans h1)) (fun w => by kernel_rfl) hK
    · obtain rfl := Option.some.inj ho
      refine ⟨rfl, fun a w' hS hold hin K hK => ?_⟩
      obtain ⟨y3, x3, rfl⟩ := hin 3 rfl (by omega) rfl
      obtain ⟨y4, x4, rfl⟩ := hin 4 rfl (by omega) rfl
      refine if_guard (d := 7) rfl rfl x3 ?_
      exact op_cell_own tInt _ w.heap.size 1 rfl rfl (eval_tmp x4) hS.1 0 _ _ rfl (.int .i64 n1) rfl hK
    · obtain rfl := Option.some.inj ho
      refine ⟨rfl, fun a w' hS hold hin K hK => ?_⟩
      obtain ⟨y3, x3, rfl⟩ := hin 3 rfl (by omega) rfl
      obtain ⟨y5, x5, rfl⟩ := hin 5 rfl (by omega) rfl
      refine if_guard (d := 7) rfl rfl x3 ?_
      exact op_fn3 _ _ _ _ _ _ _ _ rfl rfl (eval_tmp x5) rfl rfl (by intro args w; kernel_rfl) (within_ev H1.out _) hK
    · obtain rfl := Option.some.inj ho
      refine ⟨rfl, fun a w' hS hold hin K hK => ?_⟩
      obtain ⟨y3, x3, rfl⟩ := hin 3 rfl (by omega) rfl
      obtain ⟨y6, x6, rfl⟩ := hin 6 rfl (by omega) rfl
      refine if_always rfl ?_
      exact op_pick (V := (· = .bool false)) _ _ _ true _ rfl rfl (eval_tmp x3) (show (Act.eval a _) = _ from (eval_tmp x6)) rfl hK
    · obtain rfl := Option.some.inj ho
      refine ⟨rfl, fun a w' hS hold hin K hK => ?_⟩
      obtain ⟨y7, x7, rfl⟩ := hin 7 rfl (by omega) rfl
      refine if_always rfl ?_
      exact op_move (V := (· = .bool false)) _ _ rfl rfl (eval_tmp x7) rfl hK
    · obtain rfl := Option.some.inj ho
      refine ⟨rfl, fun a w' hS hold hin K hK => ?_⟩
      obtain ⟨y8, x8, rfl⟩ := hin 8 rfl (by omega) rfl
      exact if_guard_off (d := 12) rfl rfl x8 (by decide) (hK _ _ rfl (Below.refl _ _))
    · obtain rfl := Option.some.inj ho
      refine ⟨rfl, fun a w' hS hold hin K hK => ?_⟩
      obtain ⟨y8, x8, rfl⟩ := hin 8 rfl (by omega) rfl
      exact if_guard_off (d := 12) rfl rfl x8 (by decide) (hK _ _ rfl (Below.refl _ _))
    · obtain rfl := Option.some.inj ho
      refine ⟨rfl, fun a w' hS hold hin K hK => ?_⟩
      obtain ⟨y8, x8, rfl⟩ := hin 8 rfl (by omega) rfl
      exact if_guard_off (d := 12) rfl rfl x8 (by decide) (hK _ _ rfl (Below.refl _ _))
    · obtain rfl := Option.some.inj ho
      refine ⟨rfl, fun a w' hS hold hin K hK => ?_⟩
      obtain ⟨y8, x8, rfl⟩ := hin 8 rfl (by omega) rfl
      refine if_always rfl ?_
      exact op_pick (V := (· = .bool false)) _ _ _ false _ rfl rfl (eval_tmp x8) (show Act.eval a (.const (.bool false)) = (.bool false) from rfl) rfl hK
    · obtain rfl := Option.some.inj ho
      refine ⟨rfl, fun a w' hS hold hin K hK => ?_⟩
      obtain ⟨y12, x12, rfl⟩ := hin 12 rfl (by omega) rfl
      refine if_always rfl ?_
      exact op_move (V := (· = .bool false)) _ _ rfl rfl (eval_tmp x12) rfl hK
    · obtain rfl := Option.some.inj ho
      refine ⟨rfl, fun a w' hS hold hin K hK => ?_⟩
      obtain ⟨y13, x13, rfl⟩ := hin 13 rfl (by omega) rfl
      exact if_guard_off (d := 17) rfl rfl x13 (by decide) (hK _ _ rfl (Below.refl _ _))
    · obtain rfl := Option.some.inj ho
      refine ⟨rfl, fun a w' hS hold hin K hK => ?_⟩
      obtain ⟨y13, x13, rfl⟩ := hin 13 rfl (by omega) rfl
      exact if_guard_off (d := 17) rfl rfl x13 (by decide) (hK _ _ rfl (Below.refl _ _))
    · obtain rfl := Option.some.inj ho
      refine ⟨rfl, fun a w' hS hold hin K hK => ?_⟩
      obtain ⟨y13, x13, rfl⟩ := hin 13 rfl (by omega) rfl
      exact if_guard_off (d := 17) rfl rfl x13 (by decide) (hK _ _ rfl (Below.refl _ _))
    · obtain rfl := Option.some.inj ho
      refine ⟨rfl, fun a w' hS hold hin K hK => ?_⟩
      obtain ⟨y13, x13, rfl⟩ := hin 13 rfl (by omega) rfl
      exact if_guard_off (d := 17) rfl rfl x13 (by decide) (hK _ _ rfl (Below.refl _ _))
    · obtain rfl := Option.some.inj ho
      refine ⟨rfl, fun a w' hS hold hin K hK => ?_⟩
      obtain ⟨y13, x13, rfl⟩ := hin 13 rfl (by omega) rfl
      exact if_guard_off (d := 17) rfl rfl x13 (by decide) (hK _ _ rfl (Below.refl _ _))
    · obtain rfl := Option.some.inj ho
      refine ⟨rfl, fun a w' hS hold hin K hK => ?_⟩
      obtain ⟨y13, x13, rfl⟩ := hin 13 rfl (by omega) rfl
      exact if_guard_off (d := 17) rfl rfl x13 (by decide) (hK _ _ rfl (Below.refl _ _))
    · obtain rfl := Option.some.inj ho
      refine ⟨rfl, fun a w' hS hold hin K hK => ?_⟩
      obtain ⟨y13, x13, rfl⟩ := hin 13 rfl (by omega) rfl
      exact if_guard_off (d := 17) rfl rfl x13 (by decide) (hK _ _ rfl (Below.refl _ _))
    · obtain rfl := Option.some.inj ho
      refine ⟨rfl, fun a w' hS hold hin K hK => ?_⟩
      obtain ⟨y13, x13, rfl⟩ := hin 13 rfl (by omega) rfl
      refine if_always rfl ?_
      exact op_pick (V := (· = .bool false)) _ _ _ false _ rfl rfl (eval_tmp x13) (show Act.eval a (.const (.bool false)) = (.bool false) from rfl) rfl hK
    · obtain rfl := Option.some.inj ho
      refine ⟨rfl, fun a w' hS hold hin K hK => ?_⟩
      obtain ⟨y21, x21, rfl⟩ := hin 21 rfl (by omega) rfl
      refine if_always rfl ?_
      exact op_move (V := (· = .bool false)) _ _ rfl rfl (eval_tmp x21) rfl hK
    · obtain rfl := Option.some.inj ho
      refine ⟨rfl, fun a w' hS hold hin K hK => ?_⟩
      obtain ⟨y22, x22, rfl⟩ := hin 22 rfl (by omega) rfl
      exact if_guard_off (d := 26) rfl rfl x22 (by decide) (hK _ _ rfl (Below.refl _ _))
    · obtain rfl := Option.some.inj ho
      refine ⟨rfl, fun a w' hS hold hin K hK => ?_⟩
      obtain ⟨y22, x22, rfl⟩ := hin 22 rfl (by omega) rfl
      exact if_guard_off (d := 26) rfl rfl x22 (by decide) (hK _ _ rfl (Below.refl _ _))
    · obtain rfl := Option.some.inj ho
      refine ⟨rfl, fun a w' hS hold hin K hK => ?_⟩
      obtain ⟨y22, x22, rfl⟩ := hin 22 rfl (by omega) rfl
      exact if_guard_off (d := 26) rfl rfl x22 (by decide) (hK _ _ rfl (Below.refl _ _))
    · obtain rfl := Option.some.inj ho
      refine ⟨rfl, fun a w' hS hold hin K hK => ?_⟩
      obtain ⟨y22, x22, rfl⟩ := hin 22 rfl (by omega) rfl
      refine if_always rfl ?_
      exact op_pick (V := (· = .bool false)) _ _ _ false _ rfl rfl (eval_tmp x22) (show Act.eval a (.const (.bool false)) = (.bool false) from rfl) rfl hK
    · obtain rfl := Option.some.inj ho
      refine ⟨rfl, fun a w' hS hold hin K hK => ?_⟩
      obtain ⟨y26, x26, rfl⟩ := hin 26 rfl (by omega) rfl
      refine if_always rfl ?_
      exact op_move (V := (· = .bool false)) _ _ rfl rfl (eval_tmp x26) rfl hK
    · obtain rfl := Option.some.inj ho
      refine ⟨rfl, fun a w' hS hold hin K hK => ?_⟩
      obtain ⟨y27, x27, rfl⟩ := hin 27 rfl (by omega) rfl
      exact if_guard_off (d := 31) rfl rfl x27 (by decide) (hK _ _ rfl (Below.refl _ _))
    · obtain rfl := Option.some.inj ho
      refine ⟨rfl, fun a w' hS hold hin K hK => ?_⟩
      obtain ⟨y27, x27, rfl⟩ := hin 27 rfl (by omega) rfl
      exact if_guard_off (d := 31) rfl rfl x27 (by decide) (hK _ _ rfl (Below.refl _ _))
    · obtain rfl := Option.some.inj ho
      refine ⟨rfl, fun a w' hS hold hin K hK => ?_⟩
      obtain ⟨y27, x27, rfl⟩ := hin 27 rfl (by omega) rfl
      exact if_guard_off (d := 31) rfl rfl x27 (by decide) (hK _ _ rfl (Below.refl _ _))
    · obtain rfl := Option.some.inj ho
      refine ⟨rfl, fun a w' hS hold hin K hK => ?_⟩
      obtain ⟨y27, x27, rfl⟩ := hin 27 rfl (by omega) rfl
      refine if_always rfl ?_
      exact op_pick (V := (· = .bool false)) _ _ _ false _ rfl rfl (eval_tmp x27) (show Act.eval a (.const (.bool false)) = (.bool false) from rfl) rfl hK
  · intro i o sz h0i hi ho hA; cases hA
  clear hS
  intro t1 V1 hs hold hout hall hne hS
  replace HS := hs.trans HS
  replace hS := hS.1
  obtain ⟨x35, q35, v35⟩ : ∃ x, t1[35]? = some x ∧ ((· = .bool false)) x := hout 31 (by omega) rfl
  replace q35 : t1[35]? = some (.bool false) := q35.trans (congrArg some v35)
  replace h1 := (hold 1 (slots_not (by kernel_rfl))).trans h1
  clear hold hout hs hall hne
  simp only [List.drop_succ_cons, List.drop_zero]
  refine tlx_assign (.tmp 35) rfl rfl 3 rfl (by rw [HS]; decide) (.bool false) (eval_tmp q35) fun t1 ex0 hz hq he => ?_
  replace h1 := (he 1 (by decide)).trans h1
  replace q35 := (he 35 (by decide)).trans q35
  replace HS := hz.trans HS
  clear hz he ex0
  have h3 := hq
  clear hq
  refine wpList_nil ?_
  clear HT
  obtain ⟨f, e0, hf⟩ := wash HS
  have f1 := hf 1 _ h1
  have f3 := hf 3 _ h3
  clear hf
  rw [e0.trans (show _ = #[f 0, f 1, f 2, f 3, f 4, f 5, f 6, f 7, f 8, f 9, f 10, f 11, f 12, f 13, f 14, f 15, f 16, f 17, f 18, f 19, f 20, f 21, f 22, f 23, f 24, f 25, f 26, f 27, f 28, f 29, f 30, f 31, f 32, f 33, f 34, f 35, f 36, f 37] from by kernel_rfl), f1, f3]
  clear f1 f3
  clear e0
  try dsimp only
  clear h1 h3 q35 v35 hM HS t1 t0 M
  go_wp2_with fail
  exact ⟨rfl, .int .i64 200, by kernel_rfl, _, rfl, rfl, hS.1⟩
set_option maxHeartbeats 2000000 in
set_option maxRecDepth 100000 in
theorem check20_2 (n0 n1 n2 n3 n4 n5 : Int) (w : World) (h0 : decide (1 ≤ n0 ∧ n0 ≤ 256) = true) (h1 : decide (32 ≤ n1 ∧ n1 ≤ 512) = true) (h2 : decide (2 ≤ n2 ∧ n2 ≤ 64) = false) : Calls Tryd.prog 37 #[.agg #[.int .i64 n0, .int .i64 n1, .int .i64 n2, .int .i64 n3, .int .i64 n4, .int .i64 n5]] w (Gives (· = .int .i64 200) w) := by
  have hS := conf_start n0 n1 n2 n3 n4 n5 w
  have H0 := Lib.hid h0
  have H1 := Lib.hid h1
  have H2 := Lib.hid h2
  clear h0 h1 h2
  go_enter Tryd.func37, Tryd.ntmps37
  go_wp2_with ((with_reducible refine guard_list ?_); first | (refine held_call _ rfl ?_))
  generalize w.alloc (.cells #[.int .i64 n0, .int .i64 n1, .int .i64 n2, .int .i64 n3, .int .i64 n4, .int .i64 n5] 23) = w0 at hS ⊢
  obtain ⟨M, hM⟩ : ∃ M, M = w0.heap.size := ⟨_, rfl⟩
  refine hide_held fun t0 HT => ?_
  have HS : t0.size = 38 := by rw [HT]; rfl
  have h1 : t0[1]? = some (.pointer (some ⟨w.heap.size, 0, none⟩)) := by rw [HT]; rfl
  refine wp_from_most 32 (fun i => [4, 5, 6, 7, 8, 9, 10, 11, 12, 13, 14, 15, 16, 17, 18, 19, 20, 21, 22, 23, 24, 25, 26, 27, 28, 29, 30, 31, 32, 33, 34, 35].getD i 0) (fun _ => none) (fun i => [(fun _ => True), (· = .int .i64 n0), (· = .bool true), (· = .bool true), (· = .pointer (some ⟨w.heap.size, 1, none⟩)), (· = .int .i64 n1), (· = .bool true), (· = .bool true), (· = .bool true), (· = .pointer (some ⟨w.heap.size, 2, none⟩)), (· = .int .i64 n2), (· = .bool false), (· = .bool false), (· = .bool false), (· = undef), (· = undef), (· = undef), (· = undef), (· = undef), (· = undef), (· = undef), (· = .bool false), (· = .bool false), (· = undef), (· = undef), (· = undef), (· = .bool false), (· = .bool false), (· = undef), (· = undef), (· = undef), (· = .bool false)].getD i (fun _ => True)) (fun w' => Own w [(w.heap.size, 6, (· = .agg #[.int .i64 n0, .int .i64 n1, .int .i64 n2, .int .i64 n3, .int .i64 n4, .int .i64 n5]))] w' ∧ M ≤ w'.heap.size) M
    2 (by omega) (by kernel_rfl) ?_ (slots_apart (by kernel_rfl)) (slots_lie (by rw [HS]; kernel_rfl)) ⟨hS, Nat.le_of_eq hM⟩ (fun w' h => h.2) (fun w1 w2 h b => ⟨h.1.keep b, Nat.le_trans h.2 b.size⟩) ?_ ?_ ?_
  · intro j hj _
    have hc : j = 0 ∨ j = 1 := by omega
    rcases hc with rfl | rfl
    · exact ⟨rfl, _, by rw [HT]; rfl, trivial⟩
    · exact ⟨rfl, _, by rw [HT]; rfl, rfl⟩
  · clear hS
    intro i o h0i hi ho hA
    have hc : i = 2 ∨ i = 3 ∨ i = 4 ∨ i = 5 ∨ i = 6 ∨ i = 7 ∨ i = 8 ∨ i = 9 ∨ i = 10 ∨ i = 11 ∨ i = 12 ∨ i = 13 ∨ i = 14 ∨ i = 15 ∨ i = 16 ∨ i = 17 ∨ i = 18 ∨ i = 19 ∨ i = 20 ∨ i = 21 ∨ i = 22 ∨ i = 23 ∨ i = 24 ∨ i = 25 ∨ i = 26 ∨ i = 27 ∨ i = 28 ∨ i = 29 ∨ i = 30 ∨ i = 31 := by omega
    rcases hc with rfl | rfl | rfl | rfl | rfl | rfl | rfl | rfl | rfl | rfl | rfl | rfl | rfl | rfl | rfl | rfl | rfl | rfl | rfl | rfl | rfl | rfl | rfl | rfl | rfl | rfl | rfl | rfl | rfl | rfl
    · obtain rfl := Option.some.inj ho
      refine ⟨rfl, fun a w' hS hold hin K hK => ?_⟩
      obtain ⟨y1, x1, rfl⟩ := hin 1 rfl (by omega) rfl
      refine if_always rfl ?_
      exact op_fn3 _ _ _ _ _ _ _ _ rfl rfl (eval_tmp x1) rfl rfl (by intro args w; kernel_rfl) (within_ev H0.out _) hK
    · obtain rfl := Option.some.inj ho
      refine ⟨rfl, fun a w' hS hold hin K hK => ?_⟩
      obtain ⟨y2, x2, rfl⟩ := hin 2 rfl (by omega) rfl
      refine if_always rfl ?_
      exact op_move (V := (· = .bool true)) _ _ rfl rfl (eval_tmp x2) rfl hK
    · obtain rfl := Option.some.inj ho
      refine ⟨rfl, fun a w' hS hold hin K hK => ?_⟩
      obtain ⟨y3, x3, rfl⟩ := hin 3 rfl (by omega) rfl
      refine if_guard (d := 7) rfl rfl x3 ?_
      exact op_field 23 _ 1 _ (.pointer (some ⟨w.heap.size, 1, none⟩)) rfl rfl (eval_tmp ((hold 1 (slots_not (by kernel_rfl))).trans h1)) (fun w => by kernel_rfl) hK
    · obtain rfl := Option.some.inj ho
      refine ⟨rfl, fun a w' hS hold hin K hK => ?_⟩
      obtain ⟨y3, x3, rfl⟩ := hin 3 rfl (by omega) rfl
      obtain ⟨y4, x4, rfl⟩ := hin 4 rfl (by omega) rfl
      refine if_guard (d := 7) rfl rfl x3 ?_
      exact op_cell_own tInt _ w.heap.size 1 rfl rfl (eval_tmp x4) hS.1 0 _ _ rfl (.int .i64 n1) rfl hK
    · obtain rfl := Option.some.inj ho
      refine ⟨rfl, fun a w' hS hold hin K hK => ?_⟩
      obtain ⟨y3, x3, rfl⟩ := hin 3 rfl (by omega) rfl
      obtain ⟨y5, x5, rfl⟩ := hin 5 rfl (by omega) rfl
      refine if_guard (d := 7) rfl rfl x3 ?_
      exact op_fn3 _ _ _ _ _ _ _ _ rfl rfl (eval_tmp x5) rfl rfl (by intro args w; kernel_rfl) (within_ev H1.out _) hK
    · obtain rfl := Option.some.inj ho
      refine ⟨rfl, fun a w' hS hold hin K hK => ?_⟩
      obtain ⟨y3, x3, rfl⟩ := hin 3 rfl (by omega) rfl
      obtain ⟨y6, x6, rfl⟩ := hin 6 rfl (by omega) rfl
      refine if_always rfl ?_
      exact op_pick (V := (· = .bool true)) _ _ _ true _ rfl rfl (eval_tmp x3) (show (Act.eval a _) = _ from (eval_tmp x6)) rfl hK
    · obtain rfl := Option.some.inj ho
      refine ⟨rfl, fun a w' hS hold hin K hK => ?_⟩
      obtain ⟨y7, x7, rfl⟩ := hin 7 rfl (by omega) rfl
      refine if_always rfl ?_
      exact op_move (V := (· = .bool true)) _ _ rfl rfl (eval_tmp x7) rfl hK
    · obtain rfl := Option.some.inj ho
      refine ⟨rfl, fun a w' hS hold hin K hK => ?_⟩
      obtain ⟨y8, x8, rfl⟩ := hin 8 rfl (by omega) rfl
      refine if_guard (d := 12) rfl rfl x8 ?_
      exact op_field 23 _ 2 _ (.pointer (some ⟨w.heap.size, 2, none⟩)) rfl rfl (eval_tmp ((hold 1 (slots_not (by kernel_rfl))).trans h1)) (fun w => by kernel_rfl) hK
    · obtain rfl := Option.some.inj ho
      refine ⟨rfl, fun a w' hS hold hin K hK => ?_⟩
      obtain ⟨y8, x8, rfl⟩ := hin 8 rfl (by omega) rfl
      obtain ⟨y9, x9, rfl⟩ := hin 9 rfl (by omega) rfl
      refine if_guard (d := 12) rfl rfl x8 ?_
      exact op_cell_own tInt _ w.heap.size 2 rfl rfl (eval_tmp x9) hS.1 0 _ _ rfl (.int .i64 n2) rfl hK
    · obtain rfl := Option.some.inj ho
      refine ⟨rfl, fun a w' hS hold hin K hK => ?_⟩
      obtain ⟨y8, x8, rfl⟩ := hin 8 rfl (by omega) rfl
      obtain ⟨y10, x10, rfl⟩ := hin 10 rfl (by omega) rfl
      refine if_guard (d := 12) rfl rfl x8 ?_
      exact op_fn3 _ _ _ _ _ _ _ _ rfl rfl (eval_tmp x10) rfl rfl (by intro args w; kernel_rfl) (within_ev H2.out _) hK
    · obtain rfl := Option.some.inj ho
      refine ⟨rfl, fun a w' hS hold hin K hK => ?_⟩
      obtain ⟨y8, x8, rfl⟩ := hin 8 rfl (by omega) rfl
      obtain ⟨y11, x11, rfl⟩ := hin 11 rfl (by omega) rfl
      refine if_always rfl ?_
      exact op_pick (V := (· = .bool false)) _ _ _ true _ rfl rfl (eval_tmp x8) (show (Act.eval a _) = _ from (eval_tmp x11)) rfl hK
    · obtain rfl := Option.some.inj ho
      refine ⟨rfl, fun a w' hS hold hin K hK => ?_⟩
      obtain ⟨y12, x12, rfl⟩ := hin 12 rfl (by omega) rfl
      refine if_always rfl ?_
      exact op_move (V := (· = .bool false)) _ _ rfl rfl (eval_tmp x12) rfl hK
    · obtain rfl := Option.some.inj ho
      refine ⟨rfl, fun a w' hS hold hin K hK => ?_⟩
      obtain ⟨y13, x13, rfl⟩ := hin 13 rfl (by omega) rfl
      exact if_guard_off (d := 17) rfl rfl x13 (by decide) (hK _ _ rfl (Below.refl _ _))
    · obtain rfl := Option.some.inj ho
      refine ⟨rfl, fun a w' hS hold hin K hK => ?_⟩
      obtain ⟨y13, x13, rfl⟩ := hin 13 rfl (by omega) rfl
      exact if_guard_off (d := 17) rfl rfl x13 (by decide) (hK _ _ rfl (Below.refl _ _))
    · obtain rfl := Option.some.inj ho
      refine ⟨rfl, fun a w' hS hold hin K hK => ?_⟩
      obtain ⟨y13, x13, rfl⟩ := hin 13 rfl (by omega) rfl
      exact if_guard_off (d := 17) rfl rfl x13 (by decide) (hK _ _ rfl (Below.refl _ _))
    · obtain rfl := Option.some.inj ho
      refine ⟨rfl, fun a w' hS hold hin K hK => ?_⟩
      obtain ⟨y13, x13, rfl⟩ := hin 13 rfl (by omega) rfl
      exact if_guard_off (d := 17) rfl rfl x13 (by decide) (hK _ _ rfl (Below.refl _ _))
    · obtain rfl := Option.some.inj ho
      refine ⟨rfl, fun a w' hS hold hin K hK => ?_⟩
      obtain ⟨y13, x13, rfl⟩ := hin 13 rfl (by omega) rfl
      exact if_guard_off (d := 17) rfl rfl x13 (by decide) (hK _ _ rfl (Below.refl _ _))
    · obtain rfl := Option.some.inj ho
      refine ⟨rfl, fun a w' hS hold hin K hK => ?_⟩
      obtain ⟨y13, x13, rfl⟩ := hin 13 rfl (by omega) rfl
      exact if_guard_off (d := 17) rfl rfl x13 (by decide) (hK _ _ rfl (Below.refl _ _))
    · obtain rfl := Option.some.inj ho
      refine ⟨rfl, fun a w' hS hold hin K hK => ?_⟩
      obtain ⟨y13, x13, rfl⟩ := hin 13 rfl (by omega) rfl
      exact if_guard_off (d := 17) rfl rfl x13 (by decide) (hK _ _ rfl (Below.refl _ _))
    · obtain rfl := Option.some.inj ho
      refine ⟨rfl, fun a w' hS hold hin K hK => ?_⟩
      obtain ⟨y13, x13, rfl⟩ := hin 13 rfl (by omega) rfl
      refine if_always rfl ?_
      exact op_pick (V := (· = .bool false)) _ _ _ false _ rfl rfl (eval_tmp x13) (show Act.eval a (.const (.bool false)) = (.bool false) from rfl) rfl hK
    · obtain rfl := Option.some.inj ho
      refine ⟨rfl, fun a w' hS hold hin K hK => ?_⟩
      obtain ⟨y21, x21, rfl⟩ := hin 21 rfl (by omega) rfl
      refine if_always rfl ?_
      exact op_move (V := (· = .bool false)) _ _ rfl rfl (eval_tmp x21) rfl hK
    · obtain rfl := Option.some.inj ho
      refine ⟨rfl, fun a w' hS hold hin K hK => ?_⟩
      obtain ⟨y22, x22, rfl⟩ := hin 22 rfl (by omega) rfl
      exact if_guard_off (d := 26) rfl rfl x22 (by decide) (hK _ _ rfl (Below.refl _ _))
    · obtain rfl := Option.some.inj ho
      refine ⟨rfl, fun a w' hS hold hin K hK => ?_⟩
      obtain ⟨y22, x22, rfl⟩ := hin 22 rfl (by omega) rfl
      exact if_guard_off (d := 26) rfl rfl x22 (by decide) (hK _ _ rfl (Below.refl _ _))
    · obtain rfl := Option.some.inj ho
      refine ⟨rfl, fun a w' hS hold hin K hK => ?_⟩
      obtain ⟨y22, x22, rfl⟩ := hin 22 rfl (by omega) rfl
      exact if_guard_off (d := 26) rfl rfl x22 (by decide) (hK _ _ rfl (Below.refl _ _))
    · obtain rfl := Option.some.inj ho
      refine ⟨rfl, fun a w' hS hold hin K hK => ?_⟩
      obtain ⟨y22, x22, rfl⟩ := hin 22 rfl (by omega) rfl
      refine if_always rfl ?_
      exact op_pick (V := (· = .bool false)) _ _ _ false _ rfl rfl (eval_tmp x22) (show Act.eval a (.const (.bool false)) = (.bool false) from rfl) rfl hK
    · obtain rfl := Option.some.inj ho
      refine ⟨rfl, fun a w' hS hold hin K hK => ?_⟩
      obtain ⟨y26, x26, rfl⟩ := hin 26 rfl (by omega) rfl
      refine if_always rfl ?_
      exact op_move (V := (· = .bool false)) _ _ rfl rfl (eval_tmp x26) rfl hK
    · obtain rfl := Option.some.inj ho
      refine ⟨rfl, fun a w' hS hold hin K hK => ?_⟩
      obtain ⟨y27, x27, rfl⟩ := hin 27 rfl (by omega) rfl
      exact if_guard_off (d := 31) rfl rfl x27 (by decide) (hK _ _ rfl (Below.refl _ _))
    · obtain rfl := Option.some.inj ho
      refine ⟨rfl, fun a w' hS hold hin K hK => ?_⟩
      obtain ⟨y27, x27, rfl⟩ := hin 27 rfl (by omega) rfl
      exact if_guard_off (d := 31) rfl rfl x27 (by decide) (hK _ _ rfl (Below.refl _ _))
    · obtain rfl := Option.some.inj ho
      refine ⟨rfl, fun a w' hS hold hin K hK => ?_⟩
      obtain ⟨y27, x27, rfl⟩ := hin 27 rfl (by omega) rfl
      exact if_guard_off (d := 31) rfl rfl x27 (by decide) (hK _ _ rfl (Below.refl _ _))
    · obtain rfl := Option.some.inj ho
      refine ⟨rfl, fun a w' hS hold hin K hK => ?_⟩
      obtain ⟨y27, x27, rfl⟩ := hin 27 rfl (by omega) rfl
      refine if_always rfl ?_
      exact op_pick (V := (· = .bool false)) _ _ _ false _ rfl rfl (eval_tmp x27) (show Act.eval a (.const (.bool false)) = (.bool false) from rfl) rfl hK
  · intro i o sz h0i hi ho hA; cases hA
  clear hS
  intro t1 V1 hs hold hout hall hne hS
  replace HS := hs.trans HS
  replace hS := hS.1
  obtain ⟨x35, q35, v35⟩ : ∃ x, t1[35]? = some x ∧ ((· = .bool false)) x := hout 31 (by omega) rfl
  replace q35 : t1[35]? = some (.bool false) := q35.trans (congrArg some v35)
  replace h1 := (hold 1 (slots_not (by kernel_rfl))).trans h1
  clear hold hout hs hall hne
  simp only [List.drop_succ_cons, List.drop_zero]
  refine tlx_assign (.tmp 35) rfl rfl 3 rfl (by rw [HS]; decide) (.bool false) (eval_tmp q35) fun t1 ex0 hz hq he => ?_
  replace h1 := (he 1 (by decide)).trans h1
  replace q35 := (he 35 (by decide)).trans q35
  replace HS := hz.trans HS
  clear hz he ex0
  have h3 := hq
  clear hq
  refine wpList_nil ?_
  clear HT
  obtain ⟨f, e0, hf⟩ := wash HS
  have f1 := hf 1 _ h1
  have f3 := hf 3 _ h3
  clear hf
  rw [e0.trans (show _ = #[f 0, f 1, f 2, f 3, f 4, f 5, f 6, f 7, f 8, f 9, f 10, f 11, f 12, f 13, f 14, f 15, f 16, f 17, f 18, f 19, f 20, f 21, f 22, f 23, f 24, f 25, f 26, f 27, f 28, f 29, f 30, f 31, f 32, f 33, f 34, f 35, f 36, f 37] from by kernel_rfl), f1, f3]
  clear f1 f3
  clear e0
  try dsimp only
  clear h1 h3 q35 v35 hM HS t1 t0 M
  go_wp2_with fail
  exact ⟨rfl, .int .i64 200, by kernel_rfl, _, rfl, rfl, hS.1⟩
set_option maxHeartbeats 2000000 in
set_option maxRecDepth 100000 in
theorem check20_3 (n0 n1 n2 n3 n4 n5 mx : Int) (w : World) (hmx : (if 88 > n1 then 88 else n1) = mx) (hn : -9223372036854775808 ≤ 26 + mx ∧ 26 + mx ≤ 9223372036854775807) (h0 : decide (1 ≤ n0 ∧ n0 ≤ 256) = true) (h1 : decide (32 ≤ n1 ∧ n1 ≤ 512) = true) (h2 : decide (2 ≤ n2 ∧ n2 ≤ 64) = true) (h3 : decide (26 + mx ≤ n3 ∧ n3 ≤ 4096) = false) : Calls Tryd.prog 37 #[.agg #[.int .i64 n0, .int .i64 n1, .int .i64 n2, .int .i64 n3, .int .i64 n4, .int .i64 n5]] w (Gives (· = .int .i64 200) w) := by
  have hS := conf_start n0 n1 n2 n3 n4 n5 w
  have H0 := Lib.hid h0
  have H1 := Lib.hid h1
  have H2 := Lib.hid h2
  have H3 := Lib.hid h3
  have HMX := Lib.hid hmx
  have HMN := Lib.hid hn
  clear h0 h1 h2 h3 hmx hn
  go_enter Tryd.func37, Tryd.ntmps37
  go_wp2_with ((with_reducible refine guard_list ?_); first | (refine held_call _ rfl ?_))
  generalize w.alloc (.cells #[.int .i64 n0, .int .i64 n1, .int .i64 n2, .int .i64 n3, .int .i64 n4, .int .i64 n5] 23) = w0 at hS ⊢
  obtain ⟨M, hM⟩ : ∃ M, M = w0.heap.size := ⟨_, rfl⟩
  refine hide_held fun t0 HT => ?_
  have HS : t0.size = 38 := by rw [HT]; rfl
  have h1 : t0[1]? = some (.pointer (some ⟨w.heap.size, 0, none⟩)) := by rw [HT]; rfl
  refine wp_from_most 32 (fun i => [4, 5, 6, 7, 8, 9, 10, 11, 12, 13, 14, 15, 16, 17, 18, 19, 20, 21, 22, 23, 24, 25, 26, 27, 28, 29, 30, 31, 32, 33, 34, 35].getD i 0) (fun _ => none) (fun i => [(fun _ => True), (· = .int .i64 n0), (· = .bool true), (· = .bool true), (· = .pointer (some ⟨w.heap.size, 1, none⟩)), (· = .int .i64 n1), (· = .bool true), (· = .bool true), (· = .bool true), (· = .pointer (some ⟨w.heap.size, 2, none⟩)), (· = .int .i64 n2), (· = .bool true), (· = .bool true), (· = .bool true), (· = .pointer (some ⟨w.heap.size, 3, none⟩)), (· = .int .i64 n3), (· = .pointer (some ⟨w.heap.size, 1, none⟩)), (· = .int .i64 n1), (· = .int .i64 mx), (· = .int .i64 (26 + mx)), (· = .bool false), (· = .bool false), (· = .bool false), (· = undef), (· = undef), (· = undef), (· = .bool false), (· = .bool false), (· = undef), (· = undef), (· = undef), (· = .bool false)].getD i (fun _ => True)) (fun w' => Own w [(w.heap.size, 6, (· = .agg #[.int .i64 n0, .int .i64 n1, .int .i64 n2, .int .i64 n3, .int .i64 n4, .int .i64 n5]))] w' ∧ M ≤ w'.heap.size) M
    2 (by omega) (by kernel_rfl) ?_ (slots_apart (by kernel_rfl)) (slots_lie (by rw [HS]; kernel_rfl)) ⟨hS, Nat.le_of_eq hM⟩ (fun w' h => h.2) (fun w1 w2 h b => ⟨h.1.keep b, Nat.le_trans h.2 b.size⟩) ?_ ?_ ?_
  · intro j hj _
    have hc : j = 0 ∨ j = 1 := by omega
    rcases hc with rfl | rfl
    · exact ⟨rfl, _, by rw [HT]; rfl, trivial⟩
    · exact ⟨rfl, _, by rw [HT]; rfl, rfl⟩
  · clear hS
    intro i o h0i hi ho hA
    have hc : i = 2 ∨ i = 3 ∨ i = 4 ∨ i = 5 ∨ i = 6 ∨ i = 7 ∨ i = 8 ∨ i = 9 ∨ i = 10 ∨ i = 11 ∨ i = 12 ∨ i = 13 ∨ i = 14 ∨ i = 15 ∨ i = 16 ∨ i = 17 ∨ i = 18 ∨ i = 19 ∨ i = 20 ∨ i = 21 ∨ i = 22 ∨ i = 23 ∨ i = 24 ∨ i = 25 ∨ i = 26 ∨ i = 27 ∨ i = 28 ∨ i = 29 ∨ i = 30 ∨ i = 31 := by omega
    rcases hc with rfl | rfl | rfl | rfl | rfl | rfl | rfl | rfl | rfl | rfl | rfl | rfl | rfl | rfl | rfl | rfl | rfl | rfl | rfl | rfl | rfl | rfl | rfl | rfl | rfl | rfl | rfl | rfl | rfl | rfl
    · obtain rfl := Option.some.inj ho
      refine ⟨rfl, fun a w' hS hold hin K hK => ?_⟩
      obtain ⟨y1, x1, rfl⟩ := hin 1 rfl (by omega) rfl
      refine if_always rfl ?_
      exact op_fn3 _ _ _ _ _ _ _ _ rfl rfl (eval_tmp x1) rfl rfl (by intro args w; kernel_rfl) (within_ev H0.out _) hK
    · obtain rfl := Option.some.inj ho
      refine ⟨rfl, fun a w' hS hold hin K hK => ?_⟩
      obtain ⟨y2, x2, rfl⟩ := hin 2 rfl (by omega) rfl
      refine if_always rfl ?_
      exact op_move (V := (· = .bool true)) _ _ rfl rfl (eval_tmp x2) rfl hK
    · obtain rfl := Option.some.inj ho
      refine ⟨rfl, fun a w' hS hold hin K hK => ?_⟩
      obtain ⟨y3, x3, rfl⟩ := hin 3 rfl (by omega) rfl
      refine if_guard (d := 7) rfl rfl x3 ?_
      exact op_field 23 _ 1 _ (.pointer (some ⟨w.heap.size, 1, none⟩)) rfl rfl (eval_tmp ((hold 1 (slots_not (by kernel_rfl))).trans h1)) (fun w => by kernel_rfl) hK
    · obtain rfl := Option.some.inj ho
      refine ⟨rfl, fun a w' hS hold hin K hK => ?_⟩
      obtain ⟨y3, x3, rfl⟩ := hin 3 rfl (by omega) rfl
      obtain ⟨y4, x4, rfl⟩ := hin 4 rfl (by omega) rfl
      refine if_guard (d := 7) rfl rfl x3 ?_
      exact op_cell_own tInt _ w.heap.size 1 rfl rfl (eval_tmp x4) hS.1 0 _ _ rfl (.int .i64 n1) rfl hK
    · obtain rfl := Option.some.inj ho
      refine ⟨rfl, fun a w' hS hold hin K hK => ?_⟩
      obtain ⟨y3, x3, rfl⟩ := hin 3 rfl (by omega) rfl
      obtain ⟨y5, x5, rfl⟩ := hin 5 rfl (by omega) rfl
      refine if_guard (d := 7) rfl rfl x3 ?_
      exact op_fn3 _ _ _ _ _ _ _ _ rfl rfl (eval_tmp x5) rfl rfl (by intro args w; kernel_rfl) (within_ev H1.out _) hK
    · obtain rfl := Option.some.inj ho
      refine ⟨rfl, fun a w' hS hold hin K hK => ?_⟩
      obtain ⟨y3, x3, rfl⟩ := hin 3 rfl (by omega) rfl
      obtain ⟨y6, x6, rfl⟩ := hin 6 rfl (by omega) rfl
      refine if_always rfl ?_
      exact op_pick (V := (· = .bool true)) _ _ _ true _ rfl rfl (eval_tmp x3) (show (Act.eval a _) = _ from (eval_tmp x6)) rfl hK
    · obtain rfl := Option.some.inj ho
      refine ⟨rfl, fun a w' hS hold hin K hK => ?_⟩
      obtain ⟨y7, x7, rfl⟩ := hin 7 rfl (by omega) rfl
      refine if_always rfl ?_
      exact op_move (V := (· = .bool true)) _ _ rfl rfl (eval_tmp x7) rfl hK
    · obtain rfl := Option.some.inj ho
      refine ⟨rfl, fun a w' hS hold hin K hK => ?_⟩
      obtain ⟨y8, x8, rfl⟩ := hin 8 rfl (by omega) rfl
      refine if_guard (d := 12) rfl rfl x8 ?_
      exact op_field 23 _ 2 _ (.pointer (some ⟨w.heap.size, 2, none⟩)) rfl rfl (eval_tmp ((hold 1 (slots_not (by kernel_rfl))).trans h1)) (fun w => by kernel_rfl) hK
    · obtain rfl := Option.some.inj ho
      refine ⟨rfl, fun a w' hS hold hin K hK => ?_⟩
      obtain ⟨y8, x8, rfl⟩ := hin 8 rfl (by omega) rfl
      obtain ⟨y9, x9, rfl⟩ := hin 9 rfl (by omega) rfl
      refine if_guard (d := 12) rfl rfl x8 ?_
      exact op_cell_own tInt _ w.heap.size 2 rfl rfl (eval_tmp x9) hS.1 0 _ _ rfl (.int .i64 n2) rfl hK
    · obtain rfl := Option.some.inj ho
      refine ⟨rfl, fun a w' hS hold hin K hK => ?_⟩
      obtain ⟨y8, x8, rfl⟩ := hin 8 rfl (by omega) rfl
      obtain ⟨y10, x10, rfl⟩ := hin 10 rfl (by omega) rfl
      refine if_guard (d := 12) rfl rfl x8 ?_
      exact op_fn3 _ _ _ _ _ _ _ _ rfl rfl (eval_tmp x10) rfl rfl (by intro args w; kernel_rfl) (within_ev H2.out _) hK
    · obtain rfl := Option.some.inj ho
      refine ⟨rfl, fun a w' hS hold hin K hK => ?_⟩
      obtain ⟨y8, x8, rfl⟩ := hin 8 rfl (by omega) rfl
      obtain ⟨y11, x11, rfl⟩ := hin 11 rfl (by omega) rfl
      refine if_always rfl ?_
      exact op_pick (V := (· = .bool true)) _ _ _ true _ rfl rfl (eval_tmp x8) (show (Act.eval a _) = _ from (eval_tmp x11)) rfl hK
    · obtain rfl := Option.some.inj ho
      refine ⟨rfl, fun a w' hS hold hin K hK => ?_⟩
      obtain ⟨y12, x12, rfl⟩ := hin 12 rfl (by omega) rfl
      refine if_always rfl ?_
      exact op_move (V := (· = .bool true)) _ _ rfl rfl (eval_tmp x12) rfl hK
    · obtain rfl := Option.some.inj ho
      refine ⟨rfl, fun a w' hS hold hin K hK => ?_⟩
      obtain ⟨y13, x13, rfl⟩ := hin 13 rfl (by omega) rfl
      refine if_guard (d := 17) rfl rfl x13 ?_
      exact op_field 23 _ 3 _ (.pointer (some ⟨w.heap.size, 3, none⟩)) rfl rfl (eval_tmp ((hold 1 (slots_not (by kernel_rfl))).trans h1)) (fun w => by kernel_rfl) hK
    · obtain rfl := Option.some.inj ho
      refine ⟨rfl, fun a w' hS hold hin K hK => ?_⟩
      obtain ⟨y13, x13, rfl⟩ := hin 13 rfl (by omega) rfl
      obtain ⟨y14, x14, rfl⟩ := hin 14 rfl (by omega) rfl
      refine if_guard (d := 17) rfl rfl x13 ?_
      exact op_cell_own tInt _ w.heap.size 3 rfl rfl (eval_tmp x14) hS.1 0 _ _ rfl (.int .i64 n3) rfl hK
    · obtain rfl := Option.some.inj ho
      refine ⟨rfl, fun a w' hS hold hin K hK => ?_⟩
      obtain ⟨y13, x13, rfl⟩ := hin 13 rfl (by omega) rfl
      refine if_guard (d := 17) rfl rfl x13 ?_
      exact op_field 23 _ 1 _ (.pointer (some ⟨w.heap.size, 1, none⟩)) rfl rfl (eval_tmp ((hold 1 (slots_not (by kernel_rfl))).trans h1)) (fun w => by kernel_rfl) hK
    · obtain rfl := Option.some.inj ho
      refine ⟨rfl, fun a w' hS hold hin K hK => ?_⟩
      obtain ⟨y13, x13, rfl⟩ := hin 13 rfl (by omega) rfl
      obtain ⟨y16, x16, rfl⟩ := hin 16 rfl (by omega) rfl
      refine if_guard (d := 17) rfl rfl x13 ?_
      exact op_cell_own tInt _ w.heap.size 1 rfl rfl (eval_tmp x16) hS.1 0 _ _ rfl (.int .i64 n1) rfl hK
    · obtain rfl := Option.some.inj ho
      refine ⟨rfl, fun a w' hS hold hin K hK => ?_⟩
      obtain ⟨y13, x13, rfl⟩ := hin 13 rfl (by omega) rfl
      obtain ⟨y17, x17, rfl⟩ := hin 17 rfl (by omega) rfl
      refine if_guard (d := 17) rfl rfl x13 ?_
      exact op_max _ _ _ _ _ mx rfl rfl (eval_tmp x17) rfl HMX.out hK
    · obtain rfl := Option.some.inj ho
      refine ⟨rfl, fun a w' hS hold hin K hK => ?_⟩
      obtain ⟨y13, x13, rfl⟩ := hin 13 rfl (by omega) rfl
      obtain ⟨y18, x18, rfl⟩ := hin 18 rfl (by omega) rfl
      refine if_guard (d := 17) rfl rfl x13 ?_
      exact op_bin (V := (· = .int .i64 (26 + mx))) _ _ _ _ _ _ _ (.int .i64 (26 + mx)) rfl rfl rfl (eval_tmp x18) (fun w => add_in 26 mx HMN.out w) rfl hK
    · obtain rfl := Option.some.inj ho
      refine ⟨rfl, fun a w' hS hold hin K hK => ?_⟩
      obtain ⟨y13, x13, rfl⟩ := hin 13 rfl (by omega) rfl
      obtain ⟨y15, x15, rfl⟩ := hin 15 rfl (by omega) rfl
      obtain ⟨y19, x19, rfl⟩ := hin 19 rfl (by omega) rfl
      refine if_guard (d := 17) rfl rfl x13 ?_
      exact op_fn3 _ _ _ _ _ _ _ _ rfl rfl (eval_tmp x15) (eval_tmp x19) rfl (by intro args w; kernel_rfl) (within_ev H3.out _) hK
    · obtain rfl := Option.some.inj ho
      refine ⟨rfl, fun a w' hS hold hin K hK => ?_⟩
      obtain ⟨y13, x13, rfl⟩ := hin 13 rfl (by omega) rfl
      obtain ⟨y20, x20, rfl⟩ := hin 20 rfl (by omega) rfl
      refine if_always rfl ?_
      exact op_pick (V := (· = .bool false)) _ _ _ true _ rfl rfl (eval_tmp x13) (show (Act.eval a _) = _ from (eval_tmp x20)) rfl hK
    · obtain rfl := Option.some.inj ho
      refine ⟨rfl, fun a w' hS hold hin K hK => ?_⟩
      obtain ⟨y21, x21, rfl⟩ := hin 21 rfl (by omega) rfl
      refine if_always rfl ?_
      exact op_move (V := (· = .bool false)) _ _ rfl rfl (eval_tmp x21) rfl hK
    · obtain rfl := Option.some.inj ho
      refine ⟨rfl, fun a w' hS hold hin K hK => ?_⟩
      obtain ⟨y22, x22, rfl⟩ := hin 22 rfl (by omega) rfl
      exact if_guard_off (d := 26) rfl rfl x22 (by decide) (hK _ _ rfl (Below.refl _ _))
    · obtain rfl := Option.some.inj ho
      refine ⟨rfl, fun a w' hS hold hin K hK => ?_⟩
      obtain ⟨y22, x22, rfl⟩ := hin 22 rfl (by omega) rfl
      exact if_guard_off (d := 26) rfl rfl x22 (by decide) (hK _ _ rfl (Below.refl _ _))
    · obtain rfl := Option.some.inj ho
      refine ⟨rfl, fun a w' hS hold hin K hK => ?_⟩
      obtain ⟨y22, x22, rfl⟩ := hin 22 rfl (by omega) rfl
      exact if_guard_off (d := 26) rfl rfl x22 (by decide) (hK _ _ rfl (Below.refl _ _))
    · obtain rfl := Option.some.inj ho
      refine ⟨rfl, fun a w' hS hold hin K hK => ?_⟩
      obtain ⟨y22, x22, rfl⟩ := hin 22 rfl (by omega) rfl
      refine if_always rfl ?_
      exact op_pick (V := (· = .bool false)) _ _ _ false _ rfl rfl (eval_tmp x22) (show Act.eval a (.const (.bool false)) = (.bool false) from rfl) rfl hK
    · obtain rfl := Option.some.inj ho
      refine ⟨rfl, fun a w' hS hold hin K hK => ?_⟩
      obtain ⟨y26, x26, rfl⟩ := hin 26 rfl (by omega) rfl
      refine if_always rfl ?_
      exact op_move (V := (· = .bool false)) _ _ rfl rfl (eval_tmp x26) rfl hK
    · obtain rfl := Option.some.inj ho
      refine ⟨rfl, fun a w' hS hold hin K hK => ?_⟩
      obtain ⟨y27, x27, rfl⟩ := hin 27 rfl (by omega) rfl
      exact if_guard_off (d := 31) rfl rfl x27 (by decide) (hK _ _ rfl (Below.refl _ _))
    · obtain rfl := Option.some.inj ho
      refine ⟨rfl, fun a w' hS hold hin K hK => ?_⟩
      obtain ⟨y27, x27, rfl⟩ := hin 27 rfl (by omega) rfl
      exact if_guard_off (d := 31) rfl rfl x27 (by decide) (hK _ _ rfl (Below.refl _ _))
    · obtain rfl := Option.some.inj ho
      refine ⟨rfl, fun a w' hS hold hin K hK => ?_⟩
      obtain ⟨y27, x27, rfl⟩ := hin 27 rfl (by omega) rfl
      exact if_guard_off (d := 31) rfl rfl x27 (by decide) (hK _ _ rfl (Below.refl _ _))
    · obtain rfl := Option.some.inj ho
      refine ⟨rfl, fun a w' hS hold hin K hK => ?_⟩
      obtain ⟨y27, x27, rfl⟩ := hin 27 rfl (by omega) rfl
      refine if_always rfl ?_
      exact op_pick (V := (· = .bool false)) _ _ _ false _ rfl rfl (eval_tmp x27) (show Act.eval a (.const (.bool false)) = (.bool false) from rfl) rfl hK
  · intro i o sz h0i hi ho hA; cases hA
  clear hS
  intro t1 V1 hs hold hout hall hne hS
  replace HS := hs.trans HS
  replace hS := hS.1
  obtain ⟨x35, q35, v35⟩ : ∃ x, t1[35]? = some x ∧ ((· = .bool false)) x := hout 31 (by omega) rfl
  replace q35 : t1[35]? = some (.bool false) := q35.trans (congrArg some v35)
  replace h1 := (hold 1 (slots_not (by kernel_rfl))).trans h1
  clear hold hout hs hall hne
  simp only [List.drop_succ_cons, List.drop_zero]
  refine tlx_assign (.tmp 35) rfl rfl 3 rfl (by rw [HS]; decide) (.bool false) (eval_tmp q35) fun t1 ex0 hz hq he => ?_
  replace h1 := (he 1 (by decide)).trans h1
  replace q35 := (he 35 (by decide)).trans q35
  replace HS := hz.trans HS
  clear hz he ex0
  have h3 := hq
  clear hq
  refine wpList_nil ?_
  clear HT
  obtain ⟨f, e0, hf⟩ := wash HS
  have f1 := hf 1 _ h1
  have f3 := hf 3 _ h3
  clear hf
  rw [e0.trans (show _ = #[f 0, f 1, f 2, f 3, f 4, f 5, f 6, f 7, f 8, f 9, f 10, f 11, f 12, f 13, f 14, f 15, f 16, f 17, f 18, f 19, f 20, f 21, f 22, f 23, f 24, f 25, f 26, f 27, f 28, f 29, f 30, f 31, f 32, f 33, f 34, f 35, f 36, f 37] from by kernel_rfl), f1, f3]
  clear f1 f3
  clear e0
  try dsimp only
  clear h1 h3 q35 v35 hM HS t1 t0 M
  go_wp2_with fail
  exact ⟨rfl, .int .i64 200, by kernel_rfl, _, rfl, rfl, hS.1⟩
set_option maxHeartbeats 2000000 in
set_option maxRecDepth 100000 in
theorem check20_4 (n0 n1 n2 n3 n4 n5 mx : Int) (w : World) (hmx : (if 88 > n1 then 88 else n1) = mx) (hn : -9223372036854775808 ≤ 26 + mx ∧ 26 + mx ≤ 9223372036854775807) (h0 : decide (1 ≤ n0 ∧ n0 ≤ 256) = true) (h1 : decide (32 ≤ n1 ∧ n1 ≤ 512) = true) (h2 : decide (2 ≤ n2 ∧ n2 ≤ 64) = true) (h3 : decide (26 + mx ≤ n3 ∧ n3 ≤ 4096) = true) (h4 : decide (2 ≤ n4 ∧ n4 ≤ 16) = false) : Calls Tryd.prog 37 #[.agg #[.int .i64 n0, .int .i64 n1, .int .i64 n2, .int .i64 n3, .int .i64 n4, .int .i64 n5]] w (Gives (· = .int .i64 200) w) := by
  have hS := conf_start n0 n1 n2 n3 n4 n5 w
  have H0 := Lib.hid h0
  have H1 := Lib.hid h1
  have H2 := Lib.hid h2
  have H3 := Lib.hid h3
  have H4 := Lib.hid h4
  have HMX := Lib.hid hmx
  have HMN := Lib.hid hn
  clear h0 h1 h2 h3 h4 hmx hn
  go_enter Tryd.func37, Tryd.ntmps37
  go_wp2_with ((with_reducible refine guard_list ?_); first | (refine held_call _ rfl ?_))
  generalize w.alloc (.cells #[.int .i64 n0, .int .i64 n1, .int .i64 n2, .int .i64 n3, .int .i64 n4, .int .i64 n5] 23) = w0 at hS ⊢
  obtain ⟨M, hM⟩ : ∃ M, M = w0.heap.size := ⟨_, rfl⟩
  refine hide_held fun t0 HT => ?_
  have HS : t0.size = 38 := by rw [HT]; rfl
  have h1 : t0[1]? = some (.pointer (some ⟨w.heap.size, 0, none⟩)) := by rw [HT]; rfl
  refine wp_from_most 32 (fun i => [4, 5, 6, 7, 8, 9, 10, 11, 12, 13, 14, 15, 16, 17, 18, 19, 20, 21, 22, 23, 24, 25, 26, 27, 28, 29, 30, 31, 32, 33, 34, 35].getD i 0) (fun _ => none) (fun i => [(fun _ => True), (· = .int .i64 n0), (· = .bool true), (· = .bool true), (· = .pointer (some ⟨w.heap.size, 1, none⟩)), (· = .int .i64 n1), (· = .bool true), (· = .bool true), (· = .bool true), (· = .pointer (some ⟨w.heap.size, 2, none⟩)), (· = .int .i64 n2), (· = .bool true), (· = .bool true), (· = .bool true), (· = .pointer (some ⟨w.heap.size, 3, none⟩)), (· = .int .i64 n3), (· = .pointer (some ⟨w.heap.size, 1, none⟩)), (· = .int .i64 n1), (· = .int .i64 mx), (· = .int .i64 (26 + mx)), (· = .bool true), (· = .bool true), (· = .bool true), (· = .pointer (some ⟨w.heap.size, 4, none⟩)), (· = .int .i64 n4), (· = .bool false), (· = .bool false), (· = .bool false), (· = undef), (· = undef), (· = undef), (· = .bool false)].getD i (fun _ => True)) (fun w' => Own w [(w.heap.size, 6, (· = .agg #[.int .i64 n0, .int .i64 n1, .int .i64 n2, .int .i64 n3, .int .i64 n4, .int .i64 n5]))] w' ∧ M ≤ w'.heap.size) M
    2 (by omega) (by kernel_rfl) ?_ (slots_apart (by kernel_rfl)) (slots_lie (by rw [HS]; kernel_rfl)) ⟨hS, Nat.le_of_eq hM⟩ (fun w' h => h.2) (fun w1 w2 h b => ⟨h.1.keep b, Nat.le_trans h.2 b.size⟩) ?_ ?_ ?_
  · intro j hj _
    have hc : j = 0 ∨ j = 1 := by omega
    rcases hc with rfl | rfl
    · exact ⟨rfl, _, by rw [HT]; rfl, trivial⟩
    · exact ⟨rfl, _, by rw [HT]; rfl, rfl⟩
  · clear hS
    intro i o h0i hi ho hA
    have hc : i = 2 ∨ i = 3 ∨ i = 4 ∨ i = 5 ∨ i = 6 ∨ i = 7 ∨ i = 8 ∨ i = 9 ∨ i = 10 ∨ i = 11 ∨ i = 12 ∨ i = 13 ∨ i = 14 ∨ i = 15 ∨ i = 16 ∨ i = 17 ∨ i = 18 ∨ i = 19 ∨ i = 20 ∨ i = 21 ∨ i = 22 ∨ i = 23 ∨ i = 24 ∨ i = 25 ∨ i = 26 ∨ i = 27 ∨ i = 28 ∨ i = 29 ∨ i = 30 ∨ i = 31 := by omega
    rcases hc with rfl | rfl | rfl | rfl | rfl | rfl | rfl | rfl | rfl | rfl | rfl | rfl | rfl | rfl | rfl | rfl | rfl | rfl | rfl | rfl | rfl | rfl | rfl | rfl | rfl | rfl | rfl | rfl | rfl | rfl
    · obtain rfl := Option.some.inj ho
      refine ⟨rfl, fun a w' hS hold hin K hK => ?_⟩
      obtain ⟨y1, x1, rfl⟩ := hin 1 rfl (by omega) rfl
      refine if_always rfl ?_
      exact op_fn3 _ _ _ _ _ _ _ _ rfl rfl (eval_tmp x1) rfl rfl (by intro args w; kernel_rfl) (within_ev H0.out _) hK
    · obtain rfl := Option.some.inj ho
      refine ⟨rfl, fun a w' hS hold hin K hK => ?_⟩
      obtain ⟨y2, x2, rfl⟩ := hin 2 rfl (by omega) rfl
      refine if_always rfl ?_
      exact op_move (V := (· = .bool true)) _ _ rfl rfl (eval_tmp x2) rfl hK
    · obtain rfl := Option.some.inj ho
      refine ⟨rfl, fun a w' hS hold hin K hK => ?_⟩
      obtain ⟨y3, x3, rfl⟩ := hin 3 rfl (by omega) rfl
      refine if_guard (d := 7) rfl rfl x3 ?_
      exact op_field 23 _ 1 _ (.pointer (some ⟨w.heap.size, 1, none⟩)) rfl rfl (eval_tmp ((hold 1 (slots_not (by kernel_rfl))).trans h1)) (fun w => by kernel_rfl) hK
    · obtain rfl := Option.some.inj ho
      refine ⟨rfl, fun a w' hS hold hin K hK => ?_⟩
      obtain ⟨y3, x3, rfl⟩ := hin 3 rfl (by omega) rfl
      obtain ⟨y4, x4, rfl⟩ := hin 4 rfl (by omega) rfl
      refine if_guard (d := 7) rfl rfl x3 ?_
      exact op_cell_own tInt _ w.heap.size 1 rfl rfl (eval_tmp x4) hS.1 0 _ _ rfl (.int .i64 n1) rfl hK
    · obtain rfl := Option.some.inj ho
      refine ⟨rfl, fun a w' hS hold hin K hK => ?_⟩
      obtain ⟨y3, x3, rfl⟩ := hin 3 rfl (by omega) rfl
      obtain ⟨y5, x5, rfl⟩ := hin 5 rfl (by omega) rfl
      refine if_guard (d := 7) rfl rfl x3 ?_
      exact op_fn3 _ _ _ _ _ _ _ _ rfl rfl (eval_tmp x5) rfl rfl (by intro args w; kernel_rfl) (within_ev H1.out _) hK
    · obtain rfl := Option.some.inj ho
      refine ⟨rfl, fun a w' hS hold hin K hK => ?_⟩
      obtain ⟨y3, x3, rfl⟩ := hin 3 rfl (by omega) rfl
      obtain ⟨y6, x6, rfl⟩ := hin 6 rfl (by omega) rfl
      refine if_always rfl ?_
      exact op_pick (V := (· = .bool true)) _ _ _ true _ rfl rfl (eval_tmp x3) (show (Act.eval a _) = _ from (eval_tmp x6)) rfl hK
    · obtain rfl := Option.some.inj ho
      refine ⟨rfl, fun a w' hS hold hin K hK => ?_⟩
      obtain ⟨y7, x7, rfl⟩ := hin 7 rfl (by omega) rfl
      refine if_always rfl ?_
      exact op_move (V := (· = .bool true)) _ _ rfl rfl (eval_tmp x7) rfl hK
    · obtain rfl := Option.some.inj ho
      refine ⟨rfl, fun a w' hS hold hin K hK => ?_⟩
      obtain ⟨y8, x8, rfl⟩ := hin 8 rfl (by omega) rfl
      refine if_guard (d := 12) rfl rfl x8 ?_
      exact op_field 23 _ 2 _ (.pointer (some ⟨w.heap.size, 2, none⟩)) rfl rfl (eval_tmp ((hold 1 (slots_not (by kernel_rfl))).trans h1)) (fun w => by kernel_rfl) hK
    · obtain rfl := Option.some.inj ho
      refine ⟨rfl, fun a w' hS hold hin K hK => ?_⟩
      obtain ⟨y8, x8, rfl⟩ := hin 8 rfl (by omega) rfl
      obtain ⟨y9, x9, rfl⟩ := hin 9 rfl (by omega) rfl
      refine if_guard (d := 12) rfl rfl x8 ?_
      exact op_cell_own tInt _ w.heap.size 2 rfl rfl (eval_tmp x9) hS.1 0 _ _ rfl (.int .i64 n2) rfl hK
    · obtain rfl := Option.some.inj ho
      refine ⟨rfl, fun a w' hS hold hin K hK => ?_⟩
      obtain ⟨y8, x8, rfl⟩ := hin 8 rfl (by omega) rfl
      obtain ⟨y10, x10, rfl⟩ := hin 10 rfl (by omega) rfl
      refine if_guard (d := 12) rfl rfl x8 ?_
      exact op_fn3 _ _ _ _ _ _ _ _ rfl rfl (eval_tmp x10) rfl rfl (by intro args w; kernel_rfl) (within_ev H2.out _) hK
    · obtain rfl := Option.some.inj ho
      refine ⟨rfl, fun a w' hS hold hin K hK => ?_⟩
      obtain ⟨y8, x8, rfl⟩ := hin 8 rfl (by omega) rfl
      obtain ⟨y11, x11, rfl⟩ := hin 11 rfl (by omega) rfl
      refine if_always rfl ?_
      exact op_pick (V := (· = .bool true)) _ _ _ true _ rfl rfl (eval_tmp x8) (show (Act.eval a _) = _ from (eval_tmp x11)) rfl hK
    · obtain rfl := Option.some.inj ho
      refine ⟨rfl, fun a w' hS hold hin K hK => ?_⟩
      obtain ⟨y12, x12, rfl⟩ := hin 12 rfl (by omega) rfl
      refine if_always rfl ?_
      exact op_move (V := (· = .bool true)) _ _ rfl rfl (eval_tmp x12) rfl hK
    · obtain rfl := Option.some.inj ho
      refine ⟨rfl, fun a w' hS hold hin K hK => ?_⟩
      obtain ⟨y13, x13, rfl⟩ := hin 13 rfl (by omega) rfl
      refine if_guard (d := 17) rfl rfl x13 ?_
      exact op_field 23 _ 3 _ (.pointer (some ⟨w.heap.size, 3, none⟩)) rfl rfl (eval_tmp ((hold 1 (slots_not (by kernel_rfl))).trans h1)) (fun w => by kernel_rfl) hK
    · obtain rfl := Option.some.inj ho
      refine ⟨rfl, fun a w' hS hold hin K hK => ?_⟩
      obtain ⟨y13, x13, rfl⟩ := hin 13 rfl (by omega) rfl
      obtain ⟨y14, x14, rfl⟩ := hin 14 rfl (by omega) rfl
      refine if_guard (d := 17) rfl rfl x13 ?_
      exact op_cell_own tInt _ w.heap.size 3 rfl rfl (eval_tmp x14) hS.1 0 _ _ rfl (.int .i64 n3) rfl hK
    · obtain rfl := Option.some.inj ho
      refine ⟨rfl, fun a w' hS hold hin K hK => ?_⟩
      obtain ⟨y13, x13, rfl⟩ := hin 13 rfl (by omega) rfl
      refine if_guard (d := 17) rfl rfl x13 ?_
      exact op_field 23 _ 1 _ (.pointer (some ⟨w.heap.size, 1, none⟩)) rfl rfl (eval_tmp ((hold 1 (slots_not (by kernel_rfl))).trans h1)) (fun w => by kernel_rfl) hK
    · obtain rfl := Option.some.inj ho
      refine ⟨rfl, fun a w' hS hold hin K hK => ?_⟩
      obtain ⟨y13, x13, rfl⟩ := hin 13 rfl (by omega) rfl
      obtain ⟨y16, x16, rfl⟩ := hin 16 rfl (by omega) rfl
      refine if_guard (d := 17) rfl rfl x13 ?_
      exact op_cell_own tInt _ w.heap.size 1 rfl rfl (eval_tmp x16) hS.1 0 _ _ rfl (.int .i64 n1) rfl hK
    · obtain rfl := Option.some.inj ho
      refine ⟨rfl, fun a w' hS hold hin K hK => ?_⟩
      obtain ⟨y13, x13, rfl⟩ := hin 13 rfl (by omega) rfl
      obtain ⟨y17, x17, rfl⟩ := hin 17 rfl (by omega) rfl
      refine if_guard (d := 17) rfl rfl x13 ?_
      exact op_max _ _ _ _ _ mx rfl rfl (eval_tmp x17) rfl HMX.out hK
    · obtain rfl := Option.some.inj ho
      refine ⟨rfl, fun a w' hS hold hin K hK => ?_⟩
      obtain ⟨y13, x13, rfl⟩ := hin 13 rfl (by omega) rfl
      obtain ⟨y18, x18, rfl⟩ := hin 18 rfl (by omega) rfl
      refine if_guard (d := 17) rfl rfl x13 ?_
      exact op_bin (V := (· = .int .i64 (26 + mx))) _ _ _ _ _ _ _ (.int .i64 (26 + mx)) rfl rfl rfl (eval_tmp x18) (fun w => add_in 26 mx HMN.out w) rfl hK
    · obtain rfl := Option.some.inj ho
      refine ⟨rfl, fun a w' hS hold hin K hK => ?_⟩
      obtain ⟨y13, x13, rfl⟩ := hin 13 rfl (by omega) rfl
      obtain ⟨y15, x15, rfl⟩ := hin 15 rfl (by omega) rfl
      obtain ⟨y19, x19, rfl⟩ := hin 19 rfl (by omega) rfl
      refine if_guard (d := 17) rfl rfl x13 ?_
      exact op_fn3 _ _ _ _ _ _ _ _ rfl rfl (eval_tmp x15) (eval_tmp x19) rfl (by intro args w; kernel_rfl) (within_ev H3.out _) hK
    · obtain rfl := Option.some.inj ho
      refine ⟨rfl, fun a w' hS hold hin K hK => ?_⟩
      obtain ⟨y13, x13, rfl⟩ := hin 13 rfl (by omega) rfl
      obtain ⟨y20, x20, rfl⟩ := hin 20 rfl (by omega) rfl
      refine if_always rfl ?_
      exact op_pick (V := (· = .bool true)) _ _ _ true _ rfl rfl (eval_tmp x13) (show (Act.eval a _) = _ from (eval_tmp x20)) rfl hK
    · obtain rfl := Option.some.inj ho
      refine ⟨rfl, fun a w' hS hold hin K hK => ?_⟩
      obtain ⟨y21, x21, rfl⟩ := hin 21 rfl (by omega) rfl
      refine if_always rfl ?_
      exact op_move (V := (· = .bool true)) _ _ rfl rfl (eval_tmp x21) rfl hK
    · obtain rfl := Option.some.inj ho
      refine ⟨rfl, fun a w' hS hold hin K hK => ?_⟩
      obtain ⟨y22, x22, rfl⟩ := hin 22 rfl (by omega) rfl
      refine if_guard (d := 26) rfl rfl x22 ?_
      exact op_field 23 _ 4 _ (.pointer (some ⟨w.heap.size, 4, none⟩)) rfl rfl (eval_tmp ((hold 1 (slots_not (by kernel_rfl))).trans h1)) (fun w => by kernel_rfl) hK
    · obtain rfl := Option.some.inj ho
      refine ⟨rfl, fun a w' hS hold hin K hK => ?_⟩
      obtain ⟨y22, x22, rfl⟩ := hin 22 rfl (by omega) rfl
      obtain ⟨y23, x23, rfl⟩ := hin 23 rfl (by omega) rfl
      refine if_guard (d := 26) rfl rfl x22 ?_
      exact op_cell_own tInt _ w.heap.size 4 rfl rfl (eval_tmp x23) hS.1 0 _ _ rfl (.int .i64 n4) rfl hK
    · obtain rfl := Option.some.inj ho
      refine ⟨rfl, fun a w' hS hold hin K hK => ?_⟩
      obtain ⟨y22, x22, rfl⟩ := hin 22 rfl (by omega) rfl
      obtain ⟨y24, x24, rfl⟩ := hin 24 rfl (by omega) rfl
      refine if_guard (d := 26) rfl rfl x22 ?_
      exact op_fn3 _ _ _ _ _ _ _ _ rfl rfl (eval_tmp x24) rfl rfl (by intro args w; kernel_rfl) (within_ev H4.out _) hK
    · obtain rfl := Option.some.inj ho
      refine ⟨rfl, fun a w' hS hold hin K hK => ?_⟩
      obtain ⟨y22, x22, rfl⟩ := hin 22 rfl (by omega) rfl
      obtain ⟨y25, x25, rfl⟩ := hin 25 rfl (by omega) rfl
      refine if_always rfl ?_
      exact op_pick (V := (· = .bool false)) _ _ _ true _ rfl rfl (eval_tmp x22) (show (Act.eval a _) = _ from (eval_tmp x25)) rfl hK
    · obtain rfl := Option.some.inj ho
      refine ⟨rfl, fun a w' hS hold hin K hK => ?_⟩
      obtain ⟨y26, x26, rfl⟩ := hin 26 rfl (by omega) rfl
      refine if_always rfl ?_
      exact op_move (V := (· = .bool false)) _ _ rfl rfl (eval_tmp x26) rfl hK
    · obtain rfl := Option.some.inj ho
      refine ⟨rfl, fun a w' hS hold hin K hK => ?_⟩
      obtain ⟨y27, x27, rfl⟩ := hin 27 rfl (by omega) rfl
      exact if_guard_off (d := 31) rfl rfl x27 (by decide) (hK _ _ rfl (Below.refl _ _))
    · obtain rfl := Option.some.inj ho
      refine ⟨rfl, fun a w' hS hold hin K hK => ?_⟩
      obtain ⟨y27, x27, rfl⟩ := hin 27 rfl (by omega) rfl
      exact if_guard_off (d := 31) rfl rfl x27 (by decide) (hK _ _ rfl (Below.refl _ _))
    · obtain rfl := Option.some.inj ho
      refine ⟨rfl, fun a w' hS hold hin K hK => ?_⟩
      obtain ⟨y27, x27, rfl⟩ := hin 27 rfl (by omega) rfl
      exact if_guard_off (d := 31) rfl rfl x27 (by decide) (hK _ _ rfl (Below.refl _ _))
    · obtain rfl := Option.some.inj ho
      refine ⟨rfl, fun a w' hS hold hin K hK => ?_⟩
      obtain ⟨y27, x27, rfl⟩ := hin 27 rfl (by omega) rfl
      refine if_always rfl ?_
      exact op_pick (V := (· = .bool false)) _ _ _ false _ rfl rfl (eval_tmp x27) (show Act.eval a (.const (.bool false)) = (.bool false) from rfl) rfl hK
  · intro i o sz h0i hi ho hA; cases hA
  clear hS
  intro t1 V1 hs hold hout hall hne hS
  replace HS := hs.trans HS
  replace hS := hS.1
  obtain ⟨x35, q35, v35⟩ : ∃ x, t1[35]? = some x ∧ ((· = .bool false)) x := hout 31 (by omega) rfl
  replace q35 : t1[35]? = some (.bool false) := q35.trans (congrArg some v35)
  replace h1 := (hold 1 (slots_not (by kernel_rfl))).trans h1
  clear hold hout hs hall hne
  simp only [List.drop_succ_cons, List.drop_zero]
  refine tlx_assign (.tmp 35) rfl rfl 3 rfl (by rw [HS]; decide) (.bool false) (eval_tmp q35) fun t1 ex0 hz hq he => ?_
  replace h1 := (he 1 (by decide)).trans h1
  replace q35 := (he 35 (by decide)).trans q35
  replace HS := hz.trans HS
  clear hz he ex0
  have h3 := hq
  clear hq
  refine wpList_nil ?_
  clear HT
  obtain ⟨f, e0, hf⟩ := wash HS
  have f1 := hf 1 _ h1
  have f3 := hf 3 _ h3
  clear hf
  rw [e0.trans (show _ = #[f 0, f 1, f 2, f 3, f 4, f 5, f 6, f 7, f 8, f 9, f 10, f 11, f 12, f 13, f 14, f 15, f 16, f 17, f 18, f 19, f 20, f 21, f 22, f 23, f 24, f 25, f 26, f 27, f 28, f 29, f 30, f 31, f 32, f 33, f 34, f 35, f 36, f 37] from by kernel_rfl), f1, f3]
  clear f1 f3
  clear e0
  try dsimp only
  clear h1 h3 q35 v35 hM HS t1 t0 M
  go_wp2_with fail
  exact ⟨rfl, .int .i64 200, by kernel_rfl, _, rfl, rfl, hS.1⟩
set_option maxHeartbeats 2000000 in
set_option maxRecDepth 100000 in
theorem check20_5 (n0 n1 n2 n3 n4 n5 mx : Int) (w : World) (hmx : (if 88 > n1 then 88 else n1) = mx) (hn : -9223372036854775808 ≤ 26 + mx ∧ 26 + mx ≤ 9223372036854775807) (h0 : decide (1 ≤ n0 ∧ n0 ≤ 256) = true) (h1 : decide (32 ≤ n1 ∧ n1 ≤ 512) = true) (h2 : decide (2 ≤ n2 ∧ n2 ≤ 64) = true) (h3 : decide (26 + mx ≤ n3 ∧ n3 ≤ 4096) = true) (h4 : decide (2 ≤ n4 ∧ n4 ≤ 16) = true) (h5 : decide (1 ≤ n5 ∧ n5 ≤ 16) = false) : Calls Tryd.prog 37 #[.agg #[.int .i64 n0, .int .i64 n1, .int .i64 n2, .int .i64 n3, .int .i64 n4, .int .i64 n5]] w (Gives (· = .int .i64 200) w) := by
  have hS := conf_start n0 n1 n2 n3 n4 n5 w
  have H0 := Lib.hid h0
  have H1 := Lib.hid h1
  have H2 := Lib.hid h2
  have H3 := Lib.hid h3
  have H4 := Lib.hid h4
  have H5 := Lib.hid h5
  have HMX := Lib.hid hmx
  have HMN := Lib.hid hn
  clear h0 h1 h2 h3 h4 h5 hmx hn
  go_enter Tryd.func37, Tryd.ntmps37
  go_wp2_with ((with_reducible refine guard_list ?_); first | (refine held_call _ rfl ?_))
  generalize w.alloc (.cells #[.int .i64 n0, .int .i64 n1, .int .i64 n2, .int .i64 n3, .int .i64 n4, .int .i64 n5] 23) = w0 at hS ⊢
  obtain ⟨M, hM⟩ : ∃ M, M = w0.heap.size := ⟨_, rfl⟩
  refine hide_held fun t0 HT => ?_
  have HS : t0.size = 38 := by rw [HT]; rfl
  have h1 : t0[1]? = some (.pointer (some ⟨w.heap.size, 0, none⟩)) := by rw [HT]; rfl
  refine wp_from_most 32 (fun i => [4, 5, 6, 7, 8, 9, 10, 11, 12, 13, 14, 15, 16, 17, 18, 19, 20, 21, 22, 23, 24, 25, 26, 27, 28, 29, 30, 31, 32, 33, 34, 35].getD i 0) (fun _ => none) (fun i => [(fun _ => True), (· = .int .i64 n0), (· = .bool true), (· = .bool true), (· = .pointer (some ⟨w.heap.size, 1, none⟩)), (· = .int .i64 n1), (· = .bool true), (· = .bool true), (· = .bool true), (· = .pointer (some ⟨w.heap.size, 2, none⟩)), (· = .int .i64 n2), (· = .bool true), (· = .bool true), (· = .bool true), (· = .pointer (some ⟨w.heap.size, 3, none⟩)), (· = .int .i64 n3), (· = .pointer (some ⟨w.heap.size, 1, none⟩)), (· = .int .i64 n1), (· = .int .i64 mx), (· = .int .i64 (26 + mx)), (· = .bool true), (· = .bool true), (· = .bool true), (· = .pointer (some ⟨w.heap.size, 4, none⟩)), (· = .int .i64 n4), (· = .bool true), (· = .bool true), (· = .bool true), (· = .pointer (some ⟨w.heap.size, 5, none⟩)), (· = .int .i64 n5), (· = .bool false), (· = .bool false)].getD i (fun _ => True)) (fun w' => Own w [(w.heap.size, 6, (· = .agg #[.int .i64 n0, .int .i64 n1, .int .i64 n2, .int .i64 n3, .int .i64 n4, .int .i64 n5]))] w' ∧ M ≤ w'.heap.size) M
    2 (by omega) (by kernel_rfl) ?_ (slots_apart (by kernel_rfl)) (slots_lie (by rw [HS]; kernel_rfl)) ⟨hS, Nat.le_of_eq hM⟩ (fun w' h => h.2) (fun w1 w2 h b => ⟨h.1.keep b, Nat.le_trans h.2 b.size⟩) ?_ ?_ ?_
  · intro j hj _
    have hc : j = 0 ∨ j = 1 := by omega
    rcases hc with rfl | rfl
    · exact ⟨rfl, _, by rw [HT]; rfl, trivial⟩
    · exact ⟨rfl, _, by rw [HT]; rfl, rfl⟩
  · clear hS
    intro i o h0i hi ho hA
    have hc : i = 2 ∨ i = 3 ∨ i = 4 ∨ i = 5 ∨ i = 6 ∨ i = 7 ∨ i = 8 ∨ i = 9 ∨ i = 10 ∨ i = 11 ∨ i = 12 ∨ i = 13 ∨ i = 14 ∨ i = 15 ∨ i = 16 ∨ i = 17 ∨ i = 18 ∨ i = 19 ∨ i = 20 ∨ i = 21 ∨ i = 22 ∨ i = 23 ∨ i = 24 ∨ i = 25 ∨ i = 26 ∨ i = 27 ∨ i = 28 ∨ i = 29 ∨ i = 30 ∨ i = 31 := by omega
    rcases hc with rfl | rfl | rfl | rfl | rfl | rfl | rfl | rfl | rfl | rfl | rfl | rfl | rfl | rfl | rfl | rfl | rfl | rfl | rfl | rfl | rfl | rfl | rfl | rfl | rfl | rfl | rfl | rfl | rfl | rfl
    · obtain rfl := Option.some.inj ho
      refine ⟨rfl, fun a w' hS hold hin K hK => ?_⟩
      obtain ⟨y1, x1, rfl⟩ := hin 1 rfl (by omega) rfl
      refine if_always rfl ?_
      exact op_fn3 _ _ _ _ _ _ _ _ rfl rfl (eval_tmp x1) rfl rfl (by intro args w; kernel_rfl) (within_ev H0.out _) hK
    · obtain rfl := Option.some.inj ho
      refine ⟨rfl, fun a w' hS hold hin K hK => ?_⟩
      obtain ⟨y2, x2, rfl⟩ := hin 2 rfl (by omega) rfl
      refine if_always rfl ?_
      exact op_move (V := (· = .bool true)) _ _ rfl rfl (eval_tmp x2) rfl hK
    · obtain rfl := Option.some.inj ho
      refine ⟨rfl, fun a w' hS hold hin K hK => ?_⟩
      obtain ⟨y3, x3, rfl⟩ := hin 3 rfl (by omega) rfl
      refine if_guard (d := 7) rfl rfl x3 ?_
      exact op_field 23 _ 1 _ (.pointer (some ⟨w.heap.size, 1, none⟩)) rfl rfl (eval_tmp ((hold 1 (slots_not (by kernel_rfl))).trans h1)) (fun w => by kernel_rfl) hK
    · obtain rfl := Option.some.inj ho
      refine ⟨rfl, fun a w' hS hold hin K hK => ?_⟩
      obtain ⟨y3, x3, rfl⟩ := hin 3 rfl (by omega) rfl
      obtain ⟨y4, x4, rfl⟩ := hin 4 rfl (by omega) rfl
      refine if_guard (d := 7) rfl rfl x3 ?_
      exact op_cell_own tInt _ w.heap.size 1 rfl rfl (eval_tmp x4) hS.1 0 _ _ rfl (.int .i64 n1) rfl hK
    · obtain rfl := Option.some.inj ho
      refine ⟨rfl, fun a w' hS hold hin K hK => ?_⟩
      obtain ⟨y3, x3, rfl⟩ := hin 3 rfl (by omega) rfl
      obtain ⟨y5, x5, rfl⟩ := hin 5 rfl (by omega) rfl
      refine if_guard (d := 7) rfl rfl x3 ?_
      exact op_fn3 _ _ _ _ _ _ _ _ rfl rfl (eval_tmp x5) rfl rfl (by intro args w; kernel_rfl) (within_ev H1.out _) hK
    · obtain rfl := Option.some.inj ho
      refine ⟨rfl, fun a w' hS hold hin K hK => ?_⟩
      obtain ⟨y3, x3, rfl⟩ := hin 3 rfl (by omega) rfl
      obtain ⟨y6, x6, rfl⟩ := hin 6 rfl (by omega) rfl
      refine if_always rfl ?_
      exact op_pick (V := (· = .bool true)) _ _ _ true _ rfl rfl (eval_tmp x3) (show (Act.eval a _) = _ from (eval_tmp x6)) rfl hK
    · obtain rfl := Option.some.inj ho
      refine ⟨rfl, fun a w' hS hold hin K hK => ?_⟩
      obtain ⟨y7, x7, rfl⟩ := hin 7 rfl (by omega) rfl
      refine if_always rfl ?_
      exact op_move (V := (· = .bool true)) _ _ rfl rfl (eval_tmp x7) rfl hK
    · obtain rfl := Option.some.inj ho
      refine ⟨rfl, fun a w' hS hold hin K hK => ?_⟩
      obtain ⟨y8, x8, rfl⟩ := hin 8 rfl (by omega) rfl
      refine if_guard (d := 12) rfl rfl x8 ?_
      exact op_field 23 _ 2 _ (.pointer (some ⟨w.heap.size, 2, none⟩)) rfl rfl (eval_tmp ((hold 1 (slots_not (by kernel_rfl))).trans h1)) (fun w => by kernel_rfl) hK
    · obtain rfl := Option.some.inj ho
      refine ⟨rfl, fun a w' hS hold hin K hK => ?_⟩
      obtain ⟨y8, x8, rfl⟩ := hin 8 rfl (by omega) rfl
      obtain ⟨y9, x9, rfl⟩ := hin 9 rfl (by omega) rfl
      refine if_guard (d := 12) rfl rfl x8 ?_
      exact op_cell_own tInt _ w.heap.size 2 rfl rfl (eval_tmp x9) hS.1 0 _ _ rfl (.int .i64 n2) rfl hK
    · obtain rfl := Option.some.inj ho
      refine ⟨rfl, fun a w' hS hold hin K hK => ?_⟩
      obtain ⟨y8, x8, rfl⟩ := hin 8 rfl (by omega) rfl
      obtain ⟨y10, x10, rfl⟩ := hin 10 rfl (by omega) rfl
      refine if_guard (d := 12) rfl rfl x8 ?_
      exact op_fn3 _ _ _ _ _ _ _ _ rfl rfl (eval_tmp x10) rfl rfl (by intro args w; kernel_rfl) (within_ev H2.out _) hK
    · obtain rfl := Option.some.inj ho
      refine ⟨rfl, fun a w' hS hold hin K hK => ?_⟩
      obtain ⟨y8, x8, rfl⟩ := hin 8 rfl (by omega) rfl
      obtain ⟨y11, x11, rfl⟩ := hin 11 rfl (by omega) rfl
      refine if_always rfl ?_
      exact op_pick (V := (· = .bool true)) _ _ _ true _ rfl rfl (eval_tmp x8) (show (Act.eval a _) = _ from (eval_tmp x11)) rfl hK
    · obtain rfl := Option.some.inj ho
      refine ⟨rfl, fun a w' hS hold hin K hK => ?_⟩
      obtain ⟨y12, x12, rfl⟩ := hin 12 rfl (by omega) rfl
      refine if_always rfl ?_
      exact op_move (V := (· = .bool true)) _ _ rfl rfl (eval_tmp x12) rfl hK
    · obtain rfl := Option.some.inj ho
      refine ⟨rfl, fun a w' hS hold hin K hK => ?_⟩
      obtain ⟨y13, x13, rfl⟩ := hin 13 rfl (by omega) rfl
      refine if_guard (d := 17) rfl rfl x13 ?_
      exact op_field 23 _ 3 _ (.pointer (some ⟨w.heap.size, 3, none⟩)) rfl rfl (eval_tmp ((hold 1 (slots_not (by kernel_rfl))).trans h1)) (fun w => by kernel_rfl) hK
    · obtain rfl := Option.some.inj ho
      refine ⟨rfl, fun a w' hS hold hin K hK => ?_⟩
      obtain ⟨y13, x13, rfl⟩ := hin 13 rfl (by omega) rfl
      obtain ⟨y14, x14, rfl⟩ := hin 14 rfl (by omega) rfl
      refine if_guard (d := 17) rfl rfl x13 ?_
      exact op_cell_own tInt _ w.heap.size 3 rfl rfl (eval_tmp x14) hS.1 0 _ _ rfl (.int .i64 n3) rfl hK
    · obtain rfl := Option.some.inj ho
      refine ⟨rfl, fun a w' hS hold hin K hK => ?_⟩
      obtain ⟨y13, x13, rfl⟩ := hin 13 rfl (by omega) rfl
      refine if_guard (d := 17) rfl rfl x13 ?_
      exact op_field 23 _ 1 _ (.pointer (some ⟨w.heap.size, 1, none⟩)) rfl rfl (eval_tmp ((hold 1 (slots_not (by kernel_rfl))).trans h1)) (fun w => by kernel_rfl) hK
    · obtain rfl := Option.some.inj ho
      refine ⟨rfl, fun a w' hS hold hin K hK => ?_⟩
      obtain ⟨y13, x13, rfl⟩ := hin 13 rfl (by omega) rfl
      obtain ⟨y16, x16, rfl⟩ := hin 16 rfl (by omega) rfl
      refine if_guard (d := 17) rfl rfl x13 ?_
      exact op_cell_own tInt _ w.heap.size 1 rfl rfl (eval_tmp x16) hS.1 0 _ _ rfl (.int .i64 n1) rfl hK
    · obtain rfl := Option.some.inj ho
      refine ⟨rfl, fun a w' hS hold hin K hK => ?_⟩
      obtain ⟨y13, x13, rfl⟩ := hin 13 rfl (by omega) rfl
      obtain ⟨y17, x17, rfl⟩ := hin 17 rfl (by omega) rfl
      refine if_guard (d := 17) rfl rfl x13 ?_
      exact op_max _ _ _ _ _ mx rfl rfl (eval_tmp x17) rfl HMX.out hK
    · obtain rfl := Option.some.inj ho
      refine ⟨rfl, fun a w' hS hold hin K hK => ?_⟩
      obtain ⟨y13, x13, rfl⟩ := hin 13 rfl (by omega) rfl
      obtain ⟨y18, x18, rfl⟩ := hin 18 rfl (by omega) rfl
      refine if_guard (d := 17) rfl rfl x13 ?_
      exact op_bin (V := (· = .int .i64 (26 + mx))) _ _ _ _ _ _ _ (.int .i64 (26 + mx)) rfl rfl rfl (eval_tmp x18) (fun w => add_in 26 mx HMN.out w) rfl hK
    · obtain rfl := Option.some.inj ho
      refine ⟨rfl, fun a w' hS hold hin K hK => ?_⟩
      obtain ⟨y13, x13, rfl⟩ := hin 13 rfl (by omega) rfl
      obtain ⟨y15, x15, rfl⟩ := hin 15 rfl (by omega) rfl
      obtain ⟨y19, x19, rfl⟩ := hin 19 rfl (by omega) rfl
      refine if_guard (d := 17) rfl rfl x13 ?_
      exact op_fn3 _ _ _ _ _ _ _ _ rfl rfl (eval_tmp x15) (eval_tmp x19) rfl (by intro args w; kernel_rfl) (within_ev H3.out _) hK
    · obtain rfl := Option.some.inj ho
      refine ⟨rfl, fun a w' hS hold hin K hK => ?_⟩
      obtain ⟨y13, x13, rfl⟩ := hin 13 rfl (by omega) rfl
      obtain ⟨y20, x20, rfl⟩ := hin 20 rfl (by omega) rfl
      refine if_always rfl ?_
      exact op_pick (V := (· = .bool true)) _ _ _ true _ rfl rfl (eval_tmp x13) (show (Act.eval a _) = _ from (eval_tmp x20)) rfl hK
    · obtain rfl := Option.some.inj ho
      refine ⟨rfl, fun a w' hS hold hin K hK => ?_⟩
      obtain ⟨y21, x21, rfl⟩ := hin 21 rfl (by omega) rfl
      refine if_always rfl ?_
      exact op_move (V := (· = .bool true)) _ _ rfl rfl (eval_tmp x21) rfl hK
    · obtain rfl := Option.some.inj ho
      refine ⟨rfl, fun a w' hS hold hin K hK => ?_⟩
      obtain ⟨y22, x22, rfl⟩ := hin 22 rfl (by omega) rfl
      refine if_guard (d := 26) rfl rfl x22 ?_
      exact op_field 23 _ 4 _ (.pointer (some ⟨w.heap.size, 4, none⟩)) rfl rfl (eval_tmp ((hold 1 (slots_not (by kernel_rfl))).trans h1)) (fun w => by kernel_rfl) hK
    · obtain rfl := Option.some.inj ho
      refine ⟨rfl, fun a w' hS hold hin K hK => ?_⟩
      obtain ⟨y22, x22, rfl⟩ := hin 22 rfl (by omega) rfl
      obtain ⟨y23, x23, rfl⟩ := hin 23 rfl (by omega) rfl
      refine if_guard (d := 26) rfl rfl x22 ?_
      exact op_cell_own tInt _ w.heap.size 4 rfl rfl (eval_tmp x23) hS.1 0 _ _ rfl (.int .i64 n4) rfl hK
    · obtain rfl := Option.some.inj ho
      refine ⟨rfl, fun a w' hS hold hin K hK => ?_⟩
      obtain ⟨y22, x22, rfl⟩ := hin 22 rfl (by omega) rfl
      obtain ⟨y24, x24, rfl⟩ := hin 24 rfl (by omega) rfl
      refine if_guard (d := 26) rfl rfl x22 ?_
      exact op_fn3 _ _ _ _ _ _ _ _ rfl rfl (eval_tmp x24) rfl rfl (by intro args w; kernel_rfl) (within_ev H4.out _) hK
    · obtain rfl := Option.some.inj ho
      refine ⟨rfl, fun a w' hS hold hin K hK => ?_⟩
      obtain ⟨y22, x22, rfl⟩ := hin 22 rfl (by omega) rfl
      obtain ⟨y25, x25, rfl⟩ := hin 25 rfl (by omega) rfl
      refine if_always rfl ?_
      exact op_pick (V := (· = .bool true)) _ _ _ true _ rfl rfl (eval_tmp x22) (show (Act.eval a _) = _ from (eval_tmp x25)) rfl hK
    · obtain rfl := Option.some.inj ho
      refine ⟨rfl, fun a w' hS hold hin K hK => ?_⟩
      obtain ⟨y26, x26, rfl⟩ := hin 26 rfl (by omega) rfl
      refine if_always rfl ?_
      exact op_move (V := (· = .bool true)) _ _ rfl rfl (eval_tmp x26) rfl hK
    · obtain rfl := Option.some.inj ho
      refine ⟨rfl, fun a w' hS hold hin K hK => ?_⟩
      obtain ⟨y27, x27, rfl⟩ := hin 27 rfl (by omega) rfl
      refine if_guard (d := 31) rfl rfl x27 ?_
      exact op_field 23 _ 5 _ (.pointer (some ⟨w.heap.size, 5, none⟩)) rfl rfl (eval_tmp ((hold 1 (slots_not (by kernel_rfl))).trans h1)) (fun w => by kernel_rfl) hK
    · obtain rfl := Option.some.inj ho
      refine ⟨rfl, fun a w' hS hold hin K hK => ?_⟩
      obtain ⟨y27, x27, rfl⟩ := hin 27 rfl (by omega) rfl
      obtain ⟨y28, x28, rfl⟩ := hin 28 rfl (by omega) rfl
      refine if_guard (d := 31) rfl rfl x27 ?_
      exact op_cell_own tInt _ w.heap.size 5 rfl rfl (eval_tmp x28) hS.1 0 _ _ rfl (.int .i64 n5) rfl hK
    · obtain rfl := Option.some.inj ho
      refine ⟨rfl, fun a w' hS hold hin K hK => ?_⟩
      obtain ⟨y27, x27, rfl⟩ := hin 27 rfl (by omega) rfl
      obtain ⟨y29, x29, rfl⟩ := hin 29 rfl (by omega) rfl
      refine if_guard (d := 31) rfl rfl x27 ?_
      exact op_fn3 _ _ _ _ _ _ _ _ rfl rfl (eval_tmp x29) rfl rfl (by intro args w; kernel_rfl) (within_ev H5.out _) hK
    · obtain rfl := Option.some.inj ho
      refine ⟨rfl, fun a w' hS hold hin K hK => ?_⟩
      obtain ⟨y27, x27, rfl⟩ := hin 27 rfl (by omega) rfl
      obtain ⟨y30, x30, rfl⟩ := hin 30 rfl (by omega) rfl
      refine if_always rfl ?_
      exact op_pick (V := (· = .bool false)) _ _ _ true _ rfl rfl (eval_tmp x27) (show (Act.eval a _) = _ from (eval_tmp x30)) rfl hK
  · intro i o sz h0i hi ho hA; cases hA
  clear hS
  intro t1 V1 hs hold hout hall hne hS
  replace HS := hs.trans HS
  replace hS := hS.1
  obtain ⟨x35, q35, v35⟩ : ∃ x, t1[35]? = some x ∧ ((· = .bool false)) x := hout 31 (by omega) rfl
  replace q35 : t1[35]? = some (.bool false) := q35.trans (congrArg some v35)
  replace h1 := (hold 1 (slots_not (by kernel_rfl))).trans h1
  clear hold hout hs hall hne
  simp only [List.drop_succ_cons, List.drop_zero]
  refine tlx_assign (.tmp 35) rfl rfl 3 rfl (by rw [HS]; decide) (.bool false) (eval_tmp q35) fun t1 ex0 hz hq he => ?_
  replace h1 := (he 1 (by decide)).trans h1
  replace q35 := (he 35 (by decide)).trans q35
  replace HS := hz.trans HS
  clear hz he ex0
  have h3 := hq
  clear hq
  refine wpList_nil ?_
  clear HT
  obtain ⟨f, e0, hf⟩ := wash HS
  have f1 := hf 1 _ h1
  have f3 := hf 3 _ h3
  clear hf
  rw [e0.trans (show _ = #[f 0, f 1, f 2, f 3, f 4, f 5, f 6, f 7, f 8, f 9, f 10, f 11, f 12, f 13, f 14, f 15, f 16, f 17, f 18, f 19, f 20, f 21, f 22, f 23, f 24, f 25, f 26, f 27, f 28, f 29, f 30, f 31, f 32, f 33, f 34, f 35, f 36, f 37] from by kernel_rfl), f1, f3]
  clear f1 f3
  clear e0
  try dsimp only
  clear h1 h3 q35 v35 hM HS t1 t0 M
  go_wp2_with fail
  exact ⟨rfl, .int .i64 200, by kernel_rfl, _, rfl, rfl, hS.1⟩
set_option maxHeartbeats 2000000 in
set_option maxRecDepth 100000 in
theorem check20_6 (n0 n1 n2 n3 n4 n5 mx : Int) (w : World) (hmx : (if 88 > n1 then 88 else n1) = mx) (hn : -9223372036854775808 ≤ 26 + mx ∧ 26 + mx ≤ 9223372036854775807) (h0 : decide (1 ≤ n0 ∧ n0 ≤ 256) = true) (h1 : decide (32 ≤ n1 ∧ n1 ≤ 512) = true) (h2 : decide (2 ≤ n2 ∧ n2 ≤ 64) = true) (h3 : decide (26 + mx ≤ n3 ∧ n3 ≤ 4096) = true) (h4 : decide (2 ≤ n4 ∧ n4 ≤ 16) = true) (h5 : decide (1 ≤ n5 ∧ n5 ≤ 16) = true) : Calls Tryd.prog 37 #[.agg #[.int .i64 n0, .int .i64 n1, .int .i64 n2, .int .i64 n3, .int .i64 n4, .int .i64 n5]] w (Gives (· = .int .i64 0) w) := by
  have hS := conf_start n0 n1 n2 n3 n4 n5 w
  have H0 := Lib.hid h0
  have H1 := Lib.hid h1
  have H2 := Lib.hid h2
  have H3 := Lib.hid h3
  have H4 := Lib.hid h4
  have H5 := Lib.hid h5
  have HMX := Lib.hid hmx
  have HMN := Lib.hid hn
  clear h0 h1 h2 h3 h4 h5 hmx hn
  go_enter Tryd.func37, Tryd.ntmps37
  go_wp2_with ((with_reducible refine guard_list ?_); first | (refine held_call _ rfl ?_))
  generalize w.alloc (.cells #[.int .i64 n0, .int .i64 n1, .int .i64 n2, .int .i64 n3, .int .i64 n4, .int .i64 n5] 23) = w0 at hS ⊢
  obtain ⟨M, hM⟩ : ∃ M, M = w0.heap.size := ⟨_, rfl⟩
  refine hide_held fun t0 HT => ?_
  have HS : t0.size = 38 := by rw [HT]; rfl
  have h1 : t0[1]? = some (.pointer (some ⟨w.heap.size, 0, none⟩)) := by rw [HT]; rfl
  refine wp_from_most 32 (fun i => [4, 5, 6, 7, 8, 9, 10, 11, 12, 13, 14, 15, 16, 17, 18, 19, 20, 21, 22, 23, 24, 25, 26, 27, 28, 29, 30, 31, 32, 33, 34, 35].getD i 0) (fun _ => none) (fun i => [(fun _ => True), (· = .int .i64 n0), (· = .bool true), (· = .bool true), (· = .pointer (some ⟨w.heap.size, 1, none⟩)), (· = .int .i64 n1), (· = .bool true), (· = .bool true), (· = .bool true), (· = .pointer (some ⟨w.heap.size, 2, none⟩)), (· = .int .i64 n2), (· = .bool true), (· = .bool true), (· = .bool true), (· = .pointer (some ⟨w.heap.size, 3, none⟩)), (· = .int .i64 n3), (· = .pointer (some ⟨w.heap.size, 1, none⟩)), (· = .int .i64 n1), (· = .int .i64 mx), (· = .int .i64 (26 + mx)), (· = .bool true), (· = .bool true), (· = .bool true), (· = .pointer (some ⟨w.heap.size, 4, none⟩)), (· = .int .i64 n4), (· = .bool true), (· = .bool true), (· = .bool true), (· = .pointer (some ⟨w.heap.size, 5, none⟩)), (· = .int .i64 n5), (· = .bool true), (· = .bool true)].getD i (fun _ => True)) (fun w' => Own w [(w.heap.size, 6, (· = .agg #[.int .i64 n0, .int .i64 n1, .int .i64 n2, .int .i64 n3, .int .i64 n4, .int .i64 n5]))] w' ∧ M ≤ w'.heap.size) M
    2 (by omega) (by kernel_rfl) ?_ (slots_apart (by kernel_rfl)) (slots_lie (by rw [HS]; kernel_rfl)) ⟨hS, Nat.le_of_eq hM⟩ (fun w' h => h.2) (fun w1 w2 h b => ⟨h.1.keep b, Nat.le_trans h.2 b.size⟩) ?_ ?_ ?_
  · intro j hj _
    have hc : j = 0 ∨ j = 1 := by omega
    rcases hc with rfl | rfl
    · exact ⟨rfl, _, by rw [HT]; rfl, trivial⟩
    · exact ⟨rfl, _, by rw [HT]; rfl, rfl⟩
  · clear hS
    intro i o h0i hi ho hA
    have hc : i = 2 ∨ i = 3 ∨ i = 4 ∨ i = 5 ∨ i = 6 ∨ i = 7 ∨ i = 8 ∨ i = 9 ∨ i = 10 ∨ i = 11 ∨ i = 12 ∨ i = 13 ∨ i = 14 ∨ i = 15 ∨ i = 16 ∨ i = 17 ∨ i = 18 ∨ i = 19 ∨ i = 20 ∨ i = 21 ∨ i = 22 ∨ i = 23 ∨ i = 24 ∨ i = 25 ∨ i = 26 ∨ i = 27 ∨ i = 28 ∨ i = 29 ∨ i = 30 ∨ i = 31 := by omega
    rcases hc with rfl | rfl | rfl | rfl | rfl | rfl | rfl | rfl | rfl | rfl | rfl | rfl | rfl | rfl | rfl | rfl | rfl | rfl | rfl | rfl | rfl | rfl | rfl | rfl | rfl | rfl | rfl | rfl | rfl | rfl
    · obtain rfl := Option.some.inj ho
      refine ⟨rfl, fun a w' hS hold hin K hK => ?_⟩
      obtain ⟨y1, x1, rfl⟩ := hin 1 rfl (by omega) rfl
      refine if_always rfl ?_
      exact op_fn3 _ _ _ _ _ _ _ _ rfl rfl (eval_tmp x1) rfl rfl (by intro args w; kernel_rfl) (within_ev H0.out _) hK
    · obtain rfl := Option.some.inj ho
      refine ⟨rfl, fun a w' hS hold hin K hK => ?_⟩
      obtain ⟨y2, x2, rfl⟩ := hin 2 rfl (by omega) rfl
      refine if_always rfl ?_
      exact op_move (V := (· = .bool true)) _ _ rfl rfl (eval_tmp x2) rfl hK
    · obtain rfl := Option.some.inj ho
      refine ⟨rfl, fun a w' hS hold hin K hK => ?_⟩
      obtain ⟨y3, x3, rfl⟩ := hin 3 rfl (by omega) rfl
      refine if_guard (d := 7) rfl rfl x3 ?_
      exact op_field 23 _ 1 _ (.pointer (some ⟨w.heap.size, 1, none⟩)) rfl rfl (eval_tmp ((hold 1 (slots_not (by kernel_rfl))).trans h1)) (fun w => by kernel_rfl) hK
    · obtain rfl := Option.some.inj ho
      refine ⟨rfl, fun a w' hS hold hin K hK => ?_⟩
      obtain ⟨y3, x3, rfl⟩ := hin 3 rfl (by omega) rfl
      obtain ⟨y4, x4, rfl⟩ := hin 4 rfl (by omega) rfl
      refine if_guard (d := 7) rfl rfl x3 ?_
      exact op_cell_own tInt _ w.heap.size 1 rfl rfl (eval_tmp x4) hS.1 0 _ _ rfl (.int .i64 n1) rfl hK
    · obtain rfl := Option.some.inj ho
      refine ⟨rfl, fun a w' hS hold hin K hK => ?_⟩
      obtain ⟨y3, x3, rfl⟩ := hin 3 rfl (by omega) rfl
      obtain ⟨y5, x5, rfl⟩ := hin 5 rfl (by omega) rfl
      refine if_guard (d := 7) rfl rfl x3 ?_
      exact op_fn3 _ _ _ _ _ _ _ _ rfl rfl (eval_tmp x5) rfl rfl (by intro args w; kernel_rfl) (within_ev H1.out _) hK
    · obtain rfl := Option.some.inj ho
      refine ⟨rfl, fun a w' hS hold hin K hK => ?_⟩
      obtain ⟨y3, x3, rfl⟩ := hin 3 rfl (by omega) rfl
      obtain ⟨y6, x6, rfl⟩ := hin 6 rfl (by omega) rfl
      refine if_always rfl ?_
      exact op_pick (V := (· = .bool true)) _ _ _ true _ rfl rfl (eval_tmp x3) (show (Act.eval a _) = _ from (eval_tmp x6)) rfl hK
    · obtain rfl := Option.some.inj ho
      refine ⟨rfl, fun a w' hS hold hin K hK => ?_⟩
      obtain ⟨y7, x7, rfl⟩ := hin 7 rfl (by omega) rfl
      refine if_always rfl ?_
      exact op_move (V := (· = .bool true)) _ _ rfl rfl (eval_tmp x7) rfl hK
    · obtain rfl := Option.some.inj ho
      refine ⟨rfl, fun a w' hS hold hin K hK => ?_⟩
      obtain ⟨y8, x8, rfl⟩ := hin 8 rfl (by omega) rfl
      refine if_guard (d := 12) rfl rfl x8 ?_
      exact op_field 23 _ 2 _ (.pointer (some ⟨w.heap.size, 2, none⟩)) rfl rfl (eval_tmp ((hold 1 (slots_not (by kernel_rfl))).trans h1)) (fun w => by kernel_rfl) hK
    · obtain rfl := Option.some.inj ho
      refine ⟨rfl, fun a w' hS hold hin K hK => ?_⟩
      obtain ⟨y8, x8, rfl⟩ := hin 8 rfl (by omega) rfl
      obtain ⟨y9, x9, rfl⟩ := hin 9 rfl (by omega) rfl
      refine if_guard (d := 12) rfl rfl x8 ?_
      exact op_cell_own tInt _ w.heap.size 2 rfl rfl (eval_tmp x9) hS.1 0 _ _ rfl (.int .i64 n2) rfl hK
    · obtain rfl := Option.some.inj ho
      refine ⟨rfl, fun a w' hS hold hin K hK => ?_⟩
      obtain ⟨y8, x8, rfl⟩ := hin 8 rfl (by omega) rfl
      obtain ⟨y10, x10, rfl⟩ := hin 10 rfl (by omega) rfl
      refine if_guard (d := 12) rfl rfl x8 ?_
      exact op_fn3 _ _ _ _ _ _ _ _ rfl rfl (eval_tmp x10) rfl rfl (by intro args w; kernel_rfl) (within_ev H2.out _) hK
    · obtain rfl := Option.some.inj ho
      refine ⟨rfl, fun a w' hS hold hin K hK => ?_⟩
      obtain ⟨y8, x8, rfl⟩ := hin 8 rfl (by omega) rfl
      obtain ⟨y11, x11, rfl⟩ := hin 11 rfl (by omega) rfl
      refine if_always rfl ?_
      exact op_pick (V := (· = .bool true)) _ _ _ true _ rfl rfl (eval_tmp x8) (show (Act.eval a _) = _ from (eval_tmp x11)) rfl hK
    · obtain rfl := Option.some.inj ho
      refine ⟨rfl, fun a w' hS hold hin K hK => ?_⟩
      obtain ⟨y12, x12, rfl⟩ := hin 12 rfl (by omega) rfl
      refine if_always rfl ?_
      exact op_move (V := (· = .bool true)) _ _ rfl rfl (eval_tmp x12) rfl hK
    · obtain rfl := Option.some.inj ho
      refine ⟨rfl, fun a w' hS hold hin K hK => ?_⟩
      obtain ⟨y13, x13, rfl⟩ := hin 13 rfl (by omega) rfl
      refine if_guard (d := 17) rfl rfl x13 ?_
      exact op_field 23 _ 3 _ (.pointer (some ⟨w.heap.size, 3, none⟩)) rfl rfl (eval_tmp ((hold 1 (slots_not (by kernel_rfl))).trans h1)) (fun w => by kernel_rfl) hK
    · obtain rfl := Option.some.inj ho
      refine ⟨rfl, fun a w' hS hold hin K hK => ?_⟩
      obtain ⟨y13, x13, rfl⟩ := hin 13 rfl (by omega) rfl
      obtain ⟨y14, x14, rfl⟩ := hin 14 rfl (by omega) rfl
      refine if_guard (d := 17) rfl rfl x13 ?_
      exact op_cell_own tInt _ w.heap.size 3 rfl rfl (eval_tmp x14) hS.1 0 _ _ rfl (.int .i64 n3) rfl hK
    · obtain rfl := Option.some.inj ho
      refine ⟨rfl, fun a w' hS hold hin K hK => ?_⟩
      obtain ⟨y13, x13, rfl⟩ := hin 13 rfl (by omega) rfl
      refine if_guard (d := 17) rfl rfl x13 ?_
      exact op_field 23 _ 1 _ (.pointer (some ⟨w.heap.size, 1, none⟩)) rfl rfl (eval_tmp ((hold 1 (slots_not (by kernel_rfl))).trans h1)) (fun w => by kernel_rfl) hK
    · obtain rfl := Option.some.inj ho
      refine ⟨rfl, fun a w' hS hold hin K hK => ?_⟩
      obtain ⟨y13, x13, rfl⟩ := hin 13 rfl (by omega) rfl
      obtain ⟨y16, x16, rfl⟩ := hin 16 rfl (by omega) rfl
      refine if_guard (d := 17) rfl rfl x13 ?_
      exact op_cell_own tInt _ w.heap.size 1 rfl rfl (eval_tmp x16) hS.1 0 _ _ rfl (.int .i64 n1) rfl hK
    · obtain rfl := Option.some.inj ho
      refine ⟨rfl, fun a w' hS hold hin K hK => ?_⟩
      obtain ⟨y13, x13, rfl⟩ := hin 13 rfl (by omega) rfl
      obtain ⟨y17, x17, rfl⟩ := hin 17 rfl (by omega) rfl
      refine if_guard (d := 17) rfl rfl x13 ?_
      exact op_max _ _ _ _ _ mx rfl rfl (eval_tmp x17) rfl HMX.out hK
    · obtain rfl := Option.some.inj ho
      refine ⟨rfl, fun a w' hS hold hin K hK => ?_⟩
      obtain ⟨y13, x13, rfl⟩ := hin 13 rfl (by omega) rfl
      obtain ⟨y18, x18, rfl⟩ := hin 18 rfl (by omega) rfl
      refine if_guard (d := 17) rfl rfl x13 ?_
      exact op_bin (V := (· = .int .i64 (26 + mx))) _ _ _ _ _ _ _ (.int .i64 (26 + mx)) rfl rfl rfl (eval_tmp x18) (fun w => add_in 26 mx HMN.out w) rfl hK
    · obtain rfl := Option.some.inj ho
      refine ⟨rfl, fun a w' hS hold hin K hK => ?_⟩
      obtain ⟨y13, x13, rfl⟩ := hin 13 rfl (by omega) rfl
      obtain ⟨y15, x15, rfl⟩ := hin 15 rfl (by omega) rfl
      obtain ⟨y19, x19, rfl⟩ := hin 19 rfl (by omega) rfl
      refine if_guard (d := 17) rfl rfl x13 ?_
      exact op_fn3 _ _ _ _ _ _ _ _ rfl rfl (eval_tmp x15) (eval_tmp x19) rfl (by intro args w; kernel_rfl) (within_ev H3.out _) hK
    · obtain rfl := Option.some.inj ho
      refine ⟨rfl, fun a w' hS hold hin K hK => ?_⟩
      obtain ⟨y13, x13, rfl⟩ := hin 13 rfl (by omega) rfl
      obtain ⟨y20, x20, rfl⟩ := hin 20 rfl (by omega) rfl
      refine if_always rfl ?_
      exact op_pick (V := (· = .bool true)) _ _ _ true _ rfl rfl (eval_tmp x13) (show (Act.eval a _) = _ from (eval_tmp x20)) rfl hK
    · obtain rfl := Option.some.inj ho
      refine ⟨rfl, fun a w' hS hold hin K hK => ?_⟩
      obtain ⟨y21, x21, rfl⟩ := hin 21 rfl (by omega) rfl
      refine if_always rfl ?_
      exact op_move (V := (· = .bool true)) _ _ rfl rfl (eval_tmp x21) rfl hK
    · obtain rfl := Option.some.inj ho
      refine ⟨rfl, fun a w' hS hold hin K hK => ?_⟩
      obtain ⟨y22, x22, rfl⟩ := hin 22 rfl (by omega) rfl
      refine if_guard (d := 26) rfl rfl x22 ?_
      exact op_field 23 _ 4 _ (.pointer (some ⟨w.heap.size, 4, none⟩)) rfl rfl (eval_tmp ((hold 1 (slots_not (by kernel_rfl))).trans h1)) (fun w => by kernel_rfl) hK
    · obtain rfl := Option.some.inj ho
      refine ⟨rfl, fun a w' hS hold hin K hK => ?_⟩
      obtain ⟨y22, x22, rfl⟩ := hin 22 rfl (by omega) rfl
      obtain ⟨y23, x23, rfl⟩ := hin 23 rfl (by omega) rfl
      refine if_guard (d := 26) rfl rfl x22 ?_
      exact op_cell_own tInt _ w.heap.size 4 rfl rfl (eval_tmp x23) hS.1 0 _ _ rfl (.int .i64 n4) rfl hK
    · obtain rfl := Option.some.inj ho
      refine ⟨rfl, fun a w' hS hold hin K hK => ?_⟩
      obtain ⟨y22, x22, rfl⟩ := hin 22 rfl (by omega) rfl
      obtain ⟨y24, x24, rfl⟩ := hin 24 rfl (by omega) rfl
      refine if_guard (d := 26) rfl rfl x22 ?_
      exact op_fn3 _ _ _ _ _ _ _ _ rfl rfl (eval_tmp x24) rfl rfl (by intro args w; kernel_rfl) (within_ev H4.out _) hK
    · obtain rfl := Option.some.inj ho
      refine ⟨rfl, fun a w' hS hold hin K hK => ?_⟩
      obtain ⟨y22, x22, rfl⟩ := hin 22 rfl (by omega) rfl
      obtain ⟨y25, x25, rfl⟩ := hin 25 rfl (by omega) rfl
      refine if_always rfl ?_
      exact op_pick (V := (· = .bool true)) _ _ _ true _ rfl rfl (eval_tmp x22) (show (Act.eval a _) = _ from (eval_tmp x25)) rfl hK
    · obtain rfl := Option.some.inj ho
      refine ⟨rfl, fun a w' hS hold hin K hK => ?_⟩
      obtain ⟨y26, x26, rfl⟩ := hin 26 rfl (by omega) rfl
      refine if_always rfl ?_
      exact op_move (V := (· = .bool true)) _ _ rfl rfl (eval_tmp x26) rfl hK
    · obtain rfl := Option.some.inj ho
      refine ⟨rfl, fun a w' hS hold hin K hK => ?_⟩
      obtain ⟨y27, x27, rfl⟩ := hin 27 rfl (by omega) rfl
      refine if_guard (d := 31) rfl rfl x27 ?_
      exact op_field 23 _ 5 _ (.pointer (some ⟨w.heap.size, 5, none⟩)) rfl rfl (eval_tmp ((hold 1 (slots_not (by kernel_rfl))).trans h1)) (fun w => by kernel_rfl) hK
    · obtain rfl := Option.some.inj ho
      refine ⟨rfl, fun a w' hS hold hin K hK => ?_⟩
      obtain ⟨y27, x27, rfl⟩ := hin 27 rfl (by omega) rfl
      obtain ⟨y28, x28, rfl⟩ := hin 28 rfl (by omega) rfl
      refine if_guard (d := 31) rfl rfl x27 ?_
      exact op_cell_own tInt _ w.heap.size 5 rfl rfl (eval_tmp x28) hS.1 0 _ _ rfl (.int .i64 n5) rfl hK
    · obtain rfl := Option.some.inj ho
      refine ⟨rfl, fun a w' hS hold hin K hK => ?_⟩
      obtain ⟨y27, x27, rfl⟩ := hin 27 rfl (by omega) rfl
      obtain ⟨y29, x29, rfl⟩ := hin 29 rfl (by omega) rfl
      refine if_guard (d := 31) rfl rfl x27 ?_
      exact op_fn3 _ _ _ _ _ _ _ _ rfl rfl (eval_tmp x29) rfl rfl (by intro args w; kernel_rfl) (within_ev H5.out _) hK
    · obtain rfl := Option.some.inj ho
      refine ⟨rfl, fun a w' hS hold hin K hK => ?_⟩
      obtain ⟨y27, x27, rfl⟩ := hin 27 rfl (by omega) rfl
      obtain ⟨y30, x30, rfl⟩ := hin 30 rfl (by omega) rfl
      refine if_always rfl ?_
      exact op_pick (V := (· = .bool true)) _ _ _ true _ rfl rfl (eval_tmp x27) (show (Act.eval a _) = _ from (eval_tmp x30)) rfl hK
  · intro i o sz h0i hi ho hA; cases hA
  clear hS
  intro t1 V1 hs hold hout hall hne hS
  replace HS := hs.trans HS
  replace hS := hS.1
  obtain ⟨x35, q35, v35⟩ : ∃ x, t1[35]? = some x ∧ ((· = .bool true)) x := hout 31 (by omega) rfl
  replace q35 : t1[35]? = some (.bool true) := q35.trans (congrArg some v35)
  replace h1 := (hold 1 (slots_not (by kernel_rfl))).trans h1
  clear hold hout hs hall hne
  simp only [List.drop_succ_cons, List.drop_zero]
  refine tlx_assign (.tmp 35) rfl rfl 3 rfl (by rw [HS]; decide) (.bool true) (eval_tmp q35) fun t1 ex0 hz hq he => ?_
  replace h1 := (he 1 (by decide)).trans h1
  replace q35 := (he 35 (by decide)).trans q35
  replace HS := hz.trans HS
  clear hz he ex0
  have h3 := hq
  clear hq
  refine wpList_nil ?_
  clear HT
  obtain ⟨f, e0, hf⟩ := wash HS
  have f1 := hf 1 _ h1
  have f3 := hf 3 _ h3
  clear hf
  rw [e0.trans (show _ = #[f 0, f 1, f 2, f 3, f 4, f 5, f 6, f 7, f 8, f 9, f 10, f 11, f 12, f 13, f 14, f 15, f 16, f 17, f 18, f 19, f 20, f 21, f 22, f 23, f 24, f 25, f 26, f 27, f 28, f 29, f 30, f 31, f 32, f 33, f 34, f 35, f 36, f 37] from by kernel_rfl), f1, f3]
  clear f1 f3
  clear e0
  try dsimp only
  clear h1 h3 q35 v35 hM HS t1 t0 M
  go_wp2_with fail
  exact ⟨rfl, .int .i64 0, by kernel_rfl, _, rfl, rfl, hS.1⟩
theorem check20_any (n0 n1 n2 n3 n4 n5 : Int) (w : World) : Calls Tryd.prog 37 #[.agg #[.int .i64 n0, .int .i64 n1, .int .i64 n2, .int .i64 n3, .int .i64 n4, .int .i64 n5]] w (Gives (· = .int .i64 (if good n0 n1 n2 n3 n4 n5 = true then 0 else 200)) w) := by
  obtain ⟨mx, hmx⟩ : ∃ mx, (if 88 > n1 then 88 else n1) = mx := ⟨_, rfl⟩
  have bad : ¬ ((1 ≤ n0 ∧ n0 ≤ 256) ∧ (32 ≤ n1 ∧ n1 ≤ 512) ∧ (2 ≤ n2 ∧ n2 ≤ 64) ∧ (26 + mx ≤ n3 ∧ n3 ≤ 4096) ∧ (2 ≤ n4 ∧ n4 ≤ 16) ∧ (1 ≤ n5 ∧ n5 ≤ 16)) → good n0 n1 n2 n3 n4 n5 = false := fun h => decide_eq_false fun hh => h (by split at hmx <;> omega)
  by_cases h0 : 1 ≤ n0 ∧ n0 ≤ 256
  · skip
    by_cases h1 : 32 ≤ n1 ∧ n1 ≤ 512
    · skip
      by_cases h2 : 2 ≤ n2 ∧ n2 ≤ 64
      · skip
        by_cases h3 : 26 + mx ≤ n3 ∧ n3 ≤ 4096
        · skip
          by_cases h4 : 2 ≤ n4 ∧ n4 ≤ 16
          · skip
            by_cases h5 : 1 ≤ n5 ∧ n5 ≤ 16
            · skip
              rw [if_pos (show good n0 n1 n2 n3 n4 n5 = true from decide_eq_true (by split at hmx <;> omega))]
              exact check20_6 n0 n1 n2 n3 n4 n5 mx w hmx (by omega) (decide_eq_true h0) (decide_eq_true h1) (decide_eq_true h2) (decide_eq_true h3) (decide_eq_true h4) (decide_eq_true h5)
            · rw [bad (fun h => h5 h.2.2.2.2.2), if_neg (by decide)]
              exact check20_5 n0 n1 n2 n3 n4 n5 mx w hmx (by omega) (decide_eq_true h0) (decide_eq_true h1) (decide_eq_true h2) (decide_eq_true h3) (decide_eq_true h4) (decide_eq_false h5)
          · rw [bad (fun h => h4 h.2.2.2.2.1), if_neg (by decide)]
            exact check20_4 n0 n1 n2 n3 n4 n5 mx w hmx (by omega) (decide_eq_true h0) (decide_eq_true h1) (decide_eq_true h2) (decide_eq_true h3) (decide_eq_false h4)
        · rw [bad (fun h => h3 h.2.2.2.1), if_neg (by decide)]
          exact check20_3 n0 n1 n2 n3 n4 n5 mx w hmx (by omega) (decide_eq_true h0) (decide_eq_true h1) (decide_eq_true h2) (decide_eq_false h3)
      · rw [bad (fun h => h2 h.2.2.1), if_neg (by decide)]
        exact check20_2 n0 n1 n2 n3 n4 n5 w (decide_eq_true h0) (decide_eq_true h1) (decide_eq_false h2)
    · rw [bad (fun h => h1 h.2.1), if_neg (by decide)]
      exact check20_1 n0 n1 n2 n3 n4 n5 w (decide_eq_true h0) (decide_eq_false h1)
  · rw [bad (fun h => h0 h.1), if_neg (by decide)]
    exact check20_0 n0 n1 n2 n3 n4 n5 w  (decide_eq_false h0)
set_option maxHeartbeats 4000000 in
set_option maxRecDepth 100000 in
theorem checkR_any (n0 n1 n2 n3 n4 n5 : Int) (w : World) : Calls Tryd.prog 38 #[.agg #[.int .i64 n0, .int .i64 n1, .int .i64 n2, .int .i64 n3, .int .i64 n4, .int .i64 n5]] w (Gives (· = .int .i64 (if good n0 n1 n2 n3 n4 n5 = true then 0 else 200)) w) := by
  have hS := conf_start n0 n1 n2 n3 n4 n5 w
  obtain ⟨gd, hgd⟩ : ∃ g, good n0 n1 n2 n3 n4 n5 = g := ⟨_, rfl⟩
  rw [hgd]
  obtain ⟨d1, hd1⟩ : ∃ b, decide (1 ≤ n0) = b := ⟨_, rfl⟩
  obtain ⟨d2, hd2⟩ : ∃ b, decide (n0 ≤ 256) = b := ⟨_, rfl⟩
  obtain ⟨d3, hd3⟩ : ∃ b, decide (32 ≤ n1) = b := ⟨_, rfl⟩
  obtain ⟨d4, hd4⟩ : ∃ b, decide (n1 ≤ 512) = b := ⟨_, rfl⟩
  obtain ⟨d5, hd5⟩ : ∃ b, decide (2 ≤ n2) = b := ⟨_, rfl⟩
  obtain ⟨d6, hd6⟩ : ∃ b, decide (n2 ≤ 64) = b := ⟨_, rfl⟩
  obtain ⟨e1, he1⟩ : ∃ b, decide (n3 ≤ 4096) = b := ⟨_, rfl⟩
  obtain ⟨e2, he2⟩ : ∃ b, decide (IntKind.i64.wrap (26 + n1) ≤ n3) = b := ⟨_, rfl⟩
  obtain ⟨e3, he3⟩ : ∃ b, decide (114 ≤ n3) = b := ⟨_, rfl⟩
  obtain ⟨f1, hf1⟩ : ∃ b, decide (2 ≤ n4) = b := ⟨_, rfl⟩
  obtain ⟨f2, hf2⟩ : ∃ b, decide (n4 ≤ 16) = b := ⟨_, rfl⟩
  obtain ⟨f3, hf3⟩ : ∃ b, decide (1 ≤ n5) = b := ⟨_, rfl⟩
  obtain ⟨f4, hf4⟩ : ∃ b, decide (n5 ≤ 16) = b := ⟨_, rfl⟩
  obtain ⟨c2, hc2⟩ : ∃ b, (d1 && d2) = b := ⟨_, rfl⟩
  obtain ⟨c3, hc3⟩ : ∃ b, (c2 && d3) = b := ⟨_, rfl⟩
  obtain ⟨c4, hc4⟩ : ∃ b, (c3 && d4) = b := ⟨_, rfl⟩
  obtain ⟨c5, hc5⟩ : ∃ b, (c4 && d5) = b := ⟨_, rfl⟩
  obtain ⟨c6, hc6⟩ : ∃ b, (c5 && d6) = b := ⟨_, rfl⟩
  obtain ⟨q2, hq2⟩ : ∃ b, (e1 && e2) = b := ⟨_, rfl⟩
  obtain ⟨q3, hq3⟩ : ∃ b, (q2 && e3) = b := ⟨_, rfl⟩
  obtain ⟨r2, hr2⟩ : ∃ b, (f1 && f2) = b := ⟨_, rfl⟩
  obtain ⟨r3, hr3⟩ : ∃ b, (r2 && f3) = b := ⟨_, rfl⟩
  obtain ⟨r4, hr4⟩ : ∃ b, (r3 && f4) = b := ⟨_, rfl⟩
  obtain ⟨s1, hs1⟩ : ∃ b, (c6 && q3) = b := ⟨_, rfl⟩
  obtain ⟨s2, hs2⟩ : ∃ b, (s1 && r4) = b := ⟨_, rfl⟩
  have hg : s2 = gd := by
    rw [← hgd, good, ← hs2, ← hs1, ← hr4, ← hr3, ← hr2, ← hq3, ← hq2, ← hc6, ← hc5, ← hc4, ← hc3, ← hc2, ← hd1, ← hd2, ← hd3, ← hd4, ← hd5, ← hd6, ← he1, ← he2, ← he3, ← hf1, ← hf2, ← hf3, ← hf4, Bool.eq_iff_iff]
    simp only [Bool.and_eq_true, decide_eq_true_eq, IntKind.wrap_i64]
    omega
  rw [← hg]
  have Hd1 := Lib.hid hd1
  have Hd2 := Lib.hid hd2
  have Hd3 := Lib.hid hd3
  have Hd4 := Lib.hid hd4
  have Hd5 := Lib.hid hd5
  have Hd6 := Lib.hid hd6
  have He1 := Lib.hid he1
  have He2 := Lib.hid he2
  have He3 := Lib.hid he3
  have Hf1 := Lib.hid hf1
  have Hf2 := Lib.hid hf2
  have Hf3 := Lib.hid hf3
  have Hf4 := Lib.hid hf4
  have Hc2 := Lib.hid hc2
  have Hc3 := Lib.hid hc3
  have Hc4 := Lib.hid hc4
  have Hc5 := Lib.hid hc5
  have Hc6 := Lib.hid hc6
  have Hq2 := Lib.hid hq2
  have Hq3 := Lib.hid hq3
  have Hr2 := Lib.hid hr2
  have Hr3 := Lib.hid hr3
  have Hr4 := Lib.hid hr4
  have Hs1 := Lib.hid hs1
  have Hs2 := Lib.hid hs2
  clear hg hgd hd1 hd2 hd3 hd4 hd5 hd6 he1 he2 he3 hf1 hf2 hf3 hf4 hc2 hc3 hc4 hc5 hc6 hq2 hq3 hr2 hr3 hr4 hs1 hs2
  clear gd
  go_enter Tryd.func38, Tryd.ntmps38
  go_wp2_with ((with_reducible refine guard_list ?_); first | (refine held_load 3 _ rfl ?_))
  change Held (wpList _ _ _ _ _ (w.alloc (.cells #[.int .i64 n0, .int .i64 n1, .int .i64 n2, .int .i64 n3, .int .i64 n4, .int .i64 n5] 23)))
  generalize w.alloc (.cells #[.int .i64 n0, .int .i64 n1, .int .i64 n2, .int .i64 n3, .int .i64 n4, .int .i64 n5] 23) = w0 at hS ⊢
  obtain ⟨M, hM⟩ : ∃ M, M = w0.heap.size := ⟨_, rfl⟩
  refine hide_held fun t0 HT => ?_
  have HS : t0.size = 75 := by rw [HT]; rfl
  have h1 : t0[1]? = some (.pointer (some ⟨w.heap.size, 0, none⟩)) := by rw [HT]; rfl
  refine wp_from_most 28 (fun i => [6, 7, 8, 9, 10, 11, 12, 13, 14, 15, 16, 17, 18, 19, 20, 21, 22, 23, 24, 25, 26, 27, 28, 29, 30, 31, 32, 33].getD i 0) (fun _ => none) (fun i => [(· = .pointer (some ⟨w.heap.size, 0, none⟩)), (· = .int .i64 n0), (· = .bool d1), (· = .bool d1), (fun x => d1 = true → (· = .pointer (some ⟨w.heap.size, 0, none⟩)) x), (fun x => d1 = true → (· = .int .i64 n0) x), (fun x => d1 = true → (· = .bool d2) x), (· = .bool c2), (· = .bool c2), (fun x => c2 = true → (· = .pointer (some ⟨w.heap.size, 1, none⟩)) x), (fun x => c2 = true → (· = .int .i64 n1) x), (fun x => c2 = true → (· = .bool d3) x), (· = .bool c3), (· = .bool c3), (fun x => c3 = true → (· = .pointer (some ⟨w.heap.size, 1, none⟩)) x), (fun x => c3 = true → (· = .int .i64 n1) x), (fun x => c3 = true → (· = .bool d4) x), (· = .bool c4), (· = .bool c4), (fun x => c4 = true → (· = .pointer (some ⟨w.heap.size, 2, none⟩)) x), (fun x => c4 = true → (· = .int .i64 n2) x), (fun x => c4 = true → (· = .bool d5) x), (· = .bool c5), (· = .bool c5), (fun x => c5 = true → (· = .pointer (some ⟨w.heap.size, 2, none⟩)) x), (fun x => c5 = true → (· = .int .i64 n2) x), (fun x => c5 = true → (· = .bool d6) x), (· = .bool c6)].getD i (fun _ => True)) (fun w' => Own w [(w.heap.size, 6, (· = .agg #[.int .i64 n0, .int .i64 n1, .int .i64 n2, .int .i64 n3, .int .i64 n4, .int .i64 n5]))] w' ∧ M ≤ w'.heap.size) M
    1 (by omega) (by kernel_rfl) ?_ (slots_apart (by kernel_rfl)) (slots_lie (by rw [HS]; kernel_rfl)) ⟨hS, Nat.le_of_eq hM⟩ (fun w' h => h.2) (fun w1 w2 h b => ⟨h.1.keep b, Nat.le_trans h.2 b.size⟩) ?_ ?_ ?_
  · intro j hj _
    have hc : j = 0 := by omega
    rcases hc with rfl
    · exact ⟨rfl, _, by rw [HT]; rfl, rfl⟩
  · clear hS
    intro i o h0i hi ho hA
    have hc : i = 1 ∨ i = 2 ∨ i = 3 ∨ i = 4 ∨ i = 5 ∨ i = 6 ∨ i = 7 ∨ i = 8 ∨ i = 9 ∨ i = 10 ∨ i = 11 ∨ i = 12 ∨ i = 13 ∨ i = 14 ∨ i = 15 ∨ i = 16 ∨ i = 17 ∨ i = 18 ∨ i = 19 ∨ i = 20 ∨ i = 21 ∨ i = 22 ∨ i = 23 ∨ i = 24 ∨ i = 25 ∨ i = 26 ∨ i = 27 := by omega
    rcases hc with rfl | rfl | rfl | rfl | rfl | rfl | rfl | rfl | rfl | rfl | rfl | rfl | rfl | rfl | rfl | rfl | rfl | rfl | rfl | rfl | rfl | rfl | rfl | rfl | rfl | rfl | rfl
    · obtain rfl := Option.some.inj ho
      refine ⟨rfl, fun a w' hS hold hin K hK => ?_⟩
      obtain ⟨y0, x0, rfl⟩ := hin 0 rfl (by omega) rfl
      refine if_always rfl ?_
      exact op_cell_own tInt _ w.heap.size 0 rfl rfl (eval_tmp x0) hS.1 0 _ _ rfl (.int .i64 n0) rfl hK
    · obtain rfl := Option.some.inj ho
      refine ⟨rfl, fun a w' hS hold hin K hK => ?_⟩
      obtain ⟨y1, x1, rfl⟩ := hin 1 rfl (by omega) rfl
      refine if_always rfl ?_
      exact op_bin (V := (· = .bool d1)) _ _ _ _ _ _ _ (.bool d1) rfl rfl (eval_tmp x1) rfl (fun w => cmp_geq Hd1.out w) rfl hK
    · obtain rfl := Option.some.inj ho
      refine ⟨rfl, fun a w' hS hold hin K hK => ?_⟩
      obtain ⟨y2, x2, rfl⟩ := hin 2 rfl (by omega) rfl
      refine if_always rfl ?_
      exact op_move (V := (· = .bool d1)) _ _ rfl rfl (eval_tmp x2) rfl hK
    · obtain rfl := Option.some.inj ho
      refine ⟨rfl, fun a w' hS hold hin K hK => ?_⟩
      obtain ⟨y3, x3, rfl⟩ := hin 3 rfl (by omega) rfl
      by_cases hc : d1 = true
      · replace hK := fun x w' hx hb => hK x w' (fun _ => hx) hb
        refine if_guard (d := 9) rfl rfl (x3.trans (by rw [hc])) ?_
        exact op_field 23 _ 0 _ (.pointer (some ⟨w.heap.size, 0, none⟩)) rfl rfl (eval_tmp ((hold 1 (slots_not (by kernel_rfl))).trans h1)) (fun w => by kernel_rfl) hK
      · exact if_guard_off (d := 9) rfl rfl x3 (by simpa using hc) (hK _ _ (fun h => absurd h hc) (Below.refl _ _))
    · obtain rfl := Option.some.inj ho
      refine ⟨rfl, fun a w' hS hold hin K hK => ?_⟩
      obtain ⟨y3, x3, rfl⟩ := hin 3 rfl (by omega) rfl
      by_cases hc : d1 = true
      · replace hK := fun x w' hx hb => hK x w' (fun _ => hx) hb
        obtain ⟨y4, x4, v4⟩ := hin 4 rfl (by omega) rfl
        replace v4 := v4 hc
        subst v4
        refine if_guard (d := 9) rfl rfl (x3.trans (by rw [hc])) ?_
        exact op_cell_own tInt _ w.heap.size 0 rfl rfl (eval_tmp x4) hS.1 0 _ _ rfl (.int .i64 n0) rfl hK
      · exact if_guard_off (d := 9) rfl rfl x3 (by simpa using hc) (hK _ _ (fun h => absurd h hc) (Below.refl _ _))
    · obtain rfl := Option.some.inj ho
      refine ⟨rfl, fun a w' hS hold hin K hK => ?_⟩
      obtain ⟨y3, x3, rfl⟩ := hin 3 rfl (by omega) rfl
      by_cases hc : d1 = true
      · replace hK := fun x w' hx hb => hK x w' (fun _ => hx) hb
        obtain ⟨y5, x5, v5⟩ := hin 5 rfl (by omega) rfl
        replace v5 := v5 hc
        subst v5
        refine if_guard (d := 9) rfl rfl (x3.trans (by rw [hc])) ?_
        exact op_bin (V := (· = .bool d2)) _ _ _ _ _ _ _ (.bool d2) rfl rfl (eval_tmp x5) rfl (fun w => cmp_leq Hd2.out w) rfl hK
      · exact if_guard_off (d := 9) rfl rfl x3 (by simpa using hc) (hK _ _ (fun h => absurd h hc) (Below.refl _ _))
    · obtain rfl := Option.some.inj ho
      refine ⟨rfl, fun a w' hS hold hin K hK => ?_⟩
      obtain ⟨y3, x3, rfl⟩ := hin 3 rfl (by omega) rfl
      refine if_always rfl ?_
      by_cases hc : d1 = true
      · obtain ⟨y6, x6, v6⟩ := hin 6 rfl (by omega) rfl
        replace v6 := v6 hc
        subst v6
        exact op_pick (V := (· = .bool c2)) _ _ _ true _ rfl rfl (eval_tmp (x3.trans (by rw [hc]))) (show (Act.eval a _) = _ from (eval_tmp x6)) (by rw [← Hc2.out, hc]; rfl) hK
      · have hc' : d1 = false := by simpa using hc
        exact op_pick (V := (· = .bool c2)) _ _ _ false _ rfl rfl (eval_tmp (x3.trans (by rw [hc']))) (show Act.eval a (.const (.bool false)) = .bool false from rfl) (by rw [← Hc2.out, hc']; rfl) hK
    · obtain rfl := Option.some.inj ho
      refine ⟨rfl, fun a w' hS hold hin K hK => ?_⟩
      obtain ⟨y7, x7, rfl⟩ := hin 7 rfl (by omega) rfl
      refine if_always rfl ?_
      exact op_move (V := (· = .bool c2)) _ _ rfl rfl (eval_tmp x7) rfl hK
    · obtain rfl := Option.some.inj ho
      refine ⟨rfl, fun a w' hS hold hin K hK => ?_⟩
      obtain ⟨y8, x8, rfl⟩ := hin 8 rfl (by omega) rfl
      by_cases hc : c2 = true
      · replace hK := fun x w' hx hb => hK x w' (fun _ => hx) hb
        refine if_guard (d := 14) rfl rfl (x8.trans (by rw [hc])) ?_
        exact op_field 23 _ 1 _ (.pointer (some ⟨w.heap.size, 1, none⟩)) rfl rfl (eval_tmp ((hold 1 (slots_not (by kernel_rfl))).trans h1)) (fun w => by kernel_rfl) hK
      · exact if_guard_off (d := 14) rfl rfl x8 (by simpa using hc) (hK _ _ (fun h => absurd h hc) (Below.refl _ _))
    · obtain rfl := Option.some.inj ho
      refine ⟨rfl, fun a w' hS hold hin K hK => ?_⟩
      obtain ⟨y8, x8, rfl⟩ := hin 8 rfl (by omega) rfl
      by_cases hc : c2 = true
      · replace hK := fun x w' hx hb => hK x w' (fun _ => hx) hb
        obtain ⟨y9, x9, v9⟩ := hin 9 rfl (by omega) rfl
        replace v9 := v9 hc
        subst v9
        refine if_guard (d := 14) rfl rfl (x8.trans (by rw [hc])) ?_
        exact op_cell_own tInt _ w.heap.size 1 rfl rfl (eval_tmp x9) hS.1 0 _ _ rfl (.int .i64 n1) rfl hK
      · exact if_guard_off (d := 14) rfl rfl x8 (by simpa using hc) (hK _ _ (fun h => absurd h hc) (Below.refl _ _))
    · obtain rfl := Option.some.inj ho
      refine ⟨rfl, fun a w' hS hold hin K hK => ?_⟩
      obtain ⟨y8, x8, rfl⟩ := hin 8 rfl (by omega) rfl
      by_cases hc : c2 = true
      · replace hK := fun x w' hx hb => hK x w' (fun _ => hx) hb
        obtain ⟨y10, x10, v10⟩ := hin 10 rfl (by omega) rfl
        replace v10 := v10 hc
        subst v10
        refine if_guard (d := 14) rfl rfl (x8.trans (by rw [hc])) ?_
        exact op_bin (V := (· = .bool d3)) _ _ _ _ _ _ _ (.bool d3) rfl rfl (eval_tmp x10) rfl (fun w => cmp_geq Hd3.out w) rfl hK
      · exact if_guard_off (d := 14) rfl rfl x8 (by simpa using hc) (hK _ _ (fun h => absurd h hc) (Below.refl _ _))
    · obtain rfl := Option.some.inj ho
      refine ⟨rfl, fun a w' hS hold hin K hK => ?_⟩
      obtain ⟨y8, x8, rfl⟩ := hin 8 rfl (by omega) rfl
      refine if_always rfl ?_
      by_cases hc : c2 = true
      · obtain ⟨y11, x11, v11⟩ := hin 11 rfl (by omega) rfl
        replace v11 := v11 hc
        subst v11
        exact op_pick (V := (· = .bool c3)) _ _ _ true _ rfl rfl (eval_tmp (x8.trans (by rw [hc]))) (show (Act.eval a _) = _ from (eval_tmp x11)) (by rw [← Hc3.out, hc]; rfl) hK
      · have hc' : c2 = false := by simpa using hc
        exact op_pick (V := (· = .bool c3)) _ _ _ false _ rfl rfl (eval_tmp (x8.trans (by rw [hc']))) (show Act.eval a (.const (.bool false)) = .bool false from rfl) (by rw [← Hc3.out, hc']; rfl) hK
    · obtain rfl := Option.some.inj ho
      refine ⟨rfl, fun a w' hS hold hin K hK => ?_⟩
      obtain ⟨y12, x12, rfl⟩ := hin 12 rfl (by omega) rfl
      refine if_always rfl ?_
      exact op_move (V := (· = .bool c3)) _ _ rfl rfl (eval_tmp x12) rfl hK
    · obtain rfl := Option.some.inj ho
      refine ⟨rfl, fun a w' hS hold hin K hK => ?_⟩
      obtain ⟨y13, x13, rfl⟩ := hin 13 rfl (by omega) rfl
      by_cases hc : c3 = true
      · replace hK := fun x w' hx hb => hK x w' (fun _ => hx) hb
        refine if_guard (d := 19) rfl rfl (x13.trans (by rw [hc])) ?_
        exact op_field 23 _ 1 _ (.pointer (some ⟨w.heap.size, 1, none⟩)) rfl rfl (eval_tmp ((hold 1 (slots_not (by kernel_rfl))).trans h1)) (fun w => by kernel_rfl) hK
      · exact if_guard_off (d := 19) rfl rfl x13 (by simpa using hc) (hK _ _ (fun h => absurd h hc) (Below.refl _ _))
    · obtain rfl := Option.some.inj ho
      refine ⟨rfl, fun a w' hS hold hin K hK => ?_⟩
      obtain ⟨y13, x13, rfl⟩ := hin 13 rfl (by omega) rfl
      by_cases hc : c3 = true
      · replace hK := fun x w' hx hb => hK x w' (fun _ => hx) hb
        obtain ⟨y14, x14, v14⟩ := hin 14 rfl (by omega) rfl
        replace v14 := v14 hc
        subst v14
        refine if_guard (d := 19) rfl rfl (x13.trans (by rw [hc])) ?_
        exact op_cell_own tInt _ w.heap.size 1 rfl rfl (eval_tmp x14) hS.1 0 _ _ rfl (.int .i64 n1) rfl hK
      · exact if_guard_off (d := 19) rfl rfl x13 (by simpa using hc) (hK _ _ (fun h => absurd h hc) (Below.refl _ _))
    · obtain rfl := Option.some.inj ho
      refine ⟨rfl, fun a w' hS hold hin K hK => ?_⟩
      obtain ⟨y13, x13, rfl⟩ := hin 13 rfl (by omega) rfl
      by_cases hc : c3 = true
      · replace hK := fun x w' hx hb => hK x w' (fun _ => hx) hb
        obtain ⟨y15, x15, v15⟩ := hin 15 rfl (by omega) rfl
        replace v15 := v15 hc
        subst v15
        refine if_guard (d := 19) rfl rfl (x13.trans (by rw [hc])) ?_
        exact op_bin (V := (· = .bool d4)) _ _ _ _ _ _ _ (.bool d4) rfl rfl (eval_tmp x15) rfl (fun w => cmp_leq Hd4.out w) rfl hK
      · exact if_guard_off (d := 19) rfl rfl x13 (by simpa using hc) (hK _ _ (fun h => absurd h hc) (Below.refl _ _))
    · obtain rfl := Option.some.inj ho
      refine ⟨rfl, fun a w' hS hold hin K hK => ?_⟩
      obtain ⟨y13, x13, rfl⟩ := hin 13 rfl (by omega) rfl
      refine if_always rfl ?_
      by_cases hc : c3 = true
      · obtain ⟨y16, x16, v16⟩ := hin 16 rfl (by omega) rfl
        replace v16 := v16 hc
        subst v16
        exact op_pick (V := (· = .bool c4)) _ _ _ true _ rfl rfl (eval_tmp (x13.trans (by rw [hc]))) (show (Act.eval a _) = _ from (eval_tmp x16)) (by rw [← Hc4.out, hc]; rfl) hK
      · have hc' : c3 = false := by simpa using hc
        exact op_pick (V := (· = .bool c4)) _ _ _ false _ rfl rfl (eval_tmp (x13.trans (by rw [hc']))) (show Act.eval a (.const (.bool false)) = .bool false from rfl) (by rw [← Hc4.out, hc']; rfl) hK
    · obtain rfl := Option.some.inj ho
      refine ⟨rfl, fun a w' hS hold hin K hK => ?_⟩
      obtain ⟨y17, x17, rfl⟩ := hin 17 rfl (by omega) rfl
      refine if_always rfl ?_
      exact op_move (V := (· = .bool c4)) _ _ rfl rfl (eval_tmp x17) rfl hK
    · obtain rfl := Option.some.inj ho
      refine ⟨rfl, fun a w' hS hold hin K hK => ?_⟩
      obtain ⟨y18, x18, rfl⟩ := hin 18 rfl (by omega) rfl
      by_cases hc : c4 = true
      · replace hK := fun x w' hx hb => hK x w' (fun _ => hx) hb
        refine if_guard (d := 24) rfl rfl (x18.trans (by rw [hc])) ?_
        exact op_field 23 _ 2 _ (.pointer (some ⟨w.heap.size, 2, none⟩)) rfl rfl (eval_tmp ((hold 1 (slots_not (by kernel_rfl))).trans h1)) (fun w => by kernel_rfl) hK
      · exact if_guard_off (d := 24) rfl rfl x18 (by simpa using hc) (hK _ _ (fun h => absurd h hc) (Below.refl _ _))
    · obtain rfl := Option.some.inj ho
      refine ⟨rfl, fun a w' hS hold hin K hK => ?_⟩
      obtain ⟨y18, x18, rfl⟩ := hin 18 rfl (by omega) rfl
      by_cases hc : c4 = true
      · replace hK := fun x w' hx hb => hK x w' (fun _ => hx) hb
        obtain ⟨y19, x19, v19⟩ := hin 19 rfl (by omega) rfl
        replace v19 := v19 hc
        subst v19
        refine if_guard (d := 24) rfl rfl (x18.trans (by rw [hc])) ?_
        exact op_cell_own tInt _ w.heap.size 2 rfl rfl (eval_tmp x19) hS.1 0 _ _ rfl (.int .i64 n2) rfl hK
      · exact if_guard_off (d := 24) rfl rfl x18 (by simpa using hc) (hK _ _ (fun h => absurd h hc) (Below.refl _ _))
    · obtain rfl := Option.some.inj ho
      refine ⟨rfl, fun a w' hS hold hin K hK => ?_⟩
      obtain ⟨y18, x18, rfl⟩ := hin 18 rfl (by omega) rfl
      by_cases hc : c4 = true
      · replace hK := fun x w' hx hb => hK x w' (fun _ => hx) hb
        obtain ⟨y20, x20, v20⟩ := hin 20 rfl (by omega) rfl
        replace v20 := v20 hc
        subst v20
        refine if_guard (d := 24) rfl rfl (x18.trans (by rw [hc])) ?_
        exact op_bin (V := (· = .bool d5)) _ _ _ _ _ _ _ (.bool d5) rfl rfl (eval_tmp x20) rfl (fun w => cmp_geq Hd5.out w) rfl hK
      · exact if_guard_off (d := 24) rfl rfl x18 (by simpa using hc) (hK _ _ (fun h => absurd h hc) (Below.refl _ _))
    · obtain rfl := Option.some.inj ho
      refine ⟨rfl, fun a w' hS hold hin K hK => ?_⟩
      obtain ⟨y18, x18, rfl⟩ := hin 18 rfl (by omega) rfl
      refine if_always rfl ?_
      by_cases hc : c4 = true
      · obtain ⟨y21, x21, v21⟩ := hin 21 rfl (by omega) rfl
        replace v21 := v21 hc
        subst v21
        exact op_pick (V := (· = .bool c5)) _ _ _ true _ rfl rfl (eval_tmp (x18.trans (by rw [hc]))) (show (Act.eval a _) = _ from (eval_tmp x21)) (by rw [← Hc5.out, hc]; rfl) hK
      · have hc' : c4 = false := by simpa using hc
        exact op_pick (V := (· = .bool c5)) _ _ _ false _ rfl rfl (eval_tmp (x18.trans (by rw [hc']))) (show Act.eval a (.const (.bool false)) = .bool false from rfl) (by rw [← Hc5.out, hc']; rfl) hK
    · obtain rfl := Option.some.inj ho
      refine ⟨rfl, fun a w' hS hold hin K hK => ?_⟩
      obtain ⟨y22, x22, rfl⟩ := hin 22 rfl (by omega) rfl
      refine if_always rfl ?_
      exact op_move (V := (· = .bool c5)) _ _ rfl rfl (eval_tmp x22) rfl hK
    · obtain rfl := Option.some.inj ho
      refine ⟨rfl, fun a w' hS hold hin K hK => ?_⟩
      obtain ⟨y23, x23, rfl⟩ := hin 23 rfl (by omega) rfl
      by_cases hc : c5 = true
      · replace hK := fun x w' hx hb => hK x w' (fun _ => hx) hb
        refine if_guard (d := 29) rfl rfl (x23.trans (by rw [hc])) ?_
        exact op_field 23 _ 2 _ (.pointer (some ⟨w.heap.size, 2, none⟩)) rfl rfl (eval_tmp ((hold 1 (slots_not (by kernel_rfl))).trans h1)) (fun w => by kernel_rfl) hK
      · exact if_guard_off (d := 29) rfl rfl x23 (by simpa using hc) (hK _ _ (fun h => absurd h hc) (Below.refl _ _))
    · obtain rfl := Option.some.inj ho
      refine ⟨rfl, fun a w' hS hold hin K hK => ?_⟩
      obtain ⟨y23, x23, rfl⟩ := hin 23 rfl (by omega) rfl
      by_cases hc : c5 = true
      · replace hK := fun x w' hx hb => hK x w' (fun _ => hx) hb
        obtain ⟨y24, x24, v24⟩ := hin 24 rfl (by omega) rfl
        replace v24 := v24 hc
        subst v24
        refine if_guard (d := 29) rfl rfl (x23.trans (by rw [hc])) ?_
        exact op_cell_own tInt _ w.heap.size 2 rfl rfl (eval_tmp x24) hS.1 0 _ _ rfl (.int .i64 n2) rfl hK
      · exact if_guard_off (d := 29) rfl rfl x23 (by simpa using hc) (hK _ _ (fun h => absurd h hc) (Below.refl _ _))
    · obtain rfl := Option.some.inj ho
      refine ⟨rfl, fun a w' hS hold hin K hK => ?_⟩
      obtain ⟨y23, x23, rfl⟩ := hin 23 rfl (by omega) rfl
      by_cases hc : c5 = true
      · replace hK := fun x w' hx hb => hK x w' (fun _ => hx) hb
        obtain ⟨y25, x25, v25⟩ := hin 25 rfl (by omega) rfl
        replace v25 := v25 hc
        subst v25
        refine if_guard (d := 29) rfl rfl (x23.trans (by rw [hc])) ?_
        exact op_bin (V := (· = .bool d6)) _ _ _ _ _ _ _ (.bool d6) rfl rfl (eval_tmp x25) rfl (fun w => cmp_leq Hd6.out w) rfl hK
      · exact if_guard_off (d := 29) rfl rfl x23 (by simpa using hc) (hK _ _ (fun h => absurd h hc) (Below.refl _ _))
    · obtain rfl := Option.some.inj ho
      refine ⟨rfl, fun a w' hS hold hin K hK => ?_⟩
      obtain ⟨y23, x23, rfl⟩ := hin 23 rfl (by omega) rfl
      refine if_always rfl ?_
      by_cases hc : c5 = true
      · obtain ⟨y26, x26, v26⟩ := hin 26 rfl (by omega) rfl
        replace v26 := v26 hc
        subst v26
        exact op_pick (V := (· = .bool c6)) _ _ _ true _ rfl rfl (eval_tmp (x23.trans (by rw [hc]))) (show (Act.eval a _) = _ from (eval_tmp x26)) (by rw [← Hc6.out, hc]; rfl) hK
      · have hc' : c5 = false := by simpa using hc
        exact op_pick (V := (· = .bool c6)) _ _ _ false _ rfl rfl (eval_tmp (x23.trans (by rw [hc']))) (show Act.eval a (.const (.bool false)) = .bool false from rfl) (by rw [← Hc6.out, hc']; rfl) hK
  · intro i o sz h0i hi ho hA; cases hA
  clear hS
  intro t1 V1 hs hold hout hall hne hS
  replace HS := hs.trans HS
  replace hS := hS.1
  obtain ⟨x33, q33, v33⟩ : ∃ x, t1[33]? = some x ∧ ((· = .bool c6)) x := hout 27 (by omega) rfl
  replace q33 : t1[33]? = some (.bool c6) := q33.trans (congrArg some v33)
  replace h1 := (hold 1 (slots_not (by kernel_rfl))).trans h1
  clear hold hout hs hall hne
  simp only [List.drop_succ_cons, List.drop_zero]
  refine tlx_assign (.tmp 33) rfl rfl 3 rfl (by rw [HS]; decide) (.bool c6) (eval_tmp q33) fun t1 ex0 hz hq he => ?_
  replace h1 := (he 1 (by decide)).trans h1
  replace q33 := (he 33 (by decide)).trans q33
  replace HS := hz.trans HS
  clear hz he ex0
  have h3 := hq
  clear hq
  refine wpList_nil ?_
  clear HT
  obtain ⟨f, e0, hf⟩ := wash HS
  have f1 := hf 1 _ h1
  have f3 := hf 3 _ h3
  clear hf
  rw [e0.trans (show _ = #[f 0, f 1, f 2, f 3, f 4, f 5, f 6, f 7, f 8, f 9, f 10, f 11, f 12, f 13, f 14, f 15, f 16, f 17, f 18, f 19, f 20, f 21, f 22, f 23, f 24, f 25, f 26, f 27, f 28, f 29, f 30, f 31, f 32, f 33, f 34, f 35, f 36, f 37, f 38, f 39, f 40, f 41, f 42, f 43, f 44, f 45, f 46, f 47, f 48, f 49, f 50, f 51, f 52, f 53, f 54, f 55, f 56, f 57, f 58, f 59, f 60, f 61, f 62, f 63, f 64, f 65, f 66, f 67, f 68, f 69, f 70, f 71, f 72, f 73, f 74] from by kernel_rfl), f1, f3]
  clear f1 f3
  clear e0
  try dsimp only
  clear h1 h3 q33 v33 hM HS t1 t0 M
  go_wp2_with ((with_reducible refine guard_list ?_); first | (refine held_load 3 _ rfl ?_))
  obtain ⟨M, hM⟩ : ∃ M, M = V1.heap.size := ⟨_, rfl⟩
  refine hide_held fun t0 HT => ?_
  have HS : t0.size = 75 := by rw [HT]; rfl
  have h1 : t0[1]? = some (.pointer (some ⟨w.heap.size, 0, none⟩)) := by rw [HT]; rfl
  have h3 : t0[3]? = some (.bool c6) := by rw [HT]; rfl
  refine wp_from_most 16 (fun i => [34, 35, 36, 37, 38, 39, 40, 41, 42, 43, 44, 45, 46, 47, 48, 49].getD i 0) (fun _ => none) (fun i => [(· = .pointer (some ⟨w.heap.size, 3, none⟩)), (· = .int .i64 n3), (· = .bool e1), (· = .bool e1), (fun x => e1 = true → (· = .pointer (some ⟨w.heap.size, 3, none⟩)) x), (fun x => e1 = true → (· = .int .i64 n3) x), (fun x => e1 = true → (· = .pointer (some ⟨w.heap.size, 1, none⟩)) x), (fun x => e1 = true → (· = .int .i64 n1) x), (fun x => e1 = true → (· = .int .i64 (IntKind.i64.wrap (26 + n1))) x), (fun x => e1 = true → (· = .bool e2) x), (· = .bool q2), (· = .bool q2), (fun x => q2 = true → (· = .pointer (some ⟨w.heap.size, 3, none⟩)) x), (fun x => q2 = true → (· = .int .i64 n3) x), (fun x => q2 = true → (· = .bool e3) x), (· = .bool q3)].getD i (fun _ => True)) (fun w' => Own w [(w.heap.size, 6, (· = .agg #[.int .i64 n0, .int .i64 n1, .int .i64 n2, .int .i64 n3, .int .i64 n4, .int .i64 n5]))] w' ∧ M ≤ w'.heap.size) M
    1 (by omega) (by kernel_rfl) ?_ (slots_apart (by kernel_rfl)) (slots_lie (by rw [HS]; kernel_rfl)) ⟨hS, Nat.le_of_eq hM⟩ (fun w' h => h.2) (fun w1 w2 h b => ⟨h.1.keep b, Nat.le_trans h.2 b.size⟩) ?_ ?_ ?_
  · intro j hj _
    have hc : j = 0 := by omega
    rcases hc with rfl
    · exact ⟨rfl, _, by rw [HT]; rfl, rfl⟩
  · clear hS
    intro i o h0i hi ho hA
    have hc : i = 1 ∨ i = 2 ∨ i = 3 ∨ i = 4 ∨ i = 5 ∨ i = 6 ∨ i = 7 ∨ i = 8 ∨ i = 9 ∨ i = 10 ∨ i = 11 ∨ i = 12 ∨ i = 13 ∨ i = 14 ∨ i = 15 := by omega
    rcases hc with rfl | rfl | rfl | rfl | rfl | rfl | rfl | rfl | rfl | rfl | rfl | rfl | rfl | rfl | rfl
    · obtain rfl := Option.some.inj ho
      refine ⟨rfl, fun a w' hS hold hin K hK => ?_⟩
      obtain ⟨y0, x0, rfl⟩ := hin 0 rfl (by omega) rfl
      refine if_always rfl ?_
      exact op_cell_own tInt _ w.heap.size 3 rfl rfl (eval_tmp x0) hS.1 0 _ _ rfl (.int .i64 n3) rfl hK
    · obtain rfl := Option.some.inj ho
      refine ⟨rfl, fun a w' hS hold hin K hK => ?_⟩
      obtain ⟨y1, x1, rfl⟩ := hin 1 rfl (by omega) rfl
      refine if_always rfl ?_
      exact op_bin (V := (· = .bool e1)) _ _ _ _ _ _ _ (.bool e1) rfl rfl (eval_tmp x1) rfl (fun w => cmp_leq He1.out w) rfl hK
    · obtain rfl := Option.some.inj ho
      refine ⟨rfl, fun a w' hS hold hin K hK => ?_⟩
      obtain ⟨y2, x2, rfl⟩ := hin 2 rfl (by omega) rfl
      refine if_always rfl ?_
      exact op_move (V := (· = .bool e1)) _ _ rfl rfl (eval_tmp x2) rfl hK
    · obtain rfl := Option.some.inj ho
      refine ⟨rfl, fun a w' hS hold hin K hK => ?_⟩
      obtain ⟨y3, x3, rfl⟩ := hin 3 rfl (by omega) rfl
      by_cases hc : e1 = true
      · replace hK := fun x w' hx hb => hK x w' (fun _ => hx) hb
        refine if_guard (d := 37) rfl rfl (x3.trans (by rw [hc])) ?_
        exact op_field 23 _ 3 _ (.pointer (some ⟨w.heap.size, 3, none⟩)) rfl rfl (eval_tmp ((hold 1 (slots_not (by kernel_rfl))).trans h1)) (fun w => by kernel_rfl) hK
      · exact if_guard_off (d := 37) rfl rfl x3 (by simpa using hc) (hK _ _ (fun h => absurd h hc) (Below.refl _ _))
    · obtain rfl := Option.some.inj ho
      refine ⟨rfl, fun a w' hS hold hin K hK => ?_⟩
      obtain ⟨y3, x3, rfl⟩ := hin 3 rfl (by omega) rfl
      by_cases hc : e1 = true
      · replace hK := fun x w' hx hb => hK x w' (fun _ => hx) hb
        obtain ⟨y4, x4, v4⟩ := hin 4 rfl (by omega) rfl
        replace v4 := v4 hc
        subst v4
        refine if_guard (d := 37) rfl rfl (x3.trans (by rw [hc])) ?_
        exact op_cell_own tInt _ w.heap.size 3 rfl rfl (eval_tmp x4) hS.1 0 _ _ rfl (.int .i64 n3) rfl hK
      · exact if_guard_off (d := 37) rfl rfl x3 (by simpa using hc) (hK _ _ (fun h => absurd h hc) (Below.refl _ _))
    · obtain rfl := Option.some.inj ho
      refine ⟨rfl, fun a w' hS hold hin K hK => ?_⟩
      obtain ⟨y3, x3, rfl⟩ := hin 3 rfl (by omega) rfl
      by_cases hc : e1 = true
      · replace hK := fun x w' hx hb => hK x w' (fun _ => hx) hb
        refine if_guard (d := 37) rfl rfl (x3.trans (by rw [hc])) ?_
        exact op_field 23 _ 1 _ (.pointer (some ⟨w.heap.size, 1, none⟩)) rfl rfl (eval_tmp ((hold 1 (slots_not (by kernel_rfl))).trans h1)) (fun w => by kernel_rfl) hK
      · exact if_guard_off (d := 37) rfl rfl x3 (by simpa using hc) (hK _ _ (fun h => absurd h hc) (Below.refl _ _))
    · obtain rfl := Option.some.inj ho
      refine ⟨rfl, fun a w' hS hold hin K hK => ?_⟩
      obtain ⟨y3, x3, rfl⟩ := hin 3 rfl (by omega) rfl
      by_cases hc : e1 = true
      · replace hK := fun x w' hx hb => hK x w' (fun _ => hx) hb
        obtain ⟨y6, x6, v6⟩ := hin 6 rfl (by omega) rfl
        replace v6 := v6 hc
        subst v6
        refine if_guard (d := 37) rfl rfl (x3.trans (by rw [hc])) ?_
        exact op_cell_own tInt _ w.heap.size 1 rfl rfl (eval_tmp x6) hS.1 0 _ _ rfl (.int .i64 n1) rfl hK
      · exact if_guard_off (d := 37) rfl rfl x3 (by simpa using hc) (hK _ _ (fun h => absurd h hc) (Below.refl _ _))
    · obtain rfl := Option.some.inj ho
      refine ⟨rfl, fun a w' hS hold hin K hK => ?_⟩
      obtain ⟨y3, x3, rfl⟩ := hin 3 rfl (by omega) rfl
      by_cases hc : e1 = true
      · replace hK := fun x w' hx hb => hK x w' (fun _ => hx) hb
        obtain ⟨y7, x7, v7⟩ := hin 7 rfl (by omega) rfl
        replace v7 := v7 hc
        subst v7
        refine if_guard (d := 37) rfl rfl (x3.trans (by rw [hc])) ?_
        exact op_bin (V := (· = .int .i64 (IntKind.i64.wrap (26 + n1)))) _ _ _ _ _ _ _ (.int .i64 (IntKind.i64.wrap (26 + n1))) rfl rfl rfl (eval_tmp x7) (fun w => rfl) rfl hK
      · exact if_guard_off (d := 37) rfl rfl x3 (by simpa using hc) (hK _ _ (fun h => absurd h hc) (Below.refl _ _))
    · obtain rfl := Option.some.inj ho
      refine ⟨rfl, fun a w' hS hold hin K hK => ?_⟩
      obtain ⟨y3, x3, rfl⟩ := hin 3 rfl (by omega) rfl
      by_cases hc : e1 = true
      · replace hK := fun x w' hx hb => hK x w' (fun _ => hx) hb
        obtain ⟨y5, x5, v5⟩ := hin 5 rfl (by omega) rfl
        replace v5 := v5 hc
        subst v5
        obtain ⟨y8, x8, v8⟩ := hin 8 rfl (by omega) rfl
        replace v8 := v8 hc
        subst v8
        refine if_guard (d := 37) rfl rfl (x3.trans (by rw [hc])) ?_
        exact op_bin (V := (· = .bool e2)) _ _ _ _ _ _ _ (.bool e2) rfl rfl (eval_tmp x5) (eval_tmp x8) (fun w => cmp_geq He2.out w) rfl hK
      · exact if_guard_off (d := 37) rfl rfl x3 (by simpa using hc) (hK _ _ (fun h => absurd h hc) (Below.refl _ _))
    · obtain rfl := Option.some.inj ho
      refine ⟨rfl, fun a w' hS hold hin K hK => ?_⟩
      obtain ⟨y3, x3, rfl⟩ := hin 3 rfl (by omega) rfl
      refine if_always rfl ?_
      by_cases hc : e1 = true
      · obtain ⟨y9, x9, v9⟩ := hin 9 rfl (by omega) rfl
        replace v9 := v9 hc
        subst v9
        exact op_pick (V := (· = .bool q2)) _ _ _ true _ rfl rfl (eval_tmp (x3.trans (by rw [hc]))) (show (Act.eval a _) = _ from (eval_tmp x9)) (by rw [← Hq2.out, hc]; rfl) hK
      · have hc' : e1 = false := by simpa using hc
        exact op_pick (V := (· = .bool q2)) _ _ _ false _ rfl rfl (eval_tmp (x3.trans (by rw [hc']))) (show Act.eval a (.const (.bool false)) = .bool false from rfl) (by rw [← Hq2.out, hc']; rfl) hK
    · obtain rfl := Option.some.inj ho
      refine ⟨rfl, fun a w' hS hold hin K hK => ?_⟩
      obtain ⟨y10, x10, rfl⟩ := hin 10 rfl (by omega) rfl
      refine if_always rfl ?_
      exact op_move (V := (· = .bool q2)) _ _ rfl rfl (eval_tmp x10) rfl hK
    · obtain rfl := Option.some.inj ho
      refine ⟨rfl, fun a w' hS hold hin K hK => ?_⟩
      obtain ⟨y11, x11, rfl⟩ := hin 11 rfl (by omega) rfl
      by_cases hc : q2 = true
      · replace hK := fun x w' hx hb => hK x w' (fun _ => hx) hb
        refine if_guard (d := 45) rfl rfl (x11.trans (by rw [hc])) ?_
        exact op_field 23 _ 3 _ (.pointer (some ⟨w.heap.size, 3, none⟩)) rfl rfl (eval_tmp ((hold 1 (slots_not (by kernel_rfl))).trans h1)) (fun w => by kernel_rfl) hK
      · exact if_guard_off (d := 45) rfl rfl x11 (by simpa using hc) (hK _ _ (fun h => absurd h hc) (Below.refl _ _))
    · obtain rfl := Option.some.inj ho
      refine ⟨rfl, fun a w' hS hold hin K hK => ?_⟩
      obtain ⟨y11, x11, rfl⟩ := hin 11 rfl (by omega) rfl
      by_cases hc : q2 = true
      · replace hK := fun x w' hx hb => hK x w' (fun _ => hx) hb
        obtain ⟨y12, x12, v12⟩ := hin 12 rfl (by omega) rfl
        replace v12 := v12 hc
        subst v12
        refine if_guard (d := 45) rfl rfl (x11.trans (by rw [hc])) ?_
        exact op_cell_own tInt _ w.heap.size 3 rfl rfl (eval_tmp x12) hS.1 0 _ _ rfl (.int .i64 n3) rfl hK
      · exact if_guard_off (d := 45) rfl rfl x11 (by simpa using hc) (hK _ _ (fun h => absurd h hc) (Below.refl _ _))
    · obtain rfl := Option.some.inj ho
      refine ⟨rfl, fun a w' hS hold hin K hK => ?_⟩
      obtain ⟨y11, x11, rfl⟩ := hin 11 rfl (by omega) rfl
      by_cases hc : q2 = true
      · replace hK := fun x w' hx hb => hK x w' (fun _ => hx) hb
        obtain ⟨y13, x13, v13⟩ := hin 13 rfl (by omega) rfl
        replace v13 := v13 hc
        subst v13
        refine if_guard (d := 45) rfl rfl (x11.trans (by rw [hc])) ?_
        exact op_bin (V := (· = .bool e3)) _ _ _ _ _ _ _ (.bool e3) rfl rfl (eval_tmp x13) rfl (fun w => cmp_geq He3.out w) rfl hK
      · exact if_guard_off (d := 45) rfl rfl x11 (by simpa using hc) (hK _ _ (fun h => absurd h hc) (Below.refl _ _))
    · obtain rfl := Option.some.inj ho
      refine ⟨rfl, fun a w' hS hold hin K hK => ?_⟩
      obtain ⟨y11, x11, rfl⟩ := hin 11 rfl (by omega) rfl
      refine if_always rfl ?_
      by_cases hc : q2 = true
      · obtain ⟨y14, x14, v14⟩ := hin 14 rfl (by omega) rfl
        replace v14 := v14 hc
        subst v14
        exact op_pick (V := (· = .bool q3)) _ _ _ true _ rfl rfl (eval_tmp (x11.trans (by rw [hc]))) (show (Act.eval a _) = _ from (eval_tmp x14)) (by rw [← Hq3.out, hc]; rfl) hK
      · have hc' : q2 = false := by simpa using hc
        exact op_pick (V := (· = .bool q3)) _ _ _ false _ rfl rfl (eval_tmp (x11.trans (by rw [hc']))) (show Act.eval a (.const (.bool false)) = .bool false from rfl) (by rw [← Hq3.out, hc']; rfl) hK
  · intro i o sz h0i hi ho hA; cases hA
  clear hS
  intro t1 V2 hs hold hout hall hne hS
  replace HS := hs.trans HS
  replace hS := hS.1
  obtain ⟨x49, q49, v49⟩ : ∃ x, t1[49]? = some x ∧ ((· = .bool q3)) x := hout 15 (by omega) rfl
  replace q49 : t1[49]? = some (.bool q3) := q49.trans (congrArg some v49)
  replace h1 := (hold 1 (slots_not (by kernel_rfl))).trans h1
  replace h3 := (hold 3 (slots_not (by kernel_rfl))).trans h3
  clear hold hout hs hall hne
  simp only [List.drop_succ_cons, List.drop_zero]
  refine tlx_assign (.tmp 49) rfl rfl 4 rfl (by rw [HS]; decide) (.bool q3) (eval_tmp q49) fun t1 ex0 hz hq he => ?_
  replace h1 := (he 1 (by decide)).trans h1
  replace h3 := (he 3 (by decide)).trans h3
  replace q49 := (he 49 (by decide)).trans q49
  replace HS := hz.trans HS
  clear hz he ex0
  have h4 := hq
  clear hq
  refine wpList_nil ?_
  clear HT
  obtain ⟨f, e0, hf⟩ := wash HS
  have f1 := hf 1 _ h1
  have f3 := hf 3 _ h3
  have f4 := hf 4 _ h4
  clear hf
  rw [e0.trans (show _ = #[f 0, f 1, f 2, f 3, f 4, f 5, f 6, f 7, f 8, f 9, f 10, f 11, f 12, f 13, f 14, f 15, f 16, f 17, f 18, f 19, f 20, f 21, f 22, f 23, f 24, f 25, f 26, f 27, f 28, f 29, f 30, f 31, f 32, f 33, f 34, f 35, f 36, f 37, f 38, f 39, f 40, f 41, f 42, f 43, f 44, f 45, f 46, f 47, f 48, f 49, f 50, f 51, f 52, f 53, f 54, f 55, f 56, f 57, f 58, f 59, f 60, f 61, f 62, f 63, f 64, f 65, f 66, f 67, f 68, f 69, f 70, f 71, f 72, f 73, f 74] from by kernel_rfl), f1, f3, f4]
  clear f1 f3 f4
  clear e0
  try dsimp only
  clear h1 h3 h4 q49 v49 hM HS t1 t0 M
  go_wp2_with ((with_reducible refine guard_list ?_); first | (refine held_load 3 _ rfl ?_))
  obtain ⟨M, hM⟩ : ∃ M, M = V2.heap.size := ⟨_, rfl⟩
  refine hide_held fun t0 HT => ?_
  have HS : t0.size = 75 := by rw [HT]; rfl
  have h1 : t0[1]? = some (.pointer (some ⟨w.heap.size, 0, none⟩)) := by rw [HT]; rfl
  have h3 : t0[3]? = some (.bool c6) := by rw [HT]; rfl
  have h4 : t0[4]? = some (.bool q3) := by rw [HT]; rfl
  refine wp_from_most 18 (fun i => [50, 51, 52, 53, 54, 55, 56, 57, 58, 59, 60, 61, 62, 63, 64, 65, 66, 67].getD i 0) (fun _ => none) (fun i => [(· = .pointer (some ⟨w.heap.size, 4, none⟩)), (· = .int .i64 n4), (· = .bool f1), (· = .bool f1), (fun x => f1 = true → (· = .pointer (some ⟨w.heap.size, 4, none⟩)) x), (fun x => f1 = true → (· = .int .i64 n4) x), (fun x => f1 = true → (· = .bool f2) x), (· = .bool r2), (· = .bool r2), (fun x => r2 = true → (· = .pointer (some ⟨w.heap.size, 5, none⟩)) x), (fun x => r2 = true → (· = .int .i64 n5) x), (fun x => r2 = true → (· = .bool f3) x), (· = .bool r3), (· = .bool r3), (fun x => r3 = true → (· = .pointer (some ⟨w.heap.size, 5, none⟩)) x), (fun x => r3 = true → (· = .int .i64 n5) x), (fun x => r3 = true → (· = .bool f4) x), (· = .bool r4)].getD i (fun _ => True)) (fun w' => Own w [(w.heap.size, 6, (· = .agg #[.int .i64 n0, .int .i64 n1, .int .i64 n2, .int .i64 n3, .int .i64 n4, .int .i64 n5]))] w' ∧ M ≤ w'.heap.size) M
    1 (by omega) (by kernel_rfl) ?_ (slots_apart (by kernel_rfl)) (slots_lie (by rw [HS]; kernel_rfl)) ⟨hS, Nat.le_of_eq hM⟩ (fun w' h => h.2) (fun w1 w2 h b => ⟨h.1.keep b, Nat.le_trans h.2 b.size⟩) ?_ ?_ ?_
  · intro j hj _
    have hc : j = 0 := by omega
    rcases hc with rfl
    · exact ⟨rfl, _, by rw [HT]; rfl, rfl⟩
  · clear hS
    intro i o h0i hi ho hA
    have hc : i = 1 ∨ i = 2 ∨ i = 3 ∨ i = 4 ∨ i = 5 ∨ i = 6 ∨ i = 7 ∨ i = 8 ∨ i = 9 ∨ i = 10 ∨ i = 11 ∨ i = 12 ∨ i = 13 ∨ i = 14 ∨ i = 15 ∨ i = 16 ∨ i = 17 := by omega
    rcases hc with rfl | rfl | rfl | rfl | rfl | rfl | rfl | rfl | rfl | rfl | rfl | rfl | rfl | rfl | rfl | rfl | rfl
    · obtain rfl := Option.some.inj ho
      refine ⟨rfl, fun a w' hS hold hin K hK => ?_⟩
      obtain ⟨y0, x0, rfl⟩ := hin 0 rfl (by omega) rfl
      refine if_always rfl ?_
      exact op_cell_own tInt _ w.heap.size 4 rfl rfl (eval_tmp x0) hS.1 0 _ _ rfl (.int .i64 n4) rfl hK
    · obtain rfl := Option.some.inj ho
      refine ⟨rfl, fun a w' hS hold hin K hK => ?_⟩
      obtain ⟨y1, x1, rfl⟩ := hin 1 rfl (by omega) rfl
      refine if_always rfl ?_
      exact op_bin (V := (· = .bool f1)) _ _ _ _ _ _ _ (.bool f1) rfl rfl (eval_tmp x1) rfl (fun w => cmp_geq Hf1.out w) rfl hK
    · obtain rfl := Option.some.inj ho
      refine ⟨rfl, fun a w' hS hold hin K hK => ?_⟩
      obtain ⟨y2, x2, rfl⟩ := hin 2 rfl (by omega) rfl
      refine if_always rfl ?_
      exact op_move (V := (· = .bool f1)) _ _ rfl rfl (eval_tmp x2) rfl hK
    · obtain rfl := Option.some.inj ho
      refine ⟨rfl, fun a w' hS hold hin K hK => ?_⟩
      obtain ⟨y3, x3, rfl⟩ := hin 3 rfl (by omega) rfl
      by_cases hc : f1 = true
      · replace hK := fun x w' hx hb => hK x w' (fun _ => hx) hb
        refine if_guard (d := 53) rfl rfl (x3.trans (by rw [hc])) ?_
        exact op_field 23 _ 4 _ (.pointer (some ⟨w.heap.size, 4, none⟩)) rfl rfl (eval_tmp ((hold 1 (slots_not (by kernel_rfl))).trans h1)) (fun w => by kernel_rfl) hK
      · exact if_guard_off (d := 53) rfl rfl x3 (by simpa using hc) (hK _ _ (fun h => absurd h hc) (Below.refl _ _))
    · obtain rfl := Option.some.inj ho
      refine ⟨rfl, fun a w' hS hold hin K hK => ?_⟩
      obtain ⟨y3, x3, rfl⟩ := hin 3 rfl (by omega) rfl
      by_cases hc : f1 = true
      · replace hK := fun x w' hx hb => hK x w' (fun _ => hx) hb
        obtain ⟨y4, x4, v4⟩ := hin 4 rfl (by omega) rfl
        replace v4 := v4 hc
        subst v4
        refine if_guard (d := 53) rfl rfl (x3.trans (by rw [hc])) ?_
        exact op_cell_own tInt _ w.heap.size 4 rfl rfl (eval_tmp x4) hS.1 0 _ _ rfl (.int .i64 n4) rfl hK
      · exact if_guard_off (d := 53) rfl rfl x3 (by simpa using hc) (hK _ _ (fun h => absurd h hc) (Below.refl _ _))
    · obtain rfl := Option.some.inj ho
      refine ⟨rfl, fun a w' hS hold hin K hK => ?_⟩
      obtain ⟨y3, x3, rfl⟩ := hin 3 rfl (by omega) rfl
      by_cases hc : f1 = true
      · replace hK := fun x w' hx hb => hK x w' (fun _ => hx) hb
        obtain ⟨y5, x5, v5⟩ := hin 5 rfl (by omega) rfl
        replace v5 := v5 hc
        subst v5
        refine if_guard (d := 53) rfl rfl (x3.trans (by rw [hc])) ?_
        exact op_bin (V := (· = .bool f2)) _ _ _ _ _ _ _ (.bool f2) rfl rfl (eval_tmp x5) rfl (fun w => cmp_leq Hf2.out w) rfl hK
      · exact if_guard_off (d := 53) rfl rfl x3 (by simpa using hc) (hK _ _ (fun h => absurd h hc) (Below.refl _ _))
    · obtain rfl := Option.some.inj ho
      refine ⟨rfl, fun a w' hS hold hin K hK => ?_⟩
      obtain ⟨y3, x3, rfl⟩ := hin 3 rfl (by omega) rfl
      refine if_always rfl ?_
      by_cases hc : f1 = true
      · obtain ⟨y6, x6, v6⟩ := hin 6 rfl (by omega) rfl
        replace v6 := v6 hc
        subst v6
        exact op_pick (V := (· = .bool r2)) _ _ _ true _ rfl rfl (eval_tmp (x3.trans (by rw [hc]))) (show (Act.eval a _) = _ from (eval_tmp x6)) (by rw [← Hr2.out, hc]; rfl) hK
      · have hc' : f1 = false := by simpa using hc
        exact op_pick (V := (· = .bool r2)) _ _ _ false _ rfl rfl (eval_tmp (x3.trans (by rw [hc']))) (show Act.eval a (.const (.bool false)) = .bool false from rfl) (by rw [← Hr2.out, hc']; rfl) hK
    · obtain rfl := Option.some.inj ho
      refine ⟨rfl, fun a w' hS hold hin K hK => ?_⟩
      obtain ⟨y7, x7, rfl⟩ := hin 7 rfl (by omega) rfl
      refine if_always rfl ?_
      exact op_move (V := (· = .bool r2)) _ _ rfl rfl (eval_tmp x7) rfl hK
    · obtain rfl := Option.some.inj ho
      refine ⟨rfl, fun a w' hS hold hin K hK => ?_⟩
      obtain ⟨y8, x8, rfl⟩ := hin 8 rfl (by omega) rfl
      by_cases hc : r2 = true
      · replace hK := fun x w' hx hb => hK x w' (fun _ => hx) hb
        refine if_guard (d := 58) rfl rfl (x8.trans (by rw [hc])) ?_
        exact op_field 23 _ 5 _ (.pointer (some ⟨w.heap.size, 5, none⟩)) rfl rfl (eval_tmp ((hold 1 (slots_not (by kernel_rfl))).trans h1)) (fun w => by kernel_rfl) hK
      · exact if_guard_off (d := 58) rfl rfl x8 (by simpa using hc) (hK _ _ (fun h => absurd h hc) (Below.refl _ _))
    · obtain rfl := Option.some.inj ho
      refine ⟨rfl, fun a w' hS hold hin K hK => ?_⟩
      obtain ⟨y8, x8, rfl⟩ := hin 8 rfl (by omega) rfl
      by_cases hc : r2 = true
      · replace hK := fun x w' hx hb => hK x w' (fun _ => hx) hb
        obtain ⟨y9, x9, v9⟩ := hin 9 rfl (by omega) rfl
        replace v9 := v9 hc
        subst v9
        refine if_guard (d := 58) rfl rfl (x8.trans (by rw [hc])) ?_
        exact op_cell_own tInt _ w.heap.size 5 rfl rfl (eval_tmp x9) hS.1 0 _ _ rfl (.int .i64 n5) rfl hK
      · exact if_guard_off (d := 58) rfl rfl x8 (by simpa using hc) (hK _ _ (fun h => absurd h hc) (Below.refl _ _))
    · obtain rfl := Option.some.inj ho
      refine ⟨rfl, fun a w' hS hold hin K hK => ?_⟩
      obtain ⟨y8, x8, rfl⟩ := hin 8 rfl (by omega) rfl
      by_cases hc : r2 = true
      · replace hK := fun x w' hx hb => hK x w' (fun _ => hx) hb
        obtain ⟨y10, x10, v10⟩ := hin 10 rfl (by omega) rfl
        replace v10 := v10 hc
        subst v10
        refine if_guard (d := 58) rfl rfl (x8.trans (by rw [hc])) ?_
        exact op_bin (V := (· = .bool f3)) _ _ _ _ _ _ _ (.bool f3) rfl rfl (eval_tmp x10) rfl (fun w => cmp_geq Hf3.out w) rfl hK
      · exact if_guard_off (d := 58) rfl rfl x8 (by simpa using hc) (hK _ _ (fun h => absurd h hc) (Below.refl _ _))
    · obtain rfl := Option.some.inj ho
      refine ⟨rfl, fun a w' hS hold hin K hK => ?_⟩
      obtain ⟨y8, x8, rfl⟩ := hin 8 rfl (by omega) rfl
      refine if_always rfl ?_
      by_cases hc : r2 = true
      · obtain ⟨y11, x11, v11⟩ := hin 11 rfl (by omega) rfl
        replace v11 := v11 hc
        subst v11
        exact op_pick (V := (· = .bool r3)) _ _ _ true _ rfl rfl (eval_tmp (x8.trans (by rw [hc]))) (show (Act.eval a _) = _ from (eval_tmp x11)) (by rw [← Hr3.out, hc]; rfl) hK
      · have hc' : r2 = false := by simpa using hc
        exact op_pick (V := (· = .bool r3)) _ _ _ false _ rfl rfl (eval_tmp (x8.trans (by rw [hc']))) (show Act.eval a (.const (.bool false)) = .bool false from rfl) (by rw [← Hr3.out, hc']; rfl) hK
    · obtain rfl := Option.some.inj ho
      refine ⟨rfl, fun a w' hS hold hin K hK => ?_⟩
      obtain ⟨y12, x12, rfl⟩ := hin 12 rfl (by omega) rfl
      refine if_always rfl ?_
      exact op_move (V := (· = .bool r3)) _ _ rfl rfl (eval_tmp x12) rfl hK
    · obtain rfl := Option.some.inj ho
      refine ⟨rfl, fun a w' hS hold hin K hK => ?_⟩
      obtain ⟨y13, x13, rfl⟩ := hin 13 rfl (by omega) rfl
      by_cases hc : r3 = true
      · replace hK := fun x w' hx hb => hK x w' (fun _ => hx) hb
        refine if_guard (d := 63) rfl rfl (x13.trans (by rw [hc])) ?_
        exact op_field 23 _ 5 _ (.pointer (some ⟨w.heap.size, 5, none⟩)) rfl rfl (eval_tmp ((hold 1 (slots_not (by kernel_rfl))).trans h1)) (fun w => by kernel_rfl) hK
      · exact if_guard_off (d := 63) rfl rfl x13 (by simpa using hc) (hK _ _ (fun h => absurd h hc) (Below.refl _ _))
    · obtain rfl := Option.some.inj ho
      refine ⟨rfl, fun a w' hS hold hin K hK => ?_⟩
      obtain ⟨y13, x13, rfl⟩ := hin 13 rfl (by omega) rfl
      by_cases hc : r3 = true
      · replace hK := fun x w' hx hb => hK x w' (fun _ => hx) hb
        obtain ⟨y14, x14, v14⟩ := hin 14 rfl (by omega) rfl
        replace v14 := v14 hc
        subst v14
        refine if_guard (d := 63) rfl rfl (x13.trans (by rw [hc])) ?_
        exact op_cell_own tInt _ w.heap.size 5 rfl rfl (eval_tmp x14) hS.1 0 _ _ rfl (.int .i64 n5) rfl hK
      · exact if_guard_off (d := 63) rfl rfl x13 (by simpa using hc) (hK _ _ (fun h => absurd h hc) (Below.refl _ _))
    · obtain rfl := Option.some.inj ho
      refine ⟨rfl, fun a w' hS hold hin K hK => ?_⟩
      obtain ⟨y13, x13, rfl⟩ := hin 13 rfl (by omega) rfl
      by_cases hc : r3 = true
      · replace hK := fun x w' hx hb => hK x w' (fun _ => hx) hb
        obtain ⟨y15, x15, v15⟩ := hin 15 rfl (by omega) rfl
        replace v15 := v15 hc
        subst v15
        refine if_guard (d := 63) rfl rfl (x13.trans (by rw [hc])) ?_
        exact op_bin (V := (· = .bool f4)) _ _ _ _ _ _ _ (.bool f4) rfl rfl (eval_tmp x15) rfl (fun w => cmp_leq Hf4.out w) rfl hK
      · exact if_guard_off (d := 63) rfl rfl x13 (by simpa using hc) (hK _ _ (fun h => absurd h hc) (Below.refl _ _))
    · obtain rfl := Option.some.inj ho
      refine ⟨rfl, fun a w' hS hold hin K hK => ?_⟩
      obtain ⟨y13, x13, rfl⟩ := hin 13 rfl (by omega) rfl
      refine if_always rfl ?_
      by_cases hc : r3 = true
      · obtain ⟨y16, x16, v16⟩ := hin 16 rfl (by omega) rfl
        replace v16 := v16 hc
        subst v16
        exact op_pick (V := (· = .bool r4)) _ _ _ true _ rfl rfl (eval_tmp (x13.trans (by rw [hc]))) (show (Act.eval a _) = _ from (eval_tmp x16)) (by rw [← Hr4.out, hc]; rfl) hK
      · have hc' : r3 = false := by simpa using hc
        exact op_pick (V := (· = .bool r4)) _ _ _ false _ rfl rfl (eval_tmp (x13.trans (by rw [hc']))) (show Act.eval a (.const (.bool false)) = .bool false from rfl) (by rw [← Hr4.out, hc']; rfl) hK
  · intro i o sz h0i hi ho hA; cases hA
  clear hS
  intro t1 V3 hs hold hout hall hne hS
  replace HS := hs.trans HS
  replace hS := hS.1
  obtain ⟨x67, q67, v67⟩ : ∃ x, t1[67]? = some x ∧ ((· = .bool r4)) x := hout 17 (by omega) rfl
  replace q67 : t1[67]? = some (.bool r4) := q67.trans (congrArg some v67)
  replace h1 := (hold 1 (slots_not (by kernel_rfl))).trans h1
  replace h3 := (hold 3 (slots_not (by kernel_rfl))).trans h3
  replace h4 := (hold 4 (slots_not (by kernel_rfl))).trans h4
  clear hold hout hs hall hne
  simp only [List.drop_succ_cons, List.drop_zero]
  refine tlx_assign (.tmp 67) rfl rfl 5 rfl (by rw [HS]; decide) (.bool r4) (eval_tmp q67) fun t1 ex0 hz hq he => ?_
  replace h1 := (he 1 (by decide)).trans h1
  replace h3 := (he 3 (by decide)).trans h3
  replace h4 := (he 4 (by decide)).trans h4
  replace q67 := (he 67 (by decide)).trans q67
  replace HS := hz.trans HS
  clear hz he ex0
  have h5 := hq
  clear hq
  refine wpList_nil ?_
  clear HT
  obtain ⟨f, e0, hf⟩ := wash HS
  have f1 := hf 1 _ h1
  have f3 := hf 3 _ h3
  have f4 := hf 4 _ h4
  have f5 := hf 5 _ h5
  clear hf
  rw [e0.trans (show _ = #[f 0, f 1, f 2, f 3, f 4, f 5, f 6, f 7, f 8, f 9, f 10, f 11, f 12, f 13, f 14, f 15, f 16, f 17, f 18, f 19, f 20, f 21, f 22, f 23, f 24, f 25, f 26, f 27, f 28, f 29, f 30, f 31, f 32, f 33, f 34, f 35, f 36, f 37, f 38, f 39, f 40, f 41, f 42, f 43, f 44, f 45, f 46, f 47, f 48, f 49, f 50, f 51, f 52, f 53, f 54, f 55, f 56, f 57, f 58, f 59, f 60, f 61, f 62, f 63, f 64, f 65, f 66, f 67, f 68, f 69, f 70, f 71, f 72, f 73, f 74] from by kernel_rfl), f1, f3, f4, f5]
  clear f1 f3 f4 f5
  clear e0
  try dsimp only
  clear h1 h3 h4 h5 q67 v67 hM HS t1 t0 M
  have HB := Lib.hid hS.1
  clear hS
  have hs1 := Hs1.out
  have hs2 := Hs2.out
  cases c6 <;> cases q3 <;> cases r4 <;> subst hs1 <;> subst hs2 <;> clear Hd1 Hd2 Hd3 Hd4 Hd5 Hd6 He1 He2 He3 Hf1 Hf2 Hf3 Hf4 Hc2 Hc3 Hc4 Hc5 Hc6 Hq2 Hq3 Hr2 Hr3 Hr4 Hs1 Hs2 <;> go_wp2
  all_goals first | exact ⟨rfl, .int .i64 0, by kernel_rfl, _, rfl, rfl, HB.out⟩ | exact ⟨rfl, .int .i64 200, by kernel_rfl, _, rfl, rfl, HB.out⟩
end Go.Proofs.YtmochmpamgfboaaDoor
