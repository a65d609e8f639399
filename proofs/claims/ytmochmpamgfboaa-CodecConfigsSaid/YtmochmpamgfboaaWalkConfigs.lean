/- The walk of CodecConfigs. Condition: memory can hold the bytes. -/
import Derived.Test.YtmochmpamgfboaaCodF
namespace Go.Proofs.Ytmochmpamgfboaa
open Go.RowKit
section
variable {P : Program} {o : Oper} {w b : World} {Q : Exit → Act → World → Prop} {L : List (Nat × Nat × (Value → Prop))} {ops : Array Oper} {rest : List Oper} {df : List Deferred} {tm : Array Value}
/-- A call that hands back bytes of its own, the whole block known. -/
theorem tlx_newb1 {LL : List Int} {n : Nat} (cp : Nat) (hcp : LL.length = cp) (f : FuncId) (x : Operand) {tys : Array TypeId} (u : Value) (hgd : o.guard = none) (ho : o.op = .call { callee := .value (.func f), args := #[x], argTypes := tys }) (d : Nat) (hd : o.dst = some d) (hds : d < tm.size)
    (hx : Act.eval ⟨tm, df⟩ x = u) (hf : ∀ (args : Array Value) (w : World), (callFunc f args).run P w = .ok (.enter f args) w) (hcall : Calls P f #[u] w (NewBytes w LL n)) (h : Own b L w)
    (hK : ∀ g t' w', Own b (L ++ [(g, cp, (· = .agg (vals LL)))]) w' → t' = tm.setIfInBounds d (.slice (some ⟨g, 0, none⟩) n cp) → t'.size = tm.size → t'[d]? = some (.slice (some ⟨g, 0, none⟩) n cp) → (∀ j, j ≠ d → t'[j]? = tm[j]?) → wpList P ops Q rest ⟨t', df⟩ w') : wpList P ops Q (o :: rest) ⟨tm, df⟩ w := by
  subst hcp
  refine wpList_step fun K hKK => if_always hgd ?_
  refine wp_fn1 f x tys u ho hx hf (hcall.mono fun e w' ⟨hb, g, t, he, h2, h3⟩ => ⟨_, he, hKK _ _ ?_⟩)
  rw [hd]
  refine hK g (tm.setIfInBounds d _) w' ?_ rfl (by simp) (by simp [hds]) (fun j hj => by rw [Array.getElem?_setIfInBounds, if_neg (fun e => hj e.symm)])
  exact (h.keep hb).add (Nat.le_trans h.1.size h2) (fun r hr => Nat.ne_of_lt (Nat.lt_of_lt_of_le (h.lt r hr) h2)) ⟨_, t, h3, vals_size _, rfl⟩
/-- Bytes at a block's begin. -/
def LBy (l : List Int) (v : Value) : Prop := ∃ cs, v = .agg cs ∧ cs.toList.take l.length = l.map (Value.int .u8)
theorem tlx_newB1 {l : List Int} (n : Nat) (hn : l.length = n) (f : FuncId) (x : Operand) {tys : Array TypeId} (u : Value) (hgd : o.guard = none) (ho : o.op = .call { callee := .value (.func f), args := #[x], argTypes := tys }) (d : Nat) (hd : o.dst = some d) (hds : d < tm.size)
    (hx : Act.eval ⟨tm, df⟩ x = u) (hf : ∀ (args : Array Value) (w : World), (callFunc f args).run P w = .ok (.enter f args) w) (hcall : Calls P f #[u] w (NewB w l)) (h : Own b L w)
    (hK : ∀ g c t' w', Own b (L ++ [(g, c, LBy l)]) w' → n ≤ c → t' = tm.setIfInBounds d (.slice (some ⟨g, 0, none⟩) n c) → t'.size = tm.size → t'[d]? = some (.slice (some ⟨g, 0, none⟩) n c) → (∀ j, j ≠ d → t'[j]? = tm[j]?) → wpList P ops Q rest ⟨t', df⟩ w') : wpList P ops Q (o :: rest) ⟨tm, df⟩ w := by
  subst hn
  refine wpList_step fun K hKK => if_always hgd ?_
  refine wp_fn1 f x tys u ho hx hf (hcall.mono fun e w' ⟨hb, g, c, cs, t, he, h2, h3, h4, h5⟩ => ⟨_, he, hKK _ _ ?_⟩)
  rw [hd]
  have hle : l.length ≤ c := by
    have e0 : cs.toList.length = c := by rw [Array.length_toList, h4]
    have e1 := congrArg List.length h5
    rw [List.length_take, List.length_map, e0] at e1
    omega
  refine hK g c (tm.setIfInBounds d _) w' ?_ hle rfl (by simp) (by simp [hds]) (fun j hj => by rw [Array.getElem?_setIfInBounds, if_neg (fun e => hj e.symm)])
  exact (h.keep hb).add (Nat.le_trans h.1.size h2) (fun r hr => Nat.ne_of_lt (Nat.lt_of_lt_of_le (h.lt r hr) h2)) ⟨cs, t, h3, h4, cs, rfl, h5⟩
theorem Own.bin (h : Own b L w) (i : Nat) {g N : Nat} {LL l : List Int} (hi : L[i]? = some (g, N, (· = .agg (vals LL)))) (ht : LL.take l.length = l) : BytesIn w (some ⟨g, 0, none⟩) l := by
  obtain ⟨t, h1⟩ := h.bytes hi
  exact BytesIn.vals 0 h1 (by rw [List.drop_zero]; exact ht)
theorem Own.bin2 (h : Own b L w) (i : Nat) {g N : Nat} {l : List Int} (hi : L[i]? = some (g, N, LBy l)) : BytesIn w (some ⟨g, 0, none⟩) l := by
  obtain ⟨cs, t, h1, _, cs', e, h2⟩ := h.get hi
  injection e with e
  subst e
  exact BytesIn.row 0 h1 (by rw [List.drop_zero]; exact h2)
end
theorem parsed_form (l : List Int) : ∃ c0 c1 c2 c3 c4 c5 e, parsed l = .tuple #[.agg #[.int .i64 c0, .int .i64 c1, .int .i64 c2, .int .i64 c3, .int .i64 c4, .int .i64 c5], .int .i64 e] := by
  unfold parsed
  repeat' split
  all_goals exact ⟨_, _, _, _, _, _, _, rfl⟩
theorem parse_ev {p : Option Addr} {l : List Int} {n c : Nat} {v : Value} (hv : parsed l = v) (hn : l.length = n) (hb : Byt l) (w : World) (h : BytesIn w p l) : Calls Try.prog 5 #[.slice p n c] w (Gives (· = v) w) := by
  subst hv
  by_cases h24 : n = 24
  · subst h24; exact parseConfig_24 p l c w hn hb h
  · exact parseConfig_short p l n c w hn h24
theorem parseR_ev {p : Option Addr} {l : List Int} {n c : Nat} {v : Value} (hv : parsed l = v) (hn : l.length = n) (hb : Byt l) (w : World) (h : BytesIn w p l) (hc : n ≤ c) : Calls Try.prog 6 #[.slice p n c] w (Gives (· = v) w) := by
  subst hv
  by_cases h24 : n = 24
  · subst h24; exact parseR_24 p l c w hn hb h hc
  · exact parseR_short p l n c w hn h24
theorem neq_conf {p q : Operand} (c0 c1 c2 c3 c4 c5 : Int) (w : World) : (do eqGuard .neq 25 p q (.agg #[.int .i64 c0, .int .i64 c1, .int .i64 c2, .int .i64 c3, .int .i64 c4, .int .i64 c5]) (.agg #[.int .i64 c0, .int .i64 c1, .int .i64 c2, .int .i64 c3, .int .i64 c4, .int .i64 c5]); binOp .neq 25 (.agg #[.int .i64 c0, .int .i64 c1, .int .i64 c2, .int .i64 c3, .int .i64 c4, .int .i64 c5]) (.agg #[.int .i64 c0, .int .i64 c1, .int .i64 c2, .int .i64 c3, .int .i64 c4, .int .i64 c5]) : Sem Value).run Try.prog w = .ok (.bool false) w := by
  go_simp
theorem eql_conf {p q : Operand} (c0 c1 c2 c3 c4 c5 : Int) (w : World) : (do eqGuard .eql 25 p q (.agg #[.int .i64 c0, .int .i64 c1, .int .i64 c2, .int .i64 c3, .int .i64 c4, .int .i64 c5]) (.agg #[.int .i64 c0, .int .i64 c1, .int .i64 c2, .int .i64 c3, .int .i64 c4, .int .i64 c5]); binOp .eql 25 (.agg #[.int .i64 c0, .int .i64 c1, .int .i64 c2, .int .i64 c3, .int .i64 c4, .int .i64 c5]) (.agg #[.int .i64 c0, .int .i64 c1, .int .i64 c2, .int .i64 c3, .int .i64 c4, .int .i64 c5]) : Sem Value).run Try.prog w = .ok (.bool true) w := by
  go_simp
theorem neq_err {p q : Operand} (e : Int) (w : World) : (do eqGuard .neq 26 p q (.int .i64 e) (.int .i64 e); binOp .neq 26 (.int .i64 e) (.int .i64 e) : Sem Value).run Try.prog w = .ok (.bool false) w := by
  go_simp
theorem eql_err {p q : Operand} (e : Int) (w : World) : (do eqGuard .eql 26 p q (.int .i64 e) (.int .i64 e); binOp .eql 26 (.int .i64 e) (.int .i64 e) : Sem Value).run Try.prog w = .ok (.bool true) w := by
  go_simp

theorem kept_own {b w : World} {L : List (Nat × Nat × (Value → Prop))} {g N n c : Nat} {l : List Int} {p : Option Addr} (h : Own b L w) (i : Nat) (hi : L[i]? = some (g, N, (· = .agg (vals (spareL l))))) (hn : l.length = n) (hp : BytesIn w p l) (hm : n ≤ 140737488355328) : Calls Try.prog 7 #[.slice (some ⟨g, 0, none⟩) n (n + 80), .slice p n c] w (Gives (· = .bool true) w) := by
  obtain ⟨t, h1⟩ := h.bytes hi
  exact kept_any g t p l n c w hn h1 hp hm
theorem eq_own {p q : Option Addr} {n c c' : Nat} {w : World} (l : List Int) (hn : l.length = n) (h1 : BytesIn w p l) (h2 : BytesIn w q l) (hm : n ≤ 140737488355328) : Calls Try.prog 9 #[.slice p n c, .slice q n c'] w (Gives (· = .bool true) w) :=
  (eqBytes_any p q l l n n c c' w hn hn h1 h2 (by omega)).mono fun _ _ ⟨r, e1, e2, e3⟩ => ⟨r, e1, e2.trans (by rw [decide_eq_true rfl]), e3⟩
theorem mrk_range (k : Nat) : 0 ≤ mrk k ∧ mrk k < 256 := by
  unfold mrk
  rw [IntKind.wrap_u8]
  omega
theorem spare_byt {l : List Int} (h : Byt l) : Byt (spareL l) := fun x hx => by
  rcases List.mem_append.1 hx with h1 | h1
  · exact h x h1
  · obtain ⟨j, _, rfl⟩ := List.mem_map.1 h1
    exact mrk_range _

set_option maxHeartbeats 8000000 in
set_option maxRecDepth 100000 in
theorem codecConfigs_walk (p q : Option Addr) (l lo : List Int) (n c m co : Nat) (w : World) (hn : l.length = n) (hb : Byt l) (h : BytesIn w p l) (hnc : n ≤ c) (hm : n ≤ 140737488355328) (hn2 : lo.length = m) (hb2 : Byt lo) (h2 : BytesIn w q lo) :
    Calls Try.prog 3 #[.slice p n c, .slice q m co] w fun e w' => e = .returned (.bool true) ∧ Below w.heap.size w w' := by
  have hS := Own.start w
  obtain ⟨c0, c1, c2, c3, c4, c5, er, hpf⟩ := parsed_form l
  have HPF := Lib.hid hpf
  have HN := Lib.hid hn
  have HB := Lib.hid hb
  have H := Lib.hid h
  have HNC := Lib.hid hnc
  have HM := Lib.hid hm
  have HN2 := Lib.hid hn2
  have HB2 := Lib.hid hb2
  have H2 := Lib.hid h2
  have HSL := Lib.hid (show (spareL l).length = n + 80 by rw [spareL_len, hn])
  have HST := Lib.hid (show (spareL l).take l.length = l from spareL_take l)
  clear hpf hn hb h hnc hm hn2 hb2 h2
  go_enter Try.func3, Try.ntmps3
  go_wp2_with ((with_reducible refine guard_list ?_); first | (refine held_fn _ _ _ rfl ?_))
  obtain ⟨M, hM⟩ : ∃ M, M = w.heap.size := ⟨_, rfl⟩
  refine hide_held fun t0 HT => ?_
  have HS : t0.size = 82 := by rw [HT]; rfl
  have h0 : t0[0]? = some (.slice p n c) := by rw [HT]; rfl
  have h1 : t0[1]? = some (.slice q m co) := by rw [HT]; rfl
  refine wp_from_most 1 (fun i => [12].getD i 0) (fun _ => none) (fun i => [(· = .slice p n c)].getD i (fun _ => True)) (fun w' => Own w [] w' ∧ M ≤ w'.heap.size) M
    1 (by omega) (by kernel_rfl) ?_ (slots_apart (by kernel_rfl)) (slots_lie (by rw [HS]; kernel_rfl)) ⟨hS, Nat.le_of_eq hM⟩ (fun w' h => h.2) (fun w1 w2 h b => ⟨h.1.keep b, Nat.le_trans h.2 b.size⟩) ?_ ?_ ?_
  · intro j hj _
    have hc : j = 0 := by omega
    rcases hc with rfl
    · exact ⟨rfl, _, by rw [HT]; rfl, rfl⟩
  · clear hS
    intro i o h0i hi ho hA
    exfalso; omega
  · intro i o sz h0i hi ho hA; cases hA
  clear hS
  intro t1 V1 hs hold hout hall hne hS
  replace HS := hs.trans HS
  replace hS := hS.1
  obtain ⟨x12, q12, v12⟩ : ∃ x, t1[12]? = some x ∧ ((· = .slice p n c)) x := hout 0 (by omega) rfl
  replace q12 : t1[12]? = some (.slice p n c) := q12.trans (congrArg some v12)
  replace h0 := (hold 0 (slots_not (by kernel_rfl))).trans h0
  replace h1 := (hold 1 (slots_not (by kernel_rfl))).trans h1
  clear hold hout hs hall hne
  simp only [List.drop_succ_cons, List.drop_zero]
  refine tlx_newb1 (n + 80) HSL.out _ (.tmp 12) _ rfl rfl 13 rfl (by rw [HS]; decide) (eval_tmp q12) (by intro args w; kernel_rfl) (spare_any p l n c _ HN.out (H.out.under hS.1 (Nat.le_refl _)) HM.out) hS fun gi t1 V1' hS' ex0 hz hq he => ?_
  replace h0 := (he 0 (by decide)).trans h0
  replace h1 := (he 1 (by decide)).trans h1
  replace q12 := (he 12 (by decide)).trans q12
  replace HS := hz.trans HS
  clear hz he ex0
  have h13 := hq
  clear hq
  replace hS : Own w [(gi, (n + 80), (· = .agg (vals (spareL l))))] V1' := hS'
  clear hS'
  refine tlx_assign (.tmp 13) rfl rfl 5 rfl (by rw [HS]; decide) (.slice (some ⟨gi, 0, none⟩) n (n + 80)) (eval_tmp h13) fun t1 ex1 hz hq he => ?_
  replace h0 := (he 0 (by decide)).trans h0
  replace h1 := (he 1 (by decide)).trans h1
  replace h13 := (he 13 (by decide)).trans h13
  replace q12 := (he 12 (by decide)).trans q12
  replace HS := hz.trans HS
  clear hz he ex1
  have h5 := hq
  clear hq
  refine wpList_nil ?_
  clear HT
  obtain ⟨f, e0, hf⟩ := wash HS
  have f0 := hf 0 _ h0
  have f1 := hf 1 _ h1
  have f13 := hf 13 _ h13
  have f5 := hf 5 _ h5
  clear hf
  rw [e0.trans (show _ = #[f 0, f 1, f 2, f 3, f 4, f 5, f 6, f 7, f 8, f 9, f 10, f 11, f 12, f 13, f 14, f 15, f 16, f 17, f 18, f 19, f 20, f 21, f 22, f 23, f 24, f 25, f 26, f 27, f 28, f 29, f 30, f 31, f 32, f 33, f 34, f 35, f 36, f 37, f 38, f 39, f 40, f 41, f 42, f 43, f 44, f 45, f 46, f 47, f 48, f 49, f 50, f 51, f 52, f 53, f 54, f 55, f 56, f 57, f 58, f 59, f 60, f 61, f 62, f 63, f 64, f 65, f 66, f 67, f 68, f 69, f 70, f 71, f 72, f 73, f 74, f 75, f 76, f 77, f 78, f 79, f 80, f 81] from by kernel_rfl), f0, f1, f13, f5]
  clear f0 f1 f13 f5
  clear e0
  try dsimp only
  clear h0 h1 h13 h5 q12 v12 hM HS t1 t0 M
  go_wp2_with ((with_reducible refine guard_list ?_); first | (refine held_fn _ _ _ rfl ?_))
  obtain ⟨M, hM⟩ : ∃ M, M = V1'.heap.size := ⟨_, rfl⟩
  have hMB : w.heap.size ≤ M := hM ▸ hS.1.size
  have ltM := hS.lt
  rw [← hM] at ltM
  refine hide_held fun t0 HT => ?_
  have HS : t0.size = 82 := by rw [HT]; rfl
  have h0 : t0[0]? = some (.slice p n c) := by rw [HT]; rfl
  have h1 : t0[1]? = some (.slice q m co) := by rw [HT]; rfl
  have h5 : t0[5]? = some (.slice (some ⟨gi, 0, none⟩) n (n + 80)) := by rw [HT]; rfl
  refine wp_from_most 6 (fun i => [15, 16, 14, 17, 18, 6].getD i 0) (fun i => [none, none, none, none, none, some 6].getD i none) (fun i => [(· = .slice (some ⟨gi, 0, none⟩) n (n + 80)), (· = .tuple #[.agg #[.int .i64 c0, .int .i64 c1, .int .i64 c2, .int .i64 c3, .int .i64 c4, .int .i64 c5], .int .i64 er]), (· = .tuple #[.agg #[.int .i64 c0, .int .i64 c1, .int .i64 c2, .int .i64 c3, .int .i64 c4, .int .i64 c5], .int .i64 er]), (· = .agg #[.int .i64 c0, .int .i64 c1, .int .i64 c2, .int .i64 c3, .int .i64 c4, .int .i64 c5]), (· = .int .i64 er), (fun _ => True)].getD i (fun _ => True)) (fun w' => Own w [(gi, (n + 80), (· = .agg (vals (spareL l))))] w' ∧ M ≤ w'.heap.size) M
    1 (by omega) (by kernel_rfl) ?_ (slots_apart (by kernel_rfl)) (slots_lie (by rw [HS]; kernel_rfl)) ⟨hS, Nat.le_of_eq hM⟩ (fun w' h => h.2) (fun w1 w2 h b => ⟨h.1.keep b, Nat.le_trans h.2 b.size⟩) ?_ ?_ ?_
  · intro j hj _
    have hc : j = 0 := by omega
    rcases hc with rfl
    · exact ⟨rfl, _, by rw [HT]; rfl, rfl⟩
  · clear hS
    intro i o h0i hi ho hA
    have hc : i = 1 ∨ i = 2 ∨ i = 3 ∨ i = 4 ∨ i = 5 := by omega
    rcases hc with rfl | rfl | rfl | rfl | rfl
    · obtain rfl := Option.some.inj ho
      refine ⟨rfl, fun a w' hS hold hin K hK => ?_⟩
      obtain ⟨y0, x0, rfl⟩ := hin 0 rfl (by omega) rfl
      refine if_always rfl ?_
      exact op_fn1 _ _ _ _ rfl rfl (eval_tmp x0) (by intro args w; kernel_rfl) (parse_ev HPF.out HN.out HB.out _ (hS.1.bin 0 rfl HST.out)) hK
    · obtain rfl := Option.some.inj ho
      refine ⟨rfl, fun a w' hS hold hin K hK => ?_⟩
      obtain ⟨y1, x1, rfl⟩ := hin 1 rfl (by omega) rfl
      refine if_always rfl ?_
      exact op_move (V := (· = .tuple #[.agg #[.int .i64 c0, .int .i64 c1, .int .i64 c2, .int .i64 c3, .int .i64 c4, .int .i64 c5], .int .i64 er])) _ _ rfl rfl (eval_tmp x1) rfl hK
    · obtain rfl := Option.some.inj ho
      refine ⟨rfl, fun a w' hS hold hin K hK => ?_⟩
      obtain ⟨y2, x2, rfl⟩ := hin 2 rfl (by omega) rfl
      refine if_always rfl ?_
      exact op_tup0 (V := (· = .agg #[.int .i64 c0, .int .i64 c1, .int .i64 c2, .int .i64 c3, .int .i64 c4, .int .i64 c5])) _ rfl rfl (eval_tmp x2) rfl hK
    · obtain rfl := Option.some.inj ho
      refine ⟨rfl, fun a w' hS hold hin K hK => ?_⟩
      obtain ⟨y2, x2, rfl⟩ := hin 2 rfl (by omega) rfl
      refine if_always rfl ?_
      exact op_tup1 (V := (· = .int .i64 er)) _ rfl rfl (eval_tmp x2) rfl hK
    · cases hA
  · intro i o sz h0i hi ho hA
    have hc : i = 1 ∨ i = 2 ∨ i = 3 ∨ i = 4 ∨ i = 5 := by omega
    rcases hc with rfl | rfl | rfl | rfl | rfl
    · cases hA
    · cases hA
    · cases hA
    · cases hA
    · obtain rfl := Option.some.inj ho
      obtain rfl := Option.some.inj hA
      exact ⟨rfl, rfl, 25, #[.int .i64 0, .int .i64 0, .int .i64 0, .int .i64 0, .int .i64 0, .int .i64 0], rfl, fun a w' K h => wp_new 25 #[.int .i64 0, .int .i64 0, .int .i64 0, .int .i64 0, .int .i64 0, .int .i64 0] (fun w => by kernel_rfl) h⟩
  clear hS
  intro t1 V2 hs hold hout hall hne hS
  replace HS := hs.trans HS
  replace hS := hS.1
  obtain ⟨ga, h6, b6, r6⟩ : ∃ g, t1[6]? = some (.pointer (some ⟨g, 0, none⟩)) ∧ M ≤ g ∧ ∃ cs ty, V2.heap[g]? = some (.cells cs ty (0, 0)) ∧ cs.size = 6 := by
    obtain ⟨g, p1, p2, ty, cs, p3, p4⟩ := hall 5 (by omega) 6 rfl
    exact ⟨g, p1, p2, cs, ty, p3, p4⟩
  replace hS : Own w [(gi, (n + 80), (· = .agg (vals (spareL l)))), (ga, 6, (fun _ => True))] V2 := hS.add (Nat.le_trans hMB b6) (fun r hr => Nat.ne_of_lt (Nat.lt_of_lt_of_le (ltM r hr) b6)) (Own.any r6)
  obtain ⟨x17, q17, v17⟩ : ∃ x, t1[17]? = some x ∧ ((· = .agg #[.int .i64 c0, .int .i64 c1, .int .i64 c2, .int .i64 c3, .int .i64 c4, .int .i64 c5])) x := hout 3 (by omega) rfl
  replace q17 : t1[17]? = some (.agg #[.int .i64 c0, .int .i64 c1, .int .i64 c2, .int .i64 c3, .int .i64 c4, .int .i64 c5]) := q17.trans (congrArg some v17)
  obtain ⟨x18, q18, v18⟩ : ∃ x, t1[18]? = some x ∧ ((· = .int .i64 er)) x := hout 4 (by omega) rfl
  replace q18 : t1[18]? = some (.int .i64 er) := q18.trans (congrArg some v18)
  replace h0 := (hold 0 (slots_not (by kernel_rfl))).trans h0
  replace h1 := (hold 1 (slots_not (by kernel_rfl))).trans h1
  replace h5 := (hold 5 (slots_not (by kernel_rfl))).trans h5
  clear hold hout hs hall hne
  simp only [List.drop_succ_cons, List.drop_zero]
  refine st_own 6 tConf rfl (.tmp 6) (.tmp 17) rfl rfl _ _ (eval_tmp h6) (eval_tmp q17) (V' := (· = .agg #[.int .i64 c0, .int .i64 c1, .int .i64 c2, .int .i64 c3, .int .i64 c4, .int .i64 c5])) rfl by_conf hS 1 rfl fun V2' hS' _ => ?_
  replace hS : Own w [(gi, (n + 80), (· = .agg (vals (spareL l)))), (ga, 6, (· = .agg #[.int .i64 c0, .int .i64 c1, .int .i64 c2, .int .i64 c3, .int .i64 c4, .int .i64 c5]))] V2' := hS'
  clear hS'
  refine tlx_assign (.tmp 18) rfl rfl 7 rfl (by rw [HS]; decide) (.int .i64 er) (eval_tmp q18) fun t1 ex0 hz hq he => ?_
  replace h0 := (he 0 (by decide)).trans h0
  replace h1 := (he 1 (by decide)).trans h1
  replace h5 := (he 5 (by decide)).trans h5
  replace h6 := (he 6 (by decide)).trans h6
  replace q17 := (he 17 (by decide)).trans q17
  replace q18 := (he 18 (by decide)).trans q18
  replace HS := hz.trans HS
  clear hz he ex0
  have h7 := hq
  clear hq
  refine wpList_nil ?_
  clear HT
  obtain ⟨f, e0, hf⟩ := wash HS
  have f0 := hf 0 _ h0
  have f1 := hf 1 _ h1
  have f5 := hf 5 _ h5
  have f6 := hf 6 _ h6
  have f7 := hf 7 _ h7
  clear hf
  rw [e0.trans (show _ = #[f 0, f 1, f 2, f 3, f 4, f 5, f 6, f 7, f 8, f 9, f 10, f 11, f 12, f 13, f 14, f 15, f 16, f 17, f 18, f 19, f 20, f 21, f 22, f 23, f 24, f 25, f 26, f 27, f 28, f 29, f 30, f 31, f 32, f 33, f 34, f 35, f 36, f 37, f 38, f 39, f 40, f 41, f 42, f 43, f 44, f 45, f 46, f 47, f 48, f 49, f 50, f 51, f 52, f 53, f 54, f 55, f 56, f 57, f 58, f 59, f 60, f 61, f 62, f 63, f 64, f 65, f 66, f 67, f 68, f 69, f 70, f 71, f 72, f 73, f 74, f 75, f 76, f 77, f 78, f 79, f 80, f 81] from by kernel_rfl), f0, f1, f5, f6, f7]
  clear f0 f1 f5 f6 f7
  clear e0
  try dsimp only
  clear h0 h1 h5 h6 h7 q17 q18 v17 v18 b6 r6 ltM hMB hM HS t1 t0 M
  go_wp2_with ((with_reducible refine guard_list ?_); first | (refine held_fn _ _ _ rfl ?_))
  obtain ⟨M, hM⟩ : ∃ M, M = V2'.heap.size := ⟨_, rfl⟩
  have hMB : w.heap.size ≤ M := hM ▸ hS.1.size
  have ltM := hS.lt
  rw [← hM] at ltM
  refine hide_held fun t0 HT => ?_
  have HS : t0.size = 82 := by rw [HT]; rfl
  have h0 : t0[0]? = some (.slice p n c) := by rw [HT]; rfl
  have h1 : t0[1]? = some (.slice q m co) := by rw [HT]; rfl
  have h5 : t0[5]? = some (.slice (some ⟨gi, 0, none⟩) n (n + 80)) := by rw [HT]; rfl
  have h6 : t0[6]? = some (.pointer (some ⟨ga, 0, none⟩)) := by rw [HT]; rfl
  have h7 : t0[7]? = some (.int .i64 er) := by rw [HT]; rfl
  refine wp_from_most 6 (fun i => [20, 21, 19, 22, 23, 8].getD i 0) (fun i => [none, none, none, none, none, some 6].getD i none) (fun i => [(· = .slice p n c), (· = .tuple #[.agg #[.int .i64 c0, .int .i64 c1, .int .i64 c2, .int .i64 c3, .int .i64 c4, .int .i64 c5], .int .i64 er]), (· = .tuple #[.agg #[.int .i64 c0, .int .i64 c1, .int .i64 c2, .int .i64 c3, .int .i64 c4, .int .i64 c5], .int .i64 er]), (· = .agg #[.int .i64 c0, .int .i64 c1, .int .i64 c2, .int .i64 c3, .int .i64 c4, .int .i64 c5]), (· = .int .i64 er), (fun _ => True)].getD i (fun _ => True)) (fun w' => Own w [(gi, (n + 80), (· = .agg (vals (spareL l)))), (ga, 6, (· = .agg #[.int .i64 c0, .int .i64 c1, .int .i64 c2, .int .i64 c3, .int .i64 c4, .int .i64 c5]))] w' ∧ M ≤ w'.heap.size) M
    1 (by omega) (by kernel_rfl) ?_ (slots_apart (by kernel_rfl)) (slots_lie (by rw [HS]; kernel_rfl)) ⟨hS, Nat.le_of_eq hM⟩ (fun w' h => h.2) (fun w1 w2 h b => ⟨h.1.keep b, Nat.le_trans h.2 b.size⟩) ?_ ?_ ?_
  · intro j hj _
    have hc : j = 0 := by omega
    rcases hc with rfl
    · exact ⟨rfl, _, by rw [HT]; rfl, rfl⟩
  · clear hS
    intro i o h0i hi ho hA
    have hc : i = 1 ∨ i = 2 ∨ i = 3 ∨ i = 4 ∨ i = 5 := by omega
    rcases hc with rfl | rfl | rfl | rfl | rfl
    · obtain rfl := Option.some.inj ho
      refine ⟨rfl, fun a w' hS hold hin K hK => ?_⟩
      obtain ⟨y0, x0, rfl⟩ := hin 0 rfl (by omega) rfl
      refine if_always rfl ?_
      exact op_fn1 _ _ _ _ rfl rfl (eval_tmp x0) (by intro args w; kernel_rfl) (parseR_ev HPF.out HN.out HB.out _ (H.out.under hS.1.1 (Nat.le_refl _)) HNC.out) hK
    · obtain rfl := Option.some.inj ho
      refine ⟨rfl, fun a w' hS hold hin K hK => ?_⟩
      obtain ⟨y1, x1, rfl⟩ := hin 1 rfl (by omega) rfl
      refine if_always rfl ?_
      exact op_move (V := (· = .tuple #[.agg #[.int .i64 c0, .int .i64 c1, .int .i64 c2, .int .i64 c3, .int .i64 c4, .int .i64 c5], .int .i64 er])) _ _ rfl rfl (eval_tmp x1) rfl hK
    · obtain rfl := Option.some.inj ho
      refine ⟨rfl, fun a w' hS hold hin K hK => ?_⟩
      obtain ⟨y2, x2, rfl⟩ := hin 2 rfl (by omega) rfl
      refine if_always rfl ?_
      exact op_tup0 (V := (· = .agg #[.int .i64 c0, .int .i64 c1, .int .i64 c2, .int .i64 c3, .int .i64 c4, .int .i64 c5])) _ rfl rfl (eval_tmp x2) rfl hK
    · obtain rfl := Option.some.inj ho
      refine ⟨rfl, fun a w' hS hold hin K hK => ?_⟩
      obtain ⟨y2, x2, rfl⟩ := hin 2 rfl (by omega) rfl
      refine if_always rfl ?_
      exact op_tup1 (V := (· = .int .i64 er)) _ rfl rfl (eval_tmp x2) rfl hK
    · cases hA
  · intro i o sz h0i hi ho hA
    have hc : i = 1 ∨ i = 2 ∨ i = 3 ∨ i = 4 ∨ i = 5 := by omega
    rcases hc with rfl | rfl | rfl | rfl | rfl
    · cases hA
    · cases hA
    · cases hA
    · cases hA
    · obtain rfl := Option.some.inj ho
      obtain rfl := Option.some.inj hA
      exact ⟨rfl, rfl, 25, #[.int .i64 0, .int .i64 0, .int .i64 0, .int .i64 0, .int .i64 0, .int .i64 0], rfl, fun a w' K h => wp_new 25 #[.int .i64 0, .int .i64 0, .int .i64 0, .int .i64 0, .int .i64 0, .int .i64 0] (fun w => by kernel_rfl) h⟩
  clear hS
  intro t1 V3 hs hold hout hall hne hS
  replace HS := hs.trans HS
  replace hS := hS.1
  obtain ⟨gb, h8, b8, r8⟩ : ∃ g, t1[8]? = some (.pointer (some ⟨g, 0, none⟩)) ∧ M ≤ g ∧ ∃ cs ty, V3.heap[g]? = some (.cells cs ty (0, 0)) ∧ cs.size = 6 := by
    obtain ⟨g, p1, p2, ty, cs, p3, p4⟩ := hall 5 (by omega) 6 rfl
    exact ⟨g, p1, p2, cs, ty, p3, p4⟩
  replace hS : Own w [(gi, (n + 80), (· = .agg (vals (spareL l)))), (ga, 6, (· = .agg #[.int .i64 c0, .int .i64 c1, .int .i64 c2, .int .i64 c3, .int .i64 c4, .int .i64 c5])), (gb, 6, (fun _ => True))] V3 := hS.add (Nat.le_trans hMB b8) (fun r hr => Nat.ne_of_lt (Nat.lt_of_lt_of_le (ltM r hr) b8)) (Own.any r8)
  obtain ⟨x22, q22, v22⟩ : ∃ x, t1[22]? = some x ∧ ((· = .agg #[.int .i64 c0, .int .i64 c1, .int .i64 c2, .int .i64 c3, .int .i64 c4, .int .i64 c5])) x := hout 3 (by omega) rfl
  replace q22 : t1[22]? = some (.agg #[.int .i64 c0, .int .i64 c1, .int .i64 c2, .int .i64 c3, .int .i64 c4, .int .i64 c5]) := q22.trans (congrArg some v22)
  obtain ⟨x23, q23, v23⟩ : ∃ x, t1[23]? = some x ∧ ((· = .int .i64 er)) x := hout 4 (by omega) rfl
  replace q23 : t1[23]? = some (.int .i64 er) := q23.trans (congrArg some v23)
  replace h0 := (hold 0 (slots_not (by kernel_rfl))).trans h0
  replace h1 := (hold 1 (slots_not (by kernel_rfl))).trans h1
  replace h5 := (hold 5 (slots_not (by kernel_rfl))).trans h5
  replace h6 := (hold 6 (slots_not (by kernel_rfl))).trans h6
  replace h7 := (hold 7 (slots_not (by kernel_rfl))).trans h7
  clear hold hout hs hall hne
  simp only [List.drop_succ_cons, List.drop_zero]
  refine st_own 6 tConf rfl (.tmp 8) (.tmp 22) rfl rfl _ _ (eval_tmp h8) (eval_tmp q22) (V' := (· = .agg #[.int .i64 c0, .int .i64 c1, .int .i64 c2, .int .i64 c3, .int .i64 c4, .int .i64 c5])) rfl by_conf hS 2 rfl fun V3' hS' _ => ?_
  replace hS : Own w [(gi, (n + 80), (· = .agg (vals (spareL l)))), (ga, 6, (· = .agg #[.int .i64 c0, .int .i64 c1, .int .i64 c2, .int .i64 c3, .int .i64 c4, .int .i64 c5])), (gb, 6, (· = .agg #[.int .i64 c0, .int .i64 c1, .int .i64 c2, .int .i64 c3, .int .i64 c4, .int .i64 c5]))] V3' := hS'
  clear hS'
  refine tlx_assign (.tmp 23) rfl rfl 9 rfl (by rw [HS]; decide) (.int .i64 er) (eval_tmp q23) fun t1 ex0 hz hq he => ?_
  replace h0 := (he 0 (by decide)).trans h0
  replace h1 := (he 1 (by decide)).trans h1
  replace h5 := (he 5 (by decide)).trans h5
  replace h6 := (he 6 (by decide)).trans h6
  replace h7 := (he 7 (by decide)).trans h7
  replace h8 := (he 8 (by decide)).trans h8
  replace q22 := (he 22 (by decide)).trans q22
  replace q23 := (he 23 (by decide)).trans q23
  replace HS := hz.trans HS
  clear hz he ex0
  have h9 := hq
  clear hq
  refine wpList_nil ?_
  clear HT
  obtain ⟨f, e0, hf⟩ := wash HS
  have f0 := hf 0 _ h0
  have f1 := hf 1 _ h1
  have f5 := hf 5 _ h5
  have f6 := hf 6 _ h6
  have f7 := hf 7 _ h7
  have f8 := hf 8 _ h8
  have f9 := hf 9 _ h9
  clear hf
  rw [e0.trans (show _ = #[f 0, f 1, f 2, f 3, f 4, f 5, f 6, f 7, f 8, f 9, f 10, f 11, f 12, f 13, f 14, f 15, f 16, f 17, f 18, f 19, f 20, f 21, f 22, f 23, f 24, f 25, f 26, f 27, f 28, f 29, f 30, f 31, f 32, f 33, f 34, f 35, f 36, f 37, f 38, f 39, f 40, f 41, f 42, f 43, f 44, f 45, f 46, f 47, f 48, f 49, f 50, f 51, f 52, f 53, f 54, f 55, f 56, f 57, f 58, f 59, f 60, f 61, f 62, f 63, f 64, f 65, f 66, f 67, f 68, f 69, f 70, f 71, f 72, f 73, f 74, f 75, f 76, f 77, f 78, f 79, f 80, f 81] from by kernel_rfl), f0, f1, f5, f6, f7, f8, f9]
  clear f0 f1 f5 f6 f7 f8 f9
  clear e0
  try dsimp only
  clear h0 h1 h5 h6 h7 h8 h9 q22 q23 v22 v23 b8 r8 ltM hMB hM HS t1 t0 M
  go_wp2_with ((with_reducible refine guard_list ?_); first | (refine held_load 25 _ rfl ?_))
  obtain ⟨M, hM⟩ : ∃ M, M = V3'.heap.size := ⟨_, rfl⟩
  refine hide_held fun t0 HT => ?_
  have HS : t0.size = 82 := by rw [HT]; rfl
  have h0 : t0[0]? = some (.slice p n c) := by rw [HT]; rfl
  have h1 : t0[1]? = some (.slice q m co) := by rw [HT]; rfl
  have h5 : t0[5]? = some (.slice (some ⟨gi, 0, none⟩) n (n + 80)) := by rw [HT]; rfl
  have h6 : t0[6]? = some (.pointer (some ⟨ga, 0, none⟩)) := by rw [HT]; rfl
  have h7 : t0[7]? = some (.int .i64 er) := by rw [HT]; rfl
  have h8 : t0[8]? = some (.pointer (some ⟨gb, 0, none⟩)) := by rw [HT]; rfl
  have h9 : t0[9]? = some (.int .i64 er) := by rw [HT]; rfl
  clear HT
  refine wp_list_all 13 (fun i => [24, 25, 26, 27, 28, 29, 30, 31, 32, 33, 34, 35, 36, 37].getD i 0) (fun i => [(· = .agg #[.int .i64 c0, .int .i64 c1, .int .i64 c2, .int .i64 c3, .int .i64 c4, .int .i64 c5]), (· = .agg #[.int .i64 c0, .int .i64 c1, .int .i64 c2, .int .i64 c3, .int .i64 c4, .int .i64 c5]), (· = .bool false), (· = .bool false), (· = .int .i64 er), (· = .int .i64 er), (· = .bool false), (· = .bool false), (· = .bool false), (· = .slice (some ⟨gi, 0, none⟩) n (n + 80)), (· = .slice p n c), (· = .bool true), (· = .bool false), (· = .bool false)].getD i (fun _ => True)) (fun w' => Own w [(gi, (n + 80), (· = .agg (vals (spareL l)))), (ga, 6, (· = .agg #[.int .i64 c0, .int .i64 c1, .int .i64 c2, .int .i64 c3, .int .i64 c4, .int .i64 c5])), (gb, 6, (· = .agg #[.int .i64 c0, .int .i64 c1, .int .i64 c2, .int .i64 c3, .int .i64 c4, .int .i64 c5]))] w' ∧ M ≤ w'.heap.size)
    (by kernel_rfl) (by kernel_rfl) (slots_apart (by kernel_rfl)) (slots_lie (by rw [HS]; kernel_rfl)) ⟨hS, Nat.le_of_eq hM⟩ (fun w1 w2 h b => ⟨h.1.keep b, Nat.le_trans h.2 b.size⟩) ?_ ?_
  · clear hS
    intro i o hi ho
    have hc : i = 0 ∨ i = 1 ∨ i = 2 ∨ i = 3 ∨ i = 4 ∨ i = 5 ∨ i = 6 ∨ i = 7 ∨ i = 8 ∨ i = 9 ∨ i = 10 ∨ i = 11 ∨ i = 12 ∨ i = 13 := by omega
    rcases hc with rfl | rfl | rfl | rfl | rfl | rfl | rfl | rfl | rfl | rfl | rfl | rfl | rfl | rfl
    · obtain rfl := Option.some.inj ho
      refine ⟨rfl, fun a w' hS hold hin K hK => ?_⟩
      refine if_always rfl ?_
      exact op_ld_own 6 tConf (.tmp 6) rfl rfl _ (eval_tmp ((hold 6 (slots_not (by kernel_rfl))).trans h6)) hS.1 1 rfl hK
    · obtain rfl := Option.some.inj ho
      refine ⟨rfl, fun a w' hS hold hin K hK => ?_⟩
      refine if_always rfl ?_
      exact op_ld_own 6 tConf (.tmp 8) rfl rfl _ (eval_tmp ((hold 8 (slots_not (by kernel_rfl))).trans h8)) hS.1 2 rfl hK
    · obtain rfl := Option.some.inj ho
      refine ⟨rfl, fun a w' hS hold hin K hK => ?_⟩
      obtain ⟨y0, x0, rfl⟩ := hin 0 rfl (by omega)
      obtain ⟨y1, x1, rfl⟩ := hin 1 rfl (by omega)
      refine if_always rfl ?_
      exact op_bin (V := (· = .bool false)) _ _ _ _ _ _ _ (.bool false) rfl rfl (eval_tmp x0) (eval_tmp x1) (fun w => neq_conf c0 c1 c2 c3 c4 c5 w) rfl hK
    · obtain rfl := Option.some.inj ho
      refine ⟨rfl, fun a w' hS hold hin K hK => ?_⟩
      obtain ⟨y2, x2, rfl⟩ := hin 2 rfl (by omega)
      refine if_always rfl ?_
      exact op_move (V := (· = .bool false)) _ _ rfl rfl (eval_tmp x2) rfl hK
    · obtain rfl := Option.some.inj ho
      refine ⟨rfl, fun a w' hS hold hin K hK => ?_⟩
      obtain ⟨y3, x3, rfl⟩ := hin 3 rfl (by omega)
      refine if_guard (d := 27) rfl rfl x3 ?_
      exact op_move (V := (· = .int .i64 er)) _ _ rfl rfl (eval_tmp ((hold 7 (slots_not (by kernel_rfl))).trans h7)) rfl hK
    · obtain rfl := Option.some.inj ho
      refine ⟨rfl, fun a w' hS hold hin K hK => ?_⟩
      obtain ⟨y3, x3, rfl⟩ := hin 3 rfl (by omega)
      refine if_guard (d := 27) rfl rfl x3 ?_
      exact op_move (V := (· = .int .i64 er)) _ _ rfl rfl (eval_tmp ((hold 9 (slots_not (by kernel_rfl))).trans h9)) rfl hK
    · obtain rfl := Option.some.inj ho
      refine ⟨rfl, fun a w' hS hold hin K hK => ?_⟩
      obtain ⟨y3, x3, rfl⟩ := hin 3 rfl (by omega)
      obtain ⟨y4, x4, rfl⟩ := hin 4 rfl (by omega)
      obtain ⟨y5, x5, rfl⟩ := hin 5 rfl (by omega)
      refine if_guard (d := 27) rfl rfl x3 ?_
      exact op_bin (V := (· = .bool false)) _ _ _ _ _ _ _ (.bool false) rfl rfl (eval_tmp x4) (eval_tmp x5) (fun w => neq_err er w) rfl hK
    · obtain rfl := Option.some.inj ho
      refine ⟨rfl, fun a w' hS hold hin K hK => ?_⟩
      obtain ⟨y3, x3, rfl⟩ := hin 3 rfl (by omega)
      obtain ⟨y6, x6, rfl⟩ := hin 6 rfl (by omega)
      refine if_always rfl ?_
      exact op_pick (V := (· = .bool false)) _ _ _ false _ rfl rfl (eval_tmp x3) (show (Act.eval a _) = _ from (eval_tmp x6)) rfl hK
    · obtain rfl := Option.some.inj ho
      refine ⟨rfl, fun a w' hS hold hin K hK => ?_⟩
      obtain ⟨y7, x7, rfl⟩ := hin 7 rfl (by omega)
      refine if_always rfl ?_
      exact op_move (V := (· = .bool false)) _ _ rfl rfl (eval_tmp x7) rfl hK
    · obtain rfl := Option.some.inj ho
      refine ⟨rfl, fun a w' hS hold hin K hK => ?_⟩
      obtain ⟨y8, x8, rfl⟩ := hin 8 rfl (by omega)
      refine if_guard (d := 32) rfl rfl x8 ?_
      exact op_move (V := (· = .slice (some ⟨gi, 0, none⟩) n (n + 80))) _ _ rfl rfl (eval_tmp ((hold 5 (slots_not (by kernel_rfl))).trans h5)) rfl hK
    · obtain rfl := Option.some.inj ho
      refine ⟨rfl, fun a w' hS hold hin K hK => ?_⟩
      obtain ⟨y8, x8, rfl⟩ := hin 8 rfl (by omega)
      refine if_guard (d := 32) rfl rfl x8 ?_
      exact op_move (V := (· = .slice p n c)) _ _ rfl rfl (eval_tmp ((hold 0 (slots_not (by kernel_rfl))).trans h0)) rfl hK
    · obtain rfl := Option.some.inj ho
      refine ⟨rfl, fun a w' hS hold hin K hK => ?_⟩
      obtain ⟨y8, x8, rfl⟩ := hin 8 rfl (by omega)
      obtain ⟨y9, x9, rfl⟩ := hin 9 rfl (by omega)
      obtain ⟨y10, x10, rfl⟩ := hin 10 rfl (by omega)
      refine if_guard (d := 32) rfl rfl x8 ?_
      exact op_fn2 _ _ _ _ _ _ rfl rfl (eval_tmp x9) (eval_tmp x10) (by intro args w; kernel_rfl) (kept_own hS.1 0 rfl HN.out (H.out.under hS.1.1 (Nat.le_refl _)) HM.out) hK
    · obtain rfl := Option.some.inj ho
      refine ⟨rfl, fun a w' hS hold hin K hK => ?_⟩
      obtain ⟨y8, x8, rfl⟩ := hin 8 rfl (by omega)
      obtain ⟨y11, x11, rfl⟩ := hin 11 rfl (by omega)
      refine if_guard (d := 32) rfl rfl x8 ?_
      exact op_un (V := (· = .bool false)) _ _ _ _ (.bool false) rfl rfl (eval_tmp x11) (fun w => by kernel_rfl) rfl hK
    · obtain rfl := Option.some.inj ho
      refine ⟨rfl, fun a w' hS hold hin K hK => ?_⟩
      obtain ⟨y8, x8, rfl⟩ := hin 8 rfl (by omega)
      obtain ⟨y12, x12, rfl⟩ := hin 12 rfl (by omega)
      refine if_always rfl ?_
      exact op_pick (V := (· = .bool false)) _ _ _ false _ rfl rfl (eval_tmp x8) (show (Act.eval a _) = _ from (eval_tmp x12)) rfl hK
  clear hS
  intro t1 V4 hs hold hout hS
  replace HS := hs.trans HS
  replace hS := hS.1
  obtain ⟨_, q37, rfl⟩ : ∃ x, t1[37]? = some x ∧ x = (.bool false : Value) := hout 13 (by omega)
  replace h0 := (hold 0 (slots_not (by kernel_rfl))).trans h0
  replace h1 := (hold 1 (slots_not (by kernel_rfl))).trans h1
  replace h5 := (hold 5 (slots_not (by kernel_rfl))).trans h5
  replace h6 := (hold 6 (slots_not (by kernel_rfl))).trans h6
  replace h7 := (hold 7 (slots_not (by kernel_rfl))).trans h7
  replace h8 := (hold 8 (slots_not (by kernel_rfl))).trans h8
  replace h9 := (hold 9 (slots_not (by kernel_rfl))).trans h9
  clear hold hout hs
  obtain ⟨f, e0, hf⟩ := wash HS
  have f0 := hf 0 _ h0
  have f1 := hf 1 _ h1
  have f5 := hf 5 _ h5
  have f6 := hf 6 _ h6
  have f7 := hf 7 _ h7
  have f8 := hf 8 _ h8
  have f9 := hf 9 _ h9
  have f37 := hf 37 _ q37
  clear hf
  rw [e0.trans (show _ = #[f 0, f 1, f 2, f 3, f 4, f 5, f 6, f 7, f 8, f 9, f 10, f 11, f 12, f 13, f 14, f 15, f 16, f 17, f 18, f 19, f 20, f 21, f 22, f 23, f 24, f 25, f 26, f 27, f 28, f 29, f 30, f 31, f 32, f 33, f 34, f 35, f 36, f 37, f 38, f 39, f 40, f 41, f 42, f 43, f 44, f 45, f 46, f 47, f 48, f 49, f 50, f 51, f 52, f 53, f 54, f 55, f 56, f 57, f 58, f 59, f 60, f 61, f 62, f 63, f 64, f 65, f 66, f 67, f 68, f 69, f 70, f 71, f 72, f 73, f 74, f 75, f 76, f 77, f 78, f 79, f 80, f 81] from by kernel_rfl), f0, f1, f5, f6, f7, f8, f9, f37]
  clear f0 f1 f5 f6 f7 f8 f9 f37
  clear e0
  try dsimp only
  clear h0 h1 h5 h6 h7 h8 h9 q37 hM HS t1 t0 M
  go_wp2_with fail
  have hlen := HSL.out
  have hbyt := spare_byt HB.out
  have HS0 := Lib.hid hS
  clear hS HPF
  go_loopw [10] (fun i wr => ∃ (k : Nat) (LL : List Int), k ≤ n ∧ i = .int .i64 k ∧ LL.length = n + 80 ∧ Byt LL ∧ Own w [(gi, (n + 80), (· = .agg (vals LL))), (ga, 6, (· = .agg #[.int .i64 c0, .int .i64 c1, .int .i64 c2, .int .i64 c3, .int .i64 c4, .int .i64 c5])), (gb, 6, (· = .agg #[.int .i64 c0, .int .i64 c1, .int .i64 c2, .int .i64 c3, .int .i64 c4, .int .i64 c5]))] wr) (fun i _ => n - (intOf i).toNat)
  case atStart => exact ⟨0, spareL l, by omega, rfl, hlen, hbyt, HS0.out⟩
  case round =>
    clear HS0 hlen hbyt
    obtain ⟨k, LL, hk, rfl, hlen, hbyt, hS⟩ := hrel
    have HLEN := Lib.hid hlen
    have HBYT := Lib.hid hbyt
    clear hlen hbyt
    by_cases hgo : k < n ∧ k < m
    · obtain ⟨hlt, hlm⟩ := hgo
      obtain ⟨tg, R⟩ := hS.bytes (i := 0) rfl
      have ca := (row_cell R k).trans (vals_get (by rw [HLEN.out]; omega))
      have fa := row_free R k
      obtain ⟨a2, rfl, _, x1⟩ := H2.out.under hS.1 (Nat.le_refl _) k (by rw [HN2.out]; exact hlm)
      have hx := HB2.out.nth k
      generalize nth lo k = bx at x1 hx
      generalize nth LL k = old at ca
      have hS2 := hS.byte (i := 0) rfl k bx
      simp only [List.set_cons_zero] at hS2
      have HS2 := Lib.hid hS2
      have HB3 := Lib.hid (byt_set HBYT.out k bx hx)
      have HLS := Lib.hid (show (LL.set k bx).length = n + 80 by rw [List.length_set, HLEN.out])
      clear hS hS2 R hx
      have hmn := HM.out
      go_wp2
      go_roundw
      case rel => exact ⟨k + 1, LL.set k bx, by omega, by go_num, HLS.out, HB3.out, HS2.out⟩
      case measure => simp [intOf]; omega
    · obtain ⟨l2, hl2⟩ : ∃ l2, LL.take n = l2 := ⟨_, rfl⟩
      have hn3 : l2.length = n := by rw [← hl2, List.length_take, HLEN.out]; omega
      have HN3 := Lib.hid hn3
      have HB3 := Lib.hid (show Byt l2 from hl2 ▸ HBYT.out.take n)
      have HT3 := Lib.hid (show LL.take l2.length = l2 by rw [hn3]; exact hl2)
      obtain ⟨d0, d1, d2, d3, d4, d5, ed, hpd⟩ := parsed_form l2
      have HPD := Lib.hid hpd
      have HS9 := Lib.hid hS
      clear hS hn3 hl2 hpd
      by_cases hkn : k < n
      · have hkm : ¬ k < m := fun h => hgo ⟨hkn, h⟩
        clear hgo
        go_wp2_with ((with_reducible refine guard_list ?_); first | (refine held_fn _ _ _ rfl ?_))
        have hS := HS9.out
        clear HS9
        obtain ⟨M, hM⟩ : ∃ M, M = wr.heap.size := ⟨_, rfl⟩
        refine hide_held fun t0 HT => ?_
        have HS : t0.size = 82 := by rw [HT]; rfl
        have h0 : t0[0]? = some (.slice p n c) := by rw [HT]; rfl
        have h1 : t0[1]? = some (.slice q m co) := by rw [HT]; rfl
        have h5 : t0[5]? = some (.slice (some ⟨gi, 0, none⟩) n (n + 80)) := by rw [HT]; rfl
        have h6 : t0[6]? = some (.pointer (some ⟨ga, 0, none⟩)) := by rw [HT]; rfl
        have h8 : t0[8]? = some (.pointer (some ⟨gb, 0, none⟩)) := by rw [HT]; rfl
        refine wp_from_most 1 (fun i => [57].getD i 0) (fun _ => none) (fun i => [(· = .slice (some ⟨gi, 0, none⟩) n (n + 80))].getD i (fun _ => True)) (fun w' => Own w [(gi, (n + 80), (· = .agg (vals LL))), (ga, 6, (· = .agg #[.int .i64 c0, .int .i64 c1, .int .i64 c2, .int .i64 c3, .int .i64 c4, .int .i64 c5])), (gb, 6, (· = .agg #[.int .i64 c0, .int .i64 c1, .int .i64 c2, .int .i64 c3, .int .i64 c4, .int .i64 c5]))] w' ∧ M ≤ w'.heap.size) M
          1 (by omega) (by kernel_rfl) ?_ (slots_apart (by kernel_rfl)) (slots_lie (by rw [HS]; kernel_rfl)) ⟨hS, Nat.le_of_eq hM⟩ (fun w' h => h.2) (fun w1 w2 h b => ⟨h.1.keep b, Nat.le_trans h.2 b.size⟩) ?_ ?_ ?_
        · intro j hj _
          have hc : j = 0 := by omega
          rcases hc with rfl
          · exact ⟨rfl, _, by rw [HT]; rfl, rfl⟩
        · clear hS
          intro i o h0i hi ho hA
          exfalso; omega
        · intro i o sz h0i hi ho hA; cases hA
        clear hS
        intro t1 V5 hs hold hout hall hne hS
        replace HS := hs.trans HS
        replace hS := hS.1
        obtain ⟨x57, q57, v57⟩ : ∃ x, t1[57]? = some x ∧ ((· = .slice (some ⟨gi, 0, none⟩) n (n + 80))) x := hout 0 (by omega) rfl
        replace q57 : t1[57]? = some (.slice (some ⟨gi, 0, none⟩) n (n + 80)) := q57.trans (congrArg some v57)
        replace h0 := (hold 0 (slots_not (by kernel_rfl))).trans h0
        replace h1 := (hold 1 (slots_not (by kernel_rfl))).trans h1
        replace h5 := (hold 5 (slots_not (by kernel_rfl))).trans h5
        replace h6 := (hold 6 (slots_not (by kernel_rfl))).trans h6
        replace h8 := (hold 8 (slots_not (by kernel_rfl))).trans h8
        clear hold hout hs hall hne
        simp only [List.drop_succ_cons, List.drop_zero]
        refine tlx_newB1 n HN3.out _ (.tmp 57) _ rfl rfl 58 rfl (by rw [HS]; decide) (eval_tmp q57) (by intro args w; kernel_rfl) (copyBytes_any _ l2 n _ _ HN3.out (hS.bin 0 rfl HT3.out) HM.out) hS fun gn cn t1 V5' hS' hcn ex0 hz hq he => ?_
        have HCN := Lib.hid hcn
        clear hcn
        replace h0 := (he 0 (by decide)).trans h0
        replace h1 := (he 1 (by decide)).trans h1
        replace h5 := (he 5 (by decide)).trans h5
        replace h6 := (he 6 (by decide)).trans h6
        replace h8 := (he 8 (by decide)).trans h8
        replace q57 := (he 57 (by decide)).trans q57
        replace HS := hz.trans HS
        clear hz he ex0
        have h58 := hq
        clear hq
        replace hS : Own w [(gi, (n + 80), (· = .agg (vals LL))), (ga, 6, (· = .agg #[.int .i64 c0, .int .i64 c1, .int .i64 c2, .int .i64 c3, .int .i64 c4, .int .i64 c5])), (gb, 6, (· = .agg #[.int .i64 c0, .int .i64 c1, .int .i64 c2, .int .i64 c3, .int .i64 c4, .int .i64 c5])), (gn, (cn), LBy l2)] V5' := hS'
        clear hS'
        refine tlx_assign (.tmp 58) rfl rfl 11 rfl (by rw [HS]; decide) (.slice (some ⟨gn, 0, none⟩) n cn) (eval_tmp h58) fun t1 ex1 hz hq he => ?_
        replace h0 := (he 0 (by decide)).trans h0
        replace h1 := (he 1 (by decide)).trans h1
        replace h5 := (he 5 (by decide)).trans h5
        replace h6 := (he 6 (by decide)).trans h6
        replace h8 := (he 8 (by decide)).trans h8
        replace h58 := (he 58 (by decide)).trans h58
        replace q57 := (he 57 (by decide)).trans q57
        replace HS := hz.trans HS
        clear hz he ex1
        have h11 := hq
        clear hq
        refine wpList_nil ?_
        clear HT
        obtain ⟨f, e0, hf⟩ := wash HS
        have f0 := hf 0 _ h0
        have f1 := hf 1 _ h1
        have f5 := hf 5 _ h5
        have f6 := hf 6 _ h6
        have f8 := hf 8 _ h8
        have f58 := hf 58 _ h58
        have f11 := hf 11 _ h11
        clear hf
        rw [e0.trans (show _ = #[f 0, f 1, f 2, f 3, f 4, f 5, f 6, f 7, f 8, f 9, f 10, f 11, f 12, f 13, f 14, f 15, f 16, f 17, f 18, f 19, f 20, f 21, f 22, f 23, f 24, f 25, f 26, f 27, f 28, f 29, f 30, f 31, f 32, f 33, f 34, f 35, f 36, f 37, f 38, f 39, f 40, f 41, f 42, f 43, f 44, f 45, f 46, f 47, f 48, f 49, f 50, f 51, f 52, f 53, f 54, f 55, f 56, f 57, f 58, f 59, f 60, f 61, f 62, f 63, f 64, f 65, f 66, f 67, f 68, f 69, f 70, f 71, f 72, f 73, f 74, f 75, f 76, f 77, f 78, f 79, f 80, f 81] from by kernel_rfl), f0, f1, f5, f6, f8, f58, f11]
        clear f0 f1 f5 f6 f8 f58 f11
        clear e0
        try dsimp only
        clear h0 h1 h5 h6 h8 h58 h11 q57 v57 hM HS t1 t0 M
        go_wp2_with ((with_reducible refine guard_list ?_); first | (refine held_fn _ _ _ rfl ?_))
        obtain ⟨M, hM⟩ : ∃ M, M = V5'.heap.size := ⟨_, rfl⟩
        refine hide_held fun t0 HT => ?_
        have HS : t0.size = 82 := by rw [HT]; rfl
        have h0 : t0[0]? = some (.slice p n c) := by rw [HT]; rfl
        have h1 : t0[1]? = some (.slice q m co) := by rw [HT]; rfl
        have h5 : t0[5]? = some (.slice (some ⟨gi, 0, none⟩) n (n + 80)) := by rw [HT]; rfl
        have h6 : t0[6]? = some (.pointer (some ⟨ga, 0, none⟩)) := by rw [HT]; rfl
        have h8 : t0[8]? = some (.pointer (some ⟨gb, 0, none⟩)) := by rw [HT]; rfl
        have h11 : t0[11]? = some (.slice (some ⟨gn, 0, none⟩) n cn) := by rw [HT]; rfl
        refine wp_from_most 5 (fun i => [60, 61, 59, 62, 63].getD i 0) (fun _ => none) (fun i => [(· = .slice (some ⟨gi, 0, none⟩) n (n + 80)), (· = .tuple #[.agg #[.int .i64 d0, .int .i64 d1, .int .i64 d2, .int .i64 d3, .int .i64 d4, .int .i64 d5], .int .i64 ed]), (· = .tuple #[.agg #[.int .i64 d0, .int .i64 d1, .int .i64 d2, .int .i64 d3, .int .i64 d4, .int .i64 d5], .int .i64 ed]), (· = .agg #[.int .i64 d0, .int .i64 d1, .int .i64 d2, .int .i64 d3, .int .i64 d4, .int .i64 d5]), (· = .int .i64 ed)].getD i (fun _ => True)) (fun w' => Own w [(gi, (n + 80), (· = .agg (vals LL))), (ga, 6, (· = .agg #[.int .i64 c0, .int .i64 c1, .int .i64 c2, .int .i64 c3, .int .i64 c4, .int .i64 c5])), (gb, 6, (· = .agg #[.int .i64 c0, .int .i64 c1, .int .i64 c2, .int .i64 c3, .int .i64 c4, .int .i64 c5])), (gn, (cn), LBy l2)] w' ∧ M ≤ w'.heap.size) M
          1 (by omega) (by kernel_rfl) ?_ (slots_apart (by kernel_rfl)) (slots_lie (by rw [HS]; kernel_rfl)) ⟨hS, Nat.le_of_eq hM⟩ (fun w' h => h.2) (fun w1 w2 h b => ⟨h.1.keep b, Nat.le_trans h.2 b.size⟩) ?_ ?_ ?_
        · intro j hj _
          have hc : j = 0 := by omega
          rcases hc with rfl
          · exact ⟨rfl, _, by rw [HT]; rfl, rfl⟩
        · clear hS
          intro i o h0i hi ho hA
          have hc : i = 1 ∨ i = 2 ∨ i = 3 ∨ i = 4 := by omega
          rcases hc with rfl | rfl | rfl | rfl
          · obtain rfl := Option.some.inj ho
            refine ⟨rfl, fun a w' hS hold hin K hK => ?_⟩
            obtain ⟨y0, x0, rfl⟩ := hin 0 rfl (by omega) rfl
            refine if_always rfl ?_
            exact op_fn1 _ _ _ _ rfl rfl (eval_tmp x0) (by intro args w; kernel_rfl) (parse_ev HPD.out HN3.out HB3.out _ (hS.1.bin 0 rfl HT3.out)) hK
          · obtain rfl := Option.some.inj ho
            refine ⟨rfl, fun a w' hS hold hin K hK => ?_⟩
            obtain ⟨y1, x1, rfl⟩ := hin 1 rfl (by omega) rfl
            refine if_always rfl ?_
            exact op_move (V := (· = .tuple #[.agg #[.int .i64 d0, .int .i64 d1, .int .i64 d2, .int .i64 d3, .int .i64 d4, .int .i64 d5], .int .i64 ed])) _ _ rfl rfl (eval_tmp x1) rfl hK
          · obtain rfl := Option.some.inj ho
            refine ⟨rfl, fun a w' hS hold hin K hK => ?_⟩
            obtain ⟨y2, x2, rfl⟩ := hin 2 rfl (by omega) rfl
            refine if_always rfl ?_
            exact op_tup0 (V := (· = .agg #[.int .i64 d0, .int .i64 d1, .int .i64 d2, .int .i64 d3, .int .i64 d4, .int .i64 d5])) _ rfl rfl (eval_tmp x2) rfl hK
          · obtain rfl := Option.some.inj ho
            refine ⟨rfl, fun a w' hS hold hin K hK => ?_⟩
            obtain ⟨y2, x2, rfl⟩ := hin 2 rfl (by omega) rfl
            refine if_always rfl ?_
            exact op_tup1 (V := (· = .int .i64 ed)) _ rfl rfl (eval_tmp x2) rfl hK
        · intro i o sz h0i hi ho hA; cases hA
        clear hS
        intro t1 V6 hs hold hout hall hne hS
        replace HS := hs.trans HS
        replace hS := hS.1
        obtain ⟨x62, q62, v62⟩ : ∃ x, t1[62]? = some x ∧ ((· = .agg #[.int .i64 d0, .int .i64 d1, .int .i64 d2, .int .i64 d3, .int .i64 d4, .int .i64 d5])) x := hout 3 (by omega) rfl
        replace q62 : t1[62]? = some (.agg #[.int .i64 d0, .int .i64 d1, .int .i64 d2, .int .i64 d3, .int .i64 d4, .int .i64 d5]) := q62.trans (congrArg some v62)
        obtain ⟨x63, q63, v63⟩ : ∃ x, t1[63]? = some x ∧ ((· = .int .i64 ed)) x := hout 4 (by omega) rfl
        replace q63 : t1[63]? = some (.int .i64 ed) := q63.trans (congrArg some v63)
        replace h0 := (hold 0 (slots_not (by kernel_rfl))).trans h0
        replace h1 := (hold 1 (slots_not (by kernel_rfl))).trans h1
        replace h5 := (hold 5 (slots_not (by kernel_rfl))).trans h5
        replace h6 := (hold 6 (slots_not (by kernel_rfl))).trans h6
        replace h8 := (hold 8 (slots_not (by kernel_rfl))).trans h8
        replace h11 := (hold 11 (slots_not (by kernel_rfl))).trans h11
        clear hold hout hs hall hne
        simp only [List.drop_succ_cons, List.drop_zero]
        refine st_own 6 tConf rfl (.tmp 6) (.tmp 62) rfl rfl _ _ (eval_tmp h6) (eval_tmp q62) (V' := (· = .agg #[.int .i64 d0, .int .i64 d1, .int .i64 d2, .int .i64 d3, .int .i64 d4, .int .i64 d5])) rfl by_conf hS 1 rfl fun V6' hS' _ => ?_
        replace hS : Own w [(gi, (n + 80), (· = .agg (vals LL))), (ga, 6, (· = .agg #[.int .i64 d0, .int .i64 d1, .int .i64 d2, .int .i64 d3, .int .i64 d4, .int .i64 d5])), (gb, 6, (· = .agg #[.int .i64 c0, .int .i64 c1, .int .i64 c2, .int .i64 c3, .int .i64 c4, .int .i64 c5])), (gn, (cn), LBy l2)] V6' := hS'
        clear hS'
        refine tlx_assign (.tmp 63) rfl rfl 7 rfl (by rw [HS]; decide) (.int .i64 ed) (eval_tmp q63) fun t1 ex0 hz hq he => ?_
        replace h0 := (he 0 (by decide)).trans h0
        replace h1 := (he 1 (by decide)).trans h1
        replace h5 := (he 5 (by decide)).trans h5
        replace h6 := (he 6 (by decide)).trans h6
        replace h8 := (he 8 (by decide)).trans h8
        replace h11 := (he 11 (by decide)).trans h11
        replace q62 := (he 62 (by decide)).trans q62
        replace q63 := (he 63 (by decide)).trans q63
        replace HS := hz.trans HS
        clear hz he ex0
        have h7 := hq
        clear hq
        refine wpList_nil ?_
        clear HT
        obtain ⟨f, e0, hf⟩ := wash HS
        have f0 := hf 0 _ h0
        have f1 := hf 1 _ h1
        have f5 := hf 5 _ h5
        have f6 := hf 6 _ h6
        have f8 := hf 8 _ h8
        have f11 := hf 11 _ h11
        have f7 := hf 7 _ h7
        clear hf
        rw [e0.trans (show _ = #[f 0, f 1, f 2, f 3, f 4, f 5, f 6, f 7, f 8, f 9, f 10, f 11, f 12, f 13, f 14, f 15, f 16, f 17, f 18, f 19, f 20, f 21, f 22, f 23, f 24, f 25, f 26, f 27, f 28, f 29, f 30, f 31, f 32, f 33, f 34, f 35, f 36, f 37, f 38, f 39, f 40, f 41, f 42, f 43, f 44, f 45, f 46, f 47, f 48, f 49, f 50, f 51, f 52, f 53, f 54, f 55, f 56, f 57, f 58, f 59, f 60, f 61, f 62, f 63, f 64, f 65, f 66, f 67, f 68, f 69, f 70, f 71, f 72, f 73, f 74, f 75, f 76, f 77, f 78, f 79, f 80, f 81] from by kernel_rfl), f0, f1, f5, f6, f8, f11, f7]
        clear f0 f1 f5 f6 f8 f11 f7
        clear e0
        try dsimp only
        clear h0 h1 h5 h6 h8 h11 h7 q62 q63 v62 v63 hM HS t1 t0 M
        go_wp2_with ((with_reducible refine guard_list ?_); first | (refine held_fn _ _ _ rfl ?_))
        obtain ⟨M, hM⟩ : ∃ M, M = V6'.heap.size := ⟨_, rfl⟩
        refine hide_held fun t0 HT => ?_
        have HS : t0.size = 82 := by rw [HT]; rfl
        have h0 : t0[0]? = some (.slice p n c) := by rw [HT]; rfl
        have h1 : t0[1]? = some (.slice q m co) := by rw [HT]; rfl
        have h5 : t0[5]? = some (.slice (some ⟨gi, 0, none⟩) n (n + 80)) := by rw [HT]; rfl
        have h6 : t0[6]? = some (.pointer (some ⟨ga, 0, none⟩)) := by rw [HT]; rfl
        have h8 : t0[8]? = some (.pointer (some ⟨gb, 0, none⟩)) := by rw [HT]; rfl
        have h11 : t0[11]? = some (.slice (some ⟨gn, 0, none⟩) n cn) := by rw [HT]; rfl
        have h7 : t0[7]? = some (.int .i64 ed) := by rw [HT]; rfl
        refine wp_from_most 5 (fun i => [65, 66, 64, 67, 68].getD i 0) (fun _ => none) (fun i => [(· = .slice (some ⟨gn, 0, none⟩) n cn), (· = .tuple #[.agg #[.int .i64 d0, .int .i64 d1, .int .i64 d2, .int .i64 d3, .int .i64 d4, .int .i64 d5], .int .i64 ed]), (· = .tuple #[.agg #[.int .i64 d0, .int .i64 d1, .int .i64 d2, .int .i64 d3, .int .i64 d4, .int .i64 d5], .int .i64 ed]), (· = .agg #[.int .i64 d0, .int .i64 d1, .int .i64 d2, .int .i64 d3, .int .i64 d4, .int .i64 d5]), (· = .int .i64 ed)].getD i (fun _ => True)) (fun w' => Own w [(gi, (n + 80), (· = .agg (vals LL))), (ga, 6, (· = .agg #[.int .i64 d0, .int .i64 d1, .int .i64 d2, .int .i64 d3, .int .i64 d4, .int .i64 d5])), (gb, 6, (· = .agg #[.int .i64 c0, .int .i64 c1, .int .i64 c2, .int .i64 c3, .int .i64 c4, .int .i64 c5])), (gn, (cn), LBy l2)] w' ∧ M ≤ w'.heap.size) M
          1 (by omega) (by kernel_rfl) ?_ (slots_apart (by kernel_rfl)) (slots_lie (by rw [HS]; kernel_rfl)) ⟨hS, Nat.le_of_eq hM⟩ (fun w' h => h.2) (fun w1 w2 h b => ⟨h.1.keep b, Nat.le_trans h.2 b.size⟩) ?_ ?_ ?_
        · intro j hj _
          have hc : j = 0 := by omega
          rcases hc with rfl
          · exact ⟨rfl, _, by rw [HT]; rfl, rfl⟩
        · clear hS
          intro i o h0i hi ho hA
          have hc : i = 1 ∨ i = 2 ∨ i = 3 ∨ i = 4 := by omega
          rcases hc with rfl | rfl | rfl | rfl
          · obtain rfl := Option.some.inj ho
            refine ⟨rfl, fun a w' hS hold hin K hK => ?_⟩
            obtain ⟨y0, x0, rfl⟩ := hin 0 rfl (by omega) rfl
            refine if_always rfl ?_
            exact op_fn1 _ _ _ _ rfl rfl (eval_tmp x0) (by intro args w; kernel_rfl) (parseR_ev HPD.out HN3.out HB3.out _ (hS.1.bin2 3 rfl) HCN.out) hK
          · obtain rfl := Option.some.inj ho
            refine ⟨rfl, fun a w' hS hold hin K hK => ?_⟩
            obtain ⟨y1, x1, rfl⟩ := hin 1 rfl (by omega) rfl
            refine if_always rfl ?_
            exact op_move (V := (· = .tuple #[.agg #[.int .i64 d0, .int .i64 d1, .int .i64 d2, .int .i64 d3, .int .i64 d4, .int .i64 d5], .int .i64 ed])) _ _ rfl rfl (eval_tmp x1) rfl hK
          · obtain rfl := Option.some.inj ho
            refine ⟨rfl, fun a w' hS hold hin K hK => ?_⟩
            obtain ⟨y2, x2, rfl⟩ := hin 2 rfl (by omega) rfl
            refine if_always rfl ?_
            exact op_tup0 (V := (· = .agg #[.int .i64 d0, .int .i64 d1, .int .i64 d2, .int .i64 d3, .int .i64 d4, .int .i64 d5])) _ rfl rfl (eval_tmp x2) rfl hK
          · obtain rfl := Option.some.inj ho
            refine ⟨rfl, fun a w' hS hold hin K hK => ?_⟩
            obtain ⟨y2, x2, rfl⟩ := hin 2 rfl (by omega) rfl
            refine if_always rfl ?_
            exact op_tup1 (V := (· = .int .i64 ed)) _ rfl rfl (eval_tmp x2) rfl hK
        · intro i o sz h0i hi ho hA; cases hA
        clear hS
        intro t1 V7 hs hold hout hall hne hS
        replace HS := hs.trans HS
        replace hS := hS.1
        obtain ⟨x67, q67, v67⟩ : ∃ x, t1[67]? = some x ∧ ((· = .agg #[.int .i64 d0, .int .i64 d1, .int .i64 d2, .int .i64 d3, .int .i64 d4, .int .i64 d5])) x := hout 3 (by omega) rfl
        replace q67 : t1[67]? = some (.agg #[.int .i64 d0, .int .i64 d1, .int .i64 d2, .int .i64 d3, .int .i64 d4, .int .i64 d5]) := q67.trans (congrArg some v67)
        obtain ⟨x68, q68, v68⟩ : ∃ x, t1[68]? = some x ∧ ((· = .int .i64 ed)) x := hout 4 (by omega) rfl
        replace q68 : t1[68]? = some (.int .i64 ed) := q68.trans (congrArg some v68)
        replace h0 := (hold 0 (slots_not (by kernel_rfl))).trans h0
        replace h1 := (hold 1 (slots_not (by kernel_rfl))).trans h1
        replace h5 := (hold 5 (slots_not (by kernel_rfl))).trans h5
        replace h6 := (hold 6 (slots_not (by kernel_rfl))).trans h6
        replace h8 := (hold 8 (slots_not (by kernel_rfl))).trans h8
        replace h11 := (hold 11 (slots_not (by kernel_rfl))).trans h11
        replace h7 := (hold 7 (slots_not (by kernel_rfl))).trans h7
        clear hold hout hs hall hne
        simp only [List.drop_succ_cons, List.drop_zero]
        refine st_own 6 tConf rfl (.tmp 8) (.tmp 67) rfl rfl _ _ (eval_tmp h8) (eval_tmp q67) (V' := (· = .agg #[.int .i64 d0, .int .i64 d1, .int .i64 d2, .int .i64 d3, .int .i64 d4, .int .i64 d5])) rfl by_conf hS 2 rfl fun V7' hS' _ => ?_
        replace hS : Own w [(gi, (n + 80), (· = .agg (vals LL))), (ga, 6, (· = .agg #[.int .i64 d0, .int .i64 d1, .int .i64 d2, .int .i64 d3, .int .i64 d4, .int .i64 d5])), (gb, 6, (· = .agg #[.int .i64 d0, .int .i64 d1, .int .i64 d2, .int .i64 d3, .int .i64 d4, .int .i64 d5])), (gn, (cn), LBy l2)] V7' := hS'
        clear hS'
        refine tlx_assign (.tmp 68) rfl rfl 9 rfl (by rw [HS]; decide) (.int .i64 ed) (eval_tmp q68) fun t1 ex0 hz hq he => ?_
        replace h0 := (he 0 (by decide)).trans h0
        replace h1 := (he 1 (by decide)).trans h1
        replace h5 := (he 5 (by decide)).trans h5
        replace h6 := (he 6 (by decide)).trans h6
        replace h8 := (he 8 (by decide)).trans h8
        replace h11 := (he 11 (by decide)).trans h11
        replace h7 := (he 7 (by decide)).trans h7
        replace q67 := (he 67 (by decide)).trans q67
        replace q68 := (he 68 (by decide)).trans q68
        replace HS := hz.trans HS
        clear hz he ex0
        have h9 := hq
        clear hq
        refine wpList_nil ?_
        clear HT
        obtain ⟨f, e0, hf⟩ := wash HS
        have f0 := hf 0 _ h0
        have f1 := hf 1 _ h1
        have f5 := hf 5 _ h5
        have f6 := hf 6 _ h6
        have f8 := hf 8 _ h8
        have f11 := hf 11 _ h11
        have f7 := hf 7 _ h7
        have f9 := hf 9 _ h9
        clear hf
        rw [e0.trans (show _ = #[f 0, f 1, f 2, f 3, f 4, f 5, f 6, f 7, f 8, f 9, f 10, f 11, f 12, f 13, f 14, f 15, f 16, f 17, f 18, f 19, f 20, f 21, f 22, f 23, f 24, f 25, f 26, f 27, f 28, f 29, f 30, f 31, f 32, f 33, f 34, f 35, f 36, f 37, f 38, f 39, f 40, f 41, f 42, f 43, f 44, f 45, f 46, f 47, f 48, f 49, f 50, f 51, f 52, f 53, f 54, f 55, f 56, f 57, f 58, f 59, f 60, f 61, f 62, f 63, f 64, f 65, f 66, f 67, f 68, f 69, f 70, f 71, f 72, f 73, f 74, f 75, f 76, f 77, f 78, f 79, f 80, f 81] from by kernel_rfl), f0, f1, f5, f6, f8, f11, f7, f9]
        clear f0 f1 f5 f6 f8 f11 f7 f9
        clear e0
        try dsimp only
        clear h0 h1 h5 h6 h8 h11 h7 h9 q67 q68 v67 v68 hM HS t1 t0 M
        go_wp2_with ((with_reducible refine guard_list ?_); first | (refine held_load 25 _ rfl ?_))
        obtain ⟨M, hM⟩ : ∃ M, M = V7'.heap.size := ⟨_, rfl⟩
        refine hide_held fun t0 HT => ?_
        have HS : t0.size = 82 := by rw [HT]; rfl
        have h0 : t0[0]? = some (.slice p n c) := by rw [HT]; rfl
        have h1 : t0[1]? = some (.slice q m co) := by rw [HT]; rfl
        have h5 : t0[5]? = some (.slice (some ⟨gi, 0, none⟩) n (n + 80)) := by rw [HT]; rfl
        have h6 : t0[6]? = some (.pointer (some ⟨ga, 0, none⟩)) := by rw [HT]; rfl
        have h8 : t0[8]? = some (.pointer (some ⟨gb, 0, none⟩)) := by rw [HT]; rfl
        have h11 : t0[11]? = some (.slice (some ⟨gn, 0, none⟩) n cn) := by rw [HT]; rfl
        have h7 : t0[7]? = some (.int .i64 ed) := by rw [HT]; rfl
        have h9 : t0[9]? = some (.int .i64 ed) := by rw [HT]; rfl
        clear HT
        refine wp_list_most 13 (fun i => [69, 70, 71, 72, 73, 74, 75, 76, 77, 78, 79, 80, 81].getD i 0) (fun _ => none) (fun i => [(· = .agg #[.int .i64 d0, .int .i64 d1, .int .i64 d2, .int .i64 d3, .int .i64 d4, .int .i64 d5]), (· = .agg #[.int .i64 d0, .int .i64 d1, .int .i64 d2, .int .i64 d3, .int .i64 d4, .int .i64 d5]), (· = .bool true), (· = .bool true), (· = .int .i64 ed), (· = .int .i64 ed), (· = .bool true), (· = .bool true), (· = .bool true), (· = .slice (some ⟨gi, 0, none⟩) n (n + 80)), (· = .slice (some ⟨gn, 0, none⟩) n cn), (· = .bool true), (· = .bool true)].getD i (fun _ => True)) (fun w' => Own w [(gi, (n + 80), (· = .agg (vals LL))), (ga, 6, (· = .agg #[.int .i64 d0, .int .i64 d1, .int .i64 d2, .int .i64 d3, .int .i64 d4, .int .i64 d5])), (gb, 6, (· = .agg #[.int .i64 d0, .int .i64 d1, .int .i64 d2, .int .i64 d3, .int .i64 d4, .int .i64 d5])), (gn, (cn), LBy l2)] w' ∧ M ≤ w'.heap.size) M
          (by kernel_rfl) (slots_apart (by kernel_rfl)) (slots_lie (by rw [HS]; kernel_rfl)) ⟨hS, Nat.le_of_eq hM⟩ (fun w' h => h.2) (fun w1 w2 h b => ⟨h.1.keep b, Nat.le_trans h.2 b.size⟩) ?_ ?_ ?_
        · clear hS
          intro i o hi ho hA
          have hc : i = 0 ∨ i = 1 ∨ i = 2 ∨ i = 3 ∨ i = 4 ∨ i = 5 ∨ i = 6 ∨ i = 7 ∨ i = 8 ∨ i = 9 ∨ i = 10 ∨ i = 11 ∨ i = 12 := by omega
          rcases hc with rfl | rfl | rfl | rfl | rfl | rfl | rfl | rfl | rfl | rfl | rfl | rfl | rfl
          · obtain rfl := Option.some.inj ho
            refine ⟨rfl, fun a w' hS hold hin K hK => ?_⟩
            refine if_always rfl ?_
            exact op_ld_own 6 tConf (.tmp 6) rfl rfl _ (eval_tmp ((hold 6 (slots_not (by kernel_rfl))).trans h6)) hS.1 1 rfl hK
          · obtain rfl := Option.some.inj ho
            refine ⟨rfl, fun a w' hS hold hin K hK => ?_⟩
            refine if_always rfl ?_
            exact op_ld_own 6 tConf (.tmp 8) rfl rfl _ (eval_tmp ((hold 8 (slots_not (by kernel_rfl))).trans h8)) hS.1 2 rfl hK
          · obtain rfl := Option.some.inj ho
            refine ⟨rfl, fun a w' hS hold hin K hK => ?_⟩
            obtain ⟨y0, x0, rfl⟩ := hin 0 rfl (by omega) rfl
            obtain ⟨y1, x1, rfl⟩ := hin 1 rfl (by omega) rfl
            refine if_always rfl ?_
            exact op_bin (V := (· = .bool true)) _ _ _ _ _ _ _ (.bool true) rfl rfl (eval_tmp x0) (eval_tmp x1) (fun w => eql_conf d0 d1 d2 d3 d4 d5 w) rfl hK
          · obtain rfl := Option.some.inj ho
            refine ⟨rfl, fun a w' hS hold hin K hK => ?_⟩
            obtain ⟨y2, x2, rfl⟩ := hin 2 rfl (by omega) rfl
            refine if_always rfl ?_
            exact op_move (V := (· = .bool true)) _ _ rfl rfl (eval_tmp x2) rfl hK
          · obtain rfl := Option.some.inj ho
            refine ⟨rfl, fun a w' hS hold hin K hK => ?_⟩
            obtain ⟨y3, x3, rfl⟩ := hin 3 rfl (by omega) rfl
            refine if_guard (d := 72) rfl rfl x3 ?_
            exact op_move (V := (· = .int .i64 ed)) _ _ rfl rfl (eval_tmp ((hold 7 (slots_not (by kernel_rfl))).trans h7)) rfl hK
          · obtain rfl := Option.some.inj ho
            refine ⟨rfl, fun a w' hS hold hin K hK => ?_⟩
            obtain ⟨y3, x3, rfl⟩ := hin 3 rfl (by omega) rfl
            refine if_guard (d := 72) rfl rfl x3 ?_
            exact op_move (V := (· = .int .i64 ed)) _ _ rfl rfl (eval_tmp ((hold 9 (slots_not (by kernel_rfl))).trans h9)) rfl hK
          · obtain rfl := Option.some.inj ho
            refine ⟨rfl, fun a w' hS hold hin K hK => ?_⟩
            obtain ⟨y3, x3, rfl⟩ := hin 3 rfl (by omega) rfl
            obtain ⟨y4, x4, rfl⟩ := hin 4 rfl (by omega) rfl
            obtain ⟨y5, x5, rfl⟩ := hin 5 rfl (by omega) rfl
            refine if_guard (d := 72) rfl rfl x3 ?_
            exact op_bin (V := (· = .bool true)) _ _ _ _ _ _ _ (.bool true) rfl rfl (eval_tmp x4) (eval_tmp x5) (fun w => eql_err ed w) rfl hK
          · obtain rfl := Option.some.inj ho
            refine ⟨rfl, fun a w' hS hold hin K hK => ?_⟩
            obtain ⟨y3, x3, rfl⟩ := hin 3 rfl (by omega) rfl
            obtain ⟨y6, x6, rfl⟩ := hin 6 rfl (by omega) rfl
            refine if_always rfl ?_
            exact op_pick (V := (· = .bool true)) _ _ _ true _ rfl rfl (eval_tmp x3) (show (Act.eval a _) = _ from (eval_tmp x6)) rfl hK
          · obtain rfl := Option.some.inj ho
            refine ⟨rfl, fun a w' hS hold hin K hK => ?_⟩
            obtain ⟨y7, x7, rfl⟩ := hin 7 rfl (by omega) rfl
            refine if_always rfl ?_
            exact op_move (V := (· = .bool true)) _ _ rfl rfl (eval_tmp x7) rfl hK
          · obtain rfl := Option.some.inj ho
            refine ⟨rfl, fun a w' hS hold hin K hK => ?_⟩
            obtain ⟨y8, x8, rfl⟩ := hin 8 rfl (by omega) rfl
            refine if_guard (d := 77) rfl rfl x8 ?_
            exact op_move (V := (· = .slice (some ⟨gi, 0, none⟩) n (n + 80))) _ _ rfl rfl (eval_tmp ((hold 5 (slots_not (by kernel_rfl))).trans h5)) rfl hK
          · obtain rfl := Option.some.inj ho
            refine ⟨rfl, fun a w' hS hold hin K hK => ?_⟩
            obtain ⟨y8, x8, rfl⟩ := hin 8 rfl (by omega) rfl
            refine if_guard (d := 77) rfl rfl x8 ?_
            exact op_move (V := (· = .slice (some ⟨gn, 0, none⟩) n cn)) _ _ rfl rfl (eval_tmp ((hold 11 (slots_not (by kernel_rfl))).trans h11)) rfl hK
          · obtain rfl := Option.some.inj ho
            refine ⟨rfl, fun a w' hS hold hin K hK => ?_⟩
            obtain ⟨y8, x8, rfl⟩ := hin 8 rfl (by omega) rfl
            obtain ⟨y9, x9, rfl⟩ := hin 9 rfl (by omega) rfl
            obtain ⟨y10, x10, rfl⟩ := hin 10 rfl (by omega) rfl
            refine if_guard (d := 77) rfl rfl x8 ?_
            exact op_fn2 _ _ _ _ _ _ rfl rfl (eval_tmp x9) (eval_tmp x10) (by intro args w; kernel_rfl) (eq_own l2 HN3.out (hS.1.bin 0 rfl HT3.out) (hS.1.bin2 3 rfl) HM.out) hK
          · obtain rfl := Option.some.inj ho
            refine ⟨rfl, fun a w' hS hold hin K hK => ?_⟩
            obtain ⟨y8, x8, rfl⟩ := hin 8 rfl (by omega) rfl
            obtain ⟨y11, x11, rfl⟩ := hin 11 rfl (by omega) rfl
            refine if_always rfl ?_
            exact op_pick (V := (· = .bool true)) _ _ _ true _ rfl rfl (eval_tmp x8) (show (Act.eval a _) = _ from (eval_tmp x11)) rfl hK
        · intro i o sz hi ho hA; cases hA
        clear hS
        intro t1 V8 hs hold hout hall hne hS
        replace HS := hs.trans HS
        replace hS := hS.1
        obtain ⟨x81, q81, v81⟩ : ∃ x, t1[81]? = some x ∧ ((· = .bool true)) x := hout 12 (by omega) rfl
        replace q81 : t1[81]? = some (.bool true) := q81.trans (congrArg some v81)
        replace h0 := (hold 0 (slots_not (by kernel_rfl))).trans h0
        replace h1 := (hold 1 (slots_not (by kernel_rfl))).trans h1
        replace h5 := (hold 5 (slots_not (by kernel_rfl))).trans h5
        replace h6 := (hold 6 (slots_not (by kernel_rfl))).trans h6
        replace h8 := (hold 8 (slots_not (by kernel_rfl))).trans h8
        replace h11 := (hold 11 (slots_not (by kernel_rfl))).trans h11
        replace h7 := (hold 7 (slots_not (by kernel_rfl))).trans h7
        replace h9 := (hold 9 (slots_not (by kernel_rfl))).trans h9
        clear hold hout hs hall hne
        simp only [List.drop_succ_cons, List.drop_zero]
        refine tlx_assign (.tmp 81) rfl rfl 4 rfl (by rw [HS]; decide) (.bool true) (eval_tmp q81) fun t1 ex0 hz hq he => ?_
        replace h0 := (he 0 (by decide)).trans h0
        replace h1 := (he 1 (by decide)).trans h1
        replace h5 := (he 5 (by decide)).trans h5
        replace h6 := (he 6 (by decide)).trans h6
        replace h8 := (he 8 (by decide)).trans h8
        replace h11 := (he 11 (by decide)).trans h11
        replace h7 := (he 7 (by decide)).trans h7
        replace h9 := (he 9 (by decide)).trans h9
        replace q81 := (he 81 (by decide)).trans q81
        replace HS := hz.trans HS
        clear hz he ex0
        have h4 := hq
        clear hq
        refine wpList_nil ?_
        obtain ⟨f, e0, hf⟩ := wash HS
        have f0 := hf 0 _ h0
        have f1 := hf 1 _ h1
        have f5 := hf 5 _ h5
        have f6 := hf 6 _ h6
        have f8 := hf 8 _ h8
        have f11 := hf 11 _ h11
        have f7 := hf 7 _ h7
        have f9 := hf 9 _ h9
        have f4 := hf 4 _ h4
        clear hf
        rw [e0.trans (show _ = #[f 0, f 1, f 2, f 3, f 4, f 5, f 6, f 7, f 8, f 9, f 10, f 11, f 12, f 13, f 14, f 15, f 16, f 17, f 18, f 19, f 20, f 21, f 22, f 23, f 24, f 25, f 26, f 27, f 28, f 29, f 30, f 31, f 32, f 33, f 34, f 35, f 36, f 37, f 38, f 39, f 40, f 41, f 42, f 43, f 44, f 45, f 46, f 47, f 48, f 49, f 50, f 51, f 52, f 53, f 54, f 55, f 56, f 57, f 58, f 59, f 60, f 61, f 62, f 63, f 64, f 65, f 66, f 67, f 68, f 69, f 70, f 71, f 72, f 73, f 74, f 75, f 76, f 77, f 78, f 79, f 80, f 81] from by kernel_rfl), f0, f1, f5, f6, f8, f11, f7, f9, f4]
        clear f0 f1 f5 f6 f8 f11 f7 f9 f4
        clear e0
        try dsimp only
        clear h0 h1 h5 h6 h8 h11 h7 h9 h4 q81 v81 hM HS t1 t0 M
        have HBe := Lib.hid hS.1
        clear hS
        go_wp2_with fail
        exact ⟨rfl, .bool true, by kernel_rfl, rfl, HBe.out⟩
      · obtain rfl : n = k := by omega
        clear hgo
        go_wp2_with ((with_reducible refine guard_list ?_); first | (refine held_fn _ _ _ rfl ?_))
        have hS := HS9.out
        clear HS9
        obtain ⟨M, hM⟩ : ∃ M, M = wr.heap.size := ⟨_, rfl⟩
        refine hide_held fun t0 HT => ?_
        have HS : t0.size = 82 := by rw [HT]; rfl
        have h0 : t0[0]? = some (.slice p n c) := by rw [HT]; rfl
        have h1 : t0[1]? = some (.slice q m co) := by rw [HT]; rfl
        have h5 : t0[5]? = some (.slice (some ⟨gi, 0, none⟩) n (n + 80)) := by rw [HT]; rfl
        have h6 : t0[6]? = some (.pointer (some ⟨ga, 0, none⟩)) := by rw [HT]; rfl
        have h8 : t0[8]? = some (.pointer (some ⟨gb, 0, none⟩)) := by rw [HT]; rfl
        refine wp_from_most 1 (fun i => [57].getD i 0) (fun _ => none) (fun i => [(· = .slice (some ⟨gi, 0, none⟩) n (n + 80))].getD i (fun _ => True)) (fun w' => Own w [(gi, (n + 80), (· = .agg (vals LL))), (ga, 6, (· = .agg #[.int .i64 c0, .int .i64 c1, .int .i64 c2, .int .i64 c3, .int .i64 c4, .int .i64 c5])), (gb, 6, (· = .agg #[.int .i64 c0, .int .i64 c1, .int .i64 c2, .int .i64 c3, .int .i64 c4, .int .i64 c5]))] w' ∧ M ≤ w'.heap.size) M
          1 (by omega) (by kernel_rfl) ?_ (slots_apart (by kernel_rfl)) (slots_lie (by rw [HS]; kernel_rfl)) ⟨hS, Nat.le_of_eq hM⟩ (fun w' h => h.2) (fun w1 w2 h b => ⟨h.1.keep b, Nat.le_trans h.2 b.size⟩) ?_ ?_ ?_
        · intro j hj _
          have hc : j = 0 := by omega
          rcases hc with rfl
          · exact ⟨rfl, _, by rw [HT]; rfl, rfl⟩
        · clear hS
          intro i o h0i hi ho hA
          exfalso; omega
        · intro i o sz h0i hi ho hA; cases hA
        clear hS
        intro t1 V5 hs hold hout hall hne hS
        replace HS := hs.trans HS
        replace hS := hS.1
        obtain ⟨x57, q57, v57⟩ : ∃ x, t1[57]? = some x ∧ ((· = .slice (some ⟨gi, 0, none⟩) n (n + 80))) x := hout 0 (by omega) rfl
        replace q57 : t1[57]? = some (.slice (some ⟨gi, 0, none⟩) n (n + 80)) := q57.trans (congrArg some v57)
        replace h0 := (hold 0 (slots_not (by kernel_rfl))).trans h0
        replace h1 := (hold 1 (slots_not (by kernel_rfl))).trans h1
        replace h5 := (hold 5 (slots_not (by kernel_rfl))).trans h5
        replace h6 := (hold 6 (slots_not (by kernel_rfl))).trans h6
        replace h8 := (hold 8 (slots_not (by kernel_rfl))).trans h8
        clear hold hout hs hall hne
        simp only [List.drop_succ_cons, List.drop_zero]
        refine tlx_newB1 n HN3.out _ (.tmp 57) _ rfl rfl 58 rfl (by rw [HS]; decide) (eval_tmp q57) (by intro args w; kernel_rfl) (copyBytes_any _ l2 n _ _ HN3.out (hS.bin 0 rfl HT3.out) HM.out) hS fun gn cn t1 V5' hS' hcn ex0 hz hq he => ?_
        have HCN := Lib.hid hcn
        clear hcn
        replace h0 := (he 0 (by decide)).trans h0
        replace h1 := (he 1 (by decide)).trans h1
        replace h5 := (he 5 (by decide)).trans h5
        replace h6 := (he 6 (by decide)).trans h6
        replace h8 := (he 8 (by decide)).trans h8
        replace q57 := (he 57 (by decide)).trans q57
        replace HS := hz.trans HS
        clear hz he ex0
        have h58 := hq
        clear hq
        replace hS : Own w [(gi, (n + 80), (· = .agg (vals LL))), (ga, 6, (· = .agg #[.int .i64 c0, .int .i64 c1, .int .i64 c2, .int .i64 c3, .int .i64 c4, .int .i64 c5])), (gb, 6, (· = .agg #[.int .i64 c0, .int .i64 c1, .int .i64 c2, .int .i64 c3, .int .i64 c4, .int .i64 c5])), (gn, (cn), LBy l2)] V5' := hS'
        clear hS'
        refine tlx_assign (.tmp 58) rfl rfl 11 rfl (by rw [HS]; decide) (.slice (some ⟨gn, 0, none⟩) n cn) (eval_tmp h58) fun t1 ex1 hz hq he => ?_
        replace h0 := (he 0 (by decide)).trans h0
        replace h1 := (he 1 (by decide)).trans h1
        replace h5 := (he 5 (by decide)).trans h5
        replace h6 := (he 6 (by decide)).trans h6
        replace h8 := (he 8 (by decide)).trans h8
        replace h58 := (he 58 (by decide)).trans h58
        replace q57 := (he 57 (by decide)).trans q57
        replace HS := hz.trans HS
        clear hz he ex1
        have h11 := hq
        clear hq
        refine wpList_nil ?_
        clear HT
        obtain ⟨f, e0, hf⟩ := wash HS
        have f0 := hf 0 _ h0
        have f1 := hf 1 _ h1
        have f5 := hf 5 _ h5
        have f6 := hf 6 _ h6
        have f8 := hf 8 _ h8
        have f58 := hf 58 _ h58
        have f11 := hf 11 _ h11
        clear hf
        rw [e0.trans (show _ = #[f 0, f 1, f 2, f 3, f 4, f 5, f 6, f 7, f 8, f 9, f 10, f 11, f 12, f 13, f 14, f 15, f 16, f 17, f 18, f 19, f 20, f 21, f 22, f 23, f 24, f 25, f 26, f 27, f 28, f 29, f 30, f 31, f 32, f 33, f 34, f 35, f 36, f 37, f 38, f 39, f 40, f 41, f 42, f 43, f 44, f 45, f 46, f 47, f 48, f 49, f 50, f 51, f 52, f 53, f 54, f 55, f 56, f 57, f 58, f 59, f 60, f 61, f 62, f 63, f 64, f 65, f 66, f 67, f 68, f 69, f 70, f 71, f 72, f 73, f 74, f 75, f 76, f 77, f 78, f 79, f 80, f 81] from by kernel_rfl), f0, f1, f5, f6, f8, f58, f11]
        clear f0 f1 f5 f6 f8 f58 f11
        clear e0
        try dsimp only
        clear h0 h1 h5 h6 h8 h58 h11 q57 v57 hM HS t1 t0 M
        go_wp2_with ((with_reducible refine guard_list ?_); first | (refine held_fn _ _ _ rfl ?_))
        obtain ⟨M, hM⟩ : ∃ M, M = V5'.heap.size := ⟨_, rfl⟩
        refine hide_held fun t0 HT => ?_
        have HS : t0.size = 82 := by rw [HT]; rfl
        have h0 : t0[0]? = some (.slice p n c) := by rw [HT]; rfl
        have h1 : t0[1]? = some (.slice q m co) := by rw [HT]; rfl
        have h5 : t0[5]? = some (.slice (some ⟨gi, 0, none⟩) n (n + 80)) := by rw [HT]; rfl
        have h6 : t0[6]? = some (.pointer (some ⟨ga, 0, none⟩)) := by rw [HT]; rfl
        have h8 : t0[8]? = some (.pointer (some ⟨gb, 0, none⟩)) := by rw [HT]; rfl
        have h11 : t0[11]? = some (.slice (some ⟨gn, 0, none⟩) n cn) := by rw [HT]; rfl
        refine wp_from_most 5 (fun i => [60, 61, 59, 62, 63].getD i 0) (fun _ => none) (fun i => [(· = .slice (some ⟨gi, 0, none⟩) n (n + 80)), (· = .tuple #[.agg #[.int .i64 d0, .int .i64 d1, .int .i64 d2, .int .i64 d3, .int .i64 d4, .int .i64 d5], .int .i64 ed]), (· = .tuple #[.agg #[.int .i64 d0, .int .i64 d1, .int .i64 d2, .int .i64 d3, .int .i64 d4, .int .i64 d5], .int .i64 ed]), (· = .agg #[.int .i64 d0, .int .i64 d1, .int .i64 d2, .int .i64 d3, .int .i64 d4, .int .i64 d5]), (· = .int .i64 ed)].getD i (fun _ => True)) (fun w' => Own w [(gi, (n + 80), (· = .agg (vals LL))), (ga, 6, (· = .agg #[.int .i64 c0, .int .i64 c1, .int .i64 c2, .int .i64 c3, .int .i64 c4, .int .i64 c5])), (gb, 6, (· = .agg #[.int .i64 c0, .int .i64 c1, .int .i64 c2, .int .i64 c3, .int .i64 c4, .int .i64 c5])), (gn, (cn), LBy l2)] w' ∧ M ≤ w'.heap.size) M
          1 (by omega) (by kernel_rfl) ?_ (slots_apart (by kernel_rfl)) (slots_lie (by rw [HS]; kernel_rfl)) ⟨hS, Nat.le_of_eq hM⟩ (fun w' h => h.2) (fun w1 w2 h b => ⟨h.1.keep b, Nat.le_trans h.2 b.size⟩) ?_ ?_ ?_
        · intro j hj _
          have hc : j = 0 := by omega
          rcases hc with rfl
          · exact ⟨rfl, _, by rw [HT]; rfl, rfl⟩
        · clear hS
          intro i o h0i hi ho hA
          have hc : i = 1 ∨ i = 2 ∨ i = 3 ∨ i = 4 := by omega
          rcases hc with rfl | rfl | rfl | rfl
          · obtain rfl := Option.some.inj ho
            refine ⟨rfl, fun a w' hS hold hin K hK => ?_⟩
            obtain ⟨y0, x0, rfl⟩ := hin 0 rfl (by omega) rfl
            refine if_always rfl ?_
            exact op_fn1 _ _ _ _ rfl rfl (eval_tmp x0) (by intro args w; kernel_rfl) (parse_ev HPD.out HN3.out HB3.out _ (hS.1.bin 0 rfl HT3.out)) hK
          · obtain rfl := Option.some.inj ho
            refine ⟨rfl, fun a w' hS hold hin K hK => ?_⟩
            obtain ⟨y1, x1, rfl⟩ := hin 1 rfl (by omega) rfl
            refine if_always rfl ?_
            exact op_move (V := (· = .tuple #[.agg #[.int .i64 d0, .int .i64 d1, .int .i64 d2, .int .i64 d3, .int .i64 d4, .int .i64 d5], .int .i64 ed])) _ _ rfl rfl (eval_tmp x1) rfl hK
          · obtain rfl := Option.some.inj ho
            refine ⟨rfl, fun a w' hS hold hin K hK => ?_⟩
            obtain ⟨y2, x2, rfl⟩ := hin 2 rfl (by omega) rfl
            refine if_always rfl ?_
            exact op_tup0 (V := (· = .agg #[.int .i64 d0, .int .i64 d1, .int .i64 d2, .int .i64 d3, .int .i64 d4, .int .i64 d5])) _ rfl rfl (eval_tmp x2) rfl hK
          · obtain rfl := Option.some.inj ho
            refine ⟨rfl, fun a w' hS hold hin K hK => ?_⟩
            obtain ⟨y2, x2, rfl⟩ := hin 2 rfl (by omega) rfl
            refine if_always rfl ?_
            exact op_tup1 (V := (· = .int .i64 ed)) _ rfl rfl (eval_tmp x2) rfl hK
        · intro i o sz h0i hi ho hA; cases hA
        clear hS
        intro t1 V6 hs hold hout hall hne hS
        replace HS := hs.trans HS
        replace hS := hS.1
        obtain ⟨x62, q62, v62⟩ : ∃ x, t1[62]? = some x ∧ ((· = .agg #[.int .i64 d0, .int .i64 d1, .int .i64 d2, .int .i64 d3, .int .i64 d4, .int .i64 d5])) x := hout 3 (by omega) rfl
        replace q62 : t1[62]? = some (.agg #[.int .i64 d0, .int .i64 d1, .int .i64 d2, .int .i64 d3, .int .i64 d4, .int .i64 d5]) := q62.trans (congrArg some v62)
        obtain ⟨x63, q63, v63⟩ : ∃ x, t1[63]? = some x ∧ ((· = .int .i64 ed)) x := hout 4 (by omega) rfl
        replace q63 : t1[63]? = some (.int .i64 ed) := q63.trans (congrArg some v63)
        replace h0 := (hold 0 (slots_not (by kernel_rfl))).trans h0
        replace h1 := (hold 1 (slots_not (by kernel_rfl))).trans h1
        replace h5 := (hold 5 (slots_not (by kernel_rfl))).trans h5
        replace h6 := (hold 6 (slots_not (by kernel_rfl))).trans h6
        replace h8 := (hold 8 (slots_not (by kernel_rfl))).trans h8
        replace h11 := (hold 11 (slots_not (by kernel_rfl))).trans h11
        clear hold hout hs hall hne
        simp only [List.drop_succ_cons, List.drop_zero]
        refine st_own 6 tConf rfl (.tmp 6) (.tmp 62) rfl rfl _ _ (eval_tmp h6) (eval_tmp q62) (V' := (· = .agg #[.int .i64 d0, .int .i64 d1, .int .i64 d2, .int .i64 d3, .int .i64 d4, .int .i64 d5])) rfl by_conf hS 1 rfl fun V6' hS' _ => ?_
        replace hS : Own w [(gi, (n + 80), (· = .agg (vals LL))), (ga, 6, (· = .agg #[.int .i64 d0, .int .i64 d1, .int .i64 d2, .int .i64 d3, .int .i64 d4, .int .i64 d5])), (gb, 6, (· = .agg #[.int .i64 c0, .int .i64 c1, .int .i64 c2, .int .i64 c3, .int .i64 c4, .int .i64 c5])), (gn, (cn), LBy l2)] V6' := hS'
        clear hS'
        refine tlx_assign (.tmp 63) rfl rfl 7 rfl (by rw [HS]; decide) (.int .i64 ed) (eval_tmp q63) fun t1 ex0 hz hq he => ?_
        replace h0 := (he 0 (by decide)).trans h0
        replace h1 := (he 1 (by decide)).trans h1
        replace h5 := (he 5 (by decide)).trans h5
        replace h6 := (he 6 (by decide)).trans h6
        replace h8 := (he 8 (by decide)).trans h8
        replace h11 := (he 11 (by decide)).trans h11
        replace q62 := (he 62 (by decide)).trans q62
        replace q63 := (he 63 (by decide)).trans q63
        replace HS := hz.trans HS
        clear hz he ex0
        have h7 := hq
        clear hq
        refine wpList_nil ?_
        clear HT
        obtain ⟨f, e0, hf⟩ := wash HS
        have f0 := hf 0 _ h0
        have f1 := hf 1 _ h1
        have f5 := hf 5 _ h5
        have f6 := hf 6 _ h6
        have f8 := hf 8 _ h8
        have f11 := hf 11 _ h11
        have f7 := hf 7 _ h7
        clear hf
        rw [e0.trans (show _ = #[f 0, f 1, f 2, f 3, f 4, f 5, f 6, f 7, f 8, f 9, f 10, f 11, f 12, f 13, f 14, f 15, f 16, f 17, f 18, f 19, f 20, f 21, f 22, f 23, f 24, f 25, f 26, f 27, f 28, f 29, f 30, f 31, f 32, f 33, f 34, f 35, f 36, f 37, f 38, f 39, f 40, f 41, f 42, f 43, f 44, f 45, f 46, f 47, f 48, f 49, f 50, f 51, f 52, f 53, f 54, f 55, f 56, f 57, f 58, f 59, f 60, f 61, f 62, f 63, f 64, f 65, f 66, f 67, f 68, f 69, f 70, f 71, f 72, f 73, f 74, f 75, f 76, f 77, f 78, f 79, f 80, f 81] from by kernel_rfl), f0, f1, f5, f6, f8, f11, f7]
        clear f0 f1 f5 f6 f8 f11 f7
        clear e0
        try dsimp only
        clear h0 h1 h5 h6 h8 h11 h7 q62 q63 v62 v63 hM HS t1 t0 M
        go_wp2_with ((with_reducible refine guard_list ?_); first | (refine held_fn _ _ _ rfl ?_))
        obtain ⟨M, hM⟩ : ∃ M, M = V6'.heap.size := ⟨_, rfl⟩
        refine hide_held fun t0 HT => ?_
        have HS : t0.size = 82 := by rw [HT]; rfl
        have h0 : t0[0]? = some (.slice p n c) := by rw [HT]; rfl
        have h1 : t0[1]? = some (.slice q m co) := by rw [HT]; rfl
        have h5 : t0[5]? = some (.slice (some ⟨gi, 0, none⟩) n (n + 80)) := by rw [HT]; rfl
        have h6 : t0[6]? = some (.pointer (some ⟨ga, 0, none⟩)) := by rw [HT]; rfl
        have h8 : t0[8]? = some (.pointer (some ⟨gb, 0, none⟩)) := by rw [HT]; rfl
        have h11 : t0[11]? = some (.slice (some ⟨gn, 0, none⟩) n cn) := by rw [HT]; rfl
        have h7 : t0[7]? = some (.int .i64 ed) := by rw [HT]; rfl
        refine wp_from_most 5 (fun i => [65, 66, 64, 67, 68].getD i 0) (fun _ => none) (fun i => [(· = .slice (some ⟨gn, 0, none⟩) n cn), (· = .tuple #[.agg #[.int .i64 d0, .int .i64 d1, .int .i64 d2, .int .i64 d3, .int .i64 d4, .int .i64 d5], .int .i64 ed]), (· = .tuple #[.agg #[.int .i64 d0, .int .i64 d1, .int .i64 d2, .int .i64 d3, .int .i64 d4, .int .i64 d5], .int .i64 ed]), (· = .agg #[.int .i64 d0, .int .i64 d1, .int .i64 d2, .int .i64 d3, .int .i64 d4, .int .i64 d5]), (· = .int .i64 ed)].getD i (fun _ => True)) (fun w' => Own w [(gi, (n + 80), (· = .agg (vals LL))), (ga, 6, (· = .agg #[.int .i64 d0, .int .i64 d1, .int .i64 d2, .int .i64 d3, .int .i64 d4, .int .i64 d5])), (gb, 6, (· = .agg #[.int .i64 c0, .int .i64 c1, .int .i64 c2, .int .i64 c3, .int .i64 c4, .int .i64 c5])), (gn, (cn), LBy l2)] w' ∧ M ≤ w'.heap.size) M
          1 (by omega) (by kernel_rfl) ?_ (slots_apart (by kernel_rfl)) (slots_lie (by rw [HS]; kernel_rfl)) ⟨hS, Nat.le_of_eq hM⟩ (fun w' h => h.2) (fun w1 w2 h b => ⟨h.1.keep b, Nat.le_trans h.2 b.size⟩) ?_ ?_ ?_
        · intro j hj _
          have hc : j = 0 := by omega
          rcases hc with rfl
          · exact ⟨rfl, _, by rw [HT]; rfl, rfl⟩
        · clear hS
          intro i o h0i hi ho hA
          have hc : i = 1 ∨ i = 2 ∨ i = 3 ∨ i = 4 := by omega
          rcases hc with rfl | rfl | rfl | rfl
          · obtain rfl := Option.some.inj ho
            refine ⟨rfl, fun a w' hS hold hin K hK => ?_⟩
            obtain ⟨y0, x0, rfl⟩ := hin 0 rfl (by omega) rfl
            refine if_always rfl ?_
            exact op_fn1 _ _ _ _ rfl rfl (eval_tmp x0) (by intro args w; kernel_rfl) (parseR_ev HPD.out HN3.out HB3.out _ (hS.1.bin2 3 rfl) HCN.out) hK
          · obtain rfl := Option.some.inj ho
            refine ⟨rfl, fun a w' hS hold hin K hK => ?_⟩
            obtain ⟨y1, x1, rfl⟩ := hin 1 rfl (by omega) rfl
            refine if_always rfl ?_
            exact op_move (V := (· = .tuple #[.agg #[.int .i64 d0, .int .i64 d1, .int .i64 d2, .int .i64 d3, .int .i64 d4, .int .i64 d5], .int .i64 ed])) _ _ rfl rfl (eval_tmp x1) rfl hK
          · obtain rfl := Option.some.inj ho
            refine ⟨rfl, fun a w' hS hold hin K hK => ?_⟩
            obtain ⟨y2, x2, rfl⟩ := hin 2 rfl (by omega) rfl
            refine if_always rfl ?_
            exact op_tup0 (V := (· = .agg #[.int .i64 d0, .int .i64 d1, .int .i64 d2, .int .i64 d3, .int .i64 d4, .int .i64 d5])) _ rfl rfl (eval_tmp x2) rfl hK
          · obtain rfl := Option.some.inj ho
            refine ⟨rfl, fun a w' hS hold hin K hK => ?_⟩
            obtain ⟨y2, x2, rfl⟩ := hin 2 rfl (by omega) rfl
            refine if_always rfl ?_
            exact op_tup1 (V := (· = .int .i64 ed)) _ rfl rfl (eval_tmp x2) rfl hK
        · intro i o sz h0i hi ho hA; cases hA
        clear hS
        intro t1 V7 hs hold hout hall hne hS
        replace HS := hs.trans HS
        replace hS := hS.1
        obtain ⟨x67, q67, v67⟩ : ∃ x, t1[67]? = some x ∧ ((· = .agg #[.int .i64 d0, .int .i64 d1, .int .i64 d2, .int .i64 d3, .int .i64 d4, .int .i64 d5])) x := hout 3 (by omega) rfl
        replace q67 : t1[67]? = some (.agg #[.int .i64 d0, .int .i64 d1, .int .i64 d2, .int .i64 d3, .int .i64 d4, .int .i64 d5]) := q67.trans (congrArg some v67)
        obtain ⟨x68, q68, v68⟩ : ∃ x, t1[68]? = some x ∧ ((· = .int .i64 ed)) x := hout 4 (by omega) rfl
        replace q68 : t1[68]? = some (.int .i64 ed) := q68.trans (congrArg some v68)
        replace h0 := (hold 0 (slots_not (by kernel_rfl))).trans h0
        replace h1 := (hold 1 (slots_not (by kernel_rfl))).trans h1
        replace h5 := (hold 5 (slots_not (by kernel_rfl))).trans h5
        replace h6 := (hold 6 (slots_not (by kernel_rfl))).trans h6
        replace h8 := (hold 8 (slots_not (by kernel_rfl))).trans h8
        replace h11 := (hold 11 (slots_not (by kernel_rfl))).trans h11
        replace h7 := (hold 7 (slots_not (by kernel_rfl))).trans h7
        clear hold hout hs hall hne
        simp only [List.drop_succ_cons, List.drop_zero]
        refine st_own 6 tConf rfl (.tmp 8) (.tmp 67) rfl rfl _ _ (eval_tmp h8) (eval_tmp q67) (V' := (· = .agg #[.int .i64 d0, .int .i64 d1, .int .i64 d2, .int .i64 d3, .int .i64 d4, .int .i64 d5])) rfl by_conf hS 2 rfl fun V7' hS' _ => ?_
        replace hS : Own w [(gi, (n + 80), (· = .agg (vals LL))), (ga, 6, (· = .agg #[.int .i64 d0, .int .i64 d1, .int .i64 d2, .int .i64 d3, .int .i64 d4, .int .i64 d5])), (gb, 6, (· = .agg #[.int .i64 d0, .int .i64 d1, .int .i64 d2, .int .i64 d3, .int .i64 d4, .int .i64 d5])), (gn, (cn), LBy l2)] V7' := hS'
        clear hS'
        refine tlx_assign (.tmp 68) rfl rfl 9 rfl (by rw [HS]; decide) (.int .i64 ed) (eval_tmp q68) fun t1 ex0 hz hq he => ?_
        replace h0 := (he 0 (by decide)).trans h0
        replace h1 := (he 1 (by decide)).trans h1
        replace h5 := (he 5 (by decide)).trans h5
        replace h6 := (he 6 (by decide)).trans h6
        replace h8 := (he 8 (by decide)).trans h8
        replace h11 := (he 11 (by decide)).trans h11
        replace h7 := (he 7 (by decide)).trans h7
        replace q67 := (he 67 (by decide)).trans q67
        replace q68 := (he 68 (by decide)).trans q68
        replace HS := hz.trans HS
        clear hz he ex0
        have h9 := hq
        clear hq
        refine wpList_nil ?_
        clear HT
        obtain ⟨f, e0, hf⟩ := wash HS
        have f0 := hf 0 _ h0
        have f1 := hf 1 _ h1
        have f5 := hf 5 _ h5
        have f6 := hf 6 _ h6
        have f8 := hf 8 _ h8
        have f11 := hf 11 _ h11
        have f7 := hf 7 _ h7
        have f9 := hf 9 _ h9
        clear hf
        rw [e0.trans (show _ = #[f 0, f 1, f 2, f 3, f 4, f 5, f 6, f 7, f 8, f 9, f 10, f 11, f 12, f 13, f 14, f 15, f 16, f 17, f 18, f 19, f 20, f 21, f 22, f 23, f 24, f 25, f 26, f 27, f 28, f 29, f 30, f 31, f 32, f 33, f 34, f 35, f 36, f 37, f 38, f 39, f 40, f 41, f 42, f 43, f 44, f 45, f 46, f 47, f 48, f 49, f 50, f 51, f 52, f 53, f 54, f 55, f 56, f 57, f 58, f 59, f 60, f 61, f 62, f 63, f 64, f 65, f 66, f 67, f 68, f 69, f 70, f 71, f 72, f 73, f 74, f 75, f 76, f 77, f 78, f 79, f 80, f 81] from by kernel_rfl), f0, f1, f5, f6, f8, f11, f7, f9]
        clear f0 f1 f5 f6 f8 f11 f7 f9
        clear e0
        try dsimp only
        clear h0 h1 h5 h6 h8 h11 h7 h9 q67 q68 v67 v68 hM HS t1 t0 M
        go_wp2_with ((with_reducible refine guard_list ?_); first | (refine held_load 25 _ rfl ?_))
        obtain ⟨M, hM⟩ : ∃ M, M = V7'.heap.size := ⟨_, rfl⟩
        refine hide_held fun t0 HT => ?_
        have HS : t0.size = 82 := by rw [HT]; rfl
        have h0 : t0[0]? = some (.slice p n c) := by rw [HT]; rfl
        have h1 : t0[1]? = some (.slice q m co) := by rw [HT]; rfl
        have h5 : t0[5]? = some (.slice (some ⟨gi, 0, none⟩) n (n + 80)) := by rw [HT]; rfl
        have h6 : t0[6]? = some (.pointer (some ⟨ga, 0, none⟩)) := by rw [HT]; rfl
        have h8 : t0[8]? = some (.pointer (some ⟨gb, 0, none⟩)) := by rw [HT]; rfl
        have h11 : t0[11]? = some (.slice (some ⟨gn, 0, none⟩) n cn) := by rw [HT]; rfl
        have h7 : t0[7]? = some (.int .i64 ed) := by rw [HT]; rfl
        have h9 : t0[9]? = some (.int .i64 ed) := by rw [HT]; rfl
        clear HT
        refine wp_list_most 13 (fun i => [69, 70, 71, 72, 73, 74, 75, 76, 77, 78, 79, 80, 81].getD i 0) (fun _ => none) (fun i => [(· = .agg #[.int .i64 d0, .int .i64 d1, .int .i64 d2, .int .i64 d3, .int .i64 d4, .int .i64 d5]), (· = .agg #[.int .i64 d0, .int .i64 d1, .int .i64 d2, .int .i64 d3, .int .i64 d4, .int .i64 d5]), (· = .bool true), (· = .bool true), (· = .int .i64 ed), (· = .int .i64 ed), (· = .bool true), (· = .bool true), (· = .bool true), (· = .slice (some ⟨gi, 0, none⟩) n (n + 80)), (· = .slice (some ⟨gn, 0, none⟩) n cn), (· = .bool true), (· = .bool true)].getD i (fun _ => True)) (fun w' => Own w [(gi, (n + 80), (· = .agg (vals LL))), (ga, 6, (· = .agg #[.int .i64 d0, .int .i64 d1, .int .i64 d2, .int .i64 d3, .int .i64 d4, .int .i64 d5])), (gb, 6, (· = .agg #[.int .i64 d0, .int .i64 d1, .int .i64 d2, .int .i64 d3, .int .i64 d4, .int .i64 d5])), (gn, (cn), LBy l2)] w' ∧ M ≤ w'.heap.size) M
          (by kernel_rfl) (slots_apart (by kernel_rfl)) (slots_lie (by rw [HS]; kernel_rfl)) ⟨hS, Nat.le_of_eq hM⟩ (fun w' h => h.2) (fun w1 w2 h b => ⟨h.1.keep b, Nat.le_trans h.2 b.size⟩) ?_ ?_ ?_
        · clear hS
          intro i o hi ho hA
          have hc : i = 0 ∨ i = 1 ∨ i = 2 ∨ i = 3 ∨ i = 4 ∨ i = 5 ∨ i = 6 ∨ i = 7 ∨ i = 8 ∨ i = 9 ∨ i = 10 ∨ i = 11 ∨ i = 12 := by omega
          rcases hc with rfl | rfl | rfl | rfl | rfl | rfl | rfl | rfl | rfl | rfl | rfl | rfl | rfl
          · obtain rfl := Option.some.inj ho
            refine ⟨rfl, fun a w' hS hold hin K hK => ?_⟩
            refine if_always rfl ?_
            exact op_ld_own 6 tConf (.tmp 6) rfl rfl _ (eval_tmp ((hold 6 (slots_not (by kernel_rfl))).trans h6)) hS.1 1 rfl hK
          · obtain rfl := Option.some.inj ho
            refine ⟨rfl, fun a w' hS hold hin K hK => ?_⟩
            refine if_always rfl ?_
            exact op_ld_own 6 tConf (.tmp 8) rfl rfl _ (eval_tmp ((hold 8 (slots_not (by kernel_rfl))).trans h8)) hS.1 2 rfl hK
          · obtain rfl := Option.some.inj ho
            refine ⟨rfl, fun a w' hS hold hin K hK => ?_⟩
            obtain ⟨y0, x0, rfl⟩ := hin 0 rfl (by omega) rfl
            obtain ⟨y1, x1, rfl⟩ := hin 1 rfl (by omega) rfl
            refine if_always rfl ?_
            exact op_bin (V := (· = .bool true)) _ _ _ _ _ _ _ (.bool true) rfl rfl (eval_tmp x0) (eval_tmp x1) (fun w => eql_conf d0 d1 d2 d3 d4 d5 w) rfl hK
          · obtain rfl := Option.some.inj ho
            refine ⟨rfl, fun a w' hS hold hin K hK => ?_⟩
            obtain ⟨y2, x2, rfl⟩ := hin 2 rfl (by omega) rfl
            refine if_always rfl ?_
            exact op_move (V := (· = .bool true)) _ _ rfl rfl (eval_tmp x2) rfl hK
          · obtain rfl := Option.some.inj ho
            refine ⟨rfl, fun a w' hS hold hin K hK => ?_⟩
            obtain ⟨y3, x3, rfl⟩ := hin 3 rfl (by omega) rfl
            refine if_guard (d := 72) rfl rfl x3 ?_
            exact op_move (V := (· = .int .i64 ed)) _ _ rfl rfl (eval_tmp ((hold 7 (slots_not (by kernel_rfl))).trans h7)) rfl hK
          · obtain rfl := Option.some.inj ho
            refine ⟨rfl, fun a w' hS hold hin K hK => ?_⟩
            obtain ⟨y3, x3, rfl⟩ := hin 3 rfl (by omega) rfl
            refine if_guard (d := 72) rfl rfl x3 ?_
            exact op_move (V := (· = .int .i64 ed)) _ _ rfl rfl (eval_tmp ((hold 9 (slots_not (by kernel_rfl))).trans h9)) rfl hK
          · obtain rfl := Option.some.inj ho
            refine ⟨rfl, fun a w' hS hold hin K hK => ?_⟩
            obtain ⟨y3, x3, rfl⟩ := hin 3 rfl (by omega) rfl
            obtain ⟨y4, x4, rfl⟩ := hin 4 rfl (by omega) rfl
            obtain ⟨y5, x5, rfl⟩ := hin 5 rfl (by omega) rfl
            refine if_guard (d := 72) rfl rfl x3 ?_
            exact op_bin (V := (· = .bool true)) _ _ _ _ _ _ _ (.bool true) rfl rfl (eval_tmp x4) (eval_tmp x5) (fun w => eql_err ed w) rfl hK
          · obtain rfl := Option.some.inj ho
            refine ⟨rfl, fun a w' hS hold hin K hK => ?_⟩
            obtain ⟨y3, x3, rfl⟩ := hin 3 rfl (by omega) rfl
            obtain ⟨y6, x6, rfl⟩ := hin 6 rfl (by omega) rfl
            refine if_always rfl ?_
            exact op_pick (V := (· = .bool true)) _ _ _ true _ rfl rfl (eval_tmp x3) (show (Act.eval a _) = _ from (eval_tmp x6)) rfl hK
          · obtain rfl := Option.some.inj ho
            refine ⟨rfl, fun a w' hS hold hin K hK => ?_⟩
            obtain ⟨y7, x7, rfl⟩ := hin 7 rfl (by omega) rfl
            refine if_always rfl ?_
            exact op_move (V := (· = .bool true)) _ _ rfl rfl (eval_tmp x7) rfl hK
          · obtain rfl := Option.some.inj ho
            refine ⟨rfl, fun a w' hS hold hin K hK => ?_⟩
            obtain ⟨y8, x8, rfl⟩ := hin 8 rfl (by omega) rfl
            refine if_guard (d := 77) rfl rfl x8 ?_
            exact op_move (V := (· = .slice (some ⟨gi, 0, none⟩) n (n + 80))) _ _ rfl rfl (eval_tmp ((hold 5 (slots_not (by kernel_rfl))).trans h5)) rfl hK
          · obtain rfl := Option.some.inj ho
            refine ⟨rfl, fun a w' hS hold hin K hK => ?_⟩
            obtain ⟨y8, x8, rfl⟩ := hin 8 rfl (by omega) rfl
            refine if_guard (d := 77) rfl rfl x8 ?_
            exact op_move (V := (· = .slice (some ⟨gn, 0, none⟩) n cn)) _ _ rfl rfl (eval_tmp ((hold 11 (slots_not (by kernel_rfl))).trans h11)) rfl hK
          · obtain rfl := Option.some.inj ho
            refine ⟨rfl, fun a w' hS hold hin K hK => ?_⟩
            obtain ⟨y8, x8, rfl⟩ := hin 8 rfl (by omega) rfl
            obtain ⟨y9, x9, rfl⟩ := hin 9 rfl (by omega) rfl
            obtain ⟨y10, x10, rfl⟩ := hin 10 rfl (by omega) rfl
            refine if_guard (d := 77) rfl rfl x8 ?_
            exact op_fn2 _ _ _ _ _ _ rfl rfl (eval_tmp x9) (eval_tmp x10) (by intro args w; kernel_rfl) (eq_own l2 HN3.out (hS.1.bin 0 rfl HT3.out) (hS.1.bin2 3 rfl) HM.out) hK
          · obtain rfl := Option.some.inj ho
            refine ⟨rfl, fun a w' hS hold hin K hK => ?_⟩
            obtain ⟨y8, x8, rfl⟩ := hin 8 rfl (by omega) rfl
            obtain ⟨y11, x11, rfl⟩ := hin 11 rfl (by omega) rfl
            refine if_always rfl ?_
            exact op_pick (V := (· = .bool true)) _ _ _ true _ rfl rfl (eval_tmp x8) (show (Act.eval a _) = _ from (eval_tmp x11)) rfl hK
        · intro i o sz hi ho hA; cases hA
        clear hS
        intro t1 V8 hs hold hout hall hne hS
        replace HS := hs.trans HS
        replace hS := hS.1
        obtain ⟨x81, q81, v81⟩ : ∃ x, t1[81]? = some x ∧ ((· = .bool true)) x := hout 12 (by omega) rfl
        replace q81 : t1[81]? = some (.bool true) := q81.trans (congrArg some v81)
        replace h0 := (hold 0 (slots_not (by kernel_rfl))).trans h0
        replace h1 := (hold 1 (slots_not (by kernel_rfl))).trans h1
        replace h5 := (hold 5 (slots_not (by kernel_rfl))).trans h5
        replace h6 := (hold 6 (slots_not (by kernel_rfl))).trans h6
        replace h8 := (hold 8 (slots_not (by kernel_rfl))).trans h8
        replace h11 := (hold 11 (slots_not (by kernel_rfl))).trans h11
        replace h7 := (hold 7 (slots_not (by kernel_rfl))).trans h7
        replace h9 := (hold 9 (slots_not (by kernel_rfl))).trans h9
        clear hold hout hs hall hne
        simp only [List.drop_succ_cons, List.drop_zero]
        refine tlx_assign (.tmp 81) rfl rfl 4 rfl (by rw [HS]; decide) (.bool true) (eval_tmp q81) fun t1 ex0 hz hq he => ?_
        replace h0 := (he 0 (by decide)).trans h0
        replace h1 := (he 1 (by decide)).trans h1
        replace h5 := (he 5 (by decide)).trans h5
        replace h6 := (he 6 (by decide)).trans h6
        replace h8 := (he 8 (by decide)).trans h8
        replace h11 := (he 11 (by decide)).trans h11
        replace h7 := (he 7 (by decide)).trans h7
        replace h9 := (he 9 (by decide)).trans h9
        replace q81 := (he 81 (by decide)).trans q81
        replace HS := hz.trans HS
        clear hz he ex0
        have h4 := hq
        clear hq
        refine wpList_nil ?_
        obtain ⟨f, e0, hf⟩ := wash HS
        have f0 := hf 0 _ h0
        have f1 := hf 1 _ h1
        have f5 := hf 5 _ h5
        have f6 := hf 6 _ h6
        have f8 := hf 8 _ h8
        have f11 := hf 11 _ h11
        have f7 := hf 7 _ h7
        have f9 := hf 9 _ h9
        have f4 := hf 4 _ h4
        clear hf
        rw [e0.trans (show _ = #[f 0, f 1, f 2, f 3, f 4, f 5, f 6, f 7, f 8, f 9, f 10, f 11, f 12, f 13, f 14, f 15, f 16, f 17, f 18, f 19, f 20, f 21, f 22, f 23, f 24, f 25, f 26, f 27, f 28, f 29, f 30, f 31, f 32, f 33, f 34, f 35, f 36, f 37, f 38, f 39, f 40, f 41, f 42, f 43, f 44, f 45, f 46, f 47, f 48, f 49, f 50, f 51, f 52, f 53, f 54, f 55, f 56, f 57, f 58, f 59, f 60, f 61, f 62, f 63, f 64, f 65, f 66, f 67, f 68, f 69, f 70, f 71, f 72, f 73, f 74, f 75, f 76, f 77, f 78, f 79, f 80, f 81] from by kernel_rfl), f0, f1, f5, f6, f8, f11, f7, f9, f4]
        clear f0 f1 f5 f6 f8 f11 f7 f9 f4
        clear e0
        try dsimp only
        clear h0 h1 h5 h6 h8 h11 h7 h9 h4 q81 v81 hM HS t1 t0 M
        have HBe := Lib.hid hS.1
        clear hS
        go_wp2_with fail
        exact ⟨rfl, .bool true, by kernel_rfl, rfl, HBe.out⟩
end Go.Proofs.Ytmochmpamgfboaa
