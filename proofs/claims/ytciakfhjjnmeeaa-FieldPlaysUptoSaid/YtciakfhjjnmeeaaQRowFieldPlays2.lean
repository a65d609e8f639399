/- Texts of this proof's own, one behind the other. No condition. -/
import Derived.Test.YtciakfhjjnmeeaaBa0
import Derived.Test.YtciakfhjjnmeeaaBa1
import Derived.Test.YtciakfhjjnmeeaaBa2
import Derived.Test.YtciakfhjjnmeeaaBa3
import Derived.Test.YtciakfhjjnmeeaaBa4
import Derived.Test.YtciakfhjjnmeeaaBa5
import Derived.Test.YtciakfhjjnmeeaaQRowFieldPlays0
import Derived.Test.YtciakfhjjnmeeaaQRowFieldPlays1
namespace Go.Proofs.Ytciakfhjjnmeeaa
open Go.RowKit Nt

theorem one_el_row {u : F} {v : Value} (h : IsEl u v) : ∃ cs, v = .agg cs ∧ cs.all (·.oneCell') = true := by
  obtain ⟨cs, h1, _, h3⟩ := el_row h
  exact ⟨cs, h1, h3⟩
theorem by_nm {u : F} (v : Value) (h : IsNm u v) : ∃ cs, v = .agg cs ∧ cs.size = 32 ∧ cs.all (·.oneCell') = true := by_num (bytesN_len _) v h
theorem one_nm_row {u : F} {v : Value} (h : IsNm u v) : ∃ cs, v = .agg cs ∧ cs.all (·.oneCell') = true := by
  obtain ⟨cs, h1, _, h3⟩ := by_nm v h
  exact ⟨cs, h1, h3⟩
theorem zero_isEl : IsEl 0 (.agg #[.int .u64 0, .int .u64 0, .int .u64 0, .int .u64 0, .int .u64 0]) := ⟨0, 0, 0, 0, 0, rfl, by refine ⟨?_, ?_, ?_, ?_, ?_, ?_⟩ <;> decide⟩
theorem zero_num : Value.agg (vals z32) = .agg (vals (bytesN (0 : F).val)) := by rw [show bytesN (0 : F).val = z32 by decide +kernel]
theorem held_append {P : Program} {ops : Array Oper} {rest : List Oper} {o : Oper} {Q : Exit → Act → World → Prop} {a : Act} {w : World} (args : Array Operand) (tys : Array TypeId) (_ : o.op = .call { callee := .builtin .append, args := args, argTypes := tys }) (h : Held (wpList P ops Q (o :: rest) a w)) : wpList P ops Q (o :: rest) a w := h
theorem at_ev (k : Int) (n : Nat) (hn : 0 < n ∧ n ≤ 9223372036854775807) (w : World) : Calls Try.prog 43 #[.int .i64 k, .int .i64 n] w (Gives (fun v => ∃ j : Nat, j < n ∧ v = .int .i64 j) w) :=
  (at_any k n w hn.1 hn.2).mono fun _ _ ⟨j, h1, h2, h3⟩ => ⟨_, h2, ⟨j, h1, rfl⟩, h3⟩
theorem plays_len (D : Int) (N : Nat) (n m : F) : (plays D N n m).length ≤ 2 := by
  unfold plays
  repeat' split
  all_goals simp
set_option maxRecDepth 100000 in
theorem neq_by_same {p q : Operand} (xs : List Int) (hx : xs.length = 32) (w : World) :
    (do eqGuard .neq 22 p q (.agg (vals xs)) (.agg (vals xs)); binOp .neq 22 (.agg (vals xs)) (.agg (vals xs)) : Sem Value).run Try.prog w = .ok (.bool false) w := by
  have h1 : (eqGuard .neq 22 p q (.agg (vals xs)) (.agg (vals xs))).run Try.prog w = .ok () w := by kernel_rfl
  have h2 := run_neq_vals (P := Try.prog) w .u8 22 5 32 Try.underlying22 Try.underlying5 (fun w => by kernel_rfl) xs xs hx hx
  rw [decide_eq_true rfl] at h2
  rw [Sem.run_bind, h1]
  exact h2
set_option maxRecDepth 100000 in
theorem eql_nm {p q : Operand} (xs ys : List Int) (hx : xs.length = 32) (hy : ys.length = 32) (b : Bool) (hb : decide (xs = ys) = b) (w : World) :
    (do eqGuard .eql 29 p q (.agg (vals xs)) (.agg (vals ys)); binOp .eql 29 (.agg (vals xs)) (.agg (vals ys)) : Sem Value).run Try.prog w = .ok (.bool b) w := by
  have h1 : (eqGuard .eql 29 p q (.agg (vals xs)) (.agg (vals ys))).run Try.prog w = .ok () w := by kernel_rfl
  have h2 := run_eql_vals (P := Try.prog) w .u8 29 5 32 Try.underlying29 Try.underlying5 (fun w => by kernel_rfl) xs ys hx hy
  rw [hb] at h2
  rw [Sem.run_bind, h1]
  exact h2
theorem zero08_is {n : F} {b : Bool} (h : decide (n = 0) = b) (w : World) : Calls Try.prog 46 #[.agg (vals (bytesN n.val))] w (Gives (· = .bool b) w) := by
  subst h; exact zero08_any n w
theorem held_build {P : Program} {ops : Array Oper} {rest : List Oper} {o : Oper} {Q : Exit → Act → World → Prop} {a : Act} {w : World} (t : TypeId) (ps : Array (Nat × Operand)) (_ : o.op = .build t ps) (h : Held (wpList P ops Q (o :: rest) a w)) : wpList P ops Q (o :: rest) a w := h
/-- Rows of k cells that lie in memory, one behind the other. -/
def RowsHere (w : World) (p : Option Addr) (n k : Nat) (rows : Nat → Array Value) : Prop := ∀ i, i < n → ∃ a, p = some a ∧ a.block < w.heap.size ∧ (rows i).size = k ∧ CellsAt w (a.add (i * k)) (rows i)
theorem Own.base {b w : World} {L : List (Nat × Nat × (Value → Prop))} (h : Own b L w) : b.heap.size ≤ w.heap.size := h.1.size
set_option maxHeartbeats 4000000 in
set_option maxRecDepth 100000 in
theorem fieldPlays_walk (pb : Option Addr) (nb cb : Nat) (bs : Nat → List Int) (ps : Option Addr) (ns cs : Nat) (sd sx sy : Nat → Int) (sn : Nat → Nat) (w : World) (hnb : nb ≤ 1048576) (hns : ns ≤ 1048576)
    (hB : RowsHere w pb nb 32 fun i => vals (bs i)) (hbb : ∀ i, i < nb → (bs i).length = 32 ∧ Byt (bs i)) (hP : RowsHere w ps ns 4 fun i => #[.int .i64 (sd i), .int .i64 (sx i), .int .i64 (sy i), .int .u64 (sn i)]) (hsn : ∀ i, i < ns → sn i < 18446744073709551616) :
    Calls Try.prog 11 #[.slice pb nb cb, .slice ps ns cs] w fun e w' => e = .returned (.bool true) ∧ Below w.heap.size w w' := by
  have hS := Own.start w
  have HB := Lib.hid hB
  have HBB := Lib.hid hbb
  have HP := Lib.hid hP
  have HSN := Lib.hid hsn
  clear hB hbb hP hsn
  go_enter Try.func11, Try.ntmps11
  go_wp2_with ((with_reducible refine guard_list ?_); first | (refine held_build 26 _ rfl ?_))
  obtain ⟨M, hM⟩ : ∃ M, M = w.heap.size := ⟨_, rfl⟩
  refine hide_held fun t0 HT => ?_
  have HS : t0.size = 181 := by rw [HT]; rfl
  have h0 : t0[0]? = some (.slice pb nb cb) := by rw [HT]; rfl
  have h1 : t0[1]? = some (.slice ps ns cs) := by rw [HT]; rfl
  clear HT
  refine wp_list_most 1 (fun i => [16].getD i 0) (fun _ => none) (fun i => [IsEl (0 : F)].getD i (fun _ => True)) (fun w' => Own w [] w' ∧ M ≤ w'.heap.size) M
    (by kernel_rfl) (slots_apart (by kernel_rfl)) (slots_lie (by rw [HS]; kernel_rfl)) ⟨hS, Nat.le_of_eq hM⟩ (fun w' h => h.2) (fun w1 w2 h b => ⟨h.1.keep b, Nat.le_trans h.2 b.size⟩) ?_ ?_ ?_
  · clear hS
    intro i o hi ho hA
    have hc : i = 0 := by omega
    rcases hc with rfl
    · obtain rfl := Option.some.inj ho
      refine ⟨rfl, fun a w' hS hold hin K hK => ?_⟩
      refine if_always rfl ?_
      exact op_val (V := IsEl (0 : F)) (.agg #[.int .u64 0, .int .u64 0, .int .u64 0, .int .u64 0, .int .u64 0]) rfl (by kernel_rfl) zero_isEl hK
  · intro i o sz hi ho hA; cases hA
  clear hS
  intro t1 V1 hs hold hout hall hne hS
  replace HS := hs.trans HS
  replace hS := hS.1
  obtain ⟨x16, q16, v16⟩ : ∃ x, t1[16]? = some x ∧ (IsEl (0 : F)) x := hout 0 (by omega) rfl
  replace h0 := (hold 0 (slots_not (by kernel_rfl))).trans h0
  replace h1 := (hold 1 (slots_not (by kernel_rfl))).trans h1
  clear hold hout hs hall hne
  simp only [List.drop_succ_cons, List.drop_zero]
  refine tlx_lit1 IsEl (0 : F) 5 26 (.tmp 16) rfl rfl 17 rfl (by rw [HS]; decide) (by decide) (by kernel_rfl) (by kernel_rfl) (by kernel_rfl) _ (eval_tmp q16) v16 (fun x hx => el_row hx) hS fun g1 t1 V1' hS' ex0 hz hq he => ?_
  replace h0 := (he 0 (by decide)).trans h0
  replace h1 := (he 1 (by decide)).trans h1
  replace q16 := (he 16 (by decide)).trans q16
  replace HS := hz.trans HS
  clear hz he ex0
  have h17 := hq
  clear hq
  replace hS : Own w [(g1, (1 * 5), LRow 5 IsEl [(0 : F)])] V1' := hS'
  clear hS'
  refine tlx_assign (.tmp 17) rfl rfl 5 rfl (by rw [HS]; decide) (.slice (some ⟨g1, 0, none⟩) 1 1) (eval_tmp h17) fun t1 ex1 hz hq he => ?_
  replace h0 := (he 0 (by decide)).trans h0
  replace h1 := (he 1 (by decide)).trans h1
  replace h17 := (he 17 (by decide)).trans h17
  replace q16 := (he 16 (by decide)).trans q16
  replace HS := hz.trans HS
  clear hz he ex1
  have h5 := hq
  clear hq
  refine wpList_nil ?_
  obtain ⟨f, e0, hf⟩ := wash HS
  have f0 := hf 0 _ h0
  have f1 := hf 1 _ h1
  have f17 := hf 17 _ h17
  have f5 := hf 5 _ h5
  clear hf
  rw [e0.trans (show _ = #[f 0, f 1, f 2, f 3, f 4, f 5, f 6, f 7, f 8, f 9, f 10, f 11, f 12, f 13, f 14, f 15, f 16, f 17, f 18, f 19, f 20, f 21, f 22, f 23, f 24, f 25, f 26, f 27, f 28, f 29, f 30, f 31, f 32, f 33, f 34, f 35, f 36, f 37, f 38, f 39, f 40, f 41, f 42, f 43, f 44, f 45, f 46, f 47, f 48, f 49, f 50, f 51, f 52, f 53, f 54, f 55, f 56, f 57, f 58, f 59, f 60, f 61, f 62, f 63, f 64, f 65, f 66, f 67, f 68, f 69, f 70, f 71, f 72, f 73, f 74, f 75, f 76, f 77, f 78, f 79, f 80, f 81, f 82, f 83, f 84, f 85, f 86, f 87, f 88, f 89, f 90, f 91, f 92, f 93, f 94, f 95, f 96, f 97, f 98, f 99, f 100, f 101, f 102, f 103, f 104, f 105, f 106, f 107, f 108, f 109, f 110, f 111, f 112, f 113, f 114, f 115, f 116, f 117, f 118, f 119, f 120, f 121, f 122, f 123, f 124, f 125, f 126, f 127, f 128, f 129, f 130, f 131, f 132, f 133, f 134, f 135, f 136, f 137, f 138, f 139, f 140, f 141, f 142, f 143, f 144, f 145, f 146, f 147, f 148, f 149, f 150, f 151, f 152, f 153, f 154, f 155, f 156, f 157, f 158, f 159, f 160, f 161, f 162, f 163, f 164, f 165, f 166, f 167, f 168, f 169, f 170, f 171, f 172, f 173, f 174, f 175, f 176, f 177, f 178, f 179, f 180] from by kernel_rfl), f0, f1, f17, f5]
  clear f0 f1 f17 f5
  clear e0
  try dsimp only
  clear h0 h1 h17 h5 q16 v16 hM HS t1 t0 M
  go_wp2_with ((with_reducible refine guard_list ?_); first | (refine held_build 29 _ rfl ?_))
  obtain ⟨M, hM⟩ : ∃ M, M = V1'.heap.size := ⟨_, rfl⟩
  refine hide_held fun t0 HT => ?_
  have HS : t0.size = 181 := by rw [HT]; rfl
  have h0 : t0[0]? = some (.slice pb nb cb) := by rw [HT]; rfl
  have h1 : t0[1]? = some (.slice ps ns cs) := by rw [HT]; rfl
  have h5 : t0[5]? = some (.slice (some ⟨g1, 0, none⟩) 1 1) := by rw [HT]; rfl
  clear HT
  refine wp_list_most 1 (fun i => [18].getD i 0) (fun _ => none) (fun i => [(· = .agg (vals (bytesN (0 : F).val)))].getD i (fun _ => True)) (fun w' => Own w [(g1, (1 * 5), LRow 5 IsEl [(0 : F)])] w' ∧ M ≤ w'.heap.size) M
    (by kernel_rfl) (slots_apart (by kernel_rfl)) (slots_lie (by rw [HS]; kernel_rfl)) ⟨hS, Nat.le_of_eq hM⟩ (fun w' h => h.2) (fun w1 w2 h b => ⟨h.1.keep b, Nat.le_trans h.2 b.size⟩) ?_ ?_ ?_
  · clear hS
    intro i o hi ho hA
    have hc : i = 0 := by omega
    rcases hc with rfl
    · obtain rfl := Option.some.inj ho
      refine ⟨rfl, fun a w' hS hold hin K hK => ?_⟩
      refine if_always rfl ?_
      exact op_val (V := (· = .agg (vals (bytesN (0 : F).val)))) (.agg (vals (bytesN (0 : F).val))) rfl (by kernel_rfl) rfl hK
  · intro i o sz hi ho hA; cases hA
  clear hS
  intro t1 V2 hs hold hout hall hne hS
  replace HS := hs.trans HS
  replace hS := hS.1
  obtain ⟨x18, q18, v18⟩ : ∃ x, t1[18]? = some x ∧ ((· = .agg (vals (bytesN (0 : F).val)))) x := hout 0 (by omega) rfl
  replace q18 : t1[18]? = some (.agg (vals (bytesN (0 : F).val))) := q18.trans (congrArg some v18)
  replace h0 := (hold 0 (slots_not (by kernel_rfl))).trans h0
  replace h1 := (hold 1 (slots_not (by kernel_rfl))).trans h1
  replace h5 := (hold 5 (slots_not (by kernel_rfl))).trans h5
  clear hold hout hs hall hne
  simp only [List.drop_succ_cons, List.drop_zero]
  refine tlx_lit1 IsNm (0 : F) 32 29 (.tmp 18) rfl rfl 19 rfl (by rw [HS]; decide) (by decide) (by kernel_rfl) (by kernel_rfl) (by kernel_rfl) _ (eval_tmp q18) rfl by_nm hS fun g2 t1 V2' hS' ex0 hz hq he => ?_
  replace h0 := (he 0 (by decide)).trans h0
  replace h1 := (he 1 (by decide)).trans h1
  replace h5 := (he 5 (by decide)).trans h5
  replace q18 := (he 18 (by decide)).trans q18
  replace HS := hz.trans HS
  clear hz he ex0
  have h19 := hq
  clear hq
  replace hS : Own w [(g1, (1 * 5), LRow 5 IsEl [(0 : F)]), (g2, (1 * 32), LRow 32 IsNm [(0 : F)])] V2' := hS'
  clear hS'
  refine tlx_assign (.tmp 19) rfl rfl 6 rfl (by rw [HS]; decide) (.slice (some ⟨g2, 0, none⟩) 1 1) (eval_tmp h19) fun t1 ex1 hz hq he => ?_
  replace h0 := (he 0 (by decide)).trans h0
  replace h1 := (he 1 (by decide)).trans h1
  replace h5 := (he 5 (by decide)).trans h5
  replace h19 := (he 19 (by decide)).trans h19
  replace q18 := (he 18 (by decide)).trans q18
  replace HS := hz.trans HS
  clear hz he ex1
  have h6 := hq
  clear hq
  refine wpList_nil ?_
  obtain ⟨f, e0, hf⟩ := wash HS
  have f0 := hf 0 _ h0
  have f1 := hf 1 _ h1
  have f5 := hf 5 _ h5
  have f19 := hf 19 _ h19
  have f6 := hf 6 _ h6
  clear hf
  rw [e0.trans (show _ = #[f 0, f 1, f 2, f 3, f 4, f 5, f 6, f 7, f 8, f 9, f 10, f 11, f 12, f 13, f 14, f 15, f 16, f 17, f 18, f 19, f 20, f 21, f 22, f 23, f 24, f 25, f 26, f 27, f 28, f 29, f 30, f 31, f 32, f 33, f 34, f 35, f 36, f 37, f 38, f 39, f 40, f 41, f 42, f 43, f 44, f 45, f 46, f 47, f 48, f 49, f 50, f 51, f 52, f 53, f 54, f 55, f 56, f 57, f 58, f 59, f 60, f 61, f 62, f 63, f 64, f 65, f 66, f 67, f 68, f 69, f 70, f 71, f 72, f 73, f 74, f 75, f 76, f 77, f 78, f 79, f 80, f 81, f 82, f 83, f 84, f 85, f 86, f 87, f 88, f 89, f 90, f 91, f 92, f 93, f 94, f 95, f 96, f 97, f 98, f 99, f 100, f 101, f 102, f 103, f 104, f 105, f 106, f 107, f 108, f 109, f 110, f 111, f 112, f 113, f 114, f 115, f 116, f 117, f 118, f 119, f 120, f 121, f 122, f 123, f 124, f 125, f 126, f 127, f 128, f 129, f 130, f 131, f 132, f 133, f 134, f 135, f 136, f 137, f 138, f 139, f 140, f 141, f 142, f 143, f 144, f 145, f 146, f 147, f 148, f 149, f 150, f 151, f 152, f 153, f 154, f 155, f 156, f 157, f 158, f 159, f 160, f 161, f 162, f 163, f 164, f 165, f 166, f 167, f 168, f 169, f 170, f 171, f 172, f 173, f 174, f 175, f 176, f 177, f 178, f 179, f 180] from by kernel_rfl), f0, f1, f5, f19, f6]
  clear f0 f1 f5 f19 f6
  clear e0
  try dsimp only
  clear h0 h1 h5 h19 h6 q18 v18 hM HS t1 t0 M
  go_wp2_with fail
  go_loopw [5, 6, 7] (fun l m i wr => ∃ (k gl cl gm cm : Nat) (ls : List F), k ≤ nb ∧ i = .int .i64 k ∧ ls.length = k + 1 ∧ l = .slice (some ⟨gl, 0, none⟩) ls.length cl ∧ m = .slice (some ⟨gm, 0, none⟩) ls.length cm ∧ (ls.length ≤ cl ∧ cl ≤ maxLen) ∧ (ls.length ≤ cm ∧ cm ≤ maxLen) ∧ Own w [(gl, (cl * 5), LRow 5 IsEl ls), (gm, (cm * 32), LRow 32 IsNm ls)] wr) (fun _ _ i _ => nb - (intOf i).toNat)
  case atStart => exact ⟨0, g1, 1, g2, 1, [0], by omega, rfl, rfl, rfl, rfl, by decide, by decide, hS⟩
  case round =>
    clear hS
    obtain ⟨k, gl, cl, gm, cm, ls, hk, rfl, hlen, rfl, rfl, hcl, hcm, hS⟩ := hrel
    have HLEN := Lib.hid hlen
    have HCL := Lib.hid hcl
    have HCM := Lib.hid hcm
    clear hlen hcl hcm
    by_cases hlt : k < nb
    · obtain ⟨ab, hab, hbl, hbs, hbc⟩ := HB.out k hlt
      obtain ⟨hb1, hb2⟩ := HBB.out k hlt
      subst hab
      have HLT := Lib.hid hlt
      have HBL := Lib.hid hbl
      have HBC := Lib.hid hbc
      have HB1 := Lib.hid hb1
      have HB2 := Lib.hid hb2
      clear hbl hbs hbc hb1 hb2
      go_wp2_with ((with_reducible refine guard_list ?_); first | (refine held_load 22 _ rfl ?_))
      obtain ⟨M, hM⟩ : ∃ M, M = wr.heap.size := ⟨_, rfl⟩
      refine hide_held fun t0 HT => ?_
      have HS : t0.size = 181 := by rw [HT]; rfl
      have h0 : t0[0]? = some (.slice (some ab) nb cb) := by rw [HT]; rfl
      have h5 : t0[5]? = some (.slice (some ⟨gl, 0, none⟩) ls.length cl) := by rw [HT]; rfl
      have h6 : t0[6]? = some (.slice (some ⟨gm, 0, none⟩) ls.length cm) := by rw [HT]; rfl
      have h7 : t0[7]? = some (.int .i64 k) := by rw [HT]; rfl
      refine wp_from_most 6 (fun i => [26, 27, 28, 29, 30, 31].getD i 0) (fun _ => none) (fun i => [(· = .slice (some ⟨gl, 0, none⟩) ls.length cl), (· = .slice (some ab) nb cb), (· = .int .i64 k), (· = .pointer (some (ab.add (k * 32)))), (· = .agg (vals (bs k))), IsEl (numF (bs k))].getD i (fun _ => True)) (fun w' => Own w [(gl, (cl * 5), LRow 5 IsEl ls), (gm, (cm * 32), LRow 32 IsNm ls)] w' ∧ M ≤ w'.heap.size) M
        4 (by omega) (by kernel_rfl) ?_ (slots_apart (by kernel_rfl)) (slots_lie (by rw [HS]; kernel_rfl)) ⟨hS, Nat.le_of_eq hM⟩ (fun w' h => h.2) (fun w1 w2 h b => ⟨h.1.keep b, Nat.le_trans h.2 b.size⟩) ?_ ?_ ?_
      · intro j hj _
        have hc : j = 0 ∨ j = 1 ∨ j = 2 ∨ j = 3 := by omega
        rcases hc with rfl | rfl | rfl | rfl
        · exact ⟨rfl, _, by rw [HT]; rfl, rfl⟩
        · exact ⟨rfl, _, by rw [HT]; rfl, rfl⟩
        · exact ⟨rfl, _, by rw [HT]; rfl, rfl⟩
        · exact ⟨rfl, _, by rw [HT]; rfl, rfl⟩
      · clear hS
        intro i o h0i hi ho hA
        have hc : i = 4 ∨ i = 5 := by omega
        rcases hc with rfl | rfl
        · obtain rfl := Option.some.inj ho
          refine ⟨rfl, fun a w' hS hold hin K hK => ?_⟩
          obtain ⟨y3, x3, rfl⟩ := hin 3 rfl (by omega) rfl
          refine if_always rfl ?_
          exact op_ld_at 32 tBytes _ rfl rfl _ (eval_tmp x3) (vals (bs k)) (by rw [vals_size, HB1.out]) (HBC.out.under hS.1.1 (by rw [add_block]; exact HBL.out)) hK
        · obtain rfl := Option.some.inj ho
          refine ⟨rfl, fun a w' hS hold hin K hK => ?_⟩
          obtain ⟨y4, x4, rfl⟩ := hin 4 rfl (by omega) rfl
          refine if_always rfl ?_
          exact op_fn1 _ _ _ _ rfl rfl (eval_tmp x4) (by intro args w; kernel_rfl) (of_ev _ HB1.out HB2.out rfl _) hK
      · intro i o sz h0i hi ho hA; cases hA
      clear hS
      intro t1 V3 hs hold hout hall hne hS
      have ef := frame_fill 6 (fun i => [26, 27, 28, 29, 30, 31].getD i 0) hs hold (slots_apart (by kernel_rfl)) (slots_lie (by rw [HS]; kernel_rfl))
      replace HS := hs.trans HS
      replace hS := hS.1
      obtain ⟨x31, q31, v31⟩ : ∃ x, t1[31]? = some x ∧ (IsEl (numF (bs k))) x := hout 5 (by omega) rfl
      obtain ⟨x26, q26, v26⟩ : ∃ x, t1[26]? = some x ∧ ((· = .slice (some ⟨gl, 0, none⟩) ls.length cl)) x := hout 0 (by omega) rfl
      replace q26 : t1[26]? = some (.slice (some ⟨gl, 0, none⟩) ls.length cl) := q26.trans (congrArg some v26)
      replace h0 := (hold 0 (slots_not (by kernel_rfl))).trans h0
      replace h5 := (hold 5 (slots_not (by kernel_rfl))).trans h5
      replace h6 := (hold 6 (slots_not (by kernel_rfl))).trans h6
      replace h7 := (hold 7 (slots_not (by kernel_rfl))).trans h7
      clear hold hout hs hall hne
      simp only [List.drop_succ_cons, List.drop_zero]
      refine tlx_lit1 IsEl (numF (bs k)) 5 26 (.tmp 31) rfl rfl 32 rfl (by rw [HS]; decide) (by decide) (by kernel_rfl) (by kernel_rfl) (by kernel_rfl) _ (eval_tmp q31) v31 (fun x hx => el_row hx) hS fun ge tf0 V3' hS' ex0 hz hq he => ?_
      replace h0 := (he 0 (by decide)).trans h0
      replace h5 := (he 5 (by decide)).trans h5
      replace h6 := (he 6 (by decide)).trans h6
      replace h7 := (he 7 (by decide)).trans h7
      replace q31 := (he 31 (by decide)).trans q31
      replace q26 := (he 26 (by decide)).trans q26
      replace HS := hz.trans HS
      clear hz he
      have h32 := hq
      clear hq
      replace hS : Own w [(gl, (cl * 5), LRow 5 IsEl ls), (gm, (cm * 32), LRow 32 IsNm ls), (ge, (1 * 5), LRow 5 IsEl [(numF (bs k))])] V3' := hS'
      clear hS'
      refine tlx_append 5 40 26 (.tmp 26) (.tmp 32) rfl rfl 33 rfl (by rw [HS]; decide) (by decide) (by kernel_rfl) (by kernel_rfl) (by kernel_rfl) IsEl ls [(numF (bs k))] _ _ _ _ (eval_tmp q26) (eval_tmp h32) HCL.out hS 0 2 _ rfl rfl (fun _ _ h => one_el_row h) (by have := HLEN.out; simp only [List.length_singleton]; omega) (by have := HLEN.out; simp only [List.length_singleton, maxLen]; omega) fun gl1 cl1 tf1 V3'' hS' hccl1 ex1 hz hq he => ?_
      replace h0 := (he 0 (by decide)).trans h0
      replace h5 := (he 5 (by decide)).trans h5
      replace h6 := (he 6 (by decide)).trans h6
      replace h7 := (he 7 (by decide)).trans h7
      replace h32 := (he 32 (by decide)).trans h32
      replace q31 := (he 31 (by decide)).trans q31
      replace q26 := (he 26 (by decide)).trans q26
      replace HS := hz.trans HS
      clear hz he
      have h33 := hq
      clear hq
      replace hS : Own w [(gl1, (cl1 * 5), LRow 5 IsEl (ls ++ [(numF (bs k))])), (gm, (cm * 32), LRow 32 IsNm ls), (ge, (1 * 5), LRow 5 IsEl [(numF (bs k))])] V3'' := hS'
      clear hS'
      refine tlx_assign (.tmp 33) rfl rfl 5 rfl (by rw [HS]; decide) (.slice (some ⟨gl1, 0, none⟩) (ls ++ [(numF (bs k))]).length cl1) (eval_tmp h33) fun tf2 ex2 hz hq he => ?_
      replace h0 := (he 0 (by decide)).trans h0
      replace h6 := (he 6 (by decide)).trans h6
      replace h7 := (he 7 (by decide)).trans h7
      replace h32 := (he 32 (by decide)).trans h32
      replace h33 := (he 33 (by decide)).trans h33
      replace q31 := (he 31 (by decide)).trans q31
      replace q26 := (he 26 (by decide)).trans q26
      replace HS := hz.trans HS
      clear hz he
      clear h5
      have h5 := hq
      clear hq
      refine wpList_nil ?_
      rw [ex2, ex1, ex0, ef, HT]
      clear ef ex0 ex1 ex2
      simp only [fillA, if_true, List.getD_cons_zero, List.getD_cons_succ, List.setIfInBounds_toArray, List.set_cons_zero, List.set_cons_succ]
      generalize t1.getD 26 undef = z26
      generalize t1.getD 27 undef = z27
      generalize t1.getD 28 undef = z28
      generalize t1.getD 29 undef = z29
      generalize t1.getD 30 undef = z30
      generalize t1.getD 31 undef = z31
      clear HT
      clear h0 h5 h6 h7 h32 h33 q31 q26 v31 v26 hM HS tf0 tf1 tf2 t1 t0 M
      replace hS : Own w [(gl1, (cl1 * 5), LRow 5 IsEl (ls ++ [(numF (bs k))])), (gm, (cm * 32), LRow 32 IsNm ls)] V3'' := hS.take 2
      have HCL1 := Lib.hid hccl1
      clear hccl1
      go_wp2_with ((with_reducible refine guard_list ?_); first | (refine held_load 22 _ rfl ?_))
      obtain ⟨M, hM⟩ : ∃ M, M = V3''.heap.size := ⟨_, rfl⟩
      refine hide_held fun t0 HT => ?_
      have HS : t0.size = 181 := by rw [HT]; rfl
      have h0 : t0[0]? = some (.slice (some ab) nb cb) := by rw [HT]; rfl
      have h5 : t0[5]? = some (.slice (some ⟨gl1, 0, none⟩) (ls ++ [(numF (bs k))]).length cl1) := by rw [HT]; rfl
      have h6 : t0[6]? = some (.slice (some ⟨gm, 0, none⟩) ls.length cm) := by rw [HT]; rfl
      have h7 : t0[7]? = some (.int .i64 k) := by rw [HT]; rfl
      refine wp_from_most 6 (fun i => [34, 35, 36, 37, 38, 39].getD i 0) (fun _ => none) (fun i => [(· = .slice (some ⟨gm, 0, none⟩) ls.length cm), (· = .slice (some ab) nb cb), (· = .int .i64 k), (· = .pointer (some (ab.add (k * 32)))), (· = .agg (vals (bs k))), (· = .agg (vals (bytesN ((numF (bs k)) : F).val)))].getD i (fun _ => True)) (fun w' => Own w [(gl1, (cl1 * 5), LRow 5 IsEl (ls ++ [(numF (bs k))])), (gm, (cm * 32), LRow 32 IsNm ls)] w' ∧ M ≤ w'.heap.size) M
        4 (by omega) (by kernel_rfl) ?_ (slots_apart (by kernel_rfl)) (slots_lie (by rw [HS]; kernel_rfl)) ⟨hS, Nat.le_of_eq hM⟩ (fun w' h => h.2) (fun w1 w2 h b => ⟨h.1.keep b, Nat.le_trans h.2 b.size⟩) ?_ ?_ ?_
      · intro j hj _
        have hc : j = 0 ∨ j = 1 ∨ j = 2 ∨ j = 3 := by omega
        rcases hc with rfl | rfl | rfl | rfl
        · exact ⟨rfl, _, by rw [HT]; rfl, rfl⟩
        · exact ⟨rfl, _, by rw [HT]; rfl, rfl⟩
        · exact ⟨rfl, _, by rw [HT]; rfl, rfl⟩
        · exact ⟨rfl, _, by rw [HT]; rfl, rfl⟩
      · clear hS
        intro i o h0i hi ho hA
        have hc : i = 4 ∨ i = 5 := by omega
        rcases hc with rfl | rfl
        · obtain rfl := Option.some.inj ho
          refine ⟨rfl, fun a w' hS hold hin K hK => ?_⟩
          obtain ⟨y3, x3, rfl⟩ := hin 3 rfl (by omega) rfl
          refine if_always rfl ?_
          exact op_ld_at 32 tBytes _ rfl rfl _ (eval_tmp x3) (vals (bs k)) (by rw [vals_size, HB1.out]) (HBC.out.under hS.1.1 (by rw [add_block]; exact HBL.out)) hK
        · obtain rfl := Option.some.inj ho
          refine ⟨rfl, fun a w' hS hold hin K hK => ?_⟩
          obtain ⟨y4, x4, rfl⟩ := hin 4 rfl (by omega) rfl
          refine if_always rfl ?_
          exact op_fn1 _ _ _ _ rfl rfl (eval_tmp x4) (by intro args w; kernel_rfl) (of08_ev _ HB1.out HB2.out rfl rfl _) hK
      · intro i o sz h0i hi ho hA; cases hA
      clear hS
      intro t1 V4 hs hold hout hall hne hS
      have ef := frame_fill 6 (fun i => [34, 35, 36, 37, 38, 39].getD i 0) hs hold (slots_apart (by kernel_rfl)) (slots_lie (by rw [HS]; kernel_rfl))
      replace HS := hs.trans HS
      replace hS := hS.1
      obtain ⟨x39, q39, v39⟩ : ∃ x, t1[39]? = some x ∧ ((· = .agg (vals (bytesN ((numF (bs k)) : F).val)))) x := hout 5 (by omega) rfl
      replace q39 : t1[39]? = some (.agg (vals (bytesN ((numF (bs k)) : F).val))) := q39.trans (congrArg some v39)
      obtain ⟨x34, q34, v34⟩ : ∃ x, t1[34]? = some x ∧ ((· = .slice (some ⟨gm, 0, none⟩) ls.length cm)) x := hout 0 (by omega) rfl
      replace q34 : t1[34]? = some (.slice (some ⟨gm, 0, none⟩) ls.length cm) := q34.trans (congrArg some v34)
      replace h0 := (hold 0 (slots_not (by kernel_rfl))).trans h0
      replace h5 := (hold 5 (slots_not (by kernel_rfl))).trans h5
      replace h6 := (hold 6 (slots_not (by kernel_rfl))).trans h6
      replace h7 := (hold 7 (slots_not (by kernel_rfl))).trans h7
      clear hold hout hs hall hne
      simp only [List.drop_succ_cons, List.drop_zero]
      refine tlx_lit1 IsNm (numF (bs k)) 32 29 (.tmp 39) rfl rfl 40 rfl (by rw [HS]; decide) (by decide) (by kernel_rfl) (by kernel_rfl) (by kernel_rfl) _ (eval_tmp q39) rfl by_nm hS fun gf tf0 V4' hS' ex0 hz hq he => ?_
      replace h0 := (he 0 (by decide)).trans h0
      replace h5 := (he 5 (by decide)).trans h5
      replace h6 := (he 6 (by decide)).trans h6
      replace h7 := (he 7 (by decide)).trans h7
      replace q39 := (he 39 (by decide)).trans q39
      replace q34 := (he 34 (by decide)).trans q34
      replace HS := hz.trans HS
      clear hz he
      have h40 := hq
      clear hq
      replace hS : Own w [(gl1, (cl1 * 5), LRow 5 IsEl (ls ++ [(numF (bs k))])), (gm, (cm * 32), LRow 32 IsNm ls), (gf, (1 * 32), LRow 32 IsNm [(numF (bs k))])] V4' := hS'
      clear hS'
      refine tlx_append 32 32 29 (.tmp 34) (.tmp 40) rfl rfl 41 rfl (by rw [HS]; decide) (by decide) (by kernel_rfl) (by kernel_rfl) (by kernel_rfl) IsNm ls [(numF (bs k))] _ _ _ _ (eval_tmp q34) (eval_tmp h40) HCM.out hS 1 2 _ rfl rfl (fun _ _ h => one_nm_row h) (by have := HLEN.out; simp only [List.length_singleton]; omega) (by have := HLEN.out; simp only [List.length_singleton, maxLen]; omega) fun gm1 cm1 tf1 V4'' hS' hccm1 ex1 hz hq he => ?_
      replace h0 := (he 0 (by decide)).trans h0
      replace h5 := (he 5 (by decide)).trans h5
      replace h6 := (he 6 (by decide)).trans h6
      replace h7 := (he 7 (by decide)).trans h7
      replace h40 := (he 40 (by decide)).trans h40
      replace q39 := (he 39 (by decide)).trans q39
      replace q34 := (he 34 (by decide)).trans q34
      replace HS := hz.trans HS
      clear hz he
      have h41 := hq
      clear hq
      replace hS : Own w [(gl1, (cl1 * 5), LRow 5 IsEl (ls ++ [(numF (bs k))])), (gm1, (cm1 * 32), LRow 32 IsNm (ls ++ [(numF (bs k))])), (gf, (1 * 32), LRow 32 IsNm [(numF (bs k))])] V4'' := hS'
      clear hS'
      refine tlx_assign (.tmp 41) rfl rfl 6 rfl (by rw [HS]; decide) (.slice (some ⟨gm1, 0, none⟩) (ls ++ [(numF (bs k))]).length cm1) (eval_tmp h41) fun tf2 ex2 hz hq he => ?_
      replace h0 := (he 0 (by decide)).trans h0
      replace h5 := (he 5 (by decide)).trans h5
      replace h7 := (he 7 (by decide)).trans h7
      replace h40 := (he 40 (by decide)).trans h40
      replace h41 := (he 41 (by decide)).trans h41
      replace q39 := (he 39 (by decide)).trans q39
      replace q34 := (he 34 (by decide)).trans q34
      replace HS := hz.trans HS
      clear hz he
      clear h6
      have h6 := hq
      clear hq
      refine wpList_nil ?_
      rw [ex2, ex1, ex0, ef, HT]
      clear ef ex0 ex1 ex2
      simp only [fillA, if_true, List.getD_cons_zero, List.getD_cons_succ, List.setIfInBounds_toArray, List.set_cons_zero, List.set_cons_succ]
      generalize t1.getD 34 undef = z34
      generalize t1.getD 35 undef = z35
      generalize t1.getD 36 undef = z36
      generalize t1.getD 37 undef = z37
      generalize t1.getD 38 undef = z38
      generalize t1.getD 39 undef = z39
      clear HT
      clear h0 h5 h6 h7 h40 h41 q39 q34 v39 v34 hM HS tf0 tf1 tf2 t1 t0 M
      replace hS : Own w [(gl1, (cl1 * 5), LRow 5 IsEl (ls ++ [(numF (bs k))])), (gm1, (cm1 * 32), LRow 32 IsNm (ls ++ [(numF (bs k))]))] V4'' := hS.take 2
      have HCM1 := Lib.hid hccm1
      clear hccm1
      have HS9 := Lib.hid hS
      clear hS
      go_wp2_with fail
      go_roundw
      case rel => exact ⟨k + 1, gl1, cl1, gm1, cm1, ls ++ [(numF (bs k))], by omega, by go_num, by rw [List.length_append, HLEN.out]; rfl, rfl, rfl, HCL1.out, HCM1.out, HS9.out⟩
      case measure => simp [intOf]; omega
    · obtain rfl : k = nb := by omega
      have HS0 := Lib.hid hS
      clear hS HB HBB
      go_wp2_with fail
      have hS := HS0.out
      clear HS0
      go_loopw [5, 6, 8] (fun l m i wr => ∃ (k gl cl gm cm : Nat) (ls : List F), k ≤ ns ∧ i = .int .i64 k ∧ (1 ≤ ls.length ∧ ls.length ≤ 1048577 + 2 * k) ∧ l = .slice (some ⟨gl, 0, none⟩) ls.length cl ∧ m = .slice (some ⟨gm, 0, none⟩) ls.length cm ∧ (ls.length ≤ cl ∧ cl ≤ maxLen) ∧ (ls.length ≤ cm ∧ cm ≤ maxLen) ∧ Own w [(gl, (cl * 5), LRow 5 IsEl ls), (gm, (cm * 32), LRow 32 IsNm ls)] wr) (fun _ _ i _ => ns - (intOf i).toNat)
      case atStart => exact ⟨0, gl, cl, gm, cm, ls, by omega, rfl, by have := HLEN.out; omega, rfl, rfl, HCL.out, HCM.out, hS⟩
      case round =>
        clear hS HLEN HCL HCM
        obtain ⟨k, gl, cl, gm, cm, ls, hk, rfl, hlen, rfl, rfl, hcl, hcm, hS⟩ := hrel
        have HLEN := Lib.hid hlen
        have HCL := Lib.hid hcl
        have HCM := Lib.hid hcm
        clear hlen hcl hcm
        by_cases hlt : k < ns
        · obtain ⟨sa, has, hpl, hps, hpc⟩ := HP.out k hlt
          have hsn := HSN.out k hlt
          subst has
          have HLT := Lib.hid hlt
          have HPL := Lib.hid hpl
          have HPC := Lib.hid hpc
          have HSN1 := Lib.hid hsn
          clear hpl hps hpc hsn
          go_wp2_with fail
          obtain ⟨M, hM⟩ : ∃ M, M = wr.heap.size := ⟨_, rfl⟩
          refine hide_frame fun t0 HT => ?_
          have HS : t0.size = 181 := by rw [HT]; rfl
          have h1 : t0[1]? = some (.slice (some sa) ns cs) := by rw [HT]; rfl
          have h5 : t0[5]? = some (.slice (some ⟨gl, 0, none⟩) ls.length cl) := by rw [HT]; rfl
          have h6 : t0[6]? = some (.slice (some ⟨gm, 0, none⟩) ls.length cm) := by rw [HT]; rfl
          have h8 : t0[8]? = some (.int .i64 k) := by rw [HT]; rfl
          refine wp_region_most 16 (fun i => [48, 49, 50, 51, 52, 53, 54, 55, 56, 57, 58, 59, 60, 61, 62, 63].getD i 0) (fun _ => none) (fun i => [(· = .slice (some sa) ns cs), (· = .int .i64 k), (· = .pointer (some ((sa : Addr).add (k * 4)))), (· = .pointer (some ((sa.add (k * 4)).add 1))), (· = .int .i64 (sx k)), (· = .slice (some ⟨gl, 0, none⟩) ls.length cl), (· = .int .i64 (ls.length : Nat)), (fun v => ∃ j : Nat, j < ls.length ∧ v = .int .i64 j), (· = .slice (some sa) ns cs), (· = .int .i64 k), (· = .pointer (some ((sa : Addr).add (k * 4)))), (· = .pointer (some ((sa.add (k * 4)).add 2))), (· = .int .i64 (sy k)), (· = .slice (some ⟨gl, 0, none⟩) ls.length cl), (· = .int .i64 (ls.length : Nat)), (fun v => ∃ j : Nat, j < ls.length ∧ v = .int .i64 j)].getD i (fun _ => True)) (fun w' => Own w [(gl, (cl * 5), LRow 5 IsEl ls), (gm, (cm * 32), LRow 32 IsNm ls)] w' ∧ M ≤ w'.heap.size) M
            (by kernel_rfl) (by kernel_rfl) (slots_apart (by kernel_rfl)) (slots_lie (by rw [HS]; kernel_rfl)) ⟨hS.drew, Nat.le_of_eq hM⟩ (fun w' h => h.2) (fun w1 w2 h b => ⟨h.1.keep b, Nat.le_trans h.2 b.size⟩) ?_ ?_ ?_
          · clear hS
            intro i o hi ho hA
            have hc : i = 0 ∨ i = 1 ∨ i = 2 ∨ i = 3 ∨ i = 4 ∨ i = 5 ∨ i = 6 ∨ i = 7 ∨ i = 8 ∨ i = 9 ∨ i = 10 ∨ i = 11 ∨ i = 12 ∨ i = 13 ∨ i = 14 ∨ i = 15 := by omega
            rcases hc with rfl | rfl | rfl | rfl | rfl | rfl | rfl | rfl | rfl | rfl | rfl | rfl | rfl | rfl | rfl | rfl
            · obtain rfl := Option.some.inj ho
              refine ⟨rfl, fun a w' hS hold hin K hK => ?_⟩
              refine if_always rfl ?_
              exact op_move (V := (· = .slice (some sa) ns cs)) _ _ rfl rfl (eval_tmp ((hold 1 (slots_not (by kernel_rfl))).trans h1)) rfl hK
            · obtain rfl := Option.some.inj ho
              refine ⟨rfl, fun a w' hS hold hin K hK => ?_⟩
              refine if_always rfl ?_
              exact op_move (V := (· = .int .i64 k)) _ _ rfl rfl (eval_tmp ((hold 8 (slots_not (by kernel_rfl))).trans h8)) rfl hK
            · obtain rfl := Option.some.inj ho
              refine ⟨rfl, fun a w' hS hold hin K hK => ?_⟩
              obtain ⟨y0, x0, rfl⟩ := hin 0 rfl (by omega) rfl
              obtain ⟨y1, x1, rfl⟩ := hin 1 rfl (by omega) rfl
              refine if_always rfl ?_
              exact op_index 4 63 (by kernel_rfl) (by kernel_rfl) _ _ rfl rfl _ _ _ (eval_tmp x0) _ k (eval_tmp x1) HLT.out hK
            · obtain rfl := Option.some.inj ho
              refine ⟨rfl, fun a w' hS hold hin K hK => ?_⟩
              obtain ⟨y2, x2, rfl⟩ := hin 2 rfl (by omega) rfl
              refine if_always rfl ?_
              exact op_field 63 _ 1 _ (.pointer (some ((sa.add (k * 4)).add 1))) rfl rfl (eval_tmp x2) (fun w => by kernel_rfl) hK
            · obtain rfl := Option.some.inj ho
              refine ⟨rfl, fun a w' hS hold hin K hK => ?_⟩
              obtain ⟨y3, x3, rfl⟩ := hin 3 rfl (by omega) rfl
              refine if_always rfl ?_
              exact op_cell tInt _ ((sa.add (k * 4)).add 1) rfl rfl (eval_tmp x3) (.int .i64 (sx k)) ((HPC.out.under hS.1.1 (by rw [add_block]; exact HPL.out)) 1 _ rfl) hK
            · obtain rfl := Option.some.inj ho
              refine ⟨rfl, fun a w' hS hold hin K hK => ?_⟩
              refine if_always rfl ?_
              exact op_move (V := (· = .slice (some ⟨gl, 0, none⟩) ls.length cl)) _ _ rfl rfl (eval_tmp ((hold 5 (slots_not (by kernel_rfl))).trans h5)) rfl hK
            · obtain rfl := Option.some.inj ho
              refine ⟨rfl, fun a w' hS hold hin K hK => ?_⟩
              obtain ⟨y5, x5, rfl⟩ := hin 5 rfl (by omega) rfl
              refine if_always rfl ?_
              exact op_len _ _ 26 (by kernel_rfl) rfl rfl _ _ _ (eval_tmp x5) hK
            · obtain rfl := Option.some.inj ho
              refine ⟨rfl, fun a w' hS hold hin K hK => ?_⟩
              obtain ⟨y4, x4, rfl⟩ := hin 4 rfl (by omega) rfl
              obtain ⟨y6, x6, rfl⟩ := hin 6 rfl (by omega) rfl
              refine if_always rfl ?_
              exact op_fn2 _ _ _ _ _ _ rfl rfl (eval_tmp x4) (eval_tmp x6) (by intro args w; kernel_rfl) (at_ev _ _ (by have := HLEN.out; have := HLT.out; omega) _) hK
            · obtain rfl := Option.some.inj ho
              refine ⟨rfl, fun a w' hS hold hin K hK => ?_⟩
              refine if_always rfl ?_
              exact op_move (V := (· = .slice (some sa) ns cs)) _ _ rfl rfl (eval_tmp ((hold 1 (slots_not (by kernel_rfl))).trans h1)) rfl hK
            · obtain rfl := Option.some.inj ho
              refine ⟨rfl, fun a w' hS hold hin K hK => ?_⟩
              refine if_always rfl ?_
              exact op_move (V := (· = .int .i64 k)) _ _ rfl rfl (eval_tmp ((hold 8 (slots_not (by kernel_rfl))).trans h8)) rfl hK
            · obtain rfl := Option.some.inj ho
              refine ⟨rfl, fun a w' hS hold hin K hK => ?_⟩
              obtain ⟨y8, x8, rfl⟩ := hin 8 rfl (by omega) rfl
              obtain ⟨y9, x9, rfl⟩ := hin 9 rfl (by omega) rfl
              refine if_always rfl ?_
              exact op_index 4 63 (by kernel_rfl) (by kernel_rfl) _ _ rfl rfl _ _ _ (eval_tmp x8) _ k (eval_tmp x9) HLT.out hK
            · obtain rfl := Option.some.inj ho
              refine ⟨rfl, fun a w' hS hold hin K hK => ?_⟩
              obtain ⟨y10, x10, rfl⟩ := hin 10 rfl (by omega) rfl
              refine if_always rfl ?_
              exact op_field 63 _ 2 _ (.pointer (some ((sa.add (k * 4)).add 2))) rfl rfl (eval_tmp x10) (fun w => by kernel_rfl) hK
            · obtain rfl := Option.some.inj ho
              refine ⟨rfl, fun a w' hS hold hin K hK => ?_⟩
              obtain ⟨y11, x11, rfl⟩ := hin 11 rfl (by omega) rfl
              refine if_always rfl ?_
              exact op_cell tInt _ ((sa.add (k * 4)).add 2) rfl rfl (eval_tmp x11) (.int .i64 (sy k)) ((HPC.out.under hS.1.1 (by rw [add_block]; exact HPL.out)) 2 _ rfl) hK
            · obtain rfl := Option.some.inj ho
              refine ⟨rfl, fun a w' hS hold hin K hK => ?_⟩
              refine if_always rfl ?_
              exact op_move (V := (· = .slice (some ⟨gl, 0, none⟩) ls.length cl)) _ _ rfl rfl (eval_tmp ((hold 5 (slots_not (by kernel_rfl))).trans h5)) rfl hK
            · obtain rfl := Option.some.inj ho
              refine ⟨rfl, fun a w' hS hold hin K hK => ?_⟩
              obtain ⟨y13, x13, rfl⟩ := hin 13 rfl (by omega) rfl
              refine if_always rfl ?_
              exact op_len _ _ 26 (by kernel_rfl) rfl rfl _ _ _ (eval_tmp x13) hK
            · obtain rfl := Option.some.inj ho
              refine ⟨rfl, fun a w' hS hold hin K hK => ?_⟩
              obtain ⟨y12, x12, rfl⟩ := hin 12 rfl (by omega) rfl
              obtain ⟨y14, x14, rfl⟩ := hin 14 rfl (by omega) rfl
              refine if_always rfl ?_
              exact op_fn2 _ _ _ _ _ _ rfl rfl (eval_tmp x12) (eval_tmp x14) (by intro args w; kernel_rfl) (at_ev _ _ (by have := HLEN.out; have := HLT.out; omega) _) hK
          · intro i o sz hi ho hA; cases hA
          clear hS
          intro t1 V5 hs hold hout hall hne hS
          have ef := frame_fill 16 (fun i => [48, 49, 50, 51, 52, 53, 54, 55, 56, 57, 58, 59, 60, 61, 62, 63].getD i 0) hs hold (slots_apart (by kernel_rfl)) (slots_lie (by rw [HS]; kernel_rfl))
          replace HS := hs.trans HS
          replace hS := hS.1
          obtain ⟨x55, q55, v55⟩ : ∃ x, t1[55]? = some x ∧ ((fun v => ∃ j : Nat, j < ls.length ∧ v = .int .i64 j)) x := hout 7 (by omega) rfl
          obtain ⟨x63, q63, v63⟩ : ∃ x, t1[63]? = some x ∧ ((fun v => ∃ j : Nat, j < ls.length ∧ v = .int .i64 j)) x := hout 15 (by omega) rfl
          replace h1 := (hold 1 (slots_not (by kernel_rfl))).trans h1
          replace h5 := (hold 5 (slots_not (by kernel_rfl))).trans h5
          replace h6 := (hold 6 (slots_not (by kernel_rfl))).trans h6
          replace h8 := (hold 8 (slots_not (by kernel_rfl))).trans h8
          clear hold hout hs hall hne
          obtain ⟨jx, hjx, rfl⟩ := v55
          obtain ⟨jy, hjy, rfl⟩ := v63
          simp only [List.drop_succ_cons, List.drop_zero]
          refine tlx_assign (.tmp 55) rfl rfl 9 rfl (by rw [HS]; decide) (.int .i64 jx) (eval_tmp q55) fun tf0 ex0 hz hq he => ?_
          replace h1 := (he 1 (by decide)).trans h1
          replace h5 := (he 5 (by decide)).trans h5
          replace h6 := (he 6 (by decide)).trans h6
          replace h8 := (he 8 (by decide)).trans h8
          replace q55 := (he 55 (by decide)).trans q55
          replace q63 := (he 63 (by decide)).trans q63
          replace HS := hz.trans HS
          clear hz he
          have h9 := hq
          clear hq
          refine tlx_assign (.tmp 63) rfl rfl 10 rfl (by rw [HS]; decide) (.int .i64 jy) (eval_tmp q63) fun tf1 ex1 hz hq he => ?_
          replace h1 := (he 1 (by decide)).trans h1
          replace h5 := (he 5 (by decide)).trans h5
          replace h6 := (he 6 (by decide)).trans h6
          replace h8 := (he 8 (by decide)).trans h8
          replace h9 := (he 9 (by decide)).trans h9
          replace q55 := (he 55 (by decide)).trans q55
          replace q63 := (he 63 (by decide)).trans q63
          replace HS := hz.trans HS
          clear hz he
          have h10 := hq
          clear hq
          refine wpList_nil ?_
          rw [ex1, ex0, ef, HT]
          clear ef ex0 ex1
          simp only [fillA, if_true, List.getD_cons_zero, List.getD_cons_succ, List.setIfInBounds_toArray, List.set_cons_zero, List.set_cons_succ]
          generalize t1.getD 48 undef = z48
          generalize t1.getD 49 undef = z49
          generalize t1.getD 50 undef = z50
          generalize t1.getD 51 undef = z51
          generalize t1.getD 52 undef = z52
          generalize t1.getD 53 undef = z53
          generalize t1.getD 54 undef = z54
          generalize t1.getD 55 undef = z55
          generalize t1.getD 56 undef = z56
          generalize t1.getD 57 undef = z57
          generalize t1.getD 58 undef = z58
          generalize t1.getD 59 undef = z59
          generalize t1.getD 60 undef = z60
          generalize t1.getD 61 undef = z61
          generalize t1.getD 62 undef = z62
          generalize t1.getD 63 undef = z63
          clear HT
          clear h1 h5 h6 h8 h9 h10 q55 q63 hM HS tf0 tf1 t1 t0 M
          go_wp2_with fail
          obtain ⟨xa, hxa⟩ : ∃ x, ls[jx]? = some x := ⟨_, List.getElem?_eq_getElem hjx⟩
          obtain ⟨ya, hya⟩ : ∃ x, ls[jy]? = some x := ⟨_, List.getElem?_eq_getElem hjy⟩
          have HJX := Lib.hid hjx
          have HJY := Lib.hid hjy
          have HXA := Lib.hid hxa
          have HYA := Lib.hid hya
          obtain ⟨pl, hpl⟩ : ∃ pl, plays (sd k) (sn k) xa ya = pl := ⟨_, rfl⟩
          have HPS := Lib.hid hpl
          have HPN := Lib.hid (hpl ▸ plays_len (sd k) (sn k) xa ya)
          clear hjx hjy hxa hya hpl
          by_cases h0 : pl = []
          · have H0 := Lib.hid h0
            clear h0
            obtain ⟨M, hM⟩ : ∃ M, M = V5.heap.size := ⟨_, rfl⟩
            refine hide_frame fun t0 HT => ?_
            have HS : t0.size = 181 := by rw [HT]; rfl
            have h1 : t0[1]? = some (.slice (some sa) ns cs) := by rw [HT]; rfl
            have h5 : t0[5]? = some (.slice (some ⟨gl, 0, none⟩) ls.length cl) := by rw [HT]; rfl
            have h6 : t0[6]? = some (.slice (some ⟨gm, 0, none⟩) ls.length cm) := by rw [HT]; rfl
            have h8 : t0[8]? = some (.int .i64 k) := by rw [HT]; rfl
            have h9 : t0[9]? = some (.int .i64 jx) := by rw [HT]; rfl
            have h10 : t0[10]? = some (.int .i64 jy) := by rw [HT]; rfl
            refine wp_region_most 13 (fun i => [64, 65, 66, 67, 68, 69, 70, 71, 72, 73, 74, 75, 76].getD i 0) (fun _ => none) (fun i => [(· = .slice (some sa) ns cs), (· = .int .i64 k), (· = .pointer (some ((sa : Addr).add (k * 4)))), (· = .agg #[.int .i64 (sd k), .int .i64 (sx k), .int .i64 (sy k), .int .u64 (sn k)]), (· = .slice (some ⟨gl, 0, none⟩) ls.length cl), (· = .int .i64 jx), (· = .pointer (some ((⟨gl, 0, none⟩ : Addr).add (jx * 5)))), IsEl xa, (· = .slice (some ⟨gl, 0, none⟩) ls.length cl), (· = .int .i64 jy), (· = .pointer (some ((⟨gl, 0, none⟩ : Addr).add (jy * 5)))), IsEl ya, (· = .slice none 0 0)].getD i (fun _ => True)) (fun w' => Own w [(gl, (cl * 5), LRow 5 IsEl ls), (gm, (cm * 32), LRow 32 IsNm ls)] w' ∧ M ≤ w'.heap.size) M
              (by kernel_rfl) (by kernel_rfl) (slots_apart (by kernel_rfl)) (slots_lie (by rw [HS]; kernel_rfl)) ⟨hS.drew, Nat.le_of_eq hM⟩ (fun w' h => h.2) (fun w1 w2 h b => ⟨h.1.keep b, Nat.le_trans h.2 b.size⟩) ?_ ?_ ?_
            · clear hS
              intro i o hi ho hA
              have hc : i = 0 ∨ i = 1 ∨ i = 2 ∨ i = 3 ∨ i = 4 ∨ i = 5 ∨ i = 6 ∨ i = 7 ∨ i = 8 ∨ i = 9 ∨ i = 10 ∨ i = 11 ∨ i = 12 := by omega
              rcases hc with rfl | rfl | rfl | rfl | rfl | rfl | rfl | rfl | rfl | rfl | rfl | rfl | rfl
              · obtain rfl := Option.some.inj ho
                refine ⟨rfl, fun a w' hS hold hin K hK => ?_⟩
                refine if_always rfl ?_
                exact op_move (V := (· = .slice (some sa) ns cs)) _ _ rfl rfl (eval_tmp ((hold 1 (slots_not (by kernel_rfl))).trans h1)) rfl hK
              · obtain rfl := Option.some.inj ho
                refine ⟨rfl, fun a w' hS hold hin K hK => ?_⟩
                refine if_always rfl ?_
                exact op_move (V := (· = .int .i64 k)) _ _ rfl rfl (eval_tmp ((hold 8 (slots_not (by kernel_rfl))).trans h8)) rfl hK
              · obtain rfl := Option.some.inj ho
                refine ⟨rfl, fun a w' hS hold hin K hK => ?_⟩
                obtain ⟨y0, x0, rfl⟩ := hin 0 rfl (by omega) rfl
                obtain ⟨y1, x1, rfl⟩ := hin 1 rfl (by omega) rfl
                refine if_always rfl ?_
                exact op_index 4 63 (by kernel_rfl) (by kernel_rfl) _ _ rfl rfl _ _ _ (eval_tmp x0) _ k (eval_tmp x1) HLT.out hK
              · obtain rfl := Option.some.inj ho
                refine ⟨rfl, fun a w' hS hold hin K hK => ?_⟩
                obtain ⟨y2, x2, rfl⟩ := hin 2 rfl (by omega) rfl
                refine if_always rfl ?_
                exact op_ld_at 4 tStep _ rfl rfl _ (eval_tmp x2) (#[.int .i64 (sd k), .int .i64 (sx k), .int .i64 (sy k), .int .u64 (sn k)]) rfl (HPC.out.under hS.1.1 (by rw [add_block]; exact HPL.out)) hK
              · obtain rfl := Option.some.inj ho
                refine ⟨rfl, fun a w' hS hold hin K hK => ?_⟩
                refine if_always rfl ?_
                exact op_move (V := (· = .slice (some ⟨gl, 0, none⟩) ls.length cl)) _ _ rfl rfl (eval_tmp ((hold 5 (slots_not (by kernel_rfl))).trans h5)) rfl hK
              · obtain rfl := Option.some.inj ho
                refine ⟨rfl, fun a w' hS hold hin K hK => ?_⟩
                refine if_always rfl ?_
                exact op_move (V := (· = .int .i64 jx)) _ _ rfl rfl (eval_tmp ((hold 9 (slots_not (by kernel_rfl))).trans h9)) rfl hK
              · obtain rfl := Option.some.inj ho
                refine ⟨rfl, fun a w' hS hold hin K hK => ?_⟩
                obtain ⟨y4, x4, rfl⟩ := hin 4 rfl (by omega) rfl
                obtain ⟨y5, x5, rfl⟩ := hin 5 rfl (by omega) rfl
                refine if_always rfl ?_
                exact op_index 5 26 (by kernel_rfl) (by kernel_rfl) _ _ rfl rfl _ _ _ (eval_tmp x4) _ jx (eval_tmp x5) HJX.out hK
              · obtain rfl := Option.some.inj ho
                refine ⟨rfl, fun a w' hS hold hin K hK => ?_⟩
                obtain ⟨y6, x6, rfl⟩ := hin 6 rfl (by omega) rfl
                refine if_always rfl ?_
                exact op_ld_list 5 tElem _ rfl rfl gl jx (eval_tmp x6) hS.1 0 _ rfl _ HXA.out hK
              · obtain rfl := Option.some.inj ho
                refine ⟨rfl, fun a w' hS hold hin K hK => ?_⟩
                refine if_always rfl ?_
                exact op_move (V := (· = .slice (some ⟨gl, 0, none⟩) ls.length cl)) _ _ rfl rfl (eval_tmp ((hold 5 (slots_not (by kernel_rfl))).trans h5)) rfl hK
              · obtain rfl := Option.some.inj ho
                refine ⟨rfl, fun a w' hS hold hin K hK => ?_⟩
                refine if_always rfl ?_
                exact op_move (V := (· = .int .i64 jy)) _ _ rfl rfl (eval_tmp ((hold 10 (slots_not (by kernel_rfl))).trans h10)) rfl hK
              · obtain rfl := Option.some.inj ho
                refine ⟨rfl, fun a w' hS hold hin K hK => ?_⟩
                obtain ⟨y8, x8, rfl⟩ := hin 8 rfl (by omega) rfl
                obtain ⟨y9, x9, rfl⟩ := hin 9 rfl (by omega) rfl
                refine if_always rfl ?_
                exact op_index 5 26 (by kernel_rfl) (by kernel_rfl) _ _ rfl rfl _ _ _ (eval_tmp x8) _ jy (eval_tmp x9) HJY.out hK
              · obtain rfl := Option.some.inj ho
                refine ⟨rfl, fun a w' hS hold hin K hK => ?_⟩
                obtain ⟨y10, x10, rfl⟩ := hin 10 rfl (by omega) rfl
                refine if_always rfl ?_
                exact op_ld_list 5 tElem _ rfl rfl gl jy (eval_tmp x10) hS.1 0 _ rfl _ HYA.out hK
              · obtain rfl := Option.some.inj ho
                refine ⟨rfl, fun a w' hS hold hin K hK => ?_⟩
                obtain ⟨y3, x3, rfl⟩ := hin 3 rfl (by omega) rfl
                obtain ⟨y7, x7, (v7 : IsEl xa y7)⟩ := hin 7 rfl (by omega) rfl
                obtain ⟨y11, x11, (v11 : IsEl ya y11)⟩ := hin 11 rfl (by omega) rfl
                refine if_always rfl ?_
                exact op_fn3 _ _ _ _ _ _ _ _ rfl rfl (eval_tmp x3) (eval_tmp x7) (eval_tmp x11) (by intro args w; kernel_rfl) (wp_fn3_nil H0.out (HPS.out ▸ made_any (sd k) (sx k) (sy k) (sn k) xa ya _ HSN1.out v7 v11)) hK
            · intro i o sz hi ho hA; cases hA
            clear hS
            intro t1 V6 hs hold hout hall hne hS
            have ef := frame_fill 13 (fun i => [64, 65, 66, 67, 68, 69, 70, 71, 72, 73, 74, 75, 76].getD i 0) hs hold (slots_apart (by kernel_rfl)) (slots_lie (by rw [HS]; kernel_rfl))
            replace HS := hs.trans HS
            replace hS := hS.1
            obtain ⟨x76, q76, v76⟩ : ∃ x, t1[76]? = some x ∧ ((· = .slice none 0 0)) x := hout 12 (by omega) rfl
            replace q76 : t1[76]? = some (.slice none 0 0) := q76.trans (congrArg some v76)
            replace h1 := (hold 1 (slots_not (by kernel_rfl))).trans h1
            replace h5 := (hold 5 (slots_not (by kernel_rfl))).trans h5
            replace h6 := (hold 6 (slots_not (by kernel_rfl))).trans h6
            replace h8 := (hold 8 (slots_not (by kernel_rfl))).trans h8
            replace h9 := (hold 9 (slots_not (by kernel_rfl))).trans h9
            replace h10 := (hold 10 (slots_not (by kernel_rfl))).trans h10
            clear hold hout hs hall hne
            simp only [List.drop_succ_cons, List.drop_zero]
            refine tlx_assign (.tmp 76) rfl rfl 11 rfl (by rw [HS]; decide) (.slice none 0 0) (eval_tmp q76) fun tf0 ex0 hz hq he => ?_
            replace h1 := (he 1 (by decide)).trans h1
            replace h5 := (he 5 (by decide)).trans h5
            replace h6 := (he 6 (by decide)).trans h6
            replace h8 := (he 8 (by decide)).trans h8
            replace h9 := (he 9 (by decide)).trans h9
            replace h10 := (he 10 (by decide)).trans h10
            replace q76 := (he 76 (by decide)).trans q76
            replace HS := hz.trans HS
            clear hz he
            have h11 := hq
            clear hq
            refine wpList_nil ?_
            rw [ex0, ef, HT]
            clear ef ex0
            simp only [fillA, if_true, List.getD_cons_zero, List.getD_cons_succ, List.setIfInBounds_toArray, List.set_cons_zero, List.set_cons_succ]
            generalize t1.getD 64 undef = z64
            generalize t1.getD 65 undef = z65
            generalize t1.getD 66 undef = z66
            generalize t1.getD 67 undef = z67
            generalize t1.getD 68 undef = z68
            generalize t1.getD 69 undef = z69
            generalize t1.getD 70 undef = z70
            generalize t1.getD 71 undef = z71
            generalize t1.getD 72 undef = z72
            generalize t1.getD 73 undef = z73
            generalize t1.getD 74 undef = z74
            generalize t1.getD 75 undef = z75
            generalize t1.getD 76 undef = z76
            clear HT
            clear h1 h5 h6 h8 h9 h10 h11 q76 v76 hM HS tf0 t1 t0 M
            go_wp2_with fail
            obtain ⟨M, hM⟩ : ∃ M, M = V6.heap.size := ⟨_, rfl⟩
            refine hide_frame fun t0 HT => ?_
            have HS : t0.size = 181 := by rw [HT]; rfl
            have h1 : t0[1]? = some (.slice (some sa) ns cs) := by rw [HT]; rfl
            have h5 : t0[5]? = some (.slice (some ⟨gl, 0, none⟩) ls.length cl) := by rw [HT]; rfl
            have h6 : t0[6]? = some (.slice (some ⟨gm, 0, none⟩) ls.length cm) := by rw [HT]; rfl
            have h8 : t0[8]? = some (.int .i64 k) := by rw [HT]; rfl
            have h9 : t0[9]? = some (.int .i64 jx) := by rw [HT]; rfl
            have h10 : t0[10]? = some (.int .i64 jy) := by rw [HT]; rfl
            have h11 : t0[11]? = some (.slice none 0 0) := by rw [HT]; rfl
            refine wp_region_most 13 (fun i => [77, 78, 79, 80, 81, 82, 83, 84, 85, 86, 87, 88, 89].getD i 0) (fun _ => none) (fun i => [(· = .slice (some sa) ns cs), (· = .int .i64 k), (· = .pointer (some ((sa : Addr).add (k * 4)))), (· = .agg #[.int .i64 (sd k), .int .i64 (sx k), .int .i64 (sy k), .int .u64 (sn k)]), (· = .slice (some ⟨gm, 0, none⟩) ls.length cm), (· = .int .i64 jx), (· = .pointer (some ((⟨gm, 0, none⟩ : Addr).add (jx * 32)))), (· = .agg (vals (bytesN xa.val))), (· = .slice (some ⟨gm, 0, none⟩) ls.length cm), (· = .int .i64 jy), (· = .pointer (some ((⟨gm, 0, none⟩ : Addr).add (jy * 32)))), (· = .agg (vals (bytesN ya.val))), (· = .slice none 0 0)].getD i (fun _ => True)) (fun w' => Own w [(gl, (cl * 5), LRow 5 IsEl ls), (gm, (cm * 32), LRow 32 IsNm ls)] w' ∧ M ≤ w'.heap.size) M
              (by kernel_rfl) (by kernel_rfl) (slots_apart (by kernel_rfl)) (slots_lie (by rw [HS]; kernel_rfl)) ⟨hS.drew, Nat.le_of_eq hM⟩ (fun w' h => h.2) (fun w1 w2 h b => ⟨h.1.keep b, Nat.le_trans h.2 b.size⟩) ?_ ?_ ?_
            · clear hS
              intro i o hi ho hA
              have hc : i = 0 ∨ i = 1 ∨ i = 2 ∨ i = 3 ∨ i = 4 ∨ i = 5 ∨ i = 6 ∨ i = 7 ∨ i = 8 ∨ i = 9 ∨ i = 10 ∨ i = 11 ∨ i = 12 := by omega
              rcases hc with rfl | rfl | rfl | rfl | rfl | rfl | rfl | rfl | rfl | rfl | rfl | rfl | rfl
              · obtain rfl := Option.some.inj ho
                refine ⟨rfl, fun a w' hS hold hin K hK => ?_⟩
                refine if_always rfl ?_
                exact op_move (V := (· = .slice (some sa) ns cs)) _ _ rfl rfl (eval_tmp ((hold 1 (slots_not (by kernel_rfl))).trans h1)) rfl hK
              · obtain rfl := Option.some.inj ho
                refine ⟨rfl, fun a w' hS hold hin K hK => ?_⟩
                refine if_always rfl ?_
                exact op_move (V := (· = .int .i64 k)) _ _ rfl rfl (eval_tmp ((hold 8 (slots_not (by kernel_rfl))).trans h8)) rfl hK
              · obtain rfl := Option.some.inj ho
                refine ⟨rfl, fun a w' hS hold hin K hK => ?_⟩
                obtain ⟨y0, x0, rfl⟩ := hin 0 rfl (by omega) rfl
                obtain ⟨y1, x1, rfl⟩ := hin 1 rfl (by omega) rfl
                refine if_always rfl ?_
                exact op_index 4 63 (by kernel_rfl) (by kernel_rfl) _ _ rfl rfl _ _ _ (eval_tmp x0) _ k (eval_tmp x1) HLT.out hK
              · obtain rfl := Option.some.inj ho
                refine ⟨rfl, fun a w' hS hold hin K hK => ?_⟩
                obtain ⟨y2, x2, rfl⟩ := hin 2 rfl (by omega) rfl
                refine if_always rfl ?_
                exact op_ld_at 4 tStep _ rfl rfl _ (eval_tmp x2) (#[.int .i64 (sd k), .int .i64 (sx k), .int .i64 (sy k), .int .u64 (sn k)]) rfl (HPC.out.under hS.1.1 (by rw [add_block]; exact HPL.out)) hK
              · obtain rfl := Option.some.inj ho
                refine ⟨rfl, fun a w' hS hold hin K hK => ?_⟩
                refine if_always rfl ?_
                exact op_move (V := (· = .slice (some ⟨gm, 0, none⟩) ls.length cm)) _ _ rfl rfl (eval_tmp ((hold 6 (slots_not (by kernel_rfl))).trans h6)) rfl hK
              · obtain rfl := Option.some.inj ho
                refine ⟨rfl, fun a w' hS hold hin K hK => ?_⟩
                refine if_always rfl ?_
                exact op_move (V := (· = .int .i64 jx)) _ _ rfl rfl (eval_tmp ((hold 9 (slots_not (by kernel_rfl))).trans h9)) rfl hK
              · obtain rfl := Option.some.inj ho
                refine ⟨rfl, fun a w' hS hold hin K hK => ?_⟩
                obtain ⟨y4, x4, rfl⟩ := hin 4 rfl (by omega) rfl
                obtain ⟨y5, x5, rfl⟩ := hin 5 rfl (by omega) rfl
                refine if_always rfl ?_
                exact op_index 32 29 (by kernel_rfl) (by kernel_rfl) _ _ rfl rfl _ _ _ (eval_tmp x4) _ jx (eval_tmp x5) HJX.out hK
              · obtain rfl := Option.some.inj ho
                refine ⟨rfl, fun a w' hS hold hin K hK => ?_⟩
                obtain ⟨y6, x6, rfl⟩ := hin 6 rfl (by omega) rfl
                refine if_always rfl ?_
                exact op_ld_list 32 tNum _ rfl rfl gm jx (eval_tmp x6) hS.1 1 _ rfl _ HXA.out hK
              · obtain rfl := Option.some.inj ho
                refine ⟨rfl, fun a w' hS hold hin K hK => ?_⟩
                refine if_always rfl ?_
                exact op_move (V := (· = .slice (some ⟨gm, 0, none⟩) ls.length cm)) _ _ rfl rfl (eval_tmp ((hold 6 (slots_not (by kernel_rfl))).trans h6)) rfl hK
              · obtain rfl := Option.some.inj ho
                refine ⟨rfl, fun a w' hS hold hin K hK => ?_⟩
                refine if_always rfl ?_
                exact op_move (V := (· = .int .i64 jy)) _ _ rfl rfl (eval_tmp ((hold 10 (slots_not (by kernel_rfl))).trans h10)) rfl hK
              · obtain rfl := Option.some.inj ho
                refine ⟨rfl, fun a w' hS hold hin K hK => ?_⟩
                obtain ⟨y8, x8, rfl⟩ := hin 8 rfl (by omega) rfl
                obtain ⟨y9, x9, rfl⟩ := hin 9 rfl (by omega) rfl
                refine if_always rfl ?_
                exact op_index 32 29 (by kernel_rfl) (by kernel_rfl) _ _ rfl rfl _ _ _ (eval_tmp x8) _ jy (eval_tmp x9) HJY.out hK
              · obtain rfl := Option.some.inj ho
                refine ⟨rfl, fun a w' hS hold hin K hK => ?_⟩
                obtain ⟨y10, x10, rfl⟩ := hin 10 rfl (by omega) rfl
                refine if_always rfl ?_
                exact op_ld_list 32 tNum _ rfl rfl gm jy (eval_tmp x10) hS.1 1 _ rfl _ HYA.out hK
              · obtain rfl := Option.some.inj ho
                refine ⟨rfl, fun a w' hS hold hin K hK => ?_⟩
                obtain ⟨y3, x3, rfl⟩ := hin 3 rfl (by omega) rfl
                obtain ⟨y7, x7, rfl⟩ := hin 7 rfl (by omega) rfl
                obtain ⟨y11, x11, rfl⟩ := hin 11 rfl (by omega) rfl
                refine if_always rfl ?_
                exact op_fn3 _ _ _ _ _ _ _ _ rfl rfl (eval_tmp x3) (eval_tmp x7) (eval_tmp x11) (by intro args w; kernel_rfl) (wp_fn3_nil H0.out (HPS.out ▸ meant_any (sd k) (sx k) (sy k) (sn k) xa ya _ HSN1.out)) hK
            · intro i o sz hi ho hA; cases hA
            clear hS
            intro t1 V7 hs hold hout hall hne hS
            have ef := frame_fill 13 (fun i => [77, 78, 79, 80, 81, 82, 83, 84, 85, 86, 87, 88, 89].getD i 0) hs hold (slots_apart (by kernel_rfl)) (slots_lie (by rw [HS]; kernel_rfl))
            replace HS := hs.trans HS
            replace hS := hS.1
            obtain ⟨x89, q89, v89⟩ : ∃ x, t1[89]? = some x ∧ ((· = .slice none 0 0)) x := hout 12 (by omega) rfl
            replace q89 : t1[89]? = some (.slice none 0 0) := q89.trans (congrArg some v89)
            replace h1 := (hold 1 (slots_not (by kernel_rfl))).trans h1
            replace h5 := (hold 5 (slots_not (by kernel_rfl))).trans h5
            replace h6 := (hold 6 (slots_not (by kernel_rfl))).trans h6
            replace h8 := (hold 8 (slots_not (by kernel_rfl))).trans h8
            replace h9 := (hold 9 (slots_not (by kernel_rfl))).trans h9
            replace h10 := (hold 10 (slots_not (by kernel_rfl))).trans h10
            replace h11 := (hold 11 (slots_not (by kernel_rfl))).trans h11
            clear hold hout hs hall hne
            simp only [List.drop_succ_cons, List.drop_zero]
            refine tlx_assign (.tmp 89) rfl rfl 12 rfl (by rw [HS]; decide) (.slice none 0 0) (eval_tmp q89) fun tf0 ex0 hz hq he => ?_
            replace h1 := (he 1 (by decide)).trans h1
            replace h5 := (he 5 (by decide)).trans h5
            replace h6 := (he 6 (by decide)).trans h6
            replace h8 := (he 8 (by decide)).trans h8
            replace h9 := (he 9 (by decide)).trans h9
            replace h10 := (he 10 (by decide)).trans h10
            replace h11 := (he 11 (by decide)).trans h11
            replace q89 := (he 89 (by decide)).trans q89
            replace HS := hz.trans HS
            clear hz he
            have h12 := hq
            clear hq
            refine wpList_nil ?_
            rw [ex0, ef, HT]
            clear ef ex0
            simp only [fillA, if_true, List.getD_cons_zero, List.getD_cons_succ, List.setIfInBounds_toArray, List.set_cons_zero, List.set_cons_succ]
            generalize t1.getD 77 undef = z77
            generalize t1.getD 78 undef = z78
            generalize t1.getD 79 undef = z79
            generalize t1.getD 80 undef = z80
            generalize t1.getD 81 undef = z81
            generalize t1.getD 82 undef = z82
            generalize t1.getD 83 undef = z83
            generalize t1.getD 84 undef = z84
            generalize t1.getD 85 undef = z85
            generalize t1.getD 86 undef = z86
            generalize t1.getD 87 undef = z87
            generalize t1.getD 88 undef = z88
            generalize t1.getD 89 undef = z89
            clear HT
            clear h1 h5 h6 h8 h9 h10 h11 h12 q89 v89 hM HS tf0 t1 t0 M
            go_wp2_with ((with_reducible refine guard_list ?_); first | (refine held_append _ _ rfl ?_))
            obtain ⟨M, hM⟩ : ∃ M, M = V7.heap.size := ⟨_, rfl⟩
            refine hide_held fun t0 HT => ?_
            have HS : t0.size = 181 := by rw [HT]; rfl
            have h1 : t0[1]? = some (.slice (some sa) ns cs) := by rw [HT]; rfl
            have h5 : t0[5]? = some (.slice (some ⟨gl, 0, none⟩) ls.length cl) := by rw [HT]; rfl
            have h6 : t0[6]? = some (.slice (some ⟨gm, 0, none⟩) ls.length cm) := by rw [HT]; rfl
            have h8 : t0[8]? = some (.int .i64 k) := by rw [HT]; rfl
            have h9 : t0[9]? = some (.int .i64 jx) := by rw [HT]; rfl
            have h10 : t0[10]? = some (.int .i64 jy) := by rw [HT]; rfl
            have h11 : t0[11]? = some (.slice none 0 0) := by rw [HT]; rfl
            have h12 : t0[12]? = some (.slice none 0 0) := by rw [HT]; rfl
            refine wp_from_most 2 (fun i => [95, 96].getD i 0) (fun _ => none) (fun i => [(· = .slice (some ⟨gl, 0, none⟩) ls.length cl), (· = .slice none 0 0)].getD i (fun _ => True)) (fun w' => Own w [(gl, (cl * 5), LRow 5 IsEl ls), (gm, (cm * 32), LRow 32 IsNm ls)] w' ∧ M ≤ w'.heap.size) M
              2 (by omega) (by kernel_rfl) ?_ (slots_apart (by kernel_rfl)) (slots_lie (by rw [HS]; kernel_rfl)) ⟨hS, Nat.le_of_eq hM⟩ (fun w' h => h.2) (fun w1 w2 h b => ⟨h.1.keep b, Nat.le_trans h.2 b.size⟩) ?_ ?_ ?_
            · intro j hj _
              have hc : j = 0 ∨ j = 1 := by omega
              rcases hc with rfl | rfl
              · exact ⟨rfl, _, by rw [HT]; rfl, rfl⟩
              · exact ⟨rfl, _, by rw [HT]; rfl, rfl⟩
            · clear hS
              intro i o h0i hi ho hA
              exfalso; omega
            · intro i o sz h0i hi ho hA; cases hA
            clear hS
            intro t1 V8 hs hold hout hall hne hS
            have ef := frame_fill 2 (fun i => [95, 96].getD i 0) hs hold (slots_apart (by kernel_rfl)) (slots_lie (by rw [HS]; kernel_rfl))
            replace HS := hs.trans HS
            replace hS := hS.1
            obtain ⟨x95, q95, v95⟩ : ∃ x, t1[95]? = some x ∧ ((· = .slice (some ⟨gl, 0, none⟩) ls.length cl)) x := hout 0 (by omega) rfl
            replace q95 : t1[95]? = some (.slice (some ⟨gl, 0, none⟩) ls.length cl) := q95.trans (congrArg some v95)
            obtain ⟨x96, q96, v96⟩ : ∃ x, t1[96]? = some x ∧ ((· = .slice none 0 0)) x := hout 1 (by omega) rfl
            replace q96 : t1[96]? = some (.slice none 0 0) := q96.trans (congrArg some v96)
            replace h1 := (hold 1 (slots_not (by kernel_rfl))).trans h1
            replace h5 := (hold 5 (slots_not (by kernel_rfl))).trans h5
            replace h6 := (hold 6 (slots_not (by kernel_rfl))).trans h6
            replace h8 := (hold 8 (slots_not (by kernel_rfl))).trans h8
            replace h9 := (hold 9 (slots_not (by kernel_rfl))).trans h9
            replace h10 := (hold 10 (slots_not (by kernel_rfl))).trans h10
            replace h11 := (hold 11 (slots_not (by kernel_rfl))).trans h11
            replace h12 := (hold 12 (slots_not (by kernel_rfl))).trans h12
            clear hold hout hs hall hne
            simp only [List.drop_succ_cons, List.drop_zero]
            refine tlx_append_nil 5 26 (.tmp 95) (.tmp 96) rfl rfl 97 rfl (by rw [HS]; decide) (by kernel_rfl) (by kernel_rfl) _ _ _ (eval_tmp q95) (eval_tmp q96) HCL.out.1 fun tf0 ex0 hz hq he => ?_
            replace h1 := (he 1 (by decide)).trans h1
            replace h5 := (he 5 (by decide)).trans h5
            replace h6 := (he 6 (by decide)).trans h6
            replace h8 := (he 8 (by decide)).trans h8
            replace h9 := (he 9 (by decide)).trans h9
            replace h10 := (he 10 (by decide)).trans h10
            replace h11 := (he 11 (by decide)).trans h11
            replace h12 := (he 12 (by decide)).trans h12
            replace q95 := (he 95 (by decide)).trans q95
            replace q96 := (he 96 (by decide)).trans q96
            replace HS := hz.trans HS
            clear hz he
            have h97 := hq
            clear hq
            refine tlx_assign (.tmp 97) rfl rfl 5 rfl (by rw [HS]; decide) (.slice (some ⟨gl, 0, none⟩) ls.length cl) (eval_tmp h97) fun tf1 ex1 hz hq he => ?_
            replace h1 := (he 1 (by decide)).trans h1
            replace h6 := (he 6 (by decide)).trans h6
            replace h8 := (he 8 (by decide)).trans h8
            replace h9 := (he 9 (by decide)).trans h9
            replace h10 := (he 10 (by decide)).trans h10
            replace h11 := (he 11 (by decide)).trans h11
            replace h12 := (he 12 (by decide)).trans h12
            replace h97 := (he 97 (by decide)).trans h97
            replace q95 := (he 95 (by decide)).trans q95
            replace q96 := (he 96 (by decide)).trans q96
            replace HS := hz.trans HS
            clear hz he
            clear h5
            have h5 := hq
            clear hq
            refine wpList_nil ?_
            rw [ex1, ex0, ef, HT]
            clear ef ex0 ex1
            simp only [fillA, if_true, List.getD_cons_zero, List.getD_cons_succ, List.setIfInBounds_toArray, List.set_cons_zero, List.set_cons_succ]
            generalize t1.getD 95 undef = z95
            generalize t1.getD 96 undef = z96
            clear HT
            clear h1 h5 h6 h8 h9 h10 h11 h12 h97 q95 q96 v95 v96 hM HS tf0 tf1 t1 t0 M
            go_wp2_with ((with_reducible refine guard_list ?_); first | (refine held_append _ _ rfl ?_))
            obtain ⟨M, hM⟩ : ∃ M, M = V8.heap.size := ⟨_, rfl⟩
            refine hide_held fun t0 HT => ?_
            have HS : t0.size = 181 := by rw [HT]; rfl
            have h1 : t0[1]? = some (.slice (some sa) ns cs) := by rw [HT]; rfl
            have h5 : t0[5]? = some (.slice (some ⟨gl, 0, none⟩) ls.length cl) := by rw [HT]; rfl
            have h6 : t0[6]? = some (.slice (some ⟨gm, 0, none⟩) ls.length cm) := by rw [HT]; rfl
            have h8 : t0[8]? = some (.int .i64 k) := by rw [HT]; rfl
            have h9 : t0[9]? = some (.int .i64 jx) := by rw [HT]; rfl
            have h10 : t0[10]? = some (.int .i64 jy) := by rw [HT]; rfl
            have h11 : t0[11]? = some (.slice none 0 0) := by rw [HT]; rfl
            have h12 : t0[12]? = some (.slice none 0 0) := by rw [HT]; rfl
            refine wp_from_most 2 (fun i => [98, 99].getD i 0) (fun _ => none) (fun i => [(· = .slice (some ⟨gm, 0, none⟩) ls.length cm), (· = .slice none 0 0)].getD i (fun _ => True)) (fun w' => Own w [(gl, (cl * 5), LRow 5 IsEl ls), (gm, (cm * 32), LRow 32 IsNm ls)] w' ∧ M ≤ w'.heap.size) M
              2 (by omega) (by kernel_rfl) ?_ (slots_apart (by kernel_rfl)) (slots_lie (by rw [HS]; kernel_rfl)) ⟨hS, Nat.le_of_eq hM⟩ (fun w' h => h.2) (fun w1 w2 h b => ⟨h.1.keep b, Nat.le_trans h.2 b.size⟩) ?_ ?_ ?_
            · intro j hj _
              have hc : j = 0 ∨ j = 1 := by omega
              rcases hc with rfl | rfl
              · exact ⟨rfl, _, by rw [HT]; rfl, rfl⟩
              · exact ⟨rfl, _, by rw [HT]; rfl, rfl⟩
            · clear hS
              intro i o h0i hi ho hA
              exfalso; omega
            · intro i o sz h0i hi ho hA; cases hA
            clear hS
            intro t1 V9 hs hold hout hall hne hS
            have ef := frame_fill 2 (fun i => [98, 99].getD i 0) hs hold (slots_apart (by kernel_rfl)) (slots_lie (by rw [HS]; kernel_rfl))
            replace HS := hs.trans HS
            replace hS := hS.1
            obtain ⟨x98, q98, v98⟩ : ∃ x, t1[98]? = some x ∧ ((· = .slice (some ⟨gm, 0, none⟩) ls.length cm)) x := hout 0 (by omega) rfl
            replace q98 : t1[98]? = some (.slice (some ⟨gm, 0, none⟩) ls.length cm) := q98.trans (congrArg some v98)
            obtain ⟨x99, q99, v99⟩ : ∃ x, t1[99]? = some x ∧ ((· = .slice none 0 0)) x := hout 1 (by omega) rfl
            replace q99 : t1[99]? = some (.slice none 0 0) := q99.trans (congrArg some v99)
            replace h1 := (hold 1 (slots_not (by kernel_rfl))).trans h1
            replace h5 := (hold 5 (slots_not (by kernel_rfl))).trans h5
            replace h6 := (hold 6 (slots_not (by kernel_rfl))).trans h6
            replace h8 := (hold 8 (slots_not (by kernel_rfl))).trans h8
            replace h9 := (hold 9 (slots_not (by kernel_rfl))).trans h9
            replace h10 := (hold 10 (slots_not (by kernel_rfl))).trans h10
            replace h11 := (hold 11 (slots_not (by kernel_rfl))).trans h11
            replace h12 := (hold 12 (slots_not (by kernel_rfl))).trans h12
            clear hold hout hs hall hne
            simp only [List.drop_succ_cons, List.drop_zero]
            refine tlx_append_nil 32 29 (.tmp 98) (.tmp 99) rfl rfl 100 rfl (by rw [HS]; decide) (by kernel_rfl) (by kernel_rfl) _ _ _ (eval_tmp q98) (eval_tmp q99) HCM.out.1 fun tf0 ex0 hz hq he => ?_
            replace h1 := (he 1 (by decide)).trans h1
            replace h5 := (he 5 (by decide)).trans h5
            replace h6 := (he 6 (by decide)).trans h6
            replace h8 := (he 8 (by decide)).trans h8
            replace h9 := (he 9 (by decide)).trans h9
            replace h10 := (he 10 (by decide)).trans h10
            replace h11 := (he 11 (by decide)).trans h11
            replace h12 := (he 12 (by decide)).trans h12
            replace q98 := (he 98 (by decide)).trans q98
            replace q99 := (he 99 (by decide)).trans q99
            replace HS := hz.trans HS
            clear hz he
            have h100 := hq
            clear hq
            refine tlx_assign (.tmp 100) rfl rfl 6 rfl (by rw [HS]; decide) (.slice (some ⟨gm, 0, none⟩) ls.length cm) (eval_tmp h100) fun tf1 ex1 hz hq he => ?_
            replace h1 := (he 1 (by decide)).trans h1
            replace h5 := (he 5 (by decide)).trans h5
            replace h8 := (he 8 (by decide)).trans h8
            replace h9 := (he 9 (by decide)).trans h9
            replace h10 := (he 10 (by decide)).trans h10
            replace h11 := (he 11 (by decide)).trans h11
            replace h12 := (he 12 (by decide)).trans h12
            replace h100 := (he 100 (by decide)).trans h100
            replace q98 := (he 98 (by decide)).trans q98
            replace q99 := (he 99 (by decide)).trans q99
            replace HS := hz.trans HS
            clear hz he
            clear h6
            have h6 := hq
            clear hq
            refine wpList_nil ?_
            rw [ex1, ex0, ef, HT]
            clear ef ex0 ex1
            simp only [fillA, if_true, List.getD_cons_zero, List.getD_cons_succ, List.setIfInBounds_toArray, List.set_cons_zero, List.set_cons_succ]
            generalize t1.getD 98 undef = z98
            generalize t1.getD 99 undef = z99
            clear HT
            clear h1 h5 h6 h8 h9 h10 h11 h12 h100 q98 q99 v98 v99 hM HS tf0 tf1 t1 t0 M
            have HS9 := Lib.hid hS
            have HLT2 := HLT.out
            clear hS
            go_wp2_with fail
            go_roundw
            case rel => exact ⟨k + 1, gl, cl, gm, cm, ls, by omega, by go_num, by have := HLEN.out; omega, rfl, rfl, HCL.out, HCM.out, HS9.out⟩
            case measure => simp [intOf]; omega
          · have H0 := Lib.hid h0
            clear h0
            obtain ⟨M, hM⟩ : ∃ M, M = V5.heap.size := ⟨_, rfl⟩
            refine hide_frame fun t0 HT => ?_
            have HS : t0.size = 181 := by rw [HT]; rfl
            have h1 : t0[1]? = some (.slice (some sa) ns cs) := by rw [HT]; rfl
            have h5 : t0[5]? = some (.slice (some ⟨gl, 0, none⟩) ls.length cl) := by rw [HT]; rfl
            have h6 : t0[6]? = some (.slice (some ⟨gm, 0, none⟩) ls.length cm) := by rw [HT]; rfl
            have h8 : t0[8]? = some (.int .i64 k) := by rw [HT]; rfl
            have h9 : t0[9]? = some (.int .i64 jx) := by rw [HT]; rfl
            have h10 : t0[10]? = some (.int .i64 jy) := by rw [HT]; rfl
            refine wp_region_most 12 (fun i => [64, 65, 66, 67, 68, 69, 70, 71, 72, 73, 74, 75].getD i 0) (fun _ => none) (fun i => [(· = .slice (some sa) ns cs), (· = .int .i64 k), (· = .pointer (some ((sa : Addr).add (k * 4)))), (· = .agg #[.int .i64 (sd k), .int .i64 (sx k), .int .i64 (sy k), .int .u64 (sn k)]), (· = .slice (some ⟨gl, 0, none⟩) ls.length cl), (· = .int .i64 jx), (· = .pointer (some ((⟨gl, 0, none⟩ : Addr).add (jx * 5)))), IsEl xa, (· = .slice (some ⟨gl, 0, none⟩) ls.length cl), (· = .int .i64 jy), (· = .pointer (some ((⟨gl, 0, none⟩ : Addr).add (jy * 5)))), IsEl ya].getD i (fun _ => True)) (fun w' => Own w [(gl, (cl * 5), LRow 5 IsEl ls), (gm, (cm * 32), LRow 32 IsNm ls)] w' ∧ M ≤ w'.heap.size) M
              (by kernel_rfl) (by kernel_rfl) (slots_apart (by kernel_rfl)) (slots_lie (by rw [HS]; kernel_rfl)) ⟨hS.drew, Nat.le_of_eq hM⟩ (fun w' h => h.2) (fun w1 w2 h b => ⟨h.1.keep b, Nat.le_trans h.2 b.size⟩) ?_ ?_ ?_
            · clear hS
              intro i o hi ho hA
              have hc : i = 0 ∨ i = 1 ∨ i = 2 ∨ i = 3 ∨ i = 4 ∨ i = 5 ∨ i = 6 ∨ i = 7 ∨ i = 8 ∨ i = 9 ∨ i = 10 ∨ i = 11 := by omega
              rcases hc with rfl | rfl | rfl | rfl | rfl | rfl | rfl | rfl | rfl | rfl | rfl | rfl
              · obtain rfl := Option.some.inj ho
                refine ⟨rfl, fun a w' hS hold hin K hK => ?_⟩
                refine if_always rfl ?_
                exact op_move (V := (· = .slice (some sa) ns cs)) _ _ rfl rfl (eval_tmp ((hold 1 (slots_not (by kernel_rfl))).trans h1)) rfl hK
              · obtain rfl := Option.some.inj ho
                refine ⟨rfl, fun a w' hS hold hin K hK => ?_⟩
                refine if_always rfl ?_
                exact op_move (V := (· = .int .i64 k)) _ _ rfl rfl (eval_tmp ((hold 8 (slots_not (by kernel_rfl))).trans h8)) rfl hK
              · obtain rfl := Option.some.inj ho
                refine ⟨rfl, fun a w' hS hold hin K hK => ?_⟩
                obtain ⟨y0, x0, rfl⟩ := hin 0 rfl (by omega) rfl
                obtain ⟨y1, x1, rfl⟩ := hin 1 rfl (by omega) rfl
                refine if_always rfl ?_
                exact op_index 4 63 (by kernel_rfl) (by kernel_rfl) _ _ rfl rfl _ _ _ (eval_tmp x0) _ k (eval_tmp x1) HLT.out hK
              · obtain rfl := Option.some.inj ho
                refine ⟨rfl, fun a w' hS hold hin K hK => ?_⟩
                obtain ⟨y2, x2, rfl⟩ := hin 2 rfl (by omega) rfl
                refine if_always rfl ?_
                exact op_ld_at 4 tStep _ rfl rfl _ (eval_tmp x2) (#[.int .i64 (sd k), .int .i64 (sx k), .int .i64 (sy k), .int .u64 (sn k)]) rfl (HPC.out.under hS.1.1 (by rw [add_block]; exact HPL.out)) hK
              · obtain rfl := Option.some.inj ho
                refine ⟨rfl, fun a w' hS hold hin K hK => ?_⟩
                refine if_always rfl ?_
                exact op_move (V := (· = .slice (some ⟨gl, 0, none⟩) ls.length cl)) _ _ rfl rfl (eval_tmp ((hold 5 (slots_not (by kernel_rfl))).trans h5)) rfl hK
              · obtain rfl := Option.some.inj ho
                refine ⟨rfl, fun a w' hS hold hin K hK => ?_⟩
                refine if_always rfl ?_
                exact op_move (V := (· = .int .i64 jx)) _ _ rfl rfl (eval_tmp ((hold 9 (slots_not (by kernel_rfl))).trans h9)) rfl hK
              · obtain rfl := Option.some.inj ho
                refine ⟨rfl, fun a w' hS hold hin K hK => ?_⟩
                obtain ⟨y4, x4, rfl⟩ := hin 4 rfl (by omega) rfl
                obtain ⟨y5, x5, rfl⟩ := hin 5 rfl (by omega) rfl
                refine if_always rfl ?_
                exact op_index 5 26 (by kernel_rfl) (by kernel_rfl) _ _ rfl rfl _ _ _ (eval_tmp x4) _ jx (eval_tmp x5) HJX.out hK
              · obtain rfl := Option.some.inj ho
                refine ⟨rfl, fun a w' hS hold hin K hK => ?_⟩
                obtain ⟨y6, x6, rfl⟩ := hin 6 rfl (by omega) rfl
                refine if_always rfl ?_
                exact op_ld_list 5 tElem _ rfl rfl gl jx (eval_tmp x6) hS.1 0 _ rfl _ HXA.out hK
              · obtain rfl := Option.some.inj ho
                refine ⟨rfl, fun a w' hS hold hin K hK => ?_⟩
                refine if_always rfl ?_
                exact op_move (V := (· = .slice (some ⟨gl, 0, none⟩) ls.length cl)) _ _ rfl rfl (eval_tmp ((hold 5 (slots_not (by kernel_rfl))).trans h5)) rfl hK
              · obtain rfl := Option.some.inj ho
                refine ⟨rfl, fun a w' hS hold hin K hK => ?_⟩
                refine if_always rfl ?_
                exact op_move (V := (· = .int .i64 jy)) _ _ rfl rfl (eval_tmp ((hold 10 (slots_not (by kernel_rfl))).trans h10)) rfl hK
              · obtain rfl := Option.some.inj ho
                refine ⟨rfl, fun a w' hS hold hin K hK => ?_⟩
                obtain ⟨y8, x8, rfl⟩ := hin 8 rfl (by omega) rfl
                obtain ⟨y9, x9, rfl⟩ := hin 9 rfl (by omega) rfl
                refine if_always rfl ?_
                exact op_index 5 26 (by kernel_rfl) (by kernel_rfl) _ _ rfl rfl _ _ _ (eval_tmp x8) _ jy (eval_tmp x9) HJY.out hK
              · obtain rfl := Option.some.inj ho
                refine ⟨rfl, fun a w' hS hold hin K hK => ?_⟩
                obtain ⟨y10, x10, rfl⟩ := hin 10 rfl (by omega) rfl
                refine if_always rfl ?_
                exact op_ld_list 5 tElem _ rfl rfl gl jy (eval_tmp x10) hS.1 0 _ rfl _ HYA.out hK
            · intro i o sz hi ho hA; cases hA
            clear hS
            intro t1 V6 hs hold hout hall hne hS
            have ef := frame_fill 12 (fun i => [64, 65, 66, 67, 68, 69, 70, 71, 72, 73, 74, 75].getD i 0) hs hold (slots_apart (by kernel_rfl)) (slots_lie (by rw [HS]; kernel_rfl))
            replace HS := hs.trans HS
            replace hS := hS.1
            obtain ⟨x67, q67, v67⟩ : ∃ x, t1[67]? = some x ∧ ((· = .agg #[.int .i64 (sd k), .int .i64 (sx k), .int .i64 (sy k), .int .u64 (sn k)])) x := hout 3 (by omega) rfl
            replace q67 : t1[67]? = some (.agg #[.int .i64 (sd k), .int .i64 (sx k), .int .i64 (sy k), .int .u64 (sn k)]) := q67.trans (congrArg some v67)
            obtain ⟨x71, q71, v71⟩ : ∃ x, t1[71]? = some x ∧ (IsEl xa) x := hout 7 (by omega) rfl
            obtain ⟨x75, q75, v75⟩ : ∃ x, t1[75]? = some x ∧ (IsEl ya) x := hout 11 (by omega) rfl
            replace h1 := (hold 1 (slots_not (by kernel_rfl))).trans h1
            replace h5 := (hold 5 (slots_not (by kernel_rfl))).trans h5
            replace h6 := (hold 6 (slots_not (by kernel_rfl))).trans h6
            replace h8 := (hold 8 (slots_not (by kernel_rfl))).trans h8
            replace h9 := (hold 9 (slots_not (by kernel_rfl))).trans h9
            replace h10 := (hold 10 (slots_not (by kernel_rfl))).trans h10
            clear hold hout hs hall hne
            simp only [List.drop_succ_cons, List.drop_zero]
            refine tlx_fresh3 H0.out _ (.tmp 67) (.tmp 71) (.tmp 75) _ _ _ rfl rfl 76 rfl (by rw [HS]; decide) (eval_tmp q67) (eval_tmp q71) (eval_tmp q75) (by intro args w; kernel_rfl) ((HPS.out ▸ made_any (sd k) (sx k) (sy k) (sn k) xa ya _ HSN1.out v71 v75)) hS fun ga tf0 V6' hS' ex0 hz hq he => ?_
            replace h1 := (he 1 (by decide)).trans h1
            replace h5 := (he 5 (by decide)).trans h5
            replace h6 := (he 6 (by decide)).trans h6
            replace h8 := (he 8 (by decide)).trans h8
            replace h9 := (he 9 (by decide)).trans h9
            replace h10 := (he 10 (by decide)).trans h10
            replace q67 := (he 67 (by decide)).trans q67
            replace q71 := (he 71 (by decide)).trans q71
            replace q75 := (he 75 (by decide)).trans q75
            replace HS := hz.trans HS
            clear hz he
            have h76 := hq
            clear hq
            replace hS : Own w [(gl, (cl * 5), LRow 5 IsEl ls), (gm, (cm * 32), LRow 32 IsNm ls), (ga, (pl.length * 5), LRow 5 IsEl pl)] V6' := hS'
            clear hS'
            refine tlx_assign (.tmp 76) rfl rfl 11 rfl (by rw [HS]; decide) (.slice (some ⟨ga, 0, none⟩) pl.length pl.length) (eval_tmp h76) fun tf1 ex1 hz hq he => ?_
            replace h1 := (he 1 (by decide)).trans h1
            replace h5 := (he 5 (by decide)).trans h5
            replace h6 := (he 6 (by decide)).trans h6
            replace h8 := (he 8 (by decide)).trans h8
            replace h9 := (he 9 (by decide)).trans h9
            replace h10 := (he 10 (by decide)).trans h10
            replace h76 := (he 76 (by decide)).trans h76
            replace q67 := (he 67 (by decide)).trans q67
            replace q71 := (he 71 (by decide)).trans q71
            replace q75 := (he 75 (by decide)).trans q75
            replace HS := hz.trans HS
            clear hz he
            have h11 := hq
            clear hq
            refine wpList_nil ?_
            rw [ex1, ex0, ef, HT]
            clear ef ex0 ex1
            simp only [fillA, if_true, List.getD_cons_zero, List.getD_cons_succ, List.setIfInBounds_toArray, List.set_cons_zero, List.set_cons_succ]
            generalize t1.getD 64 undef = z64
            generalize t1.getD 65 undef = z65
            generalize t1.getD 66 undef = z66
            generalize t1.getD 67 undef = z67
            generalize t1.getD 68 undef = z68
            generalize t1.getD 69 undef = z69
            generalize t1.getD 70 undef = z70
            generalize t1.getD 71 undef = z71
            generalize t1.getD 72 undef = z72
            generalize t1.getD 73 undef = z73
            generalize t1.getD 74 undef = z74
            generalize t1.getD 75 undef = z75
            clear HT
            clear h1 h5 h6 h8 h9 h10 h76 h11 q67 q71 q75 v67 v71 v75 hM HS tf0 tf1 t1 t0 M
            go_wp2_with fail
            obtain ⟨M, hM⟩ : ∃ M, M = V6'.heap.size := ⟨_, rfl⟩
            refine hide_frame fun t0 HT => ?_
            have HS : t0.size = 181 := by rw [HT]; rfl
            have h1 : t0[1]? = some (.slice (some sa) ns cs) := by rw [HT]; rfl
            have h5 : t0[5]? = some (.slice (some ⟨gl, 0, none⟩) ls.length cl) := by rw [HT]; rfl
            have h6 : t0[6]? = some (.slice (some ⟨gm, 0, none⟩) ls.length cm) := by rw [HT]; rfl
            have h8 : t0[8]? = some (.int .i64 k) := by rw [HT]; rfl
            have h9 : t0[9]? = some (.int .i64 jx) := by rw [HT]; rfl
            have h10 : t0[10]? = some (.int .i64 jy) := by rw [HT]; rfl
            have h11 : t0[11]? = some (.slice (some ⟨ga, 0, none⟩) pl.length pl.length) := by rw [HT]; rfl
            refine wp_region_most 12 (fun i => [77, 78, 79, 80, 81, 82, 83, 84, 85, 86, 87, 88].getD i 0) (fun _ => none) (fun i => [(· = .slice (some sa) ns cs), (· = .int .i64 k), (· = .pointer (some ((sa : Addr).add (k * 4)))), (· = .agg #[.int .i64 (sd k), .int .i64 (sx k), .int .i64 (sy k), .int .u64 (sn k)]), (· = .slice (some ⟨gm, 0, none⟩) ls.length cm), (· = .int .i64 jx), (· = .pointer (some ((⟨gm, 0, none⟩ : Addr).add (jx * 32)))), (· = .agg (vals (bytesN xa.val))), (· = .slice (some ⟨gm, 0, none⟩) ls.length cm), (· = .int .i64 jy), (· = .pointer (some ((⟨gm, 0, none⟩ : Addr).add (jy * 32)))), (· = .agg (vals (bytesN ya.val)))].getD i (fun _ => True)) (fun w' => Own w [(gl, (cl * 5), LRow 5 IsEl ls), (gm, (cm * 32), LRow 32 IsNm ls), (ga, (pl.length * 5), LRow 5 IsEl pl)] w' ∧ M ≤ w'.heap.size) M
              (by kernel_rfl) (by kernel_rfl) (slots_apart (by kernel_rfl)) (slots_lie (by rw [HS]; kernel_rfl)) ⟨hS.drew, Nat.le_of_eq hM⟩ (fun w' h => h.2) (fun w1 w2 h b => ⟨h.1.keep b, Nat.le_trans h.2 b.size⟩) ?_ ?_ ?_
            · clear hS
              intro i o hi ho hA
              have hc : i = 0 ∨ i = 1 ∨ i = 2 ∨ i = 3 ∨ i = 4 ∨ i = 5 ∨ i = 6 ∨ i = 7 ∨ i = 8 ∨ i = 9 ∨ i = 10 ∨ i = 11 := by omega
              rcases hc with rfl | rfl | rfl | rfl | rfl | rfl | rfl | rfl | rfl | rfl | rfl | rfl
              · obtain rfl := Option.some.inj ho
                refine ⟨rfl, fun a w' hS hold hin K hK => ?_⟩
                refine if_always rfl ?_
                exact op_move (V := (· = .slice (some sa) ns cs)) _ _ rfl rfl (eval_tmp ((hold 1 (slots_not (by kernel_rfl))).trans h1)) rfl hK
              · obtain rfl := Option.some.inj ho
                refine ⟨rfl, fun a w' hS hold hin K hK => ?_⟩
                refine if_always rfl ?_
                exact op_move (V := (· = .int .i64 k)) _ _ rfl rfl (eval_tmp ((hold 8 (slots_not (by kernel_rfl))).trans h8)) rfl hK
              · obtain rfl := Option.some.inj ho
                refine ⟨rfl, fun a w' hS hold hin K hK => ?_⟩
                obtain ⟨y0, x0, rfl⟩ := hin 0 rfl (by omega) rfl
                obtain ⟨y1, x1, rfl⟩ := hin 1 rfl (by omega) rfl
                refine if_always rfl ?_
                exact op_index 4 63 (by kernel_rfl) (by kernel_rfl) _ _ rfl rfl _ _ _ (eval_tmp x0) _ k (eval_tmp x1) HLT.out hK
              · obtain rfl := Option.some.inj ho
                refine ⟨rfl, fun a w' hS hold hin K hK => ?_⟩
                obtain ⟨y2, x2, rfl⟩ := hin 2 rfl (by omega) rfl
                refine if_always rfl ?_
                exact op_ld_at 4 tStep _ rfl rfl _ (eval_tmp x2) (#[.int .i64 (sd k), .int .i64 (sx k), .int .i64 (sy k), .int .u64 (sn k)]) rfl (HPC.out.under hS.1.1 (by rw [add_block]; exact HPL.out)) hK
              · obtain rfl := Option.some.inj ho
                refine ⟨rfl, fun a w' hS hold hin K hK => ?_⟩
                refine if_always rfl ?_
                exact op_move (V := (· = .slice (some ⟨gm, 0, none⟩) ls.length cm)) _ _ rfl rfl (eval_tmp ((hold 6 (slots_not (by kernel_rfl))).trans h6)) rfl hK
              · obtain rfl := Option.some.inj ho
                refine ⟨rfl, fun a w' hS hold hin K hK => ?_⟩
                refine if_always rfl ?_
                exact op_move (V := (· = .int .i64 jx)) _ _ rfl rfl (eval_tmp ((hold 9 (slots_not (by kernel_rfl))).trans h9)) rfl hK
              · obtain rfl := Option.some.inj ho
                refine ⟨rfl, fun a w' hS hold hin K hK => ?_⟩
                obtain ⟨y4, x4, rfl⟩ := hin 4 rfl (by omega) rfl
                obtain ⟨y5, x5, rfl⟩ := hin 5 rfl (by omega) rfl
                refine if_always rfl ?_
                exact op_index 32 29 (by kernel_rfl) (by kernel_rfl) _ _ rfl rfl _ _ _ (eval_tmp x4) _ jx (eval_tmp x5) HJX.out hK
              · obtain rfl := Option.some.inj ho
                refine ⟨rfl, fun a w' hS hold hin K hK => ?_⟩
                obtain ⟨y6, x6, rfl⟩ := hin 6 rfl (by omega) rfl
                refine if_always rfl ?_
                exact op_ld_list 32 tNum _ rfl rfl gm jx (eval_tmp x6) hS.1 1 _ rfl _ HXA.out hK
              · obtain rfl := Option.some.inj ho
                refine ⟨rfl, fun a w' hS hold hin K hK => ?_⟩
                refine if_always rfl ?_
                exact op_move (V := (· = .slice (some ⟨gm, 0, none⟩) ls.length cm)) _ _ rfl rfl (eval_tmp ((hold 6 (slots_not (by kernel_rfl))).trans h6)) rfl hK
              · obtain rfl := Option.some.inj ho
                refine ⟨rfl, fun a w' hS hold hin K hK => ?_⟩
                refine if_always rfl ?_
                exact op_move (V := (· = .int .i64 jy)) _ _ rfl rfl (eval_tmp ((hold 10 (slots_not (by kernel_rfl))).trans h10)) rfl hK
              · obtain rfl := Option.some.inj ho
                refine ⟨rfl, fun a w' hS hold hin K hK => ?_⟩
                obtain ⟨y8, x8, rfl⟩ := hin 8 rfl (by omega) rfl
                obtain ⟨y9, x9, rfl⟩ := hin 9 rfl (by omega) rfl
                refine if_always rfl ?_
                exact op_index 32 29 (by kernel_rfl) (by kernel_rfl) _ _ rfl rfl _ _ _ (eval_tmp x8) _ jy (eval_tmp x9) HJY.out hK
              · obtain rfl := Option.some.inj ho
                refine ⟨rfl, fun a w' hS hold hin K hK => ?_⟩
                obtain ⟨y10, x10, rfl⟩ := hin 10 rfl (by omega) rfl
                refine if_always rfl ?_
                exact op_ld_list 32 tNum _ rfl rfl gm jy (eval_tmp x10) hS.1 1 _ rfl _ HYA.out hK
            · intro i o sz hi ho hA; cases hA
            clear hS
            intro t1 V7 hs hold hout hall hne hS
            have ef := frame_fill 12 (fun i => [77, 78, 79, 80, 81, 82, 83, 84, 85, 86, 87, 88].getD i 0) hs hold (slots_apart (by kernel_rfl)) (slots_lie (by rw [HS]; kernel_rfl))
            replace HS := hs.trans HS
            replace hS := hS.1
            obtain ⟨x80, q80, v80⟩ : ∃ x, t1[80]? = some x ∧ ((· = .agg #[.int .i64 (sd k), .int .i64 (sx k), .int .i64 (sy k), .int .u64 (sn k)])) x := hout 3 (by omega) rfl
            replace q80 : t1[80]? = some (.agg #[.int .i64 (sd k), .int .i64 (sx k), .int .i64 (sy k), .int .u64 (sn k)]) := q80.trans (congrArg some v80)
            obtain ⟨x84, q84, v84⟩ : ∃ x, t1[84]? = some x ∧ ((· = .agg (vals (bytesN xa.val)))) x := hout 7 (by omega) rfl
            replace q84 : t1[84]? = some (.agg (vals (bytesN xa.val))) := q84.trans (congrArg some v84)
            obtain ⟨x88, q88, v88⟩ : ∃ x, t1[88]? = some x ∧ ((· = .agg (vals (bytesN ya.val)))) x := hout 11 (by omega) rfl
            replace q88 : t1[88]? = some (.agg (vals (bytesN ya.val))) := q88.trans (congrArg some v88)
            replace h1 := (hold 1 (slots_not (by kernel_rfl))).trans h1
            replace h5 := (hold 5 (slots_not (by kernel_rfl))).trans h5
            replace h6 := (hold 6 (slots_not (by kernel_rfl))).trans h6
            replace h8 := (hold 8 (slots_not (by kernel_rfl))).trans h8
            replace h9 := (hold 9 (slots_not (by kernel_rfl))).trans h9
            replace h10 := (hold 10 (slots_not (by kernel_rfl))).trans h10
            replace h11 := (hold 11 (slots_not (by kernel_rfl))).trans h11
            clear hold hout hs hall hne
            simp only [List.drop_succ_cons, List.drop_zero]
            refine tlx_fresh3 H0.out _ (.tmp 80) (.tmp 84) (.tmp 88) _ _ _ rfl rfl 89 rfl (by rw [HS]; decide) (eval_tmp q80) (eval_tmp q84) (eval_tmp q88) (by intro args w; kernel_rfl) ((HPS.out ▸ meant_any (sd k) (sx k) (sy k) (sn k) xa ya _ HSN1.out)) hS fun gb tf0 V7' hS' ex0 hz hq he => ?_
            replace h1 := (he 1 (by decide)).trans h1
            replace h5 := (he 5 (by decide)).trans h5
            replace h6 := (he 6 (by decide)).trans h6
            replace h8 := (he 8 (by decide)).trans h8
            replace h9 := (he 9 (by decide)).trans h9
            replace h10 := (he 10 (by decide)).trans h10
            replace h11 := (he 11 (by decide)).trans h11
            replace q80 := (he 80 (by decide)).trans q80
            replace q84 := (he 84 (by decide)).trans q84
            replace q88 := (he 88 (by decide)).trans q88
            replace HS := hz.trans HS
            clear hz he
            have h89 := hq
            clear hq
            replace hS : Own w [(gl, (cl * 5), LRow 5 IsEl ls), (gm, (cm * 32), LRow 32 IsNm ls), (ga, (pl.length * 5), LRow 5 IsEl pl), (gb, (pl.length * 32), LRow 32 IsNm pl)] V7' := hS'
            clear hS'
            refine tlx_assign (.tmp 89) rfl rfl 12 rfl (by rw [HS]; decide) (.slice (some ⟨gb, 0, none⟩) pl.length pl.length) (eval_tmp h89) fun tf1 ex1 hz hq he => ?_
            replace h1 := (he 1 (by decide)).trans h1
            replace h5 := (he 5 (by decide)).trans h5
            replace h6 := (he 6 (by decide)).trans h6
            replace h8 := (he 8 (by decide)).trans h8
            replace h9 := (he 9 (by decide)).trans h9
            replace h10 := (he 10 (by decide)).trans h10
            replace h11 := (he 11 (by decide)).trans h11
            replace h89 := (he 89 (by decide)).trans h89
            replace q80 := (he 80 (by decide)).trans q80
            replace q84 := (he 84 (by decide)).trans q84
            replace q88 := (he 88 (by decide)).trans q88
            replace HS := hz.trans HS
            clear hz he
            have h12 := hq
            clear hq
            refine wpList_nil ?_
            rw [ex1, ex0, ef, HT]
            clear ef ex0 ex1
            simp only [fillA, if_true, List.getD_cons_zero, List.getD_cons_succ, List.setIfInBounds_toArray, List.set_cons_zero, List.set_cons_succ]
            generalize t1.getD 77 undef = z77
            generalize t1.getD 78 undef = z78
            generalize t1.getD 79 undef = z79
            generalize t1.getD 80 undef = z80
            generalize t1.getD 81 undef = z81
            generalize t1.getD 82 undef = z82
            generalize t1.getD 83 undef = z83
            generalize t1.getD 84 undef = z84
            generalize t1.getD 85 undef = z85
            generalize t1.getD 86 undef = z86
            generalize t1.getD 87 undef = z87
            generalize t1.getD 88 undef = z88
            clear HT
            clear h1 h5 h6 h8 h9 h10 h11 h89 h12 q80 q84 q88 v80 v84 v88 hM HS tf0 tf1 t1 t0 M
            go_wp2_with ((with_reducible refine guard_list ?_); first | (refine held_append _ _ rfl ?_))
            obtain ⟨M, hM⟩ : ∃ M, M = V7'.heap.size := ⟨_, rfl⟩
            refine hide_held fun t0 HT => ?_
            have HS : t0.size = 181 := by rw [HT]; rfl
            have h1 : t0[1]? = some (.slice (some sa) ns cs) := by rw [HT]; rfl
            have h5 : t0[5]? = some (.slice (some ⟨gl, 0, none⟩) ls.length cl) := by rw [HT]; rfl
            have h6 : t0[6]? = some (.slice (some ⟨gm, 0, none⟩) ls.length cm) := by rw [HT]; rfl
            have h8 : t0[8]? = some (.int .i64 k) := by rw [HT]; rfl
            have h9 : t0[9]? = some (.int .i64 jx) := by rw [HT]; rfl
            have h10 : t0[10]? = some (.int .i64 jy) := by rw [HT]; rfl
            have h11 : t0[11]? = some (.slice (some ⟨ga, 0, none⟩) pl.length pl.length) := by rw [HT]; rfl
            have h12 : t0[12]? = some (.slice (some ⟨gb, 0, none⟩) pl.length pl.length) := by rw [HT]; rfl
            refine wp_from_most 2 (fun i => [95, 96].getD i 0) (fun _ => none) (fun i => [(· = .slice (some ⟨gl, 0, none⟩) ls.length cl), (· = .slice (some ⟨ga, 0, none⟩) pl.length pl.length)].getD i (fun _ => True)) (fun w' => Own w [(gl, (cl * 5), LRow 5 IsEl ls), (gm, (cm * 32), LRow 32 IsNm ls), (ga, (pl.length * 5), LRow 5 IsEl pl), (gb, (pl.length * 32), LRow 32 IsNm pl)] w' ∧ M ≤ w'.heap.size) M
              2 (by omega) (by kernel_rfl) ?_ (slots_apart (by kernel_rfl)) (slots_lie (by rw [HS]; kernel_rfl)) ⟨hS, Nat.le_of_eq hM⟩ (fun w' h => h.2) (fun w1 w2 h b => ⟨h.1.keep b, Nat.le_trans h.2 b.size⟩) ?_ ?_ ?_
            · intro j hj _
              have hc : j = 0 ∨ j = 1 := by omega
              rcases hc with rfl | rfl
              · exact ⟨rfl, _, by rw [HT]; rfl, rfl⟩
              · exact ⟨rfl, _, by rw [HT]; rfl, rfl⟩
            · clear hS
              intro i o h0i hi ho hA
              exfalso; omega
            · intro i o sz h0i hi ho hA; cases hA
            clear hS
            intro t1 V8 hs hold hout hall hne hS
            have ef := frame_fill 2 (fun i => [95, 96].getD i 0) hs hold (slots_apart (by kernel_rfl)) (slots_lie (by rw [HS]; kernel_rfl))
            replace HS := hs.trans HS
            replace hS := hS.1
            obtain ⟨x95, q95, v95⟩ : ∃ x, t1[95]? = some x ∧ ((· = .slice (some ⟨gl, 0, none⟩) ls.length cl)) x := hout 0 (by omega) rfl
            replace q95 : t1[95]? = some (.slice (some ⟨gl, 0, none⟩) ls.length cl) := q95.trans (congrArg some v95)
            obtain ⟨x96, q96, v96⟩ : ∃ x, t1[96]? = some x ∧ ((· = .slice (some ⟨ga, 0, none⟩) pl.length pl.length)) x := hout 1 (by omega) rfl
            replace q96 : t1[96]? = some (.slice (some ⟨ga, 0, none⟩) pl.length pl.length) := q96.trans (congrArg some v96)
            replace h1 := (hold 1 (slots_not (by kernel_rfl))).trans h1
            replace h5 := (hold 5 (slots_not (by kernel_rfl))).trans h5
            replace h6 := (hold 6 (slots_not (by kernel_rfl))).trans h6
            replace h8 := (hold 8 (slots_not (by kernel_rfl))).trans h8
            replace h9 := (hold 9 (slots_not (by kernel_rfl))).trans h9
            replace h10 := (hold 10 (slots_not (by kernel_rfl))).trans h10
            replace h11 := (hold 11 (slots_not (by kernel_rfl))).trans h11
            replace h12 := (hold 12 (slots_not (by kernel_rfl))).trans h12
            clear hold hout hs hall hne
            simp only [List.drop_succ_cons, List.drop_zero]
            refine tlx_append 5 40 26 (.tmp 95) (.tmp 96) rfl rfl 97 rfl (by rw [HS]; decide) (by decide) (by kernel_rfl) (by kernel_rfl) (by kernel_rfl) IsEl ls pl _ _ _ _ (eval_tmp q95) (eval_tmp q96) HCL.out hS 0 2 _ rfl rfl (fun _ _ h => one_el_row h) (by have := HLEN.out; have := HPN.out; have := HLT.out; omega) (by have := HLEN.out; have := HPN.out; have := HLT.out; simp only [maxLen]; omega) fun gl1 cl1 tf0 V8' hS' hccl1 ex0 hz hq he => ?_
            replace h1 := (he 1 (by decide)).trans h1
            replace h5 := (he 5 (by decide)).trans h5
            replace h6 := (he 6 (by decide)).trans h6
            replace h8 := (he 8 (by decide)).trans h8
            replace h9 := (he 9 (by decide)).trans h9
            replace h10 := (he 10 (by decide)).trans h10
            replace h11 := (he 11 (by decide)).trans h11
            replace h12 := (he 12 (by decide)).trans h12
            replace q95 := (he 95 (by decide)).trans q95
            replace q96 := (he 96 (by decide)).trans q96
            replace HS := hz.trans HS
            clear hz he
            have h97 := hq
            clear hq
            replace hS : Own w [(gl1, (cl1 * 5), LRow 5 IsEl (ls ++ pl)), (gm, (cm * 32), LRow 32 IsNm ls), (ga, (pl.length * 5), LRow 5 IsEl pl), (gb, (pl.length * 32), LRow 32 IsNm pl)] V8' := hS'
            clear hS'
            refine tlx_assign (.tmp 97) rfl rfl 5 rfl (by rw [HS]; decide) (.slice (some ⟨gl1, 0, none⟩) (ls ++ pl).length cl1) (eval_tmp h97) fun tf1 ex1 hz hq he => ?_
            replace h1 := (he 1 (by decide)).trans h1
            replace h6 := (he 6 (by decide)).trans h6
            replace h8 := (he 8 (by decide)).trans h8
            replace h9 := (he 9 (by decide)).trans h9
            replace h10 := (he 10 (by decide)).trans h10
            replace h11 := (he 11 (by decide)).trans h11
            replace h12 := (he 12 (by decide)).trans h12
            replace h97 := (he 97 (by decide)).trans h97
            replace q95 := (he 95 (by decide)).trans q95
            replace q96 := (he 96 (by decide)).trans q96
            replace HS := hz.trans HS
            clear hz he
            clear h5
            have h5 := hq
            clear hq
            refine wpList_nil ?_
            rw [ex1, ex0, ef, HT]
            clear ef ex0 ex1
            simp only [fillA, if_true, List.getD_cons_zero, List.getD_cons_succ, List.setIfInBounds_toArray, List.set_cons_zero, List.set_cons_succ]
            generalize t1.getD 95 undef = z95
            generalize t1.getD 96 undef = z96
            clear HT
            clear h1 h5 h6 h8 h9 h10 h11 h12 h97 q95 q96 v95 v96 hM HS tf0 tf1 t1 t0 M
            have HCL1 := Lib.hid hccl1
            clear hccl1
            go_wp2_with ((with_reducible refine guard_list ?_); first | (refine held_append _ _ rfl ?_))
            obtain ⟨M, hM⟩ : ∃ M, M = V8'.heap.size := ⟨_, rfl⟩
            refine hide_held fun t0 HT => ?_
            have HS : t0.size = 181 := by rw [HT]; rfl
            have h1 : t0[1]? = some (.slice (some sa) ns cs) := by rw [HT]; rfl
            have h5 : t0[5]? = some (.slice (some ⟨gl1, 0, none⟩) (ls ++ pl).length cl1) := by rw [HT]; rfl
            have h6 : t0[6]? = some (.slice (some ⟨gm, 0, none⟩) ls.length cm) := by rw [HT]; rfl
            have h8 : t0[8]? = some (.int .i64 k) := by rw [HT]; rfl
            have h9 : t0[9]? = some (.int .i64 jx) := by rw [HT]; rfl
            have h10 : t0[10]? = some (.int .i64 jy) := by rw [HT]; rfl
            have h11 : t0[11]? = some (.slice (some ⟨ga, 0, none⟩) pl.length pl.length) := by rw [HT]; rfl
            have h12 : t0[12]? = some (.slice (some ⟨gb, 0, none⟩) pl.length pl.length) := by rw [HT]; rfl
            refine wp_from_most 2 (fun i => [98, 99].getD i 0) (fun _ => none) (fun i => [(· = .slice (some ⟨gm, 0, none⟩) ls.length cm), (· = .slice (some ⟨gb, 0, none⟩) pl.length pl.length)].getD i (fun _ => True)) (fun w' => Own w [(gl1, (cl1 * 5), LRow 5 IsEl (ls ++ pl)), (gm, (cm * 32), LRow 32 IsNm ls), (ga, (pl.length * 5), LRow 5 IsEl pl), (gb, (pl.length * 32), LRow 32 IsNm pl)] w' ∧ M ≤ w'.heap.size) M
              2 (by omega) (by kernel_rfl) ?_ (slots_apart (by kernel_rfl)) (slots_lie (by rw [HS]; kernel_rfl)) ⟨hS, Nat.le_of_eq hM⟩ (fun w' h => h.2) (fun w1 w2 h b => ⟨h.1.keep b, Nat.le_trans h.2 b.size⟩) ?_ ?_ ?_
            · intro j hj _
              have hc : j = 0 ∨ j = 1 := by omega
              rcases hc with rfl | rfl
              · exact ⟨rfl, _, by rw [HT]; rfl, rfl⟩
              · exact ⟨rfl, _, by rw [HT]; rfl, rfl⟩
            · clear hS
              intro i o h0i hi ho hA
              exfalso; omega
            · intro i o sz h0i hi ho hA; cases hA
            clear hS
            intro t1 V9 hs hold hout hall hne hS
            have ef := frame_fill 2 (fun i => [98, 99].getD i 0) hs hold (slots_apart (by kernel_rfl)) (slots_lie (by rw [HS]; kernel_rfl))
            replace HS := hs.trans HS
            replace hS := hS.1
            obtain ⟨x98, q98, v98⟩ : ∃ x, t1[98]? = some x ∧ ((· = .slice (some ⟨gm, 0, none⟩) ls.length cm)) x := hout 0 (by omega) rfl
            replace q98 : t1[98]? = some (.slice (some ⟨gm, 0, none⟩) ls.length cm) := q98.trans (congrArg some v98)
            obtain ⟨x99, q99, v99⟩ : ∃ x, t1[99]? = some x ∧ ((· = .slice (some ⟨gb, 0, none⟩) pl.length pl.length)) x := hout 1 (by omega) rfl
            replace q99 : t1[99]? = some (.slice (some ⟨gb, 0, none⟩) pl.length pl.length) := q99.trans (congrArg some v99)
            replace h1 := (hold 1 (slots_not (by kernel_rfl))).trans h1
            replace h5 := (hold 5 (slots_not (by kernel_rfl))).trans h5
            replace h6 := (hold 6 (slots_not (by kernel_rfl))).trans h6
            replace h8 := (hold 8 (slots_not (by kernel_rfl))).trans h8
            replace h9 := (hold 9 (slots_not (by kernel_rfl))).trans h9
            replace h10 := (hold 10 (slots_not (by kernel_rfl))).trans h10
            replace h11 := (hold 11 (slots_not (by kernel_rfl))).trans h11
            replace h12 := (hold 12 (slots_not (by kernel_rfl))).trans h12
            clear hold hout hs hall hne
            simp only [List.drop_succ_cons, List.drop_zero]
            refine tlx_append 32 32 29 (.tmp 98) (.tmp 99) rfl rfl 100 rfl (by rw [HS]; decide) (by decide) (by kernel_rfl) (by kernel_rfl) (by kernel_rfl) IsNm ls pl _ _ _ _ (eval_tmp q98) (eval_tmp q99) HCM.out hS 1 3 _ rfl rfl (fun _ _ h => one_nm_row h) (by have := HLEN.out; have := HPN.out; have := HLT.out; omega) (by have := HLEN.out; have := HPN.out; have := HLT.out; simp only [maxLen]; omega) fun gm1 cm1 tf0 V9' hS' hccm1 ex0 hz hq he => ?_
            replace h1 := (he 1 (by decide)).trans h1
            replace h5 := (he 5 (by decide)).trans h5
            replace h6 := (he 6 (by decide)).trans h6
            replace h8 := (he 8 (by decide)).trans h8
            replace h9 := (he 9 (by decide)).trans h9
            replace h10 := (he 10 (by decide)).trans h10
            replace h11 := (he 11 (by decide)).trans h11
            replace h12 := (he 12 (by decide)).trans h12
            replace q98 := (he 98 (by decide)).trans q98
            replace q99 := (he 99 (by decide)).trans q99
            replace HS := hz.trans HS
            clear hz he
            have h100 := hq
            clear hq
            replace hS : Own w [(gl1, (cl1 * 5), LRow 5 IsEl (ls ++ pl)), (gm1, (cm1 * 32), LRow 32 IsNm (ls ++ pl)), (ga, (pl.length * 5), LRow 5 IsEl pl), (gb, (pl.length * 32), LRow 32 IsNm pl)] V9' := hS'
            clear hS'
            refine tlx_assign (.tmp 100) rfl rfl 6 rfl (by rw [HS]; decide) (.slice (some ⟨gm1, 0, none⟩) (ls ++ pl).length cm1) (eval_tmp h100) fun tf1 ex1 hz hq he => ?_
            replace h1 := (he 1 (by decide)).trans h1
            replace h5 := (he 5 (by decide)).trans h5
            replace h8 := (he 8 (by decide)).trans h8
            replace h9 := (he 9 (by decide)).trans h9
            replace h10 := (he 10 (by decide)).trans h10
            replace h11 := (he 11 (by decide)).trans h11
            replace h12 := (he 12 (by decide)).trans h12
            replace h100 := (he 100 (by decide)).trans h100
            replace q98 := (he 98 (by decide)).trans q98
            replace q99 := (he 99 (by decide)).trans q99
            replace HS := hz.trans HS
            clear hz he
            clear h6
            have h6 := hq
            clear hq
            refine wpList_nil ?_
            rw [ex1, ex0, ef, HT]
            clear ef ex0 ex1
            simp only [fillA, if_true, List.getD_cons_zero, List.getD_cons_succ, List.setIfInBounds_toArray, List.set_cons_zero, List.set_cons_succ]
            generalize t1.getD 98 undef = z98
            generalize t1.getD 99 undef = z99
            clear HT
            clear h1 h5 h6 h8 h9 h10 h11 h12 h100 q98 q99 v98 v99 hM HS tf0 tf1 t1 t0 M
            replace hS : Own w [(gl1, (cl1 * 5), LRow 5 IsEl (ls ++ pl)), (gm1, (cm1 * 32), LRow 32 IsNm (ls ++ pl))] V9' := hS.take 2
            have HCM1 := Lib.hid hccm1
            clear hccm1
            have HS9 := Lib.hid hS
            have HLT2 := HLT.out
            clear hS
            go_wp2_with fail
            go_roundw
            case rel => exact ⟨k + 1, gl1, cl1, gm1, cm1, ls ++ pl, by omega, by go_num, by have := HLEN.out; have := HPN.out; rw [List.length_append]; omega, rfl, rfl, HCL1.out, HCM1.out, HS9.out⟩
            case measure => simp [intOf]; omega
        · obtain rfl : k = ns := by omega
          have HS0 := Lib.hid hS
          clear hS HP HSN
          go_wp2_with fail
          have hS := HS0.out
          clear HS0
          go_loopw [13] (fun i wr => ∃ k : Nat, k ≤ ls.length ∧ i = .int .i64 k ∧ Own w [(gl, (cl * 5), LRow 5 IsEl ls), (gm, (cm * 32), LRow 32 IsNm ls)] wr) (fun i _ => ls.length - (intOf i).toNat)
          case atStart => exact ⟨0, by omega, rfl, hS⟩
          case round =>
            clear hS
            obtain ⟨k, hk, rfl, hS⟩ := hrel
            by_cases hlt : k < ls.length
            · obtain ⟨xk, hxk⟩ : ∃ x, ls[k]? = some x := ⟨_, List.getElem?_eq_getElem hlt⟩
              obtain ⟨kk, hkk⟩ : ∃ kk, (k + 1) % ls.length = kk := ⟨_, rfl⟩
              have hkl : kk < ls.length := by rw [← hkk]; exact Nat.mod_lt _ (by omega)
              obtain ⟨xn, hxn⟩ : ∃ x, ls[kk]? = some x := ⟨_, List.getElem?_eq_getElem hkl⟩
              have hti : ((k : Int) + 1) % (ls.length : Int) = (kk : Int) := by rw [← hkk, Int.natCast_emod]; rfl
              have hn0 : ¬ ((ls.length : Int) = 0) := by omega
              have hbig : ls.length ≤ 4000000 := by have := HLEN.out; omega
              have HXK := Lib.hid hxk
              have HXN := Lib.hid hxn
              have HKL := Lib.hid hkl
              have HTI := Lib.hid hti
              have HLT := Lib.hid hlt
              clear hxk hkk hkl hxn hti
              by_cases hz : xk = 0
              · have HZ := Lib.hid hz
                clear hz
                go_wp2_with fail
                obtain ⟨M, hM⟩ : ∃ M, M = wr.heap.size := ⟨_, rfl⟩
                refine hide_frame fun t0 HT => ?_
                have HS : t0.size = 181 := by rw [HT]; rfl
                have h5 : t0[5]? = some (.slice (some ⟨gl, 0, none⟩) ls.length cl) := by rw [HT]; rfl
                have h6 : t0[6]? = some (.slice (some ⟨gm, 0, none⟩) ls.length cm) := by rw [HT]; rfl
                have h13 : t0[13]? = some (.int .i64 k) := by rw [HT]; rfl
                refine wp_region_all 39 (fun i => [107, 108, 109, 110, 111, 112, 113, 114, 115, 116, 117, 118, 119, 120, 121, 122, 123, 124, 125, 126, 127, 128, 129, 130, 131, 132, 133, 134, 135, 136, 137, 138, 139, 140, 141, 142, 143, 144, 145, 146].getD i 0) (fun i => [(· = .slice (some ⟨gl, 0, none⟩) ls.length cl), (· = .int .i64 k), (· = .pointer (some ((⟨gl, 0, none⟩ : Addr).add (k * 5)))), IsEl xk, (· = .agg (vals (bytesN (xk : F).val))), (· = .slice (some ⟨gm, 0, none⟩) ls.length cm), (· = .int .i64 k), (· = .pointer (some ((⟨gm, 0, none⟩ : Addr).add (k * 32)))), (· = .agg (vals (bytesN xk.val))), (· = .bool false), (· = .bool false), (· = .slice (some ⟨gl, 0, none⟩) ls.length cl), (· = .int .i64 k), (· = .pointer (some ((⟨gl, 0, none⟩ : Addr).add (k * 5)))), IsEl xk, (· = .int .u64 18446744073709551615), (· = .bool true), (· = .slice (some ⟨gm, 0, none⟩) ls.length cm), (· = .int .i64 k), (· = .pointer (some ((⟨gm, 0, none⟩ : Addr).add (k * 32)))), (· = .agg (vals (bytesN xk.val))), (· = .bool true), (· = .bool false), (· = .bool false), (· = .bool false), (· = .slice (some ⟨gl, 0, none⟩) ls.length cl), (· = .int .i64 k), (· = .pointer (some ((⟨gl, 0, none⟩ : Addr).add (k * 5)))), IsEl xk, (· = .int .u64 18446744073709551615), (· = .bool true), (· = .bool true), (· = .slice (some ⟨gl, 0, none⟩) ls.length cl), (· = .int .i64 k), (· = .pointer (some ((⟨gl, 0, none⟩ : Addr).add (k * 5)))), IsEl xk, (· = .int .u64 18446744073709551615), (· = .bool false), (· = .bool false), (· = .bool false)].getD i (fun _ => True)) (fun w' => Own w [(gl, (cl * 5), LRow 5 IsEl ls), (gm, (cm * 32), LRow 32 IsNm ls)] w' ∧ M ≤ w'.heap.size)
                  (by kernel_rfl) (by kernel_rfl) (by kernel_rfl) (slots_apart (by kernel_rfl)) (slots_lie (by rw [HS]; kernel_rfl)) ⟨hS.drew, Nat.le_of_eq hM⟩ (fun w1 w2 h b => ⟨h.1.keep b, Nat.le_trans h.2 b.size⟩) ?_ ?_
                · clear hS
                  intro i o hi ho
                  have hc : i = 0 ∨ i = 1 ∨ i = 2 ∨ i = 3 ∨ i = 4 ∨ i = 5 ∨ i = 6 ∨ i = 7 ∨ i = 8 ∨ i = 9 ∨ i = 10 ∨ i = 11 ∨ i = 12 ∨ i = 13 ∨ i = 14 ∨ i = 15 ∨ i = 16 ∨ i = 17 ∨ i = 18 ∨ i = 19 ∨ i = 20 ∨ i = 21 ∨ i = 22 ∨ i = 23 ∨ i = 24 ∨ i = 25 ∨ i = 26 ∨ i = 27 ∨ i = 28 ∨ i = 29 ∨ i = 30 ∨ i = 31 ∨ i = 32 ∨ i = 33 ∨ i = 34 ∨ i = 35 ∨ i = 36 ∨ i = 37 ∨ i = 38 ∨ i = 39 := by omega
                  rcases hc with rfl | rfl | rfl | rfl | rfl | rfl | rfl | rfl | rfl | rfl | rfl | rfl | rfl | rfl | rfl | rfl | rfl | rfl | rfl | rfl | rfl | rfl | rfl | rfl | rfl | rfl | rfl | rfl | rfl | rfl | rfl | rfl | rfl | rfl | rfl | rfl | rfl | rfl | rfl | rfl
                  · obtain rfl := Option.some.inj ho
                    refine ⟨rfl, fun a w' hS hold hin K hK => ?_⟩
                    refine if_always rfl ?_
                    exact op_move (V := (· = .slice (some ⟨gl, 0, none⟩) ls.length cl)) _ _ rfl rfl (eval_tmp ((hold 5 (slots_not (by kernel_rfl))).trans h5)) rfl hK
                  · obtain rfl := Option.some.inj ho
                    refine ⟨rfl, fun a w' hS hold hin K hK => ?_⟩
                    refine if_always rfl ?_
                    exact op_move (V := (· = .int .i64 k)) _ _ rfl rfl (eval_tmp ((hold 13 (slots_not (by kernel_rfl))).trans h13)) rfl hK
                  · obtain rfl := Option.some.inj ho
                    refine ⟨rfl, fun a w' hS hold hin K hK => ?_⟩
                    obtain ⟨y0, x0, rfl⟩ := hin 0 rfl (by omega)
                    obtain ⟨y1, x1, rfl⟩ := hin 1 rfl (by omega)
                    refine if_always rfl ?_
                    exact op_index 5 26 (by kernel_rfl) (by kernel_rfl) _ _ rfl rfl _ _ _ (eval_tmp x0) _ k (eval_tmp x1) HLT.out hK
                  · obtain rfl := Option.some.inj ho
                    refine ⟨rfl, fun a w' hS hold hin K hK => ?_⟩
                    obtain ⟨y2, x2, rfl⟩ := hin 2 rfl (by omega)
                    refine if_always rfl ?_
                    exact op_ld_list 5 tElem _ rfl rfl gl k (eval_tmp x2) hS.1 0 _ rfl _ HXK.out hK
                  · obtain rfl := Option.some.inj ho
                    refine ⟨rfl, fun a w' hS hold hin K hK => ?_⟩
                    obtain ⟨y3, x3, (v3 : IsEl xk y3)⟩ := hin 3 rfl (by omega)
                    refine if_always rfl ?_
                    exact op_fn1 _ _ _ _ rfl rfl (eval_tmp x3) (by intro args w; kernel_rfl) (bytes_el v3 _) hK
                  · obtain rfl := Option.some.inj ho
                    refine ⟨rfl, fun a w' hS hold hin K hK => ?_⟩
                    refine if_always rfl ?_
                    exact op_move (V := (· = .slice (some ⟨gm, 0, none⟩) ls.length cm)) _ _ rfl rfl (eval_tmp ((hold 6 (slots_not (by kernel_rfl))).trans h6)) rfl hK
                  · obtain rfl := Option.some.inj ho
                    refine ⟨rfl, fun a w' hS hold hin K hK => ?_⟩
                    refine if_always rfl ?_
                    exact op_move (V := (· = .int .i64 k)) _ _ rfl rfl (eval_tmp ((hold 13 (slots_not (by kernel_rfl))).trans h13)) rfl hK
                  · obtain rfl := Option.some.inj ho
                    refine ⟨rfl, fun a w' hS hold hin K hK => ?_⟩
                    obtain ⟨y5, x5, rfl⟩ := hin 5 rfl (by omega)
                    obtain ⟨y6, x6, rfl⟩ := hin 6 rfl (by omega)
                    refine if_always rfl ?_
                    exact op_index 32 29 (by kernel_rfl) (by kernel_rfl) _ _ rfl rfl _ _ _ (eval_tmp x5) _ k (eval_tmp x6) HLT.out hK
                  · obtain rfl := Option.some.inj ho
                    refine ⟨rfl, fun a w' hS hold hin K hK => ?_⟩
                    obtain ⟨y7, x7, rfl⟩ := hin 7 rfl (by omega)
                    refine if_always rfl ?_
                    exact op_ld_list 32 tNum _ rfl rfl gm k (eval_tmp x7) hS.1 1 _ rfl _ HXK.out hK
                  · obtain rfl := Option.some.inj ho
                    refine ⟨rfl, fun a w' hS hold hin K hK => ?_⟩
                    obtain ⟨y4, x4, rfl⟩ := hin 4 rfl (by omega)
                    obtain ⟨y8, x8, rfl⟩ := hin 8 rfl (by omega)
                    refine if_always rfl ?_
                    exact op_bin (V := (· = .bool false)) _ _ _ _ _ _ _ (.bool false) rfl rfl (eval_tmp x4) (eval_tmp x8) (fun w => neq_by_same _ (bytesN_len _) w) rfl hK
                  · obtain rfl := Option.some.inj ho
                    refine ⟨rfl, fun a w' hS hold hin K hK => ?_⟩
                    obtain ⟨y9, x9, rfl⟩ := hin 9 rfl (by omega)
                    refine if_always rfl ?_
                    exact op_move (V := (· = .bool false)) _ _ rfl rfl (eval_tmp x9) rfl hK
                  · obtain rfl := Option.some.inj ho
                    refine ⟨rfl, fun a w' hS hold hin K hK => ?_⟩
                    obtain ⟨y10, x10, rfl⟩ := hin 10 rfl (by omega)
                    refine if_guard (d := 117) rfl rfl x10 ?_
                    exact op_move (V := (· = .slice (some ⟨gl, 0, none⟩) ls.length cl)) _ _ rfl rfl (eval_tmp ((hold 5 (slots_not (by kernel_rfl))).trans h5)) rfl hK
                  · obtain rfl := Option.some.inj ho
                    refine ⟨rfl, fun a w' hS hold hin K hK => ?_⟩
                    obtain ⟨y10, x10, rfl⟩ := hin 10 rfl (by omega)
                    refine if_guard (d := 117) rfl rfl x10 ?_
                    exact op_move (V := (· = .int .i64 k)) _ _ rfl rfl (eval_tmp ((hold 13 (slots_not (by kernel_rfl))).trans h13)) rfl hK
                  · obtain rfl := Option.some.inj ho
                    refine ⟨rfl, fun a w' hS hold hin K hK => ?_⟩
                    obtain ⟨y10, x10, rfl⟩ := hin 10 rfl (by omega)
                    obtain ⟨y11, x11, rfl⟩ := hin 11 rfl (by omega)
                    obtain ⟨y12, x12, rfl⟩ := hin 12 rfl (by omega)
                    refine if_guard (d := 117) rfl rfl x10 ?_
                    exact op_index 5 26 (by kernel_rfl) (by kernel_rfl) _ _ rfl rfl _ _ _ (eval_tmp x11) _ k (eval_tmp x12) HLT.out hK
                  · obtain rfl := Option.some.inj ho
                    refine ⟨rfl, fun a w' hS hold hin K hK => ?_⟩
                    obtain ⟨y10, x10, rfl⟩ := hin 10 rfl (by omega)
                    obtain ⟨y13, x13, rfl⟩ := hin 13 rfl (by omega)
                    refine if_guard (d := 117) rfl rfl x10 ?_
                    exact op_ld_list 5 tElem _ rfl rfl gl k (eval_tmp x13) hS.1 0 _ rfl _ HXK.out hK
                  · obtain rfl := Option.some.inj ho
                    refine ⟨rfl, fun a w' hS hold hin K hK => ?_⟩
                    obtain ⟨y10, x10, rfl⟩ := hin 10 rfl (by omega)
                    obtain ⟨y14, x14, (v14 : IsEl xk y14)⟩ := hin 14 rfl (by omega)
                    refine if_guard (d := 117) rfl rfl x10 ?_
                    exact op_fn1 _ _ _ _ rfl rfl (eval_tmp x14) (by intro args w; kernel_rfl) (zero_el_yes v14 HZ.out _) hK
                  · obtain rfl := Option.some.inj ho
                    refine ⟨rfl, fun a w' hS hold hin K hK => ?_⟩
                    obtain ⟨y10, x10, rfl⟩ := hin 10 rfl (by omega)
                    obtain ⟨y15, x15, rfl⟩ := hin 15 rfl (by omega)
                    refine if_guard (d := 117) rfl rfl x10 ?_
                    exact op_bin (V := (· = .bool true)) _ _ _ _ _ _ _ (.bool true) rfl rfl (eval_tmp x15) rfl (fun w => by kernel_rfl) rfl hK
                  · obtain rfl := Option.some.inj ho
                    refine ⟨rfl, fun a w' hS hold hin K hK => ?_⟩
                    obtain ⟨y10, x10, rfl⟩ := hin 10 rfl (by omega)
                    refine if_guard (d := 117) rfl rfl x10 ?_
                    exact op_move (V := (· = .slice (some ⟨gm, 0, none⟩) ls.length cm)) _ _ rfl rfl (eval_tmp ((hold 6 (slots_not (by kernel_rfl))).trans h6)) rfl hK
                  · obtain rfl := Option.some.inj ho
                    refine ⟨rfl, fun a w' hS hold hin K hK => ?_⟩
                    obtain ⟨y10, x10, rfl⟩ := hin 10 rfl (by omega)
                    refine if_guard (d := 117) rfl rfl x10 ?_
                    exact op_move (V := (· = .int .i64 k)) _ _ rfl rfl (eval_tmp ((hold 13 (slots_not (by kernel_rfl))).trans h13)) rfl hK
                  · obtain rfl := Option.some.inj ho
                    refine ⟨rfl, fun a w' hS hold hin K hK => ?_⟩
                    obtain ⟨y10, x10, rfl⟩ := hin 10 rfl (by omega)
                    obtain ⟨y17, x17, rfl⟩ := hin 17 rfl (by omega)
                    obtain ⟨y18, x18, rfl⟩ := hin 18 rfl (by omega)
                    refine if_guard (d := 117) rfl rfl x10 ?_
                    exact op_index 32 29 (by kernel_rfl) (by kernel_rfl) _ _ rfl rfl _ _ _ (eval_tmp x17) _ k (eval_tmp x18) HLT.out hK
                  · obtain rfl := Option.some.inj ho
                    refine ⟨rfl, fun a w' hS hold hin K hK => ?_⟩
                    obtain ⟨y10, x10, rfl⟩ := hin 10 rfl (by omega)
                    obtain ⟨y19, x19, rfl⟩ := hin 19 rfl (by omega)
                    refine if_guard (d := 117) rfl rfl x10 ?_
                    exact op_ld_list 32 tNum _ rfl rfl gm k (eval_tmp x19) hS.1 1 _ rfl _ HXK.out hK
                  · obtain rfl := Option.some.inj ho
                    refine ⟨rfl, fun a w' hS hold hin K hK => ?_⟩
                    obtain ⟨y10, x10, rfl⟩ := hin 10 rfl (by omega)
                    obtain ⟨y20, x20, rfl⟩ := hin 20 rfl (by omega)
                    refine if_guard (d := 117) rfl rfl x10 ?_
                    exact op_fn1 _ _ _ _ rfl rfl (eval_tmp x20) (by intro args w; kernel_rfl) (zero08_is (decide_eq_true HZ.out) _) hK
                  · obtain rfl := Option.some.inj ho
                    refine ⟨rfl, fun a w' hS hold hin K hK => ?_⟩
                    obtain ⟨y10, x10, rfl⟩ := hin 10 rfl (by omega)
                    obtain ⟨y16, x16, rfl⟩ := hin 16 rfl (by omega)
                    obtain ⟨y21, x21, rfl⟩ := hin 21 rfl (by omega)
                    refine if_guard (d := 117) rfl rfl x10 ?_
                    exact op_bin (V := (· = .bool false)) _ _ _ _ _ _ _ (.bool false) rfl rfl (eval_tmp x16) (eval_tmp x21) (fun w => by kernel_rfl) rfl hK
                  · obtain rfl := Option.some.inj ho
                    refine ⟨rfl, fun a w' hS hold hin K hK => ?_⟩
                    obtain ⟨y10, x10, rfl⟩ := hin 10 rfl (by omega)
                    obtain ⟨y22, x22, rfl⟩ := hin 22 rfl (by omega)
                    refine if_always rfl ?_
                    exact op_pick (V := (· = .bool false)) _ _ _ false _ rfl rfl (eval_tmp x10) (show (Act.eval a _) = _ from (eval_tmp x22)) rfl hK
                  · obtain rfl := Option.some.inj ho
                    refine ⟨rfl, fun a w' hS hold hin K hK => ?_⟩
                    obtain ⟨y23, x23, rfl⟩ := hin 23 rfl (by omega)
                    refine if_always rfl ?_
                    exact op_move (V := (· = .bool false)) _ _ rfl rfl (eval_tmp x23) rfl hK
                  · obtain rfl := Option.some.inj ho
                    refine ⟨rfl, fun a w' hS hold hin K hK => ?_⟩
                    obtain ⟨y24, x24, rfl⟩ := hin 24 rfl (by omega)
                    refine if_guard (d := 131) rfl rfl x24 ?_
                    exact op_move (V := (· = .slice (some ⟨gl, 0, none⟩) ls.length cl)) _ _ rfl rfl (eval_tmp ((hold 5 (slots_not (by kernel_rfl))).trans h5)) rfl hK
                  · obtain rfl := Option.some.inj ho
                    refine ⟨rfl, fun a w' hS hold hin K hK => ?_⟩
                    obtain ⟨y24, x24, rfl⟩ := hin 24 rfl (by omega)
                    refine if_guard (d := 131) rfl rfl x24 ?_
                    exact op_move (V := (· = .int .i64 k)) _ _ rfl rfl (eval_tmp ((hold 13 (slots_not (by kernel_rfl))).trans h13)) rfl hK
                  · obtain rfl := Option.some.inj ho
                    refine ⟨rfl, fun a w' hS hold hin K hK => ?_⟩
                    obtain ⟨y24, x24, rfl⟩ := hin 24 rfl (by omega)
                    obtain ⟨y25, x25, rfl⟩ := hin 25 rfl (by omega)
                    obtain ⟨y26, x26, rfl⟩ := hin 26 rfl (by omega)
                    refine if_guard (d := 131) rfl rfl x24 ?_
                    exact op_index 5 26 (by kernel_rfl) (by kernel_rfl) _ _ rfl rfl _ _ _ (eval_tmp x25) _ k (eval_tmp x26) HLT.out hK
                  · obtain rfl := Option.some.inj ho
                    refine ⟨rfl, fun a w' hS hold hin K hK => ?_⟩
                    obtain ⟨y24, x24, rfl⟩ := hin 24 rfl (by omega)
                    obtain ⟨y27, x27, rfl⟩ := hin 27 rfl (by omega)
                    refine if_guard (d := 131) rfl rfl x24 ?_
                    exact op_ld_list 5 tElem _ rfl rfl gl k (eval_tmp x27) hS.1 0 _ rfl _ HXK.out hK
                  · obtain rfl := Option.some.inj ho
                    refine ⟨rfl, fun a w' hS hold hin K hK => ?_⟩
                    obtain ⟨y24, x24, rfl⟩ := hin 24 rfl (by omega)
                    obtain ⟨y28, x28, (v28 : IsEl xk y28)⟩ := hin 28 rfl (by omega)
                    refine if_guard (d := 131) rfl rfl x24 ?_
                    exact op_fn1 _ _ _ _ rfl rfl (eval_tmp x28) (by intro args w; kernel_rfl) (zero_el_yes v28 HZ.out _) hK
                  · obtain rfl := Option.some.inj ho
                    refine ⟨rfl, fun a w' hS hold hin K hK => ?_⟩
                    obtain ⟨y24, x24, rfl⟩ := hin 24 rfl (by omega)
                    obtain ⟨y29, x29, rfl⟩ := hin 29 rfl (by omega)
                    refine if_guard (d := 131) rfl rfl x24 ?_
                    exact op_bin (V := (· = .bool true)) _ _ _ _ _ _ _ (.bool true) rfl rfl (eval_tmp x29) rfl (fun w => by kernel_rfl) rfl hK
                  · obtain rfl := Option.some.inj ho
                    refine ⟨rfl, fun a w' hS hold hin K hK => ?_⟩
                    obtain ⟨y24, x24, rfl⟩ := hin 24 rfl (by omega)
                    obtain ⟨y30, x30, rfl⟩ := hin 30 rfl (by omega)
                    refine if_guard (d := 131) rfl rfl x24 ?_
                    exact op_move (V := (· = .bool true)) _ _ rfl rfl (eval_tmp x30) rfl hK
                  · obtain rfl := Option.some.inj ho
                    refine ⟨rfl, fun a w' hS hold hin K hK => ?_⟩
                    obtain ⟨y31, x31, rfl⟩ := hin 31 rfl (by omega)
                    refine if_guard (d := 138) rfl rfl x31 ?_
                    exact op_move (V := (· = .slice (some ⟨gl, 0, none⟩) ls.length cl)) _ _ rfl rfl (eval_tmp ((hold 5 (slots_not (by kernel_rfl))).trans h5)) rfl hK
                  · obtain rfl := Option.some.inj ho
                    refine ⟨rfl, fun a w' hS hold hin K hK => ?_⟩
                    obtain ⟨y31, x31, rfl⟩ := hin 31 rfl (by omega)
                    refine if_guard (d := 138) rfl rfl x31 ?_
                    exact op_move (V := (· = .int .i64 k)) _ _ rfl rfl (eval_tmp ((hold 13 (slots_not (by kernel_rfl))).trans h13)) rfl hK
                  · obtain rfl := Option.some.inj ho
                    refine ⟨rfl, fun a w' hS hold hin K hK => ?_⟩
                    obtain ⟨y31, x31, rfl⟩ := hin 31 rfl (by omega)
                    obtain ⟨y32, x32, rfl⟩ := hin 32 rfl (by omega)
                    obtain ⟨y33, x33, rfl⟩ := hin 33 rfl (by omega)
                    refine if_guard (d := 138) rfl rfl x31 ?_
                    exact op_index 5 26 (by kernel_rfl) (by kernel_rfl) _ _ rfl rfl _ _ _ (eval_tmp x32) _ k (eval_tmp x33) HLT.out hK
                  · obtain rfl := Option.some.inj ho
                    refine ⟨rfl, fun a w' hS hold hin K hK => ?_⟩
                    obtain ⟨y31, x31, rfl⟩ := hin 31 rfl (by omega)
                    obtain ⟨y34, x34, rfl⟩ := hin 34 rfl (by omega)
                    refine if_guard (d := 138) rfl rfl x31 ?_
                    exact op_ld_list 5 tElem _ rfl rfl gl k (eval_tmp x34) hS.1 0 _ rfl _ HXK.out hK
                  · obtain rfl := Option.some.inj ho
                    refine ⟨rfl, fun a w' hS hold hin K hK => ?_⟩
                    obtain ⟨y31, x31, rfl⟩ := hin 31 rfl (by omega)
                    obtain ⟨y35, x35, (v35 : IsEl xk y35)⟩ := hin 35 rfl (by omega)
                    refine if_guard (d := 138) rfl rfl x31 ?_
                    exact op_fn1 _ _ _ _ rfl rfl (eval_tmp x35) (by intro args w; kernel_rfl) (zero_el_yes v35 HZ.out _) hK
                  · obtain rfl := Option.some.inj ho
                    refine ⟨rfl, fun a w' hS hold hin K hK => ?_⟩
                    obtain ⟨y31, x31, rfl⟩ := hin 31 rfl (by omega)
                    obtain ⟨y36, x36, rfl⟩ := hin 36 rfl (by omega)
                    refine if_guard (d := 138) rfl rfl x31 ?_
                    exact op_bin (V := (· = .bool false)) _ _ _ _ _ _ _ (.bool false) rfl rfl (eval_tmp x36) rfl (fun w => by kernel_rfl) rfl hK
                  · obtain rfl := Option.some.inj ho
                    refine ⟨rfl, fun a w' hS hold hin K hK => ?_⟩
                    obtain ⟨y24, x24, rfl⟩ := hin 24 rfl (by omega)
                    obtain ⟨y31, x31, rfl⟩ := hin 31 rfl (by omega)
                    obtain ⟨y37, x37, rfl⟩ := hin 37 rfl (by omega)
                    refine if_guard (d := 131) rfl rfl x24 ?_
                    exact op_pick (V := (· = .bool false)) _ _ _ true _ rfl rfl (eval_tmp x31) (show (Act.eval a _) = _ from (eval_tmp x37)) rfl hK
                  · obtain rfl := Option.some.inj ho
                    refine ⟨rfl, fun a w' hS hold hin K hK => ?_⟩
                    obtain ⟨y24, x24, rfl⟩ := hin 24 rfl (by omega)
                    obtain ⟨y38, x38, rfl⟩ := hin 38 rfl (by omega)
                    refine if_always rfl ?_
                    exact op_pick (V := (· = .bool false)) _ _ _ false _ rfl rfl (eval_tmp x24) (show (Act.eval a _) = _ from (eval_tmp x38)) rfl hK
                clear hS
                intro t1 V6 hs hold hout hS
                have ef := frame_fill 40 (fun i => [107, 108, 109, 110, 111, 112, 113, 114, 115, 116, 117, 118, 119, 120, 121, 122, 123, 124, 125, 126, 127, 128, 129, 130, 131, 132, 133, 134, 135, 136, 137, 138, 139, 140, 141, 142, 143, 144, 145, 146].getD i 0) hs hold (slots_apart (by kernel_rfl)) (slots_lie (by rw [HS]; kernel_rfl))
                replace HS := hs.trans HS
                replace hS := hS.1
                obtain ⟨_, q146, rfl⟩ : ∃ x, t1[146]? = some x ∧ x = (.bool false : Value) := hout 39 (by omega)
                replace h5 := (hold 5 (slots_not (by kernel_rfl))).trans h5
                replace h6 := (hold 6 (slots_not (by kernel_rfl))).trans h6
                replace h13 := (hold 13 (slots_not (by kernel_rfl))).trans h13
                clear hold hout hs
                have g146 : t1.getD 146 undef = .bool false := by rw [Array.getD_eq_getD_getElem?, q146]; rfl
                rw [ef, HT]
                clear ef
                simp only [fillA, if_true, List.getD_cons_zero, List.getD_cons_succ, List.setIfInBounds_toArray, List.set_cons_zero, List.set_cons_succ, g146]
                generalize t1.getD 107 undef = z107
                generalize t1.getD 108 undef = z108
                generalize t1.getD 109 undef = z109
                generalize t1.getD 110 undef = z110
                generalize t1.getD 111 undef = z111
                generalize t1.getD 112 undef = z112
                generalize t1.getD 113 undef = z113
                generalize t1.getD 114 undef = z114
                generalize t1.getD 115 undef = z115
                generalize t1.getD 116 undef = z116
                generalize t1.getD 117 undef = z117
                generalize t1.getD 118 undef = z118
                generalize t1.getD 119 undef = z119
                generalize t1.getD 120 undef = z120
                generalize t1.getD 121 undef = z121
                generalize t1.getD 122 undef = z122
                generalize t1.getD 123 undef = z123
                generalize t1.getD 124 undef = z124
                generalize t1.getD 125 undef = z125
                generalize t1.getD 126 undef = z126
                generalize t1.getD 127 undef = z127
                generalize t1.getD 128 undef = z128
                generalize t1.getD 129 undef = z129
                generalize t1.getD 130 undef = z130
                generalize t1.getD 131 undef = z131
                generalize t1.getD 132 undef = z132
                generalize t1.getD 133 undef = z133
                generalize t1.getD 134 undef = z134
                generalize t1.getD 135 undef = z135
                generalize t1.getD 136 undef = z136
                generalize t1.getD 137 undef = z137
                generalize t1.getD 138 undef = z138
                generalize t1.getD 139 undef = z139
                generalize t1.getD 140 undef = z140
                generalize t1.getD 141 undef = z141
                generalize t1.getD 142 undef = z142
                generalize t1.getD 143 undef = z143
                generalize t1.getD 144 undef = z144
                generalize t1.getD 145 undef = z145
                clear g146 HT
                clear h5 h6 h13 q146 hM HS t1 t0 M
                go_wp2_with fail
                rw [HTI.out]
                by_cases he : xk = xn
                · have HE := Lib.hid he
                  clear he
                  obtain ⟨M, hM⟩ : ∃ M, M = V6.heap.size := ⟨_, rfl⟩
                  refine hide_frame fun t0 HT => ?_
                  have HS : t0.size = 181 := by rw [HT]; rfl
                  have h5 : t0[5]? = some (.slice (some ⟨gl, 0, none⟩) ls.length cl) := by rw [HT]; rfl
                  have h6 : t0[6]? = some (.slice (some ⟨gm, 0, none⟩) ls.length cm) := by rw [HT]; rfl
                  have h13 : t0[13]? = some (.int .i64 k) := by rw [HT]; rfl
                  have h14 : t0[14]? = some (.int .i64 kk) := by rw [HT]; rfl
                  refine wp_region_most 9 (fun i => [152, 153, 154, 155, 156, 157, 158, 159, 160].getD i 0) (fun _ => none) (fun i => [(· = .slice (some ⟨gl, 0, none⟩) ls.length cl), (· = .int .i64 k), (· = .pointer (some ((⟨gl, 0, none⟩ : Addr).add (k * 5)))), IsEl xk, (· = .slice (some ⟨gl, 0, none⟩) ls.length cl), (· = .int .i64 kk), (· = .pointer (some ((⟨gl, 0, none⟩ : Addr).add (kk * 5)))), IsEl xn, (· = .int .u64 18446744073709551615)].getD i (fun _ => True)) (fun w' => Own w [(gl, (cl * 5), LRow 5 IsEl ls), (gm, (cm * 32), LRow 32 IsNm ls)] w' ∧ M ≤ w'.heap.size) M
                    (by kernel_rfl) (by kernel_rfl) (slots_apart (by kernel_rfl)) (slots_lie (by rw [HS]; kernel_rfl)) ⟨hS.drew, Nat.le_of_eq hM⟩ (fun w' h => h.2) (fun w1 w2 h b => ⟨h.1.keep b, Nat.le_trans h.2 b.size⟩) ?_ ?_ ?_
                  · clear hS
                    intro i o hi ho hA
                    have hc : i = 0 ∨ i = 1 ∨ i = 2 ∨ i = 3 ∨ i = 4 ∨ i = 5 ∨ i = 6 ∨ i = 7 ∨ i = 8 := by omega
                    rcases hc with rfl | rfl | rfl | rfl | rfl | rfl | rfl | rfl | rfl
                    · obtain rfl := Option.some.inj ho
                      refine ⟨rfl, fun a w' hS hold hin K hK => ?_⟩
                      refine if_always rfl ?_
                      exact op_move (V := (· = .slice (some ⟨gl, 0, none⟩) ls.length cl)) _ _ rfl rfl (eval_tmp ((hold 5 (slots_not (by kernel_rfl))).trans h5)) rfl hK
                    · obtain rfl := Option.some.inj ho
                      refine ⟨rfl, fun a w' hS hold hin K hK => ?_⟩
                      refine if_always rfl ?_
                      exact op_move (V := (· = .int .i64 k)) _ _ rfl rfl (eval_tmp ((hold 13 (slots_not (by kernel_rfl))).trans h13)) rfl hK
                    · obtain rfl := Option.some.inj ho
                      refine ⟨rfl, fun a w' hS hold hin K hK => ?_⟩
                      obtain ⟨y0, x0, rfl⟩ := hin 0 rfl (by omega) rfl
                      obtain ⟨y1, x1, rfl⟩ := hin 1 rfl (by omega) rfl
                      refine if_always rfl ?_
                      exact op_index 5 26 (by kernel_rfl) (by kernel_rfl) _ _ rfl rfl _ _ _ (eval_tmp x0) _ k (eval_tmp x1) HLT.out hK
                    · obtain rfl := Option.some.inj ho
                      refine ⟨rfl, fun a w' hS hold hin K hK => ?_⟩
                      obtain ⟨y2, x2, rfl⟩ := hin 2 rfl (by omega) rfl
                      refine if_always rfl ?_
                      exact op_ld_list 5 tElem _ rfl rfl gl k (eval_tmp x2) hS.1 0 _ rfl _ HXK.out hK
                    · obtain rfl := Option.some.inj ho
                      refine ⟨rfl, fun a w' hS hold hin K hK => ?_⟩
                      refine if_always rfl ?_
                      exact op_move (V := (· = .slice (some ⟨gl, 0, none⟩) ls.length cl)) _ _ rfl rfl (eval_tmp ((hold 5 (slots_not (by kernel_rfl))).trans h5)) rfl hK
                    · obtain rfl := Option.some.inj ho
                      refine ⟨rfl, fun a w' hS hold hin K hK => ?_⟩
                      refine if_always rfl ?_
                      exact op_move (V := (· = .int .i64 kk)) _ _ rfl rfl (eval_tmp ((hold 14 (slots_not (by kernel_rfl))).trans h14)) rfl hK
                    · obtain rfl := Option.some.inj ho
                      refine ⟨rfl, fun a w' hS hold hin K hK => ?_⟩
                      obtain ⟨y4, x4, rfl⟩ := hin 4 rfl (by omega) rfl
                      obtain ⟨y5, x5, rfl⟩ := hin 5 rfl (by omega) rfl
                      refine if_always rfl ?_
                      exact op_index 5 26 (by kernel_rfl) (by kernel_rfl) _ _ rfl rfl _ _ _ (eval_tmp x4) _ kk (eval_tmp x5) HKL.out hK
                    · obtain rfl := Option.some.inj ho
                      refine ⟨rfl, fun a w' hS hold hin K hK => ?_⟩
                      obtain ⟨y6, x6, rfl⟩ := hin 6 rfl (by omega) rfl
                      refine if_always rfl ?_
                      exact op_ld_list 5 tElem _ rfl rfl gl kk (eval_tmp x6) hS.1 0 _ rfl _ HXN.out hK
                    · obtain rfl := Option.some.inj ho
                      refine ⟨rfl, fun a w' hS hold hin K hK => ?_⟩
                      obtain ⟨y3, x3, (v3 : IsEl xk y3)⟩ := hin 3 rfl (by omega) rfl
                      obtain ⟨y7, x7, (v7 : IsEl xn y7)⟩ := hin 7 rfl (by omega) rfl
                      refine if_always rfl ?_
                      exact op_fn2 _ _ _ _ _ _ rfl rfl (eval_tmp x3) (eval_tmp x7) (by intro args w; kernel_rfl) (equal_el_yes v3 v7 HE.out _) hK
                  · intro i o sz hi ho hA; cases hA
                  clear hS
                  intro t1 V7 hs hold hout hall hne hS
                  have ef := frame_fill 9 (fun i => [152, 153, 154, 155, 156, 157, 158, 159, 160].getD i 0) hs hold (slots_apart (by kernel_rfl)) (slots_lie (by rw [HS]; kernel_rfl))
                  replace HS := hs.trans HS
                  replace hS := hS.1
                  obtain ⟨x160, q160, v160⟩ : ∃ x, t1[160]? = some x ∧ ((· = .int .u64 18446744073709551615)) x := hout 8 (by omega) rfl
                  replace q160 : t1[160]? = some (.int .u64 18446744073709551615) := q160.trans (congrArg some v160)
                  replace h5 := (hold 5 (slots_not (by kernel_rfl))).trans h5
                  replace h6 := (hold 6 (slots_not (by kernel_rfl))).trans h6
                  replace h13 := (hold 13 (slots_not (by kernel_rfl))).trans h13
                  replace h14 := (hold 14 (slots_not (by kernel_rfl))).trans h14
                  clear hold hout hs hall hne
                  simp only [List.drop_succ_cons, List.drop_zero]
                  refine tlx_assign (.tmp 160) rfl rfl 15 rfl (by rw [HS]; decide) (.int .u64 18446744073709551615) (eval_tmp q160) fun tf0 ex0 hz hq he => ?_
                  replace h5 := (he 5 (by decide)).trans h5
                  replace h6 := (he 6 (by decide)).trans h6
                  replace h13 := (he 13 (by decide)).trans h13
                  replace h14 := (he 14 (by decide)).trans h14
                  replace q160 := (he 160 (by decide)).trans q160
                  replace HS := hz.trans HS
                  clear hz he
                  have h15 := hq
                  clear hq
                  refine wpList_nil ?_
                  rw [ex0, ef, HT]
                  clear ef ex0
                  simp only [fillA, if_true, List.getD_cons_zero, List.getD_cons_succ, List.setIfInBounds_toArray, List.set_cons_zero, List.set_cons_succ]
                  generalize t1.getD 152 undef = z152
                  generalize t1.getD 153 undef = z153
                  generalize t1.getD 154 undef = z154
                  generalize t1.getD 155 undef = z155
                  generalize t1.getD 156 undef = z156
                  generalize t1.getD 157 undef = z157
                  generalize t1.getD 158 undef = z158
                  generalize t1.getD 159 undef = z159
                  generalize t1.getD 160 undef = z160
                  clear HT
                  clear h5 h6 h13 h14 h15 q160 v160 hM HS tf0 t1 t0 M
                  go_wp2_with fail
                  obtain ⟨M, hM⟩ : ∃ M, M = V7.heap.size := ⟨_, rfl⟩
                  refine hide_frame fun t0 HT => ?_
                  have HS : t0.size = 181 := by rw [HT]; rfl
                  have h5 : t0[5]? = some (.slice (some ⟨gl, 0, none⟩) ls.length cl) := by rw [HT]; rfl
                  have h6 : t0[6]? = some (.slice (some ⟨gm, 0, none⟩) ls.length cm) := by rw [HT]; rfl
                  have h13 : t0[13]? = some (.int .i64 k) := by rw [HT]; rfl
                  have h14 : t0[14]? = some (.int .i64 kk) := by rw [HT]; rfl
                  have h15 : t0[15]? = some (.int .u64 18446744073709551615) := by rw [HT]; rfl
                  refine wp_region_all 19 (fun i => [161, 162, 163, 164, 165, 166, 167, 168, 169, 170, 171, 172, 173, 174, 175, 176, 177, 178, 179, 180].getD i 0) (fun i => [(· = .int .u64 18446744073709551615), (· = .bool true), (· = .bool true), (· = .int .u64 18446744073709551615), (· = .bool false), (· = .bool false), (· = .bool false), (· = .int .u64 18446744073709551615), (· = .bool true), (· = .slice (some ⟨gm, 0, none⟩) ls.length cm), (· = .int .i64 k), (· = .pointer (some ((⟨gm, 0, none⟩ : Addr).add (k * 32)))), (· = .agg (vals (bytesN xk.val))), (· = .slice (some ⟨gm, 0, none⟩) ls.length cm), (· = .int .i64 kk), (· = .pointer (some ((⟨gm, 0, none⟩ : Addr).add (kk * 32)))), (· = .agg (vals (bytesN xn.val))), (· = .bool true), (· = .bool false), (· = .bool false)].getD i (fun _ => True)) (fun w' => Own w [(gl, (cl * 5), LRow 5 IsEl ls), (gm, (cm * 32), LRow 32 IsNm ls)] w' ∧ M ≤ w'.heap.size)
                    (by kernel_rfl) (by kernel_rfl) (by kernel_rfl) (slots_apart (by kernel_rfl)) (slots_lie (by rw [HS]; kernel_rfl)) ⟨hS.drew, Nat.le_of_eq hM⟩ (fun w1 w2 h b => ⟨h.1.keep b, Nat.le_trans h.2 b.size⟩) ?_ ?_
                  · clear hS
                    intro i o hi ho
                    have hc : i = 0 ∨ i = 1 ∨ i = 2 ∨ i = 3 ∨ i = 4 ∨ i = 5 ∨ i = 6 ∨ i = 7 ∨ i = 8 ∨ i = 9 ∨ i = 10 ∨ i = 11 ∨ i = 12 ∨ i = 13 ∨ i = 14 ∨ i = 15 ∨ i = 16 ∨ i = 17 ∨ i = 18 ∨ i = 19 := by omega
                    rcases hc with rfl | rfl | rfl | rfl | rfl | rfl | rfl | rfl | rfl | rfl | rfl | rfl | rfl | rfl | rfl | rfl | rfl | rfl | rfl | rfl
                    · obtain rfl := Option.some.inj ho
                      refine ⟨rfl, fun a w' hS hold hin K hK => ?_⟩
                      refine if_always rfl ?_
                      exact op_move (V := (· = .int .u64 18446744073709551615)) _ _ rfl rfl (eval_tmp ((hold 15 (slots_not (by kernel_rfl))).trans h15)) rfl hK
                    · obtain rfl := Option.some.inj ho
                      refine ⟨rfl, fun a w' hS hold hin K hK => ?_⟩
                      obtain ⟨y0, x0, rfl⟩ := hin 0 rfl (by omega)
                      refine if_always rfl ?_
                      exact op_bin (V := (· = .bool true)) _ _ _ _ _ _ _ (.bool true) rfl rfl (eval_tmp x0) rfl (fun w => by kernel_rfl) rfl hK
                    · obtain rfl := Option.some.inj ho
                      refine ⟨rfl, fun a w' hS hold hin K hK => ?_⟩
                      obtain ⟨y1, x1, rfl⟩ := hin 1 rfl (by omega)
                      refine if_always rfl ?_
                      exact op_move (V := (· = .bool true)) _ _ rfl rfl (eval_tmp x1) rfl hK
                    · obtain rfl := Option.some.inj ho
                      refine ⟨rfl, fun a w' hS hold hin K hK => ?_⟩
                      obtain ⟨y2, x2, rfl⟩ := hin 2 rfl (by omega)
                      refine if_guard (d := 163) rfl rfl x2 ?_
                      exact op_move (V := (· = .int .u64 18446744073709551615)) _ _ rfl rfl (eval_tmp ((hold 15 (slots_not (by kernel_rfl))).trans h15)) rfl hK
                    · obtain rfl := Option.some.inj ho
                      refine ⟨rfl, fun a w' hS hold hin K hK => ?_⟩
                      obtain ⟨y2, x2, rfl⟩ := hin 2 rfl (by omega)
                      obtain ⟨y3, x3, rfl⟩ := hin 3 rfl (by omega)
                      refine if_guard (d := 163) rfl rfl x2 ?_
                      exact op_bin (V := (· = .bool false)) _ _ _ _ _ _ _ (.bool false) rfl rfl (eval_tmp x3) rfl (fun w => by kernel_rfl) rfl hK
                    · obtain rfl := Option.some.inj ho
                      refine ⟨rfl, fun a w' hS hold hin K hK => ?_⟩
                      obtain ⟨y2, x2, rfl⟩ := hin 2 rfl (by omega)
                      obtain ⟨y4, x4, rfl⟩ := hin 4 rfl (by omega)
                      refine if_always rfl ?_
                      exact op_pick (V := (· = .bool false)) _ _ _ true _ rfl rfl (eval_tmp x2) (show (Act.eval a _) = _ from (eval_tmp x4)) rfl hK
                    · obtain rfl := Option.some.inj ho
                      refine ⟨rfl, fun a w' hS hold hin K hK => ?_⟩
                      obtain ⟨y5, x5, rfl⟩ := hin 5 rfl (by omega)
                      refine if_always rfl ?_
                      exact op_move (V := (· = .bool false)) _ _ rfl rfl (eval_tmp x5) rfl hK
                    · obtain rfl := Option.some.inj ho
                      refine ⟨rfl, fun a w' hS hold hin K hK => ?_⟩
                      obtain ⟨y6, x6, rfl⟩ := hin 6 rfl (by omega)
                      refine if_guard (d := 167) rfl rfl x6 ?_
                      exact op_move (V := (· = .int .u64 18446744073709551615)) _ _ rfl rfl (eval_tmp ((hold 15 (slots_not (by kernel_rfl))).trans h15)) rfl hK
                    · obtain rfl := Option.some.inj ho
                      refine ⟨rfl, fun a w' hS hold hin K hK => ?_⟩
                      obtain ⟨y6, x6, rfl⟩ := hin 6 rfl (by omega)
                      obtain ⟨y7, x7, rfl⟩ := hin 7 rfl (by omega)
                      refine if_guard (d := 167) rfl rfl x6 ?_
                      exact op_bin (V := (· = .bool true)) _ _ _ _ _ _ _ (.bool true) rfl rfl (eval_tmp x7) rfl (fun w => by kernel_rfl) rfl hK
                    · obtain rfl := Option.some.inj ho
                      refine ⟨rfl, fun a w' hS hold hin K hK => ?_⟩
                      obtain ⟨y6, x6, rfl⟩ := hin 6 rfl (by omega)
                      refine if_guard (d := 167) rfl rfl x6 ?_
                      exact op_move (V := (· = .slice (some ⟨gm, 0, none⟩) ls.length cm)) _ _ rfl rfl (eval_tmp ((hold 6 (slots_not (by kernel_rfl))).trans h6)) rfl hK
                    · obtain rfl := Option.some.inj ho
                      refine ⟨rfl, fun a w' hS hold hin K hK => ?_⟩
                      obtain ⟨y6, x6, rfl⟩ := hin 6 rfl (by omega)
                      refine if_guard (d := 167) rfl rfl x6 ?_
                      exact op_move (V := (· = .int .i64 k)) _ _ rfl rfl (eval_tmp ((hold 13 (slots_not (by kernel_rfl))).trans h13)) rfl hK
                    · obtain rfl := Option.some.inj ho
                      refine ⟨rfl, fun a w' hS hold hin K hK => ?_⟩
                      obtain ⟨y6, x6, rfl⟩ := hin 6 rfl (by omega)
                      obtain ⟨y9, x9, rfl⟩ := hin 9 rfl (by omega)
                      obtain ⟨y10, x10, rfl⟩ := hin 10 rfl (by omega)
                      refine if_guard (d := 167) rfl rfl x6 ?_
                      exact op_index 32 29 (by kernel_rfl) (by kernel_rfl) _ _ rfl rfl _ _ _ (eval_tmp x9) _ k (eval_tmp x10) HLT.out hK
                    · obtain rfl := Option.some.inj ho
                      refine ⟨rfl, fun a w' hS hold hin K hK => ?_⟩
                      obtain ⟨y6, x6, rfl⟩ := hin 6 rfl (by omega)
                      obtain ⟨y11, x11, rfl⟩ := hin 11 rfl (by omega)
                      refine if_guard (d := 167) rfl rfl x6 ?_
                      exact op_ld_list 32 tNum _ rfl rfl gm k (eval_tmp x11) hS.1 1 _ rfl _ HXK.out hK
                    · obtain rfl := Option.some.inj ho
                      refine ⟨rfl, fun a w' hS hold hin K hK => ?_⟩
                      obtain ⟨y6, x6, rfl⟩ := hin 6 rfl (by omega)
                      refine if_guard (d := 167) rfl rfl x6 ?_
                      exact op_move (V := (· = .slice (some ⟨gm, 0, none⟩) ls.length cm)) _ _ rfl rfl (eval_tmp ((hold 6 (slots_not (by kernel_rfl))).trans h6)) rfl hK
                    · obtain rfl := Option.some.inj ho
                      refine ⟨rfl, fun a w' hS hold hin K hK => ?_⟩
                      obtain ⟨y6, x6, rfl⟩ := hin 6 rfl (by omega)
                      refine if_guard (d := 167) rfl rfl x6 ?_
                      exact op_move (V := (· = .int .i64 kk)) _ _ rfl rfl (eval_tmp ((hold 14 (slots_not (by kernel_rfl))).trans h14)) rfl hK
                    · obtain rfl := Option.some.inj ho
                      refine ⟨rfl, fun a w' hS hold hin K hK => ?_⟩
                      obtain ⟨y6, x6, rfl⟩ := hin 6 rfl (by omega)
                      obtain ⟨y13, x13, rfl⟩ := hin 13 rfl (by omega)
                      obtain ⟨y14, x14, rfl⟩ := hin 14 rfl (by omega)
                      refine if_guard (d := 167) rfl rfl x6 ?_
                      exact op_index 32 29 (by kernel_rfl) (by kernel_rfl) _ _ rfl rfl _ _ _ (eval_tmp x13) _ kk (eval_tmp x14) HKL.out hK
                    · obtain rfl := Option.some.inj ho
                      refine ⟨rfl, fun a w' hS hold hin K hK => ?_⟩
                      obtain ⟨y6, x6, rfl⟩ := hin 6 rfl (by omega)
                      obtain ⟨y15, x15, rfl⟩ := hin 15 rfl (by omega)
                      refine if_guard (d := 167) rfl rfl x6 ?_
                      exact op_ld_list 32 tNum _ rfl rfl gm kk (eval_tmp x15) hS.1 1 _ rfl _ HXN.out hK
                    · obtain rfl := Option.some.inj ho
                      refine ⟨rfl, fun a w' hS hold hin K hK => ?_⟩
                      obtain ⟨y6, x6, rfl⟩ := hin 6 rfl (by omega)
                      obtain ⟨y12, x12, rfl⟩ := hin 12 rfl (by omega)
                      obtain ⟨y16, x16, rfl⟩ := hin 16 rfl (by omega)
                      refine if_guard (d := 167) rfl rfl x6 ?_
                      exact op_bin (V := (· = .bool true)) _ _ _ _ _ _ _ (.bool true) rfl rfl (eval_tmp x12) (eval_tmp x16) (fun w => eql_nm _ _ (bytesN_len _) (bytesN_len _) true ((bytes_same rfl rfl).trans (decide_eq_true HE.out)) w) rfl hK
                    · obtain rfl := Option.some.inj ho
                      refine ⟨rfl, fun a w' hS hold hin K hK => ?_⟩
                      obtain ⟨y6, x6, rfl⟩ := hin 6 rfl (by omega)
                      obtain ⟨y8, x8, rfl⟩ := hin 8 rfl (by omega)
                      obtain ⟨y17, x17, rfl⟩ := hin 17 rfl (by omega)
                      refine if_guard (d := 167) rfl rfl x6 ?_
                      exact op_bin (V := (· = .bool false)) _ _ _ _ _ _ _ (.bool false) rfl rfl (eval_tmp x8) (eval_tmp x17) (fun w => by kernel_rfl) rfl hK
                    · obtain rfl := Option.some.inj ho
                      refine ⟨rfl, fun a w' hS hold hin K hK => ?_⟩
                      obtain ⟨y6, x6, rfl⟩ := hin 6 rfl (by omega)
                      obtain ⟨y18, x18, rfl⟩ := hin 18 rfl (by omega)
                      refine if_always rfl ?_
                      exact op_pick (V := (· = .bool false)) _ _ _ false _ rfl rfl (eval_tmp x6) (show (Act.eval a _) = _ from (eval_tmp x18)) rfl hK
                  clear hS
                  intro t1 V8 hs hold hout hS
                  have ef := frame_fill 20 (fun i => [161, 162, 163, 164, 165, 166, 167, 168, 169, 170, 171, 172, 173, 174, 175, 176, 177, 178, 179, 180].getD i 0) hs hold (slots_apart (by kernel_rfl)) (slots_lie (by rw [HS]; kernel_rfl))
                  replace HS := hs.trans HS
                  replace hS := hS.1
                  obtain ⟨_, q180, rfl⟩ : ∃ x, t1[180]? = some x ∧ x = (.bool false : Value) := hout 19 (by omega)
                  replace h5 := (hold 5 (slots_not (by kernel_rfl))).trans h5
                  replace h6 := (hold 6 (slots_not (by kernel_rfl))).trans h6
                  replace h13 := (hold 13 (slots_not (by kernel_rfl))).trans h13
                  replace h14 := (hold 14 (slots_not (by kernel_rfl))).trans h14
                  replace h15 := (hold 15 (slots_not (by kernel_rfl))).trans h15
                  clear hold hout hs
                  have g180 : t1.getD 180 undef = .bool false := by rw [Array.getD_eq_getD_getElem?, q180]; rfl
                  rw [ef, HT]
                  clear ef
                  simp only [fillA, if_true, List.getD_cons_zero, List.getD_cons_succ, List.setIfInBounds_toArray, List.set_cons_zero, List.set_cons_succ, g180]
                  generalize t1.getD 161 undef = z161
                  generalize t1.getD 162 undef = z162
                  generalize t1.getD 163 undef = z163
                  generalize t1.getD 164 undef = z164
                  generalize t1.getD 165 undef = z165
                  generalize t1.getD 166 undef = z166
                  generalize t1.getD 167 undef = z167
                  generalize t1.getD 168 undef = z168
                  generalize t1.getD 169 undef = z169
                  generalize t1.getD 170 undef = z170
                  generalize t1.getD 171 undef = z171
                  generalize t1.getD 172 undef = z172
                  generalize t1.getD 173 undef = z173
                  generalize t1.getD 174 undef = z174
                  generalize t1.getD 175 undef = z175
                  generalize t1.getD 176 undef = z176
                  generalize t1.getD 177 undef = z177
                  generalize t1.getD 178 undef = z178
                  generalize t1.getD 179 undef = z179
                  clear g180 HT
                  clear h5 h6 h13 h14 h15 q180 hM HS t1 t0 M
                  have HS9 := Lib.hid hS
                  have hlt2 := HLT.out
                  clear hS
                  go_wp2_with fail
                  go_roundw
                  case rel => exact ⟨k + 1, by omega, by go_num, HS9.out⟩
                  case measure => simp [intOf]; omega
                · have HE := Lib.hid he
                  clear he
                  obtain ⟨M, hM⟩ : ∃ M, M = V6.heap.size := ⟨_, rfl⟩
                  refine hide_frame fun t0 HT => ?_
                  have HS : t0.size = 181 := by rw [HT]; rfl
                  have h5 : t0[5]? = some (.slice (some ⟨gl, 0, none⟩) ls.length cl) := by rw [HT]; rfl
                  have h6 : t0[6]? = some (.slice (some ⟨gm, 0, none⟩) ls.length cm) := by rw [HT]; rfl
                  have h13 : t0[13]? = some (.int .i64 k) := by rw [HT]; rfl
                  have h14 : t0[14]? = some (.int .i64 kk) := by rw [HT]; rfl
                  refine wp_region_most 9 (fun i => [152, 153, 154, 155, 156, 157, 158, 159, 160].getD i 0) (fun _ => none) (fun i => [(· = .slice (some ⟨gl, 0, none⟩) ls.length cl), (· = .int .i64 k), (· = .pointer (some ((⟨gl, 0, none⟩ : Addr).add (k * 5)))), IsEl xk, (· = .slice (some ⟨gl, 0, none⟩) ls.length cl), (· = .int .i64 kk), (· = .pointer (some ((⟨gl, 0, none⟩ : Addr).add (kk * 5)))), IsEl xn, (· = .int .u64 0)].getD i (fun _ => True)) (fun w' => Own w [(gl, (cl * 5), LRow 5 IsEl ls), (gm, (cm * 32), LRow 32 IsNm ls)] w' ∧ M ≤ w'.heap.size) M
                    (by kernel_rfl) (by kernel_rfl) (slots_apart (by kernel_rfl)) (slots_lie (by rw [HS]; kernel_rfl)) ⟨hS.drew, Nat.le_of_eq hM⟩ (fun w' h => h.2) (fun w1 w2 h b => ⟨h.1.keep b, Nat.le_trans h.2 b.size⟩) ?_ ?_ ?_
                  · clear hS
                    intro i o hi ho hA
                    have hc : i = 0 ∨ i = 1 ∨ i = 2 ∨ i = 3 ∨ i = 4 ∨ i = 5 ∨ i = 6 ∨ i = 7 ∨ i = 8 := by omega
                    rcases hc with rfl | rfl | rfl | rfl | rfl | rfl | rfl | rfl | rfl
                    · obtain rfl := Option.some.inj ho
                      refine ⟨rfl, fun a w' hS hold hin K hK => ?_⟩
                      refine if_always rfl ?_
                      exact op_move (V := (· = .slice (some ⟨gl, 0, none⟩) ls.length cl)) _ _ rfl rfl (eval_tmp ((hold 5 (slots_not (by kernel_rfl))).trans h5)) rfl hK
                    · obtain rfl := Option.some.inj ho
                      refine ⟨rfl, fun a w' hS hold hin K hK => ?_⟩
                      refine if_always rfl ?_
                      exact op_move (V := (· = .int .i64 k)) _ _ rfl rfl (eval_tmp ((hold 13 (slots_not (by kernel_rfl))).trans h13)) rfl hK
                    · obtain rfl := Option.some.inj ho
                      refine ⟨rfl, fun a w' hS hold hin K hK => ?_⟩
                      obtain ⟨y0, x0, rfl⟩ := hin 0 rfl (by omega) rfl
                      obtain ⟨y1, x1, rfl⟩ := hin 1 rfl (by omega) rfl
                      refine if_always rfl ?_
                      exact op_index 5 26 (by kernel_rfl) (by kernel_rfl) _ _ rfl rfl _ _ _ (eval_tmp x0) _ k (eval_tmp x1) HLT.out hK
                    · obtain rfl := Option.some.inj ho
                      refine ⟨rfl, fun a w' hS hold hin K hK => ?_⟩
                      obtain ⟨y2, x2, rfl⟩ := hin 2 rfl (by omega) rfl
                      refine if_always rfl ?_
                      exact op_ld_list 5 tElem _ rfl rfl gl k (eval_tmp x2) hS.1 0 _ rfl _ HXK.out hK
                    · obtain rfl := Option.some.inj ho
                      refine ⟨rfl, fun a w' hS hold hin K hK => ?_⟩
                      refine if_always rfl ?_
                      exact op_move (V := (· = .slice (some ⟨gl, 0, none⟩) ls.length cl)) _ _ rfl rfl (eval_tmp ((hold 5 (slots_not (by kernel_rfl))).trans h5)) rfl hK
                    · obtain rfl := Option.some.inj ho
                      refine ⟨rfl, fun a w' hS hold hin K hK => ?_⟩
                      refine if_always rfl ?_
                      exact op_move (V := (· = .int .i64 kk)) _ _ rfl rfl (eval_tmp ((hold 14 (slots_not (by kernel_rfl))).trans h14)) rfl hK
                    · obtain rfl := Option.some.inj ho
                      refine ⟨rfl, fun a w' hS hold hin K hK => ?_⟩
                      obtain ⟨y4, x4, rfl⟩ := hin 4 rfl (by omega) rfl
                      obtain ⟨y5, x5, rfl⟩ := hin 5 rfl (by omega) rfl
                      refine if_always rfl ?_
                      exact op_index 5 26 (by kernel_rfl) (by kernel_rfl) _ _ rfl rfl _ _ _ (eval_tmp x4) _ kk (eval_tmp x5) HKL.out hK
                    · obtain rfl := Option.some.inj ho
                      refine ⟨rfl, fun a w' hS hold hin K hK => ?_⟩
                      obtain ⟨y6, x6, rfl⟩ := hin 6 rfl (by omega) rfl
                      refine if_always rfl ?_
                      exact op_ld_list 5 tElem _ rfl rfl gl kk (eval_tmp x6) hS.1 0 _ rfl _ HXN.out hK
                    · obtain rfl := Option.some.inj ho
                      refine ⟨rfl, fun a w' hS hold hin K hK => ?_⟩
                      obtain ⟨y3, x3, (v3 : IsEl xk y3)⟩ := hin 3 rfl (by omega) rfl
                      obtain ⟨y7, x7, (v7 : IsEl xn y7)⟩ := hin 7 rfl (by omega) rfl
                      refine if_always rfl ?_
                      exact op_fn2 _ _ _ _ _ _ rfl rfl (eval_tmp x3) (eval_tmp x7) (by intro args w; kernel_rfl) (equal_el_no v3 v7 HE.out _) hK
                  · intro i o sz hi ho hA; cases hA
                  clear hS
                  intro t1 V7 hs hold hout hall hne hS
                  have ef := frame_fill 9 (fun i => [152, 153, 154, 155, 156, 157, 158, 159, 160].getD i 0) hs hold (slots_apart (by kernel_rfl)) (slots_lie (by rw [HS]; kernel_rfl))
                  replace HS := hs.trans HS
                  replace hS := hS.1
                  obtain ⟨x160, q160, v160⟩ : ∃ x, t1[160]? = some x ∧ ((· = .int .u64 0)) x := hout 8 (by omega) rfl
                  replace q160 : t1[160]? = some (.int .u64 0) := q160.trans (congrArg some v160)
                  replace h5 := (hold 5 (slots_not (by kernel_rfl))).trans h5
                  replace h6 := (hold 6 (slots_not (by kernel_rfl))).trans h6
                  replace h13 := (hold 13 (slots_not (by kernel_rfl))).trans h13
                  replace h14 := (hold 14 (slots_not (by kernel_rfl))).trans h14
                  clear hold hout hs hall hne
                  simp only [List.drop_succ_cons, List.drop_zero]
                  refine tlx_assign (.tmp 160) rfl rfl 15 rfl (by rw [HS]; decide) (.int .u64 0) (eval_tmp q160) fun tf0 ex0 hz hq he => ?_
                  replace h5 := (he 5 (by decide)).trans h5
                  replace h6 := (he 6 (by decide)).trans h6
                  replace h13 := (he 13 (by decide)).trans h13
                  replace h14 := (he 14 (by decide)).trans h14
                  replace q160 := (he 160 (by decide)).trans q160
                  replace HS := hz.trans HS
                  clear hz he
                  have h15 := hq
                  clear hq
                  refine wpList_nil ?_
                  rw [ex0, ef, HT]
                  clear ef ex0
                  simp only [fillA, if_true, List.getD_cons_zero, List.getD_cons_succ, List.setIfInBounds_toArray, List.set_cons_zero, List.set_cons_succ]
                  generalize t1.getD 152 undef = z152
                  generalize t1.getD 153 undef = z153
                  generalize t1.getD 154 undef = z154
                  generalize t1.getD 155 undef = z155
                  generalize t1.getD 156 undef = z156
                  generalize t1.getD 157 undef = z157
                  generalize t1.getD 158 undef = z158
                  generalize t1.getD 159 undef = z159
                  generalize t1.getD 160 undef = z160
                  clear HT
                  clear h5 h6 h13 h14 h15 q160 v160 hM HS tf0 t1 t0 M
                  go_wp2_with fail
                  obtain ⟨M, hM⟩ : ∃ M, M = V7.heap.size := ⟨_, rfl⟩
                  refine hide_frame fun t0 HT => ?_
                  have HS : t0.size = 181 := by rw [HT]; rfl
                  have h5 : t0[5]? = some (.slice (some ⟨gl, 0, none⟩) ls.length cl) := by rw [HT]; rfl
                  have h6 : t0[6]? = some (.slice (some ⟨gm, 0, none⟩) ls.length cm) := by rw [HT]; rfl
                  have h13 : t0[13]? = some (.int .i64 k) := by rw [HT]; rfl
                  have h14 : t0[14]? = some (.int .i64 kk) := by rw [HT]; rfl
                  have h15 : t0[15]? = some (.int .u64 0) := by rw [HT]; rfl
                  refine wp_region_all 19 (fun i => [161, 162, 163, 164, 165, 166, 167, 168, 169, 170, 171, 172, 173, 174, 175, 176, 177, 178, 179, 180].getD i 0) (fun i => [(· = .int .u64 0), (· = .bool false), (· = .bool false), (fun _ => True), (fun _ => True), (· = .bool false), (· = .bool false), (· = .int .u64 0), (· = .bool false), (· = .slice (some ⟨gm, 0, none⟩) ls.length cm), (· = .int .i64 k), (· = .pointer (some ((⟨gm, 0, none⟩ : Addr).add (k * 32)))), (· = .agg (vals (bytesN xk.val))), (· = .slice (some ⟨gm, 0, none⟩) ls.length cm), (· = .int .i64 kk), (· = .pointer (some ((⟨gm, 0, none⟩ : Addr).add (kk * 32)))), (· = .agg (vals (bytesN xn.val))), (· = .bool false), (· = .bool false), (· = .bool false)].getD i (fun _ => True)) (fun w' => Own w [(gl, (cl * 5), LRow 5 IsEl ls), (gm, (cm * 32), LRow 32 IsNm ls)] w' ∧ M ≤ w'.heap.size)
                    (by kernel_rfl) (by kernel_rfl) (by kernel_rfl) (slots_apart (by kernel_rfl)) (slots_lie (by rw [HS]; kernel_rfl)) ⟨hS.drew, Nat.le_of_eq hM⟩ (fun w1 w2 h b => ⟨h.1.keep b, Nat.le_trans h.2 b.size⟩) ?_ ?_
                  · clear hS
                    intro i o hi ho
                    have hc : i = 0 ∨ i = 1 ∨ i = 2 ∨ i = 3 ∨ i = 4 ∨ i = 5 ∨ i = 6 ∨ i = 7 ∨ i = 8 ∨ i = 9 ∨ i = 10 ∨ i = 11 ∨ i = 12 ∨ i = 13 ∨ i = 14 ∨ i = 15 ∨ i = 16 ∨ i = 17 ∨ i = 18 ∨ i = 19 := by omega
                    rcases hc with rfl | rfl | rfl | rfl | rfl | rfl | rfl | rfl | rfl | rfl | rfl | rfl | rfl | rfl | rfl | rfl | rfl | rfl | rfl | rfl
                    · obtain rfl := Option.some.inj ho
                      refine ⟨rfl, fun a w' hS hold hin K hK => ?_⟩
                      refine if_always rfl ?_
                      exact op_move (V := (· = .int .u64 0)) _ _ rfl rfl (eval_tmp ((hold 15 (slots_not (by kernel_rfl))).trans h15)) rfl hK
                    · obtain rfl := Option.some.inj ho
                      refine ⟨rfl, fun a w' hS hold hin K hK => ?_⟩
                      obtain ⟨y0, x0, rfl⟩ := hin 0 rfl (by omega)
                      refine if_always rfl ?_
                      exact op_bin (V := (· = .bool false)) _ _ _ _ _ _ _ (.bool false) rfl rfl (eval_tmp x0) rfl (fun w => by kernel_rfl) rfl hK
                    · obtain rfl := Option.some.inj ho
                      refine ⟨rfl, fun a w' hS hold hin K hK => ?_⟩
                      obtain ⟨y1, x1, rfl⟩ := hin 1 rfl (by omega)
                      refine if_always rfl ?_
                      exact op_move (V := (· = .bool false)) _ _ rfl rfl (eval_tmp x1) rfl hK
                    · obtain rfl := Option.some.inj ho
                      refine ⟨rfl, fun a w' hS hold hin K hK => ?_⟩
                      obtain ⟨y2, x2, rfl⟩ := hin 2 rfl (by omega)
                      exact if_guard_off (d := 163) rfl rfl x2 (by decide) (hK _ _ trivial (Below.refl _ _))
                    · obtain rfl := Option.some.inj ho
                      refine ⟨rfl, fun a w' hS hold hin K hK => ?_⟩
                      obtain ⟨y2, x2, rfl⟩ := hin 2 rfl (by omega)
                      exact if_guard_off (d := 163) rfl rfl x2 (by decide) (hK _ _ trivial (Below.refl _ _))
                    · obtain rfl := Option.some.inj ho
                      refine ⟨rfl, fun a w' hS hold hin K hK => ?_⟩
                      obtain ⟨y2, x2, rfl⟩ := hin 2 rfl (by omega)
                      refine if_always rfl ?_
                      exact op_pick (V := (· = .bool false)) _ _ _ false _ rfl rfl (eval_tmp x2) (show Act.eval a (.const (.bool false)) = (.bool false) from rfl) rfl hK
                    · obtain rfl := Option.some.inj ho
                      refine ⟨rfl, fun a w' hS hold hin K hK => ?_⟩
                      obtain ⟨y5, x5, rfl⟩ := hin 5 rfl (by omega)
                      refine if_always rfl ?_
                      exact op_move (V := (· = .bool false)) _ _ rfl rfl (eval_tmp x5) rfl hK
                    · obtain rfl := Option.some.inj ho
                      refine ⟨rfl, fun a w' hS hold hin K hK => ?_⟩
                      obtain ⟨y6, x6, rfl⟩ := hin 6 rfl (by omega)
                      refine if_guard (d := 167) rfl rfl x6 ?_
                      exact op_move (V := (· = .int .u64 0)) _ _ rfl rfl (eval_tmp ((hold 15 (slots_not (by kernel_rfl))).trans h15)) rfl hK
                    · obtain rfl := Option.some.inj ho
                      refine ⟨rfl, fun a w' hS hold hin K hK => ?_⟩
                      obtain ⟨y6, x6, rfl⟩ := hin 6 rfl (by omega)
                      obtain ⟨y7, x7, rfl⟩ := hin 7 rfl (by omega)
                      refine if_guard (d := 167) rfl rfl x6 ?_
                      exact op_bin (V := (· = .bool false)) _ _ _ _ _ _ _ (.bool false) rfl rfl (eval_tmp x7) rfl (fun w => by kernel_rfl) rfl hK
                    · obtain rfl := Option.some.inj ho
                      refine ⟨rfl, fun a w' hS hold hin K hK => ?_⟩
                      obtain ⟨y6, x6, rfl⟩ := hin 6 rfl (by omega)
                      refine if_guard (d := 167) rfl rfl x6 ?_
                      exact op_move (V := (· = .slice (some ⟨gm, 0, none⟩) ls.length cm)) _ _ rfl rfl (eval_tmp ((hold 6 (slots_not (by kernel_rfl))).trans h6)) rfl hK
                    · obtain rfl := Option.some.inj ho
                      refine ⟨rfl, fun a w' hS hold hin K hK => ?_⟩
                      obtain ⟨y6, x6, rfl⟩ := hin 6 rfl (by omega)
                      refine if_guard (d := 167) rfl rfl x6 ?_
                      exact op_move (V := (· = .int .i64 k)) _ _ rfl rfl (eval_tmp ((hold 13 (slots_not (by kernel_rfl))).trans h13)) rfl hK
                    · obtain rfl := Option.some.inj ho
                      refine ⟨rfl, fun a w' hS hold hin K hK => ?_⟩
                      obtain ⟨y6, x6, rfl⟩ := hin 6 rfl (by omega)
                      obtain ⟨y9, x9, rfl⟩ := hin 9 rfl (by omega)
                      obtain ⟨y10, x10, rfl⟩ := hin 10 rfl (by omega)
                      refine if_guard (d := 167) rfl rfl x6 ?_
                      exact op_index 32 29 (by kernel_rfl) (by kernel_rfl) _ _ rfl rfl _ _ _ (eval_tmp x9) _ k (eval_tmp x10) HLT.out hK
                    · obtain rfl := Option.some.inj ho
                      refine ⟨rfl, fun a w' hS hold hin K hK => ?_⟩
                      obtain ⟨y6, x6, rfl⟩ := hin 6 rfl (by omega)
                      obtain ⟨y11, x11, rfl⟩ := hin 11 rfl (by omega)
                      refine if_guard (d := 167) rfl rfl x6 ?_
                      exact op_ld_list 32 tNum _ rfl rfl gm k (eval_tmp x11) hS.1 1 _ rfl _ HXK.out hK
                    · obtain rfl := Option.some.inj ho
                      refine ⟨rfl, fun a w' hS hold hin K hK => ?_⟩
                      obtain ⟨y6, x6, rfl⟩ := hin 6 rfl (by omega)
                      refine if_guard (d := 167) rfl rfl x6 ?_
                      exact op_move (V := (· = .slice (some ⟨gm, 0, none⟩) ls.length cm)) _ _ rfl rfl (eval_tmp ((hold 6 (slots_not (by kernel_rfl))).trans h6)) rfl hK
                    · obtain rfl := Option.some.inj ho
                      refine ⟨rfl, fun a w' hS hold hin K hK => ?_⟩
                      obtain ⟨y6, x6, rfl⟩ := hin 6 rfl (by omega)
                      refine if_guard (d := 167) rfl rfl x6 ?_
                      exact op_move (V := (· = .int .i64 kk)) _ _ rfl rfl (eval_tmp ((hold 14 (slots_not (by kernel_rfl))).trans h14)) rfl hK
                    · obtain rfl := Option.some.inj ho
                      refine ⟨rfl, fun a w' hS hold hin K hK => ?_⟩
                      obtain ⟨y6, x6, rfl⟩ := hin 6 rfl (by omega)
                      obtain ⟨y13, x13, rfl⟩ := hin 13 rfl (by omega)
                      obtain ⟨y14, x14, rfl⟩ := hin 14 rfl (by omega)
                      refine if_guard (d := 167) rfl rfl x6 ?_
                      exact op_index 32 29 (by kernel_rfl) (by kernel_rfl) _ _ rfl rfl _ _ _ (eval_tmp x13) _ kk (eval_tmp x14) HKL.out hK
                    · obtain rfl := Option.some.inj ho
                      refine ⟨rfl, fun a w' hS hold hin K hK => ?_⟩
                      obtain ⟨y6, x6, rfl⟩ := hin 6 rfl (by omega)
                      obtain ⟨y15, x15, rfl⟩ := hin 15 rfl (by omega)
                      refine if_guard (d := 167) rfl rfl x6 ?_
                      exact op_ld_list 32 tNum _ rfl rfl gm kk (eval_tmp x15) hS.1 1 _ rfl _ HXN.out hK
                    · obtain rfl := Option.some.inj ho
                      refine ⟨rfl, fun a w' hS hold hin K hK => ?_⟩
                      obtain ⟨y6, x6, rfl⟩ := hin 6 rfl (by omega)
                      obtain ⟨y12, x12, rfl⟩ := hin 12 rfl (by omega)
                      obtain ⟨y16, x16, rfl⟩ := hin 16 rfl (by omega)
                      refine if_guard (d := 167) rfl rfl x6 ?_
                      exact op_bin (V := (· = .bool false)) _ _ _ _ _ _ _ (.bool false) rfl rfl (eval_tmp x12) (eval_tmp x16) (fun w => eql_nm _ _ (bytesN_len _) (bytesN_len _) false ((bytes_same rfl rfl).trans (decide_eq_false HE.out)) w) rfl hK
                    · obtain rfl := Option.some.inj ho
                      refine ⟨rfl, fun a w' hS hold hin K hK => ?_⟩
                      obtain ⟨y6, x6, rfl⟩ := hin 6 rfl (by omega)
                      obtain ⟨y8, x8, rfl⟩ := hin 8 rfl (by omega)
                      obtain ⟨y17, x17, rfl⟩ := hin 17 rfl (by omega)
                      refine if_guard (d := 167) rfl rfl x6 ?_
                      exact op_bin (V := (· = .bool false)) _ _ _ _ _ _ _ (.bool false) rfl rfl (eval_tmp x8) (eval_tmp x17) (fun w => by kernel_rfl) rfl hK
                    · obtain rfl := Option.some.inj ho
                      refine ⟨rfl, fun a w' hS hold hin K hK => ?_⟩
                      obtain ⟨y6, x6, rfl⟩ := hin 6 rfl (by omega)
                      obtain ⟨y18, x18, rfl⟩ := hin 18 rfl (by omega)
                      refine if_always rfl ?_
                      exact op_pick (V := (· = .bool false)) _ _ _ false _ rfl rfl (eval_tmp x6) (show (Act.eval a _) = _ from (eval_tmp x18)) rfl hK
                  clear hS
                  intro t1 V8 hs hold hout hS
                  have ef := frame_fill 20 (fun i => [161, 162, 163, 164, 165, 166, 167, 168, 169, 170, 171, 172, 173, 174, 175, 176, 177, 178, 179, 180].getD i 0) hs hold (slots_apart (by kernel_rfl)) (slots_lie (by rw [HS]; kernel_rfl))
                  replace HS := hs.trans HS
                  replace hS := hS.1
                  obtain ⟨_, q180, rfl⟩ : ∃ x, t1[180]? = some x ∧ x = (.bool false : Value) := hout 19 (by omega)
                  replace h5 := (hold 5 (slots_not (by kernel_rfl))).trans h5
                  replace h6 := (hold 6 (slots_not (by kernel_rfl))).trans h6
                  replace h13 := (hold 13 (slots_not (by kernel_rfl))).trans h13
                  replace h14 := (hold 14 (slots_not (by kernel_rfl))).trans h14
                  replace h15 := (hold 15 (slots_not (by kernel_rfl))).trans h15
                  clear hold hout hs
                  have g180 : t1.getD 180 undef = .bool false := by rw [Array.getD_eq_getD_getElem?, q180]; rfl
                  rw [ef, HT]
                  clear ef
                  simp only [fillA, if_true, List.getD_cons_zero, List.getD_cons_succ, List.setIfInBounds_toArray, List.set_cons_zero, List.set_cons_succ, g180]
                  generalize t1.getD 161 undef = z161
                  generalize t1.getD 162 undef = z162
                  generalize t1.getD 163 undef = z163
                  generalize t1.getD 164 undef = z164
                  generalize t1.getD 165 undef = z165
                  generalize t1.getD 166 undef = z166
                  generalize t1.getD 167 undef = z167
                  generalize t1.getD 168 undef = z168
                  generalize t1.getD 169 undef = z169
                  generalize t1.getD 170 undef = z170
                  generalize t1.getD 171 undef = z171
                  generalize t1.getD 172 undef = z172
                  generalize t1.getD 173 undef = z173
                  generalize t1.getD 174 undef = z174
                  generalize t1.getD 175 undef = z175
                  generalize t1.getD 176 undef = z176
                  generalize t1.getD 177 undef = z177
                  generalize t1.getD 178 undef = z178
                  generalize t1.getD 179 undef = z179
                  clear g180 HT
                  clear h5 h6 h13 h14 h15 q180 hM HS t1 t0 M
                  have HS9 := Lib.hid hS
                  have hlt2 := HLT.out
                  clear hS
                  go_wp2_with fail
                  go_roundw
                  case rel => exact ⟨k + 1, by omega, by go_num, HS9.out⟩
                  case measure => simp [intOf]; omega
              · have HZ := Lib.hid hz
                clear hz
                go_wp2_with fail
                obtain ⟨M, hM⟩ : ∃ M, M = wr.heap.size := ⟨_, rfl⟩
                refine hide_frame fun t0 HT => ?_
                have HS : t0.size = 181 := by rw [HT]; rfl
                have h5 : t0[5]? = some (.slice (some ⟨gl, 0, none⟩) ls.length cl) := by rw [HT]; rfl
                have h6 : t0[6]? = some (.slice (some ⟨gm, 0, none⟩) ls.length cm) := by rw [HT]; rfl
                have h13 : t0[13]? = some (.int .i64 k) := by rw [HT]; rfl
                refine wp_region_all 39 (fun i => [107, 108, 109, 110, 111, 112, 113, 114, 115, 116, 117, 118, 119, 120, 121, 122, 123, 124, 125, 126, 127, 128, 129, 130, 131, 132, 133, 134, 135, 136, 137, 138, 139, 140, 141, 142, 143, 144, 145, 146].getD i 0) (fun i => [(· = .slice (some ⟨gl, 0, none⟩) ls.length cl), (· = .int .i64 k), (· = .pointer (some ((⟨gl, 0, none⟩ : Addr).add (k * 5)))), IsEl xk, (· = .agg (vals (bytesN (xk : F).val))), (· = .slice (some ⟨gm, 0, none⟩) ls.length cm), (· = .int .i64 k), (· = .pointer (some ((⟨gm, 0, none⟩ : Addr).add (k * 32)))), (· = .agg (vals (bytesN xk.val))), (· = .bool false), (· = .bool false), (· = .slice (some ⟨gl, 0, none⟩) ls.length cl), (· = .int .i64 k), (· = .pointer (some ((⟨gl, 0, none⟩ : Addr).add (k * 5)))), IsEl xk, (· = .int .u64 0), (· = .bool false), (· = .slice (some ⟨gm, 0, none⟩) ls.length cm), (· = .int .i64 k), (· = .pointer (some ((⟨gm, 0, none⟩ : Addr).add (k * 32)))), (· = .agg (vals (bytesN xk.val))), (· = .bool false), (· = .bool false), (· = .bool false), (· = .bool false), (· = .slice (some ⟨gl, 0, none⟩) ls.length cl), (· = .int .i64 k), (· = .pointer (some ((⟨gl, 0, none⟩ : Addr).add (k * 5)))), IsEl xk, (· = .int .u64 0), (· = .bool false), (· = .bool false), (fun _ => True), (fun _ => True), (fun _ => True), (fun _ => True), (fun _ => True), (fun _ => True), (· = .bool false), (· = .bool false)].getD i (fun _ => True)) (fun w' => Own w [(gl, (cl * 5), LRow 5 IsEl ls), (gm, (cm * 32), LRow 32 IsNm ls)] w' ∧ M ≤ w'.heap.size)
                  (by kernel_rfl) (by kernel_rfl) (by kernel_rfl) (slots_apart (by kernel_rfl)) (slots_lie (by rw [HS]; kernel_rfl)) ⟨hS.drew, Nat.le_of_eq hM⟩ (fun w1 w2 h b => ⟨h.1.keep b, Nat.le_trans h.2 b.size⟩) ?_ ?_
                · clear hS
                  intro i o hi ho
                  have hc : i = 0 ∨ i = 1 ∨ i = 2 ∨ i = 3 ∨ i = 4 ∨ i = 5 ∨ i = 6 ∨ i = 7 ∨ i = 8 ∨ i = 9 ∨ i = 10 ∨ i = 11 ∨ i = 12 ∨ i = 13 ∨ i = 14 ∨ i = 15 ∨ i = 16 ∨ i = 17 ∨ i = 18 ∨ i = 19 ∨ i = 20 ∨ i = 21 ∨ i = 22 ∨ i = 23 ∨ i = 24 ∨ i = 25 ∨ i = 26 ∨ i = 27 ∨ i = 28 ∨ i = 29 ∨ i = 30 ∨ i = 31 ∨ i = 32 ∨ i = 33 ∨ i = 34 ∨ i = 35 ∨ i = 36 ∨ i = 37 ∨ i = 38 ∨ i = 39 := by omega
                  rcases hc with rfl | rfl | rfl | rfl | rfl | rfl | rfl | rfl | rfl | rfl | rfl | rfl | rfl | rfl | rfl | rfl | rfl | rfl | rfl | rfl | rfl | rfl | rfl | rfl | rfl | rfl | rfl | rfl | rfl | rfl | rfl | rfl | rfl | rfl | rfl | rfl | rfl | rfl | rfl | rfl
                  · obtain rfl := Option.some.inj ho
                    refine ⟨rfl, fun a w' hS hold hin K hK => ?_⟩
                    refine if_always rfl ?_
                    exact op_move (V := (· = .slice (some ⟨gl, 0, none⟩) ls.length cl)) _ _ rfl rfl (eval_tmp ((hold 5 (slots_not (by kernel_rfl))).trans h5)) rfl hK
                  · obtain rfl := Option.some.inj ho
                    refine ⟨rfl, fun a w' hS hold hin K hK => ?_⟩
                    refine if_always rfl ?_
                    exact op_move (V := (· = .int .i64 k)) _ _ rfl rfl (eval_tmp ((hold 13 (slots_not (by kernel_rfl))).trans h13)) rfl hK
                  · obtain rfl := Option.some.inj ho
                    refine ⟨rfl, fun a w' hS hold hin K hK => ?_⟩
                    obtain ⟨y0, x0, rfl⟩ := hin 0 rfl (by omega)
                    obtain ⟨y1, x1, rfl⟩ := hin 1 rfl (by omega)
                    refine if_always rfl ?_
                    exact op_index 5 26 (by kernel_rfl) (by kernel_rfl) _ _ rfl rfl _ _ _ (eval_tmp x0) _ k (eval_tmp x1) HLT.out hK
                  · obtain rfl := Option.some.inj ho
                    refine ⟨rfl, fun a w' hS hold hin K hK => ?_⟩
                    obtain ⟨y2, x2, rfl⟩ := hin 2 rfl (by omega)
                    refine if_always rfl ?_
                    exact op_ld_list 5 tElem _ rfl rfl gl k (eval_tmp x2) hS.1 0 _ rfl _ HXK.out hK
                  · obtain rfl := Option.some.inj ho
                    refine ⟨rfl, fun a w' hS hold hin K hK => ?_⟩
                    obtain ⟨y3, x3, (v3 : IsEl xk y3)⟩ := hin 3 rfl (by omega)
                    refine if_always rfl ?_
                    exact op_fn1 _ _ _ _ rfl rfl (eval_tmp x3) (by intro args w; kernel_rfl) (bytes_el v3 _) hK
                  · obtain rfl := Option.some.inj ho
                    refine ⟨rfl, fun a w' hS hold hin K hK => ?_⟩
                    refine if_always rfl ?_
                    exact op_move (V := (· = .slice (some ⟨gm, 0, none⟩) ls.length cm)) _ _ rfl rfl (eval_tmp ((hold 6 (slots_not (by kernel_rfl))).trans h6)) rfl hK
                  · obtain rfl := Option.some.inj ho
                    refine ⟨rfl, fun a w' hS hold hin K hK => ?_⟩
                    refine if_always rfl ?_
                    exact op_move (V := (· = .int .i64 k)) _ _ rfl rfl (eval_tmp ((hold 13 (slots_not (by kernel_rfl))).trans h13)) rfl hK
                  · obtain rfl := Option.some.inj ho
                    refine ⟨rfl, fun a w' hS hold hin K hK => ?_⟩
                    obtain ⟨y5, x5, rfl⟩ := hin 5 rfl (by omega)
                    obtain ⟨y6, x6, rfl⟩ := hin 6 rfl (by omega)
                    refine if_always rfl ?_
                    exact op_index 32 29 (by kernel_rfl) (by kernel_rfl) _ _ rfl rfl _ _ _ (eval_tmp x5) _ k (eval_tmp x6) HLT.out hK
                  · obtain rfl := Option.some.inj ho
                    refine ⟨rfl, fun a w' hS hold hin K hK => ?_⟩
                    obtain ⟨y7, x7, rfl⟩ := hin 7 rfl (by omega)
                    refine if_always rfl ?_
                    exact op_ld_list 32 tNum _ rfl rfl gm k (eval_tmp x7) hS.1 1 _ rfl _ HXK.out hK
                  · obtain rfl := Option.some.inj ho
                    refine ⟨rfl, fun a w' hS hold hin K hK => ?_⟩
                    obtain ⟨y4, x4, rfl⟩ := hin 4 rfl (by omega)
                    obtain ⟨y8, x8, rfl⟩ := hin 8 rfl (by omega)
                    refine if_always rfl ?_
                    exact op_bin (V := (· = .bool false)) _ _ _ _ _ _ _ (.bool false) rfl rfl (eval_tmp x4) (eval_tmp x8) (fun w => neq_by_same _ (bytesN_len _) w) rfl hK
                  · obtain rfl := Option.some.inj ho
                    refine ⟨rfl, fun a w' hS hold hin K hK => ?_⟩
                    obtain ⟨y9, x9, rfl⟩ := hin 9 rfl (by omega)
                    refine if_always rfl ?_
                    exact op_move (V := (· = .bool false)) _ _ rfl rfl (eval_tmp x9) rfl hK
                  · obtain rfl := Option.some.inj ho
                    refine ⟨rfl, fun a w' hS hold hin K hK => ?_⟩
                    obtain ⟨y10, x10, rfl⟩ := hin 10 rfl (by omega)
                    refine if_guard (d := 117) rfl rfl x10 ?_
                    exact op_move (V := (· = .slice (some ⟨gl, 0, none⟩) ls.length cl)) _ _ rfl rfl (eval_tmp ((hold 5 (slots_not (by kernel_rfl))).trans h5)) rfl hK
                  · obtain rfl := Option.some.inj ho
                    refine ⟨rfl, fun a w' hS hold hin K hK => ?_⟩
                    obtain ⟨y10, x10, rfl⟩ := hin 10 rfl (by omega)
                    refine if_guard (d := 117) rfl rfl x10 ?_
                    exact op_move (V := (· = .int .i64 k)) _ _ rfl rfl (eval_tmp ((hold 13 (slots_not (by kernel_rfl))).trans h13)) rfl hK
                  · obtain rfl := Option.some.inj ho
                    refine ⟨rfl, fun a w' hS hold hin K hK => ?_⟩
                    obtain ⟨y10, x10, rfl⟩ := hin 10 rfl (by omega)
                    obtain ⟨y11, x11, rfl⟩ := hin 11 rfl (by omega)
                    obtain ⟨y12, x12, rfl⟩ := hin 12 rfl (by omega)
                    refine if_guard (d := 117) rfl rfl x10 ?_
                    exact op_index 5 26 (by kernel_rfl) (by kernel_rfl) _ _ rfl rfl _ _ _ (eval_tmp x11) _ k (eval_tmp x12) HLT.out hK
                  · obtain rfl := Option.some.inj ho
                    refine ⟨rfl, fun a w' hS hold hin K hK => ?_⟩
                    obtain ⟨y10, x10, rfl⟩ := hin 10 rfl (by omega)
                    obtain ⟨y13, x13, rfl⟩ := hin 13 rfl (by omega)
                    refine if_guard (d := 117) rfl rfl x10 ?_
                    exact op_ld_list 5 tElem _ rfl rfl gl k (eval_tmp x13) hS.1 0 _ rfl _ HXK.out hK
                  · obtain rfl := Option.some.inj ho
                    refine ⟨rfl, fun a w' hS hold hin K hK => ?_⟩
                    obtain ⟨y10, x10, rfl⟩ := hin 10 rfl (by omega)
                    obtain ⟨y14, x14, (v14 : IsEl xk y14)⟩ := hin 14 rfl (by omega)
                    refine if_guard (d := 117) rfl rfl x10 ?_
                    exact op_fn1 _ _ _ _ rfl rfl (eval_tmp x14) (by intro args w; kernel_rfl) (zero_el_no v14 HZ.out _) hK
                  · obtain rfl := Option.some.inj ho
                    refine ⟨rfl, fun a w' hS hold hin K hK => ?_⟩
                    obtain ⟨y10, x10, rfl⟩ := hin 10 rfl (by omega)
                    obtain ⟨y15, x15, rfl⟩ := hin 15 rfl (by omega)
                    refine if_guard (d := 117) rfl rfl x10 ?_
                    exact op_bin (V := (· = .bool false)) _ _ _ _ _ _ _ (.bool false) rfl rfl (eval_tmp x15) rfl (fun w => by kernel_rfl) rfl hK
                  · obtain rfl := Option.some.inj ho
                    refine ⟨rfl, fun a w' hS hold hin K hK => ?_⟩
                    obtain ⟨y10, x10, rfl⟩ := hin 10 rfl (by omega)
                    refine if_guard (d := 117) rfl rfl x10 ?_
                    exact op_move (V := (· = .slice (some ⟨gm, 0, none⟩) ls.length cm)) _ _ rfl rfl (eval_tmp ((hold 6 (slots_not (by kernel_rfl))).trans h6)) rfl hK
                  · obtain rfl := Option.some.inj ho
                    refine ⟨rfl, fun a w' hS hold hin K hK => ?_⟩
                    obtain ⟨y10, x10, rfl⟩ := hin 10 rfl (by omega)
                    refine if_guard (d := 117) rfl rfl x10 ?_
                    exact op_move (V := (· = .int .i64 k)) _ _ rfl rfl (eval_tmp ((hold 13 (slots_not (by kernel_rfl))).trans h13)) rfl hK
                  · obtain rfl := Option.some.inj ho
                    refine ⟨rfl, fun a w' hS hold hin K hK => ?_⟩
                    obtain ⟨y10, x10, rfl⟩ := hin 10 rfl (by omega)
                    obtain ⟨y17, x17, rfl⟩ := hin 17 rfl (by omega)
                    obtain ⟨y18, x18, rfl⟩ := hin 18 rfl (by omega)
                    refine if_guard (d := 117) rfl rfl x10 ?_
                    exact op_index 32 29 (by kernel_rfl) (by kernel_rfl) _ _ rfl rfl _ _ _ (eval_tmp x17) _ k (eval_tmp x18) HLT.out hK
                  · obtain rfl := Option.some.inj ho
                    refine ⟨rfl, fun a w' hS hold hin K hK => ?_⟩
                    obtain ⟨y10, x10, rfl⟩ := hin 10 rfl (by omega)
                    obtain ⟨y19, x19, rfl⟩ := hin 19 rfl (by omega)
                    refine if_guard (d := 117) rfl rfl x10 ?_
                    exact op_ld_list 32 tNum _ rfl rfl gm k (eval_tmp x19) hS.1 1 _ rfl _ HXK.out hK
                  · obtain rfl := Option.some.inj ho
                    refine ⟨rfl, fun a w' hS hold hin K hK => ?_⟩
                    obtain ⟨y10, x10, rfl⟩ := hin 10 rfl (by omega)
                    obtain ⟨y20, x20, rfl⟩ := hin 20 rfl (by omega)
                    refine if_guard (d := 117) rfl rfl x10 ?_
                    exact op_fn1 _ _ _ _ rfl rfl (eval_tmp x20) (by intro args w; kernel_rfl) (zero08_is (decide_eq_false HZ.out) _) hK
                  · obtain rfl := Option.some.inj ho
                    refine ⟨rfl, fun a w' hS hold hin K hK => ?_⟩
                    obtain ⟨y10, x10, rfl⟩ := hin 10 rfl (by omega)
                    obtain ⟨y16, x16, rfl⟩ := hin 16 rfl (by omega)
                    obtain ⟨y21, x21, rfl⟩ := hin 21 rfl (by omega)
                    refine if_guard (d := 117) rfl rfl x10 ?_
                    exact op_bin (V := (· = .bool false)) _ _ _ _ _ _ _ (.bool false) rfl rfl (eval_tmp x16) (eval_tmp x21) (fun w => by kernel_rfl) rfl hK
                  · obtain rfl := Option.some.inj ho
                    refine ⟨rfl, fun a w' hS hold hin K hK => ?_⟩
                    obtain ⟨y10, x10, rfl⟩ := hin 10 rfl (by omega)
                    obtain ⟨y22, x22, rfl⟩ := hin 22 rfl (by omega)
                    refine if_always rfl ?_
                    exact op_pick (V := (· = .bool false)) _ _ _ false _ rfl rfl (eval_tmp x10) (show (Act.eval a _) = _ from (eval_tmp x22)) rfl hK
                  · obtain rfl := Option.some.inj ho
                    refine ⟨rfl, fun a w' hS hold hin K hK => ?_⟩
                    obtain ⟨y23, x23, rfl⟩ := hin 23 rfl (by omega)
                    refine if_always rfl ?_
                    exact op_move (V := (· = .bool false)) _ _ rfl rfl (eval_tmp x23) rfl hK
                  · obtain rfl := Option.some.inj ho
                    refine ⟨rfl, fun a w' hS hold hin K hK => ?_⟩
                    obtain ⟨y24, x24, rfl⟩ := hin 24 rfl (by omega)
                    refine if_guard (d := 131) rfl rfl x24 ?_
                    exact op_move (V := (· = .slice (some ⟨gl, 0, none⟩) ls.length cl)) _ _ rfl rfl (eval_tmp ((hold 5 (slots_not (by kernel_rfl))).trans h5)) rfl hK
                  · obtain rfl := Option.some.inj ho
                    refine ⟨rfl, fun a w' hS hold hin K hK => ?_⟩
                    obtain ⟨y24, x24, rfl⟩ := hin 24 rfl (by omega)
                    refine if_guard (d := 131) rfl rfl x24 ?_
                    exact op_move (V := (· = .int .i64 k)) _ _ rfl rfl (eval_tmp ((hold 13 (slots_not (by kernel_rfl))).trans h13)) rfl hK
                  · obtain rfl := Option.some.inj ho
                    refine ⟨rfl, fun a w' hS hold hin K hK => ?_⟩
                    obtain ⟨y24, x24, rfl⟩ := hin 24 rfl (by omega)
                    obtain ⟨y25, x25, rfl⟩ := hin 25 rfl (by omega)
                    obtain ⟨y26, x26, rfl⟩ := hin 26 rfl (by omega)
                    refine if_guard (d := 131) rfl rfl x24 ?_
                    exact op_index 5 26 (by kernel_rfl) (by kernel_rfl) _ _ rfl rfl _ _ _ (eval_tmp x25) _ k (eval_tmp x26) HLT.out hK
                  · obtain rfl := Option.some.inj ho
                    refine ⟨rfl, fun a w' hS hold hin K hK => ?_⟩
                    obtain ⟨y24, x24, rfl⟩ := hin 24 rfl (by omega)
                    obtain ⟨y27, x27, rfl⟩ := hin 27 rfl (by omega)
                    refine if_guard (d := 131) rfl rfl x24 ?_
                    exact op_ld_list 5 tElem _ rfl rfl gl k (eval_tmp x27) hS.1 0 _ rfl _ HXK.out hK
                  · obtain rfl := Option.some.inj ho
                    refine ⟨rfl, fun a w' hS hold hin K hK => ?_⟩
                    obtain ⟨y24, x24, rfl⟩ := hin 24 rfl (by omega)
                    obtain ⟨y28, x28, (v28 : IsEl xk y28)⟩ := hin 28 rfl (by omega)
                    refine if_guard (d := 131) rfl rfl x24 ?_
                    exact op_fn1 _ _ _ _ rfl rfl (eval_tmp x28) (by intro args w; kernel_rfl) (zero_el_no v28 HZ.out _) hK
                  · obtain rfl := Option.some.inj ho
                    refine ⟨rfl, fun a w' hS hold hin K hK => ?_⟩
                    obtain ⟨y24, x24, rfl⟩ := hin 24 rfl (by omega)
                    obtain ⟨y29, x29, rfl⟩ := hin 29 rfl (by omega)
                    refine if_guard (d := 131) rfl rfl x24 ?_
                    exact op_bin (V := (· = .bool false)) _ _ _ _ _ _ _ (.bool false) rfl rfl (eval_tmp x29) rfl (fun w => by kernel_rfl) rfl hK
                  · obtain rfl := Option.some.inj ho
                    refine ⟨rfl, fun a w' hS hold hin K hK => ?_⟩
                    obtain ⟨y24, x24, rfl⟩ := hin 24 rfl (by omega)
                    obtain ⟨y30, x30, rfl⟩ := hin 30 rfl (by omega)
                    refine if_guard (d := 131) rfl rfl x24 ?_
                    exact op_move (V := (· = .bool false)) _ _ rfl rfl (eval_tmp x30) rfl hK
                  · obtain rfl := Option.some.inj ho
                    refine ⟨rfl, fun a w' hS hold hin K hK => ?_⟩
                    obtain ⟨y31, x31, rfl⟩ := hin 31 rfl (by omega)
                    exact if_guard_off (d := 138) rfl rfl x31 (by decide) (hK _ _ trivial (Below.refl _ _))
                  · obtain rfl := Option.some.inj ho
                    refine ⟨rfl, fun a w' hS hold hin K hK => ?_⟩
                    obtain ⟨y31, x31, rfl⟩ := hin 31 rfl (by omega)
                    exact if_guard_off (d := 138) rfl rfl x31 (by decide) (hK _ _ trivial (Below.refl _ _))
                  · obtain rfl := Option.some.inj ho
                    refine ⟨rfl, fun a w' hS hold hin K hK => ?_⟩
                    obtain ⟨y31, x31, rfl⟩ := hin 31 rfl (by omega)
                    exact if_guard_off (d := 138) rfl rfl x31 (by decide) (hK _ _ trivial (Below.refl _ _))
                  · obtain rfl := Option.some.inj ho
                    refine ⟨rfl, fun a w' hS hold hin K hK => ?_⟩
                    obtain ⟨y31, x31, rfl⟩ := hin 31 rfl (by omega)
                    exact if_guard_off (d := 138) rfl rfl x31 (by decide) (hK _ _ trivial (Below.refl _ _))
                  · obtain rfl := Option.some.inj ho
                    refine ⟨rfl, fun a w' hS hold hin K hK => ?_⟩
                    obtain ⟨y31, x31, rfl⟩ := hin 31 rfl (by omega)
                    exact if_guard_off (d := 138) rfl rfl x31 (by decide) (hK _ _ trivial (Below.refl _ _))
                  · obtain rfl := Option.some.inj ho
                    refine ⟨rfl, fun a w' hS hold hin K hK => ?_⟩
                    obtain ⟨y31, x31, rfl⟩ := hin 31 rfl (by omega)
                    exact if_guard_off (d := 138) rfl rfl x31 (by decide) (hK _ _ trivial (Below.refl _ _))
                  · obtain rfl := Option.some.inj ho
                    refine ⟨rfl, fun a w' hS hold hin K hK => ?_⟩
                    obtain ⟨y24, x24, rfl⟩ := hin 24 rfl (by omega)
                    obtain ⟨y31, x31, rfl⟩ := hin 31 rfl (by omega)
                    refine if_guard (d := 131) rfl rfl x24 ?_
                    exact op_pick (V := (· = .bool false)) _ _ _ false _ rfl rfl (eval_tmp x31) (show Act.eval a (.const (.bool false)) = (.bool false) from rfl) rfl hK
                  · obtain rfl := Option.some.inj ho
                    refine ⟨rfl, fun a w' hS hold hin K hK => ?_⟩
                    obtain ⟨y24, x24, rfl⟩ := hin 24 rfl (by omega)
                    obtain ⟨y38, x38, rfl⟩ := hin 38 rfl (by omega)
                    refine if_always rfl ?_
                    exact op_pick (V := (· = .bool false)) _ _ _ false _ rfl rfl (eval_tmp x24) (show (Act.eval a _) = _ from (eval_tmp x38)) rfl hK
                clear hS
                intro t1 V6 hs hold hout hS
                have ef := frame_fill 40 (fun i => [107, 108, 109, 110, 111, 112, 113, 114, 115, 116, 117, 118, 119, 120, 121, 122, 123, 124, 125, 126, 127, 128, 129, 130, 131, 132, 133, 134, 135, 136, 137, 138, 139, 140, 141, 142, 143, 144, 145, 146].getD i 0) hs hold (slots_apart (by kernel_rfl)) (slots_lie (by rw [HS]; kernel_rfl))
                replace HS := hs.trans HS
                replace hS := hS.1
                obtain ⟨_, q146, rfl⟩ : ∃ x, t1[146]? = some x ∧ x = (.bool false : Value) := hout 39 (by omega)
                replace h5 := (hold 5 (slots_not (by kernel_rfl))).trans h5
                replace h6 := (hold 6 (slots_not (by kernel_rfl))).trans h6
                replace h13 := (hold 13 (slots_not (by kernel_rfl))).trans h13
                clear hold hout hs
                have g146 : t1.getD 146 undef = .bool false := by rw [Array.getD_eq_getD_getElem?, q146]; rfl
                rw [ef, HT]
                clear ef
                simp only [fillA, if_true, List.getD_cons_zero, List.getD_cons_succ, List.setIfInBounds_toArray, List.set_cons_zero, List.set_cons_succ, g146]
                generalize t1.getD 107 undef = z107
                generalize t1.getD 108 undef = z108
                generalize t1.getD 109 undef = z109
                generalize t1.getD 110 undef = z110
                generalize t1.getD 111 undef = z111
                generalize t1.getD 112 undef = z112
                generalize t1.getD 113 undef = z113
                generalize t1.getD 114 undef = z114
                generalize t1.getD 115 undef = z115
                generalize t1.getD 116 undef = z116
                generalize t1.getD 117 undef = z117
                generalize t1.getD 118 undef = z118
                generalize t1.getD 119 undef = z119
                generalize t1.getD 120 undef = z120
                generalize t1.getD 121 undef = z121
                generalize t1.getD 122 undef = z122
                generalize t1.getD 123 undef = z123
                generalize t1.getD 124 undef = z124
                generalize t1.getD 125 undef = z125
                generalize t1.getD 126 undef = z126
                generalize t1.getD 127 undef = z127
                generalize t1.getD 128 undef = z128
                generalize t1.getD 129 undef = z129
                generalize t1.getD 130 undef = z130
                generalize t1.getD 131 undef = z131
                generalize t1.getD 132 undef = z132
                generalize t1.getD 133 undef = z133
                generalize t1.getD 134 undef = z134
                generalize t1.getD 135 undef = z135
                generalize t1.getD 136 undef = z136
                generalize t1.getD 137 undef = z137
                generalize t1.getD 138 undef = z138
                generalize t1.getD 139 undef = z139
                generalize t1.getD 140 undef = z140
                generalize t1.getD 141 undef = z141
                generalize t1.getD 142 undef = z142
                generalize t1.getD 143 undef = z143
                generalize t1.getD 144 undef = z144
                generalize t1.getD 145 undef = z145
                clear g146 HT
                clear h5 h6 h13 q146 hM HS t1 t0 M
                go_wp2_with fail
                rw [HTI.out]
                by_cases he : xk = xn
                · have HE := Lib.hid he
                  clear he
                  obtain ⟨M, hM⟩ : ∃ M, M = V6.heap.size := ⟨_, rfl⟩
                  refine hide_frame fun t0 HT => ?_
                  have HS : t0.size = 181 := by rw [HT]; rfl
                  have h5 : t0[5]? = some (.slice (some ⟨gl, 0, none⟩) ls.length cl) := by rw [HT]; rfl
                  have h6 : t0[6]? = some (.slice (some ⟨gm, 0, none⟩) ls.length cm) := by rw [HT]; rfl
                  have h13 : t0[13]? = some (.int .i64 k) := by rw [HT]; rfl
                  have h14 : t0[14]? = some (.int .i64 kk) := by rw [HT]; rfl
                  refine wp_region_most 9 (fun i => [152, 153, 154, 155, 156, 157, 158, 159, 160].getD i 0) (fun _ => none) (fun i => [(· = .slice (some ⟨gl, 0, none⟩) ls.length cl), (· = .int .i64 k), (· = .pointer (some ((⟨gl, 0, none⟩ : Addr).add (k * 5)))), IsEl xk, (· = .slice (some ⟨gl, 0, none⟩) ls.length cl), (· = .int .i64 kk), (· = .pointer (some ((⟨gl, 0, none⟩ : Addr).add (kk * 5)))), IsEl xn, (· = .int .u64 18446744073709551615)].getD i (fun _ => True)) (fun w' => Own w [(gl, (cl * 5), LRow 5 IsEl ls), (gm, (cm * 32), LRow 32 IsNm ls)] w' ∧ M ≤ w'.heap.size) M
                    (by kernel_rfl) (by kernel_rfl) (slots_apart (by kernel_rfl)) (slots_lie (by rw [HS]; kernel_rfl)) ⟨hS.drew, Nat.le_of_eq hM⟩ (fun w' h => h.2) (fun w1 w2 h b => ⟨h.1.keep b, Nat.le_trans h.2 b.size⟩) ?_ ?_ ?_
                  · clear hS
                    intro i o hi ho hA
                    have hc : i = 0 ∨ i = 1 ∨ i = 2 ∨ i = 3 ∨ i = 4 ∨ i = 5 ∨ i = 6 ∨ i = 7 ∨ i = 8 := by omega
                    rcases hc with rfl | rfl | rfl | rfl | rfl | rfl | rfl | rfl | rfl
                    · obtain rfl := Option.some.inj ho
                      refine ⟨rfl, fun a w' hS hold hin K hK => ?_⟩
                      refine if_always rfl ?_
                      exact op_move (V := (· = .slice (some ⟨gl, 0, none⟩) ls.length cl)) _ _ rfl rfl (eval_tmp ((hold 5 (slots_not (by kernel_rfl))).trans h5)) rfl hK
                    · obtain rfl := Option.some.inj ho
                      refine ⟨rfl, fun a w' hS hold hin K hK => ?_⟩
                      refine if_always rfl ?_
                      exact op_move (V := (· = .int .i64 k)) _ _ rfl rfl (eval_tmp ((hold 13 (slots_not (by kernel_rfl))).trans h13)) rfl hK
                    · obtain rfl := Option.some.inj ho
                      refine ⟨rfl, fun a w' hS hold hin K hK => ?_⟩
                      obtain ⟨y0, x0, rfl⟩ := hin 0 rfl (by omega) rfl
                      obtain ⟨y1, x1, rfl⟩ := hin 1 rfl (by omega) rfl
                      refine if_always rfl ?_
                      exact op_index 5 26 (by kernel_rfl) (by kernel_rfl) _ _ rfl rfl _ _ _ (eval_tmp x0) _ k (eval_tmp x1) HLT.out hK
                    · obtain rfl := Option.some.inj ho
                      refine ⟨rfl, fun a w' hS hold hin K hK => ?_⟩
                      obtain ⟨y2, x2, rfl⟩ := hin 2 rfl (by omega) rfl
                      refine if_always rfl ?_
                      exact op_ld_list 5 tElem _ rfl rfl gl k (eval_tmp x2) hS.1 0 _ rfl _ HXK.out hK
                    · obtain rfl := Option.some.inj ho
                      refine ⟨rfl, fun a w' hS hold hin K hK => ?_⟩
                      refine if_always rfl ?_
                      exact op_move (V := (· = .slice (some ⟨gl, 0, none⟩) ls.length cl)) _ _ rfl rfl (eval_tmp ((hold 5 (slots_not (by kernel_rfl))).trans h5)) rfl hK
                    · obtain rfl := Option.some.inj ho
                      refine ⟨rfl, fun a w' hS hold hin K hK => ?_⟩
                      refine if_always rfl ?_
                      exact op_move (V := (· = .int .i64 kk)) _ _ rfl rfl (eval_tmp ((hold 14 (slots_not (by kernel_rfl))).trans h14)) rfl hK
                    · obtain rfl := Option.some.inj ho
                      refine ⟨rfl, fun a w' hS hold hin K hK => ?_⟩
                      obtain ⟨y4, x4, rfl⟩ := hin 4 rfl (by omega) rfl
                      obtain ⟨y5, x5, rfl⟩ := hin 5 rfl (by omega) rfl
                      refine if_always rfl ?_
                      exact op_index 5 26 (by kernel_rfl) (by kernel_rfl) _ _ rfl rfl _ _ _ (eval_tmp x4) _ kk (eval_tmp x5) HKL.out hK
                    · obtain rfl := Option.some.inj ho
                      refine ⟨rfl, fun a w' hS hold hin K hK => ?_⟩
                      obtain ⟨y6, x6, rfl⟩ := hin 6 rfl (by omega) rfl
                      refine if_always rfl ?_
                      exact op_ld_list 5 tElem _ rfl rfl gl kk (eval_tmp x6) hS.1 0 _ rfl _ HXN.out hK
                    · obtain rfl := Option.some.inj ho
                      refine ⟨rfl, fun a w' hS hold hin K hK => ?_⟩
                      obtain ⟨y3, x3, (v3 : IsEl xk y3)⟩ := hin 3 rfl (by omega) rfl
                      obtain ⟨y7, x7, (v7 : IsEl xn y7)⟩ := hin 7 rfl (by omega) rfl
                      refine if_always rfl ?_
                      exact op_fn2 _ _ _ _ _ _ rfl rfl (eval_tmp x3) (eval_tmp x7) (by intro args w; kernel_rfl) (equal_el_yes v3 v7 HE.out _) hK
                  · intro i o sz hi ho hA; cases hA
                  clear hS
                  intro t1 V7 hs hold hout hall hne hS
                  have ef := frame_fill 9 (fun i => [152, 153, 154, 155, 156, 157, 158, 159, 160].getD i 0) hs hold (slots_apart (by kernel_rfl)) (slots_lie (by rw [HS]; kernel_rfl))
                  replace HS := hs.trans HS
                  replace hS := hS.1
                  obtain ⟨x160, q160, v160⟩ : ∃ x, t1[160]? = some x ∧ ((· = .int .u64 18446744073709551615)) x := hout 8 (by omega) rfl
                  replace q160 : t1[160]? = some (.int .u64 18446744073709551615) := q160.trans (congrArg some v160)
                  replace h5 := (hold 5 (slots_not (by kernel_rfl))).trans h5
                  replace h6 := (hold 6 (slots_not (by kernel_rfl))).trans h6
                  replace h13 := (hold 13 (slots_not (by kernel_rfl))).trans h13
                  replace h14 := (hold 14 (slots_not (by kernel_rfl))).trans h14
                  clear hold hout hs hall hne
                  simp only [List.drop_succ_cons, List.drop_zero]
                  refine tlx_assign (.tmp 160) rfl rfl 15 rfl (by rw [HS]; decide) (.int .u64 18446744073709551615) (eval_tmp q160) fun tf0 ex0 hz hq he => ?_
                  replace h5 := (he 5 (by decide)).trans h5
                  replace h6 := (he 6 (by decide)).trans h6
                  replace h13 := (he 13 (by decide)).trans h13
                  replace h14 := (he 14 (by decide)).trans h14
                  replace q160 := (he 160 (by decide)).trans q160
                  replace HS := hz.trans HS
                  clear hz he
                  have h15 := hq
                  clear hq
                  refine wpList_nil ?_
                  rw [ex0, ef, HT]
                  clear ef ex0
                  simp only [fillA, if_true, List.getD_cons_zero, List.getD_cons_succ, List.setIfInBounds_toArray, List.set_cons_zero, List.set_cons_succ]
                  generalize t1.getD 152 undef = z152
                  generalize t1.getD 153 undef = z153
                  generalize t1.getD 154 undef = z154
                  generalize t1.getD 155 undef = z155
                  generalize t1.getD 156 undef = z156
                  generalize t1.getD 157 undef = z157
                  generalize t1.getD 158 undef = z158
                  generalize t1.getD 159 undef = z159
                  generalize t1.getD 160 undef = z160
                  clear HT
                  clear h5 h6 h13 h14 h15 q160 v160 hM HS tf0 t1 t0 M
                  go_wp2_with fail
                  obtain ⟨M, hM⟩ : ∃ M, M = V7.heap.size := ⟨_, rfl⟩
                  refine hide_frame fun t0 HT => ?_
                  have HS : t0.size = 181 := by rw [HT]; rfl
                  have h5 : t0[5]? = some (.slice (some ⟨gl, 0, none⟩) ls.length cl) := by rw [HT]; rfl
                  have h6 : t0[6]? = some (.slice (some ⟨gm, 0, none⟩) ls.length cm) := by rw [HT]; rfl
                  have h13 : t0[13]? = some (.int .i64 k) := by rw [HT]; rfl
                  have h14 : t0[14]? = some (.int .i64 kk) := by rw [HT]; rfl
                  have h15 : t0[15]? = some (.int .u64 18446744073709551615) := by rw [HT]; rfl
                  refine wp_region_all 19 (fun i => [161, 162, 163, 164, 165, 166, 167, 168, 169, 170, 171, 172, 173, 174, 175, 176, 177, 178, 179, 180].getD i 0) (fun i => [(· = .int .u64 18446744073709551615), (· = .bool true), (· = .bool true), (· = .int .u64 18446744073709551615), (· = .bool false), (· = .bool false), (· = .bool false), (· = .int .u64 18446744073709551615), (· = .bool true), (· = .slice (some ⟨gm, 0, none⟩) ls.length cm), (· = .int .i64 k), (· = .pointer (some ((⟨gm, 0, none⟩ : Addr).add (k * 32)))), (· = .agg (vals (bytesN xk.val))), (· = .slice (some ⟨gm, 0, none⟩) ls.length cm), (· = .int .i64 kk), (· = .pointer (some ((⟨gm, 0, none⟩ : Addr).add (kk * 32)))), (· = .agg (vals (bytesN xn.val))), (· = .bool true), (· = .bool false), (· = .bool false)].getD i (fun _ => True)) (fun w' => Own w [(gl, (cl * 5), LRow 5 IsEl ls), (gm, (cm * 32), LRow 32 IsNm ls)] w' ∧ M ≤ w'.heap.size)
                    (by kernel_rfl) (by kernel_rfl) (by kernel_rfl) (slots_apart (by kernel_rfl)) (slots_lie (by rw [HS]; kernel_rfl)) ⟨hS.drew, Nat.le_of_eq hM⟩ (fun w1 w2 h b => ⟨h.1.keep b, Nat.le_trans h.2 b.size⟩) ?_ ?_
                  · clear hS
                    intro i o hi ho
                    have hc : i = 0 ∨ i = 1 ∨ i = 2 ∨ i = 3 ∨ i = 4 ∨ i = 5 ∨ i = 6 ∨ i = 7 ∨ i = 8 ∨ i = 9 ∨ i = 10 ∨ i = 11 ∨ i = 12 ∨ i = 13 ∨ i = 14 ∨ i = 15 ∨ i = 16 ∨ i = 17 ∨ i = 18 ∨ i = 19 := by omega
                    rcases hc with rfl | rfl | rfl | rfl | rfl | rfl | rfl | rfl | rfl | rfl | rfl | rfl | rfl | rfl | rfl | rfl | rfl | rfl | rfl | rfl
                    · obtain rfl := Option.some.inj ho
                      refine ⟨rfl, fun a w' hS hold hin K hK => ?_⟩
                      refine if_always rfl ?_
                      exact op_move (V := (· = .int .u64 18446744073709551615)) _ _ rfl rfl (eval_tmp ((hold 15 (slots_not (by kernel_rfl))).trans h15)) rfl hK
                    · obtain rfl := Option.some.inj ho
                      refine ⟨rfl, fun a w' hS hold hin K hK => ?_⟩
                      obtain ⟨y0, x0, rfl⟩ := hin 0 rfl (by omega)
                      refine if_always rfl ?_
                      exact op_bin (V := (· = .bool true)) _ _ _ _ _ _ _ (.bool true) rfl rfl (eval_tmp x0) rfl (fun w => by kernel_rfl) rfl hK
                    · obtain rfl := Option.some.inj ho
                      refine ⟨rfl, fun a w' hS hold hin K hK => ?_⟩
                      obtain ⟨y1, x1, rfl⟩ := hin 1 rfl (by omega)
                      refine if_always rfl ?_
                      exact op_move (V := (· = .bool true)) _ _ rfl rfl (eval_tmp x1) rfl hK
                    · obtain rfl := Option.some.inj ho
                      refine ⟨rfl, fun a w' hS hold hin K hK => ?_⟩
                      obtain ⟨y2, x2, rfl⟩ := hin 2 rfl (by omega)
                      refine if_guard (d := 163) rfl rfl x2 ?_
                      exact op_move (V := (· = .int .u64 18446744073709551615)) _ _ rfl rfl (eval_tmp ((hold 15 (slots_not (by kernel_rfl))).trans h15)) rfl hK
                    · obtain rfl := Option.some.inj ho
                      refine ⟨rfl, fun a w' hS hold hin K hK => ?_⟩
                      obtain ⟨y2, x2, rfl⟩ := hin 2 rfl (by omega)
                      obtain ⟨y3, x3, rfl⟩ := hin 3 rfl (by omega)
                      refine if_guard (d := 163) rfl rfl x2 ?_
                      exact op_bin (V := (· = .bool false)) _ _ _ _ _ _ _ (.bool false) rfl rfl (eval_tmp x3) rfl (fun w => by kernel_rfl) rfl hK
                    · obtain rfl := Option.some.inj ho
                      refine ⟨rfl, fun a w' hS hold hin K hK => ?_⟩
                      obtain ⟨y2, x2, rfl⟩ := hin 2 rfl (by omega)
                      obtain ⟨y4, x4, rfl⟩ := hin 4 rfl (by omega)
                      refine if_always rfl ?_
                      exact op_pick (V := (· = .bool false)) _ _ _ true _ rfl rfl (eval_tmp x2) (show (Act.eval a _) = _ from (eval_tmp x4)) rfl hK
                    · obtain rfl := Option.some.inj ho
                      refine ⟨rfl, fun a w' hS hold hin K hK => ?_⟩
                      obtain ⟨y5, x5, rfl⟩ := hin 5 rfl (by omega)
                      refine if_always rfl ?_
                      exact op_move (V := (· = .bool false)) _ _ rfl rfl (eval_tmp x5) rfl hK
                    · obtain rfl := Option.some.inj ho
                      refine ⟨rfl, fun a w' hS hold hin K hK => ?_⟩
                      obtain ⟨y6, x6, rfl⟩ := hin 6 rfl (by omega)
                      refine if_guard (d := 167) rfl rfl x6 ?_
                      exact op_move (V := (· = .int .u64 18446744073709551615)) _ _ rfl rfl (eval_tmp ((hold 15 (slots_not (by kernel_rfl))).trans h15)) rfl hK
                    · obtain rfl := Option.some.inj ho
                      refine ⟨rfl, fun a w' hS hold hin K hK => ?_⟩
                      obtain ⟨y6, x6, rfl⟩ := hin 6 rfl (by omega)
                      obtain ⟨y7, x7, rfl⟩ := hin 7 rfl (by omega)
                      refine if_guard (d := 167) rfl rfl x6 ?_
                      exact op_bin (V := (· = .bool true)) _ _ _ _ _ _ _ (.bool true) rfl rfl (eval_tmp x7) rfl (fun w => by kernel_rfl) rfl hK
                    · obtain rfl := Option.some.inj ho
                      refine ⟨rfl, fun a w' hS hold hin K hK => ?_⟩
                      obtain ⟨y6, x6, rfl⟩ := hin 6 rfl (by omega)
                      refine if_guard (d := 167) rfl rfl x6 ?_
                      exact op_move (V := (· = .slice (some ⟨gm, 0, none⟩) ls.length cm)) _ _ rfl rfl (eval_tmp ((hold 6 (slots_not (by kernel_rfl))).trans h6)) rfl hK
                    · obtain rfl := Option.some.inj ho
                      refine ⟨rfl, fun a w' hS hold hin K hK => ?_⟩
                      obtain ⟨y6, x6, rfl⟩ := hin 6 rfl (by omega)
                      refine if_guard (d := 167) rfl rfl x6 ?_
                      exact op_move (V := (· = .int .i64 k)) _ _ rfl rfl (eval_tmp ((hold 13 (slots_not (by kernel_rfl))).trans h13)) rfl hK
                    · obtain rfl := Option.some.inj ho
                      refine ⟨rfl, fun a w' hS hold hin K hK => ?_⟩
                      obtain ⟨y6, x6, rfl⟩ := hin 6 rfl (by omega)
                      obtain ⟨y9, x9, rfl⟩ := hin 9 rfl (by omega)
                      obtain ⟨y10, x10, rfl⟩ := hin 10 rfl (by omega)
                      refine if_guard (d := 167) rfl rfl x6 ?_
                      exact op_index 32 29 (by kernel_rfl) (by kernel_rfl) _ _ rfl rfl _ _ _ (eval_tmp x9) _ k (eval_tmp x10) HLT.out hK
                    · obtain rfl := Option.some.inj ho
                      refine ⟨rfl, fun a w' hS hold hin K hK => ?_⟩
                      obtain ⟨y6, x6, rfl⟩ := hin 6 rfl (by omega)
                      obtain ⟨y11, x11, rfl⟩ := hin 11 rfl (by omega)
                      refine if_guard (d := 167) rfl rfl x6 ?_
                      exact op_ld_list 32 tNum _ rfl rfl gm k (eval_tmp x11) hS.1 1 _ rfl _ HXK.out hK
                    · obtain rfl := Option.some.inj ho
                      refine ⟨rfl, fun a w' hS hold hin K hK => ?_⟩
                      obtain ⟨y6, x6, rfl⟩ := hin 6 rfl (by omega)
                      refine if_guard (d := 167) rfl rfl x6 ?_
                      exact op_move (V := (· = .slice (some ⟨gm, 0, none⟩) ls.length cm)) _ _ rfl rfl (eval_tmp ((hold 6 (slots_not (by kernel_rfl))).trans h6)) rfl hK
                    · obtain rfl := Option.some.inj ho
                      refine ⟨rfl, fun a w' hS hold hin K hK => ?_⟩
                      obtain ⟨y6, x6, rfl⟩ := hin 6 rfl (by omega)
                      refine if_guard (d := 167) rfl rfl x6 ?_
                      exact op_move (V := (· = .int .i64 kk)) _ _ rfl rfl (eval_tmp ((hold 14 (slots_not (by kernel_rfl))).trans h14)) rfl hK
                    · obtain rfl := Option.some.inj ho
                      refine ⟨rfl, fun a w' hS hold hin K hK => ?_⟩
                      obtain ⟨y6, x6, rfl⟩ := hin 6 rfl (by omega)
                      obtain ⟨y13, x13, rfl⟩ := hin 13 rfl (by omega)
                      obtain ⟨y14, x14, rfl⟩ := hin 14 rfl (by omega)
                      refine if_guard (d := 167) rfl rfl x6 ?_
                      exact op_index 32 29 (by kernel_rfl) (by kernel_rfl) _ _ rfl rfl _ _ _ (eval_tmp x13) _ kk (eval_tmp x14) HKL.out hK
                    · obtain rfl := Option.some.inj ho
                      refine ⟨rfl, fun a w' hS hold hin K hK => ?_⟩
                      obtain ⟨y6, x6, rfl⟩ := hin 6 rfl (by omega)
                      obtain ⟨y15, x15, rfl⟩ := hin 15 rfl (by omega)
                      refine if_guard (d := 167) rfl rfl x6 ?_
                      exact op_ld_list 32 tNum _ rfl rfl gm kk (eval_tmp x15) hS.1 1 _ rfl _ HXN.out hK
                    · obtain rfl := Option.some.inj ho
                      refine ⟨rfl, fun a w' hS hold hin K hK => ?_⟩
                      obtain ⟨y6, x6, rfl⟩ := hin 6 rfl (by omega)
                      obtain ⟨y12, x12, rfl⟩ := hin 12 rfl (by omega)
                      obtain ⟨y16, x16, rfl⟩ := hin 16 rfl (by omega)
                      refine if_guard (d := 167) rfl rfl x6 ?_
                      exact op_bin (V := (· = .bool true)) _ _ _ _ _ _ _ (.bool true) rfl rfl (eval_tmp x12) (eval_tmp x16) (fun w => eql_nm _ _ (bytesN_len _) (bytesN_len _) true ((bytes_same rfl rfl).trans (decide_eq_true HE.out)) w) rfl hK
                    · obtain rfl := Option.some.inj ho
                      refine ⟨rfl, fun a w' hS hold hin K hK => ?_⟩
                      obtain ⟨y6, x6, rfl⟩ := hin 6 rfl (by omega)
                      obtain ⟨y8, x8, rfl⟩ := hin 8 rfl (by omega)
                      obtain ⟨y17, x17, rfl⟩ := hin 17 rfl (by omega)
                      refine if_guard (d := 167) rfl rfl x6 ?_
                      exact op_bin (V := (· = .bool false)) _ _ _ _ _ _ _ (.bool false) rfl rfl (eval_tmp x8) (eval_tmp x17) (fun w => by kernel_rfl) rfl hK
                    · obtain rfl := Option.some.inj ho
                      refine ⟨rfl, fun a w' hS hold hin K hK => ?_⟩
                      obtain ⟨y6, x6, rfl⟩ := hin 6 rfl (by omega)
                      obtain ⟨y18, x18, rfl⟩ := hin 18 rfl (by omega)
                      refine if_always rfl ?_
                      exact op_pick (V := (· = .bool false)) _ _ _ false _ rfl rfl (eval_tmp x6) (show (Act.eval a _) = _ from (eval_tmp x18)) rfl hK
                  clear hS
                  intro t1 V8 hs hold hout hS
                  have ef := frame_fill 20 (fun i => [161, 162, 163, 164, 165, 166, 167, 168, 169, 170, 171, 172, 173, 174, 175, 176, 177, 178, 179, 180].getD i 0) hs hold (slots_apart (by kernel_rfl)) (slots_lie (by rw [HS]; kernel_rfl))
                  replace HS := hs.trans HS
                  replace hS := hS.1
                  obtain ⟨_, q180, rfl⟩ : ∃ x, t1[180]? = some x ∧ x = (.bool false : Value) := hout 19 (by omega)
                  replace h5 := (hold 5 (slots_not (by kernel_rfl))).trans h5
                  replace h6 := (hold 6 (slots_not (by kernel_rfl))).trans h6
                  replace h13 := (hold 13 (slots_not (by kernel_rfl))).trans h13
                  replace h14 := (hold 14 (slots_not (by kernel_rfl))).trans h14
                  replace h15 := (hold 15 (slots_not (by kernel_rfl))).trans h15
                  clear hold hout hs
                  have g180 : t1.getD 180 undef = .bool false := by rw [Array.getD_eq_getD_getElem?, q180]; rfl
                  rw [ef, HT]
                  clear ef
                  simp only [fillA, if_true, List.getD_cons_zero, List.getD_cons_succ, List.setIfInBounds_toArray, List.set_cons_zero, List.set_cons_succ, g180]
                  generalize t1.getD 161 undef = z161
                  generalize t1.getD 162 undef = z162
                  generalize t1.getD 163 undef = z163
                  generalize t1.getD 164 undef = z164
                  generalize t1.getD 165 undef = z165
                  generalize t1.getD 166 undef = z166
                  generalize t1.getD 167 undef = z167
                  generalize t1.getD 168 undef = z168
                  generalize t1.getD 169 undef = z169
                  generalize t1.getD 170 undef = z170
                  generalize t1.getD 171 undef = z171
                  generalize t1.getD 172 undef = z172
                  generalize t1.getD 173 undef = z173
                  generalize t1.getD 174 undef = z174
                  generalize t1.getD 175 undef = z175
                  generalize t1.getD 176 undef = z176
                  generalize t1.getD 177 undef = z177
                  generalize t1.getD 178 undef = z178
                  generalize t1.getD 179 undef = z179
                  clear g180 HT
                  clear h5 h6 h13 h14 h15 q180 hM HS t1 t0 M
                  have HS9 := Lib.hid hS
                  have hlt2 := HLT.out
                  clear hS
                  go_wp2_with fail
                  go_roundw
                  case rel => exact ⟨k + 1, by omega, by go_num, HS9.out⟩
                  case measure => simp [intOf]; omega
                · have HE := Lib.hid he
                  clear he
                  obtain ⟨M, hM⟩ : ∃ M, M = V6.heap.size := ⟨_, rfl⟩
                  refine hide_frame fun t0 HT => ?_
                  have HS : t0.size = 181 := by rw [HT]; rfl
                  have h5 : t0[5]? = some (.slice (some ⟨gl, 0, none⟩) ls.length cl) := by rw [HT]; rfl
                  have h6 : t0[6]? = some (.slice (some ⟨gm, 0, none⟩) ls.length cm) := by rw [HT]; rfl
                  have h13 : t0[13]? = some (.int .i64 k) := by rw [HT]; rfl
                  have h14 : t0[14]? = some (.int .i64 kk) := by rw [HT]; rfl
                  refine wp_region_most 9 (fun i => [152, 153, 154, 155, 156, 157, 158, 159, 160].getD i 0) (fun _ => none) (fun i => [(· = .slice (some ⟨gl, 0, none⟩) ls.length cl), (· = .int .i64 k), (· = .pointer (some ((⟨gl, 0, none⟩ : Addr).add (k * 5)))), IsEl xk, (· = .slice (some ⟨gl, 0, none⟩) ls.length cl), (· = .int .i64 kk), (· = .pointer (some ((⟨gl, 0, none⟩ : Addr).add (kk * 5)))), IsEl xn, (· = .int .u64 0)].getD i (fun _ => True)) (fun w' => Own w [(gl, (cl * 5), LRow 5 IsEl ls), (gm, (cm * 32), LRow 32 IsNm ls)] w' ∧ M ≤ w'.heap.size) M
                    (by kernel_rfl) (by kernel_rfl) (slots_apart (by kernel_rfl)) (slots_lie (by rw [HS]; kernel_rfl)) ⟨hS.drew, Nat.le_of_eq hM⟩ (fun w' h => h.2) (fun w1 w2 h b => ⟨h.1.keep b, Nat.le_trans h.2 b.size⟩) ?_ ?_ ?_
                  · clear hS
                    intro i o hi ho hA
                    have hc : i = 0 ∨ i = 1 ∨ i = 2 ∨ i = 3 ∨ i = 4 ∨ i = 5 ∨ i = 6 ∨ i = 7 ∨ i = 8 := by omega
                    rcases hc with rfl | rfl | rfl | rfl | rfl | rfl | rfl | rfl | rfl
                    · obtain rfl := Option.some.inj ho
                      refine ⟨rfl, fun a w' hS hold hin K hK => ?_⟩
                      refine if_always rfl ?_
                      exact op_move (V := (· = .slice (some ⟨gl, 0, none⟩) ls.length cl)) _ _ rfl rfl (eval_tmp ((hold 5 (slots_not (by kernel_rfl))).trans h5)) rfl hK
                    · obtain rfl := Option.some.inj ho
                      refine ⟨rfl, fun a w' hS hold hin K hK => ?_⟩
                      refine if_always rfl ?_
                      exact op_move (V := (· = .int .i64 k)) _ _ rfl rfl (eval_tmp ((hold 13 (slots_not (by kernel_rfl))).trans h13)) rfl hK
                    · obtain rfl := Option.some.inj ho
                      refine ⟨rfl, fun a w' hS hold hin K hK => ?_⟩
                      obtain ⟨y0, x0, rfl⟩ := hin 0 rfl (by omega) rfl
                      obtain ⟨y1, x1, rfl⟩ := hin 1 rfl (by omega) rfl
                      refine if_always rfl ?_
                      exact op_index 5 26 (by kernel_rfl) (by kernel_rfl) _ _ rfl rfl _ _ _ (eval_tmp x0) _ k (eval_tmp x1) HLT.out hK
                    · obtain rfl := Option.some.inj ho
                      refine ⟨rfl, fun a w' hS hold hin K hK => ?_⟩
                      obtain ⟨y2, x2, rfl⟩ := hin 2 rfl (by omega) rfl
                      refine if_always rfl ?_
                      exact op_ld_list 5 tElem _ rfl rfl gl k (eval_tmp x2) hS.1 0 _ rfl _ HXK.out hK
                    · obtain rfl := Option.some.inj ho
                      refine ⟨rfl, fun a w' hS hold hin K hK => ?_⟩
                      refine if_always rfl ?_
                      exact op_move (V := (· = .slice (some ⟨gl, 0, none⟩) ls.length cl)) _ _ rfl rfl (eval_tmp ((hold 5 (slots_not (by kernel_rfl))).trans h5)) rfl hK
                    · obtain rfl := Option.some.inj ho
                      refine ⟨rfl, fun a w' hS hold hin K hK => ?_⟩
                      refine if_always rfl ?_
                      exact op_move (V := (· = .int .i64 kk)) _ _ rfl rfl (eval_tmp ((hold 14 (slots_not (by kernel_rfl))).trans h14)) rfl hK
                    · obtain rfl := Option.some.inj ho
                      refine ⟨rfl, fun a w' hS hold hin K hK => ?_⟩
                      obtain ⟨y4, x4, rfl⟩ := hin 4 rfl (by omega) rfl
                      obtain ⟨y5, x5, rfl⟩ := hin 5 rfl (by omega) rfl
                      refine if_always rfl ?_
                      exact op_index 5 26 (by kernel_rfl) (by kernel_rfl) _ _ rfl rfl _ _ _ (eval_tmp x4) _ kk (eval_tmp x5) HKL.out hK
                    · obtain rfl := Option.some.inj ho
                      refine ⟨rfl, fun a w' hS hold hin K hK => ?_⟩
                      obtain ⟨y6, x6, rfl⟩ := hin 6 rfl (by omega) rfl
                      refine if_always rfl ?_
                      exact op_ld_list 5 tElem _ rfl rfl gl kk (eval_tmp x6) hS.1 0 _ rfl _ HXN.out hK
                    · obtain rfl := Option.some.inj ho
                      refine ⟨rfl, fun a w' hS hold hin K hK => ?_⟩
                      obtain ⟨y3, x3, (v3 : IsEl xk y3)⟩ := hin 3 rfl (by omega) rfl
                      obtain ⟨y7, x7, (v7 : IsEl xn y7)⟩ := hin 7 rfl (by omega) rfl
                      refine if_always rfl ?_
                      exact op_fn2 _ _ _ _ _ _ rfl rfl (eval_tmp x3) (eval_tmp x7) (by intro args w; kernel_rfl) (equal_el_no v3 v7 HE.out _) hK
                  · intro i o sz hi ho hA; cases hA
                  clear hS
                  intro t1 V7 hs hold hout hall hne hS
                  have ef := frame_fill 9 (fun i => [152, 153, 154, 155, 156, 157, 158, 159, 160].getD i 0) hs hold (slots_apart (by kernel_rfl)) (slots_lie (by rw [HS]; kernel_rfl))
                  replace HS := hs.trans HS
                  replace hS := hS.1
                  obtain ⟨x160, q160, v160⟩ : ∃ x, t1[160]? = some x ∧ ((· = .int .u64 0)) x := hout 8 (by omega) rfl
                  replace q160 : t1[160]? = some (.int .u64 0) := q160.trans (congrArg some v160)
                  replace h5 := (hold 5 (slots_not (by kernel_rfl))).trans h5
                  replace h6 := (hold 6 (slots_not (by kernel_rfl))).trans h6
                  replace h13 := (hold 13 (slots_not (by kernel_rfl))).trans h13
                  replace h14 := (hold 14 (slots_not (by kernel_rfl))).trans h14
                  clear hold hout hs hall hne
                  simp only [List.drop_succ_cons, List.drop_zero]
                  refine tlx_assign (.tmp 160) rfl rfl 15 rfl (by rw [HS]; decide) (.int .u64 0) (eval_tmp q160) fun tf0 ex0 hz hq he => ?_
                  replace h5 := (he 5 (by decide)).trans h5
                  replace h6 := (he 6 (by decide)).trans h6
                  replace h13 := (he 13 (by decide)).trans h13
                  replace h14 := (he 14 (by decide)).trans h14
                  replace q160 := (he 160 (by decide)).trans q160
                  replace HS := hz.trans HS
                  clear hz he
                  have h15 := hq
                  clear hq
                  refine wpList_nil ?_
                  rw [ex0, ef, HT]
                  clear ef ex0
                  simp only [fillA, if_true, List.getD_cons_zero, List.getD_cons_succ, List.setIfInBounds_toArray, List.set_cons_zero, List.set_cons_succ]
                  generalize t1.getD 152 undef = z152
                  generalize t1.getD 153 undef = z153
                  generalize t1.getD 154 undef = z154
                  generalize t1.getD 155 undef = z155
                  generalize t1.getD 156 undef = z156
                  generalize t1.getD 157 undef = z157
                  generalize t1.getD 158 undef = z158
                  generalize t1.getD 159 undef = z159
                  generalize t1.getD 160 undef = z160
                  clear HT
                  clear h5 h6 h13 h14 h15 q160 v160 hM HS tf0 t1 t0 M
                  go_wp2_with fail
                  obtain ⟨M, hM⟩ : ∃ M, M = V7.heap.size := ⟨_, rfl⟩
                  refine hide_frame fun t0 HT => ?_
                  have HS : t0.size = 181 := by rw [HT]; rfl
                  have h5 : t0[5]? = some (.slice (some ⟨gl, 0, none⟩) ls.length cl) := by rw [HT]; rfl
                  have h6 : t0[6]? = some (.slice (some ⟨gm, 0, none⟩) ls.length cm) := by rw [HT]; rfl
                  have h13 : t0[13]? = some (.int .i64 k) := by rw [HT]; rfl
                  have h14 : t0[14]? = some (.int .i64 kk) := by rw [HT]; rfl
                  have h15 : t0[15]? = some (.int .u64 0) := by rw [HT]; rfl
                  refine wp_region_all 19 (fun i => [161, 162, 163, 164, 165, 166, 167, 168, 169, 170, 171, 172, 173, 174, 175, 176, 177, 178, 179, 180].getD i 0) (fun i => [(· = .int .u64 0), (· = .bool false), (· = .bool false), (fun _ => True), (fun _ => True), (· = .bool false), (· = .bool false), (· = .int .u64 0), (· = .bool false), (· = .slice (some ⟨gm, 0, none⟩) ls.length cm), (· = .int .i64 k), (· = .pointer (some ((⟨gm, 0, none⟩ : Addr).add (k * 32)))), (· = .agg (vals (bytesN xk.val))), (· = .slice (some ⟨gm, 0, none⟩) ls.length cm), (· = .int .i64 kk), (· = .pointer (some ((⟨gm, 0, none⟩ : Addr).add (kk * 32)))), (· = .agg (vals (bytesN xn.val))), (· = .bool false), (· = .bool false), (· = .bool false)].getD i (fun _ => True)) (fun w' => Own w [(gl, (cl * 5), LRow 5 IsEl ls), (gm, (cm * 32), LRow 32 IsNm ls)] w' ∧ M ≤ w'.heap.size)
                    (by kernel_rfl) (by kernel_rfl) (by kernel_rfl) (slots_apart (by kernel_rfl)) (slots_lie (by rw [HS]; kernel_rfl)) ⟨hS.drew, Nat.le_of_eq hM⟩ (fun w1 w2 h b => ⟨h.1.keep b, Nat.le_trans h.2 b.size⟩) ?_ ?_
                  · clear hS
                    intro i o hi ho
                    have hc : i = 0 ∨ i = 1 ∨ i = 2 ∨ i = 3 ∨ i = 4 ∨ i = 5 ∨ i = 6 ∨ i = 7 ∨ i = 8 ∨ i = 9 ∨ i = 10 ∨ i = 11 ∨ i = 12 ∨ i = 13 ∨ i = 14 ∨ i = 15 ∨ i = 16 ∨ i = 17 ∨ i = 18 ∨ i = 19 := by omega
                    rcases hc with rfl | rfl | rfl | rfl | rfl | rfl | rfl | rfl | rfl | rfl | rfl | rfl | rfl | rfl | rfl | rfl | rfl | rfl | rfl | rfl
                    · obtain rfl := Option.some.inj ho
                      refine ⟨rfl, fun a w' hS hold hin K hK => ?_⟩
                      refine if_always rfl ?_
                      exact op_move (V := (· = .int .u64 0)) _ _ rfl rfl (eval_tmp ((hold 15 (slots_not (by kernel_rfl))).trans h15)) rfl hK
                    · obtain rfl := Option.some.inj ho
                      refine ⟨rfl, fun a w' hS hold hin K hK => ?_⟩
                      obtain ⟨y0, x0, rfl⟩ := hin 0 rfl (by omega)
                      refine if_always rfl ?_
                      exact op_bin (V := (· = .bool false)) _ _ _ _ _ _ _ (.bool false) rfl rfl (eval_tmp x0) rfl (fun w => by kernel_rfl) rfl hK
                    · obtain rfl := Option.some.inj ho
                      refine ⟨rfl, fun a w' hS hold hin K hK => ?_⟩
                      obtain ⟨y1, x1, rfl⟩ := hin 1 rfl (by omega)
                      refine if_always rfl ?_
                      exact op_move (V := (· = .bool false)) _ _ rfl rfl (eval_tmp x1) rfl hK
                    · obtain rfl := Option.some.inj ho
                      refine ⟨rfl, fun a w' hS hold hin K hK => ?_⟩
                      obtain ⟨y2, x2, rfl⟩ := hin 2 rfl (by omega)
                      exact if_guard_off (d := 163) rfl rfl x2 (by decide) (hK _ _ trivial (Below.refl _ _))
                    · obtain rfl := Option.some.inj ho
                      refine ⟨rfl, fun a w' hS hold hin K hK => ?_⟩
                      obtain ⟨y2, x2, rfl⟩ := hin 2 rfl (by omega)
                      exact if_guard_off (d := 163) rfl rfl x2 (by decide) (hK _ _ trivial (Below.refl _ _))
                    · obtain rfl := Option.some.inj ho
                      refine ⟨rfl, fun a w' hS hold hin K hK => ?_⟩
                      obtain ⟨y2, x2, rfl⟩ := hin 2 rfl (by omega)
                      refine if_always rfl ?_
                      exact op_pick (V := (· = .bool false)) _ _ _ false _ rfl rfl (eval_tmp x2) (show Act.eval a (.const (.bool false)) = (.bool false) from rfl) rfl hK
                    · obtain rfl := Option.some.inj ho
                      refine ⟨rfl, fun a w' hS hold hin K hK => ?_⟩
                      obtain ⟨y5, x5, rfl⟩ := hin 5 rfl (by omega)
                      refine if_always rfl ?_
                      exact op_move (V := (· = .bool false)) _ _ rfl rfl (eval_tmp x5) rfl hK
                    · obtain rfl := Option.some.inj ho
                      refine ⟨rfl, fun a w' hS hold hin K hK => ?_⟩
                      obtain ⟨y6, x6, rfl⟩ := hin 6 rfl (by omega)
                      refine if_guard (d := 167) rfl rfl x6 ?_
                      exact op_move (V := (· = .int .u64 0)) _ _ rfl rfl (eval_tmp ((hold 15 (slots_not (by kernel_rfl))).trans h15)) rfl hK
                    · obtain rfl := Option.some.inj ho
                      refine ⟨rfl, fun a w' hS hold hin K hK => ?_⟩
                      obtain ⟨y6, x6, rfl⟩ := hin 6 rfl (by omega)
                      obtain ⟨y7, x7, rfl⟩ := hin 7 rfl (by omega)
                      refine if_guard (d := 167) rfl rfl x6 ?_
                      exact op_bin (V := (· = .bool false)) _ _ _ _ _ _ _ (.bool false) rfl rfl (eval_tmp x7) rfl (fun w => by kernel_rfl) rfl hK
                    · obtain rfl := Option.some.inj ho
                      refine ⟨rfl, fun a w' hS hold hin K hK => ?_⟩
                      obtain ⟨y6, x6, rfl⟩ := hin 6 rfl (by omega)
                      refine if_guard (d := 167) rfl rfl x6 ?_
                      exact op_move (V := (· = .slice (some ⟨gm, 0, none⟩) ls.length cm)) _ _ rfl rfl (eval_tmp ((hold 6 (slots_not (by kernel_rfl))).trans h6)) rfl hK
                    · obtain rfl := Option.some.inj ho
                      refine ⟨rfl, fun a w' hS hold hin K hK => ?_⟩
                      obtain ⟨y6, x6, rfl⟩ := hin 6 rfl (by omega)
                      refine if_guard (d := 167) rfl rfl x6 ?_
                      exact op_move (V := (· = .int .i64 k)) _ _ rfl rfl (eval_tmp ((hold 13 (slots_not (by kernel_rfl))).trans h13)) rfl hK
                    · obtain rfl := Option.some.inj ho
                      refine ⟨rfl, fun a w' hS hold hin K hK => ?_⟩
                      obtain ⟨y6, x6, rfl⟩ := hin 6 rfl (by omega)
                      obtain ⟨y9, x9, rfl⟩ := hin 9 rfl (by omega)
                      obtain ⟨y10, x10, rfl⟩ := hin 10 rfl (by omega)
                      refine if_guard (d := 167) rfl rfl x6 ?_
                      exact op_index 32 29 (by kernel_rfl) (by kernel_rfl) _ _ rfl rfl _ _ _ (eval_tmp x9) _ k (eval_tmp x10) HLT.out hK
                    · obtain rfl := Option.some.inj ho
                      refine ⟨rfl, fun a w' hS hold hin K hK => ?_⟩
                      obtain ⟨y6, x6, rfl⟩ := hin 6 rfl (by omega)
                      obtain ⟨y11, x11, rfl⟩ := hin 11 rfl (by omega)
                      refine if_guard (d := 167) rfl rfl x6 ?_
                      exact op_ld_list 32 tNum _ rfl rfl gm k (eval_tmp x11) hS.1 1 _ rfl _ HXK.out hK
                    · obtain rfl := Option.some.inj ho
                      refine ⟨rfl, fun a w' hS hold hin K hK => ?_⟩
                      obtain ⟨y6, x6, rfl⟩ := hin 6 rfl (by omega)
                      refine if_guard (d := 167) rfl rfl x6 ?_
                      exact op_move (V := (· = .slice (some ⟨gm, 0, none⟩) ls.length cm)) _ _ rfl rfl (eval_tmp ((hold 6 (slots_not (by kernel_rfl))).trans h6)) rfl hK
                    · obtain rfl := Option.some.inj ho
                      refine ⟨rfl, fun a w' hS hold hin K hK => ?_⟩
                      obtain ⟨y6, x6, rfl⟩ := hin 6 rfl (by omega)
                      refine if_guard (d := 167) rfl rfl x6 ?_
                      exact op_move (V := (· = .int .i64 kk)) _ _ rfl rfl (eval_tmp ((hold 14 (slots_not (by kernel_rfl))).trans h14)) rfl hK
                    · obtain rfl := Option.some.inj ho
                      refine ⟨rfl, fun a w' hS hold hin K hK => ?_⟩
                      obtain ⟨y6, x6, rfl⟩ := hin 6 rfl (by omega)
                      obtain ⟨y13, x13, rfl⟩ := hin 13 rfl (by omega)
                      obtain ⟨y14, x14, rfl⟩ := hin 14 rfl (by omega)
                      refine if_guard (d := 167) rfl rfl x6 ?_
                      exact op_index 32 29 (by kernel_rfl) (by kernel_rfl) _ _ rfl rfl _ _ _ (eval_tmp x13) _ kk (eval_tmp x14) HKL.out hK
                    · obtain rfl := Option.some.inj ho
                      refine ⟨rfl, fun a w' hS hold hin K hK => ?_⟩
                      obtain ⟨y6, x6, rfl⟩ := hin 6 rfl (by omega)
                      obtain ⟨y15, x15, rfl⟩ := hin 15 rfl (by omega)
                      refine if_guard (d := 167) rfl rfl x6 ?_
                      exact op_ld_list 32 tNum _ rfl rfl gm kk (eval_tmp x15) hS.1 1 _ rfl _ HXN.out hK
                    · obtain rfl := Option.some.inj ho
                      refine ⟨rfl, fun a w' hS hold hin K hK => ?_⟩
                      obtain ⟨y6, x6, rfl⟩ := hin 6 rfl (by omega)
                      obtain ⟨y12, x12, rfl⟩ := hin 12 rfl (by omega)
                      obtain ⟨y16, x16, rfl⟩ := hin 16 rfl (by omega)
                      refine if_guard (d := 167) rfl rfl x6 ?_
                      exact op_bin (V := (· = .bool false)) _ _ _ _ _ _ _ (.bool false) rfl rfl (eval_tmp x12) (eval_tmp x16) (fun w => eql_nm _ _ (bytesN_len _) (bytesN_len _) false ((bytes_same rfl rfl).trans (decide_eq_false HE.out)) w) rfl hK
                    · obtain rfl := Option.some.inj ho
                      refine ⟨rfl, fun a w' hS hold hin K hK => ?_⟩
                      obtain ⟨y6, x6, rfl⟩ := hin 6 rfl (by omega)
                      obtain ⟨y8, x8, rfl⟩ := hin 8 rfl (by omega)
                      obtain ⟨y17, x17, rfl⟩ := hin 17 rfl (by omega)
                      refine if_guard (d := 167) rfl rfl x6 ?_
                      exact op_bin (V := (· = .bool false)) _ _ _ _ _ _ _ (.bool false) rfl rfl (eval_tmp x8) (eval_tmp x17) (fun w => by kernel_rfl) rfl hK
                    · obtain rfl := Option.some.inj ho
                      refine ⟨rfl, fun a w' hS hold hin K hK => ?_⟩
                      obtain ⟨y6, x6, rfl⟩ := hin 6 rfl (by omega)
                      obtain ⟨y18, x18, rfl⟩ := hin 18 rfl (by omega)
                      refine if_always rfl ?_
                      exact op_pick (V := (· = .bool false)) _ _ _ false _ rfl rfl (eval_tmp x6) (show (Act.eval a _) = _ from (eval_tmp x18)) rfl hK
                  clear hS
                  intro t1 V8 hs hold hout hS
                  have ef := frame_fill 20 (fun i => [161, 162, 163, 164, 165, 166, 167, 168, 169, 170, 171, 172, 173, 174, 175, 176, 177, 178, 179, 180].getD i 0) hs hold (slots_apart (by kernel_rfl)) (slots_lie (by rw [HS]; kernel_rfl))
                  replace HS := hs.trans HS
                  replace hS := hS.1
                  obtain ⟨_, q180, rfl⟩ : ∃ x, t1[180]? = some x ∧ x = (.bool false : Value) := hout 19 (by omega)
                  replace h5 := (hold 5 (slots_not (by kernel_rfl))).trans h5
                  replace h6 := (hold 6 (slots_not (by kernel_rfl))).trans h6
                  replace h13 := (hold 13 (slots_not (by kernel_rfl))).trans h13
                  replace h14 := (hold 14 (slots_not (by kernel_rfl))).trans h14
                  replace h15 := (hold 15 (slots_not (by kernel_rfl))).trans h15
                  clear hold hout hs
                  have g180 : t1.getD 180 undef = .bool false := by rw [Array.getD_eq_getD_getElem?, q180]; rfl
                  rw [ef, HT]
                  clear ef
                  simp only [fillA, if_true, List.getD_cons_zero, List.getD_cons_succ, List.setIfInBounds_toArray, List.set_cons_zero, List.set_cons_succ, g180]
                  generalize t1.getD 161 undef = z161
                  generalize t1.getD 162 undef = z162
                  generalize t1.getD 163 undef = z163
                  generalize t1.getD 164 undef = z164
                  generalize t1.getD 165 undef = z165
                  generalize t1.getD 166 undef = z166
                  generalize t1.getD 167 undef = z167
                  generalize t1.getD 168 undef = z168
                  generalize t1.getD 169 undef = z169
                  generalize t1.getD 170 undef = z170
                  generalize t1.getD 171 undef = z171
                  generalize t1.getD 172 undef = z172
                  generalize t1.getD 173 undef = z173
                  generalize t1.getD 174 undef = z174
                  generalize t1.getD 175 undef = z175
                  generalize t1.getD 176 undef = z176
                  generalize t1.getD 177 undef = z177
                  generalize t1.getD 178 undef = z178
                  generalize t1.getD 179 undef = z179
                  clear g180 HT
                  clear h5 h6 h13 h14 h15 q180 hM HS t1 t0 M
                  have HS9 := Lib.hid hS
                  have hlt2 := HLT.out
                  clear hS
                  go_wp2_with fail
                  go_roundw
                  case rel => exact ⟨k + 1, by omega, by go_num, HS9.out⟩
                  case measure => simp [intOf]; omega
            · obtain rfl : k = ls.length := by omega
              have HB := Lib.hid hS.1
              clear hS
              go_wp2_with fail
              exact ⟨rfl, .bool true, by kernel_rfl, rfl, HB.out⟩
end Go.Proofs.Ytciakfhjjnmeeaa
