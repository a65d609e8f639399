/- The walk of LadderBits: it returns true for all keys. -/
import Derived.Test.YtciakfhjjnmeeaaLadOp3
namespace Go.Proofs.Ytciakfhjjnmeeaa
open Go.RowKit Nt Edw

theorem xor_low (x m : Int) (h0 : 0 ≤ x ∧ x < 256) (h1 : 0 ≤ m ∧ m < 256) : (0 ≤ bits .xor .u8 x (bits .and .u8 m 7) ∧ bits .xor .u8 x (bits .and .u8 m 7) < 256) ∧ bits .xor .u8 x (bits .and .u8 m 7) / 8 = x / 8 := by
  have a : ∀ n : Fin 256, 0 ≤ bits .and .u8 (n.val : Int) 7 ∧ bits .and .u8 (n.val : Int) 7 < 8 := by decide +kernel
  have b : ∀ (n : Fin 256) (k : Fin 8), (0 ≤ bits .xor .u8 (n.val : Int) (k.val : Int) ∧ bits .xor .u8 (n.val : Int) (k.val : Int) < 256) ∧ bits .xor .u8 (n.val : Int) (k.val : Int) / 8 = (n.val : Int) / 8 := by decide +kernel
  obtain ⟨p, rfl⟩ := Int.eq_ofNat_of_zero_le h0.1
  obtain ⟨q, rfl⟩ := Int.eq_ofNat_of_zero_le h1.1
  obtain ⟨e1, e2⟩ := a ⟨q, by omega⟩
  obtain ⟨r, hr⟩ := Int.eq_ofNat_of_zero_le e1
  simp only [] at hr e1 e2
  rw [hr] at e2 ⊢
  exact b ⟨p, by omega⟩ ⟨r, by omega⟩
theorem xor_high (x m : Int) (h0 : 0 ≤ x ∧ x < 256) (h1 : 0 ≤ m ∧ m < 256) : (0 ≤ bits .xor .u8 x (bits .and .u8 m 192) ∧ bits .xor .u8 x (bits .and .u8 m 192) < 256) ∧ bits .xor .u8 x (bits .and .u8 m 192) % 64 = x % 64 := by
  have a : ∀ n : Fin 256, ∃ k : Fin 4, bits .and .u8 (n.val : Int) 192 = ((64 * k.val : Nat) : Int) := by decide +kernel
  have b : ∀ (n : Fin 256) (k : Fin 4), (0 ≤ bits .xor .u8 (n.val : Int) ((64 * k.val : Nat) : Int) ∧ bits .xor .u8 (n.val : Int) ((64 * k.val : Nat) : Int) < 256) ∧ bits .xor .u8 (n.val : Int) ((64 * k.val : Nat) : Int) % 64 = (n.val : Int) % 64 := by decide +kernel
  obtain ⟨p, rfl⟩ := Int.eq_ofNat_of_zero_le h0.1
  obtain ⟨q, rfl⟩ := Int.eq_ofNat_of_zero_le h1.1
  obtain ⟨k, e⟩ := a ⟨q, by omega⟩
  simp only [] at e
  rw [e]
  exact b ⟨p, by omega⟩ k
/-- What clamping turns does not count. -/
theorem clampL_free (L : List Int) (x y : Int) (hl : L.length = 32) (hx : x / 8 = nth L 0 / 8) (hy : y % 64 = nth L 31 % 64) : clampL ((L.set 0 x).set 31 y) = clampL L := by
  have e0 : nth ((L.set 0 x).set 31 y) 0 = x := by simp [nth, hl]
  have e1 : nth ((L.set 0 x).set 31 y) 31 = y := by simp [nth, hl]
  rw [clampL, clampL, e0, e1, hx, hy]
  apply List.ext_getElem?
  intro j
  simp only [List.getElem?_set, List.length_set]
  by_cases h1 : 31 = j
  · simp [h1]
  · by_cases h2 : 0 = j
    · simp [h1, h2]
    · simp [h1, h2]
theorem clampL_twice (L : List Int) (hl : L.length = 32) (hb : Byt L) : clampL (clampL L) = clampL L := by
  have e0 : nth (clampL L) 0 = nth L 0 / 8 * 8 := by simp [nth, clampL, hl]
  have e1 : nth (clampL L) 31 = nth L 31 % 64 + 64 := by simp [nth, clampL, hl]
  have h0 := hb.nth 0
  have h1 := hb.nth 31
  rw [show clampL (clampL L) = ((clampL L).set 0 (nth (clampL L) 0 / 8 * 8)).set 31 (nth (clampL L) 31 % 64 + 64) from rfl, e0, e1]
  have a : nth L 0 / 8 * 8 / 8 * 8 = nth L 0 / 8 * 8 := by omega
  have b : (nth L 31 % 64 + 64) % 64 + 64 = nth L 31 % 64 + 64 := by omega
  rw [a, b]
  apply List.ext_getElem?
  intro j
  simp only [clampL, List.getElem?_set, List.length_set]
  by_cases h1 : 31 = j
  · simp [h1]
  · by_cases h2 : 0 = j
    · simp [h1, h2]
    · simp [h1, h2]
theorem tmod_neg19 (n : Int) (h : n.tmod 19 < 0) : n.tmod 19 + 19 = n % 19 := by
  have e := Int.tmod_eq_emod (a := n) (b := 19)
  have e2 : (19 : Int).natAbs = 19 := rfl
  rw [e2] at e
  split at e <;> omega
theorem tmod_pos19 (n : Int) (h : 0 ≤ n.tmod 19) : n.tmod 19 = n % 19 := by
  have e := Int.tmod_eq_emod (a := n) (b := 19)
  have e2 : (19 : Int).natAbs = 19 := rfl
  rw [e2] at e
  split at e <;> omega
theorem op_convi8 {o : Oper} {a : Act} {w : World} {Q : Exit → Act → World → Prop} {d : Nat} {K : Act → World → Prop} (x : Operand) (v r : Int) (ho : o.op = .convert 3 5 x) (hd : o.dst = some d) (hx : a.eval x = .int .i64 v) (h : IntKind.u8.wrap v = r)
    (hK : ∀ x w', x = .int .u8 r → Below w.heap.size w w' → K (a.put (some d) x) w') : o.wp Try.prog a w K Q := by
  refine op_val (V := (· = .int .u8 r)) (.int .u8 r) hd ?_ rfl hK
  unfold execOp; rw [ho]
  show ((do let z ← convert 3 5 (a.eval x); pure (Next.value z)) : Sem Next).run Try.prog w = _
  rw [hx]
  have h2 : (convert 3 5 (.int .i64 v)).run Try.prog w = .ok (.int .u8 (IntKind.u8.wrap v)) w := by kernel_rfl
  rw [h] at h2
  rw [Sem.run_bind, h2]; rfl
/-- A small number, and it with 2^255 - 19 added. -/
def lowL (r : Int) : List Int := [r, 0, 0, 0, 0, 0, 0, 0, 0, 0, 0, 0, 0, 0, 0, 0, 0, 0, 0, 0, 0, 0, 0, 0, 0, 0, 0, 0, 0, 0, 0, 0]
theorem low_more (r : Int) (h0 : 0 ≤ r ∧ r < 19) : (numF (lowL r) = numF ((f32.set 0 (237 + r)).set 31 127)) ∧ Byt ((f32.set 0 (237 + r)).set 31 127) ∧ Byt (lowL r) := by
  obtain ⟨k, rfl⟩ := Int.eq_ofNat_of_zero_le h0.1
  have h : ∀ k : Fin 19, numF (lowL (k.val : Int)) = numF ((f32.set 0 (237 + (k.val : Int))).set 31 127) := by decide +kernel
  refine ⟨h ⟨k, by omega⟩, byt_set (byt_set (byt_of (by decide)) 0 _ (by omega)) 31 _ (by omega), ?_⟩
  exact byt_set (l := lowL 0) (byt_of (by decide)) 0 k (by omega)

set_option maxRecDepth 100000 in
theorem op_build1 {o : Oper} {a : Act} {w : World} {Q : Exit → Act → World → Prop} {d : Nat} {K : Act → World → Prop} (x : Operand) (r : Int) (ho : o.op = .build 68 #[(0, x)]) (hd : o.dst = some d) (hx : a.eval x = .int .u8 r)
    (hK : ∀ x w', x = .agg (vals (lowL r)) → Below w.heap.size w w' → K (a.put (some d) x) w') : o.wp Try.prog a w K Q := by
  refine op_val (V := (· = .agg (vals (lowL r)))) (.agg (vals (lowL r))) hd ?_ rfl hK
  unfold execOp; rw [ho]
  have h2 : (Instr.build 68 #[(0, Value.int .u8 r)]).run Try.prog w = .ok (.agg (vals (lowL r))) w := by kernel_rfl
  simp only [List.map_toArray, List.map_cons, List.map_nil, hx]
  rw [Sem.run_bind, h2]; rfl
set_option maxHeartbeats 4000000 in
set_option maxRecDepth 100000 in
theorem ladderBits_walk (La Lu : List Int) (n : Int) (w : World) (hlLa : La.length = 32) (hbLa : Byt La) (hlLu : Lu.length = 32) (hbLu : Byt Lu):
    Calls Try.prog 12 #[.agg (vals La), .agg (vals Lu), .int .i64 n] w fun e w' => e = .returned (.bool true) ∧ Below w.heap.size w w' := by
  have HLLa := Lib.hid hlLa
  have HLLu := Lib.hid hlLu
  clear hlLa hlLu
  have hS : Own w [(w.heap.size, 32, (· = .agg (vals La))), ((w.heap.size + 1), 32, (· = .agg (vals Lu)))] ((w.alloc (.cells (vals La) 68)).alloc (.cells (vals Lu) 68)) := by
    have a0 : Own w [] ((w.alloc (.cells (vals La) 68)).alloc (.cells (vals Lu) 68)) := Own.of_below (by go_grown)
    have a1 := a0.add (g := w.heap.size) (n := 32) (V := (· = .agg (vals La))) (by omega) (fun r hr => by cases hr) ⟨_, _, new2_0 .., by rw [vals_size, HLLa.out], rfl⟩
    have a2 := a1.add (g := (w.heap.size + 1)) (n := 32) (V := (· = .agg (vals Lu))) (by omega) (by simp) ⟨_, _, new2_1 .., by rw [vals_size, HLLu.out], rfl⟩
    exact a2
  go_enter Try.func12, Try.ntmps12
  go_wp2_with ((with_reducible refine guard_list ?_); first | (refine held_load 26 _ rfl ?_) | (refine held_load 22 _ rfl ?_) | (refine held_load 68 _ rfl ?_))
  generalize (w.alloc (.cells (vals La) 68)).alloc (.cells (vals Lu) 68) = W0 at hS ⊢
  obtain ⟨M, hM⟩ : ∃ M, M = W0.heap.size := ⟨_, rfl⟩
  have hMB : w.heap.size ≤ M := hM ▸ hS.1.size
  have ltM := hS.lt
  rw [← hM] at ltM
  refine hide_held fun t0 HT => ?_
  have HS : t0.size = 93 := by rw [HT]; rfl
  have h2 : t0[2]? = some (.int .i64 n) := by rw [HT]; rfl
  have h3 : t0[3]? = some (.pointer (some ⟨w.heap.size, 0, none⟩)) := by rw [HT]; rfl
  have h4 : t0[4]? = some (.pointer (some ⟨(w.heap.size + 1), 0, none⟩)) := by rw [HT]; rfl
  clear HT
  refine wp_list_most 2 (fun i => [13, 7].getD i 0) (fun i => [none, some 32].getD i none) (fun i => [(· = .agg (vals La)), (fun _ => True)].getD i (fun _ => True)) (fun w' => Own w [(w.heap.size, 32, (· = .agg (vals La))), ((w.heap.size + 1), 32, (· = .agg (vals Lu)))] w' ∧ M ≤ w'.heap.size) M
    (by kernel_rfl) (slots_apart (by kernel_rfl)) (slots_lie (by rw [HS]; kernel_rfl)) ⟨hS, Nat.le_of_eq hM⟩ (fun w' h => h.2) (fun w1 w2 h b => ⟨h.1.keep b, Nat.le_trans h.2 b.size⟩) ?_ ?_ ?_
  · clear hS
    intro i o hi ho hA
    have hc : i = 0 ∨ i = 1 := by omega
    rcases hc with rfl | rfl
    · obtain rfl := Option.some.inj ho
      refine ⟨rfl, fun a w' hS hold hin K hK => ?_⟩
      refine if_always rfl ?_
      exact op_ld_own 32 tKey (.tmp 3) rfl rfl _ (eval_tmp ((hold 3 (slots_not (by kernel_rfl))).trans h3)) hS.1 0 rfl hK
    · cases hA
  · intro i o sz hi ho hA
    have hc : i = 0 ∨ i = 1 := by omega
    rcases hc with rfl | rfl
    · cases hA
    · obtain rfl := Option.some.inj ho
      obtain rfl := Option.some.inj hA
      exact ⟨rfl, rfl, 68, #[.int .u8 0, .int .u8 0, .int .u8 0, .int .u8 0, .int .u8 0, .int .u8 0, .int .u8 0, .int .u8 0, .int .u8 0, .int .u8 0, .int .u8 0, .int .u8 0, .int .u8 0, .int .u8 0, .int .u8 0, .int .u8 0, .int .u8 0, .int .u8 0, .int .u8 0, .int .u8 0, .int .u8 0, .int .u8 0, .int .u8 0, .int .u8 0, .int .u8 0, .int .u8 0, .int .u8 0, .int .u8 0, .int .u8 0, .int .u8 0, .int .u8 0, .int .u8 0], rfl, fun a w' K h => wp_new 68 #[.int .u8 0, .int .u8 0, .int .u8 0, .int .u8 0, .int .u8 0, .int .u8 0, .int .u8 0, .int .u8 0, .int .u8 0, .int .u8 0, .int .u8 0, .int .u8 0, .int .u8 0, .int .u8 0, .int .u8 0, .int .u8 0, .int .u8 0, .int .u8 0, .int .u8 0, .int .u8 0, .int .u8 0, .int .u8 0, .int .u8 0, .int .u8 0, .int .u8 0, .int .u8 0, .int .u8 0, .int .u8 0, .int .u8 0, .int .u8 0, .int .u8 0, .int .u8 0] (fun w => by kernel_rfl) h⟩
  clear hS
  intro t1 V1 hs hold hout hall hne hS
  replace HS := hs.trans HS
  replace hS := hS.1
  obtain ⟨g7, h7, b7, r7⟩ : ∃ g, t1[7]? = some (.pointer (some ⟨g, 0, none⟩)) ∧ M ≤ g ∧ ∃ cs ty, V1.heap[g]? = some (.cells cs ty (0, 0)) ∧ cs.size = 32 := by
    obtain ⟨g, p1, p2, ty, cs, p3, p4⟩ := hall 1 (by omega) 32 rfl
    exact ⟨g, p1, p2, cs, ty, p3, p4⟩
  replace hS : Own w [(w.heap.size, 32, (· = .agg (vals La))), ((w.heap.size + 1), 32, (· = .agg (vals Lu))), (g7, 32, (fun _ => True))] V1 := hS.add (Nat.le_trans hMB b7) (fun r hr => Nat.ne_of_lt (Nat.lt_of_lt_of_le (ltM r hr) b7)) (Own.any r7)
  obtain ⟨x13, q13, v13⟩ : ∃ x, t1[13]? = some x ∧ ((· = .agg (vals La))) x := hout 0 (by omega) rfl
  replace h2 := (hold 2 (slots_not (by kernel_rfl))).trans h2
  replace h3 := (hold 3 (slots_not (by kernel_rfl))).trans h3
  replace h4 := (hold 4 (slots_not (by kernel_rfl))).trans h4
  clear hold hout hs hall hne
  simp only [List.drop_succ_cons, List.drop_zero]
  refine st_own 32 tKey rfl (.tmp 7) (.tmp 13) rfl rfl _ _ (eval_tmp h7) (eval_tmp q13) (V' := (· = .agg (vals La))) v13 (by_row HLLa.out) hS 2 rfl fun V1' hS' _ => ?_
  replace hS : Own w [(w.heap.size, 32, (· = .agg (vals La))), ((w.heap.size + 1), 32, (· = .agg (vals Lu))), (g7, 32, (· = .agg (vals La)))] V1' := hS'
  clear hS'
  refine wpList_nil ?_
  obtain ⟨f, e0, hf⟩ := wash HS
  have f2 := hf 2 _ h2
  have f3 := hf 3 _ h3
  have f4 := hf 4 _ h4
  have f7 := hf 7 _ h7
  clear hf
  rw [e0.trans (show _ = #[f 0, f 1, f 2, f 3, f 4, f 5, f 6, f 7, f 8, f 9, f 10, f 11, f 12, f 13, f 14, f 15, f 16, f 17, f 18, f 19, f 20, f 21, f 22, f 23, f 24, f 25, f 26, f 27, f 28, f 29, f 30, f 31, f 32, f 33, f 34, f 35, f 36, f 37, f 38, f 39, f 40, f 41, f 42, f 43, f 44, f 45, f 46, f 47, f 48, f 49, f 50, f 51, f 52, f 53, f 54, f 55, f 56, f 57, f 58, f 59, f 60, f 61, f 62, f 63, f 64, f 65, f 66, f 67, f 68, f 69, f 70, f 71, f 72, f 73, f 74, f 75, f 76, f 77, f 78, f 79, f 80, f 81, f 82, f 83, f 84, f 85, f 86, f 87, f 88, f 89, f 90, f 91, f 92] from by kernel_rfl), f2, f3, f4, f7]
  clear f2 f3 f4 f7
  clear e0
  dsimp only
  clear h2 h3 h4 h7 q13 v13 b7 r7 ltM hMB hM HS t1 t0 M
  obtain ⟨m, hm⟩ : ∃ m, IntKind.u8.wrap n = m := ⟨_, rfl⟩
  have hmr : 0 ≤ m ∧ m < 256 := by rw [← hm, IntKind.wrap_u8]; omega
  obtain ⟨t7, R7⟩ := hS.bytes (i := 2) rfl
  have hx0 := hbLa.nth 0
  have hx31 := hbLa.nth 31
  obtain ⟨x0, h0⟩ : ∃ x, nth La 0 = x := ⟨_, rfl⟩
  obtain ⟨x31, h31⟩ : ∃ x, nth La 31 = x := ⟨_, rfl⟩
  rw [h0] at hx0
  rw [h31] at hx31
  have o0 := xor_low x0 m hx0 hmr
  have o31 := xor_high x31 m hx31 hmr
  have c0 := (row_cell R7 0).trans (vals_get (by rw [HLLa.out]; omega))
  have c31 := (row_cell R7 31).trans (vals_get (by rw [HLLa.out]; omega))
  rw [h0] at c0
  rw [h31] at c31
  have fc := row_free R7
  have HS0 := Lib.hid hS
  have HO0 := Lib.hid o0
  have HO31 := Lib.hid o31
  have HX0 := Lib.hid h0
  have HX31 := Lib.hid h31
  have HM := Lib.hid hmr
  clear hS R7 o0 o31 h0 h31 hx0 hx31 hmr
  go_wp2_with ((with_reducible refine guard_list ?_); first | (refine held_load 26 _ rfl ?_) | (refine held_load 22 _ rfl ?_) | (refine held_load 68 _ rfl ?_))
  have hS : Own w _ _ := (HS0.out.byte (i := 2) rfl 0 (bits .xor .u8 x0 (bits .and .u8 m 7))).byte (i := 2) rfl 31 (bits .xor .u8 x31 (bits .and .u8 m 192))
  have f1 : ((La.set 0 (bits .xor .u8 x0 (bits .and .u8 m 7))).set 31 (bits .xor .u8 x31 (bits .and .u8 m 192))).length = 32 := by rw [List.length_set, List.length_set, HLLa.out]
  have f2 : Byt ((La.set 0 (bits .xor .u8 x0 (bits .and .u8 m 7))).set 31 (bits .xor .u8 x31 (bits .and .u8 m 192))) := byt_set (byt_set hbLa _ _ HO0.out.1) _ _ HO31.out.1
  have f3 : clampL ((La.set 0 (bits .xor .u8 x0 (bits .and .u8 m 7))).set 31 (bits .xor .u8 x31 (bits .and .u8 m 192))) = clampL La := clampL_free La _ _ HLLa.out (by rw [HO0.out.2, HX0.out]) (by rw [HO31.out.2, HX31.out])
  generalize (V1'.setCell ⟨g7, 0, none⟩ (.int .u8 (bits .xor .u8 x0 (bits .and .u8 m 7)))).setCell ⟨g7, 31, none⟩ (.int .u8 (bits .xor .u8 x31 (bits .and .u8 m 192))) = WC at hS ⊢
  replace hS : Own w [(w.heap.size, 32, (· = .agg (vals La))), ((w.heap.size + 1), 32, (· = .agg (vals Lu))), (g7, 32, (· = .agg (vals ((La.set 0 (bits .xor .u8 x0 (bits .and .u8 m 7))).set 31 (bits .xor .u8 x31 (bits .and .u8 m 192))))))] WC := hS
  generalize ((La.set 0 (bits .xor .u8 x0 (bits .and .u8 m 7))).set 31 (bits .xor .u8 x31 (bits .and .u8 m 192))) = FL at hS f1 f2 f3
  have Hf1 := Lib.hid f1
  have Hf2 := Lib.hid f2
  have Hf3 := Lib.hid f3
  clear f1 f2 f3 HS0 HO0 HO31 HX0 HX31 c0 c31 fc
  obtain ⟨M, hM⟩ : ∃ M, M = WC.heap.size := ⟨_, rfl⟩
  have hMB : w.heap.size ≤ M := hM ▸ hS.1.size
  have ltM := hS.lt
  rw [← hM] at ltM
  refine hide_held fun t0 HT => ?_
  have HS : t0.size = 93 := by rw [HT]; rfl
  have h2 : t0[2]? = some (.int .i64 n) := by rw [HT]; rfl
  have h3 : t0[3]? = some (.pointer (some ⟨w.heap.size, 0, none⟩)) := by rw [HT]; rfl
  have h4 : t0[4]? = some (.pointer (some ⟨(w.heap.size + 1), 0, none⟩)) := by rw [HT]; rfl
  have h7 : t0[7]? = some (.pointer (some ⟨g7, 0, none⟩)) := by rw [HT]; rfl
  clear HT
  refine wp_list_most 2 (fun i => [28, 8].getD i 0) (fun i => [none, some 32].getD i none) (fun i => [(· = .agg (vals Lu)), (fun _ => True)].getD i (fun _ => True)) (fun w' => Own w [(w.heap.size, 32, (· = .agg (vals La))), ((w.heap.size + 1), 32, (· = .agg (vals Lu))), (g7, 32, (· = .agg (vals FL)))] w' ∧ M ≤ w'.heap.size) M
    (by kernel_rfl) (slots_apart (by kernel_rfl)) (slots_lie (by rw [HS]; kernel_rfl)) ⟨hS, Nat.le_of_eq hM⟩ (fun w' h => h.2) (fun w1 w2 h b => ⟨h.1.keep b, Nat.le_trans h.2 b.size⟩) ?_ ?_ ?_
  · clear hS
    intro i o hi ho hA
    have hc : i = 0 ∨ i = 1 := by omega
    rcases hc with rfl | rfl
    · obtain rfl := Option.some.inj ho
      refine ⟨rfl, fun a w' hS hold hin K hK => ?_⟩
      refine if_always rfl ?_
      exact op_ld_own 32 tKey (.tmp 4) rfl rfl _ (eval_tmp ((hold 4 (slots_not (by kernel_rfl))).trans h4)) hS.1 1 rfl hK
    · cases hA
  · intro i o sz hi ho hA
    have hc : i = 0 ∨ i = 1 := by omega
    rcases hc with rfl | rfl
    · cases hA
    · obtain rfl := Option.some.inj ho
      obtain rfl := Option.some.inj hA
      exact ⟨rfl, rfl, 68, #[.int .u8 0, .int .u8 0, .int .u8 0, .int .u8 0, .int .u8 0, .int .u8 0, .int .u8 0, .int .u8 0, .int .u8 0, .int .u8 0, .int .u8 0, .int .u8 0, .int .u8 0, .int .u8 0, .int .u8 0, .int .u8 0, .int .u8 0, .int .u8 0, .int .u8 0, .int .u8 0, .int .u8 0, .int .u8 0, .int .u8 0, .int .u8 0, .int .u8 0, .int .u8 0, .int .u8 0, .int .u8 0, .int .u8 0, .int .u8 0, .int .u8 0, .int .u8 0], rfl, fun a w' K h => wp_new 68 #[.int .u8 0, .int .u8 0, .int .u8 0, .int .u8 0, .int .u8 0, .int .u8 0, .int .u8 0, .int .u8 0, .int .u8 0, .int .u8 0, .int .u8 0, .int .u8 0, .int .u8 0, .int .u8 0, .int .u8 0, .int .u8 0, .int .u8 0, .int .u8 0, .int .u8 0, .int .u8 0, .int .u8 0, .int .u8 0, .int .u8 0, .int .u8 0, .int .u8 0, .int .u8 0, .int .u8 0, .int .u8 0, .int .u8 0, .int .u8 0, .int .u8 0, .int .u8 0] (fun w => by kernel_rfl) h⟩
  clear hS
  intro t1 V2 hs hold hout hall hne hS
  replace HS := hs.trans HS
  replace hS := hS.1
  obtain ⟨g8, h8, b8, r8⟩ : ∃ g, t1[8]? = some (.pointer (some ⟨g, 0, none⟩)) ∧ M ≤ g ∧ ∃ cs ty, V2.heap[g]? = some (.cells cs ty (0, 0)) ∧ cs.size = 32 := by
    obtain ⟨g, p1, p2, ty, cs, p3, p4⟩ := hall 1 (by omega) 32 rfl
    exact ⟨g, p1, p2, cs, ty, p3, p4⟩
  replace hS : Own w [(w.heap.size, 32, (· = .agg (vals La))), ((w.heap.size + 1), 32, (· = .agg (vals Lu))), (g7, 32, (· = .agg (vals FL))), (g8, 32, (fun _ => True))] V2 := hS.add (Nat.le_trans hMB b8) (fun r hr => Nat.ne_of_lt (Nat.lt_of_lt_of_le (ltM r hr) b8)) (Own.any r8)
  obtain ⟨x28, q28, v28⟩ : ∃ x, t1[28]? = some x ∧ ((· = .agg (vals Lu))) x := hout 0 (by omega) rfl
  replace h2 := (hold 2 (slots_not (by kernel_rfl))).trans h2
  replace h3 := (hold 3 (slots_not (by kernel_rfl))).trans h3
  replace h4 := (hold 4 (slots_not (by kernel_rfl))).trans h4
  replace h7 := (hold 7 (slots_not (by kernel_rfl))).trans h7
  clear hold hout hs hall hne
  simp only [List.drop_succ_cons, List.drop_zero]
  refine st_own 32 tKey rfl (.tmp 8) (.tmp 28) rfl rfl _ _ (eval_tmp h8) (eval_tmp q28) (V' := (· = .agg (vals Lu))) v28 (by_row HLLu.out) hS 3 rfl fun V2' hS' _ => ?_
  replace hS : Own w [(w.heap.size, 32, (· = .agg (vals La))), ((w.heap.size + 1), 32, (· = .agg (vals Lu))), (g7, 32, (· = .agg (vals FL))), (g8, 32, (· = .agg (vals Lu)))] V2' := hS'
  clear hS'
  refine wpList_nil ?_
  obtain ⟨f, e0, hf⟩ := wash HS
  have f2 := hf 2 _ h2
  have f3 := hf 3 _ h3
  have f4 := hf 4 _ h4
  have f7 := hf 7 _ h7
  have f8 := hf 8 _ h8
  clear hf
  rw [e0.trans (show _ = #[f 0, f 1, f 2, f 3, f 4, f 5, f 6, f 7, f 8, f 9, f 10, f 11, f 12, f 13, f 14, f 15, f 16, f 17, f 18, f 19, f 20, f 21, f 22, f 23, f 24, f 25, f 26, f 27, f 28, f 29, f 30, f 31, f 32, f 33, f 34, f 35, f 36, f 37, f 38, f 39, f 40, f 41, f 42, f 43, f 44, f 45, f 46, f 47, f 48, f 49, f 50, f 51, f 52, f 53, f 54, f 55, f 56, f 57, f 58, f 59, f 60, f 61, f 62, f 63, f 64, f 65, f 66, f 67, f 68, f 69, f 70, f 71, f 72, f 73, f 74, f 75, f 76, f 77, f 78, f 79, f 80, f 81, f 82, f 83, f 84, f 85, f 86, f 87, f 88, f 89, f 90, f 91, f 92] from by kernel_rfl), f2, f3, f4, f7, f8]
  clear f2 f3 f4 f7 f8
  clear e0
  dsimp only
  clear h2 h3 h4 h7 h8 q28 v28 b8 r8 ltM hMB hM HS t1 t0 M
  obtain ⟨t8, R8⟩ := hS.bytes (i := 3) rfl
  have hy := hbLu.nth 31
  obtain ⟨y31, h31⟩ : ∃ x, nth Lu 31 = x := ⟨_, rfl⟩
  rw [h31] at hy
  have o31 := xor_top y31 hy.1 hy.2
  have c31 := (row_cell R8 31).trans (vals_get (by rw [HLLu.out]; omega))
  rw [h31] at c31
  have fc := row_free R8 31
  have HS0 := Lib.hid hS
  have HO31 := Lib.hid o31
  have HX31 := Lib.hid h31
  clear hS R8 o31 h31 hy
  go_wp2_with ((with_reducible refine guard_list ?_); first | (refine held_load 26 _ rfl ?_) | (refine held_load 22 _ rfl ?_) | (refine held_load 68 _ rfl ?_))
  have hS := HS0.out.byte (i := 3) rfl 31 (bits .xor .u8 y31 128)
  have f1 : (Lu.set 31 (bits .xor .u8 y31 128)).length = 32 := by rw [List.length_set, HLLu.out]
  have f2 : Byt (Lu.set 31 (bits .xor .u8 y31 128)) := byt_set hbLu _ _ HO31.out.1
  have f3 : numF (Lu.set 31 (bits .xor .u8 y31 128)) = numF Lu := numF_top Lu _ HLLu.out hbLu HO31.out.1 (by rw [HO31.out.2, HX31.out])
  generalize V2'.setCell ⟨g8, 31, none⟩ (.int .u8 (bits .xor .u8 y31 128)) = WD at hS ⊢
  replace hS : Own w [(w.heap.size, 32, (· = .agg (vals La))), ((w.heap.size + 1), 32, (· = .agg (vals Lu))), (g7, 32, (· = .agg (vals FL))), (g8, 32, (· = .agg (vals (Lu.set 31 (bits .xor .u8 y31 128)))))] WD := hS
  generalize Lu.set 31 (bits .xor .u8 y31 128) = HL at hS f1 f2 f3
  obtain ⟨va, hva⟩ : ∃ v, cl La = v := ⟨_, rfl⟩
  obtain ⟨xu, hxu⟩ : ∃ x, numF Lu = x := ⟨_, rfl⟩
  obtain ⟨rm, hrm⟩ : ∃ r, prod va xu = r := ⟨_, rfl⟩
  have k1 : clampL La = bytesN va := by rw [← hva]; exact clampL_eq HLLa.out hbLa
  have k2 : cl FL = va := by rw [cl, Hf3.out]; exact hva
  have k3 : numF HL = xu := by rw [f3]; exact hxu
  have k4 : clampL (bytesN va) = bytesN va := by rw [← k1]; exact clampL_twice La HLLa.out hbLa
  have k5 : cl (bytesN va) = va := by rw [cl, k4, ← k1]; exact hva
  have k6 : clampL FL = bytesN va := by rw [Hf3.out, k1]
  have g1 := f1
  have g2 := f2
  clear f1 f2 f3
  have Hhva := Lib.hid hva
  have Hhxu := Lib.hid hxu
  have Hhrm := Lib.hid hrm
  have Hk1 := Lib.hid k1
  have Hk2 := Lib.hid k2
  have Hk3 := Lib.hid k3
  have Hk4 := Lib.hid k4
  have Hk5 := Lib.hid k5
  have Hk6 := Lib.hid k6
  have Hg1 := Lib.hid g1
  have Hg2 := Lib.hid g2
  clear hva hxu hrm k1 k2 k3 k4 k5 k6 g1 g2 HS0 HO31 HX31 c31 fc
  obtain ⟨M, hM⟩ : ∃ M, M = WD.heap.size := ⟨_, rfl⟩
  have hMB : w.heap.size ≤ M := hM ▸ hS.1.size
  have ltM := hS.lt
  rw [← hM] at ltM
  refine hide_held fun t0 HT => ?_
  have HS : t0.size = 93 := by rw [HT]; rfl
  have h2 : t0[2]? = some (.int .i64 n) := by rw [HT]; rfl
  have h3 : t0[3]? = some (.pointer (some ⟨w.heap.size, 0, none⟩)) := by rw [HT]; rfl
  have h4 : t0[4]? = some (.pointer (some ⟨(w.heap.size + 1), 0, none⟩)) := by rw [HT]; rfl
  have h7 : t0[7]? = some (.pointer (some ⟨g7, 0, none⟩)) := by rw [HT]; rfl
  have h8 : t0[8]? = some (.pointer (some ⟨g8, 0, none⟩)) := by rw [HT]; rfl
  clear HT
  refine wp_list_most 4 (fun i => [33, 34, 35, 9].getD i 0) (fun i => [none, none, none, some 32].getD i none) (fun i => [(· = .agg (vals La)), (· = .agg (vals Lu)), (· = .agg (vals (bytesN rm.val))), (fun _ => True)].getD i (fun _ => True)) (fun w' => Own w [(w.heap.size, 32, (· = .agg (vals La))), ((w.heap.size + 1), 32, (· = .agg (vals Lu))), (g7, 32, (· = .agg (vals FL))), (g8, 32, (· = .agg (vals HL)))] w' ∧ M ≤ w'.heap.size) M
    (by kernel_rfl) (slots_apart (by kernel_rfl)) (slots_lie (by rw [HS]; kernel_rfl)) ⟨hS, Nat.le_of_eq hM⟩ (fun w' h => h.2) (fun w1 w2 h b => ⟨h.1.keep b, Nat.le_trans h.2 b.size⟩) ?_ ?_ ?_
  · clear hS
    intro i o hi ho hA
    have hc : i = 0 ∨ i = 1 ∨ i = 2 ∨ i = 3 := by omega
    rcases hc with rfl | rfl | rfl | rfl
    · obtain rfl := Option.some.inj ho
      refine ⟨rfl, fun a w' hS hold hin K hK => ?_⟩
      refine if_always rfl ?_
      exact op_ld_own 32 tKey (.tmp 3) rfl rfl _ (eval_tmp ((hold 3 (slots_not (by kernel_rfl))).trans h3)) hS.1 0 rfl hK
    · obtain rfl := Option.some.inj ho
      refine ⟨rfl, fun a w' hS hold hin K hK => ?_⟩
      refine if_always rfl ?_
      exact op_ld_own 32 tKey (.tmp 4) rfl rfl _ (eval_tmp ((hold 4 (slots_not (by kernel_rfl))).trans h4)) hS.1 1 rfl hK
    · obtain rfl := Option.some.inj ho
      refine ⟨rfl, fun a w' hS hold hin K hK => ?_⟩
      obtain ⟨y0, x0, rfl⟩ := hin 0 rfl (by omega) rfl
      obtain ⟨y1, x1, rfl⟩ := hin 1 rfl (by omega) rfl
      refine if_always rfl ?_
      exact op_fn2 _ _ _ _ _ _ rfl rfl (eval_tmp x0) (eval_tmp x1) (by intro args w; kernel_rfl) (ladmul_ev La Lu va xu rm _ HLLa.out hbLa HLLu.out hbLu Hhva.out Hhxu.out Hhrm.out) hK
    · cases hA
  · intro i o sz hi ho hA
    have hc : i = 0 ∨ i = 1 ∨ i = 2 ∨ i = 3 := by omega
    rcases hc with rfl | rfl | rfl | rfl
    · cases hA
    · cases hA
    · cases hA
    · obtain rfl := Option.some.inj ho
      obtain rfl := Option.some.inj hA
      exact ⟨rfl, rfl, 68, #[.int .u8 0, .int .u8 0, .int .u8 0, .int .u8 0, .int .u8 0, .int .u8 0, .int .u8 0, .int .u8 0, .int .u8 0, .int .u8 0, .int .u8 0, .int .u8 0, .int .u8 0, .int .u8 0, .int .u8 0, .int .u8 0, .int .u8 0, .int .u8 0, .int .u8 0, .int .u8 0, .int .u8 0, .int .u8 0, .int .u8 0, .int .u8 0, .int .u8 0, .int .u8 0, .int .u8 0, .int .u8 0, .int .u8 0, .int .u8 0, .int .u8 0, .int .u8 0], rfl, fun a w' K h => wp_new 68 #[.int .u8 0, .int .u8 0, .int .u8 0, .int .u8 0, .int .u8 0, .int .u8 0, .int .u8 0, .int .u8 0, .int .u8 0, .int .u8 0, .int .u8 0, .int .u8 0, .int .u8 0, .int .u8 0, .int .u8 0, .int .u8 0, .int .u8 0, .int .u8 0, .int .u8 0, .int .u8 0, .int .u8 0, .int .u8 0, .int .u8 0, .int .u8 0, .int .u8 0, .int .u8 0, .int .u8 0, .int .u8 0, .int .u8 0, .int .u8 0, .int .u8 0, .int .u8 0] (fun w => by kernel_rfl) h⟩
  clear hS
  intro t1 V3 hs hold hout hall hne hS
  replace HS := hs.trans HS
  replace hS := hS.1
  obtain ⟨g9, h9, b9, r9⟩ : ∃ g, t1[9]? = some (.pointer (some ⟨g, 0, none⟩)) ∧ M ≤ g ∧ ∃ cs ty, V3.heap[g]? = some (.cells cs ty (0, 0)) ∧ cs.size = 32 := by
    obtain ⟨g, p1, p2, ty, cs, p3, p4⟩ := hall 3 (by omega) 32 rfl
    exact ⟨g, p1, p2, cs, ty, p3, p4⟩
  replace hS : Own w [(w.heap.size, 32, (· = .agg (vals La))), ((w.heap.size + 1), 32, (· = .agg (vals Lu))), (g7, 32, (· = .agg (vals FL))), (g8, 32, (· = .agg (vals HL))), (g9, 32, (fun _ => True))] V3 := hS.add (Nat.le_trans hMB b9) (fun r hr => Nat.ne_of_lt (Nat.lt_of_lt_of_le (ltM r hr) b9)) (Own.any r9)
  obtain ⟨x35, q35, v35⟩ : ∃ x, t1[35]? = some x ∧ ((· = .agg (vals (bytesN rm.val)))) x := hout 2 (by omega) rfl
  replace h2 := (hold 2 (slots_not (by kernel_rfl))).trans h2
  replace h3 := (hold 3 (slots_not (by kernel_rfl))).trans h3
  replace h4 := (hold 4 (slots_not (by kernel_rfl))).trans h4
  replace h7 := (hold 7 (slots_not (by kernel_rfl))).trans h7
  replace h8 := (hold 8 (slots_not (by kernel_rfl))).trans h8
  clear hold hout hs hall hne
  simp only [List.drop_succ_cons, List.drop_zero]
  refine st_own 32 tKey rfl (.tmp 9) (.tmp 35) rfl rfl _ _ (eval_tmp h9) (eval_tmp q35) (V' := (· = .agg (vals (bytesN rm.val)))) v35 (by_row (bytesN_len _)) hS 4 rfl fun V3' hS' _ => ?_
  replace hS : Own w [(w.heap.size, 32, (· = .agg (vals La))), ((w.heap.size + 1), 32, (· = .agg (vals Lu))), (g7, 32, (· = .agg (vals FL))), (g8, 32, (· = .agg (vals HL))), (g9, 32, (· = .agg (vals (bytesN rm.val))))] V3' := hS'
  clear hS'
  refine wpList_nil ?_
  obtain ⟨f, e0, hf⟩ := wash HS
  have f2 := hf 2 _ h2
  have f3 := hf 3 _ h3
  have f4 := hf 4 _ h4
  have f7 := hf 7 _ h7
  have f8 := hf 8 _ h8
  have f9 := hf 9 _ h9
  clear hf
  rw [e0.trans (show _ = #[f 0, f 1, f 2, f 3, f 4, f 5, f 6, f 7, f 8, f 9, f 10, f 11, f 12, f 13, f 14, f 15, f 16, f 17, f 18, f 19, f 20, f 21, f 22, f 23, f 24, f 25, f 26, f 27, f 28, f 29, f 30, f 31, f 32, f 33, f 34, f 35, f 36, f 37, f 38, f 39, f 40, f 41, f 42, f 43, f 44, f 45, f 46, f 47, f 48, f 49, f 50, f 51, f 52, f 53, f 54, f 55, f 56, f 57, f 58, f 59, f 60, f 61, f 62, f 63, f 64, f 65, f 66, f 67, f 68, f 69, f 70, f 71, f 72, f 73, f 74, f 75, f 76, f 77, f 78, f 79, f 80, f 81, f 82, f 83, f 84, f 85, f 86, f 87, f 88, f 89, f 90, f 91, f 92] from by kernel_rfl), f2, f3, f4, f7, f8, f9]
  clear f2 f3 f4 f7 f8 f9
  clear e0
  dsimp only
  clear h2 h3 h4 h7 h8 h9 q35 v35 b9 r9 ltM hMB hM HS t1 t0 M
  go_wp2_with fail
  obtain ⟨M, hM⟩ : ∃ M, M = V3'.heap.size := ⟨_, rfl⟩
  refine hide_frame fun t0 HT => ?_
  have HS : t0.size = 93 := by rw [HT]; rfl
  have h2 : t0[2]? = some (.int .i64 n) := by rw [HT]; rfl
  have h3 : t0[3]? = some (.pointer (some ⟨w.heap.size, 0, none⟩)) := by rw [HT]; rfl
  have h4 : t0[4]? = some (.pointer (some ⟨(w.heap.size + 1), 0, none⟩)) := by rw [HT]; rfl
  have h7 : t0[7]? = some (.pointer (some ⟨g7, 0, none⟩)) := by rw [HT]; rfl
  have h8 : t0[8]? = some (.pointer (some ⟨g8, 0, none⟩)) := by rw [HT]; rfl
  have h9 : t0[9]? = some (.pointer (some ⟨g9, 0, none⟩)) := by rw [HT]; rfl
  clear HT
  refine wp_region_all 27 (fun i => [36, 37, 38, 39, 40, 41, 42, 43, 44, 45, 46, 47, 48, 49, 50, 51, 52, 53, 54, 55, 56, 57, 58, 59, 60, 61, 62, 63].getD i 0) (fun i => [(· = .agg (vals FL)), (· = .agg (vals HL)), (· = .agg (vals (bytesN rm.val))), (· = .agg (vals (bytesN rm.val))), (· = .bool false), (· = .bool false), (· = .agg (vals La)), (· = .agg (vals (bytesN va))), (· = .agg (vals Lu)), (· = .agg (vals (bytesN rm.val))), (· = .agg (vals (bytesN rm.val))), (· = .bool false), (· = .bool false), (· = .bool false), (· = .agg (vals La)), (· = .agg (vals (bytesN va))), (· = .agg (vals (bytesN va))), (· = .agg (vals La)), (· = .agg (vals (bytesN va))), (· = .bool false), (· = .bool false), (· = .bool false), (· = .agg (vals FL)), (· = .agg (vals (bytesN va))), (· = .agg (vals La)), (· = .agg (vals (bytesN va))), (· = .bool false), (· = .bool false)].getD i (fun _ => True)) (fun w' => Own w [(w.heap.size, 32, (· = .agg (vals La))), ((w.heap.size + 1), 32, (· = .agg (vals Lu))), (g7, 32, (· = .agg (vals FL))), (g8, 32, (· = .agg (vals HL))), (g9, 32, (· = .agg (vals (bytesN rm.val))))] w' ∧ M ≤ w'.heap.size)
    (by kernel_rfl) (by kernel_rfl) (by kernel_rfl) (slots_apart (by kernel_rfl)) (slots_lie (by rw [HS]; kernel_rfl)) ⟨hS.drew, Nat.le_of_eq hM⟩ (fun w1 w2 h b => ⟨h.1.keep b, Nat.le_trans h.2 b.size⟩) ?_ ?_
  · clear hS
    intro i o hi ho
    have hc : i = 0 ∨ i = 1 ∨ i = 2 ∨ i = 3 ∨ i = 4 ∨ i = 5 ∨ i = 6 ∨ i = 7 ∨ i = 8 ∨ i = 9 ∨ i = 10 ∨ i = 11 ∨ i = 12 ∨ i = 13 ∨ i = 14 ∨ i = 15 ∨ i = 16 ∨ i = 17 ∨ i = 18 ∨ i = 19 ∨ i = 20 ∨ i = 21 ∨ i = 22 ∨ i = 23 ∨ i = 24 ∨ i = 25 ∨ i = 26 ∨ i = 27 := by omega
    rcases hc with rfl | rfl | rfl | rfl | rfl | rfl | rfl | rfl | rfl | rfl | rfl | rfl | rfl | rfl | rfl | rfl | rfl | rfl | rfl | rfl | rfl | rfl | rfl | rfl | rfl | rfl | rfl | rfl
    · obtain rfl := Option.some.inj ho
      refine ⟨rfl, fun a w' hS hold hin K hK => ?_⟩
      refine if_always rfl ?_
      exact op_ld_own 32 tKey (.tmp 7) rfl rfl _ (eval_tmp ((hold 7 (slots_not (by kernel_rfl))).trans h7)) hS.1 2 rfl hK
    · obtain rfl := Option.some.inj ho
      refine ⟨rfl, fun a w' hS hold hin K hK => ?_⟩
      refine if_always rfl ?_
      exact op_ld_own 32 tKey (.tmp 8) rfl rfl _ (eval_tmp ((hold 8 (slots_not (by kernel_rfl))).trans h8)) hS.1 3 rfl hK
    · obtain rfl := Option.some.inj ho
      refine ⟨rfl, fun a w' hS hold hin K hK => ?_⟩
      obtain ⟨y0, x0, rfl⟩ := hin 0 rfl (by omega)
      obtain ⟨y1, x1, rfl⟩ := hin 1 rfl (by omega)
      refine if_always rfl ?_
      exact op_fn2 _ _ _ _ _ _ rfl rfl (eval_tmp x0) (eval_tmp x1) (by intro args w; kernel_rfl) (ladmul_ev FL HL va xu rm _ Hf1.out Hf2.out Hg1.out Hg2.out Hk2.out Hk3.out Hhrm.out) hK
    · obtain rfl := Option.some.inj ho
      refine ⟨rfl, fun a w' hS hold hin K hK => ?_⟩
      refine if_always rfl ?_
      exact op_ld_own 32 tKey (.tmp 9) rfl rfl _ (eval_tmp ((hold 9 (slots_not (by kernel_rfl))).trans h9)) hS.1 4 rfl hK
    · obtain rfl := Option.some.inj ho
      refine ⟨rfl, fun a w' hS hold hin K hK => ?_⟩
      obtain ⟨y2, x2, rfl⟩ := hin 2 rfl (by omega)
      obtain ⟨y3, x3, rfl⟩ := hin 3 rfl (by omega)
      refine if_always rfl ?_
      exact op_bin (V := (· = .bool false)) _ _ _ _ _ _ _ (.bool false) rfl rfl (eval_tmp x2) (eval_tmp x3) (fun w => neq_key_same (bytesN rm.val) (bytesN_len _) w) rfl hK
    · obtain rfl := Option.some.inj ho
      refine ⟨rfl, fun a w' hS hold hin K hK => ?_⟩
      obtain ⟨y4, x4, rfl⟩ := hin 4 rfl (by omega)
      refine if_always rfl ?_
      exact op_move (V := (· = .bool false)) _ _ rfl rfl (eval_tmp x4) rfl hK
    · obtain rfl := Option.some.inj ho
      refine ⟨rfl, fun a w' hS hold hin K hK => ?_⟩
      obtain ⟨y5, x5, rfl⟩ := hin 5 rfl (by omega)
      refine if_guard (d := 41) rfl rfl x5 ?_
      exact op_ld_own 32 tKey (.tmp 3) rfl rfl _ (eval_tmp ((hold 3 (slots_not (by kernel_rfl))).trans h3)) hS.1 0 rfl hK
    · obtain rfl := Option.some.inj ho
      refine ⟨rfl, fun a w' hS hold hin K hK => ?_⟩
      obtain ⟨y5, x5, rfl⟩ := hin 5 rfl (by omega)
      obtain ⟨y6, x6, rfl⟩ := hin 6 rfl (by omega)
      refine if_guard (d := 41) rfl rfl x5 ?_
      exact op_fn1 _ _ _ _ rfl rfl (eval_tmp x6) (by intro args w; kernel_rfl) (clamp_ev La HLLa.out hbLa va Hk1.out _) hK
    · obtain rfl := Option.some.inj ho
      refine ⟨rfl, fun a w' hS hold hin K hK => ?_⟩
      obtain ⟨y5, x5, rfl⟩ := hin 5 rfl (by omega)
      refine if_guard (d := 41) rfl rfl x5 ?_
      exact op_ld_own 32 tKey (.tmp 4) rfl rfl _ (eval_tmp ((hold 4 (slots_not (by kernel_rfl))).trans h4)) hS.1 1 rfl hK
    · obtain rfl := Option.some.inj ho
      refine ⟨rfl, fun a w' hS hold hin K hK => ?_⟩
      obtain ⟨y5, x5, rfl⟩ := hin 5 rfl (by omega)
      obtain ⟨y7, x7, rfl⟩ := hin 7 rfl (by omega)
      obtain ⟨y8, x8, rfl⟩ := hin 8 rfl (by omega)
      refine if_guard (d := 41) rfl rfl x5 ?_
      exact op_fn2 _ _ _ _ _ _ rfl rfl (eval_tmp x7) (eval_tmp x8) (by intro args w; kernel_rfl) (ladmul_ev (bytesN va) Lu va xu rm _ (bytesN_len _) (bytesN_byt _) HLLu.out hbLu Hk5.out Hhxu.out Hhrm.out) hK
    · obtain rfl := Option.some.inj ho
      refine ⟨rfl, fun a w' hS hold hin K hK => ?_⟩
      obtain ⟨y5, x5, rfl⟩ := hin 5 rfl (by omega)
      refine if_guard (d := 41) rfl rfl x5 ?_
      exact op_ld_own 32 tKey (.tmp 9) rfl rfl _ (eval_tmp ((hold 9 (slots_not (by kernel_rfl))).trans h9)) hS.1 4 rfl hK
    · obtain rfl := Option.some.inj ho
      refine ⟨rfl, fun a w' hS hold hin K hK => ?_⟩
      obtain ⟨y5, x5, rfl⟩ := hin 5 rfl (by omega)
      obtain ⟨y9, x9, rfl⟩ := hin 9 rfl (by omega)
      obtain ⟨y10, x10, rfl⟩ := hin 10 rfl (by omega)
      refine if_guard (d := 41) rfl rfl x5 ?_
      exact op_bin (V := (· = .bool false)) _ _ _ _ _ _ _ (.bool false) rfl rfl (eval_tmp x9) (eval_tmp x10) (fun w => neq_key_same (bytesN rm.val) (bytesN_len _) w) rfl hK
    · obtain rfl := Option.some.inj ho
      refine ⟨rfl, fun a w' hS hold hin K hK => ?_⟩
      obtain ⟨y5, x5, rfl⟩ := hin 5 rfl (by omega)
      obtain ⟨y11, x11, rfl⟩ := hin 11 rfl (by omega)
      refine if_always rfl ?_
      exact op_pick (V := (· = .bool false)) _ _ _ false _ rfl rfl (eval_tmp x5) (show (Act.eval a _) = _ from (eval_tmp x11)) rfl hK
    · obtain rfl := Option.some.inj ho
      refine ⟨rfl, fun a w' hS hold hin K hK => ?_⟩
      obtain ⟨y12, x12, rfl⟩ := hin 12 rfl (by omega)
      refine if_always rfl ?_
      exact op_move (V := (· = .bool false)) _ _ rfl rfl (eval_tmp x12) rfl hK
    · obtain rfl := Option.some.inj ho
      refine ⟨rfl, fun a w' hS hold hin K hK => ?_⟩
      obtain ⟨y13, x13, rfl⟩ := hin 13 rfl (by omega)
      refine if_guard (d := 49) rfl rfl x13 ?_
      exact op_ld_own 32 tKey (.tmp 3) rfl rfl _ (eval_tmp ((hold 3 (slots_not (by kernel_rfl))).trans h3)) hS.1 0 rfl hK
    · obtain rfl := Option.some.inj ho
      refine ⟨rfl, fun a w' hS hold hin K hK => ?_⟩
      obtain ⟨y13, x13, rfl⟩ := hin 13 rfl (by omega)
      obtain ⟨y14, x14, rfl⟩ := hin 14 rfl (by omega)
      refine if_guard (d := 49) rfl rfl x13 ?_
      exact op_fn1 _ _ _ _ rfl rfl (eval_tmp x14) (by intro args w; kernel_rfl) (clamp_ev La HLLa.out hbLa va Hk1.out _) hK
    · obtain rfl := Option.some.inj ho
      refine ⟨rfl, fun a w' hS hold hin K hK => ?_⟩
      obtain ⟨y13, x13, rfl⟩ := hin 13 rfl (by omega)
      obtain ⟨y15, x15, rfl⟩ := hin 15 rfl (by omega)
      refine if_guard (d := 49) rfl rfl x13 ?_
      exact op_fn1 _ _ _ _ rfl rfl (eval_tmp x15) (by intro args w; kernel_rfl) (clamp_ev (bytesN va) (bytesN_len _) (bytesN_byt _) va Hk4.out _) hK
    · obtain rfl := Option.some.inj ho
      refine ⟨rfl, fun a w' hS hold hin K hK => ?_⟩
      obtain ⟨y13, x13, rfl⟩ := hin 13 rfl (by omega)
      refine if_guard (d := 49) rfl rfl x13 ?_
      exact op_ld_own 32 tKey (.tmp 3) rfl rfl _ (eval_tmp ((hold 3 (slots_not (by kernel_rfl))).trans h3)) hS.1 0 rfl hK
    · obtain rfl := Option.some.inj ho
      refine ⟨rfl, fun a w' hS hold hin K hK => ?_⟩
      obtain ⟨y13, x13, rfl⟩ := hin 13 rfl (by omega)
      obtain ⟨y17, x17, rfl⟩ := hin 17 rfl (by omega)
      refine if_guard (d := 49) rfl rfl x13 ?_
      exact op_fn1 _ _ _ _ rfl rfl (eval_tmp x17) (by intro args w; kernel_rfl) (clamp_ev La HLLa.out hbLa va Hk1.out _) hK
    · obtain rfl := Option.some.inj ho
      refine ⟨rfl, fun a w' hS hold hin K hK => ?_⟩
      obtain ⟨y13, x13, rfl⟩ := hin 13 rfl (by omega)
      obtain ⟨y16, x16, rfl⟩ := hin 16 rfl (by omega)
      obtain ⟨y18, x18, rfl⟩ := hin 18 rfl (by omega)
      refine if_guard (d := 49) rfl rfl x13 ?_
      exact op_bin (V := (· = .bool false)) _ _ _ _ _ _ _ (.bool false) rfl rfl (eval_tmp x16) (eval_tmp x18) (fun w => neq_key_same (bytesN va) (bytesN_len _) w) rfl hK
    · obtain rfl := Option.some.inj ho
      refine ⟨rfl, fun a w' hS hold hin K hK => ?_⟩
      obtain ⟨y13, x13, rfl⟩ := hin 13 rfl (by omega)
      obtain ⟨y19, x19, rfl⟩ := hin 19 rfl (by omega)
      refine if_always rfl ?_
      exact op_pick (V := (· = .bool false)) _ _ _ false _ rfl rfl (eval_tmp x13) (show (Act.eval a _) = _ from (eval_tmp x19)) rfl hK
    · obtain rfl := Option.some.inj ho
      refine ⟨rfl, fun a w' hS hold hin K hK => ?_⟩
      obtain ⟨y20, x20, rfl⟩ := hin 20 rfl (by omega)
      refine if_always rfl ?_
      exact op_move (V := (· = .bool false)) _ _ rfl rfl (eval_tmp x20) rfl hK
    · obtain rfl := Option.some.inj ho
      refine ⟨rfl, fun a w' hS hold hin K hK => ?_⟩
      obtain ⟨y21, x21, rfl⟩ := hin 21 rfl (by omega)
      refine if_guard (d := 57) rfl rfl x21 ?_
      exact op_ld_own 32 tKey (.tmp 7) rfl rfl _ (eval_tmp ((hold 7 (slots_not (by kernel_rfl))).trans h7)) hS.1 2 rfl hK
    · obtain rfl := Option.some.inj ho
      refine ⟨rfl, fun a w' hS hold hin K hK => ?_⟩
      obtain ⟨y21, x21, rfl⟩ := hin 21 rfl (by omega)
      obtain ⟨y22, x22, rfl⟩ := hin 22 rfl (by omega)
      refine if_guard (d := 57) rfl rfl x21 ?_
      exact op_fn1 _ _ _ _ rfl rfl (eval_tmp x22) (by intro args w; kernel_rfl) (clamp_ev FL Hf1.out Hf2.out va Hk6.out _) hK
    · obtain rfl := Option.some.inj ho
      refine ⟨rfl, fun a w' hS hold hin K hK => ?_⟩
      obtain ⟨y21, x21, rfl⟩ := hin 21 rfl (by omega)
      refine if_guard (d := 57) rfl rfl x21 ?_
      exact op_ld_own 32 tKey (.tmp 3) rfl rfl _ (eval_tmp ((hold 3 (slots_not (by kernel_rfl))).trans h3)) hS.1 0 rfl hK
    · obtain rfl := Option.some.inj ho
      refine ⟨rfl, fun a w' hS hold hin K hK => ?_⟩
      obtain ⟨y21, x21, rfl⟩ := hin 21 rfl (by omega)
      obtain ⟨y24, x24, rfl⟩ := hin 24 rfl (by omega)
      refine if_guard (d := 57) rfl rfl x21 ?_
      exact op_fn1 _ _ _ _ rfl rfl (eval_tmp x24) (by intro args w; kernel_rfl) (clamp_ev La HLLa.out hbLa va Hk1.out _) hK
    · obtain rfl := Option.some.inj ho
      refine ⟨rfl, fun a w' hS hold hin K hK => ?_⟩
      obtain ⟨y21, x21, rfl⟩ := hin 21 rfl (by omega)
      obtain ⟨y23, x23, rfl⟩ := hin 23 rfl (by omega)
      obtain ⟨y25, x25, rfl⟩ := hin 25 rfl (by omega)
      refine if_guard (d := 57) rfl rfl x21 ?_
      exact op_bin (V := (· = .bool false)) _ _ _ _ _ _ _ (.bool false) rfl rfl (eval_tmp x23) (eval_tmp x25) (fun w => neq_key_same (bytesN va) (bytesN_len _) w) rfl hK
    · obtain rfl := Option.some.inj ho
      refine ⟨rfl, fun a w' hS hold hin K hK => ?_⟩
      obtain ⟨y21, x21, rfl⟩ := hin 21 rfl (by omega)
      obtain ⟨y26, x26, rfl⟩ := hin 26 rfl (by omega)
      refine if_always rfl ?_
      exact op_pick (V := (· = .bool false)) _ _ _ false _ rfl rfl (eval_tmp x21) (show (Act.eval a _) = _ from (eval_tmp x26)) rfl hK
  clear hS
  intro t1 V4 hs hold hout hS
  replace HS := hs.trans HS
  replace hS := hS.1
  obtain ⟨_, q63, rfl⟩ : ∃ x, t1[63]? = some x ∧ x = (.bool false : Value) := hout 27 (by omega)
  replace h2 := (hold 2 (slots_not (by kernel_rfl))).trans h2
  replace h3 := (hold 3 (slots_not (by kernel_rfl))).trans h3
  replace h4 := (hold 4 (slots_not (by kernel_rfl))).trans h4
  replace h7 := (hold 7 (slots_not (by kernel_rfl))).trans h7
  replace h8 := (hold 8 (slots_not (by kernel_rfl))).trans h8
  replace h9 := (hold 9 (slots_not (by kernel_rfl))).trans h9
  clear hold hout hs
  obtain ⟨f, e0, hf⟩ := wash HS
  have f2 := hf 2 _ h2
  have f3 := hf 3 _ h3
  have f4 := hf 4 _ h4
  have f7 := hf 7 _ h7
  have f8 := hf 8 _ h8
  have f9 := hf 9 _ h9
  have f63 := hf 63 _ q63
  clear hf
  rw [e0.trans (show _ = #[f 0, f 1, f 2, f 3, f 4, f 5, f 6, f 7, f 8, f 9, f 10, f 11, f 12, f 13, f 14, f 15, f 16, f 17, f 18, f 19, f 20, f 21, f 22, f 23, f 24, f 25, f 26, f 27, f 28, f 29, f 30, f 31, f 32, f 33, f 34, f 35, f 36, f 37, f 38, f 39, f 40, f 41, f 42, f 43, f 44, f 45, f 46, f 47, f 48, f 49, f 50, f 51, f 52, f 53, f 54, f 55, f 56, f 57, f 58, f 59, f 60, f 61, f 62, f 63, f 64, f 65, f 66, f 67, f 68, f 69, f 70, f 71, f 72, f 73, f 74, f 75, f 76, f 77, f 78, f 79, f 80, f 81, f 82, f 83, f 84, f 85, f 86, f 87, f 88, f 89, f 90, f 91, f 92] from by kernel_rfl), f2, f3, f4, f7, f8, f9, f63]
  clear f2 f3 f4 f7 f8 f9 f63
  clear e0
  dsimp only
  clear h2 h3 h4 h7 h8 h9 q63 hM HS t1 t0 M
  have hS0 := Lib.hid hS
  clear hS
  by_cases hneg : n.tmod 19 < 0
  · have hlow : n.tmod 19 + 19 = n % 19 := by have := tmod_neg19 n hneg; omega
    have hw : IntKind.i64.wrap (n.tmod 19 + 19) = n.tmod 19 + 19 := IntWalk.i64_in _ (by omega)
    obtain ⟨lo, hlo⟩ : ∃ l, n % 19 = l := ⟨_, rfl⟩
    have hlr : 0 ≤ lo ∧ lo < 19 := by rw [← hlo]; omega
    rw [hlo] at hlow
    have HLR := Lib.hid hlr
    have hnl : ¬ (lo < 0) := by omega
    clear hlr hlo
    go_wp2_with fail
    have hS := hS0.out
    clear hS0 hlow hnl hw hneg
    have hS1 := hS.keep ((Below.refl _ _).alloc (Nat.le_refl _) (.cells #[.int .u8 0, .int .u8 0, .int .u8 0, .int .u8 0, .int .u8 0, .int .u8 0, .int .u8 0, .int .u8 0, .int .u8 0, .int .u8 0, .int .u8 0, .int .u8 0, .int .u8 0, .int .u8 0, .int .u8 0, .int .u8 0, .int .u8 0, .int .u8 0, .int .u8 0, .int .u8 0, .int .u8 0, .int .u8 0, .int .u8 0, .int .u8 0, .int .u8 0, .int .u8 0, .int .u8 0, .int .u8 0, .int .u8 0, .int .u8 0, .int .u8 0, .int .u8 0] 68))
    have hS2 := hS1.add (g := V4.heap.size) (n := 32) (V := (· = .agg (vals z32))) hS.1.size (fun r hr => Nat.ne_of_lt (hS.lt r hr)) ⟨_, _, row_new, rfl, rfl⟩
    generalize V4.alloc (.cells #[.int .u8 0, .int .u8 0, .int .u8 0, .int .u8 0, .int .u8 0, .int .u8 0, .int .u8 0, .int .u8 0, .int .u8 0, .int .u8 0, .int .u8 0, .int .u8 0, .int .u8 0, .int .u8 0, .int .u8 0, .int .u8 0, .int .u8 0, .int .u8 0, .int .u8 0, .int .u8 0, .int .u8 0, .int .u8 0, .int .u8 0, .int .u8 0, .int .u8 0, .int .u8 0, .int .u8 0, .int .u8 0, .int .u8 0, .int .u8 0, .int .u8 0, .int .u8 0] 68) = WA at hS2 ⊢
    generalize V4.heap.size = g11 at hS2 ⊢
    clear hS hS1
    go_loopw [12] (fun i wr => ∃ k : Nat, k ≤ 32 ∧ i = .int .i64 k ∧ Own w [(w.heap.size, 32, (· = .agg (vals La))), ((w.heap.size + 1), 32, (· = .agg (vals Lu))), (g7, 32, (· = .agg (vals FL))), (g8, 32, (· = .agg (vals HL))), (g9, 32, (· = .agg (vals (bytesN rm.val)))), (g11, 32, (· = .agg (vals (f32.take k ++ z32.drop k))))] wr) (fun i _ => 32 - (intOf i).toNat)
    case atStart => exact ⟨0, by omega, rfl, hS2⟩
    case round =>
      obtain ⟨k, hk, rfl, hS⟩ := hrel
      clear hS2
      by_cases hlt : k < 32
      · obtain ⟨t11, R11⟩ := hS.bytes (i := 5) rfl
        have cz := (row_cell R11 k).trans (vals_get (by rw [fill_len f32 z32 k rfl hk]; exact hlt))
        have fc := row_free R11 k
        have hS2 := hS.byte (i := 5) rfl k 255
        rw [← f32_nth k hlt, fill_step f32 z32 k hlt rfl, f32_nth k hlt] at hS2
        have HS2 := Lib.hid hS2
        clear hS hS2 R11 Hf1 Hf2 Hf3 Hhva Hhxu Hhrm Hk1 Hk2 Hk3 Hk4 Hk5 Hk6 Hg1 Hg2 HLR HM hbLa hbLu HLLa HLLu hm
        go_wp2_with fail
        go_roundw
        case rel => exact ⟨k + 1, by omega, by go_num, HS2.out⟩
        case measure => simp [intOf]; omega
      · obtain rfl : k = 32 := by omega
        obtain ⟨t11, R11⟩ := hS.bytes (i := 5) rfl
        have c0 := (row_cell R11 0).trans (vals_get (by decide))
        have c31 := (row_cell R11 31).trans (vals_get (by decide))
        have fc := row_free R11
        have hS2 := (hS.byte (i := 5) rfl 0 (237 + lo)).byte (i := 5) rfl 31 127
        have hlr := HLR.out
        have hw8 : IntKind.u8.wrap (237 + lo) = 237 + lo := by rw [IntKind.wrap_u8]; omega
        have hw64 : IntKind.i64.wrap (237 + lo) = 237 + lo := IntWalk.i64_in _ (by omega)
        have HS2 := Lib.hid hS2
        clear hS hS2 R11
        go_wp2_with fail
        have hS := HS2.out
        clear HS2
        generalize (wr.setCell ⟨g11, 0, none⟩ (.int .u8 (237 + lo))).setCell ⟨g11, 31, none⟩ (.int .u8 127) = WE at hS ⊢
        replace hS : Own w [(w.heap.size, 32, (· = .agg (vals La))), ((w.heap.size + 1), 32, (· = .agg (vals Lu))), (g7, 32, (· = .agg (vals FL))), (g8, 32, (· = .agg (vals HL))), (g9, 32, (· = .agg (vals (bytesN rm.val)))), (g11, 32, (· = .agg (vals ((f32.set 0 (237 + lo)).set 31 127))))] WE := hS
        obtain ⟨lm1, lm2, lm3⟩ := low_more lo hlr
        obtain ⟨ML, hML⟩ : ∃ L, (f32.set 0 (237 + lo)).set 31 127 = L := ⟨_, rfl⟩
        have lm4 : ML.length = 32 := by rw [← hML]; rfl
        rw [hML] at hS lm1 lm2
        obtain ⟨xl, hxl⟩ : ∃ x, numF (lowL lo) = x := ⟨_, rfl⟩
        rw [hxl] at lm1
        obtain ⟨rl, hrl⟩ : ∃ r, prod va xl = r := ⟨_, rfl⟩
        have lm5 : IntKind.u8.wrap lo = lo := by rw [IntKind.wrap_u8]; omega
        have Hlm1 := Lib.hid lm1
        have Hlm2 := Lib.hid lm2
        have Hlm3 := Lib.hid lm3
        have Hlm4 := Lib.hid lm4
        have Hlm5 := Lib.hid lm5
        have Hhxl := Lib.hid hxl
        have Hhrl := Lib.hid hrl
        clear lm1 lm2 lm3 lm4 lm5 hxl hrl hML hw8 hw64 c0 c31 fc hlr HLR
        obtain ⟨M, hM⟩ : ∃ M, M = WE.heap.size := ⟨_, rfl⟩
        refine hide_frame fun t0 HT => ?_
        have HS : t0.size = 93 := by rw [HT]; rfl
        have h2 : t0[2]? = some (.int .i64 n) := by rw [HT]; rfl
        have h3 : t0[3]? = some (.pointer (some ⟨w.heap.size, 0, none⟩)) := by rw [HT]; rfl
        have h4 : t0[4]? = some (.pointer (some ⟨(w.heap.size + 1), 0, none⟩)) := by rw [HT]; rfl
        have h7 : t0[7]? = some (.pointer (some ⟨g7, 0, none⟩)) := by rw [HT]; rfl
        have h8 : t0[8]? = some (.pointer (some ⟨g8, 0, none⟩)) := by rw [HT]; rfl
        have h9 : t0[9]? = some (.pointer (some ⟨g9, 0, none⟩)) := by rw [HT]; rfl
        have h10 : t0[10]? = some (.int .i64 lo) := by rw [HT]; rfl
        have h11 : t0[11]? = some (.pointer (some ⟨g11, 0, none⟩)) := by rw [HT]; rfl
        clear HT
        refine wp_region_all 12 (fun i => [81, 82, 83, 84, 85, 86, 87, 88, 89, 90, 91, 92, 6].getD i 0) (fun i => [(· = .agg (vals La)), (· = .int .i64 lo), (· = .int .u8 lo), (· = .agg (vals (lowL lo))), (· = .agg (vals (bytesN rl.val))), (· = .agg (vals La)), (· = .agg (vals ML)), (· = .agg (vals (bytesN rl.val))), (· = .bool true), (· = .bool true), (· = .bool true), (· = .bool true), (· = .bool true)].getD i (fun _ => True)) (fun w' => Own w [(w.heap.size, 32, (· = .agg (vals La))), ((w.heap.size + 1), 32, (· = .agg (vals Lu))), (g7, 32, (· = .agg (vals FL))), (g8, 32, (· = .agg (vals HL))), (g9, 32, (· = .agg (vals (bytesN rm.val)))), (g11, 32, (· = .agg (vals ML)))] w' ∧ M ≤ w'.heap.size)
          (by kernel_rfl) (by kernel_rfl) (by kernel_rfl) (slots_apart (by kernel_rfl)) (slots_lie (by rw [HS]; kernel_rfl)) ⟨hS.drew, Nat.le_of_eq hM⟩ (fun w1 w2 h b => ⟨h.1.keep b, Nat.le_trans h.2 b.size⟩) ?_ ?_
        · clear hS
          intro i o hi ho
          have hc : i = 0 ∨ i = 1 ∨ i = 2 ∨ i = 3 ∨ i = 4 ∨ i = 5 ∨ i = 6 ∨ i = 7 ∨ i = 8 ∨ i = 9 ∨ i = 10 ∨ i = 11 ∨ i = 12 := by omega
          rcases hc with rfl | rfl | rfl | rfl | rfl | rfl | rfl | rfl | rfl | rfl | rfl | rfl | rfl
          · obtain rfl := Option.some.inj ho
            refine ⟨rfl, fun a w' hS hold hin K hK => ?_⟩
            refine if_always rfl ?_
            exact op_ld_own 32 tKey (.tmp 3) rfl rfl _ (eval_tmp ((hold 3 (slots_not (by kernel_rfl))).trans h3)) hS.1 0 rfl hK
          · obtain rfl := Option.some.inj ho
            refine ⟨rfl, fun a w' hS hold hin K hK => ?_⟩
            refine if_always rfl ?_
            exact op_move (V := (· = .int .i64 lo)) _ _ rfl rfl (eval_tmp ((hold 10 (slots_not (by kernel_rfl))).trans h10)) rfl hK
          · obtain rfl := Option.some.inj ho
            refine ⟨rfl, fun a w' hS hold hin K hK => ?_⟩
            obtain ⟨y1, x1, rfl⟩ := hin 1 rfl (by omega)
            refine if_always rfl ?_
            exact op_convi8 _ lo lo rfl rfl (eval_tmp x1) Hlm5.out hK
          · obtain rfl := Option.some.inj ho
            refine ⟨rfl, fun a w' hS hold hin K hK => ?_⟩
            obtain ⟨y2, x2, rfl⟩ := hin 2 rfl (by omega)
            refine if_always rfl ?_
            exact op_build1 _ lo rfl rfl (eval_tmp x2) hK
          · obtain rfl := Option.some.inj ho
            refine ⟨rfl, fun a w' hS hold hin K hK => ?_⟩
            obtain ⟨y0, x0, rfl⟩ := hin 0 rfl (by omega)
            obtain ⟨y3, x3, rfl⟩ := hin 3 rfl (by omega)
            refine if_always rfl ?_
            exact op_fn2 _ _ _ _ _ _ rfl rfl (eval_tmp x0) (eval_tmp x3) (by intro args w; kernel_rfl) (ladmul_ev La (lowL lo) va xl rl _ HLLa.out hbLa rfl Hlm3.out Hhva.out Hhxl.out Hhrl.out) hK
          · obtain rfl := Option.some.inj ho
            refine ⟨rfl, fun a w' hS hold hin K hK => ?_⟩
            refine if_always rfl ?_
            exact op_ld_own 32 tKey (.tmp 3) rfl rfl _ (eval_tmp ((hold 3 (slots_not (by kernel_rfl))).trans h3)) hS.1 0 rfl hK
          · obtain rfl := Option.some.inj ho
            refine ⟨rfl, fun a w' hS hold hin K hK => ?_⟩
            refine if_always rfl ?_
            exact op_ld_own 32 tKey (.tmp 11) rfl rfl _ (eval_tmp ((hold 11 (slots_not (by kernel_rfl))).trans h11)) hS.1 5 rfl hK
          · obtain rfl := Option.some.inj ho
            refine ⟨rfl, fun a w' hS hold hin K hK => ?_⟩
            obtain ⟨y5, x5, rfl⟩ := hin 5 rfl (by omega)
            obtain ⟨y6, x6, rfl⟩ := hin 6 rfl (by omega)
            refine if_always rfl ?_
            exact op_fn2 _ _ _ _ _ _ rfl rfl (eval_tmp x5) (eval_tmp x6) (by intro args w; kernel_rfl) (ladmul_ev La ML va xl rl _ HLLa.out hbLa Hlm4.out Hlm2.out Hhva.out Hlm1.out.symm Hhrl.out) hK
          · obtain rfl := Option.some.inj ho
            refine ⟨rfl, fun a w' hS hold hin K hK => ?_⟩
            obtain ⟨y4, x4, rfl⟩ := hin 4 rfl (by omega)
            obtain ⟨y7, x7, rfl⟩ := hin 7 rfl (by omega)
            refine if_always rfl ?_
            exact op_bin (V := (· = .bool true)) _ _ _ _ _ _ _ (.bool true) rfl rfl (eval_tmp x4) (eval_tmp x7) (fun w => eql_key_same (bytesN rl.val) (bytesN_len _) w) rfl hK
          · obtain rfl := Option.some.inj ho
            refine ⟨rfl, fun a w' hS hold hin K hK => ?_⟩
            obtain ⟨y8, x8, rfl⟩ := hin 8 rfl (by omega)
            refine if_always rfl ?_
            exact op_move (V := (· = .bool true)) _ _ rfl rfl (eval_tmp x8) rfl hK
          · obtain rfl := Option.some.inj ho
            refine ⟨rfl, fun a w' hS hold hin K hK => ?_⟩
            obtain ⟨y9, x9, rfl⟩ := hin 9 rfl (by omega)
            refine if_guard (d := 90) rfl rfl x9 ?_
            exact op_fn0 _  _  rfl rfl  (by intro args w; kernel_rfl) (works_any _) hK
          · obtain rfl := Option.some.inj ho
            refine ⟨rfl, fun a w' hS hold hin K hK => ?_⟩
            obtain ⟨y9, x9, rfl⟩ := hin 9 rfl (by omega)
            obtain ⟨y10, x10, rfl⟩ := hin 10 rfl (by omega)
            refine if_always rfl ?_
            exact op_pick (V := (· = .bool true)) _ _ _ true _ rfl rfl (eval_tmp x9) (show (Act.eval a _) = _ from (eval_tmp x10)) rfl hK
          · obtain rfl := Option.some.inj ho
            refine ⟨rfl, fun a w' hS hold hin K hK => ?_⟩
            obtain ⟨y11, x11, rfl⟩ := hin 11 rfl (by omega)
            refine if_always rfl ?_
            exact op_assign (V := (· = .bool true)) _ _ rfl rfl (eval_tmp x11) rfl hK
        clear hS
        intro t1 V5 hs hold hout hS
        replace HS := hs.trans HS
        replace hS := hS.1
        obtain ⟨_, q6, rfl⟩ : ∃ x, t1[6]? = some x ∧ x = (.bool true : Value) := hout 12 (by omega)
        replace h2 := (hold 2 (slots_not (by kernel_rfl))).trans h2
        replace h3 := (hold 3 (slots_not (by kernel_rfl))).trans h3
        replace h4 := (hold 4 (slots_not (by kernel_rfl))).trans h4
        replace h7 := (hold 7 (slots_not (by kernel_rfl))).trans h7
        replace h8 := (hold 8 (slots_not (by kernel_rfl))).trans h8
        replace h9 := (hold 9 (slots_not (by kernel_rfl))).trans h9
        replace h10 := (hold 10 (slots_not (by kernel_rfl))).trans h10
        replace h11 := (hold 11 (slots_not (by kernel_rfl))).trans h11
        clear hold hout hs
        obtain ⟨f, e0, hf⟩ := wash HS
        have f2 := hf 2 _ h2
        have f3 := hf 3 _ h3
        have f4 := hf 4 _ h4
        have f7 := hf 7 _ h7
        have f8 := hf 8 _ h8
        have f9 := hf 9 _ h9
        have f10 := hf 10 _ h10
        have f11 := hf 11 _ h11
        have f6 := hf 6 _ q6
        clear hf
        rw [e0.trans (show _ = #[f 0, f 1, f 2, f 3, f 4, f 5, f 6, f 7, f 8, f 9, f 10, f 11, f 12, f 13, f 14, f 15, f 16, f 17, f 18, f 19, f 20, f 21, f 22, f 23, f 24, f 25, f 26, f 27, f 28, f 29, f 30, f 31, f 32, f 33, f 34, f 35, f 36, f 37, f 38, f 39, f 40, f 41, f 42, f 43, f 44, f 45, f 46, f 47, f 48, f 49, f 50, f 51, f 52, f 53, f 54, f 55, f 56, f 57, f 58, f 59, f 60, f 61, f 62, f 63, f 64, f 65, f 66, f 67, f 68, f 69, f 70, f 71, f 72, f 73, f 74, f 75, f 76, f 77, f 78, f 79, f 80, f 81, f 82, f 83, f 84, f 85, f 86, f 87, f 88, f 89, f 90, f 91, f 92] from by kernel_rfl), f2, f3, f4, f7, f8, f9, f10, f11, f6]
        clear f2 f3 f4 f7 f8 f9 f10 f11 f6
        clear e0
        dsimp only
        clear h2 h3 h4 h7 h8 h9 h10 h11 q6 hM HS t1 t0 M
        go_wp2_with fail
        go_returns
        exact ⟨rfl, hS.1⟩
  · have hlow : n.tmod 19 = n % 19 := tmod_pos19 n (by omega)
    obtain ⟨lo, hlo⟩ : ∃ l, n % 19 = l := ⟨_, rfl⟩
    have hlr : 0 ≤ lo ∧ lo < 19 := by rw [← hlo]; omega
    rw [hlo] at hlow
    have HLR := Lib.hid hlr
    have hnl : ¬ (lo < 0) := by omega
    clear hlr hlo hneg
    go_wp2_with fail
    have hS := hS0.out
    clear hS0 hlow hnl
    have hS1 := hS.keep ((Below.refl _ _).alloc (Nat.le_refl _) (.cells #[.int .u8 0, .int .u8 0, .int .u8 0, .int .u8 0, .int .u8 0, .int .u8 0, .int .u8 0, .int .u8 0, .int .u8 0, .int .u8 0, .int .u8 0, .int .u8 0, .int .u8 0, .int .u8 0, .int .u8 0, .int .u8 0, .int .u8 0, .int .u8 0, .int .u8 0, .int .u8 0, .int .u8 0, .int .u8 0, .int .u8 0, .int .u8 0, .int .u8 0, .int .u8 0, .int .u8 0, .int .u8 0, .int .u8 0, .int .u8 0, .int .u8 0, .int .u8 0] 68))
    have hS2 := hS1.add (g := V4.heap.size) (n := 32) (V := (· = .agg (vals z32))) hS.1.size (fun r hr => Nat.ne_of_lt (hS.lt r hr)) ⟨_, _, row_new, rfl, rfl⟩
    generalize V4.alloc (.cells #[.int .u8 0, .int .u8 0, .int .u8 0, .int .u8 0, .int .u8 0, .int .u8 0, .int .u8 0, .int .u8 0, .int .u8 0, .int .u8 0, .int .u8 0, .int .u8 0, .int .u8 0, .int .u8 0, .int .u8 0, .int .u8 0, .int .u8 0, .int .u8 0, .int .u8 0, .int .u8 0, .int .u8 0, .int .u8 0, .int .u8 0, .int .u8 0, .int .u8 0, .int .u8 0, .int .u8 0, .int .u8 0, .int .u8 0, .int .u8 0, .int .u8 0, .int .u8 0] 68) = WA at hS2 ⊢
    generalize V4.heap.size = g11 at hS2 ⊢
    clear hS hS1
    go_loopw [12] (fun i wr => ∃ k : Nat, k ≤ 32 ∧ i = .int .i64 k ∧ Own w [(w.heap.size, 32, (· = .agg (vals La))), ((w.heap.size + 1), 32, (· = .agg (vals Lu))), (g7, 32, (· = .agg (vals FL))), (g8, 32, (· = .agg (vals HL))), (g9, 32, (· = .agg (vals (bytesN rm.val)))), (g11, 32, (· = .agg (vals (f32.take k ++ z32.drop k))))] wr) (fun i _ => 32 - (intOf i).toNat)
    case atStart => exact ⟨0, by omega, rfl, hS2⟩
    case round =>
      obtain ⟨k, hk, rfl, hS⟩ := hrel
      clear hS2
      by_cases hlt : k < 32
      · obtain ⟨t11, R11⟩ := hS.bytes (i := 5) rfl
        have cz := (row_cell R11 k).trans (vals_get (by rw [fill_len f32 z32 k rfl hk]; exact hlt))
        have fc := row_free R11 k
        have hS2 := hS.byte (i := 5) rfl k 255
        rw [← f32_nth k hlt, fill_step f32 z32 k hlt rfl, f32_nth k hlt] at hS2
        have HS2 := Lib.hid hS2
        clear hS hS2 R11 Hf1 Hf2 Hf3 Hhva Hhxu Hhrm Hk1 Hk2 Hk3 Hk4 Hk5 Hk6 Hg1 Hg2 HLR HM hbLa hbLu HLLa HLLu hm
        go_wp2_with fail
        go_roundw
        case rel => exact ⟨k + 1, by omega, by go_num, HS2.out⟩
        case measure => simp [intOf]; omega
      · obtain rfl : k = 32 := by omega
        obtain ⟨t11, R11⟩ := hS.bytes (i := 5) rfl
        have c0 := (row_cell R11 0).trans (vals_get (by decide))
        have c31 := (row_cell R11 31).trans (vals_get (by decide))
        have fc := row_free R11
        have hS2 := (hS.byte (i := 5) rfl 0 (237 + lo)).byte (i := 5) rfl 31 127
        have hlr := HLR.out
        have hw8 : IntKind.u8.wrap (237 + lo) = 237 + lo := by rw [IntKind.wrap_u8]; omega
        have hw64 : IntKind.i64.wrap (237 + lo) = 237 + lo := IntWalk.i64_in _ (by omega)
        have HS2 := Lib.hid hS2
        clear hS hS2 R11
        go_wp2_with fail
        have hS := HS2.out
        clear HS2
        generalize (wr.setCell ⟨g11, 0, none⟩ (.int .u8 (237 + lo))).setCell ⟨g11, 31, none⟩ (.int .u8 127) = WE at hS ⊢
        replace hS : Own w [(w.heap.size, 32, (· = .agg (vals La))), ((w.heap.size + 1), 32, (· = .agg (vals Lu))), (g7, 32, (· = .agg (vals FL))), (g8, 32, (· = .agg (vals HL))), (g9, 32, (· = .agg (vals (bytesN rm.val)))), (g11, 32, (· = .agg (vals ((f32.set 0 (237 + lo)).set 31 127))))] WE := hS
        obtain ⟨lm1, lm2, lm3⟩ := low_more lo hlr
        obtain ⟨ML, hML⟩ : ∃ L, (f32.set 0 (237 + lo)).set 31 127 = L := ⟨_, rfl⟩
        have lm4 : ML.length = 32 := by rw [← hML]; rfl
        rw [hML] at hS lm1 lm2
        obtain ⟨xl, hxl⟩ : ∃ x, numF (lowL lo) = x := ⟨_, rfl⟩
        rw [hxl] at lm1
        obtain ⟨rl, hrl⟩ : ∃ r, prod va xl = r := ⟨_, rfl⟩
        have lm5 : IntKind.u8.wrap lo = lo := by rw [IntKind.wrap_u8]; omega
        have Hlm1 := Lib.hid lm1
        have Hlm2 := Lib.hid lm2
        have Hlm3 := Lib.hid lm3
        have Hlm4 := Lib.hid lm4
        have Hlm5 := Lib.hid lm5
        have Hhxl := Lib.hid hxl
        have Hhrl := Lib.hid hrl
        clear lm1 lm2 lm3 lm4 lm5 hxl hrl hML hw8 hw64 c0 c31 fc hlr HLR
        obtain ⟨M, hM⟩ : ∃ M, M = WE.heap.size := ⟨_, rfl⟩
        refine hide_frame fun t0 HT => ?_
        have HS : t0.size = 93 := by rw [HT]; rfl
        have h2 : t0[2]? = some (.int .i64 n) := by rw [HT]; rfl
        have h3 : t0[3]? = some (.pointer (some ⟨w.heap.size, 0, none⟩)) := by rw [HT]; rfl
        have h4 : t0[4]? = some (.pointer (some ⟨(w.heap.size + 1), 0, none⟩)) := by rw [HT]; rfl
        have h7 : t0[7]? = some (.pointer (some ⟨g7, 0, none⟩)) := by rw [HT]; rfl
        have h8 : t0[8]? = some (.pointer (some ⟨g8, 0, none⟩)) := by rw [HT]; rfl
        have h9 : t0[9]? = some (.pointer (some ⟨g9, 0, none⟩)) := by rw [HT]; rfl
        have h10 : t0[10]? = some (.int .i64 lo) := by rw [HT]; rfl
        have h11 : t0[11]? = some (.pointer (some ⟨g11, 0, none⟩)) := by rw [HT]; rfl
        clear HT
        refine wp_region_all 12 (fun i => [81, 82, 83, 84, 85, 86, 87, 88, 89, 90, 91, 92, 6].getD i 0) (fun i => [(· = .agg (vals La)), (· = .int .i64 lo), (· = .int .u8 lo), (· = .agg (vals (lowL lo))), (· = .agg (vals (bytesN rl.val))), (· = .agg (vals La)), (· = .agg (vals ML)), (· = .agg (vals (bytesN rl.val))), (· = .bool true), (· = .bool true), (· = .bool true), (· = .bool true), (· = .bool true)].getD i (fun _ => True)) (fun w' => Own w [(w.heap.size, 32, (· = .agg (vals La))), ((w.heap.size + 1), 32, (· = .agg (vals Lu))), (g7, 32, (· = .agg (vals FL))), (g8, 32, (· = .agg (vals HL))), (g9, 32, (· = .agg (vals (bytesN rm.val)))), (g11, 32, (· = .agg (vals ML)))] w' ∧ M ≤ w'.heap.size)
          (by kernel_rfl) (by kernel_rfl) (by kernel_rfl) (slots_apart (by kernel_rfl)) (slots_lie (by rw [HS]; kernel_rfl)) ⟨hS.drew, Nat.le_of_eq hM⟩ (fun w1 w2 h b => ⟨h.1.keep b, Nat.le_trans h.2 b.size⟩) ?_ ?_
        · clear hS
          intro i o hi ho
          have hc : i = 0 ∨ i = 1 ∨ i = 2 ∨ i = 3 ∨ i = 4 ∨ i = 5 ∨ i = 6 ∨ i = 7 ∨ i = 8 ∨ i = 9 ∨ i = 10 ∨ i = 11 ∨ i = 12 := by omega
          rcases hc with rfl | rfl | rfl | rfl | rfl | rfl | rfl | rfl | rfl | rfl | rfl | rfl | rfl
          · obtain rfl := Option.some.inj ho
            refine ⟨rfl, fun a w' hS hold hin K hK => ?_⟩
            refine if_always rfl ?_
            exact op_ld_own 32 tKey (.tmp 3) rfl rfl _ (eval_tmp ((hold 3 (slots_not (by kernel_rfl))).trans h3)) hS.1 0 rfl hK
          · obtain rfl := Option.some.inj ho
            refine ⟨rfl, fun a w' hS hold hin K hK => ?_⟩
            refine if_always rfl ?_
            exact op_move (V := (· = .int .i64 lo)) _ _ rfl rfl (eval_tmp ((hold 10 (slots_not (by kernel_rfl))).trans h10)) rfl hK
          · obtain rfl := Option.some.inj ho
            refine ⟨rfl, fun a w' hS hold hin K hK => ?_⟩
            obtain ⟨y1, x1, rfl⟩ := hin 1 rfl (by omega)
            refine if_always rfl ?_
            exact op_convi8 _ lo lo rfl rfl (eval_tmp x1) Hlm5.out hK
          · obtain rfl := Option.some.inj ho
            refine ⟨rfl, fun a w' hS hold hin K hK => ?_⟩
            obtain ⟨y2, x2, rfl⟩ := hin 2 rfl (by omega)
            refine if_always rfl ?_
            exact op_build1 _ lo rfl rfl (eval_tmp x2) hK
          · obtain rfl := Option.some.inj ho
            refine ⟨rfl, fun a w' hS hold hin K hK => ?_⟩
            obtain ⟨y0, x0, rfl⟩ := hin 0 rfl (by omega)
            obtain ⟨y3, x3, rfl⟩ := hin 3 rfl (by omega)
            refine if_always rfl ?_
            exact op_fn2 _ _ _ _ _ _ rfl rfl (eval_tmp x0) (eval_tmp x3) (by intro args w; kernel_rfl) (ladmul_ev La (lowL lo) va xl rl _ HLLa.out hbLa rfl Hlm3.out Hhva.out Hhxl.out Hhrl.out) hK
          · obtain rfl := Option.some.inj ho
            refine ⟨rfl, fun a w' hS hold hin K hK => ?_⟩
            refine if_always rfl ?_
            exact op_ld_own 32 tKey (.tmp 3) rfl rfl _ (eval_tmp ((hold 3 (slots_not (by kernel_rfl))).trans h3)) hS.1 0 rfl hK
          · obtain rfl := Option.some.inj ho
            refine ⟨rfl, fun a w' hS hold hin K hK => ?_⟩
            refine if_always rfl ?_
            exact op_ld_own 32 tKey (.tmp 11) rfl rfl _ (eval_tmp ((hold 11 (slots_not (by kernel_rfl))).trans h11)) hS.1 5 rfl hK
          · obtain rfl := Option.some.inj ho
            refine ⟨rfl, fun a w' hS hold hin K hK => ?_⟩
            obtain ⟨y5, x5, rfl⟩ := hin 5 rfl (by omega)
            obtain ⟨y6, x6, rfl⟩ := hin 6 rfl (by omega)
            refine if_always rfl ?_
            exact op_fn2 _ _ _ _ _ _ rfl rfl (eval_tmp x5) (eval_tmp x6) (by intro args w; kernel_rfl) (ladmul_ev La ML va xl rl _ HLLa.out hbLa Hlm4.out Hlm2.out Hhva.out Hlm1.out.symm Hhrl.out) hK
          · obtain rfl := Option.some.inj ho
            refine ⟨rfl, fun a w' hS hold hin K hK => ?_⟩
            obtain ⟨y4, x4, rfl⟩ := hin 4 rfl (by omega)
            obtain ⟨y7, x7, rfl⟩ := hin 7 rfl (by omega)
            refine if_always rfl ?_
            exact op_bin (V := (· = .bool true)) _ _ _ _ _ _ _ (.bool true) rfl rfl (eval_tmp x4) (eval_tmp x7) (fun w => eql_key_same (bytesN rl.val) (bytesN_len _) w) rfl hK
          · obtain rfl := Option.some.inj ho
            refine ⟨rfl, fun a w' hS hold hin K hK => ?_⟩
            obtain ⟨y8, x8, rfl⟩ := hin 8 rfl (by omega)
            refine if_always rfl ?_
            exact op_move (V := (· = .bool true)) _ _ rfl rfl (eval_tmp x8) rfl hK
          · obtain rfl := Option.some.inj ho
            refine ⟨rfl, fun a w' hS hold hin K hK => ?_⟩
            obtain ⟨y9, x9, rfl⟩ := hin 9 rfl (by omega)
            refine if_guard (d := 90) rfl rfl x9 ?_
            exact op_fn0 _  _  rfl rfl  (by intro args w; kernel_rfl) (works_any _) hK
          · obtain rfl := Option.some.inj ho
            refine ⟨rfl, fun a w' hS hold hin K hK => ?_⟩
            obtain ⟨y9, x9, rfl⟩ := hin 9 rfl (by omega)
            obtain ⟨y10, x10, rfl⟩ := hin 10 rfl (by omega)
            refine if_always rfl ?_
            exact op_pick (V := (· = .bool true)) _ _ _ true _ rfl rfl (eval_tmp x9) (show (Act.eval a _) = _ from (eval_tmp x10)) rfl hK
          · obtain rfl := Option.some.inj ho
            refine ⟨rfl, fun a w' hS hold hin K hK => ?_⟩
            obtain ⟨y11, x11, rfl⟩ := hin 11 rfl (by omega)
            refine if_always rfl ?_
            exact op_assign (V := (· = .bool true)) _ _ rfl rfl (eval_tmp x11) rfl hK
        clear hS
        intro t1 V5 hs hold hout hS
        replace HS := hs.trans HS
        replace hS := hS.1
        obtain ⟨_, q6, rfl⟩ : ∃ x, t1[6]? = some x ∧ x = (.bool true : Value) := hout 12 (by omega)
        replace h2 := (hold 2 (slots_not (by kernel_rfl))).trans h2
        replace h3 := (hold 3 (slots_not (by kernel_rfl))).trans h3
        replace h4 := (hold 4 (slots_not (by kernel_rfl))).trans h4
        replace h7 := (hold 7 (slots_not (by kernel_rfl))).trans h7
        replace h8 := (hold 8 (slots_not (by kernel_rfl))).trans h8
        replace h9 := (hold 9 (slots_not (by kernel_rfl))).trans h9
        replace h10 := (hold 10 (slots_not (by kernel_rfl))).trans h10
        replace h11 := (hold 11 (slots_not (by kernel_rfl))).trans h11
        clear hold hout hs
        obtain ⟨f, e0, hf⟩ := wash HS
        have f2 := hf 2 _ h2
        have f3 := hf 3 _ h3
        have f4 := hf 4 _ h4
        have f7 := hf 7 _ h7
        have f8 := hf 8 _ h8
        have f9 := hf 9 _ h9
        have f10 := hf 10 _ h10
        have f11 := hf 11 _ h11
        have f6 := hf 6 _ q6
        clear hf
        rw [e0.trans (show _ = #[f 0, f 1, f 2, f 3, f 4, f 5, f 6, f 7, f 8, f 9, f 10, f 11, f 12, f 13, f 14, f 15, f 16, f 17, f 18, f 19, f 20, f 21, f 22, f 23, f 24, f 25, f 26, f 27, f 28, f 29, f 30, f 31, f 32, f 33, f 34, f 35, f 36, f 37, f 38, f 39, f 40, f 41, f 42, f 43, f 44, f 45, f 46, f 47, f 48, f 49, f 50, f 51, f 52, f 53, f 54, f 55, f 56, f 57, f 58, f 59, f 60, f 61, f 62, f 63, f 64, f 65, f 66, f 67, f 68, f 69, f 70, f 71, f 72, f 73, f 74, f 75, f 76, f 77, f 78, f 79, f 80, f 81, f 82, f 83, f 84, f 85, f 86, f 87, f 88, f 89, f 90, f 91, f 92] from by kernel_rfl), f2, f3, f4, f7, f8, f9, f10, f11, f6]
        clear f2 f3 f4 f7 f8 f9 f10 f11 f6
        clear e0
        dsimp only
        clear h2 h3 h4 h7 h8 h9 h10 h11 q6 hM HS t1 t0 M
        go_wp2_with fail
        go_returns
        exact ⟨rfl, hS.1⟩
end Go.Proofs.Ytciakfhjjnmeeaa
